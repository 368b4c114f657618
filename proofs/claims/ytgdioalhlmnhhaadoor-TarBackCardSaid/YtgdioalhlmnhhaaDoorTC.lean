/- Walks and lemmas on the program of this seat, used by its statements; each theorem bears its own conditions. -/
import Derived.Test.YtgdioalhlmnhhaaDoorTB
import Derived.Test.YtgdioalhlmnhhaaDoorShelf
import Derived.Handy
import Derived.IntWalk
import Derived.Shelf.Strings.SlTrimAscii
import Derived.Shelf.Strings.FuncGrows
namespace Go.Proofs.YtgdioalhlmnhhaaDoor
open Go.RowKit
set_option linter.unusedVariables false
set_option linter.unusedSimpArgs false
theorem Kept.of_below0 {w w' : World} (h : Below w.heap.size w w') : Kept [] w w' := Kept.of_below h (Nat.le_refl _)
/-! ### tar.number -/
def pO (x : Nat) : Bool := decide (x < 48 ∨ 55 < x)
theorem pO_oct (c : UInt8) : pO c.toNat = !TX.isOct c := by
  unfold pO TX.isOct
  have : (c.toNat < 48 ∨ 55 < c.toNat) ↔ ¬ (48 ≤ c.toNat ∧ c.toNat ≤ 55) := by omega
  simp only [this, decide_not]
theorem idx_oct (l : List UInt8) : ∀ f pos, pos ≤ TX.nOct l → l.length ≤ pos + f → Lib.idxFuncFrom pO true ⟨l.toArray⟩ f pos = if TX.nOct l = l.length then -1 else (TX.nOct l : Int) := by
  have hno := TX.nOct_le l
  intro f
  induction f with
  | zero =>
    intro pos h1 h2
    rw [if_pos (by omega)]
    rfl
  | succ f ih =>
    intro pos h1 h2
    unfold Lib.idxFuncFrom
    have hsz : (⟨l.toArray⟩ : ByteArray).size = l.length := by simp [ByteArray.size]
    rw [hsz]
    by_cases hp : pos < l.length
    · rw [if_pos hp]
      have hp' : pos < (⟨l.toArray⟩ : ByteArray).size := by omega
      have hg : (⟨l.toArray⟩ : ByteArray)[pos]'hp' = byteAt l pos := str_get l pos hp'
      rcases Nat.eq_or_lt_of_le h1 with he | hlt
      · have hst := TX.oct_stop l (by omega)
        rw [← he] at hst
        have hpo : pO (Utf8.decode ⟨l.toArray⟩ pos).1 = true := by
          by_cases ha : (byteAt l pos).toNat < 128
          · rw [decode_ascii _ _ hp' (by rw [hg]; exact ha), hg, pO_oct, hst]; rfl
          · have := (decode_high _ _ hp' (by rw [hg]; omega)).1
            unfold pO; simp; omega
        rw [if_pos hpo, if_neg (by omega), ← he]
      · have hb := TX.oct_below l pos hlt
        have h55 := (octB _).1 hb
        rw [decode_ascii _ _ hp' (by rw [hg]; omega), hg]
        simp only []
        rw [if_neg (by rw [pO_oct, hb]; simp), ih (pos + 1) (by omega) (by omega)]
    · rw [if_neg hp, if_pos (by omega)]
theorem idx_num (l : List UInt8) : Lib.idxFunc pO true ⟨l.toArray⟩ = if TX.nOct l = l.length then -1 else (TX.nOct l : Int) := by
  unfold Lib.idxFunc
  exact idx_oct l _ 0 (by omega) (by simp [ByteArray.size])
set_option maxRecDepth 100000 in
theorem oct_pred (x : Nat) (W : World) (hx : x ≤ 1114111) : Calls Tryd.prog 89 #[.int .i32 (x : Int)] W fun e w' => e = .returned (.bool (pO x)) ∧ w' = W := by
  go_enter Tryd.func89, Tryd.ntmps89
  by_cases h1 : (x : Int) < 48
  · go_wp2
    go_ret
    exact ⟨ret_B (by unfold pO; symm; rw [decide_eq_true_eq]; omega), rfl⟩
  · by_cases h2 : (x : Int) > 55
    · go_wp2
      go_ret
      exact ⟨ret_B (by unfold pO; symm; rw [decide_eq_true_eq]; omega), rfl⟩
    · go_wp2
      go_ret
      exact ⟨ret_B (by unfold pO; symm; rw [decide_eq_false_iff_not]; omega), rfl⟩
theorem oct_grows (w : World) : Go.Proofs.PredGrows Tryd.prog 89 #[] pO w := fun W x hx hb =>
  (oct_pred x W hx).mono fun e w' ⟨h1, h2⟩ => ⟨h1, h2 ▸ Below.refl _ _⟩
theorem trimS_blank (l : List UInt8) : Lib.trimS l [0, 32] = [] ↔ l.all TX.blank = true := by
  have hb : ∀ c : UInt8, ([0, 32] : List UInt8).contains c = TX.blank c := fun c => by
    rw [Bool.eq_iff_iff]
    simp only [List.contains_cons, List.contains_nil, Bool.or_false, Bool.or_eq_true, beq_iff_eq, TX.blank, decide_eq_true_eq]
    constructor
    · rintro (h | h) <;> subst h <;> simp
    · rintro (h | h)
      · left; exact UInt8.toNat.inj h
      · right; exact UInt8.toNat.inj h
  have hw : ∀ m : List UInt8, m.dropWhile (([0, 32] : List UInt8).contains ·) = [] ↔ m.all TX.blank = true := by
    intro m
    induction m with
    | nil => simp
    | cons c t ih =>
      rw [List.dropWhile_cons, hb c, List.all_cons]
      cases TX.blank c
      · simp
      · rw [if_pos rfl, ih]; simp
  unfold Lib.trimS Lib.trimLeftS Lib.trimRightS
  rw [hw]
  constructor
  · intro h
    rw [List.all_reverse] at h
    have h2 : (l.reverse.dropWhile (([0, 32] : List UInt8).contains ·)) = [] := by
      cases hc : l.reverse.dropWhile (([0, 32] : List UInt8).contains ·) with
      | nil => rfl
      | cons c t =>
        have h3 := List.head_dropWhile_not (l := l.reverse) (([0, 32] : List UInt8).contains ·) (by rw [hc]; simp)
        simp only [hc, List.head_cons] at h3
        rw [hc, List.all_cons, Bool.and_eq_true] at h
        have h4 := h.1
        rw [← hb] at h4
        rw [h4] at h3; cases h3
    rw [hw, List.all_reverse] at h2
    exact h2
  · intro h
    have h2 := (hw l.reverse).2 (by rw [List.all_reverse]; exact h)
    rw [h2]; rfl
def numV (l : List UInt8) : Value := match TX.numL l with | none => .tuple #[I 0, .bool false] | some n => .tuple #[I n, .bool true]
theorem numL_blank (l : List UInt8) (h0 : 0 < TX.nOct l) (h1 : TX.nOct l < l.length) (h : (l.drop (TX.nOct l)).all TX.blank = false) : TX.numL l = none := by
  unfold TX.numL; rw [if_pos (.inr (.inr h))]
theorem numL_some (l : List UInt8) (h0 : 0 < TX.nOct l) (h1 : TX.nOct l < l.length) (h : (l.drop (TX.nOct l)).all TX.blank = true) : TX.numL l = some (TX.octV (l.take (TX.nOct l)) 0) := by
  unfold TX.numL; rw [if_neg (by rintro (h2 | h2 | h2); omega; omega; rw [h] at h2; cases h2)]
theorem trim_set (s : List UInt8) (w : World) (hs : s.length ≤ 9223372036854775807) :
    Calls Tryd.prog 84 #[S s, S [0, 32]] w fun e w' => e = .returned (S (Lib.trimS s [0, 32])) ∧ Kept [] w w' :=
  (Go.Proofs.Any.strings_Trim_laid Tryd.lays160 (by kernel_rfl) ⟨s.toArray⟩ ⟨#[0, 32]⟩ w (by simpa [ByteArray.size] using hs) (by simp [ByteArray.size]) (Go.Proofs.ascii_of_all (by decide))).mono fun e w' ⟨h1, h2⟩ => ⟨h1, Kept.of_below0 h2⟩
theorem idx_at (l : List UInt8) (w : World) : Calls Tryd.prog 88 #[S l, .func (.func 89) #[] #[]] w fun e w' => e = .returned (I (if TX.nOct l = l.length then -1 else (TX.nOct l : Int))) ∧ Kept [] w w' := by
  have cI := Tryd.strings_IndexFunc_grows 89 #[] (Go.Proofs.enters_of Tryd.func89 (by kernel_rfl) rfl) pO ⟨l.toArray⟩ w (oct_grows w)
  rw [idx_num] at cI
  exact cI.mono fun e w' ⟨h1, h2⟩ => ⟨h1, Kept.of_below0 h2⟩
set_option maxHeartbeats 4000000 in
set_option maxRecDepth 100000 in
theorem number_any (l : List UInt8) (w : World) (hl : l.length ≤ 19) :
    Calls Tryd.prog 53 #[S l] w fun e w' => e = .returned (numV l) ∧ Kept [] w w' := by
  have hl' : (l.length : Int) ≤ 19 := by omega
  have hno := TX.nOct_le l
  have cI := idx_at l w
  by_cases hbad : TX.nOct l = 0 ∨ TX.nOct l = l.length
  · have HR : Hid (numV l = .tuple #[I 0, .bool false]) := Lib.hid (by unfold numV; rw [numL_none l hbad])
    have hx : (if TX.nOct l = l.length then -1 else (TX.nOct l : Int)) < 1 := by split <;> omega
    obtain ⟨x, hxe⟩ : ∃ x : Int, (if TX.nOct l = l.length then -1 else (TX.nOct l : Int)) = x := ⟨_, rfl⟩
    rw [hxe] at cI hx
    have CI := Lib.hid cI
    clear hxe cI hbad hno
    go_enter Tryd.func53, Tryd.ntmps53
    go_wp2_with (fail)
    refine CI.out.mono ?_
    rintro e w1 ⟨rfl, k1⟩
    have H1 := Lib.hid k1
    clear k1
    go_wp2
    go_returns
    exact ⟨by rw [HR.out]; rfl, H1.out⟩
  · obtain ⟨q, hq⟩ : ∃ q, TX.nOct l = q := ⟨_, rfl⟩
    have hx : (if TX.nOct l = l.length then -1 else (TX.nOct l : Int)) = (q : Int) := by rw [if_neg (by omega), hq]
    rw [hx] at cI
    have CI := Lib.hid cI
    have HQ := Lib.hid hq
    have hq1 : ¬ (q : Int) < 1 := by omega
    have hq2 : (q : Int) ≤ l.length := by omega
    have hq3 : (q : Int) < l.length := by omega
    have hlen : (l.drop q).length ≤ 9223372036854775807 := by rw [List.length_drop]; omega
    have htr := trimS_blank (l.drop q)
    have hv := numL_blank l (by omega) (by omega)
    have hv2 := numL_some l (by omega) (by omega)
    rw [hq] at hv hv2
    have HT := Lib.hid (And.intro hlen (And.intro htr (And.intro hv hv2)))
    clear cI hx hbad hno hq hlen htr hv hv2
    go_enter Tryd.func53, Tryd.ntmps53
    go_wp2_with (fail)
    refine CI.out.mono ?_
    rintro e w1 ⟨rfl, k1⟩
    have H1 := Lib.hid k1
    clear k1
    go_wp2_with (fail)
    refine (trim_set (l.drop q) w1 HT.out.1).mono ?_
    rintro e w2 ⟨rfl, k2⟩
    have H2 := Lib.hid (H1.out.trans' k2)
    clear k2
    cases hbl : (l.drop q).all TX.blank with
    | false =>
      have HR : Hid (numV l = .tuple #[I 0, .bool false]) := Lib.hid (by unfold numV; rw [HT.out.2.2.1 hbl])
      have hne : ¬ Lib.trimS (l.drop q) [0, 32] = [] := fun e => by rw [HT.out.2.1, hbl] at e; cases e
      obtain ⟨t, ht⟩ : ∃ t, Lib.trimS (l.drop q) [0, 32] = t := ⟨_, rfl⟩
      rw [ht] at hne ⊢
      have hne2 : t.isEmpty = false := by cases t with | nil => exact absurd rfl hne | cons _ _ => rfl
      clear ht hbl hne
      go_wp2
      go_returns
      exact ⟨by rw [HR.out]; rfl, H2.out⟩
    | true =>
      have HR : Hid (numV l = .tuple #[I (TX.octV (l.take q) 0 : Nat), .bool true]) := Lib.hid (by unfold numV; rw [HT.out.2.2.2 hbl])
      rw [HT.out.2.1.2 hbl]
      clear hbl
      go_wp2
      go_loop [5, 6, 19] (fun n i0 i => ∃ p : Nat, p ≤ q ∧ i = I p ∧ n = I (TX.octV (l.take p) 0)) (fun _ _ i => q - (intOf i).toNat)
      case atStart => exact ⟨0, by omega, rfl, rfl⟩
      case round =>
        obtain ⟨p, hp, rfl, rfl⟩ := hrel
        rcases Nat.lt_or_ge p q with hlt | hge
        · have hb := octV_bd l p (by rw [HQ.out]; omega) (by omega)
          obtain ⟨x, hx⟩ : ∃ x, TX.octV (l.take p) 0 = x := ⟨_, rfl⟩
          rw [hx] at hb ⊢
          have hbi : (x : Int) < 144115188075855872 := by omega
          have hlt' : (p : Int) < q := by omega
          have hlt2 : (p : Int) < l.length := by omega
          obtain ⟨hc0, hc1⟩ := (octB _).1 (TX.oct_below l p (by rw [HQ.out]; exact hlt))
          have HN : Hid (TX.octV (l.take (p + 1)) 0 = 8 * x + ((byteAt l p).toNat - 48)) := Lib.hid (by rw [TX.octV_step l p (by omega), hx])
          have hsub : ((byteAt l p).toNat : Int) - 48 = (((byteAt l p).toNat - 48 : Nat) : Int) := by omega
          clear hx
          go_wp2
          go_round
          case rel => exact ⟨p + 1, by omega, by go_num, by rw [HN.out]; go_num⟩
          case measure => (simp [intOf]; omega)
        · obtain rfl : p = q := by omega
          go_wp2
          go_returns
          exact ⟨by rw [HR.out]; rfl, H2.out⟩
end Go.Proofs.YtgdioalhlmnhhaaDoor
