/- Walks and lemmas on the program of this seat, used by its statements; each theorem bears its own conditions. -/
import Derived.Test.YtlchdokpkaikhaaDoorUG
import Derived.Test.YtlchdokpkaikhaaDoorST
import Derived.Handy
import Derived.Lib.AppendIntMem
import Derived.Lib.ItoaNum
import Derived.Lib.Repeat
import Derived.Lib.Atoi
import Derived.Lib.AtoiTie
namespace Go.Proofs.YtlchdokpkaikhaaDoor
open Go.RowKit
set_option linter.unusedVariables false
set_option linter.unusedSimpArgs false
/-! ### What the listed variables hold -/
theorem var_kept {w w' : World} {n : String} {cs : Array Value} (h : w.var? Tryd.prog n = some cs) (k : Kept [] w w') : w'.var? Tryd.prog n = some cs := by
  unfold World.var? at *
  cases hg : Tryd.prog.globalNamed n with
  | none => rw [hg] at h; cases h
  | some g =>
    rw [hg] at h
    show (match w'.heap[g]? with | some (.cells cs _ _) => some cs | _ => none) = _
    change (match w.heap[g]? with | some (.cells cs _ _) => some cs | _ => none) = _ at h
    cases ho : w.heap[g]? with
    | none => rw [ho] at h; cases h
    | some o => rw [k.at ho (by simp)]; rw [ho] at h; exact h
structure Tabs (w : World) : Prop where
  pow : Lib.TabIs Tryd.prog w "internal/strconv.uint64pow10" .u64 Lib.pow10Tab
  syn : ∃ tp p, w.var? Tryd.prog "strconv.ErrSyntax" = some #[.iface tp p]
  rng : ∃ tp p, w.var? Tryd.prog "strconv.ErrRange" = some #[.iface tp p]
  len : ∃ m, w.cell? ⟨3, 0, none⟩ = some (.int .i64 m)
  siz : 3 < w.heap.size
theorem Tabs.kept {w w' : World} (h : Tabs w) (k : Kept [] w w') : Tabs w' := by
  obtain ⟨h1, ⟨a, b, h2⟩, ⟨c, d, h3⟩, ⟨m, h4⟩, h5⟩ := h
  exact ⟨var_kept h1 k, ⟨a, b, var_kept h2 k⟩, ⟨c, d, var_kept h3 k⟩, ⟨m, (k.cell (p := ⟨3, 0, none⟩) h5 (by simp)).trans h4⟩, Nat.lt_of_lt_of_le h5 k.size⟩
theorem itoa_at (n : Int) (o : List UInt8) (w : World) (h : Lib.itoa n = o) (h0 : -9223372036854775808 ≤ n) (h1 : n ≤ 9223372036854775807) (hT : Tabs w) :
    Calls Tryd.prog 21 #[I n] w fun e w' => e = .returned (S o) ∧ Kept [] w w' := by
  refine (Tryd.strconv_Itoa n h0 h1 w hT.pow).mono ?_
  rintro e w' ⟨rfl, k, os, rfl⟩
  exact ⟨by rw [h], Kept.of_below (Lib.below_grow _ w (Nat.le_refl _) k os) (Nat.le_refl _)⟩
theorem repeat_at (c : Nat) (o : List UInt8) (w : World) (h : Lib.repeatL [48] c = o) (hc : c ≤ 1000) :
    Calls Tryd.prog 22 #[.string ⟨#[48]⟩, I c] w fun e w' => e = .returned (S o) ∧ Kept [] w w' := by
  refine (Tryd.strings_Repeat ⟨#[48]⟩ c w (by omega) (by show 1 * c ≤ _; omega)).mono ?_
  rintro e w' ⟨rfl, k⟩
  exact ⟨by rw [← h], Kept.of_below k (Nat.le_refl _)⟩
theorem one_any (b : Bool) (w : World) : Calls Tryd.prog 20 #[.bool b] w fun e w' => e = .returned (I (if b then 1 else 0)) ∧ w = w' := by
  go_enter Tryd.func20, Tryd.ntmps20
  cases b <;> (go_wp2; go_ret; exact ⟨rfl, rfl⟩)
theorem widths_any (w : World) : Calls Tryd.prog 23 #[] w fun e w' => e = .returned (.slice (some ⟨w.heap.size, 0, none⟩) 7 7) ∧ w' = w.alloc (.cells #[I 1, I 10, I 1, I 8, I 15, I 1, I 10] 3) := by
  go_enter Tryd.func23, Tryd.ntmps23
  go_wp2
  go_ret
  exact ⟨rfl, rfl⟩
/-! ### Numerals, and the texts of states -/
theorem rep_cons (l : List UInt8) (c : Nat) : Lib.repeatL [48] (c + 1) = Lib.repeatL [48] c ++ [48] := by
  rw [Lib.repeatL_add, Lib.repeatL_one]
theorem dig_zero (k : Nat) : dig 0 k = Lib.repeatL [48] k := by
  induction k with
  | zero => rfl
  | succ k ih => rw [rep_cons [], ← ih]; rfl
theorem pad_dig (k : Nat) : ∀ n, n < 10 ^ (k + 1) → Lib.repeatL [48] (k + 1 - Lib.nDigits n) ++ Lib.decDigits n = dig n (k + 1) ∧ Lib.nDigits n ≤ k + 1 := by
  induction k with
  | zero =>
    intro n h
    have h' : n < 10 := by simpa using h
    rw [Lib.nDigits_small h', Lib.decDigits_one h']
    refine ⟨?_, by omega⟩
    show [] ++ [UInt8.ofNat (48 + n)] = [] ++ [UInt8.ofNat (48 + n % 10)]
    rw [Nat.mod_eq_of_lt h']
  | succ k ih =>
    intro n h
    by_cases h' : n < 10
    · rw [Lib.nDigits_small h', Lib.decDigits_one h']
      refine ⟨?_, by omega⟩
      show Lib.repeatL [48] (k + 1) ++ _ = dig (n / 10) (k + 1) ++ [UInt8.ofNat (48 + n % 10)]
      rw [Nat.mod_eq_of_lt h', Nat.div_eq_of_lt h', dig_zero]
    · have h2 : n / 10 < 10 ^ (k + 1) := by rw [Nat.pow_succ] at h; omega
      obtain ⟨i1, i2⟩ := ih (n / 10) h2
      rw [Lib.nDigits_big h']
      refine ⟨?_, by omega⟩
      rw [Lib.decDigits, dif_neg h']
      show _ = dig (n / 10) (k + 1) ++ [UInt8.ofNat (48 + n % 10)]
      rw [← i1, ← List.append_assoc, show k + 1 + 1 - (Lib.nDigits (n / 10) + 1) = k + 1 - Lib.nDigits (n / 10) by omega]
theorem digitVal_dig (d : Nat) (h : d < 10) : Lib.digitVal (UInt8.ofNat (48 + d)) = some d := by
  have : ∀ d : Fin 10, Lib.digitVal (UInt8.ofNat (48 + d.val)) = some d.val := by decide
  exact this ⟨d, h⟩
theorem decFrom_append (a b : List UInt8) : ∀ acc m, Lib.decFrom acc a = some m → Lib.decFrom acc (a ++ b) = Lib.decFrom m b := by
  induction a with
  | nil => intro acc m h; simp [Lib.decFrom] at h; subst h; rfl
  | cons x a ih =>
    intro acc m h
    simp only [Lib.decFrom, List.cons_append] at h ⊢
    cases hx : Lib.digitVal x with
    | none => simp [hx] at h
    | some d => simp only [hx] at h ⊢; exact ih _ _ h
theorem decFrom_dig (k : Nat) : ∀ n acc, n < 10 ^ k → Lib.decFrom acc (dig n k) = some (acc * 10 ^ k + n) := by
  induction k with
  | zero => intro n acc h; simp at h; subst h; simp [dig, Lib.decFrom]
  | succ k ih =>
    intro n acc h
    have h2 : n / 10 < 10 ^ k := by rw [Nat.pow_succ] at h; omega
    rw [dig, decFrom_append _ _ _ _ (ih (n / 10) acc h2)]
    simp only [Lib.decFrom, digitVal_dig (n % 10) (by omega)]
    rw [Nat.pow_succ]
    congr 1
    have : acc * (10 ^ k * 10) = acc * 10 ^ k * 10 := by rw [Nat.mul_assoc]
    omega
theorem dig_head (k n : Nat) : ∃ c r, dig n (k + 1) = c :: r ∧ 48 ≤ c.toNat ∧ c.toNat ≤ 57 := by
  induction k generalizing n with
  | zero =>
    refine ⟨_, [], rfl, ?_, ?_⟩ <;> rw [UInt8.toNat_ofNat'] <;> omega
  | succ k ih =>
    obtain ⟨c, r, e, h⟩ := ih (n / 10)
    exact ⟨c, r ++ [UInt8.ofNat (48 + n % 10)], by rw [dig, e]; rfl, h⟩
theorem atoi_dig (k n : Nat) (h : n < 10 ^ (k + 1)) : Lib.atoi (dig n (k + 1)) = some (n : Int) := by
  obtain ⟨c, r, e, h1, h2⟩ := dig_head k n
  have hd := decFrom_dig (k + 1) n 0 h
  rw [e] at hd ⊢
  have n1 : (c == 45) = false := by rw [beq_eq_false_iff_ne]; intro e; subst e; simp at h1
  have n2 : (c == 43) = false := by rw [beq_eq_false_iff_ne]; intro e; subst e; simp at h1
  unfold Lib.atoi
  simp only [n1, n2, Bool.false_eq_true, if_false, Lib.decNat, List.isEmpty_cons, hd]
  simp
theorem itoa_dig (k n : Nat) (h : n < 10 ^ (k + 1)) : Lib.repeatL [48] (k + 1 - (Lib.itoa n).length) ++ Lib.itoa n = dig n (k + 1) ∧ (Lib.itoa n).length ≤ k + 1 := by
  have e : Lib.itoa (n : Int) = Lib.decDigits n := by unfold Lib.itoa; rw [if_neg (by omega)]; rfl
  rw [e, Lib.decDigits_length]
  exact pad_dig k n h
theorem dig_inj (k : Nat) {m n : Nat} (hm : m < 10 ^ k) (hn : n < 10 ^ k) (h : dig m k = dig n k) : m = n := by
  have h1 := num_dig m k hm
  have h2 := num_dig n k hn
  rw [h, h2] at h1
  omega
/-! ### updater.Print -/
def numsL (s : St) : List Int := [s.ph, s.id, s.sl, s.sz, s.sq, if s.ok then 1 else 0, s.la]
def widthsL : List Nat := [1, 10, 1, 8, 15, 1, 10]
def rowsL (s : St) : List (List UInt8) := [dig s.ph.toNat 1, dig s.id.toNat 10, dig s.sl.toNat 1, dig s.sz.toNat 8, dig s.sq.toNat 15, dig (if s.ok then 1 else 0) 1, dig s.la.toNat 10]
theorem col_at {s : St} (h : MayP s) (k : Nat) (hk : k < 7) : ∃ m wd : Nat, (numsL s).getD k 0 = m ∧ widthsL.getD k 0 = wd + 1 ∧ m < 10 ^ (wd + 1) ∧ (rowsL s).getD k [] = dig m (wd + 1) ∧ wd < 15 := by
  have h1 := h.1
  have hp : 0 ≤ s.ph ∧ s.ph ≤ 4 := by obtain ⟨_, h | h | h | h⟩ := h <;> omega
  match k, hk with
  | 0, _ => exact ⟨s.ph.toNat, 0, by show s.ph = _; omega, rfl, by simp; omega, rfl, by omega⟩
  | 1, _ => exact ⟨s.id.toNat, 9, by show s.id = _; omega, rfl, by have : (10 : Nat) ^ 10 = 10000000000 := by decide
                                                                   omega, rfl, by omega⟩
  | 2, _ => exact ⟨s.sl.toNat, 0, by show s.sl = _; omega, rfl, by simp; omega, rfl, by omega⟩
  | 3, _ => exact ⟨s.sz.toNat, 7, by show s.sz = _; omega, rfl, by have : (10 : Nat) ^ 8 = 100000000 := by decide
                                                                   omega, rfl, by omega⟩
  | 4, _ => exact ⟨s.sq.toNat, 14, by show s.sq = _; omega, rfl, by have : (10 : Nat) ^ 15 = 1000000000000000 := by decide
                                                                    omega, rfl, by omega⟩
  | 5, _ => exact ⟨if s.ok then 1 else 0, 0, by show (if s.ok = true then (1 : Int) else 0) = _; cases s.ok <;> rfl, rfl, by cases s.ok <;> simp, rfl, by omega⟩
  | 6, _ => exact ⟨s.la.toNat, 9, by show s.la = _; omega, rfl, by have : (10 : Nat) ^ 10 = 10000000000 := by decide
                                                                   omega, rfl, by omega⟩
theorem rows_join (s : St) : [115, 116, 97, 116, 101, 32] ++ Lib.join (rowsL s) [32] ++ [10] = printL s := by
  simp [Lib.join, rowsL, printL, List.intercalate, List.intersperse]
/-! ### Texts of states, apart -/
theorem col_eq (k : Nat) {a b : Int} (ha : 0 ≤ a ∧ a < (10 ^ k : Nat)) (hb : 0 ≤ b ∧ b < (10 ^ k : Nat)) (h : dig a.toNat k = dig b.toNat k) : a = b := by
  have := dig_inj k (m := a.toNat) (n := b.toNat) (by omega) (by omega) h
  omega
theorem MayP.bd {s : St} (h : MayP s) : (0 ≤ s.ph ∧ s.ph ≤ 4) ∧ (0 ≤ s.id ∧ s.id ≤ 2147483647) ∧ (0 ≤ s.sl ∧ s.sl ≤ 1) ∧ (0 ≤ s.sz ∧ s.sz ≤ 16777215) ∧ (0 ≤ s.sq ∧ s.sq ≤ 140737488355328) ∧ (0 ≤ s.la ∧ s.la ≤ 2147483647) := by
  have h1 := h.1
  refine ⟨?_, by omega, by omega, by omega, by omega, by omega⟩
  obtain ⟨_, h | h | h | h⟩ := h <;> omega
theorem printL_len (s : St) : (printL s).length = 59 := by
  simp [printL, dig_len]
theorem printL_inj {a b : St} (ha : MayP a) (hb : MayP b) (h : printL a = printL b) : a = b := by
  unfold printL at h
  obtain ⟨h, -⟩ := List.append_inj' h rfl
  obtain ⟨h, h7⟩ := List.append_inj' h (by simp only [dig_len])
  obtain ⟨h, -⟩ := List.append_inj' h rfl
  obtain ⟨h, h6⟩ := List.append_inj' h (by simp only [dig_len])
  obtain ⟨h, -⟩ := List.append_inj' h rfl
  obtain ⟨h, h5⟩ := List.append_inj' h (by simp only [dig_len])
  obtain ⟨h, -⟩ := List.append_inj' h rfl
  obtain ⟨h, h4⟩ := List.append_inj' h (by simp only [dig_len])
  obtain ⟨h, -⟩ := List.append_inj' h rfl
  obtain ⟨h, h3⟩ := List.append_inj' h (by simp only [dig_len])
  obtain ⟨h, -⟩ := List.append_inj' h rfl
  obtain ⟨h, h2⟩ := List.append_inj' h (by simp only [dig_len])
  obtain ⟨h, -⟩ := List.append_inj' h rfl
  obtain ⟨-, h1⟩ := List.append_inj' h (by simp only [dig_len])
  obtain ⟨a1, a2, a3, a4, a5, a6⟩ := ha.bd
  obtain ⟨b1, b2, b3, b4, b5, b6⟩ := hb.bd
  have p1 : (10 : Nat) ^ 1 = 10 := by decide
  have p8 : (10 : Nat) ^ 8 = 100000000 := by decide
  have p10 : (10 : Nat) ^ 10 = 10000000000 := by decide
  have p15 : (10 : Nat) ^ 15 = 1000000000000000 := by decide
  have e1 := col_eq 1 (by rw [p1]; omega) (by rw [p1]; omega) h1
  have e2 := col_eq 10 (by rw [p10]; omega) (by rw [p10]; omega) h2
  have e3 := col_eq 1 (by rw [p1]; omega) (by rw [p1]; omega) h3
  have e4 := col_eq 8 (by rw [p8]; omega) (by rw [p8]; omega) h4
  have e5 := col_eq 15 (by rw [p15]; omega) (by rw [p15]; omega) h5
  have e7 := col_eq 10 (by rw [p10]; omega) (by rw [p10]; omega) h7
  have e6 : a.ok = b.ok := by
    cases ha : a.ok <;> cases hb : b.ok <;> simp [ha, hb, dig] at h6 ⊢
  cases a; cases b
  simp only [St.mk.injEq] at *
  exact ⟨e1, e2, e3, e4, e5, e6, e7⟩
def zeroS : St := ⟨0, 0, 0, 0, 0, false, 0⟩
open Classical in
noncomputable def parseF (t : List UInt8) : St × Int := if h : ∃ s, MayP s ∧ printL s = t then (h.choose, 0) else (zeroS, 250)
theorem parseF_yes {s : St} (h : MayP s) : parseF (printL s) = (s, 0) := by
  have hx : ∃ u, MayP u ∧ printL u = printL s := ⟨s, h, rfl⟩
  unfold parseF
  rw [dif_pos hx]
  have := hx.choose_spec
  rw [printL_inj this.1 h this.2]
theorem parseF_no {t : List UInt8} (h : ¬ ∃ s, MayP s ∧ printL s = t) : parseF t = (zeroS, 250) := by
  unfold parseF
  rw [dif_neg h]
/-! ### What Step says -/
theorem stepF_law {s : St} (e : Ev) (h : MayP s) : MayP (stepF s e).1 ∧ s.la ≤ (stepF s e).1.la ∧ (0 ≤ (stepF s e).2 ∧ (stepF s e).2 ≤ 5) ∧
    ((stepF s e).2 ≠ 0 → (stepF s e).1.ph ≠ 0 ∧ (stepF s e).1.la < (stepF s e).1.id ∧ s.la < (stepF s e).1.id) ∧
    (s.ph = 4 → (stepF s e).1 = s ∨ (stepF s e).1 = ⟨0, 0, 0, 0, 0, false, s.id⟩) ∧
    (s.ph ≠ 0 → (stepF s e).1.ph ≠ 0 → (stepF s e).1.id = s.id ∧ (stepF s e).1.sl = s.sl ∧ s.ph ≤ (stepF s e).1.ph) ∧
    (s.ph ≠ 4 → s.ph ≠ 0 → (stepF s e).1.ph ≠ 0) ∧
    ((stepF s e).1.ok = true → s.ok = false → e.ki = 3 ∧ e.sl = s.sl ∧ e.up = false ∧ (s.ph = 2 ∨ s.ph = 3)) ∧
    ((stepF s e).2 = 3 → s.ph = 3 ∧ e.ki = 4 ∧ e.ok = true ∧ (stepF s e).1 = s) ∧ ((stepF s e).2 = 2 → (stepF s e).1.ph = 2 ∧ 1 ≤ (stepF s e).1.sz) ∧ ((stepF s e).2 = 1 → (stepF s e).1.ph = 1) := by
  have hm := h
  obtain ⟨ho, hc⟩ := h
  rcases may_ph hm with h0 | h0 | h0 | h0
  · rw [stepF_0 hm h0]
    split
    · rename_i hx
      refine ⟨⟨?_, ?_⟩, ?_, ?_, ?_, ?_, ?_, ?_, ?_, ?_, ?_, ?_⟩ <;> simp <;> (try unfold OkP at *) <;> (try simp) <;> (first | done | omega | (simp_all; done) | (simp_all; omega))
    · refine ⟨hm, ?_, ?_, ?_, ?_, ?_, ?_, ?_, ?_, ?_, ?_⟩ <;> simp <;> (first | done | omega | (intro a b; rw [a] at b; cases b) | skip)
  · rw [stepF_1 hm h0]
    unfold loadF overF
    have hk : s.la < s.id ∧ s.sz = 0 ∧ s.sq = 0 ∧ s.ok = false := by refine ⟨by omega, by omega, by omega, ?_⟩; rcases hc with hc | hc | hc | hc <;> first | (exfalso; omega) | simp_all
    obtain ⟨k1, k2, k3, k4⟩ := hk
    split
    · split
      · refine ⟨⟨?_, ?_⟩, ?_, ?_, ?_, ?_, ?_, ?_, ?_, ?_, ?_, ?_⟩ <;> simp [k4] <;> (try unfold OkP at *) <;> (try simp) <;> (first | done | omega | (simp_all; done) | (simp_all; omega))
      · refine ⟨hm, ?_, ?_, ?_, ?_, ?_, ?_, ?_, ?_, ?_, ?_⟩ <;> simp [k4] <;> (first | done | omega | (simp_all; done) | (simp_all; omega))
    · split
      · refine ⟨⟨?_, ?_⟩, ?_, ?_, ?_, ?_, ?_, ?_, ?_, ?_, ?_, ?_⟩ <;> simp [k4] <;> (try unfold OkP at *) <;> (try simp) <;> (first | done | omega | (simp_all; done) | (simp_all; omega))
      · split
        · refine ⟨hm, ?_, ?_, ?_, ?_, ?_, ?_, ?_, ?_, ?_, ?_⟩ <;> simp [k4] <;> (first | done | omega | (simp_all; done) | (simp_all; omega))
        · refine ⟨hm, ?_, ?_, ?_, ?_, ?_, ?_, ?_, ?_, ?_, ?_⟩ <;> simp [k4] <;> (first | done | omega | (simp_all; done) | (simp_all; omega))
  · rw [stepF_23 hm h0]
    unfold bootF overF
    have hk : s.la < s.id ∧ 0 < s.sz ∧ 0 < s.sq ∧ s.ok = false := by refine ⟨by omega, by omega, by omega, ?_⟩; rcases hc with hc | hc | hc | hc <;> first | (exfalso; omega) | simp_all
    obtain ⟨k1, k2, k3, k4⟩ := hk
    split
    · split
      · refine ⟨hm, ?_, ?_, ?_, ?_, ?_, ?_, ?_, ?_, ?_, ?_⟩ <;> simp [k4] <;> (first | done | omega | (simp_all; done) | (simp_all; omega))
      · split
        · refine ⟨⟨?_, ?_⟩, ?_, ?_, ?_, ?_, ?_, ?_, ?_, ?_, ?_, ?_⟩ <;> simp [k4] <;> (try unfold OkP at *) <;> (try simp) <;> (first | done | omega | (simp_all; done) | (simp_all; omega))
        · split
          · refine ⟨⟨?_, ?_⟩, ?_, ?_, ?_, ?_, ?_, ?_, ?_, ?_, ?_, ?_⟩ <;> simp [k4] <;> (try unfold OkP at *) <;> (try simp) <;> (first | done | omega | (simp_all; done) | (simp_all; omega))
          · refine ⟨⟨?_, ?_⟩, ?_, ?_, ?_, ?_, ?_, ?_, ?_, ?_, ?_, ?_⟩ <;> simp [k4] <;> (try unfold OkP at *) <;> (try simp) <;> (first | done | omega | (simp_all; done) | (simp_all; omega))
    · split
      · rename_i hx
        cases ho : e.ok <;> (refine ⟨hm, ?_, ?_, ?_, ?_, ?_, ?_, ?_, ?_, ?_, ?_⟩ <;> simp [k4] <;> (first | done | omega | (simp_all; done) | (simp_all; omega)))
      · refine ⟨hm, ?_, ?_, ?_, ?_, ?_, ?_, ?_, ?_, ?_, ?_⟩ <;> simp [k4] <;> (first | done | omega | (simp_all; done) | (simp_all; omega))
  · rw [stepF_4 hm h0]
    have hk : s.la < s.id := by omega
    split
    · refine ⟨⟨?_, ?_⟩, ?_, ?_, ?_, ?_, ?_, ?_, ?_, ?_, ?_, ?_⟩ <;> simp <;> (try unfold OkP at *) <;> (try simp) <;> (first | done | omega | (simp_all; done) | (simp_all; omega))
    · split
      · refine ⟨hm, ?_, ?_, ?_, ?_, ?_, ?_, ?_, ?_, ?_, ?_⟩ <;> simp <;> (first | done | omega | (intro a b; rw [a] at b; cases b) | skip)
      · refine ⟨hm, ?_, ?_, ?_, ?_, ?_, ?_, ?_, ?_, ?_, ?_⟩ <;> simp <;> (first | done | omega | (intro a b; rw [a] at b; cases b) | skip)
end Go.Proofs.YtlchdokpkaikhaaDoor
