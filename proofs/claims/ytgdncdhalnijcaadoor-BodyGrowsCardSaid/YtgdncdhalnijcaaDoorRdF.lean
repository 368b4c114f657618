/- Walks and lemmas on the program of this seat, used by its statements; each theorem bears its own conditions. -/
import Derived.Test.YtgdncdhalnijcaaDoorRdE
namespace Go.Proofs.YtgdncdhalnijcaaDoor
open Go.RowKit
set_option linter.unusedVariables false
set_option linter.unusedSimpArgs false
namespace BD
theorem Kept.thenBelow {S : List Nat} {B : Nat} {a w w' : World} (h : Kept S a w) (hb : Below B w w') (hB : a.heap.size ≤ B) : Kept S a w' :=
  ⟨hb.os.trans h.os, hb.tape.trans h.tape, hb.output.trans h.output, Nat.le_trans h.size hb.size, fun k hk hn => (hb.block k (by omega)).trans (h.block k hk hn)⟩
/-! ### A strings.Builder of the call's own -/
structure Bld (w : World) (B : Nat) (out : List UInt8) : Prop where
  is : Lib.IsBuilderF 61 5 B B (Lib.byteCells out) w
theorem bld_write (w : World) (B : Nat) (out l : List UInt8) (h : Bld w B out) (hl : out.length + l.length ≤ 140737488355328) (hB : B ≤ w.heap.size) :
    Calls Tryd.prog 30 #[Ptr B, S l] w fun e w' => e = .returned (.tuple #[I l.length, .nilIface]) ∧ Bld w' B (out ++ l) ∧ Below B w w' :=
  (Tryd.Builder_WriteString_f B B (Lib.byteCells out) ⟨l.toArray⟩ w h.is (by rw [Lib.byteCells_length]; simpa [ByteArray.size] using hl) hB).mono fun e w' ⟨he, h1, h2⟩ =>
    ⟨by simpa [ByteArray.size] using he, ⟨by rw [Lib.byteCells_append]; exact .inr (by simpa [Lib.strCells_eq] using h1)⟩, h2⟩
theorem bld_string (w : World) (B : Nat) (out : List UInt8) (h : Bld w B out) (hB : B ≤ w.heap.size) :
    Calls Tryd.prog 32 #[Ptr B] w fun e w' => e = .returned (S out) ∧ Bld w' B out ∧ Below B w w' :=
  (Tryd.Builder_String_any_f B B out w h.is hB).mono fun e w' ⟨he, h1, h2⟩ => ⟨he, ⟨h1⟩, h2⟩
theorem bld_new (w : World) : Bld (w.alloc (.cells #[.pointer none, .slice none 0 0] 61)) w.heap.size [] := ⟨Lib.IsBuilderF.of (Lib.fresh_isBuilder 61 5 w)⟩
theorem bld_at {w : World} {B : Nat} {out : List UInt8} (h : Bld w B out) : B < w.heap.size := by
  rcases h.is with h | h <;> exact h.lt
theorem builderAtF_keep {T e B b : Nat} {p : Value} {bs : List Value} {w w' : World} (h : Lib.BuilderAtF T e B b p bs w) (hk : ∀ k, B ≤ k → k < w.heap.size → w'.heap[k]? = w.heap[k]?) : Lib.BuilderAtF T e B b p bs w' := by
  obtain ⟨hB, v, hb, ⟨hlen, hown⟩, hne⟩ := h
  refine ⟨hB, v, by rw [hk b hB (lt_of_block hb)]; exact hb, ⟨hlen, ?_⟩, hne⟩
  rcases hown with hown | ⟨g, cap, cur, fz, hv, hg, hh, r⟩
  · exact .inl hown
  · exact .inr ⟨g, cap, cur, fz, hv, hg, by rw [hk g hg (lt_of_block hh)]; exact hh, r⟩
theorem Bld.kept {S : List Nat} {w w' : World} {B : Nat} {out : List UInt8} (h : Bld w B out) (k : Kept S w w') (hS : ∀ x ∈ S, x < B) : Bld w' B out := by
  have hk : ∀ k, B ≤ k → k < w.heap.size → w'.heap[k]? = w.heap[k]? := fun j h1 h2 => k.block j h2 fun hm => by have := hS j hm; omega
  rcases h.is with h | h
  · exact ⟨.inl (builderAtF_keep h hk)⟩
  · exact ⟨.inr (builderAtF_keep h hk)⟩

/-- What 'goes' leaves. -/
def GoesPost (b : Nat) (w : World) (res : Rd × List UInt8 × Int) (e : Ending) (w' : World) : Prop := e = .returned (.tuple #[S res.2.1, I res.2.2]) ∧ RdAt w' b res.1 ∧ Kept [b] w w'
theorem GoesPost.mk {b : Nat} {w w' : World} {res : Rd × List UInt8 × Int} {r' : Rd} {o : List UInt8} {k : Int} (h1 : RdAt w' b r') (h2 : Kept [b] w w') (h : res = (r', o, k)) : GoesPost b w res (.returned (.tuple #[S o, I k])) w' := by
  subst h; exact ⟨rfl, h1, h2⟩
theorem RdAt.below {w w' : World} {B b : Nat} {r : Rd} (h : RdAt w b r) (hb : Below B w w') (hlt : b < B) : RdAt w' b r := (hb.block b hlt).trans h
def strLen : Value → Nat | .string x => x.size | _ => 0
theorem strLen_S (l : List UInt8) : strLen (S l) = l.length := by simp [strLen, ByteArray.size]
theorem strLen_nil : strLen (.string ⟨#[]⟩) = 0 := rfl
theorem strLen_empty : strLen (.string ByteArray.empty) = 0 := rfl
def GoesRel (b : Nat) (w : World) (r : Rd) (l : List UInt8) (s : Value) (wr : World) : Prop :=
  ∃ (pre suf out : List UInt8) (r1 : Rd), l = pre ++ suf ∧ s = S suf ∧ feeds r pre = (r1, out, 0) ∧ r1.rest = r.rest ∧ RdAt wr b r1 ∧ Bld wr w.heap.size out ∧ out.length ≤ pre.length ∧ Kept [b] w wr
theorem some_over (b : Nat) (l : List UInt8) (r : Rd) (w : World) (h : RdAt w b r) (hb : r.Bd) (hn : (l.length : Int) ≤ 4611686018427387904) (h1 : r.state = 1) (h2 : (l.length : Int) > 1048576 - r.told) :
    Calls Tryd.prog 29 #[Ptr b, S l] w fun e w' => e = .returned (.tuple #[I 0, I 181]) ∧ RdAt w' b r ∧ Kept [b] w w' :=
  (some_any b l r w h hb hn).mono fun e w' hp => by
    have : someF r l.length = (r, 0, 181) := by unfold someF; rw [if_pos h1, if_pos h2]
    unfold SomePost at hp; rw [this] at hp; exact hp
theorem some_open (b : Nat) (l : List UInt8) (r : Rd) (w : World) (h : RdAt w b r) (hb : r.Bd) (hn : (l.length : Int) ≤ 4611686018427387904) (h1 : r.state = 1) (h2 : ¬ (l.length : Int) > 1048576 - r.told) :
    Calls Tryd.prog 29 #[Ptr b, S l] w fun e w' => e = .returned (.tuple #[I l.length, I 0]) ∧ RdAt w' b r ∧ Kept [b] w w' :=
  (some_any b l r w h hb hn).mono fun e w' hp => by
    have : someF r l.length = (r, (l.length : Int), 0) := by unfold someF; rw [if_pos h1, if_neg h2]
    unfold SomePost at hp; rw [this] at hp; exact hp
theorem some_part (b : Nat) (l : List UInt8) (r : Rd) (w : World) (h : RdAt w b r) (hb : r.Bd) (hn : (l.length : Int) ≤ 4611686018427387904) (h1 : ¬ r.state = 1) (n : Nat) (hm : (n : Int) = min (l.length : Int) r.left) :
    Calls Tryd.prog 29 #[Ptr b, S l] w fun e w' => e = .returned (.tuple #[I n, I 0]) ∧ RdAt w' b { r with left := r.left - n, state := if r.left - n = 0 then (if r.state = 0 then 11 else 5) else r.state } ∧ Kept [b] w w' :=
  (some_any b l r w h hb hn).mono fun e w' hp => by
    have : someF r l.length = ({ r with left := r.left - n, state := if r.left - n = 0 then (if r.state = 0 then 11 else 5) else r.state }, (n : Int), 0) := by
      unfold someF; rw [if_neg h1, ← hm]
      split <;> rfl
    unfold SomePost at hp; rw [this] at hp; exact hp
theorem goes_err {r : Rd} {l pre suf out : List UInt8} {r1 r2 : Rd} {e : Int} (hl : l = pre ++ suf) (hf : feeds r pre = (r1, out, 0)) (h2 : (feeds r1 suf).1 = r2 ∧ (feeds r1 suf).2.2 = e) (he : e ≠ 0) :
    goesF r l = ({ r2 with told := r.told }, [], e) := by
  have h3 : feeds r1 suf = (r2, (feeds r1 suf).2.1, e) := by rw [← h2.1, ← h2.2]
  have h4 := feeds_go hf h3
  unfold goesF
  rw [hl, h4]
  simp [he]
theorem goes_ok {r : Rd} {l pre suf out : List UInt8} {r1 r2 : Rd} (hl : l = pre ++ suf) (hf : feeds r pre = (r1, out, 0)) (h2 : feeds r1 suf = (r2, [], 0)) :
    goesF r l = (r2, out, 0) := by
  have h4 := feeds_go hf h2
  unfold goesF
  rw [hl, h4]
  simp

set_option maxRecDepth 100000 in
set_option maxHeartbeats 1000000 in
theorem goes_any (b : Nat) (l : List UInt8) (r : Rd) (w : World) (h : RdAt w b r) (hi : r.Inv) (hs : 0 ≤ r.state ∧ r.state ≤ 11) (hn : r.rest.length + l.length ≤ 1000000000) :
    Calls Tryd.prog 21 #[Ptr b, S l] w (GoesPost b w (goesF r l)) := by
  obtain ⟨f0, f1, f2, f3, f4, f5, f6, f7⟩ := h.cells
  have hbw : b < w.heap.size := lt_of_block h
  have hn1 : (l.length : Int) ≤ 1000000000 := by omega
  have h0 : RdAt (w.alloc (.cells #[.pointer none, .slice none 0 0] 61)) b r := ((Kept.refl [] w).alloc _).at h (by simp)
  go_enter Tryd.func21, Tryd.ntmps21
  go_wp2_with (fail)
  clear f0 f1 f2 f3 f4 f5 f6 f7
  go_loopw [1] (fun s wr => GoesRel b w r l s wr) (fun s _ => strLen s)
  case atStart => exact ⟨[], l, [], r, rfl, rfl, rfl, rfl, h0, bld_new w, by simp, (Kept.refl [b] w).alloc _⟩
  case round =>
    obtain ⟨pre, suf, out, r1, hl, rfl, hf, hrest, h1, hB, ho, hk⟩ := hrel
    have hbl := bld_at hB
    obtain ⟨hi1, hs0, hs11⟩ : r1.Inv ∧ 0 ≤ r1.state ∧ r1.state ≤ 11 := by
      have hinv := inv_feeds pre hi hs (by rw [hf])
      rw [hf] at hinv
      exact hinv
    have hlen : pre.length + suf.length = l.length := by rw [hl]; simp
    have hr1 : r1.rest.length + suf.length ≤ 1000000000 := by rw [hrest]; omega
    have hol : out.length + suf.length ≤ 1000000000 := by omega
    have hsl : (suf.length : Int) ≤ 1000000000 := by omega
    have hbd := hi1.bd
    have HB := Lib.hid hB
    have HF := Lib.hid hf
    have HL := Lib.hid hl
    have HR := Lib.hid hrest
    have HN := Lib.hid hlen
    have H1 := h1
    have Hh := Lib.hid h
    have Hi := Lib.hid hi1
    have hbs : ∀ x ∈ [b], x < w.heap.size := by simpa using hbw
    have Hbs := Lib.hid hbs
    obtain ⟨⟨f0, f1, f2, f3, f4, f5, f6, f7⟩, ⟨g0, g1, g2, g3, g4, g5, g6, g7⟩, ⟨p1, p2, p3⟩⟩ := And.intro h1.cells (And.intro h1.free h1.puts)
    have T0 := hi1.t0
    have T1 := hi1.t1
    clear hB hf hl h1 h hi h0 hrest hi1 hlen hbs
    by_cases hx : suf = [] ∨ r1.state = 11
    · have HD : Hid (feeds r1 suf = ({ r1 with rest := r1.rest ++ suf }, [], 0)) := by
        rcases hx with hx | hx
        · subst hx; simp [Hid, feeds]
        · exact feeds_done suf r1 hx
      have K1 : Kept [b] wr (wr.setCell ⟨b, 6, none⟩ (S (r1.rest ++ suf))) := (Kept.refl _ _).setCell (by simp) _
      have H2 := H1.set6 (r1.rest ++ suf)
      have hB2 := HB.out.kept K1 Hbs.out
      have hk2 := hk.trans' K1
      have hz2 : w.heap.size ≤ (wr.setCell ⟨b, 6, none⟩ (S (r1.rest ++ suf))).heap.size := hk2.size
      have HP := Lib.hid (And.intro H2 (And.intro hB2 (And.intro hk2 hz2)))
      clear H2 hB2 hk2 hz2 K1
      by_cases hsuf : suf = []
      · subst hsuf
        rw [List.append_nil] at HP
        clear hx
        go_wp2_with (fail)
        obtain ⟨H2, hB2, hk2, hz2⟩ := HP.out
        refine (bld_string _ _ _ hB2 hz2).mono ?_
        rintro e w' ⟨rfl, hB3, hb3⟩
        go_wp2_with (fail)
        go_ret2
        exact GoesPost.mk (RdAt.below H2 hb3 hbw) (hk2.thenBelow hb3 (Nat.le_refl _)) (goes_ok HL.out HF.out (by simpa [Hid] using HD))
      · have hst : (r1.state != 11) = false := by
          rcases hx with hx | hx
          · exact absurd hx hsuf
          · simp [hx]
        have hse : (!suf.isEmpty) = true := by simpa using hsuf
        clear hx
        go_wp2_with (fail)
        obtain ⟨H2, hB2, hk2, hz2⟩ := HP.out
        refine (bld_string _ _ _ hB2 hz2).mono ?_
        rintro e w' ⟨rfl, hB3, hb3⟩
        go_wp2_with (fail)
        go_ret2
        exact GoesPost.mk (RdAt.below H2 hb3 hbw) (hk2.thenBelow hb3 (Nat.le_refl _)) (goes_ok HL.out HF.out HD.out)
    · have hsuf : ¬ suf = [] := fun h => hx (.inl h)
      have hse : (!suf.isEmpty) = true := by simpa using hsuf
      have hst : (r1.state != 11) = true := by have : ¬ r1.state = 11 := fun h => hx (.inr h); simpa using this
      clear hx
      by_cases hopen : r1.state = 1
      · have k0 : (r1.state == 0) = false := by simp [hopen]
        have k1 : (r1.state == 1) = true := by simp [hopen]
        have HO := Lib.hid hopen
        have HT := Lib.hid (feeds_open suf r1 hopen Hi.out.t0 Hi.out.t1)
        clear hopen
        by_cases hover : (suf.length : Int) > 1048576 - r1.told
        · have HV := Lib.hid hover
          clear hover
          go_wp2_with (fail)
          refine (some_over b suf r1 wr H1 hbd (by omega) HO.out (by have := HV.out; omega)).mono ?_
          rintro e w1 ⟨rfl, h1, q1⟩
          obtain ⟨⟨f0, f1, f2, f3, f4, f5, f6, f7⟩, ⟨g0, g1, g2, g3, g4, g5, g6, g7⟩, ⟨p1, p2, p3⟩⟩ := And.intro h1.cells (And.intro h1.free h1.puts)
          have h1' := h1
          clear h1
          go_wp2_with (fail)
          go_ret2
          have ht := HT.out
          have hv := HV.out
          rw [if_neg (by omega)] at ht
          exact GoesPost.mk (h1'.set5 r.told) ((hk.trans' q1).setCell (by simp) _) (goes_err HL.out HF.out (r2 := { r1 with told := 1048576 }) (by rw [ht]; exact ⟨rfl, rfl⟩) (by decide))
        · have HV := Lib.hid hover
          clear hover
          go_wp2_with (fail)
          refine (some_open b suf r1 wr H1 hbd (by omega) HO.out (by have := HV.out; omega)).mono ?_
          rintro e w1 ⟨rfl, h1, q1⟩
          obtain ⟨⟨f0, f1, f2, f3, f4, f5, f6, f7⟩, ⟨g0, g1, g2, g3, g4, g5, g6, g7⟩, ⟨p1, p2, p3⟩⟩ := And.intro h1.cells (And.intro h1.free h1.puts)
          have H1' := h1
          have hk1 := hk.trans' q1
          have HB1 := Lib.hid (HB.out.kept q1 Hbs.out)
          have hz1 := hk1.size
          clear h1
          go_wp2_with (fail)
          refine (bld_write w1 w.heap.size out suf HB1.out (by omega) (by omega)).mono ?_
          rintro e w2 ⟨rfl, hB2, hb2⟩
          have h2 := H1'.below hb2 hbw
          obtain ⟨⟨f0, f1, f2, f3, f4, f5, f6, f7⟩, ⟨g0, g1, g2, g3, g4, g5, g6, g7⟩, ⟨p1, p2, p3⟩⟩ := And.intro h2.cells (And.intro h2.free h2.puts)
          have HB2 := Lib.hid hB2
          have H2 := Lib.hid h2
          have hk2 := hk1.thenBelow hb2 (Nat.le_refl _)
          clear hB2 h2 hb2 q1 H1'
          go_wp2_with (fail)
          go_roundw
          case rel =>
            have ht := HT.out
            have hv := HV.out
            rw [if_pos (by omega)] at ht
            have hg := feeds_go HF.out ht
            rw [if_pos rfl] at hg
            exact ⟨l, [], out ++ suf, { r1 with told := r1.told + suf.length }, by simp, rfl, by rw [HL.out]; exact hg, HR.out, H2.out.set5 _, HB2.out.kept ((Kept.refl [b] _).setCell (by simp) _) Hbs.out, by have := HN.out; simp; omega, hk2.setCell (by simp) _⟩
          case measure =>
            have : 0 < suf.length := List.length_pos_iff.2 (by simpa using hse)
            (try simp only [strLen_S, strLen_nil, strLen_empty, List.length_drop])
            omega
      · by_cases hpart : r1.state = 0 ∨ r1.state = 4
        · have HP := Lib.hid hpart
          have k1 : (r1.state == 1) = false := by simpa using hopen
          have H1n := Lib.hid hopen
          obtain ⟨hw0, hw1⟩ := Hi.out.w hpart
          have hsl' : 0 < suf.length := List.length_pos_iff.2 hsuf
          obtain ⟨n, hnm, hn1', hn2, hn3⟩ : ∃ n : Nat, (n : Int) = min (suf.length : Int) r1.left ∧ n ≤ suf.length ∧ (n : Int) ≤ r1.left ∧ 0 < n := by
            rw [Int.min_def]
            split
            · exact ⟨suf.length, rfl, Nat.le_refl _, by omega, hsl'⟩
            · exact ⟨r1.left.toNat, by omega, by omega, by omega, by omega⟩
          have hnl : (suf.take n).length = n := by simp; omega
          have HT := Lib.hid (feeds_some r1.state (suf.take n) r1 rfl hpart hw0 (by intro h; rw [h] at hnl; simp at hnl; omega) (by rw [hnl]; omega))
          have HNM := Lib.hid hnm
          have HNL := Lib.hid hnl
          have hcat : l = (pre ++ suf.take n) ++ suf.drop n := by rw [List.append_assoc, List.take_append_drop]; exact HL.out
          have HC := Lib.hid hcat
          clear hpart hopen hnm hnl hcat
          have hor : (r1.state == 0) = true ∨ (r1.state == 0) = false ∧ (r1.state == 4) = true := by
            rcases HP.out with h | h <;> simp [h]
          rcases hor with k0 | ⟨k0, k4⟩
          all_goals
            go_wp2_with (fail)
            refine (some_part b suf r1 wr H1 hbd (by omega) H1n.out n HNM.out).mono ?_
            rintro e w1 ⟨rfl, h1, q1⟩
            obtain ⟨⟨f0, f1, f2, f3, f4, f5, f6, f7⟩, ⟨g0, g1, g2, g3, g4, g5, g6, g7⟩, ⟨p1, p2, p3⟩⟩ := And.intro h1.cells (And.intro h1.free h1.puts)
            have H1' := h1
            have hk1 := hk.trans' q1
            have HB1 := Lib.hid (HB.out.kept q1 Hbs.out)
            have hz1 := hk1.size
            clear h1
            go_wp2_with (fail)
            refine (bld_write w1 w.heap.size out (suf.take n) HB1.out (by simp; omega) (by omega)).mono ?_
            rintro e w2 ⟨rfl, hB2, hb2⟩
            have h2 := H1'.below hb2 hbw
            obtain ⟨⟨f0, f1, f2, f3, f4, f5, f6, f7⟩, ⟨g0, g1, g2, g3, g4, g5, g6, g7⟩, ⟨p1, p2, p3⟩⟩ := And.intro h2.cells (And.intro h2.free h2.puts)
            have HB2 := Lib.hid hB2
            have H2 := Lib.hid h2
            have hk2 := hk1.thenBelow hb2 (Nat.le_refl _)
            clear hB2 h2 hb2 q1 H1'
            go_wp2_with (fail)
            go_roundw
            case rel =>
              have ht := HT.out
              rw [HNL.out] at ht
              have hg := feeds_go HF.out ht
              rw [if_pos rfl] at hg
              exact ⟨pre ++ suf.take n, suf.drop n, out ++ suf.take n, { r1 with left := r1.left - n, told := r1.told + n, state := if r1.left - n = 0 then (if r1.state = 0 then 11 else 5) else r1.state }, HC.out, rfl, hg, HR.out, H2.out.set5 _, HB2.out.kept ((Kept.refl [b] _).setCell (by simp) _) Hbs.out, by simp; omega, hk2.setCell (by simp) _⟩
            case measure =>
              (try simp only [strLen_S, strLen_nil, strLen_empty, List.length_drop])
              omega
        · have hn0 : ¬ r1.state = 0 := fun h => hpart (.inl h)
          have hn4 : ¬ r1.state = 4 := fun h => hpart (.inr h)
          have k0 : (r1.state == 0) = false := by simpa using hn0
          have k1 : (r1.state == 1) = false := by simpa using hopen
          have k4 : (r1.state == 4) = false := by simpa using hn4
          have hn11 : ¬ r1.state = 11 := by simpa using hst
          obtain ⟨c, tl, rfl⟩ : ∃ c tl, suf = c :: tl := by cases suf with | nil => exact absurd rfl hsuf | cons c tl => exact ⟨c, tl, rfl⟩
          have HFE : Hid (feed r1 c = ((byteF r1 c).1, [], (byteF r1 c).2)) := by unfold Hid feed; rw [if_neg hn11, if_neg hopen, if_neg hn0, if_neg hn4]
          have KB := Lib.hid (keeps_byte r1 c)
          have hcat : l = (pre ++ [c]) ++ tl := by rw [List.append_assoc]; exact HL.out
          have HC := Lib.hid hcat
          simp only [List.length_cons] at hr1 hol hsl
          clear hn0 hn4 hopen hpart hn11 hcat hsuf
          go_wp2_with (fail)
          refine (byte_any b c r1 wr H1 hbd).mono ?_
          rintro e w1 ⟨rfl, h1, q1⟩
          generalize hby : byteF r1 c = res at *
          obtain ⟨r2, e2⟩ := res
          simp only at h1
          obtain ⟨⟨f0, f1, f2, f3, f4, f5, f6, f7⟩, ⟨g0, g1, g2, g3, g4, g5, g6, g7⟩, ⟨p1, p2, p3⟩⟩ := And.intro h1.cells (And.intro h1.free h1.puts)
          have H1' := h1
          have hk1 := hk.trans' q1
          have HB1 := Lib.hid (HB.out.kept q1 Hbs.out)
          have HBY := Lib.hid hby
          clear h1 q1 hby
          by_cases he : e2 = 0
          · have ke : (e2 != 0) = false := by simp [he]
            have HE := Lib.hid he
            clear he
            go_wp2_with (fail)
            refine ⟨?_, by simp only [strLen_S, List.length_cons]; omega⟩
            have hfe : feed r1 c = (r2, [], 0) := by rw [HFE.out, HE.out]
            have hg := feeds_go HF.out (feeds_cons_ok hfe (feeds_nil r2))
            rw [if_pos rfl] at hg
            have hkb := KB.out
            exact ⟨pre ++ [c], tl, out ++ ([] ++ []), r2, HC.out, rfl, hg, hkb.2.2.2.trans HR.out, H1', by simpa using HB1.out, by simp; omega, hk1⟩
          · have ke : (e2 != 0) = true := by simpa using he
            have HE := Lib.hid he
            clear he
            go_wp2_with (fail)
            go_ret2
            have hfe : feed r1 c = (r2, [], e2) := HFE.out
            have hfs := feeds_cons_err (s := tl) hfe HE.out
            exact GoesPost.mk (H1'.set5 r.told) (hk1.setCell (by simp) _) (goes_err HL.out HF.out (r2 := r2) (by rw [hfs]; exact ⟨rfl, rfl⟩) HE.out)
end BD
end Go.Proofs.YtgdncdhalnijcaaDoor
