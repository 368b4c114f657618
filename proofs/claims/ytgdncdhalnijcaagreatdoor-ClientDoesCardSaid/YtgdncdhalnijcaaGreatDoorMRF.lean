/- Walks and lemmas on the program of this seat, used by its statements; each theorem bears its own conditions. -/
import Derived.Test.YtgdncdhalnijcaaGreatDoorMRA
namespace Go.Proofs.YtgdncdhalnijcaaGreatDoor
open Go.RowKit
set_option linter.unusedVariables false
set_option linter.unusedSimpArgs false
section
namespace BD
theorem Kept.thenBelow {S : List Nat} {B : Nat} {a w w' : World} (h : Kept S a w) (hb : Below B w w') (hB : a.heap.size ≤ B) : Kept S a w' :=
  ⟨hb.os.trans h.os, hb.tape.trans h.tape, hb.output.trans h.output, Nat.le_trans h.size hb.size, fun k hk hn => (hb.block k (by omega)).trans (h.block k hk hn)⟩
/-! ### A strings.Builder of the call's own -/
structure Bld (w : World) (B : Nat) (out : List UInt8) : Prop where
  is : Lib.IsBuilderF 121 5 B B (Lib.byteCells out) w
theorem bld_write (w : World) (B : Nat) (out l : List UInt8) (h : Bld w B out) (hl : out.length + l.length ≤ 140737488355328) (hB : B ≤ w.heap.size) :
    Calls Tryz.prog 98 #[Ptr B, S l] w fun e w' => e = .returned (.tuple #[I l.length, .nilIface]) ∧ Bld w' B (out ++ l) ∧ Below B w w' :=
  (Tryz.Builder_WriteString_f B B (Lib.byteCells out) ⟨l.toArray⟩ w h.is (by rw [Lib.byteCells_length]; simpa [ByteArray.size] using hl) hB).mono fun e w' ⟨he, h1, h2⟩ =>
    ⟨by simpa [ByteArray.size] using he, ⟨by rw [Lib.byteCells_append]; exact .inr (by simpa [Lib.strCells_eq] using h1)⟩, h2⟩
theorem bld_string (w : World) (B : Nat) (out : List UInt8) (h : Bld w B out) (hB : B ≤ w.heap.size) :
    Calls Tryz.prog 100 #[Ptr B] w fun e w' => e = .returned (S out) ∧ Bld w' B out ∧ Below B w w' :=
  (Tryz.Builder_String_any_f B B out w h.is hB).mono fun e w' ⟨he, h1, h2⟩ => ⟨he, ⟨h1⟩, h2⟩
theorem bld_new (w : World) : Bld (w.alloc (.cells #[.pointer none, .slice none 0 0] 121)) w.heap.size [] := ⟨Lib.IsBuilderF.of (Lib.fresh_isBuilder 121 5 w)⟩
theorem bld_at {w : World} {B : Nat} {out : List UInt8} (h : Bld w B out) : B < w.heap.size := by
  rcases h.is with h | h <;> exact h.lt
theorem builderAtF_keep {T e B b : Nat} {p : Value} {bs : List Value} {w w' : World} (h : Lib.BuilderAtF T e B b p bs w) (hk : ∀ k, B ≤ k → k < w.heap.size → w'.heap[k]? = w.heap[k]?) : Lib.BuilderAtF T e B b p bs w' := by
  obtain ⟨hB, v, hb, ⟨hlen, hown⟩, hne⟩ := h
  refine ⟨hB, v, by rw [hk b hB (lt_of_block hb)]; exact hb, ⟨hlen, ?_⟩, hne⟩
  rcases hown with hown | ⟨g, cap, cur, fz, hv, hg, hh, r⟩
  · exact .inl hown
  · exact .inr ⟨g, cap, cur, fz, hv, hg, by rw [hk g hg (lt_of_block hh)]; exact hh, r⟩
theorem Bld.kept {S : List Nat} {w w' : World} {B : Nat} {out : List UInt8} (h : Bld w B out) (k : Kept S w w') (hS : ∀ x ∈ S, x < B) : Bld w' B out := by
  have hk : ∀ k, B ≤ k → k < w.heap.size → w'.heap[k]? = w.heap[k]? := fun j h1 h2 => k.block j h2 fun hm => by have := hS j hm; omega
  rcases h.is with h | h
  · exact ⟨.inl (builderAtF_keep h hk)⟩
  · exact ⟨.inr (builderAtF_keep h hk)⟩

/-- What 'goes' leaves. -/
def GoesPost (b : Nat) (w : World) (res : Rd × List UInt8 × Int) (e : Ending) (w' : World) : Prop := e = .returned (.tuple #[S res.2.1, I res.2.2]) ∧ RdAt w' b res.1 ∧ Kept [b] w w'
theorem GoesPost.mk {b : Nat} {w w' : World} {res : Rd × List UInt8 × Int} {r' : Rd} {o : List UInt8} {k : Int} (h1 : RdAt w' b r') (h2 : Kept [b] w w') (h : res = (r', o, k)) : GoesPost b w res (.returned (.tuple #[S o, I k])) w' := by
  subst h; exact ⟨rfl, h1, h2⟩
theorem RdAt.below {w w' : World} {B b : Nat} {r : Rd} (h : RdAt w b r) (hb : Below B w w') (hlt : b < B) : RdAt w' b r := (hb.block b hlt).trans h
def strLen : Value → Nat | .string x => x.size | _ => 0
theorem strLen_S (l : List UInt8) : strLen (S l) = l.length := by simp [strLen, ByteArray.size]
theorem strLen_nil : strLen (.string ⟨#[]⟩) = 0 := rfl
theorem strLen_empty : strLen (.string ByteArray.empty) = 0 := rfl
def GoesRel (b : Nat) (w : World) (r : Rd) (l : List UInt8) (s : Value) (wr : World) : Prop :=
  ∃ (pre suf out : List UInt8) (r1 : Rd), l = pre ++ suf ∧ s = S suf ∧ feeds r pre = (r1, out, 0) ∧ r1.rest = r.rest ∧ RdAt wr b r1 ∧ Bld wr w.heap.size out ∧ out.length ≤ pre.length ∧ Kept [b] w wr
theorem some_over (b : Nat) (l : List UInt8) (r : Rd) (w : World) (h : RdAt w b r) (hb : r.Bd) (hn : (l.length : Int) ≤ 4611686018427387904) (h1 : r.state = 1) (h2 : (l.length : Int) > 1048576 - r.told) :
    Calls Tryz.prog 97 #[Ptr b, S l] w fun e w' => e = .returned (.tuple #[I 0, I 181]) ∧ RdAt w' b r ∧ Kept [b] w w' :=
  (some_any b l r w h hb hn).mono fun e w' hp => by
    have : someF r l.length = (r, 0, 181) := by unfold someF; rw [if_pos h1, if_pos h2]
    unfold SomePost at hp; rw [this] at hp; exact hp
theorem some_open (b : Nat) (l : List UInt8) (r : Rd) (w : World) (h : RdAt w b r) (hb : r.Bd) (hn : (l.length : Int) ≤ 4611686018427387904) (h1 : r.state = 1) (h2 : ¬ (l.length : Int) > 1048576 - r.told) :
    Calls Tryz.prog 97 #[Ptr b, S l] w fun e w' => e = .returned (.tuple #[I l.length, I 0]) ∧ RdAt w' b r ∧ Kept [b] w w' :=
  (some_any b l r w h hb hn).mono fun e w' hp => by
    have : someF r l.length = (r, (l.length : Int), 0) := by unfold someF; rw [if_pos h1, if_neg h2]
    unfold SomePost at hp; rw [this] at hp; exact hp
theorem some_part (b : Nat) (l : List UInt8) (r : Rd) (w : World) (h : RdAt w b r) (hb : r.Bd) (hn : (l.length : Int) ≤ 4611686018427387904) (h1 : ¬ r.state = 1) (n : Nat) (hm : (n : Int) = min (l.length : Int) r.left) :
    Calls Tryz.prog 97 #[Ptr b, S l] w fun e w' => e = .returned (.tuple #[I n, I 0]) ∧ RdAt w' b { r with left := r.left - n, state := if r.left - n = 0 then (if r.state = 0 then 11 else 5) else r.state } ∧ Kept [b] w w' :=
  (some_any b l r w h hb hn).mono fun e w' hp => by
    have : someF r l.length = ({ r with left := r.left - n, state := if r.left - n = 0 then (if r.state = 0 then 11 else 5) else r.state }, (n : Int), 0) := by
      unfold someF; rw [if_neg h1, ← hm]
      split <;> rfl
    unfold SomePost at hp; rw [this] at hp; exact hp
theorem goes_err {r : Rd} {l pre suf out : List UInt8} {r1 r2 : Rd} {e : Int} (hl : l = pre ++ suf) (hf : feeds r pre = (r1, out, 0)) (h2 : (feeds r1 suf).1 = r2 ∧ (feeds r1 suf).2.2 = e) (he : e ≠ 0) :
    goesF r l = ({ r2 with told := r.told }, [], e) := by
  have h3 : feeds r1 suf = (r2, (feeds r1 suf).2.1, e) := by rw [← h2.1, ← h2.2]
  have h4 := feeds_go hf h3
  unfold goesF
  rw [hl, h4]
  simp [he]
theorem goes_ok {r : Rd} {l pre suf out : List UInt8} {r1 r2 : Rd} (hl : l = pre ++ suf) (hf : feeds r pre = (r1, out, 0)) (h2 : feeds r1 suf = (r2, [], 0)) :
    goesF r l = (r2, out, 0) := by
  have h4 := feeds_go hf h2
  unfold goesF
  rw [hl, h4]
  simp

set_option maxRecDepth 100000 in
set_option maxHeartbeats 1000000 in
theorem goes_any (b : Nat) (l : List UInt8) (r : Rd) (w : World) (h : RdAt w b r) (hi : r.Inv) (hs : 0 ≤ r.state ∧ r.state ≤ 11) (hn : r.rest.length + l.length ≤ 1000000000) :
    Calls Tryz.prog 63 #[Ptr b, S l] w (GoesPost b w (goesF r l)) := by
  obtain ⟨f0, f1, f2, f3, f4, f5, f6, f7⟩ := h.cells
  have hbw : b < w.heap.size := lt_of_block h
  have hn1 : (l.length : Int) ≤ 1000000000 := by omega
  have h0 : RdAt (w.alloc (.cells #[.pointer none, .slice none 0 0] 121)) b r := ((Kept.refl [] w).alloc _).at h (by simp)
  go_enter Tryz.func63, Tryz.ntmps63
  go_wp2_with (fail)
  clear f0 f1 f2 f3 f4 f5 f6 f7
  go_loopw [1] (fun s wr => GoesRel b w r l s wr) (fun s _ => strLen s)
  case atStart => exact ⟨[], l, [], r, rfl, rfl, rfl, rfl, h0, bld_new w, by simp, (Kept.refl [b] w).alloc _⟩
  case round =>
    obtain ⟨pre, suf, out, r1, hl, rfl, hf, hrest, h1, hB, ho, hk⟩ := hrel
    have hbl := bld_at hB
    obtain ⟨hi1, hs0, hs11⟩ : r1.Inv ∧ 0 ≤ r1.state ∧ r1.state ≤ 11 := by
      have hinv := inv_feeds pre hi hs (by rw [hf])
      rw [hf] at hinv
      exact hinv
    have hlen : pre.length + suf.length = l.length := by rw [hl]; simp
    have hr1 : r1.rest.length + suf.length ≤ 1000000000 := by rw [hrest]; omega
    have hol : out.length + suf.length ≤ 1000000000 := by omega
    have hsl : (suf.length : Int) ≤ 1000000000 := by omega
    have hbd := hi1.bd
    have HB := Lib.hid hB
    have HF := Lib.hid hf
    have HL := Lib.hid hl
    have HR := Lib.hid hrest
    have HN := Lib.hid hlen
    have H1 := h1
    have Hh := Lib.hid h
    have Hi := Lib.hid hi1
    have hbs : ∀ x ∈ [b], x < w.heap.size := by simpa using hbw
    have Hbs := Lib.hid hbs
    obtain ⟨⟨f0, f1, f2, f3, f4, f5, f6, f7⟩, ⟨g0, g1, g2, g3, g4, g5, g6, g7⟩, ⟨p1, p2, p3⟩⟩ := And.intro h1.cells (And.intro h1.free h1.puts)
    have T0 := hi1.t0
    have T1 := hi1.t1
    clear hB hf hl h1 h hi h0 hrest hi1 hlen hbs
    by_cases hx : suf = [] ∨ r1.state = 11
    · have HD : Hid (feeds r1 suf = ({ r1 with rest := r1.rest ++ suf }, [], 0)) := by
        rcases hx with hx | hx
        · subst hx; simp [Hid, feeds]
        · exact feeds_done suf r1 hx
      have K1 : Kept [b] wr (wr.setCell ⟨b, 6, none⟩ (S (r1.rest ++ suf))) := (Kept.refl _ _).setCell (by simp) _
      have H2 := H1.set6 (r1.rest ++ suf)
      have hB2 := HB.out.kept K1 Hbs.out
      have hk2 := hk.trans' K1
      have hz2 : w.heap.size ≤ (wr.setCell ⟨b, 6, none⟩ (S (r1.rest ++ suf))).heap.size := hk2.size
      have HP := Lib.hid (And.intro H2 (And.intro hB2 (And.intro hk2 hz2)))
      clear H2 hB2 hk2 hz2 K1
      by_cases hsuf : suf = []
      · subst hsuf
        rw [List.append_nil] at HP
        clear hx
        go_wp2_with (fail)
        obtain ⟨H2, hB2, hk2, hz2⟩ := HP.out
        refine (bld_string _ _ _ hB2 hz2).mono ?_
        rintro e w' ⟨rfl, hB3, hb3⟩
        go_wp2_with (fail)
        go_ret2
        exact GoesPost.mk (RdAt.below H2 hb3 hbw) (hk2.thenBelow hb3 (Nat.le_refl _)) (goes_ok HL.out HF.out (by simpa [Hid] using HD))
      · have hst : (r1.state != 11) = false := by
          rcases hx with hx | hx
          · exact absurd hx hsuf
          · simp [hx]
        have hse : (!suf.isEmpty) = true := by simpa using hsuf
        clear hx
        go_wp2_with (fail)
        obtain ⟨H2, hB2, hk2, hz2⟩ := HP.out
        refine (bld_string _ _ _ hB2 hz2).mono ?_
        rintro e w' ⟨rfl, hB3, hb3⟩
        go_wp2_with (fail)
        go_ret2
        exact GoesPost.mk (RdAt.below H2 hb3 hbw) (hk2.thenBelow hb3 (Nat.le_refl _)) (goes_ok HL.out HF.out HD.out)
    · have hsuf : ¬ suf = [] := fun h => hx (.inl h)
      have hse : (!suf.isEmpty) = true := by simpa using hsuf
      have hst : (r1.state != 11) = true := by have : ¬ r1.state = 11 := fun h => hx (.inr h); simpa using this
      clear hx
      by_cases hopen : r1.state = 1
      · have k0 : (r1.state == 0) = false := by simp [hopen]
        have k1 : (r1.state == 1) = true := by simp [hopen]
        have HO := Lib.hid hopen
        have HT := Lib.hid (feeds_open suf r1 hopen Hi.out.t0 Hi.out.t1)
        clear hopen
        by_cases hover : (suf.length : Int) > 1048576 - r1.told
        · have HV := Lib.hid hover
          clear hover
          go_wp2_with (fail)
          refine (some_over b suf r1 wr H1 hbd (by omega) HO.out (by have := HV.out; omega)).mono ?_
          rintro e w1 ⟨rfl, h1, q1⟩
          obtain ⟨⟨f0, f1, f2, f3, f4, f5, f6, f7⟩, ⟨g0, g1, g2, g3, g4, g5, g6, g7⟩, ⟨p1, p2, p3⟩⟩ := And.intro h1.cells (And.intro h1.free h1.puts)
          have h1' := h1
          clear h1
          go_wp2_with (fail)
          go_ret2
          have ht := HT.out
          have hv := HV.out
          rw [if_neg (by omega)] at ht
          exact GoesPost.mk (h1'.set5 r.told) ((hk.trans' q1).setCell (by simp) _) (goes_err HL.out HF.out (r2 := { r1 with told := 1048576 }) (by rw [ht]; exact ⟨rfl, rfl⟩) (by decide))
        · have HV := Lib.hid hover
          clear hover
          go_wp2_with (fail)
          refine (some_open b suf r1 wr H1 hbd (by omega) HO.out (by have := HV.out; omega)).mono ?_
          rintro e w1 ⟨rfl, h1, q1⟩
          obtain ⟨⟨f0, f1, f2, f3, f4, f5, f6, f7⟩, ⟨g0, g1, g2, g3, g4, g5, g6, g7⟩, ⟨p1, p2, p3⟩⟩ := And.intro h1.cells (And.intro h1.free h1.puts)
          have H1' := h1
          have hk1 := hk.trans' q1
          have HB1 := Lib.hid (HB.out.kept q1 Hbs.out)
          have hz1 := hk1.size
          clear h1
          go_wp2_with (fail)
          refine (bld_write w1 w.heap.size out suf HB1.out (by omega) (by omega)).mono ?_
          rintro e w2 ⟨rfl, hB2, hb2⟩
          have h2 := H1'.below hb2 hbw
          obtain ⟨⟨f0, f1, f2, f3, f4, f5, f6, f7⟩, ⟨g0, g1, g2, g3, g4, g5, g6, g7⟩, ⟨p1, p2, p3⟩⟩ := And.intro h2.cells (And.intro h2.free h2.puts)
          have HB2 := Lib.hid hB2
          have H2 := Lib.hid h2
          have hk2 := hk1.thenBelow hb2 (Nat.le_refl _)
          clear hB2 h2 hb2 q1 H1'
          go_wp2_with (fail)
          go_roundw
          case rel =>
            have ht := HT.out
            have hv := HV.out
            rw [if_pos (by omega)] at ht
            have hg := feeds_go HF.out ht
            rw [if_pos rfl] at hg
            exact ⟨l, [], out ++ suf, { r1 with told := r1.told + suf.length }, by simp, rfl, by rw [HL.out]; exact hg, HR.out, H2.out.set5 _, HB2.out.kept ((Kept.refl [b] _).setCell (by simp) _) Hbs.out, by have := HN.out; simp; omega, hk2.setCell (by simp) _⟩
          case measure =>
            have : 0 < suf.length := List.length_pos_iff.2 (by simpa using hse)
            (try simp only [strLen_S, strLen_nil, strLen_empty, List.length_drop])
            omega
      · by_cases hpart : r1.state = 0 ∨ r1.state = 4
        · have HP := Lib.hid hpart
          have k1 : (r1.state == 1) = false := by simpa using hopen
          have H1n := Lib.hid hopen
          obtain ⟨hw0, hw1⟩ := Hi.out.w hpart
          have hsl' : 0 < suf.length := List.length_pos_iff.2 hsuf
          obtain ⟨n, hnm, hn1', hn2, hn3⟩ : ∃ n : Nat, (n : Int) = min (suf.length : Int) r1.left ∧ n ≤ suf.length ∧ (n : Int) ≤ r1.left ∧ 0 < n := by
            rw [Int.min_def]
            split
            · exact ⟨suf.length, rfl, Nat.le_refl _, by omega, hsl'⟩
            · exact ⟨r1.left.toNat, by omega, by omega, by omega, by omega⟩
          have hnl : (suf.take n).length = n := by simp; omega
          have HT := Lib.hid (feeds_some r1.state (suf.take n) r1 rfl hpart hw0 (by intro h; rw [h] at hnl; simp at hnl; omega) (by rw [hnl]; omega))
          have HNM := Lib.hid hnm
          have HNL := Lib.hid hnl
          have hcat : l = (pre ++ suf.take n) ++ suf.drop n := by rw [List.append_assoc, List.take_append_drop]; exact HL.out
          have HC := Lib.hid hcat
          clear hpart hopen hnm hnl hcat
          have hor : (r1.state == 0) = true ∨ (r1.state == 0) = false ∧ (r1.state == 4) = true := by
            rcases HP.out with h | h <;> simp [h]
          rcases hor with k0 | ⟨k0, k4⟩
          all_goals
            go_wp2_with (fail)
            refine (some_part b suf r1 wr H1 hbd (by omega) H1n.out n HNM.out).mono ?_
            rintro e w1 ⟨rfl, h1, q1⟩
            obtain ⟨⟨f0, f1, f2, f3, f4, f5, f6, f7⟩, ⟨g0, g1, g2, g3, g4, g5, g6, g7⟩, ⟨p1, p2, p3⟩⟩ := And.intro h1.cells (And.intro h1.free h1.puts)
            have H1' := h1
            have hk1 := hk.trans' q1
            have HB1 := Lib.hid (HB.out.kept q1 Hbs.out)
            have hz1 := hk1.size
            clear h1
            go_wp2_with (fail)
            refine (bld_write w1 w.heap.size out (suf.take n) HB1.out (by simp; omega) (by omega)).mono ?_
            rintro e w2 ⟨rfl, hB2, hb2⟩
            have h2 := H1'.below hb2 hbw
            obtain ⟨⟨f0, f1, f2, f3, f4, f5, f6, f7⟩, ⟨g0, g1, g2, g3, g4, g5, g6, g7⟩, ⟨p1, p2, p3⟩⟩ := And.intro h2.cells (And.intro h2.free h2.puts)
            have HB2 := Lib.hid hB2
            have H2 := Lib.hid h2
            have hk2 := hk1.thenBelow hb2 (Nat.le_refl _)
            clear hB2 h2 hb2 q1 H1'
            go_wp2_with (fail)
            go_roundw
            case rel =>
              have ht := HT.out
              rw [HNL.out] at ht
              have hg := feeds_go HF.out ht
              rw [if_pos rfl] at hg
              exact ⟨pre ++ suf.take n, suf.drop n, out ++ suf.take n, { r1 with left := r1.left - n, told := r1.told + n, state := if r1.left - n = 0 then (if r1.state = 0 then 11 else 5) else r1.state }, HC.out, rfl, hg, HR.out, H2.out.set5 _, HB2.out.kept ((Kept.refl [b] _).setCell (by simp) _) Hbs.out, by simp; omega, hk2.setCell (by simp) _⟩
            case measure =>
              (try simp only [strLen_S, strLen_nil, strLen_empty, List.length_drop])
              omega
        · have hn0 : ¬ r1.state = 0 := fun h => hpart (.inl h)
          have hn4 : ¬ r1.state = 4 := fun h => hpart (.inr h)
          have k0 : (r1.state == 0) = false := by simpa using hn0
          have k1 : (r1.state == 1) = false := by simpa using hopen
          have k4 : (r1.state == 4) = false := by simpa using hn4
          have hn11 : ¬ r1.state = 11 := by simpa using hst
          obtain ⟨c, tl, rfl⟩ : ∃ c tl, suf = c :: tl := by cases suf with | nil => exact absurd rfl hsuf | cons c tl => exact ⟨c, tl, rfl⟩
          have HFE : Hid (feed r1 c = ((byteF r1 c).1, [], (byteF r1 c).2)) := by unfold Hid feed; rw [if_neg hn11, if_neg hopen, if_neg hn0, if_neg hn4]
          have KB := Lib.hid (keeps_byte r1 c)
          have hcat : l = (pre ++ [c]) ++ tl := by rw [List.append_assoc]; exact HL.out
          have HC := Lib.hid hcat
          simp only [List.length_cons] at hr1 hol hsl
          clear hn0 hn4 hopen hpart hn11 hcat hsuf
          go_wp2_with (fail)
          refine (byte_any b c r1 wr H1 hbd).mono ?_
          rintro e w1 ⟨rfl, h1, q1⟩
          generalize hby : byteF r1 c = res at *
          obtain ⟨r2, e2⟩ := res
          simp only at h1
          obtain ⟨⟨f0, f1, f2, f3, f4, f5, f6, f7⟩, ⟨g0, g1, g2, g3, g4, g5, g6, g7⟩, ⟨p1, p2, p3⟩⟩ := And.intro h1.cells (And.intro h1.free h1.puts)
          have H1' := h1
          have hk1 := hk.trans' q1
          have HB1 := Lib.hid (HB.out.kept q1 Hbs.out)
          have HBY := Lib.hid hby
          clear h1 q1 hby
          by_cases he : e2 = 0
          · have ke : (e2 != 0) = false := by simp [he]
            have HE := Lib.hid he
            clear he
            go_wp2_with (fail)
            refine ⟨?_, by simp only [strLen_S, List.length_cons]; omega⟩
            have hfe : feed r1 c = (r2, [], 0) := by rw [HFE.out, HE.out]
            have hg := feeds_go HF.out (feeds_cons_ok hfe (feeds_nil r2))
            rw [if_pos rfl] at hg
            have hkb := KB.out
            exact ⟨pre ++ [c], tl, out ++ ([] ++ []), r2, HC.out, rfl, hg, hkb.2.2.2.trans HR.out, H1', by simpa using HB1.out, by simp; omega, hk1⟩
          · have ke : (e2 != 0) = true := by simpa using he
            have HE := Lib.hid he
            clear he
            go_wp2_with (fail)
            go_ret2
            have hfe : feed r1 c = (r2, [], e2) := HFE.out
            have hfs := feeds_cons_err (s := tl) hfe HE.out
            exact GoesPost.mk (H1'.set5 r.told) (hk1.setCell (by simp) _) (goes_err HL.out HF.out (r2 := r2) (by rw [hfs]; exact ⟨rfl, rfl⟩) HE.out)
end BD
end
section
namespace BD
def writeF (r : Rd) (l : List UInt8) : Rd × List UInt8 × Int :=
  if r.e = 0 then ({ (goesF r l).1 with e := (goesF r l).2.2 }, (goesF r l).2.1, (goesF r l).2.2) else (r, [], r.e)
/-- What may be while nothing was wrong; else nothing is asked. -/
def Rd.Ok (r : Rd) : Prop := r.e = 0 → r.Inv ∧ 0 ≤ r.state ∧ r.state ≤ 11

set_option maxHeartbeats 400000 in
theorem write_any (b : Nat) (l : List UInt8) (r : Rd) (w : World) (h : RdAt w b r) (hi : r.Ok) (hn : r.rest.length + l.length ≤ 1000000000) :
    Calls Tryz.prog 31 #[Ptr b, S l] w (GoesPost b w (writeF r l)) := by
  obtain ⟨f0, f1, f2, f3, f4, f5, f6, f7⟩ := h.cells
  obtain ⟨g0, g1, g2, g3, g4, g5, g6, g7⟩ := h.free
  obtain ⟨p1, p2, p3⟩ := h.puts
  by_cases he : r.e = 0
  · have ke : (r.e != 0) = false := by simp [he]
    obtain ⟨hi1, hs⟩ := hi he
    have HF : Hid (writeF r l = ({ (goesF r l).1 with e := (goesF r l).2.2 }, (goesF r l).2.1, (goesF r l).2.2)) := by unfold Hid writeF; rw [if_pos he]
    clear he hi
    go_enter Tryz.func31, Tryz.ntmps31
    go_wp2_with (fail)
    refine (goes_any b l r w h hi1 hs hn).mono ?_
    rintro e w1 ⟨rfl, h1, q1⟩
    obtain ⟨⟨f0, f1, f2, f3, f4, f5, f6, f7⟩, ⟨g0, g1, g2, g3, g4, g5, g6, g7⟩, ⟨p1, p2, p3⟩⟩ := And.intro h1.cells (And.intro h1.free h1.puts)
    have H1 := h1
    clear h1
    go_wp2_with (fail)
    go_ret2
    exact GoesPost.mk (H1.set7 _) (q1.setCell (by simp) _) HF.out
  · have ke : (r.e != 0) = true := by simpa using he
    have HF : Hid (writeF r l = (r, [], r.e)) := by unfold Hid writeF; rw [if_neg he]
    clear he hi
    have H := h
    go_enter Tryz.func31, Tryz.ntmps31
    go_wp2_with (fail)
    go_quiet (fail)
    go_wp2_with (fail)
    go_ret2
    exact GoesPost.mk (H.drewN _) ((Kept.refl _ _).drewN _) HF.out

def doneF (r : Rd) : Bool := decide (r.state = 11 ∧ r.e = 0)
theorem ret_B {a b : Bool} (h : a = b) : Ending.returned (.bool a) = .returned (.bool b) := by rw [h]
set_option maxHeartbeats 400000 in
theorem done_any (b : Nat) (r : Rd) (w : World) (h : RdAt w b r) :
    Calls Tryz.prog 34 #[Ptr b] w fun e w' => e = .returned (.bool (doneF r)) ∧ w = w' := by
  obtain ⟨f0, f1, f2, f3, f4, f5, f6, f7⟩ := h.cells
  obtain ⟨g0, g1, g2, g3, g4, g5, g6, g7⟩ := h.free
  obtain ⟨p1, p2, p3⟩ := h.puts
  go_enter Tryz.func34, Tryz.ntmps34
  go_wp2_with (fail)
  all_goals go_ret
  all_goals
    refine ⟨ret_B ?_, rfl⟩
    unfold doneF
    by_cases h2 : r.e = 0 <;> simp_all
set_option maxHeartbeats 400000 in
theorem size_any (b : Nat) (r : Rd) (w : World) (h : RdAt w b r) : Calls Tryz.prog 61 #[Ptr b] w fun e w' => e = .returned (I r.size) ∧ w = w' := by
  obtain ⟨f0, f1, f2, f3, f4, f5, f6, f7⟩ := h.cells
  obtain ⟨g0, g1, g2, g3, g4, g5, g6, g7⟩ := h.free
  obtain ⟨p1, p2, p3⟩ := h.puts
  go_enter Tryz.func61, Tryz.ntmps61
  go_wp2_with (fail)
  go_ret
  exact ⟨rfl, rfl⟩
def restF (r : Rd) : List UInt8 := if doneF r = true then r.rest else []
def closeF (r : Rd) : Rd × Int :=
  if r.e ≠ 0 ∨ r.state = 11 then (r, r.e) else if r.state = 1 then ({ r with state := 11 }, 0) else ({ r with e := 182 }, 182)
set_option maxHeartbeats 400000 in
theorem close_any (b : Nat) (r : Rd) (w : World) (h : RdAt w b r) : Calls Tryz.prog 36 #[Ptr b] w (RdPost b w (closeF r)) := by
  obtain ⟨f0, f1, f2, f3, f4, f5, f6, f7⟩ := h.cells
  obtain ⟨g0, g1, g2, g3, g4, g5, g6, g7⟩ := h.free
  obtain ⟨p1, p2, p3⟩ := h.puts
  go_enter Tryz.func36, Tryz.ntmps36
  go_wp2_with (fail)
  all_goals go_ret
  all_goals clear f0 f1 f2 f3 f4 f5 f6 f7 g0 g1 g2 g3 g4 g5 g6 g7 p1 p2 p3
  all_goals
    refine RdPost.mk (by with_reducible repeat (first | exact h | apply RdAt.drew | apply RdAt.drewN | apply RdAt.set0 | apply RdAt.set2 | apply RdAt.set3 | apply RdAt.set4 | apply RdAt.set5 | apply RdAt.set7)) (by with_reducible repeat (first | exact Kept.refl _ _ | refine Kept.drew ?_ | refine Kept.drewN ?_ _ | refine Kept.setCell ?_ (by simp) _)) ?_
  all_goals clear h
  all_goals unfold closeF
  all_goals ((try simp only [beq_iff_eq, bne_iff_ne, beq_eq_false_iff_ne, bne_eq_false_iff_eq, ne_eq, Bool.not_eq_true, Bool.not_eq_false, Bool.or_eq_true, Bool.and_eq_true, decide_eq_true_eq, decide_eq_false_iff_not] at *); (repeat' split) <;> first | rfl | (exfalso; omega) | (simp_all; done) | (simp_all; omega))
set_option maxHeartbeats 400000 in
theorem clone_any (b : Nat) (r : Rd) (w : World) (h : RdAt w b r) : Calls Tryz.prog 46 #[Ptr b] w fun e w' => e = .returned (Ptr w.heap.size) ∧ w' = w.alloc r.obj := by
  obtain ⟨f0, f1, f2, f3, f4, f5, f6, f7⟩ := h.cells
  obtain ⟨g0, g1, g2, g3, g4, g5, g6, g7⟩ := h.free
  obtain ⟨p1, p2, p3⟩ := h.puts
  go_enter Tryz.func46, Tryz.ntmps46
  go_wp2_with (fail)
  go_ret
  exact ⟨rfl, rfl⟩
end BD
end
section
namespace BD
/-! ### Lists of strings in memory; a head -/
def StrsAt (w : World) (v : Value) (ss : List (List UInt8)) : Prop :=
  ∃ (p : Option Addr) (cap : Nat), v = .slice p ss.length cap ∧ ss.length ≤ 9223372036854775807 ∧ (ss ≠ [] → ∃ b off, p = some ⟨b, off, none⟩ ∧ ∀ (i : Nat) (h : i < ss.length), w.cell? ⟨b, off + i, none⟩ = some (S ss[i]))
theorem StrsAt.kept {w w' : World} {v : Value} {ss : List (List UInt8)} (h : StrsAt w v ss) (k : Kept [] w w') : StrsAt w' v ss := by
  obtain ⟨p, cap, hv, hl, hc⟩ := h
  refine ⟨p, cap, hv, hl, fun hne => ?_⟩
  obtain ⟨b, off, hp, hcell⟩ := hc hne
  exact ⟨b, off, hp, fun i hi => by rw [k.cell (World.block_lt_of_cell? w _ (hcell i hi)) (by simp)]; exact hcell i hi⟩
theorem S_inj {a b : List UInt8} (h : S a = S b) : a = b := by
  have h1 : (⟨a.toArray⟩ : ByteArray) = ⟨b.toArray⟩ := by injection h
  have h2 : a.toArray = b.toArray := by injection h1
  exact congrArg Array.toList h2

/-- 'head.Get' -/
def getF (names values : List (List UInt8)) (name : List UInt8) : List UInt8 × Nat :=
  ((match names.findIdx? (· == name) with | some i => values.getD i [] | none => []), names.count name)
theorem findIdx?_snoc {p : List UInt8 → Bool} (l : List (List UInt8)) (x : List UInt8) : (l ++ [x]).findIdx? p = match l.findIdx? p with | some i => some i | none => if p x then some l.length else none := by
  rw [List.findIdx?_append]
  cases h : l.findIdx? p with
  | some i => simp
  | none => simp
theorem getF_no (l values : List (List UInt8)) (x name : List UInt8) (h : x ≠ name) : getF (l ++ [x]) values name = getF l values name := by
  unfold getF
  rw [findIdx?_snoc, List.count_append]
  have h1 : (x == name) = false := by simpa using h
  cases l.findIdx? (· == name) <;> simp [h1, h]
theorem getF_again (l values : List (List UInt8)) (name : List UInt8) (h : 0 < (getF l values name).2) : getF (l ++ [name]) values name = ((getF l values name).1, (getF l values name).2 + 1) := by
  unfold getF at h ⊢
  simp only at h
  rw [findIdx?_snoc, List.count_append]
  have hm : name ∈ l := List.count_pos_iff.1 h
  cases hf : l.findIdx? (· == name) with
  | some i => simp
  | none => simp [List.findIdx?_eq_none_iff] at hf; exact absurd rfl (hf name hm)
theorem getF_first (l values : List (List UInt8)) (name : List UInt8) (h : (getF l values name).2 = 0) : getF (l ++ [name]) values name = (values.getD l.length [], 1) ∧ (getF l values name).1 = [] := by
  unfold getF at h ⊢
  simp only at h
  have hm : name ∉ l := List.count_eq_zero.1 h
  have hf : l.findIdx? (· == name) = none := by rw [List.findIdx?_eq_none_iff]; intro x hx; simp; rintro rfl; exact hm hx
  rw [findIdx?_snoc, List.count_append]
  simp [hf, h]
theorem getF_le (l values : List (List UInt8)) (name : List UInt8) : (getF l values name).2 ≤ l.length := List.count_le_length

def GetRel (names values : List (List UInt8)) (name : List UInt8) (w : World) (v n i : Value) (wr : World) : Prop :=
  ∃ k : Nat, k ≤ names.length ∧ i = I k ∧ v = S (getF (names.take k) values name).1 ∧ n = I (getF (names.take k) values name).2 ∧ Kept [] w wr
set_option maxRecDepth 100000 in
set_option maxHeartbeats 1000000 in
theorem get_any (st : Int) (nv vv : Value) (names values : List (List UInt8)) (name : List UInt8) (w : World) (hn : StrsAt w nv names) (hv : StrsAt w vv values) :
    Calls Tryz.prog 93 #[.agg #[I st, nv, vv], S name] w fun e w' => e = .returned (.tuple #[S (getF names values name).1, I (getF names values name).2]) ∧ Kept [] w w' := by
  have HN := hn
  have HV := hv
  obtain ⟨pn, cn, rfl, hnl, hnc⟩ := hn
  obtain ⟨pv, cv, rfl, hvl, hvc⟩ := hv
  have hnl' : (names.length : Int) ≤ 9223372036854775807 := by omega
  have hvl' : (values.length : Int) ≤ 9223372036854775807 := by omega
  have Hn := Lib.hid hnc
  have Hv := Lib.hid hvc
  clear hnc hvc
  go_enter Tryz.func93, Tryz.ntmps93
  go_wp2_with (fail)
  go_loop [6, 7, 13] (fun v n i => ∃ k : Nat, k ≤ names.length ∧ i = I k ∧ v = S (getF (names.take k) values name).1 ∧ n = I (getF (names.take k) values name).2) (fun _ _ i => names.length - (intOf i).toNat)
  case atStart => exact ⟨0, by omega, rfl, rfl, rfl⟩
  case round =>
    obtain ⟨k, hk, rfl, rfl, rfl⟩ := hrel
    have hgl := getF_le (names.take k) values name
    have hgl' : (getF (names.take k) values name).2 ≤ k := by rw [List.length_take] at hgl; omega
    clear hgl
    by_cases hlt : k < names.length
    · obtain ⟨bn, on, rfl, hcn⟩ := Hn.out (by intro h; rw [h] at hlt; simp at hlt)
      have hc := hcn k hlt
      have hbn : bn < w.heap.size := World.block_lt_of_cell? w _ hc
      have hts : names.take (k + 1) = names.take k ++ [names[k]] := by rw [List.take_succ_eq_append_getElem hlt]
      generalize hx : names[k] = x at *
      obtain ⟨v, m, hvm⟩ : ∃ v m, getF (names.take k) values name = (v, m) := ⟨_, _, rfl⟩
      rw [hvm] at hgl' ⊢
      simp only at hgl' ⊢
      have hlk : (names.take k).length = k := by simp; omega
      have HTS := Lib.hid hts
      have HX := Lib.hid hx
      have HVM := Lib.hid hvm
      have HLK := Lib.hid hlk
      clear hts hx hcn hvm hlk
      by_cases hxe : x = name
      · by_cases hm : m = 0
        · by_cases hkv : k < values.length
          · obtain ⟨bv, ov, rfl, hcv⟩ := Hv.out (by intro h; rw [h] at hkv; simp at hkv)
            have hd := hcv k hkv
            have hbv : bv < w.heap.size := World.block_lt_of_cell? w _ hd
            have HD : Hid (getF (names.take (k + 1)) values name = (values[k], 1)) := by
              have h1 := getF_first (names.take k) values name (by rw [HVM.out]; exact hm)
              unfold Hid
              rw [HTS.out, hxe, h1.1, HLK.out]
              simp [hkv]
            generalize hy : values[k] = y at *
            clear hcv hy
            subst hxe hm
            go_wp2_with (fail)
            go_round
            case rel => exact ⟨k + 1, by omega, by go_num, by rw [HD.out], by rw [HD.out]; rfl⟩
            case measure => simp [intOf]; omega
          · have HD : Hid (getF (names.take (k + 1)) values name = (v, 1)) := by
              have h1 := getF_first (names.take k) values name (by rw [HVM.out]; exact hm)
              have h2 := h1.2
              rw [HVM.out] at h2
              unfold Hid
              rw [HTS.out, hxe, h1.1, HLK.out]
              simp at h2
              rw [h2, List.getD_eq_getElem?_getD, List.getElem?_eq_none (by omega)]
              rfl
            subst hxe hm
            go_wp2_with (fail)
            go_round
            case rel => exact ⟨k + 1, by omega, by go_num, by rw [HD.out], by rw [HD.out]; rfl⟩
            case measure => simp [intOf]; omega
        · have HD : Hid (getF (names.take (k + 1)) values name = (v, m + 1)) := by
            have h1 := getF_again (names.take k) values name (by rw [HVM.out]; simp only; omega)
            unfold Hid
            rw [HTS.out, hxe, h1, HVM.out]
          have hm0 : ((m : Int) == 0) = false := by simp; omega
          subst hxe
          go_wp2_with (fail)
          go_round
          case rel => exact ⟨k + 1, by omega, by go_num, by rw [HD.out], by rw [HD.out]; go_num⟩
          case measure => simp [intOf]; omega
      · have HD : Hid (getF (names.take (k + 1)) values name = (v, m)) := by
          unfold Hid
          rw [HTS.out, getF_no _ _ _ _ hxe, HVM.out]
        have hxb : (x == name) = false := by simpa using hxe
        clear hxe
        go_wp2_with (fail)
        go_round
        case rel => exact ⟨k + 1, by omega, by go_num, by rw [HD.out], by rw [HD.out]⟩
        case measure => simp [intOf]; omega
    · go_wp2_with (fail)
      go_ret2
      have : names.take k = names := List.take_of_length_le (by omega)
      rw [this]
      exact ⟨rfl, (Kept.refl _ _).alloc _⟩
end BD
end
section
namespace BD
@[go_sem] theorem str_get (l : List UInt8) (k : Nat) (h : k < (⟨l.toArray⟩ : ByteArray).size) : (⟨l.toArray⟩ : ByteArray)[k] = l[k]'(by simpa [ByteArray.size] using h) := by
  simp [ByteArray.getElem_eq_getElem_data]
/-! ### 'length' -/
def isDig (c : UInt8) : Bool := decide (48 ≤ c.toNat ∧ c.toNat ≤ 57)
def digs (l : List UInt8) : Int := l.foldl (fun n c => 10 * n + ((c.toNat : Int) - 48)) 0
def lengthF (l : List UInt8) : Int := if l = [] ∨ 9 < l.length then -1 else if l.all isDig then digs l else -1
theorem digs_snoc (l : List UInt8) (c : UInt8) : digs (l ++ [c]) = 10 * digs l + ((c.toNat : Int) - 48) := by simp [digs]
theorem digs_bd (l : List UInt8) (h : l.all isDig = true) : ∀ k, k ≤ l.length → 0 ≤ digs (l.take k) ∧ digs (l.take k) < (10 ^ k : Nat) := by
  intro k
  induction k with
  | zero => intro _; simp [digs]
  | succ k ih =>
    intro hk
    have i := ih (by omega)
    rw [List.take_succ_eq_append_getElem (by omega), digs_snoc]
    have hd : isDig l[k] = true := (List.all_eq_true.1 h) _ (List.getElem_mem _)
    simp only [isDig, decide_eq_true_eq] at hd
    have hp : (10 ^ (k + 1) : Nat) = 10 * 10 ^ k := by rw [Nat.pow_succ]; omega
    omega
theorem pow10_le (k : Nat) (h : k ≤ 9) : (10 ^ k : Nat) ≤ 1000000000 := by
  have : k = 0 ∨ k = 1 ∨ k = 2 ∨ k = 3 ∨ k = 4 ∨ k = 5 ∨ k = 6 ∨ k = 7 ∨ k = 8 ∨ k = 9 := by omega
  rcases this with h | h | h | h | h | h | h | h | h | h <;> subst h <;> decide
theorem all_take_snoc (l : List UInt8) (k : Nat) (h : k < l.length) : (l.take (k + 1)).all isDig = ((l.take k).all isDig && isDig l[k]) := by
  rw [List.take_succ_eq_append_getElem h, List.all_append]; simp
set_option maxRecDepth 100000 in
set_option maxHeartbeats 1000000 in
theorem length_any (l : List UInt8) (w : World) :
    Calls Tryz.prog 95 #[S l] w fun e w' => e = .returned (I (lengthF l)) ∧ w = w' := by
  by_cases hs : l = []
  · subst hs
    go_enter Tryz.func95, Tryz.ntmps95
    go_wp2_with (fail)
    go_ret
    exact ⟨rfl, rfl⟩
  have hse : (!l.isEmpty) = true := by simpa using hs
  have hse' : l.isEmpty = false := by simpa using hs
  by_cases h9 : 9 < l.length
  · have HF : Hid (lengthF l = -1) := by unfold Hid lengthF; rw [if_pos (.inr h9)]
    have h9' : (9 : Int) < l.length := by omega
    clear hs
    go_enter Tryz.func95, Tryz.ntmps95
    go_wp2_with (fail)
    go_ret
    exact ⟨by rw [HF.out]; rfl, rfl⟩
  have h9' : (l.length : Int) ≤ 9 := by omega
  have HF : Hid (lengthF l = if l.all isDig then digs l else -1) := by unfold Hid lengthF; rw [if_neg (by simp [hs]; omega)]
  clear hs h9
  go_enter Tryz.func95, Tryz.ntmps95
  go_wp2_with (fail)
  go_loop [3, 14] (fun n i => ∃ k : Nat, k ≤ l.length ∧ i = I k ∧ n = I (digs (l.take k)) ∧ (l.take k).all isDig = true) (fun _ i => l.length - (intOf i).toNat)
  case atStart => exact ⟨0, by omega, rfl, rfl, rfl⟩
  case round =>
    obtain ⟨k, hk, rfl, rfl, hall⟩ := hrel
    have hbd := digs_bd (l.take k) hall k (by simp; omega)
    rw [List.take_take, Nat.min_self] at hbd
    have hp := pow10_le k (by omega)
    obtain ⟨hb0, hb1⟩ : 0 ≤ digs (l.take k) ∧ digs (l.take k) < 1000000000 := by omega
    have HA := Lib.hid hall
    clear hall hbd hp
    by_cases hlt : k < l.length
    · have hsn := all_take_snoc l k hlt
      have hds : digs (l.take (k + 1)) = 10 * digs (l.take k) + ((l[k].toNat : Int) - 48) := by rw [List.take_succ_eq_append_getElem hlt, digs_snoc]
      have hmem : l[k] ∈ l := List.getElem_mem _
      obtain ⟨c, hc⟩ : ∃ c, l[k] = c := ⟨_, rfl⟩
      rw [hc] at hsn hds hmem
      have hcl : c.toNat < 256 := c.toNat_lt
      have HS := Lib.hid hsn
      have HD := Lib.hid hds
      have HM := Lib.hid hmem
      generalize digs (l.take k) = d at *
      clear hsn hds hmem
      by_cases hdg : 48 ≤ c.toNat ∧ c.toNat ≤ 57
      · have hdd : isDig c = true := by simp [isDig, hdg]
        obtain ⟨h1, h2⟩ := hdg
        have h1' : (48 : Int) ≤ c.toNat := by omega
        have h2' : (c.toNat : Int) ≤ 57 := by omega
        go_wp2_with (fail)
        go_round
        case rel => exact ⟨k + 1, by omega, by go_num, by rw [HD.out], by rw [HS.out, HA.out, hdd]; rfl⟩
        case measure => simp [intOf]; omega
      · have hdd : isDig c = false := by simp only [isDig, decide_eq_false_iff_not]; exact hdg
        have HE : Hid (lengthF l = -1) := by
          unfold Hid
          rw [HF.out, if_neg]
          intro h
          have := (List.all_eq_true.1 h) c HM.out
          rw [hdd] at this; cases this
        go_wp2_with (fail)
        all_goals first
          | (exfalso; omega)
          | (go_ret; exact ⟨by rw [HE.out]; rfl, rfl⟩)
    · go_wp2_with (fail)
      go_ret
      have ht : l.take k = l := List.take_of_length_le (by omega)
      have ha := HA.out
      rw [ht] at ha
      rw [ht, HF.out, if_pos ha]
      exact ⟨rfl, rfl⟩
end BD
end
section
namespace BD
/-! ### strings.EqualFold at "chunked" -/
def lowerB (c : UInt8) : UInt8 := if 65 ≤ c.toNat ∧ c.toNat ≤ 90 then c + 32 else c
def chunked : List UInt8 := [99, 104, 117, 110, 107, 101, 100]
def isChunked (s : List UInt8) : Bool := s.map lowerB == chunked
def orbit : List (Int × Int) := [(75, 107), (83, 115), (107, 8490), (115, 383), (181, 924), (197, 229), (223, 7838), (229, 8491), (304, 304), (305, 305), (383, 83), (452, 453), (453, 454), (454, 452), (455, 456), (456, 457), (457, 455), (458, 459), (459, 460), (460, 458), (497, 498), (498, 499), (499, 497), (837, 921), (912, 8147), (914, 946), (917, 949), (920, 952), (921, 953), (922, 954), (924, 956), (928, 960), (929, 961), (931, 962), (934, 966), (937, 969), (944, 8163), (946, 976), (949, 1013), (952, 977), (953, 8126), (954, 1008), (956, 181), (960, 982), (961, 1009), (962, 963), (963, 931), (966, 981), (969, 8486), (976, 914), (977, 1012), (981, 934), (982, 928), (1008, 922), (1009, 929), (1012, 920), (1013, 917), (1042, 1074), (1044, 1076), (1054, 1086), (1057, 1089), (1058, 1090), (1066, 1098), (1074, 7296), (1076, 7297), (1086, 7298), (1089, 7299), (1090, 7300), (1098, 7302), (1122, 1123), (1123, 7303), (7296, 1042), (7297, 1044), (7298, 1054), (7299, 1057), (7300, 7301), (7301, 1058), (7302, 1066), (7303, 1122), (7304, 42570), (7776, 7777), (7777, 7835), (7835, 7776), (7838, 223), (8126, 837), (8147, 912), (8163, 944), (8486, 937), (8490, 75), (8491, 197), (42570, 42571), (42571, 7304), (64261, 64262), (64262, 64261)]
def foldOf (n : Nat) : Int := if n = 75 then 107 else if n = 83 then 115 else if n = 107 then 8490 else if n = 115 then 383 else if 65 ≤ n ∧ n ≤ 90 then n + 32 else if 97 ≤ n ∧ n ≤ 122 then n - 32 else n
/-- What the library's tables hold. -/
structure Tabs (w : World) : Prop where
  fold : ∀ n, n < 128 → w.cell? ⟨1, n, none⟩ = some (.int .u16 (foldOf n))
  orb : ∃ b off cap, w.cell? ⟨2, 0, none⟩ = some (.slice (some ⟨b, off, none⟩) 94 cap) ∧ ∀ i, (h : i < orbit.length) → w.cell? ⟨b, off + i * 2, none⟩ = some (.int .u16 orbit[i].1) ∧ w.cell? ⟨b, off + i * 2 + 1, none⟩ = some (.int .u16 orbit[i].2)
theorem Tabs.kept {w w' : World} (h : Tabs w) (k : Kept [] w w') : Tabs w' := by
  obtain ⟨h1, b, off, cap, h2, h3⟩ := h
  refine ⟨fun n hn => by rw [k.cell (World.block_lt_of_cell? w _ (h1 n hn)) (by simp)]; exact h1 n hn, b, off, cap, by rw [k.cell (World.block_lt_of_cell? w _ h2) (by simp)]; exact h2, fun i hi => ⟨?_, ?_⟩⟩
  · rw [k.cell (World.block_lt_of_cell? w _ (h3 i hi).1) (by simp)]; exact (h3 i hi).1
  · rw [k.cell (World.block_lt_of_cell? w _ (h3 i hi).2) (by simp)]; exact (h3 i hi).2
def FoldPost (s : List UInt8) (w : World) (e : Ending) (w' : World) : Prop := ∃ b : Bool, e = .returned (.bool b) ∧ (s.length = 7 → b = isChunked s) ∧ Kept [] w w'
end BD
end
section
namespace BD
theorem foldOf_bd (n : Nat) (h : n < 128) : 0 ≤ foldOf n ∧ foldOf n ≤ 65535 := by unfold foldOf; (repeat' split) <;> omega
set_option maxRecDepth 100000 in
set_option maxHeartbeats 400000 in
theorem sfold_ascii (n : Nat) (w : World) (hn : n < 128) (hT : Tabs w) : Calls Tryz.prog 116 #[.int .i32 n] w fun e w' => e = .returned (.int .i32 (foldOf n)) ∧ w = w' := by
  have hc := hT.fold n hn
  obtain ⟨b0, b1⟩ := foldOf_bd n hn
  have hn' : (n : Int) < 128 := by omega
  clear hT
  go_enter Tryz.func116, Tryz.ntmps116
  go_wp2_with (fail)
  go_ret
  exact ⟨rfl, rfl⟩
theorem orbit_lo : ∀ m, (h : m < 94) → (m < 88 → orbit[m].1 < 8490) ∧ (88 ≤ m → 8490 ≤ orbit[m].1) ∧ 0 ≤ orbit[m].1 ∧ orbit[m].1 ≤ 65535 := by decide +kernel
set_option maxRecDepth 100000 in
set_option maxHeartbeats 1000000 in
theorem sfold_kelvin (w : World) (hT : Tabs w) : Calls Tryz.prog 116 #[.int .i32 8490] w fun e w' => e = .returned (.int .i32 75) ∧ w = w' := by
  obtain ⟨b, off, cap, h1, h2⟩ := hT.orb
  have H2 := Lib.hid h2
  clear hT h2
  go_enter Tryz.func116, Tryz.ntmps116
  go_wp2_with (fail)
  go_loop [3, 4] (fun lo hi => ∃ l h : Nat, lo = I l ∧ hi = I h ∧ l ≤ 88 ∧ 88 ≤ h ∧ h ≤ 94) (fun lo hi => (intOf hi).toNat - (intOf lo).toNat)
  case atStart => exact ⟨0, 94, rfl, rfl, by omega, by omega, by omega⟩
  case round =>
    obtain ⟨l, h, rfl, rfl, hl, hh, h94⟩ := hrel
    by_cases hlt : l < h
    · have hm : (l + h) / 2 < 94 := by omega
      have hc := (H2.out ((l + h) / 2) hm).1
      obtain ⟨q1, q2, q3, q4⟩ := orbit_lo ((l + h) / 2) hm
      generalize orbit[(l + h) / 2].1 = x at *
      have Q1 := Lib.hid q1
      have Q2 := Lib.hid q2
      clear q1 q2
      by_cases hx : x < 8490
      · have hm2 : (l + h) / 2 < 88 := by
          rcases Nat.lt_or_ge ((l + h) / 2) 88 with h' | h'
          · exact h'
          · have := Q2.out h'; omega
        go_wp2_with (fail)
        go_round
        case rel => exact ⟨(l + h) / 2 + 1, h, by go_num, rfl, by omega, by omega, by omega⟩
        case measure => simp [intOf]; omega
      · have hm2 : 88 ≤ (l + h) / 2 := by
          rcases Nat.lt_or_ge ((l + h) / 2) 88 with h' | h'
          · have := Q1.out h'; omega
          · exact h'
        go_wp2_with (fail)
        go_round
        case rel => exact ⟨l, (l + h) / 2, rfl, by go_num, by omega, by omega, by omega⟩
        case measure => simp [intOf]; omega
    · obtain rfl : l = 88 := by omega
      obtain rfl : h = 88 := by omega
      obtain ⟨hc, hd⟩ := H2.out 88 (by decide)
      have e1 : orbit[88].1 = 8490 := by decide +kernel
      have e2 : orbit[88].2 = 75 := by decide +kernel
      rw [e1] at hc
      rw [e2] at hd
      clear e1 e2
      go_wp2_with (fail)
      go_ret
      exact ⟨rfl, rfl⟩
end BD
end
end Go.Proofs.YtgdncdhalnijcaaGreatDoor
