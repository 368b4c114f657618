/- Walks and lemmas on the program of this seat, used by its statements; each theorem bears its own conditions. -/
import Derived.Test.YtncdfaocemfgfaaGreatXQB
import Derived.Test.YtncdfaocemfgfaaGreatQE
import Derived.Handy
import Derived.OwnWalk
import Derived.Deep.AppendLies
import Derived.IntWalk
import Derived.Deep.CutRange
import Derived.Deep.RegionHeld3
import Derived.Deep.RegionLaw
import Derived.Maps.OwnSet
import Derived.Maps.Range
import Derived.Deep.OwnRows
namespace Go.Proofs.YtncdfaocemfgfaaGreat
open Go.RowKit
set_option linter.unusedVariables false
set_option linter.unusedSimpArgs false
set_option maxHeartbeats 8000000
set_option maxRecDepth 100000
/-! ### The flash's power -/
theorem FlAt.power {w : World} {fb bb cb : Nat} {f : Fl} (h : FlAt w fb bb cb f) (d : Bool) (a : Int) : FlAt ((w.setCell ⟨fb, 6, none⟩ (.bool d)).setCell ⟨fb, 3, none⟩ (I a)) fb bb cb { f with dead := d, armed := a } := by
  have k : Kept [fb] w ((w.setCell ⟨fb, 6, none⟩ (.bool d)).setCell ⟨fb, 3, none⟩ (I a)) := ((Kept.refl [fb] w).setCell (.inl (by simp)) _).setCell (.inl (by simp)) _
  refine ⟨?_, h.row.kept k (by simpa using h.n1), ?_, h.n1, h.n2, h.n3, h.len, h.few, h.pos⟩
  · have h1 := heap_setCell_at h.blk 6 (.bool d)
    have h2 := heap_setCell_at h1 3 (I a)
    rw [h2]
    simp [Fl.arr]
  · exact k.at h.cnt (by simpa using h.n2)
theorem crash_any (w : World) (fb bb cb : Nat) (f : Fl) (h : FlAt w fb bb cb f) (hd : f.dead = false) :
    Calls Tryz.prog 9 #[Ptr fb] w fun e w' => e = .returned (I 0) ∧ FlAt w' fb bb cb { f with dead := true, armed := 0 } ∧ Kept [fb] w w' := by
  have c6 : w.cell? ⟨fb, 6, none⟩ = some (.bool false) := by rw [cell_at h.blk, ← hd]; rfl
  have c3 : w.cell? ⟨fb, 3, none⟩ = some (I f.armed) := by rw [cell_at h.blk]; rfl
  have f6 := free_at h.blk 6
  have f3 := free_at h.blk 3
  have H := Lib.hid (h.power true 0)
  clear h
  go_enter Tryz.func9, Tryz.ntmps9
  go_wp2_with (fail)
  go_ret
  exact ⟨rfl, H.out, ((Kept.refl [fb] w).setCell (.inl (by simp)) _).setCell (.inl (by simp)) _⟩
theorem revive_any (w : World) (fb bb cb : Nat) (f : Fl) (h : FlAt w fb bb cb f) :
    Calls Tryz.prog 34 #[Ptr fb] w fun e w' => e = .returned (.tuple #[]) ∧ FlAt w' fb bb cb { f with dead := false, armed := 0 } ∧ Kept [fb] w w' := by
  obtain ⟨c0, c1, c2, c3, c4, c5, c6⟩ := h.cells
  have f6 := h.free 6
  have f3 := h.free 3
  have H := Lib.hid (h.power false 0)
  clear h c0 c1 c2 c4 c5
  go_enter Tryz.func34, Tryz.ntmps34
  go_wp2_with (fail)
  exact bodyPost_end (v := .tuple #[]) (by simp [results, Tryz.results34, go_sem]) rfl ⟨rfl, H.out, ((Kept.refl [fb] w).setCell (.inl (by simp)) _).setCell (.inl (by simp)) _⟩
/-! ### The power goes and comes back -/
theorem may_gone (w : World) (sb pb lb mb kb fb bb cb n : Nat) (x : Int) (M : OM) (C : List (Int × Nat)) (h : CoreAt w sb pb lb mb kb x M C) (f : Fl) (hp : PtAt w pb fb bb cb 1 n f) (hd : f.dead = true) (cv : Value) :
    Calls Tryz.prog 21 #[Ptr sb, cv] w fun e w' => e = .returned (I 2) ∧ w' = w := by
  have HPD := Lib.hid (pdead_any w pb fb bb cb 1 n f hp)
  rw [hd] at HPD
  obtain ⟨c0, c1, c2, c3, c4, c5⟩ := h.cells
  clear h hp hd
  go_enter Tryz.func21, Tryz.ntmps21
  go_wp2_with (fail)
  refine HPD.out.mono ?_
  rintro e w1 ⟨rfl, rfl⟩
  go_wp2_with (fail)
  go_ret
  exact ⟨rfl, rfl⟩
theorem stold_gone (w : World) (sb pb lb mb kb : Nat) (x : Int) (M : OM) (C : List (Int × Nat)) (h : CoreAt w sb pb lb mb kb x M C) :
    Calls Tryz.prog 22 #[Ptr sb, I 2] w fun e w' => e = .returned (I 2) ∧ CoreX w' sb mb x M true ∧ Kept [sb] w w' := by
  obtain ⟨c0, c1, c2, c3, c4, c5⟩ := h.cells
  have hf := h.free
  have H := Lib.hid h
  clear h
  go_enter Tryz.func22, Tryz.ntmps22
  go_wp2_with (fail)
  go_ret
  have kk : Kept [sb] w (w.setCell ⟨sb, 5, none⟩ (.bool true)) := (Kept.refl _ _).setCell (.inl (by simp)) _
  have hb := heap_setCell_at H.out.blk 5 (.bool true)
  refine ⟨rfl, ⟨?_, ?_, ?_, H.out.ob.kept kk (by simpa using Ne.symm H.out.n1)⟩, kk⟩
  · rw [cell_at hb]; rfl
  · rw [cell_at hb]; rfl
  · rw [cell_at hb]; rfl
theorem put_gone (w : World) (sb pb lb mb kb fb bb cb n : Nat) (x : Int) (M : OM) (C : List (Int × Nat)) (h : CoreAt w sb pb lb mb kb x M C) (f : Fl) (hp : PtAt w pb fb bb cb 1 n f) (hd : f.dead = true) (cv : Value) :
    Calls Tryz.prog 7 #[Ptr sb, cv] w fun e w' => e = .returned (I 2) ∧ CoreX w' sb mb x M true ∧ Kept [sb] w w' := by
  have HM := Lib.hid (may_gone w sb pb lb mb kb fb bb cb n x M C h f hp hd cv)
  have HT := Lib.hid (stold_gone w sb pb lb mb kb x M C h)
  clear h hp hd
  go_enter Tryz.func7, Tryz.ntmps7
  go_wp2_with (fail)
  refine HM.out.mono ?_
  rintro e w1 ⟨rfl, hw⟩
  replace hw := hw.symm
  subst hw
  go_wp2_with (fail)
  refine HT.out.mono ?_
  rintro e w2 ⟨rfl, h2, k2⟩
  have H2 := Lib.hid (And.intro h2 k2)
  clear h2 k2
  go_wp2_with (fail)
  go_ret
  exact ⟨rfl, H2.out.1, H2.out.2⟩
/-- What is so of a store and its flash, but for the memory. -/
structure PureS (n : Nat) (V : OM) (d : Nat) (st : St) (f : Fl) : Prop where
  srt : SortedA V
  live : f.dead = false ∧ f.armed = 0
  fl : FlOK n f st
  inv : InvS n st
  good : GoodS n st f
  few : st.D ≤ d
  val : ∀ k, valM st.M k = valM V k
/-- A store with its flash and its blocks told. -/
def STF (w : World) (fb sb n : Nat) (V : OM) (d : Nat) (T : List Nat) : Prop := ∃ bb cb pb lb mb kb v, T = pb :: StT sb lb fb bb cb mb kb v ∧ SV w sb lb pb fb bb cb mb kb n v V d
/-- The power is gone. -/
def Gone1 (w : World) (fb sb n : Nat) (V : OM) (d : Nat) (T : List Nat) : Prop :=
  ∃ bb cb pb lb mb kb st f C, PureS n V d st f ∧ CoreAt w sb pb lb mb kb (sumA wO st.M) st.M C ∧ PtAt w pb fb bb cb 1 n { f with dead := true, armed := 0 } ∧ sb ∉ [pb, fb, bb, cb] ∧ (∀ x ∈ [sb, pb, fb, bb, cb], x ∈ T) ∧ (∀ x ∈ T, x < w.heap.size)
/-- .. and the store knows it. -/
def Gone2 (w : World) (fb sb n : Nat) (V : OM) (d : Nat) (T : List Nat) : Prop :=
  ∃ bb cb mb st f, PureS n V d st f ∧ CoreX w sb mb (sumA wO st.M) st.M true ∧ FlAt w fb bb cb { f with dead := true, armed := 0 } ∧ (∀ x ∈ [fb, bb, cb], x ∈ T) ∧ (∀ x ∈ T, x < w.heap.size)
/-- The power is back. -/
def Gone3 (w : World) (fb n : Nat) (V : OM) (d : Nat) (T : List Nat) : Prop :=
  ∃ bb cb st f, PureS n V d st f ∧ FlAt w fb bb cb f ∧ (∀ x ∈ [fb, bb, cb], x ∈ T) ∧ (∀ x ∈ T, x < w.heap.size)
section
variable {w : World} {fb sb n : Nat} {V : OM} {d : Nat} {T : List Nat}
theorem PureS.rd {st : St} {f : Fl} {mb : Nat} {dd : Bool} (h : PureS n V d st f) (hn : n ≤ 256) (hc : CoreX w sb mb (sumA wO st.M) st.M dd) : RD w sb V :=
  ⟨h.srt, mb, st.M, dd, hc, h.inv.sorted, h.val, om_keys h.inv, by have := h.good.quota; unfold quotaF at this; omega, vals_of h.inv⟩
theorem STF.lt (h : STF w fb sb n V d T) : ∀ x ∈ T, x < w.heap.size := by
  obtain ⟨bb, cb, pb, lb, mb, kb, v, rfl, h⟩ := h
  intro x hx
  rcases List.mem_cons.1 hx with rfl | hx
  · exact h.lt.2
  · exact h.lt.1 x hx
theorem STF.same {w' : World} (h : STF w fb sb n V d T) (k : Kept [] w w') : STF w' fb sb n V d T := by
  obtain ⟨bb, cb, pb, lb, mb, kb, v, e, h⟩ := h
  exact ⟨bb, cb, pb, lb, mb, kb, v, e, h.same k⟩
theorem STF.kept {w' : World} {U : List Nat} (h : STF w fb sb n V d T) (k : Kept U w w') (hU : ∀ x ∈ U, x ∉ T) : STF w' fb sb n V d T := by
  obtain ⟨bb, cb, pb, lb, mb, kb, v, e, h⟩ := h
  subst e
  exact ⟨bb, cb, pb, lb, mb, kb, v, rfl, h.kept k (fun x hx => by have := hU x hx; simp only [List.mem_cons, not_or] at this; exact ⟨this.2, this.1⟩)⟩
theorem STF.rd (h : STF w fb sb n V d T) : RD w sb V := by
  obtain ⟨bb, cb, pb, lb, mb, kb, v, e, h⟩ := h
  exact sv_rd h
theorem STF.small (h : STF w fb sb n V d T) : 8 ≤ n ∧ n ≤ 255 ∧ sumA wO V ≤ quotaF n ∧ quotaF n ≤ 2000 := by
  obtain ⟨bb, cb, pb, lb, mb, kb, v, e, h⟩ := h
  exact h.small
theorem STF.mono {d' : Nat} (h : STF w fb sb n V d T) (hd : d ≤ d') : STF w fb sb n V d' T := by
  obtain ⟨bb, cb, pb, lb, mb, kb, v, e, h0, st, f, h1, h2, h3, h4⟩ := h
  exact ⟨bb, cb, pb, lb, mb, kb, v, e, h0, st, f, h1, h2, Nat.le_trans h3 hd, h4⟩
theorem stf_may (h : STF w fb sb n V d T) (l : List Ch) (cv : Value) (hv : ChsAt w cv l) (hl : l.length ≤ 4611686018427387904) :
    Calls Tryz.prog 21 #[Ptr sb, cv] w fun e w' => e = .returned (I (mayF n V l)) ∧ Kept [] w w' := by
  have hsm := h.small
  obtain ⟨bb, cb, pb, lb, mb, kb, v, e, h0, st, f, h1, h2, h3, h4⟩ := h
  have := may_any w sb lb pb fb bb cb mb kb n v st f h1 hsm.1 (by have := h2.quota; omega) l cv hv hl
  rw [mayF_val (n := n) h1.inv.sorted h0 h4 l] at this
  exact this
theorem stf_put (h : STF w fb sb n V d T) (hd : d ≤ 800000000) (l : List Ch) (cv : Value) (hv : ChsAt w cv l) (hvq : l ≠ [] → ∀ q, cv.ownBlock = some q → q ∉ T) (hl : l.length ≤ 4611686018427387904) :
    Calls Tryz.prog 7 #[Ptr sb, cv] w fun e w' => e = .returned (I (mayF n V l)) ∧ ∃ T', STF w' fb sb n (putF n V l) (d + n) T' ∧ Kept T w w' ∧ (∀ x ∈ T', x ∈ T ∨ w.heap.size ≤ x) := by
  obtain ⟨bb, cb, pb, lb, mb, kb, v, e, h⟩ := h
  subst e
  refine (sv_put h hd l cv hv (fun hne q hq hm => hvq hne q hq (List.mem_cons_of_mem _ hm)) hl).mono ?_
  rintro e w' ⟨rfl, v', hfr, hs, hk⟩
  refine ⟨rfl, _, ⟨bb, cb, pb, lb, mb, kb, v', rfl, hs⟩, hk.mono (fun x hx => List.mem_cons_of_mem _ hx), fun x hx => ?_⟩
  rcases List.mem_cons.1 hx with rfl | hx
  · exact .inl List.mem_cons_self
  · rcases stT_fresh hfr x hx with h1 | h1
    · exact .inl (List.mem_cons_of_mem _ h1)
    · exact .inr h1
theorem stf_quota (h : STF w fb sb n V d T) : Calls Tryz.prog 36 #[Ptr sb] w fun e w' => e = .returned (I (quotaF n : Nat)) ∧ w' = w := by
  obtain ⟨bb, cb, pb, lb, mb, kb, v, e, h⟩ := h
  exact sv_quota h
theorem stf_dead (h : STF w fb sb n V d T) : Calls Tryz.prog 11 #[Ptr sb] w fun e w' => e = .returned (.bool false) ∧ w' = w := by
  obtain ⟨bb, cb, pb, lb, mb, kb, v, e, h0, st, f, h1, _⟩ := h
  obtain ⟨C, hc, _⟩ := h1.core
  exact xdead_any w sb mb _ _ false hc.toX
theorem stf_crash (h : STF w fb sb n V d T) : Calls Tryz.prog 9 #[Ptr fb] w fun e w' => e = .returned (I 0) ∧ Gone1 w' fb sb n V d T ∧ Kept T w w' := by
  have hlt := h.lt
  obtain ⟨bb, cb, pb, lb, mb, kb, v, rfl, h0, st, f, h1, h2, h3, h4⟩ := h
  obtain ⟨C, hc, hct⟩ := h1.core
  refine (crash_any w fb bb cb f h1.lg.pt.fl h1.live.1).mono ?_
  rintro e w' ⟨rfl, hf, k⟩
  have hs : ∀ x ∈ [sb, mb, kb], x ∉ [fb] := fun x hx hm => by
    have hx2 := (h1.sep x hx).1
    have : x = fb := by simpa using hm
    subst this
    exact hx2 (by simp [LgT])
  refine ⟨rfl, ⟨bb, cb, pb, lb, mb, kb, st, f, C, ⟨h0, h1.live, h1.fl, h1.inv, h2, h3, h4⟩, hc.kept k (hs _ (by simp)) (hs _ (by simp)) (hs _ (by simp)), h1.lg.pt.turned (k.mono (by simp)) hf rfl, ?_, fun x hx => ?_, fun x hx => Nat.lt_of_lt_of_le (hlt x hx) k.size⟩, k.mono (fun x hx => ?_)⟩
  · have hx := h1.sep sb (by simp)
    intro hm
    simp at hm
    rcases hm with hm | hm | hm | hm
    · exact hx.2 hm
    · exact hx.1 (by simp [LgT, hm])
    · exact hx.1 (by simp [LgT, hm])
    · exact hx.1 (by simp [LgT, hm])
  · simp only [List.mem_cons, List.not_mem_nil, or_false] at hx
    rcases hx with rfl | rfl | rfl | rfl | rfl <;> simp [StT, LgT]
  · have : x = fb := by simpa using hx
    subst this
    simp [StT, LgT]
theorem gone_may (h : Gone1 w fb sb n V d T) (cv : Value) : Calls Tryz.prog 21 #[Ptr sb, cv] w fun e w' => e = .returned (I 2) ∧ w' = w := by
  obtain ⟨bb, cb, pb, lb, mb, kb, st, f, C, hp, hc, hpt, _⟩ := h
  exact may_gone w sb pb lb mb kb fb bb cb n _ _ C hc _ hpt rfl cv
theorem gone_put (h : Gone1 w fb sb n V d T) (cv : Value) : Calls Tryz.prog 7 #[Ptr sb, cv] w fun e w' => e = .returned (I 2) ∧ Gone2 w' fb sb n V d T ∧ Kept T w w' := by
  obtain ⟨bb, cb, pb, lb, mb, kb, st, f, C, hp, hc, hpt, hs, hT, hlt⟩ := h
  refine (put_gone w sb pb lb mb kb fb bb cb n _ _ C hc _ hpt rfl cv).mono ?_
  rintro e w' ⟨rfl, hx, k⟩
  simp only [List.mem_cons, List.not_mem_nil, or_false, not_or] at hs
  exact ⟨rfl, ⟨bb, cb, mb, st, f, hp, hx, hpt.fl.kept k (by simpa using Ne.symm hs.2.1) (by simpa using Ne.symm hs.2.2.1) (by simpa using Ne.symm hs.2.2.2), fun x hx => hT x (by simp at hx ⊢; omega), fun x hx => Nat.lt_of_lt_of_le (hlt x hx) k.size⟩, k.mono (fun x hx => by
    have : x = sb := by simpa using hx
    subst this
    exact hT x (by simp))⟩
theorem Gone2.rd (h : Gone2 w fb sb n V d T) : RD w sb V := by
  obtain ⟨bb, cb, mb, st, f, hp, hx, hf, _⟩ := h
  have := hp.good.cs.2.2
  have h2 := hf.few
  have h3 : f.cs.length ≤ 256 := h2
  exact hp.rd (by omega) hx
theorem Gone2.same {w' : World} (h : Gone2 w fb sb n V d T) (k : Kept [] w w') : Gone2 w' fb sb n V d T := by
  obtain ⟨bb, cb, mb, st, f, hp, hx, hf, hT, hB⟩ := h
  exact ⟨bb, cb, mb, st, f, hp, hx.same k, hf.same k, hT, fun x hx => Nat.lt_of_lt_of_le (hB x hx) k.size⟩
theorem gone_dead (h : Gone2 w fb sb n V d T) : Calls Tryz.prog 11 #[Ptr sb] w fun e w' => e = .returned (.bool true) ∧ w' = w := by
  obtain ⟨bb, cb, mb, st, f, hp, hx, _⟩ := h
  exact xdead_any w sb mb _ _ true hx
theorem gone_revive (h : Gone2 w fb sb n V d T) : Calls Tryz.prog 34 #[Ptr fb] w fun e w' => e = .returned (.tuple #[]) ∧ Gone3 w' fb n V d T ∧ Kept T w w' := by
  obtain ⟨bb, cb, mb, st, f, hp, hx, hf, hT, hB⟩ := h
  refine (revive_any w fb bb cb _ hf).mono ?_
  rintro e w' ⟨rfl, hf2, k⟩
  have e2 : ({ ({ f with dead := true, armed := 0 } : Fl) with dead := false, armed := 0 } : Fl) = f := by
    have h1 := hp.live.1
    have h2 := hp.live.2
    cases f
    simp at h1 h2
    subst h1 h2
    rfl
  rw [e2] at hf2
  exact ⟨rfl, ⟨bb, cb, st, f, hp, hf2, hT, fun x hx => Nat.lt_of_lt_of_le (hB x hx) k.size⟩, k.mono (fun x hx => by
    have : x = fb := by simpa using hx
    subst this
    exact hT x (by simp))⟩
/-- .. and a part of it is made. -/
def Gone4 (w : World) (fb pb n : Nat) (V : OM) (d : Nat) (T : List Nat) : Prop :=
  ∃ bb cb st f, PureS n V d st f ∧ PtAt w pb fb bb cb 1 n f ∧ (∀ x ∈ [pb, fb, bb, cb], x ∈ T) ∧ (∀ x ∈ T, x < w.heap.size)
theorem gone_over (h : Gone3 w fb n V d T) : Calls Tryz.prog 17 #[Ptr fb] w fun e w' => ∃ pb, e = .returned (Ptr pb) ∧ ∃ T', Gone4 w' fb pb n V d T' ∧ Kept [] w w' ∧ (∀ x ∈ T', x ∈ T ∨ w.heap.size ≤ x) := by
  obtain ⟨bb, cb, st, f, hp, hf, hT, hB⟩ := h
  have hcs := hp.good.cs.2.2
  have h8 := hp.good.eight
  refine (over_any w fb bb cb n f hf (by omega) hcs).mono ?_
  rintro e w1 ⟨pb, rfl, hpb, hpt, k1⟩
  refine ⟨pb, rfl, [pb, fb, bb, cb], ⟨bb, cb, st, f, hp, hpt, fun x hx => hx, fun x hx => ?_⟩, k1, fun x hx => ?_⟩
  · rcases List.mem_cons.1 hx with rfl | hx
    · exact lt_of_block hpt.blk
    · exact Nat.lt_of_lt_of_le (hB x (hT x hx)) k1.size
  · rcases List.mem_cons.1 hx with rfl | hx
    · exact .inr hpb
    · exact .inl (hT x hx)
theorem gone_open {pb : Nat} (h : Gone4 w fb pb n V d T) (hd : d ≤ 900000000) : Calls Tryz.prog 35 #[Ptr pb] w fun e w' => ∃ sb', e = .returned (.tuple #[Ptr sb', I 0]) ∧ ∃ T', STF w' fb sb' n V d T' ∧ Kept [] w w' ∧ (∀ x ∈ T', x ∈ T ∨ w.heap.size ≤ x) := by
  obtain ⟨bb, cb, st, f, hp, hpt, hT, hB⟩ := h
  refine (oopen_any w pb fb bb cb n f st hpt hp.live.1 hp.live.2 hp.good.eight hp.fl hp.inv hp.good.free hp.good.quota (by have := hp.few; omega)).mono ?_
  rintro e w2 ⟨sb', lb, mb, kb, v, rfl, hs, b1, b2, b3, b4, b5, k2⟩
  refine ⟨sb', rfl, _, ⟨bb, cb, pb, lb, mb, kb, v, rfl, hp.srt, st, f, hs, hp.good, hp.few, hp.val⟩, k2, fun x hx => ?_⟩
  simp only [StT, LgT, List.mem_append, Option.mem_toList, List.mem_cons, List.not_mem_nil, or_false] at hx
  rcases hx with rfl | (rfl | rfl | rfl) | (rfl | rfl | rfl | rfl) | hx
  · exact .inl (hT _ (by simp))
  · exact .inr b1
  · exact .inr b3
  · exact .inr b4
  · exact .inr b2
  · exact .inl (hT _ (by simp))
  · exact .inl (hT _ (by simp))
  · exact .inl (hT _ (by simp))
  · exact .inr (b5 x (by simpa using hx))
end

end Go.Proofs.YtncdfaocemfgfaaGreat
