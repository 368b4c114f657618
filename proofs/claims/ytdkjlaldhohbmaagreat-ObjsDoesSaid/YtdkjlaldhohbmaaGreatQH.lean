/- Walks and lemmas on the program of this seat, used by its statements; each theorem bears its own conditions. -/
import Derived.Test.YtdkjlaldhohbmaaGreatQF
import Derived.Test.YtdkjlaldhohbmaaGreatQG
import Derived.Handy
import Derived.OwnWalk
import Derived.Deep.AppendLies
import Derived.IntWalk
import Derived.Deep.CutRange
import Derived.Deep.RegionHeld3
import Derived.Deep.RegionLaw
import Derived.Maps.OwnSet
import Derived.Maps.Range
import Derived.Deep.OwnRows
import Derived.Shelf.SlMaps.Clone
import Derived.Laws.CopyOwn
import Derived.Laws.IdiomCopy
namespace Go.Proofs.YtdkjlaldhohbmaaGreat
open Go.RowKit
set_option linter.unusedVariables false
set_option linter.unusedSimpArgs false
set_option maxHeartbeats 8000000
set_option maxRecDepth 100000
/-! ### A clone of the flash and of its store -/
def Cl1 (w : World) (fb sb fb2 n : Nat) (V : OM) (d : Nat) (T : List Nat) : Prop :=
  ∃ bb cb pb lb mb kb v st f bb2 cb2, PureS n V d st f ∧ SAt w sb lb pb fb bb cb mb kb n v st f ∧ (∀ x ∈ pb :: StT sb lb fb bb cb mb kb v, x ∈ T) ∧ FlAt w fb2 bb2 cb2 f ∧ (∀ x ∈ [fb2, bb2, cb2], x ∈ T ∧ x ∉ pb :: StT sb lb fb bb cb mb kb v) ∧ (∀ x ∈ T, x < w.heap.size)
def Cl2 (w : World) (fb sb fb2 pb2 n : Nat) (V : OM) (d : Nat) (T : List Nat) : Prop :=
  ∃ bb cb pb lb mb kb v st f bb2 cb2, PureS n V d st f ∧ SAt w sb lb pb fb bb cb mb kb n v st f ∧ (∀ x ∈ pb :: StT sb lb fb bb cb mb kb v, x ∈ T) ∧ PtAt w pb2 fb2 bb2 cb2 1 n f ∧ (∀ x ∈ [pb2, fb2, bb2, cb2], x ∈ T ∧ x ∉ pb :: StT sb lb fb bb cb mb kb v) ∧ (∀ x ∈ T, x < w.heap.size)
def Cl3 (w : World) (fb sb fb2 sb2 n : Nat) (V : OM) (d : Nat) (T : List Nat) : Prop :=
  ∃ T1 T2, STF w fb sb n V d T1 ∧ STF w fb2 sb2 n V d T2 ∧ (∀ x ∈ T1, x ∈ T ∧ x ∉ T2) ∧ (∀ x ∈ T2, x ∈ T) ∧ (∀ x ∈ T, x < w.heap.size)
def Cl4 (w : World) (fb fb2 sb2 n : Nat) (V : OM) (d : Nat) (T : List Nat) : Prop :=
  ∃ T2 bb cb f, FlAt w fb bb cb f ∧ f.dead = false ∧ f.armed = 0 ∧ 2 ≤ f.cs.length ∧ STF w fb2 sb2 n V d T2 ∧ (∀ x ∈ [fb, bb, cb], x ∈ T ∧ x ∉ T2) ∧ (∀ x ∈ T2, x ∈ T) ∧ (∀ x ∈ T, x < w.heap.size)
section
variable {w : World} {fb sb fb2 sb2 pb2 n : Nat} {V : OM} {d : Nat} {T : List Nat}
theorem stf_fclone (h : STF w fb sb n V d T) : Calls Tryz.prog 30 #[Ptr fb] w fun e w' => ∃ fb2, e = .returned (Ptr fb2) ∧ ∃ T', Cl1 w' fb sb fb2 n V d T' ∧ Kept [] w w' ∧ (∀ x ∈ T', x ∈ T ∨ w.heap.size ≤ x) := by
  have hlt := h.lt
  obtain ⟨bb, cb, pb, lb, mb, kb, v, rfl, h0, st, f, h1, h2, h3, h4⟩ := h
  refine (fclone_any w fb bb cb f h1.lg.pt.fl).mono ?_
  rintro e w' ⟨fb2, bb2, cb2, rfl, g1, g2, g3, hf, k⟩
  have hb1 := hf.lt
  have hb2 := hf.lt2
  have hb3 := hf.lt3
  have hks := k.size
  refine ⟨fb2, rfl, pb :: StT sb lb fb bb cb mb kb v ++ [fb2, bb2, cb2], ⟨bb, cb, pb, lb, mb, kb, v, st, f, bb2, cb2, ⟨h0, h1.live, h1.fl, h1.inv, h2, h3, h4⟩, h1.same k, fun x hx => List.mem_append_left _ hx, hf, fun x hx => ⟨List.mem_append_right _ hx, fun hm => ?_⟩, fun x hx => ?_⟩, k, fun x hx => ?_⟩
  · have := hlt x hm
    simp only [List.mem_cons, List.not_mem_nil, or_false] at hx
    omega
  · rcases List.mem_append.1 hx with hx | hx
    · have := hlt x hx; omega
    · simp only [List.mem_cons, List.not_mem_nil, or_false] at hx
      omega
  · rcases List.mem_append.1 hx with hx | hx
    · exact .inl hx
    · simp only [List.mem_cons, List.not_mem_nil, or_false] at hx
      exact .inr (by omega)
theorem cl_over (h : Cl1 w fb sb fb2 n V d T) : Calls Tryz.prog 29 #[Ptr fb2] w fun e w' => ∃ pb2, e = .returned (Ptr pb2) ∧ ∃ T', Cl2 w' fb sb fb2 pb2 n V d T' ∧ Kept [] w w' ∧ (∀ x ∈ T', x ∈ T ∨ w.heap.size ≤ x) := by
  obtain ⟨bb, cb, pb, lb, mb, kb, v, st, f, bb2, cb2, hp, hs, hT, hf, hT2, hlt⟩ := h
  have hcs := hp.good.cs.2.2
  have h8 := hp.good.eight
  refine (over_any w fb2 bb2 cb2 n f hf (by omega) hcs).mono ?_
  rintro e w' ⟨pb2, rfl, hpb, hpt, k⟩
  have hpl := lt_of_block hpt.blk
  refine ⟨pb2, rfl, pb2 :: T, ⟨bb, cb, pb, lb, mb, kb, v, st, f, bb2, cb2, hp, hs.same k, fun x hx => List.mem_cons_of_mem _ (hT x hx), hpt, fun x hx => ?_, fun x hx => ?_⟩, k, fun x hx => ?_⟩
  · rcases List.mem_cons.1 hx with rfl | hx
    · exact ⟨List.mem_cons_self, fun hm => by have := hlt _ (hT _ hm); omega⟩
    · exact ⟨List.mem_cons_of_mem _ (hT2 x hx).1, (hT2 x hx).2⟩
  · rcases List.mem_cons.1 hx with rfl | hx
    · exact hpl
    · exact Nat.lt_of_lt_of_le (hlt x hx) k.size
  · rcases List.mem_cons.1 hx with rfl | hx
    · exact .inr hpb
    · exact .inl hx
theorem cl_clone (h : Cl2 w fb sb fb2 pb2 n V d T) : Calls Tryz.prog 31 #[Ptr sb, Ptr pb2] w fun e w' => ∃ sb2, e = .returned (Ptr sb2) ∧ ∃ T', Cl3 w' fb sb fb2 sb2 n V d T' ∧ Kept [] w w' ∧ (∀ x ∈ T', x ∈ T ∨ w.heap.size ≤ x) := by
  obtain ⟨bb, cb, pb, lb, mb, kb, v, st, f, bb2, cb2, hp, hs, hT, hpt, hT2, hlt⟩ := h
  refine (oclone_any w sb lb pb fb bb cb mb kb n v st f hs pb2 fb2 bb2 cb2 hpt).mono ?_
  rintro e w' ⟨sb2, lb2, mb2, kb2, v2, rfl, hs2, g1, g2, g3, g4, g5, k⟩
  have hlt2 := stT_lt hs2
  have hfr : ∀ x ∈ pb2 :: StT sb2 lb2 fb2 bb2 cb2 mb2 kb2 v2, x ∈ [pb2, fb2, bb2, cb2] ∨ w.heap.size ≤ x := fun x hx => by
    simp only [StT, LgT, List.mem_append, Option.mem_toList, List.mem_cons, List.not_mem_nil, or_false] at hx
    rcases hx with rfl | (rfl | rfl | rfl) | (rfl | rfl | rfl | rfl) | hx
    · exact .inl (by simp)
    · exact .inr g1
    · exact .inr g3
    · exact .inr g4
    · exact .inr g2
    · exact .inl (by simp)
    · exact .inl (by simp)
    · exact .inl (by simp)
    · exact .inr (g5 x (by simpa using hx))
  refine ⟨sb2, rfl, T ++ (pb2 :: StT sb2 lb2 fb2 bb2 cb2 mb2 kb2 v2), ⟨_, _, ⟨bb, cb, pb, lb, mb, kb, v, rfl, hp.srt, st, f, hs.same k, hp.good, hp.few, hp.val⟩, ⟨bb2, cb2, pb2, lb2, mb2, kb2, v2, rfl, hp.srt, st, f, hs2, hp.good, hp.few, hp.val⟩, fun x hx => ⟨List.mem_append_left _ (hT x hx), fun hm => ?_⟩, fun x hx => List.mem_append_right _ hx, fun x hx => ?_⟩, k, fun x hx => ?_⟩
  · rcases hfr x hm with h1 | h1
    · exact (hT2 x h1).2 hx
    · have := hlt x (hT x hx); omega
  · rcases List.mem_append.1 hx with hx | hx
    · exact Nat.lt_of_lt_of_le (hlt x hx) k.size
    · rcases List.mem_cons.1 hx with rfl | hx
      · exact hlt2.2
      · exact hlt2.1 x hx
  · rcases List.mem_append.1 hx with hx | hx
    · exact .inl hx
    · rcases hfr x hx with h1 | h1
      · exact .inl (hT2 x h1).1
      · exact .inr h1
theorem cl_put (h : Cl3 w fb sb fb2 sb2 n V d T) (hd : d ≤ 800000000) (l : List Ch) (cv : Value) (hv : ChsAt w cv l) (hvq : l ≠ [] → ∀ q, cv.ownBlock = some q → q ∉ T) (hl : l.length ≤ 4611686018427387904) :
    Calls Tryz.prog 12 #[Ptr sb, cv] w fun e w' => e = .returned (I (mayF n V l)) ∧ ∃ T', Cl4 w' fb fb2 sb2 n V d T' ∧ Kept T w w' ∧ (∀ x ∈ T', x ∈ T ∨ w.heap.size ≤ x) := by
  obtain ⟨T1, T2, h1, h2, hT1, hT2, hlt⟩ := h
  refine (stf_put h1 hd l cv hv (fun hne q hq hm => hvq hne q hq (hT1 q hm).1) hl).mono ?_
  rintro e w' ⟨rfl, T1', hs, k, hfr⟩
  have hl1 := hs.lt
  obtain ⟨bb, cb, pb, lb, mb, kb, v, rfl, h0, st, f, g1, g2, g3, g4⟩ := hs
  have hl2 := h2.lt
  refine ⟨rfl, (pb :: StT sb lb fb bb cb mb kb v) ++ T2, ⟨T2, bb, cb, f, g1.lg.pt.fl, g1.live.1, g1.live.2, by have := g2.cs.2.2; have := g2.eight; omega, h2.kept k (fun x hx => (hT1 x hx).2), fun x hx => ?_, fun x hx => List.mem_append_right _ hx, fun x hx => ?_⟩, k.mono (fun x hx => (hT1 x hx).1), fun x hx => ?_⟩
  · have hm : x ∈ pb :: StT sb lb fb bb cb mb kb v := by
      simp only [List.mem_cons, List.not_mem_nil, or_false] at hx
      rcases hx with rfl | rfl | rfl <;> simp [StT, LgT]
    refine ⟨List.mem_append_left _ hm, fun hm2 => ?_⟩
    rcases hfr x hm with h | h
    · exact (hT1 x h).2 hm2
    · have := hl2 x hm2; omega
  · rcases List.mem_append.1 hx with hx | hx
    · exact hl1 x hx
    · exact Nat.lt_of_lt_of_le (hl2 x hx) k.size
  · rcases List.mem_append.1 hx with hx | hx
    · rcases hfr x hx with h | h
      · exact .inl (hT1 x h).1
      · exact .inr h
    · exact .inl (hT2 x hx)
theorem cl_erase (h : Cl4 w fb fb2 sb2 n V d T) : Calls Tryz.prog 32 #[Ptr fb, I 1] w fun e w' => e = .returned (I 0) ∧ ∃ T', STF w' fb2 sb2 n V d T' ∧ Kept T w w' ∧ (∀ x ∈ T', x ∈ T ∨ w.heap.size ≤ x) := by
  obtain ⟨T2, bb, cb, f, hf, hd, ha, h2, hs, hT, hT2, hlt⟩ := h
  refine (erase_any w fb bb cb f hf hd ha 1 (by omega)).mono ?_
  rintro e w' ⟨rfl, hf2, k⟩
  exact ⟨rfl, T2, hs.kept k (fun x hx => (hT x hx).2), k.mono (fun x hx => (hT x hx).1), fun x hx => .inl (hT2 x hx)⟩
end
end Go.Proofs.YtdkjlaldhohbmaaGreat
