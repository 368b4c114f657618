/- Walks and lemmas on the program of this seat, used by its statements; each theorem bears its own conditions. -/
import Derived.Test.YtdkjlaldhohbmaaGreatQH
import Derived.Test.YtdkjlaldhohbmaaGreatQK
import Derived.Test.YtdkjlaldhohbmaaGreatQJ
import Derived.Handy
import Derived.OwnWalk
import Derived.Deep.AppendLies
import Derived.IntWalk
import Derived.Deep.CutRange
import Derived.Deep.RegionHeld3
import Derived.Deep.RegionLaw
import Derived.Maps.OwnSet
import Derived.Maps.Range
import Derived.Deep.OwnRows
import Derived.Shelf.SlMaps.Clone
import Derived.Laws.CopyOwn
import Derived.Laws.IdiomCopy
namespace Go.Proofs.YtdkjlaldhohbmaaGreat
open Go.RowKit
set_option linter.unusedVariables false
set_option linter.unusedSimpArgs false
set_option maxHeartbeats 8000000
set_option maxRecDepth 100000
/-! ### The law's worlds -/
/-- P holds of blocks T, made behind W; the blocks U, apart from them, are as they were in Wr. -/
def LW (W Wr : World) (U : List Nat) (P : World → List Nat → Prop) (w : World) : Prop :=
  ∃ T, P w T ∧ (∀ x ∈ T, x < w.heap.size) ∧ (∀ x ∈ U, x ∉ T ∧ x < w.heap.size ∧ w.heap[x]? = Wr.heap[x]?) ∧ (∀ x ∈ T, W.heap.size ≤ x) ∧ Kept [] W w
section
variable {W Wr w : World} {U : List Nat} {P : World → List Nat → Prop}
theorem LW.old (h : LW W Wr U P w) : Kept [] W w := by obtain ⟨T, h1, h2, h3, h4, h5⟩ := h; exact h5
theorem LW.cell (h : LW W Wr U P w) {b i : Nat} {v : Value} (hb : b ∈ U) (hc : Wr.cell? ⟨b, i, none⟩ = some v) : w.cell? ⟨b, i, none⟩ = some v := by
  obtain ⟨T, h1, h2, h3, h4, h5⟩ := h
  exact (World.cell?_of_block (w := Wr) (h3 b hb).2.2).trans hc
theorem LW.ps (h : LW W Wr U P w) {v : Value} {l : VL} (hp : PsAt Wr v l) (hq : ∀ q, v.ownBlock = some q → q ∈ U) : PsAt w v l := by
  obtain ⟨p, c, g, rfl, hp, hc⟩ := hp
  refine ⟨p, c, g, rfl, hp, fun i hi => ?_⟩
  have e := hp (by intro h; rw [h] at hi; simp at hi)
  subst e
  have hg := hq g rfl
  exact ⟨h.cell hg (hc i hi).1, h.cell hg (hc i hi).2⟩
theorem LW.rebase (h : LW W Wr U P w) : LW W w U P w := by
  obtain ⟨T, h1, h2, h3, h4, h5⟩ := h
  exact ⟨T, h1, h2, fun x hx => ⟨(h3 x hx).1, (h3 x hx).2.1, rfl⟩, h4, h5⟩
theorem LW.sub {U' : List Nat} (h : LW W Wr U P w) (hU : ∀ x ∈ U', x ∈ U) : LW W Wr U' P w := by
  obtain ⟨T, h1, h2, h3, h4, h5⟩ := h
  exact ⟨T, h1, h2, fun x hx => h3 x (hU x hx), h4, h5⟩
/-- Nothing but new memory. -/
theorem LW.same (h : LW W Wr U P w) {w' : World} (k : Kept [] w w') (hP : ∀ T, P w T → P w' T) : LW W Wr U P w' := by
  obtain ⟨T, h1, h2, h3, h4, h5⟩ := h
  exact ⟨T, hP T h1, fun x hx => Nat.lt_of_lt_of_le (h2 x hx) k.size, fun x hx => ⟨(h3 x hx).1, Nat.lt_of_lt_of_le (h3 x hx).2.1 k.size, (k.block x (h3 x hx).2.1 (by simp)).trans (h3 x hx).2.2⟩, h4, h5.trans' k⟩
/-- A new block is to stay, too. -/
theorem LW.add (h : LW W Wr U P w) {w' : World} (k : Kept [] w w') (hP : ∀ T, P w T → P w' T) {b : Nat} (hb : w.heap.size ≤ b) (hb2 : b < w'.heap.size) : LW W w' (b :: U) P w' := by
  obtain ⟨T, h1, h2, h3, h4, h5⟩ := h
  refine ⟨T, hP T h1, fun x hx => Nat.lt_of_lt_of_le (h2 x hx) k.size, fun x hx => ?_, h4, h5.trans' k⟩
  rcases List.mem_cons.1 hx with rfl | hx
  · exact ⟨fun hm => by have := h2 x hm; omega, hb2, rfl⟩
  · exact ⟨(h3 x hx).1, Nat.lt_of_lt_of_le (h3 x hx).2.1 k.size, rfl⟩
theorem LW.turn (h : LW W Wr U P w) {f : Nat} {args : Array Value} {A : Type} (R : A → Ending → Prop) (Q : A → World → List Nat → Prop)
    (hc : ∀ T, P w T → Calls Tryz.prog f args w (fun e w' => ∃ a, R a e ∧ ∃ T', Q a w' T' ∧ (∀ x ∈ T', x < w'.heap.size) ∧ Kept T w w' ∧ (∀ x ∈ T', x ∈ T ∨ w.heap.size ≤ x))) :
    Calls Tryz.prog f args w (fun e w' => ∃ a, R a e ∧ LW W Wr U (Q a) w') := by
  obtain ⟨T, h1, h2, h3, h4, h5⟩ := h
  refine (hc T h1).mono ?_
  rintro e w' ⟨a, hR, T', hQ, hlt, k, hfr⟩
  have hWs := h5.size
  refine ⟨a, hR, T', hQ, hlt, fun x hx => ⟨fun hm => ?_, Nat.lt_of_lt_of_le (h3 x hx).2.1 k.size, (k.block x (h3 x hx).2.1 (h3 x hx).1).trans (h3 x hx).2.2⟩, fun x hx => ?_, h5.new k (fun x hx => h4 x hx)⟩
  · rcases hfr x hm with h | h
    · exact (h3 x hx).1 h
    · have := (h3 x hx).2.1; omega
  · rcases hfr x hx with h | h
    · exact h4 x h
    · omega
/-- What a pure look tells. -/
theorem LW.look (h : LW W Wr U P w) {f : Nat} {args : Array Value} {R : Ending → World → Prop} (hc : ∀ T, P w T → Calls Tryz.prog f args w R) : Calls Tryz.prog f args w R := by
  obtain ⟨T, h1, _⟩ := h
  exact hc T h1
end
abbrev PST (fb sb n : Nat) (V : OM) (d : Nat) : World → List Nat → Prop := fun w T => STF w fb sb n V d T
section
variable {W Wr w : World} {U : List Nat} {fb sb n : Nat} {V : OM} {d : Nat}
theorem lw_crash (h : LW W Wr U (PST fb sb n V d) w) : Calls Tryz.prog 21 #[Ptr fb] w fun e w' => e = .returned (I 0) ∧ LW W Wr U (fun w T => Gone1 w fb sb n V d T) w' := by
  refine (h.turn (A := Unit) (fun _ e => e = .returned (I 0)) (fun _ w T => Gone1 w fb sb n V d T) (fun T hT => (stf_crash hT).mono ?_)).mono ?_
  · rintro e w' ⟨rfl, h1, k⟩
    refine ⟨(), rfl, T, h1, ?_, k, fun x hx => .inl hx⟩
    obtain ⟨_, _, _, _, _, _, _, _, _, _, _, _, _, _, hl⟩ := h1
    exact hl
  · rintro e w' ⟨_, hR, hQ⟩; exact ⟨hR, hQ⟩
theorem lw_gmay (h : LW W Wr U (fun w T => Gone1 w fb sb n V d T) w) (cv : Value) : Calls Tryz.prog 26 #[Ptr sb, cv] w fun e w' => e = .returned (I 2) ∧ w' = w := h.look (fun T hT => gone_may hT cv)
theorem lw_gput (h : LW W Wr U (fun w T => Gone1 w fb sb n V d T) w) (cv : Value) : Calls Tryz.prog 12 #[Ptr sb, cv] w fun e w' => e = .returned (I 2) ∧ LW W Wr U (fun w T => Gone2 w fb sb n V d T) w' := by
  refine (h.turn (A := Unit) (fun _ e => e = .returned (I 2)) (fun _ w T => Gone2 w fb sb n V d T) (fun T hT => (gone_put hT cv).mono ?_)).mono ?_
  · rintro e w' ⟨rfl, h1, k⟩
    refine ⟨(), rfl, T, h1, ?_, k, fun x hx => .inl hx⟩
    obtain ⟨_, _, _, _, _, _, _, _, _, hl⟩ := h1
    exact hl
  · rintro e w' ⟨_, hR, hQ⟩; exact ⟨hR, hQ⟩
theorem lw_gdead (h : LW W Wr U (fun w T => Gone2 w fb sb n V d T) w) : Calls Tryz.prog 23 #[Ptr sb] w fun e w' => e = .returned (.bool true) ∧ w' = w := h.look (fun T hT => gone_dead hT)
theorem lw_gholds (h : LW W Wr U (fun w T => Gone2 w fb sb n V d T) w) (v : Value) (hp : PsAt w v (mapA Ob.val V)) : Calls Tryz.prog 24 #[Ptr sb, v] w fun e w' => e = .returned (.bool true) ∧ LW W Wr U (fun w T => Gone2 w fb sb n V d T) w' := by
  refine (h.look (fun T hT => holds_any w sb V hT.rd v hp)).mono ?_
  rintro e w' ⟨rfl, k⟩
  exact ⟨rfl, h.same k (fun T hT => hT.same k)⟩
theorem lw_revive (h : LW W Wr U (fun w T => Gone2 w fb sb n V d T) w) : Calls Tryz.prog 27 #[Ptr fb] w fun e w' => e = .returned (.tuple #[]) ∧ LW W Wr U (fun w T => Gone3 w fb n V d T) w' := by
  refine (h.turn (A := Unit) (fun _ e => e = .returned (.tuple #[])) (fun _ w T => Gone3 w fb n V d T) (fun T hT => (gone_revive hT).mono ?_)).mono ?_
  · rintro e w' ⟨rfl, h1, k⟩
    refine ⟨(), rfl, T, h1, ?_, k, fun x hx => .inl hx⟩
    obtain ⟨_, _, _, _, _, _, _, hl⟩ := h1
    exact hl
  · rintro e w' ⟨_, hR, hQ⟩; exact ⟨hR, hQ⟩
theorem lw_over (h : LW W Wr U (fun w T => Gone3 w fb n V d T) w) : Calls Tryz.prog 29 #[Ptr fb] w fun e w' => ∃ pb : Nat, e = .returned (Ptr pb) ∧ LW W Wr U (fun w T => Gone4 w fb pb n V d T) w' := by
  refine h.turn (fun pb e => e = .returned (Ptr pb)) (fun pb w T => Gone4 w fb pb n V d T) (fun T hT => (gone_over hT).mono ?_)
  rintro e w' ⟨pb, rfl, T', h1, k, hfr⟩
  refine ⟨pb, rfl, T', h1, ?_, k.mono (by simp), hfr⟩
  obtain ⟨_, _, _, _, _, _, _, hl⟩ := h1
  exact hl
theorem lw_open {pb : Nat} (h : LW W Wr U (fun w T => Gone4 w fb pb n V d T) w) (hd : d ≤ 900000000) : Calls Tryz.prog 28 #[Ptr pb] w fun e w' => ∃ sb' : Nat, e = .returned (.tuple #[Ptr sb', I 0]) ∧ LW W Wr U (PST fb sb' n V d) w' := by
  refine h.turn (fun (sb' : Nat) e => e = .returned (.tuple #[Ptr sb', I 0])) (fun sb' => PST fb sb' n V d) (fun T hT => (gone_open hT hd).mono ?_)
  rintro e w' ⟨sb', rfl, T', h1, k, hfr⟩
  exact ⟨sb', rfl, T', h1, h1.lt, k.mono (by simp), hfr⟩
theorem lw_fclone (h : LW W Wr U (PST fb sb n V d) w) : Calls Tryz.prog 30 #[Ptr fb] w fun e w' => ∃ fb2 : Nat, e = .returned (Ptr fb2) ∧ LW W Wr U (fun w T => Cl1 w fb sb fb2 n V d T) w' := by
  refine h.turn (fun (fb2 : Nat) e => e = .returned (Ptr fb2)) (fun fb2 w T => Cl1 w fb sb fb2 n V d T) (fun T hT => (stf_fclone hT).mono ?_)
  rintro e w' ⟨fb2, rfl, T', h1, k, hfr⟩
  refine ⟨fb2, rfl, T', h1, ?_, k.mono (by simp), hfr⟩
  obtain ⟨_, _, _, _, _, _, _, _, _, _, _, _, _, _, _, _, hl⟩ := h1
  exact hl
theorem lw_clover {fb2 : Nat} (h : LW W Wr U (fun w T => Cl1 w fb sb fb2 n V d T) w) : Calls Tryz.prog 29 #[Ptr fb2] w fun e w' => ∃ pb2 : Nat, e = .returned (Ptr pb2) ∧ LW W Wr U (fun w T => Cl2 w fb sb fb2 pb2 n V d T) w' := by
  refine h.turn (fun (pb2 : Nat) e => e = .returned (Ptr pb2)) (fun pb2 w T => Cl2 w fb sb fb2 pb2 n V d T) (fun T hT => (cl_over hT).mono ?_)
  rintro e w' ⟨pb2, rfl, T', h1, k, hfr⟩
  refine ⟨pb2, rfl, T', h1, ?_, k.mono (by simp), hfr⟩
  obtain ⟨_, _, _, _, _, _, _, _, _, _, _, _, _, _, _, _, hl⟩ := h1
  exact hl
theorem lw_clclone {fb2 pb2 : Nat} (h : LW W Wr U (fun w T => Cl2 w fb sb fb2 pb2 n V d T) w) : Calls Tryz.prog 31 #[Ptr sb, Ptr pb2] w fun e w' => ∃ sb2 : Nat, e = .returned (Ptr sb2) ∧ LW W Wr U (fun w T => Cl3 w fb sb fb2 sb2 n V d T) w' := by
  refine h.turn (fun (sb2 : Nat) e => e = .returned (Ptr sb2)) (fun sb2 w T => Cl3 w fb sb fb2 sb2 n V d T) (fun T hT => (cl_clone hT).mono ?_)
  rintro e w' ⟨sb2, rfl, T', h1, k, hfr⟩
  refine ⟨sb2, rfl, T', h1, ?_, k.mono (by simp), hfr⟩
  obtain ⟨_, _, _, _, _, _, hl⟩ := h1
  exact hl
theorem lw_clput {fb2 sb2 : Nat} (h : LW W Wr U (fun w T => Cl3 w fb sb fb2 sb2 n V d T) w) (hd : d ≤ 800000000) (l : List Ch) (cv : Value) (hv : ChsAt w cv l) (hvq : l ≠ [] → ∀ q, cv.ownBlock = some q → ∀ T, Cl3 w fb sb fb2 sb2 n V d T → (∀ x ∈ U, x ∉ T) → q ∉ T) (hl : l.length ≤ 4611686018427387904) :
    Calls Tryz.prog 12 #[Ptr sb, cv] w fun e w' => e = .returned (I (mayF n V l)) ∧ LW W Wr U (fun w T => Cl4 w fb fb2 sb2 n V d T) w' := by
  have hU := h
  obtain ⟨T0, g1, g2, g3, _⟩ := hU
  have h2 : LW W Wr U (fun w T => Cl3 w fb sb fb2 sb2 n V d T ∧ ∀ x ∈ U, x ∉ T) w := by
    obtain ⟨T, a1, a2, a3, a4, a5⟩ := h
    exact ⟨T, ⟨a1, fun x hx => (a3 x hx).1⟩, a2, a3, a4, a5⟩
  refine (h2.turn (A := Unit) (fun _ e => e = .returned (I (mayF n V l))) (fun _ w T => Cl4 w fb fb2 sb2 n V d T) (fun T hT => (cl_put hT.1 hd l cv hv (fun hne q hq => hvq hne q hq T hT.1 hT.2) hl).mono ?_)).mono ?_
  · rintro e w' ⟨rfl, T', h1, k, hfr⟩
    refine ⟨(), rfl, T', h1, ?_, k, hfr⟩
    obtain ⟨_, _, _, _, _, _, _, _, _, _, _, hl⟩ := h1
    exact hl
  · rintro e w' ⟨_, hR, hQ⟩; exact ⟨hR, hQ⟩
theorem lw_clerase {fb2 sb2 : Nat} (h : LW W Wr U (fun w T => Cl4 w fb fb2 sb2 n V d T) w) : Calls Tryz.prog 32 #[Ptr fb, I 1] w fun e w' => e = .returned (I 0) ∧ LW W Wr U (PST fb2 sb2 n V d) w' := by
  refine (h.turn (A := Unit) (fun _ e => e = .returned (I 0)) (fun _ => PST fb2 sb2 n V d) (fun T hT => (cl_erase hT).mono ?_)).mono ?_
  · rintro e w' ⟨rfl, T', h1, k, hfr⟩
    exact ⟨(), rfl, T', h1, h1.lt, k, hfr⟩
  · rintro e w' ⟨_, hR, hQ⟩; exact ⟨hR, hQ⟩
theorem lw_may (h : LW W Wr U (PST fb sb n V d) w) (l : List Ch) (cv : Value) (hv : ChsAt w cv l) (hl : l.length ≤ 4611686018427387904) : Calls Tryz.prog 26 #[Ptr sb, cv] w fun e w' => e = .returned (I (mayF n V l)) ∧ Kept [] w w' ∧ LW W Wr U (PST fb sb n V d) w' := by
  refine (h.look (fun T hT => stf_may hT l cv hv hl)).mono ?_
  rintro e w' ⟨rfl, k⟩
  exact ⟨rfl, k, h.same k (fun T hT => hT.same k)⟩
theorem lw_put (h : LW W Wr U (PST fb sb n V d) w) (hd : d ≤ 800000000) (l : List Ch) (cv : Value) (hv : ChsAt w cv l) (hvq : l ≠ [] → ∀ q, cv.ownBlock = some q → q < W.heap.size) (hl : l.length ≤ 4611686018427387904) :
    Calls Tryz.prog 12 #[Ptr sb, cv] w fun e w' => e = .returned (I (mayF n V l)) ∧ LW W Wr U (PST fb sb n (putF n V l) (d + n)) w' := by
  have h2 : LW W Wr U (fun w T => STF w fb sb n V d T ∧ ∀ x ∈ T, W.heap.size ≤ x) w := by
    obtain ⟨T, a1, a2, a3, a4, a5⟩ := h
    exact ⟨T, ⟨a1, a4⟩, a2, a3, a4, a5⟩
  refine (h2.turn (A := Unit) (fun _ e => e = .returned (I (mayF n V l))) (fun _ => PST fb sb n (putF n V l) (d + n)) (fun T hT => (stf_put hT.1 hd l cv hv (fun hne q hq hm => by have := hvq hne q hq; have := hT.2 q hm; omega) hl).mono ?_)).mono ?_
  · rintro e w' ⟨rfl, T', h1, k, hfr⟩
    exact ⟨(), rfl, T', h1, h1.lt, k, hfr⟩
  · rintro e w' ⟨_, hR, hQ⟩; exact ⟨hR, hQ⟩
theorem LW.rd (h : LW W Wr U (PST fb sb n V d) w) : RD w sb V := by
  obtain ⟨T, h1, _⟩ := h
  exact h1.rd
theorem LW.small (h : LW W Wr U (PST fb sb n V d) w) : 8 ≤ n ∧ n ≤ 255 := by
  obtain ⟨T, h1, _⟩ := h
  exact ⟨h1.small.1, h1.small.2.1⟩
theorem LW.samep (h : LW W Wr U (PST fb sb n V d) w) {w' : World} (k : Kept [] w w') : LW W Wr U (PST fb sb n V d) w' := h.same k (fun T hT => hT.same k)
/-- The document's store turns: it stands apart. -/
theorem LW.beside (h : LW W Wr U (PST fb sb n V d) w) {w' : World} {rb : Nat} (hr : rb ∈ U) (k : Kept [rb] w w') {U' : List Nat} (hU : ∀ x ∈ U', x ∈ U ∨ (w.heap.size ≤ x ∧ x < w'.heap.size)) (hw : W.heap.size ≤ rb) : LW W w' U' (PST fb sb n V d) w' := by
  obtain ⟨T, h1, h2, h3, h4, h5⟩ := h
  have hone : ∀ x ∈ [rb], x = rb := fun x hx => by simpa using hx
  refine ⟨T, h1.kept k (fun x hx => by rw [hone x hx]; exact (h3 _ hr).1), fun x hx => Nat.lt_of_lt_of_le (h2 x hx) k.size, fun x hx => ?_, h4, h5.new k (fun x hx => by rw [hone x hx]; exact hw)⟩
  rcases hU x hx with hx | hx
  · exact ⟨(h3 x hx).1, Nat.lt_of_lt_of_le (h3 x hx).2.1 k.size, rfl⟩
  · exact ⟨fun hm => by have := h2 x hm; omega, hx.2, rfl⟩
end
theorem LW.doc {W Wr w : World} {U : List Nat} {P : World → List Nat → Prop} (h : LW W Wr U P w) {rb n : Nat} {v : Value} {V : OM} (hd : DocAt Wr rb n v V) (hr : rb ∈ U) (hq : ∀ q, v.ownBlock = some q → q ∈ U) : DocAt w rb n v V := by
  refine ⟨?_, h.ps hd.2 hq⟩
  obtain ⟨T, h1, h2, h3, h4, h5⟩ := h
  exact (h3 rb hr).2.2.trans hd.1
theorem Cl3.same {w w' : World} {fb sb fb2 sb2 n : Nat} {V : OM} {d : Nat} {T : List Nat} (h : Cl3 w fb sb fb2 sb2 n V d T) (k : Kept [] w w') : Cl3 w' fb sb fb2 sb2 n V d T := by
  obtain ⟨T1, T2, h1, h2, h3, h4, h5⟩ := h
  exact ⟨T1, T2, h1.same k, h2.same k, h3, h4, fun x hx => Nat.lt_of_lt_of_le (h5 x hx) k.size⟩
end Go.Proofs.YtdkjlaldhohbmaaGreat
