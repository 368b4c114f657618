/- Walks and lemmas on the program of this seat, used by its statements; each theorem bears its own conditions. -/
import Derived.Test.YteplbljjlbdhaaaGreatDoorZ48
namespace Go.Proofs.YteplbljjlbdhaaaGreatDoor
open Go.RowKit
set_option linter.unusedVariables false
set_option linter.unusedSimpArgs false
set_option linter.unusedSectionVars false
set_option maxHeartbeats 16000000
set_option maxRecDepth 100000
structure Op16 where
 kind : Int
 at0 : Int
 n0 : Int
 path : List UInt8
 dest : List UInt8
 s : List UInt8
 mask : UInt8
def Op16.cs (o : Op16) : Array Value := #[I o.kind, I o.at0, I o.n0, S o.path, S o.dest, S o.s, B o.mask]
structure Op16.Ok (o : Op16) : Prop where
 at1 : I64 o.at0
 n1 : I64 o.n0
 k1 : I64 o.kind
 path1 : o.path.length ≤ 1048576
 to1 : o.dest.length ≤ 1048576
 s1 : o.s.length ≤ 1048576
def changeF (n given : Nat) (E : List Nd) (o : Op16) : Int × Nat × List Nd :=
 if o.kind = 0 then makeF n given E o.path false else if o.kind = 1 then makeF n given E o.path true
 else if o.kind = 2 then writeF n given E o.path o.at0 o.s else if o.kind = 6 then truncF n given E o.path o.n0
 else if o.kind = 7 then renameF n given E o.path o.dest else if o.kind = 8 then removeF n given E o.path else (0, given, E)
theorem change_grown {n given : Nat} {E : List Nd} (h : WF given E) (o : Op16) : Grown given E (changeF n given E o) := by
 unfold changeF
 split
 ·exact make_grown h _ _
 split
 ·exact make_grown h _ _
 split
 ·exact write_grown h _ _ _
 split
 ·exact trunc_grown h _ _
 split
 ·exact rename_grown h _ _
 split
 ·exact remove_grown h _
 ·exact .refuse h 0
abbrev Fr16 := List Nat × World
abbrev XP := World → List Nat → Prop
def XOK (mb : Nat) (X : XP) : Prop := ∀ (w w' : World) (M M' : List Nat), X w M → mb ∈ M → Kept [mb] w w' → (∀ x ∈ M', x ∈ M ∨ (w.heap.size ≤ x ∧ x < w'.heap.size)) → X w' M'
def CodeP (X1 : Int → XP) (w : World) (M : List Nat) (e : Ending) (w' : World) : Prop := ∃ r : Int, e = .returned (I r) ∧ X1 r w' M ∧ w.heap.size ≤ w'.heap.size ∧ ∃ T, (∀ x ∈ M, x ∉ T) ∧ Kept T w w'
def JX (X : XP) (w : World) (n mb given2 : Nat) (E2 : List Nd) (ob : Nat) (cs : Array Value) (M0 : Fr16) : Prop :=
 ∃ v M, ((∀ x ∈ M0.1, x ∈ M) ∧ ∀ x ∈ M0.1, x ≠ mb → ∀ o, M0.2.heap[x]? = some o → w.heap[x]? = some o) ∧ X w M ∧ Df w mb n given2 v E2 M ∧ ob ∈ M ∧ w.heap[ob]? = some (.cells cs 34 (0, 0)) ∧ ob ≠ mb
section
variable {w : World} {n mb given2 : Nat} {E2 : List Nd} {ob : Nat} {cs : Array Value} {M0 : Fr16}
theorem JX.same {X : XP} {w' : World} (h : JX X w n mb given2 E2 ob cs M0) (hX : XOK mb X) (k : Kept [] w w') : JX X w' n mb given2 E2 ob cs M0 := by
 obtain ⟨v, M, h1, h2, h3, h4, h5, h6⟩ := h
 exact ⟨v, M, ⟨h1.1, fun x hx hm o ho => k.at (h1.2 x hx hm o ho) (by simp)⟩, hX w w' M M h2 h3.2.1 (k.mono (by simp)) (fun x hx => .inl hx), h3.kept k (by simp), h4, k.at h5 (by simp), h6⟩
theorem jx_code {X0 : XP} {X1 : Int → XP} {f : Nat} {a : Array Value} (h : JX X0 w n mb given2 E2 ob cs M0) (c : ∀ M, X0 w M → Calls Tryz.prog f a w (CodeP X1 w M)) :
  Calls Tryz.prog f a w fun e w' => ∃ r : Int, e = .returned (I r) ∧ JX (X1 r) w' n mb given2 E2 ob cs M0 := by
 obtain ⟨v, M, h1, h2, h3, h4, h5, h6⟩ := h
 refine (c M h2).mono ?_
 rintro e w' ⟨r, rfl, hl, _, T, hT, k⟩
 exact ⟨r, rfl, v, M, ⟨h1.1, fun x hx hm o ho => k.at (h1.2 x hx hm o ho) (hT _ (h1.1 x hx))⟩, hl, h3.kept k hT, h4, k.at h5 (hT _ h4), h6⟩
theorem jx_doc {X : XP} {f : Nat} {a : Array Value} {R : Int × Nat × List Nd} (h : JX X w n mb given2 E2 ob cs M0) (hX : XOK mb X) (c : ∀ v, DF w mb n given2 v E2 → Calls Tryz.prog f a w (RDP w mb n v R)) (g : WF given2 E2 → Grown given2 E2 R) (hg : given2 + 1 ≤ 16777000) (hl : E2.length + 1 ≤ 900) :
  Calls Tryz.prog f a w fun e w' => e = .returned (I R.1) ∧ JX X w' n mb R.2.1 R.2.2 ob cs M0 := by
 obtain ⟨v, M, h1, h2, h3, h4, h5, h6⟩ := h
 refine (c v h3.1).mono ?_
 rintro e w' ⟨rfl, ⟨v', hf, hown⟩, k⟩
 have g' := g h3.1.wf
 have hM' : ∀ x ∈ M ++ v'.ownBlock.toList, x ∈ M ∨ (w.heap.size ≤ x ∧ x < w'.heap.size) := fun x hx => by
  rcases List.mem_append.1 hx with hx | hx
  ·exact .inl hx
  ·have hq : v'.ownBlock = some x := by simpa using hx
   rcases hown x hq with h7 | h7
   ·exact .inl (h3.2.2 x h7)
   ·exact .inr h7
 refine ⟨rfl, v', M ++ v'.ownBlock.toList, ⟨fun x hx => List.mem_append_left _ (h1.1 x hx), fun x hx hm o ho => k.at (h1.2 x hx hm o ho) (by simpa using hm)⟩, hX w w' M _ h2 h3.2.1 k hM', ⟨⟨hf, by have := g'.few; omega, by have := g'.gv; omega, g'.wf, h3.1.eight, h3.1.big, fun q hq => ?_⟩, List.mem_append_left _ h3.2.1, fun q hq => List.mem_append_right _ (by rw [hq]; simp)⟩, List.mem_append_left _ h4, k.at h5 (by simpa using h6), h6⟩
 have hmb := h3.1.lt
 rcases hown q hq with h7 | ⟨h7, h8⟩
 ·exact h3.1.own q h7
 ·omega
theorem JX.cells {X : XP} (h : JX X w n mb given2 E2 ob cs M0) (i : Nat) (hi : i < cs.size) : w.cell? ⟨ob, i, none⟩ = some cs[i] := by
 obtain ⟨v, M, h1, h2, h3, h4, h5, h6⟩ := h
 rw [cell_at h5]
 simp [hi]
end
def ChX (X1 : Int → XP) (n mb given2 : Nat) (E2 : List Nd) (M0 : Fr16) (ob : Nat) (o : Op16) (e : Ending) (w' : World) : Prop :=
 ∃ r : Int, e = .returned (.tuple #[I r, I (changeF n given2 E2 o).1]) ∧ JX (X1 r) w' n mb (changeF n given2 E2 o).2.1 (changeF n given2 E2 o).2.2 ob o.cs M0
section
variable {n ff mb given2 : Nat} {E2 : List Nd} {M0 : Fr16} {X0 : XP} {X1 : Int → XP}
theorem change_make (hX0 : XOK mb X0) (hX1 : ∀ r, XOK mb (X1 r)) (w : World) (o : Op16) (ok : o.Ok) (hk : o.kind = 0) (ob : Nat) (hob : w.heap.size = ob) (h : JX X0 (w.alloc (.cells o.cs 34)) n mb given2 E2 ob o.cs M0) (hc : ∀ W M, X0 W M → Calls Tryz.prog 12 #[Ptr ff, S o.path] W (CodeP X1 W M)) (hg2 : given2 + 1 ≤ 16777000) (hl : E2.length + 1 ≤ 900) :
  Calls Tryz.prog 5 #[Ptr ff, Ptr mb, .agg o.cs] w (ChX X1 n mb given2 E2 M0 ob o) := by
 unfold ChX
 have e2 : changeF n given2 E2 o = makeF n given2 E2 o.path false := by unfold changeF; rw [if_pos hk]
 rw [e2]
 have hp1 := ok.path1
 have hp2 := ok.to1
 have hp3 := ok.s1
 have HC : Hid (∀ W g3 E3, JX X0 W n mb g3 E3 ob o.cs M0 → Calls Tryz.prog 12 #[Ptr ff, S o.path] W fun e w' => ∃ r : Int, e = .returned (I r) ∧ JX (X1 r) w' n mb g3 E3 ob o.cs M0) := Lib.hid (fun W g3 E3 h => jx_code h (fun M hm => hc W M hm))
 have HDX : Hid (∀ X, XOK mb X → ∀ W, JX X W n mb given2 E2 ob o.cs M0 → Calls Tryz.prog 13 #[Ptr mb, S o.path, .bool false] W fun e w' => e = .returned (I (makeF n given2 E2 o.path false).1) ∧ JX X w' n mb (makeF n given2 E2 o.path false).2.1 (makeF n given2 E2 o.path false).2.2 ob o.cs M0) := Lib.hid (fun X hX W h => jx_doc h hX (fun v hD => rmake_any W mb n given2 v E2 hD o.path hp1 false) (fun hw => make_grown hw o.path false) hg2 hl)
 have HD0 := Lib.hid (HDX.out X0 hX0)
 have HD1 := Lib.hid (fun r => HDX.out (X1 r) (hX1 r))
 clear HDX hc
 have HJS := Lib.hid (fun W W' g3 E3 (h : JX X0 W n mb g3 E3 ob o.cs M0) (k : Kept [] W W') => h.same hX0 k)
 obtain ⟨R2, hR2⟩ : ∃ R2, makeF n given2 E2 o.path false = R2 := ⟨_, rfl⟩
 rw [hR2] at HD0 HD1 ⊢
 clear hR2 e2 hX0 hX1
 obtain ⟨kd, at0, n0, p, t, s, mk⟩ := o
 have hk : kd = 0 := hk
 subst hk
 unfold Op16.cs at *
 simp only at *
 obtain ⟨W, hW⟩ : ∃ W, w.alloc (.cells #[I 0, I at0, I n0, S p, S t, S s, B mk] 34) = W := ⟨_, rfl⟩
 rw [hW] at h
 have c0 := h.cells 0 (by simp)
 have c3 := h.cells 3 (by simp)
 simp only [List.getElem_toArray, List.getElem_cons_zero, List.getElem_cons_succ] at c0 c3
 have H := Lib.hid h
 clear h ok hp1 hp2 hp3
 go_enter Tryz.func5, Tryz.ntmps5
 go_upto_region 3 with (simp only [hW, hob]; done)
 have hj0 := HJS.out _ _ _ _ H.out ((Kept.refl [] W).drew)
 go_region_law (first
  | (go_simp; go_at_call 12; (with_reducible refine (HC.out _ _ _ (by assumption)).mono ?_); rintro e w2 ⟨r, rfl, hj⟩; have x3 := hj.cells 3 (by simp); simp only [List.getElem_toArray, List.getElem_cons_zero, List.getElem_cons_succ] at x3)
  | (go_simp; go_at_call 13; (with_reducible refine (HD0.out _ (by assumption)).mono ?_); rintro e w3 ⟨rfl, hj⟩; have x3 := hj.cells 3 (by simp); simp only [List.getElem_toArray, List.getElem_cons_zero, List.getElem_cons_succ] at x3)
  | (go_simp; go_at_call 13; (with_reducible refine (HD1.out _ _ (by assumption)).mono ?_); rintro e w3 ⟨rfl, hj⟩; have x3 := hj.cells 3 (by simp); simp only [List.getElem_toArray, List.getElem_cons_zero, List.getElem_cons_succ] at x3))
 all_goals
  go_wp2
  go_ret2
  exact ⟨_, rfl, by assumption⟩
end
section
variable {n ff mb given2 : Nat} {E2 : List Nd} {M0 : Fr16} {X0 : XP} {X1 : Int → XP}
theorem change_makeDir (hX0 : XOK mb X0) (hX1 : ∀ r, XOK mb (X1 r)) (w : World) (o : Op16) (ok : o.Ok) (hk : o.kind = 1) (ob : Nat) (hob : w.heap.size = ob) (h : JX X0 (w.alloc (.cells o.cs 34)) n mb given2 E2 ob o.cs M0) (hc : ∀ W M, X0 W M → Calls Tryz.prog 14 #[Ptr ff, S o.path] W (CodeP X1 W M)) (hg2 : given2 + 1 ≤ 16777000) (hl : E2.length + 1 ≤ 900) :
  Calls Tryz.prog 5 #[Ptr ff, Ptr mb, .agg o.cs] w (ChX X1 n mb given2 E2 M0 ob o) := by
 unfold ChX
 have e2 : changeF n given2 E2 o = makeF n given2 E2 o.path true := by unfold changeF; rw [if_neg (by rw [hk]; decide)]; rw [if_pos hk]
 rw [e2]
 have hp1 := ok.path1
 have hp2 := ok.to1
 have hp3 := ok.s1
 have HC : Hid (∀ W g3 E3, JX X0 W n mb g3 E3 ob o.cs M0 → Calls Tryz.prog 14 #[Ptr ff, S o.path] W fun e w' => ∃ r : Int, e = .returned (I r) ∧ JX (X1 r) w' n mb g3 E3 ob o.cs M0) := Lib.hid (fun W g3 E3 h => jx_code h (fun M hm => hc W M hm))
 have HDX : Hid (∀ X, XOK mb X → ∀ W, JX X W n mb given2 E2 ob o.cs M0 → Calls Tryz.prog 13 #[Ptr mb, S o.path, .bool true] W fun e w' => e = .returned (I (makeF n given2 E2 o.path true).1) ∧ JX X w' n mb (makeF n given2 E2 o.path true).2.1 (makeF n given2 E2 o.path true).2.2 ob o.cs M0) := Lib.hid (fun X hX W h => jx_doc h hX (fun v hD => rmake_any W mb n given2 v E2 hD o.path hp1 true) (fun hw => make_grown hw o.path true) hg2 hl)
 have HD0 := Lib.hid (HDX.out X0 hX0)
 have HD1 := Lib.hid (fun r => HDX.out (X1 r) (hX1 r))
 clear HDX hc
 have HJS := Lib.hid (fun W W' g3 E3 (h : JX X0 W n mb g3 E3 ob o.cs M0) (k : Kept [] W W') => h.same hX0 k)
 obtain ⟨R2, hR2⟩ : ∃ R2, makeF n given2 E2 o.path true = R2 := ⟨_, rfl⟩
 rw [hR2] at HD0 HD1 ⊢
 clear hR2 e2 hX0 hX1
 obtain ⟨kd, at0, n0, p, t, s, mk⟩ := o
 have hk : kd = 1 := hk
 subst hk
 unfold Op16.cs at *
 simp only at *
 obtain ⟨W, hW⟩ : ∃ W, w.alloc (.cells #[I 1, I at0, I n0, S p, S t, S s, B mk] 34) = W := ⟨_, rfl⟩
 rw [hW] at h
 have c0 := h.cells 0 (by simp)
 have c3 := h.cells 3 (by simp)
 simp only [List.getElem_toArray, List.getElem_cons_zero, List.getElem_cons_succ] at c0 c3
 have H := Lib.hid h
 clear h ok hp1 hp2 hp3
 go_enter Tryz.func5, Tryz.ntmps5
 go_upto_region 5 with (simp only [hW, hob]; done)
 have hj0 := HJS.out _ _ _ _ H.out ((Kept.refl [] W).drew)
 go_region_law (first
  | (go_simp; go_at_call 14; (with_reducible refine (HC.out _ _ _ (by assumption)).mono ?_); rintro e w2 ⟨r, rfl, hj⟩; have x3 := hj.cells 3 (by simp); simp only [List.getElem_toArray, List.getElem_cons_zero, List.getElem_cons_succ] at x3)
  | (go_simp; go_at_call 13; (with_reducible refine (HD0.out _ (by assumption)).mono ?_); rintro e w3 ⟨rfl, hj⟩; have x3 := hj.cells 3 (by simp); simp only [List.getElem_toArray, List.getElem_cons_zero, List.getElem_cons_succ] at x3)
  | (go_simp; go_at_call 13; (with_reducible refine (HD1.out _ _ (by assumption)).mono ?_); rintro e w3 ⟨rfl, hj⟩; have x3 := hj.cells 3 (by simp); simp only [List.getElem_toArray, List.getElem_cons_zero, List.getElem_cons_succ] at x3))
 all_goals
  go_wp2
  go_ret2
  exact ⟨_, rfl, by assumption⟩
end
section
variable {n ff mb given2 : Nat} {E2 : List Nd} {M0 : Fr16} {X0 : XP} {X1 : Int → XP}
theorem change_write (hX0 : XOK mb X0) (hX1 : ∀ r, XOK mb (X1 r)) (w : World) (o : Op16) (ok : o.Ok) (hk : o.kind = 2) (ob : Nat) (hob : w.heap.size = ob) (h : JX X0 (w.alloc (.cells o.cs 34)) n mb given2 E2 ob o.cs M0) (hc : ∀ W M, X0 W M → Calls Tryz.prog 15 #[Ptr ff, S o.path, I o.at0, S o.s] W (CodeP X1 W M)) (hg2 : given2 + 1 ≤ 16777000) (hl : E2.length + 1 ≤ 900) :
  Calls Tryz.prog 5 #[Ptr ff, Ptr mb, .agg o.cs] w (ChX X1 n mb given2 E2 M0 ob o) := by
 unfold ChX
 have e2 : changeF n given2 E2 o = writeF n given2 E2 o.path o.at0 o.s := by unfold changeF; rw [if_neg (by rw [hk]; decide)]; rw [if_neg (by rw [hk]; decide)]; rw [if_pos hk]
 rw [e2]
 have hp1 := ok.path1
 have hp2 := ok.to1
 have hp3 := ok.s1
 have HC : Hid (∀ W g3 E3, JX X0 W n mb g3 E3 ob o.cs M0 → Calls Tryz.prog 15 #[Ptr ff, S o.path, I o.at0, S o.s] W fun e w' => ∃ r : Int, e = .returned (I r) ∧ JX (X1 r) w' n mb g3 E3 ob o.cs M0) := Lib.hid (fun W g3 E3 h => jx_code h (fun M hm => hc W M hm))
 have HDX : Hid (∀ X, XOK mb X → ∀ W, JX X W n mb given2 E2 ob o.cs M0 → Calls Tryz.prog 16 #[Ptr mb, S o.path, I o.at0, S o.s] W fun e w' => e = .returned (I (writeF n given2 E2 o.path o.at0 o.s).1) ∧ JX X w' n mb (writeF n given2 E2 o.path o.at0 o.s).2.1 (writeF n given2 E2 o.path o.at0 o.s).2.2 ob o.cs M0) := Lib.hid (fun X hX W h => jx_doc h hX (fun v hD => rwrite_any W mb n given2 v E2 hD o.path hp1 o.at0 ok.at1 o.s (by omega)) (fun hw => write_grown hw o.path o.at0 o.s) hg2 hl)
 have HD0 := Lib.hid (HDX.out X0 hX0)
 have HD1 := Lib.hid (fun r => HDX.out (X1 r) (hX1 r))
 clear HDX hc
 have HJS := Lib.hid (fun W W' g3 E3 (h : JX X0 W n mb g3 E3 ob o.cs M0) (k : Kept [] W W') => h.same hX0 k)
 obtain ⟨R2, hR2⟩ : ∃ R2, writeF n given2 E2 o.path o.at0 o.s = R2 := ⟨_, rfl⟩
 rw [hR2] at HD0 HD1 ⊢
 clear hR2 e2 hX0 hX1
 obtain ⟨kd, at0, n0, p, t, s, mk⟩ := o
 have hk : kd = 2 := hk
 subst hk
 unfold Op16.cs at *
 simp only at *
 obtain ⟨W, hW⟩ : ∃ W, w.alloc (.cells #[I 2, I at0, I n0, S p, S t, S s, B mk] 34) = W := ⟨_, rfl⟩
 rw [hW] at h
 have c0 := h.cells 0 (by simp)
 have c1 := h.cells 1 (by simp)
 have c3 := h.cells 3 (by simp)
 have c5 := h.cells 5 (by simp)
 simp only [List.getElem_toArray, List.getElem_cons_zero, List.getElem_cons_succ] at c0 c1 c3 c5
 have H := Lib.hid h
 clear h ok hp1 hp2 hp3
 go_enter Tryz.func5, Tryz.ntmps5
 go_upto_region 7 with (simp only [hW, hob]; done)
 have hj0 := HJS.out _ _ _ _ H.out ((Kept.refl [] W).drew)
 have HS : Hid (∀ X W g3 E3, JX X W n mb g3 E3 ob #[I 2, I at0, I n0, S p, S t, S s, B mk] M0 → W.cell? ⟨ob, 1, none⟩ = some (I at0) ∧ W.cell? ⟨ob, 3, none⟩ = some (S p) ∧ W.cell? ⟨ob, 5, none⟩ = some (S s)) := Lib.hid (fun X W g3 E3 hj => by
  have x1 := hj.cells 1 (by simp); have x3 := hj.cells 3 (by simp); have x5 := hj.cells 5 (by simp)
  simp only [List.getElem_toArray, List.getElem_cons_zero, List.getElem_cons_succ] at x1 x3 x5
  exact ⟨x1, x3, x5⟩)
 go_region_held3 (fun w' => w'.cell? ⟨ob, 1, none⟩ = some (I at0) ∧ w'.cell? ⟨ob, 3, none⟩ = some (S p) ∧ w'.cell? ⟨ob, 5, none⟩ = some (S s)) (first | exact HS.out _ _ _ _ hj0 | exact HS.out _ _ _ _ hj1 | exact HS.out _ _ _ _ hj2 | exact HS.out _ _ _ _ hj3 | assumption) (first
  | (go_at_call 15; (with_reducible refine (HC.out _ _ _ (by assumption)).mono ?_); rintro e w2 ⟨r, rfl, hj1⟩)
  | (go_at_call 16; (with_reducible refine (HD0.out _ (by assumption)).mono ?_); rintro e w3 ⟨rfl, hj2⟩)
  | (go_at_call 16; (with_reducible refine (HD1.out _ _ (by assumption)).mono ?_); rintro e w3 ⟨rfl, hj3⟩))
 all_goals
  go_wp2
  go_ret2
  exact ⟨_, rfl, by assumption⟩
end
section
variable {n ff mb given2 : Nat} {E2 : List Nd} {M0 : Fr16} {X0 : XP} {X1 : Int → XP}
theorem change_trunc (hX0 : XOK mb X0) (hX1 : ∀ r, XOK mb (X1 r)) (w : World) (o : Op16) (ok : o.Ok) (hk : o.kind = 6) (ob : Nat) (hob : w.heap.size = ob) (h : JX X0 (w.alloc (.cells o.cs 34)) n mb given2 E2 ob o.cs M0) (hc : ∀ W M, X0 W M → Calls Tryz.prog 17 #[Ptr ff, S o.path, I o.n0] W (CodeP X1 W M)) (hg2 : given2 + 1 ≤ 16777000) (hl : E2.length + 1 ≤ 900) :
  Calls Tryz.prog 5 #[Ptr ff, Ptr mb, .agg o.cs] w (ChX X1 n mb given2 E2 M0 ob o) := by
 unfold ChX
 have e2 : changeF n given2 E2 o = truncF n given2 E2 o.path o.n0 := by unfold changeF; rw [if_neg (by rw [hk]; decide)]; rw [if_neg (by rw [hk]; decide)]; rw [if_neg (by rw [hk]; decide)]; rw [if_pos hk]
 rw [e2]
 have hp1 := ok.path1
 have hp2 := ok.to1
 have hp3 := ok.s1
 have HC : Hid (∀ W g3 E3, JX X0 W n mb g3 E3 ob o.cs M0 → Calls Tryz.prog 17 #[Ptr ff, S o.path, I o.n0] W fun e w' => ∃ r : Int, e = .returned (I r) ∧ JX (X1 r) w' n mb g3 E3 ob o.cs M0) := Lib.hid (fun W g3 E3 h => jx_code h (fun M hm => hc W M hm))
 have HDX : Hid (∀ X, XOK mb X → ∀ W, JX X W n mb given2 E2 ob o.cs M0 → Calls Tryz.prog 18 #[Ptr mb, S o.path, I o.n0] W fun e w' => e = .returned (I (truncF n given2 E2 o.path o.n0).1) ∧ JX X w' n mb (truncF n given2 E2 o.path o.n0).2.1 (truncF n given2 E2 o.path o.n0).2.2 ob o.cs M0) := Lib.hid (fun X hX W h => jx_doc h hX (fun v hD => rtrunc_any W mb n given2 v E2 hD o.path hp1 o.n0 ok.n1) (fun hw => trunc_grown hw o.path o.n0) hg2 hl)
 have HD0 := Lib.hid (HDX.out X0 hX0)
 have HD1 := Lib.hid (fun r => HDX.out (X1 r) (hX1 r))
 clear HDX hc
 have HJS := Lib.hid (fun W W' g3 E3 (h : JX X0 W n mb g3 E3 ob o.cs M0) (k : Kept [] W W') => h.same hX0 k)
 obtain ⟨R2, hR2⟩ : ∃ R2, truncF n given2 E2 o.path o.n0 = R2 := ⟨_, rfl⟩
 rw [hR2] at HD0 HD1 ⊢
 clear hR2 e2 hX0 hX1
 obtain ⟨kd, at0, n0, p, t, s, mk⟩ := o
 have hk : kd = 6 := hk
 subst hk
 unfold Op16.cs at *
 simp only at *
 obtain ⟨W, hW⟩ : ∃ W, w.alloc (.cells #[I 6, I at0, I n0, S p, S t, S s, B mk] 34) = W := ⟨_, rfl⟩
 rw [hW] at h
 have c0 := h.cells 0 (by simp)
 have c2 := h.cells 2 (by simp)
 have c3 := h.cells 3 (by simp)
 simp only [List.getElem_toArray, List.getElem_cons_zero, List.getElem_cons_succ] at c0 c2 c3
 have H := Lib.hid h
 clear h ok hp1 hp2 hp3
 go_enter Tryz.func5, Tryz.ntmps5
 go_upto_region 9 with (simp only [hW, hob]; done)
 have hj0 := HJS.out _ _ _ _ H.out ((Kept.refl [] W).drew)
 have HS : Hid (∀ X W g3 E3, JX X W n mb g3 E3 ob #[I 6, I at0, I n0, S p, S t, S s, B mk] M0 → W.cell? ⟨ob, 2, none⟩ = some (I n0) ∧ W.cell? ⟨ob, 3, none⟩ = some (S p)) := Lib.hid (fun X W g3 E3 hj => by
  have x2 := hj.cells 2 (by simp); have x3 := hj.cells 3 (by simp)
  simp only [List.getElem_toArray, List.getElem_cons_zero, List.getElem_cons_succ] at x2 x3
  exact ⟨x2, x3⟩)
 go_region_held3 (fun w' => w'.cell? ⟨ob, 2, none⟩ = some (I n0) ∧ w'.cell? ⟨ob, 3, none⟩ = some (S p)) (first | exact HS.out _ _ _ _ hj0 | exact HS.out _ _ _ _ hj1 | exact HS.out _ _ _ _ hj2 | exact HS.out _ _ _ _ hj3 | assumption) (first
  | (go_at_call 17; (with_reducible refine (HC.out _ _ _ (by assumption)).mono ?_); rintro e w2 ⟨r, rfl, hj1⟩)
  | (go_at_call 18; (with_reducible refine (HD0.out _ (by assumption)).mono ?_); rintro e w3 ⟨rfl, hj2⟩)
  | (go_at_call 18; (with_reducible refine (HD1.out _ _ (by assumption)).mono ?_); rintro e w3 ⟨rfl, hj3⟩))
 all_goals
  go_wp2
  go_ret2
  exact ⟨_, rfl, by assumption⟩
end
section
variable {n ff mb given2 : Nat} {E2 : List Nd} {M0 : Fr16} {X0 : XP} {X1 : Int → XP}
theorem change_rename (hX0 : XOK mb X0) (hX1 : ∀ r, XOK mb (X1 r)) (w : World) (o : Op16) (ok : o.Ok) (hk : o.kind = 7) (ob : Nat) (hob : w.heap.size = ob) (h : JX X0 (w.alloc (.cells o.cs 34)) n mb given2 E2 ob o.cs M0) (hc : ∀ W M, X0 W M → Calls Tryz.prog 19 #[Ptr ff, S o.path, S o.dest] W (CodeP X1 W M)) (hg2 : given2 + 1 ≤ 16777000) (hl : E2.length + 1 ≤ 900) :
  Calls Tryz.prog 5 #[Ptr ff, Ptr mb, .agg o.cs] w (ChX X1 n mb given2 E2 M0 ob o) := by
 unfold ChX
 have e2 : changeF n given2 E2 o = renameF n given2 E2 o.path o.dest := by unfold changeF; rw [if_neg (by rw [hk]; decide)]; rw [if_neg (by rw [hk]; decide)]; rw [if_neg (by rw [hk]; decide)]; rw [if_neg (by rw [hk]; decide)]; rw [if_pos hk]
 rw [e2]
 have hp1 := ok.path1
 have hp2 := ok.to1
 have hp3 := ok.s1
 have HC : Hid (∀ W g3 E3, JX X0 W n mb g3 E3 ob o.cs M0 → Calls Tryz.prog 19 #[Ptr ff, S o.path, S o.dest] W fun e w' => ∃ r : Int, e = .returned (I r) ∧ JX (X1 r) w' n mb g3 E3 ob o.cs M0) := Lib.hid (fun W g3 E3 h => jx_code h (fun M hm => hc W M hm))
 have HDX : Hid (∀ X, XOK mb X → ∀ W, JX X W n mb given2 E2 ob o.cs M0 → Calls Tryz.prog 20 #[Ptr mb, S o.path, S o.dest] W fun e w' => e = .returned (I (renameF n given2 E2 o.path o.dest).1) ∧ JX X w' n mb (renameF n given2 E2 o.path o.dest).2.1 (renameF n given2 E2 o.path o.dest).2.2 ob o.cs M0) := Lib.hid (fun X hX W h => jx_doc h hX (fun v hD => rrename_any W mb n given2 v E2 hD o.path o.dest hp1 hp2) (fun hw => rename_grown hw o.path o.dest) hg2 hl)
 have HD0 := Lib.hid (HDX.out X0 hX0)
 have HD1 := Lib.hid (fun r => HDX.out (X1 r) (hX1 r))
 clear HDX hc
 have HJS := Lib.hid (fun W W' g3 E3 (h : JX X0 W n mb g3 E3 ob o.cs M0) (k : Kept [] W W') => h.same hX0 k)
 obtain ⟨R2, hR2⟩ : ∃ R2, renameF n given2 E2 o.path o.dest = R2 := ⟨_, rfl⟩
 rw [hR2] at HD0 HD1 ⊢
 clear hR2 e2 hX0 hX1
 obtain ⟨kd, at0, n0, p, t, s, mk⟩ := o
 have hk : kd = 7 := hk
 subst hk
 unfold Op16.cs at *
 simp only at *
 obtain ⟨W, hW⟩ : ∃ W, w.alloc (.cells #[I 7, I at0, I n0, S p, S t, S s, B mk] 34) = W := ⟨_, rfl⟩
 rw [hW] at h
 have c0 := h.cells 0 (by simp)
 have c3 := h.cells 3 (by simp)
 have c4 := h.cells 4 (by simp)
 simp only [List.getElem_toArray, List.getElem_cons_zero, List.getElem_cons_succ] at c0 c3 c4
 have H := Lib.hid h
 clear h ok hp1 hp2 hp3
 go_enter Tryz.func5, Tryz.ntmps5
 go_upto_region 11 with (simp only [hW, hob]; done)
 have hj0 := HJS.out _ _ _ _ H.out ((Kept.refl [] W).drew)
 have HS : Hid (∀ X W g3 E3, JX X W n mb g3 E3 ob #[I 7, I at0, I n0, S p, S t, S s, B mk] M0 → W.cell? ⟨ob, 3, none⟩ = some (S p) ∧ W.cell? ⟨ob, 4, none⟩ = some (S t)) := Lib.hid (fun X W g3 E3 hj => by
  have x3 := hj.cells 3 (by simp); have x4 := hj.cells 4 (by simp)
  simp only [List.getElem_toArray, List.getElem_cons_zero, List.getElem_cons_succ] at x3 x4
  exact ⟨x3, x4⟩)
 go_region_held3 (fun w' => w'.cell? ⟨ob, 3, none⟩ = some (S p) ∧ w'.cell? ⟨ob, 4, none⟩ = some (S t)) (first | exact HS.out _ _ _ _ hj0 | exact HS.out _ _ _ _ hj1 | exact HS.out _ _ _ _ hj2 | exact HS.out _ _ _ _ hj3 | assumption) (first
  | (go_at_call 19; (with_reducible refine (HC.out _ _ _ (by assumption)).mono ?_); rintro e w2 ⟨r, rfl, hj1⟩)
  | (go_at_call 20; (with_reducible refine (HD0.out _ (by assumption)).mono ?_); rintro e w3 ⟨rfl, hj2⟩)
  | (go_at_call 20; (with_reducible refine (HD1.out _ _ (by assumption)).mono ?_); rintro e w3 ⟨rfl, hj3⟩))
 all_goals
  go_wp2
  go_ret2
  exact ⟨_, rfl, by assumption⟩
end
section
variable {n ff mb given2 : Nat} {E2 : List Nd} {M0 : Fr16} {X0 : XP} {X1 : Int → XP}
theorem change_remove (hX0 : XOK mb X0) (hX1 : ∀ r, XOK mb (X1 r)) (w : World) (o : Op16) (ok : o.Ok) (hk : o.kind = 8) (ob : Nat) (hob : w.heap.size = ob) (h : JX X0 (w.alloc (.cells o.cs 34)) n mb given2 E2 ob o.cs M0) (hc : ∀ W M, X0 W M → Calls Tryz.prog 21 #[Ptr ff, S o.path] W (CodeP X1 W M)) (hg2 : given2 + 1 ≤ 16777000) (hl : E2.length + 1 ≤ 900) :
  Calls Tryz.prog 5 #[Ptr ff, Ptr mb, .agg o.cs] w (ChX X1 n mb given2 E2 M0 ob o) := by
 unfold ChX
 have e2 : changeF n given2 E2 o = removeF n given2 E2 o.path := by unfold changeF; rw [if_neg (by rw [hk]; decide)]; rw [if_neg (by rw [hk]; decide)]; rw [if_neg (by rw [hk]; decide)]; rw [if_neg (by rw [hk]; decide)]; rw [if_neg (by rw [hk]; decide)]; rw [if_pos hk]
 rw [e2]
 have hp1 := ok.path1
 have hp2 := ok.to1
 have hp3 := ok.s1
 have HC : Hid (∀ W g3 E3, JX X0 W n mb g3 E3 ob o.cs M0 → Calls Tryz.prog 21 #[Ptr ff, S o.path] W fun e w' => ∃ r : Int, e = .returned (I r) ∧ JX (X1 r) w' n mb g3 E3 ob o.cs M0) := Lib.hid (fun W g3 E3 h => jx_code h (fun M hm => hc W M hm))
 have HDX : Hid (∀ X, XOK mb X → ∀ W, JX X W n mb given2 E2 ob o.cs M0 → Calls Tryz.prog 22 #[Ptr mb, S o.path] W fun e w' => e = .returned (I (removeF n given2 E2 o.path).1) ∧ JX X w' n mb (removeF n given2 E2 o.path).2.1 (removeF n given2 E2 o.path).2.2 ob o.cs M0) := Lib.hid (fun X hX W h => jx_doc h hX (fun v hD => rremove_any W mb n given2 v E2 hD o.path hp1) (fun hw => remove_grown hw o.path) hg2 hl)
 have HD0 := Lib.hid (HDX.out X0 hX0)
 have HD1 := Lib.hid (fun r => HDX.out (X1 r) (hX1 r))
 clear HDX hc
 have HJS := Lib.hid (fun W W' g3 E3 (h : JX X0 W n mb g3 E3 ob o.cs M0) (k : Kept [] W W') => h.same hX0 k)
 obtain ⟨R2, hR2⟩ : ∃ R2, removeF n given2 E2 o.path = R2 := ⟨_, rfl⟩
 rw [hR2] at HD0 HD1 ⊢
 clear hR2 e2 hX0 hX1
 obtain ⟨kd, at0, n0, p, t, s, mk⟩ := o
 have hk : kd = 8 := hk
 subst hk
 unfold Op16.cs at *
 simp only at *
 obtain ⟨W, hW⟩ : ∃ W, w.alloc (.cells #[I 8, I at0, I n0, S p, S t, S s, B mk] 34) = W := ⟨_, rfl⟩
 rw [hW] at h
 have c0 := h.cells 0 (by simp)
 have c3 := h.cells 3 (by simp)
 simp only [List.getElem_toArray, List.getElem_cons_zero, List.getElem_cons_succ] at c0 c3
 have H := Lib.hid h
 clear h ok hp1 hp2 hp3
 go_enter Tryz.func5, Tryz.ntmps5
 go_upto_region 13 with (simp only [hW, hob]; done)
 have hj0 := HJS.out _ _ _ _ H.out ((Kept.refl [] W).drew)
 go_region_law (first
  | (go_simp; go_at_call 21; (with_reducible refine (HC.out _ _ _ (by assumption)).mono ?_); rintro e w2 ⟨r, rfl, hj⟩; have x3 := hj.cells 3 (by simp); simp only [List.getElem_toArray, List.getElem_cons_zero, List.getElem_cons_succ] at x3)
  | (go_simp; go_at_call 22; (with_reducible refine (HD0.out _ (by assumption)).mono ?_); rintro e w3 ⟨rfl, hj⟩; have x3 := hj.cells 3 (by simp); simp only [List.getElem_toArray, List.getElem_cons_zero, List.getElem_cons_succ] at x3)
  | (go_simp; go_at_call 22; (with_reducible refine (HD1.out _ _ (by assumption)).mono ?_); rintro e w3 ⟨rfl, hj⟩; have x3 := hj.cells 3 (by simp); simp only [List.getElem_toArray, List.getElem_cons_zero, List.getElem_cons_succ] at x3))
 all_goals
  go_wp2
  go_ret2
  exact ⟨_, rfl, by assumption⟩
end
end Go.Proofs.YteplbljjlbdhaaaGreatDoor
