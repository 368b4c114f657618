/- Walks and lemmas on the program of this seat, used by its statements; each theorem bears its own conditions. -/
import Derived.Test.YteplbljjlbdhaaaGreatDoorZ27
import Derived.Test.YteplbljjlbdhaaaGreatDoorZ13
import Derived.Test.YteplbljjlbdhaaaGreatDoorZ29
namespace Go.Proofs.YteplbljjlbdhaaaGreatDoor
open Go.RowKit
set_option linter.unusedVariables false
set_option linter.unusedSimpArgs false
set_option linter.unusedSectionVars false
set_option maxHeartbeats 16000000
set_option maxRecDepth 100000
theorem has_kids (E : List Nd) (p : List Nm) (t : Nm) : hasE (kids E p) t = (ent E (p ++ [t])).isSome := by
 rw [Bool.eq_iff_iff]
 unfold hasE
 rw [List.any_eq_true]
 constructor
 ·rintro ⟨q, hq, he⟩
  have he : q.1 = t := by simpa using he
  obtain ⟨x, hx, h1, _⟩ := mem_kids.1 hq
  cases h : ent E (p ++ [t]) with
  | some y => rfl
  | none => exact absurd (by rw [h1, he]) (ent_none h x hx)
 ·intro h
  obtain ⟨x, hx⟩ := Option.isSome_iff_exists.1 h
  obtain ⟨h1, h2⟩ := ent_mem hx
  exact ⟨(t, x.num), mem_kids.2 ⟨x, h1, h2, rfl⟩, by simp⟩
theorem pos_kids {E : List Nd} (hd : DistP E) {p : List Nm} {t : Nm} {x : Nd} (h : ent E (p ++ [t]) = some x) : (kids E p)[posE (kids E p) t]? = some (t, x.num) := by
 have hs := sort_kids hd p
 have h1 := hasE_pos hs (t := t)
 rw [has_kids, h] at h1
 cases hk : (kids E p)[posE (kids E p) t]? with
 | none => rw [hk] at h1; cases h1
 | some q =>
  rw [hk] at h1
  have hq : q.1 = t := by simpa using h1.symm
  obtain ⟨y, hy, e1, e2⟩ := mem_kids.1 (List.mem_of_getElem? hk)
  obtain ⟨hx, hxp⟩ := ent_mem h
  have : y = x := distP_eq hd hy hx (by rw [e1, hq, hxp])
  subst this
  rw [← hq, e2]
theorem numP_root (E : List Nd) : numP E [] = 1 := rfl
theorem numP_of {E : List Nd} {p : List Nm} {x : Nd} (h : ent E p = some x) (hp : p ≠ []) : numP E p = x.num := by unfold numP; rw [if_neg hp, h]
theorem ent_path_ne {given : Nat} {E : List Nd} (hw : WF given E) {p : List Nm} {x : Nd} (h : ent E p = some x) : p ≠ [] := by
 obtain ⟨h1, h2⟩ := ent_mem h
 rw [← h2]
 exact (hw.form x h1).1
def findF (E : List Nd) : List Nm → List Nm → Nat
 | _, [] => 0
 | so, n :: r => if isDirP E so = false then 163 else if (ent E (so ++ [n])).isNone then 161 else findF E (so ++ [n]) r
def NodeP (w : World) (v : Value) (E : List Nd) (p : List Nm) : Prop :=
 (isDirP E p = true ∧ ∃ d, v = .iface 87 d ∧ EnsAt w d (kids E p)) ∨ (isDirP E p = false ∧ ∃ x, ent E p = some x ∧ v = .iface 78 (.agg #[I x.data.length]))
theorem NodeP.same {w w' : World} {v : Value} {E : List Nd} {p : List Nm} (h : NodeP w v E p) (k : Kept [] w w') : NodeP w' v E p := by
 rcases h with ⟨h1, d, h2, h3⟩ | h
 ·exact .inl ⟨h1, d, h2, h3.same k⟩
 ·exact .inr h
structure FR (w : World) (fb sb : Nat) (V : OM) (given : Nat) (E : List Nd) : Prop where
 cell : w.cell? ⟨fb, 0, none⟩ = some (Ptr sb)
 rd : RD w sb V
 sim : SimV V given E
 wf : WF given E
 gv : given ≤ 16777215
theorem FR.same {w w' : World} {fb sb : Nat} {V : OM} {given : Nat} {E : List Nd} (h : FR w fb sb V given E) (k : Kept [] w w') : FR w' fb sb V given E := ⟨k.cellOf h.cell, h.rd.same k, h.sim, h.wf, h.gv⟩
theorem WF.name {given : Nat} {E : List Nd} (h : WF given E) {x : Nd} (hx : x ∈ E) : ∀ n ∈ x.path, n.length ≤ 24 := fun n hn => WX.name_len (List.all_eq_true.1 (h.form x hx).2.2 n hn)
theorem WF.kid {given : Nat} {E : List Nd} (h : WF given E) (hg : given ≤ 16777215) {p : List Nm} {q : En} (hq : q ∈ kids E p) : q.1.length ≤ 24 ∧ 2 ≤ q.2 ∧ q.2 ≤ 16777216 := by
 obtain ⟨x, hx, h1, h2⟩ := mem_kids.1 hq
 have := h.num x hx
 exact ⟨h.name hx _ (by rw [h1]; simp), by omega, by omega⟩
theorem WF.numP {given : Nat} {E : List Nd} (h : WF given E) {p : List Nm} (hp : p = [] ∨ (ent E p).isSome) : 1 ≤ numP E p ∧ numP E p ≤ given + 1 := by
 by_cases h0 : p = []
 ·subst h0; exact ⟨Nat.le_refl _, by show 1 ≤ _; omega⟩
 ·rcases hp with hp | hp
  ·exact absurd hp h0
  ·obtain ⟨x, hx⟩ := Option.isSome_iff_exists.1 hp
   rw [numP_of hx h0]
   have := h.num x (ent_mem hx).1
   omega
theorem WF.kids_small {given : Nat} {E : List Nd} (h : WF given E) (p : List Nm) : (kids E p).length ≤ 1000 := by have := h.few p; omega
theorem obj_path {given : Nat} {E : List Nd} (h : WF given E) (hg : given ≤ 16777215) {p : List Nm} (hp : p = [] ∨ (ent E p).isSome) :
  objF given E ((64 * numP E p : Nat) : Int) = if p = [] then (if kids E [] ≠ [] then some (rowD (kids E [])) else none) else (ent E p).map (rowX E) := by
 by_cases h0 : p = []
 ·subst h0
  rw [if_pos rfl]
  exact objF_root
 ·rw [if_neg h0]
  rcases hp with hp | hp
  ·exact absurd hp h0
  ·obtain ⟨x, hx⟩ := Option.isSome_iff_exists.1 hp
   obtain ⟨h1, h2⟩ := ent_mem hx
   rw [numP_of hx h0, hx]
   have := objF_at (given := given) (E := E) (n := x.num) (r := 0) (by omega) (h.num x h1).1
   rw [Nat.add_zero, byNum_of h.nums h1] at this
   simpa using this
theorem isDirP_of {given : Nat} {E : List Nd} (h : WF given E) {p : List Nm} {x : Nd} (hx : ent E p = some x) : isDirP E p = x.dir := by
 unfold isDirP
 rw [hx, decide_eq_false (ent_path_ne h hx), Bool.false_or]
theorem isDirP_some {E : List Nd} {p : List Nm} (h : isDirP E p = true) : p = [] ∨ (ent E p).isSome := by
 unfold isDirP at h
 rw [Bool.or_eq_true] at h
 rcases h with h | h
 ·exact .inl (by simpa using h)
 ·right
  cases he : ent E p with
  | none => rw [he] at h; cases h
  | some x => rfl
theorem node_any (w : World) (fb sb : Nat) (V : OM) (given : Nat) (E : List Nd) (h : FR w fb sb V given E) (p : List Nm) (hp : p = [] ∨ (ent E p).isSome) :
  Calls Tryz.prog 89 #[Ptr fb, I (numP E p)] w fun e w' => (∃ v, e = .returned v ∧ NodeP w' v E p) ∧ Kept [] w w' := by
 have hn := h.wf.numP hp
 have hgv := h.gv
 obtain ⟨n, hnn⟩ : ∃ n, numP E p = n := ⟨_, rfl⟩
 have hob := obj_path h.wf h.gv hp
 rw [hnn] at hob hn ⊢
 have HG := Lib.hid (fun W (k : Kept [] w W) => (h.rd.same k).get ((64 * n : Nat) : Int) ⟨by omega, by omega⟩)
 have hval := h.sim ((64 * n : Nat) : Int)
 rw [hob] at hval
 have e0 := h.cell
 obtain ⟨m, hm⟩ : ∃ m, 64 * n = m := ⟨_, rfl⟩
 have hc : (64 : Int) * (n : Int) = (m : Int) := by omega
 have hnI : (n : Int) ≤ 16777216 := by omega
 have hmI : (m : Int) ≤ 1073741824 := by omega
 rw [hm] at HG hval
 have H := Lib.hid h
 have HP := Lib.hid hp
 clear h hob hnn hp hm
 cases hv : valM V (m : Int) with
 | none =>
  have hg : getF V (m : Int) = [] := by unfold getF; rw [hv]; rfl
  have HN : Hid (p = [] ∧ kids E [] = []) := Lib.hid (by
   rw [hv] at hval
   split at hval
   ·next h0 =>
    split at hval
    ·cases hval
    ·next hk => exact ⟨h0, by simpa using hk⟩
   ·next h0 =>
    rcases HP.out with hp | hp
    ·exact absurd hp h0
    ·obtain ⟨x, hx⟩ := Option.isSome_iff_exists.1 hp
     rw [hx] at hval; cases hval)
  rw [hg, hv] at HG
  clear hval hv hg
  go_enter Tryz.func89, Tryz.ntmps89
  go_wp2_with (fail)
  refine (HG.out _ (Kept.refl _ _)).mono ?_
  rintro e w1 ⟨rfl, k1⟩
  have K1 := Lib.hid k1
  clear k1
  go_wp2_with (fail)
  go_ret
  refine ⟨⟨_, rfl, .inl ⟨?_, _, rfl, ?_⟩⟩, K1.out⟩
  ·rw [HN.out.1]; rfl
  ·rw [HN.out.1, HN.out.2]; exact EnsAt.nil _
 | some row =>
  have hg : getF V (m : Int) = row := by unfold getF; rw [hv]; rfl
  rw [hg, hv] at HG
  rw [hv] at hval
  by_cases hd : isDirP E p = true
  ·have hrow : row = rowD (kids E p) := by
    split at hval
    ·next h0 =>
     subst h0
     split at hval
     ·exact Option.some.inj hval
     ·cases hval
    ·next h0 =>
     rcases isDirP_some hd with h1 | h1
     ·exact absurd h1 h0
     ·obtain ⟨x, hx⟩ := Option.isSome_iff_exists.1 h1
      rw [hx] at hval
      have := isDirP_of H.out.wf hx
      have e := Option.some.inj hval
      rw [e]
      unfold rowX
      rw [← this, hd, if_pos rfl, (ent_mem hx).2]
   have HPD := Lib.hid (fun W => parse_dir W (kids E p) (H.out.wf.kids_small p) (fun x hx => by have := H.out.wf.kid H.out.gv hx; omega))
   rw [← hrow] at HPD
   have HD := Lib.hid hd
   clear hval hv hg hrow hd
   go_enter Tryz.func89, Tryz.ntmps89
   go_wp2_with (fail)
   refine (HG.out _ (Kept.refl _ _)).mono ?_
   rintro e w1 ⟨rfl, k1⟩
   have K1 := Lib.hid k1
   clear k1
   go_wp2_with (fail)
   refine (HPD.out _).mono ?_
   rintro e w2 ⟨⟨v, rfl, h2⟩, k2⟩
   have K2 := Lib.hid (And.intro h2 k2)
   clear k2 h2
   go_wp2_with (fail)
   go_ret
   exact ⟨⟨_, rfl, .inl ⟨HD.out, _, rfl, K2.out.1.at⟩⟩, K1.out.trans' K2.out.2⟩
  ·have hp0 : p ≠ [] := by rintro rfl; exact hd rfl
   rw [if_neg hp0] at hval
   obtain ⟨x, hx⟩ : ∃ x, ent E p = some x := by
    rcases HP.out with h | h
    ·exact absurd h hp0
    ·exact Option.isSome_iff_exists.1 h
   have hxd := isDirP_of H.out.wf hx
   have hdf : isDirP E p = false := by simpa using hd
   rw [hdf] at hxd
   have hrow : row = rowF x.data.length := by
    rw [hx] at hval
    have e := Option.some.inj hval
    rw [e]
    unfold rowX
    rw [← hxd, if_neg (by decide)]
   have hdl := (H.out.wf.data x (ent_mem hx).1).1
   have HPD := Lib.hid (fun W => parse_file W x.data.length (by omega))
   rw [← hrow] at HPD
   have HD := Lib.hid (And.intro hdf hx)
   clear hval hv hg hrow hd hx hxd hdf hdl hp0
   go_enter Tryz.func89, Tryz.ntmps89
   go_wp2_with (fail)
   refine (HG.out _ (Kept.refl _ _)).mono ?_
   rintro e w1 ⟨rfl, k1⟩
   have K1 := Lib.hid k1
   clear k1
   go_wp2_with (fail)
   refine (HPD.out _).mono ?_
   rintro e w2 ⟨rfl, k2⟩
   have K2 := Lib.hid k2
   clear k2
   go_wp2_with (fail)
   go_ret
   exact ⟨⟨_, rfl, .inr ⟨HD.out.1, x, HD.out.2, rfl⟩⟩, K1.out.trans' K2.out⟩
theorem findF_snoc_ok {E : List Nd} {so r : List Nm} {n : Nm} (h1 : isDirP E so = true) (h2 : (ent E (so ++ [n])).isSome = true) : findF E so (n :: r) = findF E (so ++ [n]) r := by
 rw [findF, if_neg (by rw [h1]; decide), if_neg (by cases h : ent E (so ++ [n]) <;> simp_all)]
theorem findF_not {E : List Nd} {so r : List Nm} {n : Nm} (h1 : isDirP E so = false) : findF E so (n :: r) = 163 := by rw [findF, if_pos h1]
theorem findF_none {E : List Nd} {so r : List Nm} {n : Nm} (h1 : isDirP E so = true) (h2 : (ent E (so ++ [n])).isSome = false) : findF E so (n :: r) = 161 := by
 rw [findF, if_neg (by rw [h1]; decide), if_pos (by cases h : ent E (so ++ [n]) <;> simp_all)]
def FindP (w : World) (v : Value) (E : List Nd) (p : List Nm) : Prop :=
 if findF E [] p = 0 then ∃ nv, v = .tuple #[I (numP E p), nv, I 0] ∧ NodeP w nv E p else v = .tuple #[I 0, .nilIface, I (findF E [] p)]
theorem find_any (w : World) (fb sb : Nat) (V : OM) (given : Nat) (E : List Nd) (h : FR w fb sb V given E) (lv : Value) (p : List Nm) (hl : StrsAt w lv p) (hp : p.length ≤ 8) :
  Calls Tryz.prog 54 #[Ptr fb, lv] w fun e w' => (∃ v, e = .returned v ∧ FindP w' v E p ∧ (findF E [] p = 0 → p = [] ∨ (ent E p).isSome)) ∧ Kept [] w w' := by
 obtain ⟨lp, lc, rfl, h1, h2, _, h3⟩ := hl
 have HL := Lib.hid h3
 have H := Lib.hid h
 have HN := Lib.hid (fun W (k : Kept [] w W) so hso => node_any W fb sb V given E (h.same k) so hso)
 have HN0 := HN.out w (Kept.refl _ _) [] (.inl rfl)
 rw [numP_root] at HN0
 have HN0 := Lib.hid HN0
 have hpI : (p.length : Int) ≤ 8 := by omega
 clear h h1 h2 h3
 go_enter Tryz.func54, Tryz.ntmps54
 go_wp2_with (fail)
 refine HN0.out.mono ?_
 rintro e w1 ⟨⟨v1, rfl, hv1⟩, k1⟩
 have K1 := Lib.hid (And.intro hv1 k1)
 clear hv1 k1
 go_wp2_with (fail)
 go_loopw [7, 8, 19] (fun v7 v8 i wr => ∃ (j : Nat), j ≤ p.length ∧ i = I j ∧ v7 = I (numP E (p.take j)) ∧ NodeP wr v8 E (p.take j) ∧ findF E [] p = findF E (p.take j) (p.drop j) ∧ (p.take j = [] ∨ (ent E (p.take j)).isSome) ∧ Kept [] w wr) (fun _ _ i _ => p.length - (intOf i).toNat)
 case atStart => exact ⟨0, by omega, rfl, rfl, K1.out.1, rfl, .inl rfl, K1.out.2⟩
 case round =>
  obtain ⟨j, hj, rfl, rfl, hnp, hf, hso, kr⟩ := hrel
  by_cases hlt : j < p.length
  ·have hltI : (j : Int) < p.length := by omega
   obtain ⟨b, off, hpe, hcl⟩ := HL.out (by intro h; subst h; simp at hlt)
   subst hpe
   have e0 := kr.cellOf (hcl j hlt)
   obtain ⟨n, hn⟩ : ∃ n, p[j] = n := ⟨_, rfl⟩
   rw [show p.getD j [] = n by rw [List.getD_eq_getElem?_getD, List.getElem?_eq_getElem hlt, hn]; rfl] at e0
   have htk : p.take (j + 1) = p.take j ++ [n] := by rw [List.take_add_one, List.getElem?_eq_getElem hlt, hn]; rfl
   have hdr : p.drop j = n :: p.drop (j + 1) := by rw [List.drop_eq_getElem_cons hlt, hn]
   rw [hdr] at hf
   obtain ⟨so, hsoe⟩ : ∃ so, p.take j = so := ⟨_, rfl⟩
   rw [hsoe] at hnp hf hso htk
   have HJ := Lib.hid (And.intro hf (And.intro htk (And.intro hso kr)))
   clear hf htk hso hdr hsoe hn hcl
   rcases hnp with ⟨hd, d, rfl, hens⟩ | ⟨hd, x, hx, rfl⟩
   ·have hta := fun (W : World) => (show (Instr.typeAssert (.iface 87 d) 99 87 true).run Tryz.prog W = .ok (.tuple #[d, .bool true]) W from by kernel_rfl)
    have HE := Lib.hid (entered_any wr d (kids E so) hens (sort_kids H.out.wf.paths so) (H.out.wf.kids_small so) n)
    rw [has_kids] at HE
    cases he : ent E (so ++ [n]) with
    | none =>
     rw [he] at HE
     have HF : Hid (findF E [] p = 161) := Lib.hid (by rw [HJ.out.1, findF_none hd (by rw [he]; rfl)])
     clear hens hd he
     go_wp2_with (fail)
     refine HE.out.mono ?_
     rintro e w2 ⟨rfl, k2⟩
     have K2 := Lib.hid k2
     clear k2
     go_wp2_with (fail)
     go_ret3
     refine ⟨⟨_, rfl, ?_, ?_⟩, HJ.out.2.2.2.trans' K2.out⟩
     ·unfold FindP; rw [HF.out, if_neg (by decide)]; rfl
     ·rw [HF.out]; intro h; cases h
    | some x =>
     rw [he] at HE
     have hpos := pos_kids H.out.wf.paths he
     have hden := HE
     obtain ⟨q, hq⟩ : ∃ q, posE (kids E so) n = q := ⟨_, rfl⟩
     rw [hq] at HE hpos
     obtain ⟨pd, cd, bd, rfl, hcd, hpd, hcells⟩ := hens
     have hql : q < (kids E so).length := (List.getElem?_eq_some_iff.1 hpos).1
     have hpe := hpd (by intro h; rw [h] at hql; simp at hql)
     subst hpe
     have c1 := (hcells q hql).2
     rw [(List.getElem?_eq_some_iff.1 hpos).2] at c1
     simp only at c1
     have hx2 : numP E (so ++ [n]) = x.num := numP_of he (by simp)
     have hson : so ++ [n] = [] ∨ (ent E (so ++ [n])).isSome := .inr (by rw [he]; rfl)
     have HN2 := Lib.hid (fun W (k : Kept [] w W) => HN.out W k (so ++ [n]) hson)
     rw [hx2] at HN2
     have HX := Lib.hid (And.intro hx2 hson)
     have hqI : (q : Int) < ((kids E so).length : Int) := by omega
     have hkI : ((kids E so).length : Int) ≤ 1000 := by have := H.out.wf.kids_small so; omega
     have HF : Hid (findF E [] p = findF E (so ++ [n]) (p.drop (j + 1))) := Lib.hid (by rw [HJ.out.1, findF_snoc_ok hd (by rw [he]; rfl)])
     have HC1 := Lib.hid (fun W (k : Kept [] wr W) => k.cellOf c1)
     obtain ⟨kl, hkl⟩ : ∃ kl, (kids E so).length = kl := ⟨_, rfl⟩
     rw [hkl] at HE hqI hkI hta
     clear hd he hpos hql hcells hcd hpd hx2 hson hden hq c1
     rw [hkl] at *
     go_wp2_with (fail)
     refine HE.out.mono ?_
     rintro e w2 ⟨rfl, k2⟩
     have c2 := HC1.out w2 k2
     have K2 := Lib.hid k2
     clear k2
     go_wp2_with (fail)
     refine (HN2.out w2 (HJ.out.2.2.2.trans' K2.out)).mono ?_
     rintro e w3 ⟨⟨v3, rfl, h3⟩, k3⟩
     have K3 := Lib.hid (And.intro h3 k3)
     clear h3 k3
     go_wp2_with (fail)
     go_roundw
     case rel =>
      refine ⟨j + 1, by omega, by go_num, ?_, ?_, ?_, ?_, (HJ.out.2.2.2.trans' K2.out).trans' K3.out.2⟩
      ·rw [HJ.out.2.1, HX.out.1]
      ·rw [HJ.out.2.1]; exact K3.out.1
      ·rw [HJ.out.2.1]; exact HF.out
      ·rw [HJ.out.2.1]; exact HX.out.2
     case measure => simp [intOf]; omega
   ·have hta := fun (W : World) => (show (Instr.typeAssert (.iface 78 (.agg #[I x.data.length])) 99 87 true).run Tryz.prog W = .ok (.tuple #[.slice none 0 0, .bool false]) W from by kernel_rfl)
    have HF : Hid (findF E [] p = 163) := Lib.hid (by rw [HJ.out.1, findF_not hd])
    clear hd hx
    go_wp2_with (fail)
    go_ret3
    refine ⟨⟨_, rfl, ?_, ?_⟩, HJ.out.2.2.2⟩
    ·unfold FindP; rw [HF.out, if_neg (by decide)]; rfl
    ·rw [HF.out]; intro h; cases h
  ·have hje : j = p.length := by omega
   subst hje
   rw [List.take_length] at hnp hso
   rw [List.take_length, List.drop_length] at hf
   have HF : Hid (findF E [] p = 0) := Lib.hid (by rw [hf]; rfl)
   rw [List.take_length]
   have HK := Lib.hid (And.intro hnp (And.intro hso kr))
   clear hf hnp hso kr
   go_wp2_with (fail)
   go_ret3
   refine ⟨⟨_, rfl, ?_, fun _ => HK.out.2.1⟩, HK.out.2.2⟩
   unfold FindP
   rw [if_pos HF.out]
   exact ⟨_, rfl, HK.out.1⟩
end Go.Proofs.YteplbljjlbdhaaaGreatDoor
