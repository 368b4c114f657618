/- Walks and lemmas on the program of this seat, used by its statements; each theorem bears its own conditions. -/
import Derived.Test.YteplbljjlbdhaaaGreatDoorZ40
import Derived.Test.YteplbljjlbdhaaaGreatDoorZ41
namespace Go.Proofs.YteplbljjlbdhaaaGreatDoor
open Go.RowKit
set_option linter.unusedVariables false
set_option linter.unusedSimpArgs false
set_option linter.unusedSectionVars false
set_option maxHeartbeats 16000000
set_option maxRecDepth 100000
def pathT (p : List Nm) : List UInt8 := if p = [] then [47] else slashed p
def PV (p : List Nm) : Prop := p.length ≤ 8 ∧ p.all WX.nameB = true
theorem pathT_nil : pathT [] = [47] := rfl
theorem pathT_join (p : List Nm) : pathT p = 47 :: [47].intercalate p := by
 unfold pathT
 split
 ·next h => subst h; rfl
 ·next h => exact slashed_inter p h
theorem pathT_of {s : List UInt8} {p : List Nm} (h : WX.pathF s = some p) : s = pathT p ∧ PV p := by
 have h2 := WX.path_names h
 have h3 := WX.join_path h
 unfold WX.joinF at h3
 rw [if_pos h2] at h3
 exact ⟨by rw [pathT_join]; exact (congrArg Prod.fst h3).symm, h2⟩
theorem path_T {p : List Nm} (h : PV p) : WX.pathF (pathT p) = some p := by
 have e : WX.joinF p = (pathT p, 0) := by unfold WX.joinF; rw [if_pos (show p.length ≤ 8 ∧ p.all WX.nameB = true from h), pathT_join]
 have := WX.path_join (ns := p) (by rw [e])
 rw [e] at this
 exact this
theorem pathT_inj {p q : List Nm} (hp : PV p) (hq : PV q) (h : pathT p = pathT q) : p = q := by
 have h1 := path_T hp
 rw [h, path_T hq] at h1
 exact (Option.some.inj h1).symm
theorem pathT_eq {p q : List Nm} (hp : PV p) (hq : PV q) : (pathT p == pathT q) = decide (p = q) := by
 by_cases h : p = q
 ·subst h; simp
 ·rw [decide_eq_false h]
  simpa using fun e => h (pathT_inj hp hq e)
theorem PV.nil : PV [] := ⟨by simp, rfl⟩
theorem PV.take {p : List Nm} (h : PV p) (k : Nat) : PV (p.take k) := ⟨by rw [List.length_take]; have := h.1; omega, List.all_eq_true.2 fun x hx => List.all_eq_true.1 h.2 x (List.mem_of_mem_take hx)⟩
theorem PV.front {p : List Nm} (h : PV p) : PV p.dropLast := by rw [List.dropLast_eq_take]; exact h.take _
theorem WF.pv {given : Nat} {E : List Nd} (h : WF given E) {x : Nd} (hx : x ∈ E) : PV x.path := (h.form x hx).2
theorem pathT_len {p : List Nm} (h : PV p) : (pathT p).length ≤ 201 := by
 unfold pathT
 split
 ·simp
 ·have := slashed_len p (fun n hn => WX.name_len (List.all_eq_true.1 h.2 n hn))
  have := h.1
  omega
theorem pathT_root {p : List Nm} (h : PV p) : (pathT p == [47]) = decide (p = []) := by
 rw [← pathT_nil, pathT_eq h PV.nil]
theorem pathT_snoc (p : List Nm) (n : Nm) : pathT (p ++ [n]) = slashed p ++ 47 :: n := by
 unfold pathT
 rw [if_neg (by simp), slashed_snoc]
theorem slashed_app (a b : List Nm) : slashed (a ++ b) = slashed a ++ slashed b := by simp [slashed]
def edCells (E : List Nd) : List Value := E.flatMap fun x => [S (pathT x.path), .bool x.dir, S x.data]
theorem edCells_append (a b : List Nd) : edCells (a ++ b) = edCells a ++ edCells b := by unfold edCells; rw [List.flatMap_append]
theorem edCells_at (E : List Nd) (i : Nat) (hi : i < E.length) : (edCells E)[i * 3]? = some (S (pathT E[i].path)) ∧ (edCells E)[i * 3 + 1]? = some (.bool E[i].dir) ∧ (edCells E)[i * 3 + 2]? = some (S E[i].data) := by
 induction E generalizing i with
 | nil => simp at hi
 | cons x t ih =>
  have e : edCells (x :: t) = S (pathT x.path) :: .bool x.dir :: S x.data :: edCells t := rfl
  cases i with
  | zero => rw [e]; exact ⟨rfl, rfl, rfl⟩
  | succ i =>
   have := ih i (by simpa using hi)
   rw [e, show (i + 1) * 3 = i * 3 + 1 + 1 + 1 by omega]
   simpa using this
def EDAt (w : World) (v : Value) (E : List Nd) : Prop := ∃ p c b, v = .slice p E.length c ∧ E.length ≤ c ∧ (E ≠ [] → p = some ⟨b, 0, none⟩) ∧
 ∀ (i : Nat) (hi : i < E.length), w.cell? ⟨b, i * 3, none⟩ = some (S (pathT E[i].path)) ∧ w.cell? ⟨b, i * 3 + 1, none⟩ = some (.bool E[i].dir) ∧ w.cell? ⟨b, i * 3 + 2, none⟩ = some (S E[i].data)
theorem EDAt.same {w w' : World} {v : Value} {E : List Nd} (h : EDAt w v E) (k : Kept [] w w') : EDAt w' v E := by
 obtain ⟨p, c, b, e, h0, h1, h2⟩ := h
 exact ⟨p, c, b, e, h0, h1, fun i hi => ⟨k.cellOf (h2 i hi).1, k.cellOf (h2 i hi).2.1, k.cellOf (h2 i hi).2.2⟩⟩
theorem EDAt.nil (w : World) : EDAt w (.slice none 0 0) [] := ⟨none, 0, 0, rfl, Nat.le_refl _, fun h => absurd rfl h, fun i hi => by simp at hi⟩
theorem EDAt.kept {w w' : World} {v : Value} {E : List Nd} {T : List Nat} (h : EDAt w v E) (k : Kept T w w') (hT : ∀ q, v.ownBlock = some q → q ∉ T) : EDAt w' v E := by
 obtain ⟨p, c, b, rfl, h0, h1, h2⟩ := h
 refine ⟨p, c, b, rfl, h0, h1, fun i hi => ?_⟩
 have e := h1 (by intro h; rw [h] at hi; simp at hi)
 subst e
 have hb := hT b rfl
 obtain ⟨a1, a2, a3⟩ := h2 i hi
 exact ⟨kept_cell k a1 hb, kept_cell k a2 hb, kept_cell k a3 hb⟩
abbrev EDOwn (w : World) (lo : Nat) (v : Value) (E : List Nd) : Prop := w.ownsRow lo 85 3 v E.length (edCells E)
theorem EDOwn.at {w : World} {lo : Nat} {v : Value} {E : List Nd} (h : EDOwn w lo v E) : EDAt w v E := by
 rcases h.2 with ⟨hv, h0⟩ | ⟨g, c, cur, hv, hb, hg, hn, hc, hsz, ht⟩
 ·have : E = [] := List.length_eq_zero_iff.1 h0
  subst this
  rw [hv]
  exact EDAt.nil w
 ·refine ⟨some ⟨g, 0, none⟩, c, g, hv, hn, fun _ => rfl, fun i hi => ?_⟩
  obtain ⟨q1, q2, q3⟩ := edCells_at E i hi
  rw [cell_at hg, cell_at hg, cell_at hg]
  have hcell : ∀ j, j < E.length * 3 → cur[j]? = (edCells E)[j]? := by
   intro j hj
   have := congrArg (fun l => l[j]?) ht
   rw [List.getElem?_take_of_lt hj, Array.getElem?_toList] at this
   exact this
  rw [hcell _ (by omega), hcell _ (by omega), hcell _ (by omega)]
  exact ⟨q1, q2, q3⟩
theorem ed_info : (Tryz.prog.info? 85).map (fun i => (i.zero, i.size, i.bytes)) = some (some (.agg #[S [], .bool false, S []]), 3, 40) := by kernel_rfl
def FDAt (w : World) (mb n given : Nat) (v : Value) (E : List Nd) : Prop := w.heap[mb]? = some (.cells #[I n, I given, v] 47 (0, 0)) ∧ EDAt w v E
theorem FDAt.same {w w' : World} {mb n given : Nat} {v : Value} {E : List Nd} (h : FDAt w mb n given v E) (k : Kept [] w w') : FDAt w' mb n given v E := ⟨k.at h.1 (by simp), h.2.same k⟩
theorem FDAt.cells {w : World} {mb n given : Nat} {v : Value} {E : List Nd} (h : FDAt w mb n given v E) : w.cell? ⟨mb, 0, none⟩ = some (I n) ∧ w.cell? ⟨mb, 1, none⟩ = some (I given) ∧ w.cell? ⟨mb, 2, none⟩ = some v := by
 refine ⟨?_, ?_, ?_⟩ <;> · rw [cell_at h.1]; rfl
def atF : List Nd → List Nm → Int
 | [], _ => -1
 | x :: t, p => if x.path = p then 0 else if atF t p < 0 then -1 else atF t p + 1
theorem atF_some {E : List Nd} {p : List Nm} {x : Nd} (h : ent E p = some x) : ∃ i : Nat, atF E p = i ∧ E[i]? = some x := by
 induction E with
 | nil => cases h
 | cons y t ih =>
  unfold ent at h
  rw [List.find?_cons] at h
  unfold atF
  by_cases hy : y.path = p
  ·rw [decide_eq_true hy] at h
   rw [if_pos hy]
   exact ⟨0, rfl, by simpa using h⟩
  ·rw [decide_eq_false hy] at h
   obtain ⟨i, h1, h2⟩ := ih h
   rw [if_neg hy, h1, if_neg (by omega)]
   exact ⟨i + 1, by omega, by simpa using h2⟩
theorem atF_none {E : List Nd} {p : List Nm} (h : ent E p = none) : atF E p = -1 := by
 induction E with
 | nil => rfl
 | cons y t ih =>
  have h1 := ent_none h y (by simp)
  unfold atF
  rw [if_neg h1, ih (by unfold ent at h ⊢; rw [List.find?_cons, decide_eq_false h1] at h; exact h), if_pos (by decide)]
theorem atF_neg {E : List Nd} {p : List Nm} : decide (atF E p < 0) = (ent E p).isNone := by
 cases h : ent E p with
 | none => rw [atF_none h]; rfl
 | some x => obtain ⟨i, h1, _⟩ := atF_some h; rw [h1]; simp
theorem atF_step {E : List Nd} {p : List Nm} : ∀ (k : Nat) (hk : k < E.length), (∀ j (hj : j < E.length), j < k → E[j].path ≠ p) → E[k].path = p → atF E p = k := by
 induction E with
 | nil => intro k hk; simp at hk
 | cons x t ih =>
  intro k hk hj he
  unfold atF
  cases k with
  | zero =>
   have he : x.path = p := he
   rw [if_pos he]; rfl
  | succ k =>
   have h0 : x.path ≠ p := hj 0 (by simp) (by omega)
   have := ih k (by simpa using hk) (fun j hj1 hj2 => hj (j + 1) (by simpa using hj1) (by omega)) he
   rw [if_neg h0, this, if_neg (by omega)]
   omega
theorem atF_last {E : List Nd} {p : List Nm} (h : ∀ j (hj : j < E.length), E[j].path ≠ p) : atF E p = -1 := by
 refine atF_none ?_
 unfold ent
 rw [List.find?_eq_none]
 intro x hx
 obtain ⟨j, hj, rfl⟩ := List.getElem_of_mem hx
 simpa using h j hj
theorem rat_any (w : World) (mb n given : Nat) (v : Value) (E : List Nd) (h : FDAt w mb n given v E) (hE : E.length ≤ 1000) (hpv : ∀ x ∈ E, PV x.path) (p : List Nm) (hp : PV p) :
  Calls Tryz.prog 51 #[Ptr mb, S (pathT p)] w fun e w' => e = .returned (I (atF E p)) ∧ w' = w := by
 obtain ⟨_, _, c2⟩ := h.cells
 obtain ⟨lp, c, b, rfl, hcap, hlp, hcells⟩ := h.2
 have HC := Lib.hid (And.intro hlp (And.intro hcells (And.intro hpv hp)))
 obtain ⟨pt, hpt⟩ : ∃ pt, pathT p = pt := ⟨_, rfl⟩
 have HPT := Lib.hid hpt
 have hEI : (E.length : Int) ≤ 1000 := by omega
 obtain ⟨r, hr⟩ : ∃ r, atF E p = r := ⟨_, rfl⟩
 have HR := Lib.hid hr
 rw [hpt, hr]
 clear h hcap hlp hcells hpv hp hpt hr
 go_enter Tryz.func51, Tryz.ntmps51
 go_wp2_with (fail)
 go_loop [5] (fun v5 => ∃ k : Nat, k ≤ E.length ∧ v5 = I k ∧ ∀ j (hj : j < E.length), j < k → E[j].path ≠ p) (fun v5 => E.length - (intOf v5).toNat)
 case atStart => exact ⟨0, by omega, rfl, fun j _ hj => by omega⟩
 case round =>
  obtain ⟨k, hk, rfl, hno⟩ := hrel
  have HNO := Lib.hid hno
  clear hno
  by_cases hlt : k < E.length
  ·have hltI : (k : Int) < E.length := by omega
   obtain ⟨hlp, hcells, hpv, hp⟩ := HC.out
   have hpe := hlp (by intro h; rw [h] at hlt; simp at hlt)
   subst hpe
   obtain ⟨d0, _, _⟩ := hcells k hlt
   have hq := pathT_eq (hpv _ (List.getElem_mem hlt)) hp
   rw [HPT.out] at hq
   obtain ⟨t, ht⟩ : ∃ t, pathT E[k].path = t := ⟨_, rfl⟩
   rw [ht] at d0 hq
   by_cases he : E[k].path = p
   ·rw [decide_eq_true he] at hq
    have HX : Hid (r = k) := Lib.hid (by rw [← HR.out]; exact atF_step k hlt HNO.out he)
    clear hlp hcells hpv hp ht he
    go_wp2_with (fail)
    go_ret
    exact ⟨by rw [HX.out]; rfl, rfl⟩
   ·rw [decide_eq_false he] at hq
    have HH := Lib.hid he
    clear hlp hcells hpv hp ht he
    go_wp2_with (fail)
    go_round
    case rel =>
     refine ⟨k + 1, by omega, by go_num, fun j hj hjk => ?_⟩
     by_cases hjk2 : j < k
     ·exact HNO.out j hj hjk2
     ·have : j = k := by omega
      subst this
      exact HH.out
    case measure => simp [intOf]; omega
  ·have hke : k = E.length := by omega
   subst hke
   have HX : Hid (r = -1) := Lib.hid (by rw [← HR.out]; exact atF_last (fun j hj => HNO.out j hj hj))
   clear hlt
   go_wp2_with (fail)
   go_ret
   exact ⟨by rw [HX.out]; rfl, rfl⟩
theorem rjoin_path (p : List Nm) (hp : PV p) (nm : Nm) (hn : nm.length ≤ 1000) (w : World) :
  Calls Tryz.prog 97 #[S (pathT p), S nm] w fun e w' => e = .returned (S (pathT (p ++ [nm]))) ∧ w' = w := by
 have hl := pathT_len hp
 have hr := pathT_root hp
 have hs := pathT_snoc p nm
 obtain ⟨R, hR⟩ : ∃ R, pathT (p ++ [nm]) = R := ⟨_, rfl⟩
 rw [hR] at hs ⊢
 by_cases h0 : p = []
 ·subst h0
  have HS : Hid (R = 47 :: nm) := Lib.hid hs
  clear hl hr hs hp hR
  go_enter Tryz.func97, Tryz.ntmps97
  rw [pathT_nil]
  go_wp2_with (fail)
  go_ret
  exact ⟨by rw [HS.out]; rfl, rfl⟩
 ·rw [decide_eq_false h0] at hr
  have HS : Hid (R = pathT p ++ 47 :: nm) := Lib.hid (by rw [hs]; unfold pathT; rw [if_neg h0])
  obtain ⟨t, ht⟩ : ∃ t, pathT p = t := ⟨_, rfl⟩
  rw [ht] at hl hr HS ⊢
  have hlI : (t.length : Int) ≤ 201 := by omega
  have hnI : (nm.length : Int) ≤ 1000 := by omega
  clear hs hp hR h0 ht
  go_enter Tryz.func97, Tryz.ntmps97
  go_wp2_with (fail)
  go_ret
  exact ⟨by rw [HS.out]; simp, rfl⟩
theorem rup_any (p : List Nm) (hp : PV p) (hne : p ≠ []) (w : World) :
    Calls Tryz.prog 40 #[S (pathT p)] w fun e w' => e = .returned (.tuple #[S (pathT p.dropLast), S (p.getLastD [])]) ∧ Kept [] w w' := by
  have hl := pathT_len hp
  have hs : pathT p = slashed p.dropLast ++ 47 :: p.getLastD [] := by rw [← pathT_snoc, last_snoc hne]
  have hno : ∀ c ∈ p.getLastD [], c ≠ 47 := by
    have h2 := last_snoc hne
    exact WX.name_no47 hp.2 _ (by rw [← h2]; simp)
  obtain ⟨t, ht⟩ : ∃ t, p.getLastD [] = t := ⟨_, rfl⟩
  obtain ⟨q, hq⟩ : ∃ q, p.dropLast = q := ⟨_, rfl⟩
  obtain ⟨s, hss⟩ : ∃ s, pathT p = s := ⟨_, rfl⟩
  obtain ⟨L, hL⟩ : ∃ L, (slashed q).length = L := ⟨_, rfl⟩
  rw [ht] at hs hno ⊢
  rw [hq] at hs ⊢
  rw [hss] at hs hl ⊢
  have hsl : s.length = L + t.length + 1 := by rw [hs, List.length_append, List.length_cons, hL]; omega
  have hb0 : byteAt s L = 47 := by
    unfold byteAt
    rw [hs, List.getD_eq_getElem?_getD, List.getElem?_append_right (by omega), hL, Nat.sub_self]
    rfl
  have hb1 : ∀ j, j < t.length → byteAt s (L + (j + 1)) ≠ 47 := fun j hj => by
    unfold byteAt
    rw [hs, List.getD_eq_getElem?_getD, List.getElem?_append_right (by omega), hL, show L + (j + 1) - L = j + 1 by omega, List.getElem?_cons_succ, List.getElem?_eq_getElem hj]
    exact hno _ (List.getElem_mem hj)
  have hd : s.drop (L + 1) = t := by
    rw [hs, show slashed q ++ 47 :: t = (slashed q ++ [47]) ++ t by simp, List.drop_left' (by simp [hL])]
  have htk : s.take L = slashed q := by rw [hs, List.take_left' hL]
  have HQ : Hid ((L = 0 → pathT q = [47]) ∧ (L ≠ 0 → pathT q = s.take L)) := Lib.hid ⟨fun h => by
      unfold pathT
      rw [if_pos]
      cases q with
      | nil => rfl
      | cons a r => simp [slashed] at hL; omega, fun h => by
      unfold pathT
      rw [if_neg, htk]
      rintro rfl
      exact h (by rw [← hL]; rfl)⟩
  have HH := Lib.hid (And.intro hsl (And.intro hb0 (And.intro hb1 hd)))
  have hsI : (s.length : Int) ≤ 201 := by omega
  have hLI : (L : Int) ≤ 201 := by omega
  have htI : (t.length : Int) ≤ 201 := by omega
  have hs1 : (s.length : Int) - 1 = ((L + t.length : Nat) : Int) := by omega
  obtain ⟨T, hT⟩ : ∃ T, pathT q = T := ⟨_, rfl⟩
  rw [hT] at HQ ⊢
  clear hs hno ht hq hss hL hb0 hb1 hd htk hsl hp hne hT
  go_enter Tryz.func40, Tryz.ntmps40
  go_wp2_with (fail)
  go_loop [4] (fun v4 => ∃ j : Nat, j ≤ t.length ∧ v4 = I ((L + j : Nat) : Int)) (fun v4 => (intOf v4).toNat)
  case atStart => exact ⟨t.length, Nat.le_refl _, rfl⟩
  case round =>
    obtain ⟨j, hj, rfl⟩ := hrel
    obtain ⟨hsl, hb0, hb1, hd⟩ := HH.out
    obtain ⟨i, hi⟩ : ∃ i, L + j = i := ⟨_, rfl⟩
    rw [hi]
    have hiI : (i : Int) < s.length := by omega
    by_cases h0 : j = 0
    · have hb : (((byteAt s i).toNat : Int) != 47) = false := by rw [← hi, h0, Nat.add_zero, hb0]; rfl
      obtain rfl : i = L := by omega
      by_cases hL0 : i = 0
      · have hiz : ((i : Int) == 0) = true := by rw [hL0]; rfl
        have HE := Lib.hid (And.intro (HQ.out.1 hL0) hL0)
        have HD := Lib.hid hd
        have hs2 : (1 : Int) ≤ s.length := by omega
        clear hb0 hb1 hd hsl hL0 h0 hi hj
        go_wp2_with (fail)
        go_quiet (fail)
        go_wp2
        go_returns
        refine ⟨?_, (Kept.refl _ _).drewN _⟩
        rw [HE.out.1, ← HD.out, HE.out.2, show s.drop (0 + 1) = s.tail from List.drop_one]
        rfl
      · have hiz : ((i : Int) == 0) = false := by simp; omega
        have HE := Lib.hid (HQ.out.2 hL0)
        have HD := Lib.hid hd
        have hi1 : (i : Int) + 1 ≤ s.length := by omega
        clear hb0 hb1 hd hsl hL0 h0 hi hj
        go_wp2_with (fail)
        go_quiet (fail)
        go_wp2
        go_returns
        refine ⟨?_, (Kept.refl _ _).drewN _⟩
        rw [HE.out, ← HD.out]
        rfl
    · have hb : (((byteAt s i).toNat : Int) != 47) = true := by
        have h1 := hb1 (j - 1) (by omega)
        rw [show j - 1 + 1 = j by omega, hi] at h1
        rw [bne_iff_ne]
        intro e
        exact h1 (UInt8.toNat_inj.1 (by show (byteAt s i).toNat = 47; omega))
      clear hb0 hb1 hd hsl
      go_wp2_with (fail)
      go_round
      case rel => exact ⟨j - 1, by omega, by go_num⟩
      case measure => simp [intOf]; omega
section
variable {w : World} {mb n given g0 : Nat} {v : Value} {E : List Nd} (h : FDAt w mb n given v E) (hE : E.length ≤ 1000) (hw : WF g0 E)
include h hE hw
theorem rdir_any (p : List Nm) (hp : PV p) :
  Calls Tryz.prog 82 #[Ptr mb, S (pathT p)] w fun e w' => e = .returned (.bool (isDirP E p)) ∧ w' = w := by
 have HA := Lib.hid (rat_any w mb n given v E h hE (fun x hx => hw.pv hx) p hp)
 obtain ⟨_, _, c2⟩ := h.cells
 obtain ⟨lp, c, b, rfl, hcap, hlp, hcells⟩ := h.2
 have hr := pathT_root hp
 have hEI : (E.length : Int) ≤ 1000 := by omega
 have hid : isDirP E p = (decide (p = []) || (match ent E p with | some x => x.dir | none => false)) := rfl
 cases hee : ent E p with
 | none =>
  have ha := atF_none hee
  rw [hee] at hid
  rw [ha] at HA
  by_cases h0 : p = []
  ·rw [decide_eq_true h0] at hr
   have HI : Hid (isDirP E p = true) := Lib.hid (by rw [hid, decide_eq_true h0]; rfl)
   obtain ⟨t, ht⟩ : ∃ t, pathT p = t := ⟨_, rfl⟩
   rw [ht] at hr HA ⊢
   obtain ⟨bb, hbb⟩ : ∃ bb, isDirP E p = bb := ⟨_, rfl⟩
   rw [hbb] at HI ⊢
   clear h hE hw hp hcells hlp hid hee ha h0 ht hbb hcap
   go_enter Tryz.func82, Tryz.ntmps82
   go_wp2_with (fail)
   refine HA.out.mono ?_
   rintro e w1 ⟨rfl, rfl⟩
   go_wp2_with (fail)
   go_ret
   exact ⟨by rw [HI.out]; rfl, rfl⟩
  ·rw [decide_eq_false h0] at hr
   have HI : Hid (isDirP E p = false) := Lib.hid (by rw [hid, decide_eq_false h0]; rfl)
   obtain ⟨t, ht⟩ : ∃ t, pathT p = t := ⟨_, rfl⟩
   rw [ht] at hr HA ⊢
   obtain ⟨bb, hbb⟩ : ∃ bb, isDirP E p = bb := ⟨_, rfl⟩
   rw [hbb] at HI ⊢
   clear h hE hw hp hcells hlp hid hee ha h0 ht hbb hcap
   go_enter Tryz.func82, Tryz.ntmps82
   go_wp2_with (fail)
   refine HA.out.mono ?_
   rintro e w1 ⟨rfl, rfl⟩
   go_wp2_with (fail)
   go_ret
   exact ⟨by rw [HI.out]; rfl, rfl⟩
 | some x =>
  obtain ⟨i, ha, hi⟩ := atF_some hee
  obtain ⟨hxE, hxp⟩ := ent_mem hee
  have h0 : p ≠ [] := by rw [← hxp]; exact (hw.form x hxE).1
  rw [decide_eq_false h0] at hr
  have HI : Hid (isDirP E p = x.dir) := Lib.hid (by rw [hid, hee, decide_eq_false h0]; rfl)
  have hil := (List.getElem?_eq_some_iff.1 hi).1
  have hix := (List.getElem?_eq_some_iff.1 hi).2
  have hpe := hlp (by intro h; rw [h] at hil; simp at hil)
  subst hpe
  obtain ⟨-, d1, -⟩ := hcells i hil
  rw [hix] at d1
  rw [ha] at HA
  have hilI : (i : Int) < E.length := by omega
  obtain ⟨t, ht⟩ : ∃ t, pathT p = t := ⟨_, rfl⟩
  rw [ht] at hr HA ⊢
  obtain ⟨bb, hbb⟩ : ∃ bb, isDirP E p = bb := ⟨_, rfl⟩
  rw [hbb] at HI ⊢
  obtain ⟨xd, hxd⟩ : ∃ xd, x.dir = xd := ⟨_, rfl⟩
  rw [hxd] at HI d1
  clear h hE hw hp hcells hlp hid hee ha h0 ht hbb hcap hi hil hix hxE hxp hxd
  go_enter Tryz.func82, Tryz.ntmps82
  go_wp2_with (fail)
  refine HA.out.mono ?_
  rintro e w1 ⟨rfl, rfl⟩
  go_wp2_with (fail)
  go_ret
  exact ⟨by rw [HI.out]; rfl, rfl⟩
theorem rfind_any (p : List Nm) (hp : PV p) :
  Calls Tryz.prog 62 #[Ptr mb, S (pathT p)] w fun e w' => e = .returned (I (findF E [] p)) ∧ Kept [] w w' := by
 have HP := Lib.hid (rpath_any (pathT p) w (by have := pathT_len hp; omega))
 rw [path_T hp] at HP
 have H := Lib.hid (And.intro h (And.intro hE (And.intro hw hp)))
 obtain ⟨t, ht⟩ : ∃ t, pathT p = t := ⟨_, rfl⟩
 rw [ht] at HP ⊢
 obtain ⟨R, hR⟩ : ∃ R, findF E [] p = R := ⟨_, rfl⟩
 have HR := Lib.hid hR
 rw [hR]
 have hpI : (p.length : Int) ≤ 8 := by have := hp.1; omega
 clear h hE hw hp ht hR
 go_enter Tryz.func62, Tryz.ntmps62
 go_wp2_with (fail)
 refine HP.out.mono ?_
 rintro e w1 ⟨⟨lv, rfl, hl⟩, k1⟩
 obtain ⟨lp, lc, rfl, hl1, hl2, _, hl3⟩ := hl
 have HL := Lib.hid hl3
 have K1 := Lib.hid k1
 clear hl1 hl2 hl3 k1
 go_wp2_with (fail)
 go_loopw [7, 8] (fun v7 v8 wr => ∃ k : Nat, k ≤ p.length ∧ v8 = I k ∧ v7 = S (pathT (p.take k)) ∧ findF E (p.take k) (p.drop k) = R ∧ Kept [] w1 wr) (fun _ v8 _ => p.length - (intOf v8).toNat)
 case atStart => exact ⟨0, by omega, rfl, rfl, HR.out, Kept.refl _ _⟩
 case round =>
  obtain ⟨k, hk, rfl, rfl, hf, kr⟩ := hrel
  by_cases hlt : k < p.length
  ·have hltI : (k : Int) < p.length := by omega
   obtain ⟨h, hE, hw, hp⟩ := H.out
   have hd := h.same (K1.out.trans' kr)
   have HD := Lib.hid (rdir_any hd hE hw (p.take k) (hp.take k))
   obtain ⟨lb, lo, rfl, hcell⟩ := HL.out (by intro h; rw [h] at hlt; simp at hlt)
   have c0 := kr.cellOf (hcell k hlt)
   have e1 : p.getD k [] = p[k] := by rw [List.getD_eq_getElem?_getD, List.getElem?_eq_getElem hlt]; rfl
   rw [e1] at c0
   have htk : p.take (k + 1) = p.take k ++ [p[k]] := by rw [List.take_add_one, List.getElem?_eq_getElem hlt]; rfl
   have hdk : p.drop k = p[k] :: p.drop (k + 1) := List.drop_eq_getElem_cons hlt
   have hnl : (p[k]).length ≤ 24 := WX.name_len (List.all_eq_true.1 hp.2 _ (List.getElem_mem hlt))
   have HJ := Lib.hid (rjoin_path (p.take k) (hp.take k) p[k] (by omega))
   rw [← htk] at HJ
   have HA := Lib.hid (rat_any wr mb n given v E hd hE (fun x hx => hw.pv hx) (p.take (k + 1)) (hp.take _))
   have hneg := atF_neg (E := E) (p := p.take (k + 1))
   obtain ⟨ai, hai⟩ : ∃ ai, atF E (p.take (k + 1)) = ai := ⟨_, rfl⟩
   rw [hai] at HA hneg
   rw [hdk] at hf
   obtain ⟨nm, hnm⟩ : ∃ nm, p[k] = nm := ⟨_, rfl⟩
   rw [hnm] at c0 hf htk HJ hnl
   have hnI : (nm.length : Int) ≤ 24 := by omega
   obtain ⟨t0, ht0⟩ : ∃ t0, pathT (p.take k) = t0 := ⟨_, rfl⟩
   obtain ⟨t1, ht1⟩ : ∃ t1, pathT (p.take (k + 1)) = t1 := ⟨_, rfl⟩
   rw [ht0] at HD HJ ⊢
   rw [ht1] at HJ HA
   have HF := Lib.hid (And.intro hf (And.intro kr (And.intro htk (And.intro ht1 hneg))))
   cases hdd : isDirP E (p.take k) with
   | false =>
    rw [hdd] at HD
    have HX : Hid (R = 163) := Lib.hid (by rw [← hf, findF_not hdd])
    clear h hE hw hp hd hcell c0 e1 htk hdk hnl hneg hai hf hnm ht0 ht1 kr hdd
    go_wp2_with (fail)
    refine HD.out.mono ?_
    rintro e w2 ⟨rfl, rfl⟩
    go_wp2_with (fail)
    go_ret
    exact ⟨by rw [HX.out]; rfl, K1.out.trans' HF.out.2.1⟩
   | true =>
    rw [hdd] at HD
    cases hee : (ent E (p.take (k + 1))).isSome with
    | false =>
     have hx : decide (ai < 0) = true := by rw [hneg]; cases h : ent E (p.take (k + 1)) <;> simp_all
     have hx2 : ai < 0 := by simpa using hx
     have HX : Hid (R = 161) := Lib.hid (by rw [← hf]; exact findF_none hdd (by rw [← htk]; exact hee))
     clear h hE hw hp hd hcell e1 htk hdk hnl hneg hai hf hnm ht0 ht1 kr hdd hx hee
     go_wp2_with (fail)
     refine HD.out.mono ?_
     rintro e w2 ⟨rfl, hw2⟩
     replace hw2 := hw2.symm
     subst hw2
     go_wp2_with (fail)
     refine (HJ.out _).mono ?_
     rintro e w2 ⟨rfl, hw2⟩
     replace hw2 := hw2.symm
     subst hw2
     go_wp2_with (fail)
     refine HA.out.mono ?_
     rintro e w2 ⟨rfl, hw2⟩
     replace hw2 := hw2.symm
     subst hw2
     go_wp2_with (fail)
     go_ret
     exact ⟨by rw [HX.out]; rfl, K1.out.trans' HF.out.2.1⟩
    | true =>
     have hx : decide (ai < 0) = false := by rw [hneg]; cases h : ent E (p.take (k + 1)) <;> simp_all
     have hx2 : ¬ ai < 0 := by simpa using hx
     have HX : Hid (findF E (p.take (k + 1)) (p.drop (k + 1)) = R) := Lib.hid (by rw [← hf, findF_snoc_ok hdd (by rw [← htk]; exact hee), ← htk])
     clear h hE hw hp hd hcell e1 htk hdk hnl hneg hai hf hnm ht0 ht1 kr hdd hx hee
     go_wp2_with (fail)
     refine HD.out.mono ?_
     rintro e w2 ⟨rfl, hw2⟩
     replace hw2 := hw2.symm
     subst hw2
     go_wp2_with (fail)
     refine (HJ.out _).mono ?_
     rintro e w2 ⟨rfl, hw2⟩
     replace hw2 := hw2.symm
     subst hw2
     go_wp2_with (fail)
     refine HA.out.mono ?_
     rintro e w2 ⟨rfl, hw2⟩
     replace hw2 := hw2.symm
     subst hw2
     go_wp2_with (fail)
     go_roundw
     case rel => exact ⟨k + 1, by omega, by go_num, by rw [HF.out.2.2.2.1], HX.out, HF.out.2.1⟩
     case measure => simp [intOf]; omega
  ·have hke : k = p.length := by omega
   subst hke
   have HX : Hid (R = 0) := Lib.hid (by rw [← hf, List.drop_length]; rfl)
   have HF := Lib.hid kr
   clear hf kr hlt
   rw [List.take_length]
   go_wp2_with (fail)
   go_ret
   exact ⟨by rw [HX.out]; rfl, K1.out.trans' HF.out⟩
end
theorem rispath_any (s : List UInt8) (hs : s.length ≤ 1048576) (w : World) :
  Calls Tryz.prog 38 #[S s] w fun e w' => e = .returned (.bool (WX.pathF s).isSome) ∧ Kept [] w w' := by
 have HP := Lib.hid (rpath_any s w hs)
 clear hs
 cases hp : WX.pathF s with
 | none =>
  rw [hp] at HP
  clear hp
  go_enter Tryz.func38, Tryz.ntmps38
  go_wp2_with (fail)
  refine HP.out.mono ?_
  rintro e w1 ⟨rfl, k1⟩
  have K1 := Lib.hid k1
  clear k1
  go_wp2_with (fail)
  go_ret
  exact ⟨rfl, K1.out⟩
 | some p =>
  rw [hp] at HP
  clear hp
  go_enter Tryz.func38, Tryz.ntmps38
  go_wp2_with (fail)
  refine HP.out.mono ?_
  rintro e w1 ⟨⟨lv, rfl, _⟩, k1⟩
  have K1 := Lib.hid k1
  clear k1
  go_wp2_with (fail)
  go_ret
  exact ⟨rfl, K1.out⟩
end Go.Proofs.YteplbljjlbdhaaaGreatDoor
