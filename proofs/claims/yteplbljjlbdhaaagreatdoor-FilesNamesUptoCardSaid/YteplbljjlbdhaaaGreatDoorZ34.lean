/- Walks and lemmas on the program of this seat, used by its statements; each theorem bears its own conditions. -/
import Derived.Test.YteplbljjlbdhaaaGreatDoorZ33
namespace Go.Proofs.YteplbljjlbdhaaaGreatDoor
open Go.RowKit
set_option linter.unusedVariables false
set_option linter.unusedSimpArgs false
set_option linter.unusedSectionVars false
set_option maxHeartbeats 16000000
set_option maxRecDepth 100000
def chN (c : Ch) : Nat := (chB c).length
theorem rec_sum : ∀ M : CM, (recF (M.map (·.2))).length = sumA chN M
 | [] => rfl
 | p :: t => by
  show (recF (p.2 :: t.map (·.2))).length = chN p.2 + sumA chN t
  rw [recF_cons, List.length_append, rec_sum t]
  rfl
structure SetOK (M : CM) (b : Nat) : Prop where
 srt : SortedA M
 ok : ∀ p ∈ M, p.2.key = p.1 ∧ 1 ≤ p.1 ∧ p.1 ≤ 2147483647 ∧ p.2.val.length ≤ 256 ∧ (p.2.drop = true → p.2.val = [])
 size : sumA chN M ≤ b
theorem SetOK.nil : SetOK [] 0 := ⟨List.Pairwise.nil, (fun p hp => by cases hp), Nat.le_refl _⟩
theorem SetOK.ins {M : CM} {b : Nat} (h : SetOK M b) (k : Int) (c : Ch) (h1 : 1 ≤ k) (h2 : k ≤ 2147483647) (hk : c.key = k) (hv : c.val.length ≤ 256) (hd : c.drop = true → c.val = []) : SetOK (insA (delA M k) k c) (b + chN c) := by
 have hn : findA (delA M k) k = none := by rw [find_del h.srt, if_pos rfl]
 refine ⟨sorted_ins (sorted_del h.srt k) k c hn, fun p hp => ?_, ?_⟩
 ·rcases mem_ins k c p _ hp with rfl | hp
  ·exact ⟨hk, h1, h2, hv, hd⟩
  ·exact h.ok p ((del_sub k M).subset hp)
 ·rw [sum_ins]
  have := sum_del chN k M
  have := h.size
  omega
theorem SetOK.put {M : CM} {b : Nat} (h : SetOK M b) (k : Int) (row : List UInt8) (h1 : 1 ≤ k) (h2 : k ≤ 2147483647) (hv : row.length ≤ 256) : SetOK (putS M k row) (b + (7 + row.length)) := by
 unfold putS
 split
 ·have := h.ins k ⟨k, [], true⟩ h1 h2 rfl (by simp) (fun _ => rfl)
  refine ⟨this.srt, this.ok, Nat.le_trans this.size ?_⟩
  have hc := chB_len ⟨k, [], true⟩
  unfold chN
  rw [hc]
  simp
  omega
 ·have := h.ins k ⟨k, row, false⟩ h1 h2 rfl hv (fun h => by cases h)
  refine ⟨this.srt, this.ok, Nat.le_trans this.size ?_⟩
  have hc := chB_len ⟨k, row, false⟩
  unfold chN
  rw [hc]
  simp
theorem SetOK.drop {M : CM} {b : Nat} (h : SetOK M b) (k : Int) (h1 : 1 ≤ k) (h2 : k ≤ 2147483647) : SetOK (dropS M k) (b + 5) := by
 have := h.ins k ⟨k, [], true⟩ h1 h2 rfl (by simp) (fun _ => rfl)
 refine ⟨this.srt, this.ok, Nat.le_trans this.size ?_⟩
 have hc := chB_len ⟨k, [], true⟩
 unfold chN
 rw [hc]
 simp
theorem SetOK.len {M : CM} {b : Nat} (h : SetOK M b) : M.length ≤ b := by
 refine Nat.le_trans ?_ h.size
 clear h
 induction M with
 | nil => simp
 | cons p t ih =>
  show t.length + 1 ≤ chN p.2 + sumA chN t
  have : 1 ≤ chN p.2 := by
   have := chB_len p.2
   unfold chN
   rw [this]
   split <;> omega
  omega
theorem form_set : ∀ (M : CM) (last : Int), SortedA M → (∀ p ∈ M, last < p.1) → (∀ p ∈ M, p.2.key = p.1 ∧ 1 ≤ p.1 ∧ p.1 ≤ 2147483647 ∧ p.2.val.length ≤ 256 ∧ (p.2.drop = true → p.2.val = [])) → formG last (M.map (·.2)) = 0
 | [], _, _, _, _ => rfl
 | p :: t, last, hs, hl, hk => by
  obtain ⟨a1, a2, a3, a4, a5⟩ := hk p (by simp)
  obtain ⟨s1, s2⟩ := List.pairwise_cons.1 hs
  have hlp := hl p (by simp)
  show (if p.2.key < 1 ∨ 2147483647 < p.2.key ∨ 256 < p.2.val.length then (151 : Int) else if p.2.key ≤ last ∨ (p.2.drop = true ∧ p.2.val ≠ []) then 1 else formG p.2.key (t.map (·.2))) = 0
  rw [if_neg (by omega), if_neg (by
   rintro (h | ⟨h, h'⟩)
   ·omega
   ·exact h' (a5 h))]
  rw [a1]
  exact form_set t p.1 s2 s1 (fun q hq => hk q (by simp [hq]))
theorem SetOK.form {M : CM} {b : Nat} (h : SetOK M b) : formF (M.map (·.2)) = 0 := form_set M 0 h.srt (fun p hp => by have := (h.ok p hp).2.1; omega) h.ok
def behS (M : CM) (o : Int → Option (List UInt8)) (k : Int) : Option (List UInt8) := match findA M k with
 | some c => if c.drop then none else some c.val
 | none => o k
theorem find_chs : ∀ (M : CM) (k : Int), (∀ p ∈ M, p.2.key = p.1) → (M.map (·.2)).find? (fun c => c.key == k) = findA M k
 | [], _, _ => rfl
 | p :: t, k, h => by
  show (match (p.2.key == k) with | true => some p.2 | false => (t.map (·.2)).find? (fun c => c.key == k)) = if p.1 = k then some p.2 else findA t k
  rw [h p (by simp)]
  by_cases hk : p.1 = k
  ·rw [if_pos hk, show (p.1 == k) = true by simpa using hk]
  ·rw [if_neg hk, show (p.1 == k) = false by simpa using hk]
   exact find_chs t k (fun q hq => h q (by simp [hq]))
def tryF (n given : Nat) (E : List Nd) (given' : Nat) (E' : List Nd) : Int × Nat × List Nd := if wL (objL given' E') ≤ quotaF n then (0, given', E') else (166, given, E)
theorem set_try {n : Nat} {V : OM} {given given' : Nat} {E E' : List Nd} {M : CM} {b : Nat} (hs : SortedA V) (hsim : SimV V given E) (hM : SetOK M b) (hb : b ≤ 400) (hw : WF given' E') (ho : ∀ k, objF given' E' k = behS M (objF given E) k) :
  doesF n V (M.map (·.2)) = (tryF n given E given' E').1 ∧ SimV (putF n V (M.map (·.2))) (tryF n given E given' E').2.1 (tryF n given E given' E').2.2 := by
 have hf := hM.form
 have hr : RisesC (M.map (·.2)) := (formG_ok 0 _ hf).1
 have hrec : ¬ 400 < (recF (M.map (·.2))).length := by rw [rec_sum]; have := hM.size; omega
 have hval : SimV (takesF V (M.map (·.2)) 0 0) given' E' := fun k => by
  rw [valM_takes V hs 0 0 _ hr k, find_chs M k (fun p hp => (hM.ok p hp).1), ho k]
  unfold behS
  cases findA M k with
  | none => exact hsim k
  | some c => rfl
 have hwt : becW V (M.map (·.2)) (sumA wO V) = (wL (objL given' E') : Nat) := by
  rw [becW_takes V 0 0 _ hr V hs (fun _ _ => rfl), sim_weight (takes_sorted _ _ _ hs) hw hval]
 have hmay : mayF n V (M.map (·.2)) = if wL (objL given' E') ≤ quotaF n then 0 else 152 := by
  unfold mayF
  rw [if_neg (by rw [hf]; simp), if_neg hrec, hwt]
  by_cases hq : wL (objL given' E') ≤ quotaF n
  ·rw [if_neg (by omega), if_pos hq]
  ·rw [if_pos (by omega), if_neg hq]
 unfold doesF putF tryF
 rw [hmay]
 by_cases hq : wL (objL given' E') ≤ quotaF n
 ·rw [if_pos hq, if_pos hq]
  exact ⟨rfl, hval⟩
 ·rw [if_neg hq, if_neg hq]
  exact ⟨rfl, hsim⟩
def TabsU (w : World) (U : List Nat) : Prop := Tabs w ∧ (∀ x ∈ U, x < w.heap.size) ∧ ∀ T w', Kept T w w' → (∀ x ∈ T, x ∉ U) → Tabs w'
theorem TabsU.kept {w w' : World} {U T : List Nat} (h : TabsU w U) (k : Kept T w w') (hT : ∀ x ∈ T, x ∉ U) : TabsU w' U := by
 refine ⟨h.2.2 T w' k hT, fun x hx => Nat.lt_of_lt_of_le (h.2.1 x hx) k.size, fun T2 w2 k2 h2 => ?_⟩
 refine h.2.2 (T ++ T2) w2 ((k.mono (by simp +contextual)).trans' (k2.mono (by simp +contextual))) (fun x hx => ?_)
 rcases List.mem_append.1 hx with h3 | h3
 ·exact hT x h3
 ·exact h2 x h3
theorem TabsU.same {w w' : World} {U : List Nat} (h : TabsU w U) (k : Kept [] w w') : TabsU w' U := h.kept k (by simp)
structure CH (w : World) (ff fb sb n : Nat) (V : OM) (d : Nat) (T : List Nat) (z : Bool) (given : Nat) (E : List Nd) (U : List Nat) : Prop where
 st : STZ w fb sb n V d T z
 cell : w.cell? ⟨ff, 0, none⟩ = some (Ptr sb)
 sim : SimV V given E
 wf : WF given E
 gv : given ≤ 16777000
 tabs : TabsU w U
 ffU : ff ∈ U
 sep : ∀ x ∈ T, x ∉ U
 dd : d ≤ 600000000
section
variable {w : World} {ff fb sb n : Nat} {V : OM} {d : Nat} {T : List Nat} {z : Bool} {given : Nat} {E : List Nd} {U : List Nat}
theorem CH.fr (h : CH w ff fb sb n V d T z given E U) : FR w ff sb V given E := ⟨h.cell, h.st.stk.rd, h.sim, h.wf, by have := h.gv; omega⟩
theorem CH.same {w' : World} (h : CH w ff fb sb n V d T z given E U) (k : Kept [] w w') : CH w' ff fb sb n V d T z given E U :=
 ⟨h.st.same k, k.cellOf h.cell, h.sim, h.wf, h.gv, h.tabs.same k, h.ffU, h.sep, h.dd⟩
theorem kept_cell {T : List Nat} {w w' : World} (k : Kept T w w') {b o : Nat} {v : Value} (h : w.cell? ⟨b, o, none⟩ = some v) (hb : b ∉ T) : w'.cell? ⟨b, o, none⟩ = some v := by
 rw [← h]
 refine k.cell (p := ⟨b, o, none⟩) ?_ hb
 rcases Nat.lt_or_ge b w.heap.size with h1 | h1
 ·exact h1
 ·have : w.cell? ⟨b, o, none⟩ = none := by unfold World.cell?; simp only; rw [Array.getElem?_eq_none h1]
  rw [this] at h; cases h
theorem CH.turn {w' : World} {T' : List Nat} {V' : OM} {d' given' : Nat} {E' : List Nd} (h : CH w ff fb sb n V d T z given E U) (k : Kept T w w') (hs : STZ w' fb sb n V' d' T' z) (hT : ∀ x ∈ T', x ∈ T ∨ w.heap.size ≤ x) (hsim : SimV V' given' E') (hw : WF given' E') (hg : given' ≤ 16777000) (hd : d' ≤ 600000000) : CH w' ff fb sb n V' d' T' z given' E' U :=
 ⟨hs, kept_cell k h.cell (fun hm => h.sep _ hm h.ffU), hsim, hw, hg, h.tabs.kept k h.sep, h.ffU, fun x hx hu => by
  rcases hT x hx with h1 | h1
  ·exact h.sep x h1 hu
  ·have := h.tabs.2.1 x hu; omega, hd⟩
end
def OpP (w : World) (fb sb n : Nat) (V : OM) (d : Nat) (T : List Nat) (z : Bool) (given : Nat) (E : List Nd) (R : Int × Nat × List Nd) (e : Ending) (w' : World) : Prop :=
 ∃ (r : Int) (T' : List Nat), e = .returned (I r) ∧ ((r = R.1 ∧ ∃ V', SimV V' R.2.1 R.2.2 ∧ STZ w' fb sb n V' (d + 2 * (n + 1)) T' z) ∨ (r = 2 ∧ z = false ∧ ∃ V', SortedA V' ∧ sumA wO V' ≤ quotaF n ∧ (SimV V' given E ∨ SimV V' R.2.1 R.2.2) ∧ PF w' fb n V V' (d + 2 * (n + 1)) T')) ∧ (∀ x ∈ T', x < w'.heap.size) ∧ Kept T w w' ∧ (∀ x ∈ T', x ∈ T ∨ w.heap.size ≤ x)
section
variable {w : World} {ff fb sb n : Nat} {V : OM} {d : Nat} {T : List Nat} {z : Bool} {given : Nat} {E : List Nd} {U : List Nat}
theorem OpP.no {w' : World} {T' : List Nat} {d' : Nat} (h : STZ w' fb sb n V d' T' z) (hd : d' ≤ d + 2 * (n + 1)) (hsim : SimV V given E) (k : Kept T w w') (hT : ∀ x ∈ T', x ∈ T ∨ w.heap.size ≤ x) (r : Int) : OpP w fb sb n V d T z given E (r, given, E) (.returned (I r)) w' :=
 ⟨r, T', rfl, .inl ⟨rfl, V, hsim, h.mono hd⟩, h.stk.lt, k, hT⟩
theorem OpP.gone {w' : World} {T' : List Nat} {d' : Nat} (hs : SortedA V) (hq : sumA wO V ≤ quotaF n) (hz : z = false) (h : PF w' fb n V V d' T') (hd : d' ≤ d + 2 * (n + 1)) (hsim : SimV V given E) (k : Kept T w w') (hT : ∀ x ∈ T', x ∈ T ∨ w.heap.size ≤ x) (R : Int × Nat × List Nd) : OpP w fb sb n V d T z given E R (.returned (I 2)) w' :=
 ⟨2, T', rfl, .inr ⟨rfl, hz, V, hs, hq, .inl hsim, h.mono hd⟩, h.lt, k, hT⟩
theorem put_small {V : OM} {n : Nat} {l : List Ch} (hs : SortedA V) (hq : sumA wO V ≤ quotaF n) : sumA wO (putF n V l) ≤ quotaF n := by
 unfold putF
 split
 ·next hz =>
  have hf := may_form hz
  unfold mayF at hz
  rw [if_neg (by rw [hf]; simp)] at hz
  split at hz
  ·cases hz
  ·split at hz
   ·cases hz
   ·next hq2 =>
    rw [becW_takes V 0 0 l (formG_ok 0 l hf).1 V hs (fun _ _ => rfl)] at hq2
    omega
 ·exact hq
theorem does_op {w1 : World} {V0 : OM} {d0 : Nat} {T0 : List Nat} {w0 : World} (h : CH w1 ff fb sb n V d T z given E U) (mb : Nat) (M : CM) (hS : SetAt w1 mb M) (b : Nat) (hM : SetOK M b) (hb : b ≤ 400) {given' : Nat} {E' : List Nd} (hw : WF given' E') (ho : ∀ k, objF given' E' k = behS M (objF given E) k) (hd : d ≤ d0 + n + 1) (k01 : Kept T0 w0 w1) (hT01 : ∀ x ∈ T, x ∈ T0 ∨ w0.heap.size ≤ x) (hmb : w0.heap.size ≤ w1.heap.size) :
  Calls Tryz.prog 49 #[Ptr ff, .map (some mb)] w1 (OpP w0 fb sb n V d0 T0 z given E (tryF n given E given' E')) := by
 refine (does_any w1 ff fb sb n V d T z h.st (by have := h.dd; omega) h.cell mb M hS (by have := hM.len; omega) (fun p hp => by have := hM.ok p hp; exact ⟨by omega, by omega⟩)).mono ?_
 rintro e w' ⟨r, rfl, T', hp, hlt, hk, hT⟩
 obtain ⟨e1, e2⟩ := set_try (n := n) h.st.sorted h.sim hM hb hw ho
 have hkk : Kept T0 w0 w' := k01.trans hk hT01
 have hTT : ∀ x ∈ T', x ∈ T0 ∨ w0.heap.size ≤ x := fun x hx => by
  rcases hT x hx with h1 | h1
  ·exact hT01 x h1
  ·right; omega
 rcases hp with ⟨hr, hs⟩ | ⟨hr, hz, hp⟩
 ·exact ⟨r, T', rfl, .inl ⟨by rw [hr, e1], _, e2, hs.mono (by omega)⟩, hlt, hkk, hTT⟩
 ·exact ⟨r, T', rfl, .inr ⟨hr, hz, _, put_sorted h.st.sorted, put_small h.st.sorted h.st.stk.small.2.2.1, .inr e2, hp.mono (by omega)⟩, hlt, hkk, hTT⟩
end
theorem behS_put {M : CM} (h : SortedA M) (o : Int → Option (List UInt8)) (k : Int) (row : List UInt8) (j : Int) : behS (putS M k row) o j = if j = k then (if k = 64 ∧ row.length = 1 then none else some row) else behS M o j := by
 have hn : findA (delA M k) k = none := by rw [find_del h, if_pos rfl]
 unfold behS putS
 rw [find_ins _ _ _ hn, find_del h]
 by_cases hj : j = k
 ·rw [if_pos hj, if_pos hj]
  by_cases hc : k = 64 ∧ row.length = 1
  ·rw [if_pos hc, if_pos hc]; rfl
  ·rw [if_neg hc, if_neg hc]; rfl
 ·rw [if_neg hj, if_neg hj, if_neg hj]
theorem behS_drop {M : CM} (h : SortedA M) (o : Int → Option (List UInt8)) (k : Int) (j : Int) : behS (dropS M k) o j = if j = k then none else behS M o j := by
 have hn : findA (delA M k) k = none := by rw [find_del h, if_pos rfl]
 unfold behS dropS
 rw [find_ins _ _ _ hn, find_del h]
 by_cases hj : j = k
 ·rw [if_pos hj, if_pos hj]; rfl
 ·rw [if_neg hj, if_neg hj, if_neg hj]
theorem behS_nil (o : Int → Option (List UInt8)) (j : Int) : behS [] o j = o j := rfl
theorem key_cases (k : Int) : k = 1 ∨ k = 64 ∨ (∃ m r : Nat, 2 ≤ m ∧ r < 64 ∧ k = ((64 * m + r : Nat) : Int)) ∨ (k ≠ 1 ∧ k ≠ 64 ∧ k < 128) := by
 by_cases h1 : k = 1
 ·exact .inl h1
 by_cases h2 : k = 64
 ·exact .inr (.inl h2)
 by_cases h3 : k < 128
 ·exact .inr (.inr (.inr ⟨h1, h2, h3⟩))
 ·exact .inr (.inr (.inl ⟨k.toNat / 64, k.toNat % 64, by omega, by omega, by omega⟩))
theorem objF_rest {given : Nat} {E : List Nd} {k : Int} (h1 : k ≠ 1) (h2 : k ≠ 64) (h3 : k < 128) : objF given E k = none := by
 unfold objF
 rw [if_neg h1]
 by_cases h : k < 64
 ·rw [if_pos h]
 ·rw [if_neg h, if_pos (by omega), if_neg (by rintro ⟨h, _⟩; omega)]
theorem kids_snoc (E : List Nd) (x : Nd) (q : List Nm) : kids (E ++ [x]) q = match kidOf q x with | some k => insE (kids E q) k | none => kids E q := by
 unfold kids kidsU
 rw [List.filterMap_append, List.foldl_append]
 cases h : kidOf q x with
 | none => simp [h]
 | some k => simp [h]
theorem kidOf_new {p : List Nm} (hp : p ≠ []) (num : Nat) (dir : Bool) (data : List UInt8) (q : List Nm) : kidOf q ⟨p, num, dir, data⟩ = if p.dropLast = q then some (p.getLastD [], num) else none := by
 unfold kidOf
 simp only
 by_cases h : p.dropLast = q
 ·rw [if_pos ⟨hp, h⟩, if_pos h]
  rw [List.getLastD_eq_getLast?]
 ·rw [if_neg (fun h2 => h h2.2), if_neg h]
theorem last_snoc {p : List Nm} (hp : p ≠ []) : p.dropLast ++ [p.getLastD []] = p := by
 rw [List.getLastD_eq_getLast?, List.getLast?_eq_some_getLast hp]
 exact List.dropLast_concat_getLast hp
theorem byNum_snoc {E : List Nd} {x : Nd} {k : Nat} : byNum (E ++ [x]) k = match byNum E k with | some y => some y | none => if x.num = k then some x else none := by
 unfold byNum
 rw [List.find?_append]
 cases List.find? (fun x => decide (x.num = k)) E with
 | some y => rfl
 | none =>
  by_cases h : x.num = k
  ·simp [h]
  ·simp [h]
theorem kids_none {given : Nat} {E : List Nd} (h : WF given E) {p : List Nm} (hp : p ≠ []) (he : ent E p = none) : kids E p = [] := by
 refine List.eq_nil_iff_forall_not_mem.2 fun q hq => ?_
 obtain ⟨x, hx, h1, _⟩ := mem_kids.1 hq
 rcases h.up x hx with h2 | ⟨y, hy, h2, _⟩
 ·rw [h1] at h2; simp at h2; exact hp h2
 ·rw [h1] at h2
  simp at h2
  exact ent_none he y hy h2
theorem isDirP_mem {E : List Nd} {p : List Nm} (hd : isDirP E p = true) (hp : p ≠ []) : ∃ x, ent E p = some x ∧ x.dir = true := by
 unfold isDirP at hd
 rw [decide_eq_false hp, Bool.false_or] at hd
 cases he : ent E p with
 | none => rw [he] at hd; cases hd
 | some x => rw [he] at hd; exact ⟨x, rfl, hd⟩
theorem wf_make {given : Nat} {E : List Nd} (h : WF given E) {p : List Nm} (hp : p ≠ []) (h8 : p.length ≤ 8) (hnm : p.all WX.nameB = true) (hd : isDirP E p.dropLast = true) (he : ent E p = none) (hl : (kids E p.dropLast).length ≤ 5) (dir : Bool) : WF (given + 1) (E ++ [⟨p, given + 2, dir, []⟩]) := by
 have hm : ∀ {P : Nd → Prop}, (∀ x ∈ E, P x) → P ⟨p, given + 2, dir, []⟩ → ∀ x ∈ E ++ [(⟨p, given + 2, dir, []⟩ : Nd)], P x := fun h1 h2 x hx => by
  rcases List.mem_append.1 hx with h3 | h3
  ·exact h1 x h3
  ·rw [List.mem_singleton.1 h3]; exact h2
 refine ⟨?_, ?_, hm (fun x hx => by have := h.num x hx; omega) ⟨by show 2 ≤ given + 2; omega, by show given + 2 ≤ given + 1 + 1; omega⟩, hm h.form ⟨hp, h8, hnm⟩, ?_, fun q => ?_, hm h.data ⟨by simp, fun _ => rfl⟩⟩
 ·refine List.pairwise_append.2 ⟨h.paths, by simp, fun a ha b hb => ?_⟩
  rw [List.mem_singleton.1 hb]
  exact ent_none he a ha
 ·refine List.pairwise_append.2 ⟨h.nums, by simp, fun a ha b hb => ?_⟩
  rw [List.mem_singleton.1 hb]
  have := h.num a ha
  show a.num ≠ given + 2
  omega
 ·refine hm (fun x hx => (h.up x hx).imp id fun ⟨y, hy, h2⟩ => ⟨y, by simp [hy], h2⟩) ?_
  show p.dropLast = [] ∨ _
  by_cases h0 : p.dropLast = []
  ·exact .inl h0
  ·obtain ⟨y, hy, hyd⟩ := isDirP_mem hd h0
   exact .inr ⟨y, by simp [(ent_mem hy).1], (ent_mem hy).2, hyd⟩
 ·rw [kids_snoc, kidOf_new hp]
  by_cases hq : p.dropLast = q
  ·rw [if_pos hq]
   simp only
   rw [insE_len, ← hq]
   omega
  ·rw [if_neg hq]
   exact h.few q
def rowN (dir : Bool) : List UInt8 := if dir then rowD [] else rowF 0
def makeM (given : Nat) (E : List Nd) (p : List Nm) (dir : Bool) : CM := putS (putS (putS [] 1 (putN 4 (given + 2))) ((64 * numP E p.dropLast : Nat) : Int) (rowD (insE (kids E p.dropLast) (p.getLastD [], given + 2)))) ((64 * (given + 2) : Nat) : Int) (rowN dir)
theorem rowD_one (l : List En) : (rowD l).length = 1 ↔ l = [] := by
 cases l with
 | nil => simp [rowD]
 | cons x t => simp [rowD, enB]
theorem putS_srt {M : CM} (h : SortedA M) (k : Int) (row : List UInt8) : SortedA (putS M k row) := by unfold putS; exact sorted_ins (sorted_del h k) k _ (by rw [find_del h, if_pos rfl])
theorem dropS_srt {M : CM} (h : SortedA M) (k : Int) : SortedA (dropS M k) := by unfold dropS; exact sorted_ins (sorted_del h k) k _ (by rw [find_del h, if_pos rfl])
theorem obj_make {given : Nat} {E : List Nd} (h : WF given E) {p : List Nm} (hp : p ≠ []) (hd : isDirP E p.dropLast = true) (he : ent E p = none) (dir : Bool) (k : Int) :
  objF (given + 1) (E ++ [⟨p, given + 2, dir, []⟩]) k = behS (makeM given E p dir) (objF given E) k := by
 have s0 : SortedA ([] : CM) := List.Pairwise.nil
 have s1 := putS_srt s0 1 (putN 4 (given + 2))
 have s2 := putS_srt s1 ((64 * numP E p.dropLast : Nat) : Int) (rowD (insE (kids E p.dropLast) (p.getLastD [], given + 2)))
 have hnp := h.numP (isDirP_some hd)
 have hne : insE (kids E p.dropLast) (p.getLastD [], given + 2) ≠ [] := by intro e; have := congrArg List.length e; rw [insE_len] at this; simp at this
 have hk : ∀ q, kids (E ++ [(⟨p, given + 2, dir, []⟩ : Nd)]) q = if p.dropLast = q then insE (kids E q) (p.getLastD [], given + 2) else kids E q := fun q => by
  rw [kids_snoc, kidOf_new hp]
  by_cases hq : p.dropLast = q
  ·rw [if_pos hq, if_pos hq]
  ·rw [if_neg hq, if_neg hq]
 have hnew : byNum E (given + 2) = none := by
  cases hb : byNum E (given + 2) with
  | none => rfl
  | some y => obtain ⟨h1, h2⟩ := byNum_mem hb; have := h.num y h1; omega
 have hpp : p.dropLast ≠ p := by intro e; have := congrArg List.length e; rw [List.length_dropLast] at this; have := List.length_pos_iff.2 hp; omega
 have hgl : p ≠ [] := hp
 unfold makeM
 rw [behS_put s2, behS_put s1, behS_put s0, behS_nil]
 have hrow : ¬ (((64 * numP E p.dropLast : Nat) : Int) = 64 ∧ (rowD (insE (kids E p.dropLast) (p.getLastD [], given + 2))).length = 1) := fun hh => hne ((rowD_one _).1 hh.2)
 rcases key_cases k with rfl | rfl | ⟨m, r, hm, hr, rfl⟩ | ⟨k1, k2, k3⟩
 ·rw [if_neg (by omega), if_neg (by omega), if_pos rfl, if_neg (by rintro ⟨h, _⟩; cases h), objF_one, if_neg (by omega)]
 ·rw [if_neg (by omega), objF_root, hk]
  by_cases h0 : p.dropLast = []
  ·have hnum : (64 : Int) = ((64 * numP E p.dropLast : Nat) : Int) := by rw [h0]; rfl
   have hne2 : insE (kids E []) (p.getLastD [], given + 2) ≠ [] := by rw [← h0]; exact hne
   rw [if_pos h0, if_pos hne2, if_pos hnum, if_neg hrow, h0]
  ·have h2 : numP E p.dropLast ≠ 1 := by
    obtain ⟨x, hx, _⟩ := isDirP_mem hd h0
    rw [numP_of hx h0]
    have := h.num x (ent_mem hx).1
    omega
   have hnum : ¬ (64 : Int) = ((64 * numP E p.dropLast : Nat) : Int) := by omega
   rw [if_neg h0, if_neg hnum, if_neg (show ¬ (64 : Int) = 1 by decide), objF_root]
 ·rw [objF_at hr hm, byNum_snoc]
  by_cases hmg : m = given + 2
  ·subst hmg
   rw [hnew]
   simp only
   rw [if_pos trivial]
   simp only
   by_cases hr0 : r = 0
   ·subst hr0
    rw [if_pos rfl, if_pos (show ((64 * (given + 2) + 0 : Nat) : Int) = ((64 * (given + 2) : Nat) : Int) by omega), if_neg (by rintro ⟨h, _⟩; omega)]
    unfold rowX rowN
    congr 1
    cases dir with
    | true => simp only [if_pos]; rw [hk, if_neg hpp, kids_none h hp he]
    | false => rfl
   ·rw [if_neg hr0, if_neg (by simp), if_neg (by omega), if_neg (by omega), if_neg (by omega), objF_at hr (by omega), hnew]
  ·rw [if_neg (by omega : ¬ ((64 * m + r : Nat) : Int) = ((64 * (given + 2) : Nat) : Int)), if_neg (by omega : ¬ ((64 * m + r : Nat) : Int) = 1), objF_at hr hm]
   cases hb : byNum E m with
   | none =>
    simp only
    rw [if_neg (by omega), if_neg]
    intro e
    have hmn : m = numP E p.dropLast := by omega
    by_cases h0 : p.dropLast = []
    ·rw [h0] at hmn; rw [numP_root] at hmn; omega
    ·obtain ⟨x, hx, _⟩ := isDirP_mem hd h0
     rw [numP_of hx h0] at hmn
     exact byNum_none hb x (ent_mem hx).1 hmn.symm
   | some y =>
    obtain ⟨y1, y2⟩ := byNum_mem hb
    simp only
    have hdata := h.data y y1
    by_cases hy : y.path = p.dropLast
    ·have hyn : numP E p.dropLast = m := by
      have := ent_of h.paths y1
      rw [hy] at this
      rw [numP_of this (by rw [← hy]; exact (h.form y y1).1), y2]
     have hyd : y.dir = true := by
      have := ent_of h.paths y1
      rw [hy] at this
      rw [← isDirP_of h this]
      exact hd
     by_cases hr0 : r = 0
     ·subst hr0
      rw [if_pos rfl, hyn, if_pos (by simp), if_neg (by rintro ⟨h, _⟩; omega)]
      unfold rowX
      rw [if_pos hyd, hk, hy, if_pos rfl]
     ·have hk1 : ¬ ((64 * m + r : Nat) : Int) = ((64 * m : Nat) : Int) := by omega
      rw [if_neg hr0, hyn, if_neg hk1, if_neg hr0]
    ·have hyn : ¬ ((64 * m + r : Nat) : Int) = ((64 * numP E p.dropLast : Nat) : Int) := by
      intro e
      have hmn : m = numP E p.dropLast := by omega
      by_cases h0 : p.dropLast = []
      ·rw [h0, numP_root] at hmn; omega
      ·obtain ⟨x, hx, _⟩ := isDirP_mem hd h0
       rw [numP_of hx h0] at hmn
       have := num_eq h.nums y1 (ent_mem hx).1 (by rw [y2, hmn])
       rw [this] at hy
       exact hy (ent_mem hx).2
     rw [if_neg hyn]
     have hrx : rowX (E ++ [(⟨p, given + 2, dir, []⟩ : Nd)]) y = rowX E y := by
      have hy2 : ¬ p.dropLast = y.path := fun e => hy e.symm
      unfold rowX
      rw [hk, if_neg hy2]
     rw [hrx]
 ·rw [if_neg (by omega), if_neg, if_neg k1, objF_rest k1 k2 k3, objF_rest k1 k2 k3]
  omega
end Go.Proofs.YteplbljjlbdhaaaGreatDoor
