/- farrierlaw21.HeaderBack: print and parse undo each other: the full card -/
import Derived.Test.YtgdioalhlmnhhaaDoorHRU
namespace Go.Proofs.YtgdioalhlmnhhaaDoor
open Go.RowKit
set_option linter.unusedVariables false
set_option linter.unusedSimpArgs false
open Go.Lib Go.ChangeShapes Go.WideShapes Go.ChangeAt
noncomputable def wArgsHeaderBack : Array Value := #[.agg #[.string ⟨#[]⟩, .slice none 0 0, I 0], .string ⟨#[]⟩, I 0]
theorem readsHeaderBack (os : Os) {H : Type} (enc : TypeId × Value → H) : ∃ places, DataW.whole enc Tryd.prog ((laidWorld os).forCall (fun _ _ => 0) ⟨#[], wArgsHeaderBack, []⟩).memory Tryd.f9.params.toList Rows.headerBackSpec.vars false wArgsHeaderBack.toList 8 = some ([.agg [.lit (.string []), .nil, .lit (.int .i64 0)], .lit (.string []), .lit (.int .i64 0)], [], places) :=
  ⟨[], by kernel_rfl⟩
set_option maxRecDepth 100000 in
theorem contractHeaderBack (H : Type) (enc : TypeId × Value → H) (W : World) (base : Nat) (args : Array Value) (ds gs : List (DataW H)) (before : List MemPlace)
    (hval : ∀ (j : Nat) t v, Tryd.f9.params[j]? = some t → args[j]? = some v → Value.okWide Tryd.prog W .any base t v)
    (hW : DataW.Whole enc Tryd.prog Tryd.f9.params.toList Rows.headerBackSpec.vars false W args.toList ds gs before) (hsz : (DataW.weightsEach Tryd.prog (Tryd.f9.params.toList ++ (OpenSpec.ofChange Rows.headerBackSpec).bare.plain.varTypes Tryd.prog) (ds ++ gs)).all (· ≤ reachBytes) = true) (hL : laidMetH Tryd.prog Rows.headerBackRow.laid W) (hsh : W.ShapedOpen Tryd.prog) :
    Calls Tryd.prog 9 args W fun e W' => ∃ v, e = .returned v ∧ Rows.headerBackSpec.post enc Tryd.prog Tryd.f9 false true false false W args v W' := by
  have hW' := hW
  obtain ⟨p, q, hA0, hV, rfl, _, _⟩ := hW
  have hA : DataW.TrodAll enc Tryd.prog W 0 (fun _ => true) true Tryd.f9.params.toList args.toList ds p := hA0
  rw [Tryd.params9] at hA hval
  obtain ⟨v0, v1, v2, d0, d1, d2, p0, p1, p2, rfl, rfl, rfl, h0, h1, h2⟩ := trodAll_three hA
  obtain ⟨rfl, rfl⟩ := trodVars_none hV
  have h0k := h0
  have h1k := h1
  have h2k := h2
  clear hA0
  simp only [List.append_nil] at hW'
  have hlt : ∀ x ∈ p0 ++ (p1 ++ p2), x.block < W.heap.size := fun x hx => by simpa using hW'.lt x (by first | exact hx | (rw [List.append_assoc]; exact hx))
  obtain ⟨nm0, ds0, sz0, dv0, rfl, hd0, hzl0, hzh0, hwn0, hwd0⟩ := open_hdr (hval 0 53 v0 rfl rfl) h0
  have hnl0 : nm0.length ≤ 4611686018427387904 := sized_part hsz (j := 0) (t := 53) rfl rfl hwn0
  have hdl0 : ∀ x ∈ ds0, x.length ≤ 4611686018427387904 := fun x hx => sized_part hsz (j := 0) (t := 53) rfl rfl (hwd0 x hx)
  obtain ⟨b1, rfl, e1, _, hs1⟩ := Go.ChangeMaps.open_string Tryd.underlying9 (hval 1 9 v1 rfl rfl) h1
  subst e1
  have hs1 : b1.data.toList.length ≤ 140737488355328 := by have h1 := sized_string hsz (j := 1) (t := 9) rfl rfl; have h2 := reachBytes_lt; omega
  rw [← S_of b1]
  obtain ⟨i2, rfl, _, _, hw2⟩ := open_int Tryd.underlying3 (hval 2 3 v2 rfl rfl) h2
  have hT := tabs_of_laid hL hsh
  refine (headerBack_any nm0 ds0 sz0 dv0 b1.data.toList i2 W hd0 hnl0 hdl0 hzl0 hzh0 (by omega) (int_lo hw2) (int_hi hw2) hT).mono ?_
  rintro e W' ⟨rfl, hk'⟩
  have bel := hk'.below
  refine ⟨_, rfl, _, _, _, [], p0 ++ (p1 ++ p2), [], hW', ?_, ?_, ?_, bel.frame _, fun h => by cases h⟩
  · exact trodAll_mk1 (shut_bool Tryd.underlying4 true)
  · exact trodAll_mk3 (Below.trod laidOut (by kernel_rfl) (of_decide_eq_true (by kernel_rfl)) h0k bel (fun x hx => hlt x (by first | exact hx | simp [hx]))) (Below.trod laidOut (by kernel_rfl) (of_decide_eq_true (by kernel_rfl)) h1k bel (fun x hx => hlt x (by first | exact hx | simp [hx]))) (Below.trod laidOut (by kernel_rfl) (of_decide_eq_true (by kernel_rfl)) h2k bel (fun x hx => hlt x (by first | exact hx | simp [hx])))
  · rfl
set_option maxRecDepth 100000 in
theorem liftedHeaderBack (os : Os) (started : os.Started) (H : Type) (enc : TypeId × Value → H) (F : Stop.Interp) :
    ReturnsInHanded {} Tryd.checked os 9 .any ((OpenSpec.ofChange Rows.headerBackSpec).preRow enc Tryd.prog Tryd.f9 Rows.headerBackRow.domain false Rows.headerBackRow.laid) (((OpenSpec.ofChange Rows.headerBackSpec).at F).post enc Tryd.prog Tryd.f9 false true false false) := by
  obtain ⟨places, hx⟩ := readsHeaderBack os enc
  refine returnsInHanded_of_row (C := Tryd.checked) (s := OpenSpec.ofChange Rows.headerBackSpec) own started (by kernel_rfl) Tryd.func9
    (witness_row_atRef (enc := enc) (C := Tryd.checked) false (laidWorld os) wArgsHeaderBack rfl (by kernel_rfl) (by kernel_rfl) (by kernel_rfl)
      (OpenSpec.preRow_of_cond 8 hx (by kernel_rfl) (fun k hk => by cases hk) (by kernel_rfl) (laid_met os _))) ?_
  intro W base args ds gs before hval hW _ hcond hwt hL hsh _
  exact contractHeaderBack H enc W base args ds gs before hval hW hwt hL hsh
theorem saidHeaderBack : Rows.HeaderBackSaid :=
  OpenClaim.holds_of_cond 9 Tryd.f9 rfl rfl rfl rfl rfl rfl rfl ⟨rfl, rfl, rfl, rfl, rfl⟩ rfl rfl rfl rfl rfl (by kernel_rfl) Tryd.func9 (by kernel_rfl)
    (of_decide_eq_true (by kernel_rfl)) (by unfold Func.isWrapper; rw [if_neg (of_decide_eq_false (by kernel_rfl))]; exact ⟨rfl, rfl⟩)
    (fun os started H enc _ F => by rw [OpenClaim.pre_eq_preRow]; exact liftedHeaderBack os started H enc F)
theorem plainHeaderBack (f : FuncId) (fn : Func) (hf : Tryd.pinned.checked.prog.funcNamed "farrier/farrierlaw21.HeaderBack" = some f) (hfn : Tryd.pinned.checked.prog.funcs[f]? = some fn) :
    true = Tryd.pinned.checked.prog.looks [] ∧ ∀ (j : Nat) t, fn.params[j]? = some t → Tryd.pinned.checked.prog.wantsStandIn t = false := by
  obtain rfl : f = 9 := Option.some.inj ((show Tryd.prog.funcNamed "farrier/farrierlaw21.HeaderBack" = some 9 by kernel_rfl).symm.trans hf) |>.symm
  obtain rfl : fn = Tryd.f9 := (Option.some.inj (Tryd.func9.symm.trans hfn)).symm
  refine ⟨by kernel_rfl, fun j t ht => ?_⟩
  rw [Tryd.params9] at ht
  have hm : t ∈ #[53, 9, 3] := Array.mem_of_getElem? ht
  have h3 : t = 53 ∨ t = 9 ∨ t = 3 := by simpa using hm
  rcases h3 with rfl | rfl | rfl
  · exact (show Tryd.prog.wantsStandIn 53 = false by kernel_rfl)
  · exact (show Tryd.prog.wantsStandIn 9 = false by kernel_rfl)
  · exact (show Tryd.prog.wantsStandIn 3 = false by kernel_rfl)
theorem cardHeaderBack : Rows.HeaderBackCardSaid :=
  Claim7.holds_tied_plain_at .later [] _ _ _ _ saidHeaderBack (fun _ h => by cases h) (by kernel_rfl) (fun _ h => by cases h) headerBack_row_tie rfl ⟨rfl, rfl⟩ (by kernel_rfl) rfl plainHeaderBack (by kernel_rfl)
end Go.Proofs.YtgdioalhlmnhhaaDoor
