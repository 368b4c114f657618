/- ClientEnds, the tied card: for every resource, step and wait the law returns true and leaves its arguments as they were; no condition but that the eight listed tables of the library are laid as their text says (the card ties them). -/
import Derived.Test.YtgdncdhalnijcaaGreatDoorMKC
namespace Go.Proofs.YtgdncdhalnijcaaGreatDoor
open Go.RowKit
set_option linter.unusedVariables false
set_option linter.unusedSimpArgs false
namespace CL
open Go.Lib Go.ChangeShapes Go.WideShapes Go.ChangeAt
noncomputable def wArgsClientEnds : Array Value := #[.string ⟨#[]⟩, I 0, I 0]
theorem readsClientEnds (os : Os) {H : Type} (enc : TypeId × Value → H) : ∃ places, DataW.whole enc Tryz.prog ((laidWorld os).forCall (fun _ _ => 0) ⟨#[], wArgsClientEnds, []⟩).memory Tryz.f4.params.toList Rows.clientEndsSpec.vars false wArgsClientEnds.toList 8 = some ([.lit (.string []), .lit (.int .i64 0), .lit (.int .i64 0)], [], places) :=
  ⟨[], by kernel_rfl⟩
set_option maxRecDepth 100000 in
theorem contractClientEnds (H : Type) (enc : TypeId × Value → H) (W : World) (base : Nat) (args : Array Value) (ds gs : List (DataW H)) (before : List MemPlace)
    (hval : ∀ (j : Nat) t v, Tryz.f4.params[j]? = some t → args[j]? = some v → Value.okWide Tryz.prog W .any base t v)
    (hW : DataW.Whole enc Tryz.prog Tryz.f4.params.toList Rows.clientEndsSpec.vars false W args.toList ds gs before) (hsz : (DataW.weightsEach Tryz.prog (Tryz.f4.params.toList ++ (OpenSpec.ofChange Rows.clientEndsSpec).bare.plain.varTypes Tryz.prog) (ds ++ gs)).all (· ≤ reachBytes) = true) (hL : laidMetH Tryz.prog Rows.clientEndsRow.laid W) (hsh : W.ShapedOpen Tryz.prog) :
    Calls Tryz.prog 4 args W fun e W' => ∃ v, e = .returned v ∧ Rows.clientEndsSpec.post enc Tryz.prog Tryz.f4 false true false false W args v W' := by
  have hW' := hW
  obtain ⟨p, q, hA0, hV, rfl, _, _⟩ := hW
  have hA : DataW.TrodAll enc Tryz.prog W 0 (fun _ => true) true Tryz.f4.params.toList args.toList ds p := hA0
  rw [Tryz.params4] at hA hval
  obtain ⟨v0, v1, v2, d0, d1, d2, p0, p1, p2, rfl, rfl, rfl, h0, h1, h2⟩ := trodAll_three hA
  obtain ⟨rfl, rfl⟩ := trodVars_none hV
  have h0k := h0
  have h1k := h1
  have h2k := h2
  clear hA0
  simp only [List.append_nil] at hW'
  have hlt : ∀ x ∈ p0 ++ (p1 ++ p2), x.block < W.heap.size := fun x hx => by simpa using hW'.lt x (by first | exact hx | (rw [List.append_assoc]; exact hx))
  obtain ⟨b0, rfl, e0, _, hs0⟩ := Go.ChangeMaps.open_string Tryz.underlying9 (hval 0 9 v0 rfl rfl) h0
  subst e0
  have hs0 : b0.data.toList.length ≤ 140737488355328 := by have h1 := sized_string hsz (j := 0) (t := 9) rfl rfl; have h2 := reachBytes_lt; omega
  rw [← S_of b0]
  obtain ⟨i1, rfl, _, _, hw1⟩ := open_int Tryz.underlying3 (hval 1 3 v1 rfl rfl) h1
  obtain ⟨i2, rfl, _, _, hw2⟩ := open_int Tryz.underlying3 (hval 2 3 v2 rfl rfl) h2
  have hT := tabs_of_laid hL hsh
  refine (ends_law b0.data.toList i1 i2 W hT (by omega)).mono ?_
  rintro e W' ⟨rfl, hk'⟩
  have bel := hk'.below
  refine ⟨_, rfl, _, _, _, [], p0 ++ (p1 ++ p2), [], hW', ?_, ?_, ?_, bel.frame _, fun h => by cases h⟩
  · exact trodAll_mk1 (shut_bool Tryz.underlying4 true)
  · exact trodAll_mk3 (Below.trod laidOut (by kernel_rfl) (of_decide_eq_true (by kernel_rfl)) h0k bel (fun x hx => hlt x (by first | exact hx | simp [hx]))) (Below.trod laidOut (by kernel_rfl) (of_decide_eq_true (by kernel_rfl)) h1k bel (fun x hx => hlt x (by first | exact hx | simp [hx]))) (Below.trod laidOut (by kernel_rfl) (of_decide_eq_true (by kernel_rfl)) h2k bel (fun x hx => hlt x (by first | exact hx | simp [hx])))
  · rfl
set_option maxRecDepth 100000 in
theorem liftedClientEnds (os : Os) (started : os.Started) (H : Type) (enc : TypeId × Value → H) (F : Stop.Interp) :
    ReturnsInHanded {} Tryz.checked os 4 .any ((OpenSpec.ofChange Rows.clientEndsSpec).preRow enc Tryz.prog Tryz.f4 Rows.clientEndsRow.domain false Rows.clientEndsRow.laid) (((OpenSpec.ofChange Rows.clientEndsSpec).at F).post enc Tryz.prog Tryz.f4 false true false false) := by
  obtain ⟨places, hx⟩ := readsClientEnds os enc
  refine returnsInHanded_of_row (C := Tryz.checked) (s := OpenSpec.ofChange Rows.clientEndsSpec) own started (by kernel_rfl) Tryz.func4
    (witness_row_atRef (enc := enc) (C := Tryz.checked) false (laidWorld os) wArgsClientEnds rfl (by kernel_rfl) (by kernel_rfl) (by kernel_rfl)
      (OpenSpec.preRow_of_cond 8 hx (by kernel_rfl) (fun k hk => by cases hk) (by kernel_rfl) (laid_met os _))) ?_
  intro W base args ds gs before hval hW _ hcond hwt hL hsh _
  exact contractClientEnds H enc W base args ds gs before hval hW hwt hL hsh
theorem saidClientEnds : Rows.ClientEndsSaid :=
  OpenClaim.holds_of_cond 4 Tryz.f4 rfl rfl rfl rfl rfl rfl rfl ⟨rfl, rfl, rfl, rfl, rfl⟩ rfl rfl rfl rfl rfl (by kernel_rfl) Tryz.func4 (by kernel_rfl)
    (of_decide_eq_true (by kernel_rfl)) (by unfold Func.isWrapper; rw [if_neg (of_decide_eq_false (by kernel_rfl))]; exact ⟨rfl, rfl⟩)
    (fun os started H enc _ F => by rw [OpenClaim.pre_eq_preRow]; exact liftedClientEnds os started H enc F)
theorem plainClientEnds (f : FuncId) (fn : Func) (hf : Tryz.pinned.checked.prog.funcNamed "farrier/farrierlaw19.ClientEnds" = some f) (hfn : Tryz.pinned.checked.prog.funcs[f]? = some fn) :
    true = Tryz.pinned.checked.prog.looks [] ∧ ∀ (j : Nat) t, fn.params[j]? = some t → Tryz.pinned.checked.prog.wantsStandIn t = false := by
  obtain rfl : f = 4 := Option.some.inj ((show Tryz.prog.funcNamed "farrier/farrierlaw19.ClientEnds" = some 4 by kernel_rfl).symm.trans hf) |>.symm
  obtain rfl : fn = Tryz.f4 := (Option.some.inj (Tryz.func4.symm.trans hfn)).symm
  refine ⟨by kernel_rfl, fun j t ht => ?_⟩
  rw [Tryz.params4] at ht
  have hm : t ∈ #[9, 3, 3] := Array.mem_of_getElem? ht
  have h3 : t = 9 ∨ t = 3 ∨ t = 3 := by simpa using hm
  rcases h3 with rfl | rfl | rfl
  · exact (show Tryz.prog.wantsStandIn 9 = false by kernel_rfl)
  · exact (show Tryz.prog.wantsStandIn 3 = false by kernel_rfl)
  · exact (show Tryz.prog.wantsStandIn 3 = false by kernel_rfl)
theorem cardClientEnds : Rows.ClientEndsCardSaid :=
  Claim7.holds_tied_plain_at .later [] _ _ _ _ saidClientEnds (fun _ h => by cases h) (by kernel_rfl) (fun _ h => by cases h) clientEnds_row_tie rfl ⟨rfl, rfl⟩ (by kernel_rfl) rfl plainClientEnds (by kernel_rfl)
end CL
theorem cardClientEnds : Rows.ClientEndsCardSaid := CL.cardClientEnds
end Go.Proofs.YtgdncdhalnijcaaGreatDoor
