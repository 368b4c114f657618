/- WordsJoin, the tied card of the second form: for any arguments that the row's reading bounds (together of bulk at most 1048576) the law returns true and leaves its arguments as they were; the two listed tables of the library are laid as their text says (the card ties them). -/
import Derived.Test.YthooohempokchaaDoorCardW
namespace Go.Proofs.YthooohempokchaaDoor
open Go.RowKit
set_option linter.unusedVariables false
set_option linter.unusedSimpArgs false
open Go.Lib Go.ChangeShapes Go.WideShapes Go.ChangeAt
noncomputable def wArgsWordsJoin : Array Value := #[.slice none 0 0, .string ⟨#[]⟩]
theorem readsWordsJoin (os : Os) {H : Type} (enc : TypeId × Value → H) : ∃ places, DataW.whole enc Tryd.prog ((laidWorld os).forCall (fun _ _ => 0) ⟨#[], wArgsWordsJoin, []⟩).memory Tryd.f7.params.toList Rows.wordsJoinSpec.vars false wArgsWordsJoin.toList 8 = some ([.nil, .lit (.string [])], [], places) :=
  ⟨[], by kernel_rfl⟩
set_option maxRecDepth 100000 in
theorem contractWordsJoin (H : Type) (enc : TypeId × Value → H) (W : World) (base : Nat) (args : Array Value) (ds gs : List (DataW H)) (before : List MemPlace)
    (hval : ∀ (j : Nat) t v, Tryd.f7.params[j]? = some t → args[j]? = some v → Value.okWide Tryd.prog W .any base t v)
    (hW : DataW.Whole enc Tryd.prog Tryd.f7.params.toList Rows.wordsJoinSpec.vars false W args.toList ds gs before) (hk : Rows.uptoSmall H (ds ++ gs) = true) (hL : laidMetH Tryd.prog Rows.wordsJoinUptoRow.laid W) (hsh : W.ShapedOpen Tryd.prog) :
    Calls Tryd.prog 7 args W fun e W' => ∃ v, e = .returned v ∧ Rows.wordsJoinSpec.post enc Tryd.prog Tryd.f7 false true false false W args v W' := by
  have hW' := hW
  obtain ⟨p, q, hA0, hV, rfl, _, _⟩ := hW
  have hA : DataW.TrodAll enc Tryd.prog W 0 (fun _ => true) true Tryd.f7.params.toList args.toList ds p := hA0
  rw [Tryd.params7] at hA hval
  obtain ⟨v0, v1, d0, d1, p0, p1, rfl, rfl, rfl, h0, h1⟩ := trodAll_two hA
  obtain ⟨rfl, rfl⟩ := trodVars_none hV
  have h0k := h0
  have h1k := h1
  clear hA0
  simp only [List.append_nil] at hW'
  have hlt : ∀ x ∈ p0 ++ p1, x.block < W.heap.size := fun x hx => by simpa using hW'.lt x (by first | exact hx | (rw [List.append_assoc]; exact hx))
  have hbk := bulk_bound hk
  simp only [List.append_nil, Rows.uptoBulkAll] at hbk
  obtain ⟨fu0, hf0⟩ := h0
  obtain ⟨a0, n0, c0, rfl⟩ := okWide_slice Tryd.underlying24 (hval 0 24 v0 rfl rfl)
  obtain ⟨l0, hl0, hm0, hn0⟩ := strs_of_trod hf0 (by show Rows.uptoBulk d0 ≤ _; omega)
  obtain ⟨b1, rfl, e1, _, hs1⟩ := Go.ChangeMaps.open_string Tryd.underlying9 (hval 1 9 v1 rfl rfl) h1
  subst e1
  have hs1 : b1.data.toList.length ≤ 1048576 := by have := bulk_str (H := H) b1.data.toList; omega
  rw [← S_of b1]
  have hT := tabs_of_laid hL hsh
  refine (joinLaw_any _ l0 b1.data.toList W hl0 hm0 hn0 (by omega) hT).mono ?_
  rintro e W' ⟨rfl, hk'⟩
  have bel := hk'.below
  refine ⟨_, rfl, _, _, _, [], p0 ++ p1, [], hW', ?_, ?_, ?_, bel.frame _, fun h => by cases h⟩
  · exact trodAll_mk1 (shut_bool Tryd.underlying4 true)
  · exact trodAll_mk2 (Below.trod laidOut (by kernel_rfl) (of_decide_eq_true (by kernel_rfl)) h0k bel (fun x hx => hlt x (by first | exact hx | simp [hx]))) (Below.trod laidOut (by kernel_rfl) (of_decide_eq_true (by kernel_rfl)) h1k bel (fun x hx => hlt x (by first | exact hx | simp [hx])))
  · rfl
set_option maxRecDepth 100000 in
theorem liftedWordsJoin (os : Os) (started : os.Started) (H : Type) (enc : TypeId × Value → H) (F : Stop.Interp) :
    ReturnsInHanded {} Tryd.checked os 7 .any ((Rows.OpenSpec.upto Rows.wordsJoinSpec).preRow enc Tryd.prog Tryd.f7 Rows.wordsJoinUptoRow.domain false Rows.wordsJoinUptoRow.laid) (((Rows.OpenSpec.upto Rows.wordsJoinSpec).at F).post enc Tryd.prog Tryd.f7 false true false false) := by
  obtain ⟨places, hx⟩ := readsWordsJoin os enc
  refine returnsInHanded_of_row (C := Tryd.checked) (s := Rows.OpenSpec.upto Rows.wordsJoinSpec) own started (by kernel_rfl) Tryd.func7
    (witness_row_atRef (enc := enc) (C := Tryd.checked) false (laidWorld os) wArgsWordsJoin rfl (by kernel_rfl) (by kernel_rfl) (by kernel_rfl)
      (OpenSpec.preRow_of_cond 8 hx (by kernel_rfl) (fun k hk => by cases hk; kernel_rfl) (by kernel_rfl) (laid_met os _))) ?_
  intro W base args ds gs before hval hW _ hcond _ hL hsh _
  exact contractWordsJoin H enc W base args ds gs before hval hW (hcond _ rfl) hL hsh
theorem saidWordsJoin : Rows.WordsJoinUptoSaid :=
  OpenClaim.holds_of_cond 7 Tryd.f7 rfl rfl rfl rfl rfl rfl rfl ⟨rfl, rfl, rfl, rfl, rfl⟩ rfl rfl rfl rfl rfl (by kernel_rfl) Tryd.func7 (by kernel_rfl)
    (of_decide_eq_true (by kernel_rfl)) (by unfold Func.isWrapper; rw [if_neg (of_decide_eq_false (by kernel_rfl))]; exact ⟨rfl, rfl⟩)
    (fun os started H enc _ F => by rw [OpenClaim.pre_eq_preRow]; exact liftedWordsJoin os started H enc F)
theorem plainWordsJoin (f : FuncId) (fn : Func) (hf : Tryd.pinned.checked.prog.funcNamed "farrier/farrierlaw01.WordsJoin" = some f) (hfn : Tryd.pinned.checked.prog.funcs[f]? = some fn) :
    false = Tryd.pinned.checked.prog.looks [] ∧ ∀ (j : Nat) t, fn.params[j]? = some t → Tryd.pinned.checked.prog.wantsStandIn t = false := by
  obtain rfl : f = 7 := Option.some.inj ((show Tryd.prog.funcNamed "farrier/farrierlaw01.WordsJoin" = some 7 by kernel_rfl).symm.trans hf) |>.symm
  obtain rfl : fn = Tryd.f7 := (Option.some.inj (Tryd.func7.symm.trans hfn)).symm
  refine ⟨by kernel_rfl, fun j t ht => ?_⟩
  rw [Tryd.params7] at ht
  have hm : t ∈ #[24, 9] := Array.mem_of_getElem? ht
  have h3 : t = 24 ∨ t = 9 := by simpa using hm
  rcases h3 with rfl | rfl
  · exact (show Tryd.prog.wantsStandIn 24 = false by kernel_rfl)
  · exact (show Tryd.prog.wantsStandIn 9 = false by kernel_rfl)
theorem cardWordsJoin : Rows.WordsJoinUptoCardSaid :=
  Claim7.holds_tied_plain_at .later [] _ _ _ _ saidWordsJoin (fun _ h => by cases h) (by kernel_rfl) (fun _ h => by cases h) wordsJoinUpto_row_tie rfl ⟨rfl, rfl⟩ (by kernel_rfl) rfl plainWordsJoin (by kernel_rfl)
end Go.Proofs.YthooohempokchaaDoor
