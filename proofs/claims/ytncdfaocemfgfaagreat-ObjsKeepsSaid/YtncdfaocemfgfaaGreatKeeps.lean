/- The statement ObjsKeeps, for every input of the row, without a further condition. -/
import Derived.Test.YtncdfaocemfgfaaGreatXKR
import Derived.Test.YtncdfaocemfgfaaGreatPJ
namespace Go.Proofs.YtncdfaocemfgfaaGreat
open Go.RowKit
set_option linter.unusedVariables false
set_option linter.unusedSimpArgs false
section
open Go.Lib Go.ChangeShapes Go.WideShapes Go.Deep Go.Joins Go.ChangeAt
variable {H : Type} {enc : TypeId × Value → H} {w : World} {base : Nat} {spare : Nat → Bool} {held : Bool}
theorem open_intB {fuel : Nat} {u : Value} {x : DataW H × List MemPlace} (h : DataW.trod enc Tryz.prog w base spare held fuel 3 [u] = some x) : ∃ n, u = I n ∧ n ≤ 9223372036854775807 := by
  obtain ⟨n, e, _, hw⟩ := DataW.trod_int Tryz.underlying3 h
  have hw' : (Lit.int .i64 n).wf = true := by first | exact hw.1 | exact hw | simpa using hw
  have h2 : IntKind.i64.max = 9223372036854775807 := by decide
  simp [Lit.wf] at hw'
  exact ⟨n, by simpa using e, by omega⟩
set_option maxRecDepth 100000 in
theorem open_nums {fuel : Nat} {v : Value} {x : DataW H × List MemPlace} (h : DataW.trod enc Tryz.prog w base spare held fuel 22 [v] = some x) : NumsAt w v := by
  intro b o n c e i hi N hc
  rcases open_slice_fields Tryz.underlying22 Tryz.underlying32 (by kernel_rfl) (by kernel_rfl) h with ⟨hcs, -⟩ | ⟨a, len', cap', m, D, Pl, hcs, hb, hl, hm, hmm, hx, hi'⟩
  · simp at hcs; subst hcs; cases e
  · simp at hcs; subst hcs; cases e
    obtain ⟨ys, k, hD, -, hyl, hf⟩ := hi' i (by rw [hmm]; split <;> omega)
    obtain ⟨u1, y1, e1, f1, t1⟩ := hf 1 _ rfl
    rw [Addr.add_lit] at e1
    have e5 : w.cell? ⟨b, o + i * 5 + 1, none⟩ = some u1 := e1
    rw [e5] at hc
    obtain ⟨M, rfl, hM⟩ := open_intB t1
    have : M = N := by simpa using hc
    omega
set_option maxRecDepth 100000 in
theorem open_world3 {r : Reach} {b0 : Nat} {v : Value} {d : DataW H} {p : List MemPlace} (hv : Value.okWide Tryz.prog w r b0 24 v) (h : DataW.Trod enc Tryz.prog w base spare held 24 v d p) (hs : ∀ n ∈ d.weights Tryz.prog 24, Small n) :
    ∃ (m : Int) (sv : Value) (l : List OpC), v = .agg #[I m, sv] ∧ OpsAt w sv l ∧ NumsAt w sv := by
  obtain ⟨m, sv, l, e, ho⟩ := open_world hv h hs
  refine ⟨m, sv, l, e, ho, ?_⟩
  obtain ⟨cs, ys, n, rfl, hsz, hd, hyl, hf⟩ := open_agg_any Tryz.underlying24 (by kernel_rfl) (by kernel_rfl) hv h
  cases e
  obtain ⟨u1, y1, e1, f1, t1⟩ := hf 1 _ rfl
  simp at e1
  subst e1
  exact open_nums t1
end
open Go.Lib Go.ChangeShapes Go.WideShapes Go.ChangeAt
noncomputable def wArgsObjsKeeps : Array Value := #[.agg #[I 0, .slice none 0 0]]
theorem readsObjsKeeps (os : Os) {H : Type} (enc : TypeId × Value → H) : ∃ places, DataW.whole enc Tryz.prog ((laidWorld os).forCall (fun _ _ => 0) ⟨#[], wArgsObjsKeeps, []⟩).memory Tryz.f3.params.toList Rows.objsKeepsSpec.vars false wArgsObjsKeeps.toList 8 = some ([.agg [.lit (.int .i64 0), .nil]], [], places) :=
  ⟨[], by kernel_rfl⟩
set_option maxRecDepth 100000 in
theorem contractObjsKeeps (H : Type) (enc : TypeId × Value → H) (W : World) (base : Nat) (args : Array Value) (ds gs : List (DataW H)) (before : List MemPlace)
    (hval : ∀ (j : Nat) t v, Tryz.f3.params[j]? = some t → args[j]? = some v → Value.okWide Tryz.prog W .any base t v)
    (hW : DataW.Whole enc Tryz.prog Tryz.f3.params.toList Rows.objsKeepsSpec.vars false W args.toList ds gs before) (hsz : (DataW.weightsEach Tryz.prog (Tryz.f3.params.toList ++ (OpenSpec.ofChange Rows.objsKeepsSpec).bare.plain.varTypes Tryz.prog) (ds ++ gs)).all (· ≤ reachBytes) = true) (hL : laidMetH Tryz.prog Rows.objsKeepsRow.laid W) (hsh : W.ShapedOpen Tryz.prog) :
    Calls Tryz.prog 3 args W fun e W' => ∃ v, e = .returned v ∧ Rows.objsKeepsSpec.post enc Tryz.prog Tryz.f3 false true false false W args v W' := by
  have hW' := hW
  obtain ⟨p, q, hA0, hV, rfl, _, _⟩ := hW
  have hA : DataW.TrodAll enc Tryz.prog W 0 (fun _ => true) true Tryz.f3.params.toList args.toList ds p := hA0
  rw [Tryz.params3] at hA hval
  obtain ⟨v0, d0, rfl, rfl, h0⟩ := trodAll_one hA
  obtain ⟨rfl, rfl⟩ := trodVars_none hV
  have h0k := h0
  clear hA0
  simp only [List.append_nil] at hW'
  have hlt : ∀ x ∈ p, x.block < W.heap.size := fun x hx => by simpa using hW'.lt x (by first | exact hx | (rw [List.append_assoc]; exact hx))
  obtain ⟨m0, sv0, l0, rfl, ho0, hc0⟩ := open_world3 (hval 0 24 v0 rfl rfl) h0 (sized_world hsz (j := 0) (t := 24) rfl rfl)
  refine (keeps_law W m0 sv0 l0 ho0 hc0).mono ?_
  rintro e W' ⟨rfl, hk'⟩
  have bel := hk'.below
  refine ⟨_, rfl, _, _, _, [], p, [], hW', ?_, ?_, ?_, bel.frame _, fun h => by cases h⟩
  · exact trodAll_mk1 (shut_bool Tryz.underlying4 true)
  · exact trodAll_mk1 (Below.trod laidOut (by kernel_rfl) (of_decide_eq_true (by kernel_rfl)) h0k bel (fun x hx => hlt x (by first | exact hx | simp [hx])))
  · rfl
set_option maxRecDepth 100000 in
theorem liftedObjsKeeps (os : Os) (started : os.Started) (H : Type) (enc : TypeId × Value → H) (F : Stop.Interp) :
    ReturnsInHanded {} Tryz.checked os 3 .any ((OpenSpec.ofChange Rows.objsKeepsSpec).preRow enc Tryz.prog Tryz.f3 Rows.objsKeepsRow.domain false Rows.objsKeepsRow.laid) (((OpenSpec.ofChange Rows.objsKeepsSpec).at F).post enc Tryz.prog Tryz.f3 false true false false) := by
  obtain ⟨places, hx⟩ := readsObjsKeeps os enc
  refine returnsInHanded_of_row (C := Tryz.checked) (s := OpenSpec.ofChange Rows.objsKeepsSpec) own started (by kernel_rfl) Tryz.func3
    (witness_row_atRef (enc := enc) (C := Tryz.checked) false (laidWorld os) wArgsObjsKeeps rfl (by kernel_rfl) (by kernel_rfl) (by kernel_rfl)
      (OpenSpec.preRow_of_cond 8 hx (by kernel_rfl) (fun k hk => by cases hk) (by kernel_rfl) (laid_met os _))) ?_
  intro W base args ds gs before hval hW _ hcond hwt hL hsh _
  exact contractObjsKeeps H enc W base args ds gs before hval hW hwt hL hsh
theorem saidObjsKeeps : Rows.ObjsKeepsSaid :=
  OpenClaim.holds_of_cond 3 Tryz.f3 rfl rfl rfl rfl rfl rfl rfl ⟨rfl, rfl, rfl, rfl, rfl⟩ rfl rfl rfl rfl rfl (by kernel_rfl) Tryz.func3 (by kernel_rfl)
    (of_decide_eq_true (by kernel_rfl)) (by unfold Func.isWrapper; rw [if_neg (of_decide_eq_false (by kernel_rfl))]; exact ⟨rfl, rfl⟩)
    (fun os started H enc _ F => by rw [OpenClaim.pre_eq_preRow]; exact liftedObjsKeeps os started H enc F)

end Go.Proofs.YtncdfaocemfgfaaGreat
