/- Walks and lemmas on the program of this seat, used by its statements; each theorem bears its own conditions. -/
import Derived.Test.YtgdioalhlmnhhaaDoorHE
import Derived.Handy
import Derived.Recover
namespace Go.Proofs.YtgdioalhlmnhhaaDoor
open Go.RowKit
set_option linter.unusedVariables false
set_option linter.unusedSimpArgs false
set_option maxHeartbeats 8000000
set_option maxRecDepth 100000
/-! ### must, caught: how a head is given up -/
abbrev Stop (e : Int) : Value := .iface 125 (.agg #[I e])
theorem ta_yes (e : Int) (w : World) : (Instr.typeAssert (Stop e) 20 125 true).run Tryd.prog w = .ok (.tuple #[.agg #[I e], .bool true]) w := by
  kernel_rfl
theorem ta_no (w : World) : (Instr.typeAssert .nilIface 20 125 true).run Tryd.prog w = .ok (.tuple #[.agg #[I 0], .bool false]) w := by
  kernel_rfl
theorem must_yes (e : Int) (w : World) :
    Calls Tryd.prog 78 #[.bool true, I e] w fun r w' => r = .returned (.tuple #[]) ∧ w = w' := by
  go_enter Tryd.func78, Tryd.ntmps78
  go_wp2_with (fail)
  go_end0
  exact ⟨rfl, rfl⟩
theorem must_no (e : Int) (w : World) :
    Calls Tryd.prog 78 #[.bool false, I e] w fun r w' => r = .panicked [{ v := Stop e, recovered := false }] ∧ w = w' := by
  go_enter Tryd.func78, Tryd.ntmps78
  go_wp2_with (fail)
  exact ⟨rfl, rfl, rfl⟩
theorem must_at (b : Bool) (e : Int) (w : World) :
    Calls Tryd.prog 78 #[.bool b, I e] w fun r w' => (b = true ∧ r = .returned (.tuple #[]) ∧ w = w') ∨ (b = false ∧ r = .panicked [{ v := Stop e, recovered := false }] ∧ w = w') := by
  cases b
  · exact (must_no e w).mono fun _ _ h => .inr ⟨rfl, h⟩
  · exact (must_yes e w).mono fun _ _ h => .inl ⟨rfl, h⟩
theorem caught_idle (b0 b1 b2 : Nat) (w : World) :
    CallsD Tryd.prog 76 #[Ptr b0, Ptr b1, Ptr b2] .returning w fun r u' w' => r = .returned (.tuple #[]) ∧ u' = .returning ∧ Kept [] w w' := by
  refine callsD_of_wpS Tryd.func76 rfl fun c₀ cs hu => ?_
  simp only [Tryd.ntmps76, List.size_toArray, List.length_cons, List.length_nil, Nat.reduceAdd, Nat.reduceSub, Array.replicate_succ, Array.replicate_zero, List.push_toArray, List.append_toArray, List.nil_append, List.cons_append]
  apply wpS_seq
  apply wpS_region
  have h := ta_no w
  simp [wpOpsS, go_sem, recoverD, hu, Exit.thenS, h]
  refine wpS_of_wp ?_
  go_wp2
  cases c₀
  simp_all [bodyPostS, results, Tryd.results76]
  exact (Kept.refl _ _).alloc _
abbrev Blk (w : World) (b : Nat) (cs : Array Value) (t : TypeId) : Prop := w.heap[b]? = some (.cells cs t (0, 0))
theorem Blk.set {w : World} {b : Nat} {cs : Array Value} {t : TypeId} (h : Blk w b cs t) (o : Nat) (v : Value) : Blk (w.setCell ⟨b, o, none⟩ v) b (cs.setIfInBounds o v) t := heap_setCell_at h o v
theorem Blk.other {w : World} {b : Nat} {cs : Array Value} {t : TypeId} (h : Blk w b cs t) (c o : Nat) (v : Value) (hn : c ≠ b) : Blk (w.setCell ⟨c, o, none⟩ v) b cs t := by
  show (w.setCell ⟨c, o, none⟩ v).heap[b]? = _
  rw [Below.heap_setCell _ _ _ _ (fun e => hn e.symm)]; exact h
theorem Blk.alloc {w : World} {b : Nat} {cs : Array Value} {t : TypeId} (h : Blk w b cs t) (o : Obj) : Blk (w.alloc o) b cs t := by
  show (w.alloc o).heap[b]? = _
  rw [Below.heap_alloc _ _ _ (lt_of_block h)]; exact h
theorem Blk.kept {S : List Nat} {w w' : World} {b : Nat} {cs : Array Value} {t : TypeId} (h : Blk w b cs t) (k : Kept S w w') (hn : b ∉ S) : Blk w' b cs t := k.at h hn
theorem caught_stop (b : Nat) (st n0 e0 : Int) (v1 v2 : Value) (e : Int) (w : World) (h0 : Blk w b #[I st, v1, v2] 65) (h1 : Blk w (b + 1) #[I n0] 3) (h2 : Blk w (b + 1 + 1) #[I e0] 22) :
    CallsD Tryd.prog 76 #[Ptr b, Ptr (b + 1), Ptr (b + 1 + 1)] (.panicking [{ v := Stop e, recovered := false }]) w fun r u' w' =>
      r = .returned (.tuple #[]) ∧ u' = .panicking [{ v := Stop e, recovered := true }] ∧
        Blk w' b #[I 0, .slice none 0 0, .slice none 0 0] 65 ∧ Blk w' (b + 1) #[I 0] 3 ∧ Blk w' (b + 1 + 1) #[I e] 22 ∧ Kept [b, b + 1, b + 1 + 1] w w' := by
  have c0 : w.cell? ⟨b, 0, none⟩ = some (I st) := cell_at h0 0
  have c1 : w.cell? ⟨b, 1, none⟩ = some v1 := cell_at h0 1
  have c2 : w.cell? ⟨b, 2, none⟩ = some v2 := cell_at h0 2
  have c3 : w.cell? ⟨b + 1, 0, none⟩ = some (I n0) := cell_at h1 0
  have c4 : w.cell? ⟨b + 1 + 1, 0, none⟩ = some (I e0) := cell_at h2 0
  have g0 := free_at h0 0
  have g1 := free_at h0 1
  have g2 := free_at h0 2
  have g3 := free_at h1 0
  have g4 := free_at h2 0
  have l2 : b + 1 + 1 < w.heap.size := lt_of_block h2
  have l1 : b + 1 < w.heap.size := lt_of_block h1
  have l0 : b < w.heap.size := lt_of_block h0
  have HB := Lib.hid (And.intro h0 (And.intro h1 h2))
  clear h0 h1 h2
  refine callsD_of_wpS Tryd.func76 rfl fun c₀ cs hu => ?_
  simp only [Tryd.ntmps76, List.size_toArray, List.length_cons, List.length_nil, Nat.reduceAdd, Nat.reduceSub, Array.replicate_succ, Array.replicate_zero, List.push_toArray, List.append_toArray, List.nil_append, List.cons_append]
  apply wpS_seq
  apply wpS_region
  have h := ta_yes e w
  simp [wpOpsS, go_sem, recoverD, hu, Exit.thenS, h]
  refine wpS_of_wp ?_
  go_wp2
  go_region
  all_goals
    go_wp2
    cases c₀
    simp_all [bodyPostS, results, Tryd.results76]
    obtain ⟨h0, h1, h2⟩ := HB.out
    refine ⟨?_, ?_, ?_, ?_⟩
    · exact Blk.alloc (((((h0.set 0 _).set 1 _).set 2 _).other (b + 1) 0 _ (by omega)).other (b + 1 + 1) 0 _ (by omega)) _
    · exact Blk.alloc (((((h1.other b 0 _ (by omega)).other b 1 _ (by omega)).other b 2 _ (by omega)).set 0 _).other (b + 1 + 1) 0 _ (by omega)) _
    · exact Blk.alloc (((((h2.other b 0 _ (by omega)).other b 1 _ (by omega)).other b 2 _ (by omega)).other (b + 1) 0 _ (by omega)).set 0 _) _
    · exact (((((((Kept.refl [b, b + 1, b + 1 + 1] w).setCell (.inl (by simp)) _).setCell (.inl (by simp)) _).setCell (.inl (by simp)) _).setCell (.inl (by simp)) _).setCell (.inl (by simp)) _).alloc _).drew
end Go.Proofs.YtgdioalhlmnhhaaDoor
