/- Walks and lemmas on the program of this seat, used by its statements; each theorem bears its own conditions. -/
import Derived.Test.YtncdfaocemfgfaaGreatDoorW2
import Derived.Test.YtncdfaocemfgfaaGreatDoorW29
import Derived.IntWalk
namespace Go.Proofs.YtncdfaocemfgfaaGreatDoor
open Go.RowKit
set_option linter.unusedVariables false
set_option linter.unusedSimpArgs false
set_option linter.unusedSectionVars false
section
open Go.RowKit
set_option linter.unusedVariables false
set_option linter.unusedSimpArgs false
set_option maxRecDepth 100000 in
set_option maxHeartbeats 400000 in
theorem plain_any (n : Nat) (w : World) : Calls Tryz.prog 96 #[.int .i32 (n : Int)] w fun e w' => e = .returned (.bool (WX.plainN n)) ∧ w = w' := by
  have h0 : (0 : Int) ≤ (n : Int) := by omega
  go_enter Tryz.func96, Tryz.ntmps96
  go_wp2
  all_goals
    go_ret
    refine ⟨ret_B ?_, rfl⟩
    rw [Bool.eq_iff_iff]
    simp [WX.plainN]
    omega
theorem str_new (W : World) (src dst e : TypeId) (xs : List Int) (c : Nat) (hs : Tryz.prog.underlying src = some (.slice e)) (he : Tryz.prog.underlying e = some (.int .u8)) (hd : Tryz.prog.underlying dst = some .string) (t : TypeId) :
    (convert src dst (.slice (some ⟨W.heap.size, 0, none⟩) xs.length c)).run Tryz.prog (W.alloc (.cells (xs.map (Value.int .u8)).toArray t)) = .ok (.string ⟨(xs.map fun n => UInt8.ofNat n.toNat).toArray⟩) (W.alloc (.cells (xs.map (Value.int .u8)).toArray t)) :=
  run_convert_bytes_arg _ src e hs he W.heap.size 0 xs.length c xs rfl (fun i hi => by
    rw [cell_at (heap_new W _)]
    simp [List.getD, hi]) dst hd
@[go_sem] theorem str_new1 (W : World) (a : Int) (c : Nat) (t : TypeId) : (convert 75 9 (.slice (some ⟨W.heap.size, 0, none⟩) 1 c)).run Tryz.prog (W.alloc (.cells #[.int .u8 a] t)) = .ok (S [UInt8.ofNat a.toNat]) (W.alloc (.cells #[.int .u8 a] t)) :=
  str_new W _ _ 5 [a] c Tryz.underlying75 Tryz.underlying5 Tryz.underlying9 t
@[go_sem] theorem str_new2 (W : World) (a b : Int) (c : Nat) (t : TypeId) : (convert 75 9 (.slice (some ⟨W.heap.size, 0, none⟩) 2 c)).run Tryz.prog (W.alloc (.cells #[.int .u8 a, .int .u8 b] t)) = .ok (S [UInt8.ofNat a.toNat, UInt8.ofNat b.toNat]) (W.alloc (.cells #[.int .u8 a, .int .u8 b] t)) :=
  str_new W _ _ 5 [a, b] c Tryz.underlying75 Tryz.underlying5 Tryz.underlying9 t
@[go_sem] theorem str_new3 (W : World) (a b d : Int) (c : Nat) (t : TypeId) : (convert 75 9 (.slice (some ⟨W.heap.size, 0, none⟩) 3 c)).run Tryz.prog (W.alloc (.cells #[.int .u8 a, .int .u8 b, .int .u8 d] t)) = .ok (S [UInt8.ofNat a.toNat, UInt8.ofNat b.toNat, UInt8.ofNat d.toNat]) (W.alloc (.cells #[.int .u8 a, .int .u8 b, .int .u8 d] t)) :=
  str_new W _ _ 5 [a, b, d] c Tryz.underlying75 Tryz.underlying5 Tryz.underlying9 t
@[go_sem] theorem str_new4 (W : World) (a b d f : Int) (c : Nat) (t : TypeId) : (convert 75 9 (.slice (some ⟨W.heap.size, 0, none⟩) 4 c)).run Tryz.prog (W.alloc (.cells #[.int .u8 a, .int .u8 b, .int .u8 d, .int .u8 f] t)) = .ok (S [UInt8.ofNat a.toNat, UInt8.ofNat b.toNat, UInt8.ofNat d.toNat, UInt8.ofNat f.toNat]) (W.alloc (.cells #[.int .u8 a, .int .u8 b, .int .u8 d, .int .u8 f] t)) :=
  str_new W _ _ 5 [a, b, d, f] c Tryz.underlying75 Tryz.underlying5 Tryz.underlying9 t
end
section
open Go.RowKit
set_option linter.unusedVariables false
set_option linter.unusedSimpArgs false
end
end Go.Proofs.YtncdfaocemfgfaaGreatDoor
