/- Walks and lemmas on the program of this seat, used by its statements; each theorem bears its own conditions. -/
import Derived.Test.YtgdioalhlmnhhaaDoorTJ
import Derived.Test.YtgdioalhlmnhhaaDoorTE
import Derived.Lib.IndexBytes
import Derived.Handy
namespace Go.Proofs.YtgdioalhlmnhhaaDoor
open Go.RowKit
set_option linter.unusedVariables false
set_option linter.unusedSimpArgs false
set_option maxHeartbeats 4000000
set_option maxRecDepth 100000
theorem headsLaw_any (name : List UInt8) (n : Int) (block : List UInt8) (w : World) (hl : name.length ≤ 9223372036854775807) (hM : ML w) :
    Calls Tryd.prog 3 #[S name, I n, S block] w fun e w' => e = .returned (.bool true) ∧ Kept [] w w' := by
  have HM := Lib.hid hM
  clear hM
  obtain ⟨ph, hph⟩ : ∃ p, TX.headF name n = p := ⟨_, rfl⟩
  obtain ⟨pp, hpp⟩ : ∃ p, TX.parseL block = p := ⟨_, rfl⟩
  have HP := Lib.hid (And.intro hph (And.intro hpp hl))
  clear hph hpp hl
  obtain ⟨h1, h2⟩ := ph
  obtain ⟨p1, p2, p3, p4⟩ := pp
  go_enter Tryd.func3, Tryd.ntmps3
  go_wp2_with (fail)
  refine (head_any name n w).mono ?_
  rw [HP.out.1]
  rintro e w1 ⟨rfl, k1⟩
  have H1 := Lib.hid k1
  clear k1
  go_wp2_with (fail)
  refine (rhead_any name n w1 HP.out.2.2).mono ?_
  rw [HP.out.1]
  rintro e w2 ⟨rfl, k2⟩
  have H2 := Lib.hid (H1.out.trans' k2)
  clear k2
  go_wp2_with (fail)
  refine (parse_any block w2 (HM.out.kept H2.out)).mono ?_
  rw [HP.out.2.1]
  rintro e w3 ⟨rfl, k3⟩
  have H3 := Lib.hid (H2.out.trans' k3)
  clear k3
  go_wp2_with (fail)
  refine (rparse_any block w3).mono ?_
  rw [HP.out.2.1]
  rintro e w4 ⟨rfl, k4⟩
  have H4 := Lib.hid (H3.out.trans' k4)
  clear k4
  go_wp2_with (fail)
  refine (fixed_any w4 (HM.out.kept H4.out)).mono ?_
  rintro e w5 ⟨rfl, k5⟩
  have H5 := Lib.hid (H4.out.trans' k5)
  clear k5
  go_wp2
  go_ret
  exact ⟨rfl, H5.out⟩
end Go.Proofs.YtgdioalhlmnhhaaDoor
