/- Walks and lemmas on the program of this seat, used by its statements; each theorem bears its own conditions. -/
import Derived.Test.YtgdncdhalnijcaaDoorRdN
namespace Go.Proofs.YtgdncdhalnijcaaDoor
open Go.RowKit
set_option linter.unusedVariables false
set_option linter.unusedSimpArgs false
namespace BD
theorem Kept.new {a b c : World} {S' : List Nat} (h : Kept [] a b) (k : Kept S' b c) (hs : ∀ x ∈ S', a.heap.size ≤ x) : Kept [] a c := h.trans k fun x hx => .inr (hs x hx)
theorem Kept.new1 {a b c : World} {x : Nat} (h : Kept [] a b) (k : Kept [x] b c) (hs : a.heap.size ≤ x) : Kept [] a c := h.new k fun y hy => by simp at hy; omega
theorem RdAt.kept {S' : List Nat} {w w' : World} {b : Nat} {r : Rd} (h : RdAt w b r) (k : Kept S' w w') (hb : b ∉ S') : RdAt w' b r := k.at h hb
set_option maxRecDepth 100000 in
set_option maxHeartbeats 1000000 in
theorem fixed_any (w : World) (hT : Tabs w) : Calls Tryd.prog 4 #[] w fun e w' => e = .returned (.bool true) ∧ Kept [] w w' := by
  have HT := Lib.hid hT
  clear hT
  go_enter Tryd.func4, Tryd.ntmps4
  go_wp2_with (fail)
  refine (head_one 116 _ _ w).mono ?_
  rintro e w1 ⟨nv, vv, rfl, hn, hv, k1⟩
  have hT := HT.out.kept k1
  go_wp2_with (fail)
  refine (new_yes 200 nv vv _ _ w1 hn hv hT rdC newC).mono ?_
  rintro e w2 ⟨b1, hb1, rfl, h1, k2⟩
  have K2 := k1.trans' k2
  have Z1 : w.heap.size ≤ b1 := Nat.le_trans k1.size hb1
  have HA := Lib.hid (And.intro h1 K2)
  clear hn hv hT k1 k2 hb1 h1 K2
  go_wp2_with (fail)
  refine (head_one 99 _ _ w2).mono ?_
  rintro e w3 ⟨nv, vv, rfl, hn, hv, k1⟩
  have hT := HT.out.kept (HA.out.2.trans' k1)
  go_wp2_with (fail)
  refine (new_yes 200 nv vv _ _ w3 hn hv hT rdS newS).mono ?_
  rintro e w4 ⟨b2, hb2, rfl, h2, k2⟩
  have K4 := k1.trans' k2
  have Z2 : w2.heap.size ≤ b2 := Nat.le_trans k1.size hb2
  have h1 := HA.out.1.kept K4 (by simp)
  have L1 : b1 < w2.heap.size := lt_of_block HA.out.1
  have HB := Lib.hid (And.intro h1 (And.intro h2 (HA.out.2.trans' K4)))
  have Z2' : w.heap.size ≤ b2 := by omega
  clear hn hv hT k1 k2 hb2 h1 h2 K4 HA
  go_wp2_with (fail)
  refine (head_none _ w4).mono ?_
  rintro e w5 ⟨nv, vv, rfl, hn, hv, k1⟩
  have hT := HT.out.kept (HB.out.2.2.trans' k1)
  go_wp2_with (fail)
  refine (new_yes 200 nv vv _ _ w5 hn hv hT rdO newO).mono ?_
  rintro e w6 ⟨b3, hb3, rfl, h3, k2⟩
  have K6 := k1.trans' k2
  have Z3 : w4.heap.size ≤ b3 := Nat.le_trans k1.size hb3
  have L2 : b2 < w4.heap.size := lt_of_block HB.out.2.1
  have HC := Lib.hid (And.intro (HB.out.1.kept K6 (by simp)) (And.intro (HB.out.2.1.kept K6 (by simp)) (And.intro h3 (HB.out.2.2.trans' K6))))
  have Z3' : w.heap.size ≤ b3 := by have := HB.out.2.2.size; omega
  clear hn hv hT k1 k2 hb3 h3 K6 HB
  have N12 : b1 ≠ b2 := by omega
  have N13 : b1 ≠ b3 := by omega
  have N23 : b2 ≠ b3 := by omega
  have HN := Lib.hid (And.intro N12 (And.intro N13 N23))
  clear N12 N13 N23
  go_wp2_with (fail)
  refine (head_one 99 _ _ w6).mono ?_
  rintro e w7 ⟨nv, vv, rfl, hn, hv, k1⟩
  have hT := HT.out.kept (HC.out.2.2.2.trans' k1)
  go_wp2_with (fail)
  refine (new_no 200 nv vv _ _ w7 hn hv hT 180 newX).mono ?_
  rintro e w8 ⟨rfl, k2⟩
  have K8 := k1.trans' k2
  have HD := Lib.hid (And.intro (HC.out.1.kept K8 (by simp)) (And.intro (HC.out.2.1.kept K8 (by simp)) (And.intro (HC.out.2.2.1.kept K8 (by simp)) (HC.out.2.2.2.trans' K8))))
  clear hn hv hT k1 k2 K8 HC
  go_wp2_with (fail)
  refine (write_as b1 _ rdC rdC' _ _ w8 HD.out.1 rdC_ok (by decide) writeC).mono ?_
  rintro e w9 ⟨rfl, h1, k1⟩
  have HE := Lib.hid (And.intro h1 (And.intro (HD.out.2.1.kept k1 (by simp; exact HN.out.1.symm)) (And.intro (HD.out.2.2.1.kept k1 (by simp; exact HN.out.2.1.symm)) (HD.out.2.2.2.new1 k1 Z1))))
  clear h1 k1 HD
  go_wp2_with (fail)
  refine (write_as b2 _ rdS rdS' _ _ w9 HE.out.2.1 rdS_ok (by decide) writeS).mono ?_
  rintro e w10 ⟨rfl, h2, k1⟩
  have HF := Lib.hid (And.intro (HE.out.1.kept k1 (by simp; exact HN.out.1)) (And.intro h2 (And.intro (HE.out.2.2.1.kept k1 (by simp; exact HN.out.2.2.symm)) (HE.out.2.2.2.new1 k1 Z2'))))
  clear h2 k1 HE
  go_wp2_with (fail)
  refine (write_as b3 _ rdO rdO' _ _ w10 HF.out.2.2.1 rdO_ok (by decide) writeO).mono ?_
  rintro e w11 ⟨rfl, h3, k1⟩
  have HG := Lib.hid (And.intro (HF.out.1.kept k1 (by simp; exact HN.out.2.1)) (And.intro (HF.out.2.1.kept k1 (by simp; exact HN.out.2.2)) (And.intro h3 (HF.out.2.2.2.new1 k1 Z3'))))
  clear h3 k1 HF
  go_wp2_with (fail)
  refine (done_any b3 rdO' w11 HG.out.2.2.1).mono ?_
  rintro e w12 ⟨rfl, rfl⟩
  rw [show doneF rdO' = false from rfl]
  go_wp2_with (fail)
  refine (close_any b3 rdO' w11 HG.out.2.2.1).mono ?_
  rintro e w12 ⟨rfl, h3, k1⟩
  rw [show (closeF rdO').2 = 0 from rfl]
  rw [show (closeF rdO').1 = { rdO' with state := 11 } from rfl] at h3
  have HI := Lib.hid (And.intro (HG.out.1.kept k1 (by simp; exact HN.out.2.1)) (And.intro (HG.out.2.1.kept k1 (by simp; exact HN.out.2.2)) (And.intro h3 (HG.out.2.2.2.new1 k1 Z3'))))
  clear h3 k1 HG
  go_wp2_with (fail)
  refine (done_any b1 rdC' w12 HI.out.1).mono ?_
  rintro e w13 ⟨rfl, rfl⟩
  rw [show doneF rdC' = true from rfl]
  go_wp2_with (fail)
  refine (rest_any b1 rdC' w12 HI.out.1).mono ?_
  rintro e w13 ⟨rfl, rfl⟩
  rw [show restF rdC' = [120] from rfl]
  go_wp2_with (fail)
  refine (done_any b2 rdS' w12 HI.out.2.1).mono ?_
  rintro e w13 ⟨rfl, rfl⟩
  rw [show doneF rdS' = true from rfl]
  go_wp2_with (fail)
  refine (rest_any b2 rdS' w12 HI.out.2.1).mono ?_
  rintro e w13 ⟨rfl, rfl⟩
  rw [show restF rdS' = [99] from rfl]
  go_wp2_with (fail)
  refine (size_any b2 rdS' w12 HI.out.2.1).mono ?_
  rintro e w13 ⟨rfl, rfl⟩
  rw [show rdS'.size = 2 from rfl]
  go_wp2_with (fail)
  refine (done_any b3 _ w12 HI.out.2.2.1).mono ?_
  rintro e w13 ⟨rfl, rfl⟩
  rw [show doneF { rdO' with state := 11 } = true from rfl]
  go_wp2_with (fail)
  refine (told_any b3 _ w12 HI.out.2.2.1).mono ?_
  rintro e w13 ⟨rfl, rfl⟩
  rw [show ({ rdO' with state := 11 } : Rd).told = 2 from rfl]
  go_wp2_with (fail)
  refine (size_any b1 rdC' w12 HI.out.1).mono ?_
  rintro e w13 ⟨rfl, rfl⟩
  rw [show rdC'.size = -1 from rfl]
  go_wp2_with (fail)
  go_ret
  exact ⟨rfl, HI.out.2.2.2⟩
end BD
end Go.Proofs.YtgdncdhalnijcaaDoor
