/- Walks and lemmas on the program of this seat, used by its statements; each theorem bears its own conditions. -/
import Derived.Test.YtgdioalhlmnhhaaDoorHQ
import Derived.Handy
namespace Go.Proofs.YtgdioalhlmnhhaaDoor
open Go.RowKit
set_option linter.unusedVariables false
set_option linter.unusedSimpArgs false
set_option maxHeartbeats 8000000
set_option maxRecDepth 100000
/-! ### HeadAsks -/
structure TH (w : World) : Prop where
  len : ML w
  pow : PT w
theorem TH.kept {w w' : World} (h : TH w) (k : Kept [] w w') : TH w' := ⟨h.len.kept k, h.pow.kept k⟩
theorem asksLaw_any (host target : List UInt8) (k : Int) (w : World) (h1 : host.length ≤ 140737488355328) (h2 : target.length ≤ 140737488355328) (hk1 : -9223372036854775808 ≤ k) (hk2 : k ≤ 9223372036854775807) (hT : TH w) :
    Calls Tryd.prog 10 #[S host, S target, I k] w fun e w' => e = .returned (.bool true) ∧ Kept [] w w' := by
  have HT := Lib.hid hT
  obtain ⟨r, hr⟩ : ∃ r, reqF host target k = r := ⟨_, rfl⟩
  obtain ⟨q, hq⟩ : ∃ q, repF host target host = q := ⟨_, rfl⟩
  have HR := Lib.hid hr
  have HQ := Lib.hid hq
  clear hr hq hT
  obtain ⟨r1, r2⟩ := r
  obtain ⟨q1, q2⟩ := q
  go_enter Tryd.func10, Tryd.ntmps10
  go_wp2_with (fail)
  refine (request_any host target k w hk1 hk2 (.inr HT.out.pow) (by omega) (by omega) _ HR.out).mono ?_
  rintro e w1 ⟨rfl, k1⟩
  have H1 := Lib.hid k1
  clear k1
  go_wp2_with (fail)
  refine (rrequest_any host target k w1 hk1 hk2 (by omega) (by omega) _ HR.out).mono ?_
  rintro e w2 ⟨rfl, k2⟩
  have H2 := Lib.hid (H1.out.trans' k2)
  clear k2
  go_wp2_with (fail)
  refine (report_any host target host w2 (by omega) (.inr (HT.out.kept H2.out).pow) (by omega) (by omega) _ HQ.out).mono ?_
  rintro e w3 ⟨rfl, k3⟩
  have H3 := Lib.hid (H2.out.trans' k3)
  clear k3
  go_wp2_with (fail)
  refine (rreport_any host target host w3 (by omega) (by omega) (by omega) _ HQ.out).mono ?_
  rintro e w4 ⟨rfl, k4⟩
  have H4 := Lib.hid (H3.out.trans' k4)
  clear k4
  go_wp2_with (fail)
  refine (fixed_any w4 (HT.out.kept H4.out).len).mono ?_
  rintro e w5 ⟨rfl, k5⟩
  have H5 := Lib.hid (H4.out.trans' k5)
  clear k5
  go_wp2_with (fail)
  go_ret
  exact ⟨by simp, H5.out⟩
end Go.Proofs.YtgdioalhlmnhhaaDoor
