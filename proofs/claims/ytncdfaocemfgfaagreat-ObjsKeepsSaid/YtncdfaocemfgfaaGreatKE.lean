/- Walks and lemmas on the program of this seat, used by its statements; each theorem bears its own conditions. -/
import Derived.Test.YtncdfaocemfgfaaGreatKD
import Derived.Test.YtncdfaocemfgfaaGreatOS
import Derived.Handy
import Derived.OwnWalk
import Derived.Deep.AppendLies
import Derived.IntWalk
import Derived.Deep.CutRange
import Derived.Deep.RegionHeld3
import Derived.Deep.RegionLaw
import Derived.Laws.IdiomCopy
namespace Go.Proofs.YtncdfaocemfgfaaGreat
open Go.RowKit
set_option linter.unusedVariables false
set_option linter.unusedSimpArgs false
set_option maxHeartbeats 8000000
set_option maxRecDepth 100000
/-! ### Dropping the oldest over an armed flash -/
set_option maxHeartbeats 4000000 in
theorem drop_of (w : World) (lb pb fb bb cb fs n : Nat) (v : Value) (s0 : Sg) (tl : List Sg) (f f1 : Fl) (h : LgAt w lb pb fb bb cb fs n v (s0 :: tl) f false) (hb : s0.1 < n) (h1 : 1 ≤ tl.length) (hs : tl.length ≤ 1000)
    (HE : ∀ W, Kept [] w W → Calls Tryz.prog 91 #[Ptr pb, I s0.1] W (PtPost (I 0) pb fb bb cb fs n W f1)) :
    Calls Tryz.prog 79 #[Ptr lb, I 0] w (LgPost (I 0) lb pb fb bb cb fs n v w tl f1 false) := by
  replace HE := Lib.hid HE
  obtain ⟨g, c, hv, hcl⟩ := h.slice (by simp)
  obtain ⟨c0, c1, c2⟩ := h.cells
  obtain ⟨e0, e1⟩ := hcl 0 (by simp)
  simp only [List.getElem_cons_zero, Nat.zero_mul] at e0 e1
  subst hv
  obtain ⟨k, hk⟩ : ∃ k, tl.length = k := ⟨_, rfl⟩
  simp only [List.length_cons, hk] at c1
  have hbI : (s0.1 : Int) ≤ 256 := by have := h.pt.bound.1; omega
  have hkI : (k : Int) ≤ 1000 := by omega
  have hk1 : (1 : Int) ≤ k := by omega
  have hk2 : ((k : Int) + 1 == 1) = false := by simp; omega
  have H := Lib.hid h
  have HK := Lib.hid hk
  obtain ⟨b0, hb0⟩ : ∃ b0, s0.1 = b0 := ⟨_, rfl⟩
  rw [hb0] at e0 HE hbI
  clear h hb hcl hb0 h1 hs hk
  go_enter Tryz.func79, Tryz.ntmps79
  go_upto_region 5 with (fail)
  go_cut [5] from 18 to 32 (fun v5 wx => v5 = I 0 ∧ LgAt wx lb pb fb bb cb fs n (.slice (some ⟨g, 0, none⟩) (s0 :: tl).length c) (s0 :: tl) f1 false ∧ Kept (LgT lb fb bb cb (.slice (some ⟨g, 0, none⟩) (s0 :: tl).length c)) w wx)
  case first =>
    go_region_with (first
      | (go_at_call 91; (with_reducible refine (HE.out _ (Kept.refl [] w).drew).mono ?_); rintro e w3 ⟨rfl, h3, k3⟩)
      | (go_at_call 80; (with_reducible refine (ltold_any _ lb pb fb bb cb fs n _ (s0 :: tl) f1 false (H.out.drew.turned k3 h3) 0).mono ?_); rintro e w4 ⟨rfl, h4, k4⟩))
    all_goals
      go_wp2
      go_meet
      exact ⟨rfl, h4, (LgT.sub0 (Kept.refl [] w).drew).trans' ((LgT.sub3 k3).trans' (LgT.sub1 k4))⟩
  case rest =>
  obtain ⟨rfl, h2, k2⟩ := hcut
  clear c0 c1 c2 e0 e1
  obtain ⟨c0, c1, c2⟩ := h2.cells
  have HL2 := Lib.hid (And.intro h2 k2)
  have h2own := h2.own
  obtain ⟨gg, cc, hvv, hcl2⟩ := h2.slice (by simp)
  clear h2 k2
  have hgg : gg = g := by cases hvv; rfl
  subst hgg
  clear hvv
  have hT := Lib.hid (fun W (k : Kept [] wc W) => (HL2.out.1.same k).cells)
  have hpos : 1 ≤ (s0 :: tl).length := by simp
  have hsm : (s0 :: tl).length ≤ 1001 := by have := HK.out; simp; omega
  have HCL := Lib.hid (sclone_any wc (s0 :: tl) gg c hpos hsm hcl2)
  have hlt := HL2.out.1.lt
  have hll : (s0 :: tl).length = k + 1 := by have := HK.out; simp [this]
  rw [hll] at HCL c1
  have HLL := Lib.hid hll
  clear hcl2 hpos hsm hll h2own
  go_wp2_with (fail)
  refine HCL.out.mono ?_
  rintro e w3 ⟨⟨g', c', rfl, hg', own3⟩, k3⟩
  obtain ⟨gq, capq, curq, hvq, hbq, hgq, hnq, hcq, hszq, htq⟩ : ∃ g cap cur, Value.slice (some ⟨g', 0, none⟩) (k + 1) c' = .slice (some ⟨g, 0, none⟩) (k + 1) cap ∧ wc.heap.size ≤ g ∧ w3.heap[g]? = some (.cells cur 98 (0, 0)) ∧ k + 1 ≤ cap ∧ cap ≤ maxLen ∧ cur.size = cap * 2 ∧ cur.toList.take ((k + 1) * 2) = segCells (s0 :: tl) := by
    rcases own3.2 with ⟨h0, _⟩ | h
    · cases h0
    · exact h
  obtain ⟨rfl, rfl⟩ : g' = gq ∧ c' = capq := by injection hvq with a b c; injection a with a; injection a with a; exact ⟨a, c⟩
  have HDL := Lib.hid (sdelete_any w3 s0 tl g' c' curq hgq (by rw [HK.out]; exact hnq) hcq hszq (by rw [HK.out]; exact htq) (by rw [HK.out]; omega) (by rw [HK.out]; omega))
  rw [HK.out] at HDL
  have K3 := Lib.hid (And.intro k3 (And.intro hg' (And.intro hnq hcq)))
  clear own3 hvq hgq hnq hcq hszq htq hbq hg' k3
  go_wp2_with (fail)
  refine HDL.out.mono ?_
  rintro e w4 ⟨rfl, ⟨cur4, hg4, hsz4, htk4⟩, k4⟩
  have k34 : Kept [] wc w4 := K3.out.1.new k4 (by intro x hx; simp at hx; have := K3.out.2.1; omega)
  obtain ⟨f0, f1', f2⟩ := hT.out w4 k34
  have hl4 := HL2.out.1.same k34
  have hfr := hl4.free
  have K4 := Lib.hid (And.intro hl4 (And.intro k34 (And.intro hg4 (And.intro hsz4 htk4))))
  clear hg4 hsz4 htk4 k4 hl4 k34 c0 c1 c2
  go_wp2_with (fail)
  go_ret
  obtain ⟨hl4, k34, hg4, hsz4, htk4⟩ := K4.out
  have own4 : w4.ownsRow (lb + 1) 98 2 (.slice (some ⟨g', 0, none⟩) k c') tl.length (segCells tl) :=
    ⟨segCells_len tl, .inr ⟨g', c', cur4, by rw [HK.out], by have := K3.out.2.1; omega, hg4, by rw [HK.out]; have := K3.out.2.2.1; omega, K3.out.2.2.2, hsz4, by rw [HK.out]; exact htk4⟩⟩
  refine ⟨rfl, .slice (some ⟨g', 0, none⟩) k c', ?_, hl4.setSegs own4, HL2.out.2.trans' ((LgT.sub0 k34).trans' (LgT.sub1 ((Kept.refl _ _).setCell (.inl (by simp)) _)))⟩
  intro q hq
  have hqg : g' = q := by simpa [Value.ownBlock] using hq
  subst hqg
  right
  have := K3.out.2.1
  have := HL2.out.2.size
  omega
set_option maxHeartbeats 4000000 in
theorem drop_dead (w : World) (lb pb fb bb cb fs n : Nat) (v : Value) (s0 : Sg) (tl : List Sg) (f f1 : Fl) (h : LgAt w lb pb fb bb cb fs n v (s0 :: tl) f false) (hb : s0.1 < n) (h1 : 1 ≤ tl.length) (hs : tl.length ≤ 1000)
    (HE : ∀ W, Kept [] w W → Calls Tryz.prog 91 #[Ptr pb, I s0.1] W (PtPost (I 2) pb fb bb cb fs n W f1)) :
    Calls Tryz.prog 79 #[Ptr lb, I 0] w (LcPost 2 lb pb fb bb cb fs n v (s0 :: tl) f1 true w) := by
  replace HE := Lib.hid HE
  obtain ⟨g, c, hv, hcl⟩ := h.slice (by simp)
  obtain ⟨c0, c1, c2⟩ := h.cells
  obtain ⟨e0, e1⟩ := hcl 0 (by simp)
  simp only [List.getElem_cons_zero, Nat.zero_mul] at e0 e1
  subst hv
  obtain ⟨k, hk⟩ : ∃ k, tl.length = k := ⟨_, rfl⟩
  simp only [List.length_cons, hk] at c1
  have hbI : (s0.1 : Int) ≤ 256 := by have := h.pt.bound.1; omega
  have hkI : (k : Int) ≤ 1000 := by omega
  have hk1 : (1 : Int) ≤ k := by omega
  have hk2 : ((k : Int) + 1 == 1) = false := by simp; omega
  have H := Lib.hid h
  have HK := Lib.hid hk
  obtain ⟨b0, hb0⟩ : ∃ b0, s0.1 = b0 := ⟨_, rfl⟩
  rw [hb0] at e0 HE hbI
  clear h hb hcl hb0 h1 hs hk
  go_enter Tryz.func79, Tryz.ntmps79
  go_upto_region 5 with (fail)
  go_cut [5] from 18 to 32 (fun v5 wx => v5 = I 2 ∧ LgAt wx lb pb fb bb cb fs n (.slice (some ⟨g, 0, none⟩) (s0 :: tl).length c) (s0 :: tl) f1 true ∧ Kept (LgT lb fb bb cb (.slice (some ⟨g, 0, none⟩) (s0 :: tl).length c)) w wx)
  case first =>
    go_region_with (first
      | (go_at_call 91; (with_reducible refine (HE.out _ (Kept.refl [] w).drew).mono ?_); rintro e w3 ⟨rfl, h3, k3⟩)
      | (go_at_call 80; (with_reducible refine (ltold_any _ lb pb fb bb cb fs n _ (s0 :: tl) f1 false (H.out.drew.turned k3 h3) 2).mono ?_); rintro e w4 ⟨rfl, h4, k4⟩))
    all_goals
      go_wp2
      go_meet
      exact ⟨rfl, h4, (LgT.sub0 (Kept.refl [] w).drew).trans' ((LgT.sub3 k3).trans' (LgT.sub1 k4))⟩
  case rest =>
  obtain ⟨rfl, h2, k2⟩ := hcut
  have H2 := Lib.hid (And.intro h2 k2)
  clear h2 k2 c0 c1 c2 e0 e1
  go_wp2_with (fail)
  go_ret
  exact ⟨rfl, H2.out.1, H2.out.2⟩
/-- What a drop of the oldest leaves over an armed flash. -/
def DropPost (lb pb fb bb cb fs n : Nat) (v : Value) (s0 : Sg) (tl : List Sg) (f : Fl) (w : World) (e : Ending) (w' : World) : Prop :=
  (∃ g, StepOK f g ∧ blockOf g.bs (fs + s0.1) = fullB ∧ Others (fs + s0.1) f g ∧ LgPost (I 0) lb pb fb bb cb fs n v w tl g false e w') ∨
  (∃ g, StepDead f g ∧ (blockOf g.bs (fs + s0.1) = blockOf f.bs (fs + s0.1) ∨ JunkB (blockOf g.bs (fs + s0.1))) ∧ Others (fs + s0.1) f g ∧ LcPost 2 lb pb fb bb cb fs n v (s0 :: tl) g true w e w')
theorem drop_arm (w : World) (lb pb fb bb cb fs n : Nat) (v : Value) (s0 : Sg) (tl : List Sg) (f : Fl) (h : LgAt w lb pb fb bb cb fs n v (s0 :: tl) f false) (ha : ArmOK f) (hb : s0.1 < n) (h1 : 1 ≤ tl.length) (hs : tl.length ≤ 1000) :
    Calls Tryz.prog 79 #[Ptr lb, I 0] w (DropPost lb pb fb bb cb fs n v s0 tl f w) := by
  have hbd := h.pt.bound
  have hln : 512 * (fs + s0.1) + 512 ≤ f.bs.length := by omega
  by_cases a1 : f.armed = 1
  · refine (drop_dead w lb pb fb bb cb fs n v s0 tl f (eraseT f (fs + s0.1)) h hb h1 hs (fun W k => perase_torn W pb fb bb cb fs n f (h.same k).pt ha a1 s0.1 hb)).mono ?_
    intro e w' hp
    exact .inr ⟨_, eraseT_dead ha a1 _, tornE_seg ha.2.2.2 hln, fun j hj hn => tornE_other hj hn, hp⟩
  · refine (drop_of w lb pb fb bb cb fs n v s0 tl f (eraseA f (fs + s0.1)) h hb h1 hs (fun W k => perase_arm W pb fb bb cb fs n f (h.same k).pt ha a1 s0.1 hb)).mono ?_
    intro e w' hp
    exact .inl ⟨_, eraseA_ok ha a1 _, erase_same hln, fun j hj hn => erase_other hj hn, hp⟩
theorem dropOldest_arm (w : World) (lb pb fb bb cb fs n : Nat) (v : Value) (s0 : Sg) (tl : List Sg) (f : Fl) (h : LgAt w lb pb fb bb cb fs n v (s0 :: tl) f false) (ha : ArmOK f) (hb : s0.1 < n) (h1 : 1 ≤ tl.length) (hs : tl.length ≤ 1000) :
    Calls Tryz.prog 58 #[Ptr lb] w (DropPost lb pb fb bb cb fs n v s0 tl f w) := by
  have HD := Lib.hid (drop_arm w lb pb fb bb cb fs n v s0 tl f h ha hb h1 hs)
  clear h ha hb h1 hs
  go_enter Tryz.func58, Tryz.ntmps58
  go_wp2_with (fail)
  refine HD.out.mono ?_
  intro e w1 hp
  rcases hp with ⟨g, a, b, c, rfl, d⟩ | ⟨g, a, b, c, rfl, d⟩
  · have H1 := Lib.hid (And.intro a (And.intro b (And.intro c d)))
    clear a b c d
    go_wp2_with (fail)
    go_ret
    exact .inl ⟨g, H1.out.1, H1.out.2.1, H1.out.2.2.1, rfl, H1.out.2.2.2⟩
  · have H1 := Lib.hid (And.intro a (And.intro b (And.intro c d)))
    clear a b c d
    go_wp2_with (fail)
    go_ret
    exact .inr ⟨g, H1.out.1, H1.out.2.1, H1.out.2.2.1, rfl, H1.out.2.2.2⟩

end Go.Proofs.YtncdfaocemfgfaaGreat
