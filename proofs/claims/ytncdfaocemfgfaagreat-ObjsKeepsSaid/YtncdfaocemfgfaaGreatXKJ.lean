/- Walks and lemmas on the program of this seat, used by its statements; each theorem bears its own conditions. -/
import Derived.Test.YtncdfaocemfgfaaGreatXKF
import Derived.Test.YtncdfaocemfgfaaGreatXQB
import Derived.Test.YtncdfaocemfgfaaGreatKE
import Derived.Handy
import Derived.OwnWalk
import Derived.Deep.AppendLies
import Derived.IntWalk
import Derived.Deep.CutRange
import Derived.Deep.RegionHeld3
import Derived.Deep.RegionLaw
import Derived.Maps.OwnSet
import Derived.Maps.Range
import Derived.Deep.OwnRows
import Derived.Laws.IdiomCopy
namespace Go.Proofs.YtncdfaocemfgfaaGreat
open Go.RowKit
set_option linter.unusedVariables false
set_option linter.unusedSimpArgs false
section
set_option maxHeartbeats 8000000
set_option maxRecDepth 100000
/-! ### The numbers of junk blocks, and of segments with junk -/
theorem num_junk {B : List UInt8} (hl : B.length = 512) (hj : JunkB B) : numF (B.take 64) = 0 := by
  unfold numF
  split
  · rfl
  · split
    · next he =>
      exfalso
      apply hj
      obtain ⟨m, hm⟩ : ∃ m, getN (((B.take 64).drop 1).take 6) = m := ⟨_, rfl⟩
      rw [hm] at he
      have h7 : byteAt (headP m) 7 = 0 := by
        have e : headP m = (83 :: putN 6 m) ++ ([0] ++ List.replicate 56 255) := by unfold headP; simp
        have := at_mid (83 :: putN 6 m) [0] (List.replicate 56 255) 0 (by simp)
        rw [e]
        have hlen : (83 :: putN 6 m).length = 7 := by simp [putN_len]
        rw [hlen] at this
        exact this
      rw [he, byteAt_eq _ _ (by rw [List.length_take]; omega), List.getElem_take, ← byteAt_eq _ _ (by omega)] at h7
      exact h7
    · rfl
theorem SegIs.num {num u : Nat} {rs : List (List UInt8)} {B : List UInt8} (h : SegIs num rs u B) (h1 : 1 ≤ num) (h2 : num < 256 ^ 6) : numF (B.take 64) = num := by
  obtain ⟨l, _, _, _, _, h5⟩ := h.ex
  rw [h5, List.append_assoc]
  exact head_num num h1 h2 _
theorem nf_block (bs : List UInt8) (fs k : Nat) : nfF bs fs k = numF ((blockOf bs (fs + k)).take 64) := by
  unfold nfF blockOf
  rw [List.take_take, show 512 * fs + k * 512 = 512 * (fs + k) by omega]
  rfl
end
section
set_option maxHeartbeats 8000000
set_option maxRecDepth 100000
/-! ### slices.Delete of the last segment -/
set_option maxHeartbeats 4000000 in
theorem sdeleteL_any (w : World) (init : List Sg) (sl : Sg) (g c : Nat) (cur : Array Value) (hg : w.heap[g]? = some (.cells cur 98 (0, 0))) (hcap : init.length + 1 ≤ c) (hcm : c ≤ maxLen) (hsz : cur.size = c * 2)
    (htk : cur.toList.take ((init.length + 1) * 2) = segCells (init ++ [sl])) (h1 : 1 ≤ init.length) (hs : init.length ≤ 1000) :
    Calls Tryz.prog 99 #[.slice (some ⟨g, 0, none⟩) (init.length + 1) c, I init.length, I (init.length + 1 : Nat)] w fun e w' => e = .returned (.slice (some ⟨g, 0, none⟩) init.length c) ∧
      (∃ cur', w'.heap[g]? = some (.cells cur' 98 (0, 0)) ∧ cur'.size = c * 2 ∧ cur'.toList.take (init.length * 2) = segCells init) ∧ Kept [g] w w' := by
  obtain ⟨k, hk⟩ : ∃ k, init.length = k := ⟨_, rfl⟩
  obtain ⟨i0, hi0, hz0, hz1, hz2⟩ := info_parts seg_info
  rw [hk] at hcap h1 hs htk ⊢
  have hcl : ∀ ty, (Builtin.clear_ #[93] ty #[.slice (some ⟨g, k * 2, none⟩) 1 (c - k)]).run Tryz.prog w.drew = .ok (.tuple #[]) (w.drew.setCells g (k * 2) [I 0, I 0]) := fun ty => clear_seg w.drew ty g (k * 2) (c - k) (fun j hj => by show (w.cell? _).isSome = true; rw [cell_at hg, Array.getElem?_eq_getElem (by omega)]; rfl) (fun j hj => free_at hg _)
  obtain ⟨cur2, q1, q2, q3, q4⟩ := setCells_row g 98 [I 0, I 0] (k * 2) cur w.drew hg (by rw [hsz]; simp; omega)
  have FIN : Hid ((∃ cur', (w.drew.setCells g (k * 2) [I 0, I 0]).heap[g]? = some (.cells cur' 98 (0, 0)) ∧ cur'.size = c * 2 ∧ cur'.toList.take (k * 2) = segCells init) ∧ Kept [g] w (w.drew.setCells g (k * 2) [I 0, I 0])) := Lib.hid ⟨⟨cur2, q1, by rw [q2, hsz], by
    have hsc : segCells (init ++ [sl]) = segCells init ++ segCells [sl] := by simp [segCells]
    have hil : (segCells init).length = k * 2 := by rw [segCells_len, hk]
    have hpre : cur.toList.take (k * 2) = segCells init := by
      have h3 := congrArg (List.take (k * 2)) htk
      rw [List.take_take, Nat.min_eq_left (by omega), hsc, ← hil, List.take_left] at h3
      rw [← hil]
      exact h3
    rw [← hpre]
    apply List.ext_getElem?
    intro i
    by_cases hi : i < k * 2
    · rw [List.getElem?_take_of_lt hi, List.getElem?_take_of_lt hi, Array.getElem?_toList, Array.getElem?_toList, q3, if_neg (by omega)]
    · rw [List.getElem?_eq_none (by simp; omega), List.getElem?_eq_none (by simp; omega)]⟩, ((Kept.refl [g] w).drew).trans' q4⟩
  obtain ⟨src, hsrc⟩ : ∃ src : Addr, (if c = k + 1 then some (⟨g, 0, none⟩ : Addr) else some ⟨g, (k + 1) * 2, none⟩) = some src := by split <;> exact ⟨_, rfl⟩
  have hkI : (k : Int) ≤ 1000 := by omega
  have hk1 : (1 : Int) ≤ k := by omega
  have hcI : (k : Int) + 1 ≤ c := by omega
  have hcz : (c : Int) ≤ 9223372036854775807 := by unfold maxLen at hcm; omega
  have hkb : decide ((k : Int) ≤ (k : Int) + 1) = true := decide_eq_true (by omega)
  have hne : ((k : Int) == (k : Int) + 1) = false := by simp; omega
  have hkle : k ≤ c := by omega
  have hk01 : (0 : Int) ≤ (k : Int) + 1 := by omega
  have hk02 : (k : Int) + 1 ≤ c := by omega
  have hkle1 : k + 1 ≤ c := by omega
  clear htk hsz hk hg q1 q2 q3 q4
  go_enter Tryz.func99, Tryz.ntmps99
  go_wp2_with (fail)
  go_region_law (refine step_append_room rfl (.tmp 22) (.tmp 25) 93 rfl 98 i0 2 Tryz.underlying93 hi0 hz1 g 0 k c (by simp [Act.eval, Act.put]) src 0 (c - (k + 1)) [] (by simp [Act.eval, Act.put, hsrc]) (by rfl) (fun t u h => by simp at h) (by simp) (by omega) (fun t ht => by simp at ht) ?_; simp only [World.setCells])
  all_goals
    go_wp2
    go_ret
    exact ⟨rfl, FIN.out.1, FIN.out.2⟩
/-! ### Dropping the newest over an armed flash -/
set_option maxHeartbeats 4000000 in
theorem dropL_of (w : World) (lb pb fb bb cb fs n : Nat) (v : Value) (tl : List Sg) (s0 : Sg) (f f1 : Fl) (h : LgAt w lb pb fb bb cb fs n v (tl ++ [s0]) f false) (hb : s0.1 < n) (h1 : 1 ≤ tl.length) (hs : tl.length ≤ 1000)
    (HE : ∀ W, Kept [] w W → Calls Tryz.prog 91 #[Ptr pb, I s0.1] W (PtPost (I 0) pb fb bb cb fs n W f1)) :
    Calls Tryz.prog 79 #[Ptr lb, I tl.length] w (LgPost (I 0) lb pb fb bb cb fs n v w tl f1 false) := by
  replace HE := Lib.hid HE
  obtain ⟨g, c, hv, hcl⟩ := h.slice (by simp)
  obtain ⟨c0, c1, c2⟩ := h.cells
  obtain ⟨e0, e1⟩ := hcl tl.length (by simp)
  simp only [List.getElem_append_right (Nat.le_refl _), Nat.sub_self, List.getElem_cons_zero] at e0 e1
  subst hv
  obtain ⟨k, hk⟩ : ∃ k, tl.length = k := ⟨_, rfl⟩
  simp only [List.length_append, List.length_singleton, hk] at c1
  rw [hk] at e0 e1 ⊢
  have hbI : (s0.1 : Int) ≤ 256 := by have := h.pt.bound.1; omega
  have hkI : (k : Int) ≤ 1000 := by omega
  have hk1 : (1 : Int) ≤ k := by omega
  have hk2 : ((k : Int) + 1 == 1) = false := by simp; omega
  have H := Lib.hid h
  have HK := Lib.hid hk
  obtain ⟨b0, hb0⟩ : ∃ b0, s0.1 = b0 := ⟨_, rfl⟩
  rw [hb0] at e0 HE hbI
  clear h hb hcl hb0 h1 hs hk
  go_enter Tryz.func79, Tryz.ntmps79
  go_upto_region 5 with (fail)
  go_cut [5] from 18 to 32 (fun v5 wx => v5 = I 0 ∧ LgAt wx lb pb fb bb cb fs n (.slice (some ⟨g, 0, none⟩) (tl ++ [s0]).length c) (tl ++ [s0]) f1 false ∧ Kept (LgT lb fb bb cb (.slice (some ⟨g, 0, none⟩) (tl ++ [s0]).length c)) w wx)
  case first =>
    go_region_with (first
      | (go_at_call 91; (with_reducible refine (HE.out _ (Kept.refl [] w).drew).mono ?_); rintro e w3 ⟨rfl, h3, k3⟩)
      | (go_at_call 80; (with_reducible refine (ltold_any _ lb pb fb bb cb fs n _ (tl ++ [s0]) f1 false (H.out.drew.turned k3 h3) 0).mono ?_); rintro e w4 ⟨rfl, h4, k4⟩))
    all_goals
      go_wp2
      go_meet
      exact ⟨rfl, h4, (LgT.sub0 (Kept.refl [] w).drew).trans' ((LgT.sub3 k3).trans' (LgT.sub1 k4))⟩
  case rest =>
  obtain ⟨rfl, h2, k2⟩ := hcut
  clear c0 c1 c2 e0 e1
  obtain ⟨c0, c1, c2⟩ := h2.cells
  have HL2 := Lib.hid (And.intro h2 k2)
  have h2own := h2.own
  obtain ⟨gg, cc, hvv, hcl2⟩ := h2.slice (by simp)
  clear h2 k2
  have hgg : gg = g := by cases hvv; rfl
  subst hgg
  clear hvv
  have hT := Lib.hid (fun W (k : Kept [] wc W) => (HL2.out.1.same k).cells)
  have hpos : 1 ≤ (tl ++ [s0]).length := by simp
  have hsm : (tl ++ [s0]).length ≤ 1001 := by have := HK.out; simp; omega
  have HCL := Lib.hid (sclone_any wc (tl ++ [s0]) gg c hpos hsm hcl2)
  have hlt := HL2.out.1.lt
  have hll : (tl ++ [s0]).length = k + 1 := by have := HK.out; simp [this]
  rw [hll] at HCL c1
  have HLL := Lib.hid hll
  clear hcl2 hpos hsm hll h2own
  go_wp2_with (fail)
  refine HCL.out.mono ?_
  rintro e w3 ⟨⟨g', c', rfl, hg', own3⟩, k3⟩
  obtain ⟨gq, capq, curq, hvq, hbq, hgq, hnq, hcq, hszq, htq⟩ : ∃ g cap cur, Value.slice (some ⟨g', 0, none⟩) (k + 1) c' = .slice (some ⟨g, 0, none⟩) (k + 1) cap ∧ wc.heap.size ≤ g ∧ w3.heap[g]? = some (.cells cur 98 (0, 0)) ∧ k + 1 ≤ cap ∧ cap ≤ maxLen ∧ cur.size = cap * 2 ∧ cur.toList.take ((k + 1) * 2) = segCells (tl ++ [s0]) := by
    rcases own3.2 with ⟨h0, _⟩ | h
    · cases h0
    · exact h
  obtain ⟨rfl, rfl⟩ : g' = gq ∧ c' = capq := by injection hvq with a b c; injection a with a; injection a with a; exact ⟨a, c⟩
  have HDL := Lib.hid (sdeleteL_any w3 tl s0 g' c' curq hgq (by rw [HK.out]; exact hnq) hcq hszq (by rw [HK.out]; exact htq) (by rw [HK.out]; omega) (by rw [HK.out]; omega))
  rw [HK.out] at HDL
  have K3 := Lib.hid (And.intro k3 (And.intro hg' (And.intro hnq hcq)))
  clear own3 hvq hgq hnq hcq hszq htq hbq hg' k3
  go_wp2_with (fail)
  refine HDL.out.mono ?_
  rintro e w4 ⟨rfl, ⟨cur4, hg4, hsz4, htk4⟩, k4⟩
  have k34 : Kept [] wc w4 := K3.out.1.new k4 (by intro x hx; simp at hx; have := K3.out.2.1; omega)
  obtain ⟨f0, f1', f2⟩ := hT.out w4 k34
  have hl4 := HL2.out.1.same k34
  have hfr := hl4.free
  have K4 := Lib.hid (And.intro hl4 (And.intro k34 (And.intro hg4 (And.intro hsz4 htk4))))
  clear hg4 hsz4 htk4 k4 hl4 k34 c0 c1 c2
  go_wp2_with (fail)
  go_ret
  obtain ⟨hl4, k34, hg4, hsz4, htk4⟩ := K4.out
  have own4 : w4.ownsRow (lb + 1) 98 2 (.slice (some ⟨g', 0, none⟩) k c') tl.length (segCells tl) :=
    ⟨segCells_len tl, .inr ⟨g', c', cur4, by rw [HK.out], by have := K3.out.2.1; omega, hg4, by rw [HK.out]; have := K3.out.2.2.1; omega, K3.out.2.2.2, hsz4, by rw [HK.out]; exact htk4⟩⟩
  refine ⟨rfl, .slice (some ⟨g', 0, none⟩) k c', ?_, hl4.setSegs own4, HL2.out.2.trans' ((LgT.sub0 k34).trans' (LgT.sub1 ((Kept.refl _ _).setCell (.inl (by simp)) _)))⟩
  intro q hq
  have hqg : g' = q := by simpa [Value.ownBlock] using hq
  subst hqg
  right
  have := K3.out.2.1
  have := HL2.out.2.size
  omega
set_option maxHeartbeats 4000000 in
theorem dropL_dead (w : World) (lb pb fb bb cb fs n : Nat) (v : Value) (tl : List Sg) (s0 : Sg) (f f1 : Fl) (h : LgAt w lb pb fb bb cb fs n v (tl ++ [s0]) f false) (hb : s0.1 < n) (h1 : 1 ≤ tl.length) (hs : tl.length ≤ 1000)
    (HE : ∀ W, Kept [] w W → Calls Tryz.prog 91 #[Ptr pb, I s0.1] W (PtPost (I 2) pb fb bb cb fs n W f1)) :
    Calls Tryz.prog 79 #[Ptr lb, I tl.length] w (LcPost 2 lb pb fb bb cb fs n v (tl ++ [s0]) f1 true w) := by
  replace HE := Lib.hid HE
  obtain ⟨g, c, hv, hcl⟩ := h.slice (by simp)
  obtain ⟨c0, c1, c2⟩ := h.cells
  obtain ⟨e0, e1⟩ := hcl tl.length (by simp)
  simp only [List.getElem_append_right (Nat.le_refl _), Nat.sub_self, List.getElem_cons_zero] at e0 e1
  subst hv
  obtain ⟨k, hk⟩ : ∃ k, tl.length = k := ⟨_, rfl⟩
  simp only [List.length_append, List.length_singleton, hk] at c1
  rw [hk] at e0 e1 ⊢
  have hbI : (s0.1 : Int) ≤ 256 := by have := h.pt.bound.1; omega
  have hkI : (k : Int) ≤ 1000 := by omega
  have hk1 : (1 : Int) ≤ k := by omega
  have hk2 : ((k : Int) + 1 == 1) = false := by simp; omega
  have H := Lib.hid h
  have HK := Lib.hid hk
  obtain ⟨b0, hb0⟩ : ∃ b0, s0.1 = b0 := ⟨_, rfl⟩
  rw [hb0] at e0 HE hbI
  clear h hb hcl hb0 h1 hs hk
  go_enter Tryz.func79, Tryz.ntmps79
  go_upto_region 5 with (fail)
  go_cut [5] from 18 to 32 (fun v5 wx => v5 = I 2 ∧ LgAt wx lb pb fb bb cb fs n (.slice (some ⟨g, 0, none⟩) (tl ++ [s0]).length c) (tl ++ [s0]) f1 true ∧ Kept (LgT lb fb bb cb (.slice (some ⟨g, 0, none⟩) (tl ++ [s0]).length c)) w wx)
  case first =>
    go_region_with (first
      | (go_at_call 91; (with_reducible refine (HE.out _ (Kept.refl [] w).drew).mono ?_); rintro e w3 ⟨rfl, h3, k3⟩)
      | (go_at_call 80; (with_reducible refine (ltold_any _ lb pb fb bb cb fs n _ (tl ++ [s0]) f1 false (H.out.drew.turned k3 h3) 2).mono ?_); rintro e w4 ⟨rfl, h4, k4⟩))
    all_goals
      go_wp2
      go_meet
      exact ⟨rfl, h4, (LgT.sub0 (Kept.refl [] w).drew).trans' ((LgT.sub3 k3).trans' (LgT.sub1 k4))⟩
  case rest =>
  obtain ⟨rfl, h2, k2⟩ := hcut
  have H2 := Lib.hid (And.intro h2 k2)
  clear h2 k2 c0 c1 c2 e0 e1
  go_wp2_with (fail)
  go_ret
  exact ⟨rfl, H2.out.1, H2.out.2⟩
/-- What a drop of the newest leaves over an armed flash. -/
def DropPostL (lb pb fb bb cb fs n : Nat) (v : Value) (tl : List Sg) (s0 : Sg) (f : Fl) (w : World) (e : Ending) (w' : World) : Prop :=
  (∃ g, StepOK f g ∧ blockOf g.bs (fs + s0.1) = fullB ∧ Others (fs + s0.1) f g ∧ LgPost (I 0) lb pb fb bb cb fs n v w tl g false e w') ∨
  (∃ g, StepDead f g ∧ (blockOf g.bs (fs + s0.1) = blockOf f.bs (fs + s0.1) ∨ JunkB (blockOf g.bs (fs + s0.1))) ∧ Others (fs + s0.1) f g ∧ LcPost 2 lb pb fb bb cb fs n v (tl ++ [s0]) g true w e w')
theorem dropL_arm (w : World) (lb pb fb bb cb fs n : Nat) (v : Value) (tl : List Sg) (s0 : Sg) (f : Fl) (h : LgAt w lb pb fb bb cb fs n v (tl ++ [s0]) f false) (ha : ArmOK f) (hb : s0.1 < n) (h1 : 1 ≤ tl.length) (hs : tl.length ≤ 1000) :
    Calls Tryz.prog 79 #[Ptr lb, I tl.length] w (DropPostL lb pb fb bb cb fs n v tl s0 f w) := by
  have hbd := h.pt.bound
  have hln : 512 * (fs + s0.1) + 512 ≤ f.bs.length := by omega
  by_cases a1 : f.armed = 1
  · refine (dropL_dead w lb pb fb bb cb fs n v tl s0 f (eraseT f (fs + s0.1)) h hb h1 hs (fun W k => perase_torn W pb fb bb cb fs n f (h.same k).pt ha a1 s0.1 hb)).mono ?_
    intro e w' hp
    exact .inr ⟨_, eraseT_dead ha a1 _, tornE_seg ha.2.2.2 hln, fun j hj hn => tornE_other hj hn, hp⟩
  · refine (dropL_of w lb pb fb bb cb fs n v tl s0 f (eraseA f (fs + s0.1)) h hb h1 hs (fun W k => perase_arm W pb fb bb cb fs n f (h.same k).pt ha a1 s0.1 hb)).mono ?_
    intro e w' hp
    exact .inl ⟨_, eraseA_ok ha a1 _, erase_same hln, fun j hj hn => erase_other hj hn, hp⟩
theorem dropNewest_arm (w : World) (lb pb fb bb cb fs n : Nat) (v : Value) (tl : List Sg) (s0 : Sg) (f : Fl) (h : LgAt w lb pb fb bb cb fs n v (tl ++ [s0]) f false) (ha : ArmOK f) (hb : s0.1 < n) (h1 : 1 ≤ tl.length) (hs : tl.length ≤ 1000) :
    Calls Tryz.prog 66 #[Ptr lb] w (DropPostL lb pb fb bb cb fs n v tl s0 f w) := by
  have HD := Lib.hid (dropL_arm w lb pb fb bb cb fs n v tl s0 f h ha hb h1 hs)
  obtain ⟨c0, c1, c2⟩ := h.cells
  obtain ⟨p, c, hv⟩ := own_form h.own
  rw [hv, List.length_append, List.length_singleton] at c1
  obtain ⟨k, hk⟩ : ∃ k, tl.length = k := ⟨_, rfl⟩
  rw [hk] at HD c1
  have hkI : (k : Int) ≤ 1000 := by omega
  clear h ha hb h1 hs hv hk
  go_enter Tryz.func66, Tryz.ntmps66
  go_wp2_with (fail)
  refine HD.out.mono ?_
  intro e w1 hp
  rcases hp with ⟨g, a, b, c, rfl, d⟩ | ⟨g, a, b, c, rfl, d⟩
  · have H1 := Lib.hid (And.intro a (And.intro b (And.intro c d)))
    clear a b c d
    go_wp2_with (fail)
    go_ret
    exact .inl ⟨g, H1.out.1, H1.out.2.1, H1.out.2.2.1, rfl, H1.out.2.2.2⟩
  · have H1 := Lib.hid (And.intro a (And.intro b (And.intro c d)))
    clear a b c d
    go_wp2_with (fail)
    go_ret
    exact .inr ⟨g, H1.out.1, H1.out.2.1, H1.out.2.2.1, rfl, H1.out.2.2.2⟩
end

end Go.Proofs.YtncdfaocemfgfaaGreat
