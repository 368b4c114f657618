/- Walks and lemmas on the program of this seat, used by its statements; each theorem bears its own conditions. -/
import Derived.Test.YtncdfaocemfgfaaGreatXOP
import Derived.Handy
import Derived.OwnWalk
import Derived.Deep.AppendLies
import Derived.IntWalk
import Derived.Deep.CutRange
import Derived.Deep.RegionHeld3
import Derived.Deep.RegionLaw
import Derived.Laws.IdiomCopy
namespace Go.Proofs.YtncdfaocemfgfaaGreat
open Go.RowKit
set_option linter.unusedVariables false
set_option linter.unusedSimpArgs false
set_option maxHeartbeats 8000000
set_option maxRecDepth 100000
/-! ### slices.Delete of the first segment -/
theorem setCells_row (g : Nat) (t : TypeId) : ∀ (vs : List Value) (o : Nat) (cur : Array Value) (w : World), w.heap[g]? = some (.cells cur t (0, 0)) → o + vs.length ≤ cur.size →
    ∃ cur', (w.setCells g o vs).heap[g]? = some (.cells cur' t (0, 0)) ∧ cur'.size = cur.size ∧ (∀ i, cur'[i]? = if o ≤ i ∧ i < o + vs.length then vs[i - o]? else cur[i]?) ∧ Kept [g] w (w.setCells g o vs) := by
  intro vs
  induction vs with
  | nil => intro o cur w h _; exact ⟨cur, h, rfl, fun i => by rw [if_neg (by simp)], Kept.refl _ _⟩
  | cons v r ih =>
    intro o cur w h hl
    rw [List.length_cons] at hl
    obtain ⟨cur', h1, h2, h3, h4⟩ := ih (o + 1) (cur.setIfInBounds o v) (w.setCell ⟨g, o, none⟩ v) (heap_setCell_at h o v) (by rw [Array.size_setIfInBounds]; omega)
    refine ⟨cur', h1, by rw [h2, Array.size_setIfInBounds], fun i => ?_, ((Kept.refl [g] w).setCell (.inl (by simp)) v).trans' h4⟩
    rw [h3 i, List.length_cons]
    by_cases hi : o + 1 ≤ i ∧ i < o + 1 + r.length
    · rw [if_pos hi, if_pos (by omega), show i - o = (i - (o + 1)) + 1 by omega, List.getElem?_cons_succ]
    · rw [if_neg hi]
      by_cases ho : i = o
      · subst ho
        rw [if_pos (by omega), Nat.sub_self, List.getElem?_cons_zero, Array.getElem?_setIfInBounds_self_of_lt (by omega)]
      · rw [if_neg (by omega), Array.getElem?_setIfInBounds_ne (Ne.symm ho)]
theorem clear_seg (w : World) (ty : TypeId) (b o : Nat) (c : Nat) (hc : ∀ j, j < 2 → (w.cell? ⟨b, o + j, none⟩).isSome = true) (hf : ∀ j, j < 2 → w.frozen? ⟨b, o + j, none⟩ = false) :
    (Builtin.clear_ #[93] ty #[.slice (some ⟨b, o, none⟩) 1 c]).run Tryz.prog w = .ok (.tuple #[]) (w.setCells b o [I 0, I 0]) := by
  have hv : ∀ w, (zeroValue 98).run Tryz.prog w = .ok (.agg #[I 0, I 0]) w := fun w => by kernel_rfl
  have hst := run_storeCells_cells (P := Tryz.prog) b o [I 0, I 0] 0 w (by simpa using hc) (by simpa using hf) (by intro v hv'; simp at hv'; subst hv'; rfl)
  simp only [Nat.add_zero] at hst
  have hz : (Builtin.zeroCells (Value.agg #[I 0, I 0]).cells 1).toList = [I 0, I 0] := by simp [Builtin.zeroCells, Value.cells]; rfl
  simp [Builtin.clear_, run_underlying Tryz.underlying93, hv, hz, hst]
theorem segCells_cons (s : Sg) (l : List Sg) : segCells (s :: l) = I s.1 :: I s.2 :: segCells l := rfl
theorem segCells_one (l : List Sg) : ∀ u ∈ segCells l, u.oneCell' = true := by
  intro u hu
  obtain ⟨s, _, hs⟩ := List.mem_flatMap.1 hu
  simp at hs
  rcases hs with rfl | rfl <;> rfl
set_option maxHeartbeats 4000000 in
theorem sdelete_any (w : World) (s0 : Sg) (tl : List Sg) (g c : Nat) (cur : Array Value) (hg : w.heap[g]? = some (.cells cur 98 (0, 0))) (hcap : tl.length + 1 ≤ c) (hcm : c ≤ maxLen) (hsz : cur.size = c * 2)
    (htk : cur.toList.take ((tl.length + 1) * 2) = segCells (s0 :: tl)) (h1 : 1 ≤ tl.length) (hs : tl.length ≤ 1000) :
    Calls Tryz.prog 99 #[.slice (some ⟨g, 0, none⟩) (tl.length + 1) c, I 0, I 1] w fun e w' => e = .returned (.slice (some ⟨g, 0, none⟩) tl.length c) ∧
      (∃ cur', w'.heap[g]? = some (.cells cur' 98 (0, 0)) ∧ cur'.size = c * 2 ∧ cur'.toList.take (tl.length * 2) = segCells tl) ∧ Kept [g] w w' := by
  obtain ⟨k, hk⟩ : ∃ k, tl.length = k := ⟨_, rfl⟩
  obtain ⟨news, hnews⟩ : ∃ news, segCells tl = news := ⟨_, rfl⟩
  have hnl : news.length = k * 2 := by rw [← hnews, segCells_len, hk]
  have hcell : ∀ i, i < (k + 1) * 2 → cur[i]? = (I s0.1 :: I s0.2 :: news)[i]? := by
    intro i hi
    have := congrArg (fun l => l[i]?) htk
    rw [hk, List.getElem?_take_of_lt hi, Array.getElem?_toList, segCells_cons, hnews] at this
    exact this
  obtain ⟨i0, hi0, hz0, hz1, hz2⟩ := info_parts seg_info
  have s1 : Hid (news.length = k * 2) := Lib.hid hnl
  have s2 : Hid (∀ u ∈ news, u.oneCell' = true) := Lib.hid (by rw [← hnews]; exact segCells_one tl)
  have hsrc : Hid (∀ t u, news[t]? = some u → w.drew.cell? ((⟨g, 2, none⟩ : Addr).add t) = some u) := Lib.hid fun t u hu => by
    have ht := (List.getElem?_eq_some_iff.1 hu).1
    have : w.cell? ⟨g, 2 + t, none⟩ = some u := by
      rw [cell_at hg, hcell _ (by omega), show 2 + t = t + 1 + 1 by omega]
      simpa using hu
    rw [Addr.add_lit]
    exact this
  have s3 : Hid (∀ t, t < news.length → (w.drew.cell? ⟨g, 0 + 0 * 2 + t, none⟩).isSome = true ∧ w.drew.frozen? ⟨g, 0 + 0 * 2 + t, none⟩ = false) := Lib.hid fun t ht => by
    constructor
    · show (w.cell? _).isSome = true
      rw [cell_at hg]
      rw [Array.getElem?_eq_getElem (by omega)]
      rfl
    · exact free_at hg _
  obtain ⟨W1, hW1⟩ : ∃ W1, W1 = w.drew.setCells g (0 + 0 * 2) news := ⟨_, rfl⟩
  obtain ⟨cur1, r1, r2, r3, r4⟩ := setCells_row g 98 news (0 + 0 * 2) cur w.drew hg (by rw [hnl, hsz]; omega)
  rw [← hW1] at r1 r4
  have hcl : ∀ ty, (Builtin.clear_ #[93] ty #[.slice (some ⟨g, k * 2, none⟩) 1 (c - k)]).run Tryz.prog W1 = .ok (.tuple #[]) (W1.setCells g (k * 2) [I 0, I 0]) := fun ty => clear_seg W1 ty g (k * 2) (c - k) (fun j hj => by rw [cell_at r1, Array.getElem?_eq_getElem (by omega)]; rfl) (fun j hj => free_at r1 _)
  obtain ⟨cur2, q1, q2, q3, q4⟩ := setCells_row g 98 [I 0, I 0] (k * 2) cur1 W1 r1 (by rw [r2, hsz]; simp; omega)
  have FIN : Hid ((∃ cur', (W1.setCells g (k * 2) [I 0, I 0]).heap[g]? = some (.cells cur' 98 (0, 0)) ∧ cur'.size = c * 2 ∧ cur'.toList.take (k * 2) = news) ∧ Kept [g] w (W1.setCells g (k * 2) [I 0, I 0])) := Lib.hid ⟨⟨cur2, q1, by rw [q2, r2, hsz], by
    apply List.ext_getElem?
    intro i
    by_cases hi : i < k * 2
    · rw [List.getElem?_take_of_lt hi, Array.getElem?_toList, q3, if_neg (by omega), r3, if_pos (by omega)]
      rfl
    · rw [List.getElem?_eq_none (by simp; omega), List.getElem?_eq_none (by omega)]⟩, ((Kept.refl [g] w).drew).trans' (r4.trans' q4)⟩
  have HNW := Lib.hid hnews
  have hW : Hid (W1 = w.drew.setCells g (0 + 0 * 2) news) := Lib.hid hW1
  have hkI : (k : Int) ≤ 1000 := by omega
  have hk1 : (1 : Int) ≤ k := by omega
  have hc2 : ¬ c = 1 := by omega
  have hcI : (k : Int) + 1 ≤ c := by omega
  have hcz : (c : Int) ≤ 9223372036854775807 := by unfold maxLen at hcm; omega
  have hck : ¬ c = k := by omega
  have hkz : (1 : Int) ≤ (k : Int) + 1 := by omega
  have hkb : decide ((1 : Int) ≤ (k : Int) + 1) = true := decide_eq_true hkz
  have hkn : 1 ≤ k + 1 := by omega
  rw [hk] at *
  clear hcell hnl hnews htk hg hW1 r1 r2 r3 r4 q1 q2 q3 q4 hsz hk
  go_enter Tryz.func99, Tryz.ntmps99
  go_wp2_with (fail)
  go_region_law (refine step_append_room rfl (.tmp 22) (.tmp 25) 93 rfl 98 i0 2 Tryz.underlying93 hi0 hz1 g 0 0 c (by simp [Act.eval, Act.put]) ⟨g, 2, none⟩ k (c - 1) news (by simp [Act.eval, Act.put]) s1.out hsrc.out s2.out (by omega) s3.out ?_; rw [← hW.out])
  all_goals
    go_wp2
    go_ret
    exact ⟨rfl, by rw [HNW.out]; exact FIN.out.1, FIN.out.2⟩
/-! ### slices.Clone at the segments -/
set_option maxHeartbeats 4000000 in
theorem sclone_any (w : World) (segs : List Sg) (g c : Nat) (h1 : 1 ≤ segs.length) (hs : segs.length ≤ 1001)
    (hc : ∀ (i : Nat) (hi : i < segs.length), w.cell? ⟨g, i * 2, none⟩ = some (I segs[i].1) ∧ w.cell? ⟨g, i * 2 + 1, none⟩ = some (I segs[i].2)) :
    Calls Tryz.prog 100 #[.slice (some ⟨g, 0, none⟩) segs.length c] w fun e w' => (∃ g' c', e = .returned (.slice (some ⟨g', 0, none⟩) segs.length c') ∧ w.heap.size ≤ g' ∧ w'.ownsRow w.heap.size 98 2 (.slice (some ⟨g', 0, none⟩) segs.length c') segs.length (segCells segs)) ∧ Kept [] w w' := by
  obtain ⟨i0, hi, hz0, hz1, hz2⟩ := info_parts seg_info
  have hsrc : Hid (∀ j u, (segCells segs)[j]? = some u → (w.alloc (.cells #[] 98)).cell? ((⟨g, 0, none⟩ : Addr).add j) = some u) := Lib.hid fun j u hu => by
    have hj := (List.getElem?_eq_some_iff.1 hu).1
    rw [segCells_len] at hj
    rw [Addr.add_lit, Nat.zero_add]
    apply Lib.cell?_alloc_some
    have hk : j / 2 < segs.length := by omega
    obtain ⟨q1, q2⟩ := segCells_at segs (j / 2) hk
    obtain ⟨d1, d2⟩ := hc (j / 2) hk
    rcases Nat.mod_two_eq_zero_or_one j with h | h
    · rw [show j / 2 * 2 = j by omega] at q1 d1
      rw [q1] at hu; rw [d1]; exact hu
    · rw [show j / 2 * 2 + 1 = j by omega] at q2 d2
      rw [q2] at hu; rw [d2]; exact hu
  have H1 := Lib.hid (And.intro h1 hs)
  have hq := fun (w : World) (a : Option Addr) (n c n' c' : Nat) => Lib.run_eql_slice_nil (P := Tryz.prog) w 93 98 a n c n' c' Tryz.underlying93
  clear hc h1 hs
  go_enter Tryz.func100, Tryz.ntmps100
  go_wp2_with (first
    | (at_builtin
       refine wpList_append_lies _ rfl (.tmp 5) (.tmp 6) _ rfl w.heap.size 98 i0 (.agg #[.int .i64 0, .int .i64 0]) 2 16 Tryz.underlying93 hi hz0 hz1 hz2 rfl (by decide) (.slice (some ⟨w.heap.size, 0, none⟩) 0 0) 0 [] rfl ⟨rfl, .inr ⟨w.heap.size, 0, #[], rfl, Nat.le_refl _, heap_new w _, Nat.le_refl _, Nat.zero_le _, rfl, rfl⟩⟩ ⟨g, 0, none⟩ segs.length c (segCells segs) rfl (segCells_len segs) hsrc.out (segCells_one segs) (by have := H1.out; omega) (by have := H1.out; unfold maxLen; omega) (by have := H1.out; omega) (by rw [World.size_alloc]; omega) _ rfl ?_
       intro g cap wa own1 gr1 hat hlt
       have kg := kept_grown gr1
       have HA := Lib.hid (And.intro own1 (And.intro hat kg))
       clear own1 gr1 hat hlt kg))
  go_ret
  obtain ⟨own1, hat, kg⟩ := HA.out
  rw [Nat.zero_add] at *
  rw [List.nil_append] at own1
  refine ⟨⟨_, _, rfl, ?_, own1⟩, ((Kept.refl [] w).alloc _).new kg ?_⟩
  · exact (own_lt own1 _ rfl).1
  · intro x hx
    have : x = w.heap.size := by simpa [Value.ownBlock] using hx
    omega
/-! ### DropOldest -/
set_option maxHeartbeats 4000000 in
theorem drop_any (w : World) (lb pb fb bb cb fs n : Nat) (v : Value) (s0 : Sg) (tl : List Sg) (f : Fl) (h : LgAt w lb pb fb bb cb fs n v (s0 :: tl) f false) (hd : f.dead = false) (ha : f.armed = 0) (hb : s0.1 < n) (h1 : 1 ≤ tl.length) (hs : tl.length ≤ 1000) :
    Calls Tryz.prog 79 #[Ptr lb, I 0] w (LgPost (I 0) lb pb fb bb cb fs n v w tl { f.stepped with bs := eraseL f.bs (fs + s0.1), cs := f.cs.set (fs + s0.1) (wrap64 (numAt f.cs (fs + s0.1) + 1)) } false) := by
  have HE := Lib.hid (fun W (k : Kept [] w W) => perase_any W pb fb bb cb fs n f (h.same k).pt hd ha s0.1 hb)
  obtain ⟨f1, hf1⟩ : ∃ f1 : Fl, ({ f.stepped with bs := eraseL f.bs (fs + s0.1), cs := f.cs.set (fs + s0.1) (wrap64 (numAt f.cs (fs + s0.1) + 1)) } : Fl) = f1 := ⟨_, rfl⟩
  rw [hf1] at HE ⊢
  have hF : Hid (f1.dead = false) := Lib.hid (by rw [← hf1]; exact hd)
  obtain ⟨g, c, hv, hcl⟩ := h.slice (by simp)
  obtain ⟨c0, c1, c2⟩ := h.cells
  obtain ⟨e0, e1⟩ := hcl 0 (by simp)
  simp only [List.getElem_cons_zero, Nat.zero_mul] at e0 e1
  subst hv
  obtain ⟨k, hk⟩ : ∃ k, tl.length = k := ⟨_, rfl⟩
  simp only [List.length_cons, hk] at c1
  have hbI : (s0.1 : Int) ≤ 256 := by have := h.pt.bound.1; omega
  have hkI : (k : Int) ≤ 1000 := by omega
  have hk1 : (1 : Int) ≤ k := by omega
  have hk2 : ((k : Int) + 1 == 1) = false := by simp; omega
  have H := Lib.hid h
  have HK := Lib.hid hk
  obtain ⟨b0, hb0⟩ : ∃ b0, s0.1 = b0 := ⟨_, rfl⟩
  rw [hb0] at e0 HE hbI
  clear h hd ha hb hf1 hcl hb0 h1 hs hk
  go_enter Tryz.func79, Tryz.ntmps79
  go_upto_region 5 with (fail)
  go_cut [5] from 18 to 32 (fun v5 wx => v5 = I 0 ∧ LgAt wx lb pb fb bb cb fs n (.slice (some ⟨g, 0, none⟩) (s0 :: tl).length c) (s0 :: tl) f1 false ∧ Kept (LgT lb fb bb cb (.slice (some ⟨g, 0, none⟩) (s0 :: tl).length c)) w wx)
  case first =>
    go_region_with (first
      | (go_at_call 91; (with_reducible refine (HE.out _ (Kept.refl [] w).drew).mono ?_); rintro e w3 ⟨rfl, h3, k3⟩)
      | (go_at_call 80; (with_reducible refine (ltold_any _ lb pb fb bb cb fs n _ (s0 :: tl) f1 false (H.out.drew.turned k3 h3) 0).mono ?_); rintro e w4 ⟨rfl, h4, k4⟩))
    all_goals
      go_wp2
      go_meet
      exact ⟨rfl, h4, (LgT.sub0 (Kept.refl [] w).drew).trans' ((LgT.sub3 k3).trans' (LgT.sub1 k4))⟩
  case rest =>
  obtain ⟨rfl, h2, k2⟩ := hcut
  clear c0 c1 c2 e0 e1
  obtain ⟨c0, c1, c2⟩ := h2.cells
  have HL2 := Lib.hid (And.intro h2 k2)
  have h2own := h2.own
  obtain ⟨gg, cc, hvv, hcl2⟩ := h2.slice (by simp)
  clear h2 k2
  have hgg : gg = g := by cases hvv; rfl
  subst hgg
  clear hvv
  have hT := Lib.hid (fun W (k : Kept [] wc W) => (HL2.out.1.same k).cells)
  have hpos : 1 ≤ (s0 :: tl).length := by simp
  have hsm : (s0 :: tl).length ≤ 1001 := by have := HK.out; simp; omega
  have HCL := Lib.hid (sclone_any wc (s0 :: tl) gg c hpos hsm hcl2)
  have hlt := HL2.out.1.lt
  have hll : (s0 :: tl).length = k + 1 := by have := HK.out; simp [this]
  rw [hll] at HCL c1
  have HLL := Lib.hid hll
  clear hcl2 hpos hsm hll h2own
  go_wp2_with (fail)
  refine HCL.out.mono ?_
  rintro e w3 ⟨⟨g', c', rfl, hg', own3⟩, k3⟩
  obtain ⟨gq, capq, curq, hvq, hbq, hgq, hnq, hcq, hszq, htq⟩ : ∃ g cap cur, Value.slice (some ⟨g', 0, none⟩) (k + 1) c' = .slice (some ⟨g, 0, none⟩) (k + 1) cap ∧ wc.heap.size ≤ g ∧ w3.heap[g]? = some (.cells cur 98 (0, 0)) ∧ k + 1 ≤ cap ∧ cap ≤ maxLen ∧ cur.size = cap * 2 ∧ cur.toList.take ((k + 1) * 2) = segCells (s0 :: tl) := by
    rcases own3.2 with ⟨h0, _⟩ | h
    · cases h0
    · exact h
  obtain ⟨rfl, rfl⟩ : g' = gq ∧ c' = capq := by injection hvq with a b c; injection a with a; injection a with a; exact ⟨a, c⟩
  have HDL := Lib.hid (sdelete_any w3 s0 tl g' c' curq hgq (by rw [HK.out]; exact hnq) hcq hszq (by rw [HK.out]; exact htq) (by rw [HK.out]; omega) (by rw [HK.out]; omega))
  rw [HK.out] at HDL
  have K3 := Lib.hid (And.intro k3 (And.intro hg' (And.intro hnq hcq)))
  clear own3 hvq hgq hnq hcq hszq htq hbq hg' k3
  go_wp2_with (fail)
  refine HDL.out.mono ?_
  rintro e w4 ⟨rfl, ⟨cur4, hg4, hsz4, htk4⟩, k4⟩
  have k34 : Kept [] wc w4 := K3.out.1.new k4 (by intro x hx; simp at hx; have := K3.out.2.1; omega)
  obtain ⟨f0, f1', f2⟩ := hT.out w4 k34
  have hl4 := HL2.out.1.same k34
  have hfr := hl4.free
  have K4 := Lib.hid (And.intro hl4 (And.intro k34 (And.intro hg4 (And.intro hsz4 htk4))))
  clear hg4 hsz4 htk4 k4 hl4 k34 c0 c1 c2
  go_wp2_with (fail)
  go_ret
  obtain ⟨hl4, k34, hg4, hsz4, htk4⟩ := K4.out
  have own4 : w4.ownsRow (lb + 1) 98 2 (.slice (some ⟨g', 0, none⟩) k c') tl.length (segCells tl) :=
    ⟨segCells_len tl, .inr ⟨g', c', cur4, by rw [HK.out], by have := K3.out.2.1; omega, hg4, by rw [HK.out]; have := K3.out.2.2.1; omega, K3.out.2.2.2, hsz4, by rw [HK.out]; exact htk4⟩⟩
  refine ⟨rfl, .slice (some ⟨g', 0, none⟩) k c', ?_, hl4.setSegs own4, HL2.out.2.trans' ((LgT.sub0 k34).trans' (LgT.sub1 ((Kept.refl _ _).setCell (.inl (by simp)) _)))⟩
  intro q hq
  have hqg : g' = q := by simpa [Value.ownBlock] using hq
  subst hqg
  right
  have := K3.out.2.1
  have := HL2.out.2.size
  omega
theorem dropOldest_any (w : World) (lb pb fb bb cb fs n : Nat) (v : Value) (s0 : Sg) (tl : List Sg) (f : Fl) (h : LgAt w lb pb fb bb cb fs n v (s0 :: tl) f false) (hd : f.dead = false) (ha : f.armed = 0) (hb : s0.1 < n) (h1 : 1 ≤ tl.length) (hs : tl.length ≤ 1000) :
    Calls Tryz.prog 58 #[Ptr lb] w (LgPost (I 0) lb pb fb bb cb fs n v w tl { f.stepped with bs := eraseL f.bs (fs + s0.1), cs := f.cs.set (fs + s0.1) (wrap64 (numAt f.cs (fs + s0.1) + 1)) } false) := by
  have HD := Lib.hid (drop_any w lb pb fb bb cb fs n v s0 tl f h hd ha hb h1 hs)
  clear h hd ha hb h1 hs
  go_enter Tryz.func58, Tryz.ntmps58
  go_wp2_with (fail)
  refine HD.out.mono ?_
  rintro e w1 ⟨rfl, h1⟩
  have H1 := Lib.hid h1
  clear h1
  go_wp2_with (fail)
  go_ret
  exact ⟨rfl, H1.out⟩

end Go.Proofs.YtncdfaocemfgfaaGreat
