/- Walks and lemmas on the program of this seat, used by its statements; each theorem bears its own conditions. -/
import Derived.Test.YteplbljjlbdhaaaGreatDoorZ42
namespace Go.Proofs.YteplbljjlbdhaaaGreatDoor
open Go.RowKit
set_option linter.unusedVariables false
set_option linter.unusedSimpArgs false
set_option linter.unusedSectionVars false
set_option maxHeartbeats 16000000
set_option maxRecDepth 100000
theorem step_app_own {ops : Array Oper} {o : Oper} {a : Act} {w : World} {K : Act → World → Prop} {Q : Exit → Act → World → Prop} {E : Prop} (hg : o.guard = none) (s x : Operand) (t : TypeId)
  (ho : o.op = .call { callee := .builtin .append, args := #[s, x], argTypes := #[t, t] })
  (base : Nat) (e : TypeId) (i : TypeInfo) (z : Value) (size bytes : Nat) (ht : Tryz.prog.underlying t = some (.slice e)) (hi : Tryz.prog.info? e = some i) (hz : i.zero = some z)
  (hsize : i.size = size) (hby : i.bytes = bytes) (hzs : z.cells.size = size) (hsz : 0 < size)
  (v : Value) (n : Nat) (xs : List Value) (hs : a.eval s = v) (hown : w.ownsRow base e size v n xs)
  (ad : Addr) (m c : Nat) (news : List Value) (hx : a.eval x = .slice (some ad) m c) (hl : news.length = m * size) (hnews : ∀ j u, news[j]? = some u → w.cell? (ad.add j) = some u) (h1 : ∀ u ∈ news, u.oneCell' = true)
  (h63 : n + m ≤ maxLen) (hbytes : (n + m) * bytes ≤ 140737488355328) (hbase : base ≤ w.heap.size)
  (h : ∀ v' w', w'.ownsRow base e size v' (n + m) (xs ++ news) → w.grownBy w' v.ownBlock → (v' = .slice none 0 0 ↔ v = .slice none 0 0 ∧ m = 0) → K (a.put o.dst v') w') :
  if Region.wanted o (yielded ops a.tmps) = true then Oper.wp Tryz.prog o a w K Q else E := by
 obtain ⟨v', w', hr, h2, h3, h4⟩ := run_append_own (P := Tryz.prog) w base t o.type e i z size bytes ht hi hz hsize hby hzs hsz v n xs hown ad m c news hl hnews h1 h63 hbytes hbase
 exact step_append_runI hg s x t t ho v _ hs hx hr (h v' w' h2 h3 h4)
theorem step_strs {ops : Array Oper} {o : Oper} {a : Act} {w : World} {K : Act → World → Prop} {Q : Exit → Act → World → Prop} {E : Prop} (hg : o.guard = none) (s x : Operand)
  (ho : o.op = .call { callee := .builtin .append, args := #[s, x], argTypes := #[53, 53] })
  (base : Nat) (v : Value) (n : Nat) (ys : List Nm) (hs : a.eval s = v) (hn : ys.length = n) (hown : w.ownsRow base 9 1 v n (ys.map S))
  (b off m c : Nat) (zs : List Nm) (hm : zs.length = m) (hx : a.eval x = .slice (some ⟨b, off, none⟩) m c) (hz : ∀ i (hi : i < zs.length), w.cell? ⟨b, off + i, none⟩ = some (S zs[i]))
  (hb : n + m ≤ 100000) (hbase : base ≤ w.heap.size)
  (h : ∀ p' c' w', w'.ownsRow base 9 1 (.slice p' (n + m) c') (n + m) ((ys ++ zs).map S) → w.grownBy w' v.ownBlock → K (a.put o.dst (.slice p' (n + m) c')) w') :
  if Region.wanted o (yielded ops a.tmps) = true then Oper.wp Tryz.prog o a w K Q else E := by
 obtain ⟨i0, hi, hz0, hz1, hz2⟩ := info_parts str_info
 subst hn
 subst hm
 refine step_app_own hg s x 53 ho base 9 i0 (.string ⟨#[]⟩) 1 16 Tryz.underlying53 hi hz0 hz1 hz2 rfl (by decide) v _ _ hs hown ⟨b, off, none⟩ _ c (zs.map S) hx (by rw [List.length_map]; omega) (fun j u hu => ?_) (by intro u hu; obtain ⟨y, _, rfl⟩ := List.mem_map.1 hu; rfl) (by unfold maxLen; omega) (by omega) hbase (fun v' w' own gr _ => ?_)
 ·rw [List.getElem?_map] at hu
  cases hj : zs[j]? with
  | none => rw [hj] at hu; cases hu
  | some y =>
   obtain ⟨hjl, hjy⟩ := List.getElem?_eq_some_iff.1 hj
   rw [hj] at hu
   have := hz j hjl
   rw [hjy] at this
   cases hu
   rw [Addr.add_lit]
   exact this
 ·rw [← List.map_append] at own
  obtain ⟨p', c', rfl⟩ := own_form own
  exact h p' c' w' own gr
theorem own_lower {w : World} {B B' : Nat} {t : TypeId} {size : Nat} {v : Value} {n : Nat} {xs : List Value} (h : w.ownsRow B t size v n xs) (hB : B' ≤ B) : w.ownsRow B' t size v n xs := by
 refine ⟨h.1, ?_⟩
 rcases h.2 with h0 | ⟨g, cap, cur, e, hb, r⟩
 ·exact .inl h0
 ·exact .inr ⟨g, cap, cur, e, Nat.le_trans hB hb, r⟩
theorem own_some {w : World} {B : Nat} {t : TypeId} {size : Nat} {p : Option Addr} {n c : Nat} {xs : List Value} (h : w.ownsRow B t size (.slice p n c) n xs) (hn : 0 < n) : ∃ g, p = some ⟨g, 0, none⟩ := by
 rcases h.2 with ⟨_, h0⟩ | ⟨g, cap, cur, e, _⟩
 ·omega
 ·cases e; exact ⟨g, rfl⟩
theorem insE_pos (x : En) : ∀ l : List En, (insE l x).map (·.1) = (l.map (·.1)).take (posE l x.1) ++ x.1 :: (l.map (·.1)).drop (posE l x.1)
 | [] => rfl
 | y :: t => by
  unfold insE posE
  by_cases h : ltB y.1 x.1 = true
  ·rw [if_pos h, if_pos h]
   simp [insE_pos x t]
  ·rw [if_neg h, if_neg h]
   simp
theorem kids_take (E : List Nd) (k : Nat) (hk : k < E.length) (hp : E[k].path ≠ []) (p : List Nm) : kids (E.take (k + 1)) p = if E[k].path.dropLast = p then insE (kids (E.take k) p) (E[k].path.getLastD [], E[k].num) else kids (E.take k) p := by
 have e : E.take (k + 1) = E.take k ++ [E[k]] := by rw [List.take_add_one, List.getElem?_eq_getElem hk]; rfl
 rw [e, kids_snoc]
 have := kidOf_new hp E[k].num E[k].dir E[k].data p
 rw [show (⟨E[k].path, E[k].num, E[k].dir, E[k].data⟩ : Nd) = E[k] from rfl] at this
 rw [this]
 by_cases h : E[k].path.dropLast = p
 ·rw [if_pos h, if_pos h]
 ·rw [if_neg h, if_neg h]
abbrev NmOwn (w : World) (lo g c : Nat) (xs : List Nm) : Prop := w.ownsRow lo 9 1 (.slice (some ⟨g, 0, none⟩) xs.length c) xs.length (xs.map S)
theorem rnames_any (w : World) (mb n given g0 : Nat) (v : Value) (E : List Nd) (h : FDAt w mb n given v E) (hE : E.length ≤ 1000) (hw : WF g0 E) (p : List Nm) (hp : PV p) :
    Calls Tryz.prog 41 #[Ptr mb, S (pathT p)] w fun e w' => (∃ lv, e = .returned lv ∧ StrsAt w' lv ((kids E p).map (·.1))) ∧ Kept [] w w' := by
  obtain ⟨i0, hi, hz0, hz1, hz2⟩ := info_parts str_info
  obtain ⟨_, _, c2⟩ := h.cells
  obtain ⟨lp, lc, lb, rfl, hcap, hlp, hcells⟩ := h.2
  have HC := Lib.hid (And.intro hlp (And.intro hcells (And.intro hw (And.intro hp c2))))
  have hEI : (E.length : Int) ≤ 1000 := by omega
  obtain ⟨pt, hpt⟩ : ∃ pt, pathT p = pt := ⟨_, rfl⟩
  have HPT := Lib.hid hpt
  have HI := Lib.hid (And.intro hi (And.intro hz0 (And.intro hz1 hz2)))
  have HO := Lib.hid (own_empty w 9)
  rw [hpt]
  clear h hcap hlp hcells hw hp hpt hi hz0 hz1 hz2 c2
  go_enter Tryz.func41, Tryz.ntmps41
  go_wp2_with (fail)
  go_loopw [5, 6] (fun v5 v6 wr => ∃ (k g c : Nat) (xs : List Nm), k ≤ E.length ∧ v6 = I k ∧ v5 = .slice (some ⟨g, 0, none⟩) xs.length c ∧ xs.length ≤ k ∧ xs = (kids (E.take k) p).map (·.1) ∧ NmOwn wr w.heap.size g c xs ∧ Kept [] w wr) (fun _ v6 _ => E.length - (intOf v6).toNat)
  case atStart => exact ⟨0, w.heap.size, 0, [], by omega, rfl, rfl, by simp, rfl, HO.out, (Kept.refl _ _).alloc _⟩
  case round =>
    obtain ⟨k, g, c, xs, hk, rfl, rfl, hxk, hxs, own, kr⟩ := hrel
    have e2 := kr.cellOf HC.out.2.2.2.2
    have hxI : (xs.length : Int) ≤ 1000 := by omega
    by_cases hlt : k < E.length
    · have hltI : (k : Int) < E.length := by omega
      obtain ⟨hlp, hcells, hw, hp, _⟩ := HC.out
      have hpe := hlp (by intro h; rw [h] at hlt; simp at hlt)
      subst hpe
      obtain ⟨d0, -, -⟩ := hcells k hlt
      have e0 := kr.cellOf d0
      have hmem := List.getElem_mem hlt
      have hpv := hw.pv hmem
      have hne := (hw.form _ hmem).1
      have HU := Lib.hid (rup_any E[k].path hpv hne wr)
      have hkt := kids_take E k hlt hne p
      have hqq := pathT_eq hpv.front hp
      rw [HPT.out] at hqq
      obtain ⟨t0, ht0⟩ : ∃ t0, pathT E[k].path = t0 := ⟨_, rfl⟩
      obtain ⟨t1, ht1⟩ : ∃ t1, pathT E[k].path.dropLast = t1 := ⟨_, rfl⟩
      obtain ⟨nm, hnm⟩ : ∃ nm, E[k].path.getLastD [] = nm := ⟨_, rfl⟩
      rw [ht0] at e0 HU
      rw [ht1] at HU hqq
      rw [hnm] at HU hkt
      have HJ := Lib.hid (And.intro own (And.intro kr (And.intro hxs (And.intro hkt hxk))))
      by_cases hpp : E[k].path.dropLast = p
      case neg =>
        have hb : (t1 == pt) = false := by rw [hqq, decide_eq_false hpp]
        have HX : Hid (kids (E.take (k + 1)) p = kids (E.take k) p) := Lib.hid (by rw [hkt, if_neg hpp])
        clear own kr hxs hkt hlp hcells hw hp d0 hmem hpv hne hqq ht0 ht1 hnm hpp hxk
        go_wp2_with (fail)
        refine HU.out.mono ?_
        rintro e w2 ⟨rfl, k2⟩
        have K2 := Lib.hid k2
        clear k2
        go_wp2_with (fail)
        go_roundw
        case rel =>
          obtain ⟨own, kr, hxs, hkt, hxk⟩ := HJ.out
          exact ⟨k + 1, g, c, xs, by omega, by go_num, rfl, by omega, by rw [HX.out]; exact hxs, own_kept own K2.out (by simp), kr.trans' K2.out⟩
        case measure => simp [intOf]; omega
      case pos =>
      have hb : (t1 == pt) = true := by rw [hqq, decide_eq_true hpp]
      obtain ⟨KL, hKL⟩ : ∃ l, kids (E.take k) p = l := ⟨_, rfl⟩
      have hsl : SortE KL := by rw [← hKL]; exact sort_kids (List.Pairwise.sublist (List.take_sublist _ _) hw.paths) p
      obtain ⟨P0, hP0⟩ : ∃ P0, posE KL nm = P0 := ⟨_, rfl⟩
      have hxl : xs.length = KL.length := by rw [hxs, hKL, List.length_map]
      have hP0l : P0 ≤ xs.length := by rw [hxl, ← hP0]; exact posE_le nm KL
      have hltj : ∀ j (hj : j < xs.length), ltB xs[j] nm = decide (j < P0) := fun j hj => by
        have e1 : xs[j] = (KL[j]'(by omega)).1 := by
          have : xs[j]? = ((KL.map (·.1))[j]?) := by rw [hxs, hKL]
          rw [List.getElem?_eq_getElem hj, List.getElem?_map, List.getElem?_eq_getElem (by omega)] at this
          exact Option.some.inj this
        rw [e1, ← hP0]
        by_cases hjp : j < posE KL nm
        · rw [decide_eq_true hjp]; exact posE_lt j (by omega) hjp
        · rw [decide_eq_false hjp]; exact posE_ge hsl j (by omega) (by omega)
      have hins : (kids (E.take (k + 1)) p).map (·.1) = xs.take P0 ++ nm :: xs.drop P0 := by rw [hkt, if_pos hpp, hKL, insE_pos, hP0, hxs, hKL]
      have HX := Lib.hid (And.intro hltj (And.intro hins hP0l))
      clear own kr hxs hkt hlp hcells hw hp d0 hmem hpv hne hqq ht0 ht1 hnm hpp hxk hKL hsl hP0 hxl hP0l hltj hins
      go_wp2_with (fail)
      refine HU.out.mono ?_
      rintro e w2 ⟨rfl, k2⟩
      have K2 := Lib.hid k2
      clear k2
      go_wp2_with (fail)
      go_loop [9] (fun v9 => ∃ j : Nat, j ≤ P0 ∧ v9 = I j) (fun v9 => P0 - (intOf v9).toNat)
      case atStart => exact ⟨0, by omega, rfl⟩
      case round =>
        obtain ⟨j, hj, rfl⟩ := hrel
        have own2 : NmOwn w2 w.heap.size g c xs := own_kept HJ.out.1 K2.out (by simp)
        obtain ⟨hltj, hins, hP0l⟩ := HX.out
        have hcx : ∀ i (hi : i < xs.length), w2.cell? ⟨g, i, none⟩ = some (S xs[i]) := fun i hi => by
          rcases own2.2 with ⟨h0, _⟩ | ⟨g', c', cur, hv, hb2, hg2, hn2, hc2, hsz, ht⟩
          · cases h0
          · cases hv
            rw [cell_at hg2]
            have := congrArg (fun l => l[i]?) ht
            rw [List.getElem?_take_of_lt (by omega), Array.getElem?_toList] at this
            rw [this, List.getElem?_map, List.getElem?_eq_getElem hi]
            rfl
        by_cases hjp : j < P0
        · have hjx : (j : Int) < xs.length := by omega
          have hjx2 : j < xs.length := by omega
          have c0 := hcx j hjx2
          have hb2 := hltj j hjx2
          rw [decide_eq_true hjp] at hb2
          obtain ⟨xj, hxj⟩ : ∃ xj, xs[j] = xj := ⟨_, rfl⟩
          rw [hxj] at c0 hb2
          clear hltj hins hP0l own2 hcx hxj
          go_wp2_with (fail)
          go_round
          case rel => exact ⟨j + 1, by omega, by go_num⟩
          case measure => simp [intOf]; omega
        · obtain rfl : j = P0 := by omega
          have hjn : (j : Int) ≤ xs.length := by omega
          obtain ⟨hi, hz0, hz1, hz2⟩ := HI.out
          have hcap : xs.length ≤ c := by
            rcases own2.2 with ⟨h0, _⟩ | ⟨g', c', cur, hv, hb2, hg2, hn2, hc2, hsz, ht⟩
            · cases h0
            · cases hv; exact hn2
          have hcI : (xs.length : Int) ≤ c := by omega
          have hcJ : (j : Int) ≤ c := by omega
          have hA := heap_new w2 (Obj.cells #[] 9)
          have HCX := Lib.hid hcx
          have HSZ := Lib.hid (Nat.le_trans HJ.out.2.1.size K2.out.size)
          have HW2 := Lib.hid own2
          have HH := Lib.hid (And.intro hins hP0l)
          have hend : (xs.length : Int) ≤ j ∨ ((j : Int) < xs.length ∧ ∃ hj : j < xs.length, ltB xs[j] nm = false) := by
            by_cases h : j < xs.length
            · right; exact ⟨by omega, h, by rw [hltj j h, decide_eq_false hjp]⟩
            · left; omega
          clear hltj hins hP0l own2 hjp hj hcx hA
          rcases hend with hjx | ⟨hjx, hj2, hb2⟩
          · by_cases hcj : c = j
            · have hcj2 : xs.length ≤ j := by omega
              go_wp2_with (fail)
              have KK0 := Lib.hid (Kept.refl [] w2)
              go_region_law (first
                | (refine step_strs rfl (.tmp 49) (.tmp 52) rfl w2.heap.size _ 0 [] (by rfl) rfl (by first | exact own_kept (T := []) (own_empty w2 9) (by first | exact Kept.refl _ _ | exact (Kept.refl _ _).drew | exact (Kept.refl _ _).alloc _ | exact ((Kept.refl _ _).alloc _).drew | exact ((Kept.refl _ _).drew).alloc _ | exact ((Kept.refl _ _).alloc _).alloc _ | exact (((Kept.refl _ _).alloc _).alloc _).drew | exact ((Kept.refl _ _).drew).drew | exact (((Kept.refl _ _).alloc _).drew).alloc _ | exact ((((Kept.refl _ _).drew).alloc _)).drew) (by simp) | (have hoe := own_empty (w2.alloc (Obj.cells #[S nm] 9)) 9; rw [World.size_alloc] at hoe; exact own_lower (own_kept (T := []) hoe (by first | exact Kept.refl _ _ | exact (Kept.refl _ _).drew | exact (Kept.refl _ _).alloc _ | exact ((Kept.refl _ _).alloc _).drew | exact ((Kept.refl _ _).drew).alloc _ | exact ((Kept.refl _ _).alloc _).alloc _ | exact (((Kept.refl _ _).alloc _).alloc _).drew | exact ((Kept.refl _ _).drew).drew | exact (((Kept.refl _ _).alloc _).drew).alloc _ | exact ((((Kept.refl _ _).drew).alloc _)).drew) (by simp)) (by omega))) g 0 j _ (xs.take j) (by rw [List.length_take]; omega) (by rfl) (by intro i hi; rw [Nat.zero_add, List.getElem_take]; exact (show Kept [] w2 _ from by first | exact KK0.out | exact (KK0.out).drew | exact (KK0.out).alloc _ | exact ((KK0.out).alloc _).drew | exact ((KK0.out).drew).alloc _ | exact ((KK0.out).alloc _).alloc _ | exact (((KK0.out).alloc _).alloc _).drew | exact ((KK0.out).drew).drew | exact (((KK0.out).alloc _).drew).alloc _ | exact ((((KK0.out).drew).alloc _)).drew).cellOf (HCX.out i (by rw [List.length_take] at hi; omega))) (by omega) (show Kept [] w2 _ from by first | exact KK0.out | exact (KK0.out).drew | exact (KK0.out).alloc _ | exact ((KK0.out).alloc _).drew | exact ((KK0.out).drew).alloc _ | exact ((KK0.out).alloc _).alloc _ | exact (((KK0.out).alloc _).alloc _).drew | exact ((KK0.out).drew).drew | exact (((KK0.out).alloc _).drew).alloc _ | exact ((((KK0.out).drew).alloc _)).drew).size ?_
                   intro p1 c1 wa own1 gr1
                   have KK1 := Lib.hid ((show Kept [] w2 _ from by first | exact KK0.out | exact (KK0.out).drew | exact (KK0.out).alloc _ | exact ((KK0.out).alloc _).drew | exact ((KK0.out).drew).alloc _ | exact ((KK0.out).alloc _).alloc _ | exact (((KK0.out).alloc _).alloc _).drew | exact ((KK0.out).drew).drew | exact (((KK0.out).alloc _).drew).alloc _ | exact ((((KK0.out).drew).alloc _)).drew).new (kept_grown gr1) (by intro q hq; have hq2 : Value.ownBlock _ = some q := Option.mem_toList.1 hq; first | (cases hq2; exact Nat.le_refl _) | (cases hq2; exact Nat.le_succ _) | (cases hq2; rw [World.size_alloc]; omega)))
                   have HB1 := Lib.hid (fun b hb h => (kept_grown gr1).at (k := b) (o := Obj.cells #[S nm] 9) h hb)
                   rw [Nat.zero_add, List.nil_append] at own1
                   have HG1 := Lib.hid (And.intro own1 (fun q hq => (own_lt own1 q hq).1))
                   clear own1 gr1)
                | (refine step_strs rfl (.tmp 53) (.tmp 55) rfl w2.heap.size _ _ (xs.take j) (by rfl) (by rw [List.length_take]; omega) (own_kept (T := []) HG1.out.1 (by first | exact Kept.refl _ _ | exact (Kept.refl _ _).drew | exact (Kept.refl _ _).alloc _ | exact ((Kept.refl _ _).alloc _).drew | exact ((Kept.refl _ _).drew).alloc _ | exact ((Kept.refl _ _).alloc _).alloc _ | exact (((Kept.refl _ _).alloc _).alloc _).drew | exact ((Kept.refl _ _).drew).drew | exact (((Kept.refl _ _).alloc _).drew).alloc _ | exact ((((Kept.refl _ _).drew).alloc _)).drew) (by simp)) _ 0 1 _ [nm] rfl (by rfl) (by intro i hi; (obtain rfl : i = 0 := by simp at hi; omega); first | exact cell_at ((show Kept [] _ _ from (by first | exact Kept.refl _ _ | exact (Kept.refl _ _).drew | exact (Kept.refl _ _).alloc _ | exact ((Kept.refl _ _).alloc _).drew | exact ((Kept.refl _ _).drew).alloc _ | exact ((Kept.refl _ _).alloc _).alloc _ | exact (((Kept.refl _ _).alloc _).alloc _).drew | exact ((Kept.refl _ _).drew).drew | exact (((Kept.refl _ _).alloc _).drew).alloc _ | exact ((((Kept.refl _ _).drew).alloc _)).drew)).at (heap_new _ (Obj.cells #[S nm] 9)) (by simp)) 0 | (have hcl := cell_at ((show Kept [] wa _ from (by first | exact Kept.refl _ _ | exact (Kept.refl _ _).drew | exact (Kept.refl _ _).alloc _ | exact ((Kept.refl _ _).alloc _).drew | exact ((Kept.refl _ _).drew).alloc _ | exact ((Kept.refl _ _).alloc _).alloc _ | exact (((Kept.refl _ _).alloc _).alloc _).drew | exact ((Kept.refl _ _).drew).drew | exact (((Kept.refl _ _).alloc _).drew).alloc _ | exact ((((Kept.refl _ _).drew).alloc _)).drew)).at (HB1.out _ (by intro hm; have h3 := Option.some.inj (show some _ = some _ from Option.mem_toList.1 hm); first | (simp at h3; done) | (simp only [World.size_alloc] at h3; omega)) (heap_new _ (Obj.cells #[S nm] 9))) (by simp)) 0; (try simp only [World.size_alloc] at hcl ⊢); exact hcl) | (have hcl := cell_at ((show Kept [] wa _ from (by first | exact Kept.refl _ _ | exact (Kept.refl _ _).drew | exact (Kept.refl _ _).alloc _ | exact ((Kept.refl _ _).alloc _).drew | exact ((Kept.refl _ _).drew).alloc _ | exact ((Kept.refl _ _).alloc _).alloc _ | exact (((Kept.refl _ _).alloc _).alloc _).drew | exact ((Kept.refl _ _).drew).drew | exact (((Kept.refl _ _).alloc _).drew).alloc _ | exact ((((Kept.refl _ _).drew).alloc _)).drew)).at (HB1.out _ (by intro hm; have h3 := Option.some.inj (show some _ = some _ from Option.mem_toList.1 hm); first | (simp at h3; done) | (simp only [World.size_alloc] at h3; omega)) ((show Kept [] _ _ from (by first | exact Kept.refl _ _ | exact (Kept.refl _ _).drew | exact (Kept.refl _ _).alloc _ | exact ((Kept.refl _ _).alloc _).drew | exact ((Kept.refl _ _).drew).alloc _ | exact ((Kept.refl _ _).alloc _).alloc _ | exact (((Kept.refl _ _).alloc _).alloc _).drew | exact ((Kept.refl _ _).drew).drew | exact (((Kept.refl _ _).alloc _).drew).alloc _ | exact ((((Kept.refl _ _).drew).alloc _)).drew)).at (heap_new w2 (Obj.cells #[S nm] 9)) (by simp))) (by simp)) 0; (try simp only [World.size_alloc] at hcl ⊢); exact hcl) | (have hcl := cell_at ((show Kept [] wa _ from (by first | exact Kept.refl _ _ | exact (Kept.refl _ _).drew | exact (Kept.refl _ _).alloc _ | exact ((Kept.refl _ _).alloc _).drew | exact ((Kept.refl _ _).drew).alloc _ | exact ((Kept.refl _ _).alloc _).alloc _ | exact (((Kept.refl _ _).alloc _).alloc _).drew | exact ((Kept.refl _ _).drew).drew | exact (((Kept.refl _ _).alloc _).drew).alloc _ | exact ((((Kept.refl _ _).drew).alloc _)).drew)).at (HB1.out _ (by intro hm; have h3 := Option.some.inj (show some _ = some _ from Option.mem_toList.1 hm); first | (simp at h3; done) | (simp only [World.size_alloc] at h3; omega)) ((show Kept [] _ _ from (by first | exact Kept.refl _ _ | exact (Kept.refl _ _).drew | exact (Kept.refl _ _).alloc _ | exact ((Kept.refl _ _).alloc _).drew | exact ((Kept.refl _ _).drew).alloc _ | exact ((Kept.refl _ _).alloc _).alloc _ | exact (((Kept.refl _ _).alloc _).alloc _).drew | exact ((Kept.refl _ _).drew).drew | exact (((Kept.refl _ _).alloc _).drew).alloc _ | exact ((((Kept.refl _ _).drew).alloc _)).drew)).at (heap_new (w2.alloc (Obj.cells #[] 9)) (Obj.cells #[S nm] 9)) (by simp))) (by simp)) 0; (try simp only [World.size_alloc] at hcl ⊢); exact hcl)) (by omega) (show Kept [] w2 _ from by first | exact KK1.out | exact (KK1.out).drew | exact (KK1.out).alloc _ | exact ((KK1.out).alloc _).drew | exact ((KK1.out).drew).alloc _ | exact ((KK1.out).alloc _).alloc _ | exact (((KK1.out).alloc _).alloc _).drew | exact ((KK1.out).drew).drew | exact (((KK1.out).alloc _).drew).alloc _ | exact ((((KK1.out).drew).alloc _)).drew).size ?_
                   intro p2 c2 wb own2 gr2
                   have KK2 := Lib.hid ((show Kept [] w2 _ from by first | exact KK1.out | exact (KK1.out).drew | exact (KK1.out).alloc _ | exact ((KK1.out).alloc _).drew | exact ((KK1.out).drew).alloc _ | exact ((KK1.out).alloc _).alloc _ | exact (((KK1.out).alloc _).alloc _).drew | exact ((KK1.out).drew).drew | exact (((KK1.out).alloc _).drew).alloc _ | exact ((((KK1.out).drew).alloc _)).drew).new (kept_grown gr2) (fun q hq => HG1.out.2 q (Option.mem_toList.1 hq)))
                   have HG2 := Lib.hid (And.intro own2 (fun q hq => (own_lt own2 q hq).1))
                   clear own2 gr2)
                | (refine step_strs rfl (.tmp 56) (.tmp 59) rfl w2.heap.size _ _ (xs.take j ++ [nm]) (by rfl) (by rw [List.length_append, List.length_take]; simp; omega) (own_kept (T := []) HG2.out.1 (by first | exact Kept.refl _ _ | exact (Kept.refl _ _).drew | exact (Kept.refl _ _).alloc _ | exact ((Kept.refl _ _).alloc _).drew | exact ((Kept.refl _ _).drew).alloc _ | exact ((Kept.refl _ _).alloc _).alloc _ | exact (((Kept.refl _ _).alloc _).alloc _).drew | exact ((Kept.refl _ _).drew).drew | exact (((Kept.refl _ _).alloc _).drew).alloc _ | exact ((((Kept.refl _ _).drew).alloc _)).drew) (by simp)) g 0 0 _ [] rfl (by rfl) (by intro i hi; cases hi) (by omega) (show Kept [] w2 _ from by first | exact KK2.out | exact (KK2.out).drew | exact (KK2.out).alloc _ | exact ((KK2.out).alloc _).drew | exact ((KK2.out).drew).alloc _ | exact ((KK2.out).alloc _).alloc _ | exact (((KK2.out).alloc _).alloc _).drew | exact ((KK2.out).drew).drew | exact (((KK2.out).alloc _).drew).alloc _ | exact ((((KK2.out).drew).alloc _)).drew).size ?_
                   intro p3 c3 wd own3 gr3
                   have KK3 := Lib.hid ((show Kept [] w2 _ from by first | exact KK2.out | exact (KK2.out).drew | exact (KK2.out).alloc _ | exact ((KK2.out).alloc _).drew | exact ((KK2.out).drew).alloc _ | exact ((KK2.out).alloc _).alloc _ | exact (((KK2.out).alloc _).alloc _).drew | exact ((KK2.out).drew).drew | exact (((KK2.out).alloc _).drew).alloc _ | exact ((((KK2.out).drew).alloc _)).drew).new (kept_grown gr3) (fun q hq => HG2.out.2 q (Option.mem_toList.1 hq)))
                   have HG3 := Lib.hid own3
                   clear own3 gr3))
              all_goals
                simp only [List.getElem_toArray, List.getElem_cons_succ, List.getElem_cons_zero]
                go_frame
                go_wp2
                go_roundw
                case rel =>
                  obtain ⟨hins, hP0l⟩ := HH.out
                  obtain ⟨g3, rfl⟩ := own_some HG3.out (by omega)
                  have hlen : (xs.take j ++ nm :: xs.drop j).length = xs.length + 1 := by rw [List.length_append, List.length_cons, List.length_take, List.length_drop]; omega
                  have how := own_lower HG3.out HSZ.out
                  have hlst : xs.take j ++ [nm] ++ [] = xs.take j ++ nm :: xs.drop j := by rw [List.drop_eq_nil_of_le (by omega)]; simp
                  have hnn : j + 1 + 0 = (xs.take j ++ nm :: xs.drop j).length := by rw [hlen]; omega
                  rw [hlst, hnn] at how
                  refine ⟨k + 1, g3, c3, xs.take j ++ nm :: xs.drop j, by omega, by go_num, ?_, by rw [hlen]; have := HJ.out.2.2.2.2; omega, hins.symm, how, (HJ.out.2.1.trans' K2.out).trans' KK3.out⟩
                  congr 1
                case measure => simp [intOf]; omega
            · go_wp2_with (fail)
              have KK0 := Lib.hid (Kept.refl [] w2)
              go_region_law (first
                | (refine step_strs rfl (.tmp 49) (.tmp 52) rfl w2.heap.size _ 0 [] (by rfl) rfl (by first | exact own_kept (T := []) (own_empty w2 9) (by first | exact Kept.refl _ _ | exact (Kept.refl _ _).drew | exact (Kept.refl _ _).alloc _ | exact ((Kept.refl _ _).alloc _).drew | exact ((Kept.refl _ _).drew).alloc _ | exact ((Kept.refl _ _).alloc _).alloc _ | exact (((Kept.refl _ _).alloc _).alloc _).drew | exact ((Kept.refl _ _).drew).drew | exact (((Kept.refl _ _).alloc _).drew).alloc _ | exact ((((Kept.refl _ _).drew).alloc _)).drew) (by simp) | (have hoe := own_empty (w2.alloc (Obj.cells #[S nm] 9)) 9; rw [World.size_alloc] at hoe; exact own_lower (own_kept (T := []) hoe (by first | exact Kept.refl _ _ | exact (Kept.refl _ _).drew | exact (Kept.refl _ _).alloc _ | exact ((Kept.refl _ _).alloc _).drew | exact ((Kept.refl _ _).drew).alloc _ | exact ((Kept.refl _ _).alloc _).alloc _ | exact (((Kept.refl _ _).alloc _).alloc _).drew | exact ((Kept.refl _ _).drew).drew | exact (((Kept.refl _ _).alloc _).drew).alloc _ | exact ((((Kept.refl _ _).drew).alloc _)).drew) (by simp)) (by omega))) g 0 j _ (xs.take j) (by rw [List.length_take]; omega) (by rfl) (by intro i hi; rw [Nat.zero_add, List.getElem_take]; exact (show Kept [] w2 _ from by first | exact KK0.out | exact (KK0.out).drew | exact (KK0.out).alloc _ | exact ((KK0.out).alloc _).drew | exact ((KK0.out).drew).alloc _ | exact ((KK0.out).alloc _).alloc _ | exact (((KK0.out).alloc _).alloc _).drew | exact ((KK0.out).drew).drew | exact (((KK0.out).alloc _).drew).alloc _ | exact ((((KK0.out).drew).alloc _)).drew).cellOf (HCX.out i (by rw [List.length_take] at hi; omega))) (by omega) (show Kept [] w2 _ from by first | exact KK0.out | exact (KK0.out).drew | exact (KK0.out).alloc _ | exact ((KK0.out).alloc _).drew | exact ((KK0.out).drew).alloc _ | exact ((KK0.out).alloc _).alloc _ | exact (((KK0.out).alloc _).alloc _).drew | exact ((KK0.out).drew).drew | exact (((KK0.out).alloc _).drew).alloc _ | exact ((((KK0.out).drew).alloc _)).drew).size ?_
                   intro p1 c1 wa own1 gr1
                   have KK1 := Lib.hid ((show Kept [] w2 _ from by first | exact KK0.out | exact (KK0.out).drew | exact (KK0.out).alloc _ | exact ((KK0.out).alloc _).drew | exact ((KK0.out).drew).alloc _ | exact ((KK0.out).alloc _).alloc _ | exact (((KK0.out).alloc _).alloc _).drew | exact ((KK0.out).drew).drew | exact (((KK0.out).alloc _).drew).alloc _ | exact ((((KK0.out).drew).alloc _)).drew).new (kept_grown gr1) (by intro q hq; have hq2 : Value.ownBlock _ = some q := Option.mem_toList.1 hq; first | (cases hq2; exact Nat.le_refl _) | (cases hq2; exact Nat.le_succ _) | (cases hq2; rw [World.size_alloc]; omega)))
                   have HB1 := Lib.hid (fun b hb h => (kept_grown gr1).at (k := b) (o := Obj.cells #[S nm] 9) h hb)
                   rw [Nat.zero_add, List.nil_append] at own1
                   have HG1 := Lib.hid (And.intro own1 (fun q hq => (own_lt own1 q hq).1))
                   clear own1 gr1)
                | (refine step_strs rfl (.tmp 53) (.tmp 55) rfl w2.heap.size _ _ (xs.take j) (by rfl) (by rw [List.length_take]; omega) (own_kept (T := []) HG1.out.1 (by first | exact Kept.refl _ _ | exact (Kept.refl _ _).drew | exact (Kept.refl _ _).alloc _ | exact ((Kept.refl _ _).alloc _).drew | exact ((Kept.refl _ _).drew).alloc _ | exact ((Kept.refl _ _).alloc _).alloc _ | exact (((Kept.refl _ _).alloc _).alloc _).drew | exact ((Kept.refl _ _).drew).drew | exact (((Kept.refl _ _).alloc _).drew).alloc _ | exact ((((Kept.refl _ _).drew).alloc _)).drew) (by simp)) _ 0 1 _ [nm] rfl (by rfl) (by intro i hi; (obtain rfl : i = 0 := by simp at hi; omega); first | exact cell_at ((show Kept [] _ _ from (by first | exact Kept.refl _ _ | exact (Kept.refl _ _).drew | exact (Kept.refl _ _).alloc _ | exact ((Kept.refl _ _).alloc _).drew | exact ((Kept.refl _ _).drew).alloc _ | exact ((Kept.refl _ _).alloc _).alloc _ | exact (((Kept.refl _ _).alloc _).alloc _).drew | exact ((Kept.refl _ _).drew).drew | exact (((Kept.refl _ _).alloc _).drew).alloc _ | exact ((((Kept.refl _ _).drew).alloc _)).drew)).at (heap_new _ (Obj.cells #[S nm] 9)) (by simp)) 0 | (have hcl := cell_at ((show Kept [] wa _ from (by first | exact Kept.refl _ _ | exact (Kept.refl _ _).drew | exact (Kept.refl _ _).alloc _ | exact ((Kept.refl _ _).alloc _).drew | exact ((Kept.refl _ _).drew).alloc _ | exact ((Kept.refl _ _).alloc _).alloc _ | exact (((Kept.refl _ _).alloc _).alloc _).drew | exact ((Kept.refl _ _).drew).drew | exact (((Kept.refl _ _).alloc _).drew).alloc _ | exact ((((Kept.refl _ _).drew).alloc _)).drew)).at (HB1.out _ (by intro hm; have h3 := Option.some.inj (show some _ = some _ from Option.mem_toList.1 hm); first | (simp at h3; done) | (simp only [World.size_alloc] at h3; omega)) (heap_new _ (Obj.cells #[S nm] 9))) (by simp)) 0; (try simp only [World.size_alloc] at hcl ⊢); exact hcl) | (have hcl := cell_at ((show Kept [] wa _ from (by first | exact Kept.refl _ _ | exact (Kept.refl _ _).drew | exact (Kept.refl _ _).alloc _ | exact ((Kept.refl _ _).alloc _).drew | exact ((Kept.refl _ _).drew).alloc _ | exact ((Kept.refl _ _).alloc _).alloc _ | exact (((Kept.refl _ _).alloc _).alloc _).drew | exact ((Kept.refl _ _).drew).drew | exact (((Kept.refl _ _).alloc _).drew).alloc _ | exact ((((Kept.refl _ _).drew).alloc _)).drew)).at (HB1.out _ (by intro hm; have h3 := Option.some.inj (show some _ = some _ from Option.mem_toList.1 hm); first | (simp at h3; done) | (simp only [World.size_alloc] at h3; omega)) ((show Kept [] _ _ from (by first | exact Kept.refl _ _ | exact (Kept.refl _ _).drew | exact (Kept.refl _ _).alloc _ | exact ((Kept.refl _ _).alloc _).drew | exact ((Kept.refl _ _).drew).alloc _ | exact ((Kept.refl _ _).alloc _).alloc _ | exact (((Kept.refl _ _).alloc _).alloc _).drew | exact ((Kept.refl _ _).drew).drew | exact (((Kept.refl _ _).alloc _).drew).alloc _ | exact ((((Kept.refl _ _).drew).alloc _)).drew)).at (heap_new w2 (Obj.cells #[S nm] 9)) (by simp))) (by simp)) 0; (try simp only [World.size_alloc] at hcl ⊢); exact hcl) | (have hcl := cell_at ((show Kept [] wa _ from (by first | exact Kept.refl _ _ | exact (Kept.refl _ _).drew | exact (Kept.refl _ _).alloc _ | exact ((Kept.refl _ _).alloc _).drew | exact ((Kept.refl _ _).drew).alloc _ | exact ((Kept.refl _ _).alloc _).alloc _ | exact (((Kept.refl _ _).alloc _).alloc _).drew | exact ((Kept.refl _ _).drew).drew | exact (((Kept.refl _ _).alloc _).drew).alloc _ | exact ((((Kept.refl _ _).drew).alloc _)).drew)).at (HB1.out _ (by intro hm; have h3 := Option.some.inj (show some _ = some _ from Option.mem_toList.1 hm); first | (simp at h3; done) | (simp only [World.size_alloc] at h3; omega)) ((show Kept [] _ _ from (by first | exact Kept.refl _ _ | exact (Kept.refl _ _).drew | exact (Kept.refl _ _).alloc _ | exact ((Kept.refl _ _).alloc _).drew | exact ((Kept.refl _ _).drew).alloc _ | exact ((Kept.refl _ _).alloc _).alloc _ | exact (((Kept.refl _ _).alloc _).alloc _).drew | exact ((Kept.refl _ _).drew).drew | exact (((Kept.refl _ _).alloc _).drew).alloc _ | exact ((((Kept.refl _ _).drew).alloc _)).drew)).at (heap_new (w2.alloc (Obj.cells #[] 9)) (Obj.cells #[S nm] 9)) (by simp))) (by simp)) 0; (try simp only [World.size_alloc] at hcl ⊢); exact hcl)) (by omega) (show Kept [] w2 _ from by first | exact KK1.out | exact (KK1.out).drew | exact (KK1.out).alloc _ | exact ((KK1.out).alloc _).drew | exact ((KK1.out).drew).alloc _ | exact ((KK1.out).alloc _).alloc _ | exact (((KK1.out).alloc _).alloc _).drew | exact ((KK1.out).drew).drew | exact (((KK1.out).alloc _).drew).alloc _ | exact ((((KK1.out).drew).alloc _)).drew).size ?_
                   intro p2 c2 wb own2 gr2
                   have KK2 := Lib.hid ((show Kept [] w2 _ from by first | exact KK1.out | exact (KK1.out).drew | exact (KK1.out).alloc _ | exact ((KK1.out).alloc _).drew | exact ((KK1.out).drew).alloc _ | exact ((KK1.out).alloc _).alloc _ | exact (((KK1.out).alloc _).alloc _).drew | exact ((KK1.out).drew).drew | exact (((KK1.out).alloc _).drew).alloc _ | exact ((((KK1.out).drew).alloc _)).drew).new (kept_grown gr2) (fun q hq => HG1.out.2 q (Option.mem_toList.1 hq)))
                   have HG2 := Lib.hid (And.intro own2 (fun q hq => (own_lt own2 q hq).1))
                   clear own2 gr2)
                | (refine step_strs rfl (.tmp 56) (.tmp 59) rfl w2.heap.size _ _ (xs.take j ++ [nm]) (by rfl) (by rw [List.length_append, List.length_take]; simp; omega) (own_kept (T := []) HG2.out.1 (by first | exact Kept.refl _ _ | exact (Kept.refl _ _).drew | exact (Kept.refl _ _).alloc _ | exact ((Kept.refl _ _).alloc _).drew | exact ((Kept.refl _ _).drew).alloc _ | exact ((Kept.refl _ _).alloc _).alloc _ | exact (((Kept.refl _ _).alloc _).alloc _).drew | exact ((Kept.refl _ _).drew).drew | exact (((Kept.refl _ _).alloc _).drew).alloc _ | exact ((((Kept.refl _ _).drew).alloc _)).drew) (by simp)) g j (xs.length - j) _ (xs.drop j) (by rw [List.length_drop]) (by rfl) (by intro i hi; rw [List.getElem_drop]; exact (show Kept [] w2 _ from by first | exact KK2.out | exact (KK2.out).drew | exact (KK2.out).alloc _ | exact ((KK2.out).alloc _).drew | exact ((KK2.out).drew).alloc _ | exact ((KK2.out).alloc _).alloc _ | exact (((KK2.out).alloc _).alloc _).drew | exact ((KK2.out).drew).drew | exact (((KK2.out).alloc _).drew).alloc _ | exact ((((KK2.out).drew).alloc _)).drew).cellOf (HCX.out (j + i) (by rw [List.length_drop] at hi; omega))) (by omega) (show Kept [] w2 _ from by first | exact KK2.out | exact (KK2.out).drew | exact (KK2.out).alloc _ | exact ((KK2.out).alloc _).drew | exact ((KK2.out).drew).alloc _ | exact ((KK2.out).alloc _).alloc _ | exact (((KK2.out).alloc _).alloc _).drew | exact ((KK2.out).drew).drew | exact (((KK2.out).alloc _).drew).alloc _ | exact ((((KK2.out).drew).alloc _)).drew).size ?_
                   intro p3 c3 wd own3 gr3
                   have KK3 := Lib.hid ((show Kept [] w2 _ from by first | exact KK2.out | exact (KK2.out).drew | exact (KK2.out).alloc _ | exact ((KK2.out).alloc _).drew | exact ((KK2.out).drew).alloc _ | exact ((KK2.out).alloc _).alloc _ | exact (((KK2.out).alloc _).alloc _).drew | exact ((KK2.out).drew).drew | exact (((KK2.out).alloc _).drew).alloc _ | exact ((((KK2.out).drew).alloc _)).drew).new (kept_grown gr3) (fun q hq => HG2.out.2 q (Option.mem_toList.1 hq)))
                   have HG3 := Lib.hid own3
                   clear own3 gr3))
              all_goals
                simp only [List.getElem_toArray, List.getElem_cons_succ, List.getElem_cons_zero]
                go_frame
                go_wp2
                go_roundw
                case rel =>
                  obtain ⟨hins, hP0l⟩ := HH.out
                  obtain ⟨g3, rfl⟩ := own_some HG3.out (by omega)
                  have hlen : (xs.take j ++ nm :: xs.drop j).length = xs.length + 1 := by rw [List.length_append, List.length_cons, List.length_take, List.length_drop]; omega
                  have how := own_lower HG3.out HSZ.out
                  have hlst : xs.take j ++ [nm] ++ xs.drop j = xs.take j ++ nm :: xs.drop j := by simp
                  have hnn : j + 1 + (xs.length - j) = (xs.take j ++ nm :: xs.drop j).length := by rw [hlen]; omega
                  rw [hlst, hnn] at how
                  refine ⟨k + 1, g3, c3, xs.take j ++ nm :: xs.drop j, by omega, by go_num, ?_, by rw [hlen]; have := HJ.out.2.2.2.2; omega, hins.symm, how, (HJ.out.2.1.trans' K2.out).trans' KK3.out⟩
                  congr 1
                case measure => simp [intOf]; omega
          · have c0 := HCX.out j hj2
            obtain ⟨xj, hxj⟩ : ∃ xj, xs[j] = xj := ⟨_, rfl⟩
            rw [hxj] at c0 hb2
            have hcj : ¬ c = j := by omega
            clear hj2 hxj
            go_wp2_with (fail)
            have KK0 := Lib.hid (Kept.refl [] w2)
            go_region_law (first
              | (refine step_strs rfl (.tmp 49) (.tmp 52) rfl w2.heap.size _ 0 [] (by rfl) rfl (by first | exact own_kept (T := []) (own_empty w2 9) (by first | exact Kept.refl _ _ | exact (Kept.refl _ _).drew | exact (Kept.refl _ _).alloc _ | exact ((Kept.refl _ _).alloc _).drew | exact ((Kept.refl _ _).drew).alloc _ | exact ((Kept.refl _ _).alloc _).alloc _ | exact (((Kept.refl _ _).alloc _).alloc _).drew | exact ((Kept.refl _ _).drew).drew | exact (((Kept.refl _ _).alloc _).drew).alloc _ | exact ((((Kept.refl _ _).drew).alloc _)).drew) (by simp) | (have hoe := own_empty (w2.alloc (Obj.cells #[S nm] 9)) 9; rw [World.size_alloc] at hoe; exact own_lower (own_kept (T := []) hoe (by first | exact Kept.refl _ _ | exact (Kept.refl _ _).drew | exact (Kept.refl _ _).alloc _ | exact ((Kept.refl _ _).alloc _).drew | exact ((Kept.refl _ _).drew).alloc _ | exact ((Kept.refl _ _).alloc _).alloc _ | exact (((Kept.refl _ _).alloc _).alloc _).drew | exact ((Kept.refl _ _).drew).drew | exact (((Kept.refl _ _).alloc _).drew).alloc _ | exact ((((Kept.refl _ _).drew).alloc _)).drew) (by simp)) (by omega))) g 0 j _ (xs.take j) (by rw [List.length_take]; omega) (by rfl) (by intro i hi; rw [Nat.zero_add, List.getElem_take]; exact (show Kept [] w2 _ from by first | exact KK0.out | exact (KK0.out).drew | exact (KK0.out).alloc _ | exact ((KK0.out).alloc _).drew | exact ((KK0.out).drew).alloc _ | exact ((KK0.out).alloc _).alloc _ | exact (((KK0.out).alloc _).alloc _).drew | exact ((KK0.out).drew).drew | exact (((KK0.out).alloc _).drew).alloc _ | exact ((((KK0.out).drew).alloc _)).drew).cellOf (HCX.out i (by rw [List.length_take] at hi; omega))) (by omega) (show Kept [] w2 _ from by first | exact KK0.out | exact (KK0.out).drew | exact (KK0.out).alloc _ | exact ((KK0.out).alloc _).drew | exact ((KK0.out).drew).alloc _ | exact ((KK0.out).alloc _).alloc _ | exact (((KK0.out).alloc _).alloc _).drew | exact ((KK0.out).drew).drew | exact (((KK0.out).alloc _).drew).alloc _ | exact ((((KK0.out).drew).alloc _)).drew).size ?_
                 intro p1 c1 wa own1 gr1
                 have KK1 := Lib.hid ((show Kept [] w2 _ from by first | exact KK0.out | exact (KK0.out).drew | exact (KK0.out).alloc _ | exact ((KK0.out).alloc _).drew | exact ((KK0.out).drew).alloc _ | exact ((KK0.out).alloc _).alloc _ | exact (((KK0.out).alloc _).alloc _).drew | exact ((KK0.out).drew).drew | exact (((KK0.out).alloc _).drew).alloc _ | exact ((((KK0.out).drew).alloc _)).drew).new (kept_grown gr1) (by intro q hq; have hq2 : Value.ownBlock _ = some q := Option.mem_toList.1 hq; first | (cases hq2; exact Nat.le_refl _) | (cases hq2; exact Nat.le_succ _) | (cases hq2; rw [World.size_alloc]; omega)))
                 have HB1 := Lib.hid (fun b hb h => (kept_grown gr1).at (k := b) (o := Obj.cells #[S nm] 9) h hb)
                 rw [Nat.zero_add, List.nil_append] at own1
                 have HG1 := Lib.hid (And.intro own1 (fun q hq => (own_lt own1 q hq).1))
                 clear own1 gr1)
              | (refine step_strs rfl (.tmp 53) (.tmp 55) rfl w2.heap.size _ _ (xs.take j) (by rfl) (by rw [List.length_take]; omega) (own_kept (T := []) HG1.out.1 (by first | exact Kept.refl _ _ | exact (Kept.refl _ _).drew | exact (Kept.refl _ _).alloc _ | exact ((Kept.refl _ _).alloc _).drew | exact ((Kept.refl _ _).drew).alloc _ | exact ((Kept.refl _ _).alloc _).alloc _ | exact (((Kept.refl _ _).alloc _).alloc _).drew | exact ((Kept.refl _ _).drew).drew | exact (((Kept.refl _ _).alloc _).drew).alloc _ | exact ((((Kept.refl _ _).drew).alloc _)).drew) (by simp)) _ 0 1 _ [nm] rfl (by rfl) (by intro i hi; (obtain rfl : i = 0 := by simp at hi; omega); first | exact cell_at ((show Kept [] _ _ from (by first | exact Kept.refl _ _ | exact (Kept.refl _ _).drew | exact (Kept.refl _ _).alloc _ | exact ((Kept.refl _ _).alloc _).drew | exact ((Kept.refl _ _).drew).alloc _ | exact ((Kept.refl _ _).alloc _).alloc _ | exact (((Kept.refl _ _).alloc _).alloc _).drew | exact ((Kept.refl _ _).drew).drew | exact (((Kept.refl _ _).alloc _).drew).alloc _ | exact ((((Kept.refl _ _).drew).alloc _)).drew)).at (heap_new _ (Obj.cells #[S nm] 9)) (by simp)) 0 | (have hcl := cell_at ((show Kept [] wa _ from (by first | exact Kept.refl _ _ | exact (Kept.refl _ _).drew | exact (Kept.refl _ _).alloc _ | exact ((Kept.refl _ _).alloc _).drew | exact ((Kept.refl _ _).drew).alloc _ | exact ((Kept.refl _ _).alloc _).alloc _ | exact (((Kept.refl _ _).alloc _).alloc _).drew | exact ((Kept.refl _ _).drew).drew | exact (((Kept.refl _ _).alloc _).drew).alloc _ | exact ((((Kept.refl _ _).drew).alloc _)).drew)).at (HB1.out _ (by intro hm; have h3 := Option.some.inj (show some _ = some _ from Option.mem_toList.1 hm); first | (simp at h3; done) | (simp only [World.size_alloc] at h3; omega)) (heap_new _ (Obj.cells #[S nm] 9))) (by simp)) 0; (try simp only [World.size_alloc] at hcl ⊢); exact hcl) | (have hcl := cell_at ((show Kept [] wa _ from (by first | exact Kept.refl _ _ | exact (Kept.refl _ _).drew | exact (Kept.refl _ _).alloc _ | exact ((Kept.refl _ _).alloc _).drew | exact ((Kept.refl _ _).drew).alloc _ | exact ((Kept.refl _ _).alloc _).alloc _ | exact (((Kept.refl _ _).alloc _).alloc _).drew | exact ((Kept.refl _ _).drew).drew | exact (((Kept.refl _ _).alloc _).drew).alloc _ | exact ((((Kept.refl _ _).drew).alloc _)).drew)).at (HB1.out _ (by intro hm; have h3 := Option.some.inj (show some _ = some _ from Option.mem_toList.1 hm); first | (simp at h3; done) | (simp only [World.size_alloc] at h3; omega)) ((show Kept [] _ _ from (by first | exact Kept.refl _ _ | exact (Kept.refl _ _).drew | exact (Kept.refl _ _).alloc _ | exact ((Kept.refl _ _).alloc _).drew | exact ((Kept.refl _ _).drew).alloc _ | exact ((Kept.refl _ _).alloc _).alloc _ | exact (((Kept.refl _ _).alloc _).alloc _).drew | exact ((Kept.refl _ _).drew).drew | exact (((Kept.refl _ _).alloc _).drew).alloc _ | exact ((((Kept.refl _ _).drew).alloc _)).drew)).at (heap_new w2 (Obj.cells #[S nm] 9)) (by simp))) (by simp)) 0; (try simp only [World.size_alloc] at hcl ⊢); exact hcl) | (have hcl := cell_at ((show Kept [] wa _ from (by first | exact Kept.refl _ _ | exact (Kept.refl _ _).drew | exact (Kept.refl _ _).alloc _ | exact ((Kept.refl _ _).alloc _).drew | exact ((Kept.refl _ _).drew).alloc _ | exact ((Kept.refl _ _).alloc _).alloc _ | exact (((Kept.refl _ _).alloc _).alloc _).drew | exact ((Kept.refl _ _).drew).drew | exact (((Kept.refl _ _).alloc _).drew).alloc _ | exact ((((Kept.refl _ _).drew).alloc _)).drew)).at (HB1.out _ (by intro hm; have h3 := Option.some.inj (show some _ = some _ from Option.mem_toList.1 hm); first | (simp at h3; done) | (simp only [World.size_alloc] at h3; omega)) ((show Kept [] _ _ from (by first | exact Kept.refl _ _ | exact (Kept.refl _ _).drew | exact (Kept.refl _ _).alloc _ | exact ((Kept.refl _ _).alloc _).drew | exact ((Kept.refl _ _).drew).alloc _ | exact ((Kept.refl _ _).alloc _).alloc _ | exact (((Kept.refl _ _).alloc _).alloc _).drew | exact ((Kept.refl _ _).drew).drew | exact (((Kept.refl _ _).alloc _).drew).alloc _ | exact ((((Kept.refl _ _).drew).alloc _)).drew)).at (heap_new (w2.alloc (Obj.cells #[] 9)) (Obj.cells #[S nm] 9)) (by simp))) (by simp)) 0; (try simp only [World.size_alloc] at hcl ⊢); exact hcl)) (by omega) (show Kept [] w2 _ from by first | exact KK1.out | exact (KK1.out).drew | exact (KK1.out).alloc _ | exact ((KK1.out).alloc _).drew | exact ((KK1.out).drew).alloc _ | exact ((KK1.out).alloc _).alloc _ | exact (((KK1.out).alloc _).alloc _).drew | exact ((KK1.out).drew).drew | exact (((KK1.out).alloc _).drew).alloc _ | exact ((((KK1.out).drew).alloc _)).drew).size ?_
                 intro p2 c2 wb own2 gr2
                 have KK2 := Lib.hid ((show Kept [] w2 _ from by first | exact KK1.out | exact (KK1.out).drew | exact (KK1.out).alloc _ | exact ((KK1.out).alloc _).drew | exact ((KK1.out).drew).alloc _ | exact ((KK1.out).alloc _).alloc _ | exact (((KK1.out).alloc _).alloc _).drew | exact ((KK1.out).drew).drew | exact (((KK1.out).alloc _).drew).alloc _ | exact ((((KK1.out).drew).alloc _)).drew).new (kept_grown gr2) (fun q hq => HG1.out.2 q (Option.mem_toList.1 hq)))
                 have HG2 := Lib.hid (And.intro own2 (fun q hq => (own_lt own2 q hq).1))
                 clear own2 gr2)
              | (refine step_strs rfl (.tmp 56) (.tmp 59) rfl w2.heap.size _ _ (xs.take j ++ [nm]) (by rfl) (by rw [List.length_append, List.length_take]; simp; omega) (own_kept (T := []) HG2.out.1 (by first | exact Kept.refl _ _ | exact (Kept.refl _ _).drew | exact (Kept.refl _ _).alloc _ | exact ((Kept.refl _ _).alloc _).drew | exact ((Kept.refl _ _).drew).alloc _ | exact ((Kept.refl _ _).alloc _).alloc _ | exact (((Kept.refl _ _).alloc _).alloc _).drew | exact ((Kept.refl _ _).drew).drew | exact (((Kept.refl _ _).alloc _).drew).alloc _ | exact ((((Kept.refl _ _).drew).alloc _)).drew) (by simp)) g j (xs.length - j) _ (xs.drop j) (by rw [List.length_drop]) (by rfl) (by intro i hi; rw [List.getElem_drop]; exact (show Kept [] w2 _ from by first | exact KK2.out | exact (KK2.out).drew | exact (KK2.out).alloc _ | exact ((KK2.out).alloc _).drew | exact ((KK2.out).drew).alloc _ | exact ((KK2.out).alloc _).alloc _ | exact (((KK2.out).alloc _).alloc _).drew | exact ((KK2.out).drew).drew | exact (((KK2.out).alloc _).drew).alloc _ | exact ((((KK2.out).drew).alloc _)).drew).cellOf (HCX.out (j + i) (by rw [List.length_drop] at hi; omega))) (by omega) (show Kept [] w2 _ from by first | exact KK2.out | exact (KK2.out).drew | exact (KK2.out).alloc _ | exact ((KK2.out).alloc _).drew | exact ((KK2.out).drew).alloc _ | exact ((KK2.out).alloc _).alloc _ | exact (((KK2.out).alloc _).alloc _).drew | exact ((KK2.out).drew).drew | exact (((KK2.out).alloc _).drew).alloc _ | exact ((((KK2.out).drew).alloc _)).drew).size ?_
                 intro p3 c3 wd own3 gr3
                 have KK3 := Lib.hid ((show Kept [] w2 _ from by first | exact KK2.out | exact (KK2.out).drew | exact (KK2.out).alloc _ | exact ((KK2.out).alloc _).drew | exact ((KK2.out).drew).alloc _ | exact ((KK2.out).alloc _).alloc _ | exact (((KK2.out).alloc _).alloc _).drew | exact ((KK2.out).drew).drew | exact (((KK2.out).alloc _).drew).alloc _ | exact ((((KK2.out).drew).alloc _)).drew).new (kept_grown gr3) (fun q hq => HG2.out.2 q (Option.mem_toList.1 hq)))
                 have HG3 := Lib.hid own3
                 clear own3 gr3))
            all_goals
              simp only [List.getElem_toArray, List.getElem_cons_succ, List.getElem_cons_zero]
              go_frame
              go_wp2
              go_roundw
              case rel =>
                obtain ⟨hins, hP0l⟩ := HH.out
                obtain ⟨g3, rfl⟩ := own_some HG3.out (by omega)
                have hlen : (xs.take j ++ nm :: xs.drop j).length = xs.length + 1 := by rw [List.length_append, List.length_cons, List.length_take, List.length_drop]; omega
                have how := own_lower HG3.out HSZ.out
                have hlst : xs.take j ++ [nm] ++ xs.drop j = xs.take j ++ nm :: xs.drop j := by simp
                have hnn : j + 1 + (xs.length - j) = (xs.take j ++ nm :: xs.drop j).length := by rw [hlen]; omega
                rw [hlst, hnn] at how
                refine ⟨k + 1, g3, c3, xs.take j ++ nm :: xs.drop j, by omega, by go_num, ?_, by rw [hlen]; have := HJ.out.2.2.2.2; omega, hins.symm, how, (HJ.out.2.1.trans' K2.out).trans' KK3.out⟩
                congr 1
              case measure => simp [intOf]; omega
    · have hke : k = E.length := by omega
      subst hke
      have HX : Hid (xs = (kids E p).map (·.1)) := Lib.hid (by rw [hxs, List.take_length])
      have HJ := Lib.hid (And.intro own (And.intro kr hxk))
      clear own kr hxs hlt hxk
      go_wp2_with (fail)
      go_ret
      refine ⟨⟨_, rfl, ?_⟩, HJ.out.2.1⟩
      rw [← HX.out]
      exact own_strs HJ.out.1 (by omega)
def dsum (l : List Nm) : Nat := (l.map fun x => 5 + x.length).sum
theorem dsum_take (l : List Nm) (k : Nat) (hk : k < l.length) : dsum (l.take (k + 1)) = dsum (l.take k) + (5 + l[k].length) := by
 unfold dsum
 rw [List.take_add_one, List.getElem?_eq_getElem hk, List.map_append, List.sum_append]
 simp
theorem dsum_le (l : List Nm) (k : Nat) : dsum (l.take k) ≤ dsum l := by
 induction l generalizing k with
 | nil => simp [dsum]
 | cons x t ih =>
  cases k with
  | zero => simp [dsum]
  | succ k =>
   have := ih k
   unfold dsum at this ⊢
   rw [List.take_succ_cons, List.map_cons, List.map_cons, List.sum_cons, List.sum_cons]
   omega
theorem rowD_dsum (k : List En) : (rowD k).length = 1 + dsum (k.map (·.1)) := by
 unfold rowD dsum
 rw [List.length_cons, List.length_flatten, List.map_map, List.map_map, Nat.add_comm]
 congr 2
 refine List.map_congr_left fun x _ => ?_
 simp only [Function.comp, enB_len]
 omega
theorem rdirs_any (w : World) (lv : Value) (l : List Nm) (hl : StrsAt w lv l) (hs : dsum l ≤ 250) :
  Calls Tryz.prog 107 #[lv] w fun e w' => e = .returned (I (pagesF (7 + (1 + dsum l)))) ∧ w' = w := by
 obtain ⟨lp, lc, rfl, h1, h2, _, h3⟩ := hl
 have HL := Lib.hid h3
 obtain ⟨R, hR⟩ : ∃ R, pagesF (7 + (1 + dsum l)) = R := ⟨_, rfl⟩
 have HR := Lib.hid hR
 rw [hR]
 have hlI : (l.length : Int) ≤ 140737488355328 := by omega
 clear h1 h2 h3 hR
 go_enter Tryz.func107, Tryz.ntmps107
 go_wp2_with (fail)
 go_loop [3, 4] (fun v3 v4 => ∃ k : Nat, k ≤ l.length ∧ v4 = I k ∧ v3 = I ((1 + dsum (l.take k) : Nat) : Int)) (fun _ v4 => l.length - (intOf v4).toNat)
 case atStart => exact ⟨0, by omega, rfl, rfl⟩
 case round =>
  obtain ⟨k, hk, rfl, rfl⟩ := hrel
  have hle := dsum_le l k
  by_cases hlt : k < l.length
  ·have hltI : (k : Int) < l.length := by omega
   obtain ⟨lb, lo, rfl, hcell⟩ := HL.out (by intro h; rw [h] at hlt; simp at hlt)
   have c0 := hcell k hlt
   have e1 : l.getD k [] = l[k] := by rw [List.getD_eq_getElem?_getD, List.getElem?_eq_getElem hlt]; rfl
   rw [e1] at c0
   have htk := dsum_take l k hlt
   have hle2 := dsum_le l (k + 1)
   obtain ⟨nm, hnm⟩ : ∃ nm, l[k] = nm := ⟨_, rfl⟩
   rw [hnm] at c0 htk
   obtain ⟨A, hA⟩ : ∃ A, 1 + dsum (l.take k) = A := ⟨_, rfl⟩
   rw [hA]
   have hnI : (nm.length : Int) ≤ 250 := by omega
   have hAI : (A : Int) ≤ 251 := by omega
   have HT := Lib.hid (And.intro htk hA)
   clear hcell e1 htk hle2 hnm hA hle
   go_wp2_with (fail)
   go_round
   case rel => exact ⟨k + 1, by omega, by go_num, by have := HT.out; congr 1; omega⟩
   case measure => simp [intOf]; omega
  ·have hke : k = l.length := by omega
   subst hke
   rw [List.take_length] at hle ⊢
   obtain ⟨A, hA⟩ : ∃ A, 1 + dsum l = A := ⟨_, rfl⟩
   have HW := Lib.hid (rweight_any A (by omega) w)
   have HX : Hid (R = pagesF (7 + A)) := Lib.hid (by rw [← HR.out, hA])
   rw [hA]
   obtain ⟨P, hP⟩ : ∃ P, pagesF (7 + A) = P := ⟨_, rfl⟩
   rw [hP] at HW HX
   clear hlt hA hle hP
   go_wp2_with (fail)
   refine HW.out.mono ?_
   rintro e w1 ⟨rfl, rfl⟩
   go_wp2_with (fail)
   go_ret
   exact ⟨by rw [HX.out]; rfl, rfl⟩
def sumK (D i : Nat) : Nat := ((List.range i).map fun j => pagesF (7 + min 128 (D - 128 * j))).sum
theorem sumK_succ (D i : Nat) : sumK D (i + 1) = sumK D i + pagesF (7 + min 128 (D - 128 * i)) := by
 unfold sumK
 rw [List.range_succ, List.map_append, List.sum_append]
 simp
theorem pages_le (n : Nat) (h : n ≤ 400) : pagesF n ≤ 7 := by unfold pagesF; split <;> omega
theorem sumK_le (D i : Nat) : sumK D i ≤ 7 * i := by
 induction i with
 | zero => simp [sumK]
 | succ i ih => rw [sumK_succ]; have := pages_le (7 + min 128 (D - 128 * i)) (by omega); omega
theorem wX_is (E : List Nd) (x : Nd) : wL (objX E x) = wF (rowX E x) + sumK x.data.length (cnt x.data.length) := by
 unfold objX wL sumK wF
 rw [List.map_cons, List.sum_cons, List.map_map]
 congr 2
 refine List.map_congr_left fun i _ => ?_
 simp only [Function.comp]
 rw [chunk_len]
theorem wfold_take (E : List Nd) (k : Nat) (hk : k < E.length) : wL (((E.take (k + 1)).map (objX E)).flatten) = wL (((E.take k).map (objX E)).flatten) + wL (objX E E[k]) := by
 rw [List.take_add_one, List.getElem?_eq_getElem hk, List.map_append, List.flatten_append, wL_append]
 simp
theorem rowX_len {given : Nat} {E : List Nd} (h : WF given E) (x : Nd) (hx : x ∈ E) : (rowX E x).length ≤ 256 := by
 unfold rowX
 split
 ·rw [rowD_dsum]
  have h6 := h.few x.path
  have : ∀ l : List En, (∀ q ∈ l, q.1.length ≤ 24) → dsum (l.map (·.1)) ≤ 29 * l.length := fun l => by
   induction l with
   | nil => intro _; simp [dsum]
   | cons q t ih =>
    intro hq
    have h1 := ih fun z hz => hq z (by simp [hz])
    have h2 := hq q (by simp)
    unfold dsum at h1 ⊢
    simp only [List.map_cons, List.sum_cons, List.length_cons]
    omega
  have := this (kids E x.path) (fun q hq => by
   obtain ⟨y, hy, h1, _⟩ := mem_kids.1 hq
   exact h.name hy _ (by rw [h1]; simp))
  omega
 ·simp [rowF, putN_len]
theorem wX_le {given : Nat} {E : List Nd} (h : WF given E) (x : Nd) (hx : x ∈ E) : wL (objX E x) ≤ 240 := by
 rw [wX_is]
 have h1 := rowX_len h x hx
 have h2 := sumK_le x.data.length (cnt x.data.length)
 have h3 := (h.data x hx).1
 have h4 : wF (rowX E x) ≤ 7 := by unfold wF; exact pages_le _ (by omega)
 unfold cnt at h2 ⊢
 omega
theorem wfold_le {given : Nat} {E : List Nd} (h : WF given E) : ∀ k, k ≤ E.length → wL (((E.take k).map (objX E)).flatten) ≤ 240 * k
 | 0, _ => by simp [wL]
 | k + 1, hk => by
  rw [wfold_take E k (by omega)]
  have := wfold_le h k (by omega)
  have := wX_le h _ (List.getElem_mem (show k < E.length by omega))
  omega
theorem kids_dsum {given : Nat} {E : List Nd} (h : WF given E) (p : List Nm) : dsum ((kids E p).map (·.1)) ≤ 250 := by
 have h6 := h.few p
 have : ∀ l : List En, (∀ q ∈ l, q.1.length ≤ 24) → dsum (l.map (·.1)) ≤ 29 * l.length := fun l => by
  induction l with
  | nil => intro _; simp [dsum]
  | cons q t ih =>
   intro hq
   have h1 := ih fun z hz => hq z (by simp [hz])
   have h2 := hq q (by simp)
   unfold dsum at h1 ⊢
   simp only [List.map_cons, List.sum_cons, List.length_cons]
   omega
 have := this (kids E p) (fun q hq => by
  obtain ⟨y, hy, h1, _⟩ := mem_kids.1 hq
  exact h.name hy _ (by rw [h1]; simp))
 omega
end Go.Proofs.YteplbljjlbdhaaaGreatDoor
