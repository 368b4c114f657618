/- Walks and lemmas on the program of this seat, used by its statements; each theorem bears its own conditions. -/
import Derived.Test.YthooohempokchaaDoorLawA
import Derived.OwnWalk
import Derived.Laws.AppendOwnNone
namespace Go.Proofs.YthooohempokchaaDoor
open Go.RowKit
set_option linter.unusedVariables false
set_option linter.unusedSimpArgs false
theorem unescF_cases (l : List UInt8) : (WX.unescF l = ([], 11)) ∨ (∃ v, WX.unescF l = (v, 0) ∧ WX.escL v = l ∧ v.length ≤ l.length) := by
  unfold WX.unescF
  cases h : WX.unesc l with
  | none => exact .inl rfl
  | some v =>
    refine .inr ⟨v, rfl, WX.unesc_some h, ?_⟩
    unfold WX.unesc at h
    split at h
    · rename_i t ht
      split at h
      · cases h; exact WX.say_len ht
      · cases h
    · cases h
theorem unescF_esc (l : List UInt8) : WX.unescF (WX.escL l) = (l, 0) := by unfold WX.unescF; rw [WX.unesc_esc]
set_option maxHeartbeats 2000000 in
set_option maxRecDepth 100000 in
theorem back_any (s o : List UInt8) (w : World) (hs : s.length ≤ 1048576) (ho : o.length ≤ 1048576) (hT : Tabs w) :
    Calls Tryd.prog 6 #[S s, S o] w fun e w' => e = .returned (.bool true) ∧ Kept [] w w' := by
  have HT := Lib.hid hT
  clear hT
  have hq : (s == s) = true := by simp
  have hlen := WX.escL_len s
  have hink := WX.escL_inked s
  have hue := unescF_esc s
  have htx := WX.escL_text s
  have hoq : ∀ v, WX.escL v = o → (v == s) = (o == WX.escL s) := fun v hv => by
    rw [Bool.eq_iff_iff]; simp only [beq_iff_eq]; rw [← hv]; exact ⟨fun h => by rw [h], WX.escL_inj⟩
  have hes : ∀ W : World, Calls Tryd.prog 22 #[S s] W fun e w' => e = .returned (S (WX.escL s)) ∧ Kept [] W w' := fun W => escape_any s W (by omega)
  generalize WX.escL s = t at *
  have HH := Lib.hid (And.intro hink (And.intro hue (And.intro htx (And.intro hoq hes))))
  have htl : (t.length : Int) ≤ 4194304 := by omega
  clear hink hue htx hoq hes
  go_enter Tryd.func6, Tryd.ntmps6
  go_wp2_with (fail)
  refine (HH.out.2.2.2.2 w).mono ?_
  rintro e w1 ⟨rfl, k1⟩
  have H1 := Lib.hid k1
  clear k1
  go_wp2_with (fail)
  refine (unescape_at t s 0 w1 HH.out.2.1 (by omega)).mono ?_
  rintro e w2 ⟨rfl, k2⟩
  have H2 := Lib.hid (H1.out.trans' k2)
  clear k2
  go_wp2_with (fail)
  refine (fixed_any w2 (HT.out.kept H2.out)).mono ?_
  rintro e w3 ⟨rfl, k3⟩
  have H3 := Lib.hid (H2.out.trans' k3)
  clear k3
  go_wp2_with (fail)
  refine (text_at t true w3 HH.out.2.2.1 (by omega) (HT.out.kept H3.out)).mono ?_
  rintro e w4 ⟨rfl, k4⟩
  have H4 := Lib.hid (H3.out.trans' k4)
  clear k4
  go_wp2_with (fail)
  go_loop [8] (fun i => ∃ k : Nat, k ≤ t.length ∧ i = I k) (fun i => t.length - (intOf i).toNat)
  case atStart => exact ⟨0, by omega, rfl⟩
  case round =>
    obtain ⟨k, hk, rfl⟩ := hrel
    by_cases hlt : k < t.length
    · have hlt' : (k : Int) < t.length := by omega
      have hi := HH.out.1 (byteAt t k) (by rw [byteAt_eq t k hlt]; exact List.getElem_mem hlt)
      unfold WX.inked at hi
      have hi1 : (32 : Int) ≤ (byteAt t k).toNat := by omega
      have hi2 : (((byteAt t k).toNat : Int) == 127) = false := by simp; omega
      clear hi
      go_wp2
      go_round
      case rel => exact ⟨k + 1, by omega, by go_num⟩
      case measure => simp [intOf]; omega
    · obtain rfl : k = t.length := by omega
      rcases unescF_cases o with hu | ⟨v, hu, hv, hvl⟩
      · have HU := Lib.hid hu
        clear hu
        go_wp2_with (fail)
        refine (unescape_at o _ _ w4 HU.out (by omega)).mono ?_
        rintro e w5 ⟨rfl, k5⟩
        have H5 := Lib.hid (H4.out.trans' k5)
        clear k5
        go_wp2
        go_ret
        exact ⟨rfl, H5.out⟩
      · have HU := Lib.hid (And.intro hu hv)
        have q1 : (WX.escL v == o) = true := by rw [hv]; simp
        have q2 := HH.out.2.2.2.1 v hv
        clear hu hv
        cases hc : (o == t) with
        | true =>
          rw [hc] at q2
          go_wp2_with (fail)
          refine (unescape_at o _ _ w4 HU.out.1 (by omega)).mono ?_
          rintro e w5 ⟨rfl, k5⟩
          have H5 := Lib.hid (H4.out.trans' k5)
          clear k5
          go_wp2_with (fail)
          refine (escape_any v w5 (by omega)).mono ?_
          rintro e w6 ⟨rfl, k6⟩
          have H6 := Lib.hid (H5.out.trans' k6)
          clear k6
          go_wp2
          go_ret
          exact ⟨rfl, H6.out⟩
        | false =>
          rw [hc] at q2
          go_wp2_with (fail)
          refine (unescape_at o _ _ w4 HU.out.1 (by omega)).mono ?_
          rintro e w5 ⟨rfl, k5⟩
          have H5 := Lib.hid (H4.out.trans' k5)
          clear k5
          go_wp2_with (fail)
          refine (escape_any v w5 (by omega)).mono ?_
          rintro e w6 ⟨rfl, k6⟩
          have H6 := Lib.hid (H5.out.trans' k6)
          clear k6
          go_wp2
          go_ret
          exact ⟨rfl, H6.out⟩
/-! ### Rows of texts of the call's own -/
theorem Kept.grown {a w w' : World} {row : Option Nat} (h : Kept [] a w) (g : w.grownBy w' row) (hr : ∀ k, row = some k → a.heap.size ≤ k) : Kept [] a w' :=
  ⟨g.os.trans h.os, g.tape.trans h.tape, g.output.trans h.output, Nat.le_trans h.size g.size, fun k hk hn =>
    (g.block k (by have := h.size; omega) (fun e => by have := hr k e.symm; omega)).trans (h.block k hk hn)⟩
theorem S_one (ss : List (List UInt8)) : ∀ u ∈ ss.map S, u.oneCell' = true := by
  intro u hu
  obtain ⟨x, _, rfl⟩ := List.mem_map.1 hu
  rfl
theorem own_strs {w : World} {base : Nat} {v : Value} {ss : List (List UInt8)} (h : w.ownsRow base 9 1 v ss.length (ss.map S)) (hl : ss.length ≤ 140737488355328) : StrsAt w v ss := by
  rcases h.2 with ⟨rfl, hn⟩ | ⟨g, cap, cur, rfl, hb, hg, hnc, _, hsz, htake⟩
  · have : ss = [] := List.eq_nil_of_length_eq_zero hn
    subst this; exact StrsAt.nil w
  · refine ⟨_, cap, rfl, hnc, hl, (fun h => by cases h), fun _ => ⟨g, 0, rfl, fun i hi => ?_⟩⟩
    rw [cell_at hg, Nat.zero_add]
    have h1 : (cur.toList.take (ss.length * 1))[i]? = some (S (ss.getD i [])) := by rw [htake]; simp [List.getD, hi]
    rw [List.getElem?_take_of_lt (by omega)] at h1
    rw [← Array.getElem?_toList]; exact h1
theorem own_empty (w : World) (t : TypeId) : (w.alloc (.cells #[] t)).ownsRow w.heap.size t 1 (.slice (some ⟨w.heap.size, 0, none⟩) 0 0) 0 [] :=
  ⟨rfl, .inr ⟨w.heap.size, 0, #[], rfl, Nat.le_refl _, heap_new w _, Nat.le_refl _, Nat.zero_le _, rfl, rfl⟩⟩
theorem ownBlock_slice (g n c : Nat) : (Value.slice (some ⟨g, 0, none⟩) n c).ownBlock = some g := rfl
theorem str_info : (Tryd.prog.info? 9).map (fun i => (i.zero, i.size, i.bytes)) = some (some (.string ⟨#[]⟩), 1, 16) := by kernel_rfl
theorem inter_snoc (l : List (List UInt8)) (n : List UInt8) : (l = [] → [47].intercalate (l ++ [n]) = n) ∧ (l ≠ [] → [47].intercalate (l ++ [n]) = [47].intercalate l ++ 47 :: n) := by
  refine ⟨fun h => by subst h; simp [List.intercalate, List.intersperse], fun h => ?_⟩
  induction l with
  | nil => exact absurd rfl h
  | cons x r ih =>
    cases r with
    | nil => simp [List.intercalate, List.intersperse]
    | cons y r =>
      have := ih (by simp)
      simp [List.intercalate, List.intersperse] at this ⊢
      exact this
set_option maxHeartbeats 2000000 in
set_option maxRecDepth 100000 in
theorem joinLaw_any (lv : Value) (l : List (List UInt8)) (name : List UInt8) (w : World) (hl : StrsAt w lv l) (hm : ∀ n ∈ l, n.length ≤ 1048576) (hl2 : l.length ≤ 1048576) (hn : name.length ≤ 1048576) (hT : Tabs w) :
    Calls Tryd.prog 7 #[lv, S name] w fun e w' => e = .returned (.bool true) ∧ Kept [] w w' := by
  have HT := Lib.hid hT
  have HL := Lib.hid (And.intro hl hm)
  clear hT hm
  obtain ⟨i0, hi, hz0, hz1, hz2⟩ := info_parts str_info
  by_cases hj : (WX.joinF l).2 = 0
  · have hpj := WX.path_join hj
    have hnames := WX.path_names hpj
    have hlen := WX.inter_len l fun n hn => WX.name_len (List.all_eq_true.1 hnames.2 n hn)
    have hjf : WX.joinF l = (47 :: [47].intercalate l, 0) := by unfold WX.joinF; rw [if_pos hnames]
    obtain ⟨p, cap, rfl, h1, h2, h3, h4⟩ := hl
    rw [hjf] at hpj
    have HJ := Lib.hid (And.intro hpj (And.intro hnames hjf))
    clear hpj hnames hjf hj
    go_enter Tryd.func7, Tryd.ntmps7
    go_wp2_with (fail)
    refine (join_at _ l _ 0 w HJ.out.2.2 HL.out.1 (fun n hn => by have := HL.out.2 n hn; omega) HT.out).mono ?_
    rintro e w1 ⟨rfl, k1⟩
    have H1 := Lib.hid k1
    clear k1
    go_wp2_with (fail)
    refine (fixed_any w1 (HT.out.kept H1.out)).mono ?_
    rintro e w2 ⟨rfl, k2⟩
    have H2 := Lib.hid (H1.out.trans' k2)
    clear k2
    go_wp2_with (fail)
    refine (path_yes _ l w2 HJ.out.1 (by simp; omega) (HT.out.kept H2.out)).mono ?_
    rintro e w3 ⟨mv, rfl, n3, k3⟩
    obtain ⟨q, mc, rfl, m1, m2, m3, m4⟩ := n3.at
    have H3 := Lib.hid (And.intro n3.at (H2.out.trans' k3))
    clear k3 n3
    go_wp2_with (fail)
    refine (same_at _ _ l l true w3 (by simp) H3.out.1 (HL.out.1.kept H3.out.2)).mono ?_
    rintro e w4 ⟨rfl, k4⟩
    have H4 := Lib.hid (And.intro k4 (H3.out.2.trans' k4))
    clear k4
    have hll : (l.length : Int) ≤ 8 := by have := HJ.out.2.1.1; omega
    go_wp2_with (fail)
    go_loopw [9] (fun i wr => ∃ k : Nat, k ≤ l.length ∧ i = I k ∧ Kept [] w4 wr) (fun i _ => l.length - (intOf i).toNat)
    case atStart => exact ⟨0, by omega, rfl, Kept.refl _ _⟩
    case round =>
      obtain ⟨k, hk, rfl, hkw⟩ := hrel
      have HKW := Lib.hid hkw
      clear hkw
      by_cases hlt : k < l.length
      · have hlt' : (k : Int) < l.length := by omega
        have hne : l ≠ [] := by intro e; rw [e] at hlt; simp at hlt
        obtain ⟨b, off, rfl, hcell⟩ := m4 hne
        have x1 := (H4.out.1.trans' HKW.out).cellOf (hcell k hlt)
        obtain ⟨x, hx1⟩ : ∃ x, l.getD k [] = x := ⟨_, rfl⟩
        rw [hx1] at x1
        have hmem : x ∈ l := by rw [← hx1, getD_eq _ _ _ hlt]; exact List.getElem_mem hlt
        have hnx := List.all_eq_true.1 HJ.out.2.1.2 x hmem
        have hxl := HL.out.2 x hmem
        have HX := Lib.hid (And.intro hcell (And.intro hx1 (And.intro hmem (And.intro hnx m3))))
        have KW := H4.out.2.trans' HKW.out
        have HKK := Lib.hid KW
        clear hcell hx1 hmem hnx hne m4 m3 KW
        go_wp2_with (fail)
        refine (name_at x true wr HX.out.2.2.2.1 (by omega) (HT.out.kept HKK.out)).mono ?_
        rintro e w5 ⟨rfl, k5⟩
        go_wp2
        go_roundw
        case rel => exact ⟨k + 1, by omega, by go_num, HKW.out.trans' k5⟩
        case measure => simp [intOf]; omega
      · obtain rfl : k = l.length := by omega
        have hkk := H4.out.2.trans' HKW.out
        have HKK := Lib.hid hkk
        clear hkk m3 m4
        have hbase : w.heap.size ≤ wr.heap.size := HKK.out.size
        have HO := Lib.hid (own_empty wr 9)
        have HA := HL.out.1.kept (HKK.out.trans' ((Kept.refl [] wr).alloc (.cells #[] 9)))
        have key : ∀ (v1 : Value) (wa : World), wa.ownsRow wr.heap.size 9 1 v1 (0 + l.length) ([] ++ l.map S) → Kept [] w wa → True := fun _ _ _ _ => trivial
        by_cases hp : p = none
        · have hl0 : l = [] := by
            by_cases h : l = []
            · exact h
            · obtain ⟨b, off, e, _⟩ := h4 h; rw [hp] at e; cases e
          subst hp
          obtain rfl : cap = 0 := h3 rfl
          subst hl0
          have hnew : ∀ (o1 o2 : Obj) (j : Nat) (u : Value), o2 = .cells #[S name] 9 → [S name][j]? = some u → ((wr.alloc o1).alloc o2).cell? ((⟨wr.heap.size + 1, 0, none⟩ : Addr).add j) = some u := by
            intro o1 o2 j u ho hu
            subst ho
            have hj : j = 0 := by
              cases j with
              | zero => rfl
              | succ j => simp at hu
            subst hj
            simp at hu; subst hu
            rw [Addr.add_lit, cell_at (iter_at (wr.alloc o1) _ _ (by simp))]
            rfl
          have HNW := Lib.hid hnew
          clear h4 h3 HA key hnew
          go_wp2_with (first
            | (at_builtin
               refine wpList_append_own _ rfl (.tmp 56) (.tmp 58) _ rfl wr.heap.size 9 i0 (.string ⟨#[]⟩) 1 16 Tryd.underlying24 hi hz0 hz1 hz2 rfl (by decide) (.slice (some ⟨wr.heap.size, 0, none⟩) 0 0) 0 [] rfl (HO.out.alloc _) ⟨wr.heap.size + 1, 0, none⟩ 1 1 [S name] rfl rfl (fun j u hu => HNW.out _ _ j u rfl hu) (by intro u hu; simp at hu; subst hu; rfl) (by unfold maxLen; omega) (by omega) (by simp; omega) ?_
               intro v2 wb own2 gr2 _))
          have own3 : wb.ownsRow wr.heap.size 9 1 v2 [name].length ([name].map S) := own2
          have KB : Kept [] w wb := (((HKK.out.alloc _).alloc _).grown gr2 (fun k hk => by rw [ownBlock_slice] at hk; cases hk; exact hbase))
          have SA := own_strs own3 (by simp)
          have HB := Lib.hid (And.intro SA KB)
          have hmm : ∀ n ∈ [name], n.length ≤ 4611686018427387904 := fun n hn' => by simp at hn'; subst hn'; omega
          have HM := Lib.hid hmm
          clear own2 own3 gr2 KB SA hmm
          cases hnb : WX.nameB name with
          | false =>
            have hjn : WX.joinF [name] = ([], 10) := joinF_no (.inr (by simp [hnb]))
            have HN := Lib.hid (And.intro hnb hjn)
            clear hnb hjn
            refine (join_at v2 _ _ _ wb HN.out.2 HB.out.1 HM.out (HT.out.kept HB.out.2)).mono ?_
            rintro e w6 ⟨rfl, k6⟩
            have H6 := Lib.hid (HB.out.2.trans' k6)
            clear k6
            go_wp2_with (fail)
            refine (name_at name false w6 HN.out.1 (by omega) (HT.out.kept H6.out)).mono ?_
            rintro e w7 ⟨rfl, k7⟩
            have H7 := Lib.hid (H6.out.trans' k7)
            clear k7
            go_wp2
            go_ret
            exact ⟨rfl, H7.out⟩
          | true =>
            have hjn : WX.joinF [name] = (47 :: name, 0) := by
              unfold WX.joinF; rw [if_pos ⟨by simp, by simp [hnb]⟩]; simp [List.intercalate, List.intersperse]
            have HN := Lib.hid (And.intro hnb hjn)
            have hnl := WX.name_len hnb
            clear hnb hjn
            refine (join_at v2 _ _ _ wb HN.out.2 HB.out.1 HM.out (HT.out.kept HB.out.2)).mono ?_
            rintro e w6 ⟨rfl, k6⟩
            have H6 := Lib.hid (HB.out.2.trans' k6)
            clear k6
            go_wp2_with (fail)
            refine (name_at name true w6 HN.out.1 (by omega) (HT.out.kept H6.out)).mono ?_
            rintro e w7 ⟨rfl, k7⟩
            have H7 := Lib.hid (H6.out.trans' k7)
            clear k7
            go_wp2
            go_ret
            exact ⟨rfl, H7.out⟩
        · obtain ⟨ad, rfl⟩ : ∃ ad, p = some ad := by cases p; exact absurd rfl hp; exact ⟨_, rfl⟩
          have hcs : ∀ j u, (l.map S)[j]? = some u → (wr.alloc (.cells #[] 9)).cell? (ad.add j) = some u := by
            intro j u hu
            have hj : j < l.length := by
              rcases Nat.lt_or_ge j l.length with h | h
              · exact h
              · rw [List.getElem?_eq_none (by simpa using h)] at hu; cases hu
            obtain ⟨b, off, e1, hc⟩ := h4 (by intro e; rw [e] at hj; simp at hj)
            cases e1
            have := ((HKK.out.trans' ((Kept.refl [] wr).alloc (.cells #[] 9)))).cellOf (hc j hj)
            rw [getD_eq _ _ _ hj] at this
            rw [List.getElem?_map, List.getElem?_eq_getElem hj] at hu
            cases hu
            rw [Addr.add_lit]; exact this
          have HCS := Lib.hid hcs
          clear hcs h4 h3 hp HA key
          go_wp2_with (first
            | (at_builtin
               refine wpList_append_own _ rfl (.tmp 54) (.tmp 55) _ rfl wr.heap.size 9 i0 (.string ⟨#[]⟩) 1 16 Tryd.underlying24 hi hz0 hz1 hz2 rfl (by decide) (.slice (some ⟨wr.heap.size, 0, none⟩) 0 0) 0 [] rfl HO.out ad l.length cap (l.map S) rfl (by simp) HCS.out (S_one l) (by unfold maxLen; omega) (by omega) (by simp) ?_
               intro v1 wa own1 gr1 _)
            | (at_builtin
               refine wpList_append_own _ rfl (.tmp 56) (.tmp 58) _ rfl wr.heap.size 9 i0 (.string ⟨#[]⟩) 1 16 Tryd.underlying24 hi hz0 hz1 hz2 rfl (by decide) v1 (0 + l.length) ([] ++ l.map S) rfl (own1.alloc _) ⟨wa.heap.size, 0, none⟩ 1 1 [S name] rfl rfl (cell_one_new _ _ _) (by intro u hu; simp at hu; subst hu; rfl) (by unfold maxLen; omega) (by omega) (by have := gr1.size; simp at this ⊢; omega) ?_
               intro v2 wb own2 gr2 _))
          have own3 : wb.ownsRow wr.heap.size 9 1 v2 (l ++ [name]).length ((l ++ [name]).map S) := by
            rw [show (l ++ [name]).length = 0 + l.length + 1 by simp, show (l ++ [name]).map S = [] ++ l.map S ++ [S name] by simp]; exact own2
          have KB : Kept [] w wb := ((((HKK.out.alloc _).grown gr1 (by intro k hk; have := ownBlock_slice wr.heap.size 0 0; rw [this] at hk; cases hk; exact hbase)).alloc _).grown gr2 (fun k hk => by have := (own1.lt k hk).1; omega))
          have SA := own_strs own3 (by simp; omega)
          have HB := Lib.hid (And.intro SA KB)
          have hmm : ∀ n ∈ l ++ [name], n.length ≤ 4611686018427387904 := fun n hn' => by
            rcases List.mem_append.1 hn' with h | h
            · have := HL.out.2 n h; omega
            · simp at h; subst h; omega
          have HM := Lib.hid hmm
          clear own1 own2 own3 gr1 gr2 KB SA hmm
          cases hnb : WX.nameB name with
          | false =>
            have hjn : WX.joinF (l ++ [name]) = ([], 10) := joinF_no (.inr (by simp [hnb]))
            have HN := Lib.hid (And.intro hnb hjn)
            clear hnb hjn
            refine (join_at v2 _ _ _ wb HN.out.2 HB.out.1 HM.out (HT.out.kept HB.out.2)).mono ?_
            rintro e w6 ⟨rfl, k6⟩
            have H6 := Lib.hid (HB.out.2.trans' k6)
            clear k6
            go_wp2_with (fail)
            refine (name_at name false w6 HN.out.1 (by omega) (HT.out.kept H6.out)).mono ?_
            rintro e w7 ⟨rfl, k7⟩
            have H7 := Lib.hid (H6.out.trans' k7)
            clear k7
            go_wp2
            go_ret
            exact ⟨rfl, H7.out⟩
          | true =>
            by_cases h8 : 8 ≤ l.length
            · have hjn : WX.joinF (l ++ [name]) = ([], 10) := joinF_no (.inl (by simp; omega))
              have HN := Lib.hid (And.intro hnb hjn)
              have h8' : (8 : Int) ≤ l.length := by omega
              clear hnb hjn
              refine (join_at v2 _ _ _ wb HN.out.2 HB.out.1 HM.out (HT.out.kept HB.out.2)).mono ?_
              rintro e w6 ⟨rfl, k6⟩
              have H6 := Lib.hid (HB.out.2.trans' k6)
              clear k6
              go_wp2_with (fail)
              refine (name_at name true w6 HN.out.1 (by omega) (HT.out.kept H6.out)).mono ?_
              rintro e w7 ⟨rfl, k7⟩
              have H7 := Lib.hid (H6.out.trans' k7)
              clear k7
              go_wp2
              go_ret
              exact ⟨rfl, H7.out⟩
            · have hjn : WX.joinF (l ++ [name]) = (47 :: [47].intercalate (l ++ [name]), 0) := by
                unfold WX.joinF; rw [if_pos ⟨by simp; omega, by rw [List.all_append, HJ.out.2.1.2]; simp [hnb]⟩]
              have hil : ([47].intercalate (l ++ [name])).length ≤ 25 * (l ++ [name]).length := WX.inter_len _ fun n hn' => by
                rcases List.mem_append.1 hn' with h | h
                · exact WX.name_len (List.all_eq_true.1 HJ.out.2.1.2 n h)
                · simp at h; subst h; exact WX.name_len hnb
              have HN := Lib.hid (And.intro hnb (And.intro hjn (inter_snoc l name)))
              have h8' : ¬ (8 : Int) ≤ l.length := by omega
              clear hnb hjn
              refine (join_at v2 _ _ _ wb HN.out.2.1 HB.out.1 HM.out (HT.out.kept HB.out.2)).mono ?_
              rintro e w6 ⟨rfl, k6⟩
              have H6 := Lib.hid (HB.out.2.trans' k6)
              clear k6
              go_wp2_with (fail)
              refine (name_at name true w6 HN.out.1 (by omega) (HT.out.kept H6.out)).mono ?_
              rintro e w7 ⟨rfl, k7⟩
              have H7 := Lib.hid (H6.out.trans' k7)
              clear k7
              by_cases h0 : l = []
              · have h0' : (l.length : Int) = 0 := by rw [h0]; rfl
                have hb0 : ((l.length : Int) == 0) = true := by simpa using h0'
                have hb1 : ¬ (0 : Int) < l.length := by omega
                have hq := HN.out.2.2.1 h0
                have hqb : ([47].intercalate (l ++ [name]) == name) = true := by rw [hq]; simp
                have hj := HN.out.2.1
                clear h0 h0' hq
                go_wp2
                go_ret
                exact ⟨rfl, H7.out⟩
              · have h0' : (0 : Int) < l.length := by have := List.length_pos_iff.2 h0; omega
                have hq := HN.out.2.2.2 h0
                have hqb : ([47].intercalate (l ++ [name]) == [47].intercalate l ++ 47 :: name) = true := by rw [hq]; simp
                clear h0 hq
                go_wp2
                go_ret
                exact ⟨rfl, H7.out⟩
  · have hjf : WX.joinF l = ([], 10) := by
      unfold WX.joinF at hj ⊢
      split
      · rename_i hc; rw [if_pos hc] at hj; exact absurd rfl hj
      · rfl
    have HJ := Lib.hid hjf
    clear hjf hj hl
    go_enter Tryd.func7, Tryd.ntmps7
    go_wp2_with (fail)
    refine (join_at _ l _ _ w HJ.out HL.out.1 (fun n hn => by have := HL.out.2 n hn; omega) HT.out).mono ?_
    rintro e w1 ⟨rfl, k1⟩
    have H1 := Lib.hid k1
    clear k1
    go_wp2_with (fail)
    refine (fixed_any w1 (HT.out.kept H1.out)).mono ?_
    rintro e w2 ⟨rfl, k2⟩
    have H2 := Lib.hid (H1.out.trans' k2)
    clear k2
    go_wp2_with (fail)
    refine (fixed_any w2 (HT.out.kept H2.out)).mono ?_
    rintro e w3 ⟨rfl, k3⟩
    go_wp2
    go_ret
    exact ⟨rfl, H2.out.trans' k3⟩
end Go.Proofs.YthooohempokchaaDoor
