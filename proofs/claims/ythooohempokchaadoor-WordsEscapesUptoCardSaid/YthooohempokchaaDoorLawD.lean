/- Walks and lemmas on the program of this seat, used by its statements; each theorem bears its own conditions. -/
import Derived.Test.YthooohempokchaaDoorLawC
import Derived.OwnWalk
namespace Go.Proofs.YthooohempokchaaDoor
open Go.RowKit
set_option linter.unusedVariables false
set_option linter.unusedSimpArgs false
theorem pieces_none (a : List UInt8) (h : ∀ x ∈ a, x ≠ 47) : WX.pieces 47 a = [a] := by
  have := WX.pieces_clean 47 a [] h
  rw [List.append_nil] at this
  rw [this]; simp [WX.pieces]
theorem pieces_cut (a r : List UInt8) (h : ∀ x ∈ a, x ≠ 47) : WX.pieces 47 (a ++ 47 :: r) = a :: WX.pieces 47 r := by
  rw [WX.pieces_clean 47 a _ h]
  conv => lhs; unfold WX.pieces
  rw [if_pos rfl]; simp
theorem seg_cut (s : List UInt8) (f i : Nat) (hf : f ≤ i) (hi : i < s.length) (h : byteAt s i = 47) : s.drop f = (s.take i).drop f ++ 47 :: s.drop (i + 1) := by
  have h1 : s.drop i = 47 :: s.drop (i + 1) := by
    rw [List.drop_eq_getElem_cons hi, ← byteAt_eq s i hi, h]
  have h2 : s = s.take i ++ s.drop i := (List.take_append_drop i s).symm
  conv => lhs; rw [h2]
  rw [List.drop_append_of_le_length (by rw [List.length_take]; omega), h1]
theorem seg_snoc (s : List UInt8) (f i : Nat) (hf : f ≤ i) (hi : i < s.length) : (s.take (i + 1)).drop f = (s.take i).drop f ++ [byteAt s i] := by
  rw [take_byteAt s i hi, List.drop_append_of_le_length (by rw [List.length_take]; omega)]
/-- Where the reference's loop stands. -/
def PathAt (s : List UInt8) (i f : Nat) (ps : List (List UInt8)) : Prop :=
  (i ≤ s.length ∧ 1 ≤ f ∧ f ≤ i ∧ (∀ x ∈ (s.take i).drop f, x ≠ 47) ∧ ps ++ WX.pieces 47 (s.drop f) = WX.pieces 47 (s.drop 1)) ∨ (i = s.length + 1 ∧ f = s.length + 1 ∧ ps = WX.pieces 47 (s.drop 1))
theorem PathAt.len {s : List UInt8} {i f : Nat} {ps : List (List UInt8)} (h : PathAt s i f ps) : ps.length ≤ (WX.pieces 47 (s.drop 1)).length := by
  rcases h with ⟨_, _, _, _, h⟩ | ⟨_, _, h⟩
  · have := congrArg List.length h; rw [List.length_append] at this; omega
  · rw [h]; exact Nat.le_refl _
theorem PathAt.mem {s : List UInt8} {i f : Nat} {ps : List (List UInt8)} (h : PathAt s i f ps) : ∀ p ∈ ps, p.length ≤ s.length := by
  intro p hp
  have : p ∈ WX.pieces 47 (s.drop 1) := by
    rcases h with ⟨_, _, _, _, h⟩ | ⟨_, _, h⟩
    · rw [← h]; exact List.mem_append_left _ hp
    · rw [← h]; exact hp
  have := pieces_mem _ p this
  rw [List.length_drop] at this; omega
theorem PathAt.last {s : List UInt8} {f : Nat} {ps : List (List UInt8)} (h : PathAt s s.length f ps) : PathAt s (s.length + 1) (s.length + 1) (ps ++ [(s.take s.length).drop f]) := by
  rcases h with ⟨_, _, _, h4, h5⟩ | ⟨h, _, _⟩
  · refine .inr ⟨rfl, rfl, ?_⟩
    rw [List.take_length] at h4 ⊢
    rw [pieces_none _ h4] at h5; exact h5
  · omega
theorem PathAt.cut {s : List UInt8} {i f : Nat} {ps : List (List UInt8)} (h : PathAt s i f ps) (hi : i < s.length) (h47 : byteAt s i = 47) : PathAt s (i + 1) (i + 1) (ps ++ [(s.take i).drop f]) := by
  rcases h with ⟨h1, h2, h3, h4, h5⟩ | ⟨h, _, _⟩
  · refine .inl ⟨hi, by omega, Nat.le_refl _, by simp, ?_⟩
    rw [seg_cut s f i h3 hi h47, pieces_cut _ _ h4] at h5
    rw [← h5]; simp
  · omega
theorem PathAt.go {s : List UInt8} {i f : Nat} {ps : List (List UInt8)} (h : PathAt s i f ps) (hi : i < s.length) (h47 : byteAt s i ≠ 47) : PathAt s (i + 1) f ps := by
  rcases h with ⟨h1, h2, h3, h4, h5⟩ | ⟨h, _, _⟩
  · refine .inl ⟨hi, h2, by omega, ?_, h5⟩
    intro x hx
    rw [seg_snoc s f i h3 hi] at hx
    rcases List.mem_append.1 hx with hx | hx
    · exact h4 x hx
    · simp at hx; subst hx; exact h47
  · omega
/-- What the reference's Path comes to. -/
theorem path_ref {s : List UInt8} {i f : Nat} {ps : List (List UInt8)} (h : PathAt s i f ps) (h47 : s ≠ [47]) (h0 : s ≠ []) (he : i = s.length + 1 ∨ 10 ≤ ps.length) :
    ((WX.joinF ps).2 = 0 ∧ (WX.joinF ps).1 = s → WX.pathF s = some ps) ∧ (¬ ((WX.joinF ps).2 = 0 ∧ (WX.joinF ps).1 = s) → WX.pathF s = none) := by
  rcases he with he | he
  · have hp : ps = WX.pieces 47 (s.drop 1) := by
      rcases h with ⟨h1, _⟩ | ⟨_, _, h⟩
      · omega
      · exact h
    refine ⟨fun ⟨h1, h2⟩ => by rw [← h2]; exact WX.path_join h1, fun hn => ?_⟩
    cases hc : WX.pathF s with
    | none => rfl
    | some ns =>
      exfalso
      have hj := WX.join_path hc
      have : ns = ps := by
        unfold WX.pathF at hc
        rw [if_neg h47] at hc
        split at hc
        · cases hc; exact hp.symm
        · cases hc
      rw [this] at hj
      apply hn; rw [hj]; exact ⟨rfl, rfl⟩
  · have hl := h.len
    have hno : WX.joinF ps = ([], 10) := joinF_no (.inl (by omega))
    refine ⟨fun ⟨h1, _⟩ => by rw [hno] at h1; simp at h1, fun _ => path_no h47 (.inr (.inl (by omega)))⟩
def RPathPost (w : World) (res : Option (List (List UInt8))) (e : Ending) (w' : World) : Prop :=
  (match res with | none => e = .returned (.tuple #[.slice none 0 0, I 10]) | some ns => ∃ v, e = .returned (.tuple #[v, I 0]) ∧ StrsAt w' v ns) ∧ Kept [] w w'
theorem RPathPost.no {w w' : World} {res : Option (List (List UInt8))} (h : res = none) (k : Kept [] w w') : RPathPost w res (.returned (.tuple #[.slice none 0 0, I 10])) w' := by subst h; exact ⟨rfl, k⟩
theorem RPathPost.yes {w w' : World} {res : Option (List (List UInt8))} {ns : List (List UInt8)} {v : Value} (h : res = some ns) (hn : StrsAt w' v ns) (k : Kept [] w w') : RPathPost w res (.returned (.tuple #[v, I 0])) w' := by subst h; exact ⟨⟨v, rfl, hn⟩, k⟩
set_option maxHeartbeats 4000000 in
set_option maxRecDepth 100000 in
theorem rpath_any (s : List UInt8) (w : World) (hs : s.length ≤ 1048576) :
    Calls Tryd.prog 15 #[S s] w (RPathPost w (WX.pathF s)) := by
  obtain ⟨i0, hi, hz0, hz1, hz2⟩ := info_parts str_info
  have hsl : (s.length : Int) ≤ 1048576 := by omega
  by_cases h0 : s = []
  · subst h0
    have hf : Hid (WX.pathF [] = none) := by unfold Hid; rfl
    have HO := own_strs (ss := []) (own_empty w 9) (by simp)
    have HO2 := Lib.hid HO
    clear HO
    go_enter Tryd.func15, Tryd.ntmps15
    go_wp2
    go_loop [4, 5, 6] (fun v f i => i = I 1 ∧ f = I 1 ∧ v = .slice (some ⟨w.heap.size, 0, none⟩) 0 0) (fun _ _ _ => 0)
    case atStart => exact ⟨rfl, rfl, rfl⟩
    case round =>
      obtain ⟨rfl, rfl, rfl⟩ := hrel
      go_wp2_with (fail)
      refine (rjoin_any _ [] _ HO2.out (by simp)).mono ?_
      rintro e w1 ⟨rfl, k1⟩
      rw [show WX.joinF [] = ([47], 0) from rfl]
      go_wp2
      go_ret2
      exact RPathPost.no hf.out (((Kept.refl _ _).alloc _).trans' k1)
  by_cases h47 : s = [47]
  · subst h47
    have hf : Hid (WX.pathF [47] = some []) := by unfold Hid; rfl
    have HO := own_strs (ss := []) (own_empty w 9) (by simp)
    have HO2 := Lib.hid HO
    clear HO h0
    go_enter Tryd.func15, Tryd.ntmps15
    go_wp2
    go_loop [4, 5, 6] (fun v f i => i = I 1 ∧ f = I 1 ∧ v = .slice (some ⟨w.heap.size, 0, none⟩) 0 0) (fun _ _ _ => 0)
    case atStart => exact ⟨rfl, rfl, rfl⟩
    case round =>
      obtain ⟨rfl, rfl, rfl⟩ := hrel
      go_wp2_with (fail)
      refine (rjoin_any _ [] _ HO2.out (by simp)).mono ?_
      rintro e w1 ⟨rfl, k1⟩
      rw [show WX.joinF [] = ([47], 0) from rfl]
      go_wp2
      go_ret2
      exact RPathPost.yes hf.out (HO2.out.kept k1) (((Kept.refl _ _).alloc _).trans' k1)
  have e47 : (s == [47]) = false := by simpa using h47
  have hpos : (1 : Int) ≤ s.length := by have := List.length_pos_iff.2 h0; omega
  have HN := Lib.hid (And.intro h0 h47)
  have HO := Lib.hid (own_empty w 9)
  have HST : Hid (PathAt s 1 1 []) := .inl ⟨by omega, Nat.le_refl _, Nat.le_refl _, by intro x hx; simp at hx, rfl⟩
  clear h0 h47
  go_enter Tryd.func15, Tryd.ntmps15
  go_wp2
  go_loopw [4, 5, 6] (fun v f i wr => ∃ (k g : Nat) (ps : List (List UInt8)) (p : Option Addr) (c : Nat), i = I k ∧ f = I g ∧ v = .slice p ps.length c ∧ 1 ≤ k ∧ PathAt s k g ps ∧ ps.length ≤ 10 ∧ wr.ownsRow w.heap.size 9 1 (.slice p ps.length c) ps.length (ps.map S) ∧ Kept [] w wr) (fun _ _ i _ => s.length + 2 - (intOf i).toNat)
  case atStart => exact ⟨1, 1, [], _, 0, rfl, rfl, rfl, Nat.le_refl _, HST.out, by simp, HO.out, (Kept.refl _ _).alloc _⟩
  case round =>
    obtain ⟨k, g, ps, p, c, rfl, rfl, rfl, hk1, hpa, hpl, hown, hkw⟩ := hrel
    have hpl' : (ps.length : Int) ≤ 10 := by omega
    have hkl : k ≤ s.length + 1 := by rcases hpa with h | h; exact Nat.le_succ_of_le h.1; omega
    have HK := Lib.hid (And.intro hpa (And.intro hown hkw))
    have Z := hkw.size
    clear hpa hown hkw
    by_cases hgo : k ≤ s.length ∧ ps.length < 10
    · obtain ⟨hks, hp10⟩ := hgo
      have hks' : (k : Int) ≤ s.length := by omega
      have hp10' : (ps.length : Int) < 10 := by omega
      have hgk : 1 ≤ g ∧ g ≤ k := by rcases HK.out.1 with h | h; exact ⟨h.2.1, h.2.2.1⟩; omega
      have hgk' : (g : Int) ≤ k := by omega
      obtain ⟨hg1, hg2⟩ := hgk
      have app : ∀ (x : List UInt8) (k' g' : Nat), PathAt s k' g' (ps ++ [x]) → 1 ≤ k' → ∀ (v' : Value) (w' : World), w'.ownsRow w.heap.size 9 1 v' (ps.length + 1) (ps.map S ++ [S x]) → (wr.alloc (.cells #[S x] 9)).grownBy w' (Value.slice p ps.length c).ownBlock →
          ∃ (k g : Nat) (ps : List (List UInt8)) (p : Option Addr) (c : Nat), I k' = I k ∧ I g' = I g ∧ v' = .slice p ps.length c ∧ 1 ≤ k ∧ PathAt s k g ps ∧ ps.length ≤ 10 ∧ w'.ownsRow w.heap.size 9 1 (.slice p ps.length c) ps.length (ps.map S) ∧ Kept [] w w' := by
        intro x k' g' h1 h2 v' w' h3 h4
        have h5 : w'.ownsRow w.heap.size 9 1 v' (ps ++ [x]).length ((ps ++ [x]).map S) := by
          rw [show (ps ++ [x]).length = ps.length + 1 by simp, show (ps ++ [x]).map S = ps.map S ++ [S x] by simp]; exact h3
        obtain ⟨p', c', e, _⟩ := own_strs h5 (by simp; omega)
        subst e
        refine ⟨k', g', ps ++ [x], p', c', rfl, rfl, rfl, h2, h1, by simp; omega, h5, (HK.out.2.2.alloc _).grown h4 (fun q hq => (HK.out.2.1.lt q hq).1)⟩
      have APP := Lib.hid app
      clear app
      by_cases hl : k = s.length
      · subst hl
        have hlb : ((s.length : Int) == s.length) = true := by simp
        have hla0 := HK.out.1.last
        rw [List.take_length] at hla0
        have hla := Lib.hid hla0
        clear hla0
        go_wp2_with (at_builtin
                     refine wpList_append_own _ rfl (.tmp 35) (.tmp 40) _ rfl w.heap.size 9 i0 (.string ⟨#[]⟩) 1 16 Tryd.underlying24 hi hz0 hz1 hz2 rfl (by decide) (.slice p ps.length c) ps.length (ps.map S) rfl (HK.out.2.1.alloc _) ⟨wr.heap.size, 0, none⟩ 1 1 [S _] rfl rfl (cell_one_new _ _ _) (by intro u hu; simp at hu; subst hu; rfl) (by unfold maxLen; omega) (by omega) (by simp; omega) ?_
                     intro v1 wa own1 gr1 _)
        go_roundw
        case rel =>
          obtain ⟨k', g', ps', p', c', e1, e2, rest⟩ := APP.out _ _ _ hla.out (by omega) v1 wa own1 gr1
          exact ⟨k', g', ps', p', c', by rw [← e1]; go_num, by rw [← e2]; go_num, rest⟩
        case measure => (simp [intOf]; try omega)
      · have hlb : ((k : Int) == s.length) = false := by simp; omega
        have hkl' : (k : Int) < s.length := by omega
        have hklt : k < s.length := by omega
        by_cases h7 : byteAt s k = 47
        · have hb7 : (((byteAt s k).toNat : Int) == 47) = true := by rw [h7]; rfl
          have hla := Lib.hid (HK.out.1.cut hklt h7)
          clear h7
          go_wp2_with (at_builtin
                       refine wpList_append_own _ rfl (.tmp 35) (.tmp 40) _ rfl w.heap.size 9 i0 (.string ⟨#[]⟩) 1 16 Tryd.underlying24 hi hz0 hz1 hz2 rfl (by decide) (.slice p ps.length c) ps.length (ps.map S) rfl (HK.out.2.1.alloc _) ⟨wr.heap.size, 0, none⟩ 1 1 [S _] rfl rfl (cell_one_new _ _ _) (by intro u hu; simp at hu; subst hu; rfl) (by unfold maxLen; omega) (by omega) (by simp; omega) ?_
                       intro v1 wa own1 gr1 _)
          go_roundw
          case rel =>
            obtain ⟨k', g', ps', p', c', e1, e2, rest⟩ := APP.out _ _ _ hla.out (by omega) v1 wa own1 gr1
            exact ⟨k', g', ps', p', c', by rw [← e1]; go_num, by rw [← e2]; go_num, rest⟩
          case measure => (simp [intOf]; try omega)
        · have hb7 : (((byteAt s k).toNat : Int) == 47) = false := by
            rw [beq_eq_false_iff_ne]; intro h; apply h7; rw [← UInt8.toNat_inj]; have : (47 : UInt8).toNat = 47 := rfl; omega
          have hla := Lib.hid (HK.out.1.go hklt h7)
          clear h7
          go_wp2
          go_roundw
          case rel => exact ⟨k + 1, g, ps, p, c, by go_num, rfl, rfl, by omega, hla.out, hpl, HK.out.2.1, HK.out.2.2⟩
          case measure => (simp [intOf]; try omega)
    · have hend : k = s.length + 1 ∨ 10 ≤ ps.length := by omega
      have hmem : ∀ n ∈ ps, n.length ≤ 4611686018427387904 := fun n hn => by have := HK.out.1.mem n hn; omega
      have SA := own_strs HK.out.2.1 (by omega)
      obtain ⟨py, pn⟩ := path_ref HK.out.1 HN.out.2 HN.out.1 hend
      obtain ⟨o, hj⟩ : ∃ o, WX.joinF ps = o := ⟨_, rfl⟩
      obtain ⟨o, e⟩ := o
      rw [hj] at py pn
      have rj := rjoin_any (.slice p ps.length c) ps wr SA hmem
      rw [hj] at rj
      have HH := Lib.hid (And.intro py (And.intro pn (And.intro SA rj)))
      clear py pn SA hj rj hmem hend
      simp only at *
      by_cases hks : k ≤ s.length
      · have hks' : (k : Int) ≤ s.length := by omega
        have hp10 : ¬ (ps.length : Int) < 10 := by omega
        by_cases he : e = 0
        · by_cases ho : o = s
          · have hob : (o == s) = true := by simpa using ho
            have hf := Lib.hid (HH.out.1 ⟨he, ho⟩)
            subst he
            clear ho hgo
            go_wp2_with (fail)
            refine HH.out.2.2.2.mono ?_
            rintro e w1 ⟨rfl, k1⟩
            go_wp2
            go_ret2
            exact RPathPost.yes hf.out (HH.out.2.2.1.kept k1) (HK.out.2.2.trans' k1)
          · have hob : (o == s) = false := by simpa using ho
            have hf := Lib.hid (HH.out.2.1 (fun h => ho h.2))
            subst he
            clear ho hgo
            go_wp2_with (fail)
            refine HH.out.2.2.2.mono ?_
            rintro e w1 ⟨rfl, k1⟩
            go_wp2
            go_ret2
            exact RPathPost.no hf.out (HK.out.2.2.trans' k1)
        · have heb : (e == 0) = false := by simpa using he
          have heb2 : (e != 0) = true := by simpa using he
          have hf := Lib.hid (HH.out.2.1 (fun h => he h.1))
          clear he hgo
          go_wp2_with (fail)
          refine HH.out.2.2.2.mono ?_
          rintro e w1 ⟨rfl, k1⟩
          go_wp2
          go_ret2
          exact RPathPost.no hf.out (HK.out.2.2.trans' k1)
      · have hks' : ¬ (k : Int) ≤ s.length := by omega
        by_cases he : e = 0
        · by_cases ho : o = s
          · have hob : (o == s) = true := by simpa using ho
            have hf := Lib.hid (HH.out.1 ⟨he, ho⟩)
            subst he
            clear ho hgo
            go_wp2_with (fail)
            refine HH.out.2.2.2.mono ?_
            rintro e w1 ⟨rfl, k1⟩
            go_wp2
            go_ret2
            exact RPathPost.yes hf.out (HH.out.2.2.1.kept k1) (HK.out.2.2.trans' k1)
          · have hob : (o == s) = false := by simpa using ho
            have hf := Lib.hid (HH.out.2.1 (fun h => ho h.2))
            subst he
            clear ho hgo
            go_wp2_with (fail)
            refine HH.out.2.2.2.mono ?_
            rintro e w1 ⟨rfl, k1⟩
            go_wp2
            go_ret2
            exact RPathPost.no hf.out (HK.out.2.2.trans' k1)
        · have heb : (e == 0) = false := by simpa using he
          have heb2 : (e != 0) = true := by simpa using he
          have hf := Lib.hid (HH.out.2.1 (fun h => he h.1))
          clear he hgo
          go_wp2_with (fail)
          refine HH.out.2.2.2.mono ?_
          rintro e w1 ⟨rfl, k1⟩
          go_wp2
          go_ret2
          exact RPathPost.no hf.out (HK.out.2.2.trans' k1)
end Go.Proofs.YthooohempokchaaDoor
