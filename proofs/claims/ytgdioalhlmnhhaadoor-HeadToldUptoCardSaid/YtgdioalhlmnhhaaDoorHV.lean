/- Walks and lemmas on the program of this seat, used by its statements; each theorem bears its own conditions. -/
import Derived.Test.YtgdioalhlmnhhaaDoorHU
import Derived.Handy
import Derived.Recover
import Derived.IntWalk
import Derived.Deep.CutRange
import Derived.OwnWalk
import Derived.Deep.AppendLies
import Derived.Deep.RegionLaw
namespace Go.Proofs.YtgdioalhlmnhhaaDoor
open Go.RowKit
set_option linter.unusedVariables false
set_option linter.unusedSimpArgs false
set_option maxHeartbeats 8000000
set_option maxRecDepth 100000
/-! ### HeadTold -/
theorem last4 (s : List UInt8) (n : Nat) (h17 : 17 ≤ n) (hn : n ≤ s.length) (h1 : byteAt s (n - 4) = 13) (h2 : byteAt s (n - 3) = 10) (h3 : byteAt s (n - 2) = 13) (h4 : byteAt s (n - 1) = 10) : (s.take n).drop (n - 4) = [13, 10, 13, 10] := by
  have e : n - (n - 4) = 4 := by omega
  rw [List.drop_take, e, drop_byte s (n - 4) (by omega), show n - 4 + 1 = n - 3 by omega, drop_byte s (n - 3) (by omega), show n - 3 + 1 = n - 2 by omega, drop_byte s (n - 2) (by omega), show n - 2 + 1 = n - 1 by omega, drop_byte s (n - 1) (by omega), h1, h2, h3, h4]
  rfl
theorem mem_getD (l : List (List UInt8)) (k : Nat) (h : k < l.length) : l.getD k [] ∈ l := by
  have : l.getD k [] = l[k] := by simp [List.getD, h]
  rw [this]; exact List.getElem_mem _
theorem byteAt_mem (l : List UInt8) (k : Nat) (h : k < l.length) : byteAt l k ∈ l := by rw [byteAt_eq l k h]; exact List.getElem_mem _
theorem ne_int (c : UInt8) (n : Nat) (hn : n < 256) (h : c ≠ UInt8.ofNat n) : ((c.toNat : Int) == (n : Int)) = false := byteAt_neI c n hn h
  where byteAt_neI (c : UInt8) (n : Nat) (hn : n < 256) (h : c ≠ UInt8.ofNat n) : ((c.toNat : Int) == (n : Int)) = false := byte_eqI c n hn false (by simpa using h)
theorem ne58 (c : UInt8) (h : c ≠ 58) : ((c.toNat : Int) == 58) = false := ne_int c 58 (by omega) h
theorem ne32 (c : UInt8) (h : c ≠ 32) : ((c.toNat : Int) == 32) = false := ne_int c 32 (by omega) h
theorem ne9 (c : UInt8) (h : c ≠ 9) : ((c.toNat : Int) == 9) = false := ne_int c 9 (by omega) h
theorem trimF_le (l : List UInt8) : (trimF l).length ≤ l.length := by
  unfold trimF Lib.trimS Lib.trimLeftS Lib.trimRightS
  refine Nat.le_trans (dropWhile_len _ _) ?_
  rw [List.length_reverse]
  exact Nat.le_trans (dropWhile_len _ _) (by simp)
def LenOk (b : Nat) (h : Hd) : Prop := (∀ x ∈ h.ns, x.length ≤ b) ∧ ∀ x ∈ h.vs, x.length ≤ b
theorem turn_len {s : List UInt8} {h h' : Hd} {n n' : Nat} (ho : LenOk s.length h) (ht : turnF s h n = .on h' n') : LenOk s.length h' := by
  obtain ⟨i, hc, _⟩ := turnF_on ht
  unfold turnF at ht
  rw [hc] at ht
  simp only at ht
  split at ht
  · cases ht
  · split at ht
    · split at ht
      · cases ht
      · cases ht; exact ho
    · split at ht
      · cases ht
      · rcases fieldF_cases ((s.drop n).take i) h (n + i + 2) with e | e | ⟨e, _⟩ <;> rw [e] at ht <;> cases ht
        have hl : ((s.drop n).take i).length ≤ s.length := by simp; omega
        refine ⟨fun x hx => ?_, fun x hx => ?_⟩
        · rcases List.mem_append.1 hx with hx | hx
          · exact ho.1 x hx
          · rw [List.mem_singleton.1 hx]
            have := takeWhile_le (· != 58) ((s.drop n).take i)
            unfold lowL nameL; rw [List.length_map]; omega
        · rcases List.mem_append.1 hx with hx | hx
          · exact ho.2 x hx
          · rw [List.mem_singleton.1 hx]
            have := trimF_le (((s.drop n).take i).drop ((nameL ((s.drop n).take i)).length + 1))
            rw [List.length_drop] at this; omega
theorem run_len {s : List UInt8} : ∀ (f : Nat) {h h' : Hd} {n m : Nat}, LenOk s.length h → runF s f h n = .done h' m → LenOk s.length h'
  | 0, _, _, _, _, _, hr => by cases hr
  | f + 1, h, h', n, m, ho, hr => by
    rw [runF_succ] at hr
    cases ht : turnF s h n with
    | fail e => rw [ht] at hr; cases hr
    | done h1 n1 =>
      rw [ht] at hr; cases hr
      obtain ⟨_, _, e1, _⟩ := turnF_done ht
      subst e1; exact ho
    | on h1 n1 => rw [ht] at hr; exact run_len f (turn_len ho ht) hr
theorem parse_len {s : List UInt8} {h : Hd} {m : Nat} (hp : parseF s = .done h m) : LenOk s.length h := run_len 3000 ⟨by simp [zeroH], by simp [zeroH]⟩ hp
theorem toldLaw_any (s : List UInt8) (w : World) (hs : s.length ≤ 1048576) (hT : ML w) :
    Calls Tryd.prog 14 #[S s] w fun e w' => e = .returned (.bool true) ∧ Kept [] w w' := by
  have HML := Lib.hid hT
  clear hT
  have hs' : (s.length : Int) ≤ 1048576 := by omega
  cases hr : parseF s with
  | on a b => exact absurd hr (runF_on _ _ _ _ _ _)
  | fail c =>
    have hce := run_errs 3000 hr
    have hc0 : ((c : Int) != 0) = true := by rw [bne_iff_ne]; omega
    have HR := Lib.hid hr
    clear hr hce
    go_enter Tryd.func14, Tryd.ntmps14
    go_wp2_with (fail)
    refine (parse_any s w (by omega) HML.out _ HR.out).mono ?_
    rintro e w1 hp
    obtain ⟨p1, q1, p2, q2, rfl, k1⟩ := err_at hp
    obtain ⟨A, hA⟩ : ∃ A, w1.alloc (.cells #[I 0, .slice p1 0 q1, .slice p2 0 q2] HdT) = A := ⟨_, rfl⟩
    have HA : Hid (Blk A w1.heap.size #[I 0, .slice p1 0 q1, .slice p2 0 q2] HdT ∧ Kept [] w A) := Lib.hid (by rw [← hA]; exact ⟨heap_new w1 _, k1.alloc _⟩)
    clear hp k1
    go_wp2_with (fail)
    clear hA
    refine (fixed_any A (HML.out.kept HA.out.2)).mono ?_
    rintro e w3 ⟨rfl, k3⟩
    have H3 := Lib.hid (HA.out.2.trans' k3)
    obtain ⟨a0, a1, a2⟩ := cells3 (HA.out.1.kept k3 (by simp))
    clear k3
    go_wp2_with (fail)
    go_ret
    exact ⟨rfl, H3.out⟩
  | done h n =>
    obtain ⟨hok, g1, g2, g3, g4, g5, g6, g7, g8, g9⟩ := parse_ok hr
    have hl4 := last4 s n g3 g5 g6 g7 g8 g9
    have f1 : ¬ (h.st : Int) < 100 := by omega
    have f2 : ¬ (h.st : Int) > 599 := by omega
    have f3 : ¬ (h.ns.length : Int) > 32 := by have := hok.few; omega
    have f4 : ((h.ns.length : Int) != (h.vs.length : Int)) = false := by rw [bne_nat, hok.same]; simp
    have f5 : ¬ (n : Int) < 17 := by omega
    have f6 : ¬ (n : Int) > 2048 := by omega
    have f7 : ¬ (n : Int) > s.length := by omega
    have f8 : (0 : Int) ≤ (n : Int) - 4 := by omega
    have f9 : ((n : Int) - 4).toNat = n - 4 := by omega
    have f10 : (n : Int) - 4 ≤ n := by omega
    have f11 : (n : Int) ≤ s.length := by omega
    have HR := Lib.hid hr
    have HOK := Lib.hid hok
    have HLE := Lib.hid (parse_len hr)
    have hvl : (h.vs.length : Int) ≤ 32 := by have := hok.few; have := hok.same; omega
    have hnl : (h.ns.length : Int) ≤ 32 := by have := hok.few; omega
    clear hr hok g1 g2 g3 g4 g5 g6 g7 g8 g9
    go_enter Tryd.func14, Tryd.ntmps14
    go_wp2_with (fail)
    refine (parse_any s w (by omega) HML.out _ HR.out).mono ?_
    rintro e w1 hp
    obtain ⟨p1, q1, p2, q2, rfl, o1, o2, k1⟩ := @parse_at [] _ _ _ _ _ hp
    obtain ⟨A, hA⟩ : ∃ A, w1.alloc (.cells #[I h.st, .slice p1 h.ns.length q1, .slice p2 h.vs.length q2] HdT) = A := ⟨_, rfl⟩
    have HA : Hid (HeadAt w.heap.size A w1.heap.size h p1 q1 p2 q2 ∧ Kept [] w A) := Lib.hid (by rw [← hA]; exact ⟨HeadAt.new o1 o2, k1.alloc _⟩)
    clear hp k1 o1 o2
    go_wp2_with (fail)
    clear hA
    refine (fixed_any A (HML.out.kept HA.out.2)).mono ?_
    rintro e w3 ⟨rfl, k3⟩
    have H3 : Hid (HeadAt w.heap.size w3 w1.heap.size h p1 q1 p2 q2 ∧ Kept [] w w3) := Lib.hid ⟨HA.out.1.kept k3, HA.out.2.trans' k3⟩
    obtain ⟨a0, a1, a2⟩ := cells3 H3.out.1.blk
    clear k3
    go_wp2_with (fail)
    (try (rename (_ ∧ ¬ s.length < n) => e1; clear e1))
    (try (rename (4 : Int) ≤ (n : Int) => e2; clear e2))
    (try (rename n ≤ s.length => e3; clear e3))
    have HNL := Lib.hid (And.intro hnl hvl)
    clear f1 f2 f3 f4 f5 f6 f7 f8 f9 f10 f11 hl4 a0 a1 a2 hnl hvl
    go_loopw [6, 7, 8, 9, 10, 11] (fun i _ _ _ _ _ wr => ∃ k : Nat, k ≤ h.ns.length ∧ i = I k ∧ Kept [] w3 wr) (fun i _ _ _ _ _ _ => h.ns.length - (intOf i).toNat)
    case atStart => exact ⟨0, by omega, rfl, Kept.refl _ _⟩
    case round =>
      obtain ⟨k, hk, rfl, hkw⟩ := hrel
      have HW := Lib.hid (And.intro (H3.out.1.kept hkw) hkw)
      clear hkw
      obtain ⟨a0, a1, a2⟩ := cells3 HW.out.1.blk
      by_cases hkn : k < h.ns.length
      · have hkn' : (k : Int) < h.ns.length := by omega
        have hkv : k < h.vs.length := by have := HOK.out.same; omega
        have hkv' : (k : Int) < h.vs.length := by omega
        obtain ⟨_, _, e1, _, t1⟩ := HW.out.1.o1.texts (by have h5 := HNL.out.1; have h6 := HNL.out.2; omega)
        obtain ⟨_, _, e2, _, t2⟩ := HW.out.1.o2.texts (by have h5 := HNL.out.1; have h6 := HNL.out.2; omega)
        cases e1
        cases e2
        obtain ⟨b1, s1, rfl, d1⟩ := t1 (by intro e; rw [e] at hkn; simp at hkn)
        obtain ⟨b2, s2, rfl, d2⟩ := t2 (by intro e; rw [e] at hkv; simp at hkv)
        have c1 := d1 k hkn
        have c2 := d2 k hkv
        have hno := HOK.out.names _ (mem_getD h.ns k hkn)
        have hvo := HOK.out.vals _ (mem_getD h.vs k hkv)
        have hga := get_at h.ns h.vs k hkn HOK.out.same
        obtain ⟨x, hx⟩ : ∃ x, h.ns.getD k [] = x := ⟨_, rfl⟩
        obtain ⟨y, hy⟩ : ∃ y, h.vs.getD k [] = y := ⟨_, rfl⟩
        have hxl0 := HLE.out.1 _ (mem_getD h.ns k hkn)
        have hyl0 := HLE.out.2 _ (mem_getD h.vs k hkv)
        rw [hx] at c1 hno hga hxl0
        rw [hy] at c2 hvo hga hyl0
        have hlx : (x.length : Int) ≤ 1048576 := by omega
        have hly : (y.length : Int) ≤ 1048576 := by omega
        clear hxl0 hyl0
        obtain ⟨G, hG⟩ : ∃ G, getF h.ns h.vs x = G := ⟨_, rfl⟩
        rw [hG] at hga
        obtain ⟨G1, G2⟩ := G
        have HG := Lib.hid (And.intro hG hga)
        have HNO := Lib.hid hno
        have HVO := Lib.hid hvo
        have hxe : (x == []) = false := by have := hno.1; simpa using this
        have hxe2 : x.isEmpty = false := by have := hno.1; simpa using this
        clear d1 d2 t1 t2 hx hy hG hga hno hvo
        go_wp2_with (fail)
        go_loop [7, 8] (fun j _ => ∃ m : Nat, m ≤ x.length ∧ j = I m) (fun j _ => x.length - (intOf j).toNat)
        case atStart => exact ⟨0, by omega, rfl⟩
        case round =>
          obtain ⟨m, hm, rfl⟩ := hrel
          by_cases hmx : m < x.length
          · have hmx' : (m : Int) < x.length := by omega
            obtain ⟨c, hc⟩ : ∃ c, byteAt x m = c := ⟨_, rfl⟩
            have hcc := HNO.out.2 c (by rw [← hc]; exact byteAt_mem x m hmx)
            have hc1 : ¬ (c.toNat : Int) ≤ 32 := by omega
            have hc2 : ¬ (c.toNat : Int) ≥ 127 := by omega
            have hc3 := ne58 c hcc.2.2.2
            have hc4 : ¬ (65 ≤ c.toNat ∧ c.toNat ≤ 90) := hcc.1
            by_cases h65 : (c.toNat : Int) ≥ 65
            · have h90 : ¬ (c.toNat : Int) ≤ 90 := by omega
              clear hcc hc4
              go_wp2_with (fail)
              go_round
              case rel => exact ⟨m + 1, by omega, by go_num⟩
              case measure => simp [intOf]; omega
            · clear hcc hc4
              go_wp2_with (fail)
              go_round
              case rel => exact ⟨m + 1, by omega, by go_num⟩
              case measure => simp [intOf]; omega
          · have hmx' : ¬ (m : Int) < x.length := by omega
            have HST := Lib.hid (StrsAt.of_texts (HW.out.1.o1.texts (by have h5 := HNL.out.1; have h6 := HNL.out.2; omega)))
            have HSV := Lib.hid (StrsAt.of_texts (HW.out.1.o2.texts (by have h5 := HNL.out.1; have h6 := HNL.out.2; omega)))
            have HGt : Hid (∀ W : World, Kept [] wr W → Calls Tryd.prog 45 #[.agg #[I h.st, .slice (some ⟨b1, s1, none⟩) h.ns.length q1, .slice (some ⟨b2, s2, none⟩) h.vs.length q2], S x] W fun e w' => e = .returned (.tuple #[S G1, I G2]) ∧ Kept [] W w') := Lib.hid (fun W kW => by
              have := get_any h.st _ _ h.ns h.vs x W (HST.out.kept kW) (HSV.out.kept kW)
              rw [HG.out.1] at this; exact this)
            have hG2 : ¬ (G2 : Int) < 1 := by have := HG.out.2.1; omega
            go_upto_region 20 with (fail)
            go_cut [166] from 139 to 166 (fun v wx => v = .bool false ∧ wr = wx)
            case first =>
              by_cases hye : y = []
              · subst hye
                go_wp2_with (fail)
                all_goals (go_meet; exact ⟨rfl, rfl⟩)
              · obtain ⟨y1, y2, y3, y4⟩ := HVO.out hye
                have z1 := ne32 _ y1
                have z2 := ne9 _ y2
                have z3 := ne32 _ y3
                have z4 := ne9 _ y4
                have hyp : 0 < y.length := List.length_pos_iff.2 hye
                have hyp' : (0 : Int) < y.length := by omega
                have hyn : (y != []) = true := by simpa using hye
                have hyn2 : (!y.isEmpty) = true := by simpa using hye
                have w1' : ((y.length : Int) - 1).toNat = y.length - 1 := by omega
                have w2' : (0 : Int) ≤ (y.length : Int) - 1 := by omega
                clear hye y1 y2 y3 y4
                go_wp2_with (fail)
                all_goals (go_meet; exact ⟨rfl, rfl⟩)
            case rest =>
              obtain ⟨rfl, hwc⟩ := hcut
              replace hwc := hwc.symm
              subst hwc
              by_cases hg1 : G2 = 1
              · have hgy := HG.out.2.2 hg1
                subst hg1 hgy
                go_wp2_with (fail)
                go_region_with ((go_at_call 45; (with_reducible refine (HGt.out _ ((Kept.refl _ _).drew)).mono ?_); rintro r w5 ⟨rfl, k5⟩; have H5 := Lib.hid k5; clear k5))
                all_goals
                  go_wp2
                  go_roundw
                  case rel => exact ⟨k + 1, by omega, by go_num, (HW.out.2.drew).trans' H5.out⟩
                  case measure => (simp [intOf]; omega)
              · have hg1b : ((G2 : Int) == 1) = false := by rw [beq_eq_false_iff_ne]; omega
                clear hg1
                go_wp2_with (fail)
                go_region_with ((go_at_call 45; (with_reducible refine (HGt.out _ ((Kept.refl _ _).drew)).mono ?_); rintro r w5 ⟨rfl, k5⟩; have H5 := Lib.hid k5; clear k5))
                all_goals
                  go_wp2
                  go_roundw
                  case rel => exact ⟨k + 1, by omega, by go_num, (HW.out.2.drew).trans' H5.out⟩
                  case measure => (simp [intOf]; omega)
      · have hkn' : ¬ (k : Int) < h.ns.length := by omega
        go_wp2_with (fail)
        go_ret
        exact ⟨rfl, H3.out.2.trans' HW.out.2⟩
end Go.Proofs.YtgdioalhlmnhhaaDoor
