/- Walks and lemmas on the program of this seat, used by its statements; each theorem bears its own conditions. -/
import Derived.Test.YthooohempokchaaDoorLawE
import Derived.OwnWalk
import Derived.Deep.AppendLies
import Derived.Deep.RegionLaw
import Derived.Lib.AppendStr
import Derived.IntWalk
namespace Go.Proofs.YthooohempokchaaDoor
open Go.RowKit
set_option linter.unusedVariables false
set_option linter.unusedSimpArgs false
/-! ### The reference's Escape -/
theorem byte_info : (Tryd.prog.info? 5).map (fun i => (i.zero, i.size, i.bytes)) = some (some (.int .u8 0), 1, 1) := by kernel_rfl
def OwnB (B : Nat) (v : Value) (l : List UInt8) (w : World) : Prop := ∃ p c, v = .slice p l.length c ∧ w.ownsRow B 5 1 (.slice p l.length c) l.length (Lib.byteCells l)
theorem OwnB.of {B : Nat} {v : Value} {l : List UInt8} {w : World} {n : Nat} {xs : List Value} (h : w.ownsRow B 5 1 v n xs) (hn : n = l.length) (hx : xs = Lib.byteCells l) : OwnB B v l w := by
  subst hn; subst hx
  rcases h.2 with ⟨rfl, h0⟩ | ⟨g, cap, cur, rfl, _⟩
  · have : l = [] := List.eq_nil_of_length_eq_zero h0
    subst this; exact ⟨none, 0, rfl, h⟩
  · exact ⟨_, _, rfl, h⟩
theorem B_one (l : List UInt8) : ∀ u ∈ Lib.byteCells l, u.oneCell' = true := by
  intro u hu
  obtain ⟨x, _, rfl⟩ := List.mem_map.1 hu
  rfl
theorem cells_bytes (l : List UInt8) : l.map (fun c : UInt8 => Value.int .u8 (c.toNat : Int)) = Lib.byteCells l := rfl
theorem not_ok_high (l : List UInt8) (p : Nat) (hp : p < l.length) (h : WX.isOk (l.drop p) = false) : 128 ≤ (byteAt l p).toNat := by
  have hne := drop_ne hp
  have e : byteAt l p = byteAt (l.drop p) 0 := by rw [byteAt_drop]; rfl
  rcases WX.dec_cases (l.drop p) hne with ⟨a, t', e0, h1, e⟩ | ⟨a, b, t', e0, h1, h2, h3, e⟩ | ⟨a, b, d, t', e0, h1, h2, h3, h4, h5, e⟩ | ⟨a, b, d, d', t', e0, h1, h2, h3, h4, h5, h6, e⟩ | ⟨_, h1, _⟩
  · rw [WX.isOk_of e (by omega)] at h; cases h
  · rw [WX.isOk_of e (by omega)] at h; cases h
  · rw [WX.isOk_of e (by omega)] at h; cases h
  · rw [WX.isOk_of e (by omega)] at h; cases h
  · rw [e]; exact h1
theorem escL_at (l : List UInt8) (p : Nat) (hp : p < l.length) (h : ¬ (WX.isOk (l.drop p) = true ∧ WX.plainN (WX.dec (l.drop p)).1 = true)) : WX.escL (l.drop p) = WX.escB (byteAt l p) ++ WX.escL (l.drop (p + 1)) := by
  have e : l.drop p = byteAt l p :: l.drop (p + 1) := by rw [List.drop_eq_getElem_cons hp, byteAt_eq l p hp]
  rw [e] at h ⊢
  exact WX.escL_byte _ _ h
theorem escB_92 {c : UInt8} (h : c.toNat = 92) : WX.escB c = [92, 92] := by unfold WX.escB; rw [if_pos h]
theorem escB_10 {c : UInt8} (h : c.toNat = 10) : WX.escB c = [92, 110] := by unfold WX.escB; rw [if_neg (by omega), if_pos h]
theorem escB_else {c : UInt8} (h : c.toNat ≠ 92) (h2 : c.toNat ≠ 10) : WX.escB c = [92, 120, WX.hexd (c.toNat / 16), WX.hexd (c.toNat % 16)] := by unfold WX.escB; rw [if_neg h, if_neg h2]; rfl
theorem rhex_at (n : Int) (d : UInt8) (w : World) (h0 : 0 ≤ n) (h1 : n < 16) (hd : WX.hexd n.toNat = d) : Calls Tryd.prog 40 #[.int .u8 n] w fun e w' => e = .returned (.int .u8 (d.toNat : Int)) ∧ w = w' := hd ▸ rhex_any n w h0 h1
theorem own_kept {w w' : World} {base : Nat} {e : TypeId} {size : Nat} {v : Value} {n : Nat} {xs : List Value} (h : w.ownsRow base e size v n xs) (k : Kept [] w w') : w'.ownsRow base e size v n xs :=
  ⟨h.1, h.2.imp id fun ⟨g, cap, cur, hv, hb, hg, r⟩ => ⟨g, cap, cur, hv, hb, k.at hg (by simp), r⟩⟩
theorem strCells_len (l : List UInt8) : (⟨l.toArray⟩ : ByteArray).size = l.length := by simp [ByteArray.size]
theorem conv_own {w : World} {B : Nat} {sp : Option Addr} {acc : List UInt8} {sc : Nat} (h : w.ownsRow B 5 1 (.slice sp acc.length sc) acc.length (Lib.byteCells acc)) :
    (convert 45 9 (.slice sp acc.length sc)).run Tryd.prog w = .ok (S acc) w := by
  rcases h.2 with ⟨e, h0⟩ | ⟨g, cap, cur, e, hb, hg, hnc, _, hsz, htake⟩
  · have : acc = [] := List.eq_nil_of_length_eq_zero h0
    subst this
    injection e with e1 e2 e3
    subst e1
    exact run_convert_bytes_nil w 45 5 Tryd.underlying45 Tryd.underlying5 _ _ 9 Tryd.underlying9
  · injection e with e1 e2 e3
    subst e1
    have hr := run_convert_bytes_arg (P := Tryd.prog) w 45 5 Tryd.underlying45 Tryd.underlying5 g 0 acc.length sc (acc.map fun c => (c.toNat : Int)) (by simp) (fun i hi => by
      rw [cell_at hg, Nat.zero_add]
      have h1 : (cur.toList.take (acc.length * 1))[i]? = some (Value.int .u8 ((acc.map fun c => (c.toNat : Int)).getD i 0)) := by rw [htake]; simp [Lib.byteCells, List.getD, hi]
      rw [List.getElem?_take_of_lt (by omega)] at h1
      rw [← Array.getElem?_toList]; exact h1) 9 Tryd.underlying9
    rw [hr]
    have : strOfNums (acc.map fun c => (c.toNat : Int)) = ⟨acc.toArray⟩ := by
      unfold strOfNums; rw [List.map_map]; congr 1
      have : acc.map ((fun n : Int => UInt8.ofNat n.toNat) ∘ fun c : UInt8 => (c.toNat : Int)) = acc := by
        conv => rhs; rw [← List.map_id acc]
        apply List.map_congr_left; intro x _; simp
      rw [this]
    rw [this]
theorem news2 (w : World) (a b : UInt8) : ∀ j u, (Lib.byteCells [a, b])[j]? = some u → (w.alloc (.cells #[.int .u8 (a.toNat : Int), .int .u8 (b.toNat : Int)] 5)).cell? ((⟨w.heap.size, 0, none⟩ : Addr).add j) = some u :=
  World.news_of_block (cs := #[.int .u8 (a.toNat : Int), .int .u8 (b.toNat : Int)]) (heap_new w _)
theorem rhexQ (c : UInt8) (n : Int) (w : World) (h : n = (c.toNat : Int) / 16) : Calls Tryd.prog 40 #[.int .u8 n] w fun e w' => e = .returned (.int .u8 ((WX.hexd (c.toNat / 16)).toNat : Int)) ∧ w = w' := by
  have := c.toNat_lt
  exact rhex_at n _ w (by omega) (by omega) (by congr 1; omega)
theorem rhexR (c : UInt8) (n : Int) (w : World) (h : n = (c.toNat : Int) % 16) : Calls Tryd.prog 40 #[.int .u8 n] w fun e w' => e = .returned (.int .u8 ((WX.hexd (c.toNat % 16)).toNat : Int)) ∧ w = w' := by
  exact rhex_at n _ w (by omega) (by omega) (by congr 1; omega)
theorem news4 (w : World) (a b c d : UInt8) : ∀ j u, (Lib.byteCells [a, b, c, d])[j]? = some u → (w.alloc (.cells #[.int .u8 (a.toNat : Int), .int .u8 (b.toNat : Int), .int .u8 (c.toNat : Int), .int .u8 (d.toNat : Int)] 5)).cell? ((⟨w.heap.size, 0, none⟩ : Addr).add j) = some u :=
  World.news_of_block (cs := #[.int .u8 (a.toNat : Int), .int .u8 (b.toNat : Int), .int .u8 (c.toNat : Int), .int .u8 (d.toNat : Int)]) (heap_new w _)
def EscRel (l : List UInt8) (w : World) (v a : Value) (wr : World) : Prop :=
  ∃ (p : Nat) (acc : List UInt8), p ≤ l.length ∧ a = I p ∧ OwnB w.heap.size v acc wr ∧ Kept [] w wr ∧ acc ++ WX.escL (l.drop p) = WX.escL l ∧ acc.length ≤ 4 * p
set_option maxHeartbeats 4000000 in
set_option maxRecDepth 100000 in
theorem rescape_any (l : List UInt8) (w : World) (hl : l.length ≤ 4194304) :
    Calls Tryd.prog 23 #[S l] w fun e w' => e = .returned (S (WX.escL l)) ∧ Kept [] w w' := by
  obtain ⟨i0, hi, hz0, hz1, hz2⟩ := info_parts byte_info
  have hl' : (l.length : Int) ≤ 4194304 := by omega
  have HO := Lib.hid (own_empty w 5)
  go_enter Tryd.func23, Tryd.ntmps23
  go_wp2
  go_loopw [3, 4, 5, 6] (fun v a _ _ wr => EscRel l w v a wr) (fun _ a _ _ _ => l.length - (intOf a).toNat)
  case atStart => exact ⟨0, [], by omega, rfl, ⟨_, _, rfl, HO.out⟩, (Kept.refl _ _).alloc _, rfl, by simp⟩
  case round =>
    obtain ⟨p, acc, hp, rfl, ⟨sp, sc, rfl, hown⟩, hk, he, ha⟩ := hrel
    have HK := Lib.hid (And.intro hown (And.intro hk he))
    have Z := hk.size
    clear hown hk he
    by_cases hlt : p < l.length
    · have hlt' : (p : Int) < l.length := by omega
      have hne := drop_ne hlt
      have hw := WX.dec_width _ hne
      rw [List.length_drop] at hw
      have hbd := byteAt_le l p
      obtain ⟨hb0, hb1⟩ := hbd
      have hpl := WX.escL_plain (l.drop p) hne
      have hby := escL_at l p hlt
      rw [List.drop_drop] at hpl
      cases ho : WX.isOk (l.drop p) with
      | true =>
        have hr := runeF_ok ho
        rw [ho] at hpl hby
        generalize hd : WX.dec (l.drop p) = d at *
        obtain ⟨r, m⟩ := d
        simp only at hw hpl hby
        have hm : (p : Int) + m ≤ l.length := by omega
        have hm0 : (0 : Int) < m := by omega
        have HW := Lib.hid hw
        cases hpn : WX.plainN r with
        | true =>
          have HE := Lib.hid (hpl trivial hpn)
          have HR := Lib.hid (And.intro hr hpn)
          clear ho hr hd hpl hby hw hne hpn
          go_wp2_with (fail)
          refine (rrune_at l p r m wr HR.out.1 hlt (by omega)).mono ?_
          rintro e w1 ⟨rfl, k1⟩
          have K1 := HK.out.2.1.trans' k1
          have H1 := Lib.hid (And.intro k1 K1)
          clear k1 K1
          go_wp2_with (fail)
          refine (rplain_at r true _ HR.out.2).mono ?_
          rintro e w2 ⟨rfl, rfl⟩
          have OW := Lib.hid (own_kept HK.out.1 H1.out.1)
          have GK : Hid (∀ {wa : World}, w1.grownBy wa (Value.slice sp acc.length sc).ownBlock → Kept [] w wa) := by
            unfold Hid; intro wa g; exact H1.out.2.grown g (fun q hq => (HK.out.1.lt q hq).1)
          have GK2 : Hid (∀ {wa : World} (o : Obj), (w1.alloc o).grownBy wa (Value.slice sp acc.length sc).ownBlock → Kept [] w wa) := by
            unfold Hid; intro wa o g; exact (H1.out.2.alloc o).grown g (fun q hq => (HK.out.1.lt q hq).1)
          have hln : (List.drop p (List.take (p + m) l)).length = m := by rw [List.length_drop, List.length_take]; have := HW.out; omega
          have HLN := Lib.hid hln
          have HE2 : Hid (WX.escL (l.drop p) = List.drop p (List.take (p + m) l) ++ WX.escL (l.drop (p + m))) := by unfold Hid; rw [← List.take_drop]; exact HE.out
          clear hln
          go_wp2_with (at_builtin
                       refine Lib.wpList_append_own_string _ rfl (.tmp 38) (.tmp 44) _ _ rfl w.heap.size 5 i0 Tryd.underlying45 Tryd.underlying9 hi hz0 hz1 hz2 (.slice sp acc.length sc) acc.length (Lib.byteCells acc) rfl OW.out ⟨(List.drop p (List.take (p + m) l)).toArray⟩ rfl (by rw [strCells_len, HLN.out]; unfold maxLen; have := HW.out; omega) (by rw [strCells_len, HLN.out]; have := HW.out; omega) (by have := H1.out.1.size; omega) ?_
                       intro v1 wa own1 gr1 _)
          go_wp2
          go_roundw
          case rel =>
            exact ⟨p + m, acc ++ List.drop p (List.take (p + m) l), by have := HW.out; omega, by go_num, OwnB.of own1 (by rw [List.length_append, strCells_len]) (by rw [Lib.byteCells_append]; rfl), GK.out gr1, by rw [List.append_assoc, ← HE2.out]; exact HK.out.2.2, by rw [List.length_append, HLN.out]; have := HW.out; omega⟩
          case measure => (have := HW.out; simp [intOf]; omega)
        | false =>
          have hby2 := hby (fun h => by have := h.2; rw [hpn] at this; cases this)
          have HR := Lib.hid (And.intro hr hpn)
          clear ho hr hd hpl hby hw hne hpn
          by_cases c92 : (byteAt l p).toNat = 92
          · have hc : (((byteAt l p).toNat : Int) == 92) = true := by simp; omega
            rw [escB_92 c92] at hby2
            have HE := Lib.hid hby2
            clear c92 hby2
            go_wp2_with (fail)
            refine (rrune_at l p r m wr HR.out.1 hlt (by omega)).mono ?_
            rintro e w1 ⟨rfl, k1⟩
            have K1 := HK.out.2.1.trans' k1
            have H1 := Lib.hid (And.intro k1 K1)
            clear k1 K1
            have OW := Lib.hid (own_kept HK.out.1 H1.out.1)
            have GK : Hid (∀ {wa : World}, w1.grownBy wa (Value.slice sp acc.length sc).ownBlock → Kept [] w wa) := by
              unfold Hid; intro wa g; exact H1.out.2.grown g (fun q hq => (HK.out.1.lt q hq).1)
            have GK2 : Hid (∀ {wa : World} (o : Obj), (w1.alloc o).grownBy wa (Value.slice sp acc.length sc).ownBlock → Kept [] w wa) := by
              unfold Hid; intro wa o g; exact (H1.out.2.alloc o).grown g (fun q hq => (HK.out.1.lt q hq).1)
            go_wp2_with (fail)
            refine (rplain_at r false _ HR.out.2).mono ?_
            rintro e w2 ⟨rfl, rfl⟩
            go_wp2_with (at_builtin
                         refine wpList_append_own _ rfl (.tmp 54) (.tmp 55) _ rfl w.heap.size 5 i0 (.int .u8 0) 1 1 Tryd.underlying45 hi hz0 hz1 hz2 rfl (by decide) (.slice sp acc.length sc) acc.length (Lib.byteCells acc) rfl (OW.out.alloc _) ⟨w1.heap.size, 0, none⟩ 2 2 (Lib.byteCells [92, 92]) rfl rfl (news2 _ _ _) (B_one _) (by unfold maxLen; omega) (by omega) (by have := H1.out.1.size; simp; omega) ?_
                         intro v1 wa own1 gr1 _)
            go_wp2
            go_roundw
            case rel =>
              exact ⟨p + 1, acc ++ [92, 92], by omega, by go_num, OwnB.of own1 (by simp) (by rw [Lib.byteCells_append]), GK2.out _ gr1, by rw [List.append_assoc, ← HE.out]; exact HK.out.2.2, by simp; omega⟩
            case measure => (simp [intOf]; omega)
          have hc : (((byteAt l p).toNat : Int) == 92) = false := by simp; omega
          by_cases c10 : (byteAt l p).toNat = 10
          · have hc2 : (((byteAt l p).toNat : Int) == 10) = true := by simp; omega
            rw [escB_10 c10] at hby2
            have HE := Lib.hid hby2
            clear c92 c10 hby2
            go_wp2_with (fail)
            refine (rrune_at l p r m wr HR.out.1 hlt (by omega)).mono ?_
            rintro e w1 ⟨rfl, k1⟩
            have K1 := HK.out.2.1.trans' k1
            have H1 := Lib.hid (And.intro k1 K1)
            clear k1 K1
            have OW := Lib.hid (own_kept HK.out.1 H1.out.1)
            have GK : Hid (∀ {wa : World}, w1.grownBy wa (Value.slice sp acc.length sc).ownBlock → Kept [] w wa) := by
              unfold Hid; intro wa g; exact H1.out.2.grown g (fun q hq => (HK.out.1.lt q hq).1)
            have GK2 : Hid (∀ {wa : World} (o : Obj), (w1.alloc o).grownBy wa (Value.slice sp acc.length sc).ownBlock → Kept [] w wa) := by
              unfold Hid; intro wa o g; exact (H1.out.2.alloc o).grown g (fun q hq => (HK.out.1.lt q hq).1)
            go_wp2_with (fail)
            refine (rplain_at r false _ HR.out.2).mono ?_
            rintro e w2 ⟨rfl, rfl⟩
            go_wp2_with (at_builtin
                         refine wpList_append_own _ rfl (.tmp 62) (.tmp 63) _ rfl w.heap.size 5 i0 (.int .u8 0) 1 1 Tryd.underlying45 hi hz0 hz1 hz2 rfl (by decide) (.slice sp acc.length sc) acc.length (Lib.byteCells acc) rfl (OW.out.alloc _) ⟨w1.heap.size, 0, none⟩ 2 2 (Lib.byteCells [92, 110]) rfl rfl (news2 _ _ _) (B_one _) (by unfold maxLen; omega) (by omega) (by have := H1.out.1.size; simp; omega) ?_
                         intro v1 wa own1 gr1 _)
            go_wp2
            go_roundw
            case rel =>
              exact ⟨p + 1, acc ++ [92, 110], by omega, by go_num, OwnB.of own1 (by simp) (by rw [Lib.byteCells_append]), GK2.out _ gr1, by rw [List.append_assoc, ← HE.out]; exact HK.out.2.2, by simp; omega⟩
            case measure => (simp [intOf]; omega)
          have hc2 : (((byteAt l p).toNat : Int) == 10) = false := by simp; omega
          rw [escB_else c92 c10] at hby2
          have HE := Lib.hid hby2
          clear c92 c10 hby2
          go_wp2_with (fail)
          refine (rrune_at l p r m wr HR.out.1 hlt (by omega)).mono ?_
          rintro e w1 ⟨rfl, k1⟩
          have K1 := HK.out.2.1.trans' k1
          have H1 := Lib.hid (And.intro k1 K1)
          clear k1 K1
          have OW := Lib.hid (own_kept HK.out.1 H1.out.1)
          have GK : Hid (∀ {wa : World}, w1.grownBy wa (Value.slice sp acc.length sc).ownBlock → Kept [] w wa) := by
            unfold Hid; intro wa g; exact H1.out.2.grown g (fun q hq => (HK.out.1.lt q hq).1)
          have GK2 : Hid (∀ {wa : World} (o : Obj), (w1.alloc o).grownBy wa (Value.slice sp acc.length sc).ownBlock → Kept [] w wa) := by
            unfold Hid; intro wa o g; exact (H1.out.2.alloc o).grown g (fun q hq => (HK.out.1.lt q hq).1)
          go_wp2_with (fail)
          refine (rplain_at r false _ HR.out.2).mono ?_
          rintro e w2 ⟨rfl, rfl⟩
          go_wp2_with (fail)
          have GK3 : Hid (∀ (W wa : World), Kept [] w W → W.grownBy wa (Value.slice sp acc.length sc).ownBlock → Kept [] w wa) := by
            unfold Hid; intro W wa k g; exact k.grown g (fun q hq => (HK.out.1.lt q hq).1)
          have wq : IntKind.u8.wrap (((byteAt l p).toNat : Int) / 16) = ((byteAt l p).toNat : Int) / 16 := IntWalk.u8_in _ (by omega)
          have WQ := Lib.hid wq
          clear wq
          have WR : Hid (((byteAt l p).toNat : Int).tmod 16 = ((byteAt l p).toNat : Int) % 16) := by unfold Hid; exact IntWalk.rem_in _ _ hb0
          obtain ⟨hx, hhx⟩ : ∃ x, WX.hexd ((byteAt l p).toNat / 16) = x := ⟨_, rfl⟩
          obtain ⟨hy, hhy⟩ : ∃ x, WX.hexd ((byteAt l p).toNat % 16) = x := ⟨_, rfl⟩
          have C1 := fun W => rhexQ (byteAt l p) (IntKind.u8.wrap (((byteAt l p).toNat : Int) / 16)) W WQ.out
          have C2 := fun W => rhexR (byteAt l p) (((byteAt l p).toNat : Int).tmod 16) W WR.out
          rw [hhx] at C1
          rw [hhy] at C2
          have HE2 := HE.out
          rw [hhx, hhy] at HE2
          have HE3 := Lib.hid HE2
          have HC1 := Lib.hid C1
          have HC2 := Lib.hid C2
          clear C1 C2 hhx hhy HE2 HE
          have hz1' : w.heap.size ≤ w1.heap.size := H1.out.2.size
          go_region_law (first
            | (refine step_append_lies _ rfl (.tmp 18) (.tmp 29) 45 rfl w.heap.size 5 i0 (.int .u8 0) 1 1 Tryd.underlying45 hi hz0 hz1 hz2 rfl (by decide) (.slice sp acc.length sc) acc.length (Lib.byteCells acc) (by simp [Act.eval, Act.put]) (by exact OW.out.alloc _) ⟨w1.heap.size, 0, none⟩ 4 4 (Lib.byteCells [92, 120, hx, hy]) (by simp [Act.eval, Act.put]) rfl (by exact news4 w1 92 120 hx hy) (B_one _) (by decide) (by unfold maxLen; omega) (by omega) (by simp; omega) _ rfl ?_; intro g cap wa own1 gr1 _ _)
            | (go_simp; go_at_call 40; (with_reducible refine (HC1.out _).mono ?_); rintro e w2 ⟨rfl, rfl⟩)
            | (go_simp; go_at_call 40; (with_reducible refine (HC2.out _).mono ?_); rintro e w2 ⟨rfl, rfl⟩))
          all_goals
            clear WQ WR
            go_wp2
            go_roundw
            case rel =>
              exact ⟨p + 1, acc ++ [92, 120, hx, hy], by omega, by go_num, OwnB.of own1 (by simp) (by rw [Lib.byteCells_append]), by first | exact GK3.out _ _ (H1.out.2.alloc _).drew gr1 | exact GK3.out _ _ (H1.out.2.drew.alloc _) gr1 | exact GK3.out _ _ (H1.out.2.alloc _) gr1, by rw [List.append_assoc, ← HE3.out]; exact HK.out.2.2, by simp; omega⟩
            case measure => (simp [intOf]; omega)
      | false =>
        have hr := runeF_no ho
        have hby2 := hby (fun h => by have := h.1; rw [ho] at this; cases this)
        have hhi := not_ok_high l p hlt ho
        rw [escB_else (by omega) (by omega)] at hby2
        have hc : (((byteAt l p).toNat : Int) == 92) = false := by simp; omega
        have hc2 : (((byteAt l p).toNat : Int) == 10) = false := by simp; omega
        have HE := Lib.hid hby2
        have HR := Lib.hid hr
        clear ho hr hpl hby hw hne hby2
        go_wp2_with (fail)
        refine (rrune_at l p 0 0 wr HR.out hlt (by omega)).mono ?_
        rintro e w1 ⟨rfl, k1⟩
        have K1 := HK.out.2.1.trans' k1
        have H1 := Lib.hid (And.intro k1 K1)
        clear k1 K1
        have OW := Lib.hid (own_kept HK.out.1 H1.out.1)
        have GK : Hid (∀ {wa : World}, w1.grownBy wa (Value.slice sp acc.length sc).ownBlock → Kept [] w wa) := by
          unfold Hid; intro wa g; exact H1.out.2.grown g (fun q hq => (HK.out.1.lt q hq).1)
        have GK2 : Hid (∀ {wa : World} (o : Obj), (w1.alloc o).grownBy wa (Value.slice sp acc.length sc).ownBlock → Kept [] w wa) := by
          unfold Hid; intro wa o g; exact (H1.out.2.alloc o).grown g (fun q hq => (HK.out.1.lt q hq).1)
        go_wp2_with (fail)
        have GK3 : Hid (∀ (W wa : World), Kept [] w W → W.grownBy wa (Value.slice sp acc.length sc).ownBlock → Kept [] w wa) := by
          unfold Hid; intro W wa k g; exact k.grown g (fun q hq => (HK.out.1.lt q hq).1)
        have wq : IntKind.u8.wrap (((byteAt l p).toNat : Int) / 16) = ((byteAt l p).toNat : Int) / 16 := IntWalk.u8_in _ (by omega)
        have WQ := Lib.hid wq
        clear wq
        have WR : Hid (((byteAt l p).toNat : Int).tmod 16 = ((byteAt l p).toNat : Int) % 16) := by unfold Hid; exact IntWalk.rem_in _ _ hb0
        obtain ⟨hx, hhx⟩ : ∃ x, WX.hexd ((byteAt l p).toNat / 16) = x := ⟨_, rfl⟩
        obtain ⟨hy, hhy⟩ : ∃ x, WX.hexd ((byteAt l p).toNat % 16) = x := ⟨_, rfl⟩
        have C1 := fun W => rhexQ (byteAt l p) (IntKind.u8.wrap (((byteAt l p).toNat : Int) / 16)) W WQ.out
        have C2 := fun W => rhexR (byteAt l p) (((byteAt l p).toNat : Int).tmod 16) W WR.out
        rw [hhx] at C1
        rw [hhy] at C2
        have HE2 := HE.out
        rw [hhx, hhy] at HE2
        have HE3 := Lib.hid HE2
        have HC1 := Lib.hid C1
        have HC2 := Lib.hid C2
        clear C1 C2 hhx hhy HE2 HE
        have hz1' : w.heap.size ≤ w1.heap.size := H1.out.2.size
        go_region_law (first
          | (refine step_append_lies _ rfl (.tmp 18) (.tmp 29) 45 rfl w.heap.size 5 i0 (.int .u8 0) 1 1 Tryd.underlying45 hi hz0 hz1 hz2 rfl (by decide) (.slice sp acc.length sc) acc.length (Lib.byteCells acc) (by simp [Act.eval, Act.put]) (by exact OW.out.alloc _) ⟨w1.heap.size, 0, none⟩ 4 4 (Lib.byteCells [92, 120, hx, hy]) (by simp [Act.eval, Act.put]) rfl (by exact news4 w1 92 120 hx hy) (B_one _) (by decide) (by unfold maxLen; omega) (by omega) (by simp; omega) _ rfl ?_; intro g cap wa own1 gr1 _ _)
          | (go_simp; go_at_call 40; (with_reducible refine (HC1.out _).mono ?_); rintro e w2 ⟨rfl, rfl⟩)
          | (go_simp; go_at_call 40; (with_reducible refine (HC2.out _).mono ?_); rintro e w2 ⟨rfl, rfl⟩))
        all_goals
          clear WQ WR
          go_wp2
          go_roundw
          case rel =>
            exact ⟨p + 1, acc ++ [92, 120, hx, hy], by omega, by go_num, OwnB.of own1 (by simp) (by rw [Lib.byteCells_append]), by first | exact GK3.out _ _ (H1.out.2.alloc _).drew gr1 | exact GK3.out _ _ (H1.out.2.drew.alloc _) gr1 | exact GK3.out _ _ (H1.out.2.alloc _) gr1, by rw [List.append_assoc, ← HE3.out]; exact HK.out.2.2, by simp; omega⟩
          case measure => (simp [intOf]; omega)
    · obtain rfl : p = l.length := by omega
      have HE : Hid (acc = WX.escL l) := by unfold Hid; rw [← HK.out.2.2, List.drop_length]; simp [WX.escL_nil]
      have hcv := conv_own HK.out.1
      go_wp2
      go_ret
      exact ⟨ret_S HE.out, HK.out.2.1⟩
end Go.Proofs.YthooohempokchaaDoor
