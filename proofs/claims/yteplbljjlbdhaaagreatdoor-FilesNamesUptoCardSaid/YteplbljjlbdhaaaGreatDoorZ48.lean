/- Walks and lemmas on the program of this seat, used by its statements; each theorem bears its own conditions. -/
import Derived.Test.YteplbljjlbdhaaaGreatDoorZ47
import Derived.Test.YteplbljjlbdhaaaGreatDoorCards
import Derived.Test.YteplbljjlbdhaaaGreatDoorTie
import Derived.Lib.LaidU8T
import Derived.Lib.LaidIn
import Derived.PinnedBridge
import Derived.ProofKit
import Derived.OpenShut
import Derived.Deep.DeepHandedRow
import Derived.Deep.DeepWitnessRowRef
import Derived.SliceStrings
import Derived.Lib.SmallJoins
namespace Go.Proofs.YteplbljjlbdhaaaGreatDoor
open Go.RowKit
set_option linter.unusedVariables false
set_option linter.unusedSimpArgs false
set_option linter.unusedSectionVars false
set_option maxHeartbeats 16000000
set_option maxRecDepth 100000
theorem flistN_any (w : World) (fb sb : Nat) (V : OM) (given : Nat) (E : List Nd) (h : FR w fb sb V given E) (hT : Tabs w) (s : List UInt8) (hs : s.length < 4294967281) :
    Calls Tryz.prog 23 #[Ptr fb, S s] w fun e w' => (∃ lv, e = .returned (.tuple #[lv, I (listF E s).1]) ∧ StrsAt w' lv (listF E s).2 ∧ ∀ q, lv.ownBlock = some q → w.heap.size ≤ q ∧ q < w'.heap.size) ∧ Kept [] w w' := by
  have HG := Lib.hid (got_any w fb sb V given E h hT s hs)
  obtain ⟨r, hr⟩ : ∃ r, listF E s = r := ⟨_, rfl⟩
  rw [hr]
  have HR := Lib.hid hr
  have H := Lib.hid h
  obtain ⟨i0, hi, hz0, hz1, hz2⟩ := info_parts strg_info
  have HI := Lib.hid (And.intro hi (And.intro hz0 (And.intro hz1 hz2)))
  clear h hs hT hr hi hz0 hz1 hz2
  go_enter Tryz.func23, Tryz.ntmps23
  go_wp2_with (fail)
  refine HG.out.mono ?_
  rintro e w1 ⟨⟨v, rfl, h1⟩, k1⟩
  have K1 := Lib.hid k1
  clear k1
  unfold GotP at h1
  cases hp : WX.pathF s with
  | none =>
    rw [hp] at h1
    have h1 : v = .tuple #[I 0, .nilIface, I 160] := h1
    subst h1
    have HE : Hid (r = (160, [])) := Lib.hid (by rw [← HR.out]; unfold listF; rw [hp])
    clear hp
    go_wp2_with (fail)
    go_ret2
    exact ⟨⟨.slice none 0 0, by rw [HE.out]; rfl, by rw [HE.out]; exact StrsAt.nil _, fun q (hq : none = some q) => by cases hq⟩, K1.out⟩
  | some p =>
    rw [hp] at h1
    obtain ⟨h1, _⟩ := h1
    unfold FindP at h1
    by_cases hz : findF E [] p = 0
    · rw [if_pos hz] at h1
      obtain ⟨nv, rfl, hn⟩ := h1
      have HE0 : Hid (r = if isDirP E p = true then (0, (kids E p).map (·.1)) else (163, [])) := Lib.hid (by rw [← HR.out]; unfold listF; rw [hp]; simp only; rw [if_neg (by simpa using hz)])
      rcases hn with ⟨hd, d, rfl, hens⟩ | ⟨hd, x, hx, rfl⟩
      · have hta := fun (W : World) => (show (Instr.typeAssert (.iface 87 d) 99 87 true).run Tryz.prog W = .ok (.tuple #[d, .bool true]) W from by kernel_rfl)
        obtain ⟨l, hl⟩ : ∃ l, kids E p = l := ⟨_, rfl⟩
        have HE : Hid (r = (0, l.map (·.1))) := Lib.hid (by rw [HE0.out, if_pos hd, hl])
        have hls := H.out.wf.kids_small p
        rw [hl] at hens hls
        obtain ⟨pd, cd, bd, rfl, hcd, hpd, hcells⟩ := hens
        have HC := Lib.hid (And.intro hpd hcells)
        have hlI : (l.length : Int) ≤ 1000 := by omega
        clear hz hd hp hpd hcells hcd HE0 hl
        go_wp2_with (fail)
        go_loopw [11, 33] (fun v11 i wr => ∃ (j : Nat) (q : Option Addr) (c : Nat), j ≤ l.length ∧ i = I j ∧ v11 = .slice q j c ∧ wr.ownsRow w1.heap.size 9 1 (.slice q j c) j ((l.take j).map fun x => S x.1) ∧ Kept [] w1 wr) (fun _ i _ => l.length - (intOf i).toNat)
        case atStart => exact ⟨0, none, 0, by omega, rfl, rfl, ⟨rfl, .inl ⟨rfl, rfl⟩⟩, Kept.refl _ _⟩
        case round =>
          obtain ⟨j, q, c, hj, rfl, rfl, own, kr⟩ := hrel
          obtain ⟨hi, hz0, hz1, hz2⟩ := HI.out
          by_cases hlt : j < l.length
          · have hltI : (j : Int) < l.length := by omega
            obtain ⟨hpd, hcells⟩ := HC.out
            have hpe := hpd (by intro h; subst h; simp at hlt)
            subst hpe
            obtain ⟨d0, d1⟩ := hcells j hlt
            have e0 := kr.cellOf d0
            have e1 := kr.cellOf d1
            obtain ⟨⟨nm, num⟩, hx⟩ : ∃ x, l[j] = x := ⟨_, rfl⟩
            rw [hx] at e0 e1
            simp only at e0 e1
            have htk : (l.take (j + 1)).map (fun x => S x.1) = (l.take j).map (fun x => S x.1) ++ [S nm] := by
              rw [List.take_add_one, List.getElem?_eq_getElem hlt, hx]; simp
            have hk2 := (Kept.refl [] wr).alloc (Obj.cells #[S nm, I num] 113)
            obtain ⟨W2, hW2⟩ : ∃ W2, wr.alloc (Obj.cells #[S nm, I num] 113) = W2 := ⟨_, rfl⟩
            have n2 := heap_new wr (Obj.cells #[S nm, I num] 113)
            rw [hW2] at hk2 n2
            have c2 := cell_at n2 0
            simp only [List.getElem?_toArray, List.getElem?_cons_zero] at c2
            have HJ := Lib.hid (And.intro own (And.intro kr (And.intro htk (And.intro hk2 (And.intro hls (heap_new W2 (Obj.cells #[S nm] 9)))))))
            clear own kr htk hk2 n2 hpd hcells d0 d1 hx
            go_wp2_with (first
              | (simp only [hW2]; done)
              | (at_builtin
                 refine wpList_append_lies _ rfl (.tmp 37) (.tmp 40) _ rfl w1.heap.size 9 i0 (S []) 1 16 Tryz.underlying53 hi hz0 hz1 hz2 rfl (by decide) (.slice q j c) j _ rfl (own_kept (own_kept HJ.out.1 HJ.out.2.2.2.1 (by simp)) ((Kept.refl [] W2).alloc _) (by simp)) ⟨W2.heap.size, 0, none⟩ 1 1 [S nm] rfl rfl (World.news_of_block HJ.out.2.2.2.2.2) (by intro u hu; simp at hu; subst hu; rfl) (by decide) (by unfold maxLen; omega) (by omega) (by have h1 := HJ.out.2.1.size; have h2 := HJ.out.2.2.2.1.size; rw [World.size_alloc]; omega) _ rfl ?_
                 intro g2 cap wa own1 gr1 hat hlt
                 have HA := Lib.hid (And.intro own1 (kept_grown gr1))
                 clear own1 gr1 hat hlt)
              | (simp only [hW2]))
            go_roundw
            case rel =>
              obtain ⟨own1, kg⟩ := HA.out
              obtain ⟨own, kr, htk, hk2, _, _⟩ := HJ.out
              refine ⟨j + 1, some ⟨g2, 0, none⟩, cap, by omega, by go_num, rfl, ?_, ?_⟩
              · rw [htk]; exact own1
              · refine kr.new ((hk2.alloc _).mono (by simp) |>.trans' kg) ?_
                intro x hx
                exact (own_lt own x (by simpa using hx)).1
            case measure => simp [intOf]; omega
          · have hje : j = l.length := by omega
            subst hje
            rw [List.take_length] at own
            have HK := Lib.hid (And.intro own kr)
            clear own kr HC
            go_wp2_with (fail)
            go_ret2
            refine ⟨⟨_, by rw [HE.out]; rfl, ?_, fun q hq => ⟨Nat.le_trans K1.out.size (own_lt HK.out.1 q hq).1, (own_lt HK.out.1 q hq).2⟩⟩, K1.out.trans' HK.out.2⟩
            rw [HE.out]
            refine strs_own (B := w1.heap.size) ?_ (by rw [List.length_map]; omega)
            have := HK.out.1
            rw [List.length_map, List.map_map]
            exact this
      · have hta := fun (W : World) => (show (Instr.typeAssert (.iface 78 (.agg #[I x.data.length])) 99 87 true).run Tryz.prog W = .ok (.tuple #[.slice none 0 0, .bool false]) W from by kernel_rfl)
        have HE : Hid (r = (163, [])) := Lib.hid (by rw [HE0.out, if_neg (by rw [hd]; decide)])
        clear hz hd hx hp HE0
        go_wp2_with (fail)
        go_ret2
        exact ⟨⟨.slice none 0 0, by rw [HE.out]; rfl, by rw [HE.out]; exact StrsAt.nil _, fun q (hq : none = some q) => by cases hq⟩, K1.out⟩
    · rw [if_neg hz] at h1
      subst h1
      have hzI : ((findF E [] p : Int) != 0) = true := by simp; exact hz
      have HE : Hid (r = (((findF E [] p : Nat) : Int), [])) := Lib.hid (by rw [← HR.out]; unfold listF; rw [hp]; simp only; rw [if_pos hz])
      clear hz hp
      go_wp2_with (fail)
      go_ret2
      exact ⟨⟨.slice none 0 0, by rw [HE.out]; rfl, by rw [HE.out]; exact StrsAt.nil _, fun q (hq : none = some q) => by cases hq⟩, K1.out⟩
theorem StrsAt.keptM {w w' : World} {v : Value} {ss : List Nm} {T : List Nat} (h : StrsAt w v ss) (k : Kept T w w') (hT : ∀ q, v.ownBlock = some q → q ∉ T) : StrsAt w' v ss := by
 obtain ⟨p, cap, rfl, hl, hl2, hnn, hc⟩ := h
 refine ⟨p, cap, rfl, hl, hl2, hnn, fun hne => ?_⟩
 obtain ⟨b, off, rfl, hcell⟩ := hc hne
 refine ⟨b, off, rfl, fun i hi => ?_⟩
 have hb : b ∉ T := hT b rfl
 exact kept_cell k (hcell i hi) hb
theorem Lf.more {w0 w w' : World} {ff fb sb n d given : Nat} {E : List Nd} {M : List Nat} (h : Lf w0 w ff fb sb n d given E M) (k : Kept [] w w') (l : List Nat) (hl : ∀ x ∈ l, w.heap.size ≤ x ∧ x < w'.heap.size) : Lf w0 w' ff fb sb n d given E (l ++ M) := by
 obtain ⟨V, T, U, h1, h2, h3, h4⟩ := h
 have hlt := h1.st.stk.lt
 have hb := h1.tabs.2.1
 have hz := h4.size
 refine ⟨V, T, U, h1.same k, h2, fun x hx => ?_, h4.trans' k⟩
 rcases List.mem_append.1 hx with hx | hx
 ·obtain ⟨a, b⟩ := hl x hx
  exact ⟨fun hm => by have := hlt x hm; omega, fun hm => by have := hb x hm; omega, b, by omega⟩
 ·exact ⟨(h3 x hx).1, (h3 x hx).2.1, Nat.lt_of_lt_of_le (h3 x hx).2.2.1 k.size, (h3 x hx).2.2.2⟩
theorem TabsU.cons {w : World} {U : List Nat} {x : Nat} (h : TabsU w U) (hx : x < w.heap.size) : TabsU w (x :: U) :=
 ⟨h.1, fun y hy => (List.mem_cons.1 hy).elim (fun e => e ▸ hx) (fun hy => h.2.1 y hy), fun T w' k hT => h.2.2 T w' k (fun y hy hu => hT y hy (List.mem_cons_of_mem _ hu))⟩
theorem laid_lf {n : Nat} {w w' : World} {e : Ending} (h : Laid16 n w e w') {U : List Nat} (hU : TabsU w U) :
  ∃ fb ff mb sb, e = .returned (.tuple #[Ptr fb, Ptr ff, Ptr mb]) ∧ Lf w w' ff fb sb n 0 0 [] [mb] ∧ Df w' mb n 0 (.slice none 0 0) [] [mb] := by
 obtain ⟨fb, ff, mb, sb, T, rfl, h1, h2, h3, h4, h5, h6, h7, h8, k⟩ := h
 refine ⟨fb, ff, mb, sb, rfl, ⟨[], T, ff :: U, ⟨h1, h2, sim_nil, wf_nil, by omega, (hU.same k).cons h6, List.mem_cons_self, fun x hx hu => ?_, by omega⟩, fun x hx => (h4 x hx).1, fun x hx => ?_, k⟩, h3, List.mem_cons_self, fun q (hq : none = some q) => by cases hq⟩
 ·rcases List.mem_cons.1 hu with rfl | hu
  ·exact (h4 _ hx).2.2.1 rfl
  ·have := (h4 x hx).1
   have := hU.2.1 x hu
   omega
 ·have : x = mb := by simpa using hx
  subst this
  refine ⟨fun hm => (h4 _ hm).2.2.2 rfl, fun hu => ?_, h3.lt, h7⟩
  rcases List.mem_cons.1 hu with rfl | hu
  ·exact h8 rfl
  ·have := hU.2.1 _ hu
   omega
section
variable {w0 w : World} {ff fb sb n d given : Nat} {E : List Nd} {M : List Nat}
def LfP (w0 w : World) (ff fb sb n d : Nat) (M : List Nat) (R : Int × Nat × List Nd) (e : Ending) (w' : World) : Prop :=
 e = .returned (I R.1) ∧ Lf w0 w' ff fb sb n (d + 2 * (n + 1)) R.2.1 R.2.2 M ∧ ∃ T, (∀ x ∈ M, x ∉ T) ∧ Kept T w w'
theorem lf_make (h : Lf w0 w ff fb sb n d given E M) (hd : d ≤ 500000000) (hn : n ≤ 255) (hg : given + 1 ≤ 16777000) (s : List UInt8) (hs : s.length < 4294967281) :
  Calls Tryz.prog 12 #[Ptr ff, S s] w (LfP w0 w ff fb sb n d M (makeF n given E s false)) :=
 lf_op h hd hn (fun V T U hc => make_any w ff fb sb n V d T true given E U hc hd s hs) (make_grown h.wf s false) hg
theorem lf_makeDir (h : Lf w0 w ff fb sb n d given E M) (hd : d ≤ 500000000) (hn : n ≤ 255) (hg : given + 1 ≤ 16777000) (s : List UInt8) (hs : s.length < 4294967281) :
  Calls Tryz.prog 14 #[Ptr ff, S s] w (LfP w0 w ff fb sb n d M (makeF n given E s true)) :=
 lf_op h hd hn (fun V T U hc => makeDir_any w ff fb sb n V d T true given E U hc hd s hs) (make_grown h.wf s true) hg
theorem lf_write (h : Lf w0 w ff fb sb n d given E M) (hd : d ≤ 500000000) (hn : n ≤ 255) (hg : given + 1 ≤ 16777000) (s : List UInt8) (hs : s.length < 4294967281) (a : Int) (ha : I64 a) (t : List UInt8) (ht : t.length ≤ 4611686018427387904) :
  Calls Tryz.prog 15 #[Ptr ff, S s, I a, S t] w (LfP w0 w ff fb sb n d M (writeF n given E s a t)) :=
 lf_op h hd hn (fun V T U hc => fwrite_any w ff fb sb n V d T true given E U hc hd s hs a ha t ht) (write_grown h.wf s a t) hg
theorem lf_trunc (h : Lf w0 w ff fb sb n d given E M) (hd : d ≤ 500000000) (hn : n ≤ 255) (hg : given + 1 ≤ 16777000) (s : List UInt8) (hs : s.length < 4294967281) (a : Int) (ha : I64 a) :
  Calls Tryz.prog 17 #[Ptr ff, S s, I a] w (LfP w0 w ff fb sb n d M (truncF n given E s a)) :=
 lf_op h hd hn (fun V T U hc => ftrunc_any w ff fb sb n V d T true given E U hc hd s hs a ha) (trunc_grown h.wf s a) hg
theorem lf_remove (h : Lf w0 w ff fb sb n d given E M) (hd : d ≤ 500000000) (hn : n ≤ 255) (hg : given + 1 ≤ 16777000) (s : List UInt8) (hs : s.length < 4294967281) :
  Calls Tryz.prog 21 #[Ptr ff, S s] w (LfP w0 w ff fb sb n d M (removeF n given E s)) :=
 lf_op h hd hn (fun V T U hc => fremove_any w ff fb sb n V d T true given E U hc hd s hs) (remove_grown h.wf s) hg
theorem lf_rename (h : Lf w0 w ff fb sb n d given E M) (hd : d ≤ 500000000) (hn : n ≤ 255) (hg : given + 1 ≤ 16777000) (s t : List UInt8) (hs : s.length < 4294967281) (ht : t.length < 4294967281) :
  Calls Tryz.prog 19 #[Ptr ff, S s, S t] w (LfP w0 w ff fb sb n d M (renameF n given E s t)) :=
 lf_op h hd hn (fun V T U hc => frename_any w ff fb sb n V d T true given E U hc hd s t hs ht) (rename_grown h.wf s t) hg
theorem lf_list (h : Lf w0 w ff fb sb n d given E M) (s : List UInt8) (hs : s.length < 4294967281) :
  Calls Tryz.prog 23 #[Ptr ff, S s] w fun e w' => (∃ lv, e = .returned (.tuple #[lv, I (listF E s).1]) ∧ StrsAt w' lv (listF E s).2 ∧ ∀ q, lv.ownBlock = some q → w.heap.size ≤ q ∧ q < w'.heap.size) ∧ Kept [] w w' := by
 obtain ⟨⟨V, h1⟩, hT⟩ := h.fr
 exact flistN_any w ff sb V given E h1 hT s hs
theorem lf_read (h : Lf w0 w ff fb sb n d given E M) (s : List UInt8) (hs : s.length < 4294967281) (a m : Int) (ha : I64 a) (hm : I64 m) :
  Calls Tryz.prog 27 #[Ptr ff, S s, I a, I m] w fun e w' => e = .returned (.tuple #[S (readF E s a m).1, I (readF E s a m).2]) ∧ Kept [] w w' := by
 obtain ⟨⟨V, h1⟩, hT⟩ := h.fr
 exact ffread_any w ff sb V given E h1 hT s hs a m ha hm
end
theorem fixed16_any (w : World) (U : List Nat) (hU : TabsU w U) : Calls Tryz.prog 7 #[] w fun e w' => e = .returned (.bool true) ∧ Kept [] w w' := by
 have HLA := Lib.hid (laid16_any w 14)
 have hb : blk16 14 = 14 := rfl
 rw [hb] at HLA
 have HU := Lib.hid hU
 clear hU hb
 go_enter Tryz.func7, Tryz.ntmps7
 go_wp2_with (fail)
 refine HLA.out.mono ?_
 intro e w2 hla
 obtain ⟨fb, ff, mb, sb, rfl, hs, _⟩ := laid_lf hla HU.out
 have HQ := Lib.hid (lf_quota hs)
 have HW := Lib.hid (lf_weight hs)
 replace HW : Hid (Calls Tryz.prog 29 #[Ptr ff] w2 fun e w' => e = .returned (I 0) ∧ w' = w2) := HW
 replace HQ : Hid (Calls Tryz.prog 28 #[Ptr ff] w2 fun e w' => e = .returned (I 35) ∧ w' = w2) := HQ
 have H2 := Lib.hid hs
 clear hs hla HLA
 go_wp2_with (fail)
 refine HQ.out.mono ?_
 rintro e w3 ⟨rfl, rfl⟩
 go_wp2_with (fail)
 refine HW.out.mono ?_
 rintro e w4 ⟨rfl, rfl⟩
 clear HQ HW
 have HM := Lib.hid (lf_make H2.out (by omega) (by omega) (by omega) [47, 97] (by decide))
 rw [qx1] at HM
 go_wp2_with (fail)
 refine HM.out.mono ?_
 rintro e w5 ⟨rfl, hs, _⟩
 have HW := Lib.hid (lf_weight hs)
 rw [show wL (objL (0, 1, qE1).2.1 (0, 1, qE1).2.2) = 3 from qx2] at HW
 have H5 := Lib.hid hs
 clear hs HM H2
 go_wp2_with (fail)
 refine HW.out.mono ?_
 rintro e w6 ⟨rfl, rfl⟩
 clear HW
 obtain ⟨Wz, z1, z2, z3, z4⟩ := zeros_made w6 60 (by omega)
 have z1' : (Instr.makeSlice 64 (I 60) (I 60)).run Tryz.prog w6 = .ok (.slice (some ⟨w6.heap.size, 0, none⟩) 60 60) Wz := z1
 have z5 := z4 60 Wz (Kept.refl _ _)
 obtain ⟨zs, hzs⟩ : ∃ zs, qZ = zs := ⟨_, rfl⟩
 have hz0 : zerosL 60 = zs := by rw [← hzs]; rfl
 rw [hz0] at z5
 have HM := Lib.hid (lf_write (H5.out.same z2) (by omega) (by omega) (by omega) [47, 97] (by decide) 0 ⟨by decide, by decide⟩ qZ (by decide))
 rw [show writeF 14 (0, 1, qE1).2.1 (0, 1, qE1).2.2 [47, 97] 0 qZ = (0, 1, qE2) from qx3, hzs] at HM
 clear H5 z1 z2 z3 z4 hz0
 go_wp2_with (fail)
 refine HM.out.mono ?_
 rintro e w7 ⟨rfl, hs, _⟩
 have HW := Lib.hid (lf_weight hs)
 rw [show wL (objL (0, 1, qE2).2.1 (0, 1, qE2).2.2) = 5 from qx4] at HW
 have H5 := Lib.hid hs
 clear hs HM z1' z5 hzs
 go_wp2_with (fail)
 refine HW.out.mono ?_
 rintro e w8 ⟨rfl, rfl⟩
 clear HW
 have HM := Lib.hid (lf_makeDir H5.out (by omega) (by omega) (by show 1 + 1 ≤ 16777000; omega) [47, 100] (by decide))
 rw [show makeF 14 (0, 1, qE2).2.1 (0, 1, qE2).2.2 [47, 100] true = (0, 2, qE3) from qx5] at HM
 clear H5
 go_wp2_with (fail)
 refine HM.out.mono ?_
 rintro e w9 ⟨rfl, hs, _⟩
 have H9 := Lib.hid hs
 clear hs HM
 have HM := Lib.hid (lf_rename H9.out (by omega) (by omega) (by show 2 + 1 ≤ 16777000; omega) [47, 97] [47, 100, 47, 97] (by decide) (by decide))
 rw [show renameF 14 (0, 2, qE3).2.1 (0, 2, qE3).2.2 [47, 97] [47, 100, 47, 97] = (0, 2, qE4) from qx6] at HM
 clear H9
 go_wp2_with (fail)
 refine HM.out.mono ?_
 rintro e w10 ⟨rfl, hs, _⟩
 have HL := Lib.hid (lf_list hs [47, 100] (by decide))
 rw [show listF (0, 2, qE4).2.2 [47, 100] = (0, [[97]]) from qx7] at HL
 have H9 := Lib.hid hs
 clear hs HM
 go_wp2_with (fail)
 refine HL.out.mono ?_
 rintro e w11 ⟨⟨lv, rfl, hst, hq⟩, k11⟩
 have H10 := Lib.hid (H9.out.more k11 lv.ownBlock.toList (fun x hx => hq x (by simpa using hx)))
 have HST := Lib.hid hst
 clear hst k11 H9 HL hq
 have HM := Lib.hid (lf_rename H10.out (by omega) (by omega) (by show 2 + 1 ≤ 16777000; omega) [47, 100] [47, 100, 47, 120] (by decide) (by decide))
 rw [show renameF 14 (0, 2, qE4).2.1 (0, 2, qE4).2.2 [47, 100] [47, 100, 47, 120] = (164, 2, qE4) from qx8] at HM
 clear H10
 go_wp2_with (fail)
 refine HM.out.mono ?_
 rintro e w12 ⟨rfl, hs, T1, hT1, k1⟩
 have HST1 := Lib.hid (HST.out.keptM k1 (fun q hq => hT1 q (by simp [hq])))
 have H12 := Lib.hid hs
 clear hs HM hT1 k1 HST
 have HM := Lib.hid (lf_make H12.out (by omega) (by omega) (by show 2 + 1 ≤ 16777000; omega) [47, 100, 47, 97, 47, 98] (by decide))
 rw [show makeF 14 (164, 2, qE4).2.1 (164, 2, qE4).2.2 [47, 100, 47, 97, 47, 98] false = (163, 2, qE4) from qx9] at HM
 clear H12
 go_wp2_with (fail)
 refine HM.out.mono ?_
 rintro e w13 ⟨rfl, hs, T1, hT1, k1⟩
 have HST2 := Lib.hid (HST1.out.keptM k1 (fun q hq => hT1 q (by simp [hq])))
 have HRD := Lib.hid (lf_read hs [47, 100, 47, 97] (by decide) 58 9 ⟨by decide, by decide⟩ ⟨by decide, by decide⟩)
 rw [show readF (163, 2, qE4).2.2 [47, 100, 47, 97] 58 9 = ([0, 0], 0) from qx10] at HRD
 have H13 := Lib.hid hs
 clear hs HM hT1 k1 HST1
 go_wp2_with (fail)
 refine HRD.out.mono ?_
 rintro e w14 ⟨rfl, k14⟩
 have H14 := Lib.hid (H13.out.same k14)
 have HST3 := Lib.hid (HST2.out.kept k14)
 clear k14 HRD H13 HST2
 obtain ⟨W2, hW2⟩ : ∃ W2, w14.alloc (.cells #[S [97]] 9) = W2 := ⟨_, rfl⟩
 have k2 : Kept [] w14 W2 := by rw [← hW2]; exact (Kept.refl _ _).alloc _
 have hst2 : StrsAt W2 (.slice (some ⟨w14.heap.size, 0, none⟩) 1 1) [[97]] := by
  rw [← hW2]
  exact StrsAt.new (ss := [[97]]) (heap_new w14 _) (by simp) (by simp)
 have HSM := Lib.hid (same_at lv _ [[97]] [[97]] true W2 (by decide) (HST3.out.kept k2) hst2)
 have HM := Lib.hid (fun W (k : Kept [] W2 W) => lf_make ((H14.out.same k2).same k) (by omega) (by omega) (by show 2 + 1 ≤ 16777000; omega) [97] (by decide))
 have HM2 : Hid (∀ W, Kept [] W2 W → Calls Tryz.prog 12 #[Ptr ff, S [97]] W fun e w' => e = .returned (I 160) ∧ Kept [] w w') := Lib.hid (fun W k => by
  refine (HM.out W k).mono ?_
  rintro e w' ⟨rfl, hs, _⟩
  refine ⟨?_, hs.old⟩
  rw [show makeF 14 (163, 2, qE4).2.1 (163, 2, qE4).2.2 [97] false = (160, 2, qE4) from qx11])
 clear hst2 k2 H14 HST3 HM
 go_wp2_with (simp only [hW2]; done)
 refine HSM.out.mono ?_
 rintro e w16 ⟨rfl, k16⟩
 have HM3 := Lib.hid (HM2.out w16 k16)
 clear HM2 k16 HSM
 go_wp2_with (fail)
 refine HM3.out.mono ?_
 rintro e w17 ⟨rfl, k17⟩
 go_wp2_with (fail)
 go_ret
 exact ⟨rfl, k17⟩
section
section
open Go.ChangeShapes Go.WideShapes Go.Deep Go.Joins
variable {H : Type} {enc : TypeId × Value → H} {P : Program} {w : World} {base : Nat} {spare : Nat → Bool} {held : Bool}
theorem open_agg_any {r : Reach} {b0 : Nat} {t : TypeId} {fs : Array Field} {v : Value} {d : DataW H} {p : List MemPlace} (hs : P.underlying t = some (.struct fs)) (hone : oneCellFields P fs = true) (hC : P.cellsOf t = fs.size)
  (hv : Value.okWide P w r b0 t v) (h : DataW.Trod enc P w base spare held t v d p) :
  ∃ (cs : Array Value) (ys : List (DataW H × List MemPlace)) (n : Nat), v = .agg cs ∧ cs.size = fs.size ∧ d = .agg (ys.map (·.1)) ∧ ys.length = fs.size ∧
   ∀ (j : Nat) (f : Field), fs[j]? = some f → ∃ u y, cs[j]? = some u ∧ ys[j]? = some y ∧ DataW.trod enc P w base spare held n f.type [u] = some y := by
 obtain ⟨cs, rfl, hsz⟩ := okWide_struct hs hv
 obtain ⟨fuel, hf⟩ := h
 obtain ⟨xs, n, _, hx, _, hlen, hg⟩ := DataW.trod_struct hs hf
 simp only [Prod.mk.injEq] at hx
 refine ⟨cs, xs, n, rfl, hsz.trans hC, hx.1, hlen, fun j f hj => ?_⟩
 obtain ⟨ho, hk⟩ := hone_of hone j f hj
 have hjl : j < fs.size := (Array.getElem?_eq_some_iff.1 hj).1
 have hsz' : cs.size = fs.size := hsz.trans hC
 have h1 := hg j f hj
 rw [ho, hk] at h1
 have hl : (Value.agg cs).cells = cs := by simp [Value.cells]
 rw [hl] at h1
 have hone' : (cs.toList.drop j).take 1 = [cs[j]'(by omega)] := by
  rw [List.drop_eq_getElem_cons (by simpa using (by omega : j < cs.size))]
  simp
 rw [hone'] at h1
 have hys : xs[j]? = some (xs[j]'(by omega)) := List.getElem?_eq_getElem (by omega)
 exact ⟨_, _, Array.getElem?_eq_getElem (by omega), hys, h1.trans hys⟩
theorem open_slice_fields {t e : TypeId} {fs : Array Field} {fuel : Nat} {cs : List Value} {x : DataW H × List MemPlace} (ht : P.underlying t = some (.slice e)) (he : P.underlying e = some (.struct fs))
  (hone : oneCellFields P fs = true) (hC : P.cellsOf e = fs.size) (h : DataW.trod enc P w base spare held fuel t cs = some x) :
  (cs = [.slice none 0 0] ∧ x = (.nil, [])) ∨
  ∃ (a : Addr) (len cap m : Nat) (D : Nat → DataW H) (Pl : Nat → List MemPlace), cs = [.slice (some a) len cap] ∧ base ≤ a.block ∧ len ≤ cap ∧ cap ≤ maxLen ∧ m = (if spare a.block then cap else len) ∧
   x = (.slice ((List.range len).map D) ((List.range (m - len)).map fun j => D (len + j)), MemPlace.row a (m * fs.size) ++ (List.range m).flatMap Pl) ∧
   ∀ i, i < m → ∃ (ys : List (DataW H × List MemPlace)) (n : Nat), D i = .agg (ys.map (·.1)) ∧ Pl i = ys.flatMap (·.2) ∧ ys.length = fs.size ∧
    ∀ (j : Nat) (f : Field), fs[j]? = some f → ∃ (v : Value) (y : DataW H × List MemPlace), w.cell? (a.add (i * fs.size + j)) = some v ∧ ys[j]? = some y ∧ DataW.trod enc P w base spare held n f.type [v] = some y := by
 rcases open_slice ht h with h0 | ⟨a, len, cap, m, n, D, Pl, hcs, hb, hl, hm, hmm, hx, hi⟩
 ·exact .inl h0
 ·refine .inr ⟨a, len, cap, m, D, Pl, hcs, hb, hl, hm, hmm, by rw [hC] at hx; exact hx, fun i him => ?_⟩
  obtain ⟨cs', hc, ht'⟩ := hi i him
  rw [hC] at hc
  obtain ⟨ys, n', hn', hy, hlen, hyl, hf⟩ := DataW.trod_struct he ht'
  obtain ⟨_, hcl, hat⟩ := World.cells?_some hc
  simp only [Prod.mk.injEq] at hy
  refine ⟨ys, n', hy.1, hy.2, hyl, fun j f hj => ?_⟩
  obtain ⟨ho, hk⟩ := hone_of hone j f hj
  have hjl : j < fs.size := (Array.getElem?_eq_some_iff.1 hj).1
  have hcell := hat j hjl
  have hv : cs'[j]? = some (cs'[j]'(by omega)) := List.getElem?_eq_getElem (by omega)
  have h1 := hf j f hj
  rw [ho, hk] at h1
  have hone' : (cs'.drop j).take 1 = [cs'[j]'(by omega)] := by
   rw [List.drop_eq_getElem_cons (by omega)]
   rfl
  rw [hone'] at h1
  have hys : ys[j]? = some (ys[j]'(by omega)) := List.getElem?_eq_getElem (by omega)
  refine ⟨_, _, ?_, hys, h1.trans hys⟩
  rw [← Go.Deep.add_add, hcell, hv]
end
open Go.Lib Go.ChangeShapes Go.WideShapes Go.ChangeAt
theorem own : ownKnob Tryz.prog.godebug = none := by kernel_rfl
theorem laidOut : laidOutB Tryz.prog = true := by kernel_rfl
noncomputable def laidWorld (os : Os) : World :=
 let w0 := World.holding Tryz.prog os ⟨#[], #[], []⟩
 let put (h : Array Obj) (g : Nat) (cs : Array Value) : Array Obj := h.modify g fun
  | .cells _ t frozen => .cells cs t frozen
  | o => o
 let h4 := put w0.heap 1 (Lib.firstTab.map fun z => Value.int .u8 z).toArray
 let h5 := put h4 2 ((List.range 16).flatMap fun i => [Value.int .u8 (Lib.accLo i), Value.int .u8 (Lib.accHi i)]).toArray
 { w0 with heap := h5 }
theorem laid_a (os : Os) (args : Array Value) : LaidIn Tryz.prog ((laidWorld os).forCall (fun _ _ => 0) ⟨#[], args, []⟩).memory [("unicode/utf8.acceptRanges", Rows.laid_unicode_utf8_acceptRanges)] [2] :=
 LaidIn.of_run _ 10 (by kernel_rfl) (by kernel_rfl) (by kernel_rfl) (by kernel_rfl)
theorem laid_b (os : Os) (args : Array Value) : LaidIn Tryz.prog ((laidWorld os).forCall (fun _ _ => 0) ⟨#[], args, []⟩).memory [("unicode/utf8.first", Rows.laid_unicode_utf8_first)] [1] :=
 LaidIn.of_run _ 10 (by kernel_rfl) (by kernel_rfl) (by kernel_rfl) (by kernel_rfl)
theorem laid_met (os : Os) (args : Array Value) : laidMet Tryz.prog [("unicode/utf8.acceptRanges", Rows.laid_unicode_utf8_acceptRanges), ("unicode/utf8.first", Rows.laid_unicode_utf8_first)] ((laidWorld os).forCall (fun _ _ => 0) ⟨#[], args, []⟩).memory :=
 (LaidIn.append (laid_a os args) (laid_b os args) (by kernel_rfl)).met
theorem accept_data : (Rows.laid_unicode_utf8_acceptRanges : DataW Unit) = acceptData := by kernel_rfl
theorem tabs_of_laid {W : World} (h : laidMetH Tryz.prog [("unicode/utf8.acceptRanges", Rows.laid_unicode_utf8_acceptRanges), ("unicode/utf8.first", Rows.laid_unicode_utf8_first)] W) (hs : W.ShapedOpen Tryz.prog) : Tabs W := by
 refine ⟨?_, Tryz.laysM146.s1_3 W hs⟩
 have h1 := Lib.laidMet.reads h (.head _)
 have h2 := Lib.laidMet.reads h (.tail _ (.head _))
 rw [accept_data] at h1
 rw [show Rows.laid_unicode_utf8_first = firstData from Pinned.utf8First_eq] at h2
 exact utf8Tabs_of_readsT (U8Types.of196 Tryz.lays196) ⟨by kernel_rfl, by kernel_rfl, by kernel_rfl, by kernel_rfl, by kernel_rfl, by kernel_rfl, by kernel_rfl⟩ h2 h1
theorem S_of (s : ByteArray) : S s.data.toList = .string s := by show Value.string ⟨s.data.toList.toArray⟩ = _; rw [Lib.mk_data s]
theorem bulk_part {H : Type} {d : DataW H} {l : List (DataW H)} (h : d ∈ l) : Rows.uptoBulk d ≤ Rows.uptoBulkAll l := by
 induction l with
 | nil => cases h
 | cons x r ih =>
  simp only [Rows.uptoBulkAll]
  cases List.mem_cons.1 h with
  | inl e => subst e; omega
  | inr e => have := ih e; omega
theorem bulk_one {H : Type} (d : DataW H) : 1 ≤ Rows.uptoBulk d := by
 cases d with
 | lit l => cases l <;> simp [Rows.uptoBulk]
 | nil => simp [Rows.uptoBulk]
 | ptr d => simp [Rows.uptoBulk]
 | slice elems spare => simp [Rows.uptoBulk]
 | agg parts => simp [Rows.uptoBulk]
 | iface t d => simp [Rows.uptoBulk]
 | map entries => simp [Rows.uptoBulk]
 | held x => simp [Rows.uptoBulk]
theorem bulk_len {H : Type} (l : List (DataW H)) : l.length ≤ Rows.uptoBulkAll l := by
 induction l with
 | nil => simp [Rows.uptoBulkAll]
 | cons x r ih => have := bulk_one x; simp only [Rows.uptoBulkAll, List.length_cons]; omega
theorem bulk_str {H : Type} (bytes : List UInt8) : Rows.uptoBulk (DataW.lit (H := H) (.string bytes)) = bytes.length + 1 := by simp [Rows.uptoBulk]
theorem bulk_bound {H : Type} {l : List (DataW H)} (hk : Rows.uptoSmall H l = true) : Rows.uptoBulkAll l ≤ 1048576 := of_decide_eq_true hk
theorem bulk_slice {H : Type} (a b : List (DataW H)) : Rows.uptoBulk (.slice a b) = Rows.uptoBulkAll a + Rows.uptoBulkAll b + 1 := by simp [Rows.uptoBulk]
theorem int_lo {x : Int} (h : (Lit.int .i64 x).wf = true) : -9223372036854775808 ≤ x := by have h1 : IntKind.i64.min = -9223372036854775808 := rfl; simp [Lit.wf] at h; omega
theorem int_hi {x : Int} (h : (Lit.int .i64 x).wf = true) : x ≤ 9223372036854775807 := by have h1 : IntKind.i64.max = 9223372036854775807 := rfl; simp [Lit.wf] at h; omega
section
open Go.Lib Go.ChangeShapes Go.WideShapes Go.Deep Go.Joins Go.ChangeAt
variable {H : Type} {enc : TypeId × Value → H} {w : World} {base : Nat} {spare : Nat → Bool} {held : Bool}
theorem open_int1 {fuel : Nat} {u : Value} {x : DataW H × List MemPlace} (h : DataW.trod enc Tryz.prog w base spare held fuel 3 [u] = some x) : ∃ n, u = I n ∧ (Lit.int .i64 n).wf = true := by
 obtain ⟨n, e, _, hw⟩ := DataW.trod_int Tryz.underlying3 h
 exact ⟨n, by simpa using e, by first | exact hw.1 | exact hw | simpa using hw⟩
theorem open_str1 {fuel : Nat} {u : Value} {x : DataW H × List MemPlace} (h : DataW.trod enc Tryz.prog w base spare held fuel 9 [u] = some x) : ∃ l, u = S l ∧ x.1 = .lit (.string l) := by
 obtain ⟨s, e, hx, _⟩ := DataW.trod_string Tryz.underlying9 h
 refine ⟨s.data.toList, ?_, ?_⟩
 ·rw [S_of]; simpa using e
 ·rw [hx]
end
theorem TabsU.of {w : World} (h : Tabs w) : TabsU w [1, 2, 0] := by
 have hl : ∀ (p : Addr) (v : Value), w.cell? p = some v → p.block < w.heap.size := fun p v hc => World.block_lt_of_cell? w p hc
 refine ⟨h, fun x hx => ?_, fun T w' k hT => ?_⟩
 ·simp only [List.mem_cons, List.not_mem_nil, or_false] at hx
  rcases hx with rfl | rfl | rfl
  ·exact hl _ _ (h.u8.1 0 (by decide))
  ·exact hl _ _ (h.u8.2 0 (by decide)).1
  ·obtain ⟨m, hm⟩ := h.ml; exact hl _ _ hm
 ·have n1 : 1 ∉ T := fun hm => hT _ hm (by simp)
  have n2 : 2 ∉ T := fun hm => hT _ hm (by simp)
  have n3 : 0 ∉ T := fun hm => hT _ hm (by simp)
  have hc : ∀ (p : Addr) (v : Value), w.cell? p = some v → p.block ∉ T → w'.cell? p = some v := fun p v h1 h2 => by rw [k.cell (hl p v h1) h2, h1]
  exact ⟨⟨fun c h1 => hc _ _ (h.u8.1 c h1) n1, fun i h1 => ⟨hc _ _ (h.u8.2 i h1).1 n2, hc _ _ (h.u8.2 i h1).2 n2⟩⟩, by obtain ⟨m, hm⟩ := h.ml; exact ⟨m, hc _ _ hm n3⟩⟩
end
section
variable {given : Nat} {E : List Nd}
theorem pre_mem (h : WF given E) {x : Nd} (hx : x ∈ E) : ∀ j, j < x.path.length → ∃ y ∈ E, y.path = x.path.take (x.path.length - j) ∧ (0 < j → y.dir = true)
 | 0, _ => ⟨x, hx, by rw [Nat.sub_zero, List.take_length], fun h => absurd h (by omega)⟩
 | j + 1, hj => by
  obtain ⟨y, hy, hp, _⟩ := pre_mem h hx j (by omega)
  have hl : y.path.length = x.path.length - j := by rw [hp, List.length_take]; omega
  have hd : y.path.dropLast = x.path.take (x.path.length - (j + 1)) := by
   rw [List.dropLast_eq_take, hl, hp, List.take_take]
   congr 1
   omega
  rcases h.up y hy with h0 | ⟨z, hz, h1, h2⟩
  ·have := congrArg List.length h0
   rw [List.length_dropLast, hl] at this
   simp at this
   omega
  ·exact ⟨z, hz, by rw [h1, hd], fun _ => h2⟩
theorem findF_ok (E : List Nd) : ∀ (r so : List Nm), (∀ k, k < r.length → isDirP E (so ++ r.take k) = true ∧ (ent E (so ++ r.take (k + 1))).isSome = true) → findF E so r = 0
 | [], so, _ => rfl
 | n :: r, so, h => by
  obtain ⟨h1, h2⟩ := h 0 (by simp)
  rw [List.take_zero, List.append_nil] at h1
  have h2 : (ent E (so ++ [n])).isSome = true := by simpa using h2
  rw [findF_snoc_ok h1 h2]
  refine findF_ok E r (so ++ [n]) fun k hk => ?_
  obtain ⟨a, b⟩ := h (k + 1) (by simp; omega)
  rw [List.append_assoc, List.append_assoc]
  exact ⟨by simpa using a, by simpa using b⟩
theorem find_in (h : WF given E) {x : Nd} (hx : x ∈ E) : findF E [] x.path = 0 := by
 refine findF_ok E x.path [] fun k hk => ?_
 rw [List.nil_append, List.nil_append]
 have key : ∀ m, m < x.path.length → 0 < m → ∃ y ∈ E, y.path = x.path.take m ∧ y.dir = true := fun m hm h0 => by
  obtain ⟨y, hy, h1, h2⟩ := pre_mem h hx (x.path.length - m) (by omega)
  exact ⟨y, hy, by rw [h1]; congr 1; omega, h2 (by omega)⟩
 constructor
 ·rcases Nat.eq_zero_or_pos k with rfl | h0
  ·rfl
  ·obtain ⟨y, hy, h1, h2⟩ := key k hk h0
   rw [← h1, isDirP_of h (ent_of h.paths hy)]
   exact h2
 ·rcases Nat.lt_or_ge (k + 1) x.path.length with h1 | h1
  ·obtain ⟨y, hy, h2, _⟩ := key (k + 1) h1 (by omega)
   rw [← h2, ent_of h.paths hy]
   rfl
  ·rw [List.take_of_length_le h1, ent_of h.paths hx]
   rfl
theorem dirF_in (h : WF given E) {x : Nd} (hx : x ∈ E) : dirF E (pathT x.path) = (0, x.dir) := by
 unfold dirF
 rw [path_T (h.pv hx)]
 simp only
 rw [find_in h hx, if_neg (by simp), isDirP_of h (ent_of h.paths hx)]
theorem fileF_in (h : WF given E) {x : Nd} (hx : x ∈ E) (hd : x.dir = false) : fileF E (pathT x.path) = (0, x) := by
 unfold fileF
 rw [path_T (h.pv hx)]
 simp only
 rw [find_in h hx, if_neg (by simp), isDirP_of h (ent_of h.paths hx), if_neg (by rw [hd]; decide), ent_of h.paths hx]
theorem readF_in (h : WF given E) {x : Nd} (hx : x ∈ E) (hd : x.dir = false) : readF E (pathT x.path) 0 5000 = (x.data, 0) := by
 unfold readF
 rw [fileF_in h hx hd]
 simp only
 have := (h.data x hx).1
 rw [if_neg (by simp), if_neg (by omega)]
 show ((x.data.drop 0).take 5000, (0 : Int)) = (x.data, 0)
 rw [List.drop_zero, List.take_of_length_le (by omega)]
end
def RdF (w : World) (ff given : Nat) (E : List Nd) : Prop := (∃ sb V, FR w ff sb V given E) ∧ Tabs w
section
variable {w : World} {ff given : Nat} {E : List Nd}
theorem RdF.same {w' : World} (h : RdF w ff given E) (k : Kept [] w w') : RdF w' ff given E := by
 obtain ⟨⟨sb, V, h1⟩, h2⟩ := h
 exact ⟨⟨sb, V, h1.same k⟩, h2.kept k⟩
theorem RdF.wf (h : RdF w ff given E) : WF given E := by obtain ⟨⟨sb, V, h1⟩, h2⟩ := h; exact h1.wf
theorem Lf.rdf {w0 : World} {fb sb n d : Nat} {M : List Nat} (h : Lf w0 w ff fb sb n d given E M) : RdF w ff given E := by
 obtain ⟨⟨V, h1⟩, h2⟩ := h.fr
 exact ⟨⟨sb, V, h1⟩, h2⟩
theorem CH.rdf {fb sb n d : Nat} {V : OM} {T U : List Nat} {z : Bool} (h : CH w ff fb sb n V d T z given E U) : RdF w ff given E := ⟨⟨sb, V, h.fr⟩, h.tabs.1⟩
theorem rf_list (h : RdF w ff given E) (s : List UInt8) (hs : s.length < 4294967281) :
  Calls Tryz.prog 23 #[Ptr ff, S s] w fun e w' => (∃ lv, e = .returned (.tuple #[lv, I (listF E s).1]) ∧ StrsAt w' lv (listF E s).2 ∧ ∀ q, lv.ownBlock = some q → w.heap.size ≤ q ∧ q < w'.heap.size) ∧ Kept [] w w' := by
 obtain ⟨⟨sb, V, h1⟩, hT⟩ := h
 exact flistN_any w ff sb V given E h1 hT s hs
theorem rf_read (h : RdF w ff given E) (s : List UInt8) (hs : s.length < 4294967281) (a m : Int) (ha : I64 a) (hm : I64 m) :
  Calls Tryz.prog 27 #[Ptr ff, S s, I a, I m] w fun e w' => e = .returned (.tuple #[S (readF E s a m).1, I (readF E s a m).2]) ∧ Kept [] w w' := by
 obtain ⟨⟨sb, V, h1⟩, hT⟩ := h
 exact ffread_any w ff sb V given E h1 hT s hs a m ha hm
theorem rf_size (h : RdF w ff given E) (s : List UInt8) (hs : s.length < 4294967281) :
  Calls Tryz.prog 26 #[Ptr ff, S s] w fun e w' => e = .returned (.tuple #[I (fileF E s).2.data.length, I (fileF E s).1]) ∧ Kept [] w w' := by
 obtain ⟨⟨sb, V, h1⟩, hT⟩ := h
 exact fsize_any w ff sb V given E h1 hT s hs
theorem rf_dir (h : RdF w ff given E) (s : List UInt8) (hs : s.length < 4294967281) :
  Calls Tryz.prog 25 #[Ptr ff, S s] w fun e w' => e = .returned (.tuple #[.bool (dirF E s).2, I (dirF E s).1]) ∧ Kept [] w w' := by
 obtain ⟨⟨sb, V, h1⟩, hT⟩ := h
 exact fdir_any w ff sb V given E h1 hT s hs
end
end Go.Proofs.YteplbljjlbdhaaaGreatDoor
