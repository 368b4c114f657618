/- Walks and lemmas on the program of this seat, used by its statements; each theorem bears its own conditions. -/
import Derived.Test.YtgdncdhalnijcaaDoorReD
import Derived.OwnWalk
import Derived.Deep.AppendLies
import Derived.StillTailTactics
namespace Go.Proofs.YtgdncdhalnijcaaDoor
open Go.RowKit
set_option linter.unusedVariables false
set_option linter.unusedSimpArgs false
namespace BD

set_option maxRecDepth 100000 in
set_option maxHeartbeats 16000000 in
theorem run_any (hS : SmallSays) (st : Int) (nv vv : Value) (names values : List (List UInt8)) (s : List UInt8) (w : World) (hn : StrsAt w nv names) (hv : StrsAt w vv values) (hvs : ∀ s ∈ values, s.length ≤ 9223372036854775807) (hl : s.length ≤ 1000000)
    (R0 : Rd) (hR : newF st names values = (some R0, 0)) :
    Calls Tryd.prog 9 #[.agg #[I st, nv, vv], S s] w (RunPost R0 s w) := by
  obtain ⟨i0, hi0, hz0, hz1, hz2⟩ := info_parts byte_info
  have hA : Kept [] w (w.alloc (.cells #[I st, nv, vv] 24)) := (Kept.refl _ _).alloc _
  have HK0 := kind_any hS st nv vv names values (w.alloc (.cells #[I st, nv, vv] 24)) (hn.kept hA) (hv.kept hA) hvs
  obtain ⟨kd, sz, hkf, hkd⟩ : ∃ kd sz, kindF st names values = (kd, sz, 0) ∧ KindOf kd sz R0 := by
    rcases kind_new st names values with ⟨k, h1, _, _⟩ | ⟨kd, sz, R, h1, h2, h3⟩
    · rw [hR] at h1; cases h1
    · rw [hR] at h1
      have : R0 = R := by injection h1 with h _; injection h
      subst this
      exact ⟨kd, sz, h2, h3⟩
  rw [hkf] at HK0
  have HK1 := Lib.hid HK0
  have HA := Lib.hid hA
  clear HK0 hkf hR hA hn hv
  go_enter Tryd.func9, Tryd.ntmps9
  go_wp2_with (fail)
  refine HK1.out.mono ?_
  rintro e w1 ⟨rfl, k1⟩
  have K1 := Lib.hid (HA.out.trans' k1)
  clear k1 HK1
  rcases hkd with ⟨rfl, rfl, rfl⟩ | ⟨rfl, rfl, rfl⟩ | ⟨rfl, hsz0, hsz1, rfl⟩ | ⟨rfl, rfl, rfl⟩
  · go_wp2_with (fail)
    exact bodyPost_ret (v := .tuple #[S [], I 0, .bool true, I 0]) (by simp [results, Tryd.results9, go_sem]) rfl ⟨[], 0, true, 0, rfl, run_none s, K1.out⟩
  · have hB : w.heap.size ≤ w1.heap.size := K1.out.size
    obtain ⟨b, hb⟩ : ∃ b, w1.heap.size = b := ⟨_, rfl⟩
    have HX0 : Hid (XAt (w1.alloc (Xr.obj ⟨s, 0, .slice none 0 0, 0, false⟩)) b ⟨s, 0, .slice none 0 0, 0, false⟩) := Lib.hid (by rw [← hb]; exact xAt_new w1 _)
    have HB : Hid (w.heap.size ≤ b) := Lib.hid (by omega)
    go_wp2_with (fail)
    go_loopw [13, 14, 15, 16] (fun _ _ _ _ wr => LoopR b s w wr) (fun _ _ _ _ wr => mX s.length b wr)
    case atStart => exact ⟨⟨s, 0, .slice none 0 0, 0, false⟩, [], HX0.out, rfl, OwnB.nil _ _, K1.out.alloc _, .inr (start_num s _)⟩
    case round =>
      obtain ⟨x1, out, h1, hs1, ho1, hk1, hc1⟩ := hrel
      clear hb hB
      rcases hc1 with hE | hN
      · have hok := hE.not_ok
        have HR := Lib.hid (And.intro h1 (And.intro hs1 (And.intro ho1 (And.intro hk1 hE))))
        clear h1 hs1 ho1 hk1 hE
        go_wp2_with (fail)
        refine (okX_any b x1 wr HR.out.1).mono ?_
        rintro e w' ⟨rfl, rfl⟩
        rw [hok]
        obtain ⟨xe, oe, hxe, hse, hoe, hke, hfin⟩ : ∃ xe oe, XAt wr b xe ∧ xe.s = s ∧ OwnB (b + 1) xe.sv oe wr ∧ Kept [] w wr ∧ Fin xe oe := ⟨x1, out, HR.out.1, HR.out.2.1, HR.out.2.2.1, HR.out.2.2.2.1, .inl HR.out.2.2.2.2⟩
        obtain ⟨ec0, ec1, ec2, ec3, ec4⟩ := hxe.cells
        obtain ⟨ef0, ef1, ef2, ef3, ef4⟩ := hxe.free
        obtain ⟨pe, ce, hve, hoe⟩ := hoe
        rw [hve] at ec2
        have HXE := Lib.hid (And.intro hxe (And.intro hse (And.intro hve (And.intro hoe (And.intro hke hfin)))))
        clear hxe hse hve hke hfin
        by_cases he0 : xe.e = 0
        · have hd : ∃ d : Bool, xe.short = !d ∧ RunIs rdC s oe xe.pos d 0 := by
            have hs := HXE.out.2.1
            rcases HXE.out.2.2.2.2.2 with h | ⟨h1, h2, r', h3, h4, h5⟩
            · obtain ⟨g1, g2⟩ := (ended_run h).2 he0
              exact ⟨false, by rw [g1]; rfl, by rw [← hs]; exact g2⟩
            · exact ⟨true, by rw [h2]; rfl, by rw [← hs]; exact done_run h3 h4 h5⟩
          obtain ⟨d, hd1, hd2⟩ := hd
          rw [hd1] at ec4
          rw [he0] at ec3
          have HD := Lib.hid hd2
          have hcv := conv_own hoe
          have hcvn : ∀ n, (convert 51 9 (.slice pe oe.length ce)).run Tryd.prog (wr.drewN n) = .ok (S oe) (wr.drewN n) := fun n => conv_own (w := wr.drewN n) hoe
          clear hd1 hd2 he0 hoe
          go_wp2_with (fail)
          go_quiet (fail)
          go_wp2_with (fail)
          exact bodyPost_ret (v := .tuple #[S oe, I xe.pos, .bool d, I 0]) (by simp [results, Tryd.results9, go_sem]) rfl ⟨oe, xe.pos, d, 0, rfl, HD.out, HXE.out.2.2.2.2.1.drewN _⟩
        · have heb : (xe.e != 0) = true := by simpa using he0
          have HD : Hid (RunIs rdC s [] 0 false xe.e) := Lib.hid (by
            have hs := HXE.out.2.1
            rcases HXE.out.2.2.2.2.2 with h | ⟨h1, h2, r', h3, h4, h5⟩
            · rw [← hs]; exact (ended_run h).1 he0
            · exact absurd h1 he0)
          clear hoe he0
          go_wp2_with (fail)
          go_quiet (fail)
          go_wp2_with (fail)
          exact bodyPost_ret (v := .tuple #[S [], I 0, .bool false, I xe.e]) (by simp [results, Tryd.results9, go_sem]) rfl ⟨[], 0, false, xe.e, rfl, HD.out, HXE.out.2.2.2.2.1.drewN _⟩
      · have hok : okX x1 = true := by simp [okX, hN.1, hN.2.1]
        have hp1 : x1.pos ≤ x1.s.length := hN.2.2.2.2.2.1
        have hol : out.length ≤ 1000000 := by have := out_le hN.2.2.2.2.2.2; rw [hs1] at this; omega
        have HR := Lib.hid (And.intro h1 (And.intro hs1 (And.intro ho1 (And.intro hk1 hN))))
        clear h1 hs1 ho1 hk1 hN
        go_wp2_with (fail)
        refine (okX_any b x1 wr HR.out.1).mono ?_
        rintro e w' ⟨rfl, rfl⟩
        rw [hok]
        go_wp2_with (fail)
        refine (xnumber_any b x1 out (rdT out.length) wr HR.out.1 hp1 (by rw [HR.out.2.1]; exact hl) (.inr HR.out.2.2.2.2)).mono ?_
        rintro e w2 ⟨n, rfl, k2, x2, h2, hs2, hv2, hn0, hn1, hc2⟩
        obtain ⟨q2, hq2⟩ : ∃ q, decide (n ≤ 1048576 - (out.length : Int)) = q := ⟨_, rfl⟩
        have hm2 := num_must hc2 hq2.symm (by omega)
        have ho2 : OwnB (b + 1) x2.sv out w2 := by rw [hv2]; exact HR.out.2.2.1.kept1 k2 (by omega)
        obtain ⟨p2, cp2, hv2', hw2⟩ := ho2
        obtain ⟨c0, c1, c2, c3, c4⟩ := h2.cells
        rw [hv2'] at c2
        have H2 := Lib.hid (And.intro h2 (And.intro (hs2.trans HR.out.2.1) (And.intro k2 (And.intro hv2' (And.intro hw2 hm2)))))
        clear h2 hs2 hv2 hv2' hw2 k2 hm2 hc2 c0 c1 c3 c4
        go_wp2_with (fail)
        refine (must_any b x2 q2 181 w2 H2.out.1).mono ?_
        rintro e w3 ⟨rfl, h3, k3⟩
        obtain ⟨x3, hx3⟩ : ∃ x3, mustF x2 q2 181 = x3 := ⟨_, rfl⟩
        have hm3 := H2.out.2.2.2.2.2
        rw [hx3] at h3 hm3
        have hs3 : x3.s = s := by rw [← hx3, (must_s _ _ _).1]; exact H2.out.2.1
        have ho3 : OwnB (b + 1) x3.sv out w3 := by
          rw [← hx3, (must_s _ _ _).2]
          exact OwnB.kept1 ⟨p2, cp2, H2.out.2.2.2.1, H2.out.2.2.2.2.1⟩ k3 (by omega)
        have hk3 : Kept [] w w3 := HR.out.2.2.2.1.new1 (H2.out.2.2.1.trans' k3) HB.out
        clear hx3 k3 hq2 c2 H2
        rcases hm3 with hE3 | ⟨hok3, hz3, hc3⟩
        · have hok3 := hE3.not_ok
          have hc3 : Ended x3 out ∨ InChunk x3 out n 0 := .inl hE3
          have HI2 := Lib.hid (And.intro h3 (And.intro hs3 (And.intro ho3 (And.intro hk3 hc3))))
          clear h3 hs3 ho3 hk3 hc3 hE3
          go_wp2_with (fail)
          refine (okX_any b x3 w3 HI2.out.1).mono ?_
          rintro e w' ⟨rfl, rfl⟩
          rw [hok3]
          obtain ⟨h3, hs3, ho3, hk3, hc3⟩ := HI2.out
          clear HI2
          go_wp2_with (fail)
          have HI3 := Lib.hid (And.intro h3 (And.intro hs3 (And.intro ho3 (And.intro hk3 hc3))))
          clear h3 hs3 ho3 hk3 hc3
          go_loopw [14, 15] (fun iv _ wi => ∃ (x4 : Xr) (o4 : List UInt8) (i : Nat), iv = I i ∧ (i : Int) ≤ n ∧ XAt wi b x4 ∧ x4.s = s ∧ OwnB (b + 1) x4.sv o4 wi ∧ Kept [] w wi ∧ ((Ended x4 o4 ∧ out.length ≤ o4.length) ∨ (InChunk x4 o4 n i ∧ o4.length = out.length + i))) (fun iv _ _ => (n - intOf iv).toNat)
          case atStart => exact ⟨x3, out, 0, rfl, by omega, HI3.out.1, HI3.out.2.1, HI3.out.2.2.1, HI3.out.2.2.2.1, by rcases HI3.out.2.2.2.2 with h | h; exact .inl ⟨h, Nat.le_refl _⟩; exact .inr ⟨h, rfl⟩⟩
          case round =>
            obtain ⟨x4, o4, i, rfl, hi, h4, hs4, ho4, hk4, hc4⟩ := hrel
            by_cases hlt : (i : Int) < n
            · rcases hc4 with ⟨hE4, hle4⟩ | ⟨hC4, hle4⟩
              · have hok4 := hE4.not_ok
                have HT := Lib.hid (And.intro h4 (And.intro hs4 (And.intro ho4 (And.intro hk4 (tail_end (s := s) (n := n) (L := s.length) (ol := out.length) (by rw [hs4]) (by omega) (.inl ⟨hE4, hle4⟩))))))
                clear h4 hs4 ho4 hk4 hE4 hle4
                go_wp2_with (fail)
                refine (okX_any b x4 _ HT.out.1).mono ?_
                rintro e w' ⟨rfl, rfl⟩
                rw [hok4]
                go_wp2_with (fail)
                refine (next_gen b x4 _ HT.out.1 HT.out.2.2.2.2.2.1 (by rw [HT.out.2.1]; exact hl)).mono ?_
                rintro e w5 ⟨rfl, h5, k5⟩
                obtain ⟨c5, hc5⟩ : ∃ c, nextB x4 = c := ⟨_, rfl⟩
                rw [hc5]
                obtain ⟨q5, hq5⟩ : ∃ q, ((c5.toNat : Int) == 13) = q := ⟨_, rfl⟩
                have H5 := Lib.hid (And.intro h5 (And.intro k5 (And.intro hc5 hq5)))
                clear h5 k5 hc5
                go_wp2_with (fail)
                refine (must_any b (nextF x4) q5 180 w5 H5.out.1).mono ?_
                rintro e w6 ⟨rfl, h6, k6⟩
                have hby : mustF (nextF x4) q5 180 = byX x4 13 := by_of (by decide) H5.out.2.2.1 H5.out.2.2.2
                rw [hby] at h6
                have H6 := Lib.hid (And.intro h6 (H5.out.2.1.trans' k6))
                clear h6 k6 hby hq5 H5
                go_wp2_with (fail)
                refine (next_gen b (byX x4 13) w6 H6.out.1 HT.out.2.2.2.2.2.2.1 (by rw [by_s, HT.out.2.1]; exact hl)).mono ?_
                rintro e w7 ⟨rfl, h7, k7⟩
                obtain ⟨c7, hc7⟩ : ∃ c, nextB (byX x4 13) = c := ⟨_, rfl⟩
                rw [hc7]
                obtain ⟨q7, hq7⟩ : ∃ q, ((c7.toNat : Int) == 10) = q := ⟨_, rfl⟩
                have H7 := Lib.hid (And.intro h7 (And.intro (H6.out.2.trans' k7) (And.intro hc7 hq7)))
                clear h7 k7 hc7 H6
                go_wp2_with (fail)
                refine (must_any b (nextF (byX x4 13)) q7 180 w7 H7.out.1).mono ?_
                rintro e w8 ⟨rfl, h8, k8⟩
                have hby : mustF (nextF (byX x4 13)) q7 180 = byX (byX x4 13) 10 := by_of (by decide) H7.out.2.2.1 H7.out.2.2.2
                rw [hby] at h8
                have H8 := Lib.hid (And.intro h8 (H7.out.2.1.trans' k8))
                clear h8 k8 hby hq7 H7
                go_wp2_with (fail)
                go_roundw
                case rel => exact ⟨byX (byX x4 13) 10, o4, H8.out.1, by rw [by_s, by_s]; exact HT.out.2.1, by rw [by_v, by_v]; exact HT.out.2.2.1.kept1 H8.out.2 (by omega), HT.out.2.2.2.1.new1 H8.out.2 HB.out, HT.out.2.2.2.2.2.2.2⟩
                case measure =>
                  have hv8 : OwnB (b + 1) (byX (byX x4 13) 10).sv o4 w8 := by rw [by_v, by_v]; exact HT.out.2.2.1.kept1 H8.out.2 (by omega)
                  rw [mX_own HR.out.1 HR.out.2.2.1, mX_own H8.out.1 hv8, if_pos hok]
                  exact HT.out.2.2.2.2.1 
              · have hok4 : okX x4 = true := by simp [okX, hC4.1, hC4.2.1]
                have hp4 : x4.pos ≤ x4.s.length := hC4.2.2.2.2.2.1
                have hcn := chunk_next hC4 hlt
                have hlo4 : o4.length ≤ 1048576 := by have := hC4.2.2.2.2.1; omega
                obtain ⟨xn, hxn⟩ : ∃ xn, nextF x4 = xn := ⟨_, rfl⟩
                obtain ⟨cn, hcnb⟩ : ∃ cn, nextB x4 = cn := ⟨_, rfl⟩
                have hsn : xn.s = s ∧ xn.sv = x4.sv := by rw [← hxn]; exact ⟨(next_s x4).1.trans hs4, (next_s x4).2⟩
                rw [hxn, hcnb] at hcn
                have HC := Lib.hid (And.intro h4 (And.intro hs4 (And.intro ho4 (And.intro hk4 (And.intro hle4 (And.intro hxn (And.intro hcnb (And.intro hsn hcn))))))))
                clear h4 hs4 ho4 hk4 hC4 hle4 hxn hcnb hsn hcn
                go_wp2_with (fail)
                refine (okX_any b x4 _ HC.out.1).mono ?_
                rintro e w' ⟨rfl, rfl⟩
                rw [hok4]
                go_wp2_with (fail)
                refine (next_any b x4 _ HC.out.1 hp4 (by rw [HC.out.2.1]; exact hl)).mono ?_
                rintro e w5 ⟨rfl, h5, k5⟩
                rw [HC.out.2.2.2.2.2.1] at h5
                rw [HC.out.2.2.2.2.2.2.1]
                have ho5 : OwnB (b + 1) x4.sv o4 w5 := HC.out.2.2.1.kept1 k5 (by omega)
                have H5 := Lib.hid (And.intro h5 (And.intro ho5 (HC.out.2.2.2.1.new1 k5 HB.out)))
                clear h5 k5 ho5
                go_wp2_with (fail)
                refine (okX_any b xn w5 H5.out.1).mono ?_
                rintro e w' ⟨rfl, rfl⟩
                rcases HC.out.2.2.2.2.2.2.2.2 with ⟨hokn, hCn⟩ | ⟨hokn, hEn⟩
                · rw [hokn]
                  have HN := Lib.hid hCn
                  clear hCn
                  obtain ⟨p5, cp5, hv5, hw5⟩ := H5.out.2.1
                  obtain ⟨d0, d1, d2, d3, d4⟩ := H5.out.1.cells
                  obtain ⟨f0, f1, f2, f3, f4⟩ := H5.out.1.free
                  rw [HC.out.2.2.2.2.2.2.2.1.2, hv5] at d2
                  have HW5 := Lib.hid (And.intro hw5 hv5)
                  have hB5 := Lib.hid (Nat.lt_of_lt_of_le (lt_of_block H5.out.1) (Nat.le_refl _))
                  clear hw5 hv5
                  have hob : ∀ q, (Value.slice p5 o4.length cp5).ownBlock = some q → b + 1 ≤ q ∧ q < w5.heap.size := OwnB.lt ⟨p5, cp5, rfl, HW5.out.1⟩
                  have HOB := Lib.hid hob
                  clear hob
                  go_wp2_with (at_builtin
                               refine wpList_append_lies _ rfl (.tmp 92) (.tmp 94) _ rfl (b + 1) 5 i0 (.int .u8 0) 1 1 Tryd.underlying51 hi0 hz0 hz1 hz2 rfl (by decide) (.slice p5 o4.length cp5) o4.length (Lib.byteCells o4) rfl (own_kept HW5.out.1 ((Kept.refl [] w5).alloc _)) ⟨w5.heap.size, 0, none⟩ 1 1 (Lib.byteCells [cn]) rfl rfl (World.news_of_block (heap_new w5 _)) (B_one _) (by decide) (by unfold maxLen; omega) (by omega) (by have := hB5.out; simp; omega) _ rfl ?_
                               intro g cap wa own1 gr1 hat1 hlt1
                               have ha1 : XAt wa b xn := XAt.grown (w := w5.alloc (.cells #[B cn] 5)) (H5.out.1.kept ((Kept.refl [] w5).alloc _) (by simp)) gr1 (fun e => by have := (HOB.out b e).1; omega)
                               have hka1 : Kept [] w wa := (H5.out.2.2.alloc _).grownN gr1 (fun k e => by have h1 := (HOB.out k e).1; have h2 := HB.out; omega)
                               have hfa := ha1.free
                               have HA1 := Lib.hid (And.intro own1 (And.intro ha1 hka1))
                               obtain ⟨⟨e0, e1, e2, e3, e4⟩, ⟨e5, e6, e7, e8, e9⟩⟩ := And.intro hfa ha1.cells
                               clear own1 gr1 ha1 hka1 hat1)
                  have h6 := XAt.set2 HA1.out.2.1 (.slice (some ⟨g, 0, none⟩) (o4.length + 1) cap)
                  have hk6 : Kept [b] wa (wa.setCell ⟨b, 2, none⟩ (.slice (some ⟨g, 0, none⟩) (o4.length + 1) cap)) := (Kept.refl [b] wa).setCell (.inl (by simp)) _
                  have ho6 : OwnB (b + 1) (.slice (some ⟨g, 0, none⟩) (o4.length + 1) cap) (o4 ++ [cn]) wa := OwnB.of HA1.out.1 (by simp) (by rw [Lib.byteCells_append])
                  go_roundw
                  case rel => exact ⟨{ xn with sv := .slice (some ⟨g, 0, none⟩) (o4.length + 1) cap }, o4 ++ [cn], i + 1, by go_num, by omega, h6, HC.out.2.2.2.2.2.2.2.1.1, ho6.kept1 hk6 (by omega), HA1.out.2.2.new1 hk6 HB.out, .inr ⟨HN.out, by have := HC.out.2.2.2.2.1; simp; omega⟩⟩
                  case measure => simp [intOf]; omega
                · rw [hokn]
                  have HN := Lib.hid hEn
                  clear hEn
                  go_wp2_with (fail)
                  go_roundw
                  case rel => exact ⟨xn, o4, i + 1, by go_num, by omega, H5.out.1, HC.out.2.2.2.2.2.2.2.1.1, by rw [HC.out.2.2.2.2.2.2.2.1.2]; exact H5.out.2.1, H5.out.2.2, .inl ⟨HN.out, by have := HC.out.2.2.2.2.1; omega⟩⟩
                  case measure => simp [intOf]; omega
            · have HT := Lib.hid (And.intro h4 (And.intro hs4 (And.intro ho4 (And.intro hk4 (tail_end (s := s) (n := n) (L := s.length) (ol := out.length) (by rw [hs4]) (by omega) (by
                rcases hc4 with h | ⟨h1, h2⟩
                · exact .inl h
                · have hin : n.toNat = i := by omega
                  exact .inr ⟨by rw [hin]; exact h1, by have := h1.2.2.1; omega⟩))))))
              clear h4 hs4 ho4 hk4 hc4
              go_wp2_with (fail)
              refine (next_gen b x4 _ HT.out.1 HT.out.2.2.2.2.2.1 (by rw [HT.out.2.1]; exact hl)).mono ?_
              rintro e w5 ⟨rfl, h5, k5⟩
              obtain ⟨c5, hc5⟩ : ∃ c, nextB x4 = c := ⟨_, rfl⟩
              rw [hc5]
              obtain ⟨q5, hq5⟩ : ∃ q, ((c5.toNat : Int) == 13) = q := ⟨_, rfl⟩
              have H5 := Lib.hid (And.intro h5 (And.intro k5 (And.intro hc5 hq5)))
              clear h5 k5 hc5
              go_wp2_with (fail)
              refine (must_any b (nextF x4) q5 180 w5 H5.out.1).mono ?_
              rintro e w6 ⟨rfl, h6, k6⟩
              have hby : mustF (nextF x4) q5 180 = byX x4 13 := by_of (by decide) H5.out.2.2.1 H5.out.2.2.2
              rw [hby] at h6
              have H6 := Lib.hid (And.intro h6 (H5.out.2.1.trans' k6))
              clear h6 k6 hby hq5 H5
              go_wp2_with (fail)
              refine (next_gen b (byX x4 13) w6 H6.out.1 HT.out.2.2.2.2.2.2.1 (by rw [by_s, HT.out.2.1]; exact hl)).mono ?_
              rintro e w7 ⟨rfl, h7, k7⟩
              obtain ⟨c7, hc7⟩ : ∃ c, nextB (byX x4 13) = c := ⟨_, rfl⟩
              rw [hc7]
              obtain ⟨q7, hq7⟩ : ∃ q, ((c7.toNat : Int) == 10) = q := ⟨_, rfl⟩
              have H7 := Lib.hid (And.intro h7 (And.intro (H6.out.2.trans' k7) (And.intro hc7 hq7)))
              clear h7 k7 hc7 H6
              go_wp2_with (fail)
              refine (must_any b (nextF (byX x4 13)) q7 180 w7 H7.out.1).mono ?_
              rintro e w8 ⟨rfl, h8, k8⟩
              have hby : mustF (nextF (byX x4 13)) q7 180 = byX (byX x4 13) 10 := by_of (by decide) H7.out.2.2.1 H7.out.2.2.2
              rw [hby] at h8
              have H8 := Lib.hid (And.intro h8 (H7.out.2.1.trans' k8))
              clear h8 k8 hby hq7 H7
              go_wp2_with (fail)
              go_roundw
              case rel => exact ⟨byX (byX x4 13) 10, o4, H8.out.1, by rw [by_s, by_s]; exact HT.out.2.1, by rw [by_v, by_v]; exact HT.out.2.2.1.kept1 H8.out.2 (by omega), HT.out.2.2.2.1.new1 H8.out.2 HB.out, HT.out.2.2.2.2.2.2.2⟩
              case measure =>
                have hv8 : OwnB (b + 1) (byX (byX x4 13) 10).sv o4 w8 := by rw [by_v, by_v]; exact HT.out.2.2.1.kept1 H8.out.2 (by omega)
                rw [mX_own HR.out.1 HR.out.2.2.1, mX_own H8.out.1 hv8, if_pos hok]
                exact HT.out.2.2.2.2.1 
        · by_cases hnz : n = 0
          · have hb3 := hz3 hnz
            have hp3 : x3.pos ≤ x3.s.length := by obtain ⟨_, _, _, _, _, _, h⟩ := hb3; exact h.1
            have HI2 := Lib.hid (And.intro h3 (And.intro hs3 (And.intro ho3 (And.intro hk3 hb3))))
            clear h3 hs3 ho3 hk3 hb3 hz3 hc3
            subst hnz
            go_wp2_with (fail)
            refine (okX_any b x3 w3 HI2.out.1).mono ?_
            rintro e w' ⟨rfl, rfl⟩
            rw [hok3]
            go_wp2_with (fail)
            refine (xbehind_any b x3 out w3 HI2.out.1 hp3 (by rw [HI2.out.2.1]; exact hl) (.inr HI2.out.2.2.2.2)).mono ?_
            rintro e w4 ⟨rfl, k4, x4, h4, hs4, hv4, hc4⟩
            obtain ⟨xe, oe, hxe, hse, hoe, hke, hfin⟩ : ∃ xe oe, XAt w4 b xe ∧ xe.s = s ∧ OwnB (b + 1) xe.sv oe w4 ∧ Kept [] w w4 ∧ Fin xe oe := ⟨x4, out, h4, hs4.trans HI2.out.2.1, by rw [hv4]; exact HI2.out.2.2.1.kept1 k4 (by omega), HI2.out.2.2.2.1.new1 k4 HB.out, hc4⟩
            clear h4 hs4 hv4 hc4 k4
            obtain ⟨ec0, ec1, ec2, ec3, ec4⟩ := hxe.cells
            obtain ⟨ef0, ef1, ef2, ef3, ef4⟩ := hxe.free
            obtain ⟨pe, ce, hve, hoe⟩ := hoe
            rw [hve] at ec2
            have HXE := Lib.hid (And.intro hxe (And.intro hse (And.intro hve (And.intro hoe (And.intro hke hfin)))))
            clear hxe hse hve hke hfin
            by_cases he0 : xe.e = 0
            · have hd : ∃ d : Bool, xe.short = !d ∧ RunIs rdC s oe xe.pos d 0 := by
                have hs := HXE.out.2.1
                rcases HXE.out.2.2.2.2.2 with h | ⟨h1, h2, r', h3, h4, h5⟩
                · obtain ⟨g1, g2⟩ := (ended_run h).2 he0
                  exact ⟨false, by rw [g1]; rfl, by rw [← hs]; exact g2⟩
                · exact ⟨true, by rw [h2]; rfl, by rw [← hs]; exact done_run h3 h4 h5⟩
              obtain ⟨d, hd1, hd2⟩ := hd
              rw [hd1] at ec4
              rw [he0] at ec3
              have HD := Lib.hid hd2
              have hcv := conv_own hoe
              have hcvn : ∀ n, (convert 51 9 (.slice pe oe.length ce)).run Tryd.prog (w4.drewN n) = .ok (S oe) (w4.drewN n) := fun n => conv_own (w := w4.drewN n) hoe
              clear hd1 hd2 he0 hoe
              go_wp2_with (fail)
              go_quiet (fail)
              go_wp2_with (fail)
              exact bodyPost_ret (v := .tuple #[S oe, I xe.pos, .bool d, I 0]) (by simp [results, Tryd.results9, go_sem]) rfl ⟨oe, xe.pos, d, 0, rfl, HD.out, HXE.out.2.2.2.2.1.drewN _⟩
            · have heb : (xe.e != 0) = true := by simpa using he0
              have HD : Hid (RunIs rdC s [] 0 false xe.e) := Lib.hid (by
                have hs := HXE.out.2.1
                rcases HXE.out.2.2.2.2.2 with h | ⟨h1, h2, r', h3, h4, h5⟩
                · rw [← hs]; exact (ended_run h).1 he0
                · exact absurd h1 he0)
              clear hoe he0
              go_wp2_with (fail)
              go_quiet (fail)
              go_wp2_with (fail)
              exact bodyPost_ret (v := .tuple #[S [], I 0, .bool false, I xe.e]) (by simp [results, Tryd.results9, go_sem]) rfl ⟨[], 0, false, xe.e, rfl, HD.out, HXE.out.2.2.2.2.1.drewN _⟩
          · have hnb : (n == 0) = false := by simpa using hnz
            have hc3 : Ended x3 out ∨ InChunk x3 out n 0 := .inr (hc3 hnz)
            have HI2 := Lib.hid (And.intro h3 (And.intro hs3 (And.intro ho3 (And.intro hk3 hc3))))
            clear h3 hs3 ho3 hk3 hc3 hz3 hnz
            go_wp2_with (fail)
            refine (okX_any b x3 w3 HI2.out.1).mono ?_
            rintro e w' ⟨rfl, rfl⟩
            rw [hok3]
            obtain ⟨h3, hs3, ho3, hk3, hc3⟩ := HI2.out
            clear HI2
            go_wp2_with (fail)
            have HI3 := Lib.hid (And.intro h3 (And.intro hs3 (And.intro ho3 (And.intro hk3 hc3))))
            clear h3 hs3 ho3 hk3 hc3
            go_loopw [14, 15] (fun iv _ wi => ∃ (x4 : Xr) (o4 : List UInt8) (i : Nat), iv = I i ∧ (i : Int) ≤ n ∧ XAt wi b x4 ∧ x4.s = s ∧ OwnB (b + 1) x4.sv o4 wi ∧ Kept [] w wi ∧ ((Ended x4 o4 ∧ out.length ≤ o4.length) ∨ (InChunk x4 o4 n i ∧ o4.length = out.length + i))) (fun iv _ _ => (n - intOf iv).toNat)
            case atStart => exact ⟨x3, out, 0, rfl, by omega, HI3.out.1, HI3.out.2.1, HI3.out.2.2.1, HI3.out.2.2.2.1, by rcases HI3.out.2.2.2.2 with h | h; exact .inl ⟨h, Nat.le_refl _⟩; exact .inr ⟨h, rfl⟩⟩
            case round =>
              obtain ⟨x4, o4, i, rfl, hi, h4, hs4, ho4, hk4, hc4⟩ := hrel
              by_cases hlt : (i : Int) < n
              · rcases hc4 with ⟨hE4, hle4⟩ | ⟨hC4, hle4⟩
                · have hok4 := hE4.not_ok
                  have HT := Lib.hid (And.intro h4 (And.intro hs4 (And.intro ho4 (And.intro hk4 (tail_end (s := s) (n := n) (L := s.length) (ol := out.length) (by rw [hs4]) (by omega) (.inl ⟨hE4, hle4⟩))))))
                  clear h4 hs4 ho4 hk4 hE4 hle4
                  go_wp2_with (fail)
                  refine (okX_any b x4 _ HT.out.1).mono ?_
                  rintro e w' ⟨rfl, rfl⟩
                  rw [hok4]
                  go_wp2_with (fail)
                  refine (next_gen b x4 _ HT.out.1 HT.out.2.2.2.2.2.1 (by rw [HT.out.2.1]; exact hl)).mono ?_
                  rintro e w5 ⟨rfl, h5, k5⟩
                  obtain ⟨c5, hc5⟩ : ∃ c, nextB x4 = c := ⟨_, rfl⟩
                  rw [hc5]
                  obtain ⟨q5, hq5⟩ : ∃ q, ((c5.toNat : Int) == 13) = q := ⟨_, rfl⟩
                  have H5 := Lib.hid (And.intro h5 (And.intro k5 (And.intro hc5 hq5)))
                  clear h5 k5 hc5
                  go_wp2_with (fail)
                  refine (must_any b (nextF x4) q5 180 w5 H5.out.1).mono ?_
                  rintro e w6 ⟨rfl, h6, k6⟩
                  have hby : mustF (nextF x4) q5 180 = byX x4 13 := by_of (by decide) H5.out.2.2.1 H5.out.2.2.2
                  rw [hby] at h6
                  have H6 := Lib.hid (And.intro h6 (H5.out.2.1.trans' k6))
                  clear h6 k6 hby hq5 H5
                  go_wp2_with (fail)
                  refine (next_gen b (byX x4 13) w6 H6.out.1 HT.out.2.2.2.2.2.2.1 (by rw [by_s, HT.out.2.1]; exact hl)).mono ?_
                  rintro e w7 ⟨rfl, h7, k7⟩
                  obtain ⟨c7, hc7⟩ : ∃ c, nextB (byX x4 13) = c := ⟨_, rfl⟩
                  rw [hc7]
                  obtain ⟨q7, hq7⟩ : ∃ q, ((c7.toNat : Int) == 10) = q := ⟨_, rfl⟩
                  have H7 := Lib.hid (And.intro h7 (And.intro (H6.out.2.trans' k7) (And.intro hc7 hq7)))
                  clear h7 k7 hc7 H6
                  go_wp2_with (fail)
                  refine (must_any b (nextF (byX x4 13)) q7 180 w7 H7.out.1).mono ?_
                  rintro e w8 ⟨rfl, h8, k8⟩
                  have hby : mustF (nextF (byX x4 13)) q7 180 = byX (byX x4 13) 10 := by_of (by decide) H7.out.2.2.1 H7.out.2.2.2
                  rw [hby] at h8
                  have H8 := Lib.hid (And.intro h8 (H7.out.2.1.trans' k8))
                  clear h8 k8 hby hq7 H7
                  go_wp2_with (fail)
                  go_roundw
                  case rel => exact ⟨byX (byX x4 13) 10, o4, H8.out.1, by rw [by_s, by_s]; exact HT.out.2.1, by rw [by_v, by_v]; exact HT.out.2.2.1.kept1 H8.out.2 (by omega), HT.out.2.2.2.1.new1 H8.out.2 HB.out, HT.out.2.2.2.2.2.2.2⟩
                  case measure =>
                    have hv8 : OwnB (b + 1) (byX (byX x4 13) 10).sv o4 w8 := by rw [by_v, by_v]; exact HT.out.2.2.1.kept1 H8.out.2 (by omega)
                    rw [mX_own HR.out.1 HR.out.2.2.1, mX_own H8.out.1 hv8, if_pos hok]
                    exact HT.out.2.2.2.2.1 
                · have hok4 : okX x4 = true := by simp [okX, hC4.1, hC4.2.1]
                  have hp4 : x4.pos ≤ x4.s.length := hC4.2.2.2.2.2.1
                  have hcn := chunk_next hC4 hlt
                  have hlo4 : o4.length ≤ 1048576 := by have := hC4.2.2.2.2.1; omega
                  obtain ⟨xn, hxn⟩ : ∃ xn, nextF x4 = xn := ⟨_, rfl⟩
                  obtain ⟨cn, hcnb⟩ : ∃ cn, nextB x4 = cn := ⟨_, rfl⟩
                  have hsn : xn.s = s ∧ xn.sv = x4.sv := by rw [← hxn]; exact ⟨(next_s x4).1.trans hs4, (next_s x4).2⟩
                  rw [hxn, hcnb] at hcn
                  have HC := Lib.hid (And.intro h4 (And.intro hs4 (And.intro ho4 (And.intro hk4 (And.intro hle4 (And.intro hxn (And.intro hcnb (And.intro hsn hcn))))))))
                  clear h4 hs4 ho4 hk4 hC4 hle4 hxn hcnb hsn hcn
                  go_wp2_with (fail)
                  refine (okX_any b x4 _ HC.out.1).mono ?_
                  rintro e w' ⟨rfl, rfl⟩
                  rw [hok4]
                  go_wp2_with (fail)
                  refine (next_any b x4 _ HC.out.1 hp4 (by rw [HC.out.2.1]; exact hl)).mono ?_
                  rintro e w5 ⟨rfl, h5, k5⟩
                  rw [HC.out.2.2.2.2.2.1] at h5
                  rw [HC.out.2.2.2.2.2.2.1]
                  have ho5 : OwnB (b + 1) x4.sv o4 w5 := HC.out.2.2.1.kept1 k5 (by omega)
                  have H5 := Lib.hid (And.intro h5 (And.intro ho5 (HC.out.2.2.2.1.new1 k5 HB.out)))
                  clear h5 k5 ho5
                  go_wp2_with (fail)
                  refine (okX_any b xn w5 H5.out.1).mono ?_
                  rintro e w' ⟨rfl, rfl⟩
                  rcases HC.out.2.2.2.2.2.2.2.2 with ⟨hokn, hCn⟩ | ⟨hokn, hEn⟩
                  · rw [hokn]
                    have HN := Lib.hid hCn
                    clear hCn
                    obtain ⟨p5, cp5, hv5, hw5⟩ := H5.out.2.1
                    obtain ⟨d0, d1, d2, d3, d4⟩ := H5.out.1.cells
                    obtain ⟨f0, f1, f2, f3, f4⟩ := H5.out.1.free
                    rw [HC.out.2.2.2.2.2.2.2.1.2, hv5] at d2
                    have HW5 := Lib.hid (And.intro hw5 hv5)
                    have hB5 := Lib.hid (Nat.lt_of_lt_of_le (lt_of_block H5.out.1) (Nat.le_refl _))
                    clear hw5 hv5
                    have hob : ∀ q, (Value.slice p5 o4.length cp5).ownBlock = some q → b + 1 ≤ q ∧ q < w5.heap.size := OwnB.lt ⟨p5, cp5, rfl, HW5.out.1⟩
                    have HOB := Lib.hid hob
                    clear hob
                    go_wp2_with (at_builtin
                                 refine wpList_append_lies _ rfl (.tmp 92) (.tmp 94) _ rfl (b + 1) 5 i0 (.int .u8 0) 1 1 Tryd.underlying51 hi0 hz0 hz1 hz2 rfl (by decide) (.slice p5 o4.length cp5) o4.length (Lib.byteCells o4) rfl (own_kept HW5.out.1 ((Kept.refl [] w5).alloc _)) ⟨w5.heap.size, 0, none⟩ 1 1 (Lib.byteCells [cn]) rfl rfl (World.news_of_block (heap_new w5 _)) (B_one _) (by decide) (by unfold maxLen; omega) (by omega) (by have := hB5.out; simp; omega) _ rfl ?_
                                 intro g cap wa own1 gr1 hat1 hlt1
                                 have ha1 : XAt wa b xn := XAt.grown (w := w5.alloc (.cells #[B cn] 5)) (H5.out.1.kept ((Kept.refl [] w5).alloc _) (by simp)) gr1 (fun e => by have := (HOB.out b e).1; omega)
                                 have hka1 : Kept [] w wa := (H5.out.2.2.alloc _).grownN gr1 (fun k e => by have h1 := (HOB.out k e).1; have h2 := HB.out; omega)
                                 have hfa := ha1.free
                                 have HA1 := Lib.hid (And.intro own1 (And.intro ha1 hka1))
                                 obtain ⟨⟨e0, e1, e2, e3, e4⟩, ⟨e5, e6, e7, e8, e9⟩⟩ := And.intro hfa ha1.cells
                                 clear own1 gr1 ha1 hka1 hat1)
                    have h6 := XAt.set2 HA1.out.2.1 (.slice (some ⟨g, 0, none⟩) (o4.length + 1) cap)
                    have hk6 : Kept [b] wa (wa.setCell ⟨b, 2, none⟩ (.slice (some ⟨g, 0, none⟩) (o4.length + 1) cap)) := (Kept.refl [b] wa).setCell (.inl (by simp)) _
                    have ho6 : OwnB (b + 1) (.slice (some ⟨g, 0, none⟩) (o4.length + 1) cap) (o4 ++ [cn]) wa := OwnB.of HA1.out.1 (by simp) (by rw [Lib.byteCells_append])
                    go_roundw
                    case rel => exact ⟨{ xn with sv := .slice (some ⟨g, 0, none⟩) (o4.length + 1) cap }, o4 ++ [cn], i + 1, by go_num, by omega, h6, HC.out.2.2.2.2.2.2.2.1.1, ho6.kept1 hk6 (by omega), HA1.out.2.2.new1 hk6 HB.out, .inr ⟨HN.out, by have := HC.out.2.2.2.2.1; simp; omega⟩⟩
                    case measure => simp [intOf]; omega
                  · rw [hokn]
                    have HN := Lib.hid hEn
                    clear hEn
                    go_wp2_with (fail)
                    go_roundw
                    case rel => exact ⟨xn, o4, i + 1, by go_num, by omega, H5.out.1, HC.out.2.2.2.2.2.2.2.1.1, by rw [HC.out.2.2.2.2.2.2.2.1.2]; exact H5.out.2.1, H5.out.2.2, .inl ⟨HN.out, by have := HC.out.2.2.2.2.1; omega⟩⟩
                    case measure => simp [intOf]; omega
              · have HT := Lib.hid (And.intro h4 (And.intro hs4 (And.intro ho4 (And.intro hk4 (tail_end (s := s) (n := n) (L := s.length) (ol := out.length) (by rw [hs4]) (by omega) (by
                  rcases hc4 with h | ⟨h1, h2⟩
                  · exact .inl h
                  · have hin : n.toNat = i := by omega
                    exact .inr ⟨by rw [hin]; exact h1, by have := h1.2.2.1; omega⟩))))))
                clear h4 hs4 ho4 hk4 hc4
                go_wp2_with (fail)
                refine (next_gen b x4 _ HT.out.1 HT.out.2.2.2.2.2.1 (by rw [HT.out.2.1]; exact hl)).mono ?_
                rintro e w5 ⟨rfl, h5, k5⟩
                obtain ⟨c5, hc5⟩ : ∃ c, nextB x4 = c := ⟨_, rfl⟩
                rw [hc5]
                obtain ⟨q5, hq5⟩ : ∃ q, ((c5.toNat : Int) == 13) = q := ⟨_, rfl⟩
                have H5 := Lib.hid (And.intro h5 (And.intro k5 (And.intro hc5 hq5)))
                clear h5 k5 hc5
                go_wp2_with (fail)
                refine (must_any b (nextF x4) q5 180 w5 H5.out.1).mono ?_
                rintro e w6 ⟨rfl, h6, k6⟩
                have hby : mustF (nextF x4) q5 180 = byX x4 13 := by_of (by decide) H5.out.2.2.1 H5.out.2.2.2
                rw [hby] at h6
                have H6 := Lib.hid (And.intro h6 (H5.out.2.1.trans' k6))
                clear h6 k6 hby hq5 H5
                go_wp2_with (fail)
                refine (next_gen b (byX x4 13) w6 H6.out.1 HT.out.2.2.2.2.2.2.1 (by rw [by_s, HT.out.2.1]; exact hl)).mono ?_
                rintro e w7 ⟨rfl, h7, k7⟩
                obtain ⟨c7, hc7⟩ : ∃ c, nextB (byX x4 13) = c := ⟨_, rfl⟩
                rw [hc7]
                obtain ⟨q7, hq7⟩ : ∃ q, ((c7.toNat : Int) == 10) = q := ⟨_, rfl⟩
                have H7 := Lib.hid (And.intro h7 (And.intro (H6.out.2.trans' k7) (And.intro hc7 hq7)))
                clear h7 k7 hc7 H6
                go_wp2_with (fail)
                refine (must_any b (nextF (byX x4 13)) q7 180 w7 H7.out.1).mono ?_
                rintro e w8 ⟨rfl, h8, k8⟩
                have hby : mustF (nextF (byX x4 13)) q7 180 = byX (byX x4 13) 10 := by_of (by decide) H7.out.2.2.1 H7.out.2.2.2
                rw [hby] at h8
                have H8 := Lib.hid (And.intro h8 (H7.out.2.1.trans' k8))
                clear h8 k8 hby hq7 H7
                go_wp2_with (fail)
                go_roundw
                case rel => exact ⟨byX (byX x4 13) 10, o4, H8.out.1, by rw [by_s, by_s]; exact HT.out.2.1, by rw [by_v, by_v]; exact HT.out.2.2.1.kept1 H8.out.2 (by omega), HT.out.2.2.2.1.new1 H8.out.2 HB.out, HT.out.2.2.2.2.2.2.2⟩
                case measure =>
                  have hv8 : OwnB (b + 1) (byX (byX x4 13) 10).sv o4 w8 := by rw [by_v, by_v]; exact HT.out.2.2.1.kept1 H8.out.2 (by omega)
                  rw [mX_own HR.out.1 HR.out.2.2.1, mX_own H8.out.1 hv8, if_pos hok]
                  exact HT.out.2.2.2.2.1 
  · have hl' : (s.length : Int) ≤ 1000000 := by omega
    obtain ⟨m, hm, hm2⟩ : ∃ m : Nat, min sz (s.length : Int) = (m : Int) ∧ m ≤ s.length := ⟨(min sz (s.length : Int)).toNat, by omega, by omega⟩
    have HR := Lib.hid (run_sized s sz hsz0)
    rw [hm] at HR
    go_wp2_with (fail)
    exact bodyPost_ret (v := .tuple #[S (s.take m), I m, .bool ((m : Int) == sz), I 0]) (by simp [results, Tryd.results9, go_sem]) rfl ⟨s.take m, m, _, 0, rfl, HR.out, K1.out⟩
  · have hl' : ¬ (1048576 : Int) < (s.length : Int) := by omega
    have HR := Lib.hid (run_open s)
    rw [if_neg (by omega), if_neg (by omega), if_neg (by omega)] at HR
    go_wp2_with (fail)
    exact bodyPost_ret (v := .tuple #[S s, I s.length, .bool false, I 0]) (by simp [results, Tryd.results9, go_sem]) rfl ⟨s, s.length, false, 0, rfl, HR.out, K1.out⟩
end BD
end Go.Proofs.YtgdncdhalnijcaaDoor
