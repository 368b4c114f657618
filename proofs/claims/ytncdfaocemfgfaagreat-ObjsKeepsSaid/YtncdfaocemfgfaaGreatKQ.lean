/- Walks and lemmas on the program of this seat, used by its statements; each theorem bears its own conditions. -/
import Derived.Test.YtncdfaocemfgfaaGreatKP
import Derived.Test.YtncdfaocemfgfaaGreatXQI
import Derived.Test.YtncdfaocemfgfaaGreatQK
import Derived.Test.YtncdfaocemfgfaaGreatQF
import Derived.Handy
import Derived.OwnWalk
import Derived.Deep.AppendLies
import Derived.IntWalk
import Derived.Deep.CutRange
import Derived.Deep.RegionHeld3
import Derived.Deep.RegionLaw
import Derived.Maps.OwnSet
import Derived.Maps.Range
import Derived.Laws.IdiomCopy
import Derived.Deep.OwnRows
namespace Go.Proofs.YtncdfaocemfgfaaGreat
open Go.RowKit
set_option linter.unusedVariables false
set_option linter.unusedSimpArgs false
set_option maxHeartbeats 8000000
set_option maxRecDepth 100000
/-! ### Arm, the document's Copy -/
@[go_sem] theorem i64_and3 (n : Int) : bits .and .i64 n 3 = n % 4 := by
  have h : (BitVec.ofInt 64 3).toNat = 2 ^ 2 - 1 := by decide
  have key : (BitVec.ofInt 64 n &&& BitVec.ofInt 64 3).toNat = (n % ((2 ^ 64 : Nat) : Int)).toNat % 2 ^ 2 := by
    rw [BitVec.toNat_and, BitVec.toNat_ofInt, h, Nat.and_two_pow_sub_one_eq_mod]
  show IntKind.i64.wrap ((BitVec.ofInt 64 n &&& BitVec.ofInt 64 3).toNat : Nat) = n % 4
  rw [key, IntKind.wrap_i64]
  omega
theorem arm_yes (w : World) (fb bb cb : Nat) (f : Fl) (h : FlAt w fb bb cb f) (hd : f.dead = false) (N K : Int) (M : UInt8) (hN : 0 ≤ N) :
    Calls Tryz.prog 8 #[Ptr fb, I N, I K, B M] w fun e w' => e = .returned (I 0) ∧ FlAt w' fb bb cb { f with armed := N, keep := max 0 K, mask := M } ∧ Kept [fb] w w' := by
  obtain ⟨c0, c1, c2, c3, c4, c5, c6⟩ := h.cells
  have hf := h.free
  rw [hd] at c6
  have H := Lib.hid h
  have hNb : decide (N < 0) = false := decide_eq_false (by omega)
  clear h hd
  go_enter Tryz.func8, Tryz.ntmps8
  go_wp2_with (fail)
  go_ret
  exact ⟨rfl, ((H.out.set3 _).set4 _).set5 _, (((Kept.refl _ _).setCell (.inl (by simp)) _).setCell (.inl (by simp)) _).setCell (.inl (by simp)) _⟩
theorem arm_no (w : World) (fb bb cb : Nat) (f : Fl) (h : FlAt w fb bb cb f) (hd : f.dead = false) (N K : Int) (M : UInt8) (hN : N < 0) :
    Calls Tryz.prog 8 #[Ptr fb, I N, I K, B M] w fun e w' => e = .returned (I 1) ∧ w' = w := by
  obtain ⟨c0, c1, c2, c3, c4, c5, c6⟩ := h.cells
  rw [hd] at c6
  clear h hd
  go_enter Tryz.func8, Tryz.ntmps8
  go_wp2_with (fail)
  go_ret
  exact ⟨rfl, rfl⟩
theorem rcopy_any (w : World) (rb n : Nat) (v : Value) (V : OM) (h : DocAt w rb n v V) (hq : ∀ q, v.ownBlock = some q → q < w.heap.size) :
    Calls Tryz.prog 5 #[Ptr rb] w fun e w' => ∃ rb' : Nat, e = .returned (Ptr rb') ∧ w.heap.size ≤ rb' ∧ rb' < w'.heap.size ∧ DocAt w' rb' n v V ∧ Kept [] w w' := by
  obtain ⟨hb, hp⟩ := h
  have c0 := cell_at hb 0
  have c1 := cell_at hb 1
  simp only [List.getElem?_toArray, List.getElem?_cons_zero, List.getElem?_cons_succ] at c0 c1
  obtain ⟨p, c, g, rfl, hp1, hp2⟩ := hp
  have H := Lib.hid (And.intro hp1 hp2)
  clear hb hp1 hp2 hq
  obtain ⟨L, hL⟩ : ∃ L, (mapA Ob.val V).length = L := ⟨_, rfl⟩
  rw [hL] at c1
  have HL := Lib.hid hL
  have hnew := heap_new w (.cells #[I n, .slice p L c] 42)
  have hkk := (Kept.refl [] w).alloc (.cells #[I n, .slice p L c] 42)
  have HN := Lib.hid (And.intro hnew hkk)
  clear hnew hkk hL
  go_enter Tryz.func5, Tryz.ntmps5
  go_wp2_with (fail)
  go_region
  all_goals
    go_wp2
    go_ret
    obtain ⟨hnew, hkk⟩ := HN.out
    refine ⟨w.heap.size, rfl, Nat.le_refl _, by simp, ⟨?_, ?_⟩, hkk.drew⟩
    · rw [HL.out]; exact hnew
    · exact ⟨p, c, g, by rw [HL.out], H.out.1, fun i hi => ⟨hkk.drew.cellOf (H.out.2 i hi).1, hkk.drew.cellOf (H.out.2 i hi).2⟩⟩
/-! ### holds, of other objects -/
set_option maxHeartbeats 8000000 in
theorem holds_no (w : World) (sb : Nat) (V : OM) (h : RD w sb V) (v : Value) (V2 : OM) (hp : PsAt w v (mapA Ob.val V2)) (hk2 : ∀ p ∈ V2, 1 ≤ p.1 ∧ p.1 ≤ 2147483647 ∧ p.2.val.length ≤ 256) (hl2 : V2.length ≤ 2000) (hne : mapA Ob.val V ≠ mapA Ob.val V2) :
    Calls Tryz.prog 12 #[Ptr sb, v] w fun e w' => e = .returned (.bool false) ∧ Kept [] w w' := by
  obtain ⟨hs, hk, hlen, hwt⟩ := h.facts
  have HK := Lib.hid (h.keys 0 1073741824)
  rw [h.all] at HK
  have HW := Lib.hid (fun W (k : Kept [] w W) => (h.same k).weight)
  have HG := Lib.hid (fun W (k : Kept [] w W) x (hx : I64 x) => (h.same k).get x hx)
  have hml : (mapA Ob.val V2).length = V2.length := by unfold mapA; rw [List.length_map]
  have HS := Lib.hid (fun W (k : Kept [] w W) => rsum_any W v (mapA Ob.val V2) (hp.same k) (by omega) (fun p hpm => by obtain ⟨q, hq, rfl⟩ := List.mem_map.1 hpm; exact (hk2 q hq).2.2))
  obtain ⟨pl, cl, gl, rfl, hpl, hcl⟩ := hp
  rw [hml]
  simp only [hml] at HS
  have HE : Hid (∀ i (hi : i < V.length), getF V V[i].1 = V[i].2.val ∧ (valM V V[i].1).isSome = true) := Lib.hid (fun i hi => by
    have := find_of_mem hs (k := V[i].1) (o := V[i].2) (List.getElem_mem hi)
    unfold getF valM
    rw [this]
    exact ⟨rfl, rfl⟩)
  have HP : Hid ((V2 ≠ [] → pl = some ⟨gl, 0, none⟩) ∧ ∀ (i : Nat) (hi : i < V2.length), w.cell? ⟨gl, i * 2, none⟩ = some (I V2[i].1) ∧ w.cell? ⟨gl, i * 2 + 1, none⟩ = some (S V2[i].2.val)) := Lib.hid (by
    refine ⟨fun hne => hpl (by intro hh; apply hne; have : V2.length = 0 := by rw [← hml, hh]; rfl
                               exact List.length_eq_zero_iff.1 this), fun i hi => ?_⟩
    have := hcl i (by rw [hml]; exact hi)
    unfold mapA at this
    simpa using this)
  have HV := Lib.hid (And.intro hk2 (And.intro hl2 (And.intro hne hlen)))
  have hVI : (V.length : Int) ≤ 2000 := by omega
  have hVI2 : (V2.length : Int) ≤ 2000 := by omega
  obtain ⟨X, hX⟩ : ∃ X, sumA wO V = X := ⟨_, rfl⟩
  obtain ⟨Y, hY⟩ : ∃ Y, sumA wF (mapA Ob.val V2) = Y := ⟨_, rfl⟩
  rw [hX] at HW
  rw [hY] at HS
  clear h hs hk hlen hwt hpl hcl hml hX hY hk2 hl2 hne
  by_cases hLL : V.length = V2.length
  case neg =>
    have hLb : ((V.length : Int) != (V2.length : Int)) = true := by simp; omega
    have hLc : ((V.length : Int) == (V2.length : Int)) = false := by simp; omega
    have hLd : ¬ (V.length : Int) = V2.length := by omega
    go_enter Tryz.func12, Tryz.ntmps12
    go_wp2_with (fail)
    refine HK.out.mono ?_
    rintro e w1 ⟨kv, rfl, own, k1⟩
    obtain ⟨pk, ck, rfl⟩ := own_form own
    have H1 := Lib.hid (And.intro own k1)
    rw [List.length_map]
    clear own k1
    go_wp2_with (fail)
    go_ret
    exact ⟨rfl, H1.out.2⟩
  by_cases hXY : X = Y
  case neg =>
    have hXd : ¬ (X : Int) = Y := by omega
    have hXb : ((X : Int) != (Y : Int)) = true := by simp; omega
    rw [← hLL] at HS ⊢
    have HLL := Lib.hid hLL
    clear hLL
    go_enter Tryz.func12, Tryz.ntmps12
    go_wp2_with (fail)
    refine HK.out.mono ?_
    rintro e w1 ⟨kv, rfl, own, k1⟩
    obtain ⟨pk, ck, rfl⟩ := own_form own
    have H1 := Lib.hid (And.intro own k1)
    rw [List.length_map]
    clear own k1
    go_wp2_with (fail)
    refine (HW.out w1 H1.out.2).mono ?_
    rintro e w2 ⟨rfl, hw⟩
    replace hw := hw.symm
    subst hw
    go_wp2_with (fail)
    refine (HS.out w1 H1.out.2).mono ?_
    rintro e w2 ⟨rfl, hw⟩
    replace hw := hw.symm
    subst hw
    go_wp2_with (fail)
    go_ret
    exact ⟨rfl, H1.out.2⟩
  subst hXY
  rw [← hLL] at HS ⊢
  have HLL := Lib.hid hLL
  clear hLL
  go_enter Tryz.func12, Tryz.ntmps12
  go_wp2_with (fail)
  refine HK.out.mono ?_
  rintro e w1 ⟨kv, rfl, own, k1⟩
  obtain ⟨pk, ck, rfl⟩ := own_form own
  have H1 := Lib.hid (And.intro own k1)
  rw [List.length_map]
  clear own k1
  go_wp2_with (fail)
  refine (HW.out w1 H1.out.2).mono ?_
  rintro e w2 ⟨rfl, hw⟩
  replace hw := hw.symm
  subst hw
  go_wp2_with (fail)
  refine (HS.out w1 H1.out.2).mono ?_
  rintro e w2 ⟨rfl, hw⟩
  replace hw := hw.symm
  subst hw
  go_wp2_with (fail)
  go_loopw [6] (fun v6 wr => ∃ i : Nat, i ≤ V.length ∧ v6 = I i ∧ (∀ (j : Nat) (h1 : j < V.length) (h2 : j < V2.length), j < i → V[j].1 = V2[j].1 ∧ V[j].2.val = V2[j].2.val) ∧ Kept [] w1 wr) (fun v6 _ => V.length - (intOf v6).toNat)
  case atStart => exact ⟨0, Nat.zero_le _, rfl, fun j _ _ h => by omega, Kept.refl _ _⟩
  case round =>
    obtain ⟨i, hi, rfl, hsame, kr⟩ := hrel
    have KR := Lib.hid (And.intro kr hsame)
    clear hsame
    by_cases hlt : i < V.length
    · have hltI : (i : Int) < V.length := by omega
      have hlt2 : i < V2.length := by have := HLL.out; omega
      obtain ⟨hpl, hcl⟩ := HP.out
      have hpe := hpl (by intro hh; rw [hh] at hlt2; simp at hlt2)
      subst hpe
      obtain ⟨d0, d1⟩ := hcl i hlt2
      obtain ⟨g1, g2⟩ := HE.out i hlt
      obtain ⟨k1b, k2b, k3b⟩ := HV.out.1 V2[i] (List.getElem_mem hlt2)
      have hkx := H1.out.2.trans' kr
      have e0 := hkx.cellOf d0
      have HGT := Lib.hid (HG.out wr hkx V2[i].1 ⟨by omega, by omega⟩)
      obtain ⟨gk, ck', ek, _, hck⟩ := row_cells1 (by have := H1.out.1; rw [List.length_map] at this; exact this) (by omega : V.length ≠ 0)
      cases ek
      have dk := hck i hlt
      rw [List.getElem?_map, List.getElem?_map, List.getElem?_eq_getElem hlt] at dk
      simp only [Option.map_some] at dk
      have hVi : ∃ x, V[i] = x := ⟨_, rfl⟩
      obtain ⟨⟨x, ob⟩, hx⟩ := hVi
      have hVi2 : ∃ x, V2[i] = x := ⟨_, rfl⟩
      obtain ⟨⟨x2, ob2⟩, hx2⟩ := hVi2
      rw [hx2] at e0 d0 d1 HGT
      rw [hx] at dk g1 g2
      simp only at e0 d0 d1 HGT dk g1 g2
      obtain ⟨vl, hvl⟩ : ∃ vl, ob.val = vl := ⟨_, rfl⟩
      obtain ⟨vl2, hvl2⟩ : ∃ vl2, ob2.val = vl2 := ⟨_, rfl⟩
      rw [hvl2] at d1
      rw [hvl] at g1
      have hres : ∃ gv gb, getF V x2 = gv ∧ (valM V x2).isSome = gb ∧ (x = x2 → gv = vl ∧ gb = true) := ⟨_, _, rfl, rfl, fun h => by subst h; exact ⟨g1, g2⟩⟩
      obtain ⟨gv, gb, hgv, hgb, hxx⟩ := hres
      rw [hgv, hgb] at HGT
      have HD := Lib.hid (And.intro d0 (And.intro d1 dk))
      have HXE := Lib.hid (And.intro hx (And.intro hx2 (And.intro hvl hvl2)))
      clear hpl hcl d0 d1 g1 g2 k1b k2b k3b hkx hck dk hx hvl kr hx2 hvl2 hgv hgb
      by_cases hxe : x = x2
      · obtain ⟨rfl, rfl⟩ := hxx hxe
        subst hxe
        clear hxx
        by_cases hve : gv = vl2
        · subst hve
          have HXE2 := Lib.hid HXE.out
          clear HXE
          go_wp2_with (fail)
          refine HGT.out.mono ?_
          rintro e w3 ⟨rfl, k3⟩
          have kk := KR.out.1.trans' k3
          have f0 := (H1.out.2.trans' kk).cellOf HD.out.1
          have f1 := (H1.out.2.trans' kk).cellOf HD.out.2.1
          have f2 := kk.cellOf HD.out.2.2
          have KK := Lib.hid kk
          clear kk k3 e0
          go_wp2_with (fail)
          go_quiet (fail)
          go_wp2_with (fail)
          go_roundw
          case rel =>
            refine ⟨i + 1, by omega, by go_num, fun j h1 h2 hj => ?_, KK.out.drewN nq⟩
            by_cases hje : j = i
            · subst hje
              obtain ⟨q1, q2, q3, q4⟩ := HXE2.out
              rw [q1, q2]
              exact ⟨rfl, by rw [q3, q4]⟩
            · exact KR.out.2 j h1 h2 (by omega)
          case measure => simp [intOf]; omega
        · have hvb : (gv != vl2) = true := by simpa using hve
          have hvc : (gv == vl2) = false := by simpa using hve
          clear HXE
          go_wp2_with (fail)
          refine HGT.out.mono ?_
          rintro e w3 ⟨rfl, k3⟩
          have kk := KR.out.1.trans' k3
          have f0 := (H1.out.2.trans' kk).cellOf HD.out.1
          have f1 := (H1.out.2.trans' kk).cellOf HD.out.2.1
          have f2 := kk.cellOf HD.out.2.2
          have KK := Lib.hid (H1.out.2.trans' kk)
          clear kk k3 e0
          go_wp2_with (fail)
          go_quiet (fail)
          go_wp2_with (fail)
          go_ret
          exact ⟨rfl, KK.out.drewN _⟩
      · have hxb : (x != x2) = true := by simpa using hxe
        have hxc : (x == x2) = false := by simpa using hxe
        clear HXE hxx
        go_wp2_with (fail)
        refine HGT.out.mono ?_
        rintro e w3 ⟨rfl, k3⟩
        have kk := KR.out.1.trans' k3
        have f0 := (H1.out.2.trans' kk).cellOf HD.out.1
        have f1 := (H1.out.2.trans' kk).cellOf HD.out.2.1
        have f2 := kk.cellOf HD.out.2.2
        have KK := Lib.hid (H1.out.2.trans' kk)
        clear kk k3 e0
        go_wp2_with (fail)
        go_quiet (fail)
        go_wp2_with (fail)
        go_ret
        exact ⟨rfl, KK.out.drewN _⟩
    · exfalso
      have hie : i = V.length := by omega
      subst hie
      apply HV.out.2.2.1
      unfold mapA
      apply List.ext_getElem
      · rw [List.length_map, List.length_map]; exact HLL.out
      · intro j h1 h2
        rw [List.length_map] at h1 h2
        obtain ⟨q1, q2⟩ := KR.out.2 j h1 h2 h1
        rw [List.getElem_map, List.getElem_map, q1, q2]
/-! ### reopened -/
/-- A store with its flash, armed or not. -/
def STK (w : World) (fb sb n : Nat) (V : OM) (d : Nat) (T : List Nat) : Prop :=
  ∃ bb cb pb lb mb kb v st f, T = pb :: StT sb lb fb bb cb mb kb v ∧ SAtK w sb lb pb fb bb cb mb kb n v st f ∧ GoodK n st ∧ SortedA V ∧ (∀ k, valM st.M k = valM V k) ∧ st.D ≤ d ∧ f.cs.length = n + 1
/-- A flash whose power went: with the objects V, or W. -/
def FLK (w : World) (fb bb cb n : Nat) (g : Fl) (V W : OM) (d : Nat) : Prop :=
  FlAt w fb bb cb g ∧ 0 ≤ g.keep ∧ g.cs.length = n + 1 ∧ (CrP n g V d ∨ CrP n g W d)
theorem CrP.bs {n : Nat} {f g : Fl} {V : OM} {d : Nat} (h : CrP n f V d) (e : g.bs = f.bs) : CrP n g V d := by
  obtain ⟨st, h1, h2, h3⟩ := h
  exact ⟨st, h1, fun j hj => by have := h2 j hj; rw [← e] at this; exact this, h3⟩
theorem SAtK.arms {w w' : World} {sb lb pb fb bb cb mb kb n : Nat} {v : Value} {st : KS} {f f' : Fl} (h : SAtK w sb lb pb fb bb cb mb kb n v st f) (k : Kept [fb] w w') (hf : FlAt w' fb bb cb f') (e1 : f'.bs = f.bs) (e2 : f'.cs = f.cs) (ha : ArmOK f') : SAtK w' sb lb pb fb bb cb mb kb n v st f' := by
  obtain ⟨C, hc, hct⟩ := h.core
  have hs : ∀ x ∈ [sb, mb, kb], x ∉ [fb] := fun x hx hm => by
    have hx2 := (h.sep x hx).1
    have : x = fb := by simpa using hm
    subst this
    exact hx2 (by simp [LgT])
  have kk : Kept [fb, bb, cb] w w' := k.mono (by simp)
  exact ⟨h.lg.turned kk (h.lg.pt.turned kk hf (by rw [e2])), ⟨C, hc.kept k (hs _ (by simp)) (hs _ (by simp)) (hs _ (by simp)), hct⟩, fun j hj => by have := h.fl j hj; rw [← e1] at this; exact this, h.inv, ha, h.sep⟩
def ReoPost (w : World) (fb bb cb n : Nat) (V1 V2 : OM) (d : Nat) (e : Ending) (w' : World) : Prop :=
  ∃ (sb : Nat) (T : List Nat) (V : OM), e = .returned (Ptr sb) ∧ (V = V1 ∨ V = V2) ∧ STK w' fb sb n V d T ∧ Kept [fb, bb, cb] w w' ∧ (∀ x ∈ T, x ∈ [fb, bb, cb] ∨ w.heap.size ≤ x)
set_option maxHeartbeats 8000000 in
theorem reopened_any (w : World) (fb bb cb n : Nat) (g : Fl) (V1 V2 : OM) (d : Nat) (h : FLK w fb bb cb n g V1 V2 d) (h8 : 8 ≤ n) (hn : n ≤ 255) (hs1 : SortedA V1) (hs2 : SortedA V2) (hq1 : sumA wO V1 ≤ quotaF n) (hq2 : sumA wO V2 ≤ quotaF n) (hd : d ≤ 800000000) (kd on okp : Int) (mk : UInt8) (cv : Value) :
    Calls Tryz.prog 13 #[Ptr fb, .agg #[I kd, I on, I okp, B mk, cv]] w (ReoPost w fb bb cb n V1 V2 d) := by
  have hlt1 := h.1.lt
  have hlt2 := h.1.lt2
  have hlt3 := h.1.lt3
  obtain ⟨W, hW⟩ : ∃ W, w.alloc (.cells #[I kd, I on, I okp, B mk, cv] 32) = W := ⟨_, rfl⟩
  have k0 : Kept [] w W := by rw [← hW]; exact (Kept.refl [] w).alloc _
  have hnew : W.heap[w.heap.size]? = some (.cells #[I kd, I on, I okp, B mk, cv] 32 (0, 0)) := by rw [← hW]; exact heap_new w _
  obtain ⟨ob, hob⟩ : ∃ ob, w.heap.size = ob := ⟨_, rfl⟩
  rw [hob] at hnew
  have hoW : ob < W.heap.size := lt_of_block hnew
  have hno : ob ∉ [fb, bb, cb] := by simp; omega
  have H0 := Lib.hid (And.intro h (And.intro h8 (And.intro hn (And.intro hs1 (And.intro hs2 (And.intro hq1 (And.intro hq2 (And.intro hd (And.intro k0 (And.intro hnew (And.intro hno hob)))))))))))
  have hm0 : (0 : Int) ≤ on % 4 := by omega
  have hm4 : on % 4 ≤ 3 := by omega
  clear h h8 hn hs1 hs2 hq1 hq2 hd k0 hnew hno hlt1 hlt2 hlt3
  go_enter Tryz.func13, Tryz.ntmps13
  go_wp2_with (fail)
  go_loopw [5] (fun v5 wr => ∃ (k : Nat) (g : Fl), v5 = I k ∧ k ≤ 3 ∧ FLK wr fb bb cb n g V1 V2 d ∧ Kept [fb, bb, cb] W wr) (fun v5 _ => 4 - (intOf v5).toNat)
  case atStart =>
    obtain ⟨h, _, _, _, _, _, _, _, k0, _⟩ := H0.out
    exact ⟨0, g, rfl, by omega, ⟨h.1.same k0, h.2⟩, Kept.refl _ _⟩
  case round =>
    obtain ⟨k, g, rfl, hk3, hfl, kr⟩ := hrel
    have hkI : (k : Int) ≤ 3 := by omega
    have hk4 : (k : Int) < 4 := by omega
    have HR := Lib.hid (revive_any wr fb bb cb g hfl.1)
    have H1 := Lib.hid (And.intro hfl kr)
    -- over and Open, once for both ways
    have HOP : Hid (∀ (w1 : World) (g2 : Fl), FlAt w1 fb bb cb g2 → ArmOK g2 → g2.bs = g.bs → g2.cs = g.cs → Calls Tryz.prog 17 #[Ptr fb] w1 (fun e w2 => ∃ pb : Nat, e = .returned (Ptr pb) ∧ Kept [] w1 w2 ∧ Calls Tryz.prog 35 #[Ptr pb] w2 (fun e w3 => ∃ V st, (V = V1 ∨ V = V2) ∧ SortedA V ∧ GoodK n st ∧ (∀ k, valM st.M k = valM V k) ∧ st.D ≤ d ∧ SOpenK w2 pb fb bb cb n st g2 e w3 ∧ w1.heap.size ≤ pb))) := Lib.hid (fun w1 g2 hf2 ha2 eb ec => by
      obtain ⟨h, h8, hn, hs1, hs2, hq1, hq2, hd, k0, hnew, hno, hob⟩ := H0.out
      refine (over_any w1 fb bb cb n g2 hf2 (by omega) (by rw [ec]; exact H1.out.1.2.2.1)).mono ?_
      rintro e w2 ⟨pb, rfl, hpb, hpt, k2⟩
      refine ⟨pb, rfl, k2, ?_⟩
      have hcr : ∃ V, (V = V1 ∨ V = V2) ∧ SortedA V ∧ sumA wO V ≤ quotaF n ∧ CrP n g2 V d := by
        rcases H1.out.1.2.2.2 with hc | hc
        · exact ⟨V1, .inl rfl, hs1, hq1, hc.bs eb⟩
        · exact ⟨V2, .inr rfl, hs2, hq2, hc.bs eb⟩
      obtain ⟨V, hV, hVs, hVq, st, c1, c2, c3, c4, c5⟩ := hcr
      have hqs : sumA wO st.M ≤ quotaF n := by rw [weight_same c1.inv.sorted hVs c4]; exact hVq
      refine (oopen_arm w2 pb fb bb cb n g2 st hpt ha2 h8 c2 c1 c3 hqs (by omega)).mono ?_
      intro e w3 hp
      exact ⟨V, st, hV, hVs, ⟨h8, c3, hqs⟩, c4, c5, hp, hpb⟩)
    -- what is told in the end
    have HEND : Hid (∀ (w1 w2 w3 : World) (pb : Nat) (V : OM) (st : KS) (g2 f' : Fl) (sb lb mb kb : Nat) (v : Value), Kept [fb, bb, cb] wr w1 → Kept [] w1 w2 → w1.heap.size ≤ pb → (V = V1 ∨ V = V2) → SortedA V → GoodK n st → (∀ k, valM st.M k = valM V k) → st.D ≤ d → g2.cs = g.cs → SAtK w3 sb lb pb fb bb cb mb kb n v st f' → StepOK g2 f' → w2.heap.size ≤ sb → w2.heap.size ≤ lb → w2.heap.size ≤ mb → w2.heap.size ≤ kb → (∀ q, v.ownBlock = some q → w2.heap.size ≤ q) → Kept [fb, bb, cb] w2 w3 → Calls Tryz.prog 8 #[Ptr fb, I 0, I 0, .int .u8 0] w3 (fun e w4 => e = .returned (I 0) ∧ ReoPost w fb bb cb n V1 V2 d (.returned (Ptr sb)) w4)) := Lib.hid (by
      intro w1 w2 w3 pb V st g2 f' sb lb mb kb v k1 k2 hpb hV hVs hG hvl hD ec hs hso b1 b2 b3 b4 b5 k3
      obtain ⟨h, h8, hn, hs1, hs2, hq1, hq2, hd, k0, hnew, hno, hob⟩ := H0.out
      have := arm_yes w3 fb bb cb f' hs.lg.pt.fl hs.live.1 0 0 0 (by omega)
      refine Calls.mono this ?_
      rintro e w4 ⟨rfl, hf4, k4⟩
      have e4 := hs.arms k4 hf4 rfl rfl ⟨hs.live.1, by show (0 : Int) ≤ 0; omega, by show (0 : Int) ≤ 9223372036854775807; omega, by show (0 : Int) ≤ max 0 0; omega⟩
      have z0 := k0.size
      have z1 := (H1.out.2.trans' k1).size
      have z2 := k2.size
      refine ⟨rfl, sb, _, V, rfl, hV, ⟨bb, cb, pb, lb, mb, kb, v, st, _, rfl, e4, hG, hVs, hvl, hD, ?_⟩, ?_, fun x hx => ?_⟩
      · show f'.cs.length = n + 1
        rw [hso.cs, ec]
        exact H1.out.1.2.2.1
      · exact ((k0.mono (by simp)).trans' (H1.out.2.trans' (k1.trans' ((k2.mono (by simp)).trans' (k3.trans' (k4.mono (by simp)))))))
      · simp only [StT, LgT, List.mem_cons, List.mem_append, Option.mem_toList, List.not_mem_nil, or_false] at hx ⊢
        rcases hx with rfl | (rfl | rfl | rfl) | (rfl | rfl | rfl | rfl) | hx
        · right; omega
        · right; omega
        · right; omega
        · right; omega
        · right; omega
        · left; simp
        · left; simp
        · left; simp
        · right; have := b5 x hx; omega)
    have HARM := Lib.hid (fun (w1 : World) (g1 : Fl) (hf1 : FlAt w1 fb bb cb g1) (hd1 : g1.dead = false) (N : Int) (hN : 0 ≤ N) => arm_yes w1 fb bb cb g1 hf1 hd1 N okp mk hN)
    have hcl : ∀ W', Kept [fb, bb, cb] W W' → W'.cell? ⟨ob, 1, none⟩ = some (I on) ∧ W'.cell? ⟨ob, 2, none⟩ = some (I okp) ∧ W'.cell? ⟨ob, 3, none⟩ = some (B mk) := fun W' kw => by
      obtain ⟨h, h8, hn, hs1, hs2, hq1, hq2, hd, k0, hnew, hno, hob⟩ := H0.out
      have hb := kw.at hnew hno
      refine ⟨?_, ?_, ?_⟩ <;> (rw [cell_at hb]; rfl)
    have HCL := Lib.hid hcl
    clear hcl hfl kr
    go_wp2_with (fail)
    refine HR.out.mono ?_
    rintro e w1 ⟨rfl, hf1, k1⟩
    have HF1 := Lib.hid (And.intro hf1 k1)
    obtain ⟨y1, y2, y3⟩ := HCL.out w1 (H1.out.2.trans' (k1.mono (by simp)))
    clear hf1 k1
    by_cases hlt : k < 3
    · have hltI : (k : Int) < 3 := by omega
      obtain ⟨A, hA⟩ : ∃ A : Int, 1 + (on + k) % 4 = A := ⟨_, rfl⟩
      have hA1 : 1 ≤ A := by omega
      have hA4 : A ≤ 4 := by omega
      have HA2 := Lib.hid (HARM.out w1 _ HF1.out.1 rfl A (by omega))
      have HA1 := Lib.hid (And.intro hA1 hA4)
      have hsum0 : (0 : Int) ≤ on % 4 + k := by omega
      have hsum9 : on % 4 + k ≤ 6 := by omega
      clear hA1 hA4
      go_wp2_with (fail)
      refine HA2.out.mono ?_
      rintro e w2 ⟨rfl, hf2, k2⟩
      have HF2 := Lib.hid (And.intro hf2 k2)
      have HO2 := Lib.hid (HOP.out w2 _ hf2 ⟨rfl, by have := HA1.out; show 0 ≤ A; omega, by have := HA1.out; show A ≤ 9223372036854775807; omega, by show 0 ≤ max 0 okp; omega⟩ rfl rfl)
      clear hf2 k2 hA y1 y2 y3
      go_wp2_with (fail)
      refine HO2.out.mono ?_
      rintro e w3 ⟨pb, rfl, k3, hop⟩
      have HO3 := Lib.hid (And.intro k3 hop)
      clear k3 hop
      go_wp2_with (fail)
      refine HO3.out.2.mono ?_
      rintro e w4 ⟨V, st, hV, hVs, hG, hvl, hD, hp, hpb⟩
      have k12 : Kept [fb, bb, cb] wr w2 := (HF1.out.2.mono (by simp)).trans' (HF2.out.2.mono (by simp))
      rcases hp with ⟨sb, lb, mb, kb, v, f', rfl, hs, hso, b1, b2, b3, b4, b5, k4⟩ | ⟨gd, rfl, hsd, hfd, hcr, k4⟩
      · have HE2 := Lib.hid (HEND.out w2 w3 w4 pb V st _ f' sb lb mb kb v k12 HO3.out.1 hpb hV hVs hG hvl hD (by rfl) hs hso b1 b2 b3 b4 b5 k4)
        clear hV hVs hG hvl hD hpb hs hso b1 b2 b3 b4 b5 k4 k12
        go_wp2_with (fail)
        refine HE2.out.mono ?_
        rintro e w5 ⟨rfl, hP⟩
        have HP := Lib.hid hP
        clear hP
        go_wp2_with (fail)
        go_ret
        exact HP.out
      · have hfdd := fdead_any w4 fb bb cb gd hfd
        rw [hsd.dead] at hfdd
        have HDD := Lib.hid hfdd
        have HX := Lib.hid (And.intro hV (And.intro hvl (And.intro hD (And.intro hsd (And.intro hfd (And.intro hcr (And.intro k4 k12)))))))
        clear hV hVs hG hvl hD hpb hsd hfd hcr k4 k12 hfdd
        go_wp2_with (fail)
        refine HDD.out.mono ?_
        rintro e w5 ⟨rfl, rfl⟩
        go_wp2_with (fail)
        go_roundw
        case rel =>
          obtain ⟨hV, hvl, hD, hsd, hfd, hcr, k4, k12⟩ := HX.out
          have hcr2 := hcr.vals hvl hD
          refine ⟨k + 1, gd, by go_num, by omega, ⟨hfd, hsd.keep, ?_, ?_⟩, H1.out.2.trans' (k12.trans' ((HO3.out.1.mono (by simp)).trans' k4))⟩
          · rw [hsd.cs]
            exact H1.out.1.2.2.1
          · rcases hV with rfl | rfl
            · exact .inl hcr2
            · exact .inr hcr2
        case measure => simp [intOf]; omega
    · have hltI : ¬ (k : Int) < 3 := by omega
      have hltb : decide ((k : Int) < 3) = false := decide_eq_false hltI
      have HO2 := Lib.hid (HOP.out w1 _ HF1.out.1 ⟨rfl, by show (0 : Int) ≤ 0; omega, by show (0 : Int) ≤ 9223372036854775807; omega, H1.out.1.2.1⟩ rfl rfl)
      clear y1 y2 y3
      go_wp2_with (fail)
      refine HO2.out.mono ?_
      rintro e w3 ⟨pb, rfl, k3, hop⟩
      have HO3 := Lib.hid (And.intro k3 hop)
      clear k3 hop
      go_wp2_with (fail)
      refine HO3.out.2.mono ?_
      rintro e w4 ⟨V, st, hV, hVs, hG, hvl, hD, hp, hpb⟩
      have k12 : Kept [fb, bb, cb] wr w1 := HF1.out.2.mono (by simp)
      rcases hp with ⟨sb, lb, mb, kb, v, f', rfl, hs, hso, b1, b2, b3, b4, b5, k4⟩ | ⟨gd, rfl, hsd, hfd, hcr, k4⟩
      · have HE2 := Lib.hid (HEND.out w1 w3 w4 pb V st _ f' sb lb mb kb v k12 HO3.out.1 hpb hV hVs hG hvl hD (by rfl) hs hso b1 b2 b3 b4 b5 k4)
        clear hV hVs hG hvl hD hpb hs hso b1 b2 b3 b4 b5 k4 k12
        go_wp2_with (fail)
        refine HE2.out.mono ?_
        rintro e w5 ⟨rfl, hP⟩
        have HP := Lib.hid hP
        clear hP
        go_wp2_with (fail)
        go_ret
        exact HP.out
      · exact absurd rfl hsd.was

end Go.Proofs.YtncdfaocemfgfaaGreat
