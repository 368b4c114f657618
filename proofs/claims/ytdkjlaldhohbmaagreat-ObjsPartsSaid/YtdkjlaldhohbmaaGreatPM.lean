/- Walks and lemmas on the program of this seat, used by its statements; each theorem bears its own conditions. -/
import Derived.Test.YtdkjlaldhohbmaaGreatPJ
import Derived.Handy
import Derived.OwnWalk
import Derived.Deep.AppendLies
import Derived.IntWalk
import Derived.Deep.CutRange
import Derived.Deep.RegionHeld3
import Derived.Deep.RegionLaw
namespace Go.Proofs.YtdkjlaldhohbmaaGreat
open Go.RowKit
set_option linter.unusedVariables false
set_option linter.unusedSimpArgs false
set_option maxHeartbeats 8000000
set_option maxRecDepth 100000
/-! ### Two stores -/
theorem SV.mono {w : World} {sb lb pb fb bb cb mb kb n : Nat} {v : Value} {V : OM} {d d' : Nat} (h : SV w sb lb pb fb bb cb mb kb n v V d) (hd : d ≤ d') : SV w sb lb pb fb bb cb mb kb n v V d' := by
  obtain ⟨h0, st, f, h1, h2, h3, h4⟩ := h
  exact ⟨h0, st, f, h1, h2, Nat.le_trans h3 hd, h4⟩
/-- A store with its blocks told. -/
def SVT (w : World) (sb n : Nat) (V : OM) (d : Nat) (T : List Nat) : Prop := ∃ lb pb fb bb cb mb kb v, T = pb :: StT sb lb fb bb cb mb kb v ∧ SV w sb lb pb fb bb cb mb kb n v V d
theorem SVT.same {w w' : World} {sb n : Nat} {V : OM} {d : Nat} {T : List Nat} (h : SVT w sb n V d T) (k : Kept [] w w') : SVT w' sb n V d T := by
  obtain ⟨lb, pb, fb, bb, cb, mb, kb, v, e, h⟩ := h
  exact ⟨lb, pb, fb, bb, cb, mb, kb, v, e, h.same k⟩
theorem SVT.kept {w w' : World} {sb n : Nat} {V : OM} {d : Nat} {T U : List Nat} (h : SVT w sb n V d T) (k : Kept U w w') (hU : ∀ x ∈ U, x ∉ T) : SVT w' sb n V d T := by
  obtain ⟨lb, pb, fb, bb, cb, mb, kb, v, e, h⟩ := h
  subst e
  exact ⟨lb, pb, fb, bb, cb, mb, kb, v, rfl, h.kept k (fun x hx => by have := hU x hx; simp only [List.mem_cons, not_or] at this; exact ⟨this.2, this.1⟩)⟩
theorem SVT.mono {w : World} {sb n : Nat} {V : OM} {d d' : Nat} {T : List Nat} (h : SVT w sb n V d T) (hd : d ≤ d') : SVT w sb n V d' T := by
  obtain ⟨lb, pb, fb, bb, cb, mb, kb, v, e, h⟩ := h
  exact ⟨lb, pb, fb, bb, cb, mb, kb, v, e, h.mono hd⟩
theorem SVT.lt {w : World} {sb n : Nat} {V : OM} {d : Nat} {T : List Nat} (h : SVT w sb n V d T) : ∀ x ∈ T, x < w.heap.size := by
  obtain ⟨lb, pb, fb, bb, cb, mb, kb, v, e, h⟩ := h
  subst e
  intro x hx
  rcases List.mem_cons.1 hx with rfl | hx
  · exact h.lt.2
  · exact h.lt.1 x hx
theorem SVT.sorted {w : World} {sb n : Nat} {V : OM} {d : Nat} {T : List Nat} (h : SVT w sb n V d T) : SortedA V := by
  obtain ⟨lb, pb, fb, bb, cb, mb, kb, v, e, h⟩ := h
  exact h.1
theorem svt_put {w : World} {sb n : Nat} {V : OM} {d : Nat} {T : List Nat} (h : SVT w sb n V d T) (hd : d ≤ 800000000) (l : List Ch) (cv : Value) (hv : ChsAt w cv l) (hvq : l ≠ [] → ∀ q, cv.ownBlock = some q → q ∉ T) (hl : l.length ≤ 4611686018427387904) :
    Calls Tryz.prog 12 #[Ptr sb, cv] w fun e w' => e = .returned (I (mayF n V l)) ∧ ∃ T', SVT w' sb n (putF n V l) (d + n) T' ∧ (∀ x ∈ T', x ∈ T ∨ w.heap.size ≤ x) ∧ Kept T w w' := by
  obtain ⟨lb, pb, fb, bb, cb, mb, kb, v, e, h⟩ := h
  subst e
  refine (sv_put h hd l cv hv (fun hne q hq hm => hvq hne q hq (List.mem_cons_of_mem _ hm)) hl).mono ?_
  rintro e w' ⟨rfl, v', hfr, hs, hk⟩
  refine ⟨rfl, _, ⟨lb, pb, fb, bb, cb, mb, kb, v', rfl, hs⟩, fun x hx => ?_, hk.mono (fun x hx => List.mem_cons_of_mem _ hx)⟩
  rcases List.mem_cons.1 hx with rfl | hx
  · exact .inl List.mem_cons_self
  · by_cases hm : x ∈ StT sb lb fb bb cb mb kb v
    · exact .inl (List.mem_cons_of_mem _ hm)
    · refine .inr ?_
      simp only [StT, LgT, List.mem_append, Option.mem_toList] at hx hm
      rcases hx with hx | hx | hx
      · exact absurd (.inl hx) hm
      · exact absurd (.inr (.inl hx)) hm
      · rcases hfr x (by simpa using hx) with h | h
        · exact absurd (.inr (.inr (by simpa using h))) hm
        · exact h
theorem svt_keys {w : World} {sb n : Nat} {V : OM} {d : Nat} {T : List Nat} (h : SVT w sb n V d T) (fr most : Int) :
    Calls Tryz.prog 11 #[Ptr sb, I fr, I most] w fun e w' => ∃ kv, e = .returned kv ∧ w'.ownsRow w.heap.size 3 1 kv (keysF V fr most).length ((keysF V fr most).map fun k => I k) ∧ Kept [] w w' := by
  obtain ⟨lb, pb, fb, bb, cb, mb, kb, v, e, h⟩ := h
  exact sv_keys h fr most
theorem svt_weight {w : World} {sb n : Nat} {V : OM} {d : Nat} {T : List Nat} (h : SVT w sb n V d T) : Calls Tryz.prog 10 #[Ptr sb] w fun e w' => e = .returned (I (sumA wO V : Nat)) ∧ w' = w := by
  obtain ⟨lb, pb, fb, bb, cb, mb, kb, v, e, h⟩ := h
  exact sv_weight h
theorem svt_get {w : World} {sb n : Nat} {V : OM} {d : Nat} {T : List Nat} (h : SVT w sb n V d T) (k : Int) (hk : I64 k) : Calls Tryz.prog 15 #[Ptr sb, I k] w fun e w' => e = .returned (.tuple #[S (getF V k), .bool (valM V k).isSome]) ∧ Kept [] w w' := by
  obtain ⟨lb, pb, fb, bb, cb, mb, kb, v, e, h⟩ := h
  exact sv_get h k hk
theorem laid_svt {n : Nat} {w w' : World} {e : Ending} (h : LaidPost n w e w') (h8 : 8 ≤ n) :
    ∃ fb sb rb T, e = .returned (.tuple #[Ptr fb, Ptr sb, Ptr rb]) ∧ SVT w' sb n [] 0 T ∧ (∀ x ∈ T, w.heap.size ≤ x) ∧ Kept [] w w' := by
  obtain ⟨fb, bb, cb, pb, sb, lb, mb, kb, rb, v, h1, h2, h3, h4, h5⟩ := laid_sv h h8
  refine ⟨fb, sb, rb, _, h1, ⟨lb, pb, fb, bb, cb, mb, kb, v, rfl, h2⟩, fun x hx => ?_, h5⟩
  rcases List.mem_cons.1 hx with rfl | hx
  · exact (h4 _ (.inr rfl)).1
  · exact (h4 _ (.inl hx)).1
/-- Two stores side by side. -/
def Two (w0 w : World) (sa sb n : Nat) (Va Vb : OM) (d : Nat) : Prop :=
  ∃ Ta Tb, SVT w sa n Va d Ta ∧ SVT w sb n Vb d Tb ∧ (∀ x ∈ Ta, x ∉ Tb) ∧ (∀ x ∈ Ta, w0.heap.size ≤ x) ∧ (∀ x ∈ Tb, w0.heap.size ≤ x) ∧ Kept [] w0 w
section
variable {w0 w : World} {sa sb n : Nat} {Va Vb : OM} {d : Nat}
theorem Two.swap (h : Two w0 w sa sb n Va Vb d) : Two w0 w sb sa n Vb Va d := by
  obtain ⟨Ta, Tb, h1, h2, h3, h4, h5, h6⟩ := h
  exact ⟨Tb, Ta, h2, h1, fun x hx hm => h3 x hm hx, h5, h4, h6⟩
theorem Two.same {w' : World} (h : Two w0 w sa sb n Va Vb d) (k : Kept [] w w') : Two w0 w' sa sb n Va Vb d := by
  obtain ⟨Ta, Tb, h1, h2, h3, h4, h5, h6⟩ := h
  exact ⟨Ta, Tb, h1.same k, h2.same k, h3, h4, h5, h6.trans' k⟩
theorem Two.mono {d' : Nat} (h : Two w0 w sa sb n Va Vb d) (hd : d ≤ d') : Two w0 w sa sb n Va Vb d' := by
  obtain ⟨Ta, Tb, h1, h2, h3⟩ := h
  exact ⟨Ta, Tb, h1.mono hd, h2.mono hd, h3⟩
theorem Two.old (h : Two w0 w sa sb n Va Vb d) : Kept [] w0 w := by obtain ⟨_, _, _, _, _, _, _, h6⟩ := h; exact h6
theorem Two.sorted (h : Two w0 w sa sb n Va Vb d) : SortedA Va ∧ SortedA Vb := by obtain ⟨_, _, h1, h2, _⟩ := h; exact ⟨h1.sorted, h2.sorted⟩
theorem two_put (h : Two w0 w sa sb n Va Vb d) (hd : d ≤ 800000000) (l : List Ch) (cv : Value) (hv : ChsAt w cv l) (hvq : l ≠ [] → ∀ q, cv.ownBlock = some q → q < w0.heap.size) (hl : l.length ≤ 4611686018427387904) :
    Calls Tryz.prog 12 #[Ptr sa, cv] w fun e w' => e = .returned (I (mayF n Va l)) ∧ Two w0 w' sa sb n (putF n Va l) Vb (d + n) := by
  obtain ⟨Ta, Tb, h1, h2, h3, h4, h5, h6⟩ := h
  refine (svt_put h1 hd l cv hv (fun hne q hq hm => by have := hvq hne q hq; have := h4 q hm; omega) hl).mono ?_
  rintro e w' ⟨rfl, T', k1, k2, k3⟩
  have hl2 := h2.lt
  have hsz := h6.size
  refine ⟨rfl, T', Tb, k1, (h2.kept k3 h3).mono (Nat.le_add_right _ _), fun x hx hm => ?_, fun x hx => ?_, h5, h6.new k3 h4⟩
  · rcases k2 x hx with h | h
    · exact h3 x h hm
    · have := hl2 x hm; omega
  · rcases k2 x hx with h | h
    · exact h4 x h
    · omega
theorem two_all (h : Two w0 w sa sb n Va Vb d) : ∃ K : List Int, K.length ≤ 2000 ∧ (∀ k ∈ K, 1 ≤ k ∧ k ≤ 2147483647 ∧ (valM Va k).isSome = true) ∧ keysF Va 0 1073741824 = K := by
  obtain ⟨Ta, Tb, ⟨lb, pb, fb, bb, cb, mb, kb, v, e, hsv⟩, _⟩ := h
  have hsm := hsv.small
  obtain ⟨h0, st, f, h1, h2, h3, h4⟩ := hsv
  have e := congrArg (fun l : List (Int × List UInt8) => l.map (·.1)) (val_map h1.inv.sorted h0 h4)
  simp only [mapA, List.map_map, Function.comp_def] at e
  have hk := om_keys h1.inv
  rw [show st.M.map (·.1) = Va.map (·.1) from e] at hk
  have hlen : (Va.map (·.1)).length ≤ 2000 := by rw [List.length_map]; have := om_len Va; omega
  refine ⟨Va.map (·.1), hlen, fun k hkm => ⟨(hk k hkm).1, (hk k hkm).2, ?_⟩, ?_⟩
  · unfold valM
    rw [Option.isSome_map]
    exact (mem_find k).1 hkm
  · unfold keysF
    rw [List.filter_eq_self.2 (fun y hy => by have := (hk y hy).1; simp; omega), List.take_of_length_le (by simpa using Nat.le_trans hlen (by decide))]
end
theorem chs_part {w : World} {b o n c : Nat} {l : List Ch} (h : ChsAt w (.slice (some ⟨b, o, none⟩) n c) l) : n = l.length ∧ ∀ (k : Nat) (hk : k < l.length) c', ChsAt w (.slice (some ⟨b, o + k * 3, none⟩) 1 c') [l[k]] := by
  obtain ⟨p, c0, b0, o0, e, hp, hc⟩ := h
  cases e
  refine ⟨rfl, fun k hk c' => ?_⟩
  have e := hp (by intro h; rw [h] at hk; simp at hk)
  cases e
  refine ⟨_, c', b, o + k * 3, rfl, fun _ => rfl, fun i hi => ?_⟩
  obtain rfl : i = 0 := by simp at hi; omega
  exact hc k hk
/-- No script's changes are longer than their slice's room. -/
def CapsAt (w : World) (v : Value) : Prop := ∀ b o n c, v = .slice (some ⟨b, o, none⟩) n c → ∀ i, i < n → ∀ p len cap, w.cell? ⟨b, o + i * 5 + 4, none⟩ = some (.slice p len cap) → len ≤ cap
theorem CapsAt.same {w w' : World} {v : Value} {l : List OpC} (h : CapsAt w v) (hl : OpsAt w v l) (k : Kept [] w w') : CapsAt w' v := by
  intro b o n c e i hi p len cap hc
  refine h b o n c e i hi p len cap ?_
  obtain ⟨p0, c0, b0, o0, e0, hp, hcc, _⟩ := hl
  rw [e] at e0
  cases e0
  have hi' : i < l.length := hi
  have e1 := hp (by intro h; rw [h] at hi'; simp at hi')
  cases e1
  obtain ⟨_, _, _, _, cv, h4, _⟩ := hcc i hi'
  rw [k.cellOf h4] at hc
  rw [h4]; exact hc
/-! ### ObjsParts -/
theorem takes_snoc (V : OM) (l : List Ch) (c : Ch) : takesF V (l ++ [c]) 0 0 = takesF (takesF V l 0 0) [c] 0 0 := by
  unfold takesF; rw [List.foldl_append]
set_option maxHeartbeats 8000000 in
theorem parts_law (w : World) (m : Int) (v : Value) (l : List OpC) (hl : OpsAt w v l) (hcap : CapsAt w v) :
    Calls Tryz.prog 4 #[.agg #[I m, v]] w fun e w' => e = .returned (.bool true) ∧ Kept [] w w' := by
  obtain ⟨W, hW⟩ : ∃ W, w.alloc (.cells #[I m, v] 24) = W := ⟨_, rfl⟩
  have k1 : Kept [] w W := by rw [← hW]; exact (Kept.refl [] w).alloc _
  have hl1 := hl.same k1
  have hcap1 := hcap.same hl k1
  obtain ⟨p, c, b, o, rfl, hp, hc, hlc, hll⟩ := hl1
  have hnew := heap_new w (.cells #[I m, .slice p l.length c] 24)
  rw [hW] at hnew
  have c0 := cell_at hnew 0
  have c1 := cell_at hnew 1
  simp only [List.getElem?_toArray, List.getElem?_cons_zero, List.getElem?_cons_succ] at c0 c1
  obtain ⟨wb, hwb⟩ : ∃ wb, w.heap.size = wb := ⟨_, rfl⟩
  rw [hwb] at c0 c1
  have hn8 := blkF_bound m
  have HLA := Lib.hid (fun W => laid15_any W m)
  obtain ⟨n, hn⟩ : ∃ n, blkF m = n := ⟨_, rfl⟩
  rw [hn] at HLA hn8
  have HC := Lib.hid (And.intro hp (And.intro hc (And.intro hlc (And.intro hll hcap1))))
  have C1 := Lib.hid c1
  have C0 := Lib.hid c0
  have K1 := Lib.hid k1
  have hn1 : 8 ≤ n := hn8.1
  have hn2 : n ≤ 20 := hn8.2.1
  have hlI : (l.length : Int) ≤ 4611686018427387904 := by omega
  clear hl hp hc hlc hll hnew k1 hn hn8 c1 hcap hcap1
  go_enter Tryz.func4, Tryz.ntmps4
  go_wp2_with (fail)
  refine (HLA.out _).mono ?_
  intro e w2 hla
  obtain ⟨fa, sa, ra, Ta, rfl, ha, hTa, k2⟩ := laid_svt hla hn1
  have c0' := k2.cellOf C0.out
  have HA := Lib.hid (And.intro ha (And.intro hTa k2))
  clear ha hTa k2 hla c0 hW hwb
  go_wp2_with (fail)
  refine (HLA.out _).mono ?_
  intro e w3 hla
  obtain ⟨fb, sb, rb, Tb, rfl, hb, hTb, k3⟩ := laid_svt hla hn1
  have H2 : Hid (Two W w3 sa sb n [] [] 0) := Lib.hid (by
    obtain ⟨ha, hTa, k2⟩ := HA.out
    exact ⟨Ta, Tb, ha.same k3, hb, fun x hx hm => by have := ha.lt x hx; have := hTb x hm; omega, hTa, fun x hx => Nat.le_trans k2.size (hTb x hx), k2.trans' k3⟩)
  clear hb hTb k3 hla c0' HA HLA
  go_wp2_with (fail)
  go_loopw [9] (fun v9 wr => ∃ (i : Nat) (Va Vb : OM), i ≤ 60 ∧ v9 = I i ∧ Two W wr sa sb n Va Vb (i * 1220) ∧ ∀ k, valM Va k = valM Vb k) (fun v9 _ => 60 - (intOf v9).toNat)
  case atStart => exact ⟨0, [], [], by omega, rfl, by rw [Nat.zero_mul]; exact H2.out, fun _ => rfl⟩
  case round =>
    obtain ⟨i, Va, Vb, hi, rfl, htw, hval⟩ := hrel
    have e1 := htw.old.cellOf C1.out
    have HS := Lib.hid (And.intro htw hval)
    clear htw hval
    by_cases hgo : i < l.length ∧ i < 60
    · obtain ⟨hj, hlt⟩ := hgo
      have hltI : (i : Int) < 60 := by omega
      have hjI : (i : Int) < l.length := by omega
      obtain ⟨hp, hc, hlc, hll, hcp⟩ := HC.out
      have hpe := hp (by intro h; rw [h] at hj; simp at hj)
      subst hpe
      obtain ⟨_, _, _, _, cv, x4, x5⟩ := hc i hj
      have y4 := HS.out.1.old.cellOf x4
      have hcl := hlc _ (List.getElem_mem hj)
      obtain ⟨ch, hch⟩ : ∃ ch, l[i].ch = ch := ⟨_, rfl⟩
      rw [hch] at hcl x5
      have x6 := chs_lt x5
      have HP := Lib.hid (two_put HS.out.1 (by omega) ch cv (x5.same HS.out.1.old) (fun hne q hq => x6 hne q hq) hcl)
      obtain ⟨q, cc, bq, oq, hcv, hpq, hcq⟩ := id x5
      subst hcv
      have hcap2 := hcp b o l.length c rfl i hj q ch.length cc x4
      have hclI : (ch.length : Int) ≤ 4611686018427387904 := by omega
      have HX := Lib.hid (And.intro x5 (And.intro x6 (And.intro hpq hcap2)))
      clear hp hc hlc hll hcp x4 x5 x6 hcl hch hpq hcq
      by_cases hbig : 60 < ch.length
      · have hbI : (60 : Int) < ch.length := by omega
        go_wp2_with (fail)
        go_roundw
        case rel => exact ⟨i + 1, Va, Vb, by omega, by go_num, HS.out.1.mono (by omega), HS.out.2⟩
        case measure => simp [intOf]; omega
      · have hbI : (ch.length : Int) ≤ 60 := by omega
        obtain ⟨y, hy⟩ : ∃ y, mayF n Va ch = y := ⟨_, rfl⟩
        rw [hy] at HP
        have HY := Lib.hid hy
        by_cases hy0 : y = 0
        case neg =>
          have hyb : (y == 0) = false := by simpa using hy0
          have hyb2 : (y != 0) = true := by simpa using hy0
          clear hy
          go_wp2_with (fail)
          refine HP.out.mono ?_
          rintro e w4 ⟨rfl, h4⟩
          have H4 := Lib.hid h4
          clear h4
          go_wp2_with (fail)
          go_roundw
          case rel => exact ⟨i + 1, Va, Vb, by omega, by go_num, by have h := H4.out; rw [put_else (by rw [HY.out]; exact hy0)] at h; exact h.mono (by omega), HS.out.2⟩
          case measure => simp [intOf]; omega
        case pos =>
        subst hy0
        clear hy
        go_wp2_with (fail)
        refine HP.out.mono ?_
        rintro e w4 ⟨rfl, h4⟩
        have H4 := Lib.hid h4
        clear h4
        go_wp2_with (fail)
        have hfm := may_form HY.out
        have hri := (formG_ok 0 ch hfm).1
        have H4' : Hid (Two W w4 sa sb n (takesF Va ch 0 0) Vb (i * 1220 + n)) := Lib.hid (by have h := H4.out; unfold putF at h; rw [if_pos HY.out] at h; exact h)
        have HRI := Lib.hid hri
        clear hfm hri H4
        go_loopw [11] (fun v11 wx => ∃ (k : Nat), k ≤ ch.length ∧ v11 = I k ∧ Two W wx sa sb n (takesF Va ch 0 0) (takesF Vb (ch.take k) 0 0) (i * 1220 + n + k * n)) (fun v11 _ => ch.length - (intOf v11).toNat)
        case atStart => exact ⟨0, Nat.zero_le _, rfl, by rw [Nat.zero_mul, Nat.add_zero, List.take_zero]; exact H4'.out⟩
        case round =>
          obtain ⟨k, hk, rfl, ht⟩ := hrel
          have HT := Lib.hid ht
          clear ht
          by_cases hkl : k < ch.length
          · have hklI : (k : Int) < ch.length := by omega
            have hne : ch ≠ [] := by intro h; rw [h] at hkl; simp at hkl
            have hqe := HX.out.2.2.1 hne
            subst hqe
            have hx6 := HX.out.2.1 hne bq rfl
            have hcc := HX.out.2.2.2
            have hck : ¬ cc = k := by omega
            have hckI : (k : Int) + 1 ≤ cc := by omega
            have hckN : k + 1 ≤ cc := by omega
            have hk60 : (k : Int) ≤ 60 := by omega
            have hsub := (chs_part (HX.out.1.same HT.out.old)).2 k hkl (cc - k)
            have hkn : k * n ≤ 60 * 20 := Nat.mul_le_mul (by omega) hn2
            have HB := Lib.hid (two_put HT.out.swap (by omega) [ch[k]] _ hsub (fun _ q hq => by have := slice_own hq; omega) (by simp))
            obtain ⟨z, hz⟩ : ∃ z, mayF n (takesF Vb (ch.take k) 0 0) [ch[k]] = z := ⟨_, rfl⟩
            rw [hz] at HB
            have HZ := Lib.hid hz
            clear hz hsub hcc hne
            by_cases hz0 : z = 0
            case neg =>
              have hzb : (z == 0) = false := by simpa using hz0
              have hzb2 : (z != 0) = true := by simpa using hz0
              go_wp2_with (fail)
              refine HB.out.mono ?_
              rintro e w5 ⟨rfl, h5⟩
              have H5 := Lib.hid h5
              clear h5
              go_wp2_with (fail)
              refine (fixed_any _).mono ?_
              rintro e w6 ⟨rfl, k6⟩
              go_wp2_with (fail)
              go_ret
              exact ⟨rfl, (K1.out.trans' H5.out.old).trans' k6⟩
            case pos =>
            subst hz0
            go_wp2_with (fail)
            refine HB.out.mono ?_
            rintro e w5 ⟨rfl, h5⟩
            have H5 := Lib.hid h5
            clear h5
            go_wp2_with (fail)
            go_roundw
            case rel => exact ⟨k + 1, by omega, by go_num, by
              have h := H5.out.swap
              unfold putF at h
              rw [if_pos HZ.out, ← takes_snoc, ← List.take_succ_eq_append_getElem hkl] at h
              rw [Nat.succ_mul]
              exact h.mono (by omega)⟩
            case measure => simp [intOf]; omega
          · have hke : k = ch.length := by omega
            subst hke
            have hkn : ch.length * n ≤ 60 * 20 := Nat.mul_le_mul (by omega) hn2
            have hT : Two W wr sa sb n (takesF Va ch 0 0) (takesF Vb ch 0 0) (i * 1220 + 1220) := by
              have h := HT.out
              rw [List.take_length] at h
              exact h.mono (by omega)
            have hv2 : ∀ k, valM (takesF Va ch 0 0) k = valM (takesF Vb ch 0 0) k := fun k => takes_val HS.out.1.sorted.1 HS.out.1.sorted.2 HS.out.2 ch HRI.out 0 0 0 0 k
            obtain ⟨VA, hVA⟩ : ∃ VA, takesF Va ch 0 0 = VA := ⟨_, rfl⟩
            obtain ⟨VB, hVB⟩ : ∃ VB, takesF Vb ch 0 0 = VB := ⟨_, rfl⟩
            rw [hVA, hVB] at hT hv2
            obtain ⟨K, hK1, hK2, hK3⟩ := two_all hT
            have hK4 : keysF VB 0 1073741824 = K := by rw [← hK3]; exact (keysF_val hT.sorted.1 hT.sorted.2 hv2 _ _).symm
            have hKA := Lib.hid (fun W' (h : Two W W' sa sb n VA VB (i * 1220 + 1220)) => by
              obtain ⟨_, _, h1, _⟩ := h
              have := svt_keys h1 0 1073741824
              rw [hK3] at this
              exact this)
            have hKB := Lib.hid (fun W' (h : Two W W' sa sb n VA VB (i * 1220 + 1220)) => by
              obtain ⟨_, _, _, h1, _⟩ := h
              have := svt_keys h1 0 1073741824
              rw [hK4] at this
              exact this)
            obtain ⟨SU, hSU⟩ : ∃ SU, sumA wO VA = SU := ⟨_, rfl⟩
            have hSB : sumA wO VB = SU := by rw [← hSU]; exact (weight_same hT.sorted.1 hT.sorted.2 hv2).symm
            have hWA := Lib.hid (fun W' (h : Two W W' sa sb n VA VB (i * 1220 + 1220)) => by
              obtain ⟨_, _, h1, _⟩ := h
              have := svt_weight h1
              rw [hSU] at this
              exact this)
            have hWB := Lib.hid (fun W' (h : Two W W' sa sb n VA VB (i * 1220 + 1220)) => by
              obtain ⟨_, _, _, h1, _⟩ := h
              have := svt_weight h1
              rw [hSB] at this
              exact this)
            have hGA : Hid (∀ W', Two W W' sa sb n VA VB (i * 1220 + 1220) → ∀ x : Int, x ∈ K → Calls Tryz.prog 15 #[Ptr sa, I x] W' fun e w' => e = .returned (.tuple #[S (getF VA x), .bool true]) ∧ Kept [] W' w') := Lib.hid (fun W' h x hx => by
              obtain ⟨_, _, h1, _⟩ := h
              have := svt_get h1 x ⟨by have := (hK2 x hx).1; omega, by have := (hK2 x hx).2.1; omega⟩
              rw [(hK2 x hx).2.2] at this
              exact this)
            have hGB : Hid (∀ W', Two W W' sa sb n VA VB (i * 1220 + 1220) → ∀ x : Int, x ∈ K → Calls Tryz.prog 15 #[Ptr sb, I x] W' fun e w' => e = .returned (.tuple #[S (getF VA x), .bool true]) ∧ Kept [] W' w') := Lib.hid (fun W' h x hx => by
              obtain ⟨_, _, _, h1, _⟩ := h
              have := svt_get h1 x ⟨by have := (hK2 x hx).1; omega, by have := (hK2 x hx).2.1; omega⟩
              rw [← hv2 x, (hK2 x hx).2.2, show getF VB x = getF VA x from by unfold getF; rw [hv2 x]] at this
              exact this)
            have HTT := Lib.hid (And.intro hT hv2)
            have hKlI : (K.length : Int) ≤ 2000 := by omega
            clear hVA hVB hT hv2 hK2 hK3 hK4 hSU hSB hkl hkn hk
            go_wp2_with (fail)
            refine (hKA.out _ HTT.out.1).mono ?_
            rintro e w5 ⟨kv5, rfl, own5, k5⟩
            obtain ⟨p5, c5, rfl⟩ := own_form own5
            have H5 := Lib.hid (And.intro own5 (HTT.out.1.same k5))
            clear own5 k5
            go_wp2_with (fail)
            refine (hKB.out _ H5.out.2).mono ?_
            rintro e w6 ⟨kv6, rfl, own6, k6⟩
            obtain ⟨p6, c6, rfl⟩ := own_form own6
            have H6 := Lib.hid (And.intro own6 (And.intro (H5.out.2.same k6) (own_kept H5.out.1 k6 (by simp))))
            clear own6 k6
            go_wp2_with (fail)
            refine (hWA.out _ H6.out.2.1).mono ?_
            rintro e w7 ⟨rfl, hw⟩
            replace hw := hw.symm
            subst hw
            go_wp2_with (fail)
            refine (hWB.out _ H6.out.2.1).mono ?_
            rintro e w7 ⟨rfl, hw⟩
            replace hw := hw.symm
            subst hw
            go_wp2_with (fail)
            go_loopw [14] (fun v14 wx => ∃ t : Nat, t ≤ K.length ∧ v14 = I t ∧ Kept [] w6 wx) (fun v14 _ => K.length - (intOf v14).toNat)
            case atStart => exact ⟨0, Nat.zero_le _, rfl, Kept.refl _ _⟩
            case round =>
              obtain ⟨t, htK, rfl, kx⟩ := hrel
              by_cases htl : t < K.length
              · have htI : (t : Int) < K.length := by omega
                obtain ⟨g5, c5', e5, _, hc5⟩ := row_cells1 (own_kept H6.out.2.2 kx (by simp)) (by omega)
                obtain ⟨g6, c6', e6, _, hc6⟩ := row_cells1 (own_kept H6.out.1 kx (by simp)) (by omega)
                cases e5
                cases e6
                have d5 := hc5 t htl
                have d6 := hc6 t htl
                rw [List.getElem?_map, List.getElem?_eq_getElem htl] at d5 d6
                simp only [Option.map_some] at d5 d6
                obtain ⟨x, hx⟩ : ∃ x, K[t] = x := ⟨_, rfl⟩
                have hxm : x ∈ K := by rw [← hx]; exact List.getElem_mem htl
                rw [hx] at d5 d6
                have HD := Lib.hid (And.intro d6 d5)
                have HXM := Lib.hid hxm
                have h0 := H6.out.2.1.same kx
                have HGA := Lib.hid (hGA.out _ h0 x hxm)
                have HKX := Lib.hid kx
                have H0 := Lib.hid h0
                obtain ⟨gs, hgs⟩ : ∃ gs, getF VA x = gs := ⟨_, rfl⟩
                rw [hgs] at HGA
                have HGS := Lib.hid hgs
                clear hc5 hc6 hx hxm h0 kx hgs d6
                go_wp2_with (fail)
                refine HGA.out.mono ?_
                rintro e w7 ⟨rfl, k7⟩
                have HGB := Lib.hid (hGB.out _ (H0.out.same k7) x HXM.out)
                rw [HGS.out] at HGB
                have d5' := k7.cellOf HD.out.2
                have HK7 := Lib.hid k7
                clear d5 k7
                go_wp2_with (fail)
                refine HGB.out.mono ?_
                rintro e w8 ⟨rfl, k8⟩
                have d5 := k8.cellOf d5'
                have d6 := (HK7.out.trans' k8).cellOf HD.out.1
                have HK8 := Lib.hid ((HKX.out.trans' HK7.out).trans' k8)
                clear d5' k8
                go_wp2_with (fail)
                go_quiet (fail)
                go_wp2_with (fail)
                go_roundw
                case rel => exact ⟨t + 1, by omega, by go_num, HK8.out.drewN _⟩
                case measure => simp [intOf]; omega
              · have hte : t = K.length := by omega
                subst hte
                have HKX := Lib.hid kx
                clear kx
                go_wp2_with (fail)
                go_roundw
                case rel => exact ⟨i + 1, VA, VB, by omega, by go_num, by rw [Nat.succ_mul]; exact H6.out.2.1.same HKX.out, HTT.out.2⟩
                case measure => simp [intOf]; omega
    · have hstop : (l.length : Int) ≤ i ∨ ((i : Int) < l.length ∧ (60 : Int) ≤ i) := by
        by_cases h1 : i < l.length
        · right
          have : ¬ i < 60 := fun h2 => hgo ⟨h1, h2⟩
          omega
        · left; omega
      generalize l.length = LL at e1 hlI hstop ⊢
      rcases hstop with hst | ⟨hst, hst2⟩
      all_goals
        go_wp2_with (fail)
        refine (fixed_any _).mono ?_
        rintro e w5 ⟨rfl, k5⟩
        go_wp2_with (fail)
        go_ret
        exact ⟨rfl, (K1.out.trans' HS.out.1.old).trans' k5⟩
end Go.Proofs.YtdkjlaldhohbmaaGreat
