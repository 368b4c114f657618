/- Walks and lemmas on the program of this seat, used by its statements; each theorem bears its own conditions. -/
import Derived.Test.YteplbljjlbdhaaaGreatDoorZ32
namespace Go.Proofs.YteplbljjlbdhaaaGreatDoor
open Go.RowKit
set_option linter.unusedVariables false
set_option linter.unusedSimpArgs false
set_option linter.unusedSectionVars false
set_option maxHeartbeats 16000000
set_option maxRecDepth 100000
theorem set_keys {w : World} {mb : Nat} {M : CM} (h : SetAt w mb M) : ∃ D, w.ownsMap Tryz.prog 3 chR mb M.length D ∧ Maps.size D = M.length ∧ ∀ ss : List Int, ss.Perm (intKeys D) → ss.mergeSort leI = M.map (·.1) ∧ ss.length = M.length := by
 obtain ⟨D, h1, h2, h3, _⟩ := h.own
 refine ⟨D, h1, h2, fun ss hp => ?_⟩
 have hq : (M.map (·.1)).Perm (intKeys D) := by
  obtain ⟨es, hD, hpw, _⟩ := h1.entries int_law
  obtain ⟨es', hD', hko⟩ := h1.keysOf
  obtain rfl : es = es' := by rw [hD] at hD'; simpa using hD'
  subst hD
  refine perm_intKeys hpw (fun p hp => by obtain ⟨v, hv⟩ := hko p hp; obtain ⟨x, _, hx, _⟩ := Maps.keyOf_i64 Tryz.underlying3 hv; exact ⟨x, hx⟩) (List.pairwise_map.2 (h.srt.imp fun {a b} hab => by omega)) (fun x => ?_)
  rw [mem_find]
  exact Eq.to_iff (congrArg (· = true) (h3 x).symm)
 have hr := hp.trans hq.symm
 exact ⟨(mergeSort_of_perm_i hr).trans (sortA h.srt), by simpa using hr.length_eq⟩
theorem row_cellsI {w : World} {B : Nat} {v : Value} {ks : List Int} (h : w.ownsRow B 3 1 v ks.length (ks.map fun k => I k)) (hn : ks ≠ []) : ∃ g c, v = .slice (some ⟨g, 0, none⟩) ks.length c ∧ B ≤ g ∧ ∀ (i : Nat) (hi : i < ks.length), w.cell? ⟨g, i, none⟩ = some (I ks[i]) := by
 rcases h.2 with ⟨_, h0⟩ | ⟨g, c, cur, hv, hb, hg, hnc, hc, hsz, ht⟩
 ·exact absurd (List.length_eq_zero_iff.1 h0) hn
 ·refine ⟨g, c, hv, hb, fun i hi => ?_⟩
  rw [cell_at hg]
  have := congrArg (fun l => l[i]?) ht
  rw [List.getElem?_take_of_lt (by omega), Array.getElem?_toList] at this
  rw [this]
  simp [hi]
def doesF (n : Nat) (V : OM) (l : List Ch) : Int := if mayF n V l = 0 then 0 else 166
theorem does_any (w : World) (ff fb sb n : Nat) (V : OM) (d : Nat) (T : List Nat) (z : Bool) (h : STZ w fb sb n V d T z) (hd : d ≤ 700000000) (hc : w.cell? ⟨ff, 0, none⟩ = some (Ptr sb)) (mb : Nat) (M : CM) (hM : SetAt w mb M) (hl : M.length ≤ 1000) (hk : ∀ p ∈ M, I64 p.1) :
    Calls Tryz.prog 49 #[Ptr ff, .map (some mb)] w fun e w' => ∃ r : Int, e = .returned (I r) ∧ ∃ T', ((r = doesF n V (M.map (·.2)) ∧ STZ w' fb sb n (putF n V (M.map (·.2))) (d + n + 1) T' z) ∨ (r = 2 ∧ z = false ∧ PF w' fb n V (putF n V (M.map (·.2))) (d + n + 1) T')) ∧ (∀ x ∈ T', x < w'.heap.size) ∧ Kept T w w' ∧ (∀ x ∈ T', x ∈ T ∨ w.heap.size ≤ x) := by
  obtain ⟨D, hown, hsz, hkeys⟩ := set_keys hM
  obtain ⟨i0, hi, hz0, hz1, hz2⟩ := info_parts ch_info
  have hml := hown.lt
  have HSO : Hid (Calls Tryz.prog 85 #[.func (.func 110) #[] #[.pointer (some ⟨w.heap.size, 0, none⟩)]] (w.alloc (.cells #[.map (some mb)] 91)) fun e w' => ∃ v, e = .returned v ∧ w'.ownsRow w.heap.size 3 1 v M.length ((M.map (·.1)).map fun k => I k) ∧ Kept [] w w') := Lib.hid (by
    refine (ssorted_any mb _ D chR w hown (by rw [hsz]; unfold maxLen; omega) (by rw [hsz]; omega)).mono ?_
    rintro e w' ⟨v, ss, rfl, hp, hrow, hnil, hb⟩
    obtain ⟨e1, e2⟩ := hkeys ss hp
    refine ⟨v, rfl, ?_, ((Kept.refl [] w).alloc _).trans' (Kept.of_below hb (Nat.le_refl _))⟩
    rw [show (ss.mergeSort fun x y => decide (x ≤ y)) = M.map (·.1) from e1, e2] at hrow
    refine ⟨hrow.1, ?_⟩
    rcases hrow.2 with h1 | ⟨g, cap, cur, h1, h2, h3⟩
    · exact .inl h1
    · exact .inr ⟨g, cap, cur, h1, by rw [World.size_alloc] at h2; omega, h3⟩)
  have HI := Lib.hid (And.intro hi (And.intro hz0 (And.intro hz1 hz2)))
  have H := Lib.hid (And.intro h (And.intro hd (And.intro hM (And.intro hl hk))))
  have HCC := Lib.hid hc
  have hlI : (M.length : Int) ≤ 1000 := by omega
  have HTl : Hid (∀ x ∈ T, x < w.heap.size) := Lib.hid h.stk.lt
  clear h hM hown hsz hkeys hk hi hz0 hz1 hz2 hc hml hd
  go_enter Tryz.func49, Tryz.ntmps49
  go_wp2_with (fail)
  refine (skeys_any _ _).mono ?_
  rintro e w1 ⟨rfl, rfl⟩
  go_wp2_with (fail)
  refine HSO.out.mono ?_
  rintro e w2 ⟨v, rfl, own, k2⟩
  obtain ⟨kp, kc, rfl⟩ := own_form own
  have H2 := Lib.hid (And.intro own k2)
  clear own k2
  go_wp2_with (fail)
  go_loopw [5, 13] (fun v5 v13 wr => ∃ (a b : CM) (p : Option Addr) (c : Nat), M = a ++ b ∧ v13 = I a.length ∧ v5 = .slice p a.length c ∧ wr.ownsRow w2.heap.size 146 3 (.slice p a.length c) a.length (chsCells (a.map (·.2))) ∧ Kept [] w2 wr) (fun _ v13 _ => M.length - (intOf v13).toNat)
  case atStart => exact ⟨[], M, none, 0, rfl, rfl, rfl, ⟨rfl, .inl ⟨rfl, rfl⟩⟩, Kept.refl _ _⟩
  case round =>
    obtain ⟨a, b, p, c, hab, rfl, rfl, own, kr⟩ := hrel
    obtain ⟨hi, hz0, hz1, hz2⟩ := HI.out
    have HR := Lib.hid (And.intro hab (And.intro own kr))
    cases b with
    | nil =>
      rw [List.append_nil] at hab
      subst hab
      have k02 : Kept [] w wr := H2.out.2.trans' kr
      have hat : ChsAt wr (.slice p M.length c) (M.map (·.2)) := by
        have ho : OwnC w2.heap.size p c (M.map (·.2)) wr := by
          show World.ownsRow _ _ _ _ _ _ _
          rw [List.length_map]
          exact own
        have := ho.at
        rw [List.length_map] at this
        exact this
      have HP := Lib.hid (stz_put (H.out.1.same k02) H.out.2.1 (M.map (·.2)) _ hat (fun _ q hq hm => by
        have h1 := (own_lt own q hq).1
        have h2 := HTl.out q hm
        have := H2.out.2.size
        omega) (by rw [List.length_map]; have := H.out.2.2.2.1; omega))
      have c1 := k02.cellOf HCC.out
      have K02 := Lib.hid k02
      have hml := may_dead n V (M.map (·.2))
      have hdec : ∀ x ∈ T, x < w.heap.size := HTl.out
      have HDEC := Lib.hid hdec
      clear own kr hat k02 hdec
      obtain ⟨LL, hLL⟩ : ∃ LL, (M.map (·.2)) = LL := ⟨_, rfl⟩
      rw [hLL] at HP hml
      have HLL := Lib.hid hLL
      clear hLL
      go_wp2_with (fail)
      refine HP.out.mono ?_
      rintro e w3 ⟨r, rfl, T', hp, h3⟩
      have H3 : Hid ((∀ x ∈ T', x < w3.heap.size) ∧ Kept T w w3 ∧ (∀ x ∈ T', x ∈ T ∨ w.heap.size ≤ x)) := Lib.hid ⟨h3.1, (K02.out.mono (by simp)).trans' h3.2.1, fun x hx => (h3.2.2 x hx).imp id (fun h => by have := K02.out.size; omega)⟩
      clear h3
      unfold PutZ at hp
      obtain ⟨mv, hmv⟩ : ∃ mv, mayF n V LL = mv := ⟨_, rfl⟩
      rw [hmv] at hp hml
      have HMV := Lib.hid hmv
      clear hmv
      rcases hp with ⟨hr, hs⟩ | ⟨hr, hz, hm, hpf⟩
      · subst hr
        have HS := Lib.hid hs
        clear hs
        by_cases h0 : r = 0
        · subst h0
          go_wp2_with (fail)
          go_ret
          refine ⟨0, rfl, T', ?_, H3.out⟩
          rw [HLL.out]
          exact .inl ⟨by unfold doesF; rw [HMV.out]; rfl, HS.out⟩
        · have h0b : (r == 0) = false := by simpa using h0
          have HN := Lib.hid h0
          clear h0
          go_wp2_with (fail)
          go_ret
          refine ⟨166, rfl, T', ?_, H3.out⟩
          rw [HLL.out]
          exact .inl ⟨by unfold doesF; rw [HMV.out, if_neg HN.out], HS.out⟩
      · subst hr
        have HS := Lib.hid (And.intro hz hpf)
        clear hz hpf hm
        go_wp2_with (fail)
        go_ret
        refine ⟨2, rfl, T', ?_, H3.out⟩
        rw [HLL.out]
        exact .inr ⟨rfl, HS.out⟩
    | cons x b =>
      obtain ⟨ky, ch⟩ := x
      have hkl : M.length = a.length + (b.length + 1) := by rw [hab]; simp
      have hne : M.map (·.1) ≠ [] := by rw [hab]; simp
      have hown2 : w2.ownsRow w.heap.size 3 1 (.slice kp M.length kc) (M.map (·.1)).length ((M.map (·.1)).map fun k => I k) := by rw [List.length_map]; exact H2.out.1
      obtain ⟨g, c', e, hbg, hcc⟩ := row_cellsI hown2 hne
      injection e with e1 e2 e3
      subst e1
      subst e3
      clear e2
      have hx0 := hcc a.length (by rw [List.length_map]; omega)
      have hxe : (M.map (·.1))[a.length]'(by rw [List.length_map]; omega) = ky := by simp [hab]
      rw [hxe] at hx0
      have hx := kr.cellOf hx0
      have hltI : (a.length : Int) < M.length := by omega
      obtain ⟨hkey, hval⟩ : ky = ky ∧ findA M ky = some ch := ⟨rfl, find_of_mem H.out.2.2.1.srt (by rw [hab]; simp)⟩
      have hset := (H.out.2.2.1.same (H2.out.2.trans' kr))
      have hlk := SetAt.look hset (k := ky) (c := ch) (H.out.2.2.2.2 (ky, ch) (by rw [hab]; simp)) hval
      obtain ⟨ck, cv, cd⟩ := ch
      unfold chV at hlk
      have hI1000 : a.length ≤ 1000 := by have := H.out.2.2.2.1; omega
      have hown1 : (wr.alloc (.cells #[I ck, S cv, .bool cd] 146)).ownsRow w2.heap.size 146 3 (.slice p a.length c) a.length (chsCells (a.map (·.2))) := own_kept own ((Kept.refl [] wr).alloc _) (by simp)
      have hsz0 := kr.size
      have HX := Lib.hid (And.intro hown1 (And.intro hsz0 hI1000))
      have hnew := heap_new wr (Obj.cells #[I ck, S cv, .bool cd] 146)
      have HNW := Lib.hid hnew
      clear hown1 hsz0 own kr hab hown2 hcc hx0 hxe hne hset hkey hval hnew hkl
      go_wp2_with (first
        | (at_builtin
           refine wpList_append_lies _ rfl (.tmp 17) (.tmp 21) _ rfl w2.heap.size 146 i0 (.agg #[.int .i64 0, .string ⟨#[]⟩, .bool false]) 3 32 Tryz.underlying147 hi hz0 hz1 hz2 rfl (by decide) (.slice p a.length c) a.length (chsCells (a.map (·.2))) rfl HX.out.1 ⟨wr.heap.size, 0, none⟩ 1 1 [I ck, S cv, .bool cd] rfl rfl (World.news_of_block HNW.out) (chs_one [⟨ck, cv, cd⟩]) (by decide) (by have := HX.out; unfold maxLen; omega) (by have := HX.out; omega) (by have := HX.out.2.1; rw [World.size_alloc]; omega) _ rfl ?_
           intro g2 cap wa own1 gr1 hat hlt
           have HA := Lib.hid (And.intro own1 (kept_grown gr1))
           clear own1 gr1 hat hlt))
      go_roundw
      case rel =>
        obtain ⟨own1, kg⟩ := HA.out
        obtain ⟨hab, own, kr⟩ := HR.out
        refine ⟨a ++ [(ky, ⟨ck, cv, cd⟩)], b, some ⟨g2, 0, none⟩, cap, by simp [hab], by simp, by simp, ?_, ?_⟩
        · have e : chsCells (a.map (·.2)) ++ [I ck, S cv, .bool cd] = chsCells ((a ++ [(ky, (⟨ck, cv, cd⟩ : Ch))]).map (·.2)) := by simp [chsCells, chCells]
          rw [e] at own1
          rw [show (a ++ [(ky, (⟨ck, cv, cd⟩ : Ch))]).length = a.length + 1 by simp]
          exact own1
        · refine kr.new (((Kept.refl [] wr).alloc _).mono (by simp) |>.trans' kg) ?_
          intro x hx
          exact (own_lt own x (by simpa using hx)).1
      case measure => simp [intOf]; omega
def fileF (E : List Nd) (s : List UInt8) : Int × Nd := match WX.pathF s with
 | none => (160, ⟨[], 0, false, []⟩)
 | some p => if findF E [] p ≠ 0 then ((findF E [] p : Nat), ⟨[], 0, false, []⟩) else if isDirP E p = true then (163, ⟨[], 0, false, []⟩) else match ent E p with | some x => (0, x) | none => (163, ⟨[], 0, false, []⟩)
theorem file_is {v : Value} {E : List Nd} {s : List UInt8} (h : FileP v E s) : v = .tuple #[I (fileF E s).2.num, .agg #[I (fileF E s).2.data.length], I (fileF E s).1] := by
 unfold FileP at h
 unfold fileF
 cases hp : WX.pathF s with
 | none => rw [hp] at h; exact h
 | some p =>
  rw [hp] at h
  have h : if findF E [] p = 0 then (if isDirP E p = true then v = .tuple #[I 0, .agg #[I 0], I 163] else ∃ x, ent E p = some x ∧ v = .tuple #[I x.num, .agg #[I x.data.length], I 0]) else v = .tuple #[I 0, .agg #[I 0], I (findF E [] p)] := h
  simp only
  by_cases hz : findF E [] p = 0
  ·rw [if_pos hz] at h
   rw [if_neg (by simpa using hz)]
   by_cases hd : isDirP E p = true
   ·rw [if_pos hd] at h
    rw [if_pos hd]; exact h
   ·rw [if_neg hd] at h
    rw [if_neg hd]
    obtain ⟨x, hx, rfl⟩ := h
    rw [hx]
  ·rw [if_neg hz] at h
   rw [if_pos hz]
   exact h
theorem file_mem {E : List Nd} {s : List UInt8} (h : (fileF E s).1 = 0) : ∃ p, WX.pathF s = some p ∧ findF E [] p = 0 ∧ isDirP E p = false ∧ ent E p = some (fileF E s).2 ∧ (fileF E s).2 ∈ E := by
 unfold fileF at h ⊢
 cases hp : WX.pathF s with
 | none => rw [hp] at h; cases h
 | some p =>
  rw [hp] at h
  simp only at h ⊢
  by_cases hz : findF E [] p = 0
  ·rw [if_neg (by simpa using hz)] at h ⊢
   by_cases hd : isDirP E p = true
   ·rw [if_pos hd] at h; cases h
   ·rw [if_neg hd] at h ⊢
    cases he : ent E p with
    | none => rw [he] at h; cases h
    | some x => exact ⟨p, rfl, hz, by simpa using hd, he, (ent_mem he).1⟩
  ·rw [if_pos hz] at h
   have : (findF E [] p : Int) = 0 := h
   exact absurd (by omega) hz
theorem ffile_any (w : World) (fb sb : Nat) (V : OM) (given : Nat) (E : List Nd) (h : FR w fb sb V given E) (hT : Tabs w) (s : List UInt8) (hs : s.length < 4294967281) :
  Calls Tryz.prog 45 #[Ptr fb, S s] w fun e w' => e = .returned (.tuple #[I (fileF E s).2.num, .agg #[I (fileF E s).2.data.length], I (fileF E s).1]) ∧ Kept [] w w' := by
 refine (file_any w fb sb V given E h hT s hs).mono ?_
 rintro e w' ⟨⟨v, rfl, hv⟩, k⟩
 rw [file_is hv]
 exact ⟨rfl, k⟩
theorem chunk_obj {V : OM} {given : Nat} {E : List Nd} (hs : SimV V given E) (hw : WF given E) {x : Nd} (hx : x ∈ E) (i : Nat) (hi : i < 63) : getF V ((64 * x.num + 1 + i : Nat) : Int) = chunkF x.data i := by
 have h1 := hs ((64 * x.num + 1 + i : Nat) : Int)
 have h2 := objF_at (given := given) (E := E) (n := x.num) (r := 1 + i) (by omega) (hw.num x hx).1
 rw [byNum_of hw.nums hx, ← Nat.add_assoc] at h2
 rw [h2] at h1
 unfold getF
 rw [h1]
 simp only
 rw [if_neg (by omega)]
 rw [show 1 + i - 1 = i by omega]
 split
 ·rfl
 ·unfold chunkF
  rw [List.drop_eq_nil_of_le (by omega)]
  rfl
theorem fchunk_any (w : World) (fb sb : Nat) (V : OM) (given : Nat) (E : List Nd) (h : FR w fb sb V given E) (x : Nd) (hx : x ∈ E) (i : Nat) (hi : i < 63) :
  Calls Tryz.prog 46 #[Ptr fb, I x.num, I i] w fun e w' => e = .returned (S (chunkF x.data i)) ∧ Kept [] w w' := by
 have hnb := h.wf.num x hx
 have hgv := h.gv
 obtain ⟨k, hk⟩ : ∃ k, 64 * x.num + 1 + i = k := ⟨_, rfl⟩
 have hob := chunk_obj h.sim h.wf hx i hi
 rw [hk] at hob
 have HG := h.rd.get (k : Int) ⟨by omega, by omega⟩
 rw [hob] at HG
 have HG := Lib.hid HG
 have e0 := h.cell
 obtain ⟨n, hn⟩ : ∃ n, x.num = n := ⟨_, rfl⟩
 rw [hn] at hnb hk ⊢
 have hnI : (n : Int) ≤ 16777216 := by omega
 have hiI : (i : Int) < 63 := by omega
 have hc1 : (64 : Int) * (n : Int) + 1 + (i : Int) = (k : Int) := by omega
 clear hob hn h hnb hk
 go_enter Tryz.func46, Tryz.ntmps46
 go_wp2_with (fail)
 refine HG.out.mono ?_
 rintro e w1 ⟨rfl, k1⟩
 have K1 := Lib.hid k1
 clear k1
 go_wp2_with (fail)
 go_ret
 exact ⟨rfl, K1.out⟩
theorem fsize_any (w : World) (fb sb : Nat) (V : OM) (given : Nat) (E : List Nd) (h : FR w fb sb V given E) (hT : Tabs w) (s : List UInt8) (hs : s.length < 4294967281) :
  Calls Tryz.prog 26 #[Ptr fb, S s] w fun e w' => e = .returned (.tuple #[I (fileF E s).2.data.length, I (fileF E s).1]) ∧ Kept [] w w' := by
 have HF := Lib.hid (ffile_any w fb sb V given E h hT s hs)
 obtain ⟨m, hm⟩ : ∃ m, (fileF E s).2.data.length = m := ⟨_, rfl⟩
 obtain ⟨q, hq⟩ : ∃ q, (fileF E s).2.num = q := ⟨_, rfl⟩
 obtain ⟨r, hr⟩ : ∃ r, (fileF E s).1 = r := ⟨_, rfl⟩
 rw [hm, hq, hr] at HF
 rw [hm, hr]
 clear h hm hq hr hs hT
 go_enter Tryz.func26, Tryz.ntmps26
 go_wp2_with (fail)
 refine HF.out.mono ?_
 rintro e w1 ⟨rfl, k1⟩
 have n1 := heap_new w1 (Obj.cells #[I 0] 78)
 have hk2 := k1.alloc (Obj.cells #[I 0] 78)
 obtain ⟨W2, hW2⟩ : ∃ W2, w1.alloc (Obj.cells #[I 0] 78) = W2 := ⟨_, rfl⟩
 obtain ⟨b, hb⟩ : ∃ b, w1.heap.size = b := ⟨_, rfl⟩
 have hbw : w.heap.size ≤ b := by rw [← hb]; exact k1.size
 rw [hW2] at n1 hk2
 rw [hb] at n1
 have a2 := free_at n1
 have a1 := cell_at n1 0
 simp only [List.getElem?_toArray, List.getElem?_cons_zero] at a1
 have b1 : (W2.setCell ⟨b, 0, none⟩ (I m)).cell? ⟨b, 0, none⟩ = some (I m) := by rw [cell_at (heap_setCell_at n1 0 _)]; rfl
 have HK : Hid (Kept [] w (W2.setCell ⟨b, 0, none⟩ (I m))) := Lib.hid (hk2.setCell (.inr hbw) _)
 clear n1 hk2 k1 hbw
 go_wp2_with (simp only [hW2])
 go_ret2
 exact ⟨rfl, HK.out⟩
def dirF (E : List Nd) (s : List UInt8) : Int × Bool := match WX.pathF s with
 | none => (160, false)
 | some p => if findF E [] p ≠ 0 then ((findF E [] p : Nat), false) else (0, isDirP E p)
theorem fdir_any (w : World) (fb sb : Nat) (V : OM) (given : Nat) (E : List Nd) (h : FR w fb sb V given E) (hT : Tabs w) (s : List UInt8) (hs : s.length < 4294967281) :
  Calls Tryz.prog 25 #[Ptr fb, S s] w fun e w' => e = .returned (.tuple #[.bool (dirF E s).2, I (dirF E s).1]) ∧ Kept [] w w' := by
 have HG := Lib.hid (got_any w fb sb V given E h hT s hs)
 obtain ⟨r, hr⟩ : ∃ r, dirF E s = r := ⟨_, rfl⟩
 rw [hr]
 have HR := Lib.hid hr
 clear h hs hT hr
 go_enter Tryz.func25, Tryz.ntmps25
 go_wp2_with (fail)
 refine HG.out.mono ?_
 rintro e w1 ⟨⟨v, rfl, h1⟩, k1⟩
 have K1 := Lib.hid k1
 clear k1
 unfold GotP at h1
 cases hp : WX.pathF s with
 | none =>
  rw [hp] at h1
  have h1 : v = .tuple #[I 0, .nilIface, I 160] := h1
  subst h1
  have HE : Hid (r = (160, false)) := Lib.hid (by rw [← HR.out]; unfold dirF; rw [hp])
  clear hp
  go_wp2_with (fail)
  go_ret2
  exact ⟨by rw [HE.out]; rfl, K1.out⟩
 | some p =>
  rw [hp] at h1
  obtain ⟨h1, _⟩ := h1
  unfold FindP at h1
  by_cases hz : findF E [] p = 0
  ·rw [if_pos hz] at h1
   obtain ⟨nv, rfl, hn⟩ := h1
   have HE : Hid (r = (0, isDirP E p)) := Lib.hid (by rw [← HR.out]; unfold dirF; rw [hp]; simp only; rw [if_neg (by simpa using hz)])
   rcases hn with ⟨hd, d, rfl, hens⟩ | ⟨hd, x, hx, rfl⟩
   ·have hta := fun (W : World) => (show (Instr.typeAssert (.iface 87 d) 99 87 true).run Tryz.prog W = .ok (.tuple #[d, .bool true]) W from by kernel_rfl)
    rw [hd] at HE
    clear hz hd hens hp
    go_wp2_with (fail)
    go_ret2
    exact ⟨by rw [HE.out]; rfl, K1.out⟩
   ·have hta := fun (W : World) => (show (Instr.typeAssert (.iface 78 (.agg #[I x.data.length])) 99 87 true).run Tryz.prog W = .ok (.tuple #[.slice none 0 0, .bool false]) W from by kernel_rfl)
    rw [hd] at HE
    clear hz hd hx hp
    go_wp2_with (fail)
    go_ret2
    exact ⟨by rw [HE.out]; rfl, K1.out⟩
  ·rw [if_neg hz] at h1
   subst h1
   have hzI : ((findF E [] p : Int) != 0) = true := by simp; exact hz
   have HE : Hid (r = (((findF E [] p : Nat) : Int), false)) := Lib.hid (by rw [← HR.out]; unfold dirF; rw [hp]; simp only; rw [if_pos hz])
   clear hz hp
   go_wp2_with (fail)
   go_ret2
   exact ⟨by rw [HE.out]; rfl, K1.out⟩
theorem strg_info : (Tryz.prog.info? 9).map (fun i => (i.zero, i.size, i.bytes)) = some (some (S []), 1, 16) := by kernel_rfl
theorem strs_own {w : World} {B : Nat} {v : Value} {ns : List Nm} (h : w.ownsRow B 9 1 v ns.length (ns.map S)) (hl : ns.length ≤ 140737488355328) : StrsAt w v ns := by
 rcases h.2 with ⟨hv, h0⟩ | ⟨g, c, cur, hv, hb, hg, hnc, hc, hsz, ht⟩
 ·have : ns = [] := List.length_eq_zero_iff.1 h0
  subst this
  exact ⟨none, 0, hv, Nat.le_refl _, by simp, fun _ => rfl, fun h => absurd rfl h⟩
 ·refine ⟨_, c, hv, hnc, hl, (fun h => by cases h), fun _ => ⟨g, 0, rfl, fun i hi => ?_⟩⟩
  rw [Nat.zero_add, cell_at hg]
  have := congrArg (fun l => l[i]?) ht
  rw [List.getElem?_take_of_lt (by omega), Array.getElem?_toList] at this
  rw [this, List.getD_eq_getElem?_getD, List.getElem?_map, List.getElem?_eq_getElem hi]
  rfl
def listF (E : List Nd) (s : List UInt8) : Int × List Nm := match WX.pathF s with
 | none => (160, [])
 | some p => if findF E [] p ≠ 0 then (((findF E [] p : Nat) : Int), []) else if isDirP E p = true then (0, (kids E p).map (·.1)) else (163, [])
theorem bldAt_below {T e : TypeId} {B b : Nat} {p : Value} {bs : List Value} {W W' : World} (h : Lib.BuilderAtF T e B b p bs W) (hb : Below W.heap.size W W') : Lib.BuilderAtF T e B b p bs W' := by
 have hlt := h.lt
 obtain ⟨hB, v, hv, hown, hne⟩ := h
 exact ⟨hB, v, (hb.block b hlt).trans hv, hown.kept (row := none) ⟨hb.os, hb.tape, hb.output, hb.size, fun k hk _ => hb.block k hk⟩ (Classical.em _), hne⟩
theorem Bld.same {B b : Nat} {l : List UInt8} {w w' : World} (h : Bld B b l w) (k : Kept [] w w') : Bld B b l w' :=
 h.elim (fun x => .inl (bldAt_below x k.below)) (fun x => .inr (bldAt_below x k.below))
theorem chunk_cut (D : List UInt8) (a : Nat) : (chunkF D (a / 128)).drop (a % 128) = (D.drop a).take (128 - a % 128) := by
 unfold chunkF
 rw [List.drop_take, List.drop_drop, show 128 * (a / 128) + a % 128 = a by omega]
theorem chunk_len (D : List UInt8) (i : Nat) : (chunkF D i).length = min 128 (D.length - 128 * i) := by unfold chunkF; rw [List.length_take, List.length_drop]
def readF (E : List Nd) (s : List UInt8) (at0 n0 : Int) : List UInt8 × Int :=
 if (fileF E s).1 ≠ 0 then ([], (fileF E s).1) else if at0 < 0 ∨ n0 < 0 then ([], 165) else (((fileF E s).2.data.drop at0.toNat).take n0.toNat, 0)
theorem ffread_any (w : World) (fb sb : Nat) (V : OM) (given : Nat) (E : List Nd) (h : FR w fb sb V given E) (hT : Tabs w) (s : List UInt8) (hs : s.length < 4294967281) (at0 n0 : Int) (ha : I64 at0) (hn : I64 n0) :
  Calls Tryz.prog 27 #[Ptr fb, S s, I at0, I n0] w fun e w' => e = .returned (.tuple #[S (readF E s at0 n0).1, I (readF E s at0 n0).2]) ∧ Kept [] w w' := by
 have HF := Lib.hid (ffile_any w fb sb V given E h hT s hs)
 have H := Lib.hid h
 obtain ⟨x, hx⟩ : ∃ x, (fileF E s).2 = x := ⟨_, rfl⟩
 obtain ⟨r, hr⟩ : ∃ r, (fileF E s).1 = r := ⟨_, rfl⟩
 have HX := Lib.hid (And.intro hx hr)
 rw [hx, hr] at HF
 obtain ⟨RS, hRS⟩ : ∃ RS, readF E s at0 n0 = RS := ⟨_, rfl⟩
 have HRS := Lib.hid hRS
 rw [hRS]
 obtain ⟨ha1, ha2⟩ := ha
 obtain ⟨hn1, hn2⟩ := hn
 obtain ⟨L, hL⟩ : ∃ L, x.data.length = L := ⟨_, rfl⟩
 have HLL := Lib.hid hL
 rw [hL] at HF
 clear h hx hr hRS hL hT hs
 go_enter Tryz.func27, Tryz.ntmps27
 go_wp2_with (fail)
 refine HF.out.mono ?_
 rintro e w1 ⟨rfl, k1⟩
 have n1 := heap_new w1 (Obj.cells #[I 0] 78)
 have hk2 := k1.alloc (Obj.cells #[I 0] 78)
 obtain ⟨W2, hW2⟩ : ∃ W2, w1.alloc (Obj.cells #[I 0] 78) = W2 := ⟨_, rfl⟩
 obtain ⟨b, hb⟩ : ∃ b, w1.heap.size = b := ⟨_, rfl⟩
 have hbw : w.heap.size ≤ b := by rw [← hb]; exact k1.size
 rw [hW2] at n1 hk2
 rw [hb] at n1
 have a2 := free_at n1
 have a1 := cell_at n1 0
 simp only [List.getElem?_toArray, List.getElem?_cons_zero] at a1
 obtain ⟨W3, hW3⟩ : ∃ W3, W2.setCell ⟨b, 0, none⟩ (I L) = W3 := ⟨_, rfl⟩
 have b1 : W3.cell? ⟨b, 0, none⟩ = some (I L) := by rw [← hW3, cell_at (heap_setCell_at n1 0 _)]; rfl
 have hk3 : Kept [] w W3 := by rw [← hW3]; exact hk2.setCell (.inr hbw) _
 have HK := Lib.hid hk3
 have HB1 := Lib.hid b1
 clear n1 hk2 k1 hbw hk3 b1
 by_cases hr0 : r = 0
 case neg =>
  have hrb : (r != 0) = true := by simpa using hr0
  have HE : Hid (RS = ([], r)) := Lib.hid (by rw [← HRS.out]; unfold readF; rw [HX.out.2, if_pos hr0])
  clear hr0
  go_wp2_with (first | (simp only [hW2, hW3]; done) | (simp only [hW2, hW3]))
  go_ret2
  exact ⟨by rw [HE.out]; rfl, HK.out⟩
 case pos =>
  subst hr0
  by_cases hneg : at0 < 0
  ·have HE : Hid (RS = ([], 165)) := Lib.hid (by rw [← HRS.out]; unfold readF; rw [HX.out.2, if_neg (by simp), if_pos (.inl hneg)])
   go_wp2_with (first | (simp only [hW2, hW3]; done) | (simp only [hW2, hW3]))
   go_ret2
   exact ⟨by rw [HE.out]; rfl, HK.out⟩
  by_cases hnegn : n0 < 0
  ·have HE : Hid (RS = ([], 165)) := Lib.hid (by rw [← HRS.out]; unfold readF; rw [HX.out.2, if_neg (by simp), if_pos (.inr hnegn)])
   have hnb : decide (at0 < 0) = false := decide_eq_false hneg
   go_wp2_with (first | (simp only [hW2, hW3]; done) | (simp only [hW2, hW3]))
   go_ret2
   exact ⟨by rw [HE.out]; rfl, HK.out⟩
  obtain ⟨A, rfl⟩ : ∃ A : Nat, at0 = A := ⟨at0.toNat, by omega⟩
  obtain ⟨N, rfl⟩ : ∃ N : Nat, n0 = N := ⟨n0.toNat, by omega⟩
  obtain ⟨D, hD⟩ : ∃ D, x.data = D := ⟨_, rfl⟩
  have HE : Hid (RS = ((D.drop A).take N, 0)) := Lib.hid (by rw [← HRS.out]; unfold readF; rw [HX.out.2, if_neg (by simp), if_neg (by omega), HX.out.1, hD]; rfl)
  have hxE : x ∈ E := by
   obtain ⟨p, _, _, _, _, hm⟩ := file_mem (E := E) (s := s) HX.out.2
   rw [HX.out.1] at hm; exact hm
  have hL4 : L ≤ 4096 := by rw [← HLL.out]; exact (H.out.wf.data x hxE).1
  have HCH := Lib.hid (fun W (k : Kept [] w W) i hi => fchunk_any W fb sb V given E (H.out.same k) x hxE i hi)
  rw [hD] at HCH
  have hDL : D.length = L := by rw [← hD]; exact HLL.out
  have HDL := Lib.hid hDL
  obtain ⟨q, hq⟩ : ∃ q, x.num = q := ⟨_, rfl⟩
  rw [hq] at HCH
  have hnb : decide ((A : Int) < 0) = false := decide_eq_false hneg
  have hnb2 : decide ((N : Int) < 0) = false := decide_eq_false hnegn
  have hLI : (L : Int) ≤ 4096 := by omega
  rw [hq]
  clear hD hxE hq hneg hnegn hDL
  go_wp2_with (first | (simp only [hW2, hW3]; done) | (simp only [hW2, hW3]))
  go_loopw [2, 3] (fun v2 v3 wr => ∃ (m a nn : Nat), a = A + m ∧ nn + m = N ∧ v2 = I a ∧ v3 = I nn ∧ (m = 0 ∨ a ≤ L) ∧ Bld W3.heap.size W3.heap.size ((D.drop A).take m) wr ∧ Below W3.heap.size W3 wr) (fun _ v3 _ => (intOf v3).toNat)
  case atStart => exact ⟨0, A, N, by omega, by omega, rfl, rfl, .inl rfl, Lib.IsBuilderF.of (Lib.fresh_isBuilder _ _ W3), (Below.refl _ W3).alloc (Nat.le_refl _) _⟩
  case round =>
   obtain ⟨m, a, nn, ham, hnm, rfl, rfl, hml, hbl, hbe⟩ := hrel
   have kr : Kept [] W3 wr := Kept.of_below0 hbe
   have d1 := kr.cellOf HB1.out
   have hsz := hbe.size
   have HJ := Lib.hid (And.intro hbl (And.intro hbe kr))
   have HHM := Lib.hid (And.intro ham (And.intro hnm hml))
   clear hbl hbe kr
   have hdone : ¬ (a < L ∧ 0 < nn) → RS = ((D.drop A).take m, 0) := fun hcon => by
    rw [HE.out]
    congr 1
    have hl := HDL.out
    by_cases hz : nn = 0
    ·rw [show N = m by omega]
    ·have hal : L ≤ a := by omega
     rcases hml with h0 | h0
     ·rw [List.drop_eq_nil_of_le (by omega)]; simp
     ·rw [List.take_of_length_le (by rw [List.length_drop]; omega), List.take_of_length_le (by rw [List.length_drop]; omega)]
   by_cases h1 : a < L
   case neg =>
    have h1I : ¬ (a : Int) < L := by omega
    have HD2 := Lib.hid (hdone (fun h => h1 h.1))
    clear hdone h1 ham hnm hml
    go_wp2_with (fail)
    refine (bstr W3.heap.size W3.heap.size _ wr HJ.out.1 hsz).mono ?_
    rintro e w3 ⟨rfl, bb, kb⟩
    have KB := Lib.hid kb
    clear bb kb
    go_wp2_with (fail)
    go_ret2
    exact ⟨by rw [HD2.out]; rfl, HK.out.trans' (Kept.of_below0 (HJ.out.2.1.trans KB.out.bel))⟩
   case pos =>
    have h1I : (a : Int) < L := by omega
    by_cases h2 : 0 < nn
    case neg =>
     have h2I : ¬ (0 : Int) < nn := by omega
     have HD2 := Lib.hid (hdone (fun h => h2 h.2))
     clear hdone h1 h2 ham hnm hml
     go_wp2_with (fail)
     refine (bstr W3.heap.size W3.heap.size _ wr HJ.out.1 hsz).mono ?_
     rintro e w3 ⟨rfl, bb, kb⟩
     have KB := Lib.hid kb
     clear bb kb
     go_wp2_with (fail)
     go_ret2
     exact ⟨by rw [HD2.out]; rfl, HK.out.trans' (Kept.of_below0 (HJ.out.2.1.trans KB.out.bel))⟩
    case pos =>
     have h2I : (0 : Int) < nn := by omega
     obtain ⟨i, hi⟩ : ∃ i, a / 128 = i := ⟨_, rfl⟩
     obtain ⟨o, ho⟩ : ∃ o, a % 128 = o := ⟨_, rfl⟩
     have hq1 : (a : Int).tdiv 128 = i := by rw [Int.tdiv_eq_ediv_of_nonneg (by omega)]; omega
     have hq2 : (a : Int) / 128 = i := by omega
     have hr1 : (a : Int).tmod 128 = o := by rw [Int.tmod_eq_emod_of_nonneg (by omega)]; omega
     have hr2 : (a : Int) % 128 = o := by omega
     have HC := Lib.hid (HCH.out wr (HK.out.trans' HJ.out.2.2) i (by omega))
     have hcl := chunk_len D i
     have hcc := chunk_cut D a
     have hdl := HDL.out
     rw [hi, ho] at hcc
     obtain ⟨C, hC⟩ : ∃ C, chunkF D i = C := ⟨_, rfl⟩
     rw [hC] at HC hcl hcc
     have hCl : o < C.length := by rw [hcl, hdl]; omega
     obtain ⟨S1, hS1⟩ : ∃ S1, C.drop o = S1 := ⟨_, rfl⟩
     have hS1l : S1.length = min (128 - o) (L - a) := by rw [← hS1, hcc, List.length_take, List.length_drop, hdl]
     obtain ⟨k, hk⟩ : ∃ k, min nn S1.length = k := ⟨_, rfl⟩
     have hk1 : 1 ≤ k := by omega
     have hkn : k ≤ nn := by omega
     have hks : k ≤ S1.length := by omega
     obtain ⟨S2, hS2⟩ : ∃ S2, S1.take k = S2 := ⟨_, rfl⟩
     have hS2l : S2.length = k := by rw [← hS2, List.length_take]; omega
     have hacc : (D.drop A).take m ++ S2 = (D.drop A).take (m + k) := by
      rw [← hS2, ← hS1, hcc, List.take_take, List.take_add, List.drop_drop, show A + m = a by omega, show min k (128 - o) = k by omega]
     have hmin1 : min (C.length : Int) (o : Int) = (o : Int) := by omega
     have hmin2 : min (nn : Int) (S1.length : Int) = (k : Int) := by omega
     have hoI : (o : Int) ≤ C.length := by omega
     have hkI : (k : Int) ≤ S1.length := by omega
     have hCI : (C.length : Int) ≤ 128 := by omega
     have hSI : (S1.length : Int) ≤ 128 := by omega
     have hS2e : (S2 == []) = false := by cases S2 with | nil => simp at hS2l; omega | cons _ _ => rfl
     have hS2i : S2.isEmpty = false := by cases S2 with | nil => simp at hS2l; omega | cons _ _ => rfl
     have hS2I : (S2.length : Int) = k := by omega
     have hknI : (k : Int) ≤ nn := by omega
     have hk128 : (k : Int) ≤ 128 := by omega
     have HM := Lib.hid (And.intro hacc (And.intro hk1 (And.intro hkn (And.intro hS2l (And.intro hS1l hk)))))
     have hnnI : (nn : Int) ≤ 9223372036854775807 := by omega
     clear hi ho hcl hcc hC hS1l hk hk1 hkn hks hacc hdone h1 h2 ham hnm hml hdl hCl hS2l
     go_wp2_with (fail)
     refine HC.out.mono ?_
     rintro e w4 ⟨rfl, k4⟩
     have hb4 := HJ.out.1.same k4
     have d4 := k4.cellOf d1
     have hsz4 := k4.size
     have K4 := Lib.hid (And.intro hb4 k4)
     clear k4 hb4
     go_wp2_with (fail)
     refine (wstr W3.heap.size W3.heap.size _ S2 w4 K4.out.1 (by rw [List.length_take, List.length_drop, HDL.out]; omega) (by omega)).mono ?_
     rintro e w5 ⟨rfl, b5, k5⟩
     have K5 := Lib.hid (And.intro b5 k5)
     clear b5 k5
     go_wp2_with (fail)
     go_roundw
     case rel =>
      obtain ⟨hacc, hk1, hkn, hS2l, hS1l, hk⟩ := HM.out
      obtain ⟨ham, hnm, hml⟩ := HHM.out
      refine ⟨m + k, a + k, nn - k, by omega, by omega, by go_num, by go_num, .inr (by omega), ?_, ?_⟩
      ·rw [← hacc]; exact K5.out.1
      ·exact (HJ.out.2.1.trans (Below.mono K4.out.2.below (by omega))).trans K5.out.2.bel
     case measure => simp [intOf]; have := HM.out; omega
end Go.Proofs.YteplbljjlbdhaaaGreatDoor
