/- Walks and lemmas on the program of this seat, used by its statements; each theorem bears its own conditions. -/
import Derived.Test.YteplbljjlbdhaaaGreatDoorZ17
import Derived.Test.YteplbljjlbdhaaaGreatDoorZ12
namespace Go.Proofs.YteplbljjlbdhaaaGreatDoor
open Go.RowKit
set_option linter.unusedVariables false
set_option linter.unusedSimpArgs false
set_option linter.unusedSectionVars false
set_option maxHeartbeats 16000000
set_option maxRecDepth 100000
structure KS extends St where
 lu : Nat
def fitsK (st : KS) (l : List Ch) : Prop := st.lu + pgs l ≤ 7
instance (st : KS) (l : List Ch) : Decidable (fitsK st l) := by unfold fitsK; exact inferInstance
def newS (st : St) : St := { D := st.D, init := st.init ++ [st.last], last := [], M := st.M }
def appK (st : KS) (l : List Ch) : KS :=
 if fitsK st l then ⟨{ D := st.D, init := st.init, last := st.last ++ [l], M := takesF st.M l st.num st.last.length }, st.lu + pgs l⟩
 else ⟨{ D := st.D, init := st.init ++ [st.last], last := [l], M := takesF st.M l (st.num + 1) 0 }, pgs l⟩
structure InvK (n : Nat) (st : KS) : Prop where
 inv : InvS n st.toSt
 used : usedS st.last ≤ st.lu
 seven : st.lu ≤ 7
section
variable {st : KS} {l : List Ch}
theorem appK_fit (h : fitsK st l) : appK st l = ⟨{ D := st.D, init := st.init, last := st.last ++ [l], M := takesF st.M l st.num st.last.length }, st.lu + pgs l⟩ := by unfold appK; rw [if_pos h]
theorem appK_new (h : ¬ fitsK st l) : appK st l = ⟨{ D := st.D, init := st.init ++ [st.last], last := [l], M := takesF st.M l (st.num + 1) 0 }, pgs l⟩ := by unfold appK; rw [if_neg h]
theorem newS_num (st : St) : (newS st).num = st.num + 1 := by unfold newS St.num; simp; omega
theorem newS_fits {st : St} {l : List Ch} (h : pgs l ≤ 7) : fitsS (newS st) l := by unfold fitsS newS; simp only [usedS]; omega
theorem appK_fitS (h : fitsK st l) (hu : usedS st.last ≤ st.lu) : (appK st l).toSt = appS st.toSt l := by
 rw [appK_fit h, appS_fit (show usedS st.last + pgs l ≤ 7 by unfold fitsK at h; omega)]
theorem appK_newS (h : ¬ fitsK st l) (h7 : pgs l ≤ 7) : (appK st l).toSt = appS (newS st.toSt) l := by
 rw [appK_new h, appS_fit (newS_fits h7), newS_num]
 rfl
theorem appK_D : (appK st l).D = st.D := by unfold appK; split <;> rfl
def putSegK (st : KS) (l : List Ch) : Nat := if fitsK st l then st.num else st.num + 1
def putPosK (st : KS) (l : List Ch) : Nat := if fitsK st l then st.last.length else 0
theorem appK_M : (appK st l).M = takesF st.M l (putSegK st l) (putPosK st l) := by unfold appK putSegK putPosK; split <;> rfl
end
theorem newS_rec {st : St} {s a : Nat} {m : List Ch} (h : RecAt st s a m) : RecAt (newS st) s a m := by
 obtain ⟨j, rs, h1, h2, h3⟩ := h
 refine ⟨j, rs, ?_, h2, h3⟩
 show (st.segs ++ [[]])[j]? = some rs
 rw [List.getElem?_append_left (List.getElem?_eq_some_iff.1 h1).1]
 exact h1
theorem newS_replay {st : St} (h : ReplayS st) : ReplayS (newS st) := by
 show repS (st.D + 1) ((st.init ++ [st.last]) ++ [[]]) [] = st.M
 rw [repS_snoc]
 exact h
theorem newS_inv {n : Nat} {st : St} (h : InvS n st) (hroom : st.init.length + 2 ≤ n) : InvS n (newS st) := by
 refine ⟨by unfold newS; simp; omega, fun rs hrs => ?_, h.sorted, fun k o hk => ?_, newS_replay h.rep⟩
 ·have e : (newS st).segs = st.segs ++ [[]] := rfl
  rw [e] at hrs
  rcases List.mem_append.1 hrs with hrs | hrs
  ·exact h.recs rs hrs
  ·rw [List.mem_singleton.1 hrs]
   exact ⟨by simp [usedS], by simp⟩
 ·obtain ⟨m, hm, hin⟩ := h.placed k o hk
  exact ⟨m, newS_rec hm, hin⟩
theorem appK_inv {n : Nat} {st : KS} {l : List Ch} (h : InvK n st) (hl : FormC l) (hroom : ¬ fitsK st l → st.init.length + 2 ≤ n) : InvK n (appK st l) := by
 have h7 := pgs_le7 hl
 by_cases hf : fitsK st l
 ·have hfs : fitsS st.toSt l := by have := h.used; unfold fitsK at hf; unfold fitsS; omega
  refine ⟨?_, ?_, ?_⟩
  ·rw [appK_fitS hf h.used]
   exact appS_inv h.inv hl (fun hn => absurd hfs hn)
  ·rw [appK_fit hf]
   show usedS (st.last ++ [l]) ≤ st.lu + pgs l
   rw [usedS_snoc]
   have := h.used
   omega
  ·rw [appK_fit hf]; exact hf
 ·refine ⟨?_, ?_, ?_⟩
  ·rw [appK_newS hf h7]
   exact appS_inv (newS_inv h.inv (hroom hf)) hl (fun hn => absurd (newS_fits h7) hn)
  ·rw [appK_new hf]
   show pgs l + 0 ≤ pgs l
   omega
  ·rw [appK_new hf]; exact h7
theorem appK_same {n : Nat} {st : KS} {l : List Ch} (h : InvK n st) (hl : FormC l) (hk : ∀ c ∈ l, c.drop = false ∧ valM st.M c.key = some c.val) : ∀ k, valM (appK st l).M k = valM st.M k := by
 intro k
 rw [appK_M]
 by_cases hc : ∃ c ∈ l, c.key = k
 ·obtain ⟨c, hc, rfl⟩ := hc
  unfold valM
  rw [takes_find _ _ l hl.1 c hc h.inv.sorted, (hk c hc).1]
  exact (hk c hc).2.symm
 ·unfold valM
  rw [takes_other _ _ l k (fun c hcm he => hc ⟨c, hcm, he⟩) h.inv.sorted]
def cleanRK (num : Nat) : List (List Ch) → Nat → KS → KS
 | [], _, st => st
 | r :: rs, i, st => cleanRK num rs (i + 1) (if r.filter (keepC st.M num i) = [] then st else appK st (r.filter (keepC st.M num i)))
def cleanIK (st : KS) (rs : List (List Ch)) (i : Nat) : KS := cleanRK (st.D + 1) (rs.take i) 0 st
def dropK (st : KS) : KS := ⟨{ D := st.D + 1, init := st.init.tail, last := st.last, M := st.M }, st.lu⟩
def cleanK (st : KS) : KS := dropK (cleanIK st (st.init.headD []) (st.init.headD []).length)
structure FreshK (st : KS) (m U : Nat) : Prop where
 few : m ≤ st.init.length
 live : U ≤ sumA (liveW (st.num + 1 - m)) st.M
 none : m = 0 → U = 0
 pair : 1 ≤ m → 8 * (m - 1) + st.lu ≤ 2 * U
def BackK (n : Nat) (st : KS) (V : OM) : Prop := ∃ kb : KS, InvK n kb ∧ kb.D = st.D ∧ kb.segs = st.init ∧ ∀ k, valM kb.M k = valM V k
structure CIK (n : Nat) (st0 : KS) (rs0 : List (List Ch)) (m0 : Nat) (i : Nat) (b : List (List Ch)) (st : KS) (m U : Nat) : Prop where
 inv : InvK n st
 d : st.D = st0.D
 head : ∃ t, st.init = rs0 :: t
 way : (st.init.length = st0.init.length ∧ m = m0) ∨ (st.init.length = st0.init.length + 1 ∧ m = m0 + 1 ∧ st.lu + usedS b ≤ 7 ∧ BackK n st st0.M)
 same : ∀ k, valM st.M k = valM st0.M k
 behind : ∀ k o, findA st.M k = some o → o.seg = st.D + 1 → i ≤ o.pos
 fresh : FreshK st m U
theorem keep_specK {n : Nat} {st0 : KS} {rs0 : List (List Ch)} {m0 i : Nat} {r : List Ch} {b : List (List Ch)} {st : KS} {m U : Nat} (h : CIK n st0 rs0 m0 i (r :: b) st m U) (hi : rs0[i]? = some r) :
  (∀ c ∈ r.filter (keepC st.M (st.D + 1) i), c ∈ r ∧ c.drop = false ∧ valM st.M c.key = some c.val ∧ ∃ o, findA st.M c.key = some o ∧ o.seg = st.D + 1) ∧
  (∀ k o, findA st.M k = some o → o.seg = st.D + 1 → o.pos = i → ∃ c ∈ r.filter (keepC st.M (st.D + 1) i), c.key = k) := by
 obtain ⟨t, ht⟩ := h.head
 have hrs := h.inv.inv.recs rs0 (by simp [St.segs, ht])
 have hf : FormC r := hrs.2 r (List.mem_of_getElem? hi)
 constructor
 ·intro c hc
  obtain ⟨hcr, hk⟩ := List.mem_filter.1 hc
  unfold keepC at hk
  cases ho : findA st.M c.key with
  | none => rw [ho] at hk; simp at hk
  | some o =>
   rw [ho] at hk
   simp only [Bool.and_eq_true, Bool.not_eq_true', beq_iff_eq] at hk
   obtain ⟨hd, hs, hp⟩ := hk
   obtain ⟨l, hl, hin⟩ := h.inv.inv.placed _ _ ho
   rw [hs, hp] at hl
   have := recAt_one ht hl
   rw [hi] at this
   cases this
   have he := rises_same hf.1 hcr hin rfl
   refine ⟨hcr, hd, ?_, o, rfl, hs⟩
   unfold valM
   rw [ho]
   show some o.val = some c.val
   rw [he]
 ·intro k o ho hs hp
  obtain ⟨l, hl, hin⟩ := h.inv.inv.placed _ _ ho
  rw [hs, hp] at hl
  have := recAt_one ht hl
  rw [hi] at this
  cases this
  refine ⟨_, List.mem_filter.2 ⟨hin, ?_⟩, rfl⟩
  unfold keepC
  simp only [ho]
  simp [hs, hp]
theorem clean_stepK {n : Nat} {st0 : KS} {rs0 : List (List Ch)} {m0 i : Nat} {r : List Ch} {b : List (List Ch)} {st : KS} {m U : Nat} (h0 : st0.init.length + 2 ≤ n) (h : CIK n st0 rs0 m0 i (r :: b) st m U) (hi : rs0[i]? = some r) (hu : usedS (r :: b) ≤ 7) (hm : m ≤ st.init.length) :
  (r.filter (keepC st.M (st.D + 1) i) ≠ [] → FormC (r.filter (keepC st.M (st.D + 1) i)) ∧ (¬ fitsK st (r.filter (keepC st.M (st.D + 1) i)) → st.init.length + 2 ≤ n)) ∧
  ∃ m' U', CIK n st0 rs0 m0 (i + 1) b (if r.filter (keepC st.M (st.D + 1) i) = [] then st else appK st (r.filter (keepC st.M (st.D + 1) i))) m' U' := by
 obtain ⟨hk1, hk2⟩ := keep_specK h hi
 obtain ⟨t, ht⟩ := h.head
 have hrs := h.inv.inv.recs rs0 (by simp [St.segs, ht])
 have hf : FormC r := hrs.2 r (List.mem_of_getElem? hi)
 obtain ⟨k, hkd⟩ : ∃ k, r.filter (keepC st.M (st.D + 1) i) = k := ⟨_, rfl⟩
 have hfk : FormC k := by rw [← hkd]; exact formC_sub List.filter_sublist hf
 have hpk : pgs k ≤ pgs r := by rw [← hkd]; exact pages_mono (recF_sub List.filter_sublist)
 rw [hkd] at hk1 hk2 ⊢
 have hur : pgs r + usedS b ≤ 7 := hu
 have hroom : ¬ fitsK st k → st.init.length + 2 ≤ n := by
  intro hnf
  rcases h.way with ⟨w1, _⟩ | ⟨_, _, w3, _⟩
  ·omega
  ·exfalso
   apply hnf
   unfold fitsK
   have : usedS (r :: b) = pgs r + usedS b := rfl
   omega
 refine ⟨fun _ => ⟨hfk, hroom⟩, ?_⟩
 by_cases hke : k = []
 ·rw [if_pos hke]
  refine ⟨m, U, h.inv, h.d, h.head, ?_, h.same, ?_, h.fresh⟩
  ·rcases h.way with w | ⟨w1, w2, w3, w4⟩
   ·exact .inl w
   ·refine .inr ⟨w1, w2, ?_, w4⟩
    have : usedS (r :: b) = pgs r + usedS b := rfl
    omega
  ·intro kk o ho hs
   have h1 := h.behind kk o ho hs
   apply Decidable.byContradiction
   intro hlt
   obtain ⟨c, hc, _⟩ := hk2 kk o ho hs (by omega)
   rw [hke] at hc
   cases hc
 ·rw [if_neg hke]
  have hnum : st.num = st.D + st.init.length + 1 := rfl
  have hpos : 1 ≤ st.init.length := by rw [ht]; simp
  have hinv := appK_inv h.inv hfk hroom
  have hsame := appK_same h.inv hfk (fun c hc => ⟨(hk1 c hc).2.1, (hk1 c hc).2.2.1⟩)
  have hseg : st.D + 1 < putSegK st k := by unfold putSegK; split <;> omega
  have hbehind : ∀ kk o, findA (appK st k).M kk = some o → o.seg = (appK st k).D + 1 → i + 1 ≤ o.pos := by
   intro kk o ho hs
   rw [appK_D] at hs
   rw [appK_M] at ho
   by_cases hc : ∃ c ∈ k, c.key = kk
   ·obtain ⟨c, hc, rfl⟩ := hc
    rw [takes_find _ _ k hfk.1 c hc h.inv.inv.sorted, (hk1 c hc).2.1] at ho
    cases ho
    simp only at hs
    omega
   ·rw [takes_other _ _ k kk (fun c hcm he => hc ⟨c, hcm, he⟩) h.inv.inv.sorted] at ho
    have h1 := h.behind kk o ho hs
    apply Decidable.byContradiction
    intro hlt
    exact hc (hk2 kk o ho hs (by omega))
  have hlive : ∀ s, st.D + 1 < s → sumA (liveW s) (appK st k).M = sumA (liveW s) st.M + (if s ≤ putSegK st k then sumC k else 0) := by
   intro s hs
   rw [appK_M]
   exact takes_live s _ _ k hfk.1 h.inv.inv.sorted (fun c hc => ⟨(hk1 c hc).2.1, by obtain ⟨o, q1, q2⟩ := (hk1 c hc).2.2.2; exact ⟨o, q1, by omega⟩⟩)
  have hw := pgs_le k (fun c hc => (hk1 c hc).2.1) hke
  have hfr := h.fresh
  by_cases hfit : fitsK st k
  ·have e := appK_fit hfit
   have hput : putSegK st k = st.num := by unfold putSegK; rw [if_pos hfit]
   have hlast : (appK st k).lu = st.lu + pgs k := by rw [e]
   have hnum' : (appK st k).num = st.num := by rw [e]; rfl
   refine ⟨m, if m = 0 then 0 else U + pgs k, hinv, appK_D.trans h.d, ⟨t, by rw [e]; exact ht⟩, ?_, fun kk => (hsame kk).trans (h.same kk), hbehind, ?_⟩
   ·rcases h.way with ⟨w1, w2⟩ | ⟨w1, w2, w3, kb, w4, w5, w6, w7⟩
    ·exact .inl ⟨by rw [e]; exact w1, w2⟩
    ·refine .inr ⟨by rw [e]; exact w1, w2, ?_, kb, w4, by rw [appK_D]; exact w5, by rw [e]; exact w6, w7⟩
     rw [hlast]
     have : usedS (r :: b) = pgs r + usedS b := rfl
     omega
   ·by_cases hm0 : m = 0
    ·rw [if_pos hm0]
     exact ⟨by rw [e]; exact hm, by omega, fun _ => rfl, fun hh => by omega⟩
    ·rw [if_neg hm0]
     refine ⟨by rw [e]; exact hm, ?_, fun hh => absurd hh hm0, fun hh => ?_⟩
     ·rw [hnum', hlive _ (by omega), if_pos (by rw [hput]; omega)]
      have := hfr.live
      omega
     ·rw [hlast]
      have := hfr.pair hh
      omega
  ·have e := appK_new hfit
   have hput : putSegK st k = st.num + 1 := by unfold putSegK; rw [if_neg hfit]
   have hlast : (appK st k).lu = pgs k := by rw [e]
   have hnum' : (appK st k).num = st.num + 1 := by rw [e]; unfold St.num; simp; omega
   have hil : (appK st k).init.length = st.init.length + 1 := by rw [e]; simp
   have hnf : 7 < st.lu + pgs k := by unfold fitsK at hfit; omega
   refine ⟨m + 1, U + pgs k, hinv, appK_D.trans h.d, ⟨t ++ [st.last], by rw [e]; show st.init ++ _ = _; rw [ht]; rfl⟩, ?_, fun kk => (hsame kk).trans (h.same kk), hbehind, ?_⟩
   ·rcases h.way with ⟨w1, w2⟩ | ⟨w1, w2, w3, _⟩
    ·exact .inr ⟨by omega, by omega, by rw [hlast]; omega, st, h.inv, appK_D.symm, by rw [e]; rfl, h.same⟩
    ·exfalso
     have : usedS (r :: b) = pgs r + usedS b := rfl
     omega
   ·refine ⟨by omega, ?_, fun hh => by omega, fun _ => ?_⟩
    ·rw [hnum', hlive _ (by omega), if_pos (by rw [hput]; omega)]
     have := hfr.live
     rw [show st.num + 1 + 1 - (m + 1) = st.num + 1 - m by omega]
     omega
    ·rw [hlast]
     by_cases hm0 : m = 0
     ·have := hfr.none hm0
      subst hm0
      omega
     ·have := hfr.pair (by omega)
      omega
theorem fresh_fewK {n : Nat} {st : KS} {m U : Nat} (h : FreshK st m U) (hn : 8 ≤ n) (hw : sumA wO st.M ≤ 7 * (n - 4) / 2) : m ≤ n - 4 := by
 by_cases hm : m = 0
 ·omega
 ·have h1 := h.pair (by omega)
  have h2 := h.live
  have h3 := live_le (st.num + 1 - m) st.M
  omega
structure CleanPreK (n : Nat) (st : KS) (m U : Nat) : Prop where
 inv : InvK n st
 eight : 8 ≤ n
 free : st.init.length + 2 = n
 fresh : FreshK st m U
 quota : sumA wO st.M ≤ 7 * (n - 4) / 2
theorem cleanRK_append (num : Nat) (a b : List (List Ch)) : ∀ (i : Nat) (st : KS), cleanRK num (a ++ b) i st = cleanRK num b (i + a.length) (cleanRK num a i st) := by
 induction a with
 | nil => intro i st; rfl
 | cons r a ih =>
  intro i st
  show cleanRK num (a ++ b) (i + 1) _ = _
  rw [ih]
  show cleanRK num b (i + 1 + a.length) _ = cleanRK num b (i + (a.length + 1)) _
  rw [show i + 1 + a.length = i + (a.length + 1) by omega]
  rfl
theorem cleanIK_succ (st : KS) (rs : List (List Ch)) (i : Nat) (r : List Ch) (h : rs[i]? = some r) :
  cleanIK st rs (i + 1) = (if r.filter (keepC (cleanIK st rs i).M (st.D + 1) i) = [] then cleanIK st rs i else appK (cleanIK st rs i) (r.filter (keepC (cleanIK st rs i).M (st.D + 1) i))) := by
 have hlt := (List.getElem?_eq_some_iff.1 h).1
 have e : rs.take (i + 1) = rs.take i ++ [r] := by rw [List.take_add_one, h]; rfl
 unfold cleanIK
 rw [e, cleanRK_append, List.length_take, Nat.min_eq_left (by omega), Nat.zero_add]
 rfl
theorem clean_atK {n : Nat} {st : KS} {m U : Nat} (h : CleanPreK n st m U) {rs0 : List (List Ch)} {t : List (List (List Ch))} (ht : st.init = rs0 :: t) : ∀ i, i ≤ rs0.length → ∃ m' U', CIK n st rs0 m i (rs0.drop i) (cleanIK st rs0 i) m' U' := by
 intro i
 induction i with
 | zero =>
  intro _
  exact ⟨m, U, ⟨h.inv, rfl, ⟨t, ht⟩, .inl ⟨rfl, rfl⟩, fun _ => rfl, fun _ _ _ _ => Nat.zero_le _, h.fresh⟩⟩
 | succ i ih =>
  intro hi
  obtain ⟨m1, U1, hc⟩ := ih (by omega)
  have hr : rs0[i]? = some rs0[i] := List.getElem?_eq_getElem (by omega)
  have hd : rs0.drop i = rs0[i] :: rs0.drop (i + 1) := List.drop_eq_getElem_cons (by omega)
  rw [hd] at hc
  have hu0 := (h.inv.inv.recs rs0 (by simp [St.segs, ht])).1
  have hu : usedS (rs0[i] :: rs0.drop (i + 1)) ≤ 7 := by
   rw [← hd]
   have := usedS_append (rs0.take i) (rs0.drop i)
   rw [List.take_append_drop] at this
   omega
  have hcd := hc.d
  obtain ⟨_, m2, U2, hs⟩ := clean_stepK (Nat.le_of_eq h.free) hc hr hu hc.fresh.few
  rw [hcd] at hs
  rw [cleanIK_succ st rs0 i _ hr]
  exact ⟨m2, U2, hs⟩
theorem clean_mayK {n : Nat} {st : KS} {m U : Nat} (h : CleanPreK n st m U) {rs0 : List (List Ch)} {t : List (List (List Ch))} (ht : st.init = rs0 :: t) (i : Nat) (r : List Ch) (hr : rs0[i]? = some r) :
  InvK n (cleanIK st rs0 i) ∧ (cleanIK st rs0 i).D = st.D ∧ (∃ t', (cleanIK st rs0 i).init = rs0 :: t') ∧ (r.filter (keepC (cleanIK st rs0 i).M (st.D + 1) i) ≠ [] → FormC (r.filter (keepC (cleanIK st rs0 i).M (st.D + 1) i)) ∧ (¬ fitsK (cleanIK st rs0 i) (r.filter (keepC (cleanIK st rs0 i).M (st.D + 1) i)) → (cleanIK st rs0 i).init.length + 2 ≤ n)) := by
 have hlt := (List.getElem?_eq_some_iff.1 hr).1
 obtain ⟨m1, U1, hc⟩ := clean_atK h ht i (by omega)
 have hd : rs0.drop i = rs0[i] :: rs0.drop (i + 1) := List.drop_eq_getElem_cons (by omega)
 have hr2 : rs0[i] = r := (List.getElem?_eq_some_iff.1 hr).2
 rw [hd, hr2] at hc
 have hu0 := (h.inv.inv.recs rs0 (by simp [St.segs, ht])).1
 have hu : usedS (r :: rs0.drop (i + 1)) ≤ 7 := by
  rw [← hr2, ← hd]
  have := usedS_append (rs0.take i) (rs0.drop i)
  rw [List.take_append_drop] at this
  omega
 have hcd := hc.d
 have hs := (clean_stepK (Nat.le_of_eq h.free) hc hr hu hc.fresh.few).1
 rw [hcd] at hs
 exact ⟨hc.inv, hcd, hc.head, hs⟩
theorem drop_invK {n : Nat} {s1 : KS} {rs0 : List (List Ch)} {t' : List (List (List Ch))} (ht' : s1.init = rs0 :: t') (h : InvK n s1) (hb : ∀ k o, findA s1.M k = some o → o.seg = s1.D + 1 → rs0.length ≤ o.pos) : InvK n (dropK s1) := by
 have hil : s1.init.length = t'.length + 1 := by rw [ht']; rfl
 refine ⟨⟨?_, ?_, h.inv.sorted, ?_, ?_⟩, h.used, h.seven⟩
 ·have := h.inv.few
  show s1.init.tail.length + 1 ≤ n
  simp; omega
 ·intro rs hrs
  apply h.inv.recs
  have hrs : rs ∈ s1.init.tail ++ [s1.last] := hrs
  simp only [St.segs, List.mem_append, ht', List.tail_cons] at hrs ⊢
  rcases hrs with hrs | hrs
  ·exact .inl (List.mem_cons_of_mem _ hrs)
  ·exact .inr hrs
 ·intro k o ho
  have ho : findA s1.M k = some o := ho
  obtain ⟨l, ⟨j, rs, h1, h2, h3⟩, hin⟩ := h.inv.placed k o ho
  cases j with
  | zero =>
   exfalso
   have hb := hb k o ho (by omega)
   unfold St.segs at h1
   rw [ht'] at h1
   have : rs0 = rs := by simpa using h1
   rw [← this] at h3
   have := (List.getElem?_eq_some_iff.1 h3).1
   omega
  | succ j =>
   refine ⟨l, ⟨j, rs, ?_, ?_, h3⟩, hin⟩
   ·unfold St.segs at h1
    rw [ht'] at h1
    show (s1.init.tail ++ [s1.last])[j]? = some rs
    rw [ht']
    simpa using h1
   ·show o.seg = s1.D + 1 + j + 1
    omega
 ·have hsegs : s1.segs = rs0 :: (t' ++ [s1.last]) := by unfold St.segs; rw [ht']; rfl
  have hr1 := h.inv.rep
  unfold ReplayS at hr1 ⊢
  rw [hsegs] at hr1
  show repS (s1.D + 1 + 1) (s1.init.tail ++ [s1.last]) [] = s1.M
  rw [ht']
  refine replay_drop (rs := rs0) (fun r hr l hl => ?_) hr1 (fun k o ho hseg => ?_)
  ·exact ((h.inv.recs r (by rw [hsegs]; exact hr)).2 l hl).1
  ·obtain ⟨l, ⟨j, rs, h1, h2, h3⟩, hin⟩ := h.inv.placed k o ho
   have hj : j = 0 := by omega
   subst hj
   have hb := hb k o ho (by omega)
   rw [hsegs] at h1
   have : rs0 = rs := by simpa using h1
   rw [← this] at h3
   have := (List.getElem?_eq_some_iff.1 h3).1
   omega
theorem clean_allK {n : Nat} {st : KS} {m U : Nat} (h : CleanPreK n st m U) {rs0 : List (List Ch)} {t : List (List (List Ch))} (ht : st.init = rs0 :: t) :
  InvK n (cleanK st) ∧ (cleanK st).D = st.D + 1 ∧ (cleanK st).init.length + 2 ≤ n ∧ (∀ k, valM (cleanK st).M k = valM st.M k) ∧
  ((cleanK st).init.length + 3 ≤ n ∨ ∃ U', CleanPreK n (cleanK st) (m + 1) U' ∧ m + 1 ≤ n - 4) := by
 obtain ⟨m1, U1, hc⟩ := clean_atK h ht rs0.length (Nat.le_refl _)
 have e : cleanK st = dropK (cleanIK st rs0 rs0.length) := by unfold cleanK; rw [ht]; rfl
 obtain ⟨s1, hs1⟩ : ∃ s1, cleanIK st rs0 rs0.length = s1 := ⟨_, rfl⟩
 rw [hs1] at hc e
 obtain ⟨t', ht'⟩ := hc.head
 have hil : s1.init.length = t'.length + 1 := by rw [ht']; rfl
 have hd := hc.d
 have hinv : InvK n (cleanK st) := by rw [e]; exact drop_invK ht' hc.inv hc.behind
 have hval : ∀ k, valM (cleanK st).M k = valM st.M k := by rw [e]; exact hc.same
 have hw : sumA wO (cleanK st).M ≤ 7 * (n - 4) / 2 := by rw [weight_same hinv.inv.sorted h.inv.inv.sorted hval]; exact h.quota
 have hlen : (cleanK st).init.length = t'.length := by rw [e]; show s1.init.tail.length = _; rw [ht']; rfl
 have hfree := h.free
 have hw1 : sumA wO s1.M ≤ 7 * (n - 4) / 2 := by rw [weight_same hc.inv.inv.sorted h.inv.inv.sorted hc.same]; exact h.quota
 have hm4 := fresh_fewK hc.fresh h.eight hw1
 have h8 := h.eight
 refine ⟨hinv, by rw [e]; show s1.D + 1 = _; rw [hd], ?_, hval, ?_⟩
 ·rcases hc.way with ⟨w1, _⟩ | ⟨w1, _⟩ <;> omega
 ·rcases hc.way with ⟨w1, _⟩ | ⟨w1, w2, _⟩
  ·left; omega
  ·right
   subst w2
   refine ⟨U1, ⟨hinv, h.eight, by omega, ⟨by omega, ?_, hc.fresh.none, ?_⟩, hw⟩, hm4⟩
   ·have := hc.fresh.live
    have e1 : (cleanK st).num = s1.num := by
     unfold St.num
     rw [hlen, e]
     show s1.D + 1 + _ + 1 = s1.D + s1.init.length + 1
     omega
    rw [e1, e]
    exact this
   ·rw [e]; exact hc.fresh.pair
def HeadB (num : Nat) (B : List UInt8) : Prop := B.take 64 = headL num
def FlX (n : Nat) (f : Fl) (st : KS) (x : Bool) : Prop := ∀ j, j < n →
 match st.segs[j]? with
 | some rs => ∃ u, SegIs (st.D + j + 1) (rs.map recF) u (blockOf f.bs (1 + (st.D + j) % n)) ∧ (j = st.init.length → u = st.lu)
 | none => JunkB (blockOf f.bs (1 + (st.D + j) % n)) ∨ (x = true ∧ j = st.init.length + 1 ∧ j + 1 = n ∧ HeadB (st.D + j + 1) (blockOf f.bs (1 + (st.D + j) % n)))
theorem flX_seg {n : Nat} {f : Fl} {st : KS} {x : Bool} (h : FlX n f st x) {j : Nat} (hj : j < n) {rs : List (List Ch)} (hr : st.segs[j]? = some rs) : ∃ u, SegIs (st.D + j + 1) (rs.map recF) u (blockOf f.bs (1 + (st.D + j) % n)) ∧ (j = st.init.length → u = st.lu) := by
 have := h j hj
 rw [hr] at this
 exact this
theorem flX_last {n : Nat} {f : Fl} {st : KS} {x : Bool} (h : FlX n f st x) (hn : st.init.length < n) : SegIs (st.D + st.init.length + 1) (st.last.map recF) st.lu (blockOf f.bs (1 + (st.D + st.init.length) % n)) := by
 obtain ⟨u, h1, h2⟩ := flX_seg h hn (segs_last st.toSt)
 rw [h2 rfl] at h1
 exact h1
theorem flX_free {n : Nat} {f : Fl} {st : KS} (h : FlX n f st false) {j : Nat} (hj : j < n) (hr : st.init.length < j) : JunkB (blockOf f.bs (1 + (st.D + j) % n)) := by
 have := h j hj
 rw [List.getElem?_eq_none (by rw [segs_len]; omega)] at this
 rcases this with this | ⟨e, _⟩
 ·exact this
 ·cases e
theorem flX_weak {n : Nat} {f : Fl} {st : KS} (h : FlX n f st false) : FlX n f st true := by
 intro j hj
 have h1 := h j hj
 cases hs : st.segs[j]? with
 | some rs => rw [hs] at h1; exact h1
 | none =>
  rw [hs] at h1
  rcases h1 with h1 | ⟨e, _⟩
  ·exact .inl h1
  ·cases e
theorem flX_oth {n D J j : Nat} {f g : Fl} (ho : Others (1 + (D + J) % n) f g) (hlen : 512 * (1 + n) ≤ f.bs.length) (hj : j < n) (hJ : J < n) (hne : j ≠ J) : blockOf g.bs (1 + (D + j) % n) = blockOf f.bs (1 + (D + j) % n) := by
 have hm := Nat.mod_lt (D + j) (by omega : 0 < n)
 have := mod_ne (D := D) hj hJ hne
 exact ho _ (by omega) (by omega)
theorem seg_used {num u : Nat} {rs : List (List UInt8)} {B : List UInt8} (h : SegIs num rs u B) : usedF rs ≤ u ∧ u ≤ 7 := by
 obtain ⟨l, h1, h2, h3, h4, h5⟩ := h.ex
 refine ⟨?_, h4⟩
 rw [← h2, ← h3]
 clear h2 h3 h5 h4 h1
 induction l with
 | nil => exact Nat.le_refl _
 | cons x l ih =>
  cases x with
  | whole r => show usedF ([r] ++ itsR l) ≤ pagesF r.length + itsP l; rw [List.singleton_append]; simp only [usedF]; omega
  | junk g => show usedF ([] ++ itsR l) ≤ 1 + itsP l; rw [List.nil_append]; omega
theorem segIs_cut {num u : Nat} {rs : List (List UInt8)} {B P : List UInt8} (h : SegIs num rs u B) (hP : B = P ++ List.replicate (64 * (7 - u)) 255) : P.length = 64 * (1 + u) := by
 have h1 := h.len
 have h2 := (seg_used h).2
 rw [hP, List.length_append, List.length_replicate] at h1
 omega
theorem flX_newest {n : Nat} {f g : Fl} {st : KS} {x : Bool} (h : FlX n f st x) (hn : st.init.length < n) (hlen : 512 * (1 + n) ≤ f.bs.length) (ho : Others (1 + (st.D + st.init.length) % n) f g) (last : List (List Ch)) (M : OM) (lu : Nat)
  (hb : SegIs (st.D + st.init.length + 1) (last.map recF) lu (blockOf g.bs (1 + (st.D + st.init.length) % n))) : FlX n g ⟨{ D := st.D, init := st.init, last := last, M := M }, lu⟩ x := by
 intro j hj
 show match (st.init ++ [last])[j]? with | some rs => _ | none => _
 by_cases hji : j = st.init.length
 ·subst hji
  rw [List.getElem?_append_right (Nat.le_refl _), Nat.sub_self]
  exact ⟨lu, hb, fun _ => rfl⟩
 ·have h1 := h j hj
  rw [← flX_oth ho hlen hj hn hji] at h1
  unfold St.segs at h1
  by_cases hlt : j < st.init.length
  ·rw [List.getElem?_append_left hlt] at h1 ⊢
   cases hs : st.init[j]? with
   | none => exact absurd (List.getElem?_eq_none_iff.1 hs) (by omega)
   | some rs =>
    rw [hs] at h1
    obtain ⟨u, h2, _⟩ := h1
    exact ⟨u, h2, fun e => absurd e hji⟩
  ·rw [List.getElem?_eq_none (by simp; omega)] at h1 ⊢
   exact h1
theorem flX_made {n : Nat} {f g : Fl} {st : KS} (h : FlX n f st false) (hn : st.init.length + 1 < n) (hlen : 512 * (1 + n) ≤ f.bs.length) (ho : Others (1 + (st.D + (st.init.length + 1)) % n) f g)
  (hb : blockOf g.bs (1 + (st.D + (st.init.length + 1)) % n) = newB (st.num + 1)) : FlX n g ⟨newS st.toSt, 0⟩ false := by
 intro j hj
 show match ((st.init ++ [st.last]) ++ [[]])[j]? with | some rs => _ | none => _
 by_cases hji : j = st.init.length + 1
 ·subst hji
  rw [List.getElem?_append_right (by simp), List.length_append, List.length_singleton, Nat.sub_self]
  refine ⟨0, ?_, fun _ => rfl⟩
  show SegIs (st.D + (st.init.length + 1) + 1) [] 0 (blockOf g.bs (1 + (st.D + (st.init.length + 1)) % n))
  rw [hb, show st.num + 1 = st.D + (st.init.length + 1) + 1 by unfold St.num; omega]
  exact SegIs.new _
 ·have h1 := h j hj
  rw [← flX_oth ho hlen hj hn hji] at h1
  unfold St.segs at h1
  by_cases hlt : j < (st.init ++ [st.last]).length
  ·rw [List.getElem?_append_left hlt]
   cases hs : (st.init ++ [st.last])[j]? with
   | none => exact absurd (List.getElem?_eq_none_iff.1 hs) (by omega)
   | some rs =>
    rw [hs] at h1
    obtain ⟨u, h2, _⟩ := h1
    exact ⟨u, h2, fun e => absurd e (by show j ≠ (st.init ++ [st.last]).length; omega)⟩
  ·rw [List.getElem?_eq_none (by omega)] at h1
   rw [List.getElem?_eq_none (by simp at hlt ⊢; omega)]
   rcases h1 with h1 | ⟨e, _⟩
   ·exact .inl h1
   ·cases e
theorem flX_junk {n J : Nat} {f g : Fl} {st : KS} {x : Bool} (h : FlX n f st x) (hJ : J < n) (hJ2 : st.init.length < J) (hlen : 512 * (1 + n) ≤ f.bs.length) (ho : Others (1 + (st.D + J) % n) f g) (hb : JunkB (blockOf g.bs (1 + (st.D + J) % n))) : FlX n g st x := by
 intro j hj
 by_cases hji : j = J
 ·subst hji
  rw [List.getElem?_eq_none (by rw [segs_len]; omega)]
  exact .inl hb
 ·have h1 := h j hj
  rw [← flX_oth ho hlen hj hJ hji] at h1
  exact h1
def CrP (n : Nat) (f : Fl) (V : OM) (d : Nat) : Prop := ∃ st : KS, InvK n st ∧ FlX n f st true ∧ st.init.length + 2 ≤ n ∧ (∀ k, valM st.M k = valM V k) ∧ st.D ≤ d
theorem CrP.of {n : Nat} {f : Fl} {V : OM} {d : Nat} {st : KS} (h : InvK n st) (hf : FlX n f st false) (hn : st.init.length + 2 ≤ n) (hv : ∀ k, valM st.M k = valM V k) (hd : st.D ≤ d) : CrP n f V d := ⟨st, h, flX_weak hf, hn, hv, hd⟩
theorem CrP.full {n : Nat} {f : Fl} {V : OM} {d : Nat} {st : KS} (h : InvK n st) (hf : FlX n f st false) (hn : st.init.length + 1 = n) (hb : BackK n st V) (hd : st.D ≤ d) : CrP n f V d := by
 obtain ⟨kb, b1, b2, b3, b4⟩ := hb
 have hl : kb.init.length + 1 = st.init.length := by rw [← b3, segs_len]
 have hlt : kb.init.length < n := by omega
 have hsl : st.segs[kb.init.length]? = some kb.last := by
  unfold St.segs
  rw [List.getElem?_append_left (by omega), ← b3]
  exact segs_last kb.toSt
 obtain ⟨u, hu, _⟩ := flX_seg hf hlt hsl
 have huu := seg_used hu
 rw [usedS_eq] at huu
 refine ⟨⟨kb.toSt, u⟩, ⟨b1.inv, huu.1, huu.2⟩, ?_, by show kb.init.length + 2 ≤ n; omega, b4, by show kb.D ≤ d; omega⟩
 intro j hj
 have h1 := hf j hj
 show match kb.segs[j]? with | some rs => ∃ u', SegIs (kb.D + j + 1) (rs.map recF) u' (blockOf f.bs (1 + (kb.D + j) % n)) ∧ (j = kb.init.length → u' = u) | none => JunkB (blockOf f.bs (1 + (kb.D + j) % n)) ∨ (true = true ∧ j = kb.init.length + 1 ∧ j + 1 = n ∧ HeadB (kb.D + j + 1) (blockOf f.bs (1 + (kb.D + j) % n)))
 rw [b2]
 by_cases hjl : j < kb.init.length + 1
 ·have e : kb.segs[j]? = st.segs[j]? := by rw [b3]; unfold St.segs; rw [List.getElem?_append_left (by omega)]
  rw [e]
  cases hs : st.segs[j]? with
  | none => have := List.getElem?_eq_none_iff.1 hs; rw [segs_len] at this; omega
  | some rs =>
   rw [hs] at h1
   obtain ⟨u', h2, _⟩ := h1
   refine ⟨u', h2, fun e2 => ?_⟩
   subst e2
   rw [hsl] at hs
   cases hs
   have r1 := h2.room
   have r2 := hu.room
   have := (seg_used h2).2
   omega
 ·have hjn : j = st.init.length := by omega
  subst hjn
  have hkn : kb.segs[st.init.length]? = none := List.getElem?_eq_none (by rw [segs_len]; omega)
  rw [hkn]
  right
  have h2 := flX_last hf (by omega)
  exact ⟨rfl, by omega, by omega, h2.head⟩
theorem onL_prog_other {bs s : List UInt8} {keep : Int} {mask : UInt8} {k j o : Nat} (hj : 512 * j + 512 ≤ bs.length) (hn : j ≠ k) (ho : o + s.length ≤ 512) : blockOf (tornP keep mask bs (512 * k + o) s) j = blockOf bs j := by
 unfold tornP
 exact onL_other hj hn ho
theorem torn_oth (f g : Fl) (k o : Nat) (r : List UInt8) (hr : r.length ≤ 400) (ho : o + 64 * pagesF r.length ≤ 512) (ht : TornApp f (512 * k + o) r g) : Others k f g := by
 intro j hj hn
 have hL := laidL_len r hr
 have hall : ∀ s ∈ laidL r, s.length ≤ 64 := fun s hs => (laidL_all r s hs).2
 have hp1 := pages_pos r.length
 rcases ht with ⟨i, s, h0, h1, h2, rfl⟩ | ⟨h1, h2, rfl⟩
 ·have hi : i < (laidL r).length := (List.getElem?_eq_some_iff.1 h0).1
  have hs := hall s (List.mem_of_getElem? h0)
  have htl : ((laidL r).take i).length = i := by rw [List.length_take]; omega
  obtain ⟨F, hF⟩ : ∃ F, layA f (512 * k + o) ((laidL r).take i) = F := ⟨_, rfl⟩
  have hFl : F.bs.length = f.bs.length := by rw [← hF, layA_len]
  have hFb : blockOf F.bs j = blockOf f.bs j := by
   rw [← hF, layA_bs _ f f _ rfl]
   exact layF_other k j hn _ _ _ hj (fun s hs => hall s (List.mem_of_mem_take hs)) (by rw [htl]; omega)
  rw [hF]
  show blockOf (tornP F.keep F.mask F.bs (512 * k + o + 64 * i) s) j = _
  rw [Nat.add_assoc, onL_prog_other (by rw [hFl]; exact hj) hn (by omega), hFb]
 ·obtain ⟨F, hF⟩ : ∃ F, layA f (512 * k + o) (laidL r) = F := ⟨_, rfl⟩
  have hFl : F.bs.length = f.bs.length := by rw [← hF, layA_len]
  have hFb : blockOf F.bs j = blockOf f.bs j := by
   rw [← hF, layA_bs _ f f _ rfl]
   exact layF_other k j hn _ _ _ hj hall (by omega)
  rw [hF]
  show blockOf (tornP F.keep F.mask F.bs (512 * k + o + 3) [0]) j = _
  rw [Nat.add_assoc, onL_prog_other (by rw [hFl]; exact hj) hn (by simp; omega), hFb]
theorem app_oth (f : Fl) (k o : Nat) (r : List UInt8) (hr : r.length ≤ 400) (ho : o + 64 * pagesF r.length ≤ 512) : Others k f (appA f (512 * k + o) r) := by
 intro j hj hn
 rw [appA_bs]
 exact appF_other f k j o r hn hr hj ho (pages_pos _)
section
variable {n : Nat} {f g : Fl} {st : KS} {l : List Ch}
theorem flX_app (hF : FlX n f st false) (hI : InvK n st) (hl : FormC l) (hfit : fitsK st l) (hn : st.init.length < n) (hlen : 512 * (1 + n) ≤ f.bs.length) :
  FlX n (appA f (512 * (1 + (st.D + st.init.length) % n) + 64 * (1 + st.lu)) (recF l)) (appK st l) false := by
 have hfit' : st.lu + pgs l ≤ 7 := hfit
 have hm := Nat.mod_lt (st.D + st.init.length) (by omega : 0 < n)
 have hr := hl.2.2
 have hs := flX_last hF hn
 obtain ⟨P, hP, hs2⟩ := hs.app (recF l) hr hfit'
 have hPl := segIs_cut hs hP
 have hblk := appF_block f (1 + (st.D + st.init.length) % n) (recF l) P _ hr (by omega) hP (by unfold pgs at hfit'; omega)
 rw [hPl] at hblk
 rw [appK_fit hfit]
 refine flX_newest hF hn hlen (app_oth f _ _ _ hr (by unfold pgs at hfit'; omega)) _ _ _ ?_
 rw [appA_bs, hblk, List.map_append]
 exact hs2
theorem flX_torn (hF : FlX n f st false) (hI : InvK n st) (hl : FormC l) (hfit : fitsK st l) (hn : st.init.length < n) (hlen : 512 * (1 + n) ≤ f.bs.length)
  (ht : TornApp f (512 * (1 + (st.D + st.init.length) % n) + 64 * (1 + st.lu)) (recF l) g) :
  ∃ k' : KS, InvK n k' ∧ FlX n g k' false ∧ k'.D = st.D ∧ k'.init = st.init ∧ (k'.M = st.M ∨ k'.M = (appK st l).M) := by
 have hfit' : st.lu + pgs l ≤ 7 := hfit
 have hm := Nat.mod_lt (st.D + st.init.length) (by omega : 0 < n)
 have hr := hl.2.2
 have hs := flX_last hF hn
 obtain ⟨P, hP, hs2⟩ := hs.app (recF l) hr hfit'
 obtain ⟨P', hP', hs3⟩ := hs.torn
 have hPl := segIs_cut hs hP
 have hPP : P' = P := List.append_cancel_right (hP'.symm.trans hP)
 subst hPP
 have ho := torn_oth f g _ _ _ hr (by unfold pgs at hfit'; omega) ht
 rw [← hPl] at ht
 rcases torn_block f g (1 + (st.D + st.init.length) % n) _ (recF l) P' hr (by omega) hP (by unfold pgs at hfit'; omega) ht with ⟨J, j1, j2, j3⟩ | hw
 ·have hJ : J.length ≤ pgs l := j2
  refine ⟨⟨st.toSt, st.lu + J.length⟩, ⟨hI.inv, by show usedS st.last ≤ st.lu + J.length; have := hI.used; omega, by show st.lu + J.length ≤ 7; omega⟩, ?_, rfl, rfl, .inl rfl⟩
  refine flX_newest hF hn hlen ho _ _ _ ?_
  rw [j3]
  exact hs3 J j1 (by omega)
 ·refine ⟨appK st l, appK_inv hI hl (fun h => absurd hfit h), ?_, appK_D, by rw [appK_fit hfit], .inr rfl⟩
  rw [appK_fit hfit]
  refine flX_newest hF hn hlen ho _ _ _ ?_
  rw [hw, List.map_append]
  exact hs2
theorem newK_app (hf : ¬ fitsK st l) (h7 : pgs l ≤ 7) : appK ⟨newS st.toSt, 0⟩ l = appK st l := by
 have hfit : fitsK ⟨newS st.toSt, 0⟩ l := by show 0 + pgs l ≤ 7; omega
 rw [appK_fit hfit, appK_new hf]
 show (⟨_, 0 + pgs l⟩ : KS) = _
 rw [Nat.zero_add, newS_num]
 rfl
theorem caseA_st {init' : List Sg} {b' num' : Nat} (hF : FlX n f st false) (hI : InvK n st) (hl : FormC l) (hroom : ¬ fitsK st l → st.init.length + 2 ≤ n) (hn : st.init.length < n) (hlen : 512 * (1 + n) ≤ f.bs.length) (ha : ArmOK f)
  (hc : CaseA 1 ((st.D + st.init.length) % n) st.num n (sgs n st.D st.init) f (pgs l) init' b' num' g) :
  ∃ st' : KS, InvK n st' ∧ FlX n g st' false ∧ fitsK st' l ∧ appK st' l = appK st l ∧ sgs n st'.D st'.segs = init' ++ [(b', num')] ∧ b' = (st'.D + st'.init.length) % n ∧ st'.D = st.D ∧ (st'.init = st.init ∨ (¬ fitsK st l ∧ st'.init = st.segs)) ∧ st'.M = st.M ∧ StepOK f g ∧ st'.init.length < n ∧ roomF (blockOf g.bs (1 + b')) 7 = 7 - st'.lu := by
 have hrm := (flX_last hF hn).room
 have h7 := pgs_le7 hl
 have hl7 := hI.seven
 have hsg : sgs n st.D st.segs = sgs n st.D st.init ++ [((st.D + st.init.length) % n, st.num)] := by unfold St.segs; rw [sgs_snoc]; rfl
 rcases hc with ⟨e0, rfl, rfl, rfl, rfl⟩ | ⟨e0, rfl, rfl, rfl, e1, e2, e3⟩
 ·rw [hrm] at e0
  exact ⟨st, hI, hF, by show st.lu + pgs l ≤ 7; omega, rfl, hsg, rfl, rfl, .inl rfl, rfl, StepOK.refl ha, hn, hrm⟩
 ·rw [hrm] at e0
  have hnf : ¬ fitsK st l := by show ¬ (st.lu + pgs l ≤ 7); omega
  have hr := hroom hnf
  have hms : ((st.D + st.init.length) % n + 1) % n = (st.D + (st.init.length + 1)) % n := mod_succ
  rw [hms] at e2 e3 ⊢
  have hfl := flX_made hF (by omega) hlen e3 e2
  refine ⟨⟨newS st.toSt, 0⟩, ⟨newS_inv hI.inv hr, by show usedS [] ≤ 0; simp [usedS], by show 0 ≤ 7; omega⟩, hfl, by show 0 + pgs l ≤ 7; omega, newK_app hnf h7, ?_, ?_, rfl, .inr ⟨hnf, rfl⟩, rfl, e1, by show (st.init ++ [st.last]).length < n; simp; omega, ?_⟩
  ·show sgs n st.D (st.segs ++ [[]]) = _
   rw [sgs_snoc, hsg, segs_len]
   rw [show st.D + (st.init.length + 1) + 1 = st.num + 1 by unfold St.num; omega]
  ·show _ = (st.D + (st.init ++ [st.last]).length) % n
   rw [List.length_append]; rfl
  ·rw [e2]
   have := (SegIs.new (st.num + 1)).room
   exact this
def AppDead (n : Nat) (st : KS) (l : List Ch) (g : Fl) : Prop := ∃ k' : KS, InvK n k' ∧ FlX n g k' false ∧ k'.D = st.D ∧ (k'.init = st.init ∨ (¬ fitsK st l ∧ k'.init = st.segs)) ∧ (k'.M = st.M ∨ k'.M = (appK st l).M)
theorem appDead_cr {V : OM} {d : Nat} (h : AppDead n st l g) (hI : InvK n st) (hfew : st.init.length + 1 ≤ n) (hv : ∀ k, valM st.M k = valM V k) (hv2 : ∀ k, valM (appK st l).M k = valM V k) (hb : st.init.length + 1 = n → BackK n st V) (hd : st.D ≤ d) : CrP n g V d := by
 obtain ⟨k', h1, h2, h3, h4, h5⟩ := h
 have hkv : ∀ k, valM k'.M k = valM V k := by rcases h5 with h5 | h5 <;> rw [h5] <;> assumption
 have hkf := h1.inv.few
 by_cases hfull : k'.init.length + 2 ≤ n
 ·exact CrP.of h1 h2 hfull hkv (by omega)
 ·refine CrP.full h1 h2 (by omega) ?_ (by omega)
  rcases h4 with h4 | h4
  ·obtain ⟨kb, b1, b2, b3, b4⟩ := hb (by rw [← h4]; omega)
   exact ⟨kb, b1, by rw [h3]; exact b2, by rw [h4]; exact b3, b4⟩
  ·exact ⟨st, hI, h3.symm, h4.2.symm, hv⟩
theorem appDead_put {V W : OM} {d : Nat} (h : AppDead n st l g) (hroom : ¬ fitsK st l → st.init.length + 3 ≤ n) (hfew : st.init.length + 2 ≤ n)
  (hv : ∀ k, valM st.M k = valM V k) (hv2 : ∀ k, valM (appK st l).M k = valM W k) (hd : st.D ≤ d) : CrP n g V d ∨ CrP n g W d := by
 obtain ⟨k', h1, h2, h3, h4, h5⟩ := h
 have hfull : k'.init.length + 2 ≤ n := by
  rcases h4 with h4 | ⟨h4, h6⟩
  ·rw [h4]; exact hfew
  ·have := hroom h4
   rw [h6, segs_len]; omega
 rcases h5 with h5 | h5
 ·exact .inl (CrP.of h1 h2 hfull (by rw [h5]; exact hv) (by omega))
 ·exact .inr (CrP.of h1 h2 hfull (by rw [h5]; exact hv2) (by omega))
end
end Go.Proofs.YteplbljjlbdhaaaGreatDoor
