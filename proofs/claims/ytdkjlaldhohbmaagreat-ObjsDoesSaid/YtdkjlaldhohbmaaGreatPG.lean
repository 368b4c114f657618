/- Walks and lemmas on the program of this seat, used by its statements; each theorem bears its own conditions. -/
import Derived.Test.YtdkjlaldhohbmaaGreatPF
import Derived.Handy
import Derived.OwnWalk
import Derived.Deep.AppendLies
import Derived.IntWalk
import Derived.Deep.CutRange
import Derived.Deep.RegionHeld3
import Derived.Deep.RegionLaw
namespace Go.Proofs.YtdkjlaldhohbmaaGreat
open Go.RowKit
set_option linter.unusedVariables false
set_option linter.unusedSimpArgs false
set_option maxHeartbeats 8000000
set_option maxRecDepth 100000
/-! ### A store, as the laws see it -/
theorem old_val {M N : OM} (h : ∀ k, valM M k = valM N k) (c : Ch) : oldW M c = oldW N c := by
  have := congrArg (fun o : Option (List UInt8) => (o.map wF).getD 0) (h c.key)
  simp only [valM, Option.map_map, Function.comp_def] at this
  exact this
theorem becW_val {M N : OM} (h : ∀ k, valM M k = valM N k) : ∀ (l : List Ch) (x : Int), becW M l x = becW N l x
  | [], _ => rfl
  | c :: l, x => by
    show becW M l _ = becW N l _
    rw [old_val h c, becW_val h l]
theorem mayF_val {n : Nat} {M N : OM} (h1 : SortedA M) (h2 : SortedA N) (h : ∀ k, valM M k = valM N k) (l : List Ch) : mayF n M l = mayF n N l := by
  unfold mayF
  rw [becW_val h, weight_same h1 h2 h]
theorem keysF_val {M N : OM} (h1 : SortedA M) (h2 : SortedA N) (h : ∀ k, valM M k = valM N k) (fr most : Int) : keysF M fr most = keysF N fr most := by
  have e := congrArg (fun l : List (Int × List UInt8) => l.map (·.1)) (val_map h1 h2 h)
  simp only [mapA, List.map_map, Function.comp_def] at e
  unfold keysF
  rw [show M.map (·.1) = N.map (·.1) from e]
def putF (n : Nat) (V : OM) (l : List Ch) : OM := if mayF n V l = 0 then takesF V l 0 0 else V
theorem put_sorted {n : Nat} {V : OM} {l : List Ch} (h : SortedA V) : SortedA (putF n V l) := by
  unfold putF
  split
  · exact takes_sorted _ _ _ h
  · exact h
theorem may_form {n : Nat} {V : OM} {l : List Ch} (h : mayF n V l = 0) : formF l = 0 := by
  unfold mayF at h
  split at h
  · exact h
  · next hz => simpa using hz
def SV (w : World) (sb lb pb fb bb cb mb kb n : Nat) (v : Value) (V : OM) (d : Nat) : Prop :=
  SortedA V ∧ ∃ st f, SAt w sb lb pb fb bb cb mb kb n v st f ∧ GoodS n st f ∧ st.D ≤ d ∧ ∀ k, valM st.M k = valM V k
section
variable {w : World} {sb lb pb fb bb cb mb kb n : Nat} {v : Value} {V : OM} {d : Nat}
theorem SV.same {w' : World} (h : SV w sb lb pb fb bb cb mb kb n v V d) (k : Kept [] w w') : SV w' sb lb pb fb bb cb mb kb n v V d := by
  obtain ⟨h0, st, f, h1, h2⟩ := h
  exact ⟨h0, st, f, h1.same k, h2⟩
theorem SV.kept {w' : World} {T : List Nat} (h : SV w sb lb pb fb bb cb mb kb n v V d) (k : Kept T w w') (hT : ∀ x ∈ T, x ∉ StT sb lb fb bb cb mb kb v ∧ x ≠ pb) : SV w' sb lb pb fb bb cb mb kb n v V d := by
  obtain ⟨h0, st, f, h1, h2⟩ := h
  exact ⟨h0, st, f, h1.kept k hT, h2⟩
theorem SV.lt (h : SV w sb lb pb fb bb cb mb kb n v V d) : (∀ x ∈ StT sb lb fb bb cb mb kb v, x < w.heap.size) ∧ pb < w.heap.size := by
  obtain ⟨h0, st, f, h1, h2⟩ := h
  exact stT_lt h1
theorem SV.small (h : SV w sb lb pb fb bb cb mb kb n v V d) : 8 ≤ n ∧ n ≤ 255 ∧ sumA wO V ≤ quotaF n ∧ quotaF n ≤ 2000 := by
  obtain ⟨h0, st, f, h1, h2, h3, h4⟩ := h
  have hb := h1.bound.1
  refine ⟨h2.eight, by omega, ?_, by unfold quotaF; omega⟩
  rw [← weight_same h1.inv.sorted h0 h4]
  exact h2.quota
theorem chs_lt {w : World} {cv : Value} {l : List Ch} (h : ChsAt w cv l) (hne : l ≠ []) : ∀ q, cv.ownBlock = some q → q < w.heap.size := by
  obtain ⟨p, c, b, o, rfl, hp, hc⟩ := h
  have e := hp hne
  subst e
  intro q hq
  have : q = b := by simpa [Value.ownBlock, eq_comm] using hq
  subst this
  exact World.block_lt_of_cell? w _ (hc 0 (List.length_pos_iff.2 hne)).1
theorem sv_put (h : SV w sb lb pb fb bb cb mb kb n v V d) (hd : d ≤ 800000000) (l : List Ch) (cv : Value) (hv : ChsAt w cv l) (hvq : l ≠ [] → ∀ q, cv.ownBlock = some q → q ∉ StT sb lb fb bb cb mb kb v) (hl : l.length ≤ 4611686018427387904) :
    Calls Tryz.prog 12 #[Ptr sb, cv] w fun e w' => e = .returned (I (mayF n V l)) ∧ ∃ v', Fresh w v v' ∧ SV w' sb lb pb fb bb cb mb kb n v' (putF n V l) (d + n) ∧ Kept (StT sb lb fb bb cb mb kb v) w w' := by
  obtain ⟨h0, st, f, h1, h2, h3, h4⟩ := h
  refine (oput_any w sb lb pb fb bb cb mb kb n v st f h1 h2 (by omega) l cv hv (fun hne q hq => ⟨chs_lt hv hne q hq, hvq hne q hq⟩) hl).mono ?_
  rintro e w' ⟨rfl, v', st', f', hfr, hs, hk, hg, hD, hval⟩
  have hm := mayF_val (n := n) h1.inv.sorted h0 h4 l
  refine ⟨by rw [hm], v', hfr, ⟨put_sorted h0, st', f', hs, hg, by omega, fun k => ?_⟩, hk⟩
  rw [hval k, hm]
  unfold putF
  split
  · next hz =>
    exact takes_val h1.inv.sorted h0 h4 l (formG_ok 0 l (may_form hz)).1 0 0 0 0 k
  · exact h4 k
theorem om_keys {n : Nat} {st : St} (h : InvS n st) : ∀ k ∈ st.M.map (·.1), 1 ≤ k ∧ k ≤ 2147483647 := by
  intro k hk
  rw [mem_find] at hk
  obtain ⟨o, ho⟩ := Option.isSome_iff_exists.1 hk
  obtain ⟨l, ⟨j, rs, a1, a2, a3⟩, hin⟩ := h.placed k o ho
  have := ((h.recs rs (List.mem_of_getElem? a1)).2 l (List.mem_of_getElem? a3)).2.1 _ hin
  exact ⟨this.1, this.2.1⟩
theorem om_len (M : OM) : M.length ≤ sumA wO M := by
  induction M with
  | nil => exact Nat.le_refl _
  | cons p t ih =>
    have : 1 ≤ wO p.2 := by unfold wO wF; exact pages_pos _
    simp only [List.length_cons, sumA]; omega
theorem sv_keys (h : SV w sb lb pb fb bb cb mb kb n v V d) (fr most : Int) :
    Calls Tryz.prog 11 #[Ptr sb, I fr, I most] w fun e w' => ∃ kv, e = .returned kv ∧ w'.ownsRow w.heap.size 3 1 kv (keysF V fr most).length ((keysF V fr most).map fun k => I k) ∧ Kept [] w w' := by
  have hsm := h.small
  obtain ⟨h0, st, f, h1, h2, h3, h4⟩ := h
  obtain ⟨C, hc, _⟩ := h1.core
  have e := keysF_val h1.inv.sorted h0 h4 fr most
  rw [← e]
  refine okeys_any w sb pb lb mb kb _ st.M C hc ?_ (fun k hk => ?_) fr most
  · have := om_len st.M
    have := h2.quota
    omega
  · have := om_keys h1.inv k hk
    exact ⟨by omega, by omega⟩
theorem sv_weight (h : SV w sb lb pb fb bb cb mb kb n v V d) : Calls Tryz.prog 10 #[Ptr sb] w fun e w' => e = .returned (I (sumA wO V : Nat)) ∧ w' = w := by
  obtain ⟨h0, st, f, h1, h2, h3, h4⟩ := h
  obtain ⟨C, hc, _⟩ := h1.core
  rw [← weight_same h1.inv.sorted h0 h4]
  exact oweight_any w sb pb lb mb kb _ st.M C hc
theorem sv_quota (h : SV w sb lb pb fb bb cb mb kb n v V d) : Calls Tryz.prog 13 #[Ptr sb] w fun e w' => e = .returned (I (quotaF n : Nat)) ∧ w' = w := by
  have hsm := h.small
  obtain ⟨h0, st, f, h1, h2, h3, h4⟩ := h
  obtain ⟨C, hc, _⟩ := h1.core
  exact oquota_any w sb pb lb mb kb fb bb cb n _ st.M C hc f h1.lg.pt hsm.1
def getF (V : OM) (k : Int) : List UInt8 := (valM V k).getD []
theorem sv_get (h : SV w sb lb pb fb bb cb mb kb n v V d) (k : Int) (hk : I64 k) : Calls Tryz.prog 15 #[Ptr sb, I k] w fun e w' => e = .returned (.tuple #[S (getF V k), .bool (valM V k).isSome]) ∧ Kept [] w w' := by
  obtain ⟨h0, st, f, h1, h2, h3, h4⟩ := h
  obtain ⟨C, hc, _⟩ := h1.core
  have := oget_any w sb pb lb mb kb _ st.M C hc k hk
  rw [show valF st.M k = getF V k from by unfold valF getF; rw [← h4 k]; rfl, show (findA st.M k).isSome = (valM V k).isSome from by rw [← h4 k]; unfold valM; rw [Option.isSome_map]] at this
  exact this
end
theorem laid_sv {n : Nat} {w w' : World} {e : Ending} (h : LaidPost n w e w') (h8 : 8 ≤ n) :
    ∃ fb bb cb pb sb lb mb kb rb v, e = .returned (.tuple #[Ptr fb, Ptr sb, Ptr rb]) ∧ SV w' sb lb pb fb bb cb mb kb n v [] 0 ∧ w'.heap[rb]? = some (.cells #[I n, .slice none 0 0] 50 (0, 0)) ∧ (∀ x, x ∈ StT sb lb fb bb cb mb kb v ∨ x = pb → w.heap.size ≤ x ∧ x < rb) ∧ Kept [] w w' := by
  obtain ⟨fb, bb, cb, pb, sb, lb, mb, kb, rb, v, h1, h2, h3, h4, h5⟩ := h
  exact ⟨fb, bb, cb, pb, sb, lb, mb, kb, rb, v, h1, ⟨List.Pairwise.nil, St0, _, h2, laid_good n h8, Nat.le_refl _, fun _ => rfl⟩, h3, h4, h5⟩
/-- One store, its blocks made behind w0, below B. -/
def Stand (w0 w : World) (fb sb n : Nat) (V : OM) (d B : Nat) : Prop :=
  ∃ bb cb pb lb mb kb v, SV w sb lb pb fb bb cb mb kb n v V d ∧ (∀ x, x ∈ StT sb lb fb bb cb mb kb v ∨ x = pb → w0.heap.size ≤ x ∧ x < B) ∧ B ≤ w.heap.size ∧ Kept [] w0 w
section
variable {w0 w : World} {fb sb n : Nat} {V : OM} {d B : Nat}
theorem Stand.same {w' : World} (h : Stand w0 w fb sb n V d B) (k : Kept [] w w') : Stand w0 w' fb sb n V d B := by
  obtain ⟨bb, cb, pb, lb, mb, kb, v, h1, h2, h3, h4⟩ := h
  exact ⟨bb, cb, pb, lb, mb, kb, v, h1.same k, h2, Nat.le_trans h3 k.size, h4.trans' k⟩
theorem Stand.old (h : Stand w0 w fb sb n V d B) : Kept [] w0 w := by obtain ⟨_, _, _, _, _, _, _, _, _, _, h4⟩ := h; exact h4
theorem Stand.top (h : Stand w0 w fb sb n V d B) : B ≤ w.heap.size := by obtain ⟨_, _, _, _, _, _, _, _, _, h3, _⟩ := h; exact h3
theorem stand_put (h : Stand w0 w fb sb n V d B) (hd : d ≤ 800000000) (l : List Ch) (cv : Value) (hv : ChsAt w cv l) (hvq : l ≠ [] → ∀ q, cv.ownBlock = some q → q < w0.heap.size ∨ B ≤ q) (hl : l.length ≤ 4611686018427387904) :
    Calls Tryz.prog 12 #[Ptr sb, cv] w fun e w' => e = .returned (I (mayF n V l)) ∧ Stand w0 w' fb sb n (putF n V l) (d + n) w'.heap.size := by
  obtain ⟨bb, cb, pb, lb, mb, kb, v, h1, h2, h3, h4⟩ := h
  refine (sv_put h1 hd l cv hv (fun hne q hq hm => ?_) hl).mono ?_
  · have := h2 q (.inl hm)
    have := hvq hne q hq
    omega
  · rintro e w' ⟨rfl, v', hfr, hs, hk⟩
    have hlt := hs.lt
    have hsz := hk.size
    refine ⟨rfl, bb, cb, pb, lb, mb, kb, v', hs, fun x hx => ?_, Nat.le_refl _, h4.new hk (fun x hx => (h2 x (.inl hx)).1)⟩
    rcases hx with hx | rfl
    · refine ⟨?_, hlt.1 x hx⟩
      by_cases hm : x ∈ StT sb lb fb bb cb mb kb v
      · exact (h2 x (.inl hm)).1
      · have h4s := h4.size
        simp only [StT, LgT, List.mem_append, Option.mem_toList] at hx hm
        rcases hx with hx | hx | hx
        · exact absurd (.inl hx) hm
        · exact absurd (.inr (.inl hx)) hm
        · rcases hfr x (by simpa using hx) with h | h
          · exact absurd (.inr (.inr (by simpa using h))) hm
          · omega
    · exact ⟨(h2 _ (.inr rfl)).1, hlt.2⟩
theorem stand_keys (h : Stand w0 w fb sb n V d B) (fr most : Int) :
    Calls Tryz.prog 11 #[Ptr sb, I fr, I most] w fun e w' => ∃ kv, e = .returned kv ∧ w'.ownsRow w.heap.size 3 1 kv (keysF V fr most).length ((keysF V fr most).map fun k => I k) ∧ Kept [] w w' := by
  obtain ⟨bb, cb, pb, lb, mb, kb, v, h1, _⟩ := h
  exact sv_keys h1 fr most
theorem stand_weight (h : Stand w0 w fb sb n V d B) : Calls Tryz.prog 10 #[Ptr sb] w fun e w' => e = .returned (I (sumA wO V : Nat)) ∧ w' = w := by
  obtain ⟨bb, cb, pb, lb, mb, kb, v, h1, _⟩ := h
  exact sv_weight h1
theorem stand_quota (h : Stand w0 w fb sb n V d B) : Calls Tryz.prog 13 #[Ptr sb] w fun e w' => e = .returned (I (quotaF n : Nat)) ∧ w' = w := by
  obtain ⟨bb, cb, pb, lb, mb, kb, v, h1, _⟩ := h
  exact sv_quota h1
theorem stand_get (h : Stand w0 w fb sb n V d B) (k : Int) (hk : I64 k) : Calls Tryz.prog 15 #[Ptr sb, I k] w fun e w' => e = .returned (.tuple #[S (getF V k), .bool (valM V k).isSome]) ∧ Kept [] w w' := by
  obtain ⟨bb, cb, pb, lb, mb, kb, v, h1, _⟩ := h
  exact sv_get h1 k hk
theorem stand_small (h : Stand w0 w fb sb n V d B) : 8 ≤ n ∧ n ≤ 255 ∧ sumA wO V ≤ quotaF n ∧ quotaF n ≤ 2000 := by
  obtain ⟨bb, cb, pb, lb, mb, kb, v, h1, _⟩ := h
  exact h1.small
end
theorem laid_stand {n : Nat} {w w' : World} {e : Ending} (h : LaidPost n w e w') (h8 : 8 ≤ n) :
    ∃ fb sb rb, e = .returned (.tuple #[Ptr fb, Ptr sb, Ptr rb]) ∧ Stand w w' fb sb n [] 0 w'.heap.size := by
  obtain ⟨fb, bb, cb, pb, sb, lb, mb, kb, rb, v, h1, h2, h3, h4, h5⟩ := laid_sv h h8
  refine ⟨fb, sb, rb, h1, bb, cb, pb, lb, mb, kb, v, h2, fun x hx => ⟨(h4 x hx).1, ?_⟩, Nat.le_refl _, h5⟩
  have := h2.lt
  rcases hx with hx | rfl
  · exact this.1 x hx
  · exact this.2
/-! ### fixed: the pure answers -/
def L1 : List Ch := [⟨5, zerosL 53, false⟩]
def L2 : List Ch := [⟨6, zerosL 54, false⟩, ⟨7, [], true⟩]
def L3 : List Ch := [⟨8, zerosL 257, false⟩]
def L4 : List Ch := [⟨8, zerosL 200, false⟩, ⟨9, zerosL 200, false⟩]
def L5 : List Ch := [⟨2, [], false⟩, ⟨1, [], false⟩]
def V1 : OM := takesF [] L1 0 0
def V2 : OM := takesF V1 L2 0 0
theorem p_may1 : mayF 8 [] L1 = 0 := by decide +kernel
theorem p_may2 : mayF 8 V1 L2 = 0 := by decide +kernel
theorem p_may3 : mayF 8 V2 L3 = 151 := by decide +kernel
theorem p_may4 : mayF 8 V2 L4 = 151 := by decide +kernel
theorem p_may5 : mayF 8 V2 L5 = 1 := by decide +kernel
theorem p_put1 : putF 8 [] L1 = V1 := by unfold putF; rw [if_pos p_may1]; rfl
theorem p_put2 : putF 8 V1 L2 = V2 := by unfold putF; rw [if_pos p_may2]; rfl
theorem p_put3 : putF 8 V2 L3 = V2 := by unfold putF; rw [if_neg (by rw [p_may3]; decide)]
theorem p_put4 : putF 8 V2 L4 = V2 := by unfold putF; rw [if_neg (by rw [p_may4]; decide)]
theorem p_put5 : putF 8 V2 L5 = V2 := by unfold putF; rw [if_neg (by rw [p_may5]; decide)]
theorem p_sum1 : sumA wO V1 = 1 := by decide +kernel
theorem p_sum2 : sumA wO V2 = 3 := by decide +kernel
theorem p_get : (getF V2 5).length = 53 := by decide +kernel
theorem p_is : (valM V2 5).isSome = true := by decide +kernel
theorem p_keys : keysF V2 1 9 = [5, 6] := by decide +kernel
theorem p_quota : quotaF 8 = 14 := by decide +kernel
end Go.Proofs.YtdkjlaldhohbmaaGreat
