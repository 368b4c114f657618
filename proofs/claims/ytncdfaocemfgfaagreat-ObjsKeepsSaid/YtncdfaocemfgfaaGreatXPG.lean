/- Walks and lemmas on the program of this seat, used by its statements; each theorem bears its own conditions. -/
import Derived.Test.YtncdfaocemfgfaaGreatXPD
import Derived.Handy
import Derived.OwnWalk
import Derived.Deep.AppendLies
import Derived.IntWalk
import Derived.Deep.CutRange
import Derived.Deep.RegionHeld3
import Derived.Deep.RegionLaw
namespace Go.Proofs.YtncdfaocemfgfaaGreat
open Go.RowKit
set_option linter.unusedVariables false
set_option linter.unusedSimpArgs false
section
set_option maxHeartbeats 8000000
set_option maxRecDepth 100000
/-! ### A store, as the laws see it -/
theorem old_val {M N : OM} (h : ∀ k, valM M k = valM N k) (c : Ch) : oldW M c = oldW N c := by
  have := congrArg (fun o : Option (List UInt8) => (o.map wF).getD 0) (h c.key)
  simp only [valM, Option.map_map, Function.comp_def] at this
  exact this
theorem becW_val {M N : OM} (h : ∀ k, valM M k = valM N k) : ∀ (l : List Ch) (x : Int), becW M l x = becW N l x
  | [], _ => rfl
  | c :: l, x => by
    show becW M l _ = becW N l _
    rw [old_val h c, becW_val h l]
theorem mayF_val {n : Nat} {M N : OM} (h1 : SortedA M) (h2 : SortedA N) (h : ∀ k, valM M k = valM N k) (l : List Ch) : mayF n M l = mayF n N l := by
  unfold mayF
  rw [becW_val h, weight_same h1 h2 h]
theorem keysF_val {M N : OM} (h1 : SortedA M) (h2 : SortedA N) (h : ∀ k, valM M k = valM N k) (fr most : Int) : keysF M fr most = keysF N fr most := by
  have e := congrArg (fun l : List (Int × List UInt8) => l.map (·.1)) (val_map h1 h2 h)
  simp only [mapA, List.map_map, Function.comp_def] at e
  unfold keysF
  rw [show M.map (·.1) = N.map (·.1) from e]
def putF (n : Nat) (V : OM) (l : List Ch) : OM := if mayF n V l = 0 then takesF V l 0 0 else V
theorem put_sorted {n : Nat} {V : OM} {l : List Ch} (h : SortedA V) : SortedA (putF n V l) := by
  unfold putF
  split
  · exact takes_sorted _ _ _ h
  · exact h
theorem may_form {n : Nat} {V : OM} {l : List Ch} (h : mayF n V l = 0) : formF l = 0 := by
  unfold mayF at h
  split at h
  · exact h
  · next hz => simpa using hz
def SV (w : World) (sb lb pb fb bb cb mb kb n : Nat) (v : Value) (V : OM) (d : Nat) : Prop :=
  SortedA V ∧ ∃ st f, SAt w sb lb pb fb bb cb mb kb n v st f ∧ GoodS n st f ∧ st.D ≤ d ∧ ∀ k, valM st.M k = valM V k
section
variable {w : World} {sb lb pb fb bb cb mb kb n : Nat} {v : Value} {V : OM} {d : Nat}
theorem SV.same {w' : World} (h : SV w sb lb pb fb bb cb mb kb n v V d) (k : Kept [] w w') : SV w' sb lb pb fb bb cb mb kb n v V d := by
  obtain ⟨h0, st, f, h1, h2⟩ := h
  exact ⟨h0, st, f, h1.same k, h2⟩
theorem SV.kept {w' : World} {T : List Nat} (h : SV w sb lb pb fb bb cb mb kb n v V d) (k : Kept T w w') (hT : ∀ x ∈ T, x ∉ StT sb lb fb bb cb mb kb v ∧ x ≠ pb) : SV w' sb lb pb fb bb cb mb kb n v V d := by
  obtain ⟨h0, st, f, h1, h2⟩ := h
  exact ⟨h0, st, f, h1.kept k hT, h2⟩
theorem SV.lt (h : SV w sb lb pb fb bb cb mb kb n v V d) : (∀ x ∈ StT sb lb fb bb cb mb kb v, x < w.heap.size) ∧ pb < w.heap.size := by
  obtain ⟨h0, st, f, h1, h2⟩ := h
  exact stT_lt h1
theorem SV.small (h : SV w sb lb pb fb bb cb mb kb n v V d) : 8 ≤ n ∧ n ≤ 255 ∧ sumA wO V ≤ quotaF n ∧ quotaF n ≤ 2000 := by
  obtain ⟨h0, st, f, h1, h2, h3, h4⟩ := h
  have hb := h1.bound.1
  refine ⟨h2.eight, by omega, ?_, by unfold quotaF; omega⟩
  rw [← weight_same h1.inv.sorted h0 h4]
  exact h2.quota
theorem chs_lt {w : World} {cv : Value} {l : List Ch} (h : ChsAt w cv l) (hne : l ≠ []) : ∀ q, cv.ownBlock = some q → q < w.heap.size := by
  obtain ⟨p, c, b, o, rfl, hp, hc⟩ := h
  have e := hp hne
  subst e
  intro q hq
  have : q = b := by simpa [Value.ownBlock, eq_comm] using hq
  subst this
  exact World.block_lt_of_cell? w _ (hc 0 (List.length_pos_iff.2 hne)).1
theorem sv_put (h : SV w sb lb pb fb bb cb mb kb n v V d) (hd : d ≤ 800000000) (l : List Ch) (cv : Value) (hv : ChsAt w cv l) (hvq : l ≠ [] → ∀ q, cv.ownBlock = some q → q ∉ StT sb lb fb bb cb mb kb v) (hl : l.length ≤ 4611686018427387904) :
    Calls Tryz.prog 7 #[Ptr sb, cv] w fun e w' => e = .returned (I (mayF n V l)) ∧ ∃ v', Fresh w v v' ∧ SV w' sb lb pb fb bb cb mb kb n v' (putF n V l) (d + n) ∧ Kept (StT sb lb fb bb cb mb kb v) w w' := by
  obtain ⟨h0, st, f, h1, h2, h3, h4⟩ := h
  refine (oput_any w sb lb pb fb bb cb mb kb n v st f h1 h2 (by omega) l cv hv (fun hne q hq => ⟨chs_lt hv hne q hq, hvq hne q hq⟩) hl).mono ?_
  rintro e w' ⟨rfl, v', st', f', hfr, hs, hk, hg, hD, hval⟩
  have hm := mayF_val (n := n) h1.inv.sorted h0 h4 l
  refine ⟨by rw [hm], v', hfr, ⟨put_sorted h0, st', f', hs, hg, by omega, fun k => ?_⟩, hk⟩
  rw [hval k, hm]
  unfold putF
  split
  · next hz =>
    exact takes_val h1.inv.sorted h0 h4 l (formG_ok 0 l (may_form hz)).1 0 0 0 0 k
  · exact h4 k
theorem om_keys {n : Nat} {st : St} (h : InvS n st) : ∀ k ∈ st.M.map (·.1), 1 ≤ k ∧ k ≤ 2147483647 := by
  intro k hk
  rw [mem_find] at hk
  obtain ⟨o, ho⟩ := Option.isSome_iff_exists.1 hk
  obtain ⟨l, ⟨j, rs, a1, a2, a3⟩, hin⟩ := h.placed k o ho
  have := ((h.recs rs (List.mem_of_getElem? a1)).2 l (List.mem_of_getElem? a3)).2.1 _ hin
  exact ⟨this.1, this.2.1⟩
theorem om_len (M : OM) : M.length ≤ sumA wO M := by
  induction M with
  | nil => exact Nat.le_refl _
  | cons p t ih =>
    have : 1 ≤ wO p.2 := by unfold wO wF; exact pages_pos _
    simp only [List.length_cons, sumA]; omega
theorem sv_keys (h : SV w sb lb pb fb bb cb mb kb n v V d) (fr most : Int) :
    Calls Tryz.prog 30 #[Ptr sb, I fr, I most] w fun e w' => ∃ kv, e = .returned kv ∧ w'.ownsRow w.heap.size 3 1 kv (keysF V fr most).length ((keysF V fr most).map fun k => I k) ∧ Kept [] w w' := by
  have hsm := h.small
  obtain ⟨h0, st, f, h1, h2, h3, h4⟩ := h
  obtain ⟨C, hc, _⟩ := h1.core
  have e := keysF_val h1.inv.sorted h0 h4 fr most
  rw [← e]
  refine okeys_any w sb pb lb mb kb _ st.M C hc ?_ (fun k hk => ?_) fr most
  · have := om_len st.M
    have := h2.quota
    omega
  · have := om_keys h1.inv k hk
    exact ⟨by omega, by omega⟩
theorem sv_weight (h : SV w sb lb pb fb bb cb mb kb n v V d) : Calls Tryz.prog 31 #[Ptr sb] w fun e w' => e = .returned (I (sumA wO V : Nat)) ∧ w' = w := by
  obtain ⟨h0, st, f, h1, h2, h3, h4⟩ := h
  obtain ⟨C, hc, _⟩ := h1.core
  rw [← weight_same h1.inv.sorted h0 h4]
  exact oweight_any w sb pb lb mb kb _ st.M C hc
theorem sv_quota (h : SV w sb lb pb fb bb cb mb kb n v V d) : Calls Tryz.prog 36 #[Ptr sb] w fun e w' => e = .returned (I (quotaF n : Nat)) ∧ w' = w := by
  have hsm := h.small
  obtain ⟨h0, st, f, h1, h2, h3, h4⟩ := h
  obtain ⟨C, hc, _⟩ := h1.core
  exact oquota_any w sb pb lb mb kb fb bb cb n _ st.M C hc f h1.lg.pt hsm.1
def getF (V : OM) (k : Int) : List UInt8 := (valM V k).getD []
theorem sv_get (h : SV w sb lb pb fb bb cb mb kb n v V d) (k : Int) (hk : I64 k) : Calls Tryz.prog 33 #[Ptr sb, I k] w fun e w' => e = .returned (.tuple #[S (getF V k), .bool (valM V k).isSome]) ∧ Kept [] w w' := by
  obtain ⟨h0, st, f, h1, h2, h3, h4⟩ := h
  obtain ⟨C, hc, _⟩ := h1.core
  have := oget_any w sb pb lb mb kb _ st.M C hc k hk
  rw [show valF st.M k = getF V k from by unfold valF getF; rw [← h4 k]; rfl, show (findA st.M k).isSome = (valM V k).isSome from by rw [← h4 k]; unfold valM; rw [Option.isSome_map]] at this
  exact this
end
theorem laid_sv {n : Nat} {w w' : World} {e : Ending} (h : LaidPost n w e w') (h8 : 8 ≤ n) :
    ∃ fb bb cb pb sb lb mb kb rb v, e = .returned (.tuple #[Ptr fb, Ptr sb, Ptr rb]) ∧ SV w' sb lb pb fb bb cb mb kb n v [] 0 ∧ w'.heap[rb]? = some (.cells #[I n, .slice none 0 0] 42 (0, 0)) ∧ (∀ x, x ∈ StT sb lb fb bb cb mb kb v ∨ x = pb → w.heap.size ≤ x ∧ x < rb) ∧ Kept [] w w' := by
  obtain ⟨fb, bb, cb, pb, sb, lb, mb, kb, rb, v, h1, h2, h3, h4, h5⟩ := h
  exact ⟨fb, bb, cb, pb, sb, lb, mb, kb, rb, v, h1, ⟨List.Pairwise.nil, St0, _, h2, laid_good n h8, Nat.le_refl _, fun _ => rfl⟩, h3, h4, h5⟩
/-- One store, its blocks made behind w0, below B. -/
def Stand (w0 w : World) (fb sb n : Nat) (V : OM) (d B : Nat) : Prop :=
  ∃ bb cb pb lb mb kb v, SV w sb lb pb fb bb cb mb kb n v V d ∧ (∀ x, x ∈ StT sb lb fb bb cb mb kb v ∨ x = pb → w0.heap.size ≤ x ∧ x < B) ∧ B ≤ w.heap.size ∧ Kept [] w0 w
section
variable {w0 w : World} {fb sb n : Nat} {V : OM} {d B : Nat}
theorem Stand.same {w' : World} (h : Stand w0 w fb sb n V d B) (k : Kept [] w w') : Stand w0 w' fb sb n V d B := by
  obtain ⟨bb, cb, pb, lb, mb, kb, v, h1, h2, h3, h4⟩ := h
  exact ⟨bb, cb, pb, lb, mb, kb, v, h1.same k, h2, Nat.le_trans h3 k.size, h4.trans' k⟩
theorem Stand.old (h : Stand w0 w fb sb n V d B) : Kept [] w0 w := by obtain ⟨_, _, _, _, _, _, _, _, _, _, h4⟩ := h; exact h4
theorem Stand.top (h : Stand w0 w fb sb n V d B) : B ≤ w.heap.size := by obtain ⟨_, _, _, _, _, _, _, _, _, h3, _⟩ := h; exact h3
theorem stand_put (h : Stand w0 w fb sb n V d B) (hd : d ≤ 800000000) (l : List Ch) (cv : Value) (hv : ChsAt w cv l) (hvq : l ≠ [] → ∀ q, cv.ownBlock = some q → q < w0.heap.size ∨ B ≤ q) (hl : l.length ≤ 4611686018427387904) :
    Calls Tryz.prog 7 #[Ptr sb, cv] w fun e w' => e = .returned (I (mayF n V l)) ∧ Stand w0 w' fb sb n (putF n V l) (d + n) w'.heap.size := by
  obtain ⟨bb, cb, pb, lb, mb, kb, v, h1, h2, h3, h4⟩ := h
  refine (sv_put h1 hd l cv hv (fun hne q hq hm => ?_) hl).mono ?_
  · have := h2 q (.inl hm)
    have := hvq hne q hq
    omega
  · rintro e w' ⟨rfl, v', hfr, hs, hk⟩
    have hlt := hs.lt
    have hsz := hk.size
    refine ⟨rfl, bb, cb, pb, lb, mb, kb, v', hs, fun x hx => ?_, Nat.le_refl _, h4.new hk (fun x hx => (h2 x (.inl hx)).1)⟩
    rcases hx with hx | rfl
    · refine ⟨?_, hlt.1 x hx⟩
      by_cases hm : x ∈ StT sb lb fb bb cb mb kb v
      · exact (h2 x (.inl hm)).1
      · have h4s := h4.size
        simp only [StT, LgT, List.mem_append, Option.mem_toList] at hx hm
        rcases hx with hx | hx | hx
        · exact absurd (.inl hx) hm
        · exact absurd (.inr (.inl hx)) hm
        · rcases hfr x (by simpa using hx) with h | h
          · exact absurd (.inr (.inr (by simpa using h))) hm
          · omega
    · exact ⟨(h2 _ (.inr rfl)).1, hlt.2⟩
theorem stand_keys (h : Stand w0 w fb sb n V d B) (fr most : Int) :
    Calls Tryz.prog 30 #[Ptr sb, I fr, I most] w fun e w' => ∃ kv, e = .returned kv ∧ w'.ownsRow w.heap.size 3 1 kv (keysF V fr most).length ((keysF V fr most).map fun k => I k) ∧ Kept [] w w' := by
  obtain ⟨bb, cb, pb, lb, mb, kb, v, h1, _⟩ := h
  exact sv_keys h1 fr most
theorem stand_weight (h : Stand w0 w fb sb n V d B) : Calls Tryz.prog 31 #[Ptr sb] w fun e w' => e = .returned (I (sumA wO V : Nat)) ∧ w' = w := by
  obtain ⟨bb, cb, pb, lb, mb, kb, v, h1, _⟩ := h
  exact sv_weight h1
theorem stand_quota (h : Stand w0 w fb sb n V d B) : Calls Tryz.prog 36 #[Ptr sb] w fun e w' => e = .returned (I (quotaF n : Nat)) ∧ w' = w := by
  obtain ⟨bb, cb, pb, lb, mb, kb, v, h1, _⟩ := h
  exact sv_quota h1
theorem stand_get (h : Stand w0 w fb sb n V d B) (k : Int) (hk : I64 k) : Calls Tryz.prog 33 #[Ptr sb, I k] w fun e w' => e = .returned (.tuple #[S (getF V k), .bool (valM V k).isSome]) ∧ Kept [] w w' := by
  obtain ⟨bb, cb, pb, lb, mb, kb, v, h1, _⟩ := h
  exact sv_get h1 k hk
theorem stand_small (h : Stand w0 w fb sb n V d B) : 8 ≤ n ∧ n ≤ 255 ∧ sumA wO V ≤ quotaF n ∧ quotaF n ≤ 2000 := by
  obtain ⟨bb, cb, pb, lb, mb, kb, v, h1, _⟩ := h
  exact h1.small
end
theorem laid_stand {n : Nat} {w w' : World} {e : Ending} (h : LaidPost n w e w') (h8 : 8 ≤ n) :
    ∃ fb sb rb, e = .returned (.tuple #[Ptr fb, Ptr sb, Ptr rb]) ∧ Stand w w' fb sb n [] 0 w'.heap.size := by
  obtain ⟨fb, bb, cb, pb, sb, lb, mb, kb, rb, v, h1, h2, h3, h4, h5⟩ := laid_sv h h8
  refine ⟨fb, sb, rb, h1, bb, cb, pb, lb, mb, kb, v, h2, fun x hx => ⟨(h4 x hx).1, ?_⟩, Nat.le_refl _, h5⟩
  have := h2.lt
  rcases hx with hx | rfl
  · exact this.1 x hx
  · exact this.2
/-! ### fixed: the pure answers -/
def L1 : List Ch := [⟨5, zerosL 53, false⟩]
def L2 : List Ch := [⟨6, zerosL 54, false⟩, ⟨7, [], true⟩]
def L3 : List Ch := [⟨8, zerosL 257, false⟩]
def L4 : List Ch := [⟨8, zerosL 200, false⟩, ⟨9, zerosL 200, false⟩]
def L5 : List Ch := [⟨2, [], false⟩, ⟨1, [], false⟩]
def V1 : OM := takesF [] L1 0 0
def V2 : OM := takesF V1 L2 0 0
theorem p_may1 : mayF 8 [] L1 = 0 := by decide +kernel
theorem p_may2 : mayF 8 V1 L2 = 0 := by decide +kernel
theorem p_may3 : mayF 8 V2 L3 = 151 := by decide +kernel
theorem p_may4 : mayF 8 V2 L4 = 151 := by decide +kernel
theorem p_may5 : mayF 8 V2 L5 = 1 := by decide +kernel
theorem p_put1 : putF 8 [] L1 = V1 := by unfold putF; rw [if_pos p_may1]; rfl
theorem p_put2 : putF 8 V1 L2 = V2 := by unfold putF; rw [if_pos p_may2]; rfl
theorem p_put3 : putF 8 V2 L3 = V2 := by unfold putF; rw [if_neg (by rw [p_may3]; decide)]
theorem p_put4 : putF 8 V2 L4 = V2 := by unfold putF; rw [if_neg (by rw [p_may4]; decide)]
theorem p_put5 : putF 8 V2 L5 = V2 := by unfold putF; rw [if_neg (by rw [p_may5]; decide)]
theorem p_sum1 : sumA wO V1 = 1 := by decide +kernel
theorem p_sum2 : sumA wO V2 = 3 := by decide +kernel
theorem p_get : (getF V2 5).length = 53 := by decide +kernel
theorem p_is : (valM V2 5).isSome = true := by decide +kernel
theorem p_keys : keysF V2 1 9 = [5, 6] := by decide +kernel
theorem p_quota : quotaF 8 = 14 := by decide +kernel
end
section
set_option maxHeartbeats 8000000
set_option maxRecDepth 100000
/-! ### fixed: the small calls -/
theorem weight_big (w : World) : Calls Tryz.prog 38 #[I 257] w fun e w' => e = .returned (I 0) ∧ w' = w := by
  go_enter Tryz.func38, Tryz.ntmps38
  go_wp2_with (fail)
  go_ret
  exact ⟨rfl, rfl⟩
theorem sformat_small (w : World) (pb fb bb cb n : Nat) (f : Fl) (h : PtAt w pb fb bb cb 1 n f) (h8 : n < 8) :
    Calls Tryz.prog 18 #[Ptr pb] w fun e w' => e = .returned (.tuple #[.pointer none, I 150]) ∧ w' = w := by
  have HS := Lib.hid (size_any w pb fb bb cb 1 n f h)
  obtain ⟨N, hN⟩ : ∃ N : Nat, n * 512 = N := ⟨_, rfl⟩
  rw [hN] at HS
  have hNI : (N : Int) < 4096 := by omega
  clear h h8 hN
  go_enter Tryz.func18, Tryz.ntmps18
  go_wp2_with (fail)
  refine HS.out.mono ?_
  rintro e w1 ⟨rfl, rfl⟩
  go_wp2_with (fail)
  go_ret2
  exact ⟨rfl, rfl⟩
set_option maxHeartbeats 2000000 in
theorem over2_any (w : World) : Calls Tryz.prog 37 #[] w fun e w' => ∃ pb fb bb cb, e = .returned (Ptr pb) ∧ PtAt w' pb fb bb cb 1 2 (flNew 3) ∧ Kept [] w w' := by
  have HN := Lib.hid (fnew_any w 3 (by omega) (by omega))
  have HO := Lib.hid (fun W fb bb cb (h : FlAt W fb bb cb (flNew 3)) => over_any W fb bb cb 2 _ h (by omega) (by simp [flNew]))
  go_enter Tryz.func37, Tryz.ntmps37
  go_wp2_with (fail)
  refine HN.out.mono ?_
  rintro e w2 ⟨fb, bb, cb, rfl, g1, g2, g3, hf, k2⟩
  have H2 := Lib.hid (And.intro hf k2)
  clear g1 g2 g3 hf k2
  go_wp2_with (fail)
  refine (HO.out _ _ _ _ H2.out.1).mono ?_
  rintro e w3 ⟨pb, rfl, g4, hp, k3⟩
  have H3 := Lib.hid (And.intro hp (H2.out.2.trans' k3))
  clear g4 hp k3
  go_wp2_with (fail)
  go_ret
  exact ⟨pb, fb, bb, cb, rfl, H3.out.1, H3.out.2⟩
/-- A string of zeros, made. -/
theorem zeros_made (w : World) (n : Nat) (h : n ≤ 1000) : ∃ W, (Instr.makeSlice 64 (I n) (I n)).run Tryz.prog w = .ok (.slice (some ⟨w.heap.size, 0, none⟩) n n) W ∧ Kept [] w W ∧ W.heap.size = w.heap.size + 1 ∧ ∀ c W', Kept [] W W' → (convert 64 9 (.slice (some ⟨w.heap.size, 0, none⟩) n c)).run Tryz.prog W' = .ok (S (zerosL n)) W' := by
  refine ⟨_, make_bytes w n (by omega), (Kept.refl [] w).alloc _, by rw [World.size_alloc], fun c W' k => ?_⟩
  have hr : Row W' w.heap.size (zerosL n) := k.at (heap_new w (.cells (Lib.byteCells (zerosL n)).toArray 5)) (by simp)
  have := conv_row hr c
  rw [zerosL_len] at this
  exact this
/-! ### fixed -/
theorem chs_one1 {w : World} {b : Nat} {t : TypeId} {k : Int} {l : List UInt8} {d : Bool} (h : w.heap[b]? = some (.cells #[I k, S l, .bool d] t (0, 0))) (c : Nat) : ChsAt w (.slice (some ⟨b, 0, none⟩) 1 c) [⟨k, l, d⟩] := by
  refine ⟨some ⟨b, 0, none⟩, c, b, 0, rfl, fun _ => rfl, fun i hi => ?_⟩
  obtain rfl : i = 0 := by simp at hi; omega
  refine ⟨?_, ?_, ?_⟩ <;> (rw [cell_at h]; rfl)
theorem chs_two {w : World} {b : Nat} {t : TypeId} {k j : Int} {l m : List UInt8} {d e : Bool} (h : w.heap[b]? = some (.cells #[I k, S l, .bool d, I j, S m, .bool e] t (0, 0))) (c : Nat) : ChsAt w (.slice (some ⟨b, 0, none⟩) 2 c) [⟨k, l, d⟩, ⟨j, m, e⟩] := by
  refine ⟨some ⟨b, 0, none⟩, c, b, 0, rfl, fun _ => rfl, fun i hi => ?_⟩
  rcases i with _ | _ | i
  · refine ⟨?_, ?_, ?_⟩ <;> (rw [cell_at h]; rfl)
  · refine ⟨?_, ?_, ?_⟩ <;> (rw [cell_at h]; rfl)
  · simp at hi; omega
theorem slice_own {b o len c q : Nat} (h : (Value.slice (some ⟨b, o, none⟩) len c).ownBlock = some q) : q = b := by
  simpa [Value.ownBlock, eq_comm] using h
section
variable {w0 w : World} {fb sb n : Nat} {V : OM} {d B : Nat}
theorem stand_put1 (h : Stand w0 w fb sb n V d B) (hd : d ≤ 800000000) {Wz : World} (kz : Kept [] w Wz) (k : Int) (l : List UInt8) (dr : Bool) :
    Calls Tryz.prog 7 #[Ptr sb, .slice (some ⟨Wz.heap.size, 0, none⟩) 1 1] (Wz.alloc (.cells #[I k, S l, .bool dr] 75)) fun e w' => e = .returned (I (mayF n V [⟨k, l, dr⟩])) ∧ Stand w0 w' fb sb n (putF n V [⟨k, l, dr⟩]) (d + n) w'.heap.size := by
  have hB := h.top
  have hz := kz.size
  refine stand_put (h.same (kz.alloc _)) hd _ _ (chs_one1 (heap_new Wz _) 1) (fun _ q hq => ?_) (by simp)
  have := slice_own hq
  omega
theorem stand_put2 (h : Stand w0 w fb sb n V d B) (hd : d ≤ 800000000) {Wz : World} (kz : Kept [] w Wz) (k : Int) (l : List UInt8) (dr : Bool) (k' : Int) (l' : List UInt8) (dr' : Bool) :
    Calls Tryz.prog 7 #[Ptr sb, .slice (some ⟨Wz.heap.size, 0, none⟩) 2 2] (Wz.alloc (.cells #[I k, S l, .bool dr, I k', S l', .bool dr'] 75)) fun e w' => e = .returned (I (mayF n V [⟨k, l, dr⟩, ⟨k', l', dr'⟩])) ∧ Stand w0 w' fb sb n (putF n V [⟨k, l, dr⟩, ⟨k', l', dr'⟩]) (d + n) w'.heap.size := by
  have hB := h.top
  have hz := kz.size
  refine stand_put (h.same (kz.alloc _)) hd _ _ (chs_two (heap_new Wz _) 2) (fun _ q hq => ?_) (by simp)
  have := slice_own hq
  omega
end
set_option maxHeartbeats 8000000 in
theorem fixed_any (w : World) : Calls Tryz.prog 14 #[] w fun e w' => e = .returned (.bool true) ∧ Kept [] w w' := by
  have HLA := Lib.hid (laid15_any w 8)
  have hb8 : blkF 8 = 8 := rfl
  rw [hb8] at HLA
  go_enter Tryz.func14, Tryz.ntmps14
  go_wp2_with (fail)
  refine HLA.out.mono ?_
  intro e w2 hla
  obtain ⟨fb, sb, rb, rfl, hs⟩ := laid_stand hla (by omega)
  have H2 := Lib.hid hs
  have HQ := Lib.hid (stand_quota hs)
  have HW := Lib.hid (stand_weight hs)
  rw [p_quota] at HQ
  replace HW : Hid (Calls Tryz.prog 31 #[Ptr sb] w2 fun e w' => e = .returned (I 0) ∧ w' = w2) := HW
  replace HQ : Hid (Calls Tryz.prog 36 #[Ptr sb] w2 fun e w' => e = .returned (I 14) ∧ w' = w2) := HQ
  clear hs hla HLA
  go_wp2_with (fail)
  refine HQ.out.mono ?_
  rintro e w3 ⟨rfl, rfl⟩
  go_wp2_with (fail)
  refine HW.out.mono ?_
  rintro e w4 ⟨rfl, rfl⟩
  clear HQ HW
  obtain ⟨Wz, z1, z2, z3, z4⟩ := zeros_made w4 53 (by omega)
  have z1' : (Instr.makeSlice 64 (I 53) (I 53)).run Tryz.prog w4 = .ok (.slice (some ⟨w4.heap.size, 0, none⟩) 53 53) Wz := z1
  have z5 := z4 53 Wz (Kept.refl _ _)
  obtain ⟨zs, hzs⟩ : ∃ zs, zerosL 53 = zs := ⟨_, rfl⟩
  rw [hzs] at z5
  have HZ := Lib.hid (And.intro z2 (And.intro z3 hzs))
  clear z1 z2 z3 z4 hzs
  have hp1 : Hid (Calls Tryz.prog 7 #[Ptr sb, .slice (some ⟨Wz.heap.size, 0, none⟩) 1 1] (Wz.alloc (.cells #[I 5, S zs, .bool false] 75)) fun e w' => e = .returned (I 0) ∧ Stand w w' fb sb 8 V1 8 w'.heap.size) := Lib.hid (by
    have h := stand_put1 H2.out (by omega) HZ.out.1 5 zs false
    rw [← HZ.out.2.2] at h ⊢
    have e1 : mayF 8 [] [⟨5, zerosL 53, false⟩] = 0 := p_may1
    have e2 : putF 8 [] [⟨5, zerosL 53, false⟩] = V1 := p_put1
    rw [e1, e2] at h
    exact h)
  go_wp2_with (fail)
  refine hp1.out.mono ?_
  rintro e w5 ⟨rfl, hs⟩
  clear H2 hp1 z1' z5 HZ
  have H5 := Lib.hid hs
  have HW := Lib.hid (stand_weight hs)
  rw [p_sum1] at HW
  replace HW : Hid (Calls Tryz.prog 31 #[Ptr sb] w5 fun e w' => e = .returned (I 1) ∧ w' = w5) := HW
  clear hs
  go_wp2_with (fail)
  refine HW.out.mono ?_
  rintro e w6 ⟨rfl, rfl⟩
  clear HW
  obtain ⟨Wy, z1, z2, z3, z4⟩ := zeros_made w6 54 (by omega)
  have z1' : (Instr.makeSlice 64 (I 54) (I 54)).run Tryz.prog w6 = .ok (.slice (some ⟨w6.heap.size, 0, none⟩) 54 54) Wy := z1
  have z5 := z4 54 Wy (Kept.refl _ _)
  obtain ⟨ys, hys⟩ : ∃ ys, zerosL 54 = ys := ⟨_, rfl⟩
  rw [hys] at z5
  have hp2 : Hid (Calls Tryz.prog 7 #[Ptr sb, .slice (some ⟨Wy.heap.size, 0, none⟩) 2 2] (Wy.alloc (.cells #[I 6, S ys, .bool false, I 7, S [], .bool true] 75)) fun e w' => e = .returned (I 0) ∧ Stand w w' fb sb 8 V2 16 w'.heap.size) := Lib.hid (by
    have h := stand_put2 H5.out (by omega) z2 6 ys false 7 [] true
    rw [← hys] at h ⊢
    have e1 : mayF 8 V1 [⟨6, zerosL 54, false⟩, ⟨7, [], true⟩] = 0 := p_may2
    have e2 : putF 8 V1 [⟨6, zerosL 54, false⟩, ⟨7, [], true⟩] = V2 := p_put2
    rw [e1, e2] at h
    exact h)
  clear z1 z2 z3 z4 hys
  go_wp2_with (fail)
  refine hp2.out.mono ?_
  rintro e w7 ⟨rfl, hs⟩
  clear H5 hp2 z1' z5
  have H7 := Lib.hid hs
  clear hs
  obtain ⟨Wx, z1, z2, z3, z4⟩ := zeros_made w7 257 (by omega)
  have z1' : (Instr.makeSlice 64 (I 257) (I 257)).run Tryz.prog w7 = .ok (.slice (some ⟨w7.heap.size, 0, none⟩) 257 257) Wx := z1
  have z5 := z4 257 Wx (Kept.refl _ _)
  obtain ⟨xs, hxs⟩ : ∃ xs, zerosL 257 = xs := ⟨_, rfl⟩
  rw [hxs] at z5
  have hp3 : Hid (Calls Tryz.prog 7 #[Ptr sb, .slice (some ⟨Wx.heap.size, 0, none⟩) 1 1] (Wx.alloc (.cells #[I 8, S xs, .bool false] 75)) fun e w' => e = .returned (I 151) ∧ Stand w w' fb sb 8 V2 24 w'.heap.size) := Lib.hid (by
    have h := stand_put1 H7.out (by omega) z2 8 xs false
    rw [← hxs] at h ⊢
    have e1 : mayF 8 V2 [⟨8, zerosL 257, false⟩] = 151 := p_may3
    have e2 : putF 8 V2 [⟨8, zerosL 257, false⟩] = V2 := p_put3
    rw [e1, e2] at h
    exact h)
  clear z1 z2 z3 z4 hxs
  go_wp2_with (fail)
  refine hp3.out.mono ?_
  rintro e w8 ⟨rfl, hs⟩
  clear H7 hp3 z1' z5
  have H8 := Lib.hid hs
  clear hs
  obtain ⟨Wa, a1, a2, a3, a4⟩ := zeros_made w8.drew 200 (by omega)
  obtain ⟨Wb, b1, b2, b3, b4⟩ := zeros_made Wa 200 (by omega)
  have a1' : (Instr.makeSlice 64 (I 200) (I 200)).run Tryz.prog w8.drew = .ok (.slice (some ⟨w8.heap.size, 0, none⟩) 200 200) Wa := a1
  have b1' : (Instr.makeSlice 64 (I 200) (I 200)).run Tryz.prog Wa = .ok (.slice (some ⟨Wa.heap.size, 0, none⟩) 200 200) Wb := b1
  have c1 : (convert 64 9 (.slice (some ⟨w8.heap.size, 0, none⟩) 200 200)).run Tryz.prog Wa = .ok (S (zerosL 200)) Wa := a4 200 Wa (Kept.refl _ _)
  have c2 : (convert 64 9 (.slice (some ⟨w8.heap.size, 0, none⟩) 200 200)).run Tryz.prog Wb = .ok (S (zerosL 200)) Wb := a4 200 Wb b2
  have c3 : (convert 64 9 (.slice (some ⟨Wa.heap.size, 0, none⟩) 200 200)).run Tryz.prog Wb = .ok (S (zerosL 200)) Wb := b4 200 Wb (Kept.refl _ _)
  obtain ⟨us, hus⟩ : ∃ us, zerosL 200 = us := ⟨_, rfl⟩
  rw [hus] at c1 c2 c3
  have hp4 : Hid (Calls Tryz.prog 7 #[Ptr sb, .slice (some ⟨Wb.heap.size, 0, none⟩) 2 2] (Wb.alloc (.cells #[I 8, S us, .bool false, I 9, S us, .bool false] 75)) fun e w' => e = .returned (I 151) ∧ Stand w w' fb sb 8 V2 32 w'.heap.size) := Lib.hid (by
    have h := stand_put2 H8.out (by omega) (((Kept.refl [] w8).drew.trans' a2).trans' b2) 8 us false 9 us false
    rw [← hus] at h ⊢
    have e1 : mayF 8 V2 [⟨8, zerosL 200, false⟩, ⟨9, zerosL 200, false⟩] = 151 := p_may4
    have e2 : putF 8 V2 [⟨8, zerosL 200, false⟩, ⟨9, zerosL 200, false⟩] = V2 := p_put4
    rw [e1, e2] at h
    exact h)
  clear a1 a2 a3 a4 b1 b2 b3 b4 hus
  go_upto_region 8 with (fail)
  go_cut [8] from 57 to 66 (fun v8 wx => v8 = I 151 ∧ Stand w wx fb sb 8 V2 32 wx.heap.size)
  case first =>
    go_region_with (first
      | (go_at_call 7; (with_reducible refine hp4.out.mono ?_); rintro e w9 ⟨rfl, hs⟩))
    all_goals
      go_wp2
      go_meet
      exact ⟨rfl, hs⟩
  case rest =>
  obtain ⟨rfl, hs⟩ := hcut
  clear H8 hp4 a1' b1' c1 c2 c3
  have H9 := Lib.hid hs
  clear hs
  have hp5 : Hid (Calls Tryz.prog 7 #[Ptr sb, .slice (some ⟨wc.heap.size, 0, none⟩) 2 2] (wc.alloc (.cells #[I 2, S [], .bool false, I 1, S [], .bool false] 75)) fun e w' => e = .returned (I 1) ∧ Stand w w' fb sb 8 V2 40 w'.heap.size) := Lib.hid (by
    have h := stand_put2 H9.out (by omega) (Kept.refl _ _) 2 [] false 1 [] false
    have e1 : mayF 8 V2 [⟨2, [], false⟩, ⟨1, [], false⟩] = 1 := p_may5
    have e2 : putF 8 V2 [⟨2, [], false⟩, ⟨1, [], false⟩] = V2 := p_put5
    rw [e1, e2] at h
    exact h)
  go_wp2_with (fail)
  refine hp5.out.mono ?_
  rintro e w10 ⟨rfl, hs⟩
  clear H9 hp5
  have HG := Lib.hid (stand_get hs 5 ⟨by omega, by omega⟩)
  obtain ⟨gs, hgs⟩ : ∃ gs, getF V2 5 = gs := ⟨_, rfl⟩
  have hgl : gs.length = 53 := by rw [← hgs]; exact p_get
  rw [hgs, p_is] at HG
  have H10 := Lib.hid hs
  clear hs hgs
  go_wp2_with (fail)
  refine HG.out.mono ?_
  rintro e w11 ⟨rfl, k11⟩
  have hs := H10.out.same k11
  clear H10 HG k11
  have HKY := Lib.hid (stand_keys hs 1 9)
  rw [p_keys] at HKY
  have H11 := Lib.hid hs
  clear hs
  go_wp2_with (fail)
  refine HKY.out.mono ?_
  rintro e w12 ⟨kv, rfl, own, k12⟩
  have hs := H11.out.same k12
  obtain ⟨g, c, rfl, hbg, hcc⟩ := row_cells1 own (by decide)
  have d0 := hcc 0 (by decide)
  have d1 := hcc 1 (by decide)
  have H12 := Lib.hid hs
  have D := Lib.hid (And.intro d0 d1)
  clear hs own k12 H11 HKY hcc d0 d1
  go_wp2_with (fail)
  refine (over2_any _).mono ?_
  rintro e w13 ⟨pb, fb2, bb2, cb2, rfl, hpt, k13⟩
  have HFS := Lib.hid (sformat_small w13 pb fb2 bb2 cb2 2 _ hpt (by omega))
  have H13 := Lib.hid (H12.out.same k13)
  have d0 : w13.cell? ⟨g, 0, none⟩ = some (I 5) := k13.cellOf D.out.1
  have d1 : w13.cell? ⟨g, 1, none⟩ = some (I 6) := k13.cellOf D.out.2
  clear H12 D hpt k13
  go_wp2_with (fail)
  refine HFS.out.mono ?_
  rintro e w14 ⟨rfl, rfl⟩
  have HW := Lib.hid (stand_weight H13.out)
  rw [p_sum2] at HW
  replace HW : Hid (Calls Tryz.prog 31 #[Ptr sb] w14 fun e w' => e = .returned (I 3) ∧ w' = w14) := HW
  clear HFS
  go_wp2_with (fail)
  refine HW.out.mono ?_
  rintro e w15 ⟨rfl, rfl⟩
  clear HW
  go_wp2_with (fail)
  refine (weight_big _).mono ?_
  rintro e w16 ⟨rfl, rfl⟩
  go_wp2_with (fail)
  go_ret
  exact ⟨rfl, H13.out.old⟩
end
section
set_option maxHeartbeats 8000000
set_option maxRecDepth 100000
/-! ### A script in memory -/
structure OpC where
  kind : Int
  n : Int
  keep : Int
  mask : UInt8
  ch : List Ch
def OpsAt (w : World) (v : Value) (l : List OpC) : Prop := ∃ p c b o, v = .slice p l.length c ∧ (l ≠ [] → p = some ⟨b, o, none⟩) ∧
  (∀ (i : Nat) (hi : i < l.length), w.cell? ⟨b, o + i * 5, none⟩ = some (I l[i].kind) ∧ w.cell? ⟨b, o + i * 5 + 1, none⟩ = some (I l[i].n) ∧ w.cell? ⟨b, o + i * 5 + 2, none⟩ = some (I l[i].keep) ∧ w.cell? ⟨b, o + i * 5 + 3, none⟩ = some (B l[i].mask) ∧
    ∃ cv, w.cell? ⟨b, o + i * 5 + 4, none⟩ = some cv ∧ ChsAt w cv l[i].ch) ∧
  (∀ x ∈ l, x.ch.length ≤ 4611686018427387904) ∧ l.length ≤ 4611686018427387904
theorem OpsAt.same {w w' : World} {v : Value} {l : List OpC} (h : OpsAt w v l) (k : Kept [] w w') : OpsAt w' v l := by
  obtain ⟨p, c, b, o, rfl, hp, hc, h1, h2⟩ := h
  refine ⟨p, c, b, o, rfl, hp, fun i hi => ?_, h1, h2⟩
  obtain ⟨a0, a1, a2, a3, cv, a4, a5⟩ := hc i hi
  exact ⟨k.cellOf a0, k.cellOf a1, k.cellOf a2, k.cellOf a3, cv, k.cellOf a4, a5.same k⟩
theorem form_range (last : Int) (l : List Ch) : formG last l = 0 ∨ formG last l = 1 ∨ formG last l = 151 := by
  induction l generalizing last with
  | nil => exact .inl rfl
  | cons c l ih =>
    unfold formG
    split
    · exact .inr (.inr rfl)
    · split
      · exact .inr (.inl rfl)
      · exact ih _
theorem may_range (n : Nat) (V : OM) (l : List Ch) : mayF n V l = 0 ∨ mayF n V l = 1 ∨ mayF n V l = 151 ∨ mayF n V l = 152 := by
  unfold mayF
  split
  · have := form_range 0 l
    unfold formF
    omega
  · split
    · exact .inr (.inr (.inl rfl))
    · split
      · exact .inr (.inr (.inr rfl))
      · exact .inl rfl
theorem put_else {n : Nat} {V : OM} {l : List Ch} (h : mayF n V l ≠ 0) : putF n V l = V := by unfold putF; rw [if_neg h]
/-! ### ObjsRoom -/
end

end Go.Proofs.YtncdfaocemfgfaaGreat
