/- Walks and lemmas on the program of this seat, used by its statements; each theorem bears its own conditions. -/
import Derived.Test.YtncdfaocemfgfaaGreatKQ
import Derived.Test.YtncdfaocemfgfaaGreatXPG
import Derived.Handy
import Derived.OwnWalk
import Derived.Deep.AppendLies
import Derived.IntWalk
import Derived.Deep.CutRange
import Derived.Deep.RegionHeld3
import Derived.Deep.RegionLaw
import Derived.Maps.OwnSet
import Derived.Maps.Range
import Derived.Laws.IdiomCopy
import Derived.Deep.OwnRows
namespace Go.Proofs.YtncdfaocemfgfaaGreat
open Go.RowKit
set_option linter.unusedVariables false
set_option linter.unusedSimpArgs false
section
set_option maxHeartbeats 8000000
set_option maxRecDepth 100000
/-! ### The law's worlds -/
/-- P holds of blocks T, made behind W; the blocks U, apart from them, are as they were in Wr. -/
def LW (W Wr : World) (U : List Nat) (P : World → List Nat → Prop) (w : World) : Prop :=
  ∃ T, P w T ∧ (∀ x ∈ T, x < w.heap.size) ∧ (∀ x ∈ U, x ∉ T ∧ x < w.heap.size ∧ w.heap[x]? = Wr.heap[x]?) ∧ (∀ x ∈ T, W.heap.size ≤ x) ∧ Kept [] W w
section
variable {W Wr w : World} {U : List Nat} {P : World → List Nat → Prop}
theorem LW.old (h : LW W Wr U P w) : Kept [] W w := by obtain ⟨T, h1, h2, h3, h4, h5⟩ := h; exact h5
theorem LW.cell (h : LW W Wr U P w) {b i : Nat} {v : Value} (hb : b ∈ U) (hc : Wr.cell? ⟨b, i, none⟩ = some v) : w.cell? ⟨b, i, none⟩ = some v := by
  obtain ⟨T, h1, h2, h3, h4, h5⟩ := h
  exact (World.cell?_of_block (w := Wr) (h3 b hb).2.2).trans hc
theorem LW.ps (h : LW W Wr U P w) {v : Value} {l : VL} (hp : PsAt Wr v l) (hq : ∀ q, v.ownBlock = some q → q ∈ U) : PsAt w v l := by
  obtain ⟨p, c, g, rfl, hp, hc⟩ := hp
  refine ⟨p, c, g, rfl, hp, fun i hi => ?_⟩
  have e := hp (by intro h; rw [h] at hi; simp at hi)
  subst e
  have hg := hq g rfl
  exact ⟨h.cell hg (hc i hi).1, h.cell hg (hc i hi).2⟩
theorem LW.rebase (h : LW W Wr U P w) : LW W w U P w := by
  obtain ⟨T, h1, h2, h3, h4, h5⟩ := h
  exact ⟨T, h1, h2, fun x hx => ⟨(h3 x hx).1, (h3 x hx).2.1, rfl⟩, h4, h5⟩
theorem LW.sub {U' : List Nat} (h : LW W Wr U P w) (hU : ∀ x ∈ U', x ∈ U) : LW W Wr U' P w := by
  obtain ⟨T, h1, h2, h3, h4, h5⟩ := h
  exact ⟨T, h1, h2, fun x hx => h3 x (hU x hx), h4, h5⟩
/-- Nothing but new memory. -/
theorem LW.same (h : LW W Wr U P w) {w' : World} (k : Kept [] w w') (hP : ∀ T, P w T → P w' T) : LW W Wr U P w' := by
  obtain ⟨T, h1, h2, h3, h4, h5⟩ := h
  exact ⟨T, hP T h1, fun x hx => Nat.lt_of_lt_of_le (h2 x hx) k.size, fun x hx => ⟨(h3 x hx).1, Nat.lt_of_lt_of_le (h3 x hx).2.1 k.size, (k.block x (h3 x hx).2.1 (by simp)).trans (h3 x hx).2.2⟩, h4, h5.trans' k⟩
/-- A new block is to stay, too. -/
theorem LW.add (h : LW W Wr U P w) {w' : World} (k : Kept [] w w') (hP : ∀ T, P w T → P w' T) {b : Nat} (hb : w.heap.size ≤ b) (hb2 : b < w'.heap.size) : LW W w' (b :: U) P w' := by
  obtain ⟨T, h1, h2, h3, h4, h5⟩ := h
  refine ⟨T, hP T h1, fun x hx => Nat.lt_of_lt_of_le (h2 x hx) k.size, fun x hx => ?_, h4, h5.trans' k⟩
  rcases List.mem_cons.1 hx with rfl | hx
  · exact ⟨fun hm => by have := h2 x hm; omega, hb2, rfl⟩
  · exact ⟨(h3 x hx).1, Nat.lt_of_lt_of_le (h3 x hx).2.1 k.size, rfl⟩
theorem LW.turn (h : LW W Wr U P w) {f : Nat} {args : Array Value} {A : Type} (R : A → Ending → Prop) (Q : A → World → List Nat → Prop)
    (hc : ∀ T, P w T → Calls Tryz.prog f args w (fun e w' => ∃ a, R a e ∧ ∃ T', Q a w' T' ∧ (∀ x ∈ T', x < w'.heap.size) ∧ Kept T w w' ∧ (∀ x ∈ T', x ∈ T ∨ w.heap.size ≤ x))) :
    Calls Tryz.prog f args w (fun e w' => ∃ a, R a e ∧ LW W Wr U (Q a) w') := by
  obtain ⟨T, h1, h2, h3, h4, h5⟩ := h
  refine (hc T h1).mono ?_
  rintro e w' ⟨a, hR, T', hQ, hlt, k, hfr⟩
  have hWs := h5.size
  refine ⟨a, hR, T', hQ, hlt, fun x hx => ⟨fun hm => ?_, Nat.lt_of_lt_of_le (h3 x hx).2.1 k.size, (k.block x (h3 x hx).2.1 (h3 x hx).1).trans (h3 x hx).2.2⟩, fun x hx => ?_, h5.new k (fun x hx => h4 x hx)⟩
  · rcases hfr x hm with h | h
    · exact (h3 x hx).1 h
    · have := (h3 x hx).2.1; omega
  · rcases hfr x hx with h | h
    · exact h4 x h
    · omega
/-- What a pure look tells. -/
theorem LW.look (h : LW W Wr U P w) {f : Nat} {args : Array Value} {R : Ending → World → Prop} (hc : ∀ T, P w T → Calls Tryz.prog f args w R) : Calls Tryz.prog f args w R := by
  obtain ⟨T, h1, _⟩ := h
  exact hc T h1
end
theorem LW.doc {W Wr w : World} {U : List Nat} {P : World → List Nat → Prop} (h : LW W Wr U P w) {rb n : Nat} {v : Value} {V : OM} (hd : DocAt Wr rb n v V) (hr : rb ∈ U) (hq : ∀ q, v.ownBlock = some q → q ∈ U) : DocAt w rb n v V := by
  refine ⟨?_, h.ps hd.2 hq⟩
  obtain ⟨T, h1, h2, h3, h4, h5⟩ := h
  exact (h3 rb hr).2.2.trans hd.1
/-! ### The store of the law, whole or with its power gone -/
def PF (w : World) (fb n : Nat) (V1 V2 : OM) (d : Nat) (T : List Nat) : Prop := ∃ bb cb g, T = [fb, bb, cb] ∧ FLK w fb bb cb n g V1 V2 d ∧ g.dead = true
section
variable {w : World} {fb sb n : Nat} {V V1 V2 : OM} {d : Nat} {T : List Nat}
theorem STK.lt (h : STK w fb sb n V d T) : ∀ x ∈ T, x < w.heap.size := by
  obtain ⟨bb, cb, pb, lb, mb, kb, v, st, f, rfl, h, _⟩ := h
  intro x hx
  rcases List.mem_cons.1 hx with rfl | hx
  · exact h.lt.2
  · exact h.lt.1 x hx
theorem STK.same {w' : World} (h : STK w fb sb n V d T) (k : Kept [] w w') : STK w' fb sb n V d T := by
  obtain ⟨bb, cb, pb, lb, mb, kb, v, st, f, e, h1, h2⟩ := h
  exact ⟨bb, cb, pb, lb, mb, kb, v, st, f, e, h1.same k, h2⟩
theorem STK.kept {w' : World} {U : List Nat} (h : STK w fb sb n V d T) (k : Kept U w w') (hU : ∀ x ∈ U, x ∉ T) : STK w' fb sb n V d T := by
  obtain ⟨bb, cb, pb, lb, mb, kb, v, st, f, e, h1, h2⟩ := h
  subst e
  exact ⟨bb, cb, pb, lb, mb, kb, v, st, f, rfl, h1.kept k (fun x hx => by have := hU x hx; simp only [List.mem_cons, not_or] at this; exact ⟨this.2, this.1⟩), h2⟩
theorem STK.mono {d' : Nat} (h : STK w fb sb n V d T) (hd : d ≤ d') : STK w fb sb n V d' T := by
  obtain ⟨bb, cb, pb, lb, mb, kb, v, st, f, e, h1, h2, h3, h4, h5, h6⟩ := h
  exact ⟨bb, cb, pb, lb, mb, kb, v, st, f, e, h1, h2, h3, h4, by omega, h6⟩
theorem STK.rd (h : STK w fb sb n V d T) : RD w sb V := by
  obtain ⟨bb, cb, pb, lb, mb, kb, v, st, f, e, h1, h2, h3, h4, h5, h6⟩ := h
  obtain ⟨C, hc, _⟩ := h1.core
  have hb := h1.bound.1
  have := h2.quota
  exact ⟨h3, mb, st.M, false, hc.toX, h1.inv.inv.sorted, h4, om_keys h1.inv.inv, by unfold quotaF at this; omega, vals_of h1.inv.inv⟩
theorem STK.small (h : STK w fb sb n V d T) : 8 ≤ n ∧ n ≤ 255 ∧ sumA wO V ≤ quotaF n ∧ quotaF n ≤ 2000 := by
  obtain ⟨bb, cb, pb, lb, mb, kb, v, st, f, e, h1, h2, h3, h4, h5, h6⟩ := h
  have hb := h1.bound.1
  refine ⟨h2.eight, by omega, ?_, by unfold quotaF; omega⟩
  rw [← weight_same h1.inv.inv.sorted h3 h4]
  exact h2.quota
theorem PF.lt (h : PF w fb n V1 V2 d T) : ∀ x ∈ T, x < w.heap.size := by
  obtain ⟨bb, cb, g, rfl, h, _⟩ := h
  have := h.1.lt
  have := h.1.lt2
  have := h.1.lt3
  intro x hx
  simp at hx
  omega
theorem PF.same {w' : World} (h : PF w fb n V1 V2 d T) (k : Kept [] w w') : PF w' fb n V1 V2 d T := by
  obtain ⟨bb, cb, g, e, h, hd⟩ := h
  exact ⟨bb, cb, g, e, ⟨h.1.same k, h.2⟩, hd⟩
theorem PF.kept {w' : World} {U : List Nat} (h : PF w fb n V1 V2 d T) (k : Kept U w w') (hU : ∀ x ∈ U, x ∉ T) : PF w' fb n V1 V2 d T := by
  obtain ⟨bb, cb, g, rfl, h, hd⟩ := h
  refine ⟨bb, cb, g, rfl, ⟨h.1.kept k (fun hm => hU _ hm (by simp)) (fun hm => hU _ hm (by simp)) (fun hm => hU _ hm (by simp)), h.2⟩, hd⟩
theorem CrP.mono {f : Fl} {d' : Nat} (h : CrP n f V d) (hd : d ≤ d') : CrP n f V d' := h.vals (fun _ => rfl) hd
theorem PF.mono {d' : Nat} (h : PF w fb n V1 V2 d T) (hd : d ≤ d') : PF w fb n V1 V2 d' T := by
  obtain ⟨bb, cb, g, e, ⟨a, b, c, x⟩, hg⟩ := h
  exact ⟨bb, cb, g, e, ⟨a, b, c, x.imp (·.mono hd) (·.mono hd)⟩, hg⟩
def PutQ (fb sb n : Nat) (V : OM) (l : List Ch) (d : Nat) (r : Int) (w : World) (T : List Nat) : Prop :=
  (r = mayF n V l ∧ STK w fb sb n (putF n V l) d T) ∨ (r = 2 ∧ mayF n V l = 0 ∧ PF w fb n V (putF n V l) d T)
theorem PutQ.lt {l : List Ch} {r : Int} (h : PutQ fb sb n V l d r w T) : ∀ x ∈ T, x < w.heap.size := by
  rcases h with ⟨_, h⟩ | ⟨_, _, h⟩
  · exact h.lt
  · exact h.lt
theorem stk_put (h : STK w fb sb n V d T) (hd : d ≤ 700000000) (l : List Ch) (cv : Value) (hv : ChsAt w cv l) (hvq : l ≠ [] → ∀ q, cv.ownBlock = some q → q ∉ T) (hl : l.length ≤ 4611686018427387904) :
    Calls Tryz.prog 7 #[Ptr sb, cv] w fun e w' => ∃ r : Int, e = .returned (I r) ∧ ∃ T', PutQ fb sb n V l (d + n + 1) r w' T' ∧ (∀ x ∈ T', x < w'.heap.size) ∧ Kept T w w' ∧ (∀ x ∈ T', x ∈ T ∨ w.heap.size ≤ x) := by
  obtain ⟨bb, cb, pb, lb, mb, kb, v, st, f, rfl, h1, h2, h3, h4, h5, h6⟩ := h
  have hm := mayF_val (n := n) h1.inv.inv.sorted h3 h4 l
  refine (oput_arm w sb lb pb fb bb cb mb kb n v st f h1 h2 (by omega) l cv hv (fun hne q hq => ⟨chs_lt hv hne q hq, fun hm => hvq hne q hq (List.mem_cons_of_mem _ hm)⟩) hl).mono ?_
  rintro e w' ⟨r, rfl, hp⟩
  have htv : mayF n V l = 0 → ∀ k, valM (takesF st.M l 0 0) k = valM (putF n V l) k := fun hz k => by
    unfold putF
    rw [if_pos hz]
    exact takes_val h1.inv.inv.sorted h3 h4 l (formG_ok 0 l (may_form hz)).1 0 0 0 0 k
  rcases hp with ⟨hr, v', st', f', hfr, hs, hk, hg, hD, hso, hval⟩ | ⟨hr, hz, g, hsd, hcr, hfl, hk⟩
  · rw [hm] at hr hval
    have hq : STK w' fb sb n (putF n V l) (d + n + 1) (pb :: StT sb lb fb bb cb mb kb v') := ⟨bb, cb, pb, lb, mb, kb, v', st', f', rfl, hs, hg, put_sorted h3, fun k => by
      rw [hval k]
      by_cases hz : mayF n V l = 0
      · rw [if_pos hz]; exact htv hz k
      · rw [if_neg hz]
        unfold putF
        rw [if_neg hz]
        exact h4 k, by omega, by rw [hso.cs]; exact h6⟩
    refine ⟨r, rfl, _, .inl ⟨hr, hq⟩, hq.lt, hk.mono (fun x hx => List.mem_cons_of_mem _ hx), fun x hx => ?_⟩
    rcases List.mem_cons.1 hx with rfl | hx
    · exact .inl List.mem_cons_self
    · rcases stT_fresh hfr x hx with h7 | h7
      · exact .inl (List.mem_cons_of_mem _ h7)
      · exact .inr h7
  · rw [hm] at hz
    have hq : PF w' fb n V (putF n V l) (d + n + 1) [fb, bb, cb] := ⟨bb, cb, g, rfl, ⟨hfl, hsd.keep, by rw [hsd.cs]; exact h6, by
      rcases hcr with hc | hc
      · exact .inl (hc.vals h4 (by omega))
      · exact .inr (hc.vals (htv hz) (by omega))⟩, hsd.dead⟩
    refine ⟨r, rfl, _, .inr ⟨hr, hz, hq⟩, hq.lt, hk.mono (fun x hx => List.mem_cons_of_mem _ hx), fun x hx => .inl ?_⟩
    simp at hx
    rcases hx with rfl | rfl | rfl <;> simp [StT, LgT]
theorem stk_arm (h : STK w fb sb n V d T) (N K : Int) (M : UInt8) (hN : N ≤ 9223372036854775807) :
    Calls Tryz.prog 8 #[Ptr fb, I N, I K, B M] w fun e w' => ∃ r : Int, e = .returned (I r) ∧ STK w' fb sb n V d T ∧ Kept T w w' := by
  have h0 := h
  obtain ⟨bb, cb, pb, lb, mb, kb, v, st, f, rfl, h1, h2, h3, h4, h5, h6⟩ := h
  by_cases hn : N < 0
  · refine (arm_no w fb bb cb f h1.lg.pt.fl h1.live.1 N K M hn).mono ?_
    rintro e w' ⟨rfl, rfl⟩
    exact ⟨1, rfl, h0, Kept.refl _ _⟩
  · refine (arm_yes w fb bb cb f h1.lg.pt.fl h1.live.1 N K M (by omega)).mono ?_
    rintro e w' ⟨rfl, hf, k⟩
    have := h1.arms k hf rfl rfl ⟨h1.live.1, by show 0 ≤ N; omega, hN, by show 0 ≤ max 0 K; omega⟩
    refine ⟨0, rfl, ⟨bb, cb, pb, lb, mb, kb, v, st, _, rfl, this, h2, h3, h4, h5, h6⟩, k.mono (fun x hx => ?_)⟩
    have : x = fb := by simpa using hx
    subst this
    simp [StT, LgT]
theorem stk_crash (h : STK w fb sb n V d T) : Calls Tryz.prog 9 #[Ptr fb] w fun e w' => e = .returned (I 0) ∧ ∃ T', PF w' fb n V V d T' ∧ (∀ x ∈ T', x < w'.heap.size) ∧ Kept T w w' ∧ (∀ x ∈ T', x ∈ T ∨ w.heap.size ≤ x) := by
  obtain ⟨bb, cb, pb, lb, mb, kb, v, st, f, rfl, h1, h2, h3, h4, h5, h6⟩ := h
  refine (crash_any w fb bb cb f h1.lg.pt.fl h1.live.1).mono ?_
  rintro e w' ⟨rfl, hf, k⟩
  have hq : PF w' fb n V V d [fb, bb, cb] := ⟨bb, cb, _, rfl, ⟨hf, h1.live.2.2.2, h6, .inl ((CrP.of h1.inv h1.fl h2.free h4 h5).bs rfl)⟩, rfl⟩
  refine ⟨rfl, _, hq, hq.lt, k.mono (fun x hx => ?_), fun x hx => .inl ?_⟩
  · have : x = fb := by simpa using hx
    subst this
    simp [StT, LgT]
  · simp at hx
    rcases hx with rfl | rfl | rfl <;> simp [StT, LgT]
theorem stk_fdead (h : STK w fb sb n V d T) : Calls Tryz.prog 10 #[Ptr fb] w fun e w' => e = .returned (.bool false) ∧ w' = w := by
  obtain ⟨bb, cb, pb, lb, mb, kb, v, st, f, rfl, h1, _⟩ := h
  have := fdead_any w fb bb cb f h1.lg.pt.fl
  rw [h1.live.1] at this
  exact this
theorem pf_fdead (h : PF w fb n V1 V2 d T) : Calls Tryz.prog 10 #[Ptr fb] w fun e w' => e = .returned (.bool true) ∧ w' = w := by
  obtain ⟨bb, cb, g, rfl, h1, h2⟩ := h
  have := fdead_any w fb bb cb g h1.1
  rw [h2] at this
  exact this
theorem stk_dead (h : STK w fb sb n V d T) : Calls Tryz.prog 11 #[Ptr sb] w fun e w' => e = .returned (.bool false) ∧ w' = w := by
  obtain ⟨bb, cb, pb, lb, mb, kb, v, st, f, rfl, h1, _⟩ := h
  obtain ⟨C, hc, _⟩ := h1.core
  exact xdead_any w sb mb _ _ false hc.toX
theorem pf_reopened (h : PF w fb n V1 V2 d T) (h8 : 8 ≤ n) (hn : n ≤ 255) (hs1 : SortedA V1) (hs2 : SortedA V2) (hq1 : sumA wO V1 ≤ quotaF n) (hq2 : sumA wO V2 ≤ quotaF n) (hd : d ≤ 800000000) (kd on okp : Int) (mk : UInt8) (cv : Value) :
    Calls Tryz.prog 13 #[Ptr fb, .agg #[I kd, I on, I okp, B mk, cv]] w fun e w' => ∃ a : Nat × OM, (e = .returned (Ptr a.1) ∧ (a.2 = V1 ∨ a.2 = V2)) ∧ ∃ T', STK w' fb a.1 n a.2 d T' ∧ (∀ x ∈ T', x < w'.heap.size) ∧ Kept T w w' ∧ (∀ x ∈ T', x ∈ T ∨ w.heap.size ≤ x) := by
  obtain ⟨bb, cb, g, rfl, h1, h2⟩ := h
  refine (reopened_any w fb bb cb n g V1 V2 d h1 h8 hn hs1 hs2 hq1 hq2 hd kd on okp mk cv).mono ?_
  rintro e w' ⟨sb, T', V, rfl, hV, hs, hk, hfr⟩
  exact ⟨(sb, V), ⟨rfl, hV⟩, T', hs, hs.lt, hk, hfr⟩
end
theorem laid_stk {n : Nat} {W w' : World} {e : Ending} (h : LaidPost n W e w') (h8 : 8 ≤ n) :
    ∃ fb sb rb T, e = .returned (.tuple #[Ptr fb, Ptr sb, Ptr rb]) ∧ STK w' fb sb n [] 0 T ∧ DocAt w' rb n (.slice none 0 0) [] ∧ (∀ x ∈ T, W.heap.size ≤ x ∧ x < rb) ∧ rb < w'.heap.size ∧ Kept [] W w' := by
  obtain ⟨fb, bb, cb, pb, sb, lb, mb, kb, rb, v, h1, h2, h3, h4, h5⟩ := h
  have hI := h2.inv
  have hb := h2.bound
  have hg := laid_good n h8
  have hst : St0.init.length = 0 := rfl
  have hseg : St0.segs = [[]] := rfl
  have hD0 : St0.D = 0 := rfl
  have hfl : FlX n (flLaid n) ⟨St0, 0⟩ false := by
    intro j hj
    have h6 := h2.fl j hj
    show match St0.segs[j]? with | some rs => ∃ u, SegIs (St0.D + j + 1) (rs.map recF) u (blockOf (flLaid n).bs (1 + (St0.D + j) % n)) ∧ (j = St0.init.length → u = 0) | none => JunkB (blockOf (flLaid n).bs (1 + (St0.D + j) % n)) ∨ (false = true ∧ j = St0.init.length + 1 ∧ j + 1 = n ∧ HeadB (St0.D + j + 1) (blockOf (flLaid n).bs (1 + (St0.D + j) % n)))
    rw [hseg] at h6 ⊢
    cases j with
    | zero =>
      have h6 : blockOf (flLaid n).bs (1 + (St0.D + 0) % n) = segB (St0.D + 0 + 1) [] := h6
      refine ⟨0, ?_, fun _ => rfl⟩
      rw [h6]
      have := SegIs.new (St0.D + 0 + 1)
      have e : segB (St0.D + 0 + 1) [] = newB (St0.D + 0 + 1) := by unfold segB segP newB; simp [usedF]
      rw [e]
      exact this
    | succ j =>
      have h6 : blockOf (flLaid n).bs (1 + (St0.D + (j + 1)) % n) = fullB := h6
      exact .inl (by rw [h6]; exact junk_full)
  have hsk : SAtK w' sb lb pb fb bb cb mb kb n v ⟨St0, 0⟩ (flLaid n) := ⟨h2.lg, h2.core, hfl, ⟨hI, by show usedS [] ≤ 0; simp [usedS], by show 0 ≤ 7; omega⟩, ⟨h2.live.1, by rw [h2.live.2]; decide, by rw [h2.live.2]; decide, by show (0 : Int) ≤ 0; decide⟩, h2.sep⟩
  have hq : STK w' fb sb n [] 0 (pb :: StT sb lb fb bb cb mb kb v) := ⟨bb, cb, pb, lb, mb, kb, v, ⟨St0, 0⟩, flLaid n, rfl, hsk, ⟨h8, by show St0.init.length + 2 ≤ n; omega, Nat.zero_le _⟩, List.Pairwise.nil, fun _ => rfl, Nat.le_refl _, hg.cs.2.2⟩
  refine ⟨fb, sb, rb, _, h1, hq, ⟨h3, PsAt.nil _⟩, fun x hx => ?_, lt_of_block h3, h5⟩
  rcases List.mem_cons.1 hx with rfl | hx
  · exact h4 _ (.inr rfl)
  · exact h4 _ (.inl hx)
/-! ### ObjsKeeps -/
/-- A step that leaves P's blocks alone. -/
theorem LW.step {W Wr w w' : World} {U U' S : List Nat} {P : World → List Nat → Prop} (h : LW W Wr U P w) (k : Kept S w w') (hS : ∀ x ∈ S, x ∈ U ∧ W.heap.size ≤ x) (hP : ∀ T, P w T → (∀ x ∈ S, x ∉ T) → P w' T) (hU : ∀ x ∈ U', x ∈ U ∨ (w.heap.size ≤ x ∧ x < w'.heap.size)) : LW W w' U' P w' := by
  obtain ⟨T, h1, h2, h3, h4, h5⟩ := h
  refine ⟨T, hP T h1 (fun x hx => (h3 x (hS x hx).1).1), fun x hx => Nat.lt_of_lt_of_le (h2 x hx) k.size, fun x hx => ?_, h4, h5.new k (fun x hx => (hS x hx).2)⟩
  rcases hU x hx with hx | hx
  · exact ⟨(h3 x hx).1, Nat.lt_of_lt_of_le (h3 x hx).2.1 k.size, rfl⟩
  · exact ⟨fun hm => by have := h2 x hm; omega, hx.2, rfl⟩
theorem LW.parts {W Wr w : World} {U : List Nat} {A B : World → List Nat → Prop} (h : LW W Wr U (fun w T => A w T ∨ B w T) w) : LW W Wr U A w ∨ LW W Wr U B w := by
  obtain ⟨T, h1, h2⟩ := h
  rcases h1 with h1 | h1
  · exact .inl ⟨T, h1, h2⟩
  · exact .inr ⟨T, h1, h2⟩
theorem LW.imp {W Wr w : World} {U : List Nat} {A B : World → List Nat → Prop} (h : LW W Wr U A w) (hi : ∀ T, A w T → B w T) : LW W Wr U B w := by
  obtain ⟨T, h1, h2⟩ := h
  exact ⟨T, hi T h1, h2⟩
abbrev PSK (fb sb n : Nat) (V : OM) (d : Nat) : World → List Nat → Prop := fun w T => STK w fb sb n V d T
abbrev PFK (fb n : Nat) (V1 V2 : OM) (d : Nat) : World → List Nat → Prop := fun w T => PF w fb n V1 V2 d T
/-- What the document's objects are like. -/
def ObsOK (n : Nat) (V : OM) : Prop := SortedA V ∧ (∀ p ∈ V, 1 ≤ p.1 ∧ p.1 ≤ 2147483647 ∧ p.2.val.length ≤ 256) ∧ V.length ≤ 2000 ∧ sumA wO V ≤ quotaF n
theorem obs_stk {w : World} {fb sb n : Nat} {V : OM} {d : Nat} {T : List Nat} (h : STK w fb sb n V d T) : ObsOK n V := by
  obtain ⟨a, b, c, e⟩ := h.rd.facts
  exact ⟨a, b, c, h.small.2.2.1⟩
/-- One of the document's stores, its blocks among U. -/
structure DocU (w : World) (U : List Nat) (W : World) (rb n : Nat) (V : OM) : Prop where
  ex : ∃ v, DocAt w rb n v V ∧ (∀ q, v.ownBlock = some q → q ∈ U ∧ q ≠ rb)
  r : rb ∈ U
  low : W.heap.size ≤ rb
theorem DocU.mono {w W : World} {U U' : List Nat} {rb n : Nat} {V : OM} (h : DocU w U W rb n V) (hU : ∀ x ∈ U, x ∈ U') : DocU w U' W rb n V := by
  obtain ⟨⟨v, h1, h2⟩, h3, h4⟩ := h
  exact ⟨⟨v, h1, fun q hq => ⟨hU q (h2 q hq).1, (h2 q hq).2⟩⟩, hU rb h3, h4⟩
theorem DocU.same {w w' W : World} {U : List Nat} {rb n : Nat} {V : OM} (h : DocU w U W rb n V) (k : Kept [] w w') : DocU w' U W rb n V := by
  obtain ⟨⟨v, h1, h2⟩, h3, h4⟩ := h
  exact ⟨⟨v, ⟨k.at h1.1 (by simp), h1.2.same k⟩, h2⟩, h3, h4⟩
theorem DocU.lw {w w' W : World} {U : List Nat} {P : World → List Nat → Prop} {rb n : Nat} {V : OM} (h : DocU w U W rb n V) (hl : LW W w U P w') : DocU w' U W rb n V := by
  obtain ⟨⟨v, h1, h2⟩, h3, h4⟩ := h
  exact ⟨⟨v, hl.doc h1 h3 (fun q hq => (h2 q hq).1), h2⟩, h3, h4⟩
theorem DocU.val {w W : World} {U : List Nat} {rb n : Nat} {V V' : OM} (h : DocU w U W rb n V) (e : mapA Ob.val V = mapA Ob.val V') : DocU w U W rb n V' := by
  obtain ⟨⟨v, h1, h2⟩, h3, h4⟩ := h
  exact ⟨⟨v, ⟨h1.1, by rw [← e]; exact h1.2⟩, h2⟩, h3, h4⟩
/-- The store, and the document's store. -/
def LawK (W w : World) (fb sb rb n : Nat) (V : OM) (d : Nat) : Prop := ∃ U, DocU w U W rb n V ∧ LW W w U (PSK fb sb n V d) w
theorem LawK.old {W w : World} {fb sb rb n : Nat} {V : OM} {d : Nat} (h : LawK W w fb sb rb n V d) : Kept [] W w := by obtain ⟨U, h1, h2⟩ := h; exact h2.old
theorem LawK.same {W w w' : World} {fb sb rb n : Nat} {V : OM} {d : Nat} (h : LawK W w fb sb rb n V d) (k : Kept [] w w') : LawK W w' fb sb rb n V d := by
  obtain ⟨U, h1, h2⟩ := h
  exact ⟨U, h1.same k, h2.step k (by simp) (fun T hT _ => hT.same k) (fun x hx => .inl hx)⟩
theorem laid_lawK {n : Nat} {W w' : World} {e : Ending} (h : LaidPost n W e w') (h8 : 8 ≤ n) :
    ∃ fb sb rb, e = .returned (.tuple #[Ptr fb, Ptr sb, Ptr rb]) ∧ LawK W w' fb sb rb n [] 0 := by
  obtain ⟨fb, sb, rb, T, h1, h2, h3, h4, h5, h6⟩ := laid_stk h h8
  have hne : T ≠ [] := by
    obtain ⟨bb, cb, pb, lb, mb, kb, v, st, f, e, _⟩ := h2
    rw [e]; simp
  refine ⟨fb, sb, rb, h1, [rb], ⟨⟨_, h3, fun q (hq : none = some q) => by cases hq⟩, by simp, ?_⟩, T, h2, fun x hx => by have := h4 x hx; omega, fun x hx => ?_, fun x hx => (h4 x hx).1, h6⟩
  · obtain ⟨x, hx⟩ := List.exists_mem_of_ne_nil T hne
    have := h4 x hx
    omega
  · have : x = rb := by simpa using hx
    subst this
    exact ⟨fun hm => by have := h4 _ hm; omega, h5, rfl⟩
/-- The document's Copy. -/
theorem lw_copy {W w : World} {U : List Nat} {P : World → List Nat → Prop} {rb n : Nat} {V : OM} (h : LW W w U P w) (hd : DocU w U W rb n V) (hP : ∀ w' T, Kept [] w w' → P w T → P w' T) :
    Calls Tryz.prog 5 #[Ptr rb] w fun e w' => ∃ rb' : Nat, e = .returned (Ptr rb') ∧ rb' ∉ U ∧ Kept [] w w' ∧ LW W w' (rb' :: U) P w' ∧ DocU w' (rb' :: U) W rb' n V := by
  obtain ⟨⟨v, h1, h2⟩, h3, h4⟩ := hd
  have hlt : ∀ x ∈ U, x < w.heap.size := fun x hx => by
    obtain ⟨T, _, _, h5, _⟩ := h
    exact (h5 x hx).2.1
  have hWw := h.old.size
  refine (rcopy_any w rb n v V h1 (fun q hq => hlt q (h2 q hq).1)).mono ?_
  rintro e w' ⟨rb', rfl, a1, a2, a3, k⟩
  refine ⟨rb', rfl, fun hm => by have := hlt _ hm; omega, k, h.step k (by simp) (fun T hT _ => hP w' T k hT) (fun x hx => ?_), ⟨v, a3, fun q hq => ⟨List.mem_cons_of_mem _ (h2 q hq).1, fun e => by have := hlt q (h2 q hq).1; omega⟩⟩, List.mem_cons_self, by omega⟩
  rcases List.mem_cons.1 hx with rfl | hx
  · exact .inr ⟨a1, a2⟩
  · exact .inl hx
/-- The document's Put into one of two stores. -/
theorem lw_rput {W w : World} {U : List Nat} {P : World → List Nat → Prop} {rb rb2 n : Nat} {V V2 : OM} (h : LW W w U P w) (hd : DocU w U W rb n V) (hd2 : DocU w U W rb2 n V2) (hne : rb2 ≠ rb) (hnq : ∀ v, DocAt w rb2 n v V2 → ∀ q, v.ownBlock = some q → q ≠ rb) (hV : ObsOK n V) (h8 : 8 ≤ n) (hn : n ≤ 255) (hP : ∀ w' T, Kept [rb] w w' → P w T → rb ∉ T → P w' T) (cv : Value) (l : List Ch) (hc : ChsAt w cv l) (hl : l.length ≤ 4611686018427387904) :
    Calls Tryz.prog 6 #[Ptr rb, cv] w fun e w' => e = .returned (I (mayF n V l)) ∧ Kept [rb] w w' ∧ ∃ U', (∀ x ∈ U, x ∈ U') ∧ LW W w' U' P w' ∧ DocU w' U' W rb n (putF n V l) ∧ DocU w' U' W rb2 n V2 := by
  obtain ⟨⟨v, h1, h2⟩, h3, h4⟩ := hd
  obtain ⟨a1, a2, a3, a4⟩ := hV
  refine (rput_any w rb n v V h1 (fun q hq => (h2 q hq).2) a1 h8 hn a3 (fun p hp => (a2 p hp).2.2) cv l hc hl).mono ?_
  rintro e w' ⟨rfl, v', b1, b2, k⟩
  have hlt : ∀ x ∈ U, x < w.heap.size := fun x hx => by
    obtain ⟨T, _, _, h5, _⟩ := h
    exact (h5 x hx).2.1
  have hone : ∀ x ∈ [rb], x = rb := fun x hx => by simpa using hx
  refine ⟨rfl, k, U ++ v'.ownBlock.toList, fun x hx => List.mem_append.2 (.inl hx), h.step k (fun x hx => by rw [hone x hx]; exact ⟨h3, h4⟩) (fun T hT hs => hP w' T k hT (hs rb (by simp))) (fun x hx => ?_), ⟨⟨v', b1, fun q hq => ⟨List.mem_append.2 (.inr (by simp [hq])), ?_⟩⟩, List.mem_append.2 (.inl h3), h4⟩, ?_⟩
  · rcases List.mem_append.1 hx with hx | hx
    · exact .inl hx
    · rcases b2 x (by simpa using hx) with h5 | h5
      · exact .inl (h2 x h5).1
      · exact .inr h5
  · rcases b2 q hq with h5 | h5
    · exact (h2 q h5).2
    · have := hlt rb h3; omega
  · obtain ⟨⟨v2, c1, c2⟩, c3, c4⟩ := hd2
    refine ⟨⟨v2, ⟨k.at c1.1 (by simpa using hne), c1.2.kept k (fun q hq => by simpa using hnq v2 c1 q hq)⟩, fun q hq => ⟨List.mem_append.2 (.inl (c2 q hq).1), (c2 q hq).2⟩⟩, List.mem_append.2 (.inl c3), c4⟩
theorem obs_put {n : Nat} {V : OM} {l : List Ch} (h : ObsOK n V) (w w' : World) (fb sb d : Nat) (T : List Nat) (hs : STK w fb sb n V d T) : ObsOK n (putF n V l) := by
  by_cases hz : mayF n V l = 0
  · obtain ⟨h1, h2, h3, h4⟩ := h
    have hff := may_form hz
    have hm2 : (recF l).length ≤ 400 ∧ becW V l (sumA wO V) ≤ quotaF n := by
      unfold mayF at hz
      rw [if_neg (by rw [hff]; simp)] at hz
      split at hz
      · cases hz
      · split at hz
        · cases hz
        · omega
    have hf := formF_ok hff hm2.1
    have hsum : sumA wO (takesF V l 0 0) ≤ quotaF n := by
      have e2 := becW_takes V 0 0 l hf.1 V h1 (fun _ _ => rfl)
      omega
    have hq := hs.small.2.2.2
    have hsrt := takes_sorted 0 0 l h1
    have e : putF n V l = takesF V l 0 0 := by unfold putF; rw [if_pos hz]
    rw [e]
    refine ⟨hsrt, fun p hp => ?_, by have := om_len (takesF V l 0 0); omega, hsum⟩
    have hfp := find_of_mem hsrt (k := p.1) (o := p.2) hp
    by_cases hk : ∃ c ∈ l, c.key = p.1
    · obtain ⟨c, hc, hcp⟩ := hk
      have h5 := takes_find 0 0 l hf.1 c hc h1
      rw [hcp, hfp] at h5
      have hfc := hf.2.1 c hc
      split at h5
      · cases h5
      · have e3 : p.2 = ⟨c.val, 0, 0⟩ := by simpa using h5
        rw [← hcp, e3]
        exact ⟨hfc.1, hfc.2.1, hfc.2.2.1⟩
    · rw [takes_other 0 0 l p.1 (fun c hc he => hk ⟨c, hc, he⟩) h1] at hfp
      exact h2 p (find_mem hfp)
  · have e : putF n V l = V := by unfold putF; rw [if_neg hz]
    rw [e]
    exact h
theorem LW.at {W Wr w : World} {U : List Nat} {P : World → List Nat → Prop} (h : LW W Wr U P w) {b : Nat} {o : Obj} (hb : b ∈ U) (hc : Wr.heap[b]? = some o) : w.heap[b]? = some o := by
  obtain ⟨T, h1, h2, h3, h4, h5⟩ := h
  exact (h3 b hb).2.2.trans hc
theorem lw_kput {W w : World} {U : List Nat} {fb sb n : Nat} {V : OM} {d : Nat} (h : LW W w U (PSK fb sb n V d) w) (hd : d ≤ 700000000) (l : List Ch) (cv : Value) (hv : ChsAt w cv l) (hvq : l ≠ [] → ∀ q, cv.ownBlock = some q → q < W.heap.size) (hl : l.length ≤ 4611686018427387904) :
    Calls Tryz.prog 7 #[Ptr sb, cv] w fun e w' => ∃ r : Int, e = .returned (I r) ∧ LW W w U (PutQ fb sb n V l (d + n + 1) r) w' := by
  have h2 : LW W w U (fun w T => STK w fb sb n V d T ∧ ∀ x ∈ T, W.heap.size ≤ x) w := by
    obtain ⟨T, a1, a2, a3, a4, a5⟩ := h
    exact ⟨T, ⟨a1, a4⟩, a2, a3, a4, a5⟩
  refine h2.turn (A := Int) (fun r e => e = .returned (I r)) (fun r => PutQ fb sb n V l (d + n + 1) r) (fun T hT => ?_)
  exact stk_put hT.1 hd l cv hv (fun hne q hq hm => by have := hvq hne q hq; have := hT.2 q hm; omega) hl
theorem lw_karm {W w : World} {U : List Nat} {fb sb n : Nat} {V : OM} {d : Nat} (h : LW W w U (PSK fb sb n V d) w) (N K : Int) (M : UInt8) (hN : N ≤ 9223372036854775807) :
    Calls Tryz.prog 8 #[Ptr fb, I N, I K, B M] w fun e w' => ∃ r : Int, e = .returned (I r) ∧ LW W w U (PSK fb sb n V d) w' := by
  refine h.turn (A := Int) (fun r e => e = .returned (I r)) (fun _ => PSK fb sb n V d) (fun T hT => ?_)
  refine (stk_arm hT N K M hN).mono ?_
  rintro e w' ⟨r, rfl, h1, k⟩
  exact ⟨r, rfl, T, h1, h1.lt, k, fun x hx => .inl hx⟩
theorem lw_kcrash {W w : World} {U : List Nat} {fb sb n : Nat} {V : OM} {d : Nat} (h : LW W w U (PSK fb sb n V d) w) :
    Calls Tryz.prog 9 #[Ptr fb] w fun e w' => e = .returned (I 0) ∧ LW W w U (PFK fb n V V d) w' := by
  refine (h.turn (A := Unit) (fun _ e => e = .returned (I 0)) (fun _ => PFK fb n V V d) (fun T hT => (stk_crash hT).mono ?_)).mono ?_
  · rintro e w' ⟨rfl, h1⟩
    exact ⟨(), rfl, h1⟩
  · rintro e w' ⟨_, hR, hQ⟩; exact ⟨hR, hQ⟩
theorem lw_reopened {W w : World} {U : List Nat} {fb n : Nat} {V1 V2 : OM} {d : Nat} (h : LW W w U (PFK fb n V1 V2 d) w) (h8 : 8 ≤ n) (hn : n ≤ 255) (h1 : ObsOK n V1) (h2 : ObsOK n V2) (hd : d ≤ 800000000) (kd on okp : Int) (mk : UInt8) (cv : Value) :
    Calls Tryz.prog 13 #[Ptr fb, .agg #[I kd, I on, I okp, B mk, cv]] w fun e w' => ∃ (sb : Nat) (V : OM), e = .returned (Ptr sb) ∧ (V = V1 ∨ V = V2) ∧ LW W w U (PSK fb sb n V d) w' := by
  refine (h.turn (A := Nat × OM) (fun a e => e = .returned (Ptr a.1) ∧ (a.2 = V1 ∨ a.2 = V2)) (fun a => PSK fb a.1 n a.2 d) (fun T hT => pf_reopened hT h8 hn h1.1 h2.1 h1.2.2.2 h2.2.2.2 hd kd on okp mk cv)).mono ?_
  rintro e w' ⟨a, ⟨rfl, hV⟩, hQ⟩
  exact ⟨a.1, a.2, rfl, hV, hQ⟩
theorem DocU.at {w W : World} {U : List Nat} {rb n : Nat} {V : OM} (h : DocU w U W rb n V) : ∃ v, w.cell? ⟨rb, 1, none⟩ = some v ∧ PsAt w v (mapA Ob.val V) := by
  obtain ⟨⟨v, h1, h2⟩, h3, h4⟩ := h
  refine ⟨v, ?_, h1.2⟩
  rw [cell_at h1.1]
  rfl
end
section
set_option maxHeartbeats 8000000
set_option maxRecDepth 100000
/-! ### The law -/
def NumsAt (w : World) (v : Value) : Prop := ∀ b o n c, v = .slice (some ⟨b, o, none⟩) n c → ∀ i, i < n → ∀ N, w.cell? ⟨b, o + i * 5 + 1, none⟩ = some (I N) → N ≤ 9223372036854775807
/-- Behind the switch. -/
def MidK (W wx : World) (fb sb n : Nat) (d : Nat) (v5 v8 : Value) : Prop :=
  ∃ (rm rn : Nat) (V V2 : OM) (U : List Nat), v5 = Ptr rm ∧ v8 = Ptr rn ∧ DocU wx U W rm n V ∧ DocU wx U W rn n V2 ∧ ObsOK n V ∧ ObsOK n V2 ∧ LW W wx U (fun w T => STK w fb sb n V d T ∨ PF w fb n V V2 d T) wx
set_option maxHeartbeats 8000000 in
theorem keeps_law (w : World) (m : Int) (v : Value) (l : List OpC) (hl : OpsAt w v l) (hnm : NumsAt w v) :
    Calls Tryz.prog 3 #[.agg #[I m, v]] w fun e w' => e = .returned (.bool true) ∧ Kept [] w w' := by
  obtain ⟨W, hW⟩ : ∃ W, w.alloc (.cells #[I m, v] 24) = W := ⟨_, rfl⟩
  have k1 : Kept [] w W := by rw [← hW]; exact (Kept.refl [] w).alloc _
  have hl0 := hl
  have hl1 := hl.same k1
  obtain ⟨p, c, b, o, rfl, hp, hc, hlc, hll⟩ := hl1
  have hnew := heap_new w (.cells #[I m, .slice p l.length c] 24)
  rw [hW] at hnew
  have c0 := cell_at hnew 0
  have c1 := cell_at hnew 1
  simp only [List.getElem?_toArray, List.getElem?_cons_zero, List.getElem?_cons_succ] at c0 c1
  obtain ⟨wb, hwb⟩ : ∃ wb, w.heap.size = wb := ⟨_, rfl⟩
  rw [hwb] at c0 c1
  have hn8 := blkF_bound m
  have HLA := Lib.hid (laid15_any W m)
  obtain ⟨n, hn⟩ : ∃ n, blkF m = n := ⟨_, rfl⟩
  rw [hn] at HLA hn8
  have hnum : ∀ i (hi : i < l.length), l[i].n ≤ 9223372036854775807 := fun i hi => by
    obtain ⟨p', c', b', o', e', hp', hc', _, _⟩ := hl0
    have hpe := hp' (by intro h; rw [h] at hi; simp at hi)
    subst hpe
    cases e'
    exact hnm b' o' _ _ rfl i hi _ (hc' i hi).2.1
  have HC := Lib.hid (And.intro hp (And.intro hc (And.intro hlc (And.intro hll hnum))))
  have C1 := Lib.hid c1
  have K1 := Lib.hid k1
  have HN := Lib.hid (And.intro hn8.1 hn8.2.1)
  have hlI : (l.length : Int) ≤ 4611686018427387904 := by omega
  have hn1 : 8 ≤ n := hn8.1
  clear hl hp hc hlc hll hnew k1 hn hn8 c1 hl0 hnm hnum
  go_enter Tryz.func3, Tryz.ntmps3
  go_wp2_with (fail)
  refine HLA.out.mono ?_
  intro e w2 hla
  obtain ⟨fb, sb, rb, rfl, hs⟩ := laid_lawK hla hn1
  have H2 := Lib.hid hs
  clear hs hla HLA c0 hW hwb hn1
  go_wp2_with (fail)
  go_loopw [4, 5, 6] (fun v4 v5 v6 wr => ∃ (i sb rb : Nat) (V : OM), i ≤ 200 ∧ v6 = I i ∧ v4 = Ptr sb ∧ v5 = Ptr rb ∧ LawK W wr fb sb rb n V (i * (n + 1))) (fun _ _ v6 _ => 200 - (intOf v6).toNat)
  case atStart => exact ⟨0, sb, rb, [], by omega, rfl, rfl, rfl, by rw [Nat.zero_mul]; exact H2.out⟩
  case round =>
    obtain ⟨i, sb, rb, V, hi, rfl, rfl, rfl, hs⟩ := hrel
    have e1 := hs.old.cellOf C1.out
    have HS := Lib.hid hs
    clear hs H2
    by_cases hgo : i < l.length ∧ i < 200
    · obtain ⟨hj, hlt⟩ := hgo
      have hltI : (i : Int) < 200 := by omega
      have hjI : (i : Int) < l.length := by omega
      obtain ⟨hp, hc, hlc, hll, hnum⟩ := HC.out
      have hpe := hp (by intro h; rw [h] at hj; simp at hj)
      subst hpe
      obtain ⟨x0, x1, x2, x3, cv, x4, x5⟩ := hc i hj
      have y0 := HS.out.old.cellOf x0
      have y1 := HS.out.old.cellOf x1
      have y2 := HS.out.old.cellOf x2
      have y3 := HS.out.old.cellOf x3
      have y4 := HS.out.old.cellOf x4
      have hcl := hlc _ (List.getElem_mem hj)
      have hni := hnum i hj
      obtain ⟨⟨kd, on, okp, om, ch⟩, hop⟩ : ∃ x, l[i] = x := ⟨_, rfl⟩
      rw [hop] at y0 y1 y2 y3 x5 hcl hni
      simp only at y0 y1 y2 y3 x5 hcl hni
      have x6 := chs_lt x5
      obtain ⟨q5, c5, bq, oq, hcv, hpq, hcq⟩ := id x5
      subst hcv
      have HX := Lib.hid (And.intro x5 (And.intro x6 (And.intro hcl hni)))
      clear hpq hcq
      clear hp hc hlc hll x0 x1 x2 x3 x4 x5 x6 hcl hop hnum hni
      go_upto_region 8 with (fail)
      obtain ⟨W1, hW1⟩ : ∃ W1, wr.alloc (.cells #[I kd, I on, I okp, B om, .slice q5 ch.length c5] 32) = W1 := ⟨_, rfl⟩
      have k1w : Kept [] wr W1 := by rw [← hW1]; exact (Kept.refl _ _).alloc _
      have hb1 : W1.heap[wr.heap.size]? = some (.cells #[I kd, I on, I okp, B om, .slice q5 ch.length c5] 32 (0, 0)) := by rw [← hW1]; exact heap_new wr _
      rw [show wr.alloc (.cells #[I kd, I on, I okp, B om, .slice q5 ch.length c5] 32) = W1 from hW1]
      obtain ⟨U0, hdoc, hlw⟩ := HS.out
      have hlt1 := lt_of_block hb1
      obtain ⟨ob, hob⟩ : ∃ ob, wr.heap.size = ob := ⟨_, rfl⟩
      have hlw1 := hlw.step (U' := ob :: U0) k1w (by simp) (fun T hT _ => hT.same k1w) (fun x hx => by
        rcases List.mem_cons.1 hx with rfl | hx
        · exact .inr ⟨by omega, by omega⟩
        · exact .inl hx)
      have hdoc1 := (hdoc.same k1w).mono (U' := ob :: U0) (fun x hx => List.mem_cons_of_mem _ hx)
      have hoU : ob ∉ U0 ∧ rb ≠ ob := by
        obtain ⟨T, _, _, h3, _⟩ := hlw
        refine ⟨fun hm => by have := (h3 _ hm).2.1; omega, fun e => by have := (h3 rb hdoc.r).2.1; omega⟩
      rw [hob] at hb1
      have HCP := Lib.hid (lw_copy hlw1 hdoc1 (fun w' T k hT => hT.same k))
      have HB1 := Lib.hid (And.intro hb1 hoU)
      have HL := Lib.hid (And.intro hlw1 (And.intro hdoc1 k1w))
      rw [hob]
      clear k1w hb1 hW1 hdoc hlw hlt1 hlw1 hdoc1 y0 y1 y2 y3 y4 hob hoU
      go_wp2_with (fail)
      refine HCP.out.mono ?_
      rintro e w3 ⟨rn, rfl, hrn, k3, hlw3, hdoc3⟩
      have hb3 := k3.at HB1.out.1 (by simp)
      have g0 := cell_at hb3 0
      simp only [List.getElem?_toArray, List.getElem?_cons_zero] at g0
      have hdm3 := (HL.out.2.1.same k3).mono (U' := rn :: ob :: U0) (fun x hx => List.mem_cons_of_mem _ hx)
      have hrnb : rn ≠ ob ∧ rb ≠ rn := ⟨fun e => hrn (by rw [e]; exact List.mem_cons_self), fun e => hrn (by rw [← e]; exact HL.out.2.1.r)⟩
      have H3 := Lib.hid (And.intro hb3 (And.intro hlw3 (And.intro hdoc3 (And.intro hdm3 (And.intro hrnb (And.intro hrn k3))))))
      clear hrn k3 hlw3 hdoc3 hb3 hdm3 hrnb HCP
      go_upto_region 9 with (fail)
      iterate 10 go_step
      go_cut [5, 8] from 40 to 78 (fun v5 v8 wx => MidK W wx fb sb n ((i + 1) * (n + 1)) v5 v8 ∧ wx.heap[ob]? = some (.cells #[I kd, I on, I okp, B om, .slice q5 ch.length c5] 32 (0, 0)))
      case first =>
        have hbd := HN.out
        have hin : i * (n + 1) ≤ 200 * 21 := Nat.mul_le_mul hi (by omega)
        have HIN : Hid (i * (n + 1) ≤ 200 * 21 ∧ (i + 1) * (n + 1) = i * (n + 1) + n + 1) := Lib.hid (And.intro hin (by rw [Nat.succ_mul]; omega))
        have hn5 : n ≤ 255 := by omega
        have hob : ∃ T, STK w3 fb sb n V (i * (n + 1)) T := by
          obtain ⟨T, hT, _⟩ := H3.out.2.1
          exact ⟨T, hT⟩
        obtain ⟨T0, hT0⟩ := hob
        have HO := Lib.hid (And.intro (obs_stk hT0) (And.intro (obs_put (l := ch) (obs_stk hT0) w3 w3 fb sb _ T0 hT0) (And.intro hbd.1 hn5)))
        clear hbd hin hT0 hn5
        by_cases q0 : kd = 0
        · have p0 : (kd == 0) = true := by simpa using q0
          clear q0
          have HRP := Lib.hid (lw_rput (rb := rn) (rb2 := rb) H3.out.2.1 H3.out.2.2.1 H3.out.2.2.2.1 H3.out.2.2.2.2.1.2 (fun v hv q hq => by
            obtain ⟨⟨v1, a1, a2⟩, _, _⟩ := HL.out.2.1
            have e1 := H3.out.2.2.2.2.2.2.at a1.1 (by simp)
            have e2 := hv.1
            rw [e1] at e2
            have e3 : v1 = v := by simpa using e2
            subst e3
            intro he
            exact H3.out.2.2.2.2.2.1 (by rw [← he]; exact (a2 q hq).1)) HO.out.1 HO.out.2.2.1 HO.out.2.2.2 (fun w' T k hT hn => hT.kept k (fun x hx hm => hn ((List.mem_singleton.1 hx) ▸ hm))) (.slice q5 ch.length c5) ch (HX.out.1.same H3.out.2.1.old) HX.out.2.2.1)
          have g4 := cell_at H3.out.1 4
          simp only [List.getElem?_toArray, List.getElem?_cons_zero, List.getElem?_cons_succ] at g4
          obtain ⟨y, hy⟩ : ∃ y, mayF n V ch = y := ⟨_, rfl⟩
          rw [hy] at HRP
          have HY := Lib.hid hy
          clear hy
          go_wp2_with (fail)
          refine HRP.out.mono ?_
          rintro e w4 ⟨rfl, k4, U4, hU4, hlw4, hdn4, hdm4⟩
          have hb4 := k4.at H3.out.1 (by have := H3.out.2.2.2.2.1.1; simp; omega)
          have hobU : ob ∈ U4 := hU4 ob (by simp)
          have g4' := cell_at hb4 4
          simp only [List.getElem?_toArray, List.getElem?_cons_zero, List.getElem?_cons_succ] at g4'
          have HP4 := Lib.hid (lw_kput hlw4 (by have := HIN.out.1; omega) ch (.slice q5 ch.length c5) (HX.out.1.same hlw4.old) HX.out.2.1 HX.out.2.2.1)
          have H4 := Lib.hid (And.intro hb4 (And.intro hobU (And.intro hdn4 hdm4)))
          clear g4 k4 hU4 hlw4 hdn4 hdm4 hb4 hobU HRP
          go_wp2_with (fail)
          refine HP4.out.mono ?_
          rintro e w5 ⟨r, rfl, hq⟩
          have hb5 := hq.at H4.out.2.1 H4.out.1
          have hdn5 := H4.out.2.2.1.lw hq
          have hdm5 := H4.out.2.2.2.lw hq
          clear g4' HP4
          rcases hq.rebase.parts with hq | hq
          · obtain ⟨T5, ⟨hr, hs5⟩, hq2⟩ := hq
            have hlw5 : LW W w5 U4 (PSK fb sb n (putF n V ch) (i * (n + 1) + n + 1)) w5 := ⟨T5, hs5, hq2⟩
            rw [HY.out] at hr
            subst hr
            by_cases hz : r = 0
            · subst hz
              have HCP5 := Lib.hid (lw_copy hlw5 hdn5 (fun w' T k hT => hT.same k))
              have H5 := Lib.hid (And.intro hb5 hdn5)
              clear hq2 hs5 hlw5 hb5 hdn5 hdm5
              go_wp2_with (fail)
              refine HCP5.out.mono ?_
              rintro e w6 ⟨rm, rfl, _, k6, hlw6, hdm6⟩
              have H6 := Lib.hid (And.intro k6 (And.intro hlw6 hdm6))
              clear k6 hlw6 hdm6 HCP5
              go_wp2_with (fail)
              go_meet
              obtain ⟨k6, hlw6, hdm6⟩ := H6.out
              exact ⟨⟨rm, rn, _, _, rm :: U4, rfl, rfl, hdm6, (H5.out.2.same k6).mono (fun x hx => List.mem_cons_of_mem _ hx), HO.out.2.1, HO.out.2.1, by rw [HIN.out.2]; exact hlw6.imp (fun T hT => .inl hT)⟩, k6.at H5.out.1 (by simp)⟩
            · have hzb : (r != 0) = true := by simpa using hz
              have hzc : (r == 0) = false := by simpa using hz
              have HCP5 := Lib.hid (lw_copy hlw5 hdm5 (fun w' T k hT => hT.same k))
              have H5 := Lib.hid (And.intro hb5 (And.intro hdm5 (put_else (n := n) (V := V) (l := ch) (by rw [HY.out]; exact hz))))
              clear hq2 hs5 hlw5 hb5 hdn5 hdm5 hz
              go_wp2_with (fail)
              refine HCP5.out.mono ?_
              rintro e w6 ⟨rm, rfl, _, k6, hlw6, hdm6⟩
              have H6 := Lib.hid (And.intro k6 (And.intro hlw6 hdm6))
              clear k6 hlw6 hdm6 HCP5
              go_wp2_with (fail)
              go_meet
              obtain ⟨k6, hlw6, hdm6⟩ := H6.out
              rw [H5.out.2.2] at hlw6
              exact ⟨⟨rb, rm, _, _, rm :: U4, rfl, rfl, (H5.out.2.1.same k6).mono (fun x hx => List.mem_cons_of_mem _ hx), hdm6, HO.out.1, HO.out.1, by rw [HIN.out.2]; exact hlw6.imp (fun T hT => .inl hT)⟩, k6.at H5.out.1 (by simp)⟩
          · have hr : r = 2 ∧ y = 0 := by
              obtain ⟨T5, ⟨hr, hz, _⟩, _⟩ := hq
              rw [HY.out] at hz
              exact ⟨hr, hz⟩
            have hlw5 := hq.imp (B := PFK fb n V (putF n V ch) (i * (n + 1) + n + 1)) (fun T hT => hT.2.2)
            obtain ⟨rfl, rfl⟩ := hr
            have H5 := Lib.hid (And.intro hb5 (And.intro hdm5 (And.intro hdn5 hlw5)))
            clear hq hlw5 hb5 hdn5 hdm5
            go_wp2_with (fail)
            go_meet
            obtain ⟨hb5, hdm5, hdn5, hlw5⟩ := H5.out
            exact ⟨⟨rb, rn, _, _, U4, rfl, rfl, hdm5, hdn5, HO.out.1, HO.out.2.1, by rw [HIN.out.2]; exact hlw5.imp (fun T hT => .inr hT)⟩, hb5⟩
        have p0 : (kd == 0) = false := by simpa using q0
        by_cases q1 : kd = 1
        · have p1 : (kd == 1) = true := by simpa using q1
          have g1 := cell_at H3.out.1 1
          have g2 := cell_at H3.out.1 2
          have g3 := cell_at H3.out.1 3
          simp only [List.getElem?_toArray, List.getElem?_cons_zero, List.getElem?_cons_succ] at g1 g2 g3
          have HA := Lib.hid (lw_karm H3.out.2.1 on okp om HX.out.2.2.2)
          clear q0 q1
          go_wp2_with (fail)
          refine HA.out.mono ?_
          rintro e w4 ⟨r, rfl, hq⟩
          have H4 := Lib.hid hq
          clear hq g1 g2 g3 HA
          go_wp2_with (fail)
          go_meet
          have hq := H4.out
          exact ⟨⟨rb, rn, V, V, rn :: ob :: U0, rfl, rfl, H3.out.2.2.2.1.lw hq, H3.out.2.2.1.lw hq, HO.out.1, HO.out.1, by rw [HIN.out.2]; exact hq.rebase.imp (fun T hT => .inl (hT.mono (by omega)))⟩, hq.at (by simp) H3.out.1⟩
        have p1 : (kd == 1) = false := by simpa using q1
        by_cases q2 : kd = 2
        · have p2 : (kd == 2) = true := by simpa using q2
          have HA := Lib.hid (lw_kcrash H3.out.2.1)
          clear q0 q1 q2
          go_wp2_with (fail)
          refine HA.out.mono ?_
          rintro e w4 ⟨rfl, hq⟩
          have H4 := Lib.hid hq
          clear hq HA
          go_wp2_with (fail)
          go_meet
          have hq := H4.out
          refine ⟨⟨rb, rn, V, V, rn :: ob :: U0, rfl, rfl, H3.out.2.2.2.1.lw hq, H3.out.2.2.1.lw hq, HO.out.1, HO.out.1, by rw [HIN.out.2]; exact hq.rebase.imp (fun T hT => .inr (hT.mono (by omega)))⟩, hq.at (by simp) H3.out.1⟩
        have p2 : (kd == 2) = false := by simpa using q2
        clear q0 q1 q2
        go_wp2_with (fail)
        go_meet
        exact ⟨⟨rb, rn, V, V, rn :: ob :: U0, rfl, rfl, H3.out.2.2.2.1, H3.out.2.2.1, HO.out.1, HO.out.1, by rw [HIN.out.2]; exact H3.out.2.1.imp (fun T hT => .inl (hT.mono (by omega)))⟩, H3.out.1⟩
      case rest =>
        obtain ⟨⟨rm, rn2, V1, V2, U, rfl, rfl, hdm, hdn, ho1, ho2, hlw⟩, hbo⟩ := hcut
        have hn5 : 8 ≤ n ∧ n ≤ 255 := ⟨HN.out.1, by have := HN.out.2; omega⟩
        have hdd : (i + 1) * (n + 1) ≤ 201 * 21 := Nat.mul_le_mul (by omega) (by have := HN.out.2; omega)
        have HD := Lib.hid (And.intro hn5 hdd)
        clear hn5 hdd g0
        rcases hlw.parts with hlw | hlw
        · -- the power is there
          have HFD := Lib.hid (hlw.look (fun T hT => stk_fdead hT))
          have HSD := Lib.hid (hlw.look (fun T hT => stk_dead hT))
          obtain ⟨vm, r1, hps⟩ := hdm.at
          have hrd : RD wc sb V1 := by obtain ⟨T, hT, _⟩ := hlw; exact hT.rd
          have HHO := Lib.hid (holds_any wc sb V1 hrd vm hps)
          have HE := Lib.hid (And.intro hdm hlw)
          clear hlw hdm hdn ho1 ho2 hbo hps hrd
          go_wp2_with (fail)
          refine HFD.out.mono ?_
          rintro e w5 ⟨rfl, hw⟩
          replace hw := hw.symm
          subst hw
          go_wp2_with (fail)
          refine HSD.out.mono ?_
          rintro e w5 ⟨rfl, hw⟩
          replace hw := hw.symm
          subst hw
          go_wp2_with (fail)
          refine HHO.out.mono ?_
          rintro e w5 ⟨rfl, k5⟩
          have K5 := Lib.hid k5
          clear k5 r1
          go_wp2_with (fail)
          go_roundw
          case rel =>
            have hlk : LawK W wc fb sb rm n V1 ((i + 1) * (n + 1)) := ⟨U, HE.out.1, HE.out.2⟩
            exact ⟨i + 1, sb, rm, V1, by omega, by go_num, rfl, rfl, hlk.same K5.out⟩
          case measure => simp [intOf]; omega
        · -- the power is gone
          have HFD := Lib.hid (hlw.look (fun T hT => pf_fdead hT))
          have g0 := cell_at hbo 0
          have g1 := cell_at hbo 1
          have g2 := cell_at hbo 2
          have g3 := cell_at hbo 3
          have g4 := cell_at hbo 4
          simp only [List.getElem?_toArray, List.getElem?_cons_zero, List.getElem?_cons_succ] at g0 g1 g2 g3 g4
          have HRO := Lib.hid (lw_reopened hlw HD.out.1.1 HD.out.1.2 ho1 ho2 (by have := HD.out.2; omega) kd on okp om (.slice q5 ch.length c5))
          have HE := Lib.hid (And.intro hdm (And.intro hdn (And.intro ho1 ho2)))
          clear hlw hdm hdn ho1 ho2 hbo
          go_wp2_with (fail)
          refine HFD.out.mono ?_
          rintro e w5 ⟨rfl, hw⟩
          replace hw := hw.symm
          subst hw
          go_wp2_with (fail)
          refine HRO.out.mono ?_
          rintro e w6 ⟨sb2, V', rfl, hV, hlw6⟩
          have hdm6 := HE.out.1.lw hlw6
          have hdn6 := HE.out.2.1.lw hlw6
          obtain ⟨vm, r1, hps⟩ := hdm6.at
          obtain ⟨vn, r2, hps2⟩ := hdn6.at
          have hrd : RD w6 sb2 V' := by obtain ⟨T, hT, _⟩ := hlw6; exact hT.rd
          clear g0 g1 g2 g3 g4 HRO HFD
          by_cases hsame : mapA Ob.val V' = mapA Ob.val V1
          · have hps' : PsAt w6 vm (mapA Ob.val V') := by rw [hsame]; exact hps
            have HHO := Lib.hid (fun W' (k : Kept [] w6 W') => holds_any W' sb2 V' (hrd.same k) vm (hps'.same k))
            have HR1 := Lib.hid r1
            have HE6 := Lib.hid (And.intro (hdm6.val hsame.symm) hlw6.rebase)
            clear hlw6 hdm6 hdn6 hps hps2 hrd hps' hsame hV r2
            go_wp2_with (fail)
            refine (HHO.out _ (Kept.refl _ _)).mono ?_
            rintro e w7 ⟨rfl, k7⟩
            have r1' := k7.cellOf HR1.out
            have K7 := Lib.hid k7
            clear k7 r1
            go_wp2_with (fail)
            refine (HHO.out _ K7.out).mono ?_
            rintro e w8 ⟨rfl, k8⟩
            have K8 := Lib.hid (K7.out.trans' k8)
            clear k8 r1'
            go_wp2_with (fail)
            go_roundw
            case rel =>
              have hlk : LawK W w6 fb sb2 rm n V' ((i + 1) * (n + 1)) := ⟨U, HE6.out.1, HE6.out.2⟩
              exact ⟨i + 1, sb2, rm, V', by omega, by go_num, rfl, rfl, hlk.same K8.out⟩
            case measure => simp [intOf]; omega
          · have hV2 : V' = V2 := by
              rcases hV with rfl | rfl
              · exact absurd rfl hsame
              · rfl
            subst hV2
            have HHN := Lib.hid (fun W' (k : Kept [] w6 W') => holds_no W' sb2 V' (hrd.same k) vm V1 (hps.same k) HE.out.2.2.1.2.1 HE.out.2.2.1.2.2.1 hsame)
            have HHO := Lib.hid (fun W' (k : Kept [] w6 W') => holds_any W' sb2 V' (hrd.same k) vn (hps2.same k))
            have HR1 := Lib.hid (And.intro r1 r2)
            have HE6 := Lib.hid (And.intro hdn6 hlw6.rebase)
            clear hlw6 hdm6 hdn6 hps hps2 hrd hsame hV r2
            go_wp2_with (fail)
            refine (HHN.out _ (Kept.refl _ _)).mono ?_
            rintro e w7 ⟨rfl, k7⟩
            have r2' := k7.cellOf HR1.out.2
            have K7 := Lib.hid k7
            clear k7 r1
            go_wp2_with (fail)
            refine (HHO.out _ K7.out).mono ?_
            rintro e w8 ⟨rfl, k8⟩
            have r1' := (K7.out.trans' k8).cellOf HR1.out.1
            have K8 := Lib.hid (K7.out.trans' k8)
            clear k8 r2'
            go_wp2_with (fail)
            refine (HHN.out _ K8.out).mono ?_
            rintro e w9 ⟨rfl, k9⟩
            have K9 := Lib.hid (K8.out.trans' k9)
            clear k9 r1'
            go_wp2_with (fail)
            go_roundw
            case rel =>
              have hlk : LawK W w6 fb sb2 rn2 n V' ((i + 1) * (n + 1)) := ⟨U, HE6.out.1, HE6.out.2⟩
              exact ⟨i + 1, sb2, rn2, V', by omega, by go_num, rfl, rfl, hlk.same K9.out⟩
            case measure => simp [intOf]; omega
    · have hstop : (l.length : Int) ≤ i ∨ ((i : Int) < l.length ∧ (200 : Int) ≤ i) := by
        by_cases h1 : i < l.length
        · right
          have : ¬ i < 200 := fun h2 => hgo ⟨h1, h2⟩
          omega
        · left; omega
      clear hgo
      generalize l.length = LL at e1 hlI hstop ⊢
      rcases hstop with hst | ⟨hst, hst2⟩
      all_goals
        go_wp2_with (fail)
        refine (fixed_any _).mono ?_
        rintro e w3 ⟨rfl, k3⟩
        go_wp2_with (fail)
        go_ret
        exact ⟨rfl, (K1.out.trans' HS.out.old).trans' k3⟩
end

end Go.Proofs.YtncdfaocemfgfaaGreat
