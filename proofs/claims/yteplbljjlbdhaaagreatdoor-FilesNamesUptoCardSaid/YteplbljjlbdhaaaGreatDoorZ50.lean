/- Walks and lemmas on the program of this seat, used by its statements; each theorem bears its own conditions. -/
import Derived.Test.YteplbljjlbdhaaaGreatDoorZ49
namespace Go.Proofs.YteplbljjlbdhaaaGreatDoor
open Go.RowKit
set_option linter.unusedVariables false
set_option linter.unusedSimpArgs false
set_option linter.unusedSectionVars false
set_option maxHeartbeats 16000000
set_option maxRecDepth 100000
section
variable {n ff mb given2 : Nat} {E2 : List Nd} {M0 : Fr16} {X0 : XP} {X1 : Int → XP}
theorem change_none (w : World) (o : Op16) (hk : o.kind ≠ 0 ∧ o.kind ≠ 1 ∧ o.kind ≠ 2 ∧ o.kind ≠ 6 ∧ o.kind ≠ 7 ∧ o.kind ≠ 8) (ob : Nat) (hob : w.heap.size = ob) (h : JX (X1 0) (w.alloc (.cells o.cs 34)) n mb given2 E2 ob o.cs M0) :
  Calls Tryz.prog 5 #[Ptr ff, Ptr mb, .agg o.cs] w (ChX X1 n mb given2 E2 M0 ob o) := by
 unfold ChX
 obtain ⟨k0, k1, k2, k6, k7, k8⟩ := hk
 have e2 : changeF n given2 E2 o = (0, given2, E2) := by unfold changeF; rw [if_neg k0, if_neg k1, if_neg k2, if_neg k6, if_neg k7, if_neg k8]
 rw [e2]
 clear e2
 obtain ⟨kd, at0, n0, p, t, s, mk⟩ := o
 simp only at k0 k1 k2 k6 k7 k8
 have b0 : (kd == 0) = false := by simpa using k0
 have b1 : (kd == 1) = false := by simpa using k1
 have b2 : (kd == 2) = false := by simpa using k2
 have b6 : (kd == 6) = false := by simpa using k6
 have b7 : (kd == 7) = false := by simpa using k7
 have b8 : (kd == 8) = false := by simpa using k8
 unfold Op16.cs at *
 simp only at *
 obtain ⟨W, hW⟩ : ∃ W, w.alloc (.cells #[I kd, I at0, I n0, S p, S t, S s, B mk] 34) = W := ⟨_, rfl⟩
 rw [hW] at h
 have c0 := h.cells 0 (by simp)
 simp only [List.getElem_toArray, List.getElem_cons_zero, List.getElem_cons_succ] at c0
 have H := Lib.hid h
 clear h k0 k1 k2 k6 k7 k8
 go_enter Tryz.func5, Tryz.ntmps5
 go_wp2_with (simp only [hW, hob]; done)
 go_ret2
 exact ⟨_, rfl, H.out⟩
structure CodeC (ff : Nat) (o : Op16) (X0 : XP) (X1 : Int → XP) : Prop where
 make : o.kind = 0 → ∀ W M, X0 W M → Calls Tryz.prog 12 #[Ptr ff, S o.path] W (CodeP X1 W M)
 makeDir : o.kind = 1 → ∀ W M, X0 W M → Calls Tryz.prog 14 #[Ptr ff, S o.path] W (CodeP X1 W M)
 write : o.kind = 2 → ∀ W M, X0 W M → Calls Tryz.prog 15 #[Ptr ff, S o.path, I o.at0, S o.s] W (CodeP X1 W M)
 trunc : o.kind = 6 → ∀ W M, X0 W M → Calls Tryz.prog 17 #[Ptr ff, S o.path, I o.n0] W (CodeP X1 W M)
 rename : o.kind = 7 → ∀ W M, X0 W M → Calls Tryz.prog 19 #[Ptr ff, S o.path, S o.dest] W (CodeP X1 W M)
 remove : o.kind = 8 → ∀ W M, X0 W M → Calls Tryz.prog 21 #[Ptr ff, S o.path] W (CodeP X1 W M)
 none : (o.kind ≠ 0 ∧ o.kind ≠ 1 ∧ o.kind ≠ 2 ∧ o.kind ≠ 6 ∧ o.kind ≠ 7 ∧ o.kind ≠ 8) → ∀ W M, X0 W M → X1 0 W M
theorem change_arms (hX0 : XOK mb X0) (hX1 : ∀ r, XOK mb (X1 r)) (w : World) (o : Op16) (ok : o.Ok) (ob : Nat) (hob : w.heap.size = ob) (h : JX X0 (w.alloc (.cells o.cs 34)) n mb given2 E2 ob o.cs M0) (hc : CodeC ff o X0 X1) (hg2 : given2 + 1 ≤ 16777000) (hl : E2.length + 1 ≤ 900) :
  Calls Tryz.prog 5 #[Ptr ff, Ptr mb, .agg o.cs] w (ChX X1 n mb given2 E2 M0 ob o) := by
 by_cases h0 : o.kind = 0
 ·exact change_make hX0 hX1 w o ok h0 ob hob h (hc.make h0) hg2 hl
 by_cases h1 : o.kind = 1
 ·exact change_makeDir hX0 hX1 w o ok h1 ob hob h (hc.makeDir h1) hg2 hl
 by_cases h2 : o.kind = 2
 ·exact change_write hX0 hX1 w o ok h2 ob hob h (hc.write h2) hg2 hl
 by_cases h6 : o.kind = 6
 ·exact change_trunc hX0 hX1 w o ok h6 ob hob h (hc.trunc h6) hg2 hl
 by_cases h7 : o.kind = 7
 ·exact change_rename hX0 hX1 w o ok h7 ob hob h (hc.rename h7) hg2 hl
 by_cases h8 : o.kind = 8
 ·exact change_remove hX0 hX1 w o ok h8 ob hob h (hc.remove h8) hg2 hl
 obtain ⟨v, M, g1, g2, g3⟩ := h
 exact change_none w o ⟨h0, h1, h2, h6, h7, h8⟩ ob hob ⟨v, M, g1, hc.none ⟨h0, h1, h2, h6, h7, h8⟩ _ _ g2, g3⟩
theorem change_gen (hX0 : XOK mb X0) (hX1 : ∀ r, XOK mb (X1 r)) {M : List Nat} {v : Value} (w : World) (h : X0 w M) (hD : Df w mb n given2 v E2 M) (o : Op16) (ok : o.Ok) (hc : CodeC ff o X0 X1) (hg2 : given2 + 1 ≤ 16777000) (hl : E2.length + 1 ≤ 900) :
  Calls Tryz.prog 5 #[Ptr ff, Ptr mb, .agg o.cs] w fun e w' => ∃ r : Int, e = .returned (.tuple #[I r, I (changeF n given2 E2 o).1]) ∧ ∃ v' M', (∀ x ∈ M, x ∈ M') ∧ X1 r w' M' ∧ Df w' mb n (changeF n given2 E2 o).2.1 v' (changeF n given2 E2 o).2.2 M' ∧ ∀ x ∈ M, x ≠ mb → ∀ b, w.heap[x]? = some b → w'.heap[x]? = some b := by
 have k := (Kept.refl [] w).alloc (.cells o.cs 34)
 have hnew := heap_new w (.cells o.cs 34)
 have hlt := lt_of_block hnew
 have hm := hX0 w (w.alloc (.cells o.cs 34)) M (w.heap.size :: M) h hD.2.1 (k.mono (by simp)) (fun x hx => by
  rcases List.mem_cons.1 hx with rfl | hx
  ·exact .inr ⟨Nat.le_refl _, hlt⟩
  ·exact .inl hx)
 have hmb := hD.1.lt
 have hDk := hD.kept k (by simp)
 refine (change_arms (M0 := (M, w)) hX0 hX1 w o ok w.heap.size rfl ⟨v, w.heap.size :: M, ⟨fun x hx => List.mem_cons_of_mem _ hx, fun x hx _ b hb => k.at hb (by simp)⟩, hm, ⟨hDk.1, List.mem_cons_of_mem _ hDk.2.1, fun q hq => List.mem_cons_of_mem _ (hDk.2.2 q hq)⟩, List.mem_cons_self, hnew, by omega⟩ hc hg2 hl).mono ?_
 rintro e w' ⟨r, rfl, v', M', h1, h2, h3, _⟩
 exact ⟨r, rfl, v', M', h1.1, h2, h3, fun x hx hne b hb => h1.2 x hx hne b hb⟩
end
section
variable {w0 : World} {ff fb sb n d given : Nat} {E : List Nd} {mb given2 : Nat} {E2 : List Nd}
theorem lf_ok (hmb : w0.heap.size ≤ mb) : XOK mb (fun w M => Lf w0 w ff fb sb n d given E M ∧ ∀ x ∈ M, w0.heap.size ≤ x) := by
 rintro w w' M M' ⟨⟨V, T, U, h1, h2, h3, h4⟩, h0⟩ hm k hM
 have hTlt := h1.st.stk.lt
 have hb := h1.tabs.2.1
 have hz := h4.size
 have hmb3 := h3 mb hm
 have h0' : ∀ x ∈ M', w0.heap.size ≤ x := fun x hx => by
  rcases hM x hx with h5 | h5
  ·exact h0 x h5
  ·omega
 refine ⟨⟨V, T, U, h1.aside k (fun x hx => ?_) (fun x hx => ?_), h2, fun x hx => ?_, h4.new k (fun x hx => ?_)⟩, h0'⟩
 ·have : x = mb := by simpa using hx
  rw [this]; exact hmb3.1
 ·have : x = mb := by simpa using hx
  rw [this]; exact hmb3.2.1
 ·rcases hM x hx with h5 | ⟨h5, h6⟩
  ·exact ⟨(h3 x h5).1, (h3 x h5).2.1, Nat.lt_of_lt_of_le (h3 x h5).2.2.1 k.size, (h3 x h5).2.2.2⟩
  ·exact ⟨fun hm => by have := hTlt x hm; omega, fun hm => by have := hb x hm; omega, h6, by omega⟩
 ·have : x = mb := by simpa using hx
  rw [this]; exact hmb
theorem Lf.beyond {w : World} {M : List Nat} (h : Lf w0 w ff fb sb n d given E M) : ∀ x ∈ M, w0.heap.size ≤ x := by
 obtain ⟨V, T, U, h1, h2, h3, h4⟩ := h
 exact fun x hx => (h3 x hx).2.2.2
theorem change_any {M : List Nat} {v : Value} (w : World) (h : Lf w0 w ff fb sb n d given E M) (hD : Df w mb n given2 v E2 M) (o : Op16) (ok : o.Ok) (hd : d ≤ 400000000) (hn : n ≤ 255) (hg : given + 1 ≤ 16777000) (hg2 : given2 + 1 ≤ 16777000) (hl : E2.length + 1 ≤ 900) :
  Calls Tryz.prog 5 #[Ptr ff, Ptr mb, .agg o.cs] w fun e w' => e = .returned (.tuple #[I (changeF n given E o).1, I (changeF n given2 E2 o).1]) ∧ ∃ v' M', (∀ x ∈ M, x ∈ M') ∧ Lf w0 w' ff fb sb n (d + 2 * (n + 1)) (changeF n given E o).2.1 (changeF n given E o).2.2 M' ∧ Df w' mb n (changeF n given2 E2 o).2.1 v' (changeF n given2 E2 o).2.2 M' ∧ ∀ x ∈ M, x ≠ mb → ∀ b, w.heap[x]? = some b → w'.heap[x]? = some b := by
 have hp1 := ok.path1
 have hp2 := ok.to1
 have hp3 := ok.s1
 have hmb := h.beyond mb hD.2.1
 obtain ⟨R, hR⟩ : ∃ R, changeF n given E o = R := ⟨_, rfl⟩
 have conv : ∀ (R' : Int × Nat × List Nd), R' = R → ∀ (f : Nat) (a : Array Value) W M, (Lf w0 W ff fb sb n d given E M ∧ ∀ x ∈ M, w0.heap.size ≤ x) → Calls Tryz.prog f a W (LfP w0 W ff fb sb n d M R') → Calls Tryz.prog f a W (CodeP (fun r w M => r = R.1 ∧ Lf w0 w ff fb sb n (d + 2 * (n + 1)) R.2.1 R.2.2 M ∧ ∀ x ∈ M, w0.heap.size ≤ x) W M) := fun R' e f a W M h0 hcall => by
  subst e
  refine hcall.mono ?_
  rintro e w' ⟨rfl, h1, T, h2, k⟩
  exact ⟨_, rfl, ⟨rfl, h1, h0.2⟩, k.size, T, h2, k⟩
 have eR : ∀ R', changeF n given E o = R' → R' = R := fun R' e => e.symm.trans hR
 have hok1 : ∀ r, XOK mb (fun w M => r = R.1 ∧ Lf w0 w ff fb sb n (d + 2 * (n + 1)) R.2.1 R.2.2 M ∧ ∀ x ∈ M, w0.heap.size ≤ x) := fun r w w' M M' hx hm k hM => ⟨hx.1, lf_ok hmb w w' M M' hx.2 hm k hM⟩
 refine (change_gen (X0 := fun w M => Lf w0 w ff fb sb n d given E M ∧ ∀ x ∈ M, w0.heap.size ≤ x) (X1 := fun r w M => r = R.1 ∧ Lf w0 w ff fb sb n (d + 2 * (n + 1)) R.2.1 R.2.2 M ∧ ∀ x ∈ M, w0.heap.size ≤ x) (lf_ok hmb) hok1 w ⟨h, h.beyond⟩ hD o ok ⟨fun hk W M h0 => ?_, fun hk W M h0 => ?_, fun hk W M h0 => ?_, fun hk W M h0 => ?_, fun hk W M h0 => ?_, fun hk W M h0 => ?_, fun hk W M h0 => ?_⟩ hg2 hl).mono ?_
 ·exact conv _ (eR _ (by unfold changeF; rw [if_pos hk])) _ _ W M h0 (lf_make h0.1 (by omega) hn hg o.path (by omega))
 ·exact conv _ (eR _ (by unfold changeF; rw [if_neg (by rw [hk]; decide), if_pos hk])) _ _ W M h0 (lf_makeDir h0.1 (by omega) hn hg o.path (by omega))
 ·exact conv _ (eR _ (by unfold changeF; rw [if_neg (by rw [hk]; decide), if_neg (by rw [hk]; decide), if_pos hk])) _ _ W M h0 (lf_write h0.1 (by omega) hn hg o.path (by omega) o.at0 ok.at1 o.s (by omega))
 ·exact conv _ (eR _ (by unfold changeF; rw [if_neg (by rw [hk]; decide), if_neg (by rw [hk]; decide), if_neg (by rw [hk]; decide), if_pos hk])) _ _ W M h0 (lf_trunc h0.1 (by omega) hn hg o.path (by omega) o.n0 ok.n1)
 ·exact conv _ (eR _ (by unfold changeF; rw [if_neg (by rw [hk]; decide), if_neg (by rw [hk]; decide), if_neg (by rw [hk]; decide), if_neg (by rw [hk]; decide), if_pos hk])) _ _ W M h0 (lf_rename h0.1 (by omega) hn hg o.path o.dest (by omega) (by omega))
 ·exact conv _ (eR _ (by unfold changeF; rw [if_neg (by rw [hk]; decide), if_neg (by rw [hk]; decide), if_neg (by rw [hk]; decide), if_neg (by rw [hk]; decide), if_neg (by rw [hk]; decide), if_pos hk])) _ _ W M h0 (lf_remove h0.1 (by omega) hn hg o.path (by omega))
 ·have e : R = (0, given, E) := by rw [← hR]; unfold changeF; rw [if_neg hk.1, if_neg hk.2.1, if_neg hk.2.2.1, if_neg hk.2.2.2.1, if_neg hk.2.2.2.2.1, if_neg hk.2.2.2.2.2]
  rw [e]
  exact ⟨rfl, h0.1.mono (by omega) (by omega), h0.2⟩
 ·rintro e w' ⟨r, rfl, v', M', h1, ⟨h2, h3, _⟩, h4, h5⟩
  rw [hR]
  subst h2
  exact ⟨rfl, v', M', h1, h3, h4, h5⟩
end
theorem Df.beside {w w' : World} {mb n given : Nat} {v : Value} {E : List Nd} {M M' : List Nat} (h : Df w mb n given v E M) (k : ∀ x ∈ M, x = mb ∨ v.ownBlock = some x → ∀ b, w.heap[x]? = some b → w'.heap[x]? = some b) (hM : ∀ x ∈ M, x ∈ M') : Df w' mb n given v E M' := by
 obtain ⟨⟨⟨a1, p, c, b, rfl, a2, a3, a4⟩, b1, b2, b3, b4, b5, b6⟩, c1, c2⟩ := h
 refine ⟨⟨⟨k _ c1 (.inl rfl) _ a1, p, c, b, rfl, a2, a3, fun i hi => ?_⟩, b1, b2, b3, b4, b5, b6⟩, hM _ c1, fun q hq => hM _ (c2 q hq)⟩
 have e := a3 (by intro h; rw [h] at hi; simp at hi)
 subst e
 have hc : ∀ (o : Nat) (u : Value), w.cell? ⟨b, o, none⟩ = some u → w'.cell? ⟨b, o, none⟩ = some u := fun o u h => by
  cases hb : w.heap[b]? with
  | none => unfold World.cell? at h; simp only [hb] at h; cases h
  | some x =>
   have := k b (c2 b rfl) (.inr rfl) x hb
   unfold World.cell? at h ⊢
   simp only [hb, this] at h ⊢
   exact h
 exact ⟨hc _ _ (a4 i hi).1, hc _ _ (a4 i hi).2.1, hc _ _ (a4 i hi).2.2⟩
def OpsAt16 (w : World) (v : Value) (l : List Op16) : Prop := ∃ p c b o, v = .slice p l.length c ∧ (l ≠ [] → p = some ⟨b, o, none⟩) ∧
 (∀ (i : Nat) (hi : i < l.length), w.cell? ⟨b, o + i * 7, none⟩ = some (I l[i].kind) ∧ w.cell? ⟨b, o + i * 7 + 1, none⟩ = some (I l[i].at0) ∧ w.cell? ⟨b, o + i * 7 + 2, none⟩ = some (I l[i].n0) ∧ w.cell? ⟨b, o + i * 7 + 3, none⟩ = some (S l[i].path) ∧ w.cell? ⟨b, o + i * 7 + 4, none⟩ = some (S l[i].dest) ∧ w.cell? ⟨b, o + i * 7 + 5, none⟩ = some (S l[i].s) ∧ w.cell? ⟨b, o + i * 7 + 6, none⟩ = some (B l[i].mask)) ∧
 (∀ x ∈ l, x.Ok) ∧ l.length ≤ 4611686018427387904 ∧ l.length ≤ c
section
open Go.Lib Go.ChangeShapes Go.WideShapes Go.Deep Go.Joins Go.ChangeAt
variable {H : Type} {enc : TypeId × Value → H} {w : World} {base : Nat} {spare : Nat → Bool} {held : Bool}
theorem open_byte1 {fuel : Nat} {u : Value} {x : DataW H × List MemPlace} (h : DataW.trod enc Tryz.prog w base spare held fuel 5 [u] = some x) : ∃ c : UInt8, u = B c := by
 obtain ⟨n, e, _, hw⟩ := DataW.trod_int Tryz.underlying5 h
 have hw' : (Lit.int .u8 n).wf = true := by first | exact hw.1 | exact hw | simpa using hw
 have h1 : IntKind.u8.min = 0 := rfl
 have h2 : IntKind.u8.max = 255 := rfl
 simp [Lit.wf] at hw'
 refine ⟨UInt8.ofNat n.toNat, ?_⟩
 have e' : u = .int .u8 n := by simpa using e
 rw [e']
 show Value.int .u8 n = .int .u8 _
 congr 1
 rw [UInt8.toNat_ofNat']
 omega
theorem bulk_agg {H : Type} (l : List (DataW H)) : Rows.uptoBulk (.agg l) = Rows.uptoBulkAll l + 1 := by simp [Rows.uptoBulk]
theorem open_script16 {fuel : Nat} {v : Value} {x : DataW H × List MemPlace} (h : DataW.trod enc Tryz.prog w base spare held fuel 22 [v] = some x) (hb : Rows.uptoBulk x.1 ≤ 1048576) :
  ∃ l, OpsAt16 w v l := by
 rcases open_slice_fields Tryz.underlying22 Tryz.underlying34 (by kernel_rfl) (by kernel_rfl) h with ⟨hcs, -⟩ | ⟨a, len, cap, m, D, Pl, hcs, hbb, hl, hm, hmm, hx, hi⟩
 ·simp at hcs; subst hcs
  exact ⟨[], none, 0, 0, 0, rfl, fun h => absurd rfl h, fun i hi => by simp at hi, fun x hx => (by cases hx), by simp, by simp⟩
 ·simp at hcs; subst hcs
  have hlm : len ≤ m := by rw [hmm]; split <;> omega
  rw [hx] at hb
  simp only [bulk_slice] at hb
  have hlen : len ≤ 1048576 := by
   have := bulk_len ((List.range len).map D)
   simp only [List.length_map, List.length_range] at this
   omega
  have key : ∀ i, i < len → ∃ e : Op16, w.cell? (a.add (i * 7)) = some (I e.kind) ∧ w.cell? (a.add (i * 7 + 1)) = some (I e.at0) ∧ w.cell? (a.add (i * 7 + 2)) = some (I e.n0) ∧ w.cell? (a.add (i * 7 + 3)) = some (S e.path) ∧ w.cell? (a.add (i * 7 + 4)) = some (S e.dest) ∧ w.cell? (a.add (i * 7 + 5)) = some (S e.s) ∧ w.cell? (a.add (i * 7 + 6)) = some (B e.mask) ∧ e.Ok := by
   intro i hil
   obtain ⟨ys, n, hD, -, hyl, hf⟩ := hi i (by omega)
   obtain ⟨u0, y0, e0, f0, t0⟩ := hf 0 _ rfl
   obtain ⟨u1, y1, e1, f1, t1⟩ := hf 1 _ rfl
   obtain ⟨u2, y2, e2, f2, t2⟩ := hf 2 _ rfl
   obtain ⟨u3, y3, e3, f3, t3⟩ := hf 3 _ rfl
   obtain ⟨u4, y4, e4, f4, t4⟩ := hf 4 _ rfl
   obtain ⟨u5, y5, e5, f5, t5⟩ := hf 5 _ rfl
   obtain ⟨u6, y6, e6, f6, t6⟩ := hf 6 _ rfl
   obtain ⟨n0, rfl, q0⟩ := open_int1 t0
   obtain ⟨n1, rfl, q1⟩ := open_int1 t1
   obtain ⟨n2, rfl, q2⟩ := open_int1 t2
   obtain ⟨s3, rfl, q3⟩ := open_str1 t3
   obtain ⟨s4, rfl, q4⟩ := open_str1 t4
   obtain ⟨s5, rfl, q5⟩ := open_str1 t5
   obtain ⟨c6, rfl⟩ := open_byte1 t6
   have hbi : Rows.uptoBulk (D i) ≤ 1048576 := by
    have := bulk_part (d := D i) (l := (List.range len).map D) (List.mem_map.2 ⟨i, List.mem_range.2 hil, rfl⟩)
    omega
   rw [hD, bulk_agg] at hbi
   have hs : ∀ (y : DataW H × List MemPlace) (k : Nat) (s : List UInt8), ys[k]? = some y → y.1 = .lit (.string s) → s.length ≤ 1048576 := fun y k s f q => by
    have := bulk_part (d := y.1) (l := ys.map (·.1)) (List.mem_map.2 ⟨y, List.mem_of_getElem? f, rfl⟩)
    rw [q, bulk_str] at this
    omega
   exact ⟨⟨n0, n1, n2, s3, s4, s5, c6⟩, e0, e1, e2, e3, e4, e5, e6, ⟨⟨int_lo q1, int_hi q1⟩, ⟨int_lo q2, int_hi q2⟩, ⟨int_lo q0, int_hi q0⟩, hs y3 3 s3 f3 q3, hs y4 4 s4 f4 q4, hs y5 5 s5 f5 q5⟩⟩
  haveI : Inhabited Op16 := ⟨⟨0, 0, 0, [], [], [], 0⟩⟩
  obtain ⟨f, hf⟩ := choose_lt key
  refine ⟨(List.range len).map f, ?_⟩
  obtain ⟨b, off, spot⟩ := a
  refine ⟨some ⟨b, off, spot⟩, cap, b, off, by simp, fun hne => ?_, fun i hi => ?_, fun x hx => ?_, by simp; omega, by simpa using hl⟩
  ·have hpos : 0 < len := by
    rcases Nat.eq_zero_or_pos len with h0 | h0
    ·subst h0; simp at hne
    ·exact h0
   have hspot : spot = none := by simpa [Addr.add] using World.cell?_spot (hf 0 hpos).1
   rw [hspot]
  ·have hil : i < len := by simpa using hi
   have hspot : spot = none := by simpa [Addr.add] using World.cell?_spot (hf 0 (by omega)).1
   subst hspot
   obtain ⟨g0, g1, g2, g3, g4, g5, g6, _⟩ := hf i hil
   simp only [List.getElem_map, List.getElem_range]
   rw [Addr.add_lit] at g0 g1 g2 g3 g4 g5 g6
   exact ⟨g0, g1, g2, g3, g4, g5, g6⟩
  ·obtain ⟨i, hi, rfl⟩ := List.mem_map.1 hx
   exact (hf i (List.mem_range.1 hi)).2.2.2.2.2.2.2
theorem two_cells {cs : Array Value} (h : cs.size = 2) : ∃ c0 c1, cs = #[c0, c1] := by
 obtain ⟨l⟩ := cs
 match l, h with
 | [c0, c1], _ => exact ⟨c0, c1, rfl⟩
theorem open_world16 {r : Reach} {b0 : Nat} {v : Value} {d : DataW H} {p : List MemPlace} (hv : Value.okWide Tryz.prog w r b0 24 v) (h : DataW.Trod enc Tryz.prog w base spare held 24 v d p) (hb : Rows.uptoBulk d ≤ 1048576) :
  ∃ (m : Int) (sv : Value) (l : List Op16), v = .agg #[I m, sv] ∧ OpsAt16 w sv l := by
 obtain ⟨cs, ys, n, rfl, hsz, hd, hyl, hf⟩ := open_agg_any Tryz.underlying24 (by kernel_rfl) (by kernel_rfl) hv h
 obtain ⟨c0, c1, rfl⟩ := two_cells hsz
 obtain ⟨u0, y0, e0, f0, t0⟩ := hf 0 _ rfl
 obtain ⟨u1, y1, e1, f1, t1⟩ := hf 1 _ rfl
 simp at e0 e1
 subst e0 e1
 obtain ⟨m, rfl, _⟩ := open_int1 t0
 subst hd
 rw [bulk_agg] at hb
 have hy := bulk_part (d := y1.1) (l := ys.map (·.1)) (List.mem_map.2 ⟨y1, List.mem_of_getElem? f1, rfl⟩)
 obtain ⟨l, hl⟩ := open_script16 t1 (by omega)
 exact ⟨m, _, l, rfl, hl⟩
end
end Go.Proofs.YteplbljjlbdhaaaGreatDoor
