/- Walks and lemmas on the program of this seat, used by its statements; each theorem bears its own conditions. -/
import Derived.Test.YteplbljjlbdhaaaGreatDoorZ15
namespace Go.Proofs.YteplbljjlbdhaaaGreatDoor
open Go.RowKit
set_option linter.unusedVariables false
set_option linter.unusedSimpArgs false
set_option linter.unusedSectionVars false
set_option maxHeartbeats 16000000
set_option maxRecDepth 100000
def layA (f : Fl) (a : Nat) : List (List UInt8) → Fl
 | [] => f
 | s :: l => layA (progA f a s) (a + 64) l
def appA (f : Fl) (a : Nat) (r : List UInt8) : Fl := progA (layA f a (laidL r)) (a + 3) [0]
theorem layA_snoc (l : List (List UInt8)) : ∀ (f : Fl) (a : Nat) (s : List UInt8), layA f a (l ++ [s]) = progA (layA f a l) (a + 64 * l.length) s := by
 induction l with
 | nil => intro f a s; simp [layA]
 | cons x l ih =>
  intro f a s
  rw [List.cons_append]
  show layA _ (a + 64) (l ++ [s]) = _
  rw [ih, show a + 64 + 64 * l.length = a + 64 * (x :: l).length by simp; omega]
  rfl
theorem roomF_le (l : List UInt8) : ∀ p, roomF l p ≤ p := by
 intro p
 induction p with
 | zero => exact Nat.le_refl _
 | succ p ih =>
  unfold roomF
  split
  ·omega
  ·omega
def CaseA (fs b num n : Nat) (init : List Sg) (f : Fl) (pg : Nat) (init' : List Sg) (b' num' : Nat) (f' : Fl) : Prop :=
 (pg ≤ roomF (blockOf f.bs (fs + b)) 7 ∧ init' = init ∧ b' = b ∧ num' = num ∧ f' = f) ∨
 (roomF (blockOf f.bs (fs + b)) 7 < pg ∧ init' = init ++ [(b, num)] ∧ b' = (b + 1) % n ∧ num' = num + 1 ∧ StepOK f f' ∧ blockOf f'.bs (fs + (b + 1) % n) = newB (num + 1) ∧ Others (fs + (b + 1) % n) f f')
def TornApp (f : Fl) (a : Nat) (r : List UInt8) (g : Fl) : Prop :=
 (∃ i s, (laidL r)[i]? = some s ∧ ArmOK (layA f a ((laidL r).take i)) ∧ (layA f a ((laidL r).take i)).armed = 1 ∧ g = progT (layA f a ((laidL r).take i)) (a + 64 * i) s) ∨
 (ArmOK (layA f a (laidL r)) ∧ (layA f a (laidL r)).armed = 1 ∧ g = progT (layA f a (laidL r)) (a + 3) [0])
def AppendPost (lb pb fb bb cb fs n : Nat) (v : Value) (init : List Sg) (b num : Nat) (f : Fl) (r : List UInt8) (w : World) (e : Ending) (w' : World) : Prop :=
 (∃ init' b' num' f' rm A, CaseA fs b num n init f (pagesF r.length) init' b' num' f' ∧ roomF (blockOf f'.bs (fs + b')) 7 = rm ∧ 512 * fs + (b' * 512 + (8 - rm) * 64) = A ∧ ArmOK (appA f' A r) ∧
  LgPost (I 0) lb pb fb bb cb fs n v w (init' ++ [(b', num')]) (appA f' A r) false e w') ∨
 (∃ g, roomF (blockOf f.bs (fs + b)) 7 < pagesF r.length ∧ StepDead f g ∧ (blockOf g.bs (fs + (b + 1) % n) = newB (num + 1) ∨ JunkB (blockOf g.bs (fs + (b + 1) % n))) ∧ Others (fs + (b + 1) % n) f g ∧
  LcPost 2 lb pb fb bb cb fs n v (init ++ [(b, num)]) g true w e w') ∨
 (∃ init' b' num' f' rm A g, CaseA fs b num n init f (pagesF r.length) init' b' num' f' ∧ roomF (blockOf f'.bs (fs + b')) 7 = rm ∧ 512 * fs + (b' * 512 + (8 - rm) * 64) = A ∧ TornApp f' A r g ∧
  LgPost (I 2) lb pb fb bb cb fs n v w (init' ++ [(b', num')]) g true e w')
theorem MakePost.val {lb pb fb bb cb fs n : Nat} {v : Value} {segs : List Sg} {f : Fl} {k num : Nat} {w : World} {e : Ending} {w' : World} (h : MakePost lb pb fb bb cb fs n v segs f k num w e w') :
  ∃ r : Int, e = .returned (I r) ∧ ((r = 0 ∧ ∃ g v', StepOK f g ∧ blockOf g.bs (fs + k) = newB num ∧ Others (fs + k) f g ∧ Fresh w v v' ∧ LgAt w' lb pb fb bb cb fs n v' (segs ++ [(k, num)]) g false ∧ Kept (LgT lb fb bb cb v) w w') ∨
   (r = 2 ∧ ∃ g, StepDead f g ∧ (blockOf g.bs (fs + k) = newB num ∨ JunkB (blockOf g.bs (fs + k))) ∧ Others (fs + k) f g ∧ LgAt w' lb pb fb bb cb fs n v segs g true ∧ Kept (LgT lb fb bb cb v) w w')) := by
 rcases h with ⟨g, a, b, c, rfl, v', d, x, y⟩ | ⟨g, a, b, c, rfl, x, y⟩
 ·exact ⟨0, rfl, .inl ⟨rfl, g, v', a, b, c, d, x, y⟩⟩
 ·exact ⟨2, rfl, .inr ⟨rfl, g, a, b, c, x, y⟩⟩
theorem append_arm (w : World) (lb pb fb bb cb fs n : Nat) (v : Value) (init : List Sg) (b num : Nat) (f : Fl) (h : LgAt w lb pb fb bb cb fs n v (init ++ [(b, num)]) f false) (hs : init.length ≤ 900) (ha : ArmOK f) (hb : b < n)
  (r : List UInt8) (hr : r.length ≤ 400) (spare : Nat) (hsp : spare ≤ 1000)
  (hcase : pagesF r.length ≤ roomF (blockOf f.bs (fs + b)) 7 ∨
   (roomF (blockOf f.bs (fs + b)) 7 < pagesF r.length ∧ spare + (init.length + 1) < n ∧ JunkB (blockOf f.bs (fs + (b + 1) % n)) ∧ num + 1 < 256 ^ 6)) :
  Calls Tryz.prog 150 #[Ptr lb, S r, I spare] w (AppendPost lb pb fb bb cb fs n v init b num f r w) := by
 have hd := ha.1
 have HP := Lib.hid (fun W => pages_any r.length hr W)
 have HL := Lib.hid (fun W => laid_any r hr W)
 have HPD := Lib.hid (pdead_any w pb fb bb cb fs n f h.pt)
 have HRM := Lib.hid (room_any w lb pb fb bb cb fs n v init b num f false h (by omega) hd hb)
 obtain ⟨rm0, hrm0⟩ : ∃ k, roomF (blockOf f.bs (fs + b)) 7 = k := ⟨_, rfl⟩
 obtain ⟨pg, hpg⟩ : ∃ k, pagesF r.length = k := ⟨_, rfl⟩
 have hpg1 : 1 ≤ pg ∧ pg ≤ 7 := by rw [← hpg]; unfold pagesF; split <;> omega
 have hll := laidL_len r hr
 rw [hpg] at HP hcase hll
 rw [hrm0] at HRM hcase
 have hrI : (r.length : Int) ≤ 400 := by omega
 have hpgI : (1 : Int) ≤ pg := by omega
 have hpgI2 : (pg : Int) ≤ 7 := by omega
 have hspI : (0 : Int) ≤ spare := by omega
 have hspb : decide ((spare : Int) < 0) = false := decide_eq_false (by omega)
 have hpg0 : ((pg : Int) == 0) = false := by simp; omega
 obtain ⟨c0, c1, c2⟩ := h.cells
 rw [hd] at HPD
 have H := Lib.hid h
 have HC := Lib.hid hcase
 have hb256 := h.pt.bound.1
 have hall := laidL_all r
 obtain ⟨L, hL⟩ : ∃ L, laidL r = L := ⟨_, rfl⟩
 have HAF := Lib.hid hL
 rw [hL] at HL hll hall
 have HPG := Lib.hid (And.intro hrm0 hpg)
 have HARM := Lib.hid (And.intro ha hb)
 clear hL
 clear h hcase hrm0 hpg
 go_enter Tryz.func150, Tryz.ntmps150
 go_wp2_with (fail)
 refine (HP.out _).mono ?_
 rintro e w1 ⟨rfl, rfl⟩
 go_wp2_with (fail)
 refine HPD.out.mono ?_
 rintro e w1 ⟨rfl, rfl⟩
 go_wp2_with (fail)
 refine HRM.out.mono ?_
 rintro e w2 ⟨rfl, k2⟩
 have K2 := Lib.hid k2
 clear k2
 go_upto_if 38 with (fail)
 go_cut [] from 8 to 58 (fun wx => ∃ v' init' b' num' f', CaseA fs b num n init f pg init' b' num' f' ∧ Fresh w1 v v' ∧ LgAt wx lb pb fb bb cb fs n v' (init' ++ [(b', num')]) f' false ∧ Kept (LgT lb fb bb cb v) w1 wx)
 case first =>
  rcases HC.out with hm | ⟨hm, hfr, hbk, hnum⟩
  ·have hmI : decide ((rm0 : Int) < pg) = false := decide_eq_false (by omega)
   go_wp2_with (fail)
   go_meet
   exact ⟨v, init, b, num, f, .inl ⟨by rw [HPG.out.1]; exact hm, rfl, rfl, rfl, rfl⟩, Fresh.refl _ _, H.out.same K2.out, LgT.sub0 K2.out⟩
  ·have hmI : decide ((rm0 : Int) < pg) = true := decide_eq_true (by omega)
   have hmI2 : (rm0 : Int) < pg := by omega
   have HFR := Lib.hid (free_any w2 lb pb fb bb cb fs n v _ f false (H.out.same K2.out) (by simp; omega))
   have hle : ¬ ((n : Int) - ((init.length : Int) + 1) ≤ spare) := by omega
   have hleb : decide ((n : Int) - ((init.length : Int) + 1) ≤ spare) = false := decide_eq_false hle
   have HM0 := Lib.hid hm
   clear hm hfr
   go_wp2_with (fail)
   refine HFR.out.mono ?_
   rintro e w3 ⟨rfl, k3⟩
   have K3 := Lib.hid (K2.out.trans' k3)
   clear k3
   go_wp2_with (fail)
   refine (newest_any _ lb pb fb bb cb fs n v init b num f false (H.out.same K3.out) (by omega)).mono ?_
   rintro e w4 ⟨rfl, k4⟩
   have K4 := Lib.hid (K3.out.trans' k4)
   clear k4
   have hnI : (n : Int) ≤ 256 := by have := H.out.pt.bound.1; omega
   have hbI : (b : Int) < n := by omega
   have hb1 : (b : Int) + 1 ≤ 256 := by omega
   have hnz : ((n : Int) == 0) = false := by simp; omega
   have hn1 : (1 : Int) ≤ n := by omega
   have hnumI : (num : Int) + 1 ≤ 281474976710656 := by
    have e6 : (256 : Nat) ^ 6 = 281474976710656 := by decide
    omega
   go_upto_region 14 with (fail)
   obtain ⟨D, hD⟩ : ∃ D, w4.heap.size = D := ⟨_, rfl⟩
   obtain ⟨W0, hW0⟩ : ∃ W0, w4.alloc (Obj.cells #[Value.int IntKind.i64 b, Value.int IntKind.i64 num] 207) = W0 := ⟨_, rfl⟩
   have hnw : W0.drew.heap[D]? = some (.cells #[Value.int IntKind.i64 b, Value.int IntKind.i64 num] 207 (0, 0)) := by
    rw [← hW0, ← hD]; exact heap_new w4 _
   have kw : Kept [] w1 W0.drew := by rw [← hW0]; exact (K4.out.alloc _).drew
   rw [hW0, hD]
   have e0 := cell_at hnw 0
   have e1 := cell_at hnw 1
   simp only [List.getElem?_toArray, List.getElem?_cons_zero, List.getElem?_cons_succ] at e0 e1
   have HB := Lib.hid (lblocks_any W0.drew lb pb fb bb cb fs n v _ f false (H.out.same kw))
   have hk : (b + 1) % n < n := Nat.mod_lt _ (by omega)
   have HM := Lib.hid (makes_arm W0.drew lb pb fb bb cb fs n v _ f (H.out.same kw) ha ((b + 1) % n) (num + 1) hk hbk hnum (by simp; omega))
   have KW := Lib.hid kw
   have hn0 : ¬ n = 0 := by omega
   have hn0I : ¬ (n : Int) = 0 := by omega
   have hwb : IntKind.i64.wrap ((b : Int) + 1) = ((b + 1 : Nat) : Int) := by rw [IntKind.wrap_i64]; omega
   have hwn : IntKind.i64.wrap ((num : Int) + 1) = ((num + 1 : Nat) : Int) := by rw [IntKind.wrap_i64]; omega
   have hrem : ((b + 1 : Nat) : Int).tmod n = (((b + 1) % n : Nat) : Int) := rfl
   have hrem2 : ((b + 1 : Nat) : Int) % n = (((b + 1) % n : Nat) : Int) := by omega
   have hrem3 : ((b : Int) + 1).tmod n = (((b + 1) % n : Nat) : Int) := rfl
   have hrem4 : ((b : Int) + 1) % n = (((b + 1) % n : Nat) : Int) := (Int.natCast_emod (b + 1) n).symm
   obtain ⟨kk, hkk⟩ : ∃ kk, (b + 1) % n = kk := ⟨_, rfl⟩
   obtain ⟨nn, hnn⟩ : ∃ nn, num + 1 = nn := ⟨_, rfl⟩
   have hkI : (kk : Int) ≤ 256 := by have := hk; rw [hkk] at this; omega
   rw [hkk] at HM hrem hrem2 hrem3 hrem4
   rw [hnn] at HM hwn
   have HKK := Lib.hid (And.intro hkk hnn)
   clear hkk hnn
   clear hnw kw hk hbk hnum hW0 hD hd ha hb hll hpg1 hle hleb
   have FIN0 : ∀ g6 v6 w6, StepOK f g6 → blockOf g6.bs (fs + kk) = newB nn → Others (fs + kk) f g6 → Fresh W0.drew v v6 → LgAt w6 lb pb fb bb cb fs n v6 (init ++ [(b, num)] ++ [(kk, nn)]) g6 false → Kept (LgT lb fb bb cb v) W0.drew w6 → ∃ v' init' b' num' f', CaseA fs b num n init f pg init' b' num' f' ∧ Fresh w1 v v' ∧ LgAt w6 lb pb fb bb cb fs n v' (init' ++ [(b', num')]) f' false ∧ Kept (LgT lb fb bb cb v) w1 w6 := by
    intro g6 v6 w6 s6 bl6 ot6 hfr6 h6 k6
    have hsz := KW.out.size
    obtain ⟨q1, q2⟩ := HKK.out
    subst q1 q2
    exact ⟨v6, init ++ [(b, num)], _, _, g6, .inr ⟨by rw [HPG.out.1]; exact HM0.out, rfl, rfl, rfl, s6, bl6, ot6⟩, (fun q hq => (hfr6 q hq).imp id (fun h7 => Nat.le_trans hsz h7)), h6, (LgT.sub0 KW.out).trans' k6⟩
   have FIN2 : ∀ g6 w6, StepDead f g6 → (blockOf g6.bs (fs + kk) = newB nn ∨ JunkB (blockOf g6.bs (fs + kk))) → Others (fs + kk) f g6 → LgAt w6 lb pb fb bb cb fs n v (init ++ [(b, num)]) g6 true → Kept (LgT lb fb bb cb v) W0.drew w6 → AppendPost lb pb fb bb cb fs n v init b num f r w1 (.returned (I 2)) w6 := by
    intro g6 w6 s6 bl6 ot6 h6 k6
    obtain ⟨q1, q2⟩ := HKK.out
    subst q1 q2
    exact .inr (.inl ⟨g6, by rw [HPG.out.1, HPG.out.2]; exact HM0.out, s6, bl6, ot6, rfl, h6, (LgT.sub0 KW.out).trans' k6⟩)
   have HFIN := Lib.hid (And.intro FIN0 FIN2)
   clear FIN0 FIN2
   go_region_with (first
    | (go_at_call 102; (with_reducible refine HB.out.mono ?_); rintro e w5 ⟨rfl, rfl⟩)
    | (go_at_call 104; (with_reducible refine HM.out.mono ?_); rintro e w6 hmk; obtain ⟨r6, rfl, hmk2⟩ := hmk.val; have HMK := Lib.hid hmk2; clear hmk hmk2))
   all_goals
    rcases HMK.out with ⟨rfl, g6, v6, s6, bl6, ot6, hfr6, h6, k6⟩ | ⟨rfl, g6, s6, bl6, ot6, h6, k6⟩
    ·go_wp2
     go_meet
     exact HFIN.out.1 g6 v6 w6 s6 bl6 ot6 hfr6 h6 k6
    ·go_wp2
     go_ret
     exact HFIN.out.2 g6 w6 s6 bl6 ot6 h6 k6
 case rest =>
 obtain ⟨v1, init', b', num', f', hca, hfr, hl, kx⟩ := hcut
 obtain ⟨rm, hrm⟩ : ∃ rm, roomF (blockOf f'.bs (fs + b')) 7 = rm := ⟨_, rfl⟩
 have hrm7 : rm ≤ 7 := by rw [← hrm]; exact roomF_le _ 7
 have hlive : ArmOK f' ∧ b' < n ∧ init'.length ≤ 901 ∧ pg ≤ rm := by
  rcases hca with ⟨e0, e1, e2, _, e4⟩ | ⟨_, e1, e2, _, e4, e5, _⟩
  ·exact ⟨by rw [e4]; exact HARM.out.1, by rw [e2]; exact HARM.out.2, by rw [e1]; omega, by rw [← hrm, e4, e2]; exact e0⟩
  ·refine ⟨e4.arm, by rw [e2]; exact Nat.mod_lt _ (by have := HARM.out.2; omega), by rw [e1]; simp; omega, ?_⟩
   rw [← hrm, e2, e5]
   have := room_head (num + 1)
   unfold newB
   rw [this]
   omega
 have HV := Lib.hid hlive
 obtain ⟨ha1, hb1, hi1, hfit⟩ := hlive
 have hd1 := ha1.1
 obtain ⟨A, hA⟩ : ∃ A : Nat, b' * 512 + (8 - rm) * 64 = A := ⟨_, rfl⟩
 have HCA := Lib.hid (And.intro hca hrm)
 have HA0 := Lib.hid hA
 clear hca hA
 have HRM1 := Lib.hid (fun W (k : Kept [] wc W) => room_any W lb pb fb bb cb fs n v1 init' b' num' f' false (hl.same k) (by omega) hd1 hb1)
 have HNW1 := Lib.hid (newest_any wc lb pb fb bb cb fs n v1 init' b' num' f' false hl (by omega))
 have HX := Lib.hid (And.intro hfr (And.intro hl kx))
 have HR1 := Lib.hid (And.intro hrm hfit)
 have hrmI : (rm : Int) ≤ 7 := by omega
 have hbI : (b' : Int) ≤ 256 := by omega
 have hA := HA0.out
 have hA64 : A % 64 = 0 := by omega
 have hAn : A + 64 * pg ≤ 512 * n := by omega
 have HAI : Hid ((b' : Int) * 512 + ((8 : Int) - rm) * 64 = A) := Lib.hid (by omega)
 have hA2 : (A : Int) ≤ 131072 := by omega
 have hfd : ∀ w : World, (Instr.field 207 (.agg #[I b', I num']) 0).run Tryz.prog w = .ok (I b') w := fun _ => seg_block _ _ _
 rw [hrm] at HRM1
 clear hfr hl kx hd1 ha1 hb1 hi1 hA hd ha hb hs hrm hfit hr hsp hrm7
 go_upto_region 17 with (fail)
 go_cut [10] from 59 to 67 (fun v10 wx => v10 = I A ∧ Kept [] wc wx)
 case first =>
  go_wp2_with (fail)
  refine HNW1.out.mono ?_
  rintro e w2 ⟨rfl, k2⟩
  go_wp2_with (fail)
  refine (HRM1.out _ k2).mono ?_
  rintro e w3 ⟨rfl, k3⟩
  go_wp2_with (fail)
  go_meet
  exact ⟨by rw [← HAI.out], k2.trans' k3⟩
 case rest =>
 obtain ⟨rfl, kc⟩ := hcut
 have KC := Lib.hid kc
 clear kc hrmI hbI hfd
 have HN1 := Lib.hid (And.intro hA64 hAn)
 clear hA64 hAn
 have hpgI3 := hpgI2
 go_wp2_with (fail)
 refine (HL.out _).mono ?_
 rintro e w4 ⟨vL, rfl, ownL, k4⟩
 obtain ⟨g, c, rfl, hg, hcells⟩ := row_cells1 ownL (by rw [hll]; omega)
 rw [hll] at hcells ownL
 have hltw : ∀ q ∈ [lb, fb, bb, cb], q < wc.heap.size := by
  have := (HX.out.2.1.same KC.out).lt
  have := HX.out.2.1.n2
  have := HX.out.2.1.n3
  have := HX.out.2.1.n4
  intro q hq
  simp at hq
  omega
 have HW := Lib.hid (And.intro hcells (And.intro hg (And.intro k4 hltw)))
 have hll2 := Lib.hid hll
 have hall2 := Lib.hid hall
 clear hcells hg ownL k4 hltw hall
 rw [hll]
 clear hll
 go_wp2_with (fail)
 have HPG2 := HPG.out.2
 have END : ∀ W', Kept [lb, fb, bb, cb] w4 W' → Kept (LgT lb fb bb cb v) w1 W' := by
  intro W' kq
  refine HX.out.2.2.trans' (LgT.sub0 (KC.out.trans' HW.out.2.2.1) |>.trans' ?_)
  exact kq.mono (by intro x hx; simp [LgT] at hx ⊢; omega)
 have END0 : ∀ W', ArmOK (appA f' (512 * fs + A) r) → LgAt W' lb pb fb bb cb fs n v1 (init' ++ [(b', num')]) (appA f' (512 * fs + A) r) false → Kept [lb, fb, bb, cb] w4 W' → AppendPost lb pb fb bb cb fs n v init b num f r w1 (.returned (I 0)) W' := by
  intro W' q1 q2 q3
  exact .inl ⟨init', b', num', f', rm, 512 * fs + A, by rw [HPG.out.2]; exact HCA.out.1, HCA.out.2, by rw [HA0.out], q1, rfl, v1, HX.out.1, q2, END W' q3⟩
 have END2 : ∀ g W', TornApp f' (512 * fs + A) r g → LgAt W' lb pb fb bb cb fs n v1 (init' ++ [(b', num')]) g true → Kept [lb, fb, bb, cb] w4 W' → AppendPost lb pb fb bb cb fs n v init b num f r w1 (.returned (I 2)) W' := by
  intro g W' q1 q2 q3
  exact .inr (.inr ⟨init', b', num', f', rm, 512 * fs + A, g, by rw [HPG.out.2]; exact HCA.out.1, HCA.out.2, by rw [HA0.out], q1, rfl, v1, HX.out.1, q2, END W' q3⟩)
 have HEND := Lib.hid (And.intro END0 END2)
 clear END END0 END2 HPG2
 go_loopw [71] (fun vi wr => ∃ i : Nat, i ≤ pg ∧ vi = I i ∧ LgAt wr lb pb fb bb cb fs n v1 (init' ++ [(b', num')]) (layA f' (512 * fs + A) (L.take i)) false ∧ ArmOK (layA f' (512 * fs + A) (L.take i)) ∧ Kept [lb, fb, bb, cb] w4 wr) (fun vi _ => pg - (intOf vi).toNat)
 case atStart => exact ⟨0, by omega, rfl, HX.out.2.1.same (KC.out.trans' HW.out.2.2.1), HV.out.1, Kept.refl _ _⟩
 case round =>
  obtain ⟨i, hi, rfl, hlg, hps0, kr⟩ := hrel
  have HR := Lib.hid (And.intro hlg kr)
  clear hlg kr
  have hps := Lib.hid hps0
  clear hps0
  obtain ⟨F, hF⟩ : ∃ F, layA f' (512 * fs + A) (L.take i) = F := ⟨_, rfl⟩
  rw [hF] at HR hps
  by_cases hlt : i < pg
  ·obtain ⟨s, hs⟩ : ∃ s, L[i]? = some s := ⟨L[i]'(by have := hll2.out; omega), List.getElem?_eq_getElem _⟩
   have hcell := HW.out.1 i hlt
   rw [List.getElem?_map, hs] at hcell
   have hcl : wr.cell? ⟨g, i, none⟩ = some (S s) := by
    have hgl : wc.heap.size ≤ g := HW.out.2.1
    exact (HR.out.2.cell (World.block_lt_of_cell? w4 _ hcell) (fun hm => by have := HW.out.2.2.2 g hm; omega)).trans hcell
   have hsn := hall2.out s (List.mem_of_getElem? hs)
   have HPW0 := Lib.hid (fun h1 => pwrite_arm wr pb fb bb cb fs n F HR.out.1.pt hps.out h1 (A + i * 64) s hsn.1 (by have := HN1.out.2; have := hsn.2; omega) (by have := HN1.out.1; have := hsn.2; omega))
   have HPW2 := Lib.hid (fun h1 => pwrite_torn wr pb fb bb cb fs n F HR.out.1.pt hps.out h1 (A + i * 64) s hsn.1 (by have := HN1.out.2; have := hsn.2; omega) (by have := HN1.out.1; have := hsn.2; omega))
   have HNX : Hid (L.take (i + 1) = L.take i ++ [s]) := Lib.hid (by rw [List.take_add_one, hs]; rfl)
   have HS := Lib.hid hs
   have HF := Lib.hid hF
   have HI := Lib.hid hlt
   clear hs hcell hsn hF
   obtain ⟨c0, c1, c2⟩ := HR.out.1.cells
   have hiI : (i : Int) < pg := by omega
   have hiI0 : (0 : Int) ≤ i := by omega
   have hAs : (A : Int) + (i : Int) * 64 = (A + i * 64 : Nat) := by omega
   obtain ⟨N, hN⟩ : ∃ N : Nat, A + i * 64 = N := ⟨_, rfl⟩
   rw [hN] at hAs HPW0 HPW2
   have HNN := Lib.hid hN
   clear hN
   by_cases hF1 : F.armed = 1
   ·go_wp2_with (fail)
    refine (HPW2.out hF1).mono ?_
    rintro e w5 ⟨rfl, h5, k5⟩
    have H5 := Lib.hid (And.intro (HR.out.1.turned k5 h5) k5)
    clear h5 k5 c0 c1 c2
    go_wp2_with (fail)
    refine (ltold_any _ lb pb fb bb cb fs n v1 _ _ false H5.out.1 2).mono ?_
    rintro e w6 ⟨rfl, h6, k6⟩
    have H6 := Lib.hid (And.intro h6 k6)
    clear h6 k6
    go_wp2_with (fail)
    go_ret
    refine HEND.out.2 _ _ (.inl ⟨i, s, by rw [HAF.out]; exact HS.out, ?_⟩) H6.out.1 (HR.out.2.trans' ((H5.out.2.mono (by simp)).trans' (H6.out.2.mono (by simp))))
    rw [HAF.out, HF.out]
    exact ⟨hps.out, hF1, by rw [show 512 * fs + A + 64 * i = 512 * fs + N by have := HNN.out; omega]⟩
   ·go_wp2_with (fail)
    refine (HPW0.out hF1).mono ?_
    rintro e w5 ⟨rfl, h5, k5⟩
    have H5 := Lib.hid (And.intro (HR.out.1.turned k5 h5) k5)
    clear h5 k5 c0 c1 c2
    go_wp2_with (fail)
    refine (ltold_any _ lb pb fb bb cb fs n v1 _ _ false H5.out.1 0).mono ?_
    rintro e w6 ⟨rfl, h6, k6⟩
    have H6 := Lib.hid (And.intro h6 k6)
    clear h6 k6
    go_wp2_with (fail)
    go_roundw
    case rel =>
     have hlen : (L.take i).length = i := by rw [List.length_take, hll2.out]; omega
     have heq : layA f' (512 * fs + A) (L.take (i + 1)) = progA F (512 * fs + N) s := by
      rw [HNX.out, layA_snoc, HF.out, hlen, show 512 * fs + A + 64 * i = 512 * fs + N by have := HNN.out; omega]
     refine ⟨i + 1, by omega, by go_num, by rw [heq]; exact H6.out.1, by rw [heq]; exact (progA_ok hps.out hF1 _ _).arm, ?_⟩
     exact HR.out.2.trans' ((H5.out.2.mono (by simp)).trans' (H6.out.2.mono (by simp)))
    case measure => simp [intOf]; omega
  ·have hie : i = pg := by omega
   subst hie
   have htk : L.take i = L := List.take_of_length_le (by have := hll2.out; omega)
   rw [htk] at hF
   have HF := Lib.hid hF
   have hb1 : ([0] : List UInt8) ≠ [] := by simp
   have HPW0 := Lib.hid (fun (h1 : F.armed ≠ 1) W (k : Kept [] wr W) => pwrite_arm W pb fb bb cb fs n F (HR.out.1.same k).pt hps.out h1 (A + 3) [0] hb1 (by have := HN1.out.2; simp; omega) (by have := HN1.out.1; simp; omega))
   have HPW2 := Lib.hid (fun (h1 : F.armed = 1) W (k : Kept [] wr W) => pwrite_torn W pb fb bb cb fs n F (HR.out.1.same k).pt hps.out h1 (A + 3) [0] hb1 (by have := HN1.out.2; simp; omega) (by have := HN1.out.1; simp; omega))
   clear hF htk hlt hb1
   obtain ⟨c0, c1, c2⟩ := HR.out.1.cells
   have hA3 : (A : Int) + 4 - 1 = (A + 3 : Nat) := by omega
   have hA3b : (A : Int) + 3 = (A + 3 : Nat) := by omega
   obtain ⟨B, hB⟩ : ∃ B : Nat, A + 3 = B := ⟨_, rfl⟩
   rw [hB] at hA3 hA3b HPW0 HPW2
   have HB0 := Lib.hid hB
   have hB2 : (B : Int) ≤ 131080 := by omega
   clear hB
   by_cases hF1 : F.armed = 1
   ·go_wp2_with (fail)
    refine (HPW2.out hF1 _ (Kept.refl _ _)).mono ?_
    rintro e w5 ⟨rfl, h5, k5⟩
    have H5 := Lib.hid (And.intro (HR.out.1.turned k5 h5) k5)
    clear h5 k5 c0 c1 c2
    go_wp2_with (fail)
    refine (ltold_any _ lb pb fb bb cb fs n v1 _ _ false H5.out.1 2).mono ?_
    rintro e w6 ⟨rfl, h6, k6⟩
    have H6 := Lib.hid (And.intro h6 k6)
    clear h6 k6
    go_wp2_with (fail)
    go_ret
    refine HEND.out.2 _ _ (.inr ?_) H6.out.1 (HR.out.2.trans' ((H5.out.2.mono (by simp)).trans' (H6.out.2.mono (by simp))))
    rw [HAF.out, HF.out]
    exact ⟨hps.out, hF1, by rw [show 512 * fs + A + 3 = 512 * fs + B by have := HB0.out; omega]⟩
   ·go_wp2_with (fail)
    refine (HPW0.out hF1 _ (Kept.refl _ _)).mono ?_
    rintro e w5 ⟨rfl, h5, k5⟩
    have H5 := Lib.hid (And.intro (HR.out.1.turned k5 h5) k5)
    clear h5 k5 c0 c1 c2
    go_wp2_with (fail)
    refine (ltold_any _ lb pb fb bb cb fs n v1 _ _ false H5.out.1 0).mono ?_
    rintro e w6 ⟨rfl, h6, k6⟩
    have H6 := Lib.hid (And.intro h6 k6)
    clear h6 k6
    go_wp2_with (fail)
    go_ret
    have heq : appA f' (512 * fs + A) r = progA F (512 * fs + B) [0] := by
     unfold appA
     rw [HAF.out, HF.out, show 512 * fs + A + 3 = 512 * fs + B by have := HB0.out; omega]
    exact HEND.out.1 _ (by rw [heq]; exact (progA_ok hps.out hF1 _ _).arm) (by rw [heq]; exact H6.out.1) (HR.out.2.trans' ((H5.out.2.mono (by simp)).trans' (H6.out.2.mono (by simp))))
theorem drop_of (w : World) (lb pb fb bb cb fs n : Nat) (v : Value) (s0 : Sg) (tl : List Sg) (f f1 : Fl) (h : LgAt w lb pb fb bb cb fs n v (s0 :: tl) f false) (hb : s0.1 < n) (h1 : 1 ≤ tl.length) (hs : tl.length ≤ 1000)
  (HE : ∀ W, Kept [] w W → Calls Tryz.prog 132 #[Ptr pb, I s0.1] W (PtPost (I 0) pb fb bb cb fs n W f1)) :
  Calls Tryz.prog 182 #[Ptr lb, I 0] w (LgPost (I 0) lb pb fb bb cb fs n v w tl f1 false) := by
 replace HE := Lib.hid HE
 obtain ⟨g, c, hv, hcl⟩ := h.slice (by simp)
 obtain ⟨c0, c1, c2⟩ := h.cells
 obtain ⟨e0, e1⟩ := hcl 0 (by simp)
 simp only [List.getElem_cons_zero, Nat.zero_mul] at e0 e1
 subst hv
 obtain ⟨k, hk⟩ : ∃ k, tl.length = k := ⟨_, rfl⟩
 simp only [List.length_cons, hk] at c1
 have hbI : (s0.1 : Int) ≤ 256 := by have := h.pt.bound.1; omega
 have hkI : (k : Int) ≤ 1000 := by omega
 have hk1 : (1 : Int) ≤ k := by omega
 have hk2 : ((k : Int) + 1 == 1) = false := by simp; omega
 have H := Lib.hid h
 have HK := Lib.hid hk
 obtain ⟨b0, hb0⟩ : ∃ b0, s0.1 = b0 := ⟨_, rfl⟩
 rw [hb0] at e0 HE hbI
 clear h hb hcl hb0 h1 hs hk
 go_enter Tryz.func182, Tryz.ntmps182
 go_upto_region 5 with (fail)
 go_cut [5] from 18 to 32 (fun v5 wx => v5 = I 0 ∧ LgAt wx lb pb fb bb cb fs n (.slice (some ⟨g, 0, none⟩) (s0 :: tl).length c) (s0 :: tl) f1 false ∧ Kept (LgT lb fb bb cb (.slice (some ⟨g, 0, none⟩) (s0 :: tl).length c)) w wx)
 case first =>
  go_region_with (first
   | (go_at_call 132; (with_reducible refine (HE.out _ (Kept.refl [] w).drew).mono ?_); rintro e w3 ⟨rfl, h3, k3⟩)
   | (go_at_call 131; (with_reducible refine (ltold_any _ lb pb fb bb cb fs n _ (s0 :: tl) f1 false (H.out.drew.turned k3 h3) 0).mono ?_); rintro e w4 ⟨rfl, h4, k4⟩))
  all_goals
   go_wp2
   go_meet
   exact ⟨rfl, h4, (LgT.sub0 (Kept.refl [] w).drew).trans' ((LgT.sub3 k3).trans' (LgT.sub1 k4))⟩
 case rest =>
 obtain ⟨rfl, h2, k2⟩ := hcut
 clear c0 c1 c2 e0 e1
 obtain ⟨c0, c1, c2⟩ := h2.cells
 have HL2 := Lib.hid (And.intro h2 k2)
 have h2own := h2.own
 obtain ⟨gg, cc, hvv, hcl2⟩ := h2.slice (by simp)
 clear h2 k2
 have hgg : gg = g := by cases hvv; rfl
 subst hgg
 clear hvv
 have hT := Lib.hid (fun W (k : Kept [] wc W) => (HL2.out.1.same k).cells)
 have hpos : 1 ≤ (s0 :: tl).length := by simp
 have hsm : (s0 :: tl).length ≤ 1001 := by have := HK.out; simp; omega
 have HCL := Lib.hid (sclone_any wc (s0 :: tl) gg c hpos hsm hcl2)
 have hlt := HL2.out.1.lt
 have hll : (s0 :: tl).length = k + 1 := by have := HK.out; simp [this]
 rw [hll] at HCL c1
 have HLL := Lib.hid hll
 clear hcl2 hpos hsm hll h2own
 go_wp2_with (fail)
 refine HCL.out.mono ?_
 rintro e w3 ⟨⟨g', c', rfl, hg', own3⟩, k3⟩
 obtain ⟨gq, capq, curq, hvq, hbq, hgq, hnq, hcq, hszq, htq⟩ : ∃ g cap cur, Value.slice (some ⟨g', 0, none⟩) (k + 1) c' = .slice (some ⟨g, 0, none⟩) (k + 1) cap ∧ wc.heap.size ≤ g ∧ w3.heap[g]? = some (.cells cur 207 (0, 0)) ∧ k + 1 ≤ cap ∧ cap ≤ maxLen ∧ cur.size = cap * 2 ∧ cur.toList.take ((k + 1) * 2) = segCells (s0 :: tl) := by
  rcases own3.2 with ⟨h0, _⟩ | h
  ·cases h0
  ·exact h
 obtain ⟨rfl, rfl⟩ : g' = gq ∧ c' = capq := by injection hvq with a b c; injection a with a; injection a with a; exact ⟨a, c⟩
 have HDL := Lib.hid (sdelete_any w3 s0 tl g' c' curq hgq (by rw [HK.out]; exact hnq) hcq hszq (by rw [HK.out]; exact htq) (by rw [HK.out]; omega) (by rw [HK.out]; omega))
 rw [HK.out] at HDL
 have K3 := Lib.hid (And.intro k3 (And.intro hg' (And.intro hnq hcq)))
 clear own3 hvq hgq hnq hcq hszq htq hbq hg' k3
 go_wp2_with (fail)
 refine HDL.out.mono ?_
 rintro e w4 ⟨rfl, ⟨cur4, hg4, hsz4, htk4⟩, k4⟩
 have k34 : Kept [] wc w4 := K3.out.1.new k4 (by intro x hx; simp at hx; have := K3.out.2.1; omega)
 obtain ⟨f0, f1', f2⟩ := hT.out w4 k34
 have hl4 := HL2.out.1.same k34
 have hfr := hl4.free
 have K4 := Lib.hid (And.intro hl4 (And.intro k34 (And.intro hg4 (And.intro hsz4 htk4))))
 clear hg4 hsz4 htk4 k4 hl4 k34 c0 c1 c2
 go_wp2_with (fail)
 go_ret
 obtain ⟨hl4, k34, hg4, hsz4, htk4⟩ := K4.out
 have own4 : w4.ownsRow (lb + 1) 207 2 (.slice (some ⟨g', 0, none⟩) k c') tl.length (segCells tl) :=
  ⟨segCells_len tl, .inr ⟨g', c', cur4, by rw [HK.out], by have := K3.out.2.1; omega, hg4, by rw [HK.out]; have := K3.out.2.2.1; omega, K3.out.2.2.2, hsz4, by rw [HK.out]; exact htk4⟩⟩
 refine ⟨rfl, .slice (some ⟨g', 0, none⟩) k c', ?_, hl4.setSegs own4, HL2.out.2.trans' ((LgT.sub0 k34).trans' (LgT.sub1 ((Kept.refl _ _).setCell (.inl (by simp)) _)))⟩
 intro q hq
 have hqg : g' = q := by simpa [Value.ownBlock] using hq
 subst hqg
 right
 have := K3.out.2.1
 have := HL2.out.2.size
 omega
theorem drop_dead (w : World) (lb pb fb bb cb fs n : Nat) (v : Value) (s0 : Sg) (tl : List Sg) (f f1 : Fl) (h : LgAt w lb pb fb bb cb fs n v (s0 :: tl) f false) (hb : s0.1 < n) (h1 : 1 ≤ tl.length) (hs : tl.length ≤ 1000)
  (HE : ∀ W, Kept [] w W → Calls Tryz.prog 132 #[Ptr pb, I s0.1] W (PtPost (I 2) pb fb bb cb fs n W f1)) :
  Calls Tryz.prog 182 #[Ptr lb, I 0] w (LcPost 2 lb pb fb bb cb fs n v (s0 :: tl) f1 true w) := by
 replace HE := Lib.hid HE
 obtain ⟨g, c, hv, hcl⟩ := h.slice (by simp)
 obtain ⟨c0, c1, c2⟩ := h.cells
 obtain ⟨e0, e1⟩ := hcl 0 (by simp)
 simp only [List.getElem_cons_zero, Nat.zero_mul] at e0 e1
 subst hv
 obtain ⟨k, hk⟩ : ∃ k, tl.length = k := ⟨_, rfl⟩
 simp only [List.length_cons, hk] at c1
 have hbI : (s0.1 : Int) ≤ 256 := by have := h.pt.bound.1; omega
 have hkI : (k : Int) ≤ 1000 := by omega
 have hk1 : (1 : Int) ≤ k := by omega
 have hk2 : ((k : Int) + 1 == 1) = false := by simp; omega
 have H := Lib.hid h
 have HK := Lib.hid hk
 obtain ⟨b0, hb0⟩ : ∃ b0, s0.1 = b0 := ⟨_, rfl⟩
 rw [hb0] at e0 HE hbI
 clear h hb hcl hb0 h1 hs hk
 go_enter Tryz.func182, Tryz.ntmps182
 go_upto_region 5 with (fail)
 go_cut [5] from 18 to 32 (fun v5 wx => v5 = I 2 ∧ LgAt wx lb pb fb bb cb fs n (.slice (some ⟨g, 0, none⟩) (s0 :: tl).length c) (s0 :: tl) f1 true ∧ Kept (LgT lb fb bb cb (.slice (some ⟨g, 0, none⟩) (s0 :: tl).length c)) w wx)
 case first =>
  go_region_with (first
   | (go_at_call 132; (with_reducible refine (HE.out _ (Kept.refl [] w).drew).mono ?_); rintro e w3 ⟨rfl, h3, k3⟩)
   | (go_at_call 131; (with_reducible refine (ltold_any _ lb pb fb bb cb fs n _ (s0 :: tl) f1 false (H.out.drew.turned k3 h3) 2).mono ?_); rintro e w4 ⟨rfl, h4, k4⟩))
  all_goals
   go_wp2
   go_meet
   exact ⟨rfl, h4, (LgT.sub0 (Kept.refl [] w).drew).trans' ((LgT.sub3 k3).trans' (LgT.sub1 k4))⟩
 case rest =>
 obtain ⟨rfl, h2, k2⟩ := hcut
 have H2 := Lib.hid (And.intro h2 k2)
 clear h2 k2 c0 c1 c2 e0 e1
 go_wp2_with (fail)
 go_ret
 exact ⟨rfl, H2.out.1, H2.out.2⟩
def DropPost (lb pb fb bb cb fs n : Nat) (v : Value) (s0 : Sg) (tl : List Sg) (f : Fl) (w : World) (e : Ending) (w' : World) : Prop :=
 (∃ g, StepOK f g ∧ blockOf g.bs (fs + s0.1) = fullB ∧ Others (fs + s0.1) f g ∧ LgPost (I 0) lb pb fb bb cb fs n v w tl g false e w') ∨
 (∃ g, StepDead f g ∧ (blockOf g.bs (fs + s0.1) = blockOf f.bs (fs + s0.1) ∨ JunkB (blockOf g.bs (fs + s0.1))) ∧ Others (fs + s0.1) f g ∧ LcPost 2 lb pb fb bb cb fs n v (s0 :: tl) g true w e w')
theorem drop_arm (w : World) (lb pb fb bb cb fs n : Nat) (v : Value) (s0 : Sg) (tl : List Sg) (f : Fl) (h : LgAt w lb pb fb bb cb fs n v (s0 :: tl) f false) (ha : ArmOK f) (hb : s0.1 < n) (h1 : 1 ≤ tl.length) (hs : tl.length ≤ 1000) :
  Calls Tryz.prog 182 #[Ptr lb, I 0] w (DropPost lb pb fb bb cb fs n v s0 tl f w) := by
 have hbd := h.pt.bound
 have hln : 512 * (fs + s0.1) + 512 ≤ f.bs.length := by omega
 by_cases a1 : f.armed = 1
 ·refine (drop_dead w lb pb fb bb cb fs n v s0 tl f (eraseT f (fs + s0.1)) h hb h1 hs (fun W k => perase_torn W pb fb bb cb fs n f (h.same k).pt ha a1 s0.1 hb)).mono ?_
  intro e w' hp
  exact .inr ⟨_, eraseT_dead ha a1 _, tornE_seg ha.2.2.2 hln, fun j hj hn => tornE_other hj hn, hp⟩
 ·refine (drop_of w lb pb fb bb cb fs n v s0 tl f (eraseA f (fs + s0.1)) h hb h1 hs (fun W k => perase_arm W pb fb bb cb fs n f (h.same k).pt ha a1 s0.1 hb)).mono ?_
  intro e w' hp
  exact .inl ⟨_, eraseA_ok ha a1 _, erase_same hln, fun j hj hn => erase_other hj hn, hp⟩
theorem dropOldest_arm (w : World) (lb pb fb bb cb fs n : Nat) (v : Value) (s0 : Sg) (tl : List Sg) (f : Fl) (h : LgAt w lb pb fb bb cb fs n v (s0 :: tl) f false) (ha : ArmOK f) (hb : s0.1 < n) (h1 : 1 ≤ tl.length) (hs : tl.length ≤ 1000) :
  Calls Tryz.prog 149 #[Ptr lb] w (DropPost lb pb fb bb cb fs n v s0 tl f w) := by
 have HD := Lib.hid (drop_arm w lb pb fb bb cb fs n v s0 tl f h ha hb h1 hs)
 clear h ha hb h1 hs
 go_enter Tryz.func149, Tryz.ntmps149
 go_wp2_with (fail)
 refine HD.out.mono ?_
 intro e w1 hp
 rcases hp with ⟨g, a, b, c, rfl, d⟩ | ⟨g, a, b, c, rfl, d⟩
 ·have H1 := Lib.hid (And.intro a (And.intro b (And.intro c d)))
  clear a b c d
  go_wp2_with (fail)
  go_ret
  exact .inl ⟨g, H1.out.1, H1.out.2.1, H1.out.2.2.1, rfl, H1.out.2.2.2⟩
 ·have H1 := Lib.hid (And.intro a (And.intro b (And.intro c d)))
  clear a b c d
  go_wp2_with (fail)
  go_ret
  exact .inr ⟨g, H1.out.1, H1.out.2.1, H1.out.2.2.1, rfl, H1.out.2.2.2⟩
end Go.Proofs.YteplbljjlbdhaaaGreatDoor
