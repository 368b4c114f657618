/- Walks and lemmas on the program of this seat, used by its statements; each theorem bears its own conditions. -/
import Derived.Test.YteplbljjlbdhaaaGreatDoorZ14
import Derived.Test.YteplbljjlbdhaaaGreatDoorZ6
namespace Go.Proofs.YteplbljjlbdhaaaGreatDoor
open Go.RowKit
set_option linter.unusedVariables false
set_option linter.unusedSimpArgs false
set_option linter.unusedSectionVars false
set_option maxHeartbeats 16000000
set_option maxRecDepth 100000
theorem at_block {bs : List UInt8} {k i : Nat} (h : 512 * k + 512 ≤ bs.length) (hi : i < 512) : byteAt (blockOf bs k) i = byteAt bs (512 * k + i) := by
 rw [byteAt_eq _ _ (by rw [blockOf_len h]; exact hi), blockOf_at h hi, byteAt_eq _ _ (by omega)]
theorem onL_same_at {bs : List UInt8} {k o m i : Nat} {g : Nat → UInt8 → UInt8} (h : 512 * k + 512 ≤ bs.length) (hi : i < 512) : byteAt (blockOf (onL bs (512 * k + o) m g) k) i = if o ≤ i ∧ i < o + m then g (i - o) (byteAt (blockOf bs k) i) else byteAt (blockOf bs k) i := by
 rw [at_block (by rw [onL_len]; exact h) hi, onL_at _ _ _ _ _ (by omega), at_block h hi]
 by_cases hc : o ≤ i ∧ i < o + m
 ·rw [if_pos hc, if_pos (by omega), show 512 * k + i - (512 * k + o) = i - o by omega]
 ·rw [if_neg hc, if_neg (by omega)]
theorem onL_other {bs : List UInt8} {k j o m : Nat} {g : Nat → UInt8 → UInt8} (hj : 512 * j + 512 ≤ bs.length) (hn : j ≠ k) (ho : o + m ≤ 512) : blockOf (onL bs (512 * k + o) m g) j = blockOf bs j := by
 apply List.ext_getElem
 ·rw [blockOf_len (by rw [onL_len]; exact hj), blockOf_len hj]
 ·intro i h1 h2
  have hi : i < 512 := by rw [blockOf_len hj] at h2; exact h2
  rw [blockOf_at (by rw [onL_len]; exact hj) hi, blockOf_at hj hi]
  simp only [onL, List.getElem_mapIdx]
  rw [if_neg (by omega)]
theorem tornE_same {bs : List UInt8} {keep : Int} {mask : UInt8} {k i : Nat} (h : 512 * k + 512 ≤ bs.length) (hi : i < 512) : byteAt (blockOf (tornE keep mask bs k) k) i = tornEG keep mask i (byteAt (blockOf bs k) i) := by
 unfold tornE
 have := onL_same_at (g := tornEG keep mask) (o := 0) (m := 512) h hi
 rw [Nat.add_zero] at this
 rw [this, if_pos ⟨by omega, by omega⟩, Nat.sub_zero]
theorem tornE_other {bs : List UInt8} {keep : Int} {mask : UInt8} {k j : Nat} (hj : 512 * j + 512 ≤ bs.length) (hn : j ≠ k) : blockOf (tornE keep mask bs k) j = blockOf bs j := by
 unfold tornE
 have := onL_other (g := tornEG keep mask) (o := 0) (m := 512) hj hn (by omega)
 rwa [Nat.add_zero] at this
theorem or_ne0 {a b : UInt8} (h : a ≠ 0) : a ||| b ≠ 0 := by
 intro hz
 apply h
 have h2 : (a ||| b).toNat = 0 := by rw [hz]; rfl
 rw [UInt8.toNat_or] at h2
 have := Nat.left_le_or (n := a.toNat) (m := b.toNat)
 apply UInt8.toNat_inj.1
 show a.toNat = 0
 omega
def JunkB (b : List UInt8) : Prop := byteAt b 7 ≠ 0
def newB (num : Nat) : List UInt8 := headL num ++ List.replicate 448 255
theorem full_at {i : Nat} (hi : i < 512) : byteAt fullB i = 255 := by unfold fullB; rw [byteAt_eq _ _ (by simpa using hi), List.getElem_replicate]
theorem junk_full : JunkB fullB := by unfold JunkB; rw [full_at (by omega)]; decide
theorem tornE_junk {bs : List UInt8} {keep : Int} {mask : UInt8} {k : Nat} (h : 512 * k + 512 ≤ bs.length) (hj : JunkB (blockOf bs k)) : JunkB (blockOf (tornE keep mask bs k) k) := by
 unfold JunkB
 rw [tornE_same h (by omega)]
 unfold tornEG
 by_cases h1 : ((7 / 64 : Nat) : Int) < keep
 ·rw [if_pos h1]; decide
 ·rw [if_neg h1]
  by_cases h2 : ((7 / 64 : Nat) : Int) = keep
  ·rw [if_pos h2]; exact or_ne0 hj
  ·rw [if_neg h2]; exact hj
theorem tornE_seg {bs : List UInt8} {keep : Int} {mask : UInt8} {k : Nat} (hk : 0 ≤ keep) (h : 512 * k + 512 ≤ bs.length) : blockOf (tornE keep mask bs k) k = blockOf bs k ∨ JunkB (blockOf (tornE keep mask bs k) k) := by
 by_cases h1 : 0 < keep
 ·right
  unfold JunkB
  rw [tornE_same h (by omega)]
  unfold tornEG
  rw [if_pos (by simpa using h1)]
  decide
 ·have h0 : keep = 0 := by omega
  subst h0
  by_cases hm : mask = 0
  ·left
   subst hm
   apply List.ext_getElem
   ·rw [blockOf_len (by unfold tornE; rw [onL_len]; exact h), blockOf_len h]
   ·intro i a b
    have hi : i < 512 := by rw [blockOf_len h] at b; exact b
    have := tornE_same (keep := 0) (mask := 0) h hi
    rw [byteAt_eq _ _ a, byteAt_eq _ _ b] at this
    rw [this]
    unfold tornEG
    rw [if_neg (by omega)]
    split
    ·simp
    ·rfl
  ·right
   unfold JunkB
   rw [tornE_same h (by omega)]
   unfold tornEG
   rw [if_neg (by omega), if_pos (by rfl), UInt8.or_comm]
   exact or_ne0 hm
structure StepOK (f g : Fl) : Prop where
 arm : ArmOK g
 cs : g.cs.length = f.cs.length
 len : g.bs.length = f.bs.length
 zero : f.armed = 0 → g.armed = 0
structure StepDead (f g : Fl) : Prop where
 dead : g.dead = true
 armed : g.armed = 0
 cs : g.cs.length = f.cs.length
 len : g.bs.length = f.bs.length
 keep : 0 ≤ g.keep
 was : f.armed ≠ 0
theorem StepOK.refl {f : Fl} (h : ArmOK f) : StepOK f f := ⟨h, rfl, rfl, id⟩
theorem StepOK.trans {f g h : Fl} (a : StepOK f g) (b : StepOK g h) : StepOK f h := ⟨b.arm, by rw [b.cs, a.cs], by rw [b.len, a.len], fun h => b.zero (a.zero h)⟩
theorem StepOK.dead {f g h : Fl} (a : StepOK f g) (b : StepDead g h) : StepDead f h := ⟨b.dead, b.armed, by rw [b.cs, a.cs], by rw [b.len, a.len], b.keep, fun h => b.was (a.zero h)⟩
theorem eraseA_ok {f : Fl} (ha : ArmOK f) (h1 : f.armed ≠ 1) (k : Nat) : StepOK f (eraseA f k) :=
 ⟨tick_live ha h1, by simp [eraseA, Fl.tick], by simp [eraseA, eraseL, onL_len], fun h => by show (if f.armed = 0 then (0 : Int) else f.armed - 1) = 0; rw [if_pos h]⟩
theorem progA_ok {f : Fl} (ha : ArmOK f) (h1 : f.armed ≠ 1) (a : Nat) (s : List UInt8) : StepOK f (progA f a s) :=
 ⟨tick_live ha h1, rfl, by simp [progA, progL, onL_len], fun h => by show (if f.armed = 0 then (0 : Int) else f.armed - 1) = 0; rw [if_pos h]⟩
theorem eraseT_dead {f : Fl} (ha : ArmOK f) (h1 : f.armed = 1) (k : Nat) : StepDead f (eraseT f k) :=
 ⟨(tick_dead h1).1, (tick_dead h1).2, by simp [eraseT, Fl.tick], by simp [eraseT, tornE, onL_len], ha.2.2.2, by rw [h1]; decide⟩
theorem progT_dead {f : Fl} (ha : ArmOK f) (h1 : f.armed = 1) (a : Nat) (s : List UInt8) : StepDead f (progT f a s) :=
 ⟨(tick_dead h1).1, (tick_dead h1).2, rfl, by simp [progT, tornP, onL_len], ha.2.2.2, by rw [h1]; decide⟩
def Others (b : Nat) (f g : Fl) : Prop := ∀ j, 512 * j + 512 ≤ f.bs.length → j ≠ b → blockOf g.bs j = blockOf f.bs j
theorem Others.trans {b : Nat} {f g h : Fl} (hl : g.bs.length = f.bs.length) (p : Others b f g) (q : Others b g h) : Others b f h :=
 fun j hj hn => by rw [q j (by rw [hl]; exact hj) hn, p j hj hn]
theorem full_of {l : List UInt8} (h : allB l = true) (hl : l.length = 512) : l = fullB := by
 unfold fullB
 rw [List.eq_replicate_iff]
 refine ⟨hl, fun b hb => ?_⟩
 unfold allB at h
 rw [List.all_eq_true] at h
 simpa using h b hb
theorem tornP_one (keep : Int) (mask : UInt8) (bs : List UInt8) (a : Nat) (hk : 0 ≤ keep) : tornP keep mask bs a [0] = progL bs a [0] ∨ (mask ≠ 0 ∧ ∀ i, i < bs.length → byteAt (tornP keep mask bs a [0]) i = if i = a then byteAt bs a &&& mask else byteAt bs i) := by
 have hsame : (∀ b : UInt8, tornG keep mask [0] 0 b = b &&& byteAt [0] 0) → tornP keep mask bs a [0] = progL bs a [0] := by
  intro hh
  apply List.ext_getElem
  ·unfold tornP progL; rw [onL_len, onL_len]
  ·intro i h1 h2
   simp only [tornP, progL, onL, List.getElem_mapIdx]
   by_cases hc : a ≤ i ∧ i < a + [(0 : UInt8)].length
   ·have : i - a = 0 := by simp at hc; omega
    rw [if_pos hc, if_pos hc, this, hh]
   ·rw [if_neg hc, if_neg hc]
 by_cases h1 : 0 < keep
 ·exact .inl (hsame (fun b => by unfold tornG; rw [if_pos (by simpa using h1)]))
 ·have h0 : keep = 0 := by omega
  subst h0
  by_cases hm : mask = 0
  ·subst hm
   exact .inl (hsame (fun b => by unfold tornG; simp))
  ·refine .inr ⟨hm, fun i hi => ?_⟩
   unfold tornP
   rw [onL_at _ _ _ _ _ hi]
   by_cases hc : i = a
   ·subst hc
    rw [if_pos ⟨by omega, by simp⟩, if_pos rfl]
    unfold tornG
    simp [byteAt]
   ·rw [if_neg (by simp; omega), if_neg hc]
def MakePost (lb pb fb bb cb fs n : Nat) (v : Value) (segs : List Sg) (f : Fl) (k num : Nat) (w : World) (e : Ending) (w' : World) : Prop :=
 (∃ g, StepOK f g ∧ blockOf g.bs (fs + k) = newB num ∧ Others (fs + k) f g ∧ LgPost (I 0) lb pb fb bb cb fs n v w (segs ++ [(k, num)]) g false e w') ∨
 (∃ g, StepDead f g ∧ (blockOf g.bs (fs + k) = newB num ∨ JunkB (blockOf g.bs (fs + k))) ∧ Others (fs + k) f g ∧ LcPost 2 lb pb fb bb cb fs n v segs g true w e w')
theorem makes_tail (w : World) (lb pb fb bb cb fs n : Nat) (v : Value) (segs : List Sg) (f f0 : Fl) (k num : Nat) (hkb : k < n) (hn2 : n ≤ 256) (hnum : num < 256 ^ 6) (hs : segs.length ≤ 1000)
  (h0 : StepOK f f0) (hb0 : blockOf f0.bs (fs + k) = fullB) (ho : Others (fs + k) f f0) (hln : 512 * (fs + k) + 512 ≤ f.bs.length)
  (HC : Calls Tryz.prog 103 #[Ptr lb, I k] w (LcPost 0 lb pb fb bb cb fs n v segs f0 false w)) :
  Calls Tryz.prog 104 #[Ptr lb, I k, I num] w (MakePost lb pb fb bb cb fs n v segs f k num w) := by
 have hln0 : 512 * (fs + k) + 512 ≤ f0.bs.length := by rw [h0.len]; exact hln
 have ho7 : (83 :: putN 6 num).length = 7 := by simp [putN_len]
 have e0 : 512 * fs + k * 512 = 512 * (fs + k) + 0 := by omega
 have e7 : 512 * fs + (k * 512 + 7) = 512 * (fs + k) + 7 := by omega
 by_cases a0 : f0.armed = 1
 ·refine (makes_dead2 w lb pb fb bb cb fs n v segs k num f0 (progT f0 (512 * fs + k * 512) (83 :: putN 6 num)) (by omega) hnum HC (fun W hW => pwrite_torn W pb fb bb cb fs n f0 hW h0.arm a0 (k * 512) (83 :: putN 6 num) (by simp) (by rw [ho7]; omega) (by rw [ho7]; omega))).mono ?_
  intro e w' hp
  refine .inr ⟨_, h0.dead (progT_dead h0.arm a0 _ _), .inr ?_, ho.trans h0.len (fun j hj hn => ?_), hp⟩
  ·show JunkB (blockOf (tornP f0.keep f0.mask f0.bs (512 * fs + k * 512) (83 :: putN 6 num)) (fs + k))
   unfold JunkB tornP
   rw [e0, onL_same_at hln0 (by omega), if_neg (by rw [ho7]; omega), hb0, full_at (by omega)]
   decide
  ·show blockOf (tornP f0.keep f0.mask f0.bs (512 * fs + k * 512) (83 :: putN 6 num)) j = _
   unfold tornP
   rw [e0]
   exact onL_other hj hn (by rw [ho7]; omega)
 ·obtain ⟨f1, hf1⟩ : ∃ f1, progA f0 (512 * fs + k * 512) (83 :: putN 6 num) = f1 := ⟨_, rfl⟩
  have h1 : StepOK f0 f1 := by rw [← hf1]; exact progA_ok h0.arm a0 _ _
  have hb1 : blockOf f1.bs (fs + k) = progL fullB 0 (83 :: putN 6 num) := by
   rw [← hf1]
   show blockOf (progL f0.bs (512 * fs + k * 512) _) _ = _
   rw [e0, prog_same hln0, hb0]
  have ho1 : Others (fs + k) f0 f1 := by
   intro j hj hn
   rw [← hf1]
   show blockOf (progL f0.bs (512 * fs + k * 512) _) _ = _
   rw [e0, prog_other hj hn (by rw [ho7]; omega)]
  have HW1 : ∀ W, PtAt W pb fb bb cb fs n f0 → Calls Tryz.prog 133 #[Ptr pb, I (k * 512 : Nat), S (83 :: putN 6 num)] W (PtPost (I 0) pb fb bb cb fs n W f1) := by
   intro W hW
   rw [← hf1]
   exact pwrite_arm W pb fb bb cb fs n f0 hW h0.arm a0 (k * 512) (83 :: putN 6 num) (by simp) (by rw [ho7]; omega) (by rw [ho7]; omega)
  have hln1 : 512 * (fs + k) + 512 ≤ f1.bs.length := by rw [h1.len]; exact hln0
  clear hf1
  by_cases a1 : f1.armed = 1
  ·refine (makes_dead3 w lb pb fb bb cb fs n v segs k num f0 f1 (progT f1 (512 * fs + (k * 512 + 7)) [0]) (by omega) hnum HC HW1 (fun W hW => pwrite_torn W pb fb bb cb fs n f1 hW h1.arm a1 (k * 512 + 7) [0] (by simp) (by simp; omega) (by simp; omega))).mono ?_
   intro e w' hp
   refine .inr ⟨_, (h0.trans h1).dead (progT_dead h1.arm a1 _ _), ?_, (ho.trans h0.len ho1).trans (by rw [h1.len, h0.len]) (fun j hj hn => ?_), hp⟩
   ·show blockOf (tornP f1.keep f1.mask f1.bs (512 * fs + (k * 512 + 7)) [0]) (fs + k) = _ ∨ JunkB (blockOf (tornP f1.keep f1.mask f1.bs (512 * fs + (k * 512 + 7)) [0]) (fs + k))
    rw [e7]
    rcases tornP_one f1.keep f1.mask f1.bs (512 * (fs + k) + 7) h1.arm.2.2.2 with hq | ⟨hm, hq⟩
    ·left
     rw [hq, prog_same hln1, hb1]
     exact made_block num
    ·right
     unfold JunkB
     rw [at_block (by unfold tornP; rw [onL_len]; exact hln1) (by omega), hq _ (by omega), if_pos rfl, ← at_block hln1 (by omega), hb1]
     have : byteAt (progL fullB 0 (83 :: putN 6 num)) 7 = 255 := by
      unfold progL
      rw [onL_at _ _ _ _ _ (by simp [fullB]), if_neg (by rw [ho7]; omega), full_at (by omega)]
     rw [this, and_all]
     exact hm
   ·show blockOf (tornP f1.keep f1.mask f1.bs (512 * fs + (k * 512 + 7)) [0]) j = _
    unfold tornP
    rw [e7]
    exact onL_other hj hn (by simp)
  ·refine (makes_of w lb pb fb bb cb fs n v segs k num f0 f1 (progA f1 (512 * fs + (k * 512 + 7)) [0]) (by omega) hnum hs HC HW1 (fun W hW => pwrite_arm W pb fb bb cb fs n f1 hW h1.arm a1 (k * 512 + 7) [0] (by simp) (by simp; omega) (by simp; omega))).mono ?_
   intro e w' hp
   refine .inl ⟨_, (h0.trans h1).trans (progA_ok h1.arm a1 _ _), ?_, (ho.trans h0.len ho1).trans (by rw [h1.len, h0.len]) (fun j hj hn => ?_), hp⟩
   ·show blockOf (progL f1.bs (512 * fs + (k * 512 + 7)) [0]) (fs + k) = _
    rw [e7, prog_same hln1, hb1]
    exact made_block num
   ·show blockOf (progL f1.bs (512 * fs + (k * 512 + 7)) [0]) j = _
    rw [e7]
    exact prog_other hj hn (by simp)
theorem makes_arm (w : World) (lb pb fb bb cb fs n : Nat) (v : Value) (segs : List Sg) (f : Fl) (h : LgAt w lb pb fb bb cb fs n v segs f false) (ha : ArmOK f) (k num : Nat) (hk : k < n) (hc : JunkB (blockOf f.bs (fs + k))) (hnum : num < 256 ^ 6) (hs : segs.length ≤ 1000) :
  Calls Tryz.prog 104 #[Ptr lb, I k, I num] w (MakePost lb pb fb bb cb fs n v segs f k num w) := by
 have hbd := h.pt.bound
 have hln : 512 * (fs + k) + 512 ≤ f.bs.length := by omega
 by_cases hcl : allB (blockOf f.bs (fs + k)) = true
 ·exact makes_tail w lb pb fb bb cb fs n v segs f f k num hk (by omega) hnum hs (StepOK.refl ha) (full_of hcl (blockOf_len hln)) (fun _ _ _ => rfl) hln (lclean_keep w lb pb fb bb cb fs n v segs f h ha.1 k hk hcl)
 ·have hcf : allB (blockOf f.bs (fs + k)) = false := by simpa using hcl
  by_cases h1 : f.armed = 1
  ·refine (makes_dead1 w lb pb fb bb cb fs n v segs k num (eraseT f (fs + k)) (by omega) hnum (lclean_erase 2 (eraseT f (fs + k)) w lb pb fb bb cb fs n v segs f h ha.1 k hk hcf (fun W hW => perase_torn W pb fb bb cb fs n f hW ha h1 k hk))).mono ?_
   intro e w' hp
   exact .inr ⟨_, eraseT_dead ha h1 _, .inr (tornE_junk hln hc), fun j hj hn => tornE_other hj hn, hp⟩
  ·exact makes_tail w lb pb fb bb cb fs n v segs f (eraseA f (fs + k)) k num hk (by omega) hnum hs (eraseA_ok ha h1 _) (erase_same hln) (fun j hj hn => erase_other hj hn) hln (lclean_erase 0 (eraseA f (fs + k)) w lb pb fb bb cb fs n v segs f h ha.1 k hk hcf (fun W hW => perase_arm W pb fb bb cb fs n f hW ha h1 k hk))
end Go.Proofs.YteplbljjlbdhaaaGreatDoor
