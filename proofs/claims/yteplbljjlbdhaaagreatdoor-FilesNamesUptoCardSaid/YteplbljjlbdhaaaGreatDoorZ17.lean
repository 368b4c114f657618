/- Walks and lemmas on the program of this seat, used by its statements; each theorem bears its own conditions. -/
import Derived.Test.YteplbljjlbdhaaaGreatDoorZ16
namespace Go.Proofs.YteplbljjlbdhaaaGreatDoor
open Go.RowKit
set_option linter.unusedVariables false
set_option linter.unusedSimpArgs false
set_option linter.unusedSectionVars false
set_option maxHeartbeats 16000000
set_option maxRecDepth 100000
theorem layA_bs (l : List (List UInt8)) : ∀ (f f' : Fl) (a : Nat), f.bs = f'.bs → (layA f a l).bs = (layF f' a l).bs := by
 induction l with
 | nil => intro f f' a h; exact h
 | cons s l ih =>
  intro f f' a h
  show (layA (progA f a s) (a + 64) l).bs = (layF _ (a + 64) l).bs
  exact ih _ _ _ (by show progL f.bs a s = progL f'.bs a s; rw [h])
theorem layA_len (l : List (List UInt8)) (f : Fl) (a : Nat) : (layA f a l).bs.length = f.bs.length := by rw [layA_bs l f f a rfl, layF_len]
theorem layA_cs (l : List (List UInt8)) : ∀ (f : Fl) (a : Nat), (layA f a l).cs = f.cs := by
 induction l with
 | nil => intro f a; rfl
 | cons s l ih => intro f a; show (layA (progA f a s) (a + 64) l).cs = _; rw [ih]; rfl
theorem appA_bs (f : Fl) (a : Nat) (r : List UInt8) : (appA f a r).bs = (appF f a r).bs := by
 show progL (layA f a (laidL r)).bs (a + 3) [0] = progL (layF f a (laidL r)).bs (a + 3) [0]
 rw [layA_bs _ f f a rfl]
theorem layA_zero (l : List (List UInt8)) : ∀ (f : Fl) (a : Nat), f.armed = 0 → (layA f a l).armed = 0 := by
 induction l with
 | nil => intro f a h; exact h
 | cons s l ih => intro f a h; exact ih _ _ (by show (if f.armed = 0 then (0 : Int) else f.armed - 1) = 0; rw [if_pos h])
theorem appA_ok {f : Fl} {a : Nat} {r : List UInt8} (h : ArmOK (appA f a r)) : StepOK f (appA f a r) :=
 ⟨h, by show (layA f a (laidL r)).cs.length = _; rw [layA_cs], by show (progL (layA f a (laidL r)).bs _ _).length = _; rw [progL_len, layA_len], fun h0 => by show (if (layA f a (laidL r)).armed = 0 then (0 : Int) else (layA f a (laidL r)).armed - 1) = 0; rw [if_pos (layA_zero _ _ _ h0)]⟩
theorem torn_dead {f g : Fl} {a : Nat} {r : List UInt8} (h : TornApp f a r g) : StepDead f g := by
 rcases h with ⟨i, s, h0, h1, h2, rfl⟩ | ⟨h1, h2, rfl⟩
 ·have := progT_dead h1 h2 (a + 64 * i) s
  exact ⟨this.dead, this.armed, by rw [this.cs, layA_cs], by rw [this.len, layA_len], this.keep, fun h0 => this.was (layA_zero _ _ _ h0)⟩
 ·have := progT_dead h1 h2 (a + 3) [0]
  exact ⟨this.dead, this.armed, by rw [this.cs, layA_cs], by rw [this.len, layA_len], this.keep, fun h0 => this.was (layA_zero _ _ _ h0)⟩
def tornS (keep : Int) (mask : UInt8) (s : List UInt8) : List UInt8 := s.mapIdx fun j c => if (j : Int) < keep then c else if (j : Int) = keep then c ||| mask else 255
theorem tornS_len (keep : Int) (mask : UInt8) (s : List UInt8) : (tornS keep mask s).length = s.length := by unfold tornS; simp
theorem tornS_at (keep : Int) (mask : UInt8) (s : List UInt8) (j : Nat) (hj : j < s.length) : byteAt (tornS keep mask s) j = if (j : Int) < keep then byteAt s j else if (j : Int) = keep then byteAt s j ||| mask else 255 := by
 rw [byteAt_eq _ _ (by rw [tornS_len]; exact hj), byteAt_eq s j hj]
 unfold tornS
 rw [List.getElem_mapIdx]
theorem torn_fill (keep : Int) (mask : UInt8) (P s : List UInt8) (m : Nat) (h : s.length ≤ m) : onL (P ++ List.replicate m 255) P.length s.length (tornG keep mask s) = P ++ (tornS keep mask s ++ List.replicate (m - s.length) 255) := by
 apply List.ext_getElem
 ·rw [onL_len]; simp [tornS_len]; omega
 ·intro i h1 h2
  simp only [onL, List.getElem_mapIdx]
  by_cases c1 : i < P.length
  ·rw [if_neg (by omega), List.getElem_append_left c1, List.getElem_append_left c1]
  ·by_cases c2 : i < P.length + s.length
   ·rw [if_pos (by omega), List.getElem_append_right (by omega), List.getElem_replicate, List.getElem_append_right (by omega), List.getElem_append_left (by rw [tornS_len]; omega), ← byteAt_eq _ _ (by rw [tornS_len]; omega), tornS_at _ _ _ _ (by omega)]
    unfold tornG
    split
    ·exact and_all _
    ·split
     ·exact and_all _
     ·rfl
   ·rw [if_neg (by omega), List.getElem_append_right (by omega), List.getElem_replicate, List.getElem_append_right (by omega), List.getElem_append_right (by rw [tornS_len]; omega), List.getElem_replicate]
theorem torn_same {keep : Int} {mask : UInt8} {bs s : List UInt8} {k o : Nat} (h : 512 * k + 512 ≤ bs.length) : blockOf (tornP keep mask bs (512 * k + o) s) k = onL (blockOf bs k) o s.length (tornG keep mask s) := by
 have hl : 512 * k + 512 ≤ (tornP keep mask bs (512 * k + o) s).length := by unfold tornP; rw [onL_len]; exact h
 apply List.ext_getElem
 ·rw [blockOf_len hl, onL_len, blockOf_len h]
 ·intro i h1 h2
  have hi : i < 512 := by rw [blockOf_len hl] at h1; exact h1
  have e := onL_same_at (g := tornG keep mask s) (o := o) (m := s.length) h hi
  have e2 := onL_at (blockOf bs k) o s.length (tornG keep mask s) i (by rw [blockOf_len h]; exact hi)
  rw [← e] at e2
  rw [byteAt_eq _ _ h2] at e2
  rw [e2]
  exact (byteAt_eq _ _ h1).symm
def JunkP (s : List UInt8) : Prop := s.length = 64 ∧ allB s = false ∧ (byteAt s 0 ≠ 1 ∨ byteAt s 3 ≠ 0)
theorem or_two (m : UInt8) : (2 : UInt8) ||| m ≠ 1 := by
 intro h
 have h2 : ((2 : UInt8) ||| m).toNat = 1 := by rw [h]; rfl
 rw [UInt8.toNat_or] at h2
 have := Nat.left_le_or (n := 2) (m := m.toNat)
 have h3 : (2 : UInt8).toNat = 2 := rfl
 rw [h3] at h2
 omega
theorem at_mid (P A R : List UInt8) (i : Nat) (hi : i < A.length) : byteAt (P ++ (A ++ R)) (P.length + i) = byteAt A i := by
 unfold byteAt
 rw [List.getD_eq_getElem?_getD, List.getD_eq_getElem?_getD, List.getElem?_append_right (by omega), Nat.add_sub_cancel_left, List.getElem?_append_left hi]
theorem pads_len (l : List (List UInt8)) (h : ∀ s ∈ l, s.length ≤ 64) : ((l.map padP).flatten).length = 64 * l.length := by
 induction l with
 | nil => rfl
 | cons s l ih =>
  rw [List.map_cons, List.flatten_cons, List.length_append, padP_len s (h s (by simp)), ih (fun x hx => h x (by simp [hx])), List.length_cons]
  omega
theorem padP_at {s : List UInt8} {i : Nat} (hi : i < s.length) : byteAt (padP s) i = byteAt s i := by
 unfold padP
 rw [byteAt_eq _ _ (by simp; omega), byteAt_eq _ _ hi, List.getElem_append_left hi]
theorem first_len (r : List UInt8) : 4 ≤ (firstL r).length := by unfold firstL; simp [putN_len]; omega
theorem first_0 (r : List UInt8) : byteAt (firstL r) 0 = 1 := by unfold firstL; rfl
theorem first_3 (r : List UInt8) : byteAt (firstL r) 3 = 255 := by
 unfold firstL
 have : ([1] ++ putN 2 r.length).length = 3 := by simp [putN_len]
 rw [byteAt_eq _ _ (by simp [putN_len]; omega)]
 simp [List.getElem_append, putN_len]
theorem laidL_form (r : List UInt8) : ∀ x ∈ laidL r, x = firstL r ∨ ∃ c, x = 2 :: c := by
 intro x hx
 rcases List.mem_cons.1 hx with rfl | hx
 ·exact .inl rfl
 ·obtain ⟨c, _, rfl⟩ := List.mem_map.1 hx
  exact .inr ⟨c, rfl⟩
theorem not_all {s : List UInt8} {i : Nat} (hi : i < s.length) (h : byteAt s i ≠ 255) : allB s = false := by
 rw [Bool.eq_false_iff]
 intro ha
 unfold allB at ha
 rw [List.all_eq_true] at ha
 apply h
 rw [byteAt_eq _ _ hi]
 simpa using ha s[i] (List.getElem_mem _)
theorem pad_junk (r x : List UInt8) (hx : x ∈ laidL r) : JunkP (padP x) := by
 have hl := (laidL_all r x hx).2
 rcases laidL_form r x hx with rfl | ⟨c, rfl⟩
 ·have h4 := first_len r
  refine ⟨padP_len _ hl, not_all (i := 0) (by rw [padP_len _ hl]; omega) (by rw [padP_at (by omega), first_0]; decide), .inr (by rw [padP_at (by omega), first_3]; decide)⟩
 ·have e : byteAt (padP (2 :: c)) 0 = 2 := by rw [padP_at (by simp)]; rfl
  exact ⟨padP_len _ hl, not_all (i := 0) (by rw [padP_len _ hl]; omega) (by rw [e]; decide), .inl (by rw [e]; decide)⟩
theorem torn_junk (keep : Int) (mask : UInt8) (r x : List UInt8) (hx : x ∈ laidL r) : padP (tornS keep mask x) = List.replicate 64 255 ∨ JunkP (padP (tornS keep mask x)) := by
 have hl := (laidL_all r x hx).2
 have hl2 : (tornS keep mask x).length ≤ 64 := by rw [tornS_len]; exact hl
 by_cases ha : allB (padP (tornS keep mask x)) = true
 ·left
  rw [List.eq_replicate_iff]
  refine ⟨padP_len _ hl2, fun b hb => ?_⟩
  unfold allB at ha
  rw [List.all_eq_true] at ha
  simpa using ha b hb
 ·right
  refine ⟨padP_len _ hl2, by simpa using ha, ?_⟩
  rcases laidL_form r x hx with rfl | ⟨c, rfl⟩
  ·right
   have h4 := first_len r
   rw [padP_at (by rw [tornS_len]; omega), tornS_at _ _ _ _ (by omega), first_3]
   split
   ·decide
   ·split
    ·exact or_ne0 (by decide)
    ·decide
  ·left
   rw [padP_at (by rw [tornS_len]; simp), tornS_at _ _ _ _ (by simp)]
   show (if _ then (2 : UInt8) else if _ then (2 : UInt8) ||| mask else 255) ≠ 1
   split
   ·decide
   ·split
    ·exact or_two mask
    ·decide
theorem torn_block (f g : Fl) (k m : Nat) (r P : List UInt8) (hr : r.length ≤ 400) (h : 512 * k + 512 ≤ f.bs.length) (hb : blockOf f.bs k = P ++ List.replicate m 255) (hm : 64 * pagesF r.length ≤ m) (ht : TornApp f (512 * k + P.length) r g) :
  (∃ J : List (List UInt8), (∀ s ∈ J, JunkP s) ∧ J.length ≤ pagesF r.length ∧ blockOf g.bs k = P ++ J.flatten ++ List.replicate (m - 64 * J.length) 255) ∨
  blockOf g.bs k = P ++ recB r ++ List.replicate (m - 64 * pagesF r.length) 255 := by
 have hL := laidL_len r hr
 have hall : ∀ s ∈ laidL r, s.length ≤ 64 := fun s hs => (laidL_all r s hs).2
 have hblk : ∀ i, i ≤ (laidL r).length → blockOf (layA f (512 * k + P.length) ((laidL r).take i)).bs k = P ++ (((laidL r).take i).map padP).flatten ++ List.replicate (m - 64 * i) 255 := by
  intro i hi
  rw [layA_bs _ f f _ rfl, layF_block _ _ _ _ h, hb, layB_fill _ _ _ (fun s hs => hall s (List.mem_of_mem_take hs)) (by rw [List.length_take]; omega), List.length_take, Nat.min_eq_left hi]
 rcases ht with ⟨i, s, h0, h1, h2, rfl⟩ | ⟨h1, h2, rfl⟩
 ·left
  have hi : i < (laidL r).length := (List.getElem?_eq_some_iff.1 h0).1
  have hs : s ∈ laidL r := List.mem_of_getElem? h0
  obtain ⟨F, hF⟩ : ∃ F, layA f (512 * k + P.length) ((laidL r).take i) = F := ⟨_, rfl⟩
  have hFl : 512 * k + 512 ≤ F.bs.length := by rw [← hF, layA_len]; exact h
  have hFb := hblk i (by omega)
  rw [hF] at hFb ⊢
  have htl : ((laidL r).take i).length = i := by rw [List.length_take]; omega
  have hq : (P ++ (((laidL r).take i).map padP).flatten).length = P.length + 64 * i := by
   rw [List.length_append, pads_len _ (fun s hs => hall s (List.mem_of_mem_take hs)), htl]
  have hs64 := hall s hs
  have e : blockOf (progT F (512 * k + P.length + 64 * i) s).bs k = P ++ (((laidL r).take i).map padP).flatten ++ padP (tornS F.keep F.mask s) ++ List.replicate (m - 64 * (i + 1)) 255 := by
   show blockOf (tornP F.keep F.mask F.bs (512 * k + P.length + 64 * i) s) k = _
   rw [Nat.add_assoc, torn_same hFl, hFb, ← hq, torn_fill _ _ _ _ _ (by omega)]
   rw [show m - 64 * i - s.length = (64 - s.length) + (m - 64 * (i + 1)) by omega, ← List.replicate_append_replicate]
   unfold padP
   rw [tornS_len]
   simp only [List.append_assoc]
  have hjt : ∀ x ∈ ((laidL r).take i).map padP, JunkP x := by
   intro x hx
   obtain ⟨y, hy, rfl⟩ := List.mem_map.1 hx
   exact pad_junk r y (List.mem_of_mem_take hy)
  rcases torn_junk F.keep F.mask r s hs with hc | hj
  ·refine ⟨((laidL r).take i).map padP, hjt, by rw [List.length_map, htl]; omega, ?_⟩
   rw [e, hc, List.length_map, htl, List.append_assoc, List.replicate_append_replicate, show 64 + (m - 64 * (i + 1)) = m - 64 * i by omega]
  ·refine ⟨((laidL r).take i).map padP ++ [padP (tornS F.keep F.mask s)], ?_, by rw [List.length_append, List.length_map, htl, List.length_singleton]; omega, ?_⟩
   ·intro x hx
    rcases List.mem_append.1 hx with hx | hx
    ·exact hjt x hx
    ·rw [List.mem_singleton.1 hx]; exact hj
   ·rw [e, List.length_append, List.length_map, htl, List.length_singleton, List.flatten_append]
    simp only [List.flatten_cons, List.flatten_nil, List.append_nil, List.append_assoc]
 ·obtain ⟨F, hF⟩ : ∃ F, layA f (512 * k + P.length) (laidL r) = F := ⟨_, rfl⟩
  have hFl : 512 * k + 512 ≤ F.bs.length := by rw [← hF, layA_len]; exact h
  have hFb := hblk (laidL r).length (Nat.le_refl _)
  rw [List.take_length, hF] at hFb
  have hok := appF_block f k r P m hr h hb hm
  have happ : (appF f (512 * k + P.length) r).bs = progL F.bs (512 * k + P.length + 3) [0] := by
   rw [← appA_bs, ← hF]; rfl
  rw [hF] at h1 h2 ⊢
  rw [happ] at hok
  rcases tornP_one F.keep F.mask F.bs (512 * k + P.length + 3) h1.2.2.2 with hq | ⟨hmk, hq⟩
  ·right
   show blockOf (tornP F.keep F.mask F.bs (512 * k + P.length + 3) [0]) k = _
   rw [hq]
   exact hok
  ·left
   have hp1 : 1 ≤ pagesF r.length := by rw [← hL]; unfold laidL; simp
   obtain ⟨rest, hrest⟩ : ∃ rest, laidL r = firstL r :: rest := ⟨_, rfl⟩
   have hf64 := hall (firstL r) (by rw [hrest]; simp)
   have h4 := first_len r
   have hpl := padP_len _ hf64
   have hP : P.length + m = 512 := by have := congrArg List.length hb; rw [blockOf_len h, List.length_append, List.length_replicate] at this; omega
   refine ⟨(padP (firstL r)).set 3 F.mask :: rest.map padP, ?_, ?_, ?_⟩
   ·intro x hx
    rcases List.mem_cons.1 hx with rfl | hx
    ·refine ⟨by rw [List.length_set]; exact hpl, not_all (i := 0) (by rw [List.length_set]; omega) ?_, .inr ?_⟩
     ·rw [byteAt_eq _ _ (by rw [List.length_set]; omega), List.getElem_set_ne (by omega), ← byteAt_eq _ _ (by omega), padP_at (by omega), first_0]
      decide
     ·rw [byteAt_eq _ _ (by rw [List.length_set]; omega), List.getElem_set_self]
      exact hmk
    ·obtain ⟨y, hy, rfl⟩ := List.mem_map.1 hx
     exact pad_junk r y (by rw [hrest]; simp [hy])
   ·rw [List.length_cons, List.length_map, ← hL, hrest, List.length_cons]; exact Nat.le_refl _
   ·rw [List.length_cons, List.length_map]
    have hll : rest.length + 1 = (laidL r).length := by rw [hrest]; rfl
    rw [hll]
    have hset : P ++ ((padP (firstL r)).set 3 F.mask :: rest.map padP).flatten ++ List.replicate (m - 64 * (laidL r).length) 255 = (blockOf F.bs k).set (P.length + 3) F.mask := by
     rw [hFb, hrest, List.map_cons, List.flatten_cons, List.flatten_cons]
     simp only [List.append_assoc]
     rw [List.set_append, if_neg (by omega), List.set_append, if_pos (by omega), Nat.add_sub_cancel_left]
    rw [hset]
    show blockOf (tornP F.keep F.mask F.bs (512 * k + P.length + 3) [0]) k = _
    have hgl : 512 * k + 512 ≤ (tornP F.keep F.mask F.bs (512 * k + P.length + 3) [0]).length := by unfold tornP; rw [onL_len]; exact hFl
    apply List.ext_getElem
    ·rw [blockOf_len hgl, List.length_set, blockOf_len hFl]
    ·intro j q1 q2
     have hj : j < 512 := by rw [blockOf_len hgl] at q1; exact q1
     rw [← byteAt_eq _ _ q1, at_block hgl hj, hq _ (by omega), List.getElem_set]
     by_cases hc : 512 * k + j = 512 * k + P.length + 3
     ·have hc2 : P.length + 3 = j := by omega
      rw [if_pos hc, if_pos hc2, ← hc, ← at_block hFl hj]
      have : byteAt (blockOf F.bs k) j = 255 := by
       rw [hFb, hrest, List.map_cons, List.flatten_cons, ← hc2]
       simp only [List.append_assoc]
       rw [at_mid _ _ _ _ (by omega), padP_at (by omega), first_3]
      rw [this]
      exact and_all _
     ·rw [if_neg hc, if_neg (by omega), ← at_block hFl hj, byteAt_eq _ _ (by rw [blockOf_len hFl]; exact hj)]
theorem record_open (s : List UInt8) (hs : s.length = 512) (p : Nat) (hp : p < 8) (h1 : byteAt s (64 * p) = 1) (hx : byteAt s (64 * p + 3) ≠ 0) (w : World) :
  Calls Tryz.prog 180 #[S s, I p] w fun e w' => e = .returned (.tuple #[S [], I 0]) ∧ w' = w := by
 obtain ⟨A, hA⟩ : ∃ A : Nat, 64 * p = A := ⟨_, rfl⟩
 have hAI : (p : Int) * 64 = A := by omega
 have hA8 : (A : Int) ≤ 448 := by omega
 have hsI : (s.length : Int) = 512 := by omega
 rw [hA] at hx h1
 have hpI : (p : Int) ≤ 8 := by omega
 have hAlt : A < s.length := by omega
 have hAlt3 : A + 3 < s.length := by omega
 have hq1 : ((byteAt s A).toNat : Int) = 1 := by rw [h1]; rfl
 have hq1b : (((byteAt s A).toNat : Int) != 1) = false := by rw [h1]; rfl
 have hn3 : ¬ (byteAt s (A + 3)).toNat = 0 := fun h => hx (UInt8.toNat_inj.1 h)
 have hq3 : ¬ ((byteAt s (A + 3)).toNat : Int) = 0 := by omega
 have hq3b : (((byteAt s (A + 3)).toNat : Int) != 0) = true := by simpa using hq3
 clear hA hx hp h1
 go_enter Tryz.func180, Tryz.ntmps180
 go_wp2_with (fail)
 go_ret2
 exact ⟨rfl, rfl⟩
theorem record_junk (s : List UInt8) (hs : s.length = 512) (p : Nat) (hp : p < 8) (hx : byteAt s (64 * p) ≠ 1 ∨ byteAt s (64 * p + 3) ≠ 0) (w : World) :
  Calls Tryz.prog 180 #[S s, I p] w fun e w' => e = .returned (.tuple #[S [], I 0]) ∧ w' = w := by
 by_cases h1 : byteAt s (64 * p) = 1
 ·exact record_open s hs p hp h1 (hx.resolve_left (fun h => h h1)) w
 ·exact record_none s hs p hp h1 w
inductive It where
 | whole (r : List UInt8)
 | junk (g : List UInt8)
def itB : It → List UInt8
 | .whole r => recB r
 | .junk g => g
def itP : It → Nat
 | .whole r => pagesF r.length
 | .junk _ => 1
def itR : It → List (List UInt8)
 | .whole r => [r]
 | .junk _ => []
def ItOK : It → Prop
 | .whole r => r.length ≤ 400
 | .junk g => JunkP g
def itsB (l : List It) : List UInt8 := (l.map itB).flatten
def itsR (l : List It) : List (List UInt8) := (l.map itR).flatten
def itsP (l : List It) : Nat := (l.map itP).sum
structure SegIs (num : Nat) (rs : List (List UInt8)) (u : Nat) (B : List UInt8) : Prop where
 ex : ∃ l : List It, (∀ x ∈ l, ItOK x) ∧ itsR l = rs ∧ itsP l = u ∧ u ≤ 7 ∧ B = headL num ++ itsB l ++ List.replicate (64 * (7 - u)) 255
theorem SegIs.new (num : Nat) : SegIs num [] 0 (newB num) :=
 ⟨[], by simp, rfl, rfl, by omega, by simp [newB, itsB]⟩
theorem itB_len {x : It} (h : ItOK x) : (itB x).length = 64 * itP x := by
 cases x with
 | whole r => exact recB_len r h
 | junk g => exact h.1
theorem itsB_len {l : List It} (h : ∀ x ∈ l, ItOK x) : (itsB l).length = 64 * itsP l := by
 induction l with
 | nil => rfl
 | cons x l ih =>
  show (itB x ++ itsB l).length = 64 * (itP x + itsP l)
  rw [List.length_append, itB_len (h x (by simp)), ih (fun y hy => h y (by simp [hy])), Nat.mul_add]
theorem itsB_app (a b : List It) : itsB (a ++ b) = itsB a ++ itsB b := by simp [itsB]
theorem itsR_app (a b : List It) : itsR (a ++ b) = itsR a ++ itsR b := by simp [itsR]
theorem itsP_app (a b : List It) : itsP (a ++ b) = itsP a + itsP b := by simp [itsP]
theorem SegIs.app {num u : Nat} {rs : List (List UInt8)} {B : List UInt8} (h : SegIs num rs u B) (r : List UInt8) (hr : r.length ≤ 400) (hu : u + pagesF r.length ≤ 7) :
  ∃ P, B = P ++ List.replicate (64 * (7 - u)) 255 ∧ SegIs num (rs ++ [r]) (u + pagesF r.length) (P ++ recB r ++ List.replicate (64 * (7 - u) - 64 * pagesF r.length) 255) := by
 obtain ⟨l, h1, h2, h3, h4, h5⟩ := h.ex
 refine ⟨headL num ++ itsB l, h5, l ++ [.whole r], ?_, ?_, ?_, hu, ?_⟩
 ·intro x hx
  rcases List.mem_append.1 hx with hx | hx
  ·exact h1 x hx
  ·rw [List.mem_singleton.1 hx]; exact hr
 ·rw [itsR_app, h2]; rfl
 ·rw [itsP_app, h3]; show u + (pagesF r.length + 0) = _; omega
 ·rw [itsB_app, show 64 * (7 - u) - 64 * pagesF r.length = 64 * (7 - (u + pagesF r.length)) by omega]
  simp [itsB, itB]
theorem junks {J : List (List UInt8)} (hJ : ∀ s ∈ J, JunkP s) : (∀ x ∈ J.map It.junk, ItOK x) ∧ itsR (J.map It.junk) = [] ∧ itsP (J.map It.junk) = J.length ∧ itsB (J.map It.junk) = J.flatten := by
 induction J with
 | nil => exact ⟨by simp, rfl, rfl, rfl⟩
 | cons s J ih =>
  obtain ⟨a, b, c, d⟩ := ih (fun x hx => hJ x (by simp [hx]))
  refine ⟨?_, ?_, ?_, ?_⟩
  ·intro x hx
   rcases List.mem_cons.1 hx with rfl | hx
   ·exact hJ s (by simp)
   ·exact a x hx
  ·show [] ++ itsR (J.map It.junk) = []; rw [b]; rfl
  ·show 1 + itsP (J.map It.junk) = J.length + 1; omega
  ·show s ++ itsB (J.map It.junk) = s ++ J.flatten; rw [d]
theorem SegIs.torn {num u : Nat} {rs : List (List UInt8)} {B : List UInt8} (h : SegIs num rs u B) :
  ∃ P, B = P ++ List.replicate (64 * (7 - u)) 255 ∧ ∀ J : List (List UInt8), (∀ s ∈ J, JunkP s) → u + J.length ≤ 7 → SegIs num rs (u + J.length) (P ++ J.flatten ++ List.replicate (64 * (7 - u) - 64 * J.length) 255) := by
 obtain ⟨l, h1, h2, h3, h4, h5⟩ := h.ex
 refine ⟨headL num ++ itsB l, h5, fun J hJ hu => ⟨l ++ J.map It.junk, ?_, ?_, ?_, hu, ?_⟩⟩
 ·intro x hx
  rcases List.mem_append.1 hx with hx | hx
  ·exact h1 x hx
  ·exact (junks hJ).1 x hx
 ·rw [itsR_app, h2, (junks hJ).2.1, List.append_nil]
 ·rw [itsP_app, h3, (junks hJ).2.2.1]
 ·rw [itsB_app, (junks hJ).2.2.2, show 64 * (7 - u) - 64 * J.length = 64 * (7 - (u + J.length)) by omega]
  simp only [List.append_assoc]
theorem head_its {l : List It} (num : Nat) (h : ∀ x ∈ l, ItOK x) : (headL num ++ itsB l).length = 64 * (1 + itsP l) := by
 rw [List.length_append, headL_len, itsB_len h]; omega
theorem SegIs.room {num u : Nat} {rs : List (List UInt8)} {B : List UInt8} (h : SegIs num rs u B) : roomF B 7 = 7 - u := by
 obtain ⟨l, h1, h2, h3, h4, h5⟩ := h.ex
 rcases List.eq_nil_or_concat l with rfl | ⟨a, x, rfl⟩
 ·have hu : u = 0 := h3.symm
  subst hu
  rw [h5]
  have := room_head num
  simpa [itsB] using this
 ·rw [List.concat_eq_append] at h1 h2 h3 h5
  have ha : ∀ y ∈ a, ItOK y := fun y hy => h1 y (by simp [hy])
  have hx := h1 x (by simp)
  have hP := head_its num ha
  rw [itsP_app] at h3
  rw [itsB_app] at h5
  cases x with
  | whole r =>
   have e3 : itsP a + pagesF r.length = u := h3
   have e5 : B = headL num ++ itsB a ++ recB r ++ List.replicate (64 * (7 - u)) 255 := by rw [h5]; simp [itsB, itB]
   rw [e5]
   exact room_rec (headL num ++ itsB a) r (1 + itsP a) (7 - u) hx hP (by omega) (by omega)
  | junk g =>
   have e3 : itsP a + 1 = u := h3
   have e5 : B = headL num ++ itsB a ++ g ++ List.replicate (64 * (7 - u)) 255 := by rw [h5]; simp [itsB, itB]
   obtain ⟨g1, g2, g3⟩ := hx
   rw [e5]
   refine roomF_is (headL num ++ itsB a ++ g) (7 - u) (by rw [List.length_append, hP, g1]; omega) (by omega) fun _ => ?_
   have e6 : pageOf (headL num ++ itsB a ++ g ++ List.replicate (64 * (7 - u)) 255) (7 - (7 - u)) = g := by
    unfold pageOf
    rw [List.append_assoc, List.drop_append_of_le_length (by omega), List.drop_of_length_le (by omega), List.nil_append, List.take_append_of_le_length (by omega), List.take_of_length_le (by omega)]
   rw [e6]
   exact g2
theorem SegIs.len {num u : Nat} {rs : List (List UInt8)} {B : List UInt8} (h : SegIs num rs u B) : B.length = 512 := by
 obtain ⟨l, h1, h2, h3, h4, h5⟩ := h.ex
 rw [h5, List.length_append, head_its num h1, List.length_replicate, h3]
 omega
theorem SegIs.head {num u : Nat} {rs : List (List UInt8)} {B : List UInt8} (h : SegIs num rs u B) : B.take 64 = headL num := by
 obtain ⟨l, h1, h2, h3, h4, h5⟩ := h.ex
 rw [h5, List.append_assoc, List.take_append_of_le_length (by rw [headL_len]; omega), List.take_of_length_le (by rw [headL_len]; omega)]
theorem its_whole (num : Nat) (a : List It) (r : List UInt8) (b : List It) (m : Nat) (h : ∀ x ∈ a ++ It.whole r :: b, ItOK x) (hl : (headL num ++ itsB (a ++ It.whole r :: b) ++ List.replicate m 255).length = 512) (w : World) :
  Calls Tryz.prog 180 #[S (headL num ++ itsB (a ++ It.whole r :: b) ++ List.replicate m 255), I (1 + itsP a : Nat)] w fun e w' => e = .returned (.tuple #[S r, I (pagesF r.length)]) ∧ w' = w := by
 have e : headL num ++ itsB (a ++ It.whole r :: b) ++ List.replicate m 255 = (headL num ++ itsB a) ++ recB r ++ (itsB b ++ List.replicate m 255) := by
  rw [itsB_app]
  simp [itsB, itB]
 rw [e] at hl ⊢
 exact record_reads r (headL num ++ itsB a) _ _ (h (.whole r) (by simp)) (head_its num (fun x hx => h x (by simp [hx]))) hl w
theorem its_junk (num : Nat) (a : List It) (g : List UInt8) (b : List It) (m : Nat) (h : ∀ x ∈ a ++ It.junk g :: b, ItOK x) (hl : (headL num ++ itsB (a ++ It.junk g :: b) ++ List.replicate m 255).length = 512) (w : World) :
  Calls Tryz.prog 180 #[S (headL num ++ itsB (a ++ It.junk g :: b) ++ List.replicate m 255), I (1 + itsP a : Nat)] w fun e w' => e = .returned (.tuple #[S [], I 0]) ∧ w' = w := by
 have hP := head_its num (fun x hx => h x (by simp [hx]) : ∀ x ∈ a, ItOK x)
 obtain ⟨g1, g2, g3⟩ : JunkP g := h (.junk g) (by simp)
 have e : headL num ++ itsB (a ++ It.junk g :: b) ++ List.replicate m 255 = (headL num ++ itsB a) ++ (g ++ (itsB b ++ List.replicate m 255)) := by
  rw [itsB_app]
  simp [itsB, itB]
 rw [e] at hl ⊢
 have hp : 1 + itsP a < 8 := by rw [List.length_append, hP, List.length_append, g1] at hl; omega
 refine record_junk _ hl (1 + itsP a) hp ?_ w
 rw [← hP]
 have e0 := at_mid (headL num ++ itsB a) g (itsB b ++ List.replicate m 255) 0 (by omega)
 have e3 := at_mid (headL num ++ itsB a) g (itsB b ++ List.replicate m 255) 3 (by omega)
 rw [Nat.add_zero] at e0
 rw [e0, e3]
 exact g3
theorem its_end (num : Nat) (a : List It) (h : ∀ x ∈ a, ItOK x) (hu : itsP a ≤ 7) (q : Nat) (h1 : 1 + itsP a ≤ q) (h2 : q < 8) (w : World) :
  Calls Tryz.prog 180 #[S (headL num ++ itsB a ++ List.replicate (64 * (7 - itsP a)) 255), I q] w fun e w' => e = .returned (.tuple #[S [], I 0]) ∧ w' = w := by
 have hP := head_its num h
 refine record_none _ (by rw [List.length_append, hP, List.length_replicate]; omega) q h2 ?_ w
 have : byteAt (headL num ++ itsB a ++ List.replicate (64 * (7 - itsP a)) 255) (64 * q) = 255 := by
  rw [byteAt_eq _ _ (by rw [List.length_append, hP, List.length_replicate]; omega), List.getElem_append_right (by omega), List.getElem_replicate]
 rw [this]
 decide
theorem itsR_len (l : List It) (h : ∀ x ∈ l, ItOK x) : (itsR l).length ≤ itsP l := by
 induction l with
 | nil => exact Nat.le_refl _
 | cons x l ih =>
  have := ih (fun y hy => h y (by simp [hy]))
  cases x with
  | whole r => have := pages_pos r.length; show ([r] ++ itsR l).length ≤ pagesF r.length + itsP l; simp; omega
  | junk g => show ([] ++ itsR l).length ≤ 1 + itsP l; simp; omega
theorem records_arm (w : World) (lb pb fb bb cb fs n : Nat) (v : Value) (segs : List Sg) (f : Fl) (h : LgAt w lb pb fb bb cb fs n v segs f false) (hs : segs.length ≤ 1000) (hd : f.dead = false) (k : Nat) (hk : k < segs.length) (hb : segs[k].1 < n)
    (hn : ∀ (j : Nat) (hj : j < k), segs[j].2 ≠ segs[k].2) (rs : List (List UInt8)) (u : Nat) (hseg : SegIs segs[k].2 rs u (blockOf f.bs (fs + segs[k].1))) :
    Calls Tryz.prog 145 #[Ptr lb, I segs[k].2] w fun e w' => ∃ vo, e = .returned (.tuple #[vo, I 0]) ∧ w'.ownsRow w.heap.size 9 1 vo rs.length (rs.map S) ∧ Kept [] w w' := by
  obtain ⟨g, c, hv, hcl⟩ := h.slice (by intro h0; rw [h0] at hk; simp at hk)
  subst hv
  obtain ⟨sn, hsn⟩ : ∃ sn, segs[k].2 = sn := ⟨_, rfl⟩
  have HI := Lib.hid (fun W q (kw : Kept [] w W) (hq : W.cell? ⟨q, 0, none⟩ = some (I sn)) => ixf_any W segs g c q k sn hs hk (fun i hi => ⟨kw.cellOf (hcl i hi).1, kw.cellOf (hcl i hi).2⟩) (by rw [hsn]; simp) (fun j hj => by have := hn j hj; rw [hsn] at this; simp; omega) hq)
  obtain ⟨c0, c1, c2⟩ := h.cells
  rw [hsn]
  have kq : Kept [] w (w.alloc (.cells #[I sn] 3)) := (Kept.refl _ _).alloc _
  have hq := cell_at (heap_new w (.cells #[I sn] 3)) 0
  have d1 := kq.cellOf c1
  obtain ⟨b, hbb⟩ : ∃ b, segs[k].1 = b := ⟨_, rfl⟩
  rw [hbb] at hb hseg
  rw [hsn] at hseg
  have hlen := hseg.len
  obtain ⟨l, hOK, hlR, hlP, hu, hB⟩ := hseg.ex
  subst hlP
  subst hlR
  obtain ⟨SB, hSB⟩ : ∃ SB, headL sn ++ itsB l ++ List.replicate (64 * (7 - itsP l)) 255 = SB := ⟨_, rfl⟩
  rw [hSB] at hB
  rw [hB] at hlen
  have hn256 := h.pt.bound.1
  have HRD := Lib.hid (fun W (kw : Kept [] w W) => pread_any W pb fb bb cb fs n f (h.same kw).pt hd (b * 512) 512 (by omega) (by omega))
  have HSB := Lib.hid hB
  have HSBQ := Lib.hid (And.intro hSB hlen)
  have HE := Lib.hid (fun W (kw : Kept [] w W) => And.intro (h.same kw).cells (And.intro (kw.cellOf (hcl k hk).1) hbb))
  have HRS := Lib.hid (And.intro hOK hu)
  have hkI : (k : Int) < segs.length := by omega
  have hk0 : ¬ (k : Int) < 0 := by omega
  have hk1 : (0 : Int) ≤ k := by omega
  have hsI : (segs.length : Int) ≤ 1000 := by omega
  have hbI : (b : Int) ≤ 256 := by omega
  have H := Lib.hid h
  have HKQ := Lib.hid (And.intro kq hq)
  clear h hcl hn hseg hOK hu kq hq hB hSB hlen
  go_enter Tryz.func145, Tryz.ntmps145
  go_wp2_with (fail)
  refine (HI.out _ _ HKQ.out.1 HKQ.out.2).mono ?_
  rintro e w2 ⟨rfl, k2⟩
  have K2 := Lib.hid (HKQ.out.1.trans' k2)
  clear k2
  obtain ⟨⟨f0, f1, f2⟩, f3, f4⟩ := HE.out _ K2.out
  clear c0 c1 c2 d1 hbb hb hn256 hsn f4
  go_upto_region 6 with (fail)
  go_cut [7, 8] from 25 to 41 (fun v7 v8 wx => v7 = S SB ∧ v8 = I 0 ∧ Kept [] w wx)
  case first =>
    obtain ⟨⟨g0, g1, g2⟩, g3, g4⟩ := HE.out w2.drew K2.out.drew
    rw [g4] at g3
    clear g4 f0 f1 f2 f3
    have HR1 : Hid (Calls Tryz.prog 158 #[Ptr pb, I (b * 512 : Nat), I 512] w2.drew fun e w' => e = .returned (.tuple #[S ((f.bs.drop (512 * fs + b * 512)).take 512), I 0]) ∧ w' = w2.drew) := Lib.hid (HRD.out w2.drew K2.out.drew)
    have hbm : (b : Int) * 512 = (b * 512 : Nat) := by omega
    have hw1 : IntKind.i64.wrap ((b : Int) * 512) = (b * 512 : Nat) := by rw [IntKind.wrap_i64]; omega
    obtain ⟨N, hN⟩ : ∃ N : Nat, b * 512 = N := ⟨_, rfl⟩
    rw [hN] at HR1 hbm hw1
    have HNN := Lib.hid hN
    have hNb : (N : Int) ≤ 131072 := by omega
    have hw4 : IntKind.i64.wrap (N : Int) = N := by rw [IntKind.wrap_i64]; omega
    clear hN
    go_region_with (first
      | (go_at_call 158; (with_reducible refine HR1.out.mono ?_); rintro e w3 ⟨rfl, rfl⟩))
    all_goals
      go_wp2
      go_meet
      exact ⟨by rw [← HSB.out]; unfold blockOf; rw [← HNN.out]; congr 3; omega, rfl, K2.out.drew⟩
  case rest =>
  obtain ⟨rfl, rfl, kx⟩ := hcut
  have KX := Lib.hid kx
  obtain ⟨i0, hi, hz0, hz1, hz2⟩ := info_parts str_info
  have HI2 := Lib.hid (And.intro hi (And.intro hz0 (And.intro hz1 hz2)))
  have HR1 : Hid (∀ (a : List It) (r : List UInt8) (b : List It), l = a ++ It.whole r :: b → ∀ W, Calls Tryz.prog 180 #[S SB, I (1 + itsP a : Nat)] W fun e w' => e = .returned (.tuple #[S r, I (pagesF r.length)]) ∧ w' = W) := Lib.hid (by
    intro a r b h W
    obtain ⟨q1, q2⟩ := HRS.out
    obtain ⟨q3, q4⟩ := HSBQ.out
    rw [← q3] at q4 ⊢
    rw [h] at q1 q4
    have := its_whole sn a r b _ q1 q4 W
    rwa [← h] at this)
  have HRJ : Hid (∀ (a : List It) (g : List UInt8) (b : List It), l = a ++ It.junk g :: b → ∀ W, Calls Tryz.prog 180 #[S SB, I (1 + itsP a : Nat)] W fun e w' => e = .returned (.tuple #[S [], I 0]) ∧ w' = W) := Lib.hid (by
    intro a g b h W
    obtain ⟨q1, q2⟩ := HRS.out
    obtain ⟨q3, q4⟩ := HSBQ.out
    rw [← q3] at q4 ⊢
    rw [h] at q1 q4
    have := its_junk sn a g b _ q1 q4 W
    rwa [← h] at this)
  have HR2 : Hid (∀ (q : Nat), 1 + itsP l ≤ q → q < 8 → ∀ W, Calls Tryz.prog 180 #[S SB, I q] W fun e w' => e = .returned (.tuple #[S [], I 0]) ∧ w' = W) := Lib.hid (fun q q1 q2 W => by
    rw [← HSBQ.out.1]
    exact its_end sn l HRS.out.1 HRS.out.2 q q1 q2 W)
  clear kx hi hz0 hz1 hz2 f0 f1 f2 f3 HSB HE HRD HI hk0 hk1 hkI
  go_wp2_with (fail)
  go_loopw [9, 10] (fun v9 v10 wr => ∃ (a b : List It) (q : Nat), l = a ++ b ∧ 1 + itsP a ≤ q ∧ q ≤ 8 ∧ (b ≠ [] → q = 1 + itsP a) ∧ v10 = I q ∧ wr.ownsRow w.heap.size 9 1 v9 (itsR a).length ((itsR a).map S) ∧ Kept [] w wr) (fun _ v10 _ => 8 - (intOf v10).toNat)
  case atStart => exact ⟨[], l, 1, rfl, by simp [itsP], by omega, fun _ => rfl, rfl, ⟨rfl, .inl ⟨rfl, rfl⟩⟩, KX.out⟩
  case round =>
    obtain ⟨a, b, q, hab, hq1, hq2, hqb, rfl, own, kr⟩ := hrel
    have hqI2 : (q : Int) ≤ 8 := by omega
    have hal : (itsR a).length ≤ 8 := by
      have := itsR_len a (fun x hx => HRS.out.1 x (by rw [hab]; simp [hx]))
      omega
    obtain ⟨p, c, rfl⟩ := own_form own
    by_cases hlt : q < 8
    · have hltI : (q : Int) < 8 := by omega
      cases b with
      | nil =>
        rw [List.append_nil] at hab
        subst hab
        have HRC := Lib.hid (HR2.out q hq1 hlt wr)
        have HR := Lib.hid (And.intro own (And.intro kr (And.intro hq1 hq2)))
        clear own kr hq1 hq2 hqb HR1 HR2 HRJ hal
        go_wp2_with (fail)
        refine HRC.out.mono ?_
        rintro e w2 ⟨rfl, rfl⟩
        go_wp2_with (fail)
        go_roundw
        case rel => exact ⟨l, [], q + 1, by simp, by have := HR.out.2.2.1; omega, by omega, fun h => absurd rfl h, by go_num, HR.out.1, HR.out.2.1⟩
        case measure => simp [intOf]; omega
      | cons x b =>
        cases x with
        | junk g =>
        have hq := hqb (by simp)
        have HRC := Lib.hid (HRJ.out a g b hab wr)
        rw [← hq] at HRC
        have HR := Lib.hid (And.intro own (And.intro kr (And.intro hq hab)))
        clear own kr hq1 hq2 hqb HR1 HR2 HRJ hal hq hab
        go_wp2_with (fail)
        refine HRC.out.mono ?_
        rintro e w2 ⟨rfl, rfl⟩
        go_wp2_with (fail)
        go_roundw
        case rel =>
          obtain ⟨own, kr, hq, hab⟩ := HR.out
          exact ⟨a ++ [It.junk g], b, q + 1, by rw [hab]; simp, by rw [itsP_app]; show 1 + (itsP a + (1 + 0)) ≤ _; omega, by omega, fun _ => by rw [itsP_app]; show _ = 1 + (itsP a + (1 + 0)); omega, by go_num, by rw [itsR_app]; show World.ownsRow _ _ _ _ _ (itsR a ++ []).length ((itsR a ++ []).map S); rw [List.append_nil]; exact own, kr⟩
        case measure => simp [intOf]; omega
        | whole r =>
        have hq := hqb (by simp)
        have hu := HRS.out.2
        rw [hab, itsP_app] at hu
        replace hu : itsP a + (pagesF r.length + itsP b) ≤ 7 := hu
        have hr1 := pages_pos r.length
        have HRC := Lib.hid (HR1.out a r b hab wr)
        obtain ⟨pr, hpr⟩ : ∃ pr, pagesF r.length = pr := ⟨_, rfl⟩
        rw [← hq] at HRC
        rw [hpr] at HRC hu hr1
        have hprI : (1 : Int) ≤ pr := by omega
        have hprI2 : (pr : Int) ≤ 7 := by omega
        have hpr0 : (0 : Int) < pr := by omega
        have hmx : max (1 : Int) pr = pr := by omega
        have HR := Lib.hid (And.intro own (And.intro kr (And.intro hq (And.intro hpr (And.intro hab (And.intro hu hal))))))
        clear own kr hq1 hq2 hqb HR1 HR2 HRJ hq hpr hab hu hr1 hal
        obtain ⟨hi, hz0, hz1, hz2⟩ := HI2.out
        go_wp2_with (fail)
        refine HRC.out.mono ?_
        rintro e w2 ⟨rfl, rfl⟩
        go_wp2_with (first
          | (at_builtin
             refine wpList_append_lies _ rfl (.tmp 55) (.tmp 57) _ rfl w.heap.size 9 i0 (.string ⟨#[]⟩) 1 16 Tryz.underlying53 hi hz0 hz1 hz2 rfl (by decide) (.slice p (itsR a).length c) (itsR a).length ((itsR a).map S) rfl (own_kept HR.out.1 ((Kept.refl [] w2).alloc _) (by simp)) ⟨w2.heap.size, 0, none⟩ 1 1 [S r] rfl rfl (World.news_of_block (heap_new w2 _)) (S_one [r]) (by decide) (by have := HR.out.2.2.2.2.2.2; unfold maxLen; omega) (by have := HR.out.2.2.2.2.2.2; omega) (by rw [World.size_alloc]; have := HR.out.2.1.size; omega) _ rfl ?_
             intro g cap wa own1 gr1 hat hlt2
             have HA := Lib.hid (And.intro own1 gr1)
             clear own1 gr1 hat hlt2))
        go_roundw
        case rel =>
          obtain ⟨own1, gr1⟩ := HA.out
          obtain ⟨own, kr, hq, hpr, hab, hu, hal⟩ := HR.out
          refine ⟨a ++ [It.whole r], b, q + pr, by rw [hab]; simp, ?_, by omega, fun _ => ?_, by go_num, ?_, ?_⟩
          · rw [itsP_app]; show 1 + (itsP a + (pagesF r.length + 0)) ≤ _; omega
          · rw [itsP_app]; show _ = 1 + (itsP a + (pagesF r.length + 0)); omega
          · rw [itsR_app]; show World.ownsRow _ _ _ _ _ (itsR a ++ [r]).length ((itsR a ++ [r]).map S); rw [List.map_append, List.length_append]; exact own1
          · refine kr.new (((Kept.refl [] w2).alloc _).mono (by simp) |>.trans' (kept_grown gr1)) ?_
            intro x hx
            exact (own_lt own x (by simpa using hx)).1
        case measure => simp [intOf]; omega
    · have hq8 : q = 8 := by omega
      subst hq8
      have hb : b = [] := by
        cases b with
        | nil => rfl
        | cons x b =>
          exfalso
          have hu := HRS.out.2
          rw [hab, itsP_app] at hu
          replace hu : itsP a + (itP x + itsP b) ≤ 7 := hu
          have := hqb (by simp)
          have hx1 : 1 ≤ itP x := by cases x with
            | whole r => exact pages_pos r.length
            | junk g => exact Nat.le_refl _
          omega
      subst hb
      rw [List.append_nil] at hab
      subst hab
      have HR := Lib.hid (And.intro own kr)
      clear own kr hq1 hq2 hqb HR1 HR2 HRJ hal hlt
      go_wp2_with (fail)
      go_ret2
      exact ⟨_, rfl, HR.out.1, HR.out.2⟩
end Go.Proofs.YteplbljjlbdhaaaGreatDoor
