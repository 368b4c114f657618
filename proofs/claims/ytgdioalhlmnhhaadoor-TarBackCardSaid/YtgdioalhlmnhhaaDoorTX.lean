/- Walks and lemmas on the program of this seat, used by its statements; each theorem bears its own conditions. -/
import Derived.Test.YtgdioalhlmnhhaaDoorGen
namespace Go.Proofs.YtgdioalhlmnhhaaDoor
open Go.RowKit
set_option linter.unusedVariables false
set_option linter.unusedSimpArgs false
/-! ### Archives, plain: sums, numbers, heads -/
namespace TX
def term (c : UInt8) (i : Nat) : Nat := if 148 ≤ i ∧ i < 156 then 32 else c.toNat
def sumTo (l : List UInt8) : Nat → Nat
  | 0 => 0
  | i + 1 => sumTo l i + term (byteAt l i) i
theorem term_le (c : UInt8) (i : Nat) : term c i ≤ 255 := by unfold term; have := c.toNat_lt; split <;> omega
theorem sumTo_le (l : List UInt8) : ∀ n, sumTo l n ≤ 255 * n
  | 0 => by simp [sumTo]
  | n + 1 => by have := sumTo_le l n; have := term_le (byteAt l n) n; simp only [sumTo]; omega
theorem sumTo_congr (l l' : List UInt8) : ∀ n, (∀ i, i < n → ¬ (148 ≤ i ∧ i < 156) → byteAt l i = byteAt l' i) → sumTo l n = sumTo l' n
  | 0, _ => rfl
  | n + 1, h => by
    have := sumTo_congr l l' n fun i hi => h i (by omega)
    simp only [sumTo, this]
    by_cases hk : 148 ≤ n ∧ n < 156
    · simp [term, hk]
    · rw [h n (by omega) hk]
theorem sumTo_turn (l l' : List UInt8) (k : Nat) (hk : ¬ (148 ≤ k ∧ k < 156)) (hd : byteAt l k ≠ byteAt l' k) (ho : ∀ i, i ≠ k → byteAt l i = byteAt l' i) : ∀ n, k < n → sumTo l n ≠ sumTo l' n
  | 0, h => by omega
  | n + 1, h => by
    by_cases e : k = n
    · subst e
      have h1 := sumTo_congr l l' k fun i hi _ => ho i (by omega)
      have h2 : (byteAt l k).toNat ≠ (byteAt l' k).toNat := fun e => hd (UInt8.toNat.inj e)
      simp only [sumTo, h1, term, hk, if_false]
      omega
    · have := sumTo_turn l l' k hk hd ho n (by omega)
      simp only [sumTo, ho n (fun e' => e e'.symm)]
      omega
/-! digits of base eight -/
def dig (n : Nat) : UInt8 := UInt8.ofNat (48 + n % 8)
def octL (n : Nat) : Nat → List UInt8
  | 0 => []
  | k + 1 => octL (n / 8) k ++ [dig n]
theorem octL_len (n : Nat) : ∀ k, (octL n k).length = k := fun k => by
  induction k generalizing n with
  | zero => rfl
  | succ k ih => simp [octL, ih]
theorem octL_front (n : Nat) (k : Nat) : octL n (k + 1) = dig (n / 8 ^ k) :: octL n k := by
  induction k generalizing n with
  | zero => simp [octL]
  | succ k ih =>
    rw [octL, ih]
    show _ = dig (n / 8 ^ (k + 1)) :: (octL (n / 8) k ++ [dig n])
    rw [Nat.div_div_eq_div_mul, Nat.mul_comm 8, ← Nat.pow_succ]
    rfl
theorem dig_toNat (n : Nat) : (dig n).toNat = 48 + n % 8 := by
  unfold dig; rw [UInt8.toNat_ofNat']; omega
/-! numbers of digits -/
def isOct (c : UInt8) : Bool := decide (48 ≤ c.toNat ∧ c.toNat ≤ 55)
def octV : List UInt8 → Nat → Nat
  | [], n => n
  | c :: t, n => octV t (8 * n + (c.toNat - 48))
theorem octV_app (a b : List UInt8) (n : Nat) : octV (a ++ b) n = octV b (octV a n) := by
  induction a generalizing n with
  | nil => rfl
  | cons c t ih => simp [octV, ih]
def nOct (l : List UInt8) : Nat := (l.takeWhile isOct).length
def blank (c : UInt8) : Bool := decide (c.toNat = 0 ∨ c.toNat = 32)
def numL (l : List UInt8) : Option Nat :=
  if nOct l = 0 ∨ nOct l = l.length ∨ (l.drop (nOct l)).all blank = false then none else some (octV (l.take (nOct l)) 0)
theorem nOct_le (l : List UInt8) : nOct l ≤ l.length := by
  unfold nOct
  induction l with
  | nil => simp
  | cons c t ih => simp only [List.takeWhile_cons]; split <;> simp <;> omega
theorem oct_below (l : List UInt8) (k : Nat) (h : k < nOct l) : isOct (byteAt l k) = true := by
  induction l generalizing k with
  | nil => simp [nOct] at h
  | cons c t ih =>
    unfold nOct at h
    simp only [List.takeWhile_cons] at h
    split at h
    · rename_i hc
      cases k with
      | zero => simpa [byteAt] using hc
      | succ k => exact ih k (by simpa [nOct] using h)
    · simp at h
theorem oct_stop (l : List UInt8) (h : nOct l < l.length) : isOct (byteAt l (nOct l)) = false := by
  induction l with
  | nil => simp at h
  | cons c t ih =>
    have e : nOct (c :: t) = if isOct c = true then nOct t + 1 else 0 := by unfold nOct; simp only [List.takeWhile_cons]; split <;> simp
    rw [e] at h ⊢
    split
    · rename_i hc
      rw [if_pos hc] at h
      exact ih (by simpa using h)
    · rename_i hc
      simpa [byteAt] using hc
theorem nOct_of (l : List UInt8) (k : Nat) (h1 : k ≤ nOct l) (h2 : k = l.length ∨ isOct (byteAt l k) = false) : k = nOct l := by
  have := nOct_le l
  rcases Nat.lt_or_ge k (nOct l) with h | h
  · rcases h2 with h2 | h2
    · omega
    · rw [oct_below l k h] at h2; cases h2
  · omega
theorem octV_step (l : List UInt8) (k : Nat) (h : k < l.length) : octV (l.take (k + 1)) 0 = 8 * octV (l.take k) 0 + ((byteAt l k).toNat - 48) := by
  rw [List.take_succ_eq_append_getElem h, octV_app, ← byteAt_eq l k h]
  rfl
theorem octV_lt (l : List UInt8) (n : Nat) (hl : l.all isOct = true) (k : Nat) (hk : n < 8 ^ k) : octV l n < 8 ^ (k + l.length) := by
  induction l generalizing n k with
  | nil => simpa [octV] using hk
  | cons c t ih =>
    simp only [List.all_cons, Bool.and_eq_true] at hl
    have hc : c.toNat - 48 < 8 := by have := hl.1; simp [isOct] at this; omega
    have h1 : 8 * n + (c.toNat - 48) < 8 ^ (k + 1) := by rw [Nat.pow_succ]; omega
    have := ih _ hl.2 (k + 1) h1
    simp only [octV, List.length_cons]
    rwa [show k + (t.length + 1) = k + 1 + t.length by omega]
theorem octV_take_lt (l : List UInt8) (k : Nat) (hk : k ≤ nOct l) (m : Nat) (hm : k ≤ m) : octV (l.take k) 0 < 8 ^ m := by
  have hle := nOct_le l
  have h1 : (l.take k).all isOct = true := by
    rw [List.all_eq_true]
    intro c hc
    obtain ⟨i, hi, rfl⟩ := List.getElem_of_mem hc
    simp only [List.length_take] at hi
    rw [List.getElem_take, ← byteAt_eq l i (by omega)]
    exact oct_below l i (by omega)
  have h2 := octV_lt (l.take k) 0 h1 0 (by simp)
  rw [List.length_take, Nat.min_eq_left (by omega), Nat.zero_add] at h2
  exact Nat.lt_of_lt_of_le h2 (Nat.pow_le_pow_right (by omega) hm)
theorem octV_octL (n m : Nat) : ∀ k, n < 8 ^ k → octV (octL n k) m = m * 8 ^ k + n := fun k => by
  induction k generalizing n with
  | zero => intro h; simp at h; subst h; simp [octL, octV]
  | succ k ih =>
    intro h
    rw [Nat.pow_succ] at h
    rw [octL, octV_app, ih (n / 8) (by omega)]
    simp only [octV, dig_toNat]
    rw [Nat.pow_succ, ← Nat.mul_assoc, Nat.mul_add]
    have := Nat.div_add_mod n 8
    generalize m * 8 ^ k = x at *
    omega
theorem octL_all (n : Nat) : ∀ k, (octL n k).all isOct = true := fun k => by
  induction k generalizing n with
  | zero => rfl
  | succ k ih =>
    simp only [octL, List.all_append, ih, Bool.true_and, List.all_cons, List.all_nil, Bool.and_true]
    have := dig_toNat n
    simp [isOct, this]; omega
theorem nOct_app (a b : List UInt8) (ha : a.all isOct = true) : nOct (a ++ b) = a.length + nOct b := by
  induction a with
  | nil => simp
  | cons c t ih =>
    simp only [List.all_cons, Bool.and_eq_true] at ha
    have h2 := ih ha.2
    unfold nOct at h2 ⊢
    simp only [List.cons_append, List.takeWhile_cons, ha.1, if_true, List.length_cons]
    omega
theorem numL_octL (n k : Nat) (hk : 0 < k) (hn : n < 8 ^ k) (r : List UInt8) (hr : r ≠ []) (hb : r.all blank = true) : numL (octL n k ++ r) = some n := by
  have h0 : nOct r = 0 := by
    cases r with
    | nil => exact absurd rfl hr
    | cons c t =>
      simp only [List.all_cons, Bool.and_eq_true] at hb
      have hc : isOct c = false := by
        have := hb.1; simp only [blank, decide_eq_true_eq] at this
        simp only [isOct, decide_eq_false_iff_not]; omega
      simp [nOct, List.takeWhile_cons, hc]
  have h1 : nOct (octL n k ++ r) = k := by rw [nOct_app _ _ (octL_all n k), octL_len, h0]; omega
  have h2 : 0 < r.length := List.length_pos_iff.2 hr
  unfold numL
  rw [h1, if_neg (by
    rintro (h | h | h)
    · omega
    · rw [List.length_append, octL_len] at h; omega
    · rw [List.drop_left' (octL_len n k), hb] at h; cases h), List.take_left' (octL_len n k), octV_octL n 0 k hn]
  simp
/-! the head of a file -/
def zeros (n : Nat) : List UInt8 := List.replicate n 0
theorem zeros_len (n : Nat) : (zeros n).length = n := by simp [zeros]
def mode : List UInt8 := [48, 48, 48, 48, 54, 52, 52]
def own0 : List UInt8 := [48, 48, 48, 48, 48, 48, 48]
def time0 : List UInt8 := [48, 48, 48, 48, 48, 48, 48, 48, 48, 48, 48]
def mag : List UInt8 := [117, 115, 116, 97, 114]
def front (name : List UInt8) (size : Nat) : List UInt8 :=
  name ++ (zeros (100 - name.length) ++ (mode ++ ([0] ++ (own0 ++ ([0] ++ (own0 ++ ([0] ++ (octL size 11 ++ ([0] ++ (time0 ++ [0]))))))))))
def back : List UInt8 := [48] ++ (zeros 100 ++ (mag ++ ([0, 48, 48] ++ zeros 247)))
def headW (name : List UInt8) (size : Nat) (chk : List UInt8) : List UInt8 := front name size ++ (chk ++ back)
def chkOf (name : List UInt8) (size : Nat) : List UInt8 := octL (sumTo (headW name size (zeros 8)) 512) 6 ++ [0, 32]
def headL (name : List UInt8) (size : Nat) : List UInt8 := headW name size (chkOf name size)
theorem chkOf_len (name : List UInt8) (size : Nat) : (chkOf name size).length = 8 := by simp [chkOf, octL_len]
theorem front_len (name : List UInt8) (size : Nat) (h : name.length ≤ 100) : (front name size).length = 148 := by
  simp [front, zeros_len, octL_len, mode, own0, time0]; omega
theorem back_len : back.length = 356 := by simp [back, zeros_len, mag]
theorem headW_len (name : List UInt8) (size : Nat) (chk : List UInt8) (h : name.length ≤ 100) (hc : chk.length = 8) : (headW name size chk).length = 512 := by
  simp [headW, front_len name size h, back_len, hc]
theorem headL_len (name : List UInt8) (size : Nat) (h : name.length ≤ 100) : (headL name size).length = 512 := headW_len _ _ _ h (chkOf_len _ _)
theorem byteAt_app_l (a b : List UInt8) (i : Nat) (h : i < a.length) : byteAt (a ++ b) i = byteAt a i := by
  unfold byteAt; simp [List.getD_eq_getElem?_getD, List.getElem?_append_left h]
theorem byteAt_app_r (a b : List UInt8) (i : Nat) (h : a.length ≤ i) : byteAt (a ++ b) i = byteAt b (i - a.length) := by
  unfold byteAt; simp [List.getD_eq_getElem?_getD, List.getElem?_append_right h]
theorem headW_sum (name : List UInt8) (size : Nat) (c c' : List UInt8) (h : name.length ≤ 100) (hc : c.length = 8) (hc' : c'.length = 8) : sumTo (headW name size c) 512 = sumTo (headW name size c') 512 := by
  refine sumTo_congr _ _ _ fun i hi hn => ?_
  have hf := front_len name size h
  unfold headW
  rcases Nat.lt_or_ge i 148 with h1 | h1
  · rw [byteAt_app_l _ _ _ (by omega), byteAt_app_l _ _ _ (by omega)]
  · rw [byteAt_app_r _ _ _ (by omega), byteAt_app_r _ _ _ (by omega), byteAt_app_r _ _ _ (by omega), byteAt_app_r _ _ _ (by omega), hf, hc, hc']
theorem headL_chk (name : List UInt8) (size : Nat) (h : name.length ≤ 100) : ((headL name size).drop 148).take 8 = chkOf name size := by
  unfold headL headW
  rw [List.drop_left' (front_len name size h), List.take_left' (chkOf_len _ _)]
theorem headL_numSum (name : List UInt8) (size : Nat) (h : name.length ≤ 100) : numL (((headL name size).drop 148).take 8) = some (sumTo (headL name size) 512) := by
  rw [headL_chk name size h, chkOf, numL_octL _ _ (by omega) (by have := sumTo_le (headW name size (zeros 8)) 512; omega) _ (by simp) (by decide)]
  rw [headL, headW_sum name size _ (zeros 8) h (chkOf_len _ _) (zeros_len 8)]
theorem front_size (name : List UInt8) (size : Nat) (h : name.length ≤ 100) (hs : size < 8 ^ 11) : numL (((headL name size).drop 124).take 12) = some size := by
  have e : ((headL name size).drop 124).take 12 = octL size 11 ++ [0] := by
    unfold headL headW front
    have h1 : (name ++ (zeros (100 - name.length) ++ (mode ++ ([0] ++ (own0 ++ ([0] ++ (own0 ++ ([0] ++ (octL size 11 ++ ([0] ++ (time0 ++ [0])))))))))) : List UInt8) =
        (name ++ (zeros (100 - name.length) ++ (mode ++ ([0] ++ (own0 ++ ([0] ++ (own0 ++ [0]))))))) ++ ((octL size 11 ++ [0]) ++ (time0 ++ [0])) := by simp [List.append_assoc]
    rw [h1, List.append_assoc, List.drop_left' (by simp [zeros_len, mode, own0]; omega), List.append_assoc, List.take_left' (by simp [octL_len])]
  rw [e, numL_octL size 11 (by omega) hs [0] (by simp) (by decide)]
theorem headL_mag (name : List UInt8) (size : Nat) (h : name.length ≤ 100) : ((headL name size).drop 257).take 5 = mag := by
  unfold headL headW back
  have h1 : (front name size ++ (chkOf name size ++ ([48] ++ (zeros 100 ++ (mag ++ ([0, 48, 48] ++ zeros 247))))) : List UInt8) = (front name size ++ (chkOf name size ++ ([48] ++ zeros 100))) ++ (mag ++ ([0, 48, 48] ++ zeros 247)) := by simp [List.append_assoc]
  rw [h1, List.drop_left' (by simp [front_len name size h, chkOf_len, zeros_len]), List.take_left' (by rfl)]
theorem headL_kind (name : List UInt8) (size : Nat) (h : name.length ≤ 100) : byteAt (headL name size) 156 = 48 := by
  unfold headL headW back
  rw [byteAt_app_r _ _ _ (by rw [front_len name size h]; omega), byteAt_app_r _ _ _ (by rw [front_len name size h, chkOf_len]; omega), front_len name size h, chkOf_len]
  rfl
theorem zeros_at (n i : Nat) : byteAt (zeros n) i = 0 := by
  unfold byteAt zeros
  rw [List.getD_eq_getElem?_getD, List.getElem?_replicate]
  split <;> rfl
theorem headL_pre (name : List UInt8) (size : Nat) (h : name.length ≤ 100) : byteAt (headL name size) 345 = 0 := by
  unfold headL headW back
  have h1 : (front name size ++ (chkOf name size ++ ([48] ++ (zeros 100 ++ (mag ++ ([0, 48, 48] ++ zeros 247))))) : List UInt8) = (front name size ++ (chkOf name size ++ ([48] ++ (zeros 100 ++ (mag ++ [0, 48, 48]))))) ++ zeros 247 := by simp [List.append_assoc]
  rw [h1, byteAt_app_r _ _ _ (by simp [front_len name size h, chkOf_len, zeros_len, mag]), zeros_at]
theorem headL_first (name : List UInt8) (size : Nat) (h : name ≠ []) : byteAt (headL name size) 0 = byteAt name 0 := by
  unfold headL headW front
  rw [List.append_assoc, byteAt_app_l _ _ _ (List.length_pos_iff.2 h)]
theorem headL_name (name : List UInt8) (size : Nat) (h : name.length ≤ 100) (hz : ∀ c ∈ name, c ≠ 0) : ((headL name size).take 100).takeWhile (· != 0) = name := by
  unfold headL headW front
  have h1 : ∀ X : List UInt8, (name ++ (zeros (100 - name.length) ++ X)).take 100 = name ++ zeros (100 - name.length) := fun X => by
    rw [← List.append_assoc, List.take_left' (by simp [zeros_len]; omega)]
  rw [List.append_assoc, List.append_assoc, h1]
  have h2 : ∀ (n : List UInt8) k, (∀ c ∈ n, c ≠ 0) → (n ++ zeros k).takeWhile (· != 0) = n := by
    intro n k
    induction n with
    | nil => intro _; cases k <;> simp [zeros, List.replicate_succ, List.takeWhile_cons]
    | cons c t ih =>
      intro hc
      have : (c != 0) = true := by simpa using hc c (by simp)
      simp only [List.cons_append, List.takeWhile_cons, this, if_true]
      rw [ih fun x hx => hc x (by simp [hx])]
  exact h2 _ _ hz
/-! what a block says -/
structure P4 where
  nm : List UInt8
  sz : Int
  en : Bool
  e : Int
def parseL (l : List UInt8) : P4 :=
  if l.length ≠ 512 then ⟨[], 0, false, 200⟩
  else if l = zeros 512 then ⟨[], 0, true, 0⟩
  else if numL ((l.drop 148).take 8) ≠ some (sumTo l 512) then ⟨[], 0, false, 201⟩
  else match numL ((l.drop 124).take 12) with
    | none => ⟨[], 0, false, 200⟩
    | some n =>
      if (l.drop 257).take 5 ≠ mag ∨ (byteAt l 156 ≠ 48 ∧ byteAt l 156 ≠ 0) ∨ byteAt l 345 ≠ 0 ∨ byteAt l 0 = 0 then ⟨[], 0, false, 200⟩
      else if 1048576 < n then ⟨[], 0, false, 202⟩
      else ⟨(l.take 100).takeWhile (· != 0), n, false, 0⟩
def okHead (name : List UInt8) (size : Int) : Bool := decide (1 ≤ name.length ∧ name.length ≤ 100 ∧ (∀ c ∈ name, c ≠ 0) ∧ 0 ≤ size)
def headF (name : List UInt8) (size : Int) : List UInt8 × Int :=
  if okHead name size = false then ([], 200) else if 1048576 < size then ([], 202) else (headL name size.toNat, 0)
theorem ne_zeros (l : List UInt8) (i : Nat) (h : byteAt l i ≠ 0) : l ≠ zeros 512 := fun e => h (by rw [e, zeros_at])
theorem parse_head (name : List UInt8) (size : Nat) (h1 : 1 ≤ name.length) (h2 : name.length ≤ 100) (h3 : ∀ c ∈ name, c ≠ 0) (h4 : size ≤ 1048576) : parseL (headL name size) = ⟨name, size, false, 0⟩ := by
  have hne : name ≠ [] := by intro e; subst e; simp at h1
  have hf : byteAt (headL name size) 0 ≠ 0 := by
    rw [headL_first name size hne]
    cases name with
    | nil => exact absurd rfl hne
    | cons c t => exact h3 c (by simp)
  unfold parseL
  rw [if_neg (by rw [headL_len name size h2]; simp), if_neg (ne_zeros _ _ hf), if_neg (by rw [headL_numSum name size h2]; simp), front_size name size h2 (by omega)]
  simp only [headL_mag name size h2, headL_kind name size h2, headL_pre name size h2, headL_name name size h2 h3]
  rw [if_neg (by simp [hf]), if_neg (by omega)]
theorem parse_end (l : List UInt8) : (parseL l).en = true → l = zeros 512 := by
  unfold parseL
  repeat' split
  all_goals simp_all
theorem parse_zeros : parseL (zeros 512) = ⟨[], 0, true, 0⟩ := by
  unfold parseL
  rw [if_neg (by simp [zeros_len]), if_pos rfl]
theorem parse_size (l : List UInt8) : 0 ≤ (parseL l).sz ∧ (parseL l).sz ≤ 1048576 := by
  unfold parseL
  repeat' split
  all_goals (simp only []; omega)
theorem parse_name (l : List UInt8) : (parseL l).nm.length ≤ 100 := by
  unfold parseL
  repeat' split
  all_goals first | (simp; done) | skip
  all_goals (simp only []; have h1 := (List.takeWhile_prefix (l := l.take 100) (p := (· != 0))).length_le; simp at h1; exact Nat.le_trans h1 (Nat.min_le_left _ _))
end TX
/-! ### The reader, plain -/
namespace TX
structure Rd where
  hd : List UInt8
  nm : List UInt8
  sz : Int
  lf : Int
  fl : Int
  en : Int
  mn : Int
  e : Int
def rd0 : Rd := ⟨[], [], 0, 0, 0, 0, 0, 0⟩
structure WR where
  n : Int
  d : List UInt8
  e : Int
  r : Rd
def fillOf (n : Int) : Int := (512 - n % 512) % 512
def headsF (r : Rd) (s : List UInt8) : WR :=
  let n : Nat := min s.length (512 - r.hd.length)
  let h := r.hd ++ s.take n
  if h.length < 512 then ⟨n, [], 0, { r with hd := h }⟩
  else
    let p := parseL h
    if 0 < r.en ∧ (p.e ≠ 0 ∨ p.en = false) then ⟨0, [], 200, { r with hd := [] }⟩
    else if p.e ≠ 0 then ⟨0, [], p.e, { r with hd := [] }⟩
    else if p.en = true then ⟨n, [], 0, { r with hd := [], en := r.en + 1 }⟩
    else ⟨n, [], 0, { r with hd := [], nm := p.nm, sz := p.sz, lf := p.sz, mn := r.mn + 1, fl := fillOf p.sz }⟩
def doneB (r : Rd) : Bool := decide (r.en = 2 ∧ r.e = 0)
def zerosB (l : List UInt8) : Bool := l.all (· == 0)
def writeF (r : Rd) (s : List UInt8) : WR :=
  if r.e ≠ 0 then ⟨0, [], r.e, r⟩
  else if doneB r = true ∨ s = [] then ⟨0, [], 0, r⟩
  else if 0 < r.lf then
    let n := min s.length r.lf.toNat
    ⟨n, s.take n, 0, { r with lf := r.lf - n }⟩
  else if 0 < r.fl then
    let n := min s.length r.fl.toNat
    if zerosB (s.take n) = true then ⟨n, [], 0, { r with fl := r.fl - n }⟩
    else ⟨0, [], 200, { r with fl := r.fl - n, e := 200 }⟩
  else
    let x := headsF r s
    ⟨x.n, [], x.e, { x.r with e := x.e }⟩
/-- The bounds that a reader's numbers keep. -/
structure OkR (r : Rd) : Prop where
  hd : r.hd.length < 512
  sz : 0 ≤ r.sz ∧ r.sz ≤ 1048576
  lf : 0 ≤ r.lf ∧ r.lf ≤ 1048576
  fl : 0 ≤ r.fl ∧ r.fl ≤ 512
  en : 0 ≤ r.en ∧ r.en ≤ 1000000000
  mn : 0 ≤ r.mn ∧ r.mn ≤ 1000000000
theorem OkR.zero : OkR rd0 := ⟨by simp [rd0], by simp [rd0], by simp [rd0], by simp [rd0], by simp [rd0], by simp [rd0]⟩
/-! ### The reference's reading, plain -/
structure Fl where
  nm : List UInt8
  dt : List UInt8
  sz : Int
def runR (T : List UInt8) (z : Nat) (out : List Fl) : List Fl × Bool × Int :=
  if h512 : T.length < 512 then (out, false, 0)
  else
    let p := parseL (T.take 512)
    if 0 < z ∧ (p.e ≠ 0 ∨ p.en = false) then ([], false, 200)
    else if p.e ≠ 0 then ([], false, p.e)
    else if p.en = true then (if z + 1 = 2 then (out, true, 0) else runR (T.drop 512) (z + 1) out)
    else
      let n := min p.sz.toNat (T.drop 512).length
      let o := out ++ [⟨p.nm, (T.drop 512).take n, p.sz⟩]
      let T2 := (T.drop 512).drop n
      if n < p.sz.toNat then (o, false, 0)
      else
        let m := min (fillOf p.sz).toNat T2.length
        if zerosB (T2.take m) = false then ([], false, 200)
        else if m < (fillOf p.sz).toNat then (o, false, 0)
        else runR (T2.drop m) z o
termination_by T.length
decreasing_by all_goals (simp only [List.length_drop]; omega)
theorem runR_short (T : List UInt8) (z : Nat) (out : List Fl) (h : T.length < 512) : runR T z out = (out, false, 0) := by
  rw [runR, dif_pos h]
/-- Behind P the reference stands at a block, with z blocks of the end and the files out. -/
def Reach (P : List UInt8) (z : Nat) (out : List Fl) : Prop := ∀ T, runR (P ++ T) 0 [] = runR T z out
theorem Reach.zero : Reach [] 0 [] := fun T => rfl
def datas (l : List Fl) : List UInt8 := l.flatMap Fl.dt
theorem datas_app (l : List Fl) (f : Fl) : datas (l ++ [f]) = datas l ++ f.dt := by simp [datas]
def lastOf (out : List Fl) : Fl := out.getLastD ⟨[], [], 0⟩
theorem lastOf_app (out : List Fl) (f : Fl) : lastOf (out ++ [f]) = f := by simp [lastOf]
/-- A reader's state behind the bytes P of which 'told' was told. -/
inductive Inv (P : List UInt8) (told : List UInt8) (r : Rd) : Prop
  | head (P0 : List UInt8) (z : Nat) (out : List Fl) (hz : z ≤ 1) (hP : P = P0 ++ r.hd) (hR : Reach P0 z out) (hl : r.hd.length < 512) (h1 : r.lf = 0) (h2 : r.fl = 0) (h3 : r.en = z) (h4 : r.mn = out.length)
      (h5 : r.e = 0) (h6 : r.nm = (lastOf out).nm ∧ r.sz = (lastOf out).sz ∧ (lastOf out).sz = (lastOf out).dt.length) (h7 : told = datas out) (h8 : r.mn * 512 ≤ P0.length) (h9 : 0 ≤ r.sz ∧ r.sz ≤ 1048576)
  | data (P0 H D : List UInt8) (out : List Fl) (hP : P = P0 ++ (H ++ D)) (hR : Reach P0 0 out) (hH : H.length = 512) (hp : parseL H = ⟨r.nm, r.sz, false, 0⟩) (hD : (D.length : Int) < r.sz) (h0 : r.hd = []) (h1 : r.lf = r.sz - D.length)
      (h2 : r.fl = fillOf r.sz) (h3 : r.en = 0) (h4 : r.mn = out.length + 1) (h5 : r.e = 0) (h7 : told = datas out ++ D) (h8 : r.mn * 512 ≤ P0.length + 512)
  | fill (P0 H D Z : List UInt8) (out : List Fl) (hP : P = P0 ++ (H ++ (D ++ Z))) (hR : Reach P0 0 out) (hH : H.length = 512) (hp : parseL H = ⟨r.nm, r.sz, false, 0⟩) (hD : (D.length : Int) = r.sz) (hZ : zerosB Z = true) (hZ2 : (Z.length : Int) < fillOf r.sz)
      (h0 : r.hd = []) (h1 : r.lf = 0) (h2 : r.fl = fillOf r.sz - Z.length) (h3 : r.en = 0) (h4 : r.mn = out.length + 1) (h5 : r.e = 0) (h7 : told = datas out ++ D) (h8 : r.mn * 512 ≤ P0.length + 512)
  | done (out : List Fl) (h : runR P 0 [] = (out, true, 0)) (h0 : r.hd = []) (h1 : r.lf = 0) (h2 : r.fl = 0) (h3 : r.en = 2) (h4 : r.mn = out.length) (h5 : r.e = 0) (h6 : r.nm = (lastOf out).nm ∧ r.sz = (lastOf out).sz ∧ (lastOf out).sz = (lastOf out).dt.length) (h7 : told = datas out) (h8 : r.mn * 512 ≤ P.length) (h9 : 0 ≤ r.sz ∧ r.sz ≤ 1048576)
theorem fill_range (n : Int) : 0 ≤ fillOf n ∧ fillOf n < 512 := by unfold fillOf; omega
theorem runR_data (H D : List UInt8) (nm : List UInt8) (sz : Int) (out : List Fl) (hH : H.length = 512) (hp : parseL H = ⟨nm, sz, false, 0⟩) (hD : (D.length : Int) < sz) :
    runR (H ++ D) 0 out = (out ++ [⟨nm, D, sz⟩], false, 0) := by
  rw [runR, dif_neg (by simp; omega)]
  simp only [List.take_left' hH, List.drop_left' hH, hp]
  rw [if_neg (by omega), if_neg (by omega), if_neg (by simp), if_pos (by omega), Nat.min_eq_right (by omega), List.take_length]
theorem zerosB_take (l : List UInt8) (n : Nat) (h : zerosB l = true) : zerosB (l.take n) = true := by
  unfold zerosB at *
  rw [List.all_eq_true] at *
  exact fun x hx => h x (List.mem_of_mem_take hx)
theorem zerosB_app (a b : List UInt8) : zerosB (a ++ b) = (zerosB a && zerosB b) := by simp [zerosB, List.all_append]
/-- The reference at a file whose bytes all came. -/
theorem runR_file (H D T : List UInt8) (nm : List UInt8) (sz : Int) (out : List Fl) (hH : H.length = 512) (hp : parseL H = ⟨nm, sz, false, 0⟩) (hD : (D.length : Int) = sz) :
    runR (H ++ (D ++ T)) 0 out = (if zerosB (T.take (min (fillOf sz).toNat T.length)) = false then ([], false, 200)
      else if min (fillOf sz).toNat T.length < (fillOf sz).toNat then (out ++ [⟨nm, D, sz⟩], false, 0) else runR (T.drop (min (fillOf sz).toNat T.length)) 0 (out ++ [⟨nm, D, sz⟩])) := by
  conv => lhs; rw [runR, dif_neg (by simp; omega)]
  simp only [List.take_left' hH, List.drop_left' hH, hp]
  have e1 : min sz.toNat (D ++ T).length = D.length := by simp; omega
  rw [if_neg (by omega), if_neg (by omega), if_neg (by simp), e1, List.take_left' rfl, List.drop_left' rfl, if_neg (by omega)]
/-- What the law asks of a reader, of what the reference says. -/
theorem Inv.says {P told : List UInt8} {r : Rd} (h : Inv P told r) (hb : P.length ≤ 1000000) :
    OkR r ∧ r.e = 0 ∧ ∃ l, runR P 0 [] = (l, doneB r, 0) ∧ told = datas l ∧ r.mn = l.length ∧ r.nm = (lastOf l).nm ∧ r.sz = (lastOf l).sz ∧ r.lf = (lastOf l).sz - (lastOf l).dt.length := by
  cases h with
  | head P0 z out hz hP hR hl h1 h2 h3 h4 h5 h6 h7 h8 h9 =>
    have hd : doneB r = false := by simp [doneB]; omega
    have hPl : P.length = P0.length + r.hd.length := by rw [hP]; simp
    refine ⟨⟨hl, h9, by omega, by omega, by omega, by omega⟩, h5, out, ?_, h7, h4, h6.1, h6.2.1, by omega⟩
    have := hR r.hd
    rw [← hP, runR_short _ _ _ hl] at this
    rw [this, hd]
  | data P0 H D out hP hR hH hp hD h0 h1 h2 h3 h4 h5 h7 h8 =>
    have hd : doneB r = false := by simp [doneB]; omega
    have hPl : P.length = P0.length + (H.length + D.length) := by rw [hP]; simp
    have hs := parse_size H
    rw [hp] at hs
    simp only [] at hs
    have hfr := fill_range r.sz
    refine ⟨⟨by simp [h0], hs, by omega, by omega, by omega, by omega⟩, h5, out ++ [⟨r.nm, D, r.sz⟩], ?_, by rw [h7, datas_app], by rw [h4]; simp, by rw [lastOf_app], by rw [lastOf_app], by rw [lastOf_app]; exact h1⟩
    rw [hP, hR, runR_data H D r.nm r.sz out hH hp hD, hd]
  | fill P0 H D Z out hP hR hH hp hD hZ hZ2 h0 h1 h2 h3 h4 h5 h7 h8 =>
    have hd : doneB r = false := by simp [doneB]; omega
    have hPl : P.length = P0.length + (H.length + (D.length + Z.length)) := by rw [hP]; simp
    have hs := parse_size H
    rw [hp] at hs
    simp only [] at hs
    have hfr := fill_range r.sz
    refine ⟨⟨by simp [h0], hs, by omega, by omega, by omega, by omega⟩, h5, out ++ [⟨r.nm, D, r.sz⟩], ?_, by rw [h7, datas_app], by rw [h4]; simp, by rw [lastOf_app], by rw [lastOf_app], by rw [lastOf_app]; simp only []; omega⟩
    have e1 : min (fillOf r.sz).toNat Z.length = Z.length := by omega
    rw [hP, hR, runR_file H D Z r.nm r.sz out hH hp hD, hd, e1, List.take_length, if_neg (by simp [hZ]), if_pos (by omega)]
  | done out h h0 h1 h2 h3 h4 h5 h6 h7 h8 h9 =>
    have hd : doneB r = true := by simp [doneB, h3, h5]
    refine ⟨⟨by simp [h0], h9, by omega, by omega, by omega, by omega⟩, h5, out, by rw [h, hd], h7, h4, h6.1, h6.2.1, by omega⟩
theorem zerosB_nil : zerosB [] = true := rfl
theorem finish {P0 H D Z : List UInt8} {nm : List UInt8} {sz : Int} {out : List Fl} (hR : Reach P0 0 out) (hH : H.length = 512) (hp : parseL H = ⟨nm, sz, false, 0⟩) (hD : (D.length : Int) = sz) (hZ : zerosB Z = true) (hZ2 : (Z.length : Int) = fillOf sz) :
    Reach (P0 ++ (H ++ (D ++ Z))) 0 (out ++ [⟨nm, D, sz⟩]) := by
  intro T
  rw [List.append_assoc, List.append_assoc, List.append_assoc, hR, runR_file H D (Z ++ T) nm sz out hH hp hD]
  have e1 : min (fillOf sz).toNat (Z ++ T).length = Z.length := by simp; omega
  rw [e1, List.take_left' rfl, List.drop_left' rfl, if_neg (by simp [hZ]), if_neg (by omega)]
theorem Inv.step {P told : List UInt8} {r : Rd} (h : Inv P told r) (s : List UInt8) (hs : s ≠ []) (hd : doneB r = false) :
    ((writeF r s).e = 0 → ∃ n : Nat, (writeF r s).n = n ∧ 0 < n ∧ n ≤ s.length ∧ (writeF r s).d.length ≤ n ∧ Inv (P ++ s.take n) (told ++ (writeF r s).d) (writeF r s).r) ∧
    ((writeF r s).e ≠ 0 → (writeF r s).n = 0 ∧ (writeF r s).d = [] ∧ (writeF r s).r.e = (writeF r s).e ∧ (runR (P ++ s) 0 []).2.2 = (writeF r s).e) := by
  have hs0 : 0 < s.length := List.length_pos_iff.2 hs
  cases h with
  | done out h h0 h1 h2 h3 h4 h5 h6 h7 h8 h9 => simp [doneB, h3, h5] at hd
  | data P0 H D out hP hR hH hp hD h0 h1 h2 h3 h4 h5 h7 h8 =>
    have hw : writeF r s = ⟨(min s.length r.lf.toNat : Nat), s.take (min s.length r.lf.toNat), 0, { r with lf := r.lf - (min s.length r.lf.toNat : Nat) }⟩ := by
      unfold writeF
      rw [if_neg (by simp [h5]), if_neg (by simp [hd, hs]), if_pos (by omega)]
    rw [hw]
    obtain ⟨n, hn⟩ : ∃ n, min s.length r.lf.toNat = n := ⟨_, rfl⟩
    rw [hn]
    have hDn : (s.take n).length = n := by simp; omega
    refine ⟨fun _ => ⟨n, rfl, by omega, by omega, by simp; omega, ?_⟩, fun h => absurd rfl h⟩
    have hfr := fill_range r.sz
    have hsz := parse_size H; rw [hp] at hsz; simp only [] at hsz
    rcases Int.lt_or_le (D.length + n) r.sz with hlt | hge
    · exact .data P0 H (D ++ s.take n) out (by rw [hP]; simp) hR hH hp (by simp; omega) h0 (by simp; omega) h2 h3 h4 h5 (by rw [h7]; simp) h8
    · have hDl : ((D ++ s.take n).length : Int) = r.sz := by rw [List.length_append, hDn]; omega
      rcases Int.lt_or_le 0 (fillOf r.sz) with hf | hf
      · exact .fill P0 H (D ++ s.take n) [] out (by rw [hP]; simp) hR hH hp hDl rfl (by simpa using hf) h0 (by simp; omega) (by simpa using h2) h3 h4 h5 (by rw [h7]; simp) h8
      · have hfin := finish (Z := []) hR hH hp hDl rfl (by simp; omega)
        exact .head (P0 ++ (H ++ ((D ++ s.take n) ++ []))) 0 (out ++ [⟨r.nm, D ++ s.take n, r.sz⟩]) (by omega) (by rw [hP]; simp [h0]) hfin (by simp [h0]) (by simp; omega) (by simp; omega) (by simp [h3]) (by simp [h4]) h5
          (by rw [lastOf_app]; exact ⟨rfl, rfl, hDl.symm⟩) (by rw [h7, datas_app]; simp) (by simp; omega) hsz
  | fill P0 H D Z out hP hR hH hp hD hZ hZ2 h0 h1 h2 h3 h4 h5 h7 h8 =>
    have hfr := fill_range r.sz
    have hsz := parse_size H; rw [hp] at hsz; simp only [] at hsz
    obtain ⟨n, hn⟩ : ∃ n, min s.length r.fl.toNat = n := ⟨_, rfl⟩
    have hZn : (s.take n).length = n := by simp; omega
    by_cases hz : zerosB (s.take n) = true
    · have hw : writeF r s = ⟨n, [], 0, { r with fl := r.fl - n }⟩ := by
        unfold writeF
        rw [if_neg (by simp [h5]), if_neg (by simp [hd, hs]), if_neg (by omega), if_pos (by omega)]
        simp only [hn, hz, if_true]
      rw [hw]
      refine ⟨fun _ => ⟨n, rfl, by omega, by omega, by simp, ?_⟩, fun h => absurd rfl h⟩
      have hZ3 : zerosB (Z ++ s.take n) = true := by rw [zerosB_app, hZ, hz]; rfl
      rcases Int.lt_or_le (Z.length + n) (fillOf r.sz) with hlt | hge
      · exact .fill P0 H D (Z ++ s.take n) out (by rw [hP]; simp) hR hH hp hD hZ3 (by simp; omega) h0 h1 (by simp; omega) h3 h4 h5 (by rw [h7]; simp) h8
      · have hfin := finish (Z := Z ++ s.take n) hR hH hp hD hZ3 (by rw [List.length_append, hZn]; omega)
        exact .head (P0 ++ (H ++ (D ++ (Z ++ s.take n)))) 0 (out ++ [⟨r.nm, D, r.sz⟩]) (by omega) (by rw [hP]; simp [h0]) hfin (by simp [h0]) h1 (by simp; omega) (by simp [h3]) (by simp [h4]) h5
          (by rw [lastOf_app]; exact ⟨rfl, rfl, hD.symm⟩) (by rw [h7, datas_app]; simp) (by simp; omega) hsz
    · have hz' : zerosB (s.take n) = false := by simpa using hz
      have hw : writeF r s = ⟨0, [], 200, { r with fl := r.fl - n, e := 200 }⟩ := by
        unfold writeF
        rw [if_neg (by simp [h5]), if_neg (by simp [hd, hs]), if_neg (by omega), if_pos (by omega)]
        simp only [hn, hz', Bool.false_eq_true, if_false]
      rw [hw]
      refine ⟨fun h => absurd h (by simp), fun _ => ⟨rfl, rfl, rfl, ?_⟩⟩
      have e0 : P ++ s = P0 ++ (H ++ (D ++ (Z ++ s))) := by rw [hP]; simp
      have e1 : min (fillOf r.sz).toNat (Z ++ s).length = Z.length + n := by simp; omega
      have e2 : (Z ++ s).take (Z.length + n) = Z ++ s.take n := by rw [List.take_append, List.take_of_length_le (by omega)]; simp
      rw [e0, hR, runR_file H D (Z ++ s) r.nm r.sz out hH hp hD, e1, e2, if_pos (by rw [zerosB_app, hz']; simp)]
  | head P0 z out hz hP hR hl h1 h2 h3 h4 h5 h6 h7 h8 h9 =>
    have hw : writeF r s = ⟨(headsF r s).n, [], (headsF r s).e, { (headsF r s).r with e := (headsF r s).e }⟩ := by
      unfold writeF
      rw [if_neg (by simp [h5]), if_neg (by simp [hd, hs]), if_neg (by omega), if_neg (by omega)]
    obtain ⟨n, hn⟩ : ∃ n, min s.length (512 - r.hd.length) = n := ⟨_, rfl⟩
    have hnl : (s.take n).length = n := by simp; omega
    have hx : headsF r s = (if (r.hd ++ s.take n).length < 512 then ⟨n, [], 0, { r with hd := r.hd ++ s.take n }⟩
      else
        if 0 < r.en ∧ ((parseL (r.hd ++ s.take n)).e ≠ 0 ∨ (parseL (r.hd ++ s.take n)).en = false) then ⟨0, [], 200, { r with hd := [] }⟩
        else if (parseL (r.hd ++ s.take n)).e ≠ 0 then ⟨0, [], (parseL (r.hd ++ s.take n)).e, { r with hd := [] }⟩
        else if (parseL (r.hd ++ s.take n)).en = true then ⟨n, [], 0, { r with hd := [], en := r.en + 1 }⟩
        else ⟨n, [], 0, { r with hd := [], nm := (parseL (r.hd ++ s.take n)).nm, sz := (parseL (r.hd ++ s.take n)).sz, lf := (parseL (r.hd ++ s.take n)).sz, mn := r.mn + 1, fl := fillOf (parseL (r.hd ++ s.take n)).sz }⟩) := by
      unfold headsF; simp only [hn]
    rw [hw]
    by_cases hlt : (r.hd ++ s.take n).length < 512
    · rw [hx, if_pos hlt]
      refine ⟨fun _ => ⟨n, rfl, by omega, by omega, by simp, ?_⟩, fun h => absurd rfl h⟩
      exact .head P0 z out hz (by rw [hP]; simp) hR hlt h1 h2 h3 h4 rfl h6 (by simpa using h7) h8 h9
    · have hlen : (r.hd ++ s.take n).length = 512 := by simp at hlt ⊢; omega
      have e0 : P ++ s = P0 ++ ((r.hd ++ s.take n) ++ s.drop n) := by rw [hP]; simp
      rw [if_neg hlt] at hx
      obtain ⟨H, hH⟩ : ∃ H, r.hd ++ s.take n = H := ⟨_, rfl⟩
      rw [hH] at hlt hlen e0 hx
      have hsize := parse_size H
      have hrun : ∀ T, runR (H ++ T) z out = (if 0 < z ∧ ((parseL H).e ≠ 0 ∨ (parseL H).en = false) then ([], false, 200)
          else if (parseL H).e ≠ 0 then ([], false, (parseL H).e)
          else if (parseL H).en = true then (if z + 1 = 2 then (out, true, 0) else runR T (z + 1) out)
          else runR (H ++ T) z out) := by
        intro T
        split
        · rename_i hc
          rw [runR, dif_neg (by simp; omega)]
          simp only [List.take_left' hlen, List.drop_left' hlen]
          rw [if_pos hc]
        · rename_i hc
          split
          · rename_i hc2
            rw [runR, dif_neg (by simp; omega)]
            simp only [List.take_left' hlen, List.drop_left' hlen]
            rw [if_neg hc, if_pos hc2]
          · rename_i hc2
            split
            · rename_i hc3
              conv => lhs; rw [runR, dif_neg (by simp; omega)]
              simp only [List.take_left' hlen, List.drop_left' hlen]
              rw [if_neg hc, if_neg hc2, if_pos hc3]
            · rfl
      by_cases c1 : 0 < r.en ∧ ((parseL H).e ≠ 0 ∨ (parseL H).en = false)
      · rw [if_pos c1] at hx
        rw [hx]
        refine ⟨fun h => absurd h (by simp), fun _ => ⟨rfl, rfl, rfl, ?_⟩⟩
        rw [e0, hR, hrun, if_pos ⟨by omega, c1.2⟩]
      · rw [if_neg c1] at hx
        have c1' : ¬ (0 < z ∧ ((parseL H).e ≠ 0 ∨ (parseL H).en = false)) := fun ⟨a, b⟩ => c1 ⟨by omega, b⟩
        by_cases c2 : (parseL H).e ≠ 0
        · rw [if_pos c2] at hx
          rw [hx]
          refine ⟨fun h => absurd h c2, fun _ => ⟨rfl, rfl, rfl, ?_⟩⟩
          rw [e0, hR, hrun, if_neg c1', if_pos c2]
        · rw [if_neg c2] at hx
          have hPt : P ++ s.take n = P0 ++ H := by rw [hP, List.append_assoc, hH]
          by_cases c3 : (parseL H).en = true
          · rw [if_pos c3] at hx
            rw [hx]
            refine ⟨fun _ => ⟨n, rfl, by omega, by omega, by simp, ?_⟩, fun h => absurd rfl h⟩
            rw [hPt]
            by_cases hz1 : z = 0
            · subst hz1
              refine .head (P0 ++ H) 1 out (by omega) (by simp) (fun T => ?_) (by simp) h1 h2 (by simp [h3]) h4 rfl h6 (by simpa using h7) (by simp; omega) h9
              rw [List.append_assoc, hR, hrun, if_neg c1', if_neg c2, if_pos c3, if_neg (by omega)]
            · have hz2 : z = 1 := by omega
              subst hz2
              refine .done out ?_ rfl h1 h2 (by simp [h3]) h4 rfl h6 (by simpa using h7) (by simp; omega) h9
              have := hrun []
              rw [List.append_nil] at this
              rw [hR, this, if_neg c1', if_neg c2, if_pos c3, if_pos rfl]
          · rw [if_neg c3] at hx
            have hz0 : z = 0 := by
              rcases Nat.eq_zero_or_pos z with h | h
              · exact h
              · exact absurd ⟨h, .inr (by simpa using c3)⟩ c1'
            subst hz0
            have hp4 : parseL H = ⟨(parseL H).nm, (parseL H).sz, false, 0⟩ := by
              have a : (parseL H).e = 0 := by simpa using c2
              have b : (parseL H).en = false := by simpa using c3
              rw [← a, ← b]
            rw [hx]
            refine ⟨fun _ => ⟨n, rfl, by omega, by omega, by simp, ?_⟩, fun h => absurd rfl h⟩
            rw [hPt]
            have hfr := fill_range (parseL H).sz
            rcases Int.lt_or_le 0 (parseL H).sz with hpos | hpos
            · exact .data P0 H [] out (by simp) hR hlen hp4 (by simpa using hpos) rfl (by simp) rfl (by simp [h3]) (by simp [h4]) rfl (by simpa using h7) (by simp; omega)
            · have hsz0 : (parseL H).sz = 0 := by omega
              have hfin := finish (Z := []) (D := []) hR hlen hp4 (by simp [hsz0]) rfl (by simp [hsz0, fillOf])
              exact .head (P0 ++ (H ++ ([] ++ []))) 0 (out ++ [⟨(parseL H).nm, [], (parseL H).sz⟩]) (by omega) (by simp) hfin (by simp) (by simp [hsz0]) (by simp [hsz0, fillOf]) (by simp [h3]) (by simp [h4]) rfl
                (by rw [lastOf_app]; exact ⟨rfl, rfl, by simp [hsz0]⟩) (by rw [datas_app]; simpa using h7) (by simp; omega) hsize
end TX
end Go.Proofs.YtgdioalhlmnhhaaDoor
