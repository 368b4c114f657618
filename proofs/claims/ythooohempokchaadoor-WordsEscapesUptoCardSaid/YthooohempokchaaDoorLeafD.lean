/- Walks and lemmas on the program of this seat, used by its statements; each theorem bears its own conditions. -/
import Derived.Test.YthooohempokchaaDoorLeafC
namespace Go.Proofs.YthooohempokchaaDoor
open Go.RowKit
set_option linter.unusedVariables false
set_option linter.unusedSimpArgs false
/-! ### words.Name -/
theorem Kept.iterAt {K : List Nat} {a w : World} (h : Kept K a w) {k : Nat} (hk : a.heap.size ≤ k) (s : ByteArray) (p : Nat) : Kept K a (w.iterAt k s p) :=
  ⟨h.os, h.tape, h.output, by rw [Lib.iterAt_size]; exact h.size, fun i hi hn => by
    rw [Lib.iterAt_other _ _ _ _ _ (by omega)]; exact h.block i hi hn⟩
theorem nameB_no {l : List UInt8} (h : l = [] ∨ 24 < l.length ∨ l = [46] ∨ l = [46, 46] ∨ WX.textB l = false) : WX.nameB l = false := by
  cases hn : WX.nameB l with
  | false => rfl
  | true =>
    exfalso
    have ht := WX.nameB_text hn
    unfold WX.nameB at hn
    simp only [Bool.and_eq_true, bne_iff_ne, Bool.not_eq_true', decide_eq_true_eq] at hn
    rcases h with rfl | h | rfl | rfl | h
    · simp at hn
    · omega
    · simp at hn
    · simp at hn
    · rw [h] at ht; cases ht
theorem nameB_go {l : List UInt8} (h1 : l ≠ []) (h2 : l.length ≤ 24) (h3 : l ≠ [46]) (h4 : l ≠ [46, 46]) : WX.nameB l = (WX.units l).all WX.nameU := by
  have : l.isEmpty = false := by cases l; exact absurd rfl h1; rfl
  simp [WX.nameB, this, h2, h3, h4]
theorem iter_at (w : World) (o : Obj) (k : Nat) (h : k = w.heap.size) : (w.alloc o).heap[k]? = some o := by subst h; exact heap_new w o
set_option maxHeartbeats 1000000 in
theorem name_any (l : List UInt8) (w : World) (hl : l.length ≤ 4611686018427387904) (hT : Tabs w) :
    Calls Tryd.prog 13 #[S l] w fun e w' => e = .returned (.bool (WX.nameB l)) ∧ Kept [] w w' := by
  have hl' : (l.length : Int) ≤ 4611686018427387904 := by omega
  have HT := Lib.hid hT
  clear hT
  by_cases c1 : l = []
  · have hr := Lib.hid (nameB_no (.inl c1))
    have e1 : l.isEmpty = true := by rw [c1]; rfl
    clear c1
    go_enter Tryd.func13, Tryd.ntmps13
    go_wp2
    go_ret
    exact ⟨ret_B hr.out.symm, Kept.refl _ _⟩
  have e1 : l.isEmpty = false := by cases l; exact absurd rfl c1; rfl
  by_cases c2 : 24 < l.length
  · have hr := Lib.hid (nameB_no (.inr (.inl c2)))
    have c2' : (24 : Int) < l.length := by omega
    have C1 := Lib.hid c1
    clear c1
    go_enter Tryd.func13, Tryd.ntmps13
    go_wp2
    go_ret
    exact ⟨ret_B hr.out.symm, Kept.refl _ _⟩
  have c2' : ¬ (24 : Int) < l.length := by omega
  by_cases c3 : l = [46]
  · have hr := Lib.hid (nameB_no (.inr (.inr (.inl c3))))
    have e3 : (l == [46]) = true := by rw [c3]; rfl
    have C1 := Lib.hid c1
    clear c1 c3
    go_enter Tryd.func13, Tryd.ntmps13
    go_wp2
    go_ret
    exact ⟨ret_B hr.out.symm, Kept.refl _ _⟩
  have e3 : (l == [46]) = false := by simpa using c3
  by_cases c4 : l = [46, 46]
  · have hr := Lib.hid (nameB_no (.inr (.inr (.inr (.inl c4)))))
    have e4 : (l == [46, 46]) = true := by rw [c4]; rfl
    have C1 := Lib.hid c1
    clear c1 c3 c4
    go_enter Tryd.func13, Tryd.ntmps13
    go_wp2
    go_ret
    exact ⟨ret_B hr.out.symm, Kept.refl _ _⟩
  have e4 : (l == [46, 46]) = false := by simpa using c4
  have hgo := Lib.hid (nameB_go c1 (by omega) c3 c4)
  clear c1 c2 c3 c4
  cases ht : WX.textB l with
  | false =>
    have hr := Lib.hid (nameB_no (.inr (.inr (.inr (.inr ht)))))
    have H := Lib.hid ht
    clear ht
    go_enter Tryd.func13, Tryd.ntmps13
    go_wp2_with (fail)
    refine (text_any l w (by omega) HT.out).mono ?_
    rintro e w1 ⟨rfl, k1⟩
    rw [H.out]
    go_wp2
    go_ret
    exact ⟨ret_B hr.out.symm, k1⟩
  | true =>
    have H := Lib.hid ht
    clear ht
    go_enter Tryd.func13, Tryd.ntmps13
    go_wp2_with (fail)
    refine (text_any l w (by omega) HT.out).mono ?_
    rintro e w1 ⟨rfl, k1⟩
    rw [H.out]
    have K1 := Lib.hid k1
    have Z1 := k1.size
    clear k1
    go_wp2_with (fail)
    go_loopw [4] (fun _ wr => ∃ p : Nat, p ≤ l.length ∧ wr.heap[w1.heap.size]? = some (.stringIter ⟨l.toArray⟩ p) ∧ Kept [] w wr ∧ WX.textB (l.drop p) = true ∧ (WX.units (l.drop p)).all WX.nameU = (WX.units l).all WX.nameU) (fun _ wr => l.length - wr.iterPos w1.heap.size)
    case atStart =>
      refine ⟨0, by omega, iter_at _ _ _ rfl, K1.out.alloc _, H.out, rfl⟩
    case round =>
      obtain ⟨p, hp, hit, hk, ht, hu⟩ := hrel
      have HK := Lib.hid (And.intro hk (And.intro ht hu))
      have Zs : w1.heap.size < wr.heap.size := (Array.getElem?_eq_some_iff.1 hit).1
      clear hk ht hu
      by_cases hlt : p < l.length
      · have hne := drop_ne hlt
        have hps : p < (⟨l.toArray⟩ : ByteArray).size := by simpa [ByteArray.size] using hlt
        have hnx : ∀ ty, (Instr.next (.pointer (some ⟨w1.heap.size, 0, none⟩)) true ty).run Tryd.prog wr = _ := fun ty => Lib.run_next_any_at wr w1.heap.size ⟨l.toArray⟩ p ty hit hps
        rw [show Utf8.decode ⟨l.toArray⟩ p = WX.dec (l.drop p) from WX.decode_dec _ _] at hnx
        have hit2 := Lib.iterAt_heap wr w1.heap.size ⟨l.toArray⟩ p (p + (WX.dec (l.drop p)).2) hit
        have hok : WX.isOk (l.drop p) = true := by have := HK.out.2.1; rw [WX.textB_cons _ hne, Bool.and_eq_true] at this; exact this.1
        have hw := WX.dec_width _ hne
        rw [List.length_drop] at hw
        have hall := WX.units_all _ hne WX.nameU
        rw [List.drop_drop] at hall
        have htx := HK.out.2.1
        rw [WX.textB_cons _ hne, hok, Bool.true_and, List.drop_drop] at htx
        have hun : WX.nameU (WX.unit1 (l.drop p)) = (WX.plainN (WX.dec (l.drop p)).1 && (WX.dec (l.drop p)).1 != 47) := by unfold WX.unit1 WX.nameU; rw [hok]; rfl
        generalize hd : WX.dec (l.drop p) = d at *
        obtain ⟨r, m⟩ := d
        simp only at hw hnx hit2 hall htx hun
        have HA := Lib.hid (And.intro hit (And.intro hit2 (And.intro hok (And.intro hall (And.intro htx hun)))))
        have HW := Lib.hid hw
        have HD := Lib.hid hd
        clear hit hit2 hok hall htx hun hw hd hne
        cases hpl : WX.plainN r with
        | false =>
          have HP := Lib.hid hpl
          clear hpl
          go_wp2_with (fail)
          refine (plain_any r _).mono ?_
          rintro e w2 ⟨rfl, rfl⟩
          rw [HP.out]
          go_wp2
          go_ret
          refine ⟨ret_B ?_, HK.out.1.iterAt (by omega) _ _⟩
          rw [hgo.out, ← HK.out.2.2, HA.out.2.2.2.1, HA.out.2.2.2.2.2, HP.out]; rfl
        | true =>
          have HP := Lib.hid hpl
          clear hpl
          cases h47 : ((r : Int) == 47) with
          | true =>
            go_wp2_with (fail)
            refine (plain_any r _).mono ?_
            rintro e w2 ⟨rfl, rfl⟩
            rw [HP.out]
            go_wp2
            go_ret
            refine ⟨ret_B ?_, HK.out.1.iterAt (by omega) _ _⟩
            have : r = 47 := by simp at h47; omega
            rw [hgo.out, ← HK.out.2.2, HA.out.2.2.2.1, HA.out.2.2.2.2.2, HP.out, this]; rfl
          | false =>
            go_wp2_with (fail)
            refine (plain_any r _).mono ?_
            rintro e w2 ⟨rfl, rfl⟩
            rw [HP.out]
            go_wp2
            go_roundw
            case rel =>
              have hr47 : r ≠ 47 := by simp at h47; omega
              refine ⟨p + m, by have := HW.out; omega, HA.out.2.1, HK.out.1.iterAt (by omega) _ _, HA.out.2.2.2.2.1, ?_⟩
              rw [← HK.out.2.2, HA.out.2.2.2.1, HA.out.2.2.2.2.2, HP.out]
              simp [hr47]
            case measure =>
              have := HW.out
              simp only [World.iterPos, HA.out.2.1, HA.out.1]
              omega
      · have hps : ¬ p < (⟨l.toArray⟩ : ByteArray).size := by simpa [ByteArray.size] using hlt
        have hnx : ∀ ty, (Instr.next (.pointer (some ⟨w1.heap.size, 0, none⟩)) true ty).run Tryd.prog wr = _ := fun ty => Lib.run_next_end_at wr w1.heap.size ⟨l.toArray⟩ p ty hit hps
        obtain rfl : p = l.length := by omega
        clear hit
        go_wp2
        go_ret
        refine ⟨ret_B ?_, HK.out.1⟩
        rw [hgo.out, ← HK.out.2.2, List.drop_length]; rfl
/-! ### words.Escape -/
theorem runeLen_eq (r : Nat) (h : r < 55296 ∨ (57343 < r ∧ r ≤ 1114111)) : Lib.runeLen (r : Int) = WX.runeLen r := by
  unfold Lib.runeLen WX.runeLen
  (repeat' split) <;> omega
theorem dec_valid (l : List UInt8) (h : l ≠ []) : (WX.dec l).1 < 55296 ∨ (57343 < (WX.dec l).1 ∧ (WX.dec l).1 ≤ 1114111) := by
  rcases WX.dec_cases l h with ⟨a, t, rfl, h1, e⟩ | ⟨a, b, t, rfl, h1, h2, h3, e⟩ | ⟨a, b, c, t, rfl, h1, h2, h3, h4, h5, e⟩ | ⟨a, b, c, d, t, rfl, h1, h2, h3, h4, h5, h6, e⟩ | ⟨e, _⟩
  · rw [e]; simp only; omega
  · rw [e]; simp only; omega
  · rw [e]; have := a.toNat_lt; simp only; omega
  · rw [e]; simp only; omega
  · rw [e]; simp
/-- What stands at a place, as the walk wants it. -/
structure Head1 (l : List UInt8) (p r m : Nat) (ok : Bool) : Prop where
  isok : WX.isOk (l.drop p) = ok
  dec : WX.dec (l.drop p) = (r, m)
  wid : 1 ≤ m ∧ m ≤ 4 ∧ p + m ≤ l.length
  rle : r ≤ 1114111
  len : Lib.runeLen (r : Int) = if ok = true then (m : Int) else 3
  esc : WX.escL (l.drop p) = WX.escU (if ok = true then some r else none, (l.drop p).take m) ++ WX.escL (l.drop (p + m))
  enc : ok = true → Lib.encodeRune (r : Int) = (l.drop p).take m
  bad : ok = false → r = 65533 ∧ m = 1
  fff : r = 65533 → (ok = true ↔ (l.drop p).take 3 = [239, 191, 189])
theorem enc_fffd : Utf8.encode 65533 = ⟨[239, 191, 189].toArray⟩ := by decide +kernel
theorem head1 (l : List UInt8) (p : Nat) (h : p < l.length) : Head1 l p (WX.dec (l.drop p)).1 (WX.dec (l.drop p)).2 (WX.isOk (l.drop p)) := by
  have hne := drop_ne h
  have hw := WX.dec_width _ hne
  rw [List.length_drop] at hw
  have hbad : WX.isOk (l.drop p) = false → (WX.dec (l.drop p)).1 = 65533 ∧ (WX.dec (l.drop p)).2 = 1 := by
    intro ho
    unfold WX.isOk at ho
    simpa using ho
  refine ⟨rfl, rfl, by omega, WX.dec_rune_le _, ?_, ?_, fun ho => WX.enc_dec _ hne ho, hbad, fun he => WX.dec_fffd _ hne he⟩
  · rw [runeLen_eq _ (dec_valid _ hne)]
    cases ho : WX.isOk (l.drop p) with
    | true => rw [WX.len_dec _ hne ho, if_pos rfl]
    | false => rw [(hbad ho).1]; rfl
  · rw [WX.escL_cons _ hne, List.drop_drop]
    rfl
theorem hexs_len (s : List UInt8) : (s.flatMap WX.hex2).length = 4 * s.length := by
  induction s with
  | nil => rfl
  | cons c s ih => rw [List.flatMap_cons, List.length_append, ih]; simp [WX.hex2]; omega
theorem runelen_any (r k : Int) (w : World) (h : Lib.runeLen r = k) : Calls Tryd.prog 36 #[.int .i32 r] w fun e w' => e = .returned (I k) ∧ w = w' :=
  (Tryd.utf8_RuneLen r w).mono fun e w' ⟨h1, h2⟩ => ⟨by rw [h1, h], h2.symm⟩
set_option maxHeartbeats 4000000 in
set_option maxRecDepth 100000 in
theorem escape_any (l : List UInt8) (w : World) (hl : l.length ≤ 35184372088832) :
    Calls Tryd.prog 22 #[S l] w fun e w' => e = .returned (S (WX.escL l)) ∧ Kept [] w w' := by
  have hl' : (l.length : Int) ≤ 35184372088832 := by omega
  go_enter Tryd.func22, Tryd.ntmps22
  go_wp2_with (fail)
  go_loopw [4, 5, 6] (fun _ _ _ wr => ∃ (p : Nat) (acc : List UInt8), p ≤ l.length ∧ wr.heap[w.heap.size + 1]? = some (.stringIter ⟨l.toArray⟩ p) ∧ Bld w.heap.size w.heap.size acc wr ∧ Below w.heap.size w wr ∧ acc ++ WX.escL (l.drop p) = WX.escL l ∧ acc.length ≤ 4 * p) (fun _ _ _ wr => l.length - wr.iterPos (w.heap.size + 1))
  case atStart =>
    refine ⟨0, [], by omega, iter_at _ _ _ (by simp), (Lib.IsBuilderF.of (Lib.fresh_isBuilder _ _ w)).alloc _, ((Below.refl _ w).alloc (Nat.le_refl _) _).alloc (by simp) _, rfl, by simp⟩
  case round =>
    obtain ⟨p, acc, hp, hit, hb, hk, he, ha⟩ := hrel
    have Zs : w.heap.size + 1 < wr.heap.size := (Array.getElem?_eq_some_iff.1 hit).1
    have HK := Lib.hid (And.intro hb (And.intro hk he))
    clear hb hk he
    by_cases hlt : p < l.length
    · have hlt' : (p : Int) < l.length := by omega
      have hps : p < (⟨l.toArray⟩ : ByteArray).size := by simpa [ByteArray.size] using hlt
      have hnx : ∀ ty, (Instr.next (.pointer (some ⟨w.heap.size + 1, 0, none⟩)) true ty).run Tryd.prog wr = _ := fun ty => Lib.run_next_any_at wr (w.heap.size + 1) ⟨l.toArray⟩ p ty hit hps
      rw [show Utf8.decode ⟨l.toArray⟩ p = WX.dec (l.drop p) from WX.decode_dec _ _] at hnx
      have hit2 := Lib.iterAt_heap wr (w.heap.size + 1) ⟨l.toArray⟩ p (p + (WX.dec (l.drop p)).2) hit
      have hh := head1 l p hlt
      have hb2 : Bld w.heap.size w.heap.size acc (wr.iterAt (w.heap.size + 1) ⟨l.toArray⟩ (p + (WX.dec (l.drop p)).2)) := Lib.IsBuilderF.iterAt HK.out.1 hit _
      have hk2 : Below w.heap.size w (wr.iterAt (w.heap.size + 1) ⟨l.toArray⟩ (p + (WX.dec (l.drop p)).2)) := Lib.below_iterAt HK.out.2.1 (by omega) _ _
      have hz2 : w.heap.size ≤ (wr.iterAt (w.heap.size + 1) ⟨l.toArray⟩ (p + (WX.dec (l.drop p)).2)).heap.size := by rw [Lib.iterAt_size]; omega
      generalize (WX.dec (l.drop p)).2 = m at *
      generalize (WX.dec (l.drop p)).1 = r at *
      generalize WX.isOk (l.drop p) = ok at *
      generalize hw2 : wr.iterAt (w.heap.size + 1) ⟨l.toArray⟩ (p + m) = w2 at *
      have HW2 := Lib.hid hw2
      have H2 := Lib.hid (And.intro hit2 (And.intro hb2 (And.intro hk2 hit)))
      have hwid := hh.wid
      have hm' : (p : Int) + m ≤ l.length := by omega
      have hm0 : (1 : Int) ≤ m := by omega
      have hm4 : (m : Int) ≤ 4 := by omega
      have HH := Lib.hid hh
      have hrl := hh.len
      have HW := Lib.hid hwid
      clear hit hit2 hb2 hk2 hw2 hh hwid
      cases ok with
      | true =>
        rw [if_pos rfl] at hrl
        by_cases hf : r = 65533
        · subst hf
          have HRL : Hid (Lib.runeLen 65533 = (m : Int)) := hrl
          have hm3 : m = 3 := by have : Lib.runeLen ((65533 : Nat) : Int) = 3 := by decide
                                 rw [this] at hrl; omega
          subst hm3
          have hef := enc_fffd
          have h3 := (HH.out.fff rfl).1 rfl
          have h3' : (List.drop p (List.take (p + 3) l) == [239, 191, 189]) = true := by rw [← h3, List.take_drop]; simp
          have q1 : ¬ ((l.length : Int) - p < 3) := by omega
          clear hrl h3
          go_wp2_with (fail)
          refine (runelen_any _ _ _ HRL.out).mono ?_
          rintro e w3 ⟨rfl, rfl⟩
          have HE : Hid (WX.escL (l.drop p) = Lib.encodeRune ((65533 : Nat) : Int) ++ WX.escL (l.drop (p + 3))) := by
            unfold Hid; rw [HH.out.esc, HH.out.enc rfl]; rfl
          have HL : Hid ((Lib.encodeRune ((65533 : Nat) : Int)).length ≤ 4 * 3) := by unfold Hid; decide
          have HP : Hid (WX.plainN 65533 = true) := by unfold Hid; decide
          go_wp2_with (fail)
          refine (plain_any 65533 _).mono ?_
          rintro e w3 ⟨rfl, rfl⟩
          rw [HP.out]
          go_wp2_with (fail)
          refine (wrune w.heap.size w.heap.size acc 65533 w2 H2.out.2.1 (by decide) (by omega) hz2).mono ?_
          rintro e w3 ⟨⟨_, rfl⟩, b1, k1⟩
          go_wp2
          go_roundw
          case rel => exact ⟨p + 3, _, by have := HW.out; omega, k1.oth.iter H2.out.1 (by omega), b1, H2.out.2.2.1.trans k1.bel, by rw [List.append_assoc, ← HE.out]; exact HK.out.2.2, by have := HL.out; have := HW.out; rw [List.length_append]; omega⟩
          case measure => have := HW.out; simp only [World.iterPos, k1.oth.iter H2.out.1 (by omega), H2.out.2.2.2]; omega
        · have hb : ((r : Int) == 65533) = false := by simp; omega
          have HRL := Lib.hid hrl
          clear hrl
          by_cases h92 : r = 92
          · have hb92 : ((r : Int) == 92) = true := by simp; omega
            have HE : Hid (WX.escL (l.drop p) = [92, 92] ++ WX.escL (l.drop (p + m))) := by
              unfold Hid; rw [HH.out.esc, h92]; rfl
            have HL : Hid (([92, 92] : List UInt8).length ≤ 4 * m) := by unfold Hid; have := HW.out; simp; omega
            clear h92 hf
            go_wp2_with (fail)
            refine (runelen_any _ _ _ HRL.out).mono ?_
            rintro e w3 ⟨rfl, rfl⟩
            go_wp2_with (fail)
            refine (wstr w.heap.size w.heap.size acc [92, 92] w2 H2.out.2.1 (by simp; omega) hz2).mono ?_
            rintro e w3 ⟨rfl, b1, k1⟩
            go_wp2
            go_roundw
            case rel => exact ⟨p + m, _, by have := HW.out; omega, k1.oth.iter H2.out.1 (by omega), b1, H2.out.2.2.1.trans k1.bel, by rw [List.append_assoc, ← HE.out]; exact HK.out.2.2, by have := HL.out; have := HW.out; rw [List.length_append]; omega⟩
            case measure => have := HW.out; simp only [World.iterPos, k1.oth.iter H2.out.1 (by omega), H2.out.2.2.2]; omega
          have hb92 : ((r : Int) == 92) = false := by simp; omega
          by_cases h10 : r = 10
          · have hb10 : ((r : Int) == 10) = true := by simp; omega
            have HE : Hid (WX.escL (l.drop p) = [92, 110] ++ WX.escL (l.drop (p + m))) := by
              unfold Hid; rw [HH.out.esc, h10]; rfl
            have HL : Hid (([92, 110] : List UInt8).length ≤ 4 * m) := by unfold Hid; have := HW.out; simp; omega
            clear h92 hf h10
            go_wp2_with (fail)
            refine (runelen_any _ _ _ HRL.out).mono ?_
            rintro e w3 ⟨rfl, rfl⟩
            go_wp2_with (fail)
            refine (wstr w.heap.size w.heap.size acc [92, 110] w2 H2.out.2.1 (by simp; omega) hz2).mono ?_
            rintro e w3 ⟨rfl, b1, k1⟩
            go_wp2
            go_roundw
            case rel => exact ⟨p + m, _, by have := HW.out; omega, k1.oth.iter H2.out.1 (by omega), b1, H2.out.2.2.1.trans k1.bel, by rw [List.append_assoc, ← HE.out]; exact HK.out.2.2, by have := HL.out; have := HW.out; rw [List.length_append]; omega⟩
            case measure => have := HW.out; simp only [World.iterPos, k1.oth.iter H2.out.1 (by omega), H2.out.2.2.2]; omega
          have hb10 : ((r : Int) == 10) = false := by simp; omega
          cases hpl : WX.plainN r with
          | true =>
            have HE : Hid (WX.escL (l.drop p) = Lib.encodeRune (r : Int) ++ WX.escL (l.drop (p + m))) := by
              unfold Hid; rw [HH.out.esc, HH.out.enc rfl]; simp only [WX.escU, if_true]; rw [if_neg h92, if_neg h10, if_pos hpl]
            have HL : Hid ((Lib.encodeRune (r : Int)).length ≤ 4 * m) := by unfold Hid; rw [HH.out.enc rfl, List.length_take]; omega
            have HP := Lib.hid hpl
            have hrle : r ≤ 1114111 := HH.out.rle
            clear h92 hf h10 hpl
            go_wp2_with (fail)
            refine (runelen_any _ _ _ HRL.out).mono ?_
            rintro e w3 ⟨rfl, rfl⟩
            go_wp2_with (fail)
            refine (plain_any r _).mono ?_
            rintro e w3 ⟨rfl, rfl⟩
            rw [HP.out]
            go_wp2_with (fail)
            refine (wrune w.heap.size w.heap.size acc r w2 H2.out.2.1 hrle (by omega) hz2).mono ?_
            rintro e w3 ⟨⟨_, rfl⟩, b1, k1⟩
            go_wp2
            go_roundw
            case rel => exact ⟨p + m, _, by have := HW.out; omega, k1.oth.iter H2.out.1 (by omega), b1, H2.out.2.2.1.trans k1.bel, by rw [List.append_assoc, ← HE.out]; exact HK.out.2.2, by have := HL.out; have := HW.out; rw [List.length_append]; omega⟩
            case measure => have := HW.out; simp only [World.iterPos, k1.oth.iter H2.out.1 (by omega), H2.out.2.2.2]; omega
          | false =>
            have HE : Hid (WX.escL (l.drop p) = (List.drop p (List.take (p + m) l)).flatMap WX.hex2 ++ WX.escL (l.drop (p + m))) := by
              unfold Hid; rw [HH.out.esc]; simp only [WX.escU, if_true]; rw [if_neg h92, if_neg h10, if_neg (by rw [hpl]; decide), List.take_drop]
            have HL : Hid (((List.drop p (List.take (p + m) l)).flatMap WX.hex2).length ≤ 4 * m) := by
              unfold Hid; rw [hexs_len, List.length_drop, List.length_take]; omega
            have HP := Lib.hid hpl
            have hln : (List.drop p (List.take (p + m) l)).length ≤ m := by rw [List.length_drop, List.length_take]; omega
            clear h92 hf h10 hpl
            go_wp2_with (fail)
            refine (runelen_any _ _ _ HRL.out).mono ?_
            rintro e w3 ⟨rfl, rfl⟩
            go_wp2_with (fail)
            refine (plain_any r _).mono ?_
            rintro e w3 ⟨rfl, rfl⟩
            rw [HP.out]
            go_wp2_with (fail)
            refine (hexed_any w.heap.size w.heap.size acc _ w2 H2.out.2.1 (by omega) hz2).mono ?_
            rintro e w3 ⟨rfl, b1, k1⟩
            go_wp2
            go_roundw
            case rel => exact ⟨p + m, _, by have := HW.out; omega, k1.oth.iter H2.out.1 (by omega), b1, H2.out.2.2.1.trans k1.bel, by rw [List.append_assoc, ← HE.out]; exact HK.out.2.2, by have := HL.out; have := HW.out; rw [List.length_append]; omega⟩
            case measure => have := HW.out; simp only [World.iterPos, k1.oth.iter H2.out.1 (by omega), H2.out.2.2.2]; omega
      | false =>
        obtain ⟨hf, hm1⟩ := HH.out.bad rfl
        subst hf
        subst hm1
        have HRL : Hid (Lib.runeLen 65533 = 3) := by unfold Hid; decide
        have hef := enc_fffd
        have HE : Hid (WX.escL (l.drop p) = (List.drop p (List.take (p + 1) l)).flatMap WX.hex2 ++ WX.escL (l.drop (p + 1))) := by
          unfold Hid; rw [HH.out.esc, List.take_drop]; rfl
        have HL : Hid (((List.drop p (List.take (p + 1) l)).flatMap WX.hex2).length ≤ 4 * 1) := by
          unfold Hid; rw [hexs_len, List.length_drop, List.length_take]; omega
        have hln : (List.drop p (List.take (p + 1) l)).length ≤ 1 := by rw [List.length_drop, List.length_take]; omega
        have HP : Hid (WX.plainN 0 = false) := by unfold Hid; decide
        clear hrl
        have hm' : (p : Int) + 1 ≤ l.length := by omega
        have hne3 : ¬ l.length - p < 3 → (List.drop p (List.take (p + 3) l) == [239, 191, 189]) = false := by
          intro _
          rw [beq_eq_false_iff_ne, ← List.take_drop]
          intro h
          have := (HH.out.fff rfl).2 h
          cases this
        have HNE := Lib.hid hne3
        clear hne3
        by_cases h3 : (l.length : Int) - p < 3
        · go_wp2_with (fail)
          refine (runelen_any _ _ _ HRL.out).mono ?_
          rintro e w3 ⟨rfl, rfl⟩
          go_wp2_with (fail)
          refine (plain_any 0 _).mono ?_
          rintro e w3 ⟨rfl, rfl⟩
          rw [HP.out]
          go_wp2_with (fail)
          refine (hexed_any w.heap.size w.heap.size acc _ w2 H2.out.2.1 (by omega) hz2).mono ?_
          rintro e w3 ⟨rfl, b1, k1⟩
          go_wp2
          go_roundw
          case rel => exact ⟨p + 1, _, by have := HW.out; omega, k1.oth.iter H2.out.1 (by omega), b1, H2.out.2.2.1.trans k1.bel, by rw [List.append_assoc, ← HE.out]; exact HK.out.2.2, by have := HL.out; have := HW.out; rw [List.length_append]; omega⟩
          case measure => have := HW.out; simp only [World.iterPos, k1.oth.iter H2.out.1 (by omega), H2.out.2.2.2]; omega
        · have hn3 := HNE.out (by omega)
          have q3 : (p : Int) + 3 ≤ l.length := by omega
          go_wp2_with (fail)
          refine (runelen_any _ _ _ HRL.out).mono ?_
          rintro e w3 ⟨rfl, rfl⟩
          go_wp2_with (fail)
          refine (plain_any 0 _).mono ?_
          rintro e w3 ⟨rfl, rfl⟩
          rw [HP.out]
          go_wp2_with (fail)
          refine (hexed_any w.heap.size w.heap.size acc _ w2 H2.out.2.1 (by omega) hz2).mono ?_
          rintro e w3 ⟨rfl, b1, k1⟩
          go_wp2
          go_roundw
          case rel => exact ⟨p + 1, _, by have := HW.out; omega, k1.oth.iter H2.out.1 (by omega), b1, H2.out.2.2.1.trans k1.bel, by rw [List.append_assoc, ← HE.out]; exact HK.out.2.2, by have := HL.out; have := HW.out; rw [List.length_append]; omega⟩
          case measure => have := HW.out; simp only [World.iterPos, k1.oth.iter H2.out.1 (by omega), H2.out.2.2.2]; omega
    · have hps : ¬ p < (⟨l.toArray⟩ : ByteArray).size := by simpa [ByteArray.size] using hlt
      have hnx : ∀ ty, (Instr.next (.pointer (some ⟨w.heap.size + 1, 0, none⟩)) true ty).run Tryd.prog wr = _ := fun ty => Lib.run_next_end_at wr (w.heap.size + 1) ⟨l.toArray⟩ p ty hit hps
      obtain rfl : p = l.length := by omega
      have HE : Hid (acc = WX.escL l) := by
        unfold Hid; rw [← HK.out.2.2, List.drop_length]; simp [WX.escL_nil]
      clear hit
      go_wp2_with (fail)
      refine (bstr w.heap.size w.heap.size acc wr HK.out.1 (by omega)).mono ?_
      rintro e w3 ⟨rfl, b1, k1⟩
      go_wp2
      go_ret
      exact ⟨ret_S HE.out, Kept.of_below0 (HK.out.2.1.trans k1.bel)⟩
end Go.Proofs.YthooohempokchaaDoor
