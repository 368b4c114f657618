/- Walks and lemmas on the program of this seat, used by its statements; each theorem bears its own conditions. -/
import Derived.Test.YtgdioalhlmnhhaaDoorTE
import Derived.Lib.IndexBytes
import Derived.Handy
import Derived.OwnWalk
import Derived.Deep.AppendLies
namespace Go.Proofs.YtgdioalhlmnhhaaDoor
open Go.RowKit
set_option linter.unusedVariables false
set_option linter.unusedSimpArgs false
/-! ### The reference's reading, case by case -/
namespace TX
theorem split512 (T : List UInt8) : T = T.take 512 ++ T.drop 512 := (List.take_append_drop 512 T).symm
theorem run_bad (T : List UInt8) (z : Nat) (out : List Fl) (h : 512 ≤ T.length) (p : P4) (hp : parseL (T.take 512) = p) (hz : 0 < z ∧ (p.e ≠ 0 ∨ p.en = false)) : runR T z out = ([], false, 200) := by
  rw [runR, dif_neg (by omega)]; simp only [hp]; rw [if_pos hz]
theorem run_err (T : List UInt8) (z : Nat) (out : List Fl) (h : 512 ≤ T.length) (p : P4) (hp : parseL (T.take 512) = p) (hz : ¬ (0 < z ∧ (p.e ≠ 0 ∨ p.en = false))) (he : p.e ≠ 0) : runR T z out = ([], false, p.e) := by
  rw [runR, dif_neg (by omega)]; simp only [hp]; rw [if_neg hz, if_pos he]
theorem run_end2 (T : List UInt8) (z : Nat) (out : List Fl) (h : 512 ≤ T.length) (p : P4) (hp : parseL (T.take 512) = p) (he : p.e = 0) (hn : p.en = true) (hz : z = 1) : runR T z out = (out, true, 0) := by
  rw [runR, dif_neg (by omega)]; simp only [hp]; rw [if_neg (by rw [he, hn]; simp), if_neg (by simpa using he), if_pos hn, if_pos (by omega)]
theorem run_end1 (T : List UInt8) (z : Nat) (out : List Fl) (h : 512 ≤ T.length) (p : P4) (hp : parseL (T.take 512) = p) (he : p.e = 0) (hn : p.en = true) (hz : z = 0) : runR T z out = runR (T.drop 512) 1 out := by
  conv => lhs; rw [runR, dif_neg (by omega)]
  simp only [hp]; rw [if_neg (by rw [he, hn]; simp), if_neg (by simpa using he), if_pos hn, if_neg (by omega), hz]
theorem run_part (T : List UInt8) (nm : List UInt8) (sz : Int) (out : List Fl) (h : 512 ≤ T.length) (hp : parseL (T.take 512) = ⟨nm, sz, false, 0⟩) (hd : ((T.drop 512).length : Int) < sz) : runR T 0 out = (out ++ [⟨nm, T.drop 512, sz⟩], false, 0) := by
  have := runR_data (T.take 512) (T.drop 512) nm sz out (by simp; omega) hp hd
  rwa [List.take_append_drop] at this
theorem run_file (T : List UInt8) (nm : List UInt8) (sz : Nat) (out : List Fl) (h : 512 ≤ T.length) (hp : parseL (T.take 512) = ⟨nm, sz, false, 0⟩) (hd : sz ≤ (T.drop 512).length) :
    runR T 0 out = (if zerosB (((T.drop 512).drop sz).take (min (fillOf sz).toNat ((T.drop 512).drop sz).length)) = false then ([], false, 200)
      else if min (fillOf sz).toNat ((T.drop 512).drop sz).length < (fillOf sz).toNat then (out ++ [⟨nm, (T.drop 512).take sz, sz⟩], false, 0)
      else runR (((T.drop 512).drop sz).drop (min (fillOf sz).toNat ((T.drop 512).drop sz).length)) 0 (out ++ [⟨nm, (T.drop 512).take sz, sz⟩])) := by
  have := runR_file (T.take 512) ((T.drop 512).take sz) ((T.drop 512).drop sz) nm sz out (by simp; omega) hp (by rw [List.length_take]; omega)
  rwa [List.take_append_drop, List.take_append_drop] at this
theorem zerosB_step (l : List UInt8) (j : Nat) (h : j < l.length) (hz : zerosB (l.take j) = true) (hb : byteAt l j = 0) : zerosB (l.take (j + 1)) = true := by
  rw [List.take_succ_eq_append_getElem h, ← byteAt_eq l j h, zerosB_app, hz, hb]; rfl
theorem zerosB_hit (l : List UInt8) (j m : Nat) (h : j < m) (hl : j < l.length) (hb : byteAt l j ≠ 0) : zerosB (l.take m) = false := by
  rw [Bool.eq_false_iff]
  intro hz
  unfold zerosB at hz
  rw [List.all_eq_true] at hz
  have hm : byteAt l j ∈ l.take m := by
    rw [byteAt_eq l j hl]
    have : (l.take m)[j]? = some l[j] := by rw [List.getElem?_take_of_lt h, List.getElem?_eq_getElem hl]
    exact List.mem_of_getElem? this
  exact hb (by simpa using hz _ hm)
end TX
/-! ### The reference's Run -/
theorem file_info : (Tryd.prog.info? 42).map (fun i => (i.zero, i.size, i.bytes)) = some (some (.agg #[.string ⟨#[]⟩, .string ⟨#[]⟩, .int .i64 0]), 3, 40) := by kernel_rfl
def fileCells (l : List TX.Fl) : List Value := l.flatMap fun f => [S f.nm, S f.dt, I f.sz]
theorem fileCells_len (l : List TX.Fl) : (fileCells l).length = l.length * 3 := by
  induction l with
  | nil => rfl
  | cons f t ih => simp only [fileCells, List.flatMap_cons, List.length_append, List.length_cons, List.length_nil] at ih ⊢; omega
theorem fileCells_app (l : List TX.Fl) (f : TX.Fl) : fileCells (l ++ [f]) = fileCells l ++ [S f.nm, S f.dt, I f.sz] := by simp [fileCells]
theorem fileCells_at (l : List TX.Fl) (i : Nat) (h : i < l.length) : (fileCells l)[i * 3]? = some (S l[i].nm) ∧ (fileCells l)[i * 3 + 1]? = some (S l[i].dt) ∧ (fileCells l)[i * 3 + 2]? = some (I l[i].sz) := by
  induction l generalizing i with
  | nil => simp at h
  | cons f t ih =>
    have e : fileCells (f :: t) = [S f.nm, S f.dt, I f.sz] ++ fileCells t := rfl
    rw [e]
    cases i with
    | zero => exact ⟨rfl, rfl, rfl⟩
    | succ i =>
      have := ih i (by simpa using h)
      have e1 : (i + 1) * 3 = 3 + i * 3 := by omega
      rw [e1, List.getElem?_append_right (by simp), List.getElem?_append_right (by simp; omega), List.getElem?_append_right (by simp; omega)]
      simp only [List.length_cons, List.length_nil, List.getElem_cons_succ]
      rw [show 3 + i * 3 - (0 + 1 + 1 + 1) = i * 3 by omega, show 3 + i * 3 + 1 - (0 + 1 + 1 + 1) = i * 3 + 1 by omega, show 3 + i * 3 + 2 - (0 + 1 + 1 + 1) = i * 3 + 2 by omega]
      exact this
def FilesAt (w : World) (v : Value) (l : List TX.Fl) : Prop :=
  ∃ (p : Option Addr) (cap : Nat), v = .slice p l.length cap ∧ (l ≠ [] → ∃ b, p = some ⟨b, 0, none⟩ ∧ ∀ (i : Nat) (h : i < l.length),
    w.cell? ⟨b, i * 3, none⟩ = some (S l[i].nm) ∧ w.cell? ⟨b, i * 3 + 1, none⟩ = some (S l[i].dt) ∧ w.cell? ⟨b, i * 3 + 2, none⟩ = some (I l[i].sz))
abbrev OwnF (w : World) (B : Nat) (v : Value) (l : List TX.Fl) : Prop := w.ownsRow B 42 3 v l.length (fileCells l)
theorem own_files {w : World} {B : Nat} {v : Value} {l : List TX.Fl} (h : OwnF w B v l) : FilesAt w v l := by
  rcases h.2 with ⟨rfl, hn⟩ | ⟨g, cap, cur, rfl, hb, hg, hnc, _, hsz, htake⟩
  · have : l = [] := List.eq_nil_of_length_eq_zero hn
    subst this
    exact ⟨none, 0, rfl, fun h => absurd rfl h⟩
  · refine ⟨_, cap, rfl, fun _ => ⟨g, rfl, fun i hi => ?_⟩⟩
    have hat := fileCells_at l i hi
    have key : ∀ j, j < l.length * 3 → w.cell? ⟨g, j, none⟩ = (fileCells l)[j]? := fun j hj => by
      rw [cell_at hg, ← htake, List.getElem?_take_of_lt hj, Array.getElem?_toList]
    exact ⟨by rw [key _ (by omega)]; exact hat.1, by rw [key _ (by omega)]; exact hat.2.1, by rw [key _ (by omega)]; exact hat.2.2⟩
theorem own_empty3 (w : World) : OwnF (w.alloc (.cells #[] 42)) w.heap.size (.slice (some ⟨w.heap.size, 0, none⟩) 0 0) [] :=
  ⟨rfl, .inr ⟨w.heap.size, 0, #[], rfl, Nat.le_refl _, heap_new w _, Nat.le_refl _, Nat.zero_le _, rfl, rfl⟩⟩
theorem OwnF.lt {w : World} {B : Nat} {v : Value} {l : List TX.Fl} (h : OwnF w B v l) : ∀ q, v.ownBlock = some q → B ≤ q ∧ q < w.heap.size := by
  intro q hq
  rcases h.2 with ⟨rfl, hn⟩ | ⟨g, cap, cur, rfl, hb, hg, _⟩
  · cases hq
  · cases hq; exact ⟨hb, lt_of_block hg⟩
theorem OwnF.kept {w w' : World} {B : Nat} {v : Value} {l : List TX.Fl} (h : OwnF w B v l) (k : Kept [] w w') : OwnF w' B v l := by
  refine ⟨h.1, ?_⟩
  rcases h.2 with h0 | ⟨g, cap, cur, e, hb, hg, hr⟩
  · exact .inl h0
  · exact .inr ⟨g, cap, cur, e, hb, k.at hg (by simp), hr⟩
theorem Kept.grown {a w w' : World} {row : Option Nat} (h : Kept [] a w) (g : w.grownBy w' row) (hr : ∀ k, row = some k → a.heap.size ≤ k) : Kept [] a w' :=
  ⟨g.os.trans h.os, g.tape.trans h.tape, g.output.trans h.output, Nat.le_trans h.size g.size, fun k hk hn =>
    (g.block k (by have := h.size; omega) (fun e => by have := hr k e.symm; omega)).trans (h.block k hk hn)⟩
abbrev VR (fv : Value) (k : Int) (d : Bool) (e : Int) : Value := .tuple #[fv, I k, .bool d, I e]
def RunPost (w : World) (r : List TX.Fl × Bool × Int) (e : Ending) (w' : World) : Prop := ∃ fv k, e = .returned (VR fv k r.2.1 r.2.2) ∧ FilesAt w' fv r.1 ∧ Kept [] w w'
theorem files_none (w : World) : FilesAt w (.slice none 0 0) [] := ⟨none, 0, rfl, fun h => absurd rfl h⟩
set_option maxHeartbeats 8000000
set_option maxRecDepth 100000
theorem run_any (s : List UInt8) (w : World) (hs : s.length ≤ 1000000) (r : List TX.Fl × Bool × Int) (hr : TX.runR s 0 [] = r) :
    Calls Tryd.prog 24 #[S s] w (RunPost w r) := by
  have hs' : (s.length : Int) ≤ 1000000 := by omega
  have HR := Lib.hid hr
  have H0 := Lib.hid (own_empty3 w)
  clear hr
  go_enter Tryd.func24, Tryd.ntmps24
  go_wp2_with (fail)
  go_loopw [6, 7, 8] (fun ov av zv wr => ∃ (out : List TX.Fl) (at_ z : Nat), av = I at_ ∧ zv = I z ∧ at_ % 512 = 0 ∧ at_ ≤ s.length ∧ z ≤ 1 ∧ out.length * 512 ≤ at_ ∧ TX.runR (s.drop at_) z out = r ∧ OwnF wr w.heap.size ov out ∧ Kept [] w wr) (fun _ a _ _ => s.length - (intOf a).toNat)
  case atStart => exact ⟨[], 0, 0, rfl, rfl, rfl, by omega, by omega, by simp, by simpa using HR.out, H0.out, (Kept.refl _ _).alloc _⟩
  case round =>
    obtain ⟨out, at_, z, rfl, rfl, hat, hal, hz, hol, hrun, hown, hkw⟩ := hrel
    have HK := Lib.hid (And.intro hown hkw)
    have HN := Lib.hid (And.intro hat (And.intro hol hrun))
    clear hat hol hrun hown hkw
    have hz' : (z : Int) ≤ 1 := by omega
    have hal' : (at_ : Int) ≤ s.length := by omega
    obtain ⟨T, hT⟩ : ∃ T, s.drop at_ = T := ⟨_, rfl⟩
    have hTl : T.length = s.length - at_ := by rw [← hT, List.length_drop]
    have HT := Lib.hid (And.intro hT hTl)
    by_cases hge : at_ + 512 ≤ s.length
    case neg =>
      have hrr : r = (out, false, 0) := by rw [← HN.out.2.2, hT]; exact TX.runR_short T z out (by omega)
      have hge' : ¬ (at_ : Int) + 512 ≤ s.length := by omega
      clear hge hT hTl
      go_wp2_with (fail)
      go_returns
      exact ⟨_, _, rfl, own_files HK.out.1, HK.out.2⟩
    have hge' : (at_ : Int) + 512 ≤ s.length := by omega
    obtain ⟨p, hp⟩ : ∃ p, TX.parseL (T.take 512) = p := ⟨_, rfl⟩
    have hpx : TX.parseL ((s.take (at_ + 512)).drop at_) = p := by rw [← hp, ← hT, List.drop_take]; congr 2; omega
    have HP := Lib.hid (And.intro hp hpx)
    have hps := TX.parse_size (T.take 512)
    rw [hp] at hps
    clear hge hT hTl hp hpx
    go_wp2_with (fail)
    refine (rparse_any ((s.take (at_ + 512)).drop at_) wr).mono ?_
    rw [HP.out.2]
    rintro e w1 ⟨rfl, k1⟩
    have H1 := Lib.hid (And.intro (HK.out.1.kept k1) (HK.out.2.trans' k1))
    clear k1
    obtain ⟨pn, ps, pe, pc⟩ := p
    obtain ⟨hps0, hps1⟩ := hps
    dsimp only at hps0 hps1
    have hTg : 512 ≤ T.length := by have := HT.out.2; omega
    have HG := Lib.hid hTg
    clear hTg
    have hend : r = ([], false, 200) ∨ True := .inr trivial
    by_cases hbad : 0 < z ∧ (pc ≠ 0 ∨ pe = false)
    · have hrr : r = ([], false, 200) := by rw [← HN.out.2.2, HT.out.1]; exact TX.run_bad T z out HG.out _ HP.out.1 hbad
      obtain ⟨hb1, hb2⟩ := hbad
      have hb1' : (0 : Int) < z := by omega
      rcases hb2 with hb2 | hb2
      · go_wp2_with (fail)
        all_goals (go_returns; exact ⟨_, _, by rw [hrr] <;> rfl, by rw [hrr]; exact files_none _, H1.out.2⟩)
      · subst hb2
        go_wp2_with (fail)
        all_goals (go_returns; exact ⟨_, _, by rw [hrr] <;> rfl, by rw [hrr]; exact files_none _, H1.out.2⟩)
    by_cases hpc : pc = 0
    case neg =>
      have hrr : r = ([], false, pc) := by rw [← HN.out.2.2, HT.out.1]; exact TX.run_err T z out HG.out _ HP.out.1 hbad hpc
      have hz0 : z = 0 := by
        rcases Nat.eq_zero_or_pos z with h | h
        · exact h
        · exact absurd ⟨h, .inl hpc⟩ hbad
      subst hz0
      clear hbad
      go_wp2_with (fail)
      all_goals (go_returns; exact ⟨_, _, by rw [hrr] <;> rfl, by rw [hrr]; exact files_none _, H1.out.2⟩)
    subst hpc
    cases pe with
    | true =>
      by_cases hz1 : z = 1
      · have hrr : r = (out, true, 0) := by rw [← HN.out.2.2, HT.out.1]; exact TX.run_end2 T z out HG.out _ HP.out.1 rfl rfl hz1
        subst hz1
        clear hbad
        go_wp2_with (fail)
        all_goals (go_returns; exact ⟨_, _, by rw [hrr] <;> rfl, by rw [hrr]; exact own_files H1.out.1, H1.out.2⟩)
      · have hz0 : z = 0 := by omega
        have hrr : TX.runR (s.drop (at_ + 512)) 1 out = r := by rw [← HN.out.2.2, HT.out.1, TX.run_end1 T z out HG.out _ HP.out.1 rfl rfl hz0, ← HT.out.1, List.drop_drop]
        subst hz0
        have HRR := Lib.hid hrr
        clear hbad hrr
        go_wp2_with (fail)
        go_roundw
        case rel => exact ⟨out, at_ + 512, 1, by go_num, by go_num, by have := HN.out.1; omega, by omega, by omega, by have := HN.out.2.1; omega, HRR.out, H1.out.1, H1.out.2⟩
        case measure => (simp [intOf]; omega)
    | false =>
      have hz0 : z = 0 := by
        rcases Nat.eq_zero_or_pos z with h | h
        · exact h
        · exact absurd ⟨h, .inr rfl⟩ hbad
      subst hz0
      clear hbad
      obtain ⟨i0, hi, hz0, hz1, hz2⟩ := info_parts file_info
      obtain ⟨n, hn⟩ : ∃ n : Nat, min ps ((s.length : Int) - ((at_ : Int) + 512)) = (n : Int) := ⟨(min ps ((s.length : Int) - ((at_ : Int) + 512))).toNat, by omega⟩
      have hn1 : (at_ : Int) + 512 + n ≤ s.length := by omega
      have hn2 : (n : Int) ≤ ps := by omega
      have hD : (s.take (at_ + 512 + n)).drop (at_ + 512) = (T.drop 512).take n := by rw [← HT.out.1, List.drop_drop, List.drop_take]; congr 1; omega
      have hT1 : (T.drop 512).length = s.length - (at_ + 512) := by rw [List.length_drop, HT.out.2]; omega
      obtain ⟨d, hd⟩ : ∃ d, (s.take (at_ + 512 + n)).drop (at_ + 512) = d := ⟨_, rfl⟩
      have HD : Hid (d = (T.drop 512).take n ∧ (T.drop 512).length = s.length - (at_ + 512)) := Lib.hid ⟨by rw [← hd]; exact hD, hT1⟩
      clear hD hT1
      have hol2 : out.length ≤ 2000 := by have := HN.out.2.1; omega
      have HOL := Lib.hid hol2
      clear hol2
      have HNW : Hid (∀ j u, [S pn, S d, I ps][j]? = some u → (w1.alloc (.cells #[S pn, S d, I ps] 42)).cell? ((⟨w1.heap.size, 0, none⟩ : Addr).add j) = some u) := Lib.hid (World.news_of_block (heap_new w1 (.cells #[S pn, S d, I ps] 42)))
      have HOW : Hid (OwnF (w1.alloc (.cells #[S pn, S d, I ps] 42)) w.heap.size u6 out) := Lib.hid (H1.out.1.kept ((Kept.refl _ _).alloc _))
      have HSZ : Hid (w.heap.size ≤ (w1.alloc (.cells #[S pn, S d, I ps] 42)).heap.size) := Lib.hid (by have := H1.out.2.size; simp; omega)
      go_wp2_with (first
        | (at_builtin
           refine wpList_append_own _ rfl (.tmp 59) (.tmp 69) _ rfl w.heap.size 42 i0 (.agg #[.string ⟨#[]⟩, .string ⟨#[]⟩, .int .i64 0]) 3 40 Tryd.underlying38 hi hz0 hz1 hz2 rfl (by decide) u6 out.length (fileCells out) rfl HOW.out ⟨w1.heap.size, 0, none⟩ 1 1 [S pn, S d, I ps] rfl rfl HNW.out (by intro u hu; simp at hu; rcases hu with rfl | rfl | rfl <;> rfl) (by have := HOL.out; unfold maxLen; omega) (by have := HOL.out; omega) HSZ.out ?_
           intro v2 wb own2 gr2 _))
      have HX : Hid (OwnF wb w.heap.size v2 (out ++ [⟨pn, (T.drop 512).take n, ps⟩]) ∧ Kept [] w wb) := Lib.hid ⟨by
          have e := own2
          rw [HD.out.1] at e
          show wb.ownsRow _ _ _ _ _ _
          rw [fileCells_app, List.length_append]; exact e, (H1.out.2.alloc _).grown gr2 (fun q hq => (HK.out.1.lt q hq).1)⟩
      clear own2 gr2 HNW HOW HSZ hi hz0 hz1 hz2 hd
      obtain ⟨T2, hT2⟩ : ∃ T2, (T.drop 512).drop n = T2 := ⟨_, rfl⟩
      have hT2l : T2.length = s.length - (at_ + 512 + n) := by rw [← hT2, List.length_drop, HD.out.2]; omega
      have hT2b : ∀ j, byteAt s (at_ + 512 + n + j) = byteAt T2 j := fun j => by rw [← hT2, ← HT.out.1, byteAt_drop, byteAt_drop, byteAt_drop]; congr 1; omega
      have HT2 := Lib.hid (And.intro hT2 (And.intro hT2l hT2b))
      clear hT2 hT2b
      obtain ⟨f, hf⟩ : ∃ f : Nat, TX.fillOf ps = (f : Int) := ⟨(TX.fillOf ps).toNat, by have := TX.fill_range ps; omega⟩
      have hfr := TX.fill_range ps
      have HF := Lib.hid hf
      go_wp2_with (fail)
      go_loop [7] (fun av => ∃ j P : Nat, P = at_ + 512 + n + j ∧ av = I P ∧ j ≤ f ∧ j ≤ T2.length ∧ (j = 0 ∨ (n : Int) = ps) ∧ TX.zerosB (T2.take j) = true) (fun a => s.length - (intOf a).toNat)
      case atStart => exact ⟨0, _, rfl, by go_num, by omega, by omega, .inl rfl, rfl⟩
      case round =>
        obtain ⟨j, P, hP, rfl, hjf, hjl, hj0, hzz⟩ := hrel
        have HZ := Lib.hid hzz
        clear hzz
        have hPl : (P : Int) ≤ s.length := by omega
        by_cases hnp : (n : Int) = ps
        case neg =>
          have hrr : r = (out ++ [⟨pn, (T.drop 512).take n, ps⟩], false, 0) := by
            have e1 : (T.drop 512).take n = T.drop 512 := by apply List.take_of_length_le; rw [HD.out.2]; omega
            rw [← HN.out.2.2, HT.out.1, e1]
            exact TX.run_part T pn ps out HG.out HP.out.1 (by rw [HD.out.2]; omega)
          have hlt2 : (n : Int) < ps := by omega
          have hbq : ((n : Int) == ps) = false := by rw [beq_eq_false_iff_ne]; exact hnp
          have HRR := Lib.hid hrr
          clear hrr hP hjf hjl hj0 hf hfr hn
          go_wp2_with (fail)
          go_returns
          exact ⟨_, _, by rw [HRR.out] <;> rfl, by rw [HRR.out]; exact own_files HX.out.1, HX.out.2⟩
        have hfile := TX.run_file T pn n out HG.out (by rw [hnp]; exact HP.out.1) (by rw [HD.out.2]; omega)
        rw [HT2.out.1, hnp, hf, Int.toNat_natCast, ← HT.out.1, HN.out.2.2, HT.out.1] at hfile
        have hatm := HN.out.1
        have hbq : ((n : Int) == ps) = true := by rw [beq_iff_eq]; exact hnp
        have hps2 : ¬ (n : Int) < ps := by omega
        have hpos : (P : Int) % 512 = 0 ↔ j = f := by
          unfold TX.fillOf at hf
          omega
        by_cases hje : j = f
        · have hm : (P : Int) % 512 = 0 := hpos.2 hje
          have hm2 : ((P : Int) % 512 != 0) = false := by rw [hm]; rfl
          have hmin : min f T2.length = f := by omega
          have hz1 : TX.zerosB (T2.take f) = true := by rw [← hje]; exact HZ.out
          have hnext : TX.runR (s.drop P) 0 (out ++ [⟨pn, (T.drop 512).take n, ps⟩]) = r := by
            rw [hfile, hmin, hz1, if_neg (by simp), if_neg (by omega), ← hje, hP, ← HT2.out.1, ← HT.out.1, List.drop_drop, List.drop_drop, List.drop_drop]
            congr 2; omega
          have hPm : P % 512 = 0 := by omega
          have hol3 : (out ++ [(⟨pn, (T.drop 512).take n, ps⟩ : TX.Fl)]).length * 512 ≤ P := by have := HN.out.2.1; rw [List.length_append, List.length_singleton]; omega
          have hPlt : at_ < P := by omega
          have HE := Lib.hid (And.intro hnext (And.intro hPm (And.intro hol3 hPlt)))
          clear hfile hatm hpos hje hmin hz1 hnext hP hjf hjl hj0 hf hfr hn hPm hol3 hPlt
          go_wp2_with (fail)
          go_roundw
          case rel => exact ⟨_, P, 0, rfl, rfl, HE.out.2.1, by omega, by omega, HE.out.2.2.1, HE.out.1, HX.out.1, HX.out.2⟩
          case measure => (have := HE.out.2.2.2; simp [intOf]; omega)
        · have hm : ¬ (P : Int) % 512 = 0 := fun e => hje (hpos.1 e)
          have hm2 : ((P : Int) % 512 != 0) = true := by rw [bne_iff_ne]; exact hm
          rcases Nat.eq_or_lt_of_le hjl with he | hlt
          · have hmin : min f T2.length = j := by omega
            have hrr : r = (out ++ [⟨pn, (T.drop 512).take n, ps⟩], false, 0) := by
              rw [hfile, hmin, HZ.out, if_neg (by simp), if_pos (by omega)]
            have hPe : ¬ (P : Int) < s.length := by omega
            have HRR := Lib.hid hrr
            clear hrr hfile hatm hpos hje hmin hP hjf hjl hj0 hf hfr hn he
            go_wp2_with (fail)
            all_goals
              go_returns
              exact ⟨_, _, by rw [HRR.out] <;> rfl, by rw [HRR.out]; exact own_files HX.out.1, HX.out.2⟩
          · have hPe : (P : Int) < s.length := by omega
            have hby : byteAt s P = byteAt T2 j := by rw [hP]; exact HT2.out.2.2 j
            by_cases hb0 : byteAt T2 j = 0
            · have hbz : ((byteAt s P).toNat : Int) = 0 := by rw [hby, hb0]; rfl
              have hzs := TX.zerosB_step T2 j hlt HZ.out hb0
              have HE := Lib.hid (And.intro hzs (And.intro hP (And.intro hnp (And.intro hlt hjf))))
              clear hzs hfile hatm hpos hby hb0 hP hj0 hf hfr hn
              go_wp2_with (fail)
              go_round
              case rel => exact ⟨j + 1, P + 1, by have := HE.out.2.1; omega, by go_num, by omega, by omega, .inr HE.out.2.2.1, HE.out.1⟩
              case measure => (simp [intOf]; omega)
            · have hbz : ¬ ((byteAt s P).toNat : Int) = 0 := fun e => hb0 (by rw [← hby]; exact UInt8.toNat.inj (by simpa using e))
              have hrr : r = ([], false, 200) := by
                rw [hfile, if_pos (TX.zerosB_hit T2 j _ (by omega) hlt hb0)]
              have HRR := Lib.hid hrr
              clear hrr hfile hatm hpos hje hby hb0 hP hjf hjl hj0 hf hfr hn
              go_wp2_with (fail)
              all_goals
                go_returns
                exact ⟨_, _, by rw [HRR.out] <;> rfl, by rw [HRR.out]; exact files_none _, HX.out.2⟩
end Go.Proofs.YtgdioalhlmnhhaaDoor
