/- Walks and lemmas on the program of this seat, used by its statements; each theorem bears its own conditions. -/
import Derived.Test.YtgdncdhalnijcaaDoorReC
import Derived.OwnWalk
import Derived.Deep.AppendLies
import Derived.SliceStrings
namespace Go.Proofs.YtgdncdhalnijcaaDoor
open Go.RowKit
set_option linter.unusedVariables false
set_option linter.unusedSimpArgs false
namespace BD
/-! ### Bytes of the call's own -/
theorem byte_info : (Tryd.prog.info? 5).map (fun i => (i.zero, i.size, i.bytes)) = some (some (.int .u8 0), 1, 1) := by kernel_rfl
def OwnB (B : Nat) (v : Value) (l : List UInt8) (w : World) : Prop := ∃ p c, v = .slice p l.length c ∧ w.ownsRow B 5 1 (.slice p l.length c) l.length (Lib.byteCells l)
theorem OwnB.of {B : Nat} {v : Value} {l : List UInt8} {w : World} {n : Nat} {xs : List Value} (h : w.ownsRow B 5 1 v n xs) (hn : n = l.length) (hx : xs = Lib.byteCells l) : OwnB B v l w := by
  subst hn; subst hx
  rcases h.2 with ⟨rfl, h0⟩ | ⟨g, cap, cur, rfl, _⟩
  · have : l = [] := List.eq_nil_of_length_eq_zero h0
    subst this; exact ⟨none, 0, rfl, h⟩
  · exact ⟨_, _, rfl, h⟩
theorem B_one (l : List UInt8) : ∀ u ∈ Lib.byteCells l, u.oneCell' = true := by
  intro u hu
  obtain ⟨x, _, rfl⟩ := List.mem_map.1 hu
  rfl
theorem strCells_len (l : List UInt8) : (⟨l.toArray⟩ : ByteArray).size = l.length := by simp [ByteArray.size]
theorem conv_own {w : World} {B : Nat} {sp : Option Addr} {acc : List UInt8} {sc : Nat} (h : w.ownsRow B 5 1 (.slice sp acc.length sc) acc.length (Lib.byteCells acc)) :
    (convert 51 9 (.slice sp acc.length sc)).run Tryd.prog w = .ok (S acc) w := by
  rcases h.2 with ⟨e, h0⟩ | ⟨g, cap, cur, e, hb, hg, hnc, _, hsz, htake⟩
  · have : acc = [] := List.eq_nil_of_length_eq_zero h0
    subst this
    injection e with e1 e2 e3
    subst e1
    exact run_convert_bytes_nil w 51 5 Tryd.underlying51 Tryd.underlying5 _ _ 9 Tryd.underlying9
  · injection e with e1 e2 e3
    subst e1
    have hr := run_convert_bytes_arg (P := Tryd.prog) w 51 5 Tryd.underlying51 Tryd.underlying5 g 0 acc.length sc (acc.map fun c => (c.toNat : Int)) (by simp) (fun i hi => by
      rw [cell_at hg, Nat.zero_add]
      have h1 : (cur.toList.take (acc.length * 1))[i]? = some (Value.int .u8 ((acc.map fun c => (c.toNat : Int)).getD i 0)) := by rw [htake]; simp [Lib.byteCells, List.getD, hi]
      rw [List.getElem?_take_of_lt (by omega)] at h1
      rw [← Array.getElem?_toList]; exact h1) 9 Tryd.underlying9
    rw [hr]
    have : strOfNums (acc.map fun c => (c.toNat : Int)) = ⟨acc.toArray⟩ := by
      unfold strOfNums; rw [List.map_map]; congr 1
      have : acc.map ((fun n : Int => UInt8.ofNat n.toNat) ∘ fun c : UInt8 => (c.toNat : Int)) = acc := by
        conv => rhs; rw [← List.map_id acc]
        apply List.map_congr_left; intro x _; simp
      rw [this]
    rw [this]
theorem OwnB.keptS {B : Nat} {v : Value} {l : List UInt8} {w w' : World} {T : List Nat} (h : OwnB B v l w) (k : Kept T w w') (hs : ∀ x ∈ T, x < B) : OwnB B v l w' := by
  obtain ⟨p, c, e, h1, h2⟩ := h
  refine ⟨p, c, e, h1, ?_⟩
  rcases h2 with h0 | ⟨g, cap, cur, e2, hb, hg, hr⟩
  · exact .inl h0
  · exact .inr ⟨g, cap, cur, e2, hb, k.at hg (fun hm => by have := hs g hm; omega), hr⟩
theorem OwnB.kept1 {B b : Nat} {v : Value} {l : List UInt8} {w w' : World} (h : OwnB B v l w) (k : Kept [b] w w') (hs : b < B) : OwnB B v l w' := h.keptS k (by simp; exact hs)
theorem OwnB.lt {B : Nat} {v : Value} {l : List UInt8} {w : World} (h : OwnB B v l w) : ∀ q, v.ownBlock = some q → B ≤ q ∧ q < w.heap.size := by
  intro q hq
  obtain ⟨p, c, rfl, h1, h2⟩ := h
  rcases h2 with ⟨e, hn⟩ | ⟨g, cap, cur, e, hb, hg, _⟩
  · rw [e] at hq; cases hq
  · rw [e] at hq; cases hq; exact ⟨hb, lt_of_block hg⟩
theorem OwnB.nil (B : Nat) (w : World) : OwnB B (.slice none 0 0) [] w := ⟨none, 0, rfl, rfl, .inl ⟨rfl, rfl⟩⟩
theorem XAt.grown {w wa : World} {b : Nat} {x : Xr} {row : Option Nat} (h : XAt w b x) (g : w.grownBy wa row) (hr : row ≠ some b) : XAt wa b x :=
  (g.block b (lt_of_block h) (fun e => hr e.symm)).trans h
theorem Kept.grownN {a w w' : World} {row : Option Nat} (h : Kept [] a w) (g : w.grownBy w' row) (hr : ∀ k, row = some k → a.heap.size ≤ k) : Kept [] a w' :=
  ⟨g.os.trans h.os, g.tape.trans h.tape, g.output.trans h.output, Nat.le_trans h.size g.size, fun k hk hn =>
    (g.block k (by have := h.size; omega) (fun e => by have := hr k e.symm; omega)).trans (h.block k hk hn)⟩
/-! ### Run's loop -/
def Fin (x : Xr) (out : List UInt8) : Prop := Ended x out ∨ (x.e = 0 ∧ x.short = false ∧ ∃ r', Seen x out r' ∧ r'.state = 11 ∧ r'.rest = [])
def mX (L b : Nat) (w : World) : Nat :=
  match w.cell? ⟨b, 2, none⟩, w.cell? ⟨b, 3, none⟩, w.cell? ⟨b, 4, none⟩ with
  | some (.slice _ n _), some (.int _ e), some (.bool sh) => 2 * (L - n) + (if e = 0 ∧ sh = false then 1 else 0)
  | _, _, _ => 0
theorem mX_at {L b : Nat} {w : World} {x : Xr} {p : Option Addr} {n c : Nat} (h : XAt w b x) (hv : x.sv = .slice p n c) : mX L b w = 2 * (L - n) + (if okX x = true then 1 else 0) := by
  obtain ⟨_, _, c2, c3, c4⟩ := h.cells
  unfold mX
  rw [c2, c3, c4, hv]
  simp [okX]
theorem mX_own {L b B : Nat} {w : World} {x : Xr} {out : List UInt8} (h : XAt w b x) (hv : OwnB B x.sv out w) : mX L b w = 2 * (L - out.length) + (if okX x = true then 1 else 0) := by
  obtain ⟨p, c, e, _⟩ := hv
  exact mX_at h e
theorem out_le {s out : List UInt8} {r : Rd} {n : Nat} (h : feeds rdC (s.take n) = (r, out, 0)) : out.length ≤ s.length := by
  have h1 := out_feeds (s.take n) rdC
  rw [h] at h1
  simp at h1
  omega
def RunPost (R0 : Rd) (s : List UInt8) (w : World) (e : Ending) (w' : World) : Prop :=
  ∃ out used d k, e = .returned (.tuple #[S out, I used, .bool d, I k]) ∧ RunIs R0 s out used d k ∧ Kept [] w w'
def LoopR (b : Nat) (s : List UInt8) (w : World) (wr : World) : Prop :=
  ∃ (x' : Xr) (out : List UInt8), XAt wr b x' ∧ x'.s = s ∧ OwnB (b + 1) x'.sv out wr ∧ Kept [] w wr ∧ (Ended x' out ∨ InNum x' out (rdT out.length) 0 0)
set_option maxHeartbeats 1000000 in
theorem next_off (b : Nat) (x : Xr) (w : World) (h : XAt w b x) (ho : okX x = false) (hl : x.s.length ≤ 1000000) :
    Calls Tryd.prog 26 #[Ptr b] w fun e w' => e = .returned (B (nextB x)) ∧ XAt w' b (nextF x) ∧ Kept [b] w w' := by
  have ⟨c0, c1, c2, c3, c4⟩ := h.cells
  have ⟨f0, f1, f2, f3, f4⟩ := h.free
  have H := Lib.hid h
  clear h
  go_enter Tryd.func26, Tryd.ntmps26
  by_cases hlt : (x.pos : Int) < x.s.length
  · go_wp2_with (fail)
    go_quiet (fail)
    go_wp2_with (fail)
    refine (okX_any b x (w.drewN nq) H.out).mono ?_
    rintro e w' ⟨rfl, rfl⟩
    rw [ho]
    go_wp2_with (fail)
    go_ret
    refine ⟨by unfold nextB; rw [if_neg (by simp [ho])]; rfl, ?_, (Kept.refl _ _).drewN _⟩
    unfold nextF; rw [if_pos hlt, if_neg (by simp [ho])]; exact H.out
  · have hlf : decide ((x.pos : Int) < x.s.length) = false := decide_eq_false hlt
    go_wp2_with (fail)
    go_quiet (fail)
    go_wp2_with (fail)
    have h2 : XAt ((w.drewN nq).setCell ⟨b, 4, none⟩ (Value.bool true)) b { x with short := true } := XAt.set4 (w := w.drewN nq) (x := x) H.out true
    have k2 : Kept [b] w ((w.drewN nq).setCell ⟨b, 4, none⟩ (Value.bool true)) := ((Kept.refl [b] w).drewN nq).setCell (.inl (by simp)) _
    refine (okX_any b _ _ h2).mono ?_
    rintro e w' ⟨rfl, rfl⟩
    rw [show okX { x with short := true } = false by simp [okX]]
    go_wp2_with (fail)
    go_ret
    refine ⟨?_, by unfold nextF; rw [if_neg (by omega)]; exact h2, k2⟩
    unfold nextB; rw [if_neg (by simp [ho])]
    rfl
theorem next_gen (b : Nat) (x : Xr) (w : World) (h : XAt w b x) (hp : okX x = true → x.pos ≤ x.s.length) (hl : x.s.length ≤ 1000000) :
    Calls Tryd.prog 26 #[Ptr b] w fun e w' => e = .returned (B (nextB x)) ∧ XAt w' b (nextF x) ∧ Kept [b] w w' := by
  cases ho : okX x with
  | true => exact next_any b x w h (hp ho) hl
  | false => exact next_off b x w h ho hl
theorem by_s (x : Xr) (c : UInt8) : (byX x c).s = x.s := by unfold byX; rw [(must_s _ _ _).1, (next_s x).1]
theorem by_v (x : Xr) (c : UInt8) : (byX x c).sv = x.sv := by unfold byX; rw [(must_s _ _ _).2, (next_s x).2]
theorem chunk_end2 {x : Xr} {out : List UInt8} {n : Int} (h : Ended x out ∨ InChunk x out n n.toNat) : okX (byX x 13) = true → (byX x 13).pos ≤ (byX x 13).s.length := by
  rcases h with h | ⟨h1, h2, h3, h4, h5, h6⟩
  · intro ho; rw [(h.by 13).not_ok] at ho; cases ho
  have e5 : ((n.toNat : Nat) : Int) = n := by omega
  rw [e5, if_pos rfl] at h6
  have h7 := seen_by (c := 13) (r' := { rdC with told := out.length, state := 6, left := n - n, many := 0 }) h1 h2 h6 (by show (5 : Int) ≠ 11; decide) (fun d hd => in5_13 _ d rfl hd) (fun d hd => ⟨_, in5_else _ d rfl hd⟩)
  rcases h7 with h7 | ⟨g1, g2, g3⟩
  · intro ho; rw [h7.not_ok] at ho; cases ho
  · intro _; exact g3.1
theorem tail_end {x : Xr} {s o4 : List UInt8} {n : Int} {L ol : Nat} (hs : x.s.length = L) (hn : 0 ≤ n) (h : (Ended x o4 ∧ ol ≤ o4.length) ∨ (InChunk x o4 n n.toNat ∧ o4.length > ol)) :
    (2 * (L - o4.length) + (if okX (byX (byX x 13) 10) = true then 1 else 0) < 2 * (L - ol) + 1) ∧ (okX x = true → x.pos ≤ x.s.length) ∧ (okX (byX x 13) = true → (byX x 13).pos ≤ (byX x 13).s.length) ∧ (Ended (byX (byX x 13) 10) o4 ∨ InNum (byX (byX x 13) 10) o4 (rdT o4.length) 0 0) := by
  have h0 : Ended x o4 ∨ InChunk x o4 n n.toNat := by rcases h with h | h; exact .inl h.1; exact .inr h.1
  have hE := chunk_end h0
  refine ⟨?_, ?_, chunk_end2 h0, hE⟩
  · rcases hE with hE | hN
    · rw [hE.not_ok]
      have : ol ≤ o4.length := by rcases h with h | h; exact h.2; exact Nat.le_of_lt h.2
      simp; omega
    · have hol := out_le hN.2.2.2.2.2.2
      rw [by_s, by_s, hs] at hol
      rcases h with h | h
      · have h1 := ((h.1.by 13).by 10).not_ok
        have h2 : okX (byX (byX x 13) 10) = true := by simp [okX, hN.1, hN.2.1]
        rw [h1] at h2; cases h2
      · have := h.2
        split <;> simp <;> omega
  · rcases h with h | h
    · intro ho; rw [h.1.not_ok] at ho; cases ho
    · intro _; exact h.1.2.2.2.2.2.1
theorem start_num (s : List UInt8) (v : Value) : InNum ⟨s, 0, v, 0, false⟩ [] (rdT ([] : List UInt8).length) 0 0 :=
  ⟨rfl, rfl, by omega, by omega, by decide, Nat.zero_le _, by show feeds rdC (s.take 0) = _; rw [List.take_zero, feeds_nil]; rfl⟩
theorem own_kept {w w' : World} {base : Nat} {e : TypeId} {size : Nat} {v : Value} {n : Nat} {xs : List Value} (h : w.ownsRow base e size v n xs) (k : Kept [] w w') : w'.ownsRow base e size v n xs := by
  refine ⟨h.1, ?_⟩
  rcases h.2 with h0 | ⟨g, cap, cur, e2, hb, hg, hr⟩
  · exact .inl h0
  · exact .inr ⟨g, cap, cur, e2, hb, k.at hg (by simp), hr⟩
theorem xAt_new (w : World) (x : Xr) : XAt (w.alloc x.obj) w.heap.size x := heap_new w x.obj
theorem by_of {x : Xr} {c c5 : UInt8} {q : Bool} {k : Int} (hk : (c.toNat : Int) = k) (h1 : nextB x = c5) (h2 : ((c5.toNat : Int) == k) = q) : mustF (nextF x) q 180 = byX x c := by
  unfold byX; rw [← h2, h1, ← hk]; rfl
end BD
end Go.Proofs.YtgdncdhalnijcaaDoor
