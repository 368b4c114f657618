/- Walks and lemmas on the program of this seat, used by its statements; each theorem bears its own conditions. -/
import Derived.Test.YtgdioalhlmnhhaaDoorHJ
import Derived.Handy
import Derived.Recover
namespace Go.Proofs.YtgdioalhlmnhhaaDoor
open Go.RowKit
set_option linter.unusedVariables false
set_option linter.unusedSimpArgs false
set_option maxHeartbeats 8000000
set_option maxRecDepth 100000
/-! ### Parse: its two ends -/
abbrev IT : TypeId := 3
abbrev ET : TypeId := 22
theorem parse_res (W : World) (tmps : Array Value) (b : Nat) (x y z n e : Value) (hb : Blk W b #[x, y, z] HdT) (h1 : Blk W (b + 1) #[n] IT) (h2 : Blk W (b + 1 + 1) #[e] ET) (t2 : tmps.getD 2 undef = Ptr b) (t3 : tmps.getD 3 undef = Ptr (b + 1)) (t4 : tmps.getD 4 undef = Ptr (b + 1 + 1)) :
    (results Tryd.f41 tmps).run Tryd.prog W = .ok (.tuple #[.agg #[x, y, z], n, e]) W := by
  obtain ⟨c0, c1, c2⟩ := cells3 hb
  have d1 : W.cell? ⟨b + 1, 0, none⟩ = some n := cell_at h1 0
  have d2 : W.cell? ⟨b + 1 + 1, 0, none⟩ = some e := cell_at h2 0
  rw [Array.getD_eq_getD_getElem?] at t2 t3 t4
  simp [results, Tryd.results41, go_sem, t2, t3, t4, c0, c1, c2, d1, d2]
abbrev dfr (b : Nat) : List Deferred := [{ target := Target.fn (Fn.func 76) #[], args := #[Ptr b, Ptr (b + 1), Ptr (b + 1 + 1)] }]
theorem parse_done {w wr : World} {tmps : Array Value} {r : HR} {h : Hd} {n : Nat} {v1 v2 : Value} (hp : PA (w.heap.size + 1 + 1 + 1) wr w.heap.size #[I h.st, v1, v2] v1 h.ns v2 h.vs) (h1 : Blk wr (w.heap.size + 1) #[I n] IT) (h2 : Blk wr (w.heap.size + 1 + 1) #[I 0] ET)
    (hk : Kept [] w wr) (hr : r = .done h n) (t2 : tmps.getD 2 undef = Ptr w.heap.size) (t3 : tmps.getD 3 undef = Ptr (w.heap.size + 1)) (t4 : tmps.getD 4 undef = Ptr (w.heap.size + 1 + 1)) :
    bodyPostD Tryd.prog Tryd.f41 (ParsePost w r) .ret { tmps := tmps, defers := dfr w.heap.size } wr := by
  refine leaves_cons (f := 76) (args := #[Ptr w.heap.size, Ptr (w.heap.size + 1), Ptr (w.heap.size + 1 + 1)]) (by simp) (by simp [go_sem]) ?_
  refine (caught_idle _ _ _ _).mono ?_
  rintro e u' w'' ⟨rfl, rfl, k⟩
  have hq := hp.kept k
  have hres := parse_res w'' tmps w.heap.size _ _ _ _ _ hq.blk (h1.kept k (by simp)) (h2.kept k (by simp)) t2 t3 t4
  refine ⟨_, hres, ?_⟩
  exact ⟨v1, v2, by rw [hr]; rfl, by rw [hr]; exact hq.o1.mono (by omega), by rw [hr]; exact hq.o2.mono (by omega), hk.trans' k⟩
theorem parse_fail {w wr : World} {tmps : Array Value} {r : HR} {st n0 : Int} {e0 : Int} {e : Nat} {v1 v2 : Value} (h0 : Blk wr w.heap.size #[I st, v1, v2] HdT) (h1 : Blk wr (w.heap.size + 1) #[I n0] IT) (h2 : Blk wr (w.heap.size + 1 + 1) #[I e0] ET)
    (hk : Kept [] w wr) (hr : r = .fail e) (t2 : tmps.getD 2 undef = Ptr w.heap.size) (t3 : tmps.getD 3 undef = Ptr (w.heap.size + 1)) (t4 : tmps.getD 4 undef = Ptr (w.heap.size + 1 + 1)) :
    bodyPostD Tryd.prog Tryd.f41 (ParsePost w r) (.panic [{ v := Stop e, recovered := false }]) { tmps := tmps, defers := dfr w.heap.size } wr := by
  refine leaves_cons (f := 76) (args := #[Ptr w.heap.size, Ptr (w.heap.size + 1), Ptr (w.heap.size + 1 + 1)]) (by simp) (by simp [go_sem]) ?_
  refine (caught_stop w.heap.size st n0 e0 v1 v2 e wr h0 h1 h2).mono ?_
  rintro x u' w'' ⟨rfl, rfl, g0, g1, g2, k⟩
  have hres := parse_res w'' tmps w.heap.size _ _ _ _ _ g0 g1 g2 t2 t3 t4
  have hkw : Kept [] w w'' := hk.new k (fun x hx => by simp at hx; omega)
  have hpp : ParsePost w r (.returned (.tuple #[.agg #[I 0, nilV, nilV], I 0, I e])) w'' := by
    refine ⟨nilV, nilV, by rw [hr]; rfl, by rw [hr]; exact OwnT.nil _ _, by rw [hr]; exact OwnT.nil _ _, hkw⟩
  simp [Leaves, settle]
  exact ⟨_, hres, hpp⟩
end Go.Proofs.YtgdioalhlmnhhaaDoor
