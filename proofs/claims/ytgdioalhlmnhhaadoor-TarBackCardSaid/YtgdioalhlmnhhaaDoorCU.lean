/- Walks and lemmas on the program of this seat, used by its statements; each theorem bears its own conditions. -/
import Derived.Test.YtgdioalhlmnhhaaDoorCT
namespace Go.Proofs.YtgdioalhlmnhhaaDoor
open Go.RowKit
set_option linter.unusedVariables false
set_option linter.unusedSimpArgs false
/-! ### A Turn among the arguments -/
section
open Go.ChangeShapes Go.WideShapes Go.Deep Go.Joins
variable {H : Type} {enc : TypeId × Value → H} {w : World} {base : Nat} {spare : Nat → Bool} {held : Bool}
theorem four4 {α : Type} {cs : Array α} (h : cs.size = 4) : ∃ a b c d, cs = #[a, b, c, d] := by
  obtain ⟨l⟩ := cs
  match l, h with
  | [a, b, c, d], _ => exact ⟨a, b, c, d, rfl⟩
theorem open_int1 {fuel : Nat} {u : Value} {x : DataW H × List MemPlace} (h : DataW.trod enc Tryd.prog w base spare held fuel 3 [u] = some x) : ∃ n, u = I n := by
  obtain ⟨n, e, _, _⟩ := DataW.trod_int Tryd.underlying3 h
  exact ⟨n, by simpa using e⟩
theorem open_str1 {fuel : Nat} {u : Value} {x : DataW H × List MemPlace} (h : DataW.trod enc Tryd.prog w base spare held fuel 9 [u] = some x) : ∃ l, u = S l := by
  obtain ⟨s, e, _, _⟩ := DataW.trod_string Tryd.underlying9 h
  have e' : u = .string s := by simpa using e
  exact ⟨s.data.toList, by rw [e']⟩
theorem open_byte1 {fuel : Nat} {u : Value} {x : DataW H × List MemPlace} (h : DataW.trod enc Tryd.prog w base spare held fuel 5 [u] = some x) : ∃ c : UInt8, u = B c := by
  obtain ⟨n, e, _, hw⟩ := DataW.trod_int Tryd.underlying5 h
  have e' : u = .int .u8 n := by simpa using e
  have h2 : 0 ≤ n ∧ n < 256 := by
    have h3 : IntKind.u8.min ≤ n ∧ n ≤ IntKind.u8.max := by simpa [Lit.wf] using hw
    have h4 : IntKind.u8.min = 0 := by decide
    have h5 : IntKind.u8.max = 255 := by decide
    omega
  refine ⟨UInt8.ofNat n.toNat, ?_⟩
  rw [e']
  show Value.int .u8 n = Value.int .u8 _
  congr 1
  rw [UInt8.toNat_ofNat']; omega
set_option maxRecDepth 100000 in
theorem open_turn {r : Reach} {b0 : Nat} {v : Value} {d : DataW H} {p : List MemPlace} (hv : Value.okWide Tryd.prog w r b0 30 v) (h : DataW.Trod enc Tryd.prog w base spare held 30 v d p) :
    ∃ (nm : List UInt8) (n a : Int) (t : UInt8), v = .agg #[S nm, I n, I a, B t] := by
  obtain ⟨cs, ys, n, rfl, hsz, -, -, hf⟩ := open_agg_any Tryd.underlying30 (by kernel_rfl) (by kernel_rfl) hv h
  obtain ⟨c0, c1, c2, c3, rfl⟩ := four4 hsz
  obtain ⟨u0, y0, e0, -, t0⟩ := hf 0 _ rfl
  obtain ⟨u1, y1, e1, -, t1⟩ := hf 1 _ rfl
  obtain ⟨u2, y2, e2, -, t2⟩ := hf 2 _ rfl
  obtain ⟨u3, y3, e3, -, t3⟩ := hf 3 _ rfl
  simp at e0 e1 e2 e3
  subst e0 e1 e2 e3
  obtain ⟨n0, rfl⟩ := open_str1 t0
  obtain ⟨n1, rfl⟩ := open_int1 t1
  obtain ⟨n2, rfl⟩ := open_int1 t2
  obtain ⟨n3, rfl⟩ := open_byte1 t3
  exact ⟨n0, n1, n2, n3, rfl⟩
end
end Go.Proofs.YtgdioalhlmnhhaaDoor
