/- Walks and lemmas on the program of this seat, used by its statements; each theorem bears its own conditions. -/
import Derived.Test.YtgdncdhalnijcaaDoorRdI
namespace Go.Proofs.YtgdncdhalnijcaaDoor
open Go.RowKit
set_option linter.unusedVariables false
set_option linter.unusedSimpArgs false
namespace BD
/-! ### strings.EqualFold at "chunked" -/
def lowerB (c : UInt8) : UInt8 := if 65 ≤ c.toNat ∧ c.toNat ≤ 90 then c + 32 else c
def chunked : List UInt8 := [99, 104, 117, 110, 107, 101, 100]
def isChunked (s : List UInt8) : Bool := s.map lowerB == chunked
def orbit : List (Int × Int) := [(75, 107), (83, 115), (107, 8490), (115, 383), (181, 924), (197, 229), (223, 7838), (229, 8491), (304, 304), (305, 305), (383, 83), (452, 453), (453, 454), (454, 452), (455, 456), (456, 457), (457, 455), (458, 459), (459, 460), (460, 458), (497, 498), (498, 499), (499, 497), (837, 921), (912, 8147), (914, 946), (917, 949), (920, 952), (921, 953), (922, 954), (924, 956), (928, 960), (929, 961), (931, 962), (934, 966), (937, 969), (944, 8163), (946, 976), (949, 1013), (952, 977), (953, 8126), (954, 1008), (956, 181), (960, 982), (961, 1009), (962, 963), (963, 931), (966, 981), (969, 8486), (976, 914), (977, 1012), (981, 934), (982, 928), (1008, 922), (1009, 929), (1012, 920), (1013, 917), (1042, 1074), (1044, 1076), (1054, 1086), (1057, 1089), (1058, 1090), (1066, 1098), (1074, 7296), (1076, 7297), (1086, 7298), (1089, 7299), (1090, 7300), (1098, 7302), (1122, 1123), (1123, 7303), (7296, 1042), (7297, 1044), (7298, 1054), (7299, 1057), (7300, 7301), (7301, 1058), (7302, 1066), (7303, 1122), (7304, 42570), (7776, 7777), (7777, 7835), (7835, 7776), (7838, 223), (8126, 837), (8147, 912), (8163, 944), (8486, 937), (8490, 75), (8491, 197), (42570, 42571), (42571, 7304), (64261, 64262), (64262, 64261)]
def foldOf (n : Nat) : Int := if n = 75 then 107 else if n = 83 then 115 else if n = 107 then 8490 else if n = 115 then 383 else if 65 ≤ n ∧ n ≤ 90 then n + 32 else if 97 ≤ n ∧ n ≤ 122 then n - 32 else n
/-- What the library's tables hold. -/
structure Tabs (w : World) : Prop where
  fold : ∀ n, n < 128 → w.cell? ⟨0, n, none⟩ = some (.int .u16 (foldOf n))
  orb : ∃ b off cap, w.cell? ⟨1, 0, none⟩ = some (.slice (some ⟨b, off, none⟩) 94 cap) ∧ ∀ i, (h : i < orbit.length) → w.cell? ⟨b, off + i * 2, none⟩ = some (.int .u16 orbit[i].1) ∧ w.cell? ⟨b, off + i * 2 + 1, none⟩ = some (.int .u16 orbit[i].2)
theorem Tabs.kept {w w' : World} (h : Tabs w) (k : Kept [] w w') : Tabs w' := by
  obtain ⟨h1, b, off, cap, h2, h3⟩ := h
  refine ⟨fun n hn => by rw [k.cell (World.block_lt_of_cell? w _ (h1 n hn)) (by simp)]; exact h1 n hn, b, off, cap, by rw [k.cell (World.block_lt_of_cell? w _ h2) (by simp)]; exact h2, fun i hi => ⟨?_, ?_⟩⟩
  · rw [k.cell (World.block_lt_of_cell? w _ (h3 i hi).1) (by simp)]; exact (h3 i hi).1
  · rw [k.cell (World.block_lt_of_cell? w _ (h3 i hi).2) (by simp)]; exact (h3 i hi).2
def FoldPost (s : List UInt8) (w : World) (e : Ending) (w' : World) : Prop := ∃ b : Bool, e = .returned (.bool b) ∧ (s.length = 7 → b = isChunked s) ∧ Kept [] w w'
end BD
end Go.Proofs.YtgdncdhalnijcaaDoor
