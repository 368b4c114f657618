/- Walks and lemmas on the program of this seat, used by its statements; each theorem bears its own conditions. -/
import Derived.Test.YtgdncdhalnijcaaDoorRdM
namespace Go.Proofs.YtgdncdhalnijcaaDoor
open Go.RowKit
set_option linter.unusedVariables false
set_option linter.unusedSimpArgs false
namespace BD
/-! ### The statements' own helpers -/
def HeadPost (w : World) (names values : List (List UInt8)) (e : Ending) (w' : World) : Prop := ∃ nv vv, e = .returned (.agg #[I 200, nv, vv]) ∧ StrsAt w' nv names ∧ StrsAt w' vv values ∧ Kept [] w w'
theorem strsAt_nil (w : World) : StrsAt w (.slice none 0 0) [] := ⟨none, 0, rfl, by simp, fun h => absurd rfl h⟩
theorem strsAt_one (w : World) (b : Nat) (x : List UInt8) (h : w.cell? ⟨b, 0, none⟩ = some (S x)) : StrsAt w (.slice (some ⟨b, 0, none⟩) 1 1) [x] :=
  ⟨_, 1, rfl, by simp, fun _ => ⟨b, 0, rfl, fun i hi => by
    have h0 : i = 0 := by simpa using hi
    subst h0
    exact h⟩⟩
set_option maxHeartbeats 400000 in
theorem head_none (value : List UInt8) (w : World) : Calls Tryd.prog 15 #[S [], S value] w (HeadPost w [] []) := by
  go_enter Tryd.func15, Tryd.ntmps15
  go_wp2_with (fail)
  exact bodyPost_ret (v := .agg #[I 200, .slice none 0 0, .slice none 0 0]) (by simp [results, Tryd.results15, go_sem]) rfl
    ⟨_, _, rfl, strsAt_nil _, strsAt_nil _, ((Kept.refl _ _).alloc _).alloc _⟩
set_option maxHeartbeats 400000 in
theorem head_one (c : UInt8) (name value : List UInt8) (w : World) : Calls Tryd.prog 15 #[S (c :: name), S value] w (HeadPost w [c :: name] [value]) := by
  go_enter Tryd.func15, Tryd.ntmps15
  go_wp2_with (fail)
  exact bodyPost_ret (v := .agg #[I 200, .slice (some ⟨w.heap.size + 1 + 1, 0, none⟩) 1 1, .slice (some ⟨w.heap.size + 1 + 1 + 1, 0, none⟩) 1 1]) (by simp [results, Tryd.results15, go_sem]) rfl
    ⟨_, _, rfl, strsAt_one _ _ _ (by go_simp), strsAt_one _ _ _ (by go_simp), ((((Kept.refl _ _).alloc _).alloc _).alloc _).alloc _⟩
theorem new_yes (st : Int) (nv vv : Value) (names values : List (List UInt8)) (w : World) (hn : StrsAt w nv names) (hv : StrsAt w vv values) (hT : Tabs w) (r : Rd) (h : newF st names values = (some r, 0)) :
    Calls Tryd.prog 5 #[.agg #[I st, nv, vv]] w fun e w' => ∃ b, w.heap.size ≤ b ∧ e = .returned (.tuple #[Ptr b, I 0]) ∧ RdAt w' b r ∧ Kept [] w w' :=
  (new_any st nv vv names values w hn hv hT).mono fun e w' hp => by
    unfold NewPost at hp; rw [h] at hp
    obtain ⟨⟨b, h1, h2, h3⟩, h4⟩ := hp
    exact ⟨b, h1, h2, h3, h4⟩
theorem new_no (st : Int) (nv vv : Value) (names values : List (List UInt8)) (w : World) (hn : StrsAt w nv names) (hv : StrsAt w vv values) (hT : Tabs w) (k : Int) (h : newF st names values = (none, k)) :
    Calls Tryd.prog 5 #[.agg #[I st, nv, vv]] w fun e w' => e = .returned (.tuple #[.pointer none, I k]) ∧ Kept [] w w' :=
  (new_any st nv vv names values w hn hv hT).mono fun e w' hp => by
    unfold NewPost at hp; rw [h] at hp
    exact hp
theorem write_as (b : Nat) (l : List UInt8) (r r' : Rd) (o : List UInt8) (k : Int) (w : World) (h : RdAt w b r) (hi : r.Ok) (hn : r.rest.length + l.length ≤ 1000000000) (hw : writeF r l = (r', o, k)) :
    Calls Tryd.prog 8 #[Ptr b, S l] w fun e w' => e = .returned (.tuple #[S o, I k]) ∧ RdAt w' b r' ∧ Kept [b] w w' :=
  (write_any b l r w h hi hn).mono fun e w' hp => by
    unfold GoesPost at hp; rw [hw] at hp; exact hp
theorem inv_ok {r : Rd} (h : r.Inv) (hs : 0 ≤ r.state ∧ r.state ≤ 11) : r.Ok := fun _ => ⟨h, hs⟩
def rdC : Rd := { rdNil with state := 2, size := -1 }
def rdS : Rd := { rdNil with state := 0, size := 2, left := 2 }
def rdO : Rd := { rdNil with state := 1, size := -1 }
theorem rdC_ok : rdC.Ok := inv_ok (by constructor <;> decide) (by decide)
theorem rdS_ok : rdS.Ok := inv_ok (by constructor <;> decide) (by decide)
theorem rdO_ok : rdO.Ok := inv_ok (by constructor <;> decide) (by decide)
def rdC' : Rd := { rdC with state := 11, told := 3, rest := [120] }
def rdS' : Rd := { rdS with state := 11, left := 0, told := 2, rest := [99] }
def rdO' : Rd := { rdO with told := 2 }
theorem newC : newF 200 [teName] [[67, 104, 117, 110, 107, 101, 100]] = (some rdC, 0) := by rfl
theorem newS : newF 200 [clName] [[50]] = (some rdS, 0) := by rfl
theorem newO : newF 200 [] [] = (some rdO, 0) := by rfl
theorem newX : newF 200 [clName] [[120]] = (none, 180) := by rfl
theorem writeC : writeF rdC [51, 13, 10, 97, 98, 99, 13, 10, 48, 13, 10, 13, 10, 120] = (rdC', [97, 98, 99], 0) := by rfl
theorem writeS : writeF rdS [97, 98, 99] = (rdS', [97, 98], 0) := by rfl
theorem writeO : writeF rdO [120, 121] = (rdO', [120, 121], 0) := by rfl
end BD
end Go.Proofs.YtgdncdhalnijcaaDoor
