/- The two cuts; a beast in a block. -/
import Derived.Test.YtkcpmoinpdojjaaStepP
import Derived.Test.YtkcpmoinpdojjaaBeast
import Derived.Test.YtkcpmoinpdojjaaSys
import Derived.Test.YtkcpmoinpdojjaaApp
import Derived.Test.YtkcpmoinpdojjaaStEq
namespace Go.Proofs.Ytkcpmoinpdojjaa
open Go Go.RowKit

theorem cutI_hi {z : Int} (h : 1000000000 < z) : cutI z = 1000000000 := by simp [cutI, h]
theorem cutI_lo {z : Int} (h : z < -1000000000) : cutI z = -1000000000 := by unfold cutI; rw [if_neg (by omega), if_pos h]
theorem cutI_mid {z : Int} (h1 : -1000000000 ≤ z) (h2 : z ≤ 1000000000) : cutI z = z := by unfold cutI; rw [if_neg (by omega), if_neg (by omega)]
theorem cutI_mm (z : Int) : cutI z = min (max z (-1000000000)) 1000000000 := by
  unfold cutI
  split
  · omega
  · split <;> omega
theorem cut_any (z : Int) (w : World) : Calls Try.prog 128 #[.int .i64 z] w fun e w' => e = .returned (.int .i64 (cutI z)) ∧ w = w' := by
  have H := Lib.hid (cutI_mm z)
  go_enter Try.func128, Try.ntmps128
  go_wp2
  go_ret
  exact ⟨by rw [H.out]; rfl, rfl⟩
theorem rcut_any (z : Int) (w : World) : Calls Try.prog 68 #[.int .i64 z] w fun e w' => e = .returned (.int .i64 (cutI z)) ∧ w = w' := by
  by_cases h1 : 1000000000 < z
  · have H := Lib.hid (cutI_hi h1)
    go_enter Try.func68, Try.ntmps68
    go_wp2
    go_ret
    exact ⟨by rw [H.out]; rfl, rfl⟩
  · by_cases h2 : z < -1000000000
    · have H := Lib.hid (cutI_lo h2)
      go_enter Try.func68, Try.ntmps68
      go_wp2
      go_ret
      exact ⟨by rw [H.out]; rfl, rfl⟩
    · have H := Lib.hid (cutI_mid (z := z) (by omega) (by omega))
      go_enter Try.func68, Try.ntmps68
      go_wp2
      go_ret
      exact ⟨by rw [H.out]; rfl, rfl⟩

/-- A beast in block b. -/
def RepBt (w : World) (b : Nat) (K : Int) (l : List Int) : Prop := w.heap[b]? = some (.cells (Value.int .i64 K :: ints l).toArray 24 (0, 0))
theorem RepBt.k {w : World} {b : Nat} {K : Int} {l : List Int} (h : RepBt w b K l) : w.cell? ⟨b, 0, none⟩ = some (.int .i64 K) := by rw [blk_cell h]; simp
theorem RepBt.v {w : World} {b : Nat} {K : Int} {l : List Int} (h : RepBt w b K l) {k : Nat} (hk : k < l.length) : w.cell? ⟨b, 1 + k, none⟩ = some (.int .i64 l[k]) := by
  rw [blk_cell h, Nat.add_comm]
  simp [ints, hk]
theorem RepBt.free {w : World} {b : Nat} {K : Int} {l : List Int} (h : RepBt w b K l) (i : Nat) : w.frozen? ⟨b, i, none⟩ = false := blk_free h i
theorem RepBt.lt {w : World} {b : Nat} {K : Int} {l : List Int} (h : RepBt w b K l) : b < w.heap.size := blk_lt h
theorem RepBt.set {w : World} {b : Nat} {K : Int} {l : List Int} (h : RepBt w b K l) (k : Nat) (y : Int) : RepBt (w.setCell ⟨b, 1 + k, none⟩ (.int .i64 y)) b K (l.set k y) := by
  unfold RepBt
  rw [blk_set h, Nat.add_comm]
  simp [ints, List.map_set]
theorem RepBt.mod {w w' : World} {b : Nat} {K : Int} {l : List Int} {F : List Nat} (h : RepBt w b K l) (hm : Mod F w w') (hd : b ∉ F) : RepBt w' b K l := hm.keep h hd
end Go.Proofs.Ytkcpmoinpdojjaa
