/- The closed fact 'masked', and the laws MaskOfs and MaskMatches on values. -/
import Derived.Test.YthbbjbcojhljfaaMask3
namespace Go.Proofs.Ythbbjbcojhljfaa
open Go.RowKit

theorem of13 : ofM [1, 3] = 10 ∧ ofE [1, 3] = 0 := by decide
set_option maxHeartbeats 400000 in
theorem masked_any (w : World) : Calls Try.prog 26 #[] w fun e w' => e = .returned (.bool true) ∧ Below w.heap.size w w' := by
  have H := Lib.hid of13
  have hl : Lies (w.alloc (.cells #[.int .i64 1, .int .i64 3] 3)) (w.heap.size + 1) (some ⟨w.heap.size, 0, none⟩) (ints [1, 3]) := by
    intro k u hu
    refine ⟨_, rfl, by simp, ?_⟩
    match k, hu with
    | 0, hu => simp [ints] at hu; subst hu; simp [Addr.add]
    | 1, hu => simp [ints] at hu; subst hu; simp [Addr.add]
    | k + 2, hu => simp [ints] at hu
  have hof := of_any (some ⟨w.heap.size, 0, none⟩) 2 [1, 3] (w.heap.size + 1) _ (by simp) hl
  have HO := Lib.hid hof
  clear hl hof
  go_enter Try.func26, Try.ntmps26
  go_wp2_with (go_at_call 24; refine HO.out.mono ?_; rintro e w' ⟨rfl, rfl⟩; simp only [H.out.1, H.out.2])
  go_ret
  exact ⟨rfl, (Below.refl _ _).alloc (Nat.le_refl _) _⟩

set_option maxHeartbeats 400000 in
theorem maskOfs_any (A : Option Addr) (c : Nat) (zs : List Int) (B : Nat) (w : World) (hc0 : zs.length ≤ c) (hl : c ≤ 9223372036854775807) (hA : Lies w B A (ints zs)) :
    Calls Try.prog 4 #[.slice A zs.length c] w fun e w' => e = .returned (.bool true) ∧ Below w.heap.size w w' := by
  have h1 := Lib.hid (of_any A c zs B w (by omega) hA)
  have h2 := Lib.hid (maskOf_any A c zs B w hc0 hl hA)
  clear hA
  go_enter Try.func4, Try.ntmps4
  go_wp2_with (first | (go_at_call 24; refine h1.out.mono ?_; rintro e w' ⟨rfl, rfl⟩) | (go_at_call 25; refine h2.out.mono ?_; rintro e w' ⟨rfl, rfl⟩) | (go_at_call 26; refine (masked_any _).mono ?_; rintro e w' ⟨rfl, hb⟩))
  go_ret
  exact ⟨rfl, hb⟩
end Go.Proofs.Ythbbjbcojhljfaa
