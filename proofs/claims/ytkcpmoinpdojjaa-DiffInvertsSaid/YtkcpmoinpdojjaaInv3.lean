/- Between at one row that may not be. -/
import Derived.Test.YtkcpmoinpdojjaaInv2
import Derived.Deep.QuietTactic
import Derived.BigQuiet
namespace Go.Proofs.Ytkcpmoinpdojjaa
open Go Go.RowKit

def withinB (n lo hi : Int) : Bool := decide (lo ≤ n) && decide (n ≤ hi)
theorem within_any (n lo hi : Int) (w : World) : Calls Try.prog 151 #[.int .i64 n, .int .i64 lo, .int .i64 hi] w fun e w' => e = .returned (.bool (withinB n lo hi)) ∧ w = w' := by
  by_cases h : lo ≤ n
  · have hd : decide (lo ≤ n) = true := by simpa using h
    have H := Lib.hid (show withinB n lo hi = decide (n ≤ hi) by unfold withinB; rw [hd]; rfl)
    clear h
    go_enter Try.func151, Try.ntmps151
    go_wp2
    go_ret
    exact ⟨by rw [H.out]; rfl, rfl⟩
  · have hd : decide (lo ≤ n) = false := by simpa using h
    have H := Lib.hid (show withinB n lo hi = false by unfold withinB; rw [hd]; rfl)
    clear h
    go_enter Try.func151, Try.ntmps151
    go_wp2
    go_ret
    exact ⟨by rw [H.out]; rfl, rfl⟩

def badRow : List Value := ints [-1, 0, 0, 0, 0, 0, 0, 0, 0, 0, 0]
attribute [local go_sem] AllFrom.cons_eq AllFrom.nil_eq putF_nil putF_cons wantedL_none wantedL_some OpGoalQ YieldsR preF_nil preF_cons

set_option maxRecDepth 100000 in
set_option maxHeartbeats 4000000 in
theorem may_bad (b : Nat) (w : World) (hb : w.heap[b]? = some (.cells badRow.toArray 51 (0, 0))) :
    Calls Try.prog 101 #[.slice (some ⟨b, 0, none⟩) 1 1] w fun e w' => e = .returned (.bool false) ∧ Below w.heap.size w w' := by
  have hlt := blk_lt hb
  have hc : ∀ j u, badRow[j]? = some u → w.cell? ((⟨b, 0, none⟩ : Addr).add j) = some u := fun j u hu => by
    rw [Addr.add_mid, blk_cell hb]; simpa using hu
  have HC := Lib.hid hc
  have H1 := Lib.hid (show ∀ w, Calls Try.prog 151 #[.int .i64 (-1), .int .i64 0, .int .i64 59] w fun e w' => e = .returned (.bool false) ∧ w = w' from fun w => within_any (-1) 0 59 w)
  have H2 := Lib.hid (show ∀ w, Calls Try.prog 151 #[.int .i64 (-1), .int .i64 0, .int .i64 59] w fun e w' => e = .returned (.bool false) ∧ w' = w from fun w => (H1.out w).mono fun e w' ⟨h, h'⟩ => ⟨h, h'.symm⟩)
  have HO := Lib.hid (show ∀ u ∈ badRow, u.oneCell' = true from ints_one _)
  have HZ := Lib.hid (show (Try.prog.info? 51).map (·.size) = some badRow.length from info_of inf_Row)
  clear hb hc
  go_enter Try.func101, Try.ntmps101
  go_wp2
  go_loopw [7] (fun i wr => i = .int .i64 0 ∧ wr = w) (fun _ _ => 1)
  case atStart => exact ⟨rfl, rfl⟩
  case round =>
    obtain ⟨rfl, rfl⟩ := hrel
    go_wp2_with (first | (refine wpList_load_flat rfl 51 (.tmp 10) rfl _ rfl badRow _ Try.underlying51 rfl HZ.out HC.out ?_) | (refine wpList_store_new rfl 51 (.tmp 4) (.tmp 11) rfl wr (ints [0, 0, 0, 0, 0, 0, 0, 0, 0, 0, 0]) badRow 51 rfl rfl rfl HZ.out HO.out ?_))
    have hnew := heap_alloc_new wr (.cells badRow.toArray 51)
    have c0 : (wr.alloc (.cells badRow.toArray 51)).cell? ⟨wr.heap.size, 0, none⟩ = some (.int .i64 (-1)) := by rw [blk_cell hnew]; rfl
    have hbel : Below wr.heap.size wr (wr.alloc (.cells badRow.toArray 51)) := (Below.refl _ _).alloc (Nat.le_refl _) _
    have HB := Lib.hid hbel
    generalize wr.alloc (.cells badRow.toArray 51) = w1 at *
    clear hnew hbel
    go_wp2
    refine wp_planR 35 [] [some 12, some 13, some 14, some 15, some 16, some 17, some 18, some 19, some 20, some 21, some 22, some 23, some 24, some 25, some 26, some 27, some 28, some 29, some 30, some 31, some 32, some 33, some 34, some 35, some 36, some 37, some 38, some 39, some 40, some 41, some 42, some 43, some 44, some 45, some 46] [[], [0], [0, 1], [0, 1, 2], [0, 1, 2, 3], [0, 1, 2, 3, 4], [0, 1, 2, 3, 4, 5], [0, 1, 2, 3, 4, 5, 6], [0, 1, 2, 3, 4, 5, 6, 7], [0, 1, 2, 3, 4, 5, 6, 7, 8], [0, 1, 2, 3, 4, 5, 6, 7, 8, 9], [0, 1, 2, 3, 4, 5, 6, 7, 8, 9, 10], [0, 1, 2, 3, 4, 5, 6, 7, 8, 9, 10, 11], [0, 1, 2, 3, 4, 5, 6, 7, 8, 9, 10, 11, 12], [0, 1, 2, 3, 4, 5, 6, 7, 8, 9, 10, 11, 12, 13], [0, 1, 2, 3, 4, 5, 6, 7, 8, 9, 10, 11, 12, 13, 14], [0, 1, 2, 3, 4, 5, 6, 7, 8, 9, 10, 11, 12, 13, 14, 15], [0, 1, 2, 3, 4, 5, 6, 7, 8, 9, 10, 11, 12, 13, 14, 15, 16], [0, 1, 2, 3, 4, 5, 6, 7, 8, 9, 10, 11, 12, 13, 14, 15, 16, 17], [0, 1, 2, 3, 4, 5, 6, 7, 8, 9, 10, 11, 12, 13, 14, 15, 16, 17, 18], [0, 1, 2, 3, 4, 5, 6, 7, 8, 9, 10, 11, 12, 13, 14, 15, 16, 17, 18, 19], [0, 1, 2, 3, 4, 5, 6, 7, 8, 9, 10, 11, 12, 13, 14, 15, 16, 17, 18, 19, 20], [0, 1, 2, 3, 4, 5, 6, 7, 8, 9, 10, 11, 12, 13, 14, 15, 16, 17, 18, 19, 20, 21], [0, 1, 2, 3, 4, 5, 6, 7, 8, 9, 10, 11, 12, 13, 14, 15, 16, 17, 18, 19, 20, 21, 22], [0, 1, 2, 3, 4, 5, 6, 7, 8, 9, 10, 11, 12, 13, 14, 15, 16, 17, 18, 19, 20, 21, 22, 23], [0, 1, 2, 3, 4, 5, 6, 7, 8, 9, 10, 11, 12, 13, 14, 15, 16, 17, 18, 19, 20, 21], [0, 1, 2, 3, 4, 5, 6, 7, 8, 9, 10, 11, 12, 13, 14, 15, 16, 17, 18, 19, 20, 21], [0, 1, 2, 3, 4, 5, 6, 7, 8, 9, 10, 11, 12, 13, 14, 15, 16, 17, 18, 19, 20, 21, 26], [0, 1, 2, 3, 4, 5, 6, 7, 8, 9, 10, 11, 12, 13, 14, 15, 16, 17, 18, 19, 20, 21, 25, 26, 27], [0, 1, 2, 3, 4, 5, 6, 7, 8, 9, 10, 11, 12, 13, 14, 15, 16, 17, 18, 19, 20, 21, 25, 26, 27, 28], [0, 1, 2, 3, 4, 5, 6, 7, 8, 9, 10, 11, 12, 13, 14, 15, 16, 17, 18, 19, 20, 21, 25, 26, 27, 28, 29], [0, 1, 2, 3, 4, 5, 6, 7, 8, 9, 10, 11, 12, 13, 14, 15, 16, 17, 18, 19, 20, 21, 25, 26, 27, 28, 29, 30], [0, 1, 2, 3, 4, 5, 6, 7, 8, 9, 10, 11, 12, 13, 14, 15, 16, 17, 18, 19, 20, 21, 22, 23, 24, 25, 26, 27, 28, 29, 30, 31], [0, 1, 2, 3, 4, 5, 6, 7, 8, 9, 10, 11, 12, 13, 14, 15, 16, 17, 18, 19, 20, 21, 22, 23, 24, 25, 26, 27, 28, 29, 30, 31, 32], [0, 1, 2, 3, 4, 5, 6, 7, 8, 9, 10, 11, 12, 13, 14, 15, 16, 17, 18, 19, 20, 21, 22, 23, 24, 25, 26, 27, 28, 29, 30, 31, 32, 33]] [0, 1, 2, 3, 4, 5, 6, 7, 8, 9, 10, 11, 12, 13, 14, 15, 16, 17, 18, 19, 20, 21, 22, 23, 24, 25, 26, 27, 28, 29, 30, 31, 32, 33, 34] mixed rfl (by kernel_rfl) (by decide) (by decide) rfl ?_
    iterate 35 apply Exists.intro
    refine ⟨rfl, ?_, ?_⟩
    · simp only [List.take_succ_cons, List.take_zero, AllFrom.cons_eq, AllFrom.nil_eq, OpGoalQ]
      refine ⟨?_, ?_, ?_, ?_, ?_, ?_, ?_, ?_, ?_, ?_, ?_, ?_, ?_, ?_, ?_, ?_, ?_, ?_, ?_, ?_, ?_, ?_, ?_, ?_, ?_, ?_, ?_, ?_, ?_, ?_, ?_, ?_, ?_, ?_, ?_, trivial⟩
      all_goals (intro σ hp; (try simp only [List.getD_cons_zero, List.getD_cons_succ, List.map_cons, List.map_nil, preF_cons, preF_nil, isV, and_true] at hp); (first | (have hq : True := hp; clear hq hp) | skip))
      · (go_simp; exact ⟨rfl, rfl⟩)
      · (go_simp; exact ⟨rfl, rfl⟩)
      · (go_simp; exact ⟨rfl, rfl⟩)
      · (go_simp; refine (H1.out _).mono ?_; rintro e w4 ⟨rfl, rfl⟩; exact ⟨_, rfl, rfl, rfl⟩)
      · (go_simp; exact ⟨rfl, rfl⟩)
      · (go_simp; exact ⟨rfl, rfl⟩)
      · (go_simp; exact ⟨rfl, rfl⟩)
      · (go_simp; exact ⟨rfl, rfl⟩)
      · (go_simp; exact ⟨rfl, rfl⟩)
      · (go_simp; exact ⟨rfl, rfl⟩)
      · (go_simp; exact ⟨rfl, rfl⟩)
      · (go_simp; exact ⟨rfl, rfl⟩)
      · (go_simp; exact ⟨rfl, rfl⟩)
      · (go_simp; exact ⟨rfl, rfl⟩)
      · (go_simp; exact ⟨rfl, rfl⟩)
      · (go_simp; exact ⟨rfl, rfl⟩)
      · (go_simp; exact ⟨rfl, rfl⟩)
      · (go_simp; exact ⟨rfl, rfl⟩)
      · (go_simp; exact ⟨rfl, rfl⟩)
      · (go_simp; exact ⟨rfl, rfl⟩)
      · (go_simp; exact ⟨rfl, rfl⟩)
      · (go_simp; exact ⟨rfl, rfl⟩)
      · (go_simp; exact ⟨rfl, rfl⟩)
      · (go_simp; exact ⟨rfl, rfl⟩)
      · (go_simp; exact ⟨rfl, rfl⟩)
      · (go_simp; exact ⟨rfl, rfl⟩)
      · (go_simp; exact ⟨rfl, rfl⟩)
      · (go_simp; exact ⟨rfl, rfl⟩)
      · (go_simp; exact ⟨rfl, rfl⟩)
      · (go_simp; exact ⟨rfl, rfl⟩)
      · (go_simp; exact ⟨rfl, rfl⟩)
      · (go_simp; exact ⟨rfl, rfl⟩)
      · (go_simp; exact ⟨rfl, rfl⟩)
      · (go_simp; exact ⟨rfl, rfl⟩)
      · (go_simp; exact ⟨rfl, rfl⟩)
    intro σ hp
    simp only [List.getD_cons_zero, List.getD_cons_succ, List.map_cons, List.map_nil, preF_cons, preF_nil, isV, and_true] at hp
    simp only [List.drop_succ_cons, List.drop_zero]
    go_simp
    clear hp
    refine ⟨rfl, ?_⟩
    go_wp2
    go_ret
    exact ⟨rfl, HB.out.drew⟩

set_option maxRecDepth 100000 in
set_option maxHeartbeats 1000000 in
theorem between_bad (b : Nat) (w : World) (hb : w.heap[b]? = some (.cells badRow.toArray 51 (0, 0))) :
    Calls Try.prog 49 #[.slice (some ⟨b, 0, none⟩) 1 1, .slice none 0 0] w fun e w' => e = .returned (.tuple #[.slice none 0 0, .int .i64 4]) ∧ Below w.heap.size w w' := by
  have H := Lib.hid (may_bad b w hb)
  clear hb
  go_enter Try.func49, Try.ntmps49
  go_wp2_with fail
  refine H.out.mono ?_
  rintro e w1 ⟨rfl, hb1⟩
  have HB := Lib.hid hb1
  clear hb1
  go_wp2
  go_ret2
  exact ⟨rfl, HB.out⟩
end Go.Proofs.Ytkcpmoinpdojjaa
