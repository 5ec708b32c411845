/- The contracts of Of and of the reference's MaskOf. -/
import Derived.Test.YtkcpmoinpdojjaaMask2
import Derived.Test.YtkcpmoinpdojjaaMem
namespace Go.Proofs.Ytkcpmoinpdojjaa
open Go.RowKit

set_option maxHeartbeats 400000 in
theorem hasInt_any (A : Option Addr) (c : Nat) (zs : List Int) (x : Int) (B : Nat) (w : World) (hl : zs.length ≤ 9223372036854775807) (hA : Lies w B A (ints zs)) :
    Calls Try.prog 164 #[.slice A zs.length c, .int .i64 x] w fun e w' => e = .returned (.bool (hasB zs x)) ∧ w = w' := by
  go_enter Try.func164, Try.ntmps164
  go_wp2
  go_loop [9] (fun i => ∃ k : Nat, k ≤ zs.length ∧ i = .int .i64 k ∧ hasB (zs.take k) x = false) (fun i => zs.length - (intOf i).toNat)
  case atStart => exact ⟨0, by omega, rfl, hasB_nil x⟩
  case round =>
    obtain ⟨k, hk, rfl, hno⟩ := hrel
    have Hno := Lib.hid hno; clear hno
    by_cases hlt : k < zs.length
    · obtain ⟨a, rfl, hb, hc⟩ := hA.int hlt
      have hs : hasB (zs.take (k + 1)) x = decide (x = zs[k]) := by rw [take_succ_get zs k hlt, hasB_snoc, Hno.out, Bool.false_or]
      have hin : zs[k] ∈ zs := List.getElem_mem hlt
      generalize zs[k] = y at *
      by_cases hx : x = y
      · subst hx
        have hf : hasB zs x = true := (hasB_iff _ _).2 hin
        have Hf := Lib.hid hf
        have Hs := Lib.hid hs
        clear hs hf hin
        go_wp2
        go_ret
        exact ⟨by rw [Hf.out]; rfl, rfl⟩
      · have hxy : decide (x = y) = false := by simpa using hx
        have Hxy := Lib.hid hxy
        clear hxy
        have Hs := Lib.hid hs
        clear hs hin
        go_wp2
        go_round
        case rel => exact ⟨k + 1, by omega, by go_num, by rw [Hs.out, Hxy.out]⟩
        case measure => simp [intOf]; omega
    · have e : hasB zs x = false := by rw [← Hno.out, List.take_of_length_le (by omega)]
      have He := Lib.hid e
      clear e
      go_wp2
      go_ret
      exact ⟨by rw [He.out]; rfl, rfl⟩

/-! The mask of a list of kinds. -/
theorem or_add : ∀ m : Fin 256, ∀ x : Fin 8, m.val.testBit x.val = false → bits .or .i64 (m.val : Int) (wrap64 (2 ^ x.val)) = ((m.val + 2 ^ x.val : Nat) : Int) := by decide +kernel
theorem and_bit : ∀ m : Fin 256, ∀ x : Fin 8, (bits .and .i64 ((m.val : Int) / 2 ^ x.val) 1 == 1) = m.val.testBit x.val := by decide +kernel
theorem add_bit : ∀ m : Fin 256, ∀ x : Fin 8, ∀ y : Fin 8, m.val.testBit x.val = false → (m.val + 2 ^ x.val).testBit y.val = (m.val.testBit y.val || decide (y.val = x.val)) := by decide +kernel
theorem add_lt : ∀ m : Fin 256, ∀ x : Fin 8, m.val.testBit x.val = false → m.val + 2 ^ x.val < 256 := by decide +kernel

def goodK (x : Int) : Bool := decide (0 ≤ x) && decide (x ≤ 7)
theorem goodK_iff (x : Int) : goodK x = true ↔ 0 ≤ x ∧ x ≤ 7 := by simp [goodK]
def goodAll (l : List Int) : Bool := l.all goodK
theorem goodAll_nil : goodAll [] = true := rfl
theorem goodAll_snoc (l : List Int) (x : Int) : goodAll (l ++ [x]) = (goodAll l && goodK x) := by simp [goodAll]
theorem goodAll_mem {l : List Int} (h : goodAll l = true) {x : Int} (hx : x ∈ l) : 0 ≤ x ∧ x ≤ 7 := (goodK_iff x).1 (List.all_eq_true.1 h x hx)
theorem goodAll_bad {l : List Int} {x : Int} (hx : x ∈ l) (h : goodK x = false) : goodAll l = false := by
  rw [goodAll, List.all_eq_false]
  exact ⟨x, hx, by simp [h]⟩
def maskN (l : List Int) : Nat := l.foldl (fun m x => m + 2 ^ x.toNat) 0
theorem maskN_nil : maskN [] = 0 := rfl
theorem maskN_snoc (l : List Int) (x : Int) : maskN (l ++ [x]) = maskN l + 2 ^ x.toNat := by simp [maskN, List.foldl_append]
/-- What a mask of a part of the list is like. -/
structure MaskOk (l : List Int) : Prop where
  nodup : l.Nodup
  lt : maskN l < 256
  bit : ∀ y, y < 8 → (maskN l).testBit y = hasB l (y : Int)
theorem MaskOk.nil : MaskOk [] := ⟨List.nodup_nil, by decide, fun y _ => by simp [maskN_nil, hasB_nil]⟩
theorem MaskOk.snoc {l : List Int} (h : MaskOk l) {x : Nat} (hx : x < 8) (hn : hasB l (x : Int) = false) : MaskOk (l ++ [(x : Int)]) := by
  have hb : (maskN l).testBit x = false := by rw [h.bit x hx, hn]
  have e : maskN (l ++ [(x : Int)]) = maskN l + 2 ^ x := by rw [maskN_snoc]; simp
  refine ⟨?_, ?_, fun y hy => ?_⟩
  · rw [List.nodup_append]
    refine ⟨h.nodup, by simp, fun a ha b hb => ?_⟩
    have : b = (x : Int) := by simpa using hb
    subst this
    rintro rfl
    exact (hasB_not _ _).1 hn ha
  · rw [e]; exact add_lt ⟨maskN l, h.lt⟩ ⟨x, hx⟩ hb
  · rw [e, hasB_snoc, ← h.bit y hy]
    have := add_bit ⟨maskN l, h.lt⟩ ⟨x, hx⟩ ⟨y, hy⟩ hb
    rw [show (maskN l + 2 ^ x).testBit y = _ from this]
    congr 1
    rw [decide_eq_decide]
    show y = x ↔ _
    omega

def ofM (zs : List Int) : Int := if goodAll zs = true ∧ zs.Nodup then (maskN zs : Int) else 0
def ofE (zs : List Int) : Int := if goodAll zs = true then (if zs.Nodup then 0 else 6) else 1
theorem of_bad {zs : List Int} (h : goodAll zs = false) : ofM zs = 0 ∧ ofE zs = 1 := by simp [ofM, ofE, h]
theorem of_twice {zs : List Int} (h : goodAll zs = true) (h2 : ¬ zs.Nodup) : ofM zs = 0 ∧ ofE zs = 6 := by simp [ofM, ofE, h, h2]
theorem of_ok {zs : List Int} (h : goodAll zs = true) (h2 : zs.Nodup) : ofM zs = maskN zs ∧ ofE zs = 0 := by simp [ofM, ofE, h, h2]
theorem not_nodup {zs : List Int} {k : Nat} (hk : k < zs.length) (h : hasB (zs.take k) zs[k] = true) : ¬ zs.Nodup := by
  intro hn
  have h1 : (zs.take (k + 1)).Nodup := hn.sublist (List.take_sublist _ _)
  rw [take_succ_get zs k hk, List.nodup_append] at h1
  exact h1.2.2 _ ((hasB_iff _ _).1 h) _ (by simp) rfl

def OfPost (zs : List Int) (w : World) (e : Ending) (w' : World) : Prop := e = .returned (.tuple #[.int .i64 (ofM zs), .int .i64 (ofE zs)]) ∧ w = w'

/-- A power of two, as a word of its own. -/
def pw (k : Nat) : Int := ((2 ^ k : Nat) : Int)
theorem pw_zero : pw 0 = 1 := rfl
theorem pw_succ (k : Nat) : pw (k + 1) = pw k * 2 := by simp [pw, Int.pow_succ]
theorem pw_pos (k : Nat) : 1 ≤ pw k := by
  have : 0 < 2 ^ k := Nat.pos_of_ne_zero (by simp)
  unfold pw; omega
theorem pw_lt {k : Nat} (h : k < 62) : pw k < 4611686018427387904 := by
  have : (2 : Nat) ^ k < 2 ^ 62 := Nat.pow_lt_pow_right (by omega) h
  unfold pw; omega
theorem pw_le {k : Nat} (h : k < 8) : pw k ≤ 128 := by
  have : (2 : Nat) ^ k ≤ 2 ^ 7 := Nat.pow_le_pow_right (by omega) (by omega)
  unfold pw; omega

set_option maxHeartbeats 400000 in
theorem power_any (k : Nat) (hk : k < 62) (w : World) :
    Calls Try.prog 130 #[.int .i64 k] w fun e w' => e = .returned (.int .i64 (pw k)) ∧ w = w' := by
  go_enter Try.func130, Try.ntmps130
  go_wp2
  go_loop [3, 5] (fun n i => ∃ j : Nat, j ≤ k ∧ i = .int .i64 j ∧ n = .int .i64 (pw j)) (fun _ i => k - (intOf i).toNat)
  case atStart => exact ⟨0, by omega, rfl, by rw [pw_zero]⟩
  case round =>
    obtain ⟨j, hj, rfl, rfl⟩ := hrel
    have hp := pw_lt (k := j) (by omega)
    have hp0 := pw_pos j
    have Hs := Lib.hid (pw_succ j)
    by_cases hlt : j < k
    · generalize pw j = q at *
      go_wp2
      go_round
      case rel => exact ⟨j + 1, by omega, by go_num, by rw [Hs.out]⟩
      case measure => simp [intOf]; omega
    · obtain rfl : j = k := by omega
      go_wp2
      go_ret
      exact ⟨rfl, rfl⟩

end Go.Proofs.Ytkcpmoinpdojjaa
