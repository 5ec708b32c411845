import Derived.Test.YtfbcdblgfhekpaaProg
import Derived.WalkKit
import Derived.WalkSpells
import Derived.Lib.Hide
import Derived.Test.YtfbcdblgfhekpaaDiffBetweensJ2
import Derived.Test.YtfbcdblgfhekpaaDiffBetweensJ1
import Derived.WalkLawsBesides
import Derived.Lib.BitFns
import Derived.Lib.Strings
import Derived.Lib.Slices
import Derived.Lib.Small
import Derived.Lib.Walk
/- What CheckQuery and the reference's QueryCheck return, and that the law MaskQueries is true, for whatever query. -/
namespace Go.Proofs.Ytfbcdblgfhekpaa
open Go.RowKit

theorem mixed : Try.prog.follows .mixedOrders = true := by kernel_rfl

def isSetB (m : Int) : Bool := decide (0 ≤ m) && decide (m ≤ 255)
theorem isSetB_t (m : Int) (h0 : 0 ≤ m) (h1 : m ≤ 255) : isSetB m = true := by simp [isSetB, h0, h1]
theorem isSetB_f1 (m : Int) (h0 : m < 0) : isSetB m = false := by simp [isSetB]; omega
theorem isSetB_f2 (m : Int) (h0 : 255 < m) : isSetB m = false := by simp [isSetB]; omega
def outsideB (n low high : Int) : Bool := decide (n < low) || decide (high < n)
theorem outsideB_set (a : Int) : outsideB a 0 255 = !isSetB a := by
  simp only [outsideB, isSetB, Bool.not_and]
  congr 1 <;> (rw [← decide_not]; congr 1; simp)

set_option maxHeartbeats 400000 in
theorem isSet_any (m : Int) (w : World) :
    Calls Try.prog 37 #[.int .i64 m] w fun e w' => e = .returned (.bool (isSetB m)) ∧ w = w' := by
  by_cases h0 : 0 ≤ m
  · by_cases h1 : m ≤ 255
    · have hs := Lib.hid (isSetB_t m h0 h1)
      go_enter Try.func37, Try.ntmps37
      go_wp2
      go_ret
      exact ⟨by rw [hs.out]; rfl, rfl⟩
    · have hs := Lib.hid (isSetB_f2 m (by omega))
      go_enter Try.func37, Try.ntmps37
      go_wp2
      go_ret
      exact ⟨by rw [hs.out]; rfl, rfl⟩
  · have hs := Lib.hid (isSetB_f1 m (by omega))
    go_enter Try.func37, Try.ntmps37
    go_wp2
    go_ret
    exact ⟨by rw [hs.out]; rfl, rfl⟩

set_option maxHeartbeats 400000 in
theorem outside_any (n l h : Int) (w : World) :
    Calls Try.prog 35 #[.int .i64 n, .int .i64 l, .int .i64 h] w fun e w' => e = .returned (.bool (outsideB n l h)) ∧ w = w' := by
  by_cases h0 : n < l
  · have hs : outsideB n l h = true := by simp [outsideB, h0]
    have H := Lib.hid hs; clear hs
    go_enter Try.func35, Try.ntmps35
    go_wp2
    go_ret
    exact ⟨by rw [H.out]; rfl, rfl⟩
  · have hs : outsideB n l h = decide (h < n) := by simp [outsideB]; omega
    have H := Lib.hid hs; clear hs
    go_enter Try.func35, Try.ntmps35
    go_wp2
    go_ret
    exact ⟨by rw [H.out]; rfl, rfl⟩

def qcheck (a b c : Int) : Int := if isSetB a && isSetB b && isSetB c then 0 else 1
attribute [local go_sem] AllFrom.cons_eq AllFrom.nil_eq putL_nil putL_cons wantedL_none wantedL_some OpGoalM YieldsJ

end Go.Proofs.Ytfbcdblgfhekpaa

/- The contracts of Matches, of the reference's Matches and of the single bit. -/
namespace Go.Proofs.Ytfbcdblgfhekpaa
open Go.RowKit

theorem wrap_u64_nat (x : Nat) (h : x < 18446744073709551616) : IntKind.u64.wrap (x : Int) = (x : Int) := by
  simp only [IntKind.wrap, IntKind.bits, IntKind.signed, Bool.false_and]
  rw [if_neg (by decide)]
  omega
theorem pow_u64 (k : Nat) (hk : k < 64) : IntKind.u64.wrap (2 ^ k) = ((2 ^ k : Nat) : Int) := by
  have h : (2 : Nat) ^ k < 2 ^ 64 := Nat.pow_lt_pow_right (by omega) hk
  have e : (2 : Int) ^ k = ((2 ^ k : Nat) : Int) := by norm_cast
  rw [e]
  exact wrap_u64_nat _ h
theorem bit_val (m : Int) (p : Nat) : IntKind.u64.wrap ((U m : Int) / (p : Int)) = ((U m / p : Nat) : Int) := by
  have h := U_lt m
  have h2 : U m / p ≤ U m := Nat.div_le_self _ _
  have e : ((U m : Int) / (p : Int)) = ((U m / p : Nat) : Int) := by norm_cast
  rw [e]
  exact wrap_u64_nat _ (by omega)

end Go.Proofs.Ytfbcdblgfhekpaa

/- The contracts of Of and of the reference's MaskOf. -/
namespace Go.Proofs.Ytfbcdblgfhekpaa
open Go.RowKit

theorem or_add : ∀ m : Fin 256, ∀ x : Fin 8, m.val.testBit x.val = false → bits .or .i64 (m.val : Int) (wrap64 (2 ^ x.val)) = ((m.val + 2 ^ x.val : Nat) : Int) := by decide +kernel
theorem and_bit : ∀ m : Fin 256, ∀ x : Fin 8, (bits .and .i64 ((m.val : Int) / 2 ^ x.val) 1 == 1) = m.val.testBit x.val := by decide +kernel
theorem add_bit : ∀ m : Fin 256, ∀ x : Fin 8, ∀ y : Fin 8, m.val.testBit x.val = false → (m.val + 2 ^ x.val).testBit y.val = (m.val.testBit y.val || decide (y.val = x.val)) := by decide +kernel
theorem add_lt : ∀ m : Fin 256, ∀ x : Fin 8, m.val.testBit x.val = false → m.val + 2 ^ x.val < 256 := by decide +kernel

def goodK (x : Int) : Bool := decide (0 ≤ x) && decide (x ≤ 7)
theorem goodK_iff (x : Int) : goodK x = true ↔ 0 ≤ x ∧ x ≤ 7 := by simp [goodK]
def goodAll (l : List Int) : Bool := l.all goodK
theorem goodAll_nil : goodAll [] = true := rfl
theorem goodAll_snoc (l : List Int) (x : Int) : goodAll (l ++ [x]) = (goodAll l && goodK x) := by simp [goodAll]
theorem goodAll_mem {l : List Int} (h : goodAll l = true) {x : Int} (hx : x ∈ l) : 0 ≤ x ∧ x ≤ 7 := (goodK_iff x).1 (List.all_eq_true.1 h x hx)
theorem goodAll_bad {l : List Int} {x : Int} (hx : x ∈ l) (h : goodK x = false) : goodAll l = false := by
  rw [goodAll, List.all_eq_false]
  exact ⟨x, hx, by simp [h]⟩
def maskN (l : List Int) : Nat := l.foldl (fun m x => m + 2 ^ x.toNat) 0
theorem maskN_nil : maskN [] = 0 := rfl
theorem maskN_snoc (l : List Int) (x : Int) : maskN (l ++ [x]) = maskN l + 2 ^ x.toNat := by simp [maskN, List.foldl_append]
/-- What a mask of a part of the list is like. -/
structure MaskOk (l : List Int) : Prop where
  nodup : l.Nodup
  lt : maskN l < 256
  bit : ∀ y, y < 8 → (maskN l).testBit y = hasB l (y : Int)
theorem MaskOk.nil : MaskOk [] := ⟨List.nodup_nil, by decide, fun y _ => by simp [maskN_nil, hasB_nil]⟩
theorem MaskOk.snoc {l : List Int} (h : MaskOk l) {x : Nat} (hx : x < 8) (hn : hasB l (x : Int) = false) : MaskOk (l ++ [(x : Int)]) := by
  have hb : (maskN l).testBit x = false := by rw [h.bit x hx, hn]
  have e : maskN (l ++ [(x : Int)]) = maskN l + 2 ^ x := by rw [maskN_snoc]; simp
  refine ⟨?_, ?_, fun y hy => ?_⟩
  · rw [List.nodup_append]
    refine ⟨h.nodup, by simp, fun a ha b hb => ?_⟩
    have : b = (x : Int) := by simpa using hb
    subst this
    rintro rfl
    exact (hasB_not _ _).1 hn ha
  · rw [e]; exact add_lt ⟨maskN l, h.lt⟩ ⟨x, hx⟩ hb
  · rw [e, hasB_snoc, ← h.bit y hy]
    have := add_bit ⟨maskN l, h.lt⟩ ⟨x, hx⟩ ⟨y, hy⟩ hb
    rw [show (maskN l + 2 ^ x).testBit y = _ from this]
    congr 1
    rw [decide_eq_decide]
    show y = x ↔ _
    omega

def ofM (zs : List Int) : Int := if goodAll zs = true ∧ zs.Nodup then (maskN zs : Int) else 0
def ofE (zs : List Int) : Int := if goodAll zs = true then (if zs.Nodup then 0 else 6) else 1
theorem of_bad {zs : List Int} (h : goodAll zs = false) : ofM zs = 0 ∧ ofE zs = 1 := by simp [ofM, ofE, h]
theorem of_twice {zs : List Int} (h : goodAll zs = true) (h2 : ¬ zs.Nodup) : ofM zs = 0 ∧ ofE zs = 6 := by simp [ofM, ofE, h, h2]
theorem of_ok {zs : List Int} (h : goodAll zs = true) (h2 : zs.Nodup) : ofM zs = maskN zs ∧ ofE zs = 0 := by simp [ofM, ofE, h, h2]
theorem not_nodup {zs : List Int} {k : Nat} (hk : k < zs.length) (h : hasB (zs.take k) zs[k] = true) : ¬ zs.Nodup := by
  intro hn
  have h1 : (zs.take (k + 1)).Nodup := hn.sublist (List.take_sublist _ _)
  rw [take_succ_get zs k hk, List.nodup_append] at h1
  exact h1.2.2 _ ((hasB_iff _ _).1 h) _ (by simp) rfl

def OfPost (zs : List Int) (w : World) (e : Ending) (w' : World) : Prop := e = .returned (.tuple #[.int .i64 (ofM zs), .int .i64 (ofE zs)]) ∧ w = w'

/-- A power of two, as a word of its own. -/
def pw (k : Nat) : Int := ((2 ^ k : Nat) : Int)
theorem pw_zero : pw 0 = 1 := rfl
theorem pw_succ (k : Nat) : pw (k + 1) = pw k * 2 := by simp [pw, Int.pow_succ]
theorem pw_pos (k : Nat) : 1 ≤ pw k := by
  have : 0 < 2 ^ k := Nat.pos_of_ne_zero (by simp)
  unfold pw; omega
theorem pw_lt {k : Nat} (h : k < 62) : pw k < 4611686018427387904 := by
  have : (2 : Nat) ^ k < 2 ^ 62 := Nat.pow_lt_pow_right (by omega) h
  unfold pw; omega
theorem pw_le {k : Nat} (h : k < 8) : pw k ≤ 128 := by
  have : (2 : Nat) ^ k ≤ 2 ^ 7 := Nat.pow_le_pow_right (by omega) (by omega)
  unfold pw; omega

set_option maxHeartbeats 400000 in
theorem power_any (k : Nat) (hk : k < 62) (w : World) :
    Calls Try.prog 54 #[.int .i64 k] w fun e w' => e = .returned (.int .i64 (pw k)) ∧ w = w' := by
  go_enter Try.func54, Try.ntmps54
  go_wp2
  go_loop [3, 5] (fun n i => ∃ j : Nat, j ≤ k ∧ i = .int .i64 j ∧ n = .int .i64 (pw j)) (fun _ i => k - (intOf i).toNat)
  case atStart => exact ⟨0, by omega, rfl, by rw [pw_zero]⟩
  case round =>
    obtain ⟨j, hj, rfl, rfl⟩ := hrel
    have hp := pw_lt (k := j) (by omega)
    have hp0 := pw_pos j
    have Hs := Lib.hid (pw_succ j)
    by_cases hlt : j < k
    · generalize pw j = q at *
      go_wp2
      go_round
      case rel => exact ⟨j + 1, by omega, by go_num, by rw [Hs.out]⟩
      case measure => simp [intOf]; omega
    · obtain rfl : j = k := by omega
      go_wp2
      go_ret
      exact ⟨rfl, rfl⟩

end Go.Proofs.Ytfbcdblgfhekpaa

/- The closed fact 'masked', and the laws MaskOfs and MaskMatches on values. -/
namespace Go.Proofs.Ytfbcdblgfhekpaa
open Go.RowKit

theorem of13 : ofM [1, 3] = 10 ∧ ofE [1, 3] = 0 := by decide
end Go.Proofs.Ytfbcdblgfhekpaa

/- The contracts of Rest, HasKind, CheckBeast and the reference's BeastCheck. -/
namespace Go.Proofs.Ytfbcdblgfhekpaa
open Go.RowKit

theorem tmod_facts (n m : Int) (hm : 0 < m) : -m < n.tmod m ∧ n.tmod m < m ∧ (n.tmod m < 0 → n.tmod m + m = n % m) ∧ (0 ≤ n.tmod m → n.tmod m = n % m) := by
  by_cases hn : 0 ≤ n
  · have h := Int.tmod_eq_emod_of_nonneg (b := m) hn
    have h1 := Int.emod_nonneg n (by omega : m ≠ 0)
    have h2 := Int.emod_lt_of_pos n hm
    rw [h]
    exact ⟨by omega, h2, by omega, fun _ => rfl⟩
  · obtain ⟨k, rfl⟩ : ∃ k, n = -k := ⟨-n, by omega⟩
    have hk : 0 ≤ k := by omega
    have h := Int.tmod_eq_emod_of_nonneg (b := m) hk
    have h1 := Int.emod_nonneg k (by omega : m ≠ 0)
    have h2 := Int.emod_lt_of_pos k hm
    rw [Int.neg_tmod, h]
    have h3 : (-k) % m = (-(k % m)) % m := by
      have h4 := Int.emod_add_mul_ediv k m
      have h5 : -k = -(k % m) + m * (-(k / m)) := by rw [Int.mul_neg]; omega
      rw [h5, Int.add_mul_emod_self_left]
    refine ⟨by omega, by omega, fun hlt => ?_, fun hge => ?_⟩
    · rw [h3]
      have h6 : (-(k % m)) % m = (-(k % m) + m) % m := by
        have := Int.add_mul_emod_self_left (-(k % m)) m 1
        rw [Int.mul_one] at this
        exact this.symm
      rw [h6]
      exact (Int.emod_eq_of_lt (by omega) (by omega)).symm
    · have h7 : k % m = 0 := by omega
      rw [h3, h7]; simp

set_option maxHeartbeats 400000 in
theorem rest_any (n m : Int) (hm : 0 < m) (hm2 : m ≤ 4611686018427387904) (w : World) :
    Calls Try.prog 53 #[.int .i64 n, .int .i64 m] w fun e w' => e = .returned (.int .i64 (n % m)) ∧ w = w' := by
  obtain ⟨h1, h2, h3, h4⟩ := tmod_facts n m hm
  generalize hr : n % m = r at *
  have H3 := Lib.hid h3; have H4 := Lib.hid h4
  clear h3 h4 hr
  have hm0 : ¬ m = 0 := by omega
  by_cases hlt : n.tmod m < 0
  · have H := Lib.hid (H3.out hlt)
    go_enter Try.func53, Try.ntmps53
    go_wp2
    go_ret
    exact ⟨by rw [← H.out]; rfl, rfl⟩
  · have H := Lib.hid (H4.out (by omega))
    go_enter Try.func53, Try.ntmps53
    go_wp2
    go_ret
    exact ⟨by rw [← H.out]; rfl, rfl⟩

/-- Is kind k in the set m (its rest by 256)? -/
def hasK (m : Int) (k : Nat) : Bool := (m % 256).toNat.testBit k
theorem hasK_val (m : Int) (k : Nat) : (((m % 256) / pw k) % 2 == 1) = hasK m k := by
  have h0 := Int.emod_nonneg m (by omega : (256 : Int) ≠ 0)
  unfold hasK
  obtain ⟨r, hr⟩ := Int.eq_ofNat_of_zero_le h0
  rw [hr, Nat.testBit_eq_decide_div_mod_eq]
  have e : ((r : Int) / pw k) = ((r / 2 ^ k : Nat) : Int) := by unfold pw; norm_cast
  rw [e, Bool.eq_iff_iff]
  simp only [beq_iff_eq, decide_eq_true_eq, Int.toNat_natCast]
  omega

set_option maxHeartbeats 400000 in
theorem hasKind_any (m : Int) (k : Nat) (hk : k < 62) (w : World) :
    Calls Try.prog 42 #[.int .i64 m, .int .i64 k] w fun e w' => e = .returned (.bool (hasK m k)) ∧ w = w' := by
  have hv := hasK_val m k
  have hp0 := pw_pos k
  have hp1 := pw_lt hk
  have h0 := Int.emod_nonneg m (by omega : (256 : Int) ≠ 0)
  have h1 := Int.emod_lt_of_pos m (by omega : (0 : Int) < 256)
  have hq0 : 0 ≤ (m % 256) / pw k := Int.ediv_nonneg h0 (by omega)
  have hq1 : (m % 256) / pw k ≤ m % 256 := Int.ediv_le_self _ h0
  have hr := fun w => rest_any m 256 (by omega) (by omega) w
  have hpw := fun w => power_any k hk w
  generalize m % 256 = c at *
  generalize pw k = p at *
  generalize hasK m k = r at *
  have Hr := Lib.hid hr; have Hp := Lib.hid hpw; have Hv := Lib.hid hv
  clear hr hpw hv
  have hz : ¬ p = 0 := by omega
  go_enter Try.func42, Try.ntmps42
  go_wp2_with (first | (go_at_call 53; refine (Hr.out _).mono ?_; rintro e w' ⟨rfl, rfl⟩) | (go_at_call 54; refine (Hp.out _).mono ?_; rintro e w' ⟨rfl, rfl⟩))
  go_ret
  exact ⟨by rw [← Hv.out]; rfl, rfl⟩

/-- What is wrong with the values from place k on. -/
def beastGo (K : Int) : Nat → List Int → Int
  | _, [] => 0
  | k, v :: vs => if hasK K k = false ∧ v ≠ 0 then 4 else if v < -1000000000 ∨ 1000000000 < v then 1 else beastGo K (k + 1) vs
def beastE (K : Int) (vs : List Int) : Int := if isSetB K = true then beastGo K 0 vs else 1
theorem beastGo_drop (K : Int) (vs : List Int) (k : Nat) (h : k < vs.length) :
    beastGo K k (vs.drop k) = if hasK K k = false ∧ vs[k] ≠ 0 then 4 else if vs[k] < -1000000000 ∨ 1000000000 < vs[k] then 1 else beastGo K (k + 1) (vs.drop (k + 1)) := by
  rw [List.drop_eq_getElem_cons h, beastGo]
theorem beastGo_end (K : Int) (vs : List Int) (k : Nat) (h : vs.length ≤ k) : beastGo K k (vs.drop k) = 0 := by
  rw [List.drop_eq_nil_of_le h, beastGo]

theorem index8 (a0 a1 a2 a3 a4 a5 a6 a7 : Int) (k : Nat) (hk : k < [a0, a1, a2, a3, a4, a5, a6, a7].length) (w : World) :
    (Instr.index 29 (.agg #[.int .i64 a0, .int .i64 a1, .int .i64 a2, .int .i64 a3, .int .i64 a4, .int .i64 a5, .int .i64 a6, .int .i64 a7]) (.int .i64 k)).run Try.prog w = .ok (.int .i64 ([a0, a1, a2, a3, a4, a5, a6, a7][k])) w := by
  match k, hk with
  | 0, _ => exact (by show _ = _; kernel_rfl)
  | 1, _ => exact (by show _ = _; kernel_rfl)
  | 2, _ => exact (by show _ = _; kernel_rfl)
  | 3, _ => exact (by show _ = _; kernel_rfl)
  | 4, _ => exact (by show _ = _; kernel_rfl)
  | 5, _ => exact (by show _ = _; kernel_rfl)
  | 6, _ => exact (by show _ = _; kernel_rfl)
  | 7, _ => exact (by show _ = _; kernel_rfl)
  | k + 8, h => exact absurd h (by simp)

theorem isSetB_nat {K : Int} (h : isSetB K = true) : ∃ m : Nat, K = m ∧ m < 256 := by
  simp only [isSetB, Bool.and_eq_true, decide_eq_true_eq] at h
  exact ⟨K.toNat, by omega, by omega⟩
theorem hasK_nat (m k : Nat) (h : m < 256) : hasK m k = m.testBit k := by
  unfold hasK
  have : ((m : Int) % 256).toNat = m := by omega
  rw [this]
theorem and_bit0 : ∀ m : Fin 256, ∀ x : Fin 8, (bits .and .i64 ((m.val : Int) / 2 ^ x.val) 1 == 0) = !m.val.testBit x.val := by decide +kernel

set_option maxHeartbeats 1000000 in
theorem checkBeast_any (K a0 a1 a2 a3 a4 a5 a6 a7 : Int) (w : World) :
    Calls Try.prog 28 #[.agg #[.int .i64 K, .int .i64 a0, .int .i64 a1, .int .i64 a2, .int .i64 a3, .int .i64 a4, .int .i64 a5, .int .i64 a6, .int .i64 a7]] w fun e w' => e = .returned (.int .i64 (beastE K [a0, a1, a2, a3, a4, a5, a6, a7])) ∧ Below w.heap.size w w' := by
  cases hK : isSetB K with
  | false =>
    have hf : beastE K [a0, a1, a2, a3, a4, a5, a6, a7] = 1 := by simp [beastE, hK]
    have HK := Lib.hid hK; have Hf := Lib.hid hf
    clear hK hf
    go_enter Try.func28, Try.ntmps28
    go_wp2_with (go_at_call 37; refine (isSet_any _ _).mono ?_; rintro e w' ⟨rfl, rfl⟩; simp only [HK.out])
    go_ret
    exact ⟨by rw [Hf.out]; rfl, (Below.refl _ _).alloc (Nat.le_refl _) _⟩
  | true =>
    obtain ⟨m, rfl, hm⟩ := isSetB_nat hK
    have hf : beastE m [a0, a1, a2, a3, a4, a5, a6, a7] = beastGo m 0 ([a0, a1, a2, a3, a4, a5, a6, a7].drop 0) := by simp [beastE, hK]
    have hix := index8 a0 a1 a2 a3 a4 a5 a6 a7
    have hstep := beastGo_drop m [a0, a1, a2, a3, a4, a5, a6, a7]
    have hend := beastGo_end m [a0, a1, a2, a3, a4, a5, a6, a7]
    have hlen : [a0, a1, a2, a3, a4, a5, a6, a7].length = 8 := rfl
    have hmem : ∀ (W : World), (∀ x, W.cell? x = (w.alloc (.cells #[.int .i64 m, .int .i64 a0, .int .i64 a1, .int .i64 a2, .int .i64 a3, .int .i64 a4, .int .i64 a5, .int .i64 a6, .int .i64 a7] 31)).cell? x) → True := fun _ _ => trivial
    clear hmem
    have HK := Lib.hid hK; have Hf := Lib.hid hf; have Hix := Lib.hid hix; have Hstep := Lib.hid hstep; have Hend := Lib.hid hend
    clear hK hf hix hstep hend hlen
    go_enter Try.func28, Try.ntmps28
    go_wp2_with (go_at_call 37; refine (isSet_any _ _).mono ?_; rintro e w' ⟨rfl, rfl⟩; simp only [HK.out])
    go_loop [11] (fun i => ∃ k : Nat, k ≤ 8 ∧ i = .int .i64 k ∧ beastGo m k ([a0, a1, a2, a3, a4, a5, a6, a7].drop k) = beastGo m 0 ([a0, a1, a2, a3, a4, a5, a6, a7].drop 0)) (fun i => 8 - (intOf i).toNat)
    case atStart => exact ⟨0, by omega, rfl, rfl⟩
    case round =>
      obtain ⟨k, hk, rfl, hgo⟩ := hrel
      by_cases hlt : k < 8
      · have hlt' : k < [a0, a1, a2, a3, a4, a5, a6, a7].length := hlt
        have hix := Hix.out k hlt'
        have hst := Hstep.out k hlt'
        have hb := and_bit0 ⟨m, hm⟩ ⟨k, hlt⟩
        simp only [] at hb
        rw [← hasK_nat m k hm] at hb
        rw [hgo] at hst
        generalize [a0, a1, a2, a3, a4, a5, a6, a7][k] = x at *
        have Hgo := Lib.hid hgo; have Hst := Lib.hid hst
        clear hgo hst hlt'
        generalize hb' : hasK m k = b at *
        clear hb'
        cases b with
        | false =>
          by_cases hx : x = 0
          · subst hx
            have hz : ((0 : Int) != 0) = false := rfl
            go_wp2
            go_round
            case rel => exact ⟨k + 1, by omega, by go_num, by rw [Hst.out]; simp⟩
            case measure => simp [intOf]; omega
          · have hz : (x != 0) = true := by simpa using hx
            have Hx := Lib.hid hx
            clear hx
            go_wp2
            go_ret
            exact ⟨by rw [Hf.out, Hst.out, if_pos ⟨by simp, Hx.out⟩]; rfl, (Below.refl _ _).alloc (Nat.le_refl _) _⟩
        | true =>
          have h1 : ¬ ((true : Bool) = false ∧ x ≠ 0) := by simp
          have H1 := Lib.hid h1
          clear h1
          by_cases hx : x < -1000000000 ∨ 1000000000 < x
          · have Hx := Lib.hid hx
            rcases hx with hx | hx
            all_goals
              go_wp2
              go_ret
              exact ⟨by rw [Hf.out, Hst.out, if_neg H1.out, if_pos Hx.out]; rfl, (Below.refl _ _).alloc (Nat.le_refl _) _⟩
          · have Hx := Lib.hid hx
            have hx1 : -1000000000 ≤ x := by omega
            have hx2 : x ≤ 1000000000 := by omega
            clear hx
            go_wp2
            go_round
            case rel => exact ⟨k + 1, by omega, by go_num, by rw [Hst.out, if_neg H1.out, if_neg Hx.out]⟩
            case measure => simp [intOf]; omega
      · obtain rfl : k = 8 := by omega
        have Hgo := Lib.hid hgo
        clear hgo
        go_wp2
        go_ret
        exact ⟨by rw [Hf.out, ← Hgo.out, Hend.out 8 (by simp)]; rfl, (Below.refl _ _).alloc (Nat.le_refl _) _⟩

set_option maxHeartbeats 1000000 in
theorem beastCheck_any (K a0 a1 a2 a3 a4 a5 a6 a7 : Int) (w : World) :
    Calls Try.prog 36 #[.agg #[.int .i64 K, .int .i64 a0, .int .i64 a1, .int .i64 a2, .int .i64 a3, .int .i64 a4, .int .i64 a5, .int .i64 a6, .int .i64 a7]] w fun e w' => e = .returned (.int .i64 (beastE K [a0, a1, a2, a3, a4, a5, a6, a7])) ∧ Below w.heap.size w w' := by
  have ho := outsideB_set K
  cases hK : isSetB K with
  | false =>
    have hf : beastE K [a0, a1, a2, a3, a4, a5, a6, a7] = 1 := by simp [beastE, hK]
    rw [hK] at ho
    have HK := Lib.hid ho; have Hf := Lib.hid hf
    clear ho hK hf
    go_enter Try.func36, Try.ntmps36
    go_wp2_with (go_at_call 35; refine (outside_any _ _ _ _).mono ?_; rintro e w' ⟨rfl, rfl⟩; simp only [HK.out, Bool.not_false])
    go_ret
    exact ⟨by rw [Hf.out]; rfl, (Below.refl _ _).alloc (Nat.le_refl _) _⟩
  | true =>
    obtain ⟨m, rfl, hm⟩ := isSetB_nat hK
    have hf : beastE m [a0, a1, a2, a3, a4, a5, a6, a7] = beastGo m 0 ([a0, a1, a2, a3, a4, a5, a6, a7].drop 0) := by simp [beastE, hK]
    have hix := index8 a0 a1 a2 a3 a4 a5 a6 a7
    have hstep := beastGo_drop m [a0, a1, a2, a3, a4, a5, a6, a7]
    have hend := beastGo_end m [a0, a1, a2, a3, a4, a5, a6, a7]
    rw [hK] at ho
    have HK := Lib.hid ho; have Hf := Lib.hid hf; have Hix := Lib.hid hix; have Hstep := Lib.hid hstep; have Hend := Lib.hid hend
    clear hK ho hf hix hstep hend
    go_enter Try.func36, Try.ntmps36
    go_wp2_with (go_at_call 35; refine (outside_any _ _ _ _).mono ?_; rintro e w' ⟨rfl, rfl⟩; simp only [HK.out, Bool.not_true])
    go_loop [10] (fun i => ∃ k : Nat, k ≤ 8 ∧ i = .int .i64 k ∧ beastGo m k ([a0, a1, a2, a3, a4, a5, a6, a7].drop k) = beastGo m 0 ([a0, a1, a2, a3, a4, a5, a6, a7].drop 0)) (fun i => 8 - (intOf i).toNat)
    case atStart => exact ⟨0, by omega, rfl, rfl⟩
    case round =>
      obtain ⟨k, hk, rfl, hgo⟩ := hrel
      by_cases hlt : k < 8
      · have hlt' : k < [a0, a1, a2, a3, a4, a5, a6, a7].length := hlt
        have hix := Hix.out k hlt'
        have hst := Hstep.out k hlt'
        have hkind := fun w => hasKind_any m k (by omega) w
        rw [hgo] at hst
        generalize [a0, a1, a2, a3, a4, a5, a6, a7][k] = x at *
        have Hgo := Lib.hid hgo; have Hst := Lib.hid hst
        clear hgo hst hlt'
        generalize hb' : hasK m k = b at *
        have Hkind := Lib.hid hkind
        clear hb' hkind
        have hox : outsideB x (-1000000000) 1000000000 = (decide (x < -1000000000) || decide (1000000000 < x)) := rfl
        cases b with
        | false =>
          by_cases hx : x = 0
          · subst hx
            have hz : ((0 : Int) != 0) = false := rfl
            have Hox := Lib.hid hox
            clear hox
            go_wp2_with (first | (go_at_call 42; refine (Hkind.out _).mono ?_; rintro e w' ⟨rfl, rfl⟩) | (go_at_call 35; refine (outside_any _ _ _ _).mono ?_; rintro e w' ⟨rfl, rfl⟩; simp only [Hox.out]))
            go_round
            case rel => exact ⟨k + 1, by omega, by go_num, by rw [Hst.out]; simp⟩
            case measure => simp [intOf]; omega
          · have hz : (x != 0) = true := by simpa using hx
            have Hx := Lib.hid hx
            clear hx hox
            go_wp2_with (go_at_call 42; refine (Hkind.out _).mono ?_; rintro e w' ⟨rfl, rfl⟩)
            go_ret
            exact ⟨by rw [Hf.out, Hst.out, if_pos ⟨by simp, Hx.out⟩]; rfl, (Below.refl _ _).alloc (Nat.le_refl _) _⟩
        | true =>
          have h1 : ¬ ((true : Bool) = false ∧ x ≠ 0) := by simp
          have H1 := Lib.hid h1
          clear h1
          by_cases hx : x < -1000000000 ∨ 1000000000 < x
          · have hox2 : outsideB x (-1000000000) 1000000000 = true := by rw [hox]; simpa using hx
            have Hx := Lib.hid hx; have Hox := Lib.hid hox2
            clear hx hox hox2
            go_wp2_with (first | (go_at_call 42; refine (Hkind.out _).mono ?_; rintro e w' ⟨rfl, rfl⟩) | (go_at_call 35; refine (outside_any _ _ _ _).mono ?_; rintro e w' ⟨rfl, rfl⟩; simp only [Hox.out]))
            go_ret
            exact ⟨by rw [Hf.out, Hst.out, if_neg H1.out, if_pos Hx.out]; rfl, (Below.refl _ _).alloc (Nat.le_refl _) _⟩
          · have hox2 : outsideB x (-1000000000) 1000000000 = false := by rw [hox]; simp; omega
            have Hx := Lib.hid hx; have Hox := Lib.hid hox2
            clear hx hox hox2
            go_wp2_with (first | (go_at_call 42; refine (Hkind.out _).mono ?_; rintro e w' ⟨rfl, rfl⟩) | (go_at_call 35; refine (outside_any _ _ _ _).mono ?_; rintro e w' ⟨rfl, rfl⟩; simp only [Hox.out]))
            go_round
            case rel => exact ⟨k + 1, by omega, by go_num, by rw [Hst.out, if_neg H1.out, if_neg Hx.out]⟩
            case measure => simp [intOf]; omega
      · obtain rfl : k = 8 := by omega
        have Hgo := Lib.hid hgo
        clear hgo
        go_wp2
        go_ret
        exact ⟨by rw [Hf.out, ← Hgo.out, Hend.out 8 (by simp)]; rfl, (Below.refl _ _).alloc (Nat.le_refl _) _⟩
end Go.Proofs.Ytfbcdblgfhekpaa

/- The contracts of List and Count and of the reference's Kinds. -/
namespace Go.Proofs.Ytfbcdblgfhekpaa
open Go.RowKit

theorem ntz8_w (x : Nat) (h : x < 256) : wrap64 (Lib.ntz8 (x : Int)) = (Lib.trailingZeros8 x : Int) := by
  have e := Lib.ntz8_eq ⟨x, h⟩
  have l := Lib.trailingZeros8_le8 ⟨x, h⟩
  simp only at e l
  rw [e]
  exact IntWalk.wrap64_in _ ⟨by omega, by omega⟩
theorem pop8_w (x : Nat) (h : x < 256) : wrap64 (Lib.pop8 (x : Int)) = (Lib.onesCount x : Int) := by
  have e := Lib.pop8_eq ⟨x, h⟩
  have l := Lib.onesCount_le8 ⟨x, h⟩
  simp only at e l
  rw [e]
  exact IntWalk.wrap64_in _ ⟨by omega, by omega⟩
theorem own_ge {w : World} {B e size n : Nat} {v : Value} {xs : List Value} (h : w.ownsRow B e size v n xs) : ∀ k, v.ownBlock = some k → B ≤ k := by
  intro k hk
  rcases h.2 with ⟨rfl, _⟩ | ⟨g, cap, cur, rfl, hg, _⟩
  · cases hk
  · have : g = k := by simpa [Value.ownBlock] using hk
    omega

/-- The kinds in a set of 8 bits, rising. -/
def kindsTo (x n : Nat) : List Int := ((List.range n).filter fun k => x.testBit k).map fun (k : Nat) => (k : Int)
def kindsN (x : Nat) : List Int := kindsTo x 8
theorem kindsN_step : ∀ x : Fin 256, x.val ≠ 0 → kindsN x.val = (Lib.trailingZeros8 x.val : Int) :: kindsN (x.val &&& (x.val - 1)) := by decide +kernel
theorem and_less : ∀ x : Fin 256, x.val ≠ 0 → (x.val &&& (x.val - 1)) < x.val := by decide +kernel
theorem and_pred : ∀ x : Fin 256, x.val ≠ 0 → bits .and .u8 (x.val : Int) ((x.val : Int) - 1) = ((x.val &&& (x.val - 1) : Nat) : Int) := by decide +kernel
theorem ones_len : ∀ x : Fin 256, Lib.onesCount x.val = (kindsN x.val).length := by decide +kernel
theorem kindsN_zero : kindsN 0 = [] := by decide
theorem kindsTo_len (x n : Nat) : (kindsTo x n).length ≤ n := by
  simp only [kindsTo, List.length_map]
  exact Nat.le_trans (List.length_filter_le _ _) (by simp)
theorem kindsTo_succ (x n : Nat) : kindsTo x (n + 1) = kindsTo x n ++ (if x.testBit n = true then [(n : Int)] else []) := by
  simp only [kindsTo, List.range_succ, List.filter_append, List.map_append]
  congr 1
  cases h : x.testBit n <;> simp [h]
/-- The low 8 bits of a set. -/
def low8 (m : Int) : Nat := (m % 256).toNat
theorem low8_lt (m : Int) : low8 m < 256 := by unfold low8; omega
theorem wrap_u8_low8 (m : Int) : IntKind.u8.wrap m = (low8 m : Int) := by
  unfold low8
  simp only [IntKind.wrap, IntKind.bits, IntKind.signed, Bool.false_and]
  rw [if_neg (by decide)]
  omega

theorem info_int : (Try.prog.info? 3).map (fun i => (i.zero, i.size, i.bytes)) = some (some (.int .i64 0), 1, 8) := by kernel_rfl

/-- append of one integer onto a row of the call's own. -/
theorem app_int {w : World} {ops : Array Oper} {rest : List Oper} {o : Oper} {a : Act} {Q : Exit → Act → World → Prop} (hgd : o.guard = none) (s x : Operand)
    (ho : o.op = .call { callee := .builtin .append, args := #[s, x], argTypes := #[74, 74] }) (base : Nat) (v : Value) (l : List Int) (y : Int) (ad : Addr) (c : Nat)
    (hs : a.eval s = v) (hown : w.ownsRow base 3 1 v l.length (ints l)) (hx : a.eval x = .slice (some ad) 1 c) (hc : w.cell? ad = some (.int .i64 y))
    (hlen : l.length < 8796093022208) (hbase : base ≤ w.heap.size)
    (h : ∀ v' w', w'.ownsRow base 3 1 v' (l ++ [y]).length (ints (l ++ [y])) → Below base w w' → wpList Try.prog ops Q rest (a.put o.dst v') w') : wpList Try.prog ops Q (o :: rest) a w := by
  obtain ⟨i0, hi, hz0, hz1, hz2⟩ := info_parts info_int
  refine wpList_append_own w hgd s x 74 ho base 3 i0 (.int .i64 0) 1 8 Try.underlying74 hi hz0 hz1 hz2 rfl (by decide) v l.length (ints l) hs hown ad 1 c [.int .i64 y] hx rfl ?_ ?_ (by unfold maxLen; omega) (by omega) hbase ?_
  · intro j u hu
    match j, hu with
    | 0, hu => simp at hu; subst hu; exact hc
    | j + 1, hu => simp at hu
  · intro u hu; simp at hu; subst hu; rfl
  · intro v' w' h1 h2 _
    refine h v' w' (by simpa [ints] using h1) ((Below.refl base w).grown h2 hbase (own_ge hown))

/-- A slice of integers in new memory. -/
def MadeInts (B : Nat) (l : List Int) (w : World) (e : Ending) (w' : World) : Prop :=
  ∃ v, e = .returned v ∧ w'.ownsRow B 3 1 v l.length (ints l) ∧ Below B w w'

end Go.Proofs.Ytfbcdblgfhekpaa
