/- Bits of 64-bit integers: what '&', '|' and a single bit come to. -/
import Derived.WalkKit
namespace Go.Proofs.Ytkcpmoinpdojjaa
open Go

/-- A 64-bit integer. -/
def InR (m : Int) : Prop := -9223372036854775808 ≤ m ∧ m ≤ 9223372036854775807
/-- Its bits as a natural number. -/
def U (m : Int) : Nat := (BitVec.ofInt 64 m).toNat
/-- Bit k. -/
def bt (m : Int) (k : Nat) : Bool := (BitVec.ofInt 64 m).getLsbD k

theorem U_eq (m : Int) : (U m : Int) = m % 18446744073709551616 := by
  unfold U
  rw [BitVec.toNat_ofInt]
  simp
  omega
theorem U_lt (m : Int) : U m < 18446744073709551616 := (BitVec.ofInt 64 m).isLt
theorem wrap_u64_U (m : Int) : IntKind.u64.wrap m = (U m : Int) := by
  rw [U_eq]; simp [IntKind.wrap, IntKind.bits, IntKind.signed]
theorem bt_test (m : Int) (k : Nat) : bt m k = (U m).testBit k := rfl
theorem bt_div (m : Int) (k : Nat) : ((U m / 2 ^ k % 2 == 1) : Bool) = bt m k := by
  rw [bt_test, Nat.testBit_eq_decide_div_mod_eq]
  rw [Bool.eq_iff_iff]; simp

theorem wrap_toNat (x : BitVec 64) : IntKind.i64.wrap (x.toNat : Int) = x.toInt := by
  have h := x.isLt
  rw [BitVec.toInt_eq_toNat_cond]
  have e : (x.toNat : Int) % 2 ^ 64 = x.toNat := by omega
  simp only [IntKind.wrap, IntKind.bits, IntKind.signed, e, Bool.true_and, decide_eq_true_eq]
  by_cases h2 : 2 * x.toNat < 2 ^ 64
  · rw [if_neg (by omega), if_pos h2]
  · rw [if_pos (by omega), if_neg h2]
    norm_cast

theorem ofInt_inj {m n : Int} (hm : InR m) (hn : InR n) (h : BitVec.ofInt 64 m = BitVec.ofInt 64 n) : m = n := by
  have := congrArg BitVec.toInt h
  rw [BitVec.toInt_ofInt, BitVec.toInt_ofInt] at this
  unfold InR at *
  rw [Int.bmod_def, Int.bmod_def] at this
  split at this <;> split at this <;> omega

theorem toInt_inR (x : BitVec 64) : InR x.toInt := by
  have h1 := BitVec.toInt_lt (x := x)
  have h2 := BitVec.le_toInt (x := x)
  unfold InR
  simp at h1 h2
  omega

theorem bits_and (m n : Int) : bits .and .i64 m n = (BitVec.ofInt 64 m &&& BitVec.ofInt 64 n).toInt := wrap_toNat _
theorem bits_or (m n : Int) : bits .or .i64 m n = (BitVec.ofInt 64 m ||| BitVec.ofInt 64 n).toInt := wrap_toNat _
theorem bits_andNot (m n : Int) : bits .andNot .i64 m n = (BitVec.ofInt 64 m &&& ~~~BitVec.ofInt 64 n).toInt := wrap_toNat _
theorem bits_and_inR (m n : Int) : InR (bits .and .i64 m n) := by rw [bits_and]; exact toInt_inR _
theorem bits_or_inR (m n : Int) : InR (bits .or .i64 m n) := by rw [bits_or]; exact toInt_inR _

theorem bt_toInt (x : BitVec 64) (k : Nat) : bt x.toInt k = x.getLsbD k := by unfold bt; rw [BitVec.ofInt_toInt]
theorem bt_and (m n : Int) (k : Nat) : bt (bits .and .i64 m n) k = (bt m k && bt n k) := by
  rw [bits_and, bt_toInt, BitVec.getLsbD_and]; rfl
theorem bt_or (m n : Int) (k : Nat) : bt (bits .or .i64 m n) k = (bt m k || bt n k) := by
  rw [bits_or, bt_toInt, BitVec.getLsbD_or]; rfl
theorem bt_ext {m n : Int} (hm : InR m) (hn : InR n) (h : ∀ k, k < 64 → bt m k = bt n k) : m = n :=
  ofInt_inj hm hn (BitVec.eq_of_getLsbD_eq h)
theorem bt_zero (k : Nat) : bt 0 k = false := by
  unfold bt
  have : BitVec.ofInt 64 0 = 0#64 := rfl
  rw [this]
  simp

theorem and_eq_iff {m n : Int} (hn : InR n) : bits .and .i64 m n = n ↔ ∀ k, k < 64 → bt n k = true → bt m k = true := by
  constructor
  · intro h k _ hk
    have := bt_and m n k
    rw [h, hk] at this
    simpa using this.symm
  · intro h
    refine bt_ext (bits_and_inR _ _) hn fun k hk => ?_
    rw [bt_and]
    cases hb : bt n k with
    | false => simp
    | true => simp [h k hk hb]
theorem and_zero_iff {m n : Int} : bits .and .i64 m n = 0 ↔ ∀ k, k < 64 → (bt m k && bt n k) = false := by
  constructor
  · intro h k _
    rw [← bt_and, h, bt_zero]
  · intro h
    refine bt_ext (bits_and_inR _ _) (by unfold InR; omega) fun k hk => ?_
    rw [bt_and, h k hk, bt_zero]
theorem zero_iff {n : Int} (hn : InR n) : n = 0 ↔ ∀ k, k < 64 → bt n k = false := by
  constructor
  · rintro rfl k _; exact bt_zero k
  · intro h
    exact bt_ext hn (by unfold InR; omega) fun k hk => by rw [h k hk, bt_zero]

/-- The program's Matches. -/
def matchesB (m n t a : Int) : Bool := (bits .and .i64 m n == n) && (bits .and .i64 m t == 0) && (a == 0 || bits .and .i64 m a != 0)
/-- The reference's, up to bit k: no bit of the first k is wrong. -/
def okTo (m n t : Int) (k : Nat) : Bool := (List.range k).all fun j => !((bt n j && !bt m j) || (bt t j && bt m j))
def anyTo (m a : Int) (k : Nat) : Bool := (a == 0) || (List.range k).any fun j => bt a j && bt m j

theorem okTo_succ (m n t : Int) (k : Nat) : okTo m n t (k + 1) = (okTo m n t k && !((bt n k && !bt m k) || (bt t k && bt m k))) := by
  simp [okTo, List.range_succ]
theorem anyTo_succ (m a : Int) (k : Nat) : anyTo m a (k + 1) = (anyTo m a k || (bt a k && bt m k)) := by
  simp [anyTo, List.range_succ, Bool.or_assoc]
theorem okTo_false {m n t : Int} {k j : Nat} (h : okTo m n t k = false) (hj : k ≤ j) : okTo m n t j = false := by
  induction hj with
  | refl => exact h
  | step _ ih => rw [okTo_succ, ih]; rfl

theorem matches_eq {m n t a : Int} (hn : InR n) : matchesB m n t a = (okTo m n t 64 && anyTo m a 64) := by
  rw [Bool.eq_iff_iff]
  simp only [matchesB, okTo, anyTo, Bool.and_eq_true, Bool.or_eq_true, beq_iff_eq, bne_iff_ne, List.all_eq_true, List.mem_range, List.any_eq_true]
  rw [and_eq_iff hn, and_zero_iff, Ne, and_zero_iff]
  constructor
  · rintro ⟨⟨h1, h2⟩, h3⟩
    refine ⟨fun k hk => ?_, ?_⟩
    · have a1 := h1 k hk
      have a2 := h2 k hk
      cases hb : bt n k <;> cases hc : bt m k <;> cases hd : bt t k <;> simp_all
    · refine h3.imp id fun h => ?_
      apply Classical.byContradiction
      intro hno
      apply h
      intro k hk
      cases hb : bt m k <;> cases hc : bt a k <;> try rfl
      exact absurd ⟨k, hk, hc, hb⟩ hno
  · rintro ⟨h1, h3⟩
    refine ⟨⟨fun k hk hb => ?_, fun k hk => ?_⟩, ?_⟩
    · have := h1 k hk
      cases hc : bt m k
      · simp [hb, hc] at this
      · rfl
    · have := h1 k hk
      cases hc : bt m k <;> cases hd : bt t k <;> simp_all
    · refine h3.imp id fun h => ?_
      obtain ⟨k, hk, hc, hb⟩ := h
      intro hno
      have := hno k hk
      simp [hb, hc] at this
end Go.Proofs.Ytkcpmoinpdojjaa
