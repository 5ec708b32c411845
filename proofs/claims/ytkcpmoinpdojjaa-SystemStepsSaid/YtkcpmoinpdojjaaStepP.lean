/- What a system does to a beast, as plain lists: each value of the result by its source. -/
import Derived.Test.YtkcpmoinpdojjaaMod
import Derived.Test.YtkcpmoinpdojjaaList
import Derived.Test.YtkcpmoinpdojjaaBits
namespace Go.Proofs.Ytkcpmoinpdojjaa
open Go

def cutI (z : Int) : Int := if 1000000000 < z then 1000000000 else if z < -1000000000 then -1000000000 else z
/-- The value of source c: a value as it was, one with x to it, or the sum. -/
def srcV (vs : List Int) (x sum : Int) (c : Nat) : Int := if c < 8 then vs.getD c 0 else if c < 16 then cutI (vs.getD (c - 8) 0 + x) else cutI sum
def base8 : List Nat := [0, 1, 2, 3, 4, 5, 6, 7]
def natKinds (m n : Nat) : List Nat := (List.range n).filter fun k => m.testBit k
theorem kindsTo_nat (m n : Nat) : kindsTo m n = (natKinds m n).map fun (k : Nat) => (k : Int) := rfl
theorem natKinds_succ (m n : Nat) : natKinds m (n + 1) = natKinds m n ++ (if m.testBit n = true then [n] else []) := by
  unfold natKinds
  rw [List.range_succ, List.filter_append]
  congr 1
  cases h : m.testBit n <;> simp [h]
theorem natKinds_lt {m n k : Nat} (h : k ∈ natKinds m n) : k < n := by
  unfold natKinds at h
  have := (List.mem_filter.1 h).1
  simpa using this
/-- The program's round i. -/
def pStep (d : Int) (W : List Nat) (T : List Nat) (i : Nat) : List Nat :=
  if d = 1 then T.set (W.getD i 0) (W.getD i 0 + 8) else if d = 2 then T.set (W.getD i 0) 16 else if d = 3 then T.set (W.getD i 0) (W.getD ((i + 1) % W.length) 0) else T
def pRun (d : Int) (W : List Nat) (i : Nat) : List Nat := (List.range i).foldl (pStep d W) base8
theorem pRun_succ (d : Int) (W : List Nat) (i : Nat) : pRun d W (i + 1) = pStep d W (pRun d W i) i := by unfold pRun; rw [List.range_succ, List.foldl_append]; rfl
/-- The reference's first loop: the first and the last kind that is written, and the sources. -/
def rStep (d : Int) (m : Nat) (st : Int × Int × List Nat) (k : Nat) : Int × Int × List Nat :=
  if m.testBit k = true then (if st.1 < 0 then (k : Int) else st.1, (k : Int), if d = 1 then st.2.2.set k (k + 8) else if d = 3 then (if 0 ≤ st.2.1 then st.2.2.set st.2.1.toNat k else st.2.2) else st.2.2) else st
def rRun (d : Int) (m : Nat) (k : Nat) : Int × Int × List Nat := (List.range k).foldl (rStep d m) (-1, -1, base8)
theorem rRun_succ (d : Int) (m k : Nat) : rRun d m (k + 1) = rStep d m (rRun d m k) k := by unfold rRun; rw [List.range_succ, List.foldl_append]; rfl
def rEnd (d : Int) (st : Int × Int × List Nat) : List Nat := if d = 3 ∧ 0 ≤ st.2.1 then st.2.2.set st.2.1.toNat st.1.toNat else st.2.2
def sStep (d : Int) (m : Nat) (T : List Nat) (k : Nat) : List Nat := if d = 2 ∧ m.testBit k = true then T.set k 16 else T
def sRun (d : Int) (m : Nat) (T : List Nat) (k : Nat) : List Nat := (List.range k).foldl (sStep d m) T
theorem sRun_succ (d : Int) (m : Nat) (T : List Nat) (k : Nat) : sRun d m T (k + 1) = sStep d m (sRun d m T k) k := by unfold sRun; rw [List.range_succ, List.foldl_append]; rfl
theorem run_same1 : ∀ m : Fin 256, pRun 1 (natKinds m.val 8) (natKinds m.val 8).length = sRun 1 m.val (rEnd 1 (rRun 1 m.val 8)) 8 := by decide +kernel
theorem run_same2 : ∀ m : Fin 256, pRun 2 (natKinds m.val 8) (natKinds m.val 8).length = sRun 2 m.val (rEnd 2 (rRun 2 m.val 8)) 8 := by decide +kernel
theorem run_same3 : ∀ m : Fin 256, pRun 3 (natKinds m.val 8) (natKinds m.val 8).length = sRun 3 m.val (rEnd 3 (rRun 3 m.val 8)) 8 := by decide +kernel
/-- first and last are kinds, or -1 both. -/
theorem rRun_ends : ∀ m : Fin 256, ∀ k : Fin 9, (rRun 1 m.val k.val).1 = (rRun 3 m.val k.val).1 ∧ (rRun 1 m.val k.val).2.1 = (rRun 3 m.val k.val).2.1 ∧ (rRun 2 m.val k.val).1 = (rRun 3 m.val k.val).1 ∧ (rRun 2 m.val k.val).2.1 = (rRun 3 m.val k.val).2.1 ∧
    (((rRun 3 m.val k.val).1 = -1 ∧ (rRun 3 m.val k.val).2.1 = -1) ∨ (0 ≤ (rRun 3 m.val k.val).1 ∧ (rRun 3 m.val k.val).1 < 8 ∧ 0 ≤ (rRun 3 m.val k.val).2.1 ∧ (rRun 3 m.val k.val).2.1 < 8)) := by decide +kernel
/-- The sum that the kinds ks give. -/
def sumL (vs : List Int) (x : Int) (ks : List Nat) : Int := ks.foldl (fun s k => s + vs.getD k 0) x
theorem sumL_snoc (vs : List Int) (x : Int) (ks : List Nat) (k : Nat) : sumL vs x (ks ++ [k]) = sumL vs x ks + vs.getD k 0 := by simp [sumL]
theorem sumL_bound {vs : List Int} {x : Int} (hv : ∀ v ∈ vs, -1000000000 ≤ v ∧ v ≤ 1000000000) (ks : List Nat) : x - 1000000000 * ks.length ≤ sumL vs x ks ∧ sumL vs x ks ≤ x + 1000000000 * ks.length := by
  have hg : ∀ k, -1000000000 ≤ vs.getD k 0 ∧ vs.getD k 0 ≤ 1000000000 := by
    intro k
    rw [List.getD_eq_getElem?_getD]
    cases h : vs[k]? with
    | none => simp
    | some v => simpa using hv v (List.mem_of_getElem? h)
  unfold sumL
  induction ks generalizing x with
  | nil => simp
  | cons k ks ih =>
    have h := hg k
    have := @ih (x + vs.getD k 0)
    simp only [List.foldl_cons, List.length_cons]
    omega
/-- Bits of two masks. -/
theorem and_nat (m n : Nat) (hm : m < 256) (hn : n < 256) : bits .and .i64 (m : Int) (n : Int) = ((m &&& n : Nat) : Int) := by
  rw [bits_and]
  have e : BitVec.ofInt 64 (m : Int) &&& BitVec.ofInt 64 (n : Int) = BitVec.ofNat 64 (m &&& n) := by
    apply BitVec.eq_of_toNat_eq
    rw [BitVec.toNat_and, BitVec.ofInt_natCast, BitVec.ofInt_natCast, BitVec.toNat_ofNat, BitVec.toNat_ofNat, BitVec.toNat_ofNat, Nat.mod_eq_of_lt (by omega), Nat.mod_eq_of_lt (by omega), Nat.mod_eq_of_lt]
    have := Nat.and_le_left (n := m) (m := n)
    omega
  rw [e]
  have hle := Nat.and_le_left (n := m) (m := n)
  rw [BitVec.toInt_eq_toNat_of_lt (by rw [BitVec.toNat_ofNat]; omega), BitVec.toNat_ofNat, Nat.mod_eq_of_lt (by omega)]
theorem low8_nat (m : Nat) (h : m < 256) : low8 (m : Int) = m := by unfold low8; omega
theorem and_lt256 (m n : Nat) (h : m < 256) : m &&& n < 256 := by
  have := Nat.and_le_left (n := m) (m := n)
  omega
end Go.Proofs.Ytkcpmoinpdojjaa
