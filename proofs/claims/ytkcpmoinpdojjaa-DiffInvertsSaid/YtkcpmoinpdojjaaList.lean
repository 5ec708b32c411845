/- The contracts of List and Count and of the reference's Kinds. -/
import Derived.Test.YtkcpmoinpdojjaaBeast
import Derived.Lib.BitFns
import Derived.Lib.Strings
import Derived.Lib.Slices
import Derived.Lib.Small
import Derived.Lib.Walk
namespace Go.Proofs.Ytkcpmoinpdojjaa
open Go.RowKit

theorem ntz8_w (x : Nat) (h : x < 256) : wrap64 (Lib.ntz8 (x : Int)) = (Lib.trailingZeros8 x : Int) := by
  have e := Lib.ntz8_eq ⟨x, h⟩
  have l := Lib.trailingZeros8_le8 ⟨x, h⟩
  simp only at e l
  rw [e]
  exact IntWalk.wrap64_in _ ⟨by omega, by omega⟩
theorem pop8_w (x : Nat) (h : x < 256) : wrap64 (Lib.pop8 (x : Int)) = (Lib.onesCount x : Int) := by
  have e := Lib.pop8_eq ⟨x, h⟩
  have l := Lib.onesCount_le8 ⟨x, h⟩
  simp only at e l
  rw [e]
  exact IntWalk.wrap64_in _ ⟨by omega, by omega⟩
set_option maxRecDepth 100000 in
set_option maxHeartbeats 1000000 in
theorem ntz8_int (x : Int) (h0 : 0 ≤ x) (h1 : x ≤ 255) (w : World) :
    Calls Try.prog 132 #[.int .u8 x] w fun e w' => e = .returned (.int .i64 (wrap64 (Lib.ntz8 x))) ∧ w = w' := by
  go_enter Try.func132, Try.ntmps132
  go_wp2
  go_ret
  exact ⟨rfl, rfl⟩
theorem ntz8_any (x : Nat) (h : x < 256) (w : World) :
    Calls Try.prog 132 #[.int .u8 x] w fun e w' => e = .returned (.int .i64 (Lib.trailingZeros8 x)) ∧ w = w' := by
  rw [← ntz8_w x h]
  exact ntz8_int x (by omega) (by omega) w
theorem own_ge {w : World} {B e size n : Nat} {v : Value} {xs : List Value} (h : w.ownsRow B e size v n xs) : ∀ k, v.ownBlock = some k → B ≤ k := by
  intro k hk
  rcases h.2 with ⟨rfl, _⟩ | ⟨g, cap, cur, rfl, hg, _⟩
  · cases hk
  · have : g = k := by simpa [Value.ownBlock] using hk
    omega

/-- The kinds in a set of 8 bits, rising. -/
def kindsTo (x n : Nat) : List Int := ((List.range n).filter fun k => x.testBit k).map fun (k : Nat) => (k : Int)
def kindsN (x : Nat) : List Int := kindsTo x 8
theorem kindsN_step : ∀ x : Fin 256, x.val ≠ 0 → kindsN x.val = (Lib.trailingZeros8 x.val : Int) :: kindsN (x.val &&& (x.val - 1)) := by decide +kernel
theorem and_less : ∀ x : Fin 256, x.val ≠ 0 → (x.val &&& (x.val - 1)) < x.val := by decide +kernel
theorem and_pred : ∀ x : Fin 256, x.val ≠ 0 → bits .and .u8 (x.val : Int) ((x.val : Int) - 1) = ((x.val &&& (x.val - 1) : Nat) : Int) := by decide +kernel
theorem ones_len : ∀ x : Fin 256, Lib.onesCount x.val = (kindsN x.val).length := by decide +kernel
theorem kindsN_zero : kindsN 0 = [] := by decide
theorem kindsTo_len (x n : Nat) : (kindsTo x n).length ≤ n := by
  simp only [kindsTo, List.length_map]
  exact Nat.le_trans (List.length_filter_le _ _) (by simp)
theorem kindsTo_succ (x n : Nat) : kindsTo x (n + 1) = kindsTo x n ++ (if x.testBit n = true then [(n : Int)] else []) := by
  simp only [kindsTo, List.range_succ, List.filter_append, List.map_append]
  congr 1
  cases h : x.testBit n <;> simp [h]
/-- The low 8 bits of a set. -/
def low8 (m : Int) : Nat := (m % 256).toNat
theorem low8_lt (m : Int) : low8 m < 256 := by unfold low8; omega
theorem wrap_u8_low8 (m : Int) : IntKind.u8.wrap m = (low8 m : Int) := by
  unfold low8
  simp only [IntKind.wrap, IntKind.bits, IntKind.signed, Bool.false_and]
  rw [if_neg (by decide)]
  omega

theorem info_int : (Try.prog.info? 3).map (fun i => (i.zero, i.size, i.bytes)) = some (some (.int .i64 0), 1, 8) := by kernel_rfl

/-- append of one integer onto a row of the call's own. -/
theorem app_int {w : World} {ops : Array Oper} {rest : List Oper} {o : Oper} {a : Act} {Q : Exit → Act → World → Prop} (hgd : o.guard = none) (s x : Operand)
    (ho : o.op = .call { callee := .builtin .append, args := #[s, x], argTypes := #[55, 55] }) (base : Nat) (v : Value) (l : List Int) (y : Int) (ad : Addr) (c : Nat)
    (hs : a.eval s = v) (hown : w.ownsRow base 3 1 v l.length (ints l)) (hx : a.eval x = .slice (some ad) 1 c) (hc : w.cell? ad = some (.int .i64 y))
    (hlen : l.length < 8796093022208) (hbase : base ≤ w.heap.size)
    (h : ∀ v' w', w'.ownsRow base 3 1 v' (l ++ [y]).length (ints (l ++ [y])) → Below base w w' → wpList Try.prog ops Q rest (a.put o.dst v') w') : wpList Try.prog ops Q (o :: rest) a w := by
  obtain ⟨i0, hi, hz0, hz1, hz2⟩ := info_parts info_int
  refine wpList_append_own w hgd s x 55 ho base 3 i0 (.int .i64 0) 1 8 Try.underlying55 hi hz0 hz1 hz2 rfl (by decide) v l.length (ints l) hs hown ad 1 c [.int .i64 y] hx rfl ?_ ?_ (by unfold maxLen; omega) (by omega) hbase ?_
  · intro j u hu
    match j, hu with
    | 0, hu => simp at hu; subst hu; exact hc
    | j + 1, hu => simp at hu
  · intro u hu; simp at hu; subst hu; rfl
  · intro v' w' h1 h2 _
    refine h v' w' (by simpa [ints] using h1) ((Below.refl base w).grown h2 hbase (own_ge hown))

/-- A slice of integers in new memory. -/
def MadeInts (B : Nat) (l : List Int) (w : World) (e : Ending) (w' : World) : Prop :=
  ∃ v, e = .returned v ∧ w'.ownsRow B 3 1 v l.length (ints l) ∧ Below B w w'

set_option maxHeartbeats 1000000 in
theorem list_any (m : Int) (w : World) : Calls Try.prog 69 #[.int .i64 m] w (MadeInts w.heap.size (kindsN (low8 m)) w) := by
  have hw := wrap_u8_low8 m
  have hlt := low8_lt m
  generalize low8 m = X at *
  go_enter Try.func69, Try.ntmps69
  go_wp2
  go_loopw [3, 4] (fun v b wr => ∃ (l : List Int) (x : Nat), x < 256 ∧ b = .int .u8 x ∧ l ++ kindsN x = kindsN X ∧ wr.ownsRow w.heap.size 3 1 v l.length (ints l) ∧ Below w.heap.size w wr) (fun _ b _ => (intOf b).toNat)
  case atStart => exact ⟨[], X, hlt, rfl, rfl, ⟨rfl, .inl ⟨rfl, rfl⟩⟩, Below.refl _ _⟩
  case round =>
    obtain ⟨l, x, hx, rfl, hl, hown, hbel⟩ := hrel
    have hlen : l.length ≤ 8 := by
      have h1 := congrArg List.length hl
      have h2 := kindsTo_len X 8
      rw [List.length_append] at h1
      unfold kindsN at *
      omega
    clear hw hlt
    by_cases hz : x = 0
    · subst hz
      have hl2 : l = kindsN X := by rw [← hl, kindsN_zero, List.append_nil]
      have Hl := Lib.hid hl2
      clear hl hl2
      go_wp2
      go_ret
      exact ⟨_, rfl, by rw [← Hl.out]; exact hown, hbel⟩
    · have hst := kindsN_step ⟨x, hx⟩ hz
      have hle := and_less ⟨x, hx⟩ hz
      have hpr := and_pred ⟨x, hx⟩ hz
      simp only [] at hst hle hpr
      rw [hst] at hl
      generalize hy : (Lib.trailingZeros8 x : Int) = y at *
      generalize x &&& (x - 1) = x2 at *
      have hnx := ntz8_any x hx
      rw [hy] at hnx
      have Hl := Lib.hid hl; have Hnx := Lib.hid hnx
      clear hl hst hy hnx
      have hz' : ((x : Int) != 0) = true := by simpa using hz
      have hxp : 1 ≤ (x : Int) := by omega
      clear hz
      have hsz := hbel.size
      go_wp2_with (first | (go_at_call 132; refine (Hnx.out _).mono ?_; rintro e w' ⟨rfl, rfl⟩) | (at_builtin; refine app_int rfl _ _ rfl w.heap.size _ l y ⟨wr.heap.size, 0, none⟩ 1 rfl (hown.alloc _) rfl (by simp) (by omega) (by simp; omega) ?_; intro v' w1 hown2 hb1))
      go_roundw
      case rel => exact ⟨l ++ [y], x2, by omega, rfl, by rw [← Hl.out]; simp, hown2, (hbel.alloc hsz _).trans hb1⟩
      case measure => simp [intOf]; omega

end Go.Proofs.Ytkcpmoinpdojjaa
