/- The contract of Plan. -/
import Derived.Test.YthbbjbcojhljfaaClash
namespace Go.Proofs.Ythbbjbcojhljfaa
open Go.RowKit

def Sy.e (p : Sy) : Int := sysE p.n p.t p.a p.r p.s p.d p.x
/-- The first system that may not be. -/
def firstE : List Sy → Int
  | [] => 0
  | p :: l => if p.e ≠ 0 then p.e else firstE l
theorem firstE_drop (l : List Sy) (k : Nat) (h : k < l.length) : firstE (l.drop k) = if l[k].e ≠ 0 then l[k].e else firstE (l.drop (k + 1)) := by
  rw [List.drop_eq_getElem_cons h, firstE]
def sysCells (l : List Sy) : List Value := ints (l.flatMap Sy.cells)


/-- The level of a system behind k others: c: which of them clash, x: their levels. -/
def lvlTo (c : Nat → Bool) (x : Nat → Int) : Nat → Int
  | 0 => 0
  | k + 1 => if c k = true then max (lvlTo c x k) (x k + 1) else lvlTo c x k
/-- The levels of the first systems. -/
def planTo (l : List Sy) : Nat → List Int
  | 0 => []
  | i + 1 => planTo l i ++ [lvlTo (fun k => match l[i]?, l[k]? with | some p, some q => clashB p q | _, _ => false) (fun k => (planTo l i).getD k 0) i]
def lvlAt (l : List Sy) (i k : Nat) : Int := lvlTo (fun k => match l[i]?, l[k]? with | some p, some q => clashB p q | _, _ => false) (fun k => (planTo l i).getD k 0) k
theorem planTo_succ (l : List Sy) (i : Nat) : planTo l (i + 1) = planTo l i ++ [lvlAt l i i] := rfl
theorem planTo_len (l : List Sy) : ∀ i, (planTo l i).length = i
  | 0 => rfl
  | i + 1 => by rw [planTo_succ, List.length_append, planTo_len l i]; rfl
theorem lvlAt_zero (l : List Sy) (i : Nat) : lvlAt l i 0 = 0 := rfl
theorem lvlAt_succ (l : List Sy) (i k : Nat) (hi : i < l.length) (hk : k < l.length) :
    lvlAt l i (k + 1) = if clashB l[i] l[k] = true then max (lvlAt l i k) ((planTo l i).getD k 0 + 1) else lvlAt l i k := by
  unfold lvlAt
  rw [lvlTo]
  simp only [List.getElem?_eq_getElem hi, List.getElem?_eq_getElem hk]
theorem lvl_bound (c : Nat → Bool) (x : Nat → Int) (b : Int) (hb : 0 ≤ b) (hx : ∀ j, 0 ≤ x j ∧ x j + 1 ≤ b) : ∀ k, 0 ≤ lvlTo c x k ∧ lvlTo c x k ≤ b
  | 0 => ⟨Int.le_refl _, hb⟩
  | k + 1 => by
    have h1 := lvl_bound c x b hb hx k
    have h2 := hx k
    rw [lvlTo]
    split
    · omega
    · exact h1
theorem getD_bound (L : List Int) (b : Int) (h : ∀ y ∈ L, 0 ≤ y ∧ y ≤ b) (hb : 0 ≤ b) (k : Nat) : 0 ≤ L.getD k 0 ∧ L.getD k 0 ≤ b := by
  rw [List.getD_eq_getElem?_getD]
  cases hk : L[k]? with
  | none => exact ⟨Int.le_refl _, hb⟩
  | some y => exact h y (List.mem_of_getElem? hk)
theorem planTo_bound (l : List Sy) : ∀ i, ∀ y ∈ planTo l i, 0 ≤ y ∧ y ≤ i
  | 0, y, h => by simp [planTo] at h
  | i + 1, y, h => by
    have ih := planTo_bound l i
    rw [planTo_succ, List.mem_append] at h
    rcases h with h | h
    · have := ih y h; omega
    · have : y = lvlAt l i i := by simpa using h
      subst this
      have hb := lvl_bound (fun k => match l[i]?, l[k]? with | some p, some q => clashB p q | _, _ => false) (fun k => (planTo l i).getD k 0) (i + 1) (by omega)
        (fun j => by have := getD_bound (planTo l i) i ih (by omega) j; omega) i
      unfold lvlAt
      omega
theorem lvlAt_bound (l : List Sy) (i k : Nat) : 0 ≤ lvlAt l i k ∧ lvlAt l i k ≤ i + 1 := by
  have ih := planTo_bound l i
  exact lvl_bound _ _ (i + 1) (by omega) (fun j => by have := getD_bound (planTo l i) i ih (by omega) j; omega) k

def planE (l : List Sy) : Int := if 20 < l.length then 2 else firstE l
def planL (l : List Sy) : List Int := if planE l = 0 then planTo l l.length else []
/-- What Plan returns. -/
def PlanPost (l : List Sy) (w : World) (e : Ending) (w' : World) : Prop :=
  ∃ v, e = .returned (.tuple #[v, .int .i64 (planE l)]) ∧ w'.ownsRow w.heap.size 3 1 v (planL l).length (ints (planL l)) ∧ Below w.heap.size w w'
theorem planPost_err {l : List Sy} {w w' : World} {q : Int} (hq : planE l = q) (hne : q ≠ 0) (hb : Below w.heap.size w w') :
    PlanPost l w (.returned (.tuple #[.slice none 0 0, .int .i64 q])) w' := by
  have : planL l = [] := by unfold planL; rw [if_neg (by rw [hq]; exact hne)]
  exact ⟨.slice none 0 0, by rw [hq], by rw [this]; exact ⟨rfl, .inl ⟨rfl, rfl⟩⟩, hb⟩

theorem sys_many (A : Option Addr) (c : Nat) (l : List Sy) (w : World) (hl : 20 < l.length) (hl2 : l.length ≤ 9223372036854775807) :
    Calls Try.prog 37 #[.slice A l.length c] w (PlanPost l w) := by
  have hp := planPost_err (w := w) (w' := w) (show planE l = 2 by unfold planE; rw [if_pos hl]) (by decide) (Below.refl _ _)
  have HP := Lib.hid hp
  clear hp
  go_enter Try.func37, Try.ntmps37
  go_wp2
  go_ret2
  exact HP.out

set_option maxHeartbeats 1000000 in
theorem plan_bad (A : Option Addr) (c : Nat) (l : List Sy) (w : World) (hl : l.length ≤ 20) (hA : Lies w w.heap.size A (sysCells l)) (hbad : firstE l ≠ 0) :
    Calls Try.prog 37 #[.slice A l.length c] w (PlanPost l w) := by
  have hp := fun w' (h : Below w.heap.size w w') => planPost_err (w := w) (w' := w') (show planE l = firstE l by unfold planE; rw [if_neg (by omega)]) hbad h
  have HP := Lib.hid hp
  have Hbad := Lib.hid hbad
  clear hp hbad
  go_enter Try.func37, Try.ntmps37
  go_wp2
  go_loopw [16] (fun i wr => ∃ k : Nat, k ≤ l.length ∧ i = .int .i64 k ∧ firstE (l.drop k) = firstE l ∧ Below w.heap.size w wr) (fun i _ => l.length - (intOf i).toNat)
  case atStart => exact ⟨0, by omega, rfl, rfl, Below.refl _ _⟩
  case round =>
    obtain ⟨k, hk, rfl, hgo, hbel⟩ := hrel
    by_cases hlt : k < l.length
    · obtain ⟨a, rfl, hb, hc⟩ := ((hA.below hbel).mono hbel.size).elem Sy.cells_len (by omega) hlt
      have hst := firstE_drop l k hlt
      generalize l[k] = p at *
      obtain ⟨n, t, s0, r, s, d, x⟩ := p
      have hck := fun w => sysCheck_any n t s0 r s d x w
      have he : Sy.e ⟨n, t, s0, r, s, d, x⟩ = sysE n t s0 r s d x := rfl
      rw [he, hgo] at hst
      clear he
      generalize sysE n t s0 r s d x = q at *
      have Hc := Lib.hid hc
      have Hst := Lib.hid hst
      have HA := Lib.hid hA
      have Hgo := Lib.hid hgo
      have Hck := Lib.hid hck
      have hsz := hbel.size
      clear hc hst hA hgo hck
      by_cases hq : q = 0
      · subst hq
        go_wp2_with (first | (refine wpList_load_flat rfl 39 _ rfl _ rfl [.int .i64 n, .int .i64 t, .int .i64 s0, .int .i64 r, .int .i64 s, .int .i64 d, .int .i64 x] _ Try.underlying39 rfl (by kernel_rfl) Hc.out ?_) | (go_at_call 31; refine (Hck.out _).mono ?_; rintro e w1 ⟨rfl, hb1⟩))
        go_roundw
        case rel => exact ⟨k + 1, by omega, by go_num, by rw [Hst.out]; simp, (hbel.alloc hsz _).trans (hb1.mono (by simp; omega))⟩
        case measure => simp [intOf]; omega
      · have hq' : (q != 0) = true := by simpa using hq
        have Hq := Lib.hid hq
        clear hq
        go_wp2_with (first | (refine wpList_load_flat rfl 39 _ rfl _ rfl [.int .i64 n, .int .i64 t, .int .i64 s0, .int .i64 r, .int .i64 s, .int .i64 d, .int .i64 x] _ Try.underlying39 rfl (by kernel_rfl) Hc.out ?_) | (go_at_call 31; refine (Hck.out _).mono ?_; rintro e w1 ⟨rfl, hb1⟩))
        go_ret2
        have hfin := HP.out w1 ((hbel.alloc hsz _).trans (hb1.mono (by simp; omega)))
        rw [Hst.out, if_pos Hq.out] at hfin
        exact hfin
    · exfalso
      have : firstE l = 0 := by rw [← hgo, List.drop_eq_nil_of_le (by omega)]; rfl
      exact Hbad.out this
end Go.Proofs.Ythbbjbcojhljfaa
