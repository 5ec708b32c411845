import Derived.Test.YtfbcdblgfhekpaaDiffBetweensJ4
import Derived.Test.YtfbcdblgfhekpaaDiffBetweensJ3
import Derived.Test.YtfbcdblgfhekpaaDiffBetweensJ1
import Derived.Test.YtfbcdblgfhekpaaDiffBetweensJ12
import Derived.Test.YtfbcdblgfhekpaaDiffBetweensJ9
import Derived.Lib.LazyBuf
import Derived.Maps.Range
/- What a system does to a beast, as plain lists: each value of the result by its source. -/
namespace Go.Proofs.Ytfbcdblgfhekpaa
open Go

def cutI (z : Int) : Int := if 1000000000 < z then 1000000000 else if z < -1000000000 then -1000000000 else z
/-- The value of source c: a value as it was, one with x to it, or the sum. -/
def srcV (vs : List Int) (x sum : Int) (c : Nat) : Int := if c < 8 then vs.getD c 0 else if c < 16 then cutI (vs.getD (c - 8) 0 + x) else cutI sum
def base8 : List Nat := [0, 1, 2, 3, 4, 5, 6, 7]
def natKinds (m n : Nat) : List Nat := (List.range n).filter fun k => m.testBit k
theorem kindsTo_nat (m n : Nat) : kindsTo m n = (natKinds m n).map fun (k : Nat) => (k : Int) := rfl
theorem natKinds_succ (m n : Nat) : natKinds m (n + 1) = natKinds m n ++ (if m.testBit n = true then [n] else []) := by
  unfold natKinds
  rw [List.range_succ, List.filter_append]
  congr 1
  cases h : m.testBit n <;> simp [h]
theorem natKinds_lt {m n k : Nat} (h : k ∈ natKinds m n) : k < n := by
  unfold natKinds at h
  have := (List.mem_filter.1 h).1
  simpa using this
/-- The program's round i. -/
def pStep (d : Int) (W : List Nat) (T : List Nat) (i : Nat) : List Nat :=
  if d = 1 then T.set (W.getD i 0) (W.getD i 0 + 8) else if d = 2 then T.set (W.getD i 0) 16 else if d = 3 then T.set (W.getD i 0) (W.getD ((i + 1) % W.length) 0) else T
def pRun (d : Int) (W : List Nat) (i : Nat) : List Nat := (List.range i).foldl (pStep d W) base8
theorem pRun_succ (d : Int) (W : List Nat) (i : Nat) : pRun d W (i + 1) = pStep d W (pRun d W i) i := by unfold pRun; rw [List.range_succ, List.foldl_append]; rfl
/-- The reference's first loop: the first and the last kind that is written, and the sources. -/
def rStep (d : Int) (m : Nat) (st : Int × Int × List Nat) (k : Nat) : Int × Int × List Nat :=
  if m.testBit k = true then (if st.1 < 0 then (k : Int) else st.1, (k : Int), if d = 1 then st.2.2.set k (k + 8) else if d = 3 then (if 0 ≤ st.2.1 then st.2.2.set st.2.1.toNat k else st.2.2) else st.2.2) else st
def rRun (d : Int) (m : Nat) (k : Nat) : Int × Int × List Nat := (List.range k).foldl (rStep d m) (-1, -1, base8)
theorem rRun_succ (d : Int) (m k : Nat) : rRun d m (k + 1) = rStep d m (rRun d m k) k := by unfold rRun; rw [List.range_succ, List.foldl_append]; rfl
def rEnd (d : Int) (st : Int × Int × List Nat) : List Nat := if d = 3 ∧ 0 ≤ st.2.1 then st.2.2.set st.2.1.toNat st.1.toNat else st.2.2
def sStep (d : Int) (m : Nat) (T : List Nat) (k : Nat) : List Nat := if d = 2 ∧ m.testBit k = true then T.set k 16 else T
def sRun (d : Int) (m : Nat) (T : List Nat) (k : Nat) : List Nat := (List.range k).foldl (sStep d m) T
theorem sRun_succ (d : Int) (m : Nat) (T : List Nat) (k : Nat) : sRun d m T (k + 1) = sStep d m (sRun d m T k) k := by unfold sRun; rw [List.range_succ, List.foldl_append]; rfl
theorem run_same1 : ∀ m : Fin 256, pRun 1 (natKinds m.val 8) (natKinds m.val 8).length = sRun 1 m.val (rEnd 1 (rRun 1 m.val 8)) 8 := by decide +kernel
theorem run_same2 : ∀ m : Fin 256, pRun 2 (natKinds m.val 8) (natKinds m.val 8).length = sRun 2 m.val (rEnd 2 (rRun 2 m.val 8)) 8 := by decide +kernel
theorem run_same3 : ∀ m : Fin 256, pRun 3 (natKinds m.val 8) (natKinds m.val 8).length = sRun 3 m.val (rEnd 3 (rRun 3 m.val 8)) 8 := by decide +kernel
/-- first and last are kinds, or -1 both. -/
theorem rRun_ends : ∀ m : Fin 256, ∀ k : Fin 9, (rRun 1 m.val k.val).1 = (rRun 3 m.val k.val).1 ∧ (rRun 1 m.val k.val).2.1 = (rRun 3 m.val k.val).2.1 ∧ (rRun 2 m.val k.val).1 = (rRun 3 m.val k.val).1 ∧ (rRun 2 m.val k.val).2.1 = (rRun 3 m.val k.val).2.1 ∧
    (((rRun 3 m.val k.val).1 = -1 ∧ (rRun 3 m.val k.val).2.1 = -1) ∨ (0 ≤ (rRun 3 m.val k.val).1 ∧ (rRun 3 m.val k.val).1 < 8 ∧ 0 ≤ (rRun 3 m.val k.val).2.1 ∧ (rRun 3 m.val k.val).2.1 < 8)) := by decide +kernel
/-- The sum that the kinds ks give. -/
def sumL (vs : List Int) (x : Int) (ks : List Nat) : Int := ks.foldl (fun s k => s + vs.getD k 0) x
theorem sumL_snoc (vs : List Int) (x : Int) (ks : List Nat) (k : Nat) : sumL vs x (ks ++ [k]) = sumL vs x ks + vs.getD k 0 := by simp [sumL]
theorem sumL_bound {vs : List Int} {x : Int} (hv : ∀ v ∈ vs, -1000000000 ≤ v ∧ v ≤ 1000000000) (ks : List Nat) : x - 1000000000 * ks.length ≤ sumL vs x ks ∧ sumL vs x ks ≤ x + 1000000000 * ks.length := by
  have hg : ∀ k, -1000000000 ≤ vs.getD k 0 ∧ vs.getD k 0 ≤ 1000000000 := by
    intro k
    rw [List.getD_eq_getElem?_getD]
    cases h : vs[k]? with
    | none => simp
    | some v => simpa using hv v (List.mem_of_getElem? h)
  unfold sumL
  induction ks generalizing x with
  | nil => simp
  | cons k ks ih =>
    have h := hg k
    have := @ih (x + vs.getD k 0)
    simp only [List.foldl_cons, List.length_cons]
    omega
/-- Bits of two masks. -/
theorem and_nat (m n : Nat) (hm : m < 256) (hn : n < 256) : bits .and .i64 (m : Int) (n : Int) = ((m &&& n : Nat) : Int) := by
  rw [bits_and]
  have e : BitVec.ofInt 64 (m : Int) &&& BitVec.ofInt 64 (n : Int) = BitVec.ofNat 64 (m &&& n) := by
    apply BitVec.eq_of_toNat_eq
    rw [BitVec.toNat_and, BitVec.ofInt_natCast, BitVec.ofInt_natCast, BitVec.toNat_ofNat, BitVec.toNat_ofNat, BitVec.toNat_ofNat, Nat.mod_eq_of_lt (by omega), Nat.mod_eq_of_lt (by omega), Nat.mod_eq_of_lt]
    have := Nat.and_le_left (n := m) (m := n)
    omega
  rw [e]
  have hle := Nat.and_le_left (n := m) (m := n)
  rw [BitVec.toInt_eq_toNat_of_lt (by rw [BitVec.toNat_ofNat]; omega), BitVec.toNat_ofNat, Nat.mod_eq_of_lt (by omega)]
theorem low8_nat (m : Nat) (h : m < 256) : low8 (m : Int) = m := by unfold low8; omega
theorem and_lt256 (m n : Nat) (h : m < 256) : m &&& n < 256 := by
  have := Nat.and_le_left (n := m) (m := n)
  omega
end Go.Proofs.Ytfbcdblgfhekpaa

/- Tables in memory. -/
namespace Go.Proofs.Ytfbcdblgfhekpaa
open Go Go.RowKit

/-- The value of kind k. -/
def valK (k : Nat) (b : Bt) : Int := (btI b).getD (k + 1) 0
def updL {α : Type} (f : Nat → α) (k : Nat) (x : α) : Nat → α := fun j => if j = k then x else f j
theorem updL_same {α : Type} (f : Nat → α) (k : Nat) (x : α) : updL f k x k = x := by simp [updL]
theorem updL_ne {α : Type} (f : Nat → α) {k j : Nat} (x : α) (h : j ≠ k) : updL f k x j = f j := by simp [updL, h]
theorem kind_inj {cs : List (Nat × Nat)} (hn : (cs.map (·.1)).Nodup) {kc kd : Nat × Nat} (h1 : kc ∈ cs) (h2 : kd ∈ cs) (e : kc.1 = kd.1) : kc = kd := by
  induction cs with
  | nil => cases h1
  | cons a cs ih =>
    simp only [List.map_cons, List.nodup_cons] at hn
    rcases List.mem_cons.1 h1 with e1 | m1
    · rcases List.mem_cons.1 h2 with e2 | m2
      · rw [e1, e2]
      · exact absurd (by rw [← e1, e]; exact List.mem_map.2 ⟨kd, m2, rfl⟩) hn.1
    · rcases List.mem_cons.1 h2 with e2 | m2
      · exact absurd (by rw [← e2, ← e]; exact List.mem_map.2 ⟨kc, m1, rfl⟩) hn.1
      · exact ih hn.2 m1 m2
/-- The entries of a table's map. -/
def colPr (kc : Nat × Nat) : Value × Value := (.int .i64 (kc.1 : Int), .pointer (some ⟨kc.2, 0, none⟩))
theorem colPr_inj {a b : Nat × Nat} (h : colPr a = colPr b) : a = b := by
  obtain ⟨a1, a2⟩ := a; obtain ⟨b1, b2⟩ := b
  simp only [colPr, Prod.mk.injEq, Value.int.injEq, Value.pointer.injEq, Option.some.injEq, Addr.mk.injEq, and_true, true_and] at h
  obtain ⟨h1, h2⟩ := h
  simp only [Prod.mk.injEq]
  exact ⟨by omega, h2⟩
def tabCs (kn : Nat) (vh : Value) (m : Nat) : Array Value := #[.int .i64 (kn : Int), vh, .map (some m)]
def tabF (p m : Nat) (vh : Value) (cs : List (Nat × Nat)) (Fs : Nat → List Nat) : List Nat := p :: m :: (vh.ownBlock.toList ++ cs.flatMap (fun kc => Fs kc.1))
theorem natKinds_nodup (m n : Nat) : (natKinds m n).Nodup := by
  unfold natKinds
  exact List.Nodup.sublist List.filter_sublist List.nodup_range
section
variable {w w' : World} {p kn m : Nat} {hs : List Hd} {ls : Nat → List Int} {vh : Value} {cs : List (Nat × Nat)} {Fs : Nat → List Nat}
end
theorem keyedInt : Go.Maps.Keyed Try.prog 3 := Go.Maps.int_keyed Try.underlying3
theorem keyInt {z : Int} (h : InR z) : keyOf Try.prog 3 (.int .i64 z) = some (.int .i64 z) := Go.Maps.keyOf_int_mk Try.underlying3 (by
  unfold InR at h
  simp [Lit.wf, IntKind.min, IntKind.max, IntKind.bits, IntKind.signed]
  omega)
end Go.Proofs.Ytfbcdblgfhekpaa

/- slices.Clone, and the reference's Copy. -/
namespace Go.Proofs.Ytfbcdblgfhekpaa
open Go Go.RowKit

def MadeR {α : Type} (E n : Nat) (enc : α → List Value) (l : List α) (w : World) (e : Ending) (w' : World) : Prop := ∃ v, e = .returned v ∧ w'.ownsRow w.heap.size E n v l.length (l.flatMap enc) ∧ Below w.heap.size w w'
theorem flat_one {α : Type} {enc : α → List Value} (h : ∀ x, ∀ u ∈ enc x, u.oneCell' = true) (l : List α) : ∀ u ∈ l.flatMap enc, u.oneCell' = true := fun u hu => by
  obtain ⟨x, _, hx⟩ := List.mem_flatMap.1 hu
  exact h x u hx

set_option maxRecDepth 100000 in
set_option maxHeartbeats 1000000 in
theorem copyR_any (A : Option Addr) (c : Nat) (l : List Rw) (w : World) (hl : l.length * 88 ≤ 140737488351232) (hA : Lies w w.heap.size A (l.flatMap rwC)) (hn : A = none → l = []) (hc : A = none → c = 0) :
    Calls Try.prog 26 #[.slice A l.length c] w (MadeR 33 11 rwC l w) := by
  have Hl := Lib.hid hl
  have hl2 : l.length ≤ 9223372036854775807 := by omega
  clear hl
  cases A with
  | none =>
    obtain rfl := hn rfl
    obtain rfl := hc rfl
    clear hn hc hA Hl hl2
    have hnil := fun w => run_eql_slice_nil w 22 33 none 0 0 Try.underlying22
    simp only [Option.isNone_none] at hnil
    go_enter Try.func26, Try.ntmps26
    go_wp2
    go_ret
    exact ⟨_, rfl, ⟨rfl, .inl ⟨rfl, rfl⟩⟩, Below.refl _ _⟩
  | some a =>
    have hnews : ∀ j u, (l.flatMap rwC)[j]? = some u → w.cell? (a.add j) = some u := fun j u hu => by
      obtain ⟨a', e, _, h⟩ := hA j u hu
      cases e; exact h
    have hb : ∀ j u, (l.flatMap rwC)[j]? = some u → a.block < w.heap.size := fun j u hu => by
      obtain ⟨a', e, h, _⟩ := hA j u hu
      cases e; exact h
    have hnew2 : ∀ o, ∀ j u, (l.flatMap rwC)[j]? = some u → (w.alloc o).cell? (a.add j) = some u := fun o j u hu =>
      (((Below.refl w.heap.size w).alloc (Nat.le_refl _) o).cell (p := a.add j) (by rw [add_block]; exact hb j u hu)).trans (hnews j u hu)
    have HN := Lib.hid hnew2; have HN0 := Lib.hid hnews
    have H0 := Lib.hid (flatV_length rwC_len l)
    have HO := Lib.hid (flat_one rwC_one l)
    obtain ⟨i0, hi, hz0, hz1, hz2⟩ := info_parts inf_Row
    have HI := Lib.hid hi; have HZ0 := Lib.hid hz0; have HZ1 := Lib.hid hz1; have HZ2 := Lib.hid hz2
    clear hA hn hc hnews hb hnew2 hi hz0 hz1 hz2
    have hnil := fun w => run_eql_slice_nil w 22 33 (some a) l.length c Try.underlying22
    simp only [Option.isNone_some] at hnil
    go_enter Try.func26, Try.ntmps26
    go_wp2_with (at_builtin; refine wpList_append_own_at _ rfl _ _ 22 rfl w.heap.size 33 i0 _ 11 88 Try.underlying22 HI.out HZ0.out HZ1.out HZ2.out rfl (by omega) (.slice none 0 0) 0 [] rfl ⟨by simp, .inl ⟨rfl, rfl⟩⟩ a l.length c (l.flatMap rwC) rfl (H0.out) HN0.out HO.out (by unfold maxLen; omega) (by have := Hl.out; omega) (Nat.le_refl _) ?_; intro v' w' hown hg _ _)
    go_ret
    refine ⟨_, rfl, ?_, (Below.refl w.heap.size w).grown hg (Nat.le_refl _) (fun k hk => by cases hk)⟩
    simpa using hown
end Go.Proofs.Ytfbcdblgfhekpaa

/- Tables: isRow, of, Handles, Column, Set. -/
namespace Go.Proofs.Ytfbcdblgfhekpaa
open Go Go.RowKit

def rowB (r : Int) (n : Nat) : Bool := decide (0 ≤ r) && decide (r < (n : Int))
theorem rowB_iff {r : Int} {n : Nat} : rowB r n = true ↔ ∃ k : Nat, r = k ∧ k < n := by
  simp only [rowB, Bool.and_eq_true, decide_eq_true_eq]
  constructor
  · intro h; exact ⟨r.toNat, by omega, by omega⟩
  · rintro ⟨k, rfl, h⟩; omega

section
variable {w : World} {p kn m : Nat} {hs : List Hd} {ls : Nat → List Int} {vh : Value} {cs : List (Nat × Nat)} {Fs : Nat → List Nat}

/-- What of returns. -/
def ofV (a : Option Addr) (z : Int) : Value := .tuple #[.pointer a, .int .i64 z]
theorem inR_nat {k : Nat} (h : k < 256) : InR (k : Int) := by unfold InR; omega
end
end Go.Proofs.Ytfbcdblgfhekpaa

/- Tables: Column, Set. -/
namespace Go.Proofs.Ytfbcdblgfhekpaa
open Go Go.RowKit

/-- What of answers at a kind. -/
def kindE (kn : Nat) (k : Int) : Int := if k < 0 ∨ 8 ≤ k then 1 else if kn.testBit k.toNat = true then 0 else 5
theorem kindE_cases (kn : Nat) (k : Int) : ((k < 0 ∨ 8 ≤ k) ∧ kindE kn k = 1) ∨ (∃ j : Nat, k = j ∧ j < 8 ∧ kn.testBit j = false ∧ kindE kn k = 5) ∨ (∃ j : Nat, k = j ∧ j < 8 ∧ kn.testBit j = true ∧ kindE kn k = 0) := by
  by_cases h : k < 0 ∨ 8 ≤ k
  · exact .inl ⟨h, by unfold kindE; rw [if_pos h]⟩
  · obtain ⟨j, rfl⟩ := Int.eq_ofNat_of_zero_le (show 0 ≤ k by omega)
    right
    cases hb : kn.testBit j
    · exact .inl ⟨j, rfl, by omega, hb, by unfold kindE; rw [if_neg h]; simp [hb]⟩
    · exact .inr ⟨j, rfl, by omega, hb, by unfold kindE; rw [if_neg h]; simp [hb]⟩
def ColPost (l : List Int) (z : Int) (w : World) (e : Ending) (w' : World) : Prop := ∃ v, e = .returned (.tuple #[v, .int .i64 z]) ∧ w'.ownsRow w.heap.size 3 1 v l.length (ints l) ∧ Below w.heap.size w w'

section
variable {w : World} {p kn m : Nat} {hs : List Hd} {ls : Nat → List Int} {vh : Value} {cs : List (Nat × Nat)} {Fs : Nat → List Nat}
/-- What Set answers. -/
def setE (kn : Nat) (r : Int) (len : Nat) (k n : Int) : Int := if rowB r len = false then 5 else if kindE kn k ≠ 0 then kindE kn k else if n < -1000000000 ∨ 1000000000 < n then 1 else 0
end
end Go.Proofs.Ytfbcdblgfhekpaa

/- Tables: Row. -/
namespace Go.Proofs.Ytfbcdblgfhekpaa
open Go Go.RowKit

/-- The next entry of a table's map. -/
theorem RangeAt.nextC {w : World} {b r : Nat} {l : List (Value × Value)} {ts : List (Nat × Nat)} (h : RangeAt Try.prog 3 w b r l (ts.map colPr)) (hne : ts ≠ []) :
    ∃ t1 kc t2 w', ts = t1 ++ kc :: t2 ∧ (∀ ty, (Instr.next (.pointer (some ⟨r, 0, none⟩)) false ty).run Try.prog w = .ok (.tuple #[.bool true, .int .i64 (kc.1 : Int), .pointer (some ⟨kc.2, 0, none⟩)]) w') ∧
      (Instr.entry (.pointer (some ⟨r, 0, none⟩))).run Try.prog w' = .ok (.tuple #[.int .i64 (kc.1 : Int), .pointer (some ⟨kc.2, 0, none⟩)]) w' ∧ RangeAt Try.prog 3 w' b r l ((t1 ++ t2).map colPr) ∧ Mod [r] w w' ∧ w'.heap.size = w.heap.size := by
  obtain ⟨t1, p, t2, w', he, hp, hn, hen, hr, hm, hs⟩ := h.next (by simpa using hne) 0
  obtain ⟨a, c, rfl, rfl, hc⟩ := List.map_eq_append_iff.1 he
  obtain ⟨kc, t, rfl, rfl, rfl⟩ := List.map_eq_cons_iff.1 hc
  refine ⟨a, kc, t, w', rfl, fun ty => ?_, hen, by rw [List.map_append]; exact hr, hm, hs⟩
  have : (Instr.next (.pointer (some ⟨r, 0, none⟩)) false ty) = (Instr.next (.pointer (some ⟨r, 0, none⟩)) false 0) := rfl
  rw [this]; exact hn

theorem RangeAt.left_eq {P : Program} {kt : TypeId} {w : World} {b r : Nat} {l todo : List (Value × Value)} (h : RangeAt P kt w b r l todo) : w.rangeLeft b r = todo.length := by
  obtain ⟨es, clock, since, seen, c0, h1, _, h3, _, _, _, h6⟩ := h
  simp only [World.rangeLeft, h1, h3]
  rw [← h6]; simp [prs]
theorem blk_there {w : World} {b : Nat} {xs : List Value} {t : TypeId} (h : w.heap[b]? = some (.cells xs.toArray t (0, 0))) {n : Nat} (hn : n ≤ xs.length) : w.there b 0 n := fun j hj => by
  refine ⟨?_, blk_free h _⟩
  rw [blk_cell h, Nat.zero_add]
  have : j < xs.length := by omega
  simp [this]
/-- A row's numbers. -/
def rowI (kn : Nat) (h : Hd) (x : Nat → Int) : List Int := hdI h ++ ((kn : Int) :: (List.range 8).map fun k => if kn.testBit k = true then x k else 0)
/-- The same while the kinds of ts are still to come. -/
def rowT (kn : Nat) (h : Hd) (x : Nat → Int) (ts : List (Nat × Nat)) : List Int := hdI h ++ ((kn : Int) :: (List.range 8).map fun k => if k ∈ ts.map (·.1) then 0 else if kn.testBit k = true then x k else 0)
theorem rowT_length (kn : Nat) (h : Hd) (x : Nat → Int) (ts : List (Nat × Nat)) : (rowT kn h x ts).length = 11 := by simp [rowT, hdI]
theorem rowT_nil (kn : Nat) (h : Hd) (x : Nat → Int) : rowT kn h x [] = rowI kn h x := by simp [rowT, rowI]
theorem rowT_start (kn : Nat) (h : Hd) (x : Nat → Int) (cs : List (Nat × Nat)) (hc : cs.map (·.1) = natKinds kn 8) : rowT kn h x cs = [h.1, h.2, (kn : Int), 0, 0, 0, 0, 0, 0, 0, 0] := by
  have : ((List.range 8).map fun k => if k ∈ cs.map (·.1) then (0 : Int) else if kn.testBit k = true then x k else 0) = (List.range 8).map fun _ => 0 := by
    apply List.map_congr_left
    intro k hk
    rw [hc]
    by_cases hb : kn.testBit k = true
    · rw [if_pos (by unfold natKinds; exact List.mem_filter.2 ⟨hk, hb⟩)]
    · rw [if_neg hb]; split <;> rfl
  unfold rowT
  rw [this]
  rfl
theorem rowT_step (kn : Nat) (h : Hd) (x : Nat → Int) (t1 t2 : List (Nat × Nat)) (kc : Nat × Nat) (hn : ((t1 ++ kc :: t2).map (·.1)).Nodup) (hk : kc.1 < 8) (hb : kn.testBit kc.1 = true) :
    (rowT kn h x (t1 ++ kc :: t2)).set (3 + kc.1) (x kc.1) = rowT kn h x (t1 ++ t2) := by
  unfold rowT
  obtain ⟨h0, h1⟩ := h
  simp only [hdI, List.cons_append, List.nil_append]
  rw [show 3 + kc.1 = kc.1 + 1 + 1 + 1 by omega, List.set_cons_succ, List.set_cons_succ, List.set_cons_succ]
  congr 3
  apply List.ext_getElem (by simp)
  intro i hi1 hi2
  simp at hi1
  rw [List.getElem_set]
  simp only [List.getElem_map, List.getElem_range]
  rw [List.map_append, List.map_cons] at hn
  have hnd := List.nodup_append.1 hn
  by_cases e : kc.1 = i
  · subst e
    rw [if_pos rfl, if_neg, if_pos hb]
    rw [List.map_append, List.mem_append]
    rintro (hm | hm)
    · exact hnd.2.2 _ hm _ (by simp) rfl
    · exact (List.nodup_cons.1 hnd.2.1).1 hm
  · rw [if_neg e]
    have : i ∈ (t1 ++ kc :: t2).map (·.1) ↔ i ∈ (t1 ++ t2).map (·.1) := by
      simp only [List.map_append, List.map_cons, List.mem_append, List.mem_cons]
      constructor
      · rintro (hm | rfl | hm)
        · exact .inl hm
        · exact absurd rfl e
        · exact .inr hm
      · rintro (hm | hm)
        · exact .inl hm
        · exact .inr (.inr hm)
    simp only [this]

def RowPost (l : List Int) (z : Int) (w : World) (e : Ending) (w' : World) : Prop := e = .returned (.tuple #[.agg (ints l).toArray, .int .i64 z]) ∧ Below w.heap.size w w'
def zero11 : List Int := [0, 0, 0, 0, 0, 0, 0, 0, 0, 0, 0]

section
variable {w : World} {p kn m : Nat} {hs : List Hd} {ls : Nat → List Int} {vh : Value} {cs : List (Nat × Nat)} {Fs : Nat → List Nat}
attribute [local go_sem] AllFrom.cons_eq AllFrom.nil_eq putF_nil putF_cons wantedL_none wantedL_some OpGoalT OpGoalV OpGoalQ YieldsR preF_nil preF_cons

end
end Go.Proofs.Ytfbcdblgfhekpaa

/- Tables: Add. -/
namespace Go.Proofs.Ytfbcdblgfhekpaa
open Go Go.RowKit

attribute [local go_sem] AllFrom.cons_eq AllFrom.nil_eq putF_nil putF_cons wantedL_none wantedL_some OpGoalT OpGoalV OpGoalQ YieldsR preF_nil preF_cons

def AddBad (z : Int) (w : World) (e : Ending) (w' : World) : Prop := e = .returned (.tuple #[.int .i64 0, .int .i64 z]) ∧ Below w.heap.size w w'
section
variable {w : World} {p kn m : Nat} {hs : List Hd} {ls : Nat → List Int} {vh : Value} {cs : List (Nat × Nat)} {Fs : Nat → List Nat}

end
end Go.Proofs.Ytfbcdblgfhekpaa

/- The reference's table: Add. -/
namespace Go.Proofs.Ytfbcdblgfhekpaa
open Go Go.RowKit

attribute [local go_sem] AllFrom.cons_eq AllFrom.nil_eq putF_nil putF_cons wantedL_none wantedL_some OpGoalT OpGoalV OpGoalQ YieldsR preF_nil preF_cons

theorem field_new {α : Type} {enc : α → List Value} {E n : Nat} {w w2 : World} {p o : Nat} {cs : Array Value} {T : TypeId} {v v' : Value} {l l' : List α} (h : FieldAt enc E n w p o cs T v l) (hm : Mod [] w w2) (hown : w2.ownsRow w.heap.size E n v' l'.length (l'.flatMap enc)) :
    FieldPost enc E n w p o cs T v l' (w2.setCell ⟨p, o, none⟩ v') ∧ w2.heap[p]? = some (.cells cs T (0, 0)) := by
  have hp2 : w2.heap[p]? = some (.cells cs T (0, 0)) := hm.keep h.blk (by simp)
  have hpl := h.lt
  have hol : o < cs.size := (Array.getElem?_eq_some_iff.1 h.here).1
  have hvp : ∀ k, v'.ownBlock = some k → w.heap.size ≤ k := fun k hk => (hown.lt k hk).1
  refine ⟨⟨⟨v', ⟨blk_set hp2 o v', by simp [hol], row_base (row_mod hown ((Mod.refl [p] _).setCell (.inl (by simp)) _) (fun k hk => by have := hvp k hk; simp; omega)) (by simp), fun k hk => by have := hvp k hk; omega⟩, fun k hk => .inr (hvp k hk)⟩, ?_⟩, hp2⟩
  exact (hm.mono (G := p :: v.ownBlock.toList) (by simp)).setCell (.inl (by simp)) _

def rtCs (kn : Nat) (vl : Value) : Array Value := #[.int .i64 (kn : Int), vl]
section
variable {w : World} {q kn : Nat} {rows : List Rw} {vl : Value}
theorem copyRows_any (w : World) (v : Value) (l : List Rw) (h : w.ownsRow 0 33 11 v l.length (l.flatMap rwC)) (hl : l.length ≤ 1200000000000) :
    Calls Try.prog 26 #[v] w (MadeR 33 11 rwC l w) := by
  obtain ⟨A, cap, rfl, _, hlies⟩ := own_lies h
  have hnil : A = none → l = [] ∧ cap = 0 := by
    rintro rfl
    rcases h with ⟨_, ⟨h1, h2⟩ | ⟨g, cap2, cur, h1, _⟩⟩
    · simp only [Value.slice.injEq, true_and] at h1
      exact ⟨List.eq_nil_of_length_eq_zero h1.1, h1.2⟩
    · cases h1
  exact copyR_any A cap l w (by omega) hlies (fun e => (hnil e).1) (fun e => (hnil e).2)

end
end Go.Proofs.Ytfbcdblgfhekpaa

/- The contracts of Check and of the reference's SystemCheck. -/
namespace Go.Proofs.Ytfbcdblgfhekpaa
open Go.RowKit

/-- Old cells and marks read as they did. -/
theorem bcell {W w1 : World} (hb : Below W.heap.size W w1) : (∀ b o, b < W.heap.size → w1.cell? ⟨b, o, none⟩ = W.cell? ⟨b, o, none⟩) ∧ (∀ b o, b < W.heap.size → w1.frozen? ⟨b, o, none⟩ = W.frozen? ⟨b, o, none⟩) :=
  ⟨fun b o h => hb.cell (p := ⟨b, o, none⟩) h, fun b o h => hb.frozen (p := ⟨b, o, none⟩) h⟩

def sysE (n t a r s d x : Int) : Int :=
  if qcheck n t a ≠ 0 then 1
  else if isSetB r = false ∨ isSetB s = false ∨ d < 1 ∨ 3 < d ∨ x < -1000000 ∨ 1000000 < x then 1
  else if (d = 3 ∧ x ≠ 0) ∨ (d ≠ 2 ∧ r ≠ 0) then 4 else 0
theorem qcheck_01 (n t a : Int) : qcheck n t a = 0 ∨ qcheck n t a = 1 := by unfold qcheck; split <;> simp

end Go.Proofs.Ytfbcdblgfhekpaa

/- The two cuts; a beast in a block. -/
namespace Go.Proofs.Ytfbcdblgfhekpaa
open Go Go.RowKit

theorem cutI_hi {z : Int} (h : 1000000000 < z) : cutI z = 1000000000 := by simp [cutI, h]
theorem cutI_lo {z : Int} (h : z < -1000000000) : cutI z = -1000000000 := by unfold cutI; rw [if_neg (by omega), if_pos h]
theorem cutI_mid {z : Int} (h1 : -1000000000 ≤ z) (h2 : z ≤ 1000000000) : cutI z = z := by unfold cutI; rw [if_neg (by omega), if_neg (by omega)]
theorem cutI_mm (z : Int) : cutI z = min (max z (-1000000000)) 1000000000 := by
  unfold cutI
  split
  · omega
  · split <;> omega
/-- A beast in block b. -/
def RepBt (w : World) (b : Nat) (K : Int) (l : List Int) : Prop := w.heap[b]? = some (.cells (Value.int .i64 K :: ints l).toArray 31 (0, 0))
theorem RepBt.k {w : World} {b : Nat} {K : Int} {l : List Int} (h : RepBt w b K l) : w.cell? ⟨b, 0, none⟩ = some (.int .i64 K) := by rw [blk_cell h]; simp
theorem RepBt.v {w : World} {b : Nat} {K : Int} {l : List Int} (h : RepBt w b K l) {k : Nat} (hk : k < l.length) : w.cell? ⟨b, 1 + k, none⟩ = some (.int .i64 l[k]) := by
  rw [blk_cell h, Nat.add_comm]
  simp [ints, hk]
theorem RepBt.free {w : World} {b : Nat} {K : Int} {l : List Int} (h : RepBt w b K l) (i : Nat) : w.frozen? ⟨b, i, none⟩ = false := blk_free h i
theorem RepBt.lt {w : World} {b : Nat} {K : Int} {l : List Int} (h : RepBt w b K l) : b < w.heap.size := blk_lt h
theorem RepBt.set {w : World} {b : Nat} {K : Int} {l : List Int} (h : RepBt w b K l) (k : Nat) (y : Int) : RepBt (w.setCell ⟨b, 1 + k, none⟩ (.int .i64 y)) b K (l.set k y) := by
  unfold RepBt
  rw [blk_set h, Nat.add_comm]
  simp [ints, List.map_set]
theorem RepBt.mod {w w' : World} {b : Nat} {K : Int} {l : List Int} {F : List Nat} (h : RepBt w b K l) (hm : Mod F w w') (hd : b ∉ F) : RepBt w' b K l := hm.keep h hd
end Go.Proofs.Ytfbcdblgfhekpaa

/- Tables: Add that goes through. -/
namespace Go.Proofs.Ytfbcdblgfhekpaa
open Go Go.RowKit

attribute [local go_sem] AllFrom.cons_eq AllFrom.nil_eq putF_nil putF_cons wantedL_none wantedL_some OpGoalT OpGoalV OpGoalQ YieldsR preF_nil preF_cons

section
variable {w : World} {p kn m : Nat} {hs : List Hd} {ls : Nat → List Int} {vh : Value} {cs : List (Nat × Nat)} {Fs : Nat → List Nat}
end
end Go.Proofs.Ytfbcdblgfhekpaa

/- Tables: Remove. -/
namespace Go.Proofs.Ytfbcdblgfhekpaa
open Go Go.RowKit

attribute [local go_sem] AllFrom.cons_eq AllFrom.nil_eq putF_nil putF_cons wantedL_none wantedL_some OpGoalT OpGoalV OpGoalQ YieldsR preF_nil preF_cons

section
variable {w : World} {p kn m : Nat} {hs : List Hd} {ls : Nat → List Int} {vh : Value} {cs : List (Nat × Nat)} {Fs : Nat → List Nat}

end
end Go.Proofs.Ytfbcdblgfhekpaa

/- The reference's table: Row, Remove. -/
namespace Go.Proofs.Ytfbcdblgfhekpaa
open Go Go.RowKit

theorem FieldPost.late {α : Type} {enc : α → List Value} {E n : Nat} {w w1 W W' : World} {p o r : Nat} {cs : Array Value} {T : TypeId} {v : Value} {l : List α} (h : FieldPost enc E n w1 p o cs T v l W) (hm : Mod [] w w1) (hm2 : Mod [r] W W') (hr : w.heap.size ≤ r) (hr1 : r < w1.heap.size) (hp : p < w.heap.size) (hv : ∀ k, v.ownBlock = some k → k < w.heap.size) :
    FieldPost enc E n w p o cs T v l W' := by
  obtain ⟨⟨v', hf, hl⟩, hm0⟩ := h
  have hs := hm.size
  refine ⟨⟨v', hf.mod hm2 (by simp; omega) (fun k hk => ?_), fun k hk => (hl k hk).imp id (fun e => by omega)⟩, ?_⟩
  · rcases hl k hk with e | e
    · have := hv k e; simp; omega
    · simp; omega
  · exact (((hm.mono (G := p :: v.ownBlock.toList) (by simp)).trans hm0 (fun x hx => .inl hx)).trans hm2 (fun x hx => .inr (by simp at hx; omega)))
theorem outside_row (r : Int) (n : Nat) : outsideB r 0 ((n : Int) - 1) = !rowB r n := by
  unfold outsideB rowB
  by_cases h1 : r < 0
  · have : ¬ 0 ≤ r := by omega
    simp [h1, this]
  · have h2 : 0 ≤ r := by omega
    by_cases h3 : (n : Int) - 1 < r
    · have : ¬ r < (n : Int) := by omega
      simp [h1, h2, h3, this]
    · have : r < (n : Int) := by omega
      simp [h1, h2, h3, this]
theorem outRow_any (r : Int) (n : Nat) (b : Bool) (h : rowB r n = b) (w : World) : Calls Try.prog 35 #[.int .i64 r, .int .i64 0, .int .i64 ((n : Int) - 1)] w fun e w' => e = .returned (.bool (!b)) ∧ w = w' := by
  have := outside_any r 0 ((n : Int) - 1) w
  rw [outside_row, h] at this
  exact this

section
variable {w : World} {q kn : Nat} {rows : List Rw} {vl : Value}
end
end Go.Proofs.Ytfbcdblgfhekpaa

/- The reference's table: Column. -/
namespace Go.Proofs.Ytfbcdblgfhekpaa
open Go Go.RowKit

theorem outKind_any (k : Int) (b : Bool) (h : outsideB k 0 7 = b) (w : World) : Calls Try.prog 35 #[.int .i64 k, .int .i64 0, .int .i64 7] w fun e w' => e = .returned (.bool b) ∧ w = w' := by
  have := outside_any k 0 7 w
  rw [h] at this
  exact this
theorem hasKn2_any (kn k : Nat) (hkn : kn < 256) (hk : k < 8) (b : Bool) (hb : kn.testBit k = b) (w : World) : Calls Try.prog 42 #[.int .i64 (kn : Int), .int .i64 (k : Int)] w fun e w' => e = .returned (.bool b) ∧ w = w' := by
  have := hasKind_any (kn : Int) k (by omega) w
  rw [hasK_nat kn k hkn, hb] at this
  exact this
theorem valK_lt (k : Nat) (hk : k < 8) (x : Rw) : (rwC x)[3 + k]? = some (.int .i64 (valK k x.2)) := by
  obtain ⟨⟨s, g⟩, K, a0, a1, a2, a3, a4, a5, a6, a7⟩ := x
  match k, hk with
  | 0, _ => rfl
  | 1, _ => rfl
  | 2, _ => rfl
  | 3, _ => rfl
  | 4, _ => rfl
  | 5, _ => rfl
  | 6, _ => rfl
  | 7, _ => rfl

section
variable {w : World} {q kn : Nat} {rows : List Rw} {vl : Value}
end
end Go.Proofs.Ytfbcdblgfhekpaa
