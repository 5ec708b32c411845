import Derived.Test.YtehjfmjibiafdaaGreatZooTellsJ10
import Derived.Test.YtehjfmjibiafdaaGreatZooTellsJ11
import Derived.Lib.LazyBuf
import Derived.Test.YtehjfmjibiafdaaGreatZooTellsJ12
/- slices.Clone, and the reference's Copy. -/
namespace Go.Proofs.YtehjfmjibiafdaaGreat
open Go Go.RowKit

def MadeR {α : Type} (E n : Nat) (enc : α → List Value) (l : List α) (w : World) (e : Ending) (w' : World) : Prop := ∃ v, e = .returned v ∧ w'.ownsRow w.heap.size E n v l.length (l.flatMap enc) ∧ Below w.heap.size w w'
theorem flat_one {α : Type} {enc : α → List Value} (h : ∀ x, ∀ u ∈ enc x, u.oneCell' = true) (l : List α) : ∀ u ∈ l.flatMap enc, u.oneCell' = true := fun u hu => by
  obtain ⟨x, _, hx⟩ := List.mem_flatMap.1 hu
  exact h x u hx

set_option maxRecDepth 100000 in
set_option maxHeartbeats 1000000 in
theorem cloneH_any (A : Option Addr) (c : Nat) (l : List (Int × Int)) (w : World) (hl : l.length * 16 ≤ 140737488351232) (hA : Lies w w.heap.size A (l.flatMap handleC)) (hn : A = none → l = []) (hc : A = none → c = 0) :
    Calls Tryz.prog 113 #[.slice A l.length c] w (MadeR 41 2 handleC l w) := by
  have Hl := Lib.hid hl
  have hl2 : l.length ≤ 9223372036854775807 := by omega
  clear hl
  cases A with
  | none =>
    obtain rfl := hn rfl
    obtain rfl := hc rfl
    clear hn hc hA Hl hl2
    have hnil := fun w => run_eql_slice_nil w 55 41 none 0 0 Tryz.underlying55
    simp only [Option.isNone_none] at hnil
    go_enter Tryz.func113, Tryz.ntmps113
    go_wp2
    go_ret
    exact ⟨_, rfl, ⟨rfl, .inl ⟨rfl, rfl⟩⟩, Below.refl _ _⟩
  | some a =>
    have hnews : ∀ j u, (l.flatMap handleC)[j]? = some u → w.cell? (a.add j) = some u := fun j u hu => by
      obtain ⟨a', e, _, h⟩ := hA j u hu
      cases e; exact h
    have hb : ∀ j u, (l.flatMap handleC)[j]? = some u → a.block < w.heap.size := fun j u hu => by
      obtain ⟨a', e, h, _⟩ := hA j u hu
      cases e; exact h
    have hnew2 : ∀ o, ∀ j u, (l.flatMap handleC)[j]? = some u → (w.alloc o).cell? (a.add j) = some u := fun o j u hu =>
      (((Below.refl w.heap.size w).alloc (Nat.le_refl _) o).cell (p := a.add j) (by rw [add_block]; exact hb j u hu)).trans (hnews j u hu)
    have HN := Lib.hid hnew2; have HN0 := Lib.hid hnews
    have H0 := Lib.hid (flatV_length handleC_len l)
    have HO := Lib.hid (flat_one handleC_one l)
    obtain ⟨i0, hi, hz0, hz1, hz2⟩ := info_parts info_handle
    have HI := Lib.hid hi; have HZ0 := Lib.hid hz0; have HZ1 := Lib.hid hz1; have HZ2 := Lib.hid hz2
    clear hA hn hc hnews hb hnew2 hi hz0 hz1 hz2
    have hnil := fun w => run_eql_slice_nil w 55 41 (some a) l.length c Tryz.underlying55
    simp only [Option.isNone_some] at hnil
    go_enter Tryz.func113, Tryz.ntmps113
    go_wp2_with (at_builtin; refine wpList_append_own_at _ rfl _ _ 55 rfl w.heap.size 41 i0 _ 2 16 Tryz.underlying55 HI.out HZ0.out HZ1.out HZ2.out rfl (by omega) (.slice (some ⟨w.heap.size, 0, none⟩) 0 0) 0 [] rfl ⟨by simp, .inr ⟨w.heap.size, 0, #[], rfl, Nat.le_refl _, heap_alloc_new w _, Nat.le_refl _, by unfold maxLen; omega, rfl, rfl⟩⟩ a l.length c (l.flatMap handleC) rfl (H0.out) (HN.out _) HO.out (by unfold maxLen; omega) (by have := Hl.out; omega) (by simp) ?_; intro v' w' hown hg _ _)
    go_ret
    refine ⟨_, rfl, ?_, ((Below.refl w.heap.size w).alloc (Nat.le_refl _) _).grown hg (by simp) (fun k hk => by cases hk; exact Nat.le_refl _)⟩
    simpa using hown

set_option maxRecDepth 100000 in
set_option maxHeartbeats 1000000 in
theorem copyR_any (A : Option Addr) (c : Nat) (l : List Rw) (w : World) (hl : l.length * 88 ≤ 140737488351232) (hA : Lies w w.heap.size A (l.flatMap rwC)) (hn : A = none → l = []) (hc : A = none → c = 0) :
    Calls Tryz.prog 40 #[.slice A l.length c] w (MadeR 69 11 rwC l w) := by
  have Hl := Lib.hid hl
  have hl2 : l.length ≤ 9223372036854775807 := by omega
  clear hl
  cases A with
  | none =>
    obtain rfl := hn rfl
    obtain rfl := hc rfl
    clear hn hc hA Hl hl2
    have hnil := fun w => run_eql_slice_nil w 23 69 none 0 0 Tryz.underlying23
    simp only [Option.isNone_none] at hnil
    go_enter Tryz.func40, Tryz.ntmps40
    go_wp2
    go_ret
    exact ⟨_, rfl, ⟨rfl, .inl ⟨rfl, rfl⟩⟩, Below.refl _ _⟩
  | some a =>
    have hnews : ∀ j u, (l.flatMap rwC)[j]? = some u → w.cell? (a.add j) = some u := fun j u hu => by
      obtain ⟨a', e, _, h⟩ := hA j u hu
      cases e; exact h
    have hb : ∀ j u, (l.flatMap rwC)[j]? = some u → a.block < w.heap.size := fun j u hu => by
      obtain ⟨a', e, h, _⟩ := hA j u hu
      cases e; exact h
    have hnew2 : ∀ o, ∀ j u, (l.flatMap rwC)[j]? = some u → (w.alloc o).cell? (a.add j) = some u := fun o j u hu =>
      (((Below.refl w.heap.size w).alloc (Nat.le_refl _) o).cell (p := a.add j) (by rw [add_block]; exact hb j u hu)).trans (hnews j u hu)
    have HN := Lib.hid hnew2; have HN0 := Lib.hid hnews
    have H0 := Lib.hid (flatV_length rwC_len l)
    have HO := Lib.hid (flat_one rwC_one l)
    obtain ⟨i0, hi, hz0, hz1, hz2⟩ := info_parts inf_Row
    have HI := Lib.hid hi; have HZ0 := Lib.hid hz0; have HZ1 := Lib.hid hz1; have HZ2 := Lib.hid hz2
    clear hA hn hc hnews hb hnew2 hi hz0 hz1 hz2
    have hnil := fun w => run_eql_slice_nil w 23 69 (some a) l.length c Tryz.underlying23
    simp only [Option.isNone_some] at hnil
    go_enter Tryz.func40, Tryz.ntmps40
    go_wp2_with (at_builtin; refine wpList_append_own_at _ rfl _ _ 23 rfl w.heap.size 69 i0 _ 11 88 Tryz.underlying23 HI.out HZ0.out HZ1.out HZ2.out rfl (by omega) (.slice none 0 0) 0 [] rfl ⟨by simp, .inl ⟨rfl, rfl⟩⟩ a l.length c (l.flatMap rwC) rfl (H0.out) HN0.out HO.out (by unfold maxLen; omega) (by have := Hl.out; omega) (Nat.le_refl _) ?_; intro v' w' hown hg _ _)
    go_ret
    refine ⟨_, rfl, ?_, (Below.refl w.heap.size w).grown hg (Nat.le_refl _) (fun k hk => by cases hk)⟩
    simpa using hown
end Go.Proofs.YtehjfmjibiafdaaGreat

/- Tables: isRow, of, Handles, Column, Set. -/
namespace Go.Proofs.YtehjfmjibiafdaaGreat
open Go Go.RowKit

def rowB (r : Int) (n : Nat) : Bool := decide (0 ≤ r) && decide (r < (n : Int))
theorem rowB_iff {r : Int} {n : Nat} : rowB r n = true ↔ ∃ k : Nat, r = k ∧ k < n := by
  simp only [rowB, Bool.and_eq_true, decide_eq_true_eq]
  constructor
  · intro h; exact ⟨r.toNat, by omega, by omega⟩
  · rintro ⟨k, rfl, h⟩; omega

section
variable {w : World} {p kn m : Nat} {hs : List Hd} {ls : Nat → List Int} {vh : Value} {cs : List (Nat × Nat)} {Fs : Nat → List Nat}

theorem isRow_any (h : TabAt w p kn hs ls vh m cs Fs) (r : Int) :
    Calls Tryz.prog 109 #[.pointer (some ⟨p, 0, none⟩), .int .i64 r] w fun e w' => e = .returned (.bool (rowB r hs.length)) ∧ w = w' := by
  obtain ⟨A, cap, he, hn, hc⟩ := row_slice h.hd.row
  have c1 := h.hd.cell
  rw [he] at c1
  have hle : hs.length ≤ 9223372036854775807 := by unfold maxLen at hc; omega
  clear he hn hc
  by_cases h0 : 0 ≤ r
  · have hd : decide (0 ≤ r) = true := by simpa using h0
    have H := Lib.hid (show rowB r hs.length = decide (r < (hs.length : Int)) by unfold rowB; rw [hd]; rfl)
    clear h h0
    go_enter Tryz.func109, Tryz.ntmps109
    go_wp2
    go_ret
    exact ⟨by rw [H.out]; rfl, rfl⟩
  · have hd : decide (0 ≤ r) = false := by simpa using h0
    have H := Lib.hid (show rowB r hs.length = false by unfold rowB; rw [hd]; rfl)
    clear h h0
    go_enter Tryz.func109, Tryz.ntmps109
    go_wp2
    go_ret
    exact ⟨by rw [H.out]; rfl, rfl⟩

/-- What of returns. -/
def ofV (a : Option Addr) (z : Int) : Value := .tuple #[.pointer a, .int .i64 z]
theorem colOf_bad (k : Int) (hk : k < 0 ∨ 8 ≤ k) (w : World) : Calls Tryz.prog 142 #[.pointer (some ⟨p, 0, none⟩), .int .i64 k] w fun e w' => e = .returned (ofV none 1) ∧ w = w' := by
  rcases hk with hk | hk
  · have hd : decide (k < 0) = true := by simpa using hk
    go_enter Tryz.func142, Tryz.ntmps142
    go_wp2
    go_ret2
    exact ⟨rfl, rfl⟩
  · have hd : decide (k < 0) = false := by simp; omega
    have hd2 : decide (8 ≤ k) = true := by simpa using hk
    go_enter Tryz.func142, Tryz.ntmps142
    go_wp2
    go_ret2
    exact ⟨rfl, rfl⟩
theorem zeroCol (w : World) : (zeroValue 177).run Tryz.prog w = .ok (.pointer none) w := by kernel_rfl
theorem inR_nat {k : Nat} (h : k < 256) : InR (k : Int) := by unfold InR; omega
theorem colOf_no (h : TabAt w p kn hs ls vh m cs Fs) (k : Nat) (hk : k < 8) (hb : kn.testBit k = false) :
    Calls Tryz.prog 142 #[.pointer (some ⟨p, 0, none⟩), .int .i64 k] w fun e w' => e = .returned (ofV none 5) ∧ w = w' := by
  have c2 : w.cell? ⟨p, 2, none⟩ = some (.map (some m)) := by rw [blk_cell h.hd.blk]; rfl
  have hlk := h.map.look_out keyedInt Tryz.underlying174 (zeroCol w) (keyInt (inR_nat (show k < 256 by omega))) (by
    intro q hq e
    obtain ⟨kc, hc, rfl⟩ := List.mem_map.1 hq
    have h1 : (kc.1 : Int) = k := by simpa [colPr] using e
    have h2 : kc.1 ∈ natKinds kn 8 := by rw [← h.kinds]; exact List.mem_map.2 ⟨kc, hc, rfl⟩
    unfold natKinds at h2
    have h3 := (List.mem_filter.1 h2).2
    rw [show kc.1 = k by omega, hb] at h3
    cases h3) true
  simp only [if_true] at hlk
  have hd : decide ((k : Int) < 0) = false := by simp
  have hd2 : decide (8 ≤ (k : Int)) = false := by simp; omega
  clear h hb
  go_enter Tryz.func142, Tryz.ntmps142
  go_wp2
  go_ret2
  exact ⟨rfl, rfl⟩
theorem colOf_yes (h : TabAt w p kn hs ls vh m cs Fs) (kc : Nat × Nat) (hc : kc ∈ cs) :
    Calls Tryz.prog 142 #[.pointer (some ⟨p, 0, none⟩), .int .i64 (kc.1 : Int)] w fun e w' => e = .returned (ofV (some ⟨kc.2, 0, none⟩) 0) ∧ w = w' := by
  have hk8 : kc.1 < 8 := by
    have h2 : kc.1 ∈ natKinds kn 8 := by rw [← h.kinds]; exact List.mem_map.2 ⟨kc, hc, rfl⟩
    exact natKinds_lt h2
  have c2 : w.cell? ⟨p, 2, none⟩ = some (.map (some m)) := by rw [blk_cell h.hd.blk]; rfl
  have hlk := h.map.look_in keyedInt Tryz.underlying174 (keyInt (inR_nat (show kc.1 < 256 by omega))) (v := .pointer (some ⟨kc.2, 0, none⟩)) (List.mem_map.2 ⟨kc, hc, rfl⟩) true
  simp only [if_true] at hlk
  obtain ⟨k, c⟩ := kc
  simp only at hlk hk8 ⊢
  have hd : decide ((k : Int) < 0) = false := by simp
  have hd2 : decide (8 ≤ (k : Int)) = false := by simp; omega
  clear h hc
  go_enter Tryz.func142, Tryz.ntmps142
  go_wp2
  go_ret2
  exact ⟨rfl, rfl⟩

theorem handles_any (h : TabAt w p kn hs ls vh m cs Fs) (hl : hs.length ≤ 1200000000000) :
    Calls Tryz.prog 61 #[.pointer (some ⟨p, 0, none⟩)] w (MadeR 41 2 handleC hs w) := by
  obtain ⟨A, cap, he, hn, hc⟩ := row_slice h.hd.row
  have c1 := h.hd.cell
  have hrow := h.hd.row
  rw [he] at c1 hrow
  obtain ⟨A', cap', he', _, hlies⟩ := own_lies hrow
  cases he'
  have hnil : A = none → hs = [] ∧ cap = 0 := by
    rintro rfl
    rcases hrow with ⟨hl, ⟨h1, h2⟩ | ⟨g, cap2, cur, h1, _⟩⟩
    · simp only [Value.slice.injEq, true_and] at h1
      exact ⟨List.eq_nil_of_length_eq_zero h1.1, h1.2⟩
    · cases h1
  have hcl := cloneH_any A cap hs w (by omega) hlies (fun e => (hnil e).1) (fun e => (hnil e).2)
  have H := Lib.hid hcl
  have hle : hs.length ≤ 9223372036854775807 := by omega
  clear h he hn hc hrow hlies hnil hcl hl
  go_enter Tryz.func61, Tryz.ntmps61
  go_wp2_with fail
  refine H.out.mono ?_
  rintro e w1 ⟨v, rfl, hown, hb⟩
  have HO := Lib.hid hown; have HB := Lib.hid hb
  clear hown hb
  obtain ⟨A2, cap2, rfl, -, -⟩ := row_slice HO.out
  go_wp2
  go_ret
  exact ⟨_, rfl, HO.out, HB.out⟩
end
end Go.Proofs.YtehjfmjibiafdaaGreat

/- Tables: Column, Set. -/
namespace Go.Proofs.YtehjfmjibiafdaaGreat
open Go Go.RowKit

/-- What of answers at a kind. -/
def kindE (kn : Nat) (k : Int) : Int := if k < 0 ∨ 8 ≤ k then 1 else if kn.testBit k.toNat = true then 0 else 5
theorem kindE_cases (kn : Nat) (k : Int) : ((k < 0 ∨ 8 ≤ k) ∧ kindE kn k = 1) ∨ (∃ j : Nat, k = j ∧ j < 8 ∧ kn.testBit j = false ∧ kindE kn k = 5) ∨ (∃ j : Nat, k = j ∧ j < 8 ∧ kn.testBit j = true ∧ kindE kn k = 0) := by
  by_cases h : k < 0 ∨ 8 ≤ k
  · exact .inl ⟨h, by unfold kindE; rw [if_pos h]⟩
  · obtain ⟨j, rfl⟩ := Int.eq_ofNat_of_zero_le (show 0 ≤ k by omega)
    right
    cases hb : kn.testBit j
    · exact .inl ⟨j, rfl, by omega, hb, by unfold kindE; rw [if_neg h]; simp [hb]⟩
    · exact .inr ⟨j, rfl, by omega, hb, by unfold kindE; rw [if_neg h]; simp [hb]⟩
section
variable {w : World} {p kn m : Nat} {hs : List Hd} {ls : Nat → List Int} {vh : Value} {cs : List (Nat × Nat)} {Fs : Nat → List Nat}
theorem TabAt.kind (h : TabAt w p kn hs ls vh m cs Fs) {k : Nat} (hk : k < 8) (hb : kn.testBit k = true) : ∃ c, (k, c) ∈ cs := by
  have : k ∈ cs.map (·.1) := by rw [h.kinds]; unfold natKinds; exact List.mem_filter.2 ⟨by simpa using hk, hb⟩
  obtain ⟨kc, hc, rfl⟩ := List.mem_map.1 this
  exact ⟨kc.2, hc⟩

/-- What Set answers. -/
def setE (kn : Nat) (r : Int) (len : Nat) (k n : Int) : Int := if rowB r len = false then 5 else if kindE kn k ≠ 0 then kindE kn k else if n < -1000000000 ∨ 1000000000 < n then 1 else 0
/-- A table whose column of one kind has turned at one place. -/
def SetPost (w : World) (p kn m : Nat) (hs : List Hd) (ls : Nat → List Int) (vh : Value) (cs : List (Nat × Nat)) (Fs : Nat → List Nat) (r k n : Int) (e : Ending) (w' : World) : Prop :=
  e = .returned (.int .i64 (setE kn r hs.length k n)) ∧ TabAt w' p kn hs (if setE kn r hs.length k n = 0 then updL ls k.toNat ((ls k.toNat).set r.toNat n) else ls) vh m cs Fs ∧ Mod (tabF p m vh cs Fs) w w'

set_option maxRecDepth 20000 in
set_option maxHeartbeats 1000000 in
theorem set_any (h : TabAt w p kn hs ls vh m cs Fs) (r k n : Int) (hl : ∀ kc ∈ cs, (ls kc.1).length = hs.length) (hm : hs.length ≤ 1200000000000) :
    Calls Tryz.prog 98 #[.pointer (some ⟨p, 0, none⟩), .int .i64 r, .int .i64 k, .int .i64 n] w (SetPost w p kn m hs ls vh cs Fs r k n) := by
  have hrow := fun w (h : TabAt w p kn hs ls vh m cs Fs) => isRow_any h r
  have HT := Lib.hid h
  cases hr : rowB r hs.length with
  | false =>
    have HE := Lib.hid (show setE kn r hs.length k n = 5 by unfold setE; rw [if_pos hr])
    have h1 := hrow w h
    rw [hr] at h1
    have H1 := Lib.hid h1
    clear hrow h hr h1 hl
    go_enter Tryz.func98, Tryz.ntmps98
    go_wp2_with fail
    refine H1.out.mono ?_
    rintro e w1 ⟨rfl, rfl⟩
    go_wp2
    go_ret
    refine ⟨by rw [HE.out]; rfl, ?_, Mod.refl _ _⟩
    rw [HE.out]; exact HT.out
  | true =>
    have h1 := hrow w h
    rw [hr] at h1
    have H1 := Lib.hid h1
    clear h1 hrow
    rcases kindE_cases kn k with ⟨hb, he⟩ | ⟨j, rfl, hj, hb, he⟩ | ⟨j, rfl, hj, hb, he⟩
    · have HE := Lib.hid (show setE kn r hs.length k n = 1 by unfold setE; rw [if_neg (by rw [hr]; simp), he]; simp)
      have h2 := fun w => colOf_bad (p := p) k hb w
      simp only [ofV] at h2
      have H2 := Lib.hid h2
      clear h hr h2 hb he hl
      go_enter Tryz.func98, Tryz.ntmps98
      go_wp2_with fail
      refine H1.out.mono ?_
      rintro e w1 ⟨rfl, rfl⟩
      go_wp2_with fail
      refine (H2.out _).mono ?_
      rintro e w1 ⟨rfl, rfl⟩
      go_wp2
      go_ret
      refine ⟨by rw [HE.out]; rfl, ?_, Mod.refl _ _⟩
      rw [HE.out]; exact HT.out
    · have HE := Lib.hid (show setE kn r hs.length j n = 5 by unfold setE; rw [if_neg (by rw [hr]; simp), he]; simp)
      have h2 := colOf_no h j hj hb
      simp only [ofV] at h2
      have H2 := Lib.hid h2
      clear h hr h2 hb he hl
      go_enter Tryz.func98, Tryz.ntmps98
      go_wp2_with fail
      refine H1.out.mono ?_
      rintro e w1 ⟨rfl, rfl⟩
      go_wp2_with fail
      refine H2.out.mono ?_
      rintro e w1 ⟨rfl, rfl⟩
      go_wp2
      go_ret
      refine ⟨by rw [HE.out]; rfl, ?_, Mod.refl _ _⟩
      rw [HE.out]; exact HT.out
    · obtain ⟨c, hc⟩ := h.kind hj hb
      have h2 := colOf_yes h (j, c) hc
      simp only [ofV] at h2
      have H2 := Lib.hid h2
      clear h2
      by_cases hn : n < -1000000000 ∨ 1000000000 < n
      · have HE := Lib.hid (show setE kn r hs.length j n = 1 by unfold setE; rw [if_neg (by rw [hr]; simp), he, if_pos hn]; simp)
        clear h hr hb he hl
        rcases hn with hn | hn
        all_goals
          go_enter Tryz.func98, Tryz.ntmps98
          go_wp2_with fail
          refine H1.out.mono ?_
          rintro e w1 ⟨rfl, rfl⟩
          go_wp2_with fail
          refine H2.out.mono ?_
          rintro e w1 ⟨rfl, rfl⟩
          go_wp2
          go_ret
          refine ⟨by rw [HE.out]; rfl, ?_, Mod.refl _ _⟩
          rw [HE.out]; exact HT.out
      · have HE := Lib.hid (show setE kn r hs.length j n = 0 by unfold setE; rw [if_neg (by rw [hr]; simp), he, if_neg hn]; simp)
        obtain ⟨q, rfl, hq⟩ := rowB_iff.1 hr
        obtain ⟨v, hf, hF⟩ := h.cols.col (j, c) hc
        simp only at hf hF
        have hlen := hl (j, c) hc
        simp only at hlen
        have hrow := hf.row
        rw [← ints_flat, hlen] at hrow
        obtain ⟨g, cap, cur, hv, -, -, -⟩ := row_some hrow (by omega)
        have c0 := hf.cell
        rw [hv] at c0 hrow
        have cq := row_cell hrow (ints_at (ls j) q (by omega))
        have fq := row_free hrow q
        have hst := row_set hrow q (.int .i64 n)
        rw [ints_set] at hst
        have hfin : ∃ w', w' = w.setCell ⟨g, q, none⟩ (.int .i64 n) ∧ TabAt w' p kn hs (updL ls j ((ls j).set q n)) vh m cs Fs ∧ Mod (tabF p m vh cs Fs) w w' := by
          refine ⟨_, rfl, ?_⟩
          have hgF : g ∈ Fs j := by rw [hF, hv]; simp [Value.ownBlock]
          have hM : Mod [g] w (w.setCell ⟨g, q, none⟩ (.int .i64 n)) := (Mod.refl _ _).setCell (.inl (by simp)) _
          have hoff : ∀ x ∈ p :: m :: vh.ownBlock.toList, x ∉ [g] := fun x hx hg => h.cols.off (j, c) hc g hgF (by simp at hg; rw [← hg]; exact hx)
          have hgc : c ≠ g := fun e : c = g => hf.ne g (by rw [hv]; rfl) e.symm
          refine ⟨⟨h.hd.mod hM (hoff p (by simp)) (fun k hk => hoff k (by simp [hk])), h.map.mod hM (hoff m (by simp)), h.kinds, ⟨?_, h.cols.apart, h.cols.off⟩, h.mp, h.mh⟩, hM.mono (fun x hx => .inl ?_)⟩
          · intro kd hd
            by_cases e : kd.1 = j
            · have := kind_inj h.nodup hd hc e
              subst this
              simp only [updL_same]
              refine ⟨v, ⟨hM.keep hf.blk (by simpa using hgc), rfl, ?_, hf.ne⟩, hF⟩
              rw [List.length_set, hlen, ← ints_flat, hv]; exact hst
            · rw [updL_ne _ _ e]
              exact (h.cols.col kd hd).mod hM (fun x hx hg => h.cols.apart kd hd (j, c) hc e x hx (by simp at hg; rw [hg]; exact hgF))
          · simp at hx
            subst hx
            simp only [tabF, List.mem_cons, List.mem_append, List.mem_flatMap]
            exact .inr (.inr (.inr ⟨(j, c), hc, hgF⟩))
        obtain ⟨w9, hw9, ht9, hm9⟩ := hfin
        have HT9 := Lib.hid ht9; have HM9 := Lib.hid hm9
        have hq1 : (q : Int) < (hs.length : Int) := by omega
        have hle : hs.length ≤ 9223372036854775807 := by omega
        have hn1 : decide (n < -1000000000) = false := by simp; omega
        have hn2 : decide (1000000000 < n) = false := by simp; omega
        have hlow : -1000000000 ≤ n := by omega
        have hhigh : n ≤ 1000000000 := by omega
        generalize (ls j)[q]'(by omega) = old at cq
        have hgl := row_lt hrow g rfl
        clear h hr hb he hl hf hF hlen hrow hst ht9 hm9 hc hq
        go_enter Tryz.func98, Tryz.ntmps98
        go_wp2_with fail
        refine H1.out.mono ?_
        rintro e w1 ⟨rfl, rfl⟩
        go_wp2_with fail
        refine H2.out.mono ?_
        rintro e w1 ⟨rfl, rfl⟩
        go_wp2
        rw [← hw9]
        go_ret
        refine ⟨by rw [HE.out]; rfl, ?_, HM9.out⟩
        rw [HE.out]; exact HT9.out
end
end Go.Proofs.YtehjfmjibiafdaaGreat
