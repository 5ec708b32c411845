import Derived.Test.YtkcpmoinpdojjaaWorldRowsJ25
import Derived.Test.YtkcpmoinpdojjaaWorldRowsJ2
import Derived.Test.YtkcpmoinpdojjaaWorldRowsJ20
import Derived.Test.YtkcpmoinpdojjaaWorldRowsJ27
import Derived.Test.YtkcpmoinpdojjaaWorldRowsJ7
import Derived.Test.YtkcpmoinpdojjaaChecked
import Derived.ProofKit
import Derived.JoinedOf
import Derived.KernelRfl
/- The reference's zoo: Rows: those that match a query. (printed by mk_zrows.py) -/
namespace Go.Proofs.Ytkcpmoinpdojjaa
open Go Go.RowKit
variable {vB : Value}

attribute [local go_sem] AllFrom.cons_eq AllFrom.nil_eq putF_nil putF_cons wantedL_none wantedL_some OpGoalT OpGoalV OpGoalQ YieldsR preF_nil preF_cons

/-- The rows that match. -/
def rowsM (L : List Rw) (n t a : Int) : List Rw := L.filter (fun x => matchesB x.2.1 n t a)

set_option maxRecDepth 20000 in
set_option maxHeartbeats 2000000 in
theorem rows1_any (s1 g1 K a0 a1 a2 a3 a4 a5 a6 a7 n t a : Int) (hn : InR n) (b : Nat) (w : World) (h0 : w.heap[b]? = some (.cells #[.int .i64 n, .int .i64 t, .int .i64 a] 26 (0, 0))) :
    Calls Try.prog 123 #[.agg #[.int .i64 s1, .int .i64 g1, .int .i64 K, .int .i64 a0, .int .i64 a1, .int .i64 a2, .int .i64 a3, .int .i64 a4, .int .i64 a5, .int .i64 a6, .int .i64 a7], .pointer (some ⟨b, 0, none⟩)] w (fun e w' => e = .returned (.bool (!matchesB K n t a)) ∧ Below w.heap.size w w') := by
  have H1 := Lib.hid (refMatches_any K n t a hn)
  obtain ⟨w0, hw0, hb0, hz0, hs0⟩ := box1 w (.cells #[.int .i64 s1, .int .i64 g1, .int .i64 K, .int .i64 a0, .int .i64 a1, .int .i64 a2, .int .i64 a3, .int .i64 a4, .int .i64 a5, .int .i64 a6, .int .i64 a7] 51)
  have hq0 := (Mod.ofBelow hb0).keep h0 (by simp)
  have r0 := blk_cell hz0 0
  have r1 := blk_cell hz0 1
  have r2 := blk_cell hz0 2
  have r3 := blk_cell hz0 3
  have r4 := blk_cell hz0 4
  have r5 := blk_cell hz0 5
  have r6 := blk_cell hz0 6
  have r7 := blk_cell hz0 7
  have r8 := blk_cell hz0 8
  have r9 := blk_cell hz0 9
  have r10 := blk_cell hz0 10
  simp only [List.getElem?_toArray, List.getElem?_cons_zero, List.getElem?_cons_succ] at r0 r1 r2 r3 r4 r5 r6 r7 r8 r9 r10
  have rl := blk_lt hz0
  have q0 := blk_cell hq0 0
  have q1 := blk_cell hq0 1
  have q2 := blk_cell hq0 2
  simp only [List.getElem?_toArray, List.getElem?_cons_zero, List.getElem?_cons_succ] at q0 q1 q2
  have ql := blk_lt hq0
  generalize matchesB K n t a = z at *
  have Hb0 := Lib.hid hb0
  clear hb0
  clear hz0 hq0 h0 hs0
  go_enter Try.func123, Try.ntmps123
  go_wp2_with fail
  refine (H1.out _).mono ?_
  rintro e w1 ⟨rfl, hb1⟩
  have hB := Hb0.out.trans (hb1.mono Hb0.out.size)
  have HB := Lib.hid hB
  clear hB
  clear hb1
  go_wp2
  go_ret
  exact ⟨rfl, HB.out⟩

set_option maxRecDepth 20000 in
set_option maxHeartbeats 4000000 in
theorem withoutQ_any {w : World} {L : List Rw} {A : Option Addr} {cap : Nat} (hrow : w.ownsRow 0 51 11 (.slice A L.length cap) L.length (L.flatMap rwC)) (hl : L.length ≤ 1200000000000) (n t a : Int) (hn : InR n) (b : Nat) (h0 : w.heap[b]? = some (.cells #[.int .i64 n, .int .i64 t, .int .i64 a] 26 (0, 0))) :
    Calls Try.prog 115 #[.slice A L.length cap, .func (.func 123) #[] #[.pointer (some ⟨b, 0, none⟩)]] w (MadeR 51 11 rwC (rowsM L n t a) w) := by
  have hle : L.length ≤ 9223372036854775807 := by omega
  have hbl := blk_lt h0
  have HLL := Lib.hid hl
  have HN := Lib.hid hn
  clear hl hn
  go_enter Try.func115, Try.ntmps115
  go_wp2
  go_loopw [5, 10] (fun v i wr => ∃ m : Nat, m ≤ L.length ∧ i = .int .i64 m ∧ wr.ownsRow w.heap.size 51 11 v (rowsM (L.take m) n t a).length ((rowsM (L.take m) n t a).flatMap rwC) ∧ Below w.heap.size w wr) (fun _ i _ => L.length - (intOf i).toNat)
  case atStart => exact ⟨0, by omega, rfl, ⟨rfl, .inl ⟨rfl, rfl⟩⟩, Below.refl _ _⟩
  case round =>
    obtain ⟨m, hm, rfl, hown, hbel⟩ := hrel
    have hsz := hbel.size
    by_cases hlt : m < L.length
    · have hro : wr.ownsRow 0 51 11 (.slice A L.length cap) L.length (L.flatMap rwC) := row_mod hrow (Mod.ofBelow hbel) (by simp)
      obtain ⟨g0, cap0, cur0, hv, -, -, -⟩ := row_some hro (by omega)
      cases hv
      have hpc := row_piece rwC_len hro hlt 0 (rwC L[m]) (fun j u hu => by rw [Nat.zero_add]; exact hu)
      have hst : rowsM (L.take (m + 1)) n t a = rowsM (L.take m) n t a ++ (if matchesB L[m].2.1 n t a = true then [L[m]] else []) := by
        unfold rowsM
        rw [take_succ_get L m hlt, List.filter_append, List.filter_cons]
        by_cases e : matchesB L[m].2.1 n t a = true <;> simp [e]
      have hlen : (rowsM (L.take m) n t a).length ≤ m := by
        have h1 : (rowsM (L.take m) n t a).length ≤ (L.take m).length := List.length_filter_le _ _
        rw [List.length_take] at h1; omega
      have hg0 := row_lt hro g0 rfl
      have hni : (m : Int) < (L.length : Int) := by omega
      generalize rowsM (L.take m) n t a = M at *
      obtain ⟨x, hx⟩ : ∃ x, L[m] = x := ⟨_, rfl⟩
      rw [hx] at hpc hst
      obtain ⟨⟨s1, g1⟩, K, a0, a1, a2, a3, a4, a5, a6, a7⟩ := x
      have hbz := (Mod.ofBelow hbel).keep h0 (by simp)
      obtain ⟨w3, hw3, hb3, hz3, hs3⟩ := box1 wr (.cells #[.int .i64 s1, .int .i64 g1, .int .i64 K, .int .i64 a0, .int .i64 a1, .int .i64 a2, .int .i64 a3, .int .i64 a4, .int .i64 a5, .int .i64 a6, .int .i64 a7] 51)
      have hO3 := hown.alloc (.cells #[.int .i64 s1, .int .i64 g1, .int .i64 K, .int .i64 a0, .int .i64 a1, .int .i64 a2, .int .i64 a3, .int .i64 a4, .int .i64 a5, .int .i64 a6, .int .i64 a7] 51)
      rw [hw3] at hO3
      have hb03 := hbel.trans (hb3.mono hsz)
      have hbz3 := (Mod.ofBelow hb3).keep hbz (by simp)
      have hk1 := rows1_any s1 g1 K a0 a1 a2 a3 a4 a5 a6 a7 n t a HN.out b w3 hbz3
      simp only at hst
      generalize matchesB K n t a = z at *
      have hl3 : wr.heap.size < w3.heap.size := by omega
      have r0 := blk_cell hz3 0
      have r1 := blk_cell hz3 1
      have r2 := blk_cell hz3 2
      have r3 := blk_cell hz3 3
      have r4 := blk_cell hz3 4
      have r5 := blk_cell hz3 5
      have r6 := blk_cell hz3 6
      have r7 := blk_cell hz3 7
      have r8 := blk_cell hz3 8
      have r9 := blk_cell hz3 9
      have r10 := blk_cell hz3 10
      simp only [List.getElem?_toArray, List.getElem?_cons_zero, List.getElem?_cons_succ] at r0 r1 r2 r3 r4 r5 r6 r7 r8 r9 r10
      have rl := blk_lt hz3
      have HP := Lib.hid hpc; have Hst := Lib.hid hst; have Hlen := Lib.hid hlen; have Hown := Lib.hid hown; have Hbel := Lib.hid hbel; have HO3 := Lib.hid hO3; have Hb03 := Lib.hid hb03; have Hk := Lib.hid hk1; have Hs3 := Lib.hid hs3; have Hz3 := Lib.hid hz3; have Hw3 := Lib.hid hw3; have H0 := Lib.hid h0; have Hrow := Lib.hid hrow
      clear hpc hst hlen hown hbel hO3 hb03 hk1 hs3 hz3 hw3 h0 hrow
      clear hro hx hbz hbz3 hb3
      have HO := Lib.hid (rwC_one ((s1, g1), K, a0, a1, a2, a3, a4, a5, a6, a7))
      go_wp2_with (first | (refine wpList_load_flat rfl 51 (.tmp 12) rfl _ rfl [.int .i64 s1, .int .i64 g1, .int .i64 K, .int .i64 a0, .int .i64 a1, .int .i64 a2, .int .i64 a3, .int .i64 a4, .int .i64 a5, .int .i64 a6, .int .i64 a7] _ Try.underlying51 rfl (by kernel_rfl) HP.out ?_) | (refine wpList_store_new rfl 51 (.tmp 7) (.tmp 13) rfl wr (ints zero11) [.int .i64 s1, .int .i64 g1, .int .i64 K, .int .i64 a0, .int .i64 a1, .int .i64 a2, .int .i64 a3, .int .i64 a4, .int .i64 a5, .int .i64 a6, .int .i64 a7] 51 rfl rfl rfl (sz_Row ((s1, g1), K, a0, a1, a2, a3, a4, a5, a6, a7)) HO.out ?_; rw [show ([.int .i64 s1, .int .i64 g1, .int .i64 K, .int .i64 a0, .int .i64 a1, .int .i64 a2, .int .i64 a3, .int .i64 a4, .int .i64 a5, .int .i64 a6, .int .i64 a7] : List Value).toArray = #[.int .i64 s1, .int .i64 g1, .int .i64 K, .int .i64 a0, .int .i64 a1, .int .i64 a2, .int .i64 a3, .int .i64 a4, .int .i64 a5, .int .i64 a6, .int .i64 a7] from rfl, Hw3.out]; clear HO))
      refine Hk.out.mono ?_
      rintro e w4 ⟨rfl, hb4⟩
      have hz4 := (Mod.ofBelow hb4).keep Hz3.out (by simp)
      have hs4 := hb4.size
      have hs3 := Hs3.out
      have hO4 := row_mod HO3.out (Mod.ofBelow hb4) (by simp)
      have hb04 := Hb03.out.trans (hb4.mono Hb03.out.size)
      have hbs := Hb03.out.size
      cases z with
      | false =>
        have hst := Hst.out
        rw [if_neg (by simp), List.append_nil] at hst
        have Hst2 := Lib.hid hst; have HO4 := Lib.hid hO4; have Hbel4 := Lib.hid hb04; have Hz4 := Lib.hid hz4; have Hs4 := Lib.hid hs4; have Hbs := Lib.hid hbs
        clear hst hO4 hb04 hz4 hs4 hbs
        clear hs3 hb4 r0 r1 r2 r3 r4 r5 r6 r7 r8 r9 r10 rl
        go_wp2
        go_roundw
        case rel => exact ⟨m + 1, by omega, by go_num, by rw [Hst2.out]; exact HO4.out, Hbel4.out⟩
        case measure => simp [intOf]; omega
      | true =>
        have hst := Hst.out
        rw [if_pos rfl] at hst
        clear r0 r1 r2 r3 r4 r5 r6 r7 r8 r9 r10 rl
        have r0 := blk_cell hz4 0
        have r1 := blk_cell hz4 1
        have r2 := blk_cell hz4 2
        have r3 := blk_cell hz4 3
        have r4 := blk_cell hz4 4
        have r5 := blk_cell hz4 5
        have r6 := blk_cell hz4 6
        have r7 := blk_cell hz4 7
        have r8 := blk_cell hz4 8
        have r9 := blk_cell hz4 9
        have r10 := blk_cell hz4 10
        simp only [List.getElem?_toArray, List.getElem?_cons_zero, List.getElem?_cons_succ] at r0 r1 r2 r3 r4 r5 r6 r7 r8 r9 r10
        have rl := blk_lt hz4
        have Hst2 := Lib.hid hst; have Hown4 := Lib.hid hO4; have Hbel4 := Lib.hid hb04; have Hs4 := Lib.hid hs4; have Hbs := Lib.hid hbs
        clear hst hO4 hb04 hs4 hbs
        clear hb4 hz4 hs3
        go_wp2_with (at_builtin; (refine app_row rfl _ _ rfl w.heap.size _ M ((s1, g1), K, a0, a1, a2, a3, a4, a5, a6, a7) ⟨w4.heap.size, 0, none⟩ 1 rfl (Hown4.out.alloc _) rfl (new_rec (by simp) rfl) (by have := HLL.out; have := Hlen.out; omega) (by have := Hbel4.out.size; simp; omega) ?_); intro v' w5 hown5 hb5)
        go_roundw
        case rel => exact ⟨m + 1, by omega, by go_num, by rw [Hst2.out]; exact hown5, (Hbel4.out.alloc Hbel4.out.size _).trans hb5⟩
        case measure => simp [intOf]; omega
    · obtain rfl : m = L.length := by omega
      rw [List.take_length] at hown
      have Hown := Lib.hid hown; have Hbel := Lib.hid hbel
      clear hown hbel
      clear hrow h0
      go_wp2
      go_ret
      exact ⟨_, rfl, Hown.out, Hbel.out⟩
/-- What Rows returns: a slice of one's own, or nil and an error. -/
def RowsPost (B : Nat) (L : List Rw) (n t a : Int) (w : World) (e : Ending) (w' : World) : Prop :=
  ∃ v, e = .returned (.tuple #[v, .int .i64 (qcheck n t a)]) ∧ w'.ownsRow B 51 11 v (if qcheck n t a = 0 then rowsM L n t a else []).length ((if qcheck n t a = 0 then rowsM L n t a else []).flatMap rwC) ∧ Below w.heap.size w w'
set_option maxRecDepth 20000 in
set_option maxHeartbeats 4000000 in
theorem zrows_any {w : World} {q : Nat} {sl : Sl} {L : List Rw} {F : List Nat} (h : RepZ vB w q sl L F) (hl : L.length ≤ 60) (n t a : Int) (hn : InR n) :
    Calls Try.prog 57 #[.pointer (some ⟨q, 0, none⟩), .agg #[.int .i64 n, .int .i64 t, .int .i64 a]] w (RowsPost w.heap.size L n t a w) := by
  obtain ⟨w0, hw0, hb0, hz0, hs0⟩ := box1 w (.cells #[.int .i64 n, .int .i64 t, .int .i64 a] 26)
  have H1 := Lib.hid (queryCheck_any n t a)
  have h0 := h.below hb0
  have r0 := blk_cell hz0 0
  have r1 := blk_cell hz0 1
  have r2 := blk_cell hz0 2
  simp only [List.getElem?_toArray, List.getElem?_cons_zero, List.getElem?_cons_succ] at r0 r1 r2
  have rl := blk_lt hz0
  unfold RowsPost
  cases hz : qcheck n t a == 0 with
  | false =>
    have he : qcheck n t a ≠ 0 := by simpa using hz
    rw [if_neg he]
    have hq : (qcheck n t a != 0) = true := by simpa using he
    generalize qcheck n t a = z at *
    have Hb0 := Lib.hid hb0; have Hs0 := Lib.hid hs0
    clear hb0 hs0
    clear hz0 h0 he h
    go_enter Try.func57, Try.ntmps57
    go_wp2_with fail
    clear hw0
    refine (H1.out _).mono ?_
    rintro e w1 ⟨rfl, hb1⟩
    have hB := Hb0.out.trans (hb1.mono Hb0.out.size)
    have HB := Lib.hid hB
    clear hB
    clear hb1
    go_wp2
    go_ret2
    exact ⟨_, rfl, ⟨rfl, .inl ⟨rfl, rfl⟩⟩, HB.out⟩
  | true =>
    have he : qcheck n t a = 0 := by simpa using hz
    rw [if_pos he]
    simp only [he] at H1
    have hmf : ∀ (fn : Fn) (first cap : Array Value) (w : World), (Instr.makeFunc fn first cap).run Try.prog w = .ok (.func fn first cap) w := fun _ _ _ _ => rfl
    rw [he]
    have Hb0 := Lib.hid hb0; have Hs0 := Lib.hid hs0; have H0 := Lib.hid h0; have Hz0 := Lib.hid hz0
    clear hb0 hs0 h0 hz0
    clear h hz he
    go_enter Try.func57, Try.ntmps57
    go_wp2_with fail
    clear hw0
    refine (H1.out _).mono ?_
    rintro e w1 ⟨rfl, hb1⟩
    have hB := Hb0.out.trans (hb1.mono Hb0.out.size)
    have hz1 := (Mod.ofBelow hb1).keep Hz0.out (by simp)
    obtain ⟨vg, vl, A, cap, hq, hrow⟩ := (H0.out.below hb1).open_
    have H2 := Lib.hid (withoutQ_any hrow (by omega) n t a hn w.heap.size hz1)
    have c2 := blk_cell hq 2
    simp only [List.getElem?_toArray, List.getElem?_cons_zero, List.getElem?_cons_succ] at c2
    have hql := blk_lt hq
    have HB := Lib.hid hB
    clear hB
    clear hb1 r0 r1 r2 rl hz1 hq hrow
    go_wp2_with fail
    refine H2.out.mono ?_
    rintro e w2 ⟨v, rfl, hown, hb2⟩
    have hB2 := HB.out.trans (hb2.mono HB.out.size)
    have hown2 := row_base hown (B' := w.heap.size) (fun k hk => by have := (hown.lt k hk).1; have := HB.out.size; omega)
    have HB2 := Lib.hid hB2; have Hown2 := Lib.hid hown2
    clear hB2 hown2
    clear hb2 hown
    go_wp2
    go_ret2
    exact ⟨_, rfl, Hown2.out, HB2.out⟩
end Go.Proofs.Ytkcpmoinpdojjaa

/- Rows of a world: the plain part. (printed by mk_wrows.py) -/
namespace Go.Proofs.Ytkcpmoinpdojjaa
open Go Go.RowKit

/-! The plain part. -/
def rowsK (rw : Nat → List Rw) (n t a : Int) (ks : List Int) : List Rw := ks.flatMap (fun k => if matchesB k n t a = true then rw k.toNat else [])
theorem rowsK_snoc (rw : Nat → List Rw) (n t a : Int) (ks : List Int) (k : Int) : rowsK rw n t a (ks ++ [k]) = rowsK rw n t a ks ++ (if matchesB k n t a = true then rw k.toNat else []) := by
  unfold rowsK; rw [List.flatMap_append]; simp
theorem rowsK_len {rw : Nat → List Rw} {n t a : Int} : ∀ {ks : List Int}, (∀ k ∈ ks, (rw k.toNat).length ≤ 60) → (rowsK rw n t a ks).length ≤ 60 * ks.length
  | [], _ => by simp [rowsK]
  | k :: ks, h => by
    have ih := rowsK_len (n := n) (t := t) (a := a) (fun x hx => h x (List.mem_cons_of_mem _ hx))
    have h1 := h k (by simp)
    unfold rowsK at ih ⊢
    rw [List.flatMap_cons, List.length_append, List.length_cons, Nat.mul_add]
    have h2 : (if matchesB k n t a = true then rw k.toNat else []).length ≤ 60 := by
      split
      · exact h1
      · simp
    omega
section
variable {sl : Sl} {L : List Rw} {tb : List (Nat × Nat)} {rw : Nat → List Rw} {pl : List Pl}
theorem WCore.tabs (hc : WCore (· ∈ L) (tb.map (·.1)) rw pl) (hO : WOk sl L) : (∀ k ∈ tb.map (·.1), k < 256 ∧ (rw k).length ≤ 60) ∧ tb.length ≤ 256 := by
  have h1 : ∀ k ∈ tb.map (·.1), k < 256 ∧ (rw k).length ≤ 60 := by
    intro k hk
    have hl := hc.len (fun _ h => h) hk
    have := hO.len
    refine ⟨?_, by omega⟩
    have hne := hc.ne k hk
    cases hr : rw k with
    | nil => exact absurd hr hne
    | cons x r =>
      obtain ⟨h2, h3, -⟩ := hc.row k hk 0 x (by rw [hr]; rfl)
      exact (beastZ_good (hO.be x h2) h3).2
  refine ⟨h1, ?_⟩
  have h2 : (tb.map (·.1)).length ≤ (List.range 256).length := List.Nodup.length_le_of_subset hc.tn (fun k hk => List.mem_range.2 (h1 k hk).1)
  simpa using h2
theorem rowsK_mem (hc : WCore (· ∈ L) (tb.map (·.1)) rw pl) {ks : List Int} (hp : ks.Perm (tb.map fun x => (x.1 : Int))) (n t a : Int) (y : Rw) : y ∈ rowsK rw n t a ks ↔ y ∈ rowsM L n t a := by
  unfold rowsK rowsM
  rw [List.mem_flatMap, List.mem_filter]
  constructor
  · rintro ⟨k, hk, hy⟩
    split at hy
    · next hm =>
      obtain ⟨x, hx, rfl⟩ := List.mem_map.1 (hp.mem_iff.1 hk)
      rw [Int.toNat_natCast] at hy
      obtain ⟨i, hi⟩ := List.mem_iff_getElem?.1 hy
      obtain ⟨h2, h3, -⟩ := hc.row x.1 (List.mem_map.2 ⟨x, hx, rfl⟩) i y hi
      exact ⟨h2, by rw [h3]; exact hm⟩
    · simp at hy
  · rintro ⟨hy, hm⟩
    obtain ⟨s, k, i, h1, h2, h3⟩ := hc.has y hy
    obtain ⟨hk, -⟩ := hc.pla s k i h2
    obtain ⟨-, h5, -⟩ := hc.row k hk i y h3
    obtain ⟨x, hx, rfl⟩ := List.mem_map.1 hk
    refine ⟨(x.1 : Int), hp.mem_iff.2 (List.mem_map.2 ⟨x, hx, rfl⟩), ?_⟩
    rw [h5] at hm
    rw [if_pos hm, Int.toNat_natCast]
    exact List.mem_of_getElem? h3
theorem rowsK_nodup (hc : WCore (· ∈ L) (tb.map (·.1)) rw pl) {ks : List Int} (hp : ks.Perm (tb.map fun x => (x.1 : Int))) (n t a : Int) : (rowsK rw n t a ks).Nodup := by
  have hin : ∀ k ∈ ks, ∃ x ∈ tb, k = (x.1 : Int) := fun k hk => by
    obtain ⟨x, hx, e⟩ := List.mem_map.1 (hp.mem_iff.1 hk)
    exact ⟨x, hx, e.symm⟩
  have hkn : ks.Nodup := by
    refine List.Nodup.perm ?_ hp.symm
    have := hc.tn
    unfold List.Nodup at this ⊢
    rw [List.pairwise_map] at this ⊢
    exact this.imp (fun h e => h (by omega))
  unfold rowsK List.Nodup
  rw [List.pairwise_flatMap]
  refine ⟨fun k hk => ?_, ?_⟩
  · split
    · obtain ⟨x, hx, rfl⟩ := hin k hk
      rw [Int.toNat_natCast]
      refine List.pairwise_iff_getElem.2 fun i j hi hj hij e => ?_
      have hkt : x.1 ∈ tb.map (·.1) := List.mem_map.2 ⟨x, hx, rfl⟩
      obtain ⟨-, -, s, q1, q2⟩ := hc.row x.1 hkt i _ (List.getElem?_eq_getElem hi)
      obtain ⟨-, -, s', q3, q4⟩ := hc.row x.1 hkt j _ (List.getElem?_eq_getElem hj)
      rw [e] at q1
      have : s = s' := by omega
      subst this
      have := key_one hc.pn q2 q4
      simp only [Prod.mk.injEq] at this
      omega
    · exact .nil
  · refine List.Pairwise.imp_of_mem ?_ hkn
    intro k1 k2 hk1 hk2 hne x hx y hy e
    subst e
    split at hx
    · split at hy
      · obtain ⟨x1, hx1, rfl⟩ := hin k1 hk1
        obtain ⟨x2, hx2, rfl⟩ := hin k2 hk2
        rw [Int.toNat_natCast] at hx hy
        obtain ⟨i, hi⟩ := List.mem_iff_getElem?.1 hx
        obtain ⟨j, hj⟩ := List.mem_iff_getElem?.1 hy
        obtain ⟨-, h3, -⟩ := hc.row x1.1 (List.mem_map.2 ⟨x1, hx1, rfl⟩) i _ hi
        obtain ⟨-, h4, -⟩ := hc.row x2.1 (List.mem_map.2 ⟨x2, hx2, rfl⟩) j _ hj
        exact hne (by omega)
      · simp at hy
    · simp at hx
end
end Go.Proofs.Ytkcpmoinpdojjaa

/- Worlds: Rows: those that match a query, in the order of slots. (printed by mk_wrows.py) -/
namespace Go.Proofs.Ytkcpmoinpdojjaa
open Go Go.RowKit Go.Shelf Go.Sort

attribute [local go_sem] AllFrom.cons_eq AllFrom.nil_eq putF_nil putF_cons wantedL_none wantedL_some OpGoalT OpGoalV OpGoalQ OpGoalA OpGoalK YieldsR preF_nil preF_cons

section
variable {sl : Sl} {L : List Rw} {tb : List (Nat × Nat)} {rw : Nat → List Rw} {pl : List Pl}
theorem ltRow_eq (x y : Rw) : ltOf (fun x y : Rw => Lib.compareInt x.1.1 y.1.1) x y = decide (x.1.1 < y.1.1) := by
  unfold ltOf Lib.compareInt
  by_cases h1 : x.1.1 < y.1.1
  · simp [h1]
  · by_cases h2 : y.1.1 < x.1.1 <;> simp [h1, h2]
theorem swoRow : SWO (ltOf fun x y : Rw => Lib.compareInt x.1.1 y.1.1) where
  irrefl x := by rw [ltRow_eq]; simp
  trans x y z h1 h2 := by rw [ltRow_eq] at *; simp at *; omega
  ntrans x y z h1 h2 := by rw [ltRow_eq] at *; simp at *; omega
theorem rows_sorted (hc : WCore (· ∈ L) (tb.map (·.1)) rw pl) (hO : WOk sl L) {ks : List Int} (hp : ks.Perm (tb.map fun x => (x.1 : Int))) (n t a : Int) {l' : List Rw} (h1 : l'.Perm (rowsK rw n t a ks)) (h2 : l'.Pairwise (fun x y => ltOf (fun x y : Rw => Lib.compareInt x.1.1 y.1.1) y x = false)) : l' = rowsM L n t a := by
  have hs : (rowsM L n t a).Pairwise (fun x y => x.1.1 < y.1.1) := List.Pairwise.sublist List.filter_sublist hO.sorted
  have hn : (rowsM L n t a).Nodup := hs.imp (fun h e => by rw [e] at h; omega)
  have h3 : l'.Perm (rowsM L n t a) := h1.trans ((List.perm_ext_iff_of_nodup (rowsK_nodup hc hp n t a) hn).2 (rowsK_mem hc hp n t a))
  refine List.Perm.eq_of_pairwise (le := fun x y : Rw => x.1.1 ≤ y.1.1) (fun x y hx hy e1 e2 => ?_) (h2.imp (fun h => by rw [ltRow_eq] at h; simpa using h)) (hs.imp (fun h => by omega)) h3
  have hx2 := (List.mem_filter.1 (h3.mem_iff.1 hx)).1
  have hy2 := (List.mem_filter.1 hy).1
  exact hO.one hx2 hy2 (by omega)
end

/-! The order of rows. -/
set_option maxRecDepth 20000 in
theorem compare_any (x y : Int) (w : World) : Calls Try.prog 122 #[.int .i64 x, .int .i64 y] w fun e w' => e = .returned (.int .i64 (Lib.compareInt x y)) ∧ w = w' := by
  unfold Lib.compareInt
  by_cases h1 : x < y
  · rw [if_pos h1]
    go_enter Try.func122, Try.ntmps122
    go_wp2
    go_ret
    exact ⟨rfl, rfl⟩
  · rw [if_neg h1]
    by_cases h2 : y < x
    · rw [if_pos h2]
      go_enter Try.func122, Try.ntmps122
      go_wp2
      go_ret
      exact ⟨rfl, rfl⟩
    · rw [if_neg h2]
      go_enter Try.func122, Try.ntmps122
      go_wp2
      go_ret
      exact ⟨rfl, rfl⟩
set_option maxRecDepth 20000 in
set_option maxHeartbeats 2000000 in
theorem cmpRow_any (x y : Rw) (W : World) : Calls Try.prog 121 #[.agg (rwC x).toArray, .agg (rwC y).toArray] W fun e w' => e = .returned (.int .i64 (Lib.compareInt x.1.1 y.1.1)) ∧ ∃ q os, w' = grow (W.drewN q) os := by
  obtain ⟨⟨s1, g1⟩, K1, a0, a1, a2, a3, a4, a5, a6, a7⟩ := x
  obtain ⟨⟨s2, g2⟩, K2, c0, c1, c2, c3, c4, c5, c6, c7⟩ := y
  have hcon := compare_any s1 s2
  simp only
  generalize Lib.compareInt s1 s2 = r at hcon ⊢
  show Calls Try.prog 121 #[.agg #[.int .i64 s1, .int .i64 g1, .int .i64 K1, .int .i64 a0, .int .i64 a1, .int .i64 a2, .int .i64 a3, .int .i64 a4, .int .i64 a5, .int .i64 a6, .int .i64 a7], .agg #[.int .i64 s2, .int .i64 g2, .int .i64 K2, .int .i64 c0, .int .i64 c1, .int .i64 c2, .int .i64 c3, .int .i64 c4, .int .i64 c5, .int .i64 c6, .int .i64 c7]] W _
  have HC := Lib.hid hcon
  clear hcon
  go_enter Try.func121, Try.ntmps121
  go_wp2_with fail
  refine (HC.out _).mono ?_
  rintro e w' ⟨rfl, rfl⟩
  go_wp2
  go_ret
  exact ⟨rfl, 0, _, by rw [alloc_eq_grow, alloc_eq_grow, grow_grow]; rfl⟩

def sortRowL_ren : Go.Shelf.Ren := ⟨fun | 6 => 120 | 15 => 147 | 14 => 157 | 28 => 176 | 29 => 177 | 20 => 187 | 21 => 188 | 22 => 189 | 23 => 190 | 24 => 191 | 25 => 192 | 26 => 193 | 27 => 194 | 46 => 206 | 47 => 199 | 48 => 200 | 49 => 207 | 50 => 208 | 57 => 211 | n => n, fun | 22 => 41 | 24 => 51 | 25 => 184 | 3 => 3 | 39 => 203 | 0 => 0 | 53 => 227 | 55 => 215 | 4 => 4 | 46 => 220 | 45 => 219 | 50 => 224 | 5 => 5 | 9 => 9 | 66 => 242 | 70 => 246 | 76 => 252 | 77 => 253 | n => n, fun | n => n⟩
theorem sortRowL : Go.Proofs.SlLaysF0.n6 Try.prog sortRowL_ren := {
  mixed := by kernel_rfl,
  f6 := ⟨Try.f120.name, by decide, Try.func120.trans (congrArg some (by kernel_rfl))⟩,
  f14 := ⟨Try.f157.name, by decide, Try.func157.trans (congrArg some (by kernel_rfl))⟩,
  f15 := Try.func147.trans (congrArg some (by kernel_rfl)),
  f20 := ⟨Try.f187.name, by decide, Try.func187.trans (congrArg some (by kernel_rfl))⟩,
  f21 := ⟨Try.f188.name, by decide, Try.func188.trans (congrArg some (by kernel_rfl))⟩,
  f22 := ⟨Try.f189.name, by decide, Try.func189.trans (congrArg some (by kernel_rfl))⟩,
  f23 := ⟨Try.f190.name, by decide, Try.func190.trans (congrArg some (by kernel_rfl))⟩,
  f24 := ⟨Try.f191.name, by decide, Try.func191.trans (congrArg some (by kernel_rfl))⟩,
  f25 := ⟨Try.f192.name, by decide, Try.func192.trans (congrArg some (by kernel_rfl))⟩,
  f26 := ⟨Try.f193.name, by decide, Try.func193.trans (congrArg some (by kernel_rfl))⟩,
  f27 := ⟨Try.f194.name, by decide, Try.func194.trans (congrArg some (by kernel_rfl))⟩,
  f28 := Try.func176.trans (congrArg some (by kernel_rfl)),
  f29 := Try.func177.trans (congrArg some (by kernel_rfl)),
  f46 := ⟨Try.f206.name, by decide, Try.func206.trans (congrArg some (by kernel_rfl))⟩,
  f47 := Try.func199.trans (congrArg some (by kernel_rfl)),
  f48 := Try.func200.trans (congrArg some (by kernel_rfl)),
  f49 := ⟨Try.f207.name, by decide, Try.func207.trans (congrArg some (by kernel_rfl))⟩,
  f50 := ⟨Try.f208.name, by decide, Try.func208.trans (congrArg some (by kernel_rfl))⟩,
  f57 := ⟨Try.f211.name, by decide, Try.func211.trans (congrArg some (by kernel_rfl))⟩,
  t0 := Try.underlying0,
  a0 := Try.isAgg0,
  z0 := Try.sizeOf0,
  v0 := Try.zeroValue0,
  t3 := Try.underlying3,
  a3 := Try.isAgg3,
  z3 := Try.sizeOf3,
  v3 := Try.zeroValue3,
  t4 := Try.underlying4,
  a4 := Try.isAgg4,
  z4 := Try.sizeOf4,
  v4 := Try.zeroValue4,
  t5 := Try.underlying5,
  a5 := Try.isAgg5,
  z5 := Try.sizeOf5,
  v5 := Try.zeroValue5,
  t9 := Try.underlying9,
  a9 := Try.isAgg9,
  z9 := Try.sizeOf9,
  v9 := Try.zeroValue9,
  t22 := Try.underlying41,
  a22 := Try.isAgg41,
  z22 := Try.sizeOf41,
  v22 := Try.zeroValue41,
  t25 := Try.underlying184,
  a25 := Try.isAgg184,
  z25 := Try.sizeOf184,
  v25 := Try.zeroValue184,
  t39 := Try.underlying203,
  a39 := Try.isAgg203,
  z39 := Try.sizeOf203,
  v39 := Try.zeroValue203,
  t45 := Try.underlying219,
  a45 := Try.isAgg219,
  z45 := Try.sizeOf219,
  v45 := Try.zeroValue219,
  t46 := Try.underlying220,
  a46 := Try.isAgg220,
  z46 := Try.sizeOf220,
  v46 := Try.zeroValue220,
  t50 := Try.underlying224,
  a50 := Try.isAgg224,
  z50 := Try.sizeOf224,
  v50 := Try.zeroValue224,
  t53 := Try.underlying227,
  a53 := Try.isAgg227,
  z53 := Try.sizeOf227,
  v53 := Try.zeroValue227,
  t55 := Try.underlying215,
  a55 := Try.isAgg215,
  z55 := Try.sizeOf215,
  v55 := Try.zeroValue215,
  t66 := Try.underlying242,
  a66 := Try.isAgg242,
  z66 := Try.sizeOf242,
  v66 := Try.zeroValue242,
  t70 := Try.underlying246,
  a70 := Try.isAgg246,
  z70 := Try.sizeOf246,
  v70 := Try.zeroValue246,
  t76 := Try.underlying252,
  a76 := Try.isAgg252,
  z76 := Try.sizeOf252,
  v76 := Try.zeroValue252,
  t77 := Try.underlying253,
  a77 := Try.isAgg253,
  z77 := Try.sizeOf253,
  v77 := Try.zeroValue253 }

theorem sortRows_any {w : World} {B : Nat} {v : Value} {l : List Rw} (hown : w.ownsRow B 51 11 v l.length (l.flatMap rwC)) (hl : l.length < 1200000000000) :
    Calls Try.prog 120 #[v, .func (.func 121) #[] #[]] w (SortedRow rwC 11 B 51 (ltOf fun x y : Rw => Lib.compareInt x.1.1 y.1.1) l v w) :=
  sort_own sortRowL Try.isAgg51 Try.sizeOf51 rwC_len rwC_one _ swoRow 121 (enters_of Try.func121 (by kernel_rfl) rfl) cmpRow_any hown (by omega)
end Go.Proofs.Ytkcpmoinpdojjaa

/- Worlds: Rows, walked. (printed by mk_wrows2.py) -/
namespace Go.Proofs.Ytkcpmoinpdojjaa
open Go Go.RowKit

attribute [local go_sem] AllFrom.cons_eq AllFrom.nil_eq putF_nil putF_cons wantedL_none wantedL_some OpGoalT OpGoalV OpGoalQ OpGoalA OpGoalK YieldsR preF_nil preF_cons

set_option maxRecDepth 20000 in
set_option maxHeartbeats 4000000 in
theorem wrows_any {w : World} {p : Nat} {sl : Sl} {L : List Rw} {F : List Nat} (h : RepW w p sl L F) (n t a : Int) :
    Calls Try.prog 56 #[.pointer (some ⟨p, 0, none⟩), .agg #[.int .i64 n, .int .i64 t, .int .i64 a]] w (RowsPost w.heap.size L n t a w) := by
  obtain ⟨w0, hw0, hb0, hz0, hs0⟩ := box1 w (.cells #[.int .i64 n, .int .i64 t, .int .i64 a] 26)
  have H1 := Lib.hid (checkQuery_any n t a)
  have h0 := h.below hb0
  have r0 := blk_cell hz0 0
  have r1 := blk_cell hz0 1
  have r2 := blk_cell hz0 2
  simp only [List.getElem?_toArray, List.getElem?_cons_zero, List.getElem?_cons_succ] at r0 r1 r2
  have rl := blk_lt hz0
  unfold RowsPost
  cases hz : qcheck n t a == 0 with
  | false =>
    have he : qcheck n t a ≠ 0 := by simpa using hz
    rw [if_neg he]
    have hq : (qcheck n t a != 0) = true := by simpa using he
    generalize qcheck n t a = z at *
    have Hb0 := Lib.hid hb0; have Hs0 := Lib.hid hs0
    clear hb0 hs0
    clear hz0 h0 he h
    go_enter Try.func56, Try.ntmps56
    go_wp2_with fail
    clear hw0
    refine (H1.out _).mono ?_
    rintro e w1 ⟨rfl, hb1⟩
    have hB := Hb0.out.trans (hb1.mono Hb0.out.size)
    have HB := Lib.hid hB
    clear hB
    clear hb1
    go_wp2
    go_ret2
    exact ⟨_, rfl, ⟨rfl, .inl ⟨rfl, rfl⟩⟩, HB.out⟩
  | true =>
    have he : qcheck n t a = 0 := by simpa using hz
    rw [if_pos he]
    simp only [he] at H1
    rw [he]
    obtain ⟨ps, mt, mp, tb, rw, pl, FS, Fs, c, hW, hC, hO, -⟩ := h0
    have Hb0 := Lib.hid hb0; have Hs0 := Lib.hid hs0; have HW0 := Lib.hid hW; have HC := Lib.hid hC; have HO := Lib.hid hO; have Hz0 := Lib.hid hz0
    clear hb0 hs0 hW hC hO hz0
    clear h hz he
    go_enter Try.func56, Try.ntmps56
    go_wp2_with fail
    clear hw0
    refine (H1.out _).mono ?_
    rintro e w1 ⟨rfl, hb1⟩
    have hB := Hb0.out.trans (hb1.mono Hb0.out.size)
    have hz1 := (Mod.ofBelow hb1).keep Hz0.out (by simp)
    have hW1 := HW0.out.below hb1
    have e0 := blk_cell hW1.blk 1
    simp only [List.getElem?_toArray, List.getElem?_cons_zero, List.getElem?_cons_succ] at e0
    have hpl := blk_lt hW1.blk
    have H2 := Lib.hid (coll_any hW1.tm (by have := (HC.out.tabs HO.out).2; omega))
    have HB := Lib.hid hB; have Hz1 := Lib.hid hz1; have HW1 := Lib.hid hW1
    clear hB hz1 hW1
    clear hb1 r0 r1 r2 rl
    go_wp2_with fail
    refine (keys_any _ _).mono ?_
    rintro e w2 ⟨rfl, rfl⟩
    go_wp2_with fail
    refine H2.out.mono ?_
    rintro e w3 ⟨vk, ss, rfl, hp, hks, hb3⟩
    have hb13 : Below w1.heap.size w1 w3 := ((Below.refl w1.heap.size w1).alloc (Nat.le_refl _) _).trans (hb3.mono (by simp))
    obtain ⟨Ak, ck, hvk, hck, hck2⟩ := row_slice hks
    subst hvk
    have hlk : ss.length ≤ 256 := by
      have h1 := hp.length_eq
      rw [List.length_map] at h1
      have := (HC.out.tabs HO.out).2
      omega
    have hz3 := (Mod.ofBelow hb13).keep Hz1.out (by simp)
    have hW3 := HW1.out.below hb13
    have hB3 := HB.out.trans (hb13.mono HB.out.size)
    have HP := Lib.hid hp; have HKS := Lib.hid hks; have Hz3 := Lib.hid hz3; have HW3 := Lib.hid hW3; have HB3 := Lib.hid hB3
    clear hp hks hz3 hW3 hB3
    clear hb13 hb3 e0 hpl hck hck2
    go_wp2_with fail
    go_loopw [7, 26] (fun v i wr => ∃ m : Nat, m ≤ ss.length ∧ i = .int .i64 m ∧ wr.ownsRow w3.heap.size 51 11 v (rowsK rw n t a (ss.take m)).length ((rowsK rw n t a (ss.take m)).flatMap rwC) ∧ Below w3.heap.size w3 wr) (fun _ i _ => ss.length - (intOf i).toNat)
    case atStart => exact ⟨0, by omega, rfl, ⟨rfl, .inl ⟨rfl, rfl⟩⟩, Below.refl _ _⟩
    case round =>
      obtain ⟨m, hm, rfl, hown, hbel⟩ := hrel
      have hzr := (Mod.ofBelow hbel).keep Hz3.out (by simp)
      have hWr := HW3.out.below hbel
      have hBr := HB3.out.trans (hbel.mono HB3.out.size)
      by_cases hlt : m < ss.length
      · have hkr := row_mod HKS.out (Mod.ofBelow hbel) (by simp)
        obtain ⟨gk, ck2, -, hv, -, -, -⟩ := row_some hkr (by omega)
        cases hv
        have hcell := row_cell hkr (i := m) (u := .int .i64 ss[m]) (by unfold ints; rw [List.getElem?_map, List.getElem?_eq_getElem hlt]; rfl)
        have hgk := row_lt hkr gk rfl
        obtain ⟨⟨kn, b⟩, hx, hxe⟩ := List.mem_map.1 (HP.out.mem_iff.1 (List.getElem_mem hlt))
        simp only at hxe
        rw [← hxe] at hcell
        have hkt : kn ∈ tb.map (·.1) := List.mem_map.2 ⟨_, hx, rfl⟩
        obtain ⟨hkn, hl60⟩ := (HC.out.tabs HO.out).1 kn hkt
        have hsn : rowsK rw n t a (ss.take (m + 1)) = rowsK rw n t a (ss.take m) ++ (if matchesB (kn : Int) n t a = true then rw kn else []) := by
          rw [take_succ_get ss m hlt, rowsK_snoc, ← hxe, Int.toNat_natCast]
        have hlen : (rowsK rw n t a (ss.take m)).length ≤ 60 * m := by
          have h1 := rowsK_len (rw := rw) (n := n) (t := t) (a := a) (ks := ss.take m) (fun k hk => by
            obtain ⟨x, hx, rfl⟩ := List.mem_map.1 (HP.out.mem_iff.1 (List.mem_of_mem_take hk))
            rw [Int.toNat_natCast]
            exact ((HC.out.tabs HO.out).1 x.1 (List.mem_map.2 ⟨x, hx, rfl⟩)).2)
          rw [List.length_take, Nat.min_eq_left hm] at h1
          exact h1
        generalize rowsK rw n t a (ss.take m) = M at *
        have hmi : (m : Int) < (ss.length : Int) := by omega
        have H8 := Lib.hid (matches_any (kn : Int) n t a)
        have r0 := blk_cell hzr 0
        have r1 := blk_cell hzr 1
        have r2 := blk_cell hzr 2
        simp only [List.getElem?_toArray, List.getElem?_cons_zero, List.getElem?_cons_succ] at r0 r1 r2
        have rl := blk_lt hzr
        generalize hmz : matchesB (kn : Int) n t a = z at *
        have HWr := Lib.hid hWr; have HBr := Lib.hid hBr; have Hkr := Lib.hid hkr; have Hown := Lib.hid hown; have Hbel := Lib.hid hbel; have Hsn := Lib.hid hsn; have Hlen := Lib.hid hlen; have Hxe := Lib.hid hxe; have Hx := Lib.hid hx; have Hkt := Lib.hid hkt; have Hkn := Lib.hid hkn; have Hl60 := Lib.hid hl60; have Hzr := Lib.hid hzr; have Hmz := Lib.hid hmz
        clear hWr hBr hkr hown hbel hsn hlen hxe hx hkt hkn hl60 hzr hmz
        cases z with
        | false =>
          go_wp2_with fail
          refine (H8.out _).mono ?_
          rintro e w4 ⟨rfl, hb4⟩
          have ho4 := row_mod Hown.out (Mod.ofBelow hb4) (by simp)
          have hB4 := Hbel.out.trans (hb4.mono Hbel.out.size)
          have hsn := Hsn.out
          rw [if_neg (by simp), List.append_nil] at hsn
          have Ho4 := Lib.hid ho4; have HB4 := Lib.hid hB4; have Hsn2 := Lib.hid hsn
          clear ho4 hB4 hsn
          clear hb4
          go_wp2
          go_roundw
          case rel => exact ⟨m + 1, by omega, by go_num, by rw [Hsn2.out]; exact Ho4.out, HB4.out⟩
          case measure => simp [intOf]; omega
        | true =>
          go_wp2_with fail
          refine (H8.out _).mono ?_
          rintro e w4 ⟨rfl, hb4⟩
          have ho4 := row_mod Hown.out (Mod.ofBelow hb4) (by simp)
          have hW4 := HWr.out.below hb4
          have hB4 := Hbel.out.trans (hb4.mono Hbel.out.size)
          have e0 := blk_cell hW4.blk 1
          simp only [List.getElem?_toArray, List.getElem?_cons_zero, List.getElem?_cons_succ] at e0
          have hpl := blk_lt hW4.blk
          have hlk := mi_in colPr_keys Try.underlying78 hW4.tm Hkn.out Hx.out false
          simp only [colPr, Bool.false_eq_true, if_false] at hlk
          have H10 := Lib.hid (rt_handles (hW4.tab _ Hx.out) (by have := Hl60.out; simp only; omega))
          have hsn := Hsn.out
          rw [if_pos (by simp)] at hsn
          have Ho4 := Lib.hid ho4; have HB4 := Lib.hid hB4; have Hsn2 := Lib.hid hsn; have HW4 := Lib.hid hW4
          clear ho4 hB4 hsn hW4
          clear hb4 r0 r1 r2 rl hcell hgk
          go_wp2_with fail
          refine H10.out.mono ?_
          rintro e w5 ⟨vh, rfl, hvh, hb5⟩
          obtain ⟨Ah, ch, hve, -, -⟩ := row_slice hvh
          subst hve
          have ho5 := row_mod Ho4.out (Mod.ofBelow hb5) (by simp)
          have hB5 := HB4.out.trans (hb5.mono HB4.out.size)
          have hl := Hl60.out
          have Ho5 := Lib.hid ho5; have HB5 := Lib.hid hB5
          clear ho5 hB5
          clear hvh hb5 e0 hpl hlk
          go_wp2_with fail
          go_loopw [7, 43] (fun v j wu => ∃ u : Nat, u ≤ (rw kn).length ∧ j = .int .i64 u ∧ wu.ownsRow w3.heap.size 51 11 v (M ++ (rw kn).take u).length ((M ++ (rw kn).take u).flatMap rwC) ∧ Below w3.heap.size w3 wu) (fun _ j _ => (rw kn).length - (intOf j).toNat)
          case atStart => exact ⟨0, by omega, rfl, by simpa using Ho5.out, HB5.out⟩
          case round =>
            obtain ⟨u, hu, rfl, hou, hbu⟩ := hrel
            have hWu := HW3.out.below hbu
            by_cases hul : u < (rw kn).length
            · have hxu : (rw kn)[u]? = some (rw kn)[u] := List.getElem?_eq_getElem hul
              obtain ⟨x, hxx⟩ : ∃ x, (rw kn)[u] = x := ⟨_, rfl⟩
              rw [hxx] at hxu
              obtain ⟨hxL, hxk, -⟩ := HC.out.row kn Hkt.out u x hxu
              have hgood := (beastZ_good (HO.out.be x hxL) hxk).1
              have h13 := rt_row (hWu.tab _ Hx.out) hxu hgood (by simp only; omega)
              have hst : M ++ (rw kn).take (u + 1) = (M ++ (rw kn).take u) ++ [x] := by
                rw [take_succ_get _ u hul, hxx, List.append_assoc]
              have hlm : (M ++ (rw kn).take u).length < 1200000000000 := by
                rw [List.length_append, List.length_take]; have := Hlen.out; omega
              generalize M ++ (rw kn).take u = M2 at *
              obtain ⟨⟨s1, g1⟩, K1, a0, a1, a2, a3, a4, a5, a6, a7⟩ := x
              simp only at hxk
              subst hxk
              have hui : (u : Int) < ((rw kn).length : Int) := by omega
              rw [show (rwC ((s1, g1), (kn : Int), a0, a1, a2, a3, a4, a5, a6, a7)).toArray = #[.int .i64 s1, .int .i64 g1, .int .i64 (kn : Int), .int .i64 a0, .int .i64 a1, .int .i64 a2, .int .i64 a3, .int .i64 a4, .int .i64 a5, .int .i64 a6, .int .i64 a7] from rfl] at h13
              have HWu := Lib.hid hWu; have Hou := Lib.hid hou; have Hst := Lib.hid hst; have Hbu := Lib.hid hbu; have Hlm := Lib.hid hlm; have H13 := Lib.hid h13
              clear hWu hou hst hbu hlm h13
              clear hxu hxL hgood hxx
              go_wp2_with fail
              refine H13.out.mono ?_
              rintro e w6 ⟨rfl, hb6⟩
              obtain ⟨w7, hw7⟩ : ∃ w7, w6.alloc (.cells #[.int .i64 s1, .int .i64 g1, .int .i64 (kn : Int), .int .i64 a0, .int .i64 a1, .int .i64 a2, .int .i64 a3, .int .i64 a4, .int .i64 a5, .int .i64 a6, .int .i64 a7] 51) = w7 := ⟨_, rfl⟩
              have hb7 : Below w6.heap.size w6 w7 := by rw [← hw7]; exact (Below.refl _ _).alloc (Nat.le_refl _) _
              have hz7 : w7.heap[w6.heap.size]? = some (.cells #[.int .i64 s1, .int .i64 g1, .int .i64 (kn : Int), .int .i64 a0, .int .i64 a1, .int .i64 a2, .int .i64 a3, .int .i64 a4, .int .i64 a5, .int .i64 a6, .int .i64 a7] 51 (0, 0)) := by rw [← hw7]; exact heap_alloc_new w6 _
              have hb67 := hb6.trans (hb7.mono hb6.size)
              have hou7 := row_mod Hou.out (Mod.ofBelow hb67) (by simp)
              have hbu7 := Hbu.out.trans (hb67.mono Hbu.out.size)
              have x0 := blk_cell hz7 0
              have x1 := blk_cell hz7 1
              have x2 := blk_cell hz7 2
              have x3 := blk_cell hz7 3
              have x4 := blk_cell hz7 4
              have x5 := blk_cell hz7 5
              have x6 := blk_cell hz7 6
              have x7 := blk_cell hz7 7
              have x8 := blk_cell hz7 8
              have x9 := blk_cell hz7 9
              have x10 := blk_cell hz7 10
              simp only [List.getElem?_toArray, List.getElem?_cons_zero, List.getElem?_cons_succ] at x0 x1 x2 x3 x4 x5 x6 x7 x8 x9 x10
              have xl := blk_lt hz7
              have Hou7 := Lib.hid hou7; have Hbu7 := Lib.hid hbu7
              clear hou7 hbu7
              clear hb6 hb7 hz7 hb67
              go_wp2_with (at_builtin; (refine app_row rfl _ _ rfl w3.heap.size _ M2 ((s1, g1), (kn : Int), a0, a1, a2, a3, a4, a5, a6, a7) ⟨w7.heap.size, 0, none⟩ 1 rfl (Hou7.out.alloc _) rfl (new_rec (by simp) rfl) Hlm.out (by have := Hbu7.out.size; simp; omega) ?_); intro v' w8 hown8 hb8)
              go_roundw
              case rel => exact ⟨u + 1, by omega, by go_num, by rw [Hst.out]; exact hown8, (Hbu7.out.alloc Hbu7.out.size _).trans hb8⟩
              case measure => simp [intOf]; omega
            · obtain rfl : u = (rw kn).length := by omega
              rw [List.take_length] at hou
              have Hou := Lib.hid hou; have HBu := Lib.hid hbu
              clear hou hbu
              clear hWu
              go_wp2
              go_roundw
              case rel => exact ⟨m + 1, by omega, by go_num, by rw [Hsn2.out]; exact Hou.out, HBu.out⟩
              case measure => simp [intOf]; omega
      · obtain rfl : m = ss.length := by omega
        rw [List.take_length] at hown
        have hlen : (rowsK rw n t a ss).length ≤ 60 * ss.length := rowsK_len (fun k hk => by
            obtain ⟨x, hx, rfl⟩ := List.mem_map.1 (HP.out.mem_iff.1 hk)
            rw [Int.toNat_natCast]
            exact ((HC.out.tabs HO.out).1 x.1 (List.mem_map.2 ⟨x, hx, rfl⟩)).2)
        have H17 := Lib.hid (sortRows_any hown (by omega))
        have HBr := Lib.hid hBr; have Hown := Lib.hid hown
        clear hBr hown
        clear hzr hWr hbel hlen
        go_wp2_with fail
        refine H17.out.mono ?_
        rintro e w9 ⟨rfl, l', hl1, hl2, hown9, hm9⟩
        have hl' := rows_sorted HC.out HO.out HP.out n t a hl1 hl2
        subst hl'
        have hB9 : Below w.heap.size w w9 := HBr.out.trans (hm9.toBelow (fun y hy => Nat.le_trans HB3.out.size (Hown.out.lt y (by simpa using hy)).1) HBr.out.size)
        have hown9 := row_base hown9 (B' := w.heap.size) (fun k hk => Nat.le_trans HB3.out.size (hown9.lt k hk).1)
        have Hown9 := Lib.hid hown9; have HB9 := Lib.hid hB9
        clear hown9 hB9
        clear hl1 hl2 hm9
        go_wp2
        go_ret2
        exact ⟨_, rfl, Hown9.out, HB9.out⟩
end Go.Proofs.Ytkcpmoinpdojjaa

/- The contract of Eq at lists of rows. -/
namespace Go.Proofs.Ytkcpmoinpdojjaa
open Go Go.RowKit

attribute [local go_sem] AllFrom.cons_eq AllFrom.nil_eq putF_nil putF_cons wantedL_none wantedL_some OpGoalQ YieldsR preF_nil preF_cons

set_option maxRecDepth 20000 in
set_option maxHeartbeats 1000000 in
theorem eqRow_any (A : Option Addr) (c : Nat) (A' : Option Addr) (c' : Nat) (l l' : List Rw) (w : World) (hl : l.length ≤ 9223372036854775807) (hl' : l'.length ≤ 9223372036854775807)
    (hA : Lies w w.heap.size A (l.flatMap rwC)) (hA' : Lies w w.heap.size A' (l'.flatMap rwC)) :
    Calls Try.prog 55 #[.slice A l.length c, .slice A' l'.length c'] w fun e w' => e = .returned (.bool (eqB l l')) ∧ Below w.heap.size w w' := by
  by_cases hlen : l.length = l'.length
  · have hb : ((l.length : Int) != (l'.length : Int)) = false := by simp [hlen]
    have Hlen := Lib.hid hlen
    clear hlen
    go_enter Try.func55, Try.ntmps55
    go_wp2
    go_loopw [14] (fun i wr => ∃ k : Nat, k ≤ l.length ∧ i = .int .i64 k ∧ l.take k = l'.take k ∧ Below w.heap.size w wr) (fun i _ => l.length - (intOf i).toNat)
    case atStart => exact ⟨0, by omega, rfl, rfl, Below.refl _ _⟩
    case round =>
      obtain ⟨k, hk, rfl, heq, hbel⟩ := hrel
      have Heq := Lib.hid heq
      clear heq hb
      have hsz := hbel.size
      by_cases hlt : k < l.length
      · have hlt' : k < l'.length := by rw [← Hlen.out]; exact hlt
        obtain ⟨ab, ao, rfl, hal, hc⟩ := hA.rec_at rwC_len (by omega) hlt
        obtain ⟨bb, bo, rfl, hbl, hc'⟩ := hA'.rec_at rwC_len (by omega) hlt'
        have hs := take_succ_get l k hlt
        have hs' := take_succ_get l' k hlt'
        have hne : l[k] ≠ l'[k] → l ≠ l' := by
          intro h e; subst e; exact h rfl
        have hc1 : ∀ j u, (rwC l[k])[j]? = some u → wr.cell? ((⟨ab, ao + k * 11, none⟩ : Addr).add j) = some u := fun j u hu => by
          have := (hbel.cell (p := ⟨ab, ao + k * 11 + j, none⟩) hal).trans (hc j u hu)
          rw [Addr.add_mid]; exact this
        have hc2 : ∀ j u, (rwC l'[k])[j]? = some u → wr.cell? ((⟨bb, bo + k * 11, none⟩ : Addr).add j) = some u := fun j u hu => by
          have := (hbel.cell (p := ⟨bb, bo + k * 11 + j, none⟩) hbl).trans (hc' j u hu)
          rw [Addr.add_mid]; exact this
        have hal2 : ab < wr.heap.size := by omega
        have hbl2 : bb < wr.heap.size := by omega
        have hin : (k : Int) < (l'.length : Int) := by omega
        generalize l[k] = x at *
        generalize l'[k] = y at *
        have Hs := Lib.hid hs; have Hs' := Lib.hid hs'; have Hne := Lib.hid hne; have Hc1 := Lib.hid hc1; have Hc2 := Lib.hid hc2; have Hbel := Lib.hid hbel
        have he := fun w => neqRow w x y
        clear hs hs' hne hc hc' hA hA' hc1 hc2 hbel
        generalize hr : eqB x y = r at *
        have Hr := Lib.hid hr
        clear hr
        have hDa : ∀ u ∈ rwC x, u.oneCell' = true := rwC_one x
        have HDa := Lib.hid hDa
        clear hDa
        go_wp2_with (first | (refine wpList_load_flat rfl 51 (.tmp 17) rfl _ rfl (rwC x) _ Try.underlying51 rfl (sz_Row _) Hc1.out ?_) | (refine wpList_store_new rfl 51 (.tmp 6) (.tmp 18) rfl wr (ints [0, 0, 0, 0, 0, 0, 0, 0, 0, 0, 0]) (rwC x) 51 rfl rfl rfl (sz_Row _) HDa.out ?_))
        have hnew : ∀ j u, (rwC x)[j]? = some u → (wr.alloc (.cells (rwC x).toArray 51)).drew.cell? ((⟨wr.heap.size, 0, none⟩ : Addr).add j) = some u := fun j u hu => new_rec rfl (by simp) j u hu
        have hold : ∀ j u, (rwC y)[j]? = some u → (wr.alloc (.cells (rwC x).toArray 51)).drew.cell? ((⟨bb, bo + k * 11, none⟩ : Addr).add j) = some u := fun j u hu => by
          have := Hc2.out j u hu
          rw [Addr.add_mid] at this ⊢
          exact (((Below.refl wr.heap.size wr).alloc (Nat.le_refl _) _).cell (p := ⟨bb, bo + k * 11 + j, none⟩) hbl2).trans this
        have Hnew := Lib.hid hnew; have Hold := Lib.hid hold
        clear hnew hold
        refine wp_planR 6 [1, 2] [some 19, some 20, some 21, some 22, some 23, some 24] [[], [], [], [1, 2], [1, 2, 3], [0, 1, 2, 3, 4]] [0, 1, 2, 3, 4, 5] mixed rfl (by kernel_rfl) (by decide) (by decide) rfl ?_
        iterate 6 apply Exists.intro
        refine ⟨rfl, ?_, ?_⟩
        · simp only [List.take_succ_cons, List.take_zero, AllFrom.cons_eq, AllFrom.nil_eq, OpGoalQ]
          refine ⟨?_, ?_, ?_, ?_, ?_, ?_, trivial⟩
          all_goals (intro σ hp; (try simp only [List.getD_cons_zero, List.getD_cons_succ, List.map_cons, List.map_nil, preF_cons, preF_nil, isV, and_true] at hp); (first | (have hq : True := hp; clear hq hp) | skip))
          · (simp only [wantedL_none, ↓reduceIte, List.getD_cons_zero, List.getD_cons_succ]; refine yr_load 51 (.tmp 6) (by rfl) ⟨wr.heap.size, 0, none⟩ ?_ (rwC x) _ Try.underlying51 rfl (sz_Row _) Hnew.out ?_; (· go_simp); (· exact ⟨rfl, rfl⟩))
          · (go_simp; exact ⟨rfl, rfl⟩)
          · (go_simp; exact ⟨rfl, rfl⟩)
          · (go_simp; exact ⟨rfl, rfl⟩)
          · (simp only [wantedL_none, ↓reduceIte, List.getD_cons_zero, List.getD_cons_succ]; refine yr_load 51 (.tmp 22) (by rfl) ⟨bb, bo + k * 11, none⟩ ?_ (rwC y) _ Try.underlying51 rfl (sz_Row _) Hold.out ?_; (· go_simp); (· exact ⟨rfl, rfl⟩))
          · (go_simp; exact ⟨rfl, rfl⟩)
        intro σ hp
        simp only [List.getD_cons_zero, List.getD_cons_succ, List.map_cons, List.map_nil, preF_cons, preF_nil, isV, and_true] at hp
        simp only [List.drop_succ_cons, List.drop_zero]
        go_simp
        clear hp
        cases r with
        | true =>
          have hxy : x = y := by simpa [eqB] using Hr.out
          have Hxy := Lib.hid hxy
          clear hxy
          go_simp
          refine ⟨rfl, ?_⟩
          go_wp2
          go_roundw
          case rel => exact ⟨k + 1, by omega, by go_num, by rw [Hs.out, Hs'.out, Heq.out, Hxy.out], (Hbel.out.alloc hsz _).drew⟩
          case measure => simp [intOf]; omega
        | false =>
          have hxy : x ≠ y := by intro e; have := Hr.out; rw [e, eqB_self] at this; cases this
          have Hf := Lib.hid (eqB_ne (Hne.out hxy))
          clear hxy
          go_simp
          refine ⟨rfl, ?_⟩
          go_wp2
          go_ret
          exact ⟨by rw [Hf.out]; rfl, (Hbel.out.alloc hsz _).drew⟩
      · have he : l = l' := by
          have := Heq.out
          rwa [List.take_of_length_le (by omega), List.take_of_length_le (by have := Hlen.out; omega)] at this
        have Hf : Hid (eqB l l' = true) := by rw [he]; exact eqB_self _
        clear he
        go_wp2
        go_ret
        exact ⟨by rw [Hf.out]; rfl, hbel⟩
  · have hb : ((l.length : Int) != (l'.length : Int)) = true := by simp; omega
    have Hf := Lib.hid (eqB_ne (fun e : l = l' => hlen (congrArg List.length e)))
    clear hlen
    go_enter Try.func55, Try.ntmps55
    go_wp2
    go_ret
    exact ⟨by rw [Hf.out]; rfl, Below.refl _ _⟩
end Go.Proofs.Ytkcpmoinpdojjaa

/- Closed facts on the translated program that every law's row asks. -/
namespace Go.Proofs.Ytkcpmoinpdojjaa
open Go
theorem own_ : ownKnob Try.prog.godebug = none := by kernel_rfl
theorem laid_ : laidOutB Try.prog = true := by kernel_rfl
theorem mapsRowed_ : mapsRowed Try.prog = true := by kernel_rfl
theorem stops_ : (Try.prog.stops == []) = true := by kernel_rfl
theorem stopKnobs_ : (Try.prog.stopKnobs == []) = true := by kernel_rfl
theorem plainKeys_ : (false == Try.prog.plainKeys) = true := by kernel_rfl
theorem stopsHeard_ : Try.prog.stopsHeard = true := by kernel_rfl
theorem mayEnter_ : Try.prog.mayEnter = true := by kernel_rfl
theorem liftsFinal_ : (false == Try.prog.liftsFinal) = true := by kernel_rfl
theorem make_ : (Try.prog.make == some .cut) = true := by kernel_rfl
theorem and_intro {a b : Bool} (ha : a = true) (hb : b = true) : (a && b) = true := by rw [ha, hb]; rfl
end Go.Proofs.Ytkcpmoinpdojjaa
