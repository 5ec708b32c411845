import Derived.Test.YtehjfmjibiafdaaGreatZooTellsJ32
import Derived.Test.YtehjfmjibiafdaaGreatZooTellsJ2
import Derived.Shelf.SlIterI.Collect
import Derived.Test.YtehjfmjibiafdaaGreatZooTellsJ21
import Derived.Test.YtehjfmjibiafdaaGreatZooTellsJ25
/- The reference's zoo: Rows: those that match a query. (printed by mk_zrows.py) -/
namespace Go.Proofs.YtehjfmjibiafdaaGreat
open Go Go.RowKit
variable {vB : Value}

attribute [local go_sem] AllFrom.cons_eq AllFrom.nil_eq putF_nil putF_cons wantedL_none wantedL_some OpGoalT OpGoalV OpGoalQ YieldsR preF_nil preF_cons

/-- The rows that match. -/
def rowsM (L : List Rw) (n t a : Int) : List Rw := L.filter (fun x => matchesB x.2.1 n t a)

set_option maxRecDepth 20000 in
set_option maxHeartbeats 2000000 in
theorem rows1_any (s1 g1 K a0 a1 a2 a3 a4 a5 a6 a7 n t a : Int) (hn : InR n) (b : Nat) (w : World) (h0 : w.heap[b]? = some (.cells #[.int .i64 n, .int .i64 t, .int .i64 a] 39 (0, 0))) :
    Calls Tryz.prog 67 #[.agg #[.int .i64 s1, .int .i64 g1, .int .i64 K, .int .i64 a0, .int .i64 a1, .int .i64 a2, .int .i64 a3, .int .i64 a4, .int .i64 a5, .int .i64 a6, .int .i64 a7], .pointer (some ⟨b, 0, none⟩)] w (fun e w' => e = .returned (.bool (!matchesB K n t a)) ∧ Below w.heap.size w w') := by
  have H1 := Lib.hid (refMatches_any K n t a hn)
  obtain ⟨w0, hw0, hb0, hz0, hs0⟩ := box1 w (.cells #[.int .i64 s1, .int .i64 g1, .int .i64 K, .int .i64 a0, .int .i64 a1, .int .i64 a2, .int .i64 a3, .int .i64 a4, .int .i64 a5, .int .i64 a6, .int .i64 a7] 69)
  have hq0 := (Mod.ofBelow hb0).keep h0 (by simp)
  have r0 := blk_cell hz0 0
  have r1 := blk_cell hz0 1
  have r2 := blk_cell hz0 2
  have r3 := blk_cell hz0 3
  have r4 := blk_cell hz0 4
  have r5 := blk_cell hz0 5
  have r6 := blk_cell hz0 6
  have r7 := blk_cell hz0 7
  have r8 := blk_cell hz0 8
  have r9 := blk_cell hz0 9
  have r10 := blk_cell hz0 10
  simp only [List.getElem?_toArray, List.getElem?_cons_zero, List.getElem?_cons_succ] at r0 r1 r2 r3 r4 r5 r6 r7 r8 r9 r10
  have rl := blk_lt hz0
  have q0 := blk_cell hq0 0
  have q1 := blk_cell hq0 1
  have q2 := blk_cell hq0 2
  simp only [List.getElem?_toArray, List.getElem?_cons_zero, List.getElem?_cons_succ] at q0 q1 q2
  have ql := blk_lt hq0
  generalize matchesB K n t a = z at *
  have Hb0 := Lib.hid hb0
  clear hb0
  clear hz0 hq0 h0 hs0
  go_enter Tryz.func67, Tryz.ntmps67
  go_wp2_with fail
  refine (H1.out _).mono ?_
  rintro e w1 ⟨rfl, hb1⟩
  have hB := Hb0.out.trans (hb1.mono Hb0.out.size)
  have HB := Lib.hid hB
  clear hB
  clear hb1
  go_wp2
  go_ret
  exact ⟨rfl, HB.out⟩

set_option maxRecDepth 20000 in
set_option maxHeartbeats 4000000 in
theorem withoutQ_any {w : World} {L : List Rw} {A : Option Addr} {cap : Nat} (hrow : w.ownsRow 0 69 11 (.slice A L.length cap) L.length (L.flatMap rwC)) (hl : L.length ≤ 1200000000000) (n t a : Int) (hn : InR n) (b : Nat) (h0 : w.heap[b]? = some (.cells #[.int .i64 n, .int .i64 t, .int .i64 a] 39 (0, 0))) :
    Calls Tryz.prog 66 #[.slice A L.length cap, .func (.func 67) #[] #[.pointer (some ⟨b, 0, none⟩)]] w (MadeR 69 11 rwC (rowsM L n t a) w) := by
  have hle : L.length ≤ 9223372036854775807 := by omega
  have hbl := blk_lt h0
  have HLL := Lib.hid hl
  have HN := Lib.hid hn
  clear hl hn
  go_enter Tryz.func66, Tryz.ntmps66
  go_wp2
  go_loopw [5, 10] (fun v i wr => ∃ m : Nat, m ≤ L.length ∧ i = .int .i64 m ∧ wr.ownsRow w.heap.size 69 11 v (rowsM (L.take m) n t a).length ((rowsM (L.take m) n t a).flatMap rwC) ∧ Below w.heap.size w wr) (fun _ i _ => L.length - (Go.RowKit.intOf i).toNat)
  case atStart => exact ⟨0, by omega, rfl, ⟨rfl, .inl ⟨rfl, rfl⟩⟩, Below.refl _ _⟩
  case round =>
    obtain ⟨m, hm, rfl, hown, hbel⟩ := hrel
    have hsz := hbel.size
    by_cases hlt : m < L.length
    · have hro : wr.ownsRow 0 69 11 (.slice A L.length cap) L.length (L.flatMap rwC) := row_mod hrow (Mod.ofBelow hbel) (by simp)
      obtain ⟨g0, cap0, cur0, hv, -, -, -⟩ := row_some hro (by omega)
      cases hv
      have hpc := row_piece rwC_len hro hlt 0 (rwC L[m]) (fun j u hu => by rw [Nat.zero_add]; exact hu)
      have hst : rowsM (L.take (m + 1)) n t a = rowsM (L.take m) n t a ++ (if matchesB L[m].2.1 n t a = true then [L[m]] else []) := by
        unfold rowsM
        rw [take_succ_get L m hlt, List.filter_append, List.filter_cons]
        by_cases e : matchesB L[m].2.1 n t a = true <;> simp [e]
      have hlen : (rowsM (L.take m) n t a).length ≤ m := by
        have h1 : (rowsM (L.take m) n t a).length ≤ (L.take m).length := List.length_filter_le _ _
        rw [List.length_take] at h1; omega
      have hg0 := row_lt hro g0 rfl
      have hni : (m : Int) < (L.length : Int) := by omega
      generalize rowsM (L.take m) n t a = M at *
      obtain ⟨x, hx⟩ : ∃ x, L[m] = x := ⟨_, rfl⟩
      rw [hx] at hpc hst
      obtain ⟨⟨s1, g1⟩, K, a0, a1, a2, a3, a4, a5, a6, a7⟩ := x
      have hbz := (Mod.ofBelow hbel).keep h0 (by simp)
      obtain ⟨w3, hw3, hb3, hz3, hs3⟩ := box1 wr (.cells #[.int .i64 s1, .int .i64 g1, .int .i64 K, .int .i64 a0, .int .i64 a1, .int .i64 a2, .int .i64 a3, .int .i64 a4, .int .i64 a5, .int .i64 a6, .int .i64 a7] 69)
      have hO3 := hown.alloc (.cells #[.int .i64 s1, .int .i64 g1, .int .i64 K, .int .i64 a0, .int .i64 a1, .int .i64 a2, .int .i64 a3, .int .i64 a4, .int .i64 a5, .int .i64 a6, .int .i64 a7] 69)
      rw [hw3] at hO3
      have hb03 := hbel.trans (hb3.mono hsz)
      have hbz3 := (Mod.ofBelow hb3).keep hbz (by simp)
      have hk1 := rows1_any s1 g1 K a0 a1 a2 a3 a4 a5 a6 a7 n t a HN.out b w3 hbz3
      simp only at hst
      generalize matchesB K n t a = z at *
      have hl3 : wr.heap.size < w3.heap.size := by omega
      have r0 := blk_cell hz3 0
      have r1 := blk_cell hz3 1
      have r2 := blk_cell hz3 2
      have r3 := blk_cell hz3 3
      have r4 := blk_cell hz3 4
      have r5 := blk_cell hz3 5
      have r6 := blk_cell hz3 6
      have r7 := blk_cell hz3 7
      have r8 := blk_cell hz3 8
      have r9 := blk_cell hz3 9
      have r10 := blk_cell hz3 10
      simp only [List.getElem?_toArray, List.getElem?_cons_zero, List.getElem?_cons_succ] at r0 r1 r2 r3 r4 r5 r6 r7 r8 r9 r10
      have rl := blk_lt hz3
      have HP := Lib.hid hpc; have Hst := Lib.hid hst; have Hlen := Lib.hid hlen; have Hown := Lib.hid hown; have Hbel := Lib.hid hbel; have HO3 := Lib.hid hO3; have Hb03 := Lib.hid hb03; have Hk := Lib.hid hk1; have Hs3 := Lib.hid hs3; have Hz3 := Lib.hid hz3; have Hw3 := Lib.hid hw3; have H0 := Lib.hid h0; have Hrow := Lib.hid hrow
      clear hpc hst hlen hown hbel hO3 hb03 hk1 hs3 hz3 hw3 h0 hrow
      clear hro hx hbz hbz3 hb3
      have HO := Lib.hid (rwC_one ((s1, g1), K, a0, a1, a2, a3, a4, a5, a6, a7))
      go_wp2_with (first | (refine wpList_load_flat rfl 69 (.tmp 12) rfl _ rfl [.int .i64 s1, .int .i64 g1, .int .i64 K, .int .i64 a0, .int .i64 a1, .int .i64 a2, .int .i64 a3, .int .i64 a4, .int .i64 a5, .int .i64 a6, .int .i64 a7] _ Tryz.underlying69 rfl (by kernel_rfl) HP.out ?_) | (refine wpList_store_new rfl 69 (.tmp 7) (.tmp 13) rfl wr (ints zero11) [.int .i64 s1, .int .i64 g1, .int .i64 K, .int .i64 a0, .int .i64 a1, .int .i64 a2, .int .i64 a3, .int .i64 a4, .int .i64 a5, .int .i64 a6, .int .i64 a7] 69 rfl rfl rfl (sz_Row ((s1, g1), K, a0, a1, a2, a3, a4, a5, a6, a7)) HO.out ?_; rw [show ([.int .i64 s1, .int .i64 g1, .int .i64 K, .int .i64 a0, .int .i64 a1, .int .i64 a2, .int .i64 a3, .int .i64 a4, .int .i64 a5, .int .i64 a6, .int .i64 a7] : List Value).toArray = #[.int .i64 s1, .int .i64 g1, .int .i64 K, .int .i64 a0, .int .i64 a1, .int .i64 a2, .int .i64 a3, .int .i64 a4, .int .i64 a5, .int .i64 a6, .int .i64 a7] from rfl, Hw3.out]; clear HO))
      refine Hk.out.mono ?_
      rintro e w4 ⟨rfl, hb4⟩
      have hz4 := (Mod.ofBelow hb4).keep Hz3.out (by simp)
      have hs4 := hb4.size
      have hs3 := Hs3.out
      have hO4 := row_mod HO3.out (Mod.ofBelow hb4) (by simp)
      have hb04 := Hb03.out.trans (hb4.mono Hb03.out.size)
      have hbs := Hb03.out.size
      cases z with
      | false =>
        have hst := Hst.out
        rw [if_neg (by simp), List.append_nil] at hst
        have Hst2 := Lib.hid hst; have HO4 := Lib.hid hO4; have Hbel4 := Lib.hid hb04; have Hz4 := Lib.hid hz4; have Hs4 := Lib.hid hs4; have Hbs := Lib.hid hbs
        clear hst hO4 hb04 hz4 hs4 hbs
        clear hs3 hb4 r0 r1 r2 r3 r4 r5 r6 r7 r8 r9 r10 rl
        go_wp2
        go_roundw
        case rel => exact ⟨m + 1, by omega, by go_num, by rw [Hst2.out]; exact HO4.out, Hbel4.out⟩
        case measure => simp [Go.RowKit.intOf]; omega
      | true =>
        have hst := Hst.out
        rw [if_pos rfl] at hst
        clear r0 r1 r2 r3 r4 r5 r6 r7 r8 r9 r10 rl
        have r0 := blk_cell hz4 0
        have r1 := blk_cell hz4 1
        have r2 := blk_cell hz4 2
        have r3 := blk_cell hz4 3
        have r4 := blk_cell hz4 4
        have r5 := blk_cell hz4 5
        have r6 := blk_cell hz4 6
        have r7 := blk_cell hz4 7
        have r8 := blk_cell hz4 8
        have r9 := blk_cell hz4 9
        have r10 := blk_cell hz4 10
        simp only [List.getElem?_toArray, List.getElem?_cons_zero, List.getElem?_cons_succ] at r0 r1 r2 r3 r4 r5 r6 r7 r8 r9 r10
        have rl := blk_lt hz4
        have Hst2 := Lib.hid hst; have Hown4 := Lib.hid hO4; have Hbel4 := Lib.hid hb04; have Hs4 := Lib.hid hs4; have Hbs := Lib.hid hbs
        clear hst hO4 hb04 hs4 hbs
        clear hb4 hz4 hs3
        go_wp2_with (at_builtin; (refine app_row rfl _ _ rfl w.heap.size _ M ((s1, g1), K, a0, a1, a2, a3, a4, a5, a6, a7) ⟨w4.heap.size, 0, none⟩ 1 rfl (Hown4.out.alloc _) rfl (new_rec (by simp) rfl) (by have := HLL.out; have := Hlen.out; omega) (by have := Hbel4.out.size; simp; omega) ?_); intro v' w5 hown5 hb5)
        go_roundw
        case rel => exact ⟨m + 1, by omega, by go_num, by rw [Hst2.out]; exact hown5, (Hbel4.out.alloc Hbel4.out.size _).trans hb5⟩
        case measure => simp [Go.RowKit.intOf]; omega
    · obtain rfl : m = L.length := by omega
      rw [List.take_length] at hown
      have Hown := Lib.hid hown; have Hbel := Lib.hid hbel
      clear hown hbel
      clear hrow h0
      go_wp2
      go_ret
      exact ⟨_, rfl, Hown.out, Hbel.out⟩
/-- What Rows returns: a slice of one's own, or nil and an error. -/
def RowsPost (B : Nat) (L : List Rw) (n t a : Int) (w : World) (e : Ending) (w' : World) : Prop :=
  ∃ v, e = .returned (.tuple #[v, .int .i64 (qcheck n t a)]) ∧ w'.ownsRow B 69 11 v (if qcheck n t a = 0 then rowsM L n t a else []).length ((if qcheck n t a = 0 then rowsM L n t a else []).flatMap rwC) ∧ Below w.heap.size w w'
set_option maxRecDepth 20000 in
set_option maxHeartbeats 4000000 in
theorem zrows_any {w : World} {q : Nat} {sl : Sl} {L : List Rw} {F : List Nat} (h : RepZ vB w q sl L F) (hl : L.length ≤ 60) (n t a : Int) (hn : InR n) :
    Calls Tryz.prog 22 #[.pointer (some ⟨q, 0, none⟩), .agg #[.int .i64 n, .int .i64 t, .int .i64 a]] w (RowsPost w.heap.size L n t a w) := by
  obtain ⟨w0, hw0, hb0, hz0, hs0⟩ := box1 w (.cells #[.int .i64 n, .int .i64 t, .int .i64 a] 39)
  have H1 := Lib.hid (queryCheck_any n t a)
  have h0 := h.below hb0
  have r0 := blk_cell hz0 0
  have r1 := blk_cell hz0 1
  have r2 := blk_cell hz0 2
  simp only [List.getElem?_toArray, List.getElem?_cons_zero, List.getElem?_cons_succ] at r0 r1 r2
  have rl := blk_lt hz0
  unfold RowsPost
  cases hz : qcheck n t a == 0 with
  | false =>
    have he : qcheck n t a ≠ 0 := by simpa using hz
    rw [if_neg he]
    have hq : (qcheck n t a != 0) = true := by simpa using he
    generalize qcheck n t a = z at *
    have Hb0 := Lib.hid hb0; have Hs0 := Lib.hid hs0
    clear hb0 hs0
    clear hz0 h0 he h
    go_enter Tryz.func22, Tryz.ntmps22
    go_wp2_with fail
    clear hw0
    refine (H1.out _).mono ?_
    rintro e w1 ⟨rfl, hb1⟩
    have hB := Hb0.out.trans (hb1.mono Hb0.out.size)
    have HB := Lib.hid hB
    clear hB
    clear hb1
    go_wp2
    go_ret2
    exact ⟨_, rfl, ⟨rfl, .inl ⟨rfl, rfl⟩⟩, HB.out⟩
  | true =>
    have he : qcheck n t a = 0 := by simpa using hz
    rw [if_pos he]
    simp only [he] at H1
    have hmf : ∀ (fn : Fn) (first cap : Array Value) (w : World), (Instr.makeFunc fn first cap).run Tryz.prog w = .ok (.func fn first cap) w := fun _ _ _ _ => rfl
    rw [he]
    have Hb0 := Lib.hid hb0; have Hs0 := Lib.hid hs0; have H0 := Lib.hid h0; have Hz0 := Lib.hid hz0
    clear hb0 hs0 h0 hz0
    clear h hz he
    go_enter Tryz.func22, Tryz.ntmps22
    go_wp2_with fail
    clear hw0
    refine (H1.out _).mono ?_
    rintro e w1 ⟨rfl, hb1⟩
    have hB := Hb0.out.trans (hb1.mono Hb0.out.size)
    have hz1 := (Mod.ofBelow hb1).keep Hz0.out (by simp)
    obtain ⟨vg, vl, A, cap, hq, hrow⟩ := (H0.out.below hb1).open_
    have H2 := Lib.hid (withoutQ_any hrow (by omega) n t a hn w.heap.size hz1)
    have c2 := blk_cell hq 2
    simp only [List.getElem?_toArray, List.getElem?_cons_zero, List.getElem?_cons_succ] at c2
    have hql := blk_lt hq
    have HB := Lib.hid hB
    clear hB
    clear hb1 r0 r1 r2 rl hz1 hq hrow
    go_wp2_with fail
    refine H2.out.mono ?_
    rintro e w2 ⟨v, rfl, hown, hb2⟩
    have hB2 := HB.out.trans (hb2.mono HB.out.size)
    have hown2 := row_base hown (B' := w.heap.size) (fun k hk => by have := (hown.lt k hk).1; have := HB.out.size; omega)
    have HB2 := Lib.hid hB2; have Hown2 := Lib.hid hown2
    clear hB2 hown2
    clear hb2 hown
    go_wp2
    go_ret2
    exact ⟨_, rfl, Hown2.out, HB2.out⟩
end Go.Proofs.YtehjfmjibiafdaaGreat

/- slices.Collect(maps.Keys(m)) at a map with integer keys: the keys, in some order. -/
namespace Go.Proofs.YtehjfmjibiafdaaGreat
open Go Go.RowKit Go.Shelf Go.Maps Go.Sort

def keysTab_ren : Go.Shelf.Ren := ⟨fun | 7 => 59 | 10 => 112 | n => n, fun | 23 => 93 | 26 => 3 | 3 => 113 | 28 => 121 | 0 => 0 | 27 => 120 | 33 => 166 | 4 => 4 | n => n, fun | n => n⟩
theorem keysTab : Go.Proofs.SlLaysZI.n7 Tryz.prog keysTab_ren := {
  mixed := by kernel_rfl,
  f7 := ⟨Tryz.f59.name, by decide, Tryz.func59.trans (congrArg some (by kernel_rfl))⟩,
  f10 := ⟨Tryz.f112.name, by decide, Tryz.func112.trans (congrArg some (by kernel_rfl))⟩,
  t0 := Tryz.underlying0,
  a0 := Tryz.isAgg0,
  z0 := Tryz.sizeOf0,
  v0 := Tryz.zeroValue0,
  t4 := Tryz.underlying4,
  a4 := Tryz.isAgg4,
  z4 := Tryz.sizeOf4,
  v4 := Tryz.zeroValue4,
  t23 := Tryz.underlying93,
  a23 := Tryz.isAgg93,
  z23 := Tryz.sizeOf93,
  v23 := Tryz.zeroValue93,
  t26 := Tryz.underlying3,
  a26 := Tryz.isAgg3,
  z26 := Tryz.sizeOf3,
  v26 := Tryz.zeroValue3,
  t27 := Tryz.underlying120,
  a27 := Tryz.isAgg120,
  z27 := Tryz.sizeOf120,
  v27 := Tryz.zeroValue120,
  t28 := Tryz.underlying121,
  a28 := Tryz.isAgg121,
  z28 := Tryz.sizeOf121,
  v28 := Tryz.zeroValue121,
  t33 := Tryz.underlying166,
  a33 := Tryz.isAgg166,
  z33 := Tryz.sizeOf166,
  v33 := Tryz.zeroValue166 }
def collInt_ren : Go.Shelf.Ren := ⟨fun | 8 => 58 | 11 => 111 | n => n, fun | 26 => 3 | 28 => 121 | 24 => 22 | 0 => 0 | 33 => 166 | 4 => 4 | n => n, fun | n => n⟩
theorem collInt : Go.Proofs.SlLaysZI.n8 Tryz.prog collInt_ren := {
  mixed := by kernel_rfl,
  f8 := ⟨Tryz.f58.name, by decide, Tryz.func58.trans (congrArg some (by kernel_rfl))⟩,
  f11 := ⟨Tryz.f111.name, by decide, Tryz.func111.trans (congrArg some (by kernel_rfl))⟩,
  t0 := Tryz.underlying0,
  a0 := Tryz.isAgg0,
  z0 := Tryz.sizeOf0,
  v0 := Tryz.zeroValue0,
  t24 := Tryz.underlying22,
  a24 := Tryz.isAgg22,
  z24 := Tryz.sizeOf22,
  v24 := Tryz.zeroValue22,
  t26 := Tryz.underlying3,
  a26 := Tryz.isAgg3,
  z26 := Tryz.sizeOf3,
  v26 := Tryz.zeroValue3,
  t28 := Tryz.underlying121,
  a28 := Tryz.isAgg121,
  z28 := Tryz.sizeOf121,
  v28 := Tryz.zeroValue121,
  i26 := by kernel_rfl }

/-- A map of one's own as the shelf's contracts read it; what the elements are is left out. -/
def noElem (_ : Value) : Option (DataW Unit × List MemPlace) := some (.nil, [])
def intV (v : Value) : Int := match v with
  | .int _ a => a
  | _ => 0
theorem MapAt.owns {w : World} {b : Nat} {l : List (Nat × Nat)} (h : MapAt Tryz.prog 3 w b (l.map colPr)) (hl : l.length ≤ maxLen) :
    ∃ D : DataW Unit, w.ownsMap Tryz.prog 3 noElem b l.length D ∧ (Go.intKeys D).Perm (l.map fun x => (x.1 : Int)) ∧ Maps.size D = l.length := by
  obtain ⟨es, clock, hb, hk⟩ := h
  have hsz : es.size = l.length := by
    have := congrArg List.length hk.prs
    simpa [prs] using this
  have hrg : ∀ x ∈ es.toList, Go.intOf (WideElems.rg Tryz.prog 3 noElem x).1 = intV x.key := by
    intro x hx
    obtain ⟨kl, hkl⟩ := hk.keys x hx
    obtain ⟨z, h1, h2, -⟩ := Maps.keyOf_i64 Tryz.underlying3 hkl
    rw [WideElems.rg_of (WideElems.rd_mk (born := x.born) hkl rfl), h2, h1]
    rfl
  refine ⟨_, ⟨es, clock, hb, ⟨by omega, hk.st, fun x hx => ?_⟩, by omega, rfl⟩, ?_, ?_⟩
  · obtain ⟨kl, hkl⟩ := hk.keys x hx
    exact ⟨_, WideElems.rd_mk (born := x.born) hkl rfl⟩
  · show (((es.toList.map (WideElems.rg Tryz.prog 3 noElem)).foldr DataW.insert []).map fun p => Go.intOf p.1).Perm _
    refine ((WideShapes.sorted_perm _).map _).trans ?_
    generalize WideElems.rg Tryz.prog 3 noElem = f at hrg ⊢
    rw [List.map_map]
    have e1 : es.toList.map ((fun p => Go.intOf p.1) ∘ f) = (es.toList.map (fun e => (e.key, e.val))).map (fun p => intV p.1) := by
      rw [List.map_map]
      exact List.map_congr_left fun x hx => hrg x hx
    have e2 : es.toList.map (fun e => (e.key, e.val)) = l.map colPr := hk.prs
    rw [e1, e2, List.map_map]
    exact .refl _
  · show ((es.toList.map (WideElems.rg Tryz.prog 3 noElem)).foldr DataW.insert []).length = l.length
    rw [(WideShapes.sorted_perm _).length_eq, List.length_map]
    simpa using hsz

/-- What Collect(Keys(m)) gives. -/
def KeysPost (B : Nat) (l : List (Nat × Nat)) (w : World) (e : Ending) (w' : World) : Prop :=
  ∃ (v : Value) (ss : List Int), e = .returned v ∧ ss.Perm (l.map fun x => (x.1 : Int)) ∧ w'.ownsRow B 3 1 v ss.length (ints ss) ∧ Below w.heap.size w w'
section
variable {w : World} {b : Nat} {l : List (Nat × Nat)}
set_option maxRecDepth 100000 in
theorem keys_any (w : World) (b : Nat) : Calls Tryz.prog 59 #[.map (some b)] w fun e w' => e = .returned (.func (.func 112) #[] #[.pointer (some ⟨w.heap.size, 0, none⟩)]) ∧ w' = w.alloc (.cells #[.map (some b)] 93) :=
  (callsIn_wide (n := 5)).1 (AnyZI.keys_in keysTab Fence.wide 5 trivial rfl (some b) w)
set_option maxRecDepth 100000 in
theorem coll_any (h : MapAt Tryz.prog 3 w b (l.map colPr)) (hl : l.length ≤ 1000) :
    Calls Tryz.prog 58 #[.func (.func 112) #[] #[.pointer (some ⟨w.heap.size, 0, none⟩)]] (w.alloc (.cells #[.map (some b)] 93)) (KeysPost w.heap.size l (w.alloc (.cells #[.map (some b)] 93))) := by
  obtain ⟨D, hD, hp, hs⟩ := h.owns (by unfold maxLen; omega)
  have hbl := hD.lt
  have hseq : SeqGives Fence.wide 4 Tryz.prog 112 #[.pointer (some ⟨w.heap.size, 0, none⟩)] encZ (fun ss => ss.Perm (Go.intKeys D)) (Maps.size D) (w.alloc (.cells #[.map (some b)] 93)) :=
    AnyZI.keys_gives (ρ := keysTab_ren) { keysTab with } Fence.wide _ trivial rfl (by omega) w.heap.size b l.length D _ (by simp) (by simp) (by
      obtain ⟨es, clock, hb, Ft, hs, hD⟩ := hD
      exact ⟨es, clock, (Below.heap_alloc _ _ b hbl).trans hb, Ft, hs, hD⟩)
  have hc := AnyZI.collect_in collInt Fence.wide 6 trivial trivial rfl (by omega) 112 #[.pointer (some ⟨w.heap.size, 0, none⟩)] trivial (enters_of Tryz.func112 (by kernel_rfl) rfl) _ _ (by rw [hs]; unfold maxLen; omega) (by rw [hs]; omega) _ hseq
  refine ((callsIn_wide (n := 6)).1 hc).mono ?_
  rintro e w' ⟨v, ss, rfl, hS, hrow, -, hb⟩
  exact ⟨v, ss, rfl, hS.trans hp, ownsRow_base_a hrow (by simp), hb⟩
end
end Go.Proofs.YtehjfmjibiafdaaGreat

/- Rows of a world: the plain part. (printed by mk_wrows.py) -/
namespace Go.Proofs.YtehjfmjibiafdaaGreat
open Go Go.RowKit

/-! The plain part. -/
def rowsK (rw : Nat → List Rw) (n t a : Int) (ks : List Int) : List Rw := ks.flatMap (fun k => if matchesB k n t a = true then rw k.toNat else [])
theorem rowsK_snoc (rw : Nat → List Rw) (n t a : Int) (ks : List Int) (k : Int) : rowsK rw n t a (ks ++ [k]) = rowsK rw n t a ks ++ (if matchesB k n t a = true then rw k.toNat else []) := by
  unfold rowsK; rw [List.flatMap_append]; simp
theorem rowsK_len {rw : Nat → List Rw} {n t a : Int} : ∀ {ks : List Int}, (∀ k ∈ ks, (rw k.toNat).length ≤ 60) → (rowsK rw n t a ks).length ≤ 60 * ks.length
  | [], _ => by simp [rowsK]
  | k :: ks, h => by
    have ih := rowsK_len (n := n) (t := t) (a := a) (fun x hx => h x (List.mem_cons_of_mem _ hx))
    have h1 := h k (by simp)
    unfold rowsK at ih ⊢
    rw [List.flatMap_cons, List.length_append, List.length_cons, Nat.mul_add]
    have h2 : (if matchesB k n t a = true then rw k.toNat else []).length ≤ 60 := by
      split
      · exact h1
      · simp
    omega
section
variable {sl : Sl} {L : List Rw} {tb : List (Nat × Nat)} {rw : Nat → List Rw} {pl : List Pl}
theorem WCore.tabs (hc : WCore (· ∈ L) (tb.map (·.1)) rw pl) (hO : WOk sl L) : (∀ k ∈ tb.map (·.1), k < 256 ∧ (rw k).length ≤ 60) ∧ tb.length ≤ 256 := by
  have h1 : ∀ k ∈ tb.map (·.1), k < 256 ∧ (rw k).length ≤ 60 := by
    intro k hk
    have hl := hc.len (fun _ h => h) hk
    have := hO.len
    refine ⟨?_, by omega⟩
    have hne := hc.ne k hk
    cases hr : rw k with
    | nil => exact absurd hr hne
    | cons x r =>
      obtain ⟨h2, h3, -⟩ := hc.row k hk 0 x (by rw [hr]; rfl)
      exact (beastZ_good (hO.be x h2) h3).2
  refine ⟨h1, ?_⟩
  have h2 : (tb.map (·.1)).length ≤ (List.range 256).length := List.Nodup.length_le_of_subset hc.tn (fun k hk => List.mem_range.2 (h1 k hk).1)
  simpa using h2
theorem rowsK_mem (hc : WCore (· ∈ L) (tb.map (·.1)) rw pl) {ks : List Int} (hp : ks.Perm (tb.map fun x => (x.1 : Int))) (n t a : Int) (y : Rw) : y ∈ rowsK rw n t a ks ↔ y ∈ rowsM L n t a := by
  unfold rowsK rowsM
  rw [List.mem_flatMap, List.mem_filter]
  constructor
  · rintro ⟨k, hk, hy⟩
    split at hy
    · next hm =>
      obtain ⟨x, hx, rfl⟩ := List.mem_map.1 (hp.mem_iff.1 hk)
      rw [Int.toNat_natCast] at hy
      obtain ⟨i, hi⟩ := List.mem_iff_getElem?.1 hy
      obtain ⟨h2, h3, -⟩ := hc.row x.1 (List.mem_map.2 ⟨x, hx, rfl⟩) i y hi
      exact ⟨h2, by rw [h3]; exact hm⟩
    · simp at hy
  · rintro ⟨hy, hm⟩
    obtain ⟨s, k, i, h1, h2, h3⟩ := hc.has y hy
    obtain ⟨hk, -⟩ := hc.pla s k i h2
    obtain ⟨-, h5, -⟩ := hc.row k hk i y h3
    obtain ⟨x, hx, rfl⟩ := List.mem_map.1 hk
    refine ⟨(x.1 : Int), hp.mem_iff.2 (List.mem_map.2 ⟨x, hx, rfl⟩), ?_⟩
    rw [h5] at hm
    rw [if_pos hm, Int.toNat_natCast]
    exact List.mem_of_getElem? h3
theorem rowsK_nodup (hc : WCore (· ∈ L) (tb.map (·.1)) rw pl) {ks : List Int} (hp : ks.Perm (tb.map fun x => (x.1 : Int))) (n t a : Int) : (rowsK rw n t a ks).Nodup := by
  have hin : ∀ k ∈ ks, ∃ x ∈ tb, k = (x.1 : Int) := fun k hk => by
    obtain ⟨x, hx, e⟩ := List.mem_map.1 (hp.mem_iff.1 hk)
    exact ⟨x, hx, e.symm⟩
  have hkn : ks.Nodup := by
    refine List.Nodup.perm ?_ hp.symm
    have := hc.tn
    unfold List.Nodup at this ⊢
    rw [List.pairwise_map] at this ⊢
    exact this.imp (fun h e => h (by omega))
  unfold rowsK List.Nodup
  rw [List.pairwise_flatMap]
  refine ⟨fun k hk => ?_, ?_⟩
  · split
    · obtain ⟨x, hx, rfl⟩ := hin k hk
      rw [Int.toNat_natCast]
      refine List.pairwise_iff_getElem.2 fun i j hi hj hij e => ?_
      have hkt : x.1 ∈ tb.map (·.1) := List.mem_map.2 ⟨x, hx, rfl⟩
      obtain ⟨-, -, s, q1, q2⟩ := hc.row x.1 hkt i _ (List.getElem?_eq_getElem hi)
      obtain ⟨-, -, s', q3, q4⟩ := hc.row x.1 hkt j _ (List.getElem?_eq_getElem hj)
      rw [e] at q1
      have : s = s' := by omega
      subst this
      have := key_one hc.pn q2 q4
      simp only [Prod.mk.injEq] at this
      omega
    · exact .nil
  · refine List.Pairwise.imp_of_mem ?_ hkn
    intro k1 k2 hk1 hk2 hne x hx y hy e
    subst e
    split at hx
    · split at hy
      · obtain ⟨x1, hx1, rfl⟩ := hin k1 hk1
        obtain ⟨x2, hx2, rfl⟩ := hin k2 hk2
        rw [Int.toNat_natCast] at hx hy
        obtain ⟨i, hi⟩ := List.mem_iff_getElem?.1 hx
        obtain ⟨j, hj⟩ := List.mem_iff_getElem?.1 hy
        obtain ⟨-, h3, -⟩ := hc.row x1.1 (List.mem_map.2 ⟨x1, hx1, rfl⟩) i _ hi
        obtain ⟨-, h4, -⟩ := hc.row x2.1 (List.mem_map.2 ⟨x2, hx2, rfl⟩) j _ hj
        exact hne (by omega)
      · simp at hy
    · simp at hx
end
end Go.Proofs.YtehjfmjibiafdaaGreat
