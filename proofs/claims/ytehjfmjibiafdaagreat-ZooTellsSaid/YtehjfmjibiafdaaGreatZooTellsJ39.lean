import Derived.Test.YtehjfmjibiafdaaGreatZooTellsJ38
import Derived.Test.YtehjfmjibiafdaaGreatZooTellsJ13
/- The reference's bonds: Parent, Children, without, Gone, Loosen. (printed by mk_rf1.py) -/
namespace Go.Proofs.YtehjfmjibiafdaaGreat
open Go Go.RowKit
attribute [local go_sem] AllFrom.cons_eq AllFrom.nil_eq putF_nil putF_cons wantedL_none wantedL_some OpGoalT OpGoalV OpGoalQ OpGoalA OpGoalK YieldsR preF_nil preF_cons

/-- The reference's zoo at block q holds the bonds B; its other three cells are vg, vl, vr. -/
def RepB (vg vl vr : Value) (w : World) (q : Nat) (B : List Bd) (F : List Nat) : Prop :=
  ∃ vB, w.heap[q]? = some (.cells #[vg, vl, vr, vB] 47 (0, 0)) ∧ w.ownsRow 0 84 4 vB B.length (B.flatMap bdC) ∧ F = q :: vB.ownBlock.toList ∧ q ∉ vB.ownBlock.toList
section
variable {vg vl vr : Value}
theorem RepB.mod {w w' : World} {q : Nat} {B : List Bd} {F G : List Nat} (h : RepB vg vl vr w q B F) (hm : Mod G w w') (hd : ∀ y ∈ F, y ∉ G) : RepB vg vl vr w' q B F := by
  obtain ⟨vB, h1, h2, rfl, h4⟩ := h
  exact ⟨vB, hm.keep h1 (hd q (by simp)), row_mod h2 hm (fun k hk => hd k (by simp [hk])), rfl, h4⟩
theorem RepB.below {w w' : World} {q : Nat} {B : List Bd} {F : List Nat} (h : RepB vg vl vr w q B F) (hb : Below w.heap.size w w') : RepB vg vl vr w' q B F := h.mod (Mod.ofBelow hb) (by simp)
theorem RepB.lt {w : World} {q : Nat} {B : List Bd} {F : List Nat} (h : RepB vg vl vr w q B F) : ∀ y ∈ F, y < w.heap.size := by
  obtain ⟨vB, h1, h2, rfl, h4⟩ := h
  intro y hy
  rcases List.mem_cons.1 hy with rfl | hy
  · exact blk_lt h1
  · exact row_lt h2 y (by simpa using hy)
theorem RepB.open_ {w : World} {q : Nat} {B : List Bd} {F : List Nat} (h : RepB vg vl vr w q B F) : ∃ A cap, w.heap[q]? = some (.cells #[vg, vl, vr, .slice A B.length cap] 47 (0, 0)) ∧ w.ownsRow 0 84 4 (.slice A B.length cap) B.length (B.flatMap bdC) := by
  obtain ⟨vB, h1, h2, -, -⟩ := h
  obtain ⟨A, cap, rfl, -, -⟩ := row_slice h2
  exact ⟨A, cap, h1, h2⟩
/-- New bonds are stored. -/
theorem RepB.put {w w1 : World} {q : Nat} {B B' : List Bd} {F : List Nat} {v' : Value} (h : RepB vg vl vr w q B F) (hb : Below w.heap.size w w1) (hv : w1.ownsRow w.heap.size 84 4 v' B'.length (B'.flatMap bdC)) :
    ∃ F', RepB vg vl vr (w1.setCell ⟨q, 3, none⟩ v') q B' F' ∧ Turns w F F' (w1.setCell ⟨q, 3, none⟩ v') := by
  obtain ⟨vB, h1, h2, rfl, h4⟩ := h
  have hq := (Mod.ofBelow hb).keep h1 (by simp)
  have hql := blk_lt h1
  have hge := own_ge hv
  refine ⟨q :: v'.ownBlock.toList, ⟨v', blk_set hq 3 _, ?_, rfl, ?_⟩, ?_, ?_⟩
  · refine row_base (row_mod hv ((Mod.refl [q] _).setCell (by simp) _) (fun k hk e => ?_)) (fun k _ => Nat.zero_le k)
    have := hge k hk
    simp at e; omega
  · intro e
    have := hge q (by simpa using e)
    omega
  · exact ((Mod.ofBelow hb).mono (by simp)).setCell (by simp) _
  · intro k hk
    rcases List.mem_cons.1 hk with rfl | hk
    · simp
    · exact .inr (hge k (by simpa using hk))

theorem parB_succ {B : List Bd} {h : Hd} {n : Nat} (hn : n < B.length) (hno : parB (B.take n) h = none) : parB (B.take (n + 1)) h = if B[n].1 = h then some B[n].2 else none := by
  unfold parB at *
  rw [Option.map_eq_none_iff] at hno
  rw [take_succ_get B n hn, List.find?_append, hno]
  by_cases e : B[n].1 = h <;> simp [e]
theorem parB_take {B : List Bd} {h p : Hd} {n : Nat} (e : parB (B.take n) h = some p) : parB B h = some p := by
  unfold parB at *
  conv => lhs; rw [← List.take_append_drop n B]
  rw [List.find?_append]
  cases hf : (B.take n).find? (fun b => decide (b.1 = h)) with
  | none => rw [hf] at e; cases e
  | some b => rw [hf] at e; simpa using e
theorem kids_succ (B : List Bd) (h : Hd) (n : Nat) (hn : n < B.length) : kidsB (B.take (n + 1)) h = kidsB (B.take n) h ++ (if eqB B[n].2 h = true then [B[n].1] else []) := by
  unfold kidsB eqB
  rw [take_succ_get B n hn, List.filter_append, List.map_append, List.filter_cons]
  by_cases e : B[n].2 = h <;> simp [e]
theorem outB_succ (B : List Bd) (h : Hd) (n : Nat) (hn : n < B.length) : outB (B.take (n + 1)) h = outB (B.take n) h ++ (if eqB B[n].1 h = true then [] else [B[n]]) := by
  unfold outB eqB
  rw [take_succ_get B n hn, List.filter_append, List.filter_cons]
  by_cases e : B[n].1 = h <;> simp [e]
theorem goneB_succ (B : List Bd) (h : Hd) (n : Nat) (hn : n < B.length) : goneB (B.take (n + 1)) h = goneB (B.take n) h ++ (if ofH h B[n] = true then [] else [B[n]]) := by
  unfold goneB ofH eqB
  rw [take_succ_get B n hn, List.filter_append, List.filter_cons]
  by_cases e1 : B[n].1 = h <;> by_cases e2 : B[n].2 = h <;> simp [e1, e2]

theorem app_bond1 {w : World} {ops : Array Oper} {rest : List Oper} {o : Oper} {a : Act} {Q : Exit → Act → World → Prop} (hgd : o.guard = none) (s x : Operand)
    (ho : o.op = .call { callee := .builtin .append, args := #[s, x], argTypes := #[24, 24] }) (base : Nat) (v : Value) (l : List Bd) (y : Bd) (ad : Addr) (c : Nat)
    (hs : a.eval s = v) (hown : w.ownsRow base 84 4 v l.length (l.flatMap bdC)) (hx : a.eval x = .slice (some ad) 1 c) (hc : ∀ j u, (bdC y)[j]? = some u → w.cell? (ad.add j) = some u)
    (hlen : l.length < 4000000000000) (hbase : base ≤ w.heap.size)
    (h : ∀ v' w', w'.ownsRow base 84 4 v' (l ++ [y]).length ((l ++ [y]).flatMap bdC) → Below base w w' → wpList Tryz.prog ops Q rest (a.put o.dst v') w') : wpList Tryz.prog ops Q (o :: rest) a w :=
  app_bond hgd s x ho base v l y ad c hs hown hx hc hlen hbase (fun v' w' h1 h2 => h v' w' h1 ((Below.refl base w).grown h2 hbase (own_ge hown)))

set_option maxRecDepth 20000 in
set_option maxHeartbeats 2000000 in
theorem cloAdopt_any (b0 b1 b2 b3 s g : Int) (hb : Nat) (w : World) (hh : w.heap[hb]? = some (.cells #[.int .i64 s, .int .i64 g] 41 (0, 0))) :
    Calls Tryz.prog 86 #[.agg #[.int .i64 b0, .int .i64 b1, .int .i64 b2, .int .i64 b3], .pointer (some ⟨hb, 0, none⟩)] w (BoolPost (eqB (b0, b1) (s, g)) w) := by
  have v0 := blk_cell hh 0
  have v1 := blk_cell hh 1
  simp only [List.getElem?_toArray, List.getElem?_cons_zero, List.getElem?_cons_succ] at v0 v1
  have vl := blk_lt hh
  have hB : ∀ o, Below w.heap.size w (w.alloc o) := fun o => (Below.refl _ _).alloc (Nat.le_refl _) o
  have HB := Lib.hid hB
  clear hB
  clear hh
  have hq1 := fun w => eqlHandle w b0 b1 s g
  generalize eqB (b0, b1) (s, g) = r1 at *
  go_enter Tryz.func86, Tryz.ntmps86
  go_wp2
  go_ret
  exact ⟨rfl, HB.out _⟩
set_option maxRecDepth 20000 in
set_option maxHeartbeats 2000000 in
theorem cloLoosen_any (b0 b1 b2 b3 s g : Int) (hb : Nat) (w : World) (hh : w.heap[hb]? = some (.cells #[.int .i64 s, .int .i64 g] 41 (0, 0))) :
    Calls Tryz.prog 104 #[.agg #[.int .i64 b0, .int .i64 b1, .int .i64 b2, .int .i64 b3], .pointer (some ⟨hb, 0, none⟩)] w (BoolPost (eqB (b0, b1) (s, g)) w) := by
  have v0 := blk_cell hh 0
  have v1 := blk_cell hh 1
  simp only [List.getElem?_toArray, List.getElem?_cons_zero, List.getElem?_cons_succ] at v0 v1
  have vl := blk_lt hh
  have hB : ∀ o, Below w.heap.size w (w.alloc o) := fun o => (Below.refl _ _).alloc (Nat.le_refl _) o
  have HB := Lib.hid hB
  clear hB
  clear hh
  have hq1 := fun w => eqlHandle w b0 b1 s g
  generalize eqB (b0, b1) (s, g) = r1 at *
  go_enter Tryz.func104, Tryz.ntmps104
  go_wp2
  go_ret
  exact ⟨rfl, HB.out _⟩
set_option maxRecDepth 20000 in
set_option maxHeartbeats 2000000 in
theorem cloGone_any (b0 b1 b2 b3 s g : Int) (hb : Nat) (w : World) (hh : w.heap[hb]? = some (.cells #[.int .i64 s, .int .i64 g] 41 (0, 0))) :
    Calls Tryz.prog 108 #[.agg #[.int .i64 b0, .int .i64 b1, .int .i64 b2, .int .i64 b3], .pointer (some ⟨hb, 0, none⟩)] w (BoolPost (ofH (s, g) ((b0, b1), (b2, b3))) w) := by
  have v0 := blk_cell hh 0
  have v1 := blk_cell hh 1
  simp only [List.getElem?_toArray, List.getElem?_cons_zero, List.getElem?_cons_succ] at v0 v1
  have vl := blk_lt hh
  have hB : ∀ o, Below w.heap.size w (w.alloc o) := fun o => (Below.refl _ _).alloc (Nat.le_refl _) o
  have HB := Lib.hid hB
  clear hB
  clear hh
  unfold ofH
  have hq1 := fun w => eqlHandle w b0 b1 s g
  have hq2 := fun w => eqlHandle w b2 b3 s g
  generalize eqB (b0, b1) (s, g) = r1 at *
  generalize eqB (b2, b3) (s, g) = r2 at *
  cases r1 with
  | true =>
    go_enter Tryz.func108, Tryz.ntmps108
    go_wp2
    go_ret
    exact ⟨rfl, HB.out _⟩
  | false =>
    go_enter Tryz.func108, Tryz.ntmps108
    go_wp2
    go_ret
    exact ⟨rfl, HB.out _⟩

set_option maxRecDepth 20000 in
set_option maxHeartbeats 4000000 in
theorem withoutAdopt_any {w : World} {B : List Bd} {A : Option Addr} {cap : Nat} (hrow : w.ownsRow 0 84 4 (.slice A B.length cap) B.length (B.flatMap bdC)) (hl : B.length ≤ 1200000000000) (s g : Int) (b : Nat) (h0 : w.heap[b]? = some (.cells #[.int .i64 s, .int .i64 g] 41 (0, 0))) :
    Calls Tryz.prog 85 #[.slice A B.length cap, .func (.func 86) #[] #[.pointer (some ⟨b, 0, none⟩)]] w (MadeR 84 4 bdC (outB B (s, g)) w) := by
  have hle : B.length ≤ 9223372036854775807 := by omega
  have hbl := blk_lt h0
  have HLL := Lib.hid hl
  clear hl
  go_enter Tryz.func85, Tryz.ntmps85
  go_wp2
  go_loopw [5, 10] (fun v i wr => ∃ n : Nat, n ≤ B.length ∧ i = .int .i64 n ∧ wr.ownsRow w.heap.size 84 4 v (outB (B.take n) (s, g)).length ((outB (B.take n) (s, g)).flatMap bdC) ∧ Below w.heap.size w wr) (fun _ i _ => B.length - (Go.RowKit.intOf i).toNat)
  case atStart => exact ⟨0, by omega, rfl, ⟨rfl, .inl ⟨rfl, rfl⟩⟩, Below.refl _ _⟩
  case round =>
    obtain ⟨n, hn, rfl, hown, hbel⟩ := hrel
    have hsz := hbel.size
    by_cases hlt : n < B.length
    · have hro : wr.ownsRow 0 84 4 (.slice A B.length cap) B.length (B.flatMap bdC) := row_mod hrow (Mod.ofBelow hbel) (by simp)
      obtain ⟨g0, cap0, cur0, hv, -, -, -⟩ := row_some hro (by omega)
      cases hv
      have hpc := row_piece bdC_len hro hlt 0 (bdC B[n]) (fun j u hu => by rw [Nat.zero_add]; exact hu)
      have hst := outB_succ B (s, g) n hlt
      have hlen : (outB (B.take n) (s, g)).length ≤ n := by
        have h1 : (outB (B.take n) (s, g)).length ≤ (B.take n).length := List.length_filter_le _ _
        rw [List.length_take] at h1; omega
      have hg0 := row_lt hro g0 rfl
      have hni : (n : Int) < (B.length : Int) := by omega
      generalize outB (B.take n) (s, g) = M at *
      obtain ⟨x, hx⟩ : ∃ x, B[n] = x := ⟨_, rfl⟩
      rw [hx] at hpc hst
      obtain ⟨⟨b0, b1⟩, b2, b3⟩ := x
      have hbz := (Mod.ofBelow hbel).keep h0 (by simp)
      obtain ⟨w3, hw3, hb3, hz3, hs3⟩ := box1 wr (.cells #[.int .i64 b0, .int .i64 b1, .int .i64 b2, .int .i64 b3] 84)
      have hO3 := hown.alloc (.cells #[.int .i64 b0, .int .i64 b1, .int .i64 b2, .int .i64 b3] 84)
      rw [hw3] at hO3
      have hb03 := hbel.trans (hb3.mono hsz)
      have hbz3 := (Mod.ofBelow hb3).keep hbz (by simp)
      have hk1 := cloAdopt_any b0 b1 b2 b3 s g b w3 hbz3
      have hl3 : wr.heap.size < w3.heap.size := by omega
      have r0 := blk_cell hz3 0
      have r1 := blk_cell hz3 1
      have r2 := blk_cell hz3 2
      have r3 := blk_cell hz3 3
      simp only [List.getElem?_toArray, List.getElem?_cons_zero, List.getElem?_cons_succ] at r0 r1 r2 r3
      have rl := blk_lt hz3
      have HP := Lib.hid hpc; have Hst := Lib.hid hst; have Hlen := Lib.hid hlen; have Hown := Lib.hid hown; have Hbel := Lib.hid hbel; have HO3 := Lib.hid hO3; have Hb03 := Lib.hid hb03; have Hk := Lib.hid hk1; have Hs3 := Lib.hid hs3; have Hz3 := Lib.hid hz3; have Hw3 := Lib.hid hw3; have H0 := Lib.hid h0; have Hrow := Lib.hid hrow
      clear hpc hst hlen hown hbel hO3 hb03 hk1 hs3 hz3 hw3 h0 hrow
      clear hro hx hbz hbz3 hb3
      have HO := Lib.hid (bdC_one ((b0, b1), (b2, b3)))
      go_wp2_with (first | (refine wpList_load_flat rfl 84 (.tmp 12) rfl _ rfl [.int .i64 b0, .int .i64 b1, .int .i64 b2, .int .i64 b3] _ Tryz.underlying84 rfl (by kernel_rfl) HP.out ?_) | (refine wpList_store_new rfl 84 (.tmp 7) (.tmp 13) rfl wr (ints [0, 0, 0, 0]) [.int .i64 b0, .int .i64 b1, .int .i64 b2, .int .i64 b3] 84 rfl rfl rfl (by kernel_rfl) HO.out ?_; rw [show ([.int .i64 b0, .int .i64 b1, .int .i64 b2, .int .i64 b3] : List Value).toArray = #[.int .i64 b0, .int .i64 b1, .int .i64 b2, .int .i64 b3] from rfl, Hw3.out]; clear HO))
      refine Hk.out.mono ?_
      rintro e w4 ⟨rfl, hb4⟩
      have hz4 := (Mod.ofBelow hb4).keep Hz3.out (by simp)
      have hs4 := hb4.size
      have hs3 := Hs3.out
      have hO4 := row_mod HO3.out (Mod.ofBelow hb4) (by simp)
      have hb04 := Hb03.out.trans (hb4.mono Hb03.out.size)
      have hbs := Hb03.out.size
      cases hr : eqB (b0, b1) (s, g) with
      | true =>
        have hst := Hst.out
        rw [if_pos hr, List.append_nil] at hst
        have Hst2 := Lib.hid hst; have HO4 := Lib.hid hO4; have Hbel4 := Lib.hid hb04; have Hz4 := Lib.hid hz4; have Hs4 := Lib.hid hs4; have Hbs := Lib.hid hbs; have Hr := Lib.hid hr
        clear hst hO4 hb04 hz4 hs4 hbs hr
        clear hs3 hb4 r0 r1 r2 r3 rl
        go_wp2
        go_roundw
        case rel => exact ⟨n + 1, by omega, by go_num, by rw [Hst2.out]; exact HO4.out, Hbel4.out⟩
        case measure => simp [Go.RowKit.intOf]; omega
      | false =>
        have hst := Hst.out
        rw [if_neg (by rw [hr]; simp)] at hst
        clear r0 r1 r2 r3 rl
        have r0 := blk_cell hz4 0
        have r1 := blk_cell hz4 1
        have r2 := blk_cell hz4 2
        have r3 := blk_cell hz4 3
        simp only [List.getElem?_toArray, List.getElem?_cons_zero, List.getElem?_cons_succ] at r0 r1 r2 r3
        have rl := blk_lt hz4
        have Hst2 := Lib.hid hst; have Hown4 := Lib.hid hO4; have Hbel4 := Lib.hid hb04; have Hs4 := Lib.hid hs4; have Hbs := Lib.hid hbs; have Hr := Lib.hid hr
        clear hst hO4 hb04 hs4 hbs hr
        clear hb4 hz4 hs3
        go_wp2_with (at_builtin; (refine app_bond1 rfl _ _ rfl w.heap.size _ M ((b0, b1), (b2, b3)) ⟨w4.heap.size, 0, none⟩ 1 rfl (Hown4.out.alloc _) rfl (new_rec (by simp) rfl) (by have := HLL.out; have := Hlen.out; omega) (by have := Hbel4.out.size; simp; omega) ?_); intro v' w5 hown5 hb5)
        go_roundw
        case rel => exact ⟨n + 1, by omega, by go_num, by rw [Hst2.out]; exact hown5, (Hbel4.out.alloc Hbel4.out.size _).trans hb5⟩
        case measure => simp [Go.RowKit.intOf]; omega
    · obtain rfl : n = B.length := by omega
      rw [List.take_length] at hown
      have Hown := Lib.hid hown; have Hbel := Lib.hid hbel
      clear hown hbel
      clear hrow h0
      go_wp2
      go_ret
      exact ⟨_, rfl, Hown.out, Hbel.out⟩
set_option maxRecDepth 20000 in
set_option maxHeartbeats 4000000 in
theorem withoutLoosen_any {w : World} {B : List Bd} {A : Option Addr} {cap : Nat} (hrow : w.ownsRow 0 84 4 (.slice A B.length cap) B.length (B.flatMap bdC)) (hl : B.length ≤ 1200000000000) (s g : Int) (b : Nat) (h0 : w.heap[b]? = some (.cells #[.int .i64 s, .int .i64 g] 41 (0, 0))) :
    Calls Tryz.prog 85 #[.slice A B.length cap, .func (.func 104) #[] #[.pointer (some ⟨b, 0, none⟩)]] w (MadeR 84 4 bdC (outB B (s, g)) w) := by
  have hle : B.length ≤ 9223372036854775807 := by omega
  have hbl := blk_lt h0
  have HLL := Lib.hid hl
  clear hl
  go_enter Tryz.func85, Tryz.ntmps85
  go_wp2
  go_loopw [5, 10] (fun v i wr => ∃ n : Nat, n ≤ B.length ∧ i = .int .i64 n ∧ wr.ownsRow w.heap.size 84 4 v (outB (B.take n) (s, g)).length ((outB (B.take n) (s, g)).flatMap bdC) ∧ Below w.heap.size w wr) (fun _ i _ => B.length - (Go.RowKit.intOf i).toNat)
  case atStart => exact ⟨0, by omega, rfl, ⟨rfl, .inl ⟨rfl, rfl⟩⟩, Below.refl _ _⟩
  case round =>
    obtain ⟨n, hn, rfl, hown, hbel⟩ := hrel
    have hsz := hbel.size
    by_cases hlt : n < B.length
    · have hro : wr.ownsRow 0 84 4 (.slice A B.length cap) B.length (B.flatMap bdC) := row_mod hrow (Mod.ofBelow hbel) (by simp)
      obtain ⟨g0, cap0, cur0, hv, -, -, -⟩ := row_some hro (by omega)
      cases hv
      have hpc := row_piece bdC_len hro hlt 0 (bdC B[n]) (fun j u hu => by rw [Nat.zero_add]; exact hu)
      have hst := outB_succ B (s, g) n hlt
      have hlen : (outB (B.take n) (s, g)).length ≤ n := by
        have h1 : (outB (B.take n) (s, g)).length ≤ (B.take n).length := List.length_filter_le _ _
        rw [List.length_take] at h1; omega
      have hg0 := row_lt hro g0 rfl
      have hni : (n : Int) < (B.length : Int) := by omega
      generalize outB (B.take n) (s, g) = M at *
      obtain ⟨x, hx⟩ : ∃ x, B[n] = x := ⟨_, rfl⟩
      rw [hx] at hpc hst
      obtain ⟨⟨b0, b1⟩, b2, b3⟩ := x
      have hbz := (Mod.ofBelow hbel).keep h0 (by simp)
      obtain ⟨w3, hw3, hb3, hz3, hs3⟩ := box1 wr (.cells #[.int .i64 b0, .int .i64 b1, .int .i64 b2, .int .i64 b3] 84)
      have hO3 := hown.alloc (.cells #[.int .i64 b0, .int .i64 b1, .int .i64 b2, .int .i64 b3] 84)
      rw [hw3] at hO3
      have hb03 := hbel.trans (hb3.mono hsz)
      have hbz3 := (Mod.ofBelow hb3).keep hbz (by simp)
      have hk1 := cloLoosen_any b0 b1 b2 b3 s g b w3 hbz3
      have hl3 : wr.heap.size < w3.heap.size := by omega
      have r0 := blk_cell hz3 0
      have r1 := blk_cell hz3 1
      have r2 := blk_cell hz3 2
      have r3 := blk_cell hz3 3
      simp only [List.getElem?_toArray, List.getElem?_cons_zero, List.getElem?_cons_succ] at r0 r1 r2 r3
      have rl := blk_lt hz3
      have HP := Lib.hid hpc; have Hst := Lib.hid hst; have Hlen := Lib.hid hlen; have Hown := Lib.hid hown; have Hbel := Lib.hid hbel; have HO3 := Lib.hid hO3; have Hb03 := Lib.hid hb03; have Hk := Lib.hid hk1; have Hs3 := Lib.hid hs3; have Hz3 := Lib.hid hz3; have Hw3 := Lib.hid hw3; have H0 := Lib.hid h0; have Hrow := Lib.hid hrow
      clear hpc hst hlen hown hbel hO3 hb03 hk1 hs3 hz3 hw3 h0 hrow
      clear hro hx hbz hbz3 hb3
      have HO := Lib.hid (bdC_one ((b0, b1), (b2, b3)))
      go_wp2_with (first | (refine wpList_load_flat rfl 84 (.tmp 12) rfl _ rfl [.int .i64 b0, .int .i64 b1, .int .i64 b2, .int .i64 b3] _ Tryz.underlying84 rfl (by kernel_rfl) HP.out ?_) | (refine wpList_store_new rfl 84 (.tmp 7) (.tmp 13) rfl wr (ints [0, 0, 0, 0]) [.int .i64 b0, .int .i64 b1, .int .i64 b2, .int .i64 b3] 84 rfl rfl rfl (by kernel_rfl) HO.out ?_; rw [show ([.int .i64 b0, .int .i64 b1, .int .i64 b2, .int .i64 b3] : List Value).toArray = #[.int .i64 b0, .int .i64 b1, .int .i64 b2, .int .i64 b3] from rfl, Hw3.out]; clear HO))
      refine Hk.out.mono ?_
      rintro e w4 ⟨rfl, hb4⟩
      have hz4 := (Mod.ofBelow hb4).keep Hz3.out (by simp)
      have hs4 := hb4.size
      have hs3 := Hs3.out
      have hO4 := row_mod HO3.out (Mod.ofBelow hb4) (by simp)
      have hb04 := Hb03.out.trans (hb4.mono Hb03.out.size)
      have hbs := Hb03.out.size
      cases hr : eqB (b0, b1) (s, g) with
      | true =>
        have hst := Hst.out
        rw [if_pos hr, List.append_nil] at hst
        have Hst2 := Lib.hid hst; have HO4 := Lib.hid hO4; have Hbel4 := Lib.hid hb04; have Hz4 := Lib.hid hz4; have Hs4 := Lib.hid hs4; have Hbs := Lib.hid hbs; have Hr := Lib.hid hr
        clear hst hO4 hb04 hz4 hs4 hbs hr
        clear hs3 hb4 r0 r1 r2 r3 rl
        go_wp2
        go_roundw
        case rel => exact ⟨n + 1, by omega, by go_num, by rw [Hst2.out]; exact HO4.out, Hbel4.out⟩
        case measure => simp [Go.RowKit.intOf]; omega
      | false =>
        have hst := Hst.out
        rw [if_neg (by rw [hr]; simp)] at hst
        clear r0 r1 r2 r3 rl
        have r0 := blk_cell hz4 0
        have r1 := blk_cell hz4 1
        have r2 := blk_cell hz4 2
        have r3 := blk_cell hz4 3
        simp only [List.getElem?_toArray, List.getElem?_cons_zero, List.getElem?_cons_succ] at r0 r1 r2 r3
        have rl := blk_lt hz4
        have Hst2 := Lib.hid hst; have Hown4 := Lib.hid hO4; have Hbel4 := Lib.hid hb04; have Hs4 := Lib.hid hs4; have Hbs := Lib.hid hbs; have Hr := Lib.hid hr
        clear hst hO4 hb04 hs4 hbs hr
        clear hb4 hz4 hs3
        go_wp2_with (at_builtin; (refine app_bond1 rfl _ _ rfl w.heap.size _ M ((b0, b1), (b2, b3)) ⟨w4.heap.size, 0, none⟩ 1 rfl (Hown4.out.alloc _) rfl (new_rec (by simp) rfl) (by have := HLL.out; have := Hlen.out; omega) (by have := Hbel4.out.size; simp; omega) ?_); intro v' w5 hown5 hb5)
        go_roundw
        case rel => exact ⟨n + 1, by omega, by go_num, by rw [Hst2.out]; exact hown5, (Hbel4.out.alloc Hbel4.out.size _).trans hb5⟩
        case measure => simp [Go.RowKit.intOf]; omega
    · obtain rfl : n = B.length := by omega
      rw [List.take_length] at hown
      have Hown := Lib.hid hown; have Hbel := Lib.hid hbel
      clear hown hbel
      clear hrow h0
      go_wp2
      go_ret
      exact ⟨_, rfl, Hown.out, Hbel.out⟩
set_option maxRecDepth 20000 in
set_option maxHeartbeats 4000000 in
theorem withoutGone_any {w : World} {B : List Bd} {A : Option Addr} {cap : Nat} (hrow : w.ownsRow 0 84 4 (.slice A B.length cap) B.length (B.flatMap bdC)) (hl : B.length ≤ 1200000000000) (s g : Int) (b : Nat) (h0 : w.heap[b]? = some (.cells #[.int .i64 s, .int .i64 g] 41 (0, 0))) :
    Calls Tryz.prog 85 #[.slice A B.length cap, .func (.func 108) #[] #[.pointer (some ⟨b, 0, none⟩)]] w (MadeR 84 4 bdC (goneB B (s, g)) w) := by
  have hle : B.length ≤ 9223372036854775807 := by omega
  have hbl := blk_lt h0
  have HLL := Lib.hid hl
  clear hl
  go_enter Tryz.func85, Tryz.ntmps85
  go_wp2
  go_loopw [5, 10] (fun v i wr => ∃ n : Nat, n ≤ B.length ∧ i = .int .i64 n ∧ wr.ownsRow w.heap.size 84 4 v (goneB (B.take n) (s, g)).length ((goneB (B.take n) (s, g)).flatMap bdC) ∧ Below w.heap.size w wr) (fun _ i _ => B.length - (Go.RowKit.intOf i).toNat)
  case atStart => exact ⟨0, by omega, rfl, ⟨rfl, .inl ⟨rfl, rfl⟩⟩, Below.refl _ _⟩
  case round =>
    obtain ⟨n, hn, rfl, hown, hbel⟩ := hrel
    have hsz := hbel.size
    by_cases hlt : n < B.length
    · have hro : wr.ownsRow 0 84 4 (.slice A B.length cap) B.length (B.flatMap bdC) := row_mod hrow (Mod.ofBelow hbel) (by simp)
      obtain ⟨g0, cap0, cur0, hv, -, -, -⟩ := row_some hro (by omega)
      cases hv
      have hpc := row_piece bdC_len hro hlt 0 (bdC B[n]) (fun j u hu => by rw [Nat.zero_add]; exact hu)
      have hst := goneB_succ B (s, g) n hlt
      have hlen : (goneB (B.take n) (s, g)).length ≤ n := by
        have h1 : (goneB (B.take n) (s, g)).length ≤ (B.take n).length := List.length_filter_le _ _
        rw [List.length_take] at h1; omega
      have hg0 := row_lt hro g0 rfl
      have hni : (n : Int) < (B.length : Int) := by omega
      generalize goneB (B.take n) (s, g) = M at *
      obtain ⟨x, hx⟩ : ∃ x, B[n] = x := ⟨_, rfl⟩
      rw [hx] at hpc hst
      obtain ⟨⟨b0, b1⟩, b2, b3⟩ := x
      have hbz := (Mod.ofBelow hbel).keep h0 (by simp)
      obtain ⟨w3, hw3, hb3, hz3, hs3⟩ := box1 wr (.cells #[.int .i64 b0, .int .i64 b1, .int .i64 b2, .int .i64 b3] 84)
      have hO3 := hown.alloc (.cells #[.int .i64 b0, .int .i64 b1, .int .i64 b2, .int .i64 b3] 84)
      rw [hw3] at hO3
      have hb03 := hbel.trans (hb3.mono hsz)
      have hbz3 := (Mod.ofBelow hb3).keep hbz (by simp)
      have hk1 := cloGone_any b0 b1 b2 b3 s g b w3 hbz3
      have hl3 : wr.heap.size < w3.heap.size := by omega
      have r0 := blk_cell hz3 0
      have r1 := blk_cell hz3 1
      have r2 := blk_cell hz3 2
      have r3 := blk_cell hz3 3
      simp only [List.getElem?_toArray, List.getElem?_cons_zero, List.getElem?_cons_succ] at r0 r1 r2 r3
      have rl := blk_lt hz3
      have HP := Lib.hid hpc; have Hst := Lib.hid hst; have Hlen := Lib.hid hlen; have Hown := Lib.hid hown; have Hbel := Lib.hid hbel; have HO3 := Lib.hid hO3; have Hb03 := Lib.hid hb03; have Hk := Lib.hid hk1; have Hs3 := Lib.hid hs3; have Hz3 := Lib.hid hz3; have Hw3 := Lib.hid hw3; have H0 := Lib.hid h0; have Hrow := Lib.hid hrow
      clear hpc hst hlen hown hbel hO3 hb03 hk1 hs3 hz3 hw3 h0 hrow
      clear hro hx hbz hbz3 hb3
      have HO := Lib.hid (bdC_one ((b0, b1), (b2, b3)))
      go_wp2_with (first | (refine wpList_load_flat rfl 84 (.tmp 12) rfl _ rfl [.int .i64 b0, .int .i64 b1, .int .i64 b2, .int .i64 b3] _ Tryz.underlying84 rfl (by kernel_rfl) HP.out ?_) | (refine wpList_store_new rfl 84 (.tmp 7) (.tmp 13) rfl wr (ints [0, 0, 0, 0]) [.int .i64 b0, .int .i64 b1, .int .i64 b2, .int .i64 b3] 84 rfl rfl rfl (by kernel_rfl) HO.out ?_; rw [show ([.int .i64 b0, .int .i64 b1, .int .i64 b2, .int .i64 b3] : List Value).toArray = #[.int .i64 b0, .int .i64 b1, .int .i64 b2, .int .i64 b3] from rfl, Hw3.out]; clear HO))
      refine Hk.out.mono ?_
      rintro e w4 ⟨rfl, hb4⟩
      have hz4 := (Mod.ofBelow hb4).keep Hz3.out (by simp)
      have hs4 := hb4.size
      have hs3 := Hs3.out
      have hO4 := row_mod HO3.out (Mod.ofBelow hb4) (by simp)
      have hb04 := Hb03.out.trans (hb4.mono Hb03.out.size)
      have hbs := Hb03.out.size
      cases hr : ofH (s, g) ((b0, b1), (b2, b3)) with
      | true =>
        have hst := Hst.out
        rw [if_pos hr, List.append_nil] at hst
        have Hst2 := Lib.hid hst; have HO4 := Lib.hid hO4; have Hbel4 := Lib.hid hb04; have Hz4 := Lib.hid hz4; have Hs4 := Lib.hid hs4; have Hbs := Lib.hid hbs; have Hr := Lib.hid hr
        clear hst hO4 hb04 hz4 hs4 hbs hr
        clear hs3 hb4 r0 r1 r2 r3 rl
        go_wp2
        go_roundw
        case rel => exact ⟨n + 1, by omega, by go_num, by rw [Hst2.out]; exact HO4.out, Hbel4.out⟩
        case measure => simp [Go.RowKit.intOf]; omega
      | false =>
        have hst := Hst.out
        rw [if_neg (by rw [hr]; simp)] at hst
        clear r0 r1 r2 r3 rl
        have r0 := blk_cell hz4 0
        have r1 := blk_cell hz4 1
        have r2 := blk_cell hz4 2
        have r3 := blk_cell hz4 3
        simp only [List.getElem?_toArray, List.getElem?_cons_zero, List.getElem?_cons_succ] at r0 r1 r2 r3
        have rl := blk_lt hz4
        have Hst2 := Lib.hid hst; have Hown4 := Lib.hid hO4; have Hbel4 := Lib.hid hb04; have Hs4 := Lib.hid hs4; have Hbs := Lib.hid hbs; have Hr := Lib.hid hr
        clear hst hO4 hb04 hs4 hbs hr
        clear hb4 hz4 hs3
        go_wp2_with (at_builtin; (refine app_bond1 rfl _ _ rfl w.heap.size _ M ((b0, b1), (b2, b3)) ⟨w4.heap.size, 0, none⟩ 1 rfl (Hown4.out.alloc _) rfl (new_rec (by simp) rfl) (by have := HLL.out; have := Hlen.out; omega) (by have := Hbel4.out.size; simp; omega) ?_); intro v' w5 hown5 hb5)
        go_roundw
        case rel => exact ⟨n + 1, by omega, by go_num, by rw [Hst2.out]; exact hown5, (Hbel4.out.alloc Hbel4.out.size _).trans hb5⟩
        case measure => simp [Go.RowKit.intOf]; omega
    · obtain rfl : n = B.length := by omega
      rw [List.take_length] at hown
      have Hown := Lib.hid hown; have Hbel := Lib.hid hbel
      clear hown hbel
      clear hrow h0
      go_wp2
      go_ret
      exact ⟨_, rfl, Hown.out, Hbel.out⟩

end
end Go.Proofs.YtehjfmjibiafdaaGreat
