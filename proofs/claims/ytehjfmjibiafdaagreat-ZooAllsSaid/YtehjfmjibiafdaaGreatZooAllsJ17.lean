import Derived.Test.YtehjfmjibiafdaaGreatZooAllsJ0
import Derived.Test.YtehjfmjibiafdaaGreatZooAllsJ16
import Derived.Test.YtehjfmjibiafdaaGreatZooAllsJ15
/- A part of the proof that the law ZooAlls returns true for every input. -/
namespace Go.Proofs.YtehjfmjibiafdaaGreat
open Go Go.RowKit
variable {vB : Value}
attribute [local go_sem] AllFrom.cons_eq AllFrom.nil_eq putF_nil putF_cons wantedL_none wantedL_some OpGoalT OpGoalV OpGoalQ YieldsR preF_nil preF_cons
def RepZ (vB : Value) (w : World) (q : Nat) (sl : Sl) (L : List Rw) (F : List Nat) : Prop :=
 ∃ vL FS, RepZS vL vB w q sl FS ∧ w.ownsRow 0 69 11 vL L.length (L.flatMap rwC) ∧ F = FS ++ vL.ownBlock.toList ∧ F.Nodup
theorem RepZ.mod {w w' : World} {q : Nat} {sl : Sl} {L : List Rw} {F G : List Nat} (h : RepZ vB w q sl L F) (hm : Mod G w w') (hd : ∀ k ∈ F, k ∉ G) : RepZ vB w' q sl L F := by
 obtain ⟨vL, FS, h1, h2, rfl, h3⟩ := h
 exact ⟨vL, FS, h1.mod hm (fun k hk => hd k (by simp [hk])), row_mod h2 hm (fun k hk => hd k (by simp [hk])), rfl, h3⟩
theorem RepZ.below {w w' : World} {q : Nat} {sl : Sl} {L : List Rw} {F : List Nat} (h : RepZ vB w q sl L F) (hb : Below w.heap.size w w') : RepZ vB w' q sl L F := h.mod (Mod.ofBelow hb) (by simp)
theorem RepZ.lt {w : World} {q : Nat} {sl : Sl} {L : List Rw} {F : List Nat} (h : RepZ vB w q sl L F) : ∀ k ∈ F, k < w.heap.size := by
 obtain ⟨vL, FS, h1, h2, rfl, h3⟩ := h
 intro k hk
 rcases List.mem_append.1 hk with hk | hk
 ·exact h1.lt k hk
 ·exact row_lt h2 k (by simpa using hk)
theorem RepZ.open_ {w : World} {q : Nat} {sl : Sl} {L : List Rw} {F : List Nat} (h : RepZ vB w q sl L F) : ∃ vg vl A cap, w.heap[q]? = some (.cells #[vg, vl, .slice A L.length cap, vB] 47 (0, 0)) ∧ w.ownsRow 0 69 11 (.slice A L.length cap) L.length (L.flatMap rwC) := by
 obtain ⟨vL, FS, ⟨vg, vl, h1, -⟩, h2, rfl, h3⟩ := h
 obtain ⟨A, cap, rfl, -, -⟩ := row_slice h2
 exact ⟨vg, vl, A, cap, h1, h2⟩
theorem RepZS.turnL {vL vL' vB : Value} {w w' : World} {q : Nat} {sl : Sl} {F G : List Nat} (h : RepZS vL vB w q sl F) (hm : Mod G w w') (hd : ∀ k ∈ F, k ∉ G) : RepZS vL' vB (w'.setCell ⟨q, 2, none⟩ vL') q sl F := by
 obtain ⟨vg, vl, h1, h2, h3, rfl, h4⟩ := h
 have hq := hm.keep h1 (hd q (by simp))
 have hM : ∀ v, Mod [q] w' (w'.setCell ⟨q, 2, none⟩ v) := fun v => (Mod.refl _ _).setCell (.inl (by simp)) v
 have hne : ∀ k ∈ vg.ownBlock.toList ++ vl.ownBlock.toList, k ≠ q := by
  rintro k hk rfl
  rw [List.nodup_cons] at h4
  exact h4.1 hk
 refine ⟨vg, vl, ?_, ?_, ?_, rfl, h4⟩
 ·rw [blk_set hq 2 _]; rfl
 ·exact row_mod (row_mod h2 hm (fun k hk => hd k (by simp [hk]))) (hM _) (fun k hk h => hne k (by simp [hk]) (by simpa using h))
 ·exact row_mod (row_mod h3 hm (fun k hk => hd k (by simp [hk]))) (hM _) (fun k hk h => hne k (by simp [hk]) (by simpa using h))
def atI (L : List Rw) (h : Hd) : Int := match idxL L h with | some i => (i : Int) | none => -1
theorem atI_some {L : List Rw} {h : Hd} {i : Nat} (hi : idxL L h = some i) : atI L h = (i : Int) := by unfold atI; rw [hi]
theorem atI_none {L : List Rw} {h : Hd} (hi : idxL L h = none) : atI L h = -1 := by unfold atI; rw [hi]
set_option maxRecDepth 20000 in
set_option maxHeartbeats 2000000 in
theorem at_any {w : World} {q : Nat} {sl : Sl} {L : List Rw} {F : List Nat} (h : RepZ vB w q sl L F) (hl : L.length ≤ 60) (s g : Int) :
  Calls Tryz.prog 33 #[.pointer (some ⟨q, 0, none⟩), .agg #[.int .i64 s, .int .i64 g]] w (fun e w' => e = .returned (.int .i64 (atI L (s, g))) ∧ Below w.heap.size w w') := by
 obtain ⟨vg, vl, A, cap, hq, hrow⟩ := h.open_
 have c2 := blk_cell hq 2
 simp only [List.getElem?_toArray, List.getElem?_cons_zero, List.getElem?_cons_succ] at c2
 have hql := blk_lt hq
 clear h hq
 go_enter Tryz.func33, Tryz.ntmps33
 go_wp2
 go_loopw [12] (fun i wr => ∃ k : Nat, k ≤ L.length ∧ i = .int .i64 k ∧ (∀ j (h : j < L.length), j < k → ¬ L[j].1 = (s, g)) ∧ Below (w.heap.size + 1) (w.alloc (.cells #[.int .i64 s, .int .i64 g] 41)) wr) (fun i _ => L.length - (Go.RowKit.intOf i).toNat)
 case atStart => exact ⟨0, by omega, rfl, fun j h => by omega, Below.refl _ _⟩
 case round =>
  obtain ⟨k, hk, rfl, hno, hbel⟩ := hrel
  have hsz := hbel.size
  simp only [World.size_alloc] at hsz
  have hsz2 : w.heap.size < wr.heap.size := hsz
  have hb0 : Below w.heap.size w wr := ((Below.refl w.heap.size w).alloc (Nat.le_refl _) _).trans (hbel.mono (by omega))
  have d0 : wr.cell? ⟨w.heap.size, 0, none⟩ = some (.int .i64 s) := (hbel.cell (p := ⟨w.heap.size, 0, none⟩) (by simp)).trans (by simp)
  have d1 : wr.cell? ⟨w.heap.size, 1, none⟩ = some (.int .i64 g) := (hbel.cell (p := ⟨w.heap.size, 1, none⟩) (by simp)).trans (by simp)
  by_cases hlt : k < L.length
  ·have hro : wr.ownsRow 0 69 11 (.slice A L.length cap) L.length (L.flatMap rwC) := row_mod hrow (Mod.ofBelow hb0) (by simp)
   obtain ⟨g0, cap0, cur0, hv, -, -, -⟩ := row_some hro (by omega)
   cases hv
   have hpc := row_piece rwC_len hro hlt 0 (rwC L[k]) (fun j u hu => by rw [Nat.zero_add]; exact hu)
   have hg0 := row_lt hro g0 rfl
   have hki : (k : Int) < (L.length : Int) := by omega
   have hyes : L[k].1 = (s, g) → atI L (s, g) = (k : Int) := by
    intro e
    refine atI_some (fi_some hlt (by simpa using e) fun j hj => ?_)
    have := hno j (by omega) hj
    simpa using this
   have hgo : ¬ L[k].1 = (s, g) → ∀ j (h : j < L.length), j < k + 1 → ¬ L[j].1 = (s, g) := by
    intro e j h1 h2
    rcases Nat.lt_or_eq_of_le (Nat.lt_succ_iff.1 h2) with h3 | rfl
    ·exact hno j h1 h3
    ·exact e
   clear hno
   generalize L[k] = x at *
   obtain ⟨⟨s1, g1⟩, K, a0, a1, a2, a3, a4, a5, a6, a7⟩ := x
   obtain ⟨HP, Hyes, Hgo, Hb, Hb0, HR⟩ := hid6 hpc hyes hgo hbel hb0 hrow
   have he := fun w => eqlHandle w s1 g1 s g
   clear hpc hyes hgo hbel hb0 hro hrow
   generalize hr : eqB (s1, g1) (s, g) = r at *
   have Hr := Lib.hid hr
   clear hr
   cases r with
   | true =>
    have H := Lib.hid (Hyes.out (by simpa [eqB] using Hr.out))
    go_wp2_with (refine wpList_load_flat rfl 69 (.tmp 15) rfl _ rfl [.int .i64 s1, .int .i64 g1, .int .i64 K, .int .i64 a0, .int .i64 a1, .int .i64 a2, .int .i64 a3, .int .i64 a4, .int .i64 a5, .int .i64 a6, .int .i64 a7] _ Tryz.underlying69 rfl (by kernel_rfl) HP.out ?_)
    go_ret
    exact ⟨by rw [H.out]; rfl, Hb0.out.alloc (by omega) _⟩
   | false =>
    have H := Lib.hid (Hgo.out (by simpa [eqB] using Hr.out))
    go_wp2_with (refine wpList_load_flat rfl 69 (.tmp 15) rfl _ rfl [.int .i64 s1, .int .i64 g1, .int .i64 K, .int .i64 a0, .int .i64 a1, .int .i64 a2, .int .i64 a3, .int .i64 a4, .int .i64 a5, .int .i64 a6, .int .i64 a7] _ Tryz.underlying69 rfl (by kernel_rfl) HP.out ?_)
    go_roundw
    case rel => exact ⟨k + 1, by omega, by go_num, H.out, Hb.out.alloc (by omega) _⟩
    case measure => simp [Go.RowKit.intOf]; omega
  ·have hf : atI L (s, g) = -1 := atI_none (fi_none fun j hj => by have := hno j hj (by omega); simpa using this)
   have H := Lib.hid hf
   clear hf hno hrow
   go_wp2
   go_ret
   exact ⟨by rw [H.out]; rfl, hb0⟩
end Go.Proofs.YtehjfmjibiafdaaGreat
namespace Go.Proofs.YtehjfmjibiafdaaGreat
open Go Go.RowKit
variable {vB : Value}
attribute [local go_sem] AllFrom.cons_eq AllFrom.nil_eq putF_nil putF_cons wantedL_none wantedL_some OpGoalT OpGoalV OpGoalQ YieldsR preF_nil preF_cons
set_option maxRecDepth 20000 in
set_option maxHeartbeats 2000000 in
theorem kill1_any (s1 g1 K a0 a1 a2 a3 a4 a5 a6 a7 s g : Int) (b : Nat) (w : World) (h0 : w.cell? ⟨b, 0, none⟩ = some (.int .i64 s)) (h1 : w.cell? ⟨b, 1, none⟩ = some (.int .i64 g)) (hb : b < w.heap.size) :
  Calls Tryz.prog 106 #[.agg #[.int .i64 s1, .int .i64 g1, .int .i64 K, .int .i64 a0, .int .i64 a1, .int .i64 a2, .int .i64 a3, .int .i64 a4, .int .i64 a5, .int .i64 a6, .int .i64 a7], .pointer (some ⟨b, 0, none⟩)] w (fun e w' => e = .returned (.bool (eqB (s1, g1) (s, g))) ∧ Below w.heap.size w w') := by
 have he := fun w => eqlHandle w s1 g1 s g
 generalize eqB (s1, g1) (s, g) = r at *
 have hB : ∀ o, Below w.heap.size w (w.alloc o) := fun o => (Below.refl _ _).alloc (Nat.le_refl _) o
 go_enter Tryz.func106, Tryz.ntmps106
 go_wp2
 go_ret
 exact ⟨rfl, hB _⟩
theorem app_row {w : World} {ops : Array Oper} {rest : List Oper} {o : Oper} {a : Act} {Q : Exit → Act → World → Prop} (hgd : o.guard = none) (s x : Operand)
  (ho : o.op = .call { callee := .builtin .append, args := #[s, x], argTypes := #[23, 23] }) (base : Nat) (v : Value) (l : List Rw) (y : Rw) (ad : Addr) (c : Nat)
  (hs : a.eval s = v) (hown : w.ownsRow base 69 11 v l.length (l.flatMap rwC)) (hx : a.eval x = .slice (some ad) 1 c) (hc : ∀ j u, (rwC y)[j]? = some u → w.cell? (ad.add j) = some u)
  (hlen : l.length < 1200000000000) (hbase : base ≤ w.heap.size)
  (h : ∀ v' w', w'.ownsRow base 69 11 v' (l ++ [y]).length ((l ++ [y]).flatMap rwC) → Below base w w' → wpList Tryz.prog ops Q rest (a.put o.dst v') w') : wpList Tryz.prog ops Q (o :: rest) a w := by
 refine app_rec (enc := rwC) (n := 11) (z := .agg (ints zero11).toArray) (bytes := 88) hgd s x 23 69 ho Tryz.underlying23 inf_Row rfl (by omega) (by omega) rwC_one rwC_len base v l y ad c hs hown hx hc (by omega) hbase ?_
 intro v' w' h1 h2 _
 exact h v' w' h1 ((Below.refl base w).grown h2 hbase (own_ge hown))
set_option maxRecDepth 20000 in
set_option maxHeartbeats 4000000 in
theorem without_any {w : World} {L : List Rw} {A : Option Addr} {cap : Nat} (hrow : w.ownsRow 0 69 11 (.slice A L.length cap) L.length (L.flatMap rwC)) (hl : L.length ≤ 1200000000000) (s g : Int) (b : Nat) (h0 : w.heap[b]? = some (.cells #[.int .i64 s, .int .i64 g] 41 (0, 0))) :
  Calls Tryz.prog 66 #[.slice A L.length cap, .func (.func 106) #[] #[.pointer (some ⟨b, 0, none⟩)]] w (MadeR 69 11 rwC (killL L (s, g)) w) := by
 have hle : L.length ≤ 9223372036854775807 := by omega
 have hbl := blk_lt h0
 have HLL := Lib.hid hl
 clear hl
 go_enter Tryz.func66, Tryz.ntmps66
 go_wp2
 go_loopw [5, 10] (fun v i wr => ∃ n : Nat, n ≤ L.length ∧ i = .int .i64 n ∧ wr.ownsRow w.heap.size 69 11 v (killL (L.take n) (s, g)).length ((killL (L.take n) (s, g)).flatMap rwC) ∧ Below w.heap.size w wr) (fun _ i _ => L.length - (Go.RowKit.intOf i).toNat)
 case atStart => exact ⟨0, by omega, rfl, ⟨rfl, .inl ⟨rfl, rfl⟩⟩, Below.refl _ _⟩
 case round =>
  obtain ⟨n, hn, rfl, hown, hbel⟩ := hrel
  have hsz := hbel.size
  by_cases hlt : n < L.length
  ·have hro : wr.ownsRow 0 69 11 (.slice A L.length cap) L.length (L.flatMap rwC) := row_mod hrow (Mod.ofBelow hbel) (by simp)
   obtain ⟨g0, cap0, cur0, hv, -, -, -⟩ := row_some hro (by omega)
   cases hv
   have hpc := row_piece rwC_len hro hlt 0 (rwC L[n]) (fun j u hu => by rw [Nat.zero_add]; exact hu)
   have hst : killL (L.take (n + 1)) (s, g) = killL (L.take n) (s, g) ++ (if L[n].1 = (s, g) then [] else [L[n]]) := by
    unfold killL
    rw [take_succ_get L n hlt, List.filter_append, List.filter_cons]
    by_cases e : L[n].1 = (s, g) <;> simp [e]
   have hlen : (killL (L.take n) (s, g)).length ≤ n := by
    have h1 : (killL (L.take n) (s, g)).length ≤ (L.take n).length := List.length_filter_le _ _
    rw [List.length_take] at h1; omega
   have hg0 := row_lt hro g0 rfl
   have hni : (n : Int) < (L.length : Int) := by omega
   generalize killL (L.take n) (s, g) = M at *
   obtain ⟨x, hx⟩ : ∃ x, L[n] = x := ⟨_, rfl⟩
   rw [hx] at hpc hst
   obtain ⟨⟨s1, g1⟩, K, a0, a1, a2, a3, a4, a5, a6, a7⟩ := x
   have hbz := (Mod.ofBelow hbel).keep h0 (by simp)
   obtain ⟨w3, hw3, hb3, hz3, hs3⟩ := box1 wr (.cells #[.int .i64 s1, .int .i64 g1, .int .i64 K, .int .i64 a0, .int .i64 a1, .int .i64 a2, .int .i64 a3, .int .i64 a4, .int .i64 a5, .int .i64 a6, .int .i64 a7] 69)
   have hO3 := hown.alloc (.cells #[.int .i64 s1, .int .i64 g1, .int .i64 K, .int .i64 a0, .int .i64 a1, .int .i64 a2, .int .i64 a3, .int .i64 a4, .int .i64 a5, .int .i64 a6, .int .i64 a7] 69)
   rw [hw3] at hO3
   have hb03 := hbel.trans (hb3.mono hsz)
   have hbz3 := (Mod.ofBelow hb3).keep hbz (by simp)
   have hk1 := kill1_any s1 g1 K a0 a1 a2 a3 a4 a5 a6 a7 s g b w3 (by rw [blk_cell hbz3]; rfl) (by rw [blk_cell hbz3]; rfl) (blk_lt hbz3)
   have hl3 : wr.heap.size < w3.heap.size := by omega
   obtain ⟨r0, r1, r2, r3, r4, r5, r6, r7, r8, r9, r10, rl⟩ := cells11 hz3
   obtain ⟨HP, Hst, Hlen, Hown, Hbel, HO3, Hb03, Hk, Hs3, Hz3, Hw3, H0, Hrow⟩ := hid13 hpc hst hlen hown hbel hO3 hb03 hk1 hs3 hz3 hw3 h0 hrow
   clear hpc hst hlen hown hbel hO3 hb03 hk1 hs3 hz3 hw3 h0 hrow
   clear hro hx hbz hbz3 hb3
   have HO := Lib.hid (rwC_one ((s1, g1), K, a0, a1, a2, a3, a4, a5, a6, a7))
   go_wp2_with (first | (refine wpList_load_flat rfl 69 (.tmp 12) rfl _ rfl [.int .i64 s1, .int .i64 g1, .int .i64 K, .int .i64 a0, .int .i64 a1, .int .i64 a2, .int .i64 a3, .int .i64 a4, .int .i64 a5, .int .i64 a6, .int .i64 a7] _ Tryz.underlying69 rfl (by kernel_rfl) HP.out ?_) | (refine wpList_store_new rfl 69 (.tmp 7) (.tmp 13) rfl wr (ints zero11) [.int .i64 s1, .int .i64 g1, .int .i64 K, .int .i64 a0, .int .i64 a1, .int .i64 a2, .int .i64 a3, .int .i64 a4, .int .i64 a5, .int .i64 a6, .int .i64 a7] 69 rfl rfl rfl (sz_Row ((s1, g1), K, a0, a1, a2, a3, a4, a5, a6, a7)) HO.out ?_; rw [show ([.int .i64 s1, .int .i64 g1, .int .i64 K, .int .i64 a0, .int .i64 a1, .int .i64 a2, .int .i64 a3, .int .i64 a4, .int .i64 a5, .int .i64 a6, .int .i64 a7] : List Value).toArray = #[.int .i64 s1, .int .i64 g1, .int .i64 K, .int .i64 a0, .int .i64 a1, .int .i64 a2, .int .i64 a3, .int .i64 a4, .int .i64 a5, .int .i64 a6, .int .i64 a7] from rfl, Hw3.out]; clear HO))
   refine Hk.out.mono ?_
   rintro e w4 ⟨rfl, hb4⟩
   have hz4 := (Mod.ofBelow hb4).keep Hz3.out (by simp)
   have hs4 := hb4.size
   have hs3 := Hs3.out
   have hO4 := row_mod HO3.out (Mod.ofBelow hb4) (by simp)
   have hb04 := Hb03.out.trans (hb4.mono Hb03.out.size)
   have hbs := Hb03.out.size
   cases hr : eqB (s1, g1) (s, g) with
   | true =>
    have hst := Hst.out
    rw [if_pos (by simpa [eqB] using hr), List.append_nil] at hst
    obtain ⟨Hst2, HO4, Hbel4, Hz4, Hs4, Hbs, Hr⟩ := hid7 hst hO4 hb04 hz4 hs4 hbs hr
    clear hst hO4 hb04 hz4 hs4 hbs hr
    clear hs3 hb4 r0 r1 r2 r3 r4 r5 r6 r7 r8 r9 r10 rl
    go_wp2
    go_roundw
    case rel => exact ⟨n + 1, by omega, by go_num, by rw [Hst2.out]; exact HO4.out, Hbel4.out⟩
    case measure => simp [Go.RowKit.intOf]; omega
   | false =>
    have hst := Hst.out
    rw [if_neg (by simpa [eqB] using hr)] at hst
    clear r0 r1 r2 r3 r4 r5 r6 r7 r8 r9 r10 rl
    obtain ⟨r0, r1, r2, r3, r4, r5, r6, r7, r8, r9, r10, rl⟩ := cells11 hz4
    obtain ⟨Hst2, Hown4, Hbel4, Hs4, Hbs, Hr⟩ := hid6 hst hO4 hb04 hs4 hbs hr
    clear hst hO4 hb04 hs4 hbs hr
    clear hb4 hz4 hs3
    go_wp2_with (at_builtin; (refine app_row rfl _ _ rfl w.heap.size _ M ((s1, g1), K, a0, a1, a2, a3, a4, a5, a6, a7) ⟨w4.heap.size, 0, none⟩ 1 rfl (Hown4.out.alloc _) rfl (new_rec (by simp) rfl) (by have := HLL.out; have := Hlen.out; omega) (by have := Hbel4.out.size; simp; omega) ?_); intro v' w5 hown5 hb5)
    go_roundw
    case rel => exact ⟨n + 1, by omega, by go_num, by rw [Hst2.out]; exact hown5, (Hbel4.out.alloc Hbel4.out.size _).trans hb5⟩
    case measure => simp [Go.RowKit.intOf]; omega
  ·obtain rfl : n = L.length := by omega
   rw [List.take_length] at hown
   obtain ⟨Hown, Hbel⟩ := hid2 hown hbel
   clear hown hbel
   clear hrow h0
   go_wp2
   go_ret
   exact ⟨_, rfl, Hown.out, Hbel.out⟩
end Go.Proofs.YtehjfmjibiafdaaGreat
namespace Go.Proofs.YtehjfmjibiafdaaGreat
open Go Go.RowKit
variable {vB : Value}
attribute [local go_sem] AllFrom.cons_eq AllFrom.nil_eq putF_nil putF_cons wantedL_none wantedL_some OpGoalT OpGoalV OpGoalQ YieldsR preF_nil preF_cons
def ZRet (vB : Value) (q : Nat) (sl : Sl) (L : List Rw) (F : List Nat) (w : World) (r : Value) (e : Ending) (w' : World) : Prop := e = .returned r ∧ ∃ F', RepZ vB w' q sl L F' ∧ Turns w F F' w'
section
variable {w w1 : World} {q : Nat} {sl : Sl} {L L' : List Rw} {F : List Nat} {v : Value}
theorem RepZ.nodup (h : RepZ vB w q sl L F) : F.Nodup := by
 obtain ⟨_, _, _, _, _, hn⟩ := h
 exact hn
theorem RepZ.turn (h : RepZ vB w q sl L F) (hb : Below w.heap.size w w1) (hown : w1.ownsRow w.heap.size 69 11 v L'.length (L'.flatMap rwC)) :
  ∃ FS, RepZS v vB (w1.setCell ⟨q, 2, none⟩ v) q sl FS ∧ (w1.setCell ⟨q, 2, none⟩ v).ownsRow w.heap.size 69 11 v L'.length (L'.flatMap rwC) ∧ (∀ k ∈ FS, k ∈ F ∧ k < w.heap.size) ∧ FS.Nodup ∧ Turns w F (FS ++ v.ownBlock.toList) (w1.setCell ⟨q, 2, none⟩ v) ∧ RepZ vB (w1.setCell ⟨q, 2, none⟩ v) q sl L' (FS ++ v.ownBlock.toList) := by
 have hlt := h.lt
 obtain ⟨vL, FS, h1, h2, rfl, h3⟩ := h
 have hq : q ∈ FS := by obtain ⟨_, _, _, _, _, rfl, _⟩ := h1; simp
 have hn : FS.Nodup := (List.nodup_append.1 h3).1
 have hFl : ∀ k ∈ FS, k < w.heap.size := fun k hk => hlt k (by simp [hk])
 have hvl : ∀ k, v.ownBlock = some k → w.heap.size ≤ k := fun k hk => (hown.lt k hk).1
 have hM : Mod [q] w1 (w1.setCell ⟨q, 2, none⟩ v) := (Mod.refl _ _).setCell (.inl (by simp)) v
 have hz := h1.turnL (vL' := v) (Mod.ofBelow hb) (by simp)
 have ho := row_mod hown hM (fun k hk e => by have := hvl k hk; have := hFl q hq; simp at e; omega)
 have hT : Turns w (FS ++ vL.ownBlock.toList) (FS ++ v.ownBlock.toList) (w1.setCell ⟨q, 2, none⟩ v) := by
  refine ⟨((Mod.ofBelow hb).mono (by simp)).setCell (.inl (by simp [hq])) v, fun k hk => ?_⟩
  rcases List.mem_append.1 hk with hk | hk
  ·exact .inl (by simp [hk])
  ·exact .inr (hvl k (by simpa using hk))
 refine ⟨FS, hz, ho, fun k hk => ⟨by simp [hk], hFl k hk⟩, hn, hT, v, FS, hz, row_base ho (by omega), rfl, ?_⟩
 rw [List.nodup_append]
 refine ⟨hn, by cases v.ownBlock <;> simp, fun a ha b hb' e => ?_⟩
 subst e
 have := hFl a ha
 have := hvl a (by simpa using hb')
 omega
theorem killLz_none {h : Hd} (hi : idxL L h = none) : killL L h = L := by
 unfold killL
 rw [List.filter_eq_self]
 intro x hx
 have := idx_none hi x hx
 simpa using this
theorem freeE_live {s g : Int} (h : liveB sl s g = true) : freeE sl s g = 0 := by unfold freeE; rw [h]; rfl
theorem killE_none {h : Hd} (hi : idxL L h = none) : killE L h = 7 := by unfold killE; rw [hi]
theorem killE_some {h : Hd} {i : Nat} (hi : idxL L h = some i) : killE L h = 0 := by unfold killE; rw [hi]
set_option maxRecDepth 20000 in
set_option maxHeartbeats 4000000 in
theorem zkill_any (h : RepZ vB w q sl L F) (hO : WOk sl L) (s g : Int) :
  Calls Tryz.prog 53 #[.pointer (some ⟨q, 0, none⟩), .agg #[.int .i64 s, .int .i64 g]] w (ZRet vB q (freeL sl s g) (killL L (s, g)) F w (.int .i64 (killE L (s, g)))) := by
 obtain ⟨w0, hw0, hb0, hz0, hs0⟩ := box1 w (.cells #[.int .i64 s, .int .i64 g] 41)
 have hl := hO.len
 have h1 := at_any (h.below hb0) hl s g
 obtain ⟨q0, q1, ql⟩ := cells2 hz0
 rcases hO.idx s g with ⟨hv, i, hi⟩ | ⟨hv, hi⟩
 ·rw [killE_some hi]
  rw [atI_some hi] at h1
  have hin : (decide ((i : Int) < 0)) = false := by simp
  have hmf : ∀ (fn : Fn) (first cap : Array Value) (w : World), (Instr.makeFunc fn first cap).run Tryz.prog w = .ok (.func fn first cap) w := fun _ _ _ _ => rfl
  obtain ⟨vg, vl, A, cap, hq, hrow⟩ := h.open_
  obtain ⟨H, H1, Hb, Hz, HS, Hq, Hrow, HO, Hv⟩ := hid9 h h1 hb0 hz0 hs0 hq hrow hO hv
  clear h h1 hb0 hz0 hs0 hq hrow hO hv
  clear hi
  go_enter Tryz.func53, Tryz.ntmps53
  go_wp2_with fail
  clear hw0
  refine H1.out.mono ?_
  rintro e w1 ⟨rfl, hb1⟩
  have hb01 : Below w.heap.size w w1 := Hb.out.trans (hb1.mono Hb.out.size)
  have hy1 := (Mod.ofBelow hb1).keep Hz.out (by simp)
  have hq1 := (Mod.ofBelow hb01).keep Hq.out (by simp)
  have c2 := blk_cell hq1 2
  simp only [List.getElem?_toArray, List.getElem?_cons_zero, List.getElem?_cons_succ] at c2
  have hql := blk_lt hq1
  have h2 := without_any (row_mod Hrow.out (Mod.ofBelow hb01) (by simp)) (by omega) s g w.heap.size hy1
  clear q0 q1 ql
  obtain ⟨q0, q1, ql⟩ := cells2 hy1
  obtain ⟨Hb1, Hy1, H2⟩ := hid3 hb01 hy1 h2
  clear hb01 hy1 h2
  clear hb1 hq1
  go_wp2_with fail
  refine H2.out.mono ?_
  rintro e w2 ⟨v, rfl, hown, hb2⟩
  obtain ⟨A2, cap2, hv2, -, -⟩ := row_slice hown
  have hb02 : Below w.heap.size w w2 := Hb1.out.trans (hb2.mono Hb1.out.size)
  obtain ⟨FS, hz, ho, hFl, hn, hT, hR⟩ := RepZ.turn H.out hb02 (row_base hown (B' := w.heap.size) (fun k hk => by have := (hown.lt k hk).1; have := Hb1.out.size; omega))
  have hq2 := (Mod.ofBelow hb02).keep Hq.out (by simp)
  have hy2 := (Mod.ofBelow hb2).keep Hy1.out (by simp)
  have hqw : q < w.heap.size := blk_lt Hq.out
  subst hv2
  obtain ⟨v, hv2⟩ : ∃ v, v = Value.slice A2 (killL L (s, g)).length cap2 := ⟨_, rfl⟩
  rw [← hv2] at hown hz ho hT hR
  obtain ⟨w3, hw3⟩ : ∃ w3, (w2.setCell ⟨q, 2, none⟩ v).drew = w3 := ⟨_, rfl⟩
  have hM : Mod [q] w2 w3 := by rw [← hw3]; exact ((Mod.refl _ _).setCell (.inl (by simp)) v).drew
  have hy3 := hM.keep hy2 (by simp; omega)
  have hB3 : Below (w2.setCell ⟨q, 2, none⟩ v).heap.size (w2.setCell ⟨q, 2, none⟩ v) w3 := by rw [← hw3]; exact below_drew
  have hz3 := hz.mod (Mod.ofBelow hB3) (by simp)
  have ho3 := row_mod ho (Mod.ofBelow hB3) (by simp)
  have hT3 := hT.below hB3
  have h3 := zfree_any q sl FS s g w3 hz3 HO.out.ok
  have c2 := blk_cell hq2 2
  simp only [List.getElem?_toArray, List.getElem?_cons_zero, List.getElem?_cons_succ] at c2
  have f2 := blk_free hq2 2
  have hql := blk_lt hq2
  clear q0 q1 ql
  have hqn : q ≠ w.heap.size := by omega
  have hnq : w.heap.size ≠ q := by omega
  obtain ⟨q0, q1, ql⟩ := cells2 hy2
  have Hown := Lib.hid hown; have Hb2 := Lib.hid hb2; have Hb02 := Lib.hid hb02; have HZ := Lib.hid hz; have Ho := Lib.hid ho; have HFl := Lib.hid hFl; have Hn := Lib.hid hn; have HT := Lib.hid hT; have HR := Lib.hid hR; have Hw3 := Lib.hid hw3; have HM := Lib.hid hM; have Hy3 := Lib.hid hy3; have HZ3 := Lib.hid hz3; have Ho3 := Lib.hid ho3; have HT3 := Lib.hid hT3; have H3 := Lib.hid h3; have Hv2 := Lib.hid hv2
  clear hown hb2 hb02 hz ho hFl hn hT hR hw3 hM hy3 hz3 ho3 hT3 h3 hv2
  clear hq2 hy2 hB3
  go_wp2_with fail
  refine wp_planR 4 [0] [some 18, some 19, some 20, some 21, some 22, some 4] [[], [0], [0, 1], [], [0, 1, 2, 3], [0, 1, 2, 3, 4]] [0, 1, 2, 3] mixed rfl (by kernel_rfl) (by decide) (by decide) rfl ?_
  iterate 4 apply Exists.intro
  refine ⟨rfl, ?_, ?_⟩
  ·simp only [List.take_succ_cons, List.take_zero, AllFrom.cons_eq, AllFrom.nil_eq, OpGoalQ]
   refine ⟨?_, ?_, ?_, ?_, trivial⟩
   all_goals (intro σ hp; (try simp only [List.getD_cons_zero, List.getD_cons_succ, List.map_cons, List.map_nil, preF_cons, preF_nil, isV, and_true] at hp); (first | (have hq : True := hp; clear hq hp) | skip))
   all_goals (go_simp; exact ⟨rfl, rfl⟩)
  intro σ hp
  simp only [List.getD_cons_zero, List.getD_cons_succ, List.map_cons, List.map_nil, preF_cons, preF_nil, isV, and_true] at hp
  simp only [List.drop_succ_cons, List.drop_zero]
  go_simp
  clear hp
  rw [← Hv2.out, Hw3.out]
  go_wp2_with fail
  refine H3.out.mono ?_
  rintro e w4 ⟨rfl, hz4, hm4⟩
  obtain ⟨HZ4, HM4⟩ := hid2 hz4 hm4
  clear hz4 hm4
  go_wp2_with fail
  refine ⟨rfl, ?_⟩
  go_wp2
  go_ret
  have hz4 := HZ4.out
  have hm4 := HM4.out
  rw [freeE_live Hv.out]
  have hvl : ∀ k, v.ownBlock = some k → w.heap.size ≤ k := fun k hk => (Ho.out.lt k hk).1
  have ho4 := row_mod Ho3.out hm4 (fun k hk e => by have := hvl k hk; have := (HFl.out k e).2; omega)
  have hT4 : Turns w3 (FS ++ v.ownBlock.toList) (FS ++ v.ownBlock.toList) w4 := ⟨hm4.mono (fun x hx => .inl (List.mem_append_left _ hx)), fun k hk => .inl hk⟩
  exact ⟨rfl, _, ⟨v, FS, hz4, row_base ho4 (fun k _ => Nat.zero_le k), rfl, HR.out.nodup⟩, HT3.out.trans hT4⟩
 ·rw [killE_none hi, killLz_none hi, freeL_dead hv]
  rw [atI_none hi] at h1
  obtain ⟨H, H1, Hb, HS⟩ := hid4 h h1 hb0 hs0
  clear h h1 hb0 hs0
  clear hz0 hi hv
  go_enter Tryz.func53, Tryz.ntmps53
  go_wp2_with fail
  clear hw0
  refine H1.out.mono ?_
  rintro e w1 ⟨rfl, hb1⟩
  have HB := Lib.hid (Hb.out.trans (hb1.mono Hb.out.size))
  clear hb1 q0 q1 ql
  go_wp2
  go_ret
  exact ⟨rfl, F, H.out.below HB.out, Turns.ofBelow HB.out⟩
end
end Go.Proofs.YtehjfmjibiafdaaGreat
