import Derived.Test.YtehjfmjibiafdaaGreatZooAllsJ0
import Derived.Test.YtehjfmjibiafdaaGreatZooAllsJ39
/- A part of the proof that the law ZooAlls returns true for every input. -/
namespace Go.Proofs.YtehjfmjibiafdaaGreat
open Go Go.RowKit
attribute [local go_sem] AllFrom.cons_eq AllFrom.nil_eq putF_nil putF_cons wantedL_none wantedL_some OpGoalT OpGoalV OpGoalQ OpGoalA OpGoalK YieldsR preF_nil preF_cons
def RowB (c : Nat) (l : List Hd) (w : World) (F : List Nat) : Prop := ∃ v, w.heap[c]? = some (.cells #[v] 55 (0, 0)) ∧ w.ownsRow 0 41 2 v l.length (l.flatMap handleC) ∧ F = c :: v.ownBlock.toList ∧ c ∉ v.ownBlock.toList
theorem own_RB (c : Nat) (l : List Hd) : Own (RowB c l) := ⟨fun ⟨v, h1, h2, h3, h4⟩ hm hd => ⟨v, hm.keep h1 (hd c (by rw [h3]; simp)), row_mod h2 hm (fun k hk => hd k (by rw [h3]; simp [hk])), h3, h4⟩, fun ⟨v, h1, h2, h3, h4⟩ y hy => by
 rw [h3] at hy
 rcases List.mem_cons.1 hy with rfl | hy
 ·exact blk_lt h1
 ·exact row_lt h2 y (by simpa using hy)⟩
theorem RowB.open_ {c : Nat} {l : List Hd} {w : World} {F : List Nat} (h : RowB c l w F) : ∃ A k, w.cell? ⟨c, 0, none⟩ = some (.slice A l.length k) ∧ c < w.heap.size ∧ w.ownsRow 0 41 2 (.slice A l.length k) l.length (l.flatMap handleC) := by
 obtain ⟨v, h1, h2, -, -⟩ := h
 obtain ⟨A, k, rfl, -, -⟩ := row_slice h2
 exact ⟨A, k, by rw [blk_cell h1]; rfl, blk_lt h1, h2⟩
theorem RowB.push {c : Nat} {l : List Hd} {y : Hd} {v v' : Value} {w w' : World} {F : List Nat} (h : RowB c l w F) (hv : w.cell? ⟨c, 0, none⟩ = some v) (hp : OwnPost (RowH (l ++ [y]) v') v.ownBlock.toList w w') : OwnPost (RowB c (l ++ [y])) F w (w'.setCell ⟨c, 0, none⟩ v') := by
 obtain ⟨v0, h1, h2, rfl, h4⟩ := h
 have hlt := blk_lt h1
 rw [blk_cell h1] at hv
 simp at hv
 subst hv
 obtain ⟨G, ⟨h5, rfl⟩, h6⟩ := hp
 have hc : c ∉ v'.ownBlock.toList := fun e => by
  rcases h6.new c e with e | e
  ·exact h4 e
  ·omega
 have h1' := h6.mod.keep h1 h4
 have hm : Mod [c] w' (w'.setCell ⟨c, 0, none⟩ v') := (Mod.refl _ _).setCell (.inl (by simp)) _
 refine ⟨c :: v'.ownBlock.toList, ⟨v', ?_, row_mod h5 hm (fun k hk e => hc (by simp at e; subst e; simpa using hk)), rfl, hc⟩, (h6.mod.mono (G := c :: v0.ownBlock.toList) (fun x hx => .inl (List.mem_cons_of_mem _ hx))).trans hm (fun x hx => .inl (by simp at hx; simp [hx])), fun k hk => ?_⟩
 ·rw [blk_set h1' 0 v']; rfl
 ·rcases List.mem_cons.1 hk with rfl | hk
  ·exact .inl (by simp)
  ·rcases h6.new k hk with e | e
   ·exact .inl (by simp [e])
   ·exact .inr e
theorem q_in {q : Nat} {sl : Sl} {L : List Rw} {B : List Bd} {w : World} {F : List Nat} (h : RepQ q sl L B w F) : q ∈ F := by
 obtain ⟨o4, FZ0, ⟨o3, FS0, ⟨o1, o2, k1, -, -, rfl, -⟩, -, rfl, -⟩, -, rfl, -⟩ := h
 simp
theorem q_move {q q2 : Nat} {sl sl2 : Sl} {L L2 : List Rw} {B B2 : List Bd} {w : World} {F F2 : List Nat} (h : RepQ q sl L B w F) (h2 : RepQ q2 sl2 L2 B2 w F2) (hd : q ∉ F2) :
  ∃ vg vl vL vB o1 o2 o3 o4, w.heap[q2]? = some (.cells #[vg, vl, vL, vB] 47 (0, 0)) ∧ w.heap[q]? = some (.cells #[o1, o2, o3, o4] 47 (0, 0)) ∧ q ∈ F ∧ (∀ u ∈ [vg, vl, vL, vB], u.oneCell' = true) ∧ ∃ F', RepQ q sl2 L2 B2 (w.setCells q 0 [vg, vl, vL, vB]) F' ∧ ∀ y ∈ F', y = q ∨ y ∈ F2 := by
 obtain ⟨o4, FZ0, ⟨o3, FS0, ⟨o1, o2, k1, -, -, rfl, -⟩, -, rfl, -⟩, -, rfl, -⟩ := h
 obtain ⟨vB, FZ, ⟨vL, FS, ⟨vg, vl, g1, g2, g3, rfl, n1⟩, g4, rfl, n2⟩, g5, rfl, n3⟩ := h2
 have hm := mod_setCells (F := [q]) (g := q) (.inl (by simp)) [vg, vl, vL, vB] 0 w (Mod.refl _ w)
 have hz := setCells_block (w := w) [vg, vl, vL, vB] 0 w [o1, o2, o3, o4] k1
 have hdn : ∀ {v : Value}, (∀ k, v.ownBlock = some k → k ≠ q) → ∀ k, v.ownBlock = some k → k ∉ [q] := fun h k hk e => h k hk (by simpa using e)
 have d1 : ∀ k, vg.ownBlock = some k → k ≠ q := fun k hk e => hd (by subst e; simp [hk])
 have d2 : ∀ k, vl.ownBlock = some k → k ≠ q := fun k hk e => hd (by subst e; simp [hk])
 have d3 : ∀ k, vL.ownBlock = some k → k ≠ q := fun k hk e => hd (by subst e; simp [hk])
 have d4 : ∀ k, vB.ownBlock = some k → k ≠ q := fun k hk e => hd (by subst e; simp [hk])
 obtain ⟨n1a, n1b⟩ := List.nodup_cons.1 n1
 rw [List.cons_append] at n2
 obtain ⟨n2a, n2b⟩ := List.nodup_cons.1 n2
 obtain ⟨A1, c1, rfl, -, -⟩ := row_slice g2
 obtain ⟨A2, c2, rfl, -, -⟩ := row_slice g3
 obtain ⟨A3, c3, rfl, -, -⟩ := row_slice g4
 obtain ⟨A4, c4, rfl, -, -⟩ := row_slice g5
 refine ⟨_, _, _, _, o1, o2, o3, o4, g1, k1, by simp, fun u hu => ?_, ((q :: ((Value.slice A1 sl2.length c1).ownBlock.toList ++ (Value.slice A2 sl2.length c2).ownBlock.toList)) ++ (Value.slice A3 L2.length c3).ownBlock.toList) ++ (Value.slice A4 B2.length c4).ownBlock.toList, ⟨_, _, ⟨_, _, ⟨_, _, hz, row_mod g2 hm (hdn d1), row_mod g3 hm (hdn d2), rfl, ?_⟩, row_mod g4 hm (hdn d3), rfl, ?_⟩, row_mod g5 hm (hdn d4), rfl, ?_⟩, fun y hy => ?_⟩
 ·simp only [List.mem_cons, List.not_mem_nil, or_false] at hu
  rcases hu with rfl | rfl | rfl | rfl <;> rfl
 ·refine List.nodup_cons.2 ⟨fun e => ?_, n1b⟩
  rcases List.mem_append.1 e with e | e
  ·exact d1 q (by simpa using e) rfl
  ·exact d2 q (by simpa using e) rfl
 ·rw [List.cons_append]
  refine List.nodup_cons.2 ⟨fun e => ?_, n2b⟩
  rcases List.mem_append.1 e with e | e
  ·rcases List.mem_append.1 e with e | e
   ·exact d1 q (by simpa using e) rfl
   ·exact d2 q (by simpa using e) rfl
  ·exact d3 q (by simpa using e) rfl
 ·intro y hy e
  rw [List.cons_append] at hy
  rcases List.mem_cons.1 hy with rfl | hy
  ·exact d4 y (by simpa using e) rfl
  ·exact n3 y (by rw [List.cons_append]; exact List.mem_cons_of_mem _ hy) e
 ·rw [List.cons_append, List.cons_append] at hy
  rcases List.mem_cons.1 hy with e | e
  ·exact .inl e
  ·exact .inr (by rw [List.cons_append, List.cons_append]; exact List.mem_cons_of_mem _ e)
def AllPQ (q : Nat) (sl : Sl) (L : List Rw) (B : List Bd) (s1 : Sl) (L1 : List Rw) (B1 : List Bd) (F : List Nat) (n e : Int) (w : World) (x : Ending) (w' : World) : Prop :=
 x = .returned (.tuple #[.int .i64 n, .int .i64 e]) ∧ (e = 0 → OwnPost (RepQ q s1 L1 B1) F w w') ∧ (e ≠ 0 → OwnPost (RepQ q sl L B) F w w')
section
variable {q : Nat} {sl : Sl} {L : List Rw} {B : List Bd} {w : World} {F : List Nat}
set_option maxRecDepth 20000 in
set_option maxHeartbeats 1000000 in
theorem qall_long (h : RepQ q sl L B w F) (A : Option Addr) (c : Nat) (l : List Ov) (hl : 80 < l.length) (hl2 : l.length ≤ 9223372036854775807) :
  Calls Tryz.prog 27 #[.pointer (some ⟨q, 0, none⟩), .slice A l.length c] w (AllPQ q sl L B sl L B F 0 2 w) := by
 have hfin : AllPQ q sl L B sl L B F 0 2 w (.returned (.tuple #[.int .i64 0, .int .i64 2])) w := ⟨rfl, fun e => (by cases e), fun _ => OwnPost.ofBelow (own_Q _ _ _ _) h (Below.refl _ _)⟩
 have hlt : (80 : Int) < (l.length : Int) := by omega
 have Hfin := Lib.hid hfin
 clear hfin
 clear h
 go_enter Tryz.func27, Tryz.ntmps27
 go_wp2
 refine bodyPost_ret (v := .tuple #[.int .i64 0, .int .i64 2]) (by unfold results; try go_simp) rfl Hfin.out
set_option maxRecDepth 100000 in
set_option maxHeartbeats 16000000 in
theorem qall_run (h : RepQ q sl L B w F) (hO : ZOk sl L B) (A : Option Addr) (c : Nat) (l : List Ov) (hl : l.length ≤ 80) (hA : Lies w w.heap.size A (l.flatMap opC)) {n e : Int} {s1' : Sl} {L1 : List Rw} {B1 : List Bd} (hall : AllAt sl L B [] 0 l n e s1' L1 B1) :
    Calls Tryz.prog 27 #[.pointer (some ⟨q, 0, none⟩), .slice A l.length c] w (AllPQ q sl L B s1' L1 B1 F n e w) := by
  have H1 := Lib.hid (qown_any h hO)
  have hlF := h.lt
  have hmf : ∀ (fn : Fn) (first cap : Array Value) (w : World), (Instr.makeFunc fn first cap).run Tryz.prog w = .ok (.func fn first cap) w := fun _ _ _ _ => rfl
  obtain ⟨HA, Hall, HV, HlF⟩ := hid4 hA hall h hlF
  clear hA hall h hlF
  clear hO
  go_enter Tryz.func27, Tryz.ntmps27
  go_wp2_with fail
  refine H1.out.mono ?_
  rintro x1 w1 ⟨q2, F2, rfl, hQ2, hF2, hb1⟩
  obtain ⟨w2, hw2, hb2, hz2, hs2⟩ := box1 w1 (.cells #[.slice none 0 0] 55)
  have hb02 := hb1.trans (hb2.mono hb1.size)
  have hl2 := hQ2.lt
  have hs1 := hb1.size
  have hS2 : Sep w.heap.size [] (RepQ q2 sl L B) (RowB w1.heap.size []) w2 := ⟨F2, [w1.heap.size], ⟨hQ2.below hb2, ⟨.slice none 0 0, hz2, ⟨rfl, .inl ⟨rfl, rfl⟩⟩, rfl, by simp [Value.ownBlock]⟩, fun y hy e => by have := hl2 y hy; simp at e; omega, fun y hy => ⟨hF2 y hy, by simp⟩, fun y hy => by simp at hy; subst hy; exact ⟨hs1, by simp⟩, hb02.size, by simp⟩⟩
  obtain ⟨HS2, Hb02⟩ := hid2 hS2 hb02
  clear hS2 hb02
  clear hb2 hQ2 hF2 H1 hb1 hz2 hs2 hl2 hs1
  go_wp2_with fail
  clear hw2
  generalize hc0 : w1.heap.size = bx at *
  go_loopw [23] (fun i wr => ∃ (k : Nat) (sl2 : Sl) (L2 : List Rw) (B2 : List Bd) (sp : List Hd), k ≤ l.length ∧ sp.length ≤ k ∧ i = .int .i64 k ∧ AllAt sl2 L2 B2 sp k (l.drop k) n e s1' L1 B1 ∧ Sep w.heap.size [] (RepQ q2 sl2 L2 B2) (RowB bx sp) wr ∧ Below w.heap.size w wr) (fun i _ => l.length - (Go.RowKit.intOf i).toNat)
  case atStart => exact ⟨0, sl, L, B, [], by omega, by simp, rfl, Hall.out, HS2.out, Hb02.out⟩
  case round =>
    obtain ⟨k, sl2, L2, B2, sp, hk, hsp, rfl, hat, hS, hB⟩ := hrel
    have hsz := hB.size
    by_cases hlt : k < l.length
    · obtain ⟨ab, ao, rfl, hal, hc⟩ := HA.out.rec_at opC_len (by omega) hlt
      have hq : ∀ j u, (opC l[k])[j]? = some u → wr.cell? ((⟨ab, ao + k * 16, none⟩ : Addr).add j) = some u := fun j u hu => (hB.cell (p := (⟨ab, ao + k * 16, none⟩ : Addr).add j) (by rw [add_block]; exact hal)).trans (by first | exact hc j u hu | (have := hc j u hu; rw [Addr.add_mid]; exact this))
      have hki : (k : Int) < (l.length : Int) := by omega
      rw [List.drop_eq_getElem_cons hlt] at hat
      generalize l[k] = x at *
      obtain ⟨d, ⟨K, a0, a1, a2, a3, a4, a5, a6, a7⟩, ⟨s, g⟩, ⟨ts, tg⟩, kd, m⟩ := x
      obtain ⟨w3, hw3, hb3, hk3, hs3⟩ := box1 wr (.cells #[.int .i64 d, .int .i64 K, .int .i64 a0, .int .i64 a1, .int .i64 a2, .int .i64 a3, .int .i64 a4, .int .i64 a5, .int .i64 a6, .int .i64 a7, .int .i64 s, .int .i64 g, .int .i64 ts, .int .i64 tg, .int .i64 kd, .int .i64 m] 52)
      have hS3 := Sep.fresh (own_Q _ _ _ _) (own_RB _ _) hS hb3 wr.heap.size (Nat.le_refl _) (by omega)
      have hB3 := hB.trans (hb3.mono hB.size)
      obtain ⟨A8, c8, hcc8, hcl8, hrow8⟩ : ∃ A8 c8, w3.cell? ⟨bx, 0, none⟩ = some (.slice A8 sp.length c8) ∧ bx < w3.heap.size ∧ w3.ownsRow 0 41 2 (.slice A8 sp.length c8) sp.length (sp.flatMap handleC) := by obtain ⟨F8, G8, h8⟩ := hS3; exact h8.b.open_
      have hM1 := meant_any hcc8 hcl8 hrow8 (by omega) s g (lkA d)
      have hM2 := fun (V : World) (A8 : Option Addr) (c8 : Nat) (h1 : V.cell? ⟨bx, 0, none⟩ = some (.slice A8 sp.length c8)) (h2 : bx < V.heap.size) (h3 : V.ownsRow 0 41 2 (.slice A8 sp.length c8) sp.length (sp.flatMap handleC)) => meant_any h1 h2 h3 (by omega) ts tg (lkT d)
      have hmO : ∀ q1 q2, meanH sp (s, g) (lkA d) = q1 → meanH sp (ts, tg) (lkT d) = q2 → meanO sp (d, (K, a0, a1, a2, a3, a4, a5, a6, a7), (s, g), (ts, tg), kd, m) = (d, (K, a0, a1, a2, a3, a4, a5, a6, a7), q1.1, q2.1, kd, m) ∧ meanOk sp (d, (K, a0, a1, a2, a3, a4, a5, a6, a7), (s, g), (ts, tg), kd, m) = (q1.2 && q2.2) := by rintro _ _ rfl rfl; exact ⟨rfl, rfl⟩
      unfold MeanP at hM1 hM2
      obtain ⟨q1, hq1⟩ : ∃ q1, meanH sp (s, g) (lkA d) = q1 := ⟨_, rfl⟩
      obtain ⟨q3, hq3⟩ : ∃ q3, meanH sp (ts, tg) (lkT d) = q3 := ⟨_, rfl⟩
      obtain ⟨hmO, hmK⟩ := hmO _ _ hq1 hq3
      rw [hq1] at hM1
      rw [hq3] at hM2
      rw [AllAt, hmO, hmK] at hat
      obtain ⟨⟨s1, g1⟩, o1⟩ := q1
      obtain ⟨⟨t1, u1⟩, o2⟩ := q3
      simp only [hdV] at hM1 hM2
      simp only at hat
      have hcases : (¬ (2 : Int) ≤ d ∧ lkA d = false) ∨ ((2 : Int) ≤ d ∧ ¬ d ≤ 6 ∧ lkA d = false) ∨ ((2 : Int) ≤ d ∧ d ≤ 6 ∧ lkA d = true) := by
        unfold lkA
        by_cases h1 : (2 : Int) ≤ d
        · by_cases h2 : d ≤ 6
          · exact .inr (.inr ⟨h1, h2, by simp [h1, h2]⟩)
          · exact .inr (.inl ⟨h1, h2, by simp [h2]⟩)
        · exact .inl ⟨h1, by simp [h1]⟩
      have hlT : lkT d = (d == 5) := by unfold lkT; rw [Bool.eq_iff_iff]; simp
      rw [hlT] at hM2
      generalize ho : wr.heap.size = o at *
      obtain ⟨c0, c1, c2, c3, c4, c5, c6, c7, c8, c9, c10, c11, c12, c13, c14, c15, cl⟩ := cells16 hk3
      obtain ⟨HM1, HM2⟩ := hid2 hM1 hM2
      obtain ⟨HQ, Hat, HS3, HB3, Hk3, Hw3, Hs3, HLo, Hlt, Ho⟩ := hid10 hq hat hS3 hB3 hk3 hw3 hs3 hsz hlt ho
      clear hq hat hS3 hB3 hk3 hw3 hs3 hsz hlt ho
      clear hc hS hB hb3 hal hmO hmK hq1 hq3 hM1 hM2 hlT hcc8 hrow8
      rcases hcases with ⟨hd2, hlA⟩ | ⟨hd2, hd6, hlA⟩ | ⟨hd2, hd6, hlA⟩
      all_goals as_aux_lemma => (
        have hM1 := HM1.out
        have hM2 := HM2.out
        rw [hlA] at hM1
        obtain ⟨HM1', HM2'⟩ := hid2 hM1 hM2
        clear hM1 hM2
        clear HM1 HM2 hlA
        go_wp2_with (first | (refine wpList_load_flat rfl 52 (.tmp 26) rfl _ rfl (opC (d, (K, a0, a1, a2, a3, a4, a5, a6, a7), (s, g), (ts, tg), kd, m)) _ Tryz.underlying52 rfl (sz_Op _) HQ.out ?_) | (refine wpList_store_new rfl 52 (.tmp 10) (.tmp 27) rfl wr (ints [0, 0, 0, 0, 0, 0, 0, 0, 0, 0, 0, 0, 0, 0, 0, 0]) (opC (d, (K, a0, a1, a2, a3, a4, a5, a6, a7), (s, g), (ts, tg), kd, m)) 52 rfl rfl rfl (sz_Op _) (opC_one _) ?_; rw [show (opC (d, (K, a0, a1, a2, a3, a4, a5, a6, a7), (s, g), (ts, tg), kd, m)).toArray = #[.int .i64 d, .int .i64 K, .int .i64 a0, .int .i64 a1, .int .i64 a2, .int .i64 a3, .int .i64 a4, .int .i64 a5, .int .i64 a6, .int .i64 a7, .int .i64 s, .int .i64 g, .int .i64 ts, .int .i64 tg, .int .i64 kd, .int .i64 m] from rfl, Hw3.out]; simp only [Ho.out]) | fail)
        refine HM1'.out.mono ?_
        rintro x4 w4 ⟨rfl, hb4⟩
        clear c0 c1 c2 c3 c4 c5 c6 c7 c8 c9 c10 c11 c12 c13 c14 c15 cl
        have hk4 := (Mod.ofBelow hb4).keep Hk3.out (by simp)
        have hS4 := Sep.below (own_Q _ _ _ _) (own_RB _ _) HS3.out hb4
        have hB4 := HB3.out.trans hS4.2.1
        have hS4 := hS4.1
        have hth : w4.there o 10 2 := fun j hj => ⟨by
          have h := blk_cell hk4 (10 + j)
          have : j = 0 ∨ j = 1 := by omega
          rcases this with rfl | rfl
          · rw [h]; rfl
          · rw [h]; rfl, blk_free hk4 _⟩
        have hmod := mod_setCells (F := [o]) (g := o) (.inl (by simp)) [.int .i64 s1, .int .i64 g1] 10 w4 (Mod.refl _ w4)
        have hbx : (w4.setCells o 10 [.int .i64 s1, .int .i64 g1]).heap[o]? = some (.cells #[.int .i64 d, .int .i64 K, .int .i64 a0, .int .i64 a1, .int .i64 a2, .int .i64 a3, .int .i64 a4, .int .i64 a5, .int .i64 a6, .int .i64 a7, .int .i64 s1, .int .i64 g1, .int .i64 ts, .int .i64 tg, .int .i64 kd, .int .i64 m] 52 (0, 0)) := setCells_block (w := w4) [.int .i64 s1, .int .i64 g1] 10 w4 [.int .i64 d, .int .i64 K, .int .i64 a0, .int .i64 a1, .int .i64 a2, .int .i64 a3, .int .i64 a4, .int .i64 a5, .int .i64 a6, .int .i64 a7, .int .i64 s, .int .i64 g, .int .i64 ts, .int .i64 tg, .int .i64 kd, .int .i64 m] hk4
        obtain ⟨W5, hW5⟩ : ∃ V, w4.setCells o 10 [.int .i64 s1, .int .i64 g1] = V := ⟨_, rfl⟩
        rw [hW5] at hmod hbx
        have hSn := Sep.modZ (own_Q _ _ _ _) (own_RB _ _) hS4 hmod (by simp)
        have hBn : Below w.heap.size w W5 := hB4.trans (hmod.toBelow (fun y hy => by simp at hy; subst hy; exact HLo.out) hB4.size)
        obtain ⟨A9, c9, hcc9, hcl9, hrow9⟩ : ∃ A8 c8, W5.cell? ⟨bx, 0, none⟩ = some (.slice A8 sp.length c8) ∧ bx < W5.heap.size ∧ W5.ownsRow 0 41 2 (.slice A8 sp.length c8) sp.length (sp.flatMap handleC) := by obtain ⟨F8, G8, h8⟩ := hSn; exact h8.b.open_
        have HM3 := Lib.hid (HM2'.out W5 A9 c9 hcc9 hcl9 hrow9)
        obtain ⟨c0, c1, c2, c3, c4, c5, c6, c7, c8, c9, c10, c11, c12, c13, c14, c15, cl⟩ := cells16 hk4
        have Hcl9 := Lib.hid hcl9
        obtain ⟨Hth, Hbx5, HS5, HB5, HW5⟩ := hid5 hth hbx hSn hBn hW5
        clear hth hbx hSn hBn hW5
        clear hmod hS4 hB4 hb4 hk4 hrow9 HM2' hcc9
        go_wp2_with (first | (refine wpList_store_at rfl 41 (.tmp 43) (.tmp 41) rfl o 10 [.int .i64 s1, .int .i64 g1] rfl rfl Hth.out (by kernel_rfl) (ints_one [s1, g1]) ?_; rw [HW5.out]; clear c0 c1 c2 c3 c4 c5 c6 c7 c8 c9 c10 c11 c12 c13 c14 c15 cl; have h5 := Hbx5.out; have c0 := blk_cell h5 0; have c12 := blk_cell h5 12; have c13 := blk_cell h5 13; simp only [List.getElem?_toArray, List.getElem?_cons_zero, List.getElem?_cons_succ] at c0 c12 c13; have cl := blk_lt h5; clear h5) | fail)
        refine HM3.out.mono ?_
        rintro x6 w6 ⟨rfl, hb6⟩
        clear c0 c12 c13 cl Hth
        have hk6 := (Mod.ofBelow hb6).keep Hbx5.out (by simp)
        have hS6 := Sep.below (own_Q _ _ _ _) (own_RB _ _) HS5.out hb6
        have hB6 := HB5.out.trans hS6.2.1
        have hS6 := hS6.1
        have hth : w6.there o 12 2 := fun j hj => ⟨by
          have h := blk_cell hk6 (12 + j)
          have : j = 0 ∨ j = 1 := by omega
          rcases this with rfl | rfl
          · rw [h]; rfl
          · rw [h]; rfl, blk_free hk6 _⟩
        have hmod := mod_setCells (F := [o]) (g := o) (.inl (by simp)) [.int .i64 t1, .int .i64 u1] 12 w6 (Mod.refl _ w6)
        have hbx : (w6.setCells o 12 [.int .i64 t1, .int .i64 u1]).heap[o]? = some (.cells #[.int .i64 d, .int .i64 K, .int .i64 a0, .int .i64 a1, .int .i64 a2, .int .i64 a3, .int .i64 a4, .int .i64 a5, .int .i64 a6, .int .i64 a7, .int .i64 s1, .int .i64 g1, .int .i64 t1, .int .i64 u1, .int .i64 kd, .int .i64 m] 52 (0, 0)) := setCells_block (w := w6) [.int .i64 t1, .int .i64 u1] 12 w6 [.int .i64 d, .int .i64 K, .int .i64 a0, .int .i64 a1, .int .i64 a2, .int .i64 a3, .int .i64 a4, .int .i64 a5, .int .i64 a6, .int .i64 a7, .int .i64 s1, .int .i64 g1, .int .i64 ts, .int .i64 tg, .int .i64 kd, .int .i64 m] hk6
        obtain ⟨W7, hW7⟩ : ∃ V, w6.setCells o 12 [.int .i64 t1, .int .i64 u1] = V := ⟨_, rfl⟩
        rw [hW7] at hmod hbx
        have hSn := Sep.modZ (own_Q _ _ _ _) (own_RB _ _) hS6 hmod (by simp)
        have hBn : Below w.heap.size w W7 := hB6.trans (hmod.toBelow (fun y hy => by simp at hy; subst hy; exact HLo.out) hB6.size)
        have cl := blk_lt hk6
        obtain ⟨Hth, Hbx7, HS7, HB7, HW7⟩ := hid5 hth hbx hSn hBn hW7
        clear hth hbx hSn hBn hW7
        clear hmod hS6 hB6 hb6 hk6 HM3 HS5 HB5 HS3 HB3 HM1' Hbx5 HW5 Hk3 Hw3 Hs3 HQ
        cases o1 with
        | false =>
            have hfin : AllPQ q sl L B s1' L1 B1 F n e w (.returned (.tuple #[.int .i64 k, .int .i64 5])) W7 := by
              rcases Hat.out with ⟨-, rfl, rfl⟩ | ⟨h, -⟩
              · exact ⟨rfl, fun e => (by cases e), fun _ => OwnPost.ofBelow (own_Q _ _ _ _) HV.out HB7.out⟩
              · simp at h
            have Hfin := Lib.hid hfin
            clear hfin
            clear Hat HS7 HB7
            go_wp2_with (first | (refine wpList_store_at rfl 41 (.tmp 54) (.tmp 52) rfl o 12 [.int .i64 t1, .int .i64 u1] rfl rfl Hth.out (by kernel_rfl) (ints_one [t1, u1]) ?_; rw [HW7.out]; clear cl) | fail)
            refine bodyPost_ret (v := .tuple #[.int .i64 k, .int .i64 5]) (by unfold results; try go_simp) rfl Hfin.out
        | true =>
          cases o2 with
          | false =>
            have hfin : AllPQ q sl L B s1' L1 B1 F n e w (.returned (.tuple #[.int .i64 k, .int .i64 5])) W7 := by
              rcases Hat.out with ⟨-, rfl, rfl⟩ | ⟨h, -⟩
              · exact ⟨rfl, fun e => (by cases e), fun _ => OwnPost.ofBelow (own_Q _ _ _ _) HV.out HB7.out⟩
              · simp at h
            have Hfin := Lib.hid hfin
            clear hfin
            clear Hat HS7 HB7
            go_wp2_with (first | (refine wpList_store_at rfl 41 (.tmp 54) (.tmp 52) rfl o 12 [.int .i64 t1, .int .i64 u1] rfl rfl Hth.out (by kernel_rfl) (ints_one [t1, u1]) ?_; rw [HW7.out]; clear cl) | fail)
            refine bodyPost_ret (v := .tuple #[.int .i64 k, .int .i64 5]) (by unfold results; try go_simp) rfl Hfin.out
          | true =>
            rcases Hat.out with ⟨h, -⟩ | ⟨-, sl3, L3, B3, h3, e1, hD, hcase⟩
            · cases h
            obtain ⟨r0, r1⟩ := h3
            have H5 := Lib.hid (Sep.callL (own_Q _ _ _ _) (own_RB _ _) HS7.out (fun _ hF => hD.at_.q hF))
            have hpl : DoO sl2 L2 B2 (d, (K, a0, a1, a2, a3, a4, a5, a6, a7), (s1, g1), (t1, u1), kd, m) sl3 L3 B3 (r0, r1) e1 := hD
            obtain ⟨Hcase, Hpl⟩ := hid2 hcase hpl
            clear hcase hpl
            clear hD Hat
            go_wp2_with (first | (refine wpList_store_at rfl 41 (.tmp 54) (.tmp 52) rfl o 12 [.int .i64 t1, .int .i64 u1] rfl rfl Hth.out (by kernel_rfl) (ints_one [t1, u1]) ?_; rw [HW7.out]; have h7 := Hbx7.out; clear cl; have c0 := blk_cell h7 0; have c1 := blk_cell h7 1; have c2 := blk_cell h7 2; have c3 := blk_cell h7 3; have c4 := blk_cell h7 4; have c5 := blk_cell h7 5; have c6 := blk_cell h7 6; have c7 := blk_cell h7 7; have c8 := blk_cell h7 8; have c9 := blk_cell h7 9; have c10 := blk_cell h7 10; have c11 := blk_cell h7 11; have c12 := blk_cell h7 12; have c13 := blk_cell h7 13; have c14 := blk_cell h7 14; have c15 := blk_cell h7 15; simp only [List.getElem?_toArray, List.getElem?_cons_zero, List.getElem?_cons_succ] at c0 c1 c2 c3 c4 c5 c6 c7 c8 c9 c10 c11 c12 c13 c14 c15; have cl := blk_lt h7; clear h7) | fail)
            clear c0 c1 c2 c3 c4 c5 c6 c7 c8 c9 c10 c11 c12 c13 c14 c15 cl
            refine H5.out.mono ?_
            rintro x8 w8 ⟨rfl, h8, hb8, hk8⟩
            obtain ⟨w9, hw9, hb9, hz9, hs9⟩ := box1 w8 (.cells #[.int .i64 r0, .int .i64 r1] 41)
            have hS9 := Sep.below (own_Q _ _ _ _) (own_RB _ _) h8 hb9
            have hB9 := HB7.out.trans (hb8.trans hS9.2.1)
            have hS9 := hS9.1
            have hbox9 := (Mod.ofBelow hb9).keep (hk8 _ (by simp) _ Hbx7.out) (by simp)
            obtain ⟨c0, c1, c2, c3, c4, c5, c6, c7, c8, c9, c10, c11, c12, c13, c14, c15, cl⟩ := cells16 hbox9
            obtain ⟨y0, y1, yl⟩ := cells2 hz9
            clear hs9
            by_cases he1 : e1 = 0
            · subst he1
              have hrest : AllAt sl3 L3 B3 (spawnP sp d (r0, r1)) ((k + 1 : Nat) : Int) (l.drop (k + 1)) n e s1' L1 B1 := by
                rcases Hcase.out with h | h
                · exact absurd rfl h.1
                · have := h.2; rwa [show ((k + 1 : Nat) : Int) = (k : Int) + 1 by omega]
              obtain ⟨Hrest, HS9, HB9, Hbox9, Hz9⟩ := hid5 hrest hS9 hB9 hbox9 hz9
              clear hrest hS9 hB9 hbox9 hz9
              clear h8 hb8 hk8 hb9 Hcase
              have hlt := Hlt.out
              by_cases hd1 : d = 1
              · first
                | (exfalso; omega)
                | (subst hd1
                   obtain ⟨w10, hw10, hb10, hz10, hs10⟩ := box1 w9 (.cells #[.int .i64 r0, .int .i64 r1] 41)
                   have hS10 := Sep.below (own_Q _ _ _ _) (own_RB _ _) HS9.out hb10
                   have hB10 := HB9.out.trans hS10.2.1
                   obtain ⟨F10, G10, hS10⟩ := hS10.1
                   obtain ⟨v10, hr1, hr2, hr3, hr4⟩ := hS10.b
                   obtain ⟨A10, k10, rfl, -, -⟩ := row_slice hr2
                   have hnr : ∀ j u, (handleC (r0, r1))[j]? = some u → w10.cell? ((⟨w9.heap.size, 0, none⟩ : Addr).add j) = some u := by rw [← hw10]; exact new_rec rfl rfl
                   have t0 : w9.cell? ⟨bx, 0, none⟩ = some (.slice A10 sp.length k10) := by
                     obtain ⟨F9, G9, h9⟩ := HS9.out
                     obtain ⟨v9, j1, -, -, -⟩ := h9.b
                     have j2 := (Mod.ofBelow hb10).keep j1 (by simp)
                     rw [hr1] at j2
                     simp at j2
                     rw [blk_cell j1, j2]; rfl
                   have tl : bx < w9.heap.size := by
                     obtain ⟨F9, G9, h9⟩ := HS9.out
                     obtain ⟨v9, j1, -, -, -⟩ := h9.b
                     exact blk_lt j1
                   obtain ⟨HB10, HS10, Hr1, Hr2, Hr4, Hnr, Hw10⟩ := hid7 hB10 hS10 hr1 hr2 hr4 hnr hw10
                   clear hB10 hS10 hr1 hr2 hr4 hnr hw10
                   clear hb10 hz10 hs10 hr3
                   go_wp2_with (first | (at_builtin; go_loud (rw [Hw10.out]; refine app_handleT rfl _ _ rfl _ sp (r0, r1) ⟨w9.heap.size, 0, none⟩ 1 rfl Hr2.out rfl Hnr.out (by omega) ?_; intro v11 w11 h11; obtain ⟨A11, k11, rfl, -, -⟩ : ∃ A11 k11, v11 = .slice A11 (sp ++ [(r0, r1)]).length k11 ∧ (sp ++ [(r0, r1)]).length ≤ k11 ∧ k11 ≤ maxLen := (by obtain ⟨G9, h9', -⟩ := h11; exact row_slice h9'.1); have hcb := h11.mod.keep Hr1.out Hr4.out; have u0 := blk_cell hcb 0; have uf := blk_free hcb 0; have ul := blk_lt hcb; simp only [List.getElem?_toArray, List.getElem?_cons_zero] at u0; clear c0 c1 c2 c3 c4 c5 c6 c7 c8 c9 c10 c11 c12 c13 c14 c15 cl y0 y1 yl t0 tl hcb)) | fail)
                   have hS12 := HS10.out.right (own_Q _ _ _ _) (own_RB _ _) (RowB.push HS10.out.b (by rw [blk_cell Hr1.out]; rfl) h11)
                   have hB12 := HB10.out.trans hS12.2.1
                   have hS12 := Sep.drop (Y := []) hS12.1 (by simp)
                   obtain ⟨HS12, HB12⟩ := hid2 hS12 hB12
                   clear hS12 hB12
                   clear h11 u0 uf ul
                   go_roundw
                   case rel => exact ⟨k + 1, sl3, L3, B3, sp ++ [(r0, r1)], by omega, by simp; omega, by go_num, Hrest.out, by simpa using HS12.out, by simpa using HB12.out⟩
                   case measure => simp [Go.RowKit.intOf]; omega)
              · have hd1b : (d == 1) = false := by simp [hd1]
                have hsp2 : spawnP sp d (r0, r1) = sp := if_neg hd1
                have Hsp2 := Lib.hid hsp2
                clear hsp2
                go_wp2
                go_roundw
                case rel => exact ⟨k + 1, sl3, L3, B3, sp, by omega, by omega, by go_num, by rw [← Hsp2.out]; exact Hrest.out, Sep.drop (Y := []) HS9.out (by simp), HB9.out⟩
                case measure => simp [Go.RowKit.intOf]; omega
            · have hne : (e1 != 0) = true := by simpa using he1
              have hfin : AllPQ q sl L B s1' L1 B1 F n e w (.returned (.tuple #[.int .i64 k, .int .i64 e1])) w9 := by
                rcases Hcase.out with ⟨-, rfl, rfl⟩ | ⟨h, -⟩
                · exact ⟨rfl, fun h => absurd h he1, fun _ => OwnPost.ofBelow (own_Q _ _ _ _) HV.out hB9⟩
                · exact absurd h he1
              have Hfin := Lib.hid hfin
              clear hfin
              clear hS9 hB9 hbox9 h8 hb8 hk8 hb9 Hcase hz9 he1
              go_wp2
              refine bodyPost_ret (v := .tuple #[.int .i64 k, .int .i64 e1]) (by unfold results; try go_simp) rfl Hfin.out)
    · obtain rfl : k = l.length := by omega
      rw [List.drop_length] at hat
      obtain ⟨rfl, rfl, rfl, rfl, rfl⟩ := hat
      obtain ⟨F8, G8, hS8⟩ := hS
      have hVz := HV.out.below hB
      have hzF : q ∉ F8 := fun hm => by
        have hin := q_in HV.out
        have h1 := (hS8.af q hm).1
        have h2 := HlF.out q hin
        omega
      obtain ⟨vg, vl, vL, vB, o1, o2, o3, o4, hblk2, hblk, hzin, hone, F9, hV9, hF9⟩ := q_move hVz hS8.a hzF
      have hmod := mod_setCells (F := [q]) (g := q) (.inl (by simp)) [vg, vl, vL, vB] 0 wr (Mod.refl _ wr)
      obtain ⟨W9, hW9⟩ : ∃ W9, wr.setCells q 0 [vg, vl, vL, vB] = W9 := ⟨_, rfl⟩
      rw [hW9] at hV9 hmod
      have hfin : AllPQ q sl L B s1' L1 B1 F ((l.length : Nat) : Int) 0 w (.returned (.tuple #[.int .i64 ((l.length : Nat) : Int), .int .i64 0])) W9 := by
        refine ⟨rfl, fun _ => ⟨F9, hV9, ((Mod.ofBelow hB).mono (G := F) (by simp)).trans hmod (fun x hx => by simp at hx; subst hx; exact .inl hzin), fun y hy => ?_⟩, fun h => absurd rfl h⟩
        rcases hF9 y hy with e | e
        · exact .inl (e ▸ hzin)
        · exact .inr (hS8.af y e).1
      have hth : wr.there q 0 4 := blk_there (xs := [o1, o2, o3, o4]) hblk (Nat.le_refl _)
      have hld : ∀ j u, ([vg, vl, vL, vB] : List Value)[j]? = some u → wr.cell? ((⟨q2, 0, none⟩ : Addr).add j) = some u := fun j u hu => by
        have e : (⟨q2, 0, none⟩ : Addr).add j = ⟨q2, j, none⟩ := by unfold Addr.add; split <;> simp_all
        rw [e, blk_cell hblk2]
        simpa using hu
      obtain ⟨Hfin, Hth, Hld, Hone, HW9⟩ := hid5 hfin hth hld hone hW9
      clear hfin hth hld hone hW9
      clear hS8 hVz hV9 hF9 hmod hB hzF hzin hlt hblk hblk2
      go_wp2_with (first | (refine wpList_load_flat rfl 47 (.tmp 82) rfl _ rfl [vg, vl, vL, vB] _ Tryz.underlying47 rfl (by kernel_rfl) Hld.out ?_) | (refine wpList_store_at rfl 47 (.tmp 84) (.tmp 83) rfl q 0 [vg, vl, vL, vB] rfl rfl Hth.out (by kernel_rfl) Hone.out ?_; rw [HW9.out]) | fail)
      refine bodyPost_ret (v := .tuple #[.int .i64 ((l.length : Nat) : Int), .int .i64 0]) (by unfold results; try go_simp) rfl Hfin.out
end
end Go.Proofs.YtehjfmjibiafdaaGreat
namespace Go.Proofs.YtehjfmjibiafdaaGreat
open Go Go.RowKit
section
variable {z q : Nat} {sl sl' : Sl} {L L' : List Rw} {B B' : List Bd} {w : World} {F : List Nat} {n e : Int}
theorem vx_all (h : RepX z sl L B w F) (hO : ZOk sl L B) (hq : ∀ b ∈ B, b.2 ∈ allS sl) (A : Option Addr) (c : Nat) (l : List Ov) (hl2 : l.length ≤ 9223372036854775807) (hA : Lies w w.heap.size A (l.flatMap opC)) (hall : AllO sl L B l n e sl' L' B') :
  Calls Tryz.prog 26 #[.pointer (some ⟨z, 0, none⟩), .slice A l.length c] w (fun x w' => x = .returned (.tuple #[.int .i64 n, .int .i64 e]) ∧ OwnPost (RepX z sl' L' B') F w w') := by
 obtain ⟨p, f, h⟩ := h
 rcases hall with ⟨hl, rfl, rfl, rfl, rfl, rfl⟩ | ⟨hl, s1, L1, B1, hA1, hc⟩
 ·exact (vall_long h A c l hl hl2).mono fun x w' hz => ⟨hz.1, hz.2.2 (by decide)⟩
 ·refine (vall_run h hO hq A c l hl hA hA1).mono fun x w' ⟨hx, h1, h2⟩ => ⟨hx, ?_⟩
  rcases hc with ⟨he, rfl, rfl, rfl⟩ | ⟨he, rfl, rfl, rfl⟩
  ·exact h1 he
  ·exact h2 he
theorem q_allO (h : RepQ q sl L B w F) (hO : ZOk sl L B) (A : Option Addr) (c : Nat) (l : List Ov) (hl2 : l.length ≤ 9223372036854775807) (hA : Lies w w.heap.size A (l.flatMap opC)) (hall : AllO sl L B l n e sl' L' B') :
  Calls Tryz.prog 27 #[.pointer (some ⟨q, 0, none⟩), .slice A l.length c] w (fun x w' => x = .returned (.tuple #[.int .i64 n, .int .i64 e]) ∧ OwnPost (RepQ q sl' L' B') F w w') := by
 rcases hall with ⟨hl, rfl, rfl, rfl, rfl, rfl⟩ | ⟨hl, s1, L1, B1, hA1, hc⟩
 ·exact (qall_long h A c l hl hl2).mono fun x w' hz => ⟨hz.1, hz.2.2 (by decide)⟩
 ·refine (qall_run h hO A c l hl hA hA1).mono fun x w' ⟨hx, h1, h2⟩ => ⟨hx, ?_⟩
  rcases hc with ⟨he, rfl, rfl, rfl⟩ | ⟨he, rfl, rfl, rfl⟩
  ·exact h1 he
  ·exact h2 he
theorem vx_state (h : RepX z sl L B w F) (hl : B.length ≤ 60) : Calls Tryz.prog 11 #[.pointer (some ⟨z, 0, none⟩)] w (StPost sl L B w) := by
 obtain ⟨p, f, h⟩ := h
 exact vstate_any h hl
theorem vx_none (h : RepX z sl L B w F) : Calls Tryz.prog 14 #[.pointer (some ⟨z, 0, none⟩), .agg #[.int .i64 0, .int .i64 0, .int .i64 0, .int .i64 0, .int .i64 0, .int .i64 0, .int .i64 0, .int .i64 0, .int .i64 0, .int .i64 0, .int .i64 0, .int .i64 0, .int .i64 0, .int .i64 0, .int .i64 0, .int .i64 0]] w (fun x w' => x = .returned (.tuple #[.agg #[.int .i64 0, .int .i64 0], .int .i64 1]) ∧ OwnPost (RepX z sl L B) F w w') := by
 obtain ⟨p, f, h⟩ := h
 exact (vdo_other h 0 0 0 0 0 0 0 0 0 0 0 0 0 0 0 0 (by decide) (by decide) (by decide) (by decide) (by decide) (by decide)).mono fun x w' ⟨hx, F', h1, h2⟩ => ⟨hx, F', ⟨p, f, h1⟩, h2⟩
end
abbrev PXQ (Lo : Nat) (Z : List Nat) (z q : Nat) (sl : Sl) (L : List Rw) (B : List Bd) (sl' : Sl) (L' : List Rw) (B' : List Bd) (w : World) : Prop := Sep Lo Z (RepX z sl L B) (RepQ q sl' L' B') w
section
variable {Lo : Nat} {Z : List Nat} {z p f q : Nat} {sl sl' sl2 : Sl} {L L' L2 : List Rw} {B B' B2 : List Bd} {w : World}
theorem PVQ.x (h : PVQ Lo Z z p f q sl L B sl' L' B' w) : PXQ Lo Z z q sl L B sl' L' B' w := by
 obtain ⟨F, G, ⟨a, b, d, af, bf, lo, zl⟩⟩ := h
 exact ⟨F, G, ⟨⟨p, f, a⟩, b, d, af, bf, lo, zl⟩⟩
theorem pxq_below {w' : World} (h : PXQ Lo Z z q sl L B sl' L' B' w) (hb : Below w.heap.size w w') : PXQ Lo Z z q sl L B sl' L' B' w' ∧ Below Lo w w' ∧ KeepZ Z w w' := Sep.below (own_X _ _ _ _) (own_Q _ _ _ _) h hb
theorem px_state (h : PXQ Lo Z z q sl L B sl' L' B' w) (hO : ZOk sl L B) : Calls Tryz.prog 11 #[.pointer (some ⟨z, 0, none⟩)] w (StPost sl L B w) := by
 obtain ⟨F, G, h⟩ := h
 exact vx_state h.a hO.len
theorem px_qstate (h : PXQ Lo Z z q sl L B sl' L' B' w) (hO : ZOk sl' L' B') : Calls Tryz.prog 12 #[.pointer (some ⟨q, 0, none⟩)] w (StPost sl' L' B' w) := by
 obtain ⟨F, G, h⟩ := h
 exact qstate_any h.b hO
end
end Go.Proofs.YtehjfmjibiafdaaGreat
