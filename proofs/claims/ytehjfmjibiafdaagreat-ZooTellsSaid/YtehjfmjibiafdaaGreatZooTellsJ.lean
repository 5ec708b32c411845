import Derived.Test.YtehjfmjibiafdaaGreatRows
import Derived.Test.YtehjfmjibiafdaaGreatZooTellsJ1
import Derived.Test.YtehjfmjibiafdaaGreatZooTellsJ54
import Derived.Lib.SmallJoins
import Derived.Test.YtehjfmjibiafdaaGreatZooTellsJ55
/- The law ZooTells returns true for every input. (printed by mk_ztells.py) -/
namespace Go.Proofs.YtehjfmjibiafdaaGreat
open Go Go.RowKit Go.ChangeShapes Go.WideShapes Go.ChangeAt

attribute [local go_sem] AllFrom.cons_eq AllFrom.nil_eq putF_nil putF_cons wantedL_none wantedL_some OpGoalT OpGoalV OpGoalQ OpGoalA OpGoalK YieldsR preF_nil preF_cons

/-- A region that calls for rows (operation 5), moves what it answers (6) and takes it apart (7, 9). -/
structure IRw (w0 : World) (l : List Rw) (ze : Int) (L : Nat → Bool) (σ : Nat → Value) (V : World) : Prop where
  b : Below w0.heap.size w0 V
  a5 : L 5 = true → ∃ v, σ 5 = .tuple #[v, .int .i64 ze] ∧ V.ownsRow w0.heap.size 69 11 v l.length (l.flatMap rwC)
  a6 : L 6 = true → ∃ v, σ 6 = .tuple #[v, .int .i64 ze] ∧ V.ownsRow w0.heap.size 69 11 v l.length (l.flatMap rwC)
  a7 : L 7 = true → V.ownsRow w0.heap.size 69 11 (σ 7) l.length (l.flatMap rwC)
  a9 : L 9 = true → V.ownsRow w0.heap.size 69 11 (σ 9) l.length (l.flatMap rwC)
section
variable {w0 V V' : World} {l : List Rw} {ze : Int} {L : Nat → Bool} {σ : Nat → Value}
theorem IRw.start (h : Below w0.heap.size w0 V) : IRw w0 l ze (fun _ => false) σ V := ⟨h, fun e => (by cases e), fun e => (by cases e), fun e => (by cases e), fun e => (by cases e)⟩
theorem IRw.set (h : IRw w0 l ze L σ V) {i : Nat} (hb : Below V.heap.size V V') (v : Value) (h5 : i = 5 → ∃ u, v = .tuple #[u, .int .i64 ze] ∧ V'.ownsRow w0.heap.size 69 11 u l.length (l.flatMap rwC)) (h6 : i = 6 → ∃ u, v = .tuple #[u, .int .i64 ze] ∧ V'.ownsRow w0.heap.size 69 11 u l.length (l.flatMap rwC))
    (h7 : i = 7 → V'.ownsRow w0.heap.size 69 11 v l.length (l.flatMap rwC)) (h9 : i = 9 → V'.ownsRow w0.heap.size 69 11 v l.length (l.flatMap rwC)) : IRw w0 l ze (upd L i) (updv σ i v) V' := by
  have eL : ∀ j, j ≠ i → upd L i j = L j := fun j hj => by unfold upd; simp [hj]
  have es : ∀ j, j ≠ i → updv σ i v j = σ j := fun j hj => by unfold updv; rw [if_neg hj]
  have ev : updv σ i v i = v := by unfold updv; simp
  have hk : ∀ u, V.ownsRow w0.heap.size 69 11 u l.length (l.flatMap rwC) → V'.ownsRow w0.heap.size 69 11 u l.length (l.flatMap rwC) := fun u hu => row_mod hu (Mod.ofBelow hb) (by simp)
  refine ⟨h.b.trans (hb.mono h.b.size), fun e => ?_, fun e => ?_, fun e => ?_, fun e => ?_⟩
  · by_cases hi : (5 : Nat) = i
    · subst hi; rw [ev]; exact h5 rfl
    · rw [eL _ hi] at e; rw [es _ hi]; obtain ⟨u, h1, h2⟩ := h.a5 e; exact ⟨u, h1, hk u h2⟩
  · by_cases hi : (6 : Nat) = i
    · subst hi; rw [ev]; exact h6 rfl
    · rw [eL _ hi] at e; rw [es _ hi]; obtain ⟨u, h1, h2⟩ := h.a6 e; exact ⟨u, h1, hk u h2⟩
  · by_cases hi : (7 : Nat) = i
    · subst hi; rw [ev]; exact h7 rfl
    · rw [eL _ hi] at e; rw [es _ hi]; exact hk _ (h.a7 e)
  · by_cases hi : (9 : Nat) = i
    · subst hi; rw [ev]; exact h9 rfl
    · rw [eL _ hi] at e; rw [es _ hi]; exact hk _ (h.a9 e)
theorem IRw.read (h : IRw w0 l ze L σ V) {i : Nat} (h1 : 5 ≠ i ∧ 6 ≠ i ∧ 7 ≠ i ∧ 9 ≠ i) (v : Value) : IRw w0 l ze (upd L i) (updv σ i v) V :=
  h.set (Below.refl _ _) v (fun e => absurd e.symm h1.1) (fun e => absurd e.symm h1.2.1) (fun e => absurd e.symm h1.2.2.1) (fun e => absurd e.symm h1.2.2.2)
end
theorem allS_hd {sl : Sl} {L : List Rw} (h : WOk sl L) {x : Hd} (hx : x ∈ allS sl) : HdR x := by
  obtain ⟨s, g⟩ := x
  obtain ⟨j, h1, hj, -, h2⟩ := (mem_allFrom sl 0 s g).1 hx
  have h3 := h.ok.at_ hj
  have h4 := h.ok.1
  unfold HdR InR
  simp only
  omega
section
variable {z p f q : Nat} {sl : Sl} {L : List Rw} {B : List Bd} {w : World} {F : List Nat}
theorem q_all (h : RepQ q sl L B w F) (hO : ZOk sl L B) : Calls Tryz.prog 16 #[.pointer (some ⟨q, 0, none⟩)] w (MadeRecs 41 2 handleC (allS sl) w) := by
  obtain ⟨vB, FZ, vL, FS, h1, -⟩ := h.z_
  exact zall_any q sl FS w h1 hO.w.ok.1
theorem q_get (h : RepQ q sl L B w F) (hO : ZOk sl L B) (s g : Int) : Calls Tryz.prog 18 #[.pointer (some ⟨q, 0, none⟩), .agg #[.int .i64 s, .int .i64 g]] w (fun e w' => e = .returned (.tuple #[.agg (btC (getB L (s, g))).toArray, .int .i64 (getE L (s, g))]) ∧ Below w.heap.size w w') := by
  obtain ⟨vB, FZ, h1⟩ := h.z_
  exact zget_any h1 hO.w.len s g
theorem v_get (h : RepV z p f sl L B w F) (s g : Int) : Calls Tryz.prog 17 #[.pointer (some ⟨p, 0, none⟩), .agg #[.int .i64 s, .int .i64 g]] w (fun e w' => e = .returned (.tuple #[.agg (btC (getB L (s, g))).toArray, .int .i64 (getE L (s, g))]) ∧ Below w.heap.size w w') := by
  obtain ⟨FW, h1⟩ := h.w_
  exact wget_any h1 s g
theorem v_rows (h : RepV z p f sl L B w F) (n t a : Int) : Calls Tryz.prog 21 #[.pointer (some ⟨p, 0, none⟩), .agg #[.int .i64 n, .int .i64 t, .int .i64 a]] w (RowsPost w.heap.size L n t a w) := by
  obtain ⟨FW, h1⟩ := h.w_
  exact wrows_any h1 n t a
theorem q_rows (h : RepQ q sl L B w F) (hO : ZOk sl L B) (n t a : Int) (hn : InR n) : Calls Tryz.prog 22 #[.pointer (some ⟨q, 0, none⟩), .agg #[.int .i64 n, .int .i64 t, .int .i64 a]] w (RowsPost w.heap.size L n t a w) := by
  obtain ⟨vB, FZ, h1⟩ := h.z_
  exact zrows_any h1 hO.w.len n t a hn
end

set_option maxRecDepth 100000 in
set_option maxHeartbeats 16000000 in
theorem zooTells_ok (A : Option Addr) (c : Nat) (l : List Ov) (qn qt qa hs hg : Int) (hqn : InR qn) (hhr : HdR (hs, hg)) (w : World) (hl : l.length * 128 ≤ 140737488351232) (hA : Lies w w.heap.size A (l.flatMap opC)) (hR : ∀ x ∈ l, HdR x.2.2.1 ∧ HdR x.2.2.2.1) :
    Calls Tryz.prog 4 #[.slice A l.length c, .agg #[.int .i64 qn, .int .i64 qt, .int .i64 qa], .agg #[.int .i64 hs, .int .i64 hg]] w fun e w' => e = .returned (.bool true) ∧ Below w.heap.size w w' := by
  obtain ⟨u0, hu0, hc0, hy0, ht0⟩ := box1 w (.cells #[.int .i64 qn, .int .i64 qt, .int .i64 qa] 39)
  obtain ⟨u1, hu1, hc1, hy1, ht1⟩ := box1 u0 (.cells #[.int .i64 hs, .int .i64 hg] 41)
  have hy01 := (Mod.ofBelow hc1).keep hy0 (by simp)
  have hc01 := hc0.trans (hc1.mono hc0.size)
  have H1 := Lib.hid (zooNew_any u1)
  have hl2 : l.length ≤ 1200000000000 := by omega
  have HA := Lib.hid hA; have HR := Lib.hid hR; have HY0 := Lib.hid hy01; have HY1 := Lib.hid hy1; have HC01 := Lib.hid hc01; have HT0 := Lib.hid ht0
  clear hA hR hy01 hy1 hc01 ht0
  clear hl hc0 hc1 hy0 ht1
  go_enter Tryz.func4, Tryz.ntmps4
  go_wp2_with fail
  clear hu0 hu1
  refine H1.out.mono ?_
  rintro e w1 ⟨z, p, f, F, rfl, hW, hF, hb⟩
  obtain ⟨w2, hw2⟩ : ∃ w2, w1.alloc (.cells #[.slice none 0 0, .slice none 0 0, .slice none 0 0, .slice none 0 0] 47) = w2 := ⟨_, rfl⟩
  obtain ⟨hP, hB⟩ := pvq_start hW hF hb hw2
  have HP0 := Lib.hid hP; have HBB := Lib.hid hB
  clear hP hB
  clear hW hF hb H1
  go_wp2_with fail
  clear hw2
  generalize w1.heap.size = q at *
  go_loopw [34] (fun i wr => ∃ (k : Nat) (sl : Sl) (R : List Rw) (B : List Bd), k ≤ l.length ∧ i = .int .i64 k ∧ PVQ u1.heap.size [] z p f q sl R B sl R B wr ∧ (∀ b ∈ B, b.1 ∈ allS sl) ∧ Below u1.heap.size u1 wr) (fun i _ => l.length - (Go.RowKit.intOf i).toNat)
  case atStart => exact ⟨0, [], [], [], by omega, rfl, HP0.out, by simp, HBB.out⟩
  case round =>
    obtain ⟨k, sl, R, B, hk, rfl, hP, hC, hB⟩ := hrel
    clear HP0 HBB
    have hsz := hB.size
    have hBw := HC01.out.trans (hB.mono HC01.out.size)
    by_cases hlt : k < l.length
    · skip
      obtain ⟨ab, ao, rfl, hal, hc⟩ := HA.out.rec_at opC_len (by omega) hlt
      have hq : ∀ j u, (opC l[k])[j]? = some u → wr.cell? ((⟨ab, ao + k * 16, none⟩ : Addr).add j) = some u := fun j u hu => (hBw.cell (p := (⟨ab, ao + k * 16, none⟩ : Addr).add j) (by rw [add_block]; exact hal)).trans (by first | exact hc j u hu | (have := hc j u hu; rw [Addr.add_mid]; exact this))
      have hxr := HR.out _ (List.getElem_mem hlt)
      have hki : (k : Int) < (l.length : Int) := by omega
      generalize l[k] = x at *
      obtain ⟨d, ⟨K, a0, a1, a2, a3, a4, a5, a6, a7⟩, ⟨s, g⟩, ⟨ts, tg⟩, kd, n⟩ := x
      have hO := hP.ok hC
      obtain ⟨sl', R', B', r0, r1, e0, hD⟩ := do_any hO d K a0 a1 a2 a3 a4 a5 a6 a7 s g ts tg kd n hxr.1 hxr.2
      obtain ⟨w3, hw3, hb3, hk3, hs3⟩ := box1 wr (.cells #[.int .i64 d, .int .i64 K, .int .i64 a0, .int .i64 a1, .int .i64 a2, .int .i64 a3, .int .i64 a4, .int .i64 a5, .int .i64 a6, .int .i64 a7, .int .i64 s, .int .i64 g, .int .i64 ts, .int .i64 tg, .int .i64 kd, .int .i64 n] 52)
      have hP3 := Sep.fresh (own_V _ _ _ _ _ _) (own_Q _ _ _ _) hP hb3 wr.heap.size (Nat.le_refl _) (by omega)
      have hB3 := hB.trans (pvq_below hP hb3).2.1
      have H7 := Lib.hid (pv_do hP3 hD)
      have hC' := hD.c
      have c0 := blk_cell hk3 0
      have c1 := blk_cell hk3 1
      have c2 := blk_cell hk3 2
      have c3 := blk_cell hk3 3
      have c4 := blk_cell hk3 4
      have c5 := blk_cell hk3 5
      have c6 := blk_cell hk3 6
      have c7 := blk_cell hk3 7
      have c8 := blk_cell hk3 8
      have c9 := blk_cell hk3 9
      have c10 := blk_cell hk3 10
      have c11 := blk_cell hk3 11
      have c12 := blk_cell hk3 12
      have c13 := blk_cell hk3 13
      have c14 := blk_cell hk3 14
      have c15 := blk_cell hk3 15
      simp only [List.getElem?_toArray, List.getElem?_cons_zero, List.getElem?_cons_succ] at c0 c1 c2 c3 c4 c5 c6 c7 c8 c9 c10 c11 c12 c13 c14 c15
      have cl := blk_lt hk3
      have HQ := Lib.hid hq; have HB3 := Lib.hid hB3; have Hk3 := Lib.hid hk3; have Hw3 := Lib.hid hw3; have HD := Lib.hid hD; have Hs3 := Lib.hid hs3; have HC' := Lib.hid hC'; have Hlt := Lib.hid hlt
      clear hq hB3 hk3 hw3 hD hs3 hC' hlt
      clear hc hP hB hBw hP3 hb3 hxr hO
      go_wp2_with (first | (refine wpList_load_flat rfl 52 (.tmp 36) rfl _ rfl (opC (d, (K, a0, a1, a2, a3, a4, a5, a6, a7), (s, g), (ts, tg), kd, n)) _ Tryz.underlying52 rfl (sz_Op _) HQ.out ?_) | (refine wpList_store_new rfl 52 (.tmp 10) (.tmp 37) rfl wr (ints [0, 0, 0, 0, 0, 0, 0, 0, 0, 0, 0, 0, 0, 0, 0, 0]) (opC (d, (K, a0, a1, a2, a3, a4, a5, a6, a7), (s, g), (ts, tg), kd, n)) 52 rfl rfl rfl (sz_Op _) (opC_one _) ?_; rw [show (opC (d, (K, a0, a1, a2, a3, a4, a5, a6, a7), (s, g), (ts, tg), kd, n)).toArray = #[.int .i64 d, .int .i64 K, .int .i64 a0, .int .i64 a1, .int .i64 a2, .int .i64 a3, .int .i64 a4, .int .i64 a5, .int .i64 a6, .int .i64 a7, .int .i64 s, .int .i64 g, .int .i64 ts, .int .i64 tg, .int .i64 kd, .int .i64 n] from rfl, Hw3.out]) | fail)
      clear c0 c1 c2 c3 c4 c5 c6 c7 c8 c9 c10 c11 c12 c13 c14 c15 cl
      refine H7.out.mono ?_
      rintro e w4 ⟨rfl, h4, hb4, hk4⟩
      have hk5 := hk4 _ (by simp) _ Hk3.out
      have H8 := Lib.hid (pq_do h4 HD.out)
      have hB5 := HB3.out.trans hb4
      have c0 := blk_cell hk5 0
      have c1 := blk_cell hk5 1
      have c2 := blk_cell hk5 2
      have c3 := blk_cell hk5 3
      have c4 := blk_cell hk5 4
      have c5 := blk_cell hk5 5
      have c6 := blk_cell hk5 6
      have c7 := blk_cell hk5 7
      have c8 := blk_cell hk5 8
      have c9 := blk_cell hk5 9
      have c10 := blk_cell hk5 10
      have c11 := blk_cell hk5 11
      have c12 := blk_cell hk5 12
      have c13 := blk_cell hk5 13
      have c14 := blk_cell hk5 14
      have c15 := blk_cell hk5 15
      simp only [List.getElem?_toArray, List.getElem?_cons_zero, List.getElem?_cons_succ] at c0 c1 c2 c3 c4 c5 c6 c7 c8 c9 c10 c11 c12 c13 c14 c15
      have cl := blk_lt hk5
      have HB5 := Lib.hid hB5
      clear hB5
      clear h4 hb4 hk4 hk5
      go_wp2_with fail
      clear c0 c1 c2 c3 c4 c5 c6 c7 c8 c9 c10 c11 c12 c13 c14 c15 cl
      refine H8.out.mono ?_
      rintro e w6 ⟨rfl, h6, hb6, hk6⟩
      have hP7 := Sep.drop (Y := []) h6 (by simp)
      have hB7 := HB5.out.trans hb6
      have HP7 := Lib.hid hP7; have HB7 := Lib.hid hB7
      clear hP7 hB7
      clear h6 hb6 hk6
      have hlt := Hlt.out
      go_wp2
      go_roundw
      case rel => exact ⟨k + 1, sl', R', B', by omega, by go_num, HP7.out, HC'.out, HB7.out⟩
      case measure => simp [Go.RowKit.intOf]; omega
    · obtain rfl : k = l.length := by omega
      have hO := hP.ok hC
      obtain ⟨FV, FQ, hS⟩ := id hP
      have hVr := hS.a; have hQr := hS.b
      have haf : ∀ y ∈ FV, w.heap.size ≤ y := fun y hy => Nat.le_trans HC01.out.size (hS.af y hy).1
      have hz0 := (Mod.ofBelow hB).keep HY0.out (by simp)
      have hz1 := (Mod.ofBelow hB).keep HY1.out (by simp)
      have hAl := fun V (hb : Below wr.heap.size wr V) => q_all (hQr.below hb) hO
      have hal := allS_len sl
      have hal2 := hO.w.ok.1
      obtain ⟨ks, hks⟩ : ∃ ks, allS sl = ks := ⟨_, rfl⟩
      rw [hks] at hAl hal
      have Haf := Lib.hid haf; have HO := Lib.hid hO; have HVr := Lib.hid hVr; have HQr := Lib.hid hQr; have Hz0 := Lib.hid hz0; have Hz1 := Lib.hid hz1; have HAl := Lib.hid hAl; have Hal := Lib.hid hal; have Hal2 := Lib.hid hal2; have Hks := Lib.hid hks; have HBw := Lib.hid hBw; have HC := Lib.hid hC; have HP := Lib.hid hP
      clear haf hO hVr hQr hz0 hz1 hAl hal hal2 hks hBw hC hP
      clear hS hB hsz hlt
      go_wp2_with fail
      refine wp_planK [3, 5, 6] 9 [0] [some 45, some 46, some 47, some 48, some 49, some 50, some 51, some 52, some 53] [[], [0], [0, 1], [0, 1, 2], [], [4], [0, 1, 2, 3, 4, 5], [0, 1, 2, 3, 4, 5, 6], []] [0, 1, 2, 3, 4, 5, 6, 7, 8] (fun Lf σ W => IAp 3 5 6 wr ks (hs, hg) Lf σ W) mixed rfl (by kernel_rfl) (by decide) (by decide) (by decide) (IAp.start below_drew) rfl ?_
      iterate 9 apply Exists.intro
      refine ⟨rfl, ?_, ?_⟩
      · simp only [List.take_succ_cons, List.take_zero, AllFrom.cons_eq, AllFrom.nil_eq, OpGoalK]
        refine ⟨?_, ?_, ?_, ?_, ?_, ?_, ?_, ?_, ?_, trivial⟩
        all_goals (intro L' σ V h1 h2 h3 hI hp; have HA1 := Lib.hid h1; have HA2 := Lib.hid h2; have HA3 := Lib.hid h3; clear h1 h2 h3; (try simp only [List.getD_cons_zero, List.getD_cons_succ, preK_cons, preK_nil] at hp); (try simp only [List.mem_cons, List.not_mem_nil, or_false, eq_self, Nat.reduceEqDiff, Nat.reduceAdd, Nat.zero_add, false_or, true_or, true_and, and_true] at hp); (first | (have hq : True := hp; clear hq hp) | skip); have HI := Lib.hid hI; clear hI)
        all_goals (
          have hoV := (Mod.ofBelow HI.out.b).keep Hz1.out (by simp)
          have o0 := blk_cell hoV 0
          have o1 := blk_cell hoV 1
          simp only [List.getElem?_toArray, List.getElem?_cons_zero, List.getElem?_cons_succ] at o0 o1
          have ol := blk_lt hoV
          clear hoV)
        · (go_simp; exact ⟨.inr rfl, HI.out.read (by decide) _⟩)
        · (go_simp; exact ⟨.inr rfl, HI.out.read (by decide) _⟩)
        · (go_simp; exact ⟨.inr rfl, HI.out.read (by decide) _⟩)
        · go_simp
          refine (HAl.out _ HI.out.b).mono ?_
          rintro e V' ⟨v, rfl, hv, hb⟩
          exact ⟨_, rfl, PostK.mk (c := undef) (.inl (by decide)) (HI.out.copied (by decide) (by decide) hb hv (HA3.out 6 (by decide)))⟩
        · (go_simp; exact ⟨.inr rfl, HI.out.read (by decide) _⟩)
        · go_simp
          exact PostK.mk (c := undef) (.inl (by decide)) (HI.out.oned (by decide) (by decide) (HA3.out 6 (by decide)))
        · simp only [wantedL_none, if_true]
          have ha7 := HI.out.c (HA2.out 3 (by decide)) HA1.out
          have ha11 := HI.out.o (HA2.out 5 (by decide)) HA1.out
          have Ha7 := Lib.hid ha7; have Ha11 := Lib.hid ha11
          have Hlen := Lib.hid (show (ks.length + 1) * 16 ≤ 140737488355328 by have := Hal.out; have := Hal2.out; omega)
          clear ha7 ha11
          refine yr_app (enc := handleC) (n := 2) (z := .agg #[.int .i64 0, .int .i64 0]) (bytes := 16) (.tmp 48) (.tmp 50) 55 41 rfl Tryz.underlying55 info_handle rfl (by omega) (by omega) handleC_one handleC_len wr.heap.size (σ 3) ks (hs, hg) wr.heap.size (handleC (hs, hg)).toArray 41 (by go_simp) Ha7.out (by go_simp; exact Ha11.out) rfl Hlen.out HI.out.b.size ?_
          intro v' V' hv hg _
          exact PostK.mk (c := undef) (.inl (by decide)) (HI.out.apped (by decide) (by decide) (HA2.out 3 (by decide)) HA1.out hg hv)
        · have hr := HI.out.a (HA2.out 6 (by decide))
          obtain ⟨A9, c9, e9, -, -⟩ := row_slice hr
          rw [List.length_append, List.length_singleton] at e9
          go_simp
          exact ⟨.inr rfl, HI.out.read (by decide) _⟩
        · (go_simp; exact ⟨.inr rfl, HI.out.read (by decide) _⟩)
      · intro L' σ V h1 hI hp
        have hr := hI.a (h1 6 (by decide))
        have hb7 := hI.b
        obtain ⟨hh, hhh⟩ : ∃ hh, ks ++ [(hs, hg)] = hh := ⟨_, rfl⟩
        have hhl : hh.length ≤ 61 := by rw [← hhh, List.length_append, List.length_singleton]; have := Hal.out; have := Hal2.out; omega
        have hle : ks.length + 1 = hh.length := by rw [← hhh, List.length_append, List.length_singleton]
        have hin : ∀ x ∈ hh, HdR x := fun x hx => by
          rw [← hhh] at hx
          rcases List.mem_append.1 hx with hx | hx
          · rw [← Hks.out] at hx
            exact allS_hd HO.out.w hx
          · rw [List.mem_singleton.1 hx]; exact hhr
        rw [hhh] at hr
        clear h1 hI
        simp only [preK_cons, preK_nil, List.getD_cons_zero, List.getD_cons_succ] at hp; simp only [List.mem_cons, List.not_mem_nil, or_false, eq_self, Nat.reduceEqDiff, false_or, true_or, true_and, and_true] at hp
        obtain ⟨A6, c6, e6, -, -⟩ := row_slice hr
        rw [e6] at hr
        have hVV := HVr.out.below hb7
        have hQV := HQr.out.below hb7
        have HVV := Lib.hid hVV; have HQV := Lib.hid hQV; have Hhl := Lib.hid hhl; have Hr := Lib.hid hr; have Hb7 := Lib.hid hb7; have Hin := Lib.hid hin
        clear hVV hQV hhl hr hb7 hin
        simp only [List.drop_succ_cons, List.drop_zero]
        go_simp
        clear hp
        generalize σ 6 = v7 at *
        subst e6
        have hle2 : ((ks.length : Int) + 1) = (hh.length : Int) := by omega
        try rw [hle2]
        clear hle hle2 hhh
        go_wp2_with fail
        refine ⟨rfl, ?_⟩
        go_wp2_with fail
        go_loopw [53] (fun i wv => ∃ k : Nat, k ≤ hh.length ∧ i = .int .i64 k ∧ Below V.heap.size V wv) (fun i _ => hh.length - (Go.RowKit.intOf i).toNat)
        case atStart => exact ⟨0, by omega, rfl, Below.refl _ _⟩
        case round =>
          obtain ⟨k, hk, rfl, hBk⟩ := hrel
          have hrow := row_mod Hr.out (Mod.ofBelow hBk) (by simp)
          have hl61 := Hhl.out
          by_cases hlt : k < hh.length
          · obtain ⟨A7, c7, e7, -, hL7⟩ := row_lies hrow
            cases e7
            obtain ⟨ab, ao, rfl, hal, hc⟩ := hL7.rec_at handleC_len (by omega) hlt
            have hki : (k : Int) < (hh.length : Int) := by omega
            have hxr := Hin.out _ (List.getElem_mem hlt)
            generalize hh[k] = x at *
            obtain ⟨s, g⟩ := x
            obtain ⟨w3, hw3, hb3, hz3, hs3⟩ := box1 wr (.cells #[.int .i64 s, .int .i64 g] 41)
            have hq : ∀ j u, (handleC (s, g))[j]? = some u → wr.cell? ((⟨ab, ao + k * 2, none⟩ : Addr).add j) = some u := fun j u hu => by first | exact hc j u hu | (have := hc j u hu; rw [Addr.add_mid]; exact this)
            have hB3 := hBk.trans (hb3.mono hBk.size)
            have hV3 := HVV.out.below hB3
            have hQ3 := HQV.out.below hB3
            obtain ⟨⟨K, a0, a1, a2, a3, a4, a5, a6, a7⟩, hbt⟩ : ∃ b, getB R (s, g) = b := ⟨_, rfl⟩
            obtain ⟨ge, hge⟩ : ∃ b, getE R (s, g) = b := ⟨_, rfl⟩
            obtain ⟨o, ho⟩ : ∃ o, parB B (s, g) = o := ⟨_, rfl⟩
            obtain ⟨⟨ps, pg⟩, hps⟩ : ∃ x, parV o = x := ⟨_, rfl⟩
            obtain ⟨bo, hbo⟩ : ∃ bo, o.isSome = bo := ⟨_, rfl⟩
            have hG1 : ∀ U, Below w3.heap.size w3 U → Calls Tryz.prog 17 #[.pointer (some ⟨p, 0, none⟩), .agg #[.int .i64 s, .int .i64 g]] U (fun e w' => e = .returned (.tuple #[.agg #[.int .i64 K, .int .i64 a0, .int .i64 a1, .int .i64 a2, .int .i64 a3, .int .i64 a4, .int .i64 a5, .int .i64 a6, .int .i64 a7], .int .i64 ge]) ∧ Below U.heap.size U w') := fun U hb => by
              have h := v_get (hV3.below hb) s g
              rw [hbt, hge] at h
              exact h
            have hG2 : ∀ U, Below w3.heap.size w3 U → Calls Tryz.prog 18 #[.pointer (some ⟨q, 0, none⟩), .agg #[.int .i64 s, .int .i64 g]] U (fun e w' => e = .returned (.tuple #[.agg #[.int .i64 K, .int .i64 a0, .int .i64 a1, .int .i64 a2, .int .i64 a3, .int .i64 a4, .int .i64 a5, .int .i64 a6, .int .i64 a7], .int .i64 ge]) ∧ Below U.heap.size U w') := fun U hb => by
              have h := q_get (hQ3.below hb) HO.out s g
              rw [hbt, hge] at h
              exact h
            have hP1 : ∀ U, Below w3.heap.size w3 U → Calls Tryz.prog 19 #[.pointer (some ⟨f, 0, none⟩), .agg #[.int .i64 s, .int .i64 g]] U (fun e w' => e = .returned (.tuple #[.agg #[.int .i64 ps, .int .i64 pg], .bool bo]) ∧ Below U.heap.size U w') := fun U hb => by
              have h := v_parent (hV3.below hb) s g hxr
              rw [ho, hbo, hps] at h
              exact h
            have hP2 : ∀ U, Below w3.heap.size w3 U → Calls Tryz.prog 20 #[.pointer (some ⟨q, 0, none⟩), .agg #[.int .i64 s, .int .i64 g]] U (fun e w' => e = .returned (.tuple #[.agg #[.int .i64 ps, .int .i64 pg], .bool bo]) ∧ Below U.heap.size U w') := fun U hb => by
              have h := q_parent (hQ3.below hb) HO.out.len s g
              rw [ho, hbo, hps] at h
              exact h
            obtain ⟨zl, hzl⟩ : ∃ zl, zl = ints [0, 0, 0, 0, 0, 0, 0, 0, 0] := ⟨_, rfl⟩
            obtain ⟨rl, hrl⟩ : ∃ rl, rl = ints [K, a0, a1, a2, a3, a4, a5, a6, a7] := ⟨_, rfl⟩
            obtain ⟨zm, hzm⟩ : ∃ zl, zl = ints [0, 0] := ⟨_, rfl⟩
            obtain ⟨rm, hrm⟩ : ∃ rl, rl = ints [ps, pg] := ⟨_, rfl⟩
            have HQ := Lib.hid hq; have HB3 := Lib.hid hB3; have HV3 := Lib.hid hV3; have Hz3 := Lib.hid hz3; have Hw3 := Lib.hid hw3; have HG1 := Lib.hid hG1; have HG2 := Lib.hid hG2; have HP1 := Lib.hid hP1; have HP2 := Lib.hid hP2; have Hzl := Lib.hid hzl; have Hrl := Lib.hid hrl; have Hzm := Lib.hid hzm; have Hrm := Lib.hid hrm; have Hlt := Lib.hid hlt
            clear hq hB3 hV3 hz3 hw3 hG1 hG2 hP1 hP2 hzl hrl hzm hrm hlt
            clear hc hrow hL7 hQ3 hb3 hBk hxr hbt hge ho hps hbo
            go_wp2_with (first | (refine wpList_load_flat rfl 41 (.tmp 55) rfl _ rfl [.int .i64 s, .int .i64 g] _ Tryz.underlying41 rfl (by kernel_rfl) HQ.out ?_) | fail)
            rw [Hw3.out]
            refine wp_planK [9] 11 [0] [some 58, some 59, some 60, some 61, some 62, some 63, some 57, some 64, some 65, some 13, none, some 14] [[], [0], [0, 1], [0, 1, 2], [], [0, 1, 2, 3, 4], [0, 1, 2, 3, 4, 5], [0, 1, 2, 3, 4, 5, 6], [0, 1, 2, 3, 4, 5, 6], [], [0, 1, 2, 3, 4, 5, 6, 7, 9], [0, 1, 2, 3, 4, 5, 6, 7, 8, 9, 10]] [0, 1, 2, 3, 4, 5, 6, 7, 8, 9, 10] (fun Lf σ W => IGet 9 10 w3 zl.toArray rl.toArray 50 Lf σ W) mixed rfl (by kernel_rfl) (by decide) (by decide) (by decide) (IGet.start below_drew) rfl ?_
            iterate 11 apply Exists.intro
            refine ⟨rfl, ?_, ?_⟩
            · simp only [List.take_succ_cons, List.take_zero, AllFrom.cons_eq, AllFrom.nil_eq, OpGoalK]
              refine ⟨?_, ?_, ?_, ?_, ?_, ?_, ?_, ?_, ?_, ?_, ?_, trivial⟩
              all_goals (intro L' σ V h1 h2 h3 hI hp; have HA1 := Lib.hid h1; have HA2 := Lib.hid h2; have HA3 := Lib.hid h3; clear h1 h2 h3; (try simp only [List.getD_cons_zero, List.getD_cons_succ, preK_cons, preK_nil] at hp); (try simp only [List.mem_cons, List.not_mem_nil, or_false, eq_self, Nat.reduceEqDiff, Nat.reduceAdd, Nat.zero_add, false_or, true_or, true_and, and_true] at hp); (first | (have hq : True := hp; clear hq hp) | skip); have HI := Lib.hid hI; clear hI)
              all_goals (
                have hA := (HV3.out.below HI.out.b).cells
                have hc0 := hA.1; have hzz := hA.2.2
                have hzV := (Mod.ofBelow HI.out.b).keep Hz3.out (by simp)
                have q0 := blk_cell hzV 0
                have q1 := blk_cell hzV 1
                simp only [List.getElem?_toArray, List.getElem?_cons_zero, List.getElem?_cons_succ] at q0 q1
                have ql := blk_lt hzV
                clear hA hzV)
              · (go_simp; exact ⟨.inr rfl, HI.out.read (by decide) (by decide) _⟩)
              · (go_simp; exact ⟨.inr rfl, HI.out.read (by decide) (by decide) _⟩)
              · (go_simp; exact ⟨.inr rfl, HI.out.read (by decide) (by decide) _⟩)
              · (go_simp; exact ⟨.inr rfl, HI.out.read (by decide) (by decide) _⟩)
              · (go_simp; exact ⟨.inr rfl, HI.out.read (by decide) (by decide) _⟩)
              · (go_simp; refine (HG1.out V HI.out.b).mono ?_; rintro e V2 ⟨rfl, hb⟩; exact ⟨_, rfl, .inr rfl, (HI.out.step hb).read (by decide) (by decide) _⟩)
              · (go_simp; exact ⟨.inr rfl, HI.out.read (by decide) (by decide) _⟩)
              · (go_simp; exact ⟨.inr rfl, HI.out.read (by decide) (by decide) _⟩)
              · (go_simp; exact ⟨.inr rfl, HI.out.read (by decide) (by decide) _⟩)
              · go_simp
                have hmk := HI.out.made (by decide) (HA3.out 10 (by decide))
                rw [Hzl.out] at hmk ⊢
                exact PostK.mk (c := undef) (.inl (by decide)) hmk
              · simp only [wantedL_none, if_true, Nat.reduceAdd, Nat.zero_add]
                have x3 := HA1.out
                simp only [Nat.reduceAdd, Nat.zero_add] at x3
                generalize hρ : Act.eval _ = ρ
                refine IGet.yr_stored HI.out (by decide) (HA2.out 9 (by decide)) x3 (by rw [Hzl.out, Hrl.out]; rfl) 50 (.tmp 13) (.tmp 64) rfl ?_ ?_ (by rw [Hrl.out]; kernel_rfl) (by rw [Hrl.out]; exact ints_one _) (fun V' hV' => PostK.mk (c := undef) (.inr rfl) hV')
                · rw [← hρ]
                  go_simp
                · rw [← hρ]
                  go_simp
                  rw [Hrl.out]
                  rfl
            · intro L' σ Va h1 hI hp
              obtain ⟨r1, s9, hr1, hst⟩ := hI.blk (h1 9 (by decide))
              rw [if_pos (h1 10 (by decide)), Hrl.out] at hst
              have hst' : Va.heap[r1]? = some (.cells #[.int .i64 K, .int .i64 a0, .int .i64 a1, .int .i64 a2, .int .i64 a3, .int .i64 a4, .int .i64 a5, .int .i64 a6, .int .i64 a7] 50 (0, 0)) := hst
              have hba := hI.b
              have hza := (Mod.ofBelow hba).keep Hz3.out (by simp)
              have HG2a := Lib.hid (HG2.out _ hba)
              clear h1
              simp only [preK_cons, preK_nil, List.getD_cons_zero, List.getD_cons_succ] at hp; simp only [List.mem_cons, List.not_mem_nil, or_false, eq_self, Nat.reduceEqDiff, false_or, true_or, true_and, and_true] at hp
              have q0 := blk_cell hza 0
              have q1 := blk_cell hza 1
              simp only [List.getElem?_toArray, List.getElem?_cons_zero, List.getElem?_cons_succ] at q0 q1
              have ql := blk_lt hza
              have Hst1 := Lib.hid hst'; have Hba := Lib.hid hba; have Hza := Lib.hid hza
              clear hst' hba hza
              clear hI hst hr1
              simp only [List.drop_succ_cons, List.drop_zero]
              go_simp
              clear hp
              generalize σ 9 = v9 at *
              subst s9
              go_wp2_with fail
              refine ⟨rfl, ?_⟩
              go_wp2_with fail
              clear q0 q1 ql
              refine HG2a.out.mono ?_
              rintro e w5 ⟨rfl, hb5⟩
              obtain ⟨w6, hw6, hb6, hz6, hs6⟩ := box1 w5 (.cells #[.int .i64 K, .int .i64 a0, .int .i64 a1, .int .i64 a2, .int .i64 a3, .int .i64 a4, .int .i64 a5, .int .i64 a6, .int .i64 a7] 50)
              have hb56 := hb5.trans (hb6.mono hb5.size)
              have hb36 := Hba.out.trans (hb56.mono Hba.out.size)
              have hr6 := (Mod.ofBelow hb56).keep Hst1.out (by simp)
              have hh6 := (Mod.ofBelow hb56).keep Hza.out (by simp)
              have hV6 := HV3.out.below hb36
              have Hb36 := Lib.hid hb36; have Hr6 := Lib.hid hr6; have Hh6 := Lib.hid hh6; have Hz6 := Lib.hid hz6; have HV6 := Lib.hid hV6
              clear hb36 hr6 hh6 hz6 hV6
              clear hb5 hb6 hb56
              go_wp2_with fail
              clear hw6
              refine wp_planK [9] 11 [0] [some 73, some 74, some 75, some 76, some 77, some 78, some 72, some 79, some 80, some 17, none, some 18] [[], [0], [0, 1], [0, 1, 2], [], [0, 1, 2, 3, 4], [0, 1, 2, 3, 4, 5], [0, 1, 2, 3, 4, 5, 6], [0, 1, 2, 3, 4, 5, 6], [], [0, 1, 2, 3, 4, 5, 6, 7, 9], [0, 1, 2, 3, 4, 5, 6, 7, 8, 9, 10]] [0, 1, 2, 3, 4, 5, 6, 7, 8, 9, 10] (fun Lf σ W => IGet 9 10 w6 zm.toArray rm.toArray 41 Lf σ W) mixed rfl (by kernel_rfl) (by decide) (by decide) (by decide) (IGet.start below_drew) rfl ?_
              iterate 11 apply Exists.intro
              refine ⟨rfl, ?_, ?_⟩
              · simp only [List.take_succ_cons, List.take_zero, AllFrom.cons_eq, AllFrom.nil_eq, OpGoalK]
                refine ⟨?_, ?_, ?_, ?_, ?_, ?_, ?_, ?_, ?_, ?_, ?_, trivial⟩
                all_goals (intro L' σ V h1 h2 h3 hI hp; have HA1 := Lib.hid h1; have HA2 := Lib.hid h2; have HA3 := Lib.hid h3; clear h1 h2 h3; (try simp only [List.getD_cons_zero, List.getD_cons_succ, preK_cons, preK_nil] at hp); (try simp only [List.mem_cons, List.not_mem_nil, or_false, eq_self, Nat.reduceEqDiff, Nat.reduceAdd, Nat.zero_add, false_or, true_or, true_and, and_true] at hp); (first | (have hq : True := hp; clear hq hp) | skip); have HI := Lib.hid hI; clear hI)
                all_goals (
                  have hA := (HV6.out.below HI.out.b).cells
                  have hc1 := hA.2.1; have hzz := hA.2.2
                  have hzV := (Mod.ofBelow HI.out.b).keep Hh6.out (by simp)
                  have q0 := blk_cell hzV 0
                  have q1 := blk_cell hzV 1
                  simp only [List.getElem?_toArray, List.getElem?_cons_zero, List.getElem?_cons_succ] at q0 q1
                  have ql := blk_lt hzV
                  clear hA hzV)
                · (go_simp; exact ⟨.inr rfl, HI.out.read (by decide) (by decide) _⟩)
                · (go_simp; exact ⟨.inr rfl, HI.out.read (by decide) (by decide) _⟩)
                · (go_simp; exact ⟨.inr rfl, HI.out.read (by decide) (by decide) _⟩)
                · (go_simp; exact ⟨.inr rfl, HI.out.read (by decide) (by decide) _⟩)
                · (go_simp; exact ⟨.inr rfl, HI.out.read (by decide) (by decide) _⟩)
                · (go_simp; refine (HP1.out V (Hb36.out.trans (HI.out.b.mono Hb36.out.size))).mono ?_; rintro e V2 ⟨rfl, hb⟩; exact ⟨_, rfl, .inr rfl, (HI.out.step hb).read (by decide) (by decide) _⟩)
                · (go_simp; exact ⟨.inr rfl, HI.out.read (by decide) (by decide) _⟩)
                · (go_simp; exact ⟨.inr rfl, HI.out.read (by decide) (by decide) _⟩)
                · (go_simp; exact ⟨.inr rfl, HI.out.read (by decide) (by decide) _⟩)
                · go_simp
                  have hmk := HI.out.made (by decide) (HA3.out 10 (by decide))
                  rw [Hzm.out] at hmk ⊢
                  exact PostK.mk (c := undef) (.inl (by decide)) hmk
                · simp only [wantedL_none, if_true, Nat.reduceAdd, Nat.zero_add]
                  have x3 := HA1.out
                  simp only [Nat.reduceAdd, Nat.zero_add] at x3
                  generalize hρ : Act.eval _ = ρ
                  refine IGet.yr_stored HI.out (by decide) (HA2.out 9 (by decide)) x3 (by rw [Hzm.out, Hrm.out]; rfl) 41 (.tmp 17) (.tmp 79) rfl ?_ ?_ (by rw [Hrm.out]; kernel_rfl) (by rw [Hrm.out]; exact ints_one _) (fun V' hV' => PostK.mk (c := undef) (.inr rfl) hV')
                  · rw [← hρ]
                    go_simp
                  · rw [← hρ]
                    go_simp
                    rw [Hrm.out]
                    rfl
              · intro L' σ Vb h1 hI hp
                obtain ⟨r2, s9, hr2, hst⟩ := hI.blk (h1 9 (by decide))
                rw [if_pos (h1 10 (by decide)), Hrm.out] at hst
                have hst' : Vb.heap[r2]? = some (.cells #[.int .i64 ps, .int .i64 pg] 41 (0, 0)) := hst
                have hbb := hI.b
                have hb3b := Hb36.out.trans (hbb.mono Hb36.out.size)
                have hhb := (Mod.ofBelow hbb).keep Hh6.out (by simp)
                have hrb := (Mod.ofBelow hbb).keep Hr6.out (by simp)
                have hub := (Mod.ofBelow hbb).keep Hz6.out (by simp)
                have HP2b := Lib.hid (HP2.out _ hb3b)
                clear h1
                simp only [preK_cons, preK_nil, List.getD_cons_zero, List.getD_cons_succ] at hp; simp only [List.mem_cons, List.not_mem_nil, or_false, eq_self, Nat.reduceEqDiff, false_or, true_or, true_and, and_true] at hp
                have q0 := blk_cell hhb 0
                have q1 := blk_cell hhb 1
                simp only [List.getElem?_toArray, List.getElem?_cons_zero, List.getElem?_cons_succ] at q0 q1
                have ql := blk_lt hhb
                have Hst2 := Lib.hid hst'; have Hb3b := Lib.hid hb3b; have Hrb := Lib.hid hrb; have Hub := Lib.hid hub
                clear hst' hb3b hrb hub
                clear hI hst hr2 hbb hhb
                simp only [List.drop_succ_cons, List.drop_zero]
                go_simp
                clear hp
                generalize σ 9 = v9 at *
                subst s9
                go_wp2_with fail
                refine ⟨rfl, ?_⟩
                go_wp2_with fail
                clear q0 q1 ql
                refine HP2b.out.mono ?_
                rintro e w8 ⟨rfl, hb8⟩
                obtain ⟨w9, hw9, hb9, hz9, hs9⟩ := box1 w8 (.cells #[.int .i64 ps, .int .i64 pg] 41)
                have hb89 := hb8.trans (hb9.mono hb8.size)
                have hbf := HB3.out.trans ((Hb3b.out.trans (hb89.mono Hb3b.out.size)).mono HB3.out.size)
                have hr9 := (Mod.ofBelow hb89).keep Hrb.out (by simp)
                have hu9 := (Mod.ofBelow hb89).keep Hub.out (by simp)
                have ht9 := (Mod.ofBelow hb89).keep Hst2.out (by simp)
                have hcB : ∀ w, (binOp .neq 50 (.agg #[.int .i64 K, .int .i64 a0, .int .i64 a1, .int .i64 a2, .int .i64 a3, .int .i64 a4, .int .i64 a5, .int .i64 a6, .int .i64 a7]) (.agg #[.int .i64 K, .int .i64 a0, .int .i64 a1, .int .i64 a2, .int .i64 a3, .int .i64 a4, .int .i64 a5, .int .i64 a6, .int .i64 a7])).run Tryz.prog w = .ok (.bool false) w := fun w => by
                  have h := neqBeast w (K, a0, a1, a2, a3, a4, a5, a6, a7) (K, a0, a1, a2, a3, a4, a5, a6, a7)
                  rw [eqB_self] at h
                  exact h
                have hcH : ∀ w, (binOp .neq 41 (.agg #[.int .i64 ps, .int .i64 pg]) (.agg #[.int .i64 ps, .int .i64 pg])).run Tryz.prog w = .ok (.bool false) w := fun w => by rw [neqHandle, eqB_self]; rfl
                have d0 := blk_cell hr9 0
                have d1 := blk_cell hr9 1
                have d2 := blk_cell hr9 2
                have d3 := blk_cell hr9 3
                have d4 := blk_cell hr9 4
                have d5 := blk_cell hr9 5
                have d6 := blk_cell hr9 6
                have d7 := blk_cell hr9 7
                have d8 := blk_cell hr9 8
                simp only [List.getElem?_toArray, List.getElem?_cons_zero, List.getElem?_cons_succ] at d0 d1 d2 d3 d4 d5 d6 d7 d8
                have dl := blk_lt hr9
                have b0 := blk_cell hu9 0
                have b1 := blk_cell hu9 1
                have b2 := blk_cell hu9 2
                have b3 := blk_cell hu9 3
                have b4 := blk_cell hu9 4
                have b5 := blk_cell hu9 5
                have b6 := blk_cell hu9 6
                have b7 := blk_cell hu9 7
                have b8 := blk_cell hu9 8
                simp only [List.getElem?_toArray, List.getElem?_cons_zero, List.getElem?_cons_succ] at b0 b1 b2 b3 b4 b5 b6 b7 b8
                have bl := blk_lt hu9
                have m0 := blk_cell ht9 0
                have m1 := blk_cell ht9 1
                simp only [List.getElem?_toArray, List.getElem?_cons_zero, List.getElem?_cons_succ] at m0 m1
                have ml := blk_lt ht9
                have n0 := blk_cell hz9 0
                have n1 := blk_cell hz9 1
                simp only [List.getElem?_toArray, List.getElem?_cons_zero, List.getElem?_cons_succ] at n0 n1
                have nl := blk_lt hz9
                have Hbf := Lib.hid hbf
                clear hbf
                have hlt := Hlt.out
                clear hb8 hb9 hb89 hr9 hu9 ht9 hz9
                go_wp2
                go_roundw
                case rel => exact ⟨k + 1, by omega, by go_num, Hbf.out⟩
                case measure => simp [Go.RowKit.intOf]; omega
          · obtain rfl : k = hh.length := by omega
            have hbx := Hb7.out.trans (hBk.mono Hb7.out.size)
            have hzx := (Mod.ofBelow hbx).keep Hz0.out (by simp)
            have hVx := HVr.out.below hbx
            have hQx := HQr.out.below hbx
            have hBx := HBw.out.trans (hbx.mono HBw.out.size)
            obtain ⟨lr, hlr⟩ : ∃ lr, (if qcheck qn qt qa = 0 then rowsM R qn qt qa else []) = lr := ⟨_, rfl⟩
            obtain ⟨ze, hze⟩ : ∃ ze, qcheck qn qt qa = ze := ⟨_, rfl⟩
            have hll : lr.length ≤ 60 := by
              rw [← hlr]
              split
              · exact Nat.le_trans (List.length_filter_le _ _) HO.out.w.len
              · simp
            have hRw : ∀ U, Below wr.heap.size wr U → Calls Tryz.prog 21 #[.pointer (some ⟨p, 0, none⟩), .agg #[.int .i64 qn, .int .i64 qt, .int .i64 qa]] U (fun e w' => ∃ v, e = .returned (.tuple #[v, .int .i64 ze]) ∧ w'.ownsRow U.heap.size 69 11 v lr.length (lr.flatMap rwC) ∧ Below U.heap.size U w') := fun U hb => by
              have h := v_rows (hVx.below hb) qn qt qa
              unfold RowsPost at h
              rw [hlr, hze] at h
              exact h
            have hRq : ∀ U, Below wr.heap.size wr U → Calls Tryz.prog 22 #[.pointer (some ⟨q, 0, none⟩), .agg #[.int .i64 qn, .int .i64 qt, .int .i64 qa]] U (fun e w' => ∃ v, e = .returned (.tuple #[v, .int .i64 ze]) ∧ w'.ownsRow U.heap.size 69 11 v lr.length (lr.flatMap rwC) ∧ Below U.heap.size U w') := fun U hb => by
              have h := q_rows (hQx.below hb) HO.out qn qt qa hqn
              unfold RowsPost at h
              rw [hlr, hze] at h
              exact h
            have Hzx := Lib.hid hzx; have HVx := Lib.hid hVx; have HBx := Lib.hid hBx; have Hll := Lib.hid hll; have HRw := Lib.hid hRw; have HRq := Lib.hid hRq
            clear hzx hVx hBx hll hRw hRq
            clear hrow hBk hlt hbx hlr hze hQx
            go_wp2_with fail
            refine wp_planK [5, 6, 7, 9] 10 [0] [some 107, some 108, some 109, some 110, some 111, some 112, some 106, some 113, some 114, some 21, some 22] [[], [0], [0, 1], [0, 1, 2], [], [0, 1, 2, 3, 4], [0, 1, 2, 3, 4, 5], [0, 1, 2, 3, 4, 5, 6], [0, 1, 2, 3, 4, 5, 6], [0, 1, 2, 3, 4, 5, 6, 7], [0, 1, 2, 3, 4, 5, 6, 7, 8, 9]] [0, 1, 2, 3, 4, 5, 6, 7, 8, 9] (fun Lf σ W => IRw wr lr ze Lf σ W) mixed rfl (by kernel_rfl) (by decide) (by decide) (by decide) (IRw.start below_drew) rfl ?_
            iterate 10 apply Exists.intro
            refine ⟨rfl, ?_, ?_⟩
            · simp only [List.take_succ_cons, List.take_zero, AllFrom.cons_eq, AllFrom.nil_eq, OpGoalK]
              refine ⟨?_, ?_, ?_, ?_, ?_, ?_, ?_, ?_, ?_, ?_, trivial⟩
              all_goals (intro L' σ V h1 h2 h3 hI hp; have HA1 := Lib.hid h1; have HA2 := Lib.hid h2; have HA3 := Lib.hid h3; clear h1 h2 h3; (try simp only [List.getD_cons_zero, List.getD_cons_succ, preK_cons, preK_nil] at hp); (try simp only [List.mem_cons, List.not_mem_nil, or_false, eq_self, Nat.reduceEqDiff, Nat.reduceAdd, Nat.zero_add, false_or, true_or, true_and, and_true] at hp); (first | (have hq : True := hp; clear hq hp) | skip); have HI := Lib.hid hI; clear hI)
              all_goals (
                have hA := (HVx.out.below HI.out.b).cells
                have hc0 := hA.1; have hzz := hA.2.2
                have hzV := (Mod.ofBelow HI.out.b).keep Hzx.out (by simp)
                have o0 := blk_cell hzV 0
                have o1 := blk_cell hzV 1
                have o2 := blk_cell hzV 2
                simp only [List.getElem?_toArray, List.getElem?_cons_zero, List.getElem?_cons_succ] at o0 o1 o2
                have ol := blk_lt hzV
                clear hA hzV)
              · (go_simp; exact ⟨.inr rfl, HI.out.read (by decide) _⟩)
              · (go_simp; exact ⟨.inr rfl, HI.out.read (by decide) _⟩)
              · (go_simp; exact ⟨.inr rfl, HI.out.read (by decide) _⟩)
              · (go_simp; exact ⟨.inr rfl, HI.out.read (by decide) _⟩)
              · (go_simp; exact ⟨.inr rfl, HI.out.read (by decide) _⟩)
              · go_simp
                refine (HRw.out _ HI.out.b).mono ?_
                rintro e V' ⟨v, rfl, hv, hb⟩
                exact ⟨_, rfl, PostK.mk (c := undef) (.inl (by decide)) (HI.out.set hb _ (fun _ => ⟨v, rfl, row_base hv (fun j hj => Nat.le_trans HI.out.b.size (own_ge hv j hj))⟩) (fun e => absurd e (by decide)) (fun e => absurd e (by decide)) (fun e => absurd e (by decide)))⟩
              · go_simp
                exact PostK.mk (c := undef) (.inl (by decide)) (HI.out.set (Below.refl _ _) _ (fun e => absurd e (by decide)) (fun _ => HI.out.a5 (HA2.out 5 (by decide))) (fun e => absurd e (by decide)) (fun e => absurd e (by decide)))
              · have hx := HI.out.a6 (HA2.out 6 (by decide))
                have hy := Classical.choose_spec hx
                generalize Classical.choose hx = v6 at hy
                have e6 := hy.1
                have H6 := Lib.hid hy.2
                clear hx hy
                go_simp
                exact PostK.mk (c := undef) (.inl (by decide)) (HI.out.set (Below.refl _ _) _ (fun e => absurd e (by decide)) (fun e => absurd e (by decide)) (fun _ => H6.out) (fun e => absurd e (by decide)))
              · have hx := HI.out.a6 (HA2.out 6 (by decide))
                have hy := Classical.choose_spec hx
                generalize Classical.choose hx = v6 at hy
                have e6 := hy.1
                clear hx hy
                go_simp
                exact ⟨.inr rfl, HI.out.read (by decide) _⟩
              · go_simp
                exact PostK.mk (c := undef) (.inl (by decide)) (HI.out.set (Below.refl _ _) _ (fun e => absurd e (by decide)) (fun e => absurd e (by decide)) (fun e => absurd e (by decide)) (fun _ => HI.out.a7 (HA2.out 7 (by decide))))
            · intro L' σ Vc h1 hI hp
              have hr9 := hI.a9 (h1 9 (by decide))
              have hbc := hI.b
              clear h1 hI
              simp only [preK_cons, preK_nil, List.getD_cons_zero, List.getD_cons_succ] at hp; simp only [List.mem_cons, List.not_mem_nil, or_false, eq_self, Nat.reduceEqDiff, false_or, true_or, true_and, and_true] at hp
              obtain ⟨A8, c8, e8, -, -⟩ := row_slice hr9
              rw [e8] at hr9
              have hzc := (Mod.ofBelow hbc).keep Hzx.out (by simp)
              have hVc := HVx.out.below hbc
              have hBc := HBx.out.trans (hbc.mono HBx.out.size)
              have HRqc := Lib.hid (HRq.out _ hbc)
              have o0 := blk_cell hzc 0
              have o1 := blk_cell hzc 1
              have o2 := blk_cell hzc 2
              simp only [List.getElem?_toArray, List.getElem?_cons_zero, List.getElem?_cons_succ] at o0 o1 o2
              have ol := blk_lt hzc
              have Hr9 := Lib.hid hr9; have Hbc := Lib.hid hbc; have HVc := Lib.hid hVc; have HBc := Lib.hid hBc
              clear hr9 hbc hVc hBc
              clear hzc
              simp only [List.drop_succ_cons, List.drop_zero]
              go_simp
              clear hp
              generalize σ 9 = v9 at *
              subst e8
              go_wp2_with fail
              refine ⟨rfl, ?_⟩
              go_wp2_with fail
              clear o0 o1 o2 ol
              refine HRqc.out.mono ?_
              rintro e w5 ⟨v5, rfl, hv5, hb5⟩
              obtain ⟨A9, c9, rfl, -, -⟩ := row_slice hv5
              have hV5 := HVc.out.below hb5
              have hr95 := row_mod Hr9.out (Mod.ofBelow hb5) (by simp)
              have hB5 := HBc.out.trans (hb5.mono HBc.out.size)
              have H14 := Lib.hid (vdo_other hV5 0 0 0 0 0 0 0 0 0 0 0 0 0 0 0 0 (by decide) (by decide) (by decide) (by decide) (by decide) (by decide))
              have hn1 : ∀ j, (Value.slice A8 lr.length c8).ownBlock = some j → j ∉ FV := fun j hj e => by
                have h1 := own_ge Hr9.out j hj
                have h2 := HVx.out.lt j e
                omega
              have hn2 : ∀ j, (Value.slice A9 lr.length c9).ownBlock = some j → j ∉ FV := fun j hj e => by
                have h1 := own_ge hv5 j hj
                have h2 := HVc.out.lt j e
                omega
              have Hr95 := Lib.hid hr95; have Hv5 := Lib.hid hv5; have HB5 := Lib.hid hB5; have HN1 := Lib.hid hn1; have HN2 := Lib.hid hn2
              clear hr95 hv5 hB5 hn1 hn2
              clear hV5 hb5
              go_wp2_with fail
              refine H14.out.mono ?_
              rintro e w6 ⟨rfl, hP6⟩
              have hg1 := row_mod Hr95.out hP6.mod HN1.out
              have hg2 := row_mod Hv5.out hP6.mod HN2.out
              have hB6 := HB5.out.trans (hP6.mod.toBelow Haf.out HB5.out.size)
              obtain ⟨w7, hw7, hb7', hz7, hs7⟩ := box1 w6 (.cells #[.int .i64 0, .int .i64 0] 41)
              have H15 := Lib.hid (eqRows_self lr _ _ w7 (by have := Hll.out; omega) (row_mod hg1 (Mod.ofBelow hb7') (by simp)) (row_mod hg2 (Mod.ofBelow hb7') (by simp)))
              have hB7 := hB6.trans (hb7'.mono hB6.size)
              have HB7 := Lib.hid hB7; have Hw7 := Lib.hid hw7
              clear hB7 hw7
              clear hP6 hg1 hg2 hB6 hb7' hz7 hs7
              go_wp2_with (first | (refine wpList_store_new rfl 41 (.tmp 25) (.tmp 125) rfl w6 (ints [0, 0]) [.int .i64 0, .int .i64 0] 41 rfl rfl rfl (by kernel_rfl) (handleC_one (0, 0)) ?_; rw [show ([.int .i64 0, .int .i64 0] : List Value).toArray = #[.int .i64 0, .int .i64 0] from rfl, Hw7.out]) | fail)
              refine H15.out.mono ?_
              rintro e w8 ⟨rfl, hb8⟩
              have hB8 := HB7.out.trans (hb8.mono HB7.out.size)
              have HB8 := Lib.hid hB8
              clear hB8
              clear hb8
              go_wp2
              go_ret
              exact ⟨rfl, HB8.out⟩

set_option maxRecDepth 100000 in
theorem zooTells_law {H : Type} {enc : TypeId × Value → H} (W : World) (base : Nat) (args : Array Value) (ds : List (DataW H)) (ps : List MemPlace)
    (hval : ∀ (j : Nat) t v, Tryz.f4.params[j]? = some t → args[j]? = some v → Value.okWide Tryz.prog W .any base t v)
    (hA : DataW.TrodAll enc Tryz.prog W 0 (fun _ => true) true Tryz.f4.params.toList args.toList ds ps) (hlt : ∀ p ∈ ps, p.block < W.heap.size)
    (hsz : ∀ (j : Nat) t d, Tryz.f4.params.toList[j]? = some t → ds[j]? = some d → ∀ m ∈ d.weights Tryz.prog t, m ≤ reachBytes) :
    Calls Tryz.prog 4 args W fun e W' => e = .returned (.bool true) ∧ Below W.heap.size W W' := by
  rw [Tryz.params4] at hA hval hsz
  obtain ⟨v0, v1, v2, d0, d1, d2, p0, p1, p2, rfl, rfl, rfl, h0, h1, h2⟩ := trodAll_three hA
  obtain ⟨A, n, c, zs, rfl, hnc, hc, hlen, hin, hL⟩ := open_slice_flat Tryz.underlying37 intCells_Op (k := 16) (by kernel_rfl) (by omega) (hval 0 37 _ rfl rfl) h0 (fun p hp => hlt p (by simp [hp]))
  obtain ⟨l, hl, rfl⟩ := unflat opI 16 opI_mk n zs hlen
  have hs := slice_size Tryz.underlying37 h0 (hsz 0 37 d0 rfl rfl)
  rw [show Tryz.prog.bytesOf 52 = 128 by kernel_rfl, reach_val] at hs
  rw [show ints (l.flatMap opI) = l.flatMap opC by unfold ints opC; rw [List.map_flatMap]; rfl] at hL
  subst hl
  have hR : ∀ x ∈ l, HdR x.2.2.1 ∧ HdR x.2.2.2.1 := fun x hx => by
    have hz : ∀ z ∈ opI x, InR z := fun z hz => hin z (List.mem_flatMap.2 ⟨x, hx, hz⟩)
    obtain ⟨d, ⟨K, a0, a1, a2, a3, a4, a5, a6, a7⟩, ⟨s, g⟩, ⟨ts, tg⟩, kd, n⟩ := x
    exact ⟨⟨hz s (by simp [opI, btI, hdI]), hz g (by simp [opI, btI, hdI])⟩, ⟨hz ts (by simp [opI, btI, hdI]), hz tg (by simp [opI, btI, hdI])⟩⟩
  obtain ⟨cs, rfl, -⟩ := okWide_struct Tryz.underlying39 (hval 1 39 v1 rfl rfl)
  obtain ⟨qs, rfl, hqy, hqr⟩ := open_flat intCells_Query h1
  have hqy : qs.length = 3 := hqy.trans (by kernel_rfl)
  obtain ⟨cs, rfl, -⟩ := okWide_struct Tryz.underlying41 (hval 2 41 v2 rfl rfl)
  obtain ⟨ys, rfl, hy, hyr⟩ := open_flat intCells_Handle h2
  have hy : ys.length = 2 := hy.trans (by kernel_rfl)
  match qs, hqy, hqr with
  | [qn, qt, qa], _, hqr =>
    match ys, hy, hyr with
    | [a, b], _, hyr => exact zooTells_ok A c l qn qt qa a b (hqr qn (by simp)) ⟨hyr a (by simp), hyr b (by simp)⟩ W hs hL hR

set_option maxRecDepth 100000 in
theorem zooTells_lifted (os : Os) (started : os.Started) (H : Type) (enc : TypeId × Value → H) :
    ReturnsInHanded {} Tryz.checked os 4 .any (Rows.zooTellsSpec.pre6 enc Tryz.prog Tryz.f4 Rows.zooTellsRow.domain false) (Rows.zooTellsSpec.post enc Tryz.prog Tryz.f4 false true false false) := by
  refine law_lifted_sized (C := Tryz.checked) (tb := 4) started own_ laid_ (by kernel_rfl) Tryz.func4 ?_ rfl rfl (by kernel_rfl) (fun ds h => ?_)
    (ChangeSpec.witness6 (enc := enc) (C := Tryz.checked) false ⟨#[], #[.slice none 0 0, .agg #[.int .i64 0, .int .i64 0, .int .i64 0], .agg #[.int .i64 0, .int .i64 0]], []⟩ 8 (by kernel_rfl) (by kernel_rfl) (by kernel_rfl) (by kernel_rfl)) ?_
  · intro t ht
    have : t = 37 ∨ t = 39 ∨ t = 41 := by simpa [Tryz.params4] using ht
    rcases this with rfl | rfl | rfl
    all_goals exact ⟨by kernel_rfl, of_decide_eq_true (by kernel_rfl)⟩
  · match ds, h with
    | [d0, d1, d2], _ => rfl
  · intro W base args ds ps hval hA hlt hsz
    exact zooTells_law W base args ds ps hval hA hlt hsz

set_option maxHeartbeats 4000000 in
theorem zooTells_closed : joinedFacts Tryz.prog 4 Tryz.f4 Rows.zooTellsSpec Rows.zooTellsRow = true := by
  unfold joinedFacts
  repeat' (with_reducible refine and_intro ?_ ?_)
  · as_aux_lemma => kernel_rfl
  · exact laid_
  · exact mapsRowed_
  · as_aux_lemma => kernel_rfl
  · as_aux_lemma => kernel_rfl
  · as_aux_lemma => kernel_rfl
  · exact stops_
  · as_aux_lemma => kernel_rfl
  · exact stopKnobs_
  · as_aux_lemma => kernel_rfl
  · as_aux_lemma => kernel_rfl
  · as_aux_lemma => kernel_rfl
  · as_aux_lemma => kernel_rfl
  · as_aux_lemma => kernel_rfl
  · as_aux_lemma => kernel_rfl
  · as_aux_lemma => kernel_rfl
  · as_aux_lemma => kernel_rfl
  · as_aux_lemma => kernel_rfl
  · as_aux_lemma => kernel_rfl
  · as_aux_lemma => kernel_rfl
  · as_aux_lemma => kernel_rfl
  · as_aux_lemma => kernel_rfl
  · exact plainKeys_
  · as_aux_lemma => kernel_rfl
  · exact stopsHeard_
  · exact mayEnter_
  · exact liftsFinal_
  · exact make_
  · as_aux_lemma => kernel_rfl
  · as_aux_lemma => kernel_rfl
  · as_aux_lemma => kernel_rfl
  · as_aux_lemma => kernel_rfl

theorem zooTells_holds : Rows.ZooTellsSaid :=
  OpenClaim.holds_of_wide 4 Tryz.f4 rfl rfl rfl rfl rfl rfl rfl ⟨rfl, rfl, rfl, rfl, rfl⟩ rfl rfl rfl rfl rfl (by as_aux_lemma => kernel_rfl) Tryz.func4 zooTells_closed
    (of_decide_eq_true (by as_aux_lemma => kernel_rfl)) (by unfold Func.isWrapper; first | (rw [if_pos (by decide +kernel)]; kernel_rfl) | (rw [if_neg (by decide +kernel)]; exact ⟨rfl, rfl⟩))
    (fun os started H enc _ => zooTells_lifted os started H enc)
#print axioms zooTells_holds
end Go.Proofs.YtehjfmjibiafdaaGreat
