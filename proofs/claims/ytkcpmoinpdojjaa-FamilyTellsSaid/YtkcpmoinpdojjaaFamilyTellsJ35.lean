import Derived.Test.YtkcpmoinpdojjaaFamilyTellsJ27
import Derived.Test.YtkcpmoinpdojjaaFamilyTellsJ34
import Derived.Test.YtkcpmoinpdojjaaRows
/- The law FamilyDoes returns true for every input. (printed by mk_fdoes.py) -/
namespace Go.Proofs.Ytkcpmoinpdojjaa
open Go Go.RowKit Go.ChangeShapes Go.WideShapes Go.ChangeAt

attribute [local go_sem] AllFrom.cons_eq AllFrom.nil_eq putF_nil putF_cons wantedL_none wantedL_some OpGoalT OpGoalV OpGoalQ OpGoalA OpGoalK YieldsR preF_nil preF_cons

theorem pf_start {w w1 w2 : World} {f : Nat} {F : List Nat} (h : RepF w1 f [] F) (hF : ∀ y ∈ F, w.heap.size ≤ y) (hb : Below w.heap.size w w1) (h2 : w1.alloc (.cells #[.slice none 0 0, .slice none 0 0, .slice none 0 0, .slice none 0 0] 72) = w2) :
    PF (.slice none 0 0) (.slice none 0 0) (.slice none 0 0) w.heap.size [] f w1.heap.size [] [] w2 ∧ Below w.heap.size w w2 := by
  have hlt := h.lt
  have hs := hb.size
  have hb2 : Below w1.heap.size w1 w2 := by rw [← h2]; exact (Below.refl _ _).alloc (Nat.le_refl _) _
  have hq : w2.heap[w1.heap.size]? = some (.cells #[.slice none 0 0, .slice none 0 0, .slice none 0 0, .slice none 0 0] 72 (0, 0)) := by rw [← h2]; exact heap_alloc_new w1 _
  refine ⟨⟨F, [w1.heap.size], ⟨h.below hb2, ⟨.slice none 0 0, hq, ⟨rfl, .inl ⟨rfl, rfl⟩⟩, rfl, by simp [Value.ownBlock]⟩, fun y hy e => ?_, fun y hy => ⟨hF y hy, by simp⟩, fun y hy => ?_, by have := hb2.size; omega, by simp⟩⟩, hb.trans (hb2.mono hs)⟩
  · have := hlt y hy; simp at e; omega
  · simp at hy; subst hy; exact ⟨hs, by simp⟩
theorem eqBd_rows (l : List Bd) (v v' : Value) (w : World) (hl : l.length ≤ 1200000000000) (h : w.ownsRow 0 90 4 v l.length (l.flatMap bdC)) (h' : w.ownsRow 0 90 4 v' l.length (l.flatMap bdC)) :
    Calls Try.prog 40 #[v, v'] w fun e w' => e = .returned (.bool true) ∧ Below w.heap.size w w' := by
  obtain ⟨A, c, rfl, hc, hA⟩ := own_lies h
  obtain ⟨A', c', rfl, hc', hA'⟩ := own_lies h'
  have := eqBond_any A c A' c' l l w (by omega) (by omega) hA hA'
  rw [eqB_self] at this
  exact this

/-- What holds behind related, as the comparison of the bonds goes on. -/
structure IB1 (Lo : Nat) (Z : List Nat) (f q : Nat) (B : List Bd) (L : Nat → Bool) (σ : Nat → Value) (V : World) : Prop where
  pf : PF (.slice none 0 0) (.slice none 0 0) (.slice none 0 0) Lo Z f q B B V
  a7 : L 7 = true → V.ownsRow 0 90 4 (σ 7) B.length (B.flatMap bdC)
  a11 : L 11 = true → V.ownsRow 0 90 4 (σ 11) B.length (B.flatMap bdC)
structure IBnd (Lo : Nat) (Z : List Nat) (w0 : World) (f q : Nat) (B : List Bd) (L : Nat → Bool) (σ : Nat → Value) (V : World) : Prop where
  g : Went Lo Z w0 V
  s0 : L 3 = false → PF (.slice none 0 0) (.slice none 0 0) (.slice none 0 0) Lo Z f q B B V
  s1 : L 3 = true → ∃ B1 : List Bd, B1.length ≤ B.length + 1 ∧ IB1 Lo Z f q B1 L σ V
section
variable {Lo : Nat} {Z : List Nat} {w0 V V' : World} {f q : Nat} {B : List Bd} {L : Nat → Bool} {σ : Nat → Value}
theorem IBnd.start (h : PF (.slice none 0 0) (.slice none 0 0) (.slice none 0 0) Lo Z f q B B V) (hg : Went Lo Z w0 V) : IBnd Lo Z w0 f q B (fun _ => false) σ V := ⟨hg, fun _ => h, fun e => (by cases e)⟩
theorem IBnd.read (h : IBnd Lo Z w0 f q B L σ V) {i : Nat} (hi : 3 ≠ i ∧ 7 ≠ i ∧ 11 ≠ i) (v : Value) : IBnd Lo Z w0 f q B (upd L i) (updv σ i v) V := by
  obtain ⟨n1, n2, n3⟩ := hi
  have eL : ∀ j, j ≠ i → upd L i j = L j := fun j hj => by unfold upd; simp [hj]
  have es : ∀ j, j ≠ i → updv σ i v j = σ j := fun j hj => by unfold updv; rw [if_neg hj]
  refine ⟨h.g, by rw [eL 3 n1]; exact h.s0, ?_⟩
  rw [eL 3 n1]
  intro e
  obtain ⟨B1, hl, h1⟩ := h.s1 e
  refine ⟨B1, hl, h1.pf, ?_, ?_⟩
  · rw [eL 7 n2, es 7 n2]; exact h1.a7
  · rw [eL 11 n3, es 11 n3]; exact h1.a11
theorem IBnd.did (h : IBnd Lo Z w0 f q B L σ V) (h7 : L 7 = false) (h11 : L 11 = false) (hp : ∃ B1 : List Bd, B1.length ≤ B.length + 1 ∧ PF (.slice none 0 0) (.slice none 0 0) (.slice none 0 0) Lo Z f q B1 B1 V') (hb : Below Lo V V') (hk : KeepZ Z V V') (v : Value) : IBnd Lo Z w0 f q B (upd L 3) (updv σ 3 v) V' := by
  obtain ⟨B1, hl, hp⟩ := hp
  have eL : ∀ j, j ≠ 3 → upd L 3 j = L j := fun j hj => by unfold upd; simp [hj]
  refine ⟨h.g.trans ⟨hb, hk⟩, fun e => by simp [upd] at e, fun _ => ⟨B1, hl, hp, ?_, ?_⟩⟩
  · rw [eL 7 (by decide), h7]; intro e; cases e
  · rw [eL 11 (by decide), h11]; intro e; cases e
theorem pf_bonds (h : PF (.slice none 0 0) (.slice none 0 0) (.slice none 0 0) Lo Z f q B B V) : q < V.heap.size ∧ ∃ vB, V.cell? ⟨q, 3, none⟩ = some vB ∧ V.ownsRow 0 90 4 vB B.length (B.flatMap bdC) := by
  obtain ⟨F, G, h⟩ := h
  obtain ⟨vB, h1, h2, -⟩ := h.b
  have e0 := blk_cell h1 3
  simp only [List.getElem?_toArray, List.getElem?_cons_zero, List.getElem?_cons_succ] at e0
  exact ⟨blk_lt h1, vB, e0, h2⟩
theorem IBnd.row (h : IBnd Lo Z w0 f q B L σ V) (h3 : L 3 = true) : q < V.heap.size ∧ ∃ vg, V.cell? ⟨q, 3, none⟩ = some vg ∧ IBnd Lo Z w0 f q B (upd L 11) (updv σ 11 vg) V := by
  obtain ⟨B1, hl, h1⟩ := h.s1 h3
  obtain ⟨hql, vg, hc, hS⟩ := pf_bonds h1.pf
  have eL : ∀ j, j ≠ 11 → upd L 11 j = L j := fun j hj => by unfold upd; simp [hj]
  have es : ∀ v j, j ≠ 11 → updv σ 11 v j = σ j := fun v j hj => by unfold updv; rw [if_neg hj]
  refine ⟨hql, vg, hc, h.g, by rw [eL 3 (by decide)]; exact h.s0, fun _ => ⟨B1, hl, h1.pf, ?_, fun _ => by simpa [updv] using hS⟩⟩
  rw [eL 7 (by decide), es _ 7 (by decide)]; exact h1.a7
theorem IBnd.call (h : IBnd Lo Z w0 f q B L σ V) (h3 : L 3 = true) (hB : B.length < 1200000000000) : Calls Try.prog 41 #[.pointer (some ⟨f, 0, none⟩)] V (fun e V' => ∃ v, e = .returned v ∧ IBnd Lo Z w0 f q B (upd L 7) (updv σ 7 v) V') := by
  obtain ⟨B1, hl, h1⟩ := h.s1 h3
  obtain ⟨F, G, hS⟩ := id h1.pf
  refine (bonds_any hS.a (by omega)).mono ?_
  rintro e V' ⟨v, rfl, hv, hb⟩
  have hp := pf_below h1.pf hb
  have eL : ∀ j, j ≠ 7 → upd L 7 j = L j := fun j hj => by unfold upd; simp [hj]
  have es : ∀ j, j ≠ 7 → updv σ 7 v j = σ j := fun j hj => by unfold updv; rw [if_neg hj]
  refine ⟨v, rfl, h.g.trans ⟨hp.2.1, hp.2.2⟩, fun e => ?_, fun _ => ⟨B1, hl, hp.1, fun _ => ?_, ?_⟩⟩
  · rw [eL 3 (by decide), h3] at e; cases e
  · simpa [updv] using row_base hv (fun k _ => Nat.zero_le k)
  · rw [eL 11 (by decide), es 11 (by decide)]
    exact fun e => row_mod (h1.a11 e) (Mod.ofBelow hb) (by simp)
end

theorem hd0 : HdR (0, 0) := ⟨by unfold InR; simp, by unfold InR; simp⟩
set_option maxRecDepth 100000 in
set_option maxHeartbeats 8000000 in
theorem familyDoes_ok (A : Option Addr) (c : Nat) (l : List Ov) (w : World) (hl : l.length * 128 ≤ 140737488351232) (hA : Lies w w.heap.size A (l.flatMap opC)) (hR : ∀ x ∈ l, HdR x.2.2.1 ∧ HdR x.2.2.2.1) :
    Calls Try.prog 6 #[.slice A l.length c] w fun e w' => e = .returned (.bool true) ∧ Below w.heap.size w w' := by
  have H1 := Lib.hid (famNew_any w)
  have hl2 : l.length ≤ 1200000000000 := by omega
  have HA := Lib.hid hA
  have HRs := Lib.hid hR
  clear hl hA hR
  go_enter Try.func6, Try.ntmps6
  go_wp2_with fail
  refine H1.out.mono ?_
  rintro e w1 ⟨f, F, rfl, hW, hF, hb⟩
  obtain ⟨w2, hw2⟩ : ∃ w2, w1.alloc (.cells #[.slice none 0 0, .slice none 0 0, .slice none 0 0, .slice none 0 0] 72) = w2 := ⟨_, rfl⟩
  obtain ⟨hP, hB⟩ := pf_start hW hF hb hw2
  have HP0 := Lib.hid hP; have HB0 := Lib.hid hB
  clear hP hB
  clear hW hF hb H1
  go_wp2_with fail
  clear hw2
  generalize w1.heap.size = q at *
  go_loopw [18] (fun i wr => ∃ (k : Nat) (B : List Bd), k ≤ l.length ∧ B.length ≤ k ∧ i = .int .i64 k ∧ PF (.slice none 0 0) (.slice none 0 0) (.slice none 0 0) w.heap.size [] f q B B wr ∧ Below w.heap.size w wr) (fun i _ => l.length - (intOf i).toNat)
  case atStart => exact ⟨0, [], by omega, by simp, rfl, HP0.out, HB0.out⟩
  case round =>
    obtain ⟨k, B, hk, hBk, rfl, hP, hB⟩ := hrel
    clear HP0 HB0
    have hsz := hB.size
    by_cases hlt : k < l.length
    · obtain ⟨ab, ao, rfl, hal, hc⟩ := HA.out.rec_at opC_len (by omega) hlt
      have hq : ∀ j u, (opC l[k])[j]? = some u → wr.cell? ((⟨ab, ao + k * 16, none⟩ : Addr).add j) = some u := fun j u hu => (hB.cell (p := (⟨ab, ao + k * 16, none⟩ : Addr).add j) (by rw [add_block]; exact hal)).trans (by first | exact hc j u hu | (have := hc j u hu; rw [Addr.add_mid]; exact this))
      have hx := HRs.out l[k] (List.getElem_mem hlt)
      generalize l[k] = x at *
      obtain ⟨d, ⟨K, a0, a1, a2, a3, a4, a5, a6, a7⟩, ⟨s, g⟩, ⟨ts, tg⟩, kd, n⟩ := x
      simp only at hx
      obtain ⟨w3, hw3⟩ : ∃ w3, w3 = wr.alloc (.cells #[.int .i64 d, .int .i64 K, .int .i64 a0, .int .i64 a1, .int .i64 a2, .int .i64 a3, .int .i64 a4, .int .i64 a5, .int .i64 a6, .int .i64 a7, .int .i64 s, .int .i64 g, .int .i64 ts, .int .i64 tg, .int .i64 kd, .int .i64 n] 74) := ⟨_, rfl⟩
      have hk3 : w3.heap[wr.heap.size]? = some (.cells #[.int .i64 d, .int .i64 K, .int .i64 a0, .int .i64 a1, .int .i64 a2, .int .i64 a3, .int .i64 a4, .int .i64 a5, .int .i64 a6, .int .i64 a7, .int .i64 s, .int .i64 g, .int .i64 ts, .int .i64 tg, .int .i64 kd, .int .i64 n] 74 (0, 0)) := by rw [hw3]; exact heap_alloc_new _ _
      have hb3 : Below wr.heap.size wr w3 := by rw [hw3]; exact (Below.refl _ _).alloc (Nat.le_refl _) _
      have hP3 := Sep.fresh (own_F _ _) (own_B _ _ _ _ _) hP hb3 wr.heap.size (Nat.le_refl _) (by rw [hw3]; simp)
      have hB3 := hb3.mono hsz
      have HP := Lib.hid hq; have HO := Lib.hid (opC_one (d, (K, a0, a1, a2, a3, a4, a5, a6, a7), (s, g), (ts, tg), kd, n)); have HW3 := Lib.hid hw3
      have HP3 := Lib.hid hP3; have HB3 := Lib.hid (hB.trans hB3); have HK3 := Lib.hid hk3
      have hki : (k : Int) < (l.length : Int) := by omega
      have HX := Lib.hid hx
      have HBk := Lib.hid hBk
      have c0 := blk_cell hk3 0
      have c1 := blk_cell hk3 1
      have c2 := blk_cell hk3 2
      have c3 := blk_cell hk3 3
      have c4 := blk_cell hk3 4
      have c5 := blk_cell hk3 5
      have c6 := blk_cell hk3 6
      have c7 := blk_cell hk3 7
      have c8 := blk_cell hk3 8
      have c9 := blk_cell hk3 9
      have c10 := blk_cell hk3 10
      have c11 := blk_cell hk3 11
      have c12 := blk_cell hk3 12
      have c13 := blk_cell hk3 13
      have c14 := blk_cell hk3 14
      have c15 := blk_cell hk3 15
      simp only [List.getElem?_toArray, List.getElem?_cons_zero, List.getElem?_cons_succ] at c0 c1 c2 c3 c4 c5 c6 c7 c8 c9 c10 c11 c12 c13 c14 c15
      have cl := blk_lt hk3
      clear hq hc hw3 hP hB hP3 hB3 hb3 hk3 hx hBk
      go_wp2_with (first | (refine wpList_load_flat rfl 74 (.tmp 20) rfl _ rfl (opC (d, (K, a0, a1, a2, a3, a4, a5, a6, a7), (s, g), (ts, tg), kd, n)) _ Try.underlying74 rfl (sz_Op _) HP.out ?_) | (refine wpList_store_new rfl 74 (.tmp 6) (.tmp 21) rfl wr (ints [0, 0, 0, 0, 0, 0, 0, 0, 0, 0, 0, 0, 0, 0, 0, 0]) (opC (d, (K, a0, a1, a2, a3, a4, a5, a6, a7), (s, g), (ts, tg), kd, n)) 74 rfl rfl rfl (sz_Op _) HO.out ?_; rw [show (opC (d, (K, a0, a1, a2, a3, a4, a5, a6, a7), (s, g), (ts, tg), kd, n)).toArray = #[.int .i64 d, .int .i64 K, .int .i64 a0, .int .i64 a1, .int .i64 a2, .int .i64 a3, .int .i64 a4, .int .i64 a5, .int .i64 a6, .int .i64 a7, .int .i64 s, .int .i64 g, .int .i64 ts, .int .i64 tg, .int .i64 kd, .int .i64 n] from rfl, ← HW3.out]; clear HW3))
      clear c0 c1 c2 c3 c4 c5 c6 c7 c8 c9 c10 c11 c12 c13 c14 c15 cl
      refine wp_planK [7, 11] 12 [0, 1] [some 22, some 23, some 24, some 25, some 26, some 27, some 28, some 29, some 30, some 31, some 32, some 33, some 34, some 35, some 36] [[], [], [], [0, 1, 2], [0, 1, 2, 3], [0, 1, 2, 3, 4], [0, 1, 2, 3, 4, 5], [0, 1, 2, 3, 4, 5, 6], [0, 1, 2, 3, 4, 5], [0, 1, 2, 3, 4, 5, 8], [0, 1, 2, 3, 4, 5, 8, 9], [0, 1, 2, 3, 4, 5, 8, 9, 10], [0, 1, 2, 3, 4, 5, 6, 7, 8, 9, 10, 11], [0, 1, 2, 3, 4, 5, 6, 7, 8, 9, 10, 11, 12], [0, 1, 2, 3, 4, 5, 6, 7, 8, 9, 10, 11, 12, 13]] [0, 1, 2, 3, 4, 5, 6, 7, 8, 9, 10, 11] (fun Lf σ V => IBnd w.heap.size [wr.heap.size] w3 f q B Lf σ V) mixed rfl (by kernel_rfl) (by decide) (by decide) (by decide) (IBnd.start (pf_below HP3.out below_drew).1 ⟨(pf_below HP3.out below_drew).2.1, (pf_below HP3.out below_drew).2.2⟩) rfl ?_
      iterate 12 apply Exists.intro
      refine ⟨rfl, ?_, ?_⟩
      · simp only [List.take_succ_cons, List.take_zero, AllFrom.cons_eq, AllFrom.nil_eq, OpGoalK]
        refine ⟨?_, ?_, ?_, ?_, ?_, ?_, ?_, ?_, ?_, ?_, ?_, ?_, trivial⟩
        all_goals (intro L' σ V h1 h2 h3 hI hp; have HA1 := Lib.hid h1; have HA2 := Lib.hid h2; have HA3 := Lib.hid h3; clear h1 h2 h3; (try simp only [List.getD_cons_zero, List.getD_cons_succ, preK_cons, preK_nil] at hp); (try simp only [List.mem_cons, List.not_mem_nil, or_false, eq_self, Nat.reduceEqDiff, Nat.reduceAdd, Nat.zero_add, false_or, true_or, true_and, and_true] at hp); (first | (have hq : True := hp; clear hq hp) | skip); have HI := Lib.hid hI; clear hI)
        all_goals (
          have hzV := HI.out.g.k _ (by simp) _ HK3.out
          have c0 := blk_cell hzV 0
          have c1 := blk_cell hzV 1
          have c2 := blk_cell hzV 2
          have c3 := blk_cell hzV 3
          have c4 := blk_cell hzV 4
          have c5 := blk_cell hzV 5
          have c6 := blk_cell hzV 6
          have c7 := blk_cell hzV 7
          have c8 := blk_cell hzV 8
          have c9 := blk_cell hzV 9
          have c10 := blk_cell hzV 10
          have c11 := blk_cell hzV 11
          have c12 := blk_cell hzV 12
          have c13 := blk_cell hzV 13
          have c14 := blk_cell hzV 14
          have c15 := blk_cell hzV 15
          simp only [List.getElem?_toArray, List.getElem?_cons_zero, List.getElem?_cons_succ] at c0 c1 c2 c3 c4 c5 c6 c7 c8 c9 c10 c11 c12 c13 c14 c15
          have cl := blk_lt hzV
          clear hzV)
        · (go_simp; exact ⟨.inr rfl, HI.out.read (by decide) _⟩)
        · (go_simp; exact ⟨.inr rfl, HI.out.read (by decide) _⟩)
        · (go_simp; exact ⟨.inr rfl, HI.out.read (by decide) _⟩)
        · go_simp
          refine (related_any (HI.out.s0 HA1.out) (by have := HBk.out; omega) d K a0 a1 a2 a3 a4 a5 a6 a7 s g ts tg kd n HX.out.1 HX.out.2).mono ?_
          rintro e V' ⟨rfl, h1, hb, hk⟩
          exact ⟨_, rfl, .inr rfl, HI.out.did (HA3.out 7 (by decide)) (HA3.out 11 (by decide)) h1 hb hk _⟩
        · (go_simp; exact ⟨.inr rfl, HI.out.read (by decide) _⟩)
        · (go_simp; exact ⟨.inr rfl, HI.out.read (by decide) _⟩)
        · (go_simp; exact ⟨.inr rfl, HI.out.read (by decide) _⟩)
        · have hcall := HI.out.call (HA2.out 3 (by decide)) (by have := HBk.out; omega)
          have HC := Lib.hid hcall
          clear hcall
          go_simp
          refine HC.out.mono ?_
          rintro e V' ⟨v, rfl, hI2⟩
          exact ⟨_, rfl, PostK.mk (c := undef) (.inl (by decide)) hI2⟩
        · (go_simp; exact ⟨.inr rfl, HI.out.read (by decide) _⟩)
        · (go_simp; exact ⟨.inr rfl, HI.out.read (by decide) _⟩)
        · (go_simp; exact ⟨.inr rfl, HI.out.read (by decide) _⟩)
        · have hx := HI.out.row (HA2.out 3 (by decide))
          have hpl := hx.1
          have hx2 := Classical.choose_spec hx.2
          generalize Classical.choose hx.2 = vg at hx2
          have hc0 := hx2.1
          have hI2 := hx2.2
          clear hx hx2
          have HI2 := Lib.hid hI2
          clear hI2
          go_simp
          exact PostK.mk (c := undef) (.inl (by decide)) HI2.out
      · intro L' σ V h1 hI hp
        have hx := Classical.choose_spec (hI.s1 (h1 3 (by decide)))
        generalize Classical.choose (hI.s1 (h1 3 (by decide))) = B1 at hx
        have hBl := hx.1
        have hG := hx.2
        have h7 := hG.a7 (h1 7 (by decide))
        have h11 := hG.a11 (h1 11 (by decide))
        have hPV := hG.pf
        have hgV := hI.g
        clear h1 hI hG hx
        simp only [preK_cons, preK_nil, List.getD_cons_zero, List.getD_cons_succ] at hp; simp only [List.mem_cons, List.not_mem_nil, or_false, eq_self, Nat.reduceEqDiff, false_or, true_or, true_and, and_true] at hp
        have hB1 : B1.length ≤ k + 1 := by have := HBk.out; omega
        have hE := eqBd_rows B1 (σ 7) (σ 11) V (by omega) h7 h11
        have hw9 : ∀ (Z : List Nat) W, PF (.slice none 0 0) (.slice none 0 0) (.slice none 0 0) w.heap.size Z f q B1 B1 W → Calls Try.prog 42 #[.pointer (some ⟨f, 0, none⟩), .agg #[.int .i64 s, .int .i64 g]] W (PFPost (.slice none 0 0) (.slice none 0 0) (.slice none 0 0) w.heap.size Z f q B1 B1 W (.tuple #[hdV (parV (parB B1 (s, g))), .bool (parB B1 (s, g)).isSome])) := fun Z W h => pf_fparent h s g HX.out.1
        have hz9 : ∀ (Z : List Nat) W, PF (.slice none 0 0) (.slice none 0 0) (.slice none 0 0) w.heap.size Z f q B1 B1 W → Calls Try.prog 43 #[.pointer (some ⟨q, 0, none⟩), .agg #[.int .i64 s, .int .i64 g]] W (PFPost (.slice none 0 0) (.slice none 0 0) (.slice none 0 0) w.heap.size Z f q B1 B1 W (.tuple #[hdV (parV (parB B1 (s, g))), .bool (parB B1 (s, g)).isSome])) := fun Z W h => pf_rparent h (by omega) s g
        generalize parV (parB B1 (s, g)) = pv at hz9 hw9
        generalize (parB B1 (s, g)).isSome = bo at hz9 hw9
        obtain ⟨p0, p1⟩ := pv
        simp only [hdV, handleC] at hz9 hw9
        have hcmp : ∀ w, (binOp .neq 45 (.agg #[.int .i64 p0, .int .i64 p1]) (.agg #[.int .i64 p0, .int .i64 p1])).run Try.prog w = .ok (.bool false) w := fun w => by rw [neqHandle, eqB_self]; rfl
        have HE := Lib.hid hE; have HPV := Lib.hid hPV; have HgV := Lib.hid hgV; have HZ9 := Lib.hid hz9; have HW9 := Lib.hid hw9; have HCMP := Lib.hid hcmp; have HLB1 := Lib.hid hB1
        clear hE hPV hgV hz9 hw9 hcmp hB1
        clear h7 h11 hBl
        simp only [List.drop_succ_cons, List.drop_zero]
        go_simp
        clear hp
        go_wp2_with fail
        refine HE.out.mono ?_
        rintro e w5 ⟨rfl, hb5⟩
        have hP5 := pf_below HPV.out hb5
        have hg5 : Went w.heap.size [wr.heap.size] w3 w5 := HgV.out.trans ⟨hP5.2.1, hP5.2.2⟩
        have hz5 := hg5.k _ (by simp) _ HK3.out
        have H9 := Lib.hid (HW9.out _ _ hP5.1)
        have c0 := blk_cell hz5 0
        have c1 := blk_cell hz5 1
        have c2 := blk_cell hz5 2
        have c3 := blk_cell hz5 3
        have c4 := blk_cell hz5 4
        have c5 := blk_cell hz5 5
        have c6 := blk_cell hz5 6
        have c7 := blk_cell hz5 7
        have c8 := blk_cell hz5 8
        have c9 := blk_cell hz5 9
        have c10 := blk_cell hz5 10
        have c11 := blk_cell hz5 11
        have c12 := blk_cell hz5 12
        have c13 := blk_cell hz5 13
        have c14 := blk_cell hz5 14
        have c15 := blk_cell hz5 15
        simp only [List.getElem?_toArray, List.getElem?_cons_zero, List.getElem?_cons_succ] at c0 c1 c2 c3 c4 c5 c6 c7 c8 c9 c10 c11 c12 c13 c14 c15
        have cl := blk_lt hz5
        have Hg5 := Lib.hid hg5
        clear hg5
        clear hb5 hP5 hz5
        go_wp2_with fail
        refine ⟨rfl, ?_⟩
        go_wp2_with fail
        refine H9.out.mono ?_
        rintro e w6 ⟨rfl, h6, hb6, hk6⟩
        obtain ⟨w7, hw7⟩ : ∃ w7, w6.alloc (.cells #[.int .i64 p0, .int .i64 p1] 45) = w7 := ⟨_, rfl⟩
        have hb7 : Below w6.heap.size w6 w7 := by rw [← hw7]; exact (Below.refl _ _).alloc (Nat.le_refl _) _
        have hy7 : w7.heap[w6.heap.size]? = some (.cells #[.int .i64 p0, .int .i64 p1] 45 (0, 0)) := by rw [← hw7]; exact heap_alloc_new w6 _
        have h7 := Sep.fresh (own_F _ _) (own_B _ _ _ _ _) h6 hb7 w6.heap.size (Nat.le_refl _) (blk_lt hy7)
        have hg7 : Went w.heap.size [wr.heap.size] w3 w7 := Hg5.out.trans (Went.trans ⟨hb6, hk6⟩ ⟨(pf_below h6 hb7).2.1, (pf_below h6 hb7).2.2⟩)
        have hz7 := hg7.k _ (by simp) _ HK3.out
        have H11 := Lib.hid (HZ9.out _ _ h7)
        clear c0 c1 c2 c3 c4 c5 c6 c7 c8 c9 c10 c11 c12 c13 c14 c15 cl
        have c0 := blk_cell hz7 0
        have c1 := blk_cell hz7 1
        have c2 := blk_cell hz7 2
        have c3 := blk_cell hz7 3
        have c4 := blk_cell hz7 4
        have c5 := blk_cell hz7 5
        have c6 := blk_cell hz7 6
        have c7 := blk_cell hz7 7
        have c8 := blk_cell hz7 8
        have c9 := blk_cell hz7 9
        have c10 := blk_cell hz7 10
        have c11 := blk_cell hz7 11
        have c12 := blk_cell hz7 12
        have c13 := blk_cell hz7 13
        have c14 := blk_cell hz7 14
        have c15 := blk_cell hz7 15
        simp only [List.getElem?_toArray, List.getElem?_cons_zero, List.getElem?_cons_succ] at c0 c1 c2 c3 c4 c5 c6 c7 c8 c9 c10 c11 c12 c13 c14 c15
        have cl := blk_lt hz7
        have Hg7 := Lib.hid hg7; have Hy7 := Lib.hid hy7
        clear hg7 hy7
        clear h6 hb6 hk6 hb7 h7 hz7
        go_wp2_with fail
        refine H11.out.mono ?_
        rintro e w8 ⟨rfl, h8, hb8, hk8⟩
        obtain ⟨w9, hw9⟩ : ∃ w9, w8.alloc (.cells #[.int .i64 p0, .int .i64 p1] 45) = w9 := ⟨_, rfl⟩
        have hb9 : Below w8.heap.size w8 w9 := by rw [← hw9]; exact (Below.refl _ _).alloc (Nat.le_refl _) _
        have hu9 : w9.heap[w8.heap.size]? = some (.cells #[.int .i64 p0, .int .i64 p1] 45 (0, 0)) := by rw [← hw9]; exact heap_alloc_new w8 _
        have hp9 := pf_below h8 hb9
        have hy9 := (Mod.ofBelow hb9).keep (hk8 _ (by simp) _ Hy7.out) (by simp)
        have hF := hp9.1.drop (Y := []) (by simp)
        have hBF : Below w.heap.size w w9 := HB3.out.trans (Hg7.out.b.trans (hb8.trans hp9.2.1))
        have hcmp := HCMP.out
        clear c0 c1 c2 c3 c4 c5 c6 c7 c8 c9 c10 c11 c12 c13 c14 c15 cl
        have y0 := blk_cell hy9 0
        have y1 := blk_cell hy9 1
        simp only [List.getElem?_toArray, List.getElem?_cons_zero, List.getElem?_cons_succ] at y0 y1
        have yl := blk_lt hy9
        have u0 := blk_cell hu9 0
        have u1 := blk_cell hu9 1
        simp only [List.getElem?_toArray, List.getElem?_cons_zero, List.getElem?_cons_succ] at u0 u1
        have ul := blk_lt hu9
        have HF := Lib.hid hF; have HBF := Lib.hid hBF
        clear hF hBF
        clear h8 hb8 hk8 hb9 hu9 hp9 hy9
        go_wp2
        go_roundw
        case rel => exact ⟨k + 1, B1, by omega, HLB1.out, by go_num, HF.out, HBF.out⟩
        case measure => simp [intOf]; omega
      all_goals exact undef
    · obtain rfl : k = l.length := by omega
      have h14 := pf_fadopt hP 0 0 0 0 hd0 hd0
      rw [show adoE B (0, 0) (0, 0) = 8 by unfold adoE; rw [if_pos (Up.refl _)]] at h14
      have HB := Lib.hid hB; have H14 := Lib.hid h14
      clear hB h14
      clear hP
      go_wp2_with fail
      refine H14.out.mono ?_
      rintro e w5 ⟨rfl, -, hb5, -⟩
      have HB5 := Lib.hid (HB.out.trans hb5)
      clear hb5
      go_wp2
      go_ret
      exact ⟨rfl, HB5.out⟩

set_option maxRecDepth 100000 in
theorem familyDoes_law {H : Type} {enc : TypeId × Value → H} (W : World) (base : Nat) (args : Array Value) (ds : List (DataW H)) (ps : List MemPlace)
    (hval : ∀ (j : Nat) t v, Try.f6.params[j]? = some t → args[j]? = some v → Value.okWide Try.prog W .any base t v)
    (hA : DataW.TrodAll enc Try.prog W 0 (fun _ => true) true Try.f6.params.toList args.toList ds ps) (hlt : ∀ p ∈ ps, p.block < W.heap.size)
    (hsz : ∀ (j : Nat) t d, Try.f6.params.toList[j]? = some t → ds[j]? = some d → ∀ m ∈ d.weights Try.prog t, m ≤ reachBytes) :
    Calls Try.prog 6 args W fun e W' => e = .returned (.bool true) ∧ Below W.heap.size W W' := by
  rw [Try.params6] at hA hval hsz
  obtain ⟨v1, d1, rfl, rfl, h1⟩ := trodAll_one hA
  obtain ⟨A, n, c, zs, rfl, hnc, hc, hlen, hin, hL⟩ := open_slice_flat Try.underlying63 intCells_Op (k := 16) (by kernel_rfl) (by omega) (hval 0 63 _ rfl rfl) h1 hlt
  obtain ⟨l, hl, rfl⟩ := unflat opI 16 opI_mk n zs hlen
  have hs := slice_size Try.underlying63 h1 (hsz 0 63 d1 rfl rfl)
  rw [show Try.prog.bytesOf 74 = 128 by kernel_rfl, reach_val] at hs
  rw [show ints (l.flatMap opI) = l.flatMap opC by unfold ints opC; rw [List.map_flatMap]; rfl] at hL
  subst hl
  refine familyDoes_ok A c l W hs hL (fun x hx => ?_)
  have hz : ∀ z ∈ opI x, InR z := fun z hz => hin z (List.mem_flatMap.2 ⟨x, hx, hz⟩)
  obtain ⟨d, ⟨K, a0, a1, a2, a3, a4, a5, a6, a7⟩, ⟨s, g⟩, ⟨ts, tg⟩, kd, n⟩ := x
  exact ⟨⟨hz s (by simp [opI, btI, hdI]), hz g (by simp [opI, btI, hdI])⟩, ⟨hz ts (by simp [opI, btI, hdI]), hz tg (by simp [opI, btI, hdI])⟩⟩

set_option maxRecDepth 100000 in
theorem familyDoes_lifted (os : Os) (started : os.Started) (H : Type) (enc : TypeId × Value → H) :
    ReturnsInHanded {} Try.checked os 6 .any (Rows.familyDoesSpec.pre6 enc Try.prog Try.f6 Rows.familyDoesRow.domain false) (Rows.familyDoesSpec.post enc Try.prog Try.f6 false true false false) := by
  refine law_lifted_sized (C := Try.checked) (tb := 4) started own_ laid_ (by kernel_rfl) Try.func6 ?_ rfl rfl (by kernel_rfl) (fun ds h => ?_)
    (ChangeSpec.witness6 (enc := enc) (C := Try.checked) false ⟨#[], #[.slice none 0 0], []⟩ 8 (by kernel_rfl) (by kernel_rfl) (by kernel_rfl) (by kernel_rfl)) ?_
  · intro t ht
    have : t = 63 := by simpa [Try.params6] using ht
    rcases this with rfl
    all_goals exact ⟨by kernel_rfl, of_decide_eq_true (by kernel_rfl)⟩
  · match ds, h with
    | [d0], _ => rfl
  · intro W base args ds ps hval hA hlt hsz
    exact familyDoes_law W base args ds ps hval hA hlt hsz

set_option maxHeartbeats 4000000 in
theorem familyDoes_closed : joinedFacts Try.prog 6 Try.f6 Rows.familyDoesSpec Rows.familyDoesRow = true := by
  unfold joinedFacts
  repeat' (with_reducible refine and_intro ?_ ?_)
  · as_aux_lemma => kernel_rfl
  · exact laid_
  · exact mapsRowed_
  · as_aux_lemma => kernel_rfl
  · as_aux_lemma => kernel_rfl
  · as_aux_lemma => kernel_rfl
  · exact stops_
  · as_aux_lemma => kernel_rfl
  · exact stopKnobs_
  · as_aux_lemma => kernel_rfl
  · as_aux_lemma => kernel_rfl
  · as_aux_lemma => kernel_rfl
  · as_aux_lemma => kernel_rfl
  · as_aux_lemma => kernel_rfl
  · as_aux_lemma => kernel_rfl
  · as_aux_lemma => kernel_rfl
  · as_aux_lemma => kernel_rfl
  · as_aux_lemma => kernel_rfl
  · as_aux_lemma => kernel_rfl
  · as_aux_lemma => kernel_rfl
  · as_aux_lemma => kernel_rfl
  · as_aux_lemma => kernel_rfl
  · exact plainKeys_
  · as_aux_lemma => kernel_rfl
  · exact stopsHeard_
  · exact mayEnter_
  · exact liftsFinal_
  · exact make_
  · as_aux_lemma => kernel_rfl
  · as_aux_lemma => kernel_rfl
  · as_aux_lemma => kernel_rfl
  · as_aux_lemma => kernel_rfl

theorem familyDoes_holds : Rows.FamilyDoesSaid :=
  OpenClaim.holds_of_wide 6 Try.f6 rfl rfl rfl rfl rfl rfl rfl ⟨rfl, rfl, rfl, rfl, rfl⟩ rfl rfl rfl rfl rfl (by as_aux_lemma => kernel_rfl) Try.func6 familyDoes_closed
    (of_decide_eq_true (by as_aux_lemma => kernel_rfl)) (by unfold Func.isWrapper; first | (rw [if_pos (by decide +kernel)]; kernel_rfl) | (rw [if_neg (by decide +kernel)]; exact ⟨rfl, rfl⟩))
    (fun os started H enc _ => familyDoes_lifted os started H enc)
#print axioms familyDoes_holds
end Go.Proofs.Ytkcpmoinpdojjaa

/- Families: Children, Under. (printed by mk_fam7.py) -/
namespace Go.Proofs.Ytkcpmoinpdojjaa
open Go Go.RowKit Go.Maps Go.Sort
attribute [local go_sem] AllFrom.cons_eq AllFrom.nil_eq putF_nil putF_cons wantedL_none wantedL_some OpGoalT OpGoalV OpGoalQ OpGoalA OpGoalK YieldsR preF_nil preF_cons

theorem kids_sorted {B : List Bd} (h : SortB B) (x : Hd) : (kidsB B x).Pairwise (fun a b => ltH a b = true) := by
  unfold kidsB
  rw [List.pairwise_map]
  exact h.sublist List.filter_sublist
/-- A permutation of the children that is sorted is the children. -/
theorem kids_eq {B C : List Bd} {x : Hd} {l : List Hd} (h : SortB B) (hC : C.Perm B) (hp : l.Perm (kidsB C x)) (hs : l.Pairwise (fun a b => ltH b a = false)) : l = kidsB B x := by
  have hk := kids_sorted h x
  have hp2 : l.Perm (kidsB B x) := hp.trans ((hC.filter _).map _)
  have hne : l.Pairwise (fun a b => a ≠ b) := (List.Perm.pairwise_iff (fun h => Ne.symm h) hp2).2 (hk.imp fun h => ltH_ne h)
  have hl : l.Pairwise (fun a b => ltH a b = true) := (hs.and hne).imp (by
    rintro a b ⟨h1, h2⟩
    cases e : ltH a b with
    | true => rfl
    | false => exact absurd (ltH_tri e h1) h2)
  refine List.Perm.eq_of_pairwise (le := fun a b : Hd => ltH a b = true) (fun a b ha hb h1 h2 => ?_) hl hk hp2
  rw [ltH_asymm h1] at h2; cases h2
theorem kids_app (C D : List Bd) (x : Hd) : kidsB (C ++ D) x = kidsB C x ++ kidsB D x := by unfold kidsB; rw [List.filter_append, List.map_append]
theorem kids_one (b : Bd) (x : Hd) : kidsB [b] x = if eqB b.2 x = true then [b.1] else [] := by
  unfold kidsB eqB
  by_cases e : b.2 = x <;> simp [e]
theorem kids_len (B : List Bd) (x : Hd) : (kidsB B x).length ≤ B.length := by
  unfold kidsB
  rw [List.length_map]
  exact List.length_filter_le _ _
section
variable {w : World} {f : Nat} {B : List Bd} {F : List Nat}
set_option maxRecDepth 20000 in
set_option maxHeartbeats 4000000 in
theorem fkids_any (h : RepF w f B F) (hB : B.length ≤ 1200000000000) (s g : Int) : Calls Try.prog 45 #[.pointer (some ⟨f, 0, none⟩), .agg #[.int .i64 s, .int .i64 g]] w (MadeRecs 45 2 handleC (kidsB B (s, g)) w) := by
  obtain ⟨w0, hw0, hb0, hz0, hs0⟩ := box1 w (.cells #[.int .i64 s, .int .i64 g] 45)
  obtain ⟨ho, hr, m, l, h1, h2, h3, hF, h5⟩ := h.below hb0
  obtain ⟨o, hrun, hR⟩ := h2.range Try.underlying154
  obtain ⟨w1, hw1, hb1, -, hs1⟩ := box1 w0 o
  rw [hw1] at hR
  have e0 := blk_cell h1 0
  simp only [List.getElem?_toArray, List.getElem?_cons_zero] at e0
  have hfl := blk_lt h1
  have hll : l.length ≤ 1200000000000 := by rw [h3.length_eq]; exact hB
  have HR := Lib.hid hR; have Hb0 := Lib.hid hb0; have Hb1 := Lib.hid hb1; have Hz0 := Lib.hid hz0; have Hs0 := Lib.hid hs0; have Hs1 := Lib.hid hs1; have Ho := Lib.hid ho; have H3 := Lib.hid h3; have Hll := Lib.hid hll
  clear hR hb0 hb1 hz0 hs0 hs1 ho h3 hll
  clear h h1 h2 hr hF h5 hB
  go_enter Try.func45, Try.ntmps45
  go_wp2_with fail
  clear hrun hw1 hw0 e0 hfl
  go_loopw [5, 14] (fun v _ wr => ∃ (D ts : List Bd), RangeAt Try.prog 45 wr m w0.heap.size (l.map bdPr) (ts.map bdPr) ∧ (D ++ ts).Perm l ∧ wr.ownsRow w0.heap.size 45 2 v (kidsB D (s, g)).length ((kidsB D (s, g)).flatMap handleC) ∧ Below w0.heap.size w0 wr) (fun _ _ wr => wr.rangeLeft m w0.heap.size)
  case atStart => exact ⟨[], l, HR.out, .refl _, ⟨rfl, .inl ⟨rfl, rfl⟩⟩, Hb1.out⟩
  case round =>
    obtain ⟨D, ts, hR, hp, hown, hB⟩ := hrel
    obtain ⟨A, cap, rfl, -, -⟩ := row_slice hown
    have hlen : D.length + ts.length = l.length := by rw [← List.length_append]; exact hp.length_eq
    have hkl := kids_len D (s, g)
    have hzr := (Mod.ofBelow hB).keep Hz0.out (by simp)
    by_cases hts : ts = []
    · subst hts
      have hov := fun ty => RangeAt.over (P := Try.prog) (by simpa using hR) ty
      simp only [List.append_nil] at hp
      have H1 := Lib.hid (sortHandles_any hown (by have := Hll.out; simp at hlen; omega))
      have Hp := Lib.hid hp; have HB := Lib.hid hB; have Hown := Lib.hid hown
      clear hp hB hown
      clear hR hlen hzr
      go_wp2_with fail
      refine H1.out.mono ?_
      rintro e w2 ⟨rfl, l', hp', hs', hown', hmod⟩
      have hl' : l' = kidsB B (s, g) := kids_eq Ho.out.so (Hp.out.trans H3.out) hp' (hs'.imp fun {x y} h => by
        have h : ltOf cmpH y x = false := h
        rw [ltHd_eq] at h; exact h)
      have hB2 : Below w0.heap.size w0 w2 := HB.out.trans (hmod.toBelow (fun x hx => own_ge Hown.out x (by simpa using hx)) HB.out.size)
      rw [hl'] at hown'
      have hown2 := row_base hown' (B' := w.heap.size) (fun k hk => by have := own_ge hown' k hk; have := Hs0.out; omega)
      have hBw := Hb0.out.trans (hB2.mono Hb0.out.size)
      have HBw := Lib.hid hBw; have HO2 := Lib.hid hown2
      clear hBw hown2
      clear hp' hs' hmod hl' hown' hB2
      go_wp2
      refine bodyPost_ret (v := .slice A (kidsB D (s, g)).length cap) (by unfold results; try go_simp) rfl ?_
      exact ⟨_, rfl, HO2.out, HBw.out⟩
    · obtain ⟨t1, x, t2, w2, rfl, hn, hen, hx, hR2, hm2, hs2⟩ := hR.nextE hts
      have hmeas := hR.left_eq
      obtain ⟨⟨c0, c1⟩, p0, p1⟩ := x
      have hne := own_ne_range hown hR
      have hrl := hR.lt
      have hown2 := row_mod hown hm2 (fun k hk e => by
        have hk' : k = w0.heap.size := by simpa using e
        subst hk'; exact hne.1 (by rw [hk]; simp))
      have hB2 : Below w0.heap.size w0 w2 := hB.trans (hm2.toBelow (by simp) hB.size)
      simp only [bdPr, hdV, handleC] at hn hen
      have hDl : (kidsB D (s, g)).length < 1200000000000 := by have := Hll.out; simp at hlen; omega
      have hzr2 := hm2.keep hzr (by have := Hs0.out; simp; omega)
      have hb24 : Below w2.heap.size w2 ((w2.alloc (.cells #[.int .i64 c0, .int .i64 c1] 45)).alloc (.cells #[.int .i64 p0, .int .i64 p1] 45)) := ((Below.refl _ _).alloc (Nat.le_refl _) _).alloc (by simp) _
      have hB4 := hB2.trans (hb24.mono hB2.size)
      have hown4 := row_mod hown2 (Mod.ofBelow hb24) (by simp)
      have hR4 := hR2.mod (Mod.ofBelow hb24) (by simp) (by simp)
      have heq := fun w => eqlHandle w p0 p1 s g
      have hka := kids_app D [((c0, c1), (p0, p1))] (s, g)
      rw [kids_one] at hka
      simp only at hka
      have q0 := blk_cell hzr2 0
      have q1 := blk_cell hzr2 1
      simp only [List.getElem?_toArray, List.getElem?_cons_zero, List.getElem?_cons_succ] at q0 q1
      have ql := blk_lt hzr2
      have HR := Lib.hid hR; have Hp := Lib.hid hp; have Hown := Lib.hid hown; have HB := Lib.hid hB; have HR2 := Lib.hid hR2; have Hm2 := Lib.hid hm2; have Hs2 := Lib.hid hs2; have Hmeas := Lib.hid hmeas; have HNe := Lib.hid hne; have Hown2 := Lib.hid hown2; have HB2 := Lib.hid hB2; have Hx := Lib.hid hx; have HDl := Lib.hid hDl; have HR4 := Lib.hid hR4; have Hown4 := Lib.hid hown4; have HB4 := Lib.hid hB4; have Hka := Lib.hid hka; have HKl := Lib.hid hkl
      clear hR hp hown hB hR2 hm2 hs2 hmeas hne hown2 hB2 hx hDl hR4 hown4 hB4 hka hkl
      clear hlen hzr hb24 hzr2
      cases hr : eqB (p0, p1) (s, g) with
      | false =>
        rw [hr] at heq
        have Hr := Lib.hid hr
        clear hr
        go_wp2_with fail
        go_roundw
        case rel =>
          refine ⟨D ++ [((c0, c1), (p0, p1))], t1 ++ t2, HR4.out, (mid_perm D t1 t2 _).symm.trans Hp.out, ?_, HB4.out⟩
          rw [Hka.out, if_neg (by rw [Hr.out]; simp), List.append_nil]
          exact Hown4.out
        case measure => rw [HR4.out.left_eq, Hmeas.out]; simp
      | true =>
        rw [hr] at heq
        have Hr := Lib.hid hr
        clear hr
        go_wp2_with (at_builtin; refine app_handleG rfl _ _ rfl w0.heap.size (.slice A (kidsB D (s, g)).length cap) (kidsB D (s, g)) (c0, c1) ⟨w2.heap.size + 2, 0, none⟩ 1 rfl (Hown4.out.alloc _) rfl (new_rec (by simp) rfl) (by have := HDl.out; omega) (by have := HB2.out.size; simp; omega) ?_; intro v' w5 hown5 hg5)
        go_roundw
        case rel =>
          refine ⟨D ++ [((c0, c1), (p0, p1))], t1 ++ t2, ?_, (mid_perm D t1 t2 _).symm.trans Hp.out, ?_, ?_⟩
          · exact (HR4.out.mod ((Mod.refl [] _).alloc _) (by simp) (by simp)).mod (grown_mod hg5) HNe.out.2 HNe.out.1
          · rw [Hka.out, if_pos Hr.out]; exact hown5
          · exact (HB4.out.alloc HB4.out.size _).trans ((Below.refl _ _).grown hg5 (by have := HB2.out.size; simp; omega) (own_ge Hown.out))
        case measure =>
          have h3 := (HR4.out.mod ((Mod.refl [] _).alloc _) (by simp) (by simp)).mod (grown_mod hg5) HNe.out.2 HNe.out.1
          rw [h3.left_eq, Hmeas.out]; simp
end
end Go.Proofs.Ytkcpmoinpdojjaa

/- Families: Under. (printed by mk_fam8.py) -/
namespace Go.Proofs.Ytkcpmoinpdojjaa
open Go Go.RowKit Go.Maps
attribute [local go_sem] AllFrom.cons_eq AllFrom.nil_eq putF_nil putF_cons wantedL_none wantedL_some OpGoalT OpGoalV OpGoalQ OpGoalA OpGoalK YieldsR preF_nil preF_cons

/-- The region that appends one handle (operations 2 and 3). -/
structure IPuH (w0 : World) (base : Nat) (v : Value) (M : List Hd) (x : Hd) (L : Nat → Bool) (σ : Nat → Value) (V : World) : Prop where
  b : L 3 = false → Below w0.heap.size w0 V
  o : L 2 = true → L 3 = false → oneR w0.heap.size (handleC x).toArray 45 (σ 2) V
  a : L 3 = true → (∃ V0, Below w0.heap.size w0 V0 ∧ V0.grownBy V v.ownBlock) ∧ V.ownsRow base 45 2 (σ 3) (M ++ [x]).length ((M ++ [x]).flatMap handleC)
section
variable {w0 V V' : World} {base : Nat} {v : Value} {M : List Hd} {x : Hd} {L : Nat → Bool} {σ : Nat → Value}
theorem IPuH.start (h : Below w0.heap.size w0 V) : IPuH w0 base v M x (fun _ => false) σ V := ⟨fun _ => h, fun e => (by cases e), fun e => (by cases e)⟩
theorem IPuH.read (h : IPuH w0 base v M x L σ V) {i : Nat} (h1 : 2 ≠ i ∧ 3 ≠ i) (u : Value) : IPuH w0 base v M x (upd L i) (updv σ i u) V := by
  obtain ⟨n1, n2⟩ := h1
  have eL : ∀ j, j ≠ i → upd L i j = L j := fun j hj => by unfold upd; simp [hj]
  have es : ∀ j, j ≠ i → updv σ i u j = σ j := fun j hj => by unfold updv; rw [if_neg hj]
  refine ⟨?_, ?_, ?_⟩
  · rw [eL 3 n2]; exact h.b
  · rw [eL 2 n1, eL 3 n2, es 2 n1]; exact h.o
  · rw [eL 3 n2, es 3 n2]; exact h.a
theorem IPuH.oned (h : IPuH w0 base v M x L σ V) (h3 : L 3 = false) : IPuH w0 base v M x (upd L 2) (updv σ 2 (.slice (some ⟨V.heap.size, 0, none⟩) 1 1)) (V.alloc (.cells (handleC x).toArray 45)) := by
  have eL : upd L 2 3 = L 3 := by unfold upd; simp
  have hs := (h.b h3).size
  refine ⟨fun _ => (h.b h3).alloc hs _, fun _ _ => oneR_new hs, ?_⟩
  rw [eL, h3]; intro e; cases e
theorem IPuH.apped (h : IPuH w0 base v M x L σ V) (h3 : L 3 = false) {u : Value} (hg : V.grownBy V' v.ownBlock) (hv : V'.ownsRow base 45 2 u (M ++ [x]).length ((M ++ [x]).flatMap handleC)) : IPuH w0 base v M x (upd L 3) (updv σ 3 u) V' := by
  refine ⟨fun e => by simp [upd] at e, fun _ e => by simp [upd] at e, fun _ => ⟨⟨V, h.b h3, hg⟩, ?_⟩⟩
  simpa [updv] using hv
/-- All but v's block is as it was. -/
theorem IPuH.mod (h : IPuH w0 base v M x L σ V) : Mod v.ownBlock.toList w0 V := by
  cases e : L 3 with
  | false => exact (Mod.ofBelow (h.b e)).mono (by simp)
  | true =>
    obtain ⟨⟨V0, h1, h2⟩, -⟩ := h.a e
    exact ((Mod.ofBelow h1).mono (by simp) : Mod v.ownBlock.toList w0 V0).step (grown_mod h2)
end
section
variable {f : Nat} {B : List Bd} {F : List Nat}
set_option maxRecDepth 20000 in
set_option maxHeartbeats 8000000 in
theorem funder_any (hl : B.length ≤ 1200000000000) : ∀ (n : Nat) (s g : Int) (w : World), Low B n (s, g) → RepF w f B F → Calls Try.prog 47 #[.pointer (some ⟨f, 0, none⟩), .agg #[.int .i64 s, .int .i64 g]] w (MadeRecs 45 2 handleC (underN B n (s, g)) w) := by
  intro n
  induction n with
  | zero => intro s g w hl0; exact hl0.elim
  | succ n ih =>
    intro s g w hlow h
    obtain ⟨w0, hw0, hb0, hz0, hs0⟩ := box1 w (.cells #[.int .i64 s, .int .i64 g] 45)
    have h0 := h.below hb0
    have hO := h.ok
    have H1 := Lib.hid (fkids_any h0 hl s g)
    have hlen := underN_len hO hlow
    have hall := undP_all B n (s, g)
    have hplen := undP_len B n (kidsB B (s, g))
    rw [hall] at hplen
    have q0 := blk_cell hz0 0
    have q1 := blk_cell hz0 1
    simp only [List.getElem?_toArray, List.getElem?_cons_zero, List.getElem?_cons_succ] at q0 q1
    have ql := blk_lt hz0
    have HZ0 := Lib.hid h0; have Hb0 := Lib.hid hb0; have HLB := Lib.hid hl; have Hs0 := Lib.hid hs0; have IH := Lib.hid ih; have Hlow := Lib.hid hlow; have Hlen := Lib.hid hlen; have Hall := Lib.hid hall; have Hplen := Lib.hid hplen
    clear h0 hb0 hl hs0 ih hlow hlen hall hplen
    clear h hz0 hO
    go_enter Try.func47, Try.ntmps47
    go_wp2_with fail
    clear hw0 q0 q1 ql
    refine H1.out.mono ?_
    rintro e w2 ⟨vk, rfl, hk, hb2⟩
    have h2 := HZ0.out.below hb2
    have hkl : (kidsB B (s, g)).length ≤ 1200000000000 := by
      have h1 := kids_len B (s, g)
      have := HLB.out
      omega
    have hBw2 := Hb0.out.trans (hb2.mono Hb0.out.size)
    have hkl2 : (kidsB B (s, g)).length ≤ 9223372036854775807 := by omega
    have hlow' : ∀ c ∈ kidsB B (s, g), Low B n c := Hlow.out
    generalize kidsB B (s, g) = ks at *
    obtain ⟨A, cap, rfl, -, -⟩ := row_slice hk
    have H2 := Lib.hid h2; have Hk := Lib.hid hk; have HBw2 := Lib.hid hBw2; have Hlow' := Lib.hid hlow'; have HKL := Lib.hid hkl
    clear h2 hk hBw2 hlow' hkl
    clear hb2 H1
    go_wp2_with fail
    go_loopw [5, 12] (fun v i wr => ∃ k : Nat, k ≤ ks.length ∧ i = .int .i64 k ∧ wr.ownsRow w2.heap.size 45 2 v (undP B n ks k).length ((undP B n ks k).flatMap handleC) ∧ Below w2.heap.size w2 wr) (fun _ i _ => ks.length - (intOf i).toNat)
    case atStart => exact ⟨0, by omega, rfl, ⟨rfl, .inl ⟨rfl, rfl⟩⟩, Below.refl _ _⟩
    case round =>
      obtain ⟨k, hkk, rfl, hown, hbel⟩ := hrel
      have hsz := hbel.size
      by_cases hlt : k < ks.length
      · have hro := row_mod Hk.out (Mod.ofBelow hbel) (by simp)
        obtain ⟨g0, cap0, cur0, hv, -, -, -⟩ := row_some hro (by omega)
        cases hv
        have hpc := row_piece handleC_len hro hlt 0 (handleC ks[k]) (fun j u hu => by rw [Nat.zero_add]; exact hu)
        have hg0 := row_lt hro g0 rfl
        have hki : (k : Int) < (ks.length : Int) := by omega
        have hst := undP_succ B n ks k hlt
        have hlowx := Hlow'.out _ (List.getElem_mem hlt)
        have hl1 := Hplen.out (k + 1)
        have hl0 := Hplen.out k
        obtain ⟨A5, cap5, rfl, -, -⟩ := row_slice hown
        rw [hst, List.length_append, List.length_append] at hl1
        generalize undP B n ks k = M at *
        generalize ks[k] = x at *
        obtain ⟨c0, c1⟩ := x
        obtain ⟨w3, hw3, hb3, hz3, hs3⟩ := box1 wr (.cells #[.int .i64 c0, .int .i64 c1] 45)
        have hO3 := hown.alloc (.cells #[.int .i64 c0, .int .i64 c1] 45)
        rw [hw3] at hO3
        have hb03 := hbel.trans (hb3.mono hsz)
        have hvlt : ∀ y, (Value.slice A5 M.length cap5).ownBlock = some y → y < wr.heap.size := row_lt hown
        have hge := own_ge hO3
        generalize hvv : Value.slice A5 M.length cap5 = vv at *
        have hnb : wr.heap.size ∉ vv.ownBlock.toList := fun e => by have := hvlt _ (by simpa using e); omega
        have hF2 : ∀ y ∈ F, y ∉ vv.ownBlock.toList := fun y hy e => by
          have h1 := H2.out.lt y hy
          have h2 := hge y (by simpa using e)
          omega
        have HP := Lib.hid hpc; have Hst := Lib.hid hst; have Hlowx := Lib.hid hlowx; have Hl1 := Lib.hid hl1; have Hl0 := Lib.hid hl0; have HO3 := Lib.hid hO3; have Hb03 := Lib.hid hb03; have Hs3 := Lib.hid hs3; have Hz3 := Lib.hid hz3; have Hge := Lib.hid hge; have Hnb := Lib.hid hnb; have HF2 := Lib.hid hF2; have Hvv := Lib.hid hvv
        clear hpc hst hlowx hl1 hl0 hO3 hb03 hs3 hz3 hge hnb hF2 hvv
        clear hro hown hbel hb3 hvlt
        go_wp2_with (refine wpList_load_flat rfl 45 (.tmp 14) rfl _ rfl [.int .i64 c0, .int .i64 c1] _ Try.underlying45 rfl (by kernel_rfl) HP.out ?_)
        clear hw3
        refine wp_planK [2, 3] 6 [4] [some 16, some 17, some 18, some 19, some 20, some 21, some 22, some 23, some 5] [[], [], [1], [0, 1, 2], [], [], [0, 1, 2, 3, 4, 5], [0, 1, 2, 3, 4, 5, 6], [0, 1, 2, 3, 4, 5, 6, 7]] [0, 1, 2, 3, 4, 5] (fun Lf σ V => IPuH w3 w2.heap.size vv M (c0, c1) Lf σ V) mixed rfl (by kernel_rfl) (by decide) (by decide) (by decide) (IPuH.start below_drew) rfl ?_
        iterate 6 apply Exists.intro
        refine ⟨rfl, ?_, ?_⟩
        · simp only [List.take_succ_cons, List.take_zero, AllFrom.cons_eq, AllFrom.nil_eq, OpGoalK]
          refine ⟨?_, ?_, ?_, ?_, ?_, ?_, trivial⟩
          all_goals (intro L' σ V h1 h2 h3 hI hp; have HA1 := Lib.hid h1; have HA2 := Lib.hid h2; have HA3 := Lib.hid h3; clear h1 h2 h3; (try simp only [List.getD_cons_zero, List.getD_cons_succ, preK_cons, preK_nil] at hp); (try simp only [List.mem_cons, List.not_mem_nil, or_false, eq_self, Nat.reduceEqDiff, Nat.reduceAdd, Nat.zero_add, false_or, true_or, true_and, and_true] at hp); (first | (have hq : True := hp; clear hq hp) | skip); have HI := Lib.hid hI; clear hI)
          all_goals (
            have hzV := HI.out.mod.keep Hz3.out Hnb.out
            have q0 := blk_cell hzV 0
            have q1 := blk_cell hzV 1
            simp only [List.getElem?_toArray, List.getElem?_cons_zero, List.getElem?_cons_succ] at q0 q1
            have ql := blk_lt hzV
            clear hzV)
          · (go_simp; exact ⟨.inr rfl, HI.out.read (by decide) _⟩)
          · (go_simp; exact ⟨.inr rfl, HI.out.read (by decide) _⟩)
          · go_simp
            exact PostK.mk (c := undef) (.inl (by decide)) (HI.out.oned (HA3.out 3 (by decide)))
          · simp only [wantedL_none, if_true]
            have hbb := HI.out.b HA1.out
            have ha := HI.out.o (HA2.out 2 (by decide)) HA1.out
            have hrw := row_mod HO3.out (Mod.ofBelow hbb) (by simp)
            have Ha := Lib.hid ha; have Hrw := Lib.hid hrw
            have Hlen2 := Lib.hid (show (M.length + 1) * 16 ≤ 140737488355328 by have := Hl0.out; have := Hlen.out; have := HLB.out; omega)
            have Hbs := Lib.hid (show w2.heap.size ≤ V.heap.size from Nat.le_trans Hb03.out.size hbb.size)
            clear ha hrw hbb
            refine yr_app (enc := handleC) (n := 2) (bytes := 16) (.tmp 16) (.tmp 18) 59 45 rfl Try.underlying59 info_handle rfl (by omega) (by omega) handleC_one handleC_len w2.heap.size vv M (c0, c1) w3.heap.size (handleC (c0, c1)).toArray 45 (by go_simp) Hrw.out (by go_simp; exact Ha.out) rfl Hlen2.out Hbs.out ?_
            intro v' V' hv hg _
            exact PostK.mk (c := undef) (.inl (by decide)) (HI.out.apped HA1.out hg hv)
          · (go_simp; exact ⟨.inr rfl, HI.out.read (by decide) _⟩)
          · (go_simp; exact ⟨.inr rfl, HI.out.read (by decide) _⟩)
        · intro L' σ V h1 hI hp
          have hA3 := (hI.a (h1 3 (by decide))).2
          have hmV := hI.mod
          clear h1 hI
          simp only [preK_cons, preK_nil, List.getD_cons_zero, List.getD_cons_succ] at hp; simp only [List.mem_cons, List.not_mem_nil, or_false, eq_self, Nat.reduceEqDiff, false_or, true_or, true_and, and_true] at hp
          have hFV := (H2.out.below Hb03.out).mod hmV HF2.out
          have H6 := Lib.hid (IH.out c0 c1 V Hlowx.out hFV)
          have hbV : Below w2.heap.size w2 V := Hb03.out.trans (hmV.toBelow (fun x hx => Hge.out x (by simpa using hx)) Hb03.out.size)
          have HA3 := Lib.hid hA3; have HbV := Lib.hid hbV
          clear hA3 hbV
          clear hmV hFV
          simp only [List.drop_succ_cons, List.drop_zero]
          go_simp
          clear hp
          generalize σ 3 = v3 at *
          generalize σ 2 = v2 at *
          go_wp2_with fail
          refine H6.out.mono ?_
          rintro e w6 ⟨v6, rfl, hown6, hb6⟩
          have hown56 := row_mod HA3.out (Mod.ofBelow hb6) (by simp)
          have hb06 := HbV.out.trans (hb6.mono HbV.out.size)
          have Hown6 := Lib.hid hown6; have Hb06 := Lib.hid hb06; have Hown56 := Lib.hid hown56
          clear hown6 hb06 hown56
          clear hb6
          go_wp2_with (at_builtin; refine app_list rfl _ _ rfl w2.heap.size V.heap.size v3 _ (M ++ [(c0, c1)]) (underN B n (c0, c1)) rfl Hown56.out rfl Hown6.out (by have := Hl1.out; have := Hlen.out; have := HLB.out; rw [List.length_append]; omega) Hb06.out.size ?_; intro v7 w7 hown7 hg7)
          refine ⟨rfl, ?_⟩
          go_wp2_with fail
          go_roundw
          case rel => exact ⟨k + 1, by omega, by go_num, by rw [Hst.out]; exact hown7, Hb06.out.trans ((Below.refl _ _).grown hg7 Hb06.out.size (own_ge Hown56.out))⟩
          case measure => simp [intOf]; omega
        all_goals exact undef
      · obtain rfl : k = ks.length := by omega
        rw [Hall.out] at hown
        have hBf := HBw2.out.trans (hbel.mono HBw2.out.size)
        have hown := row_base hown (B' := w.heap.size) (fun k hk => by have := own_ge hown k hk; have := HBw2.out.size; omega)
        have Hown := Lib.hid hown; have HBf := Lib.hid hBf
        clear hown hBf
        clear hbel
        go_wp2
        go_ret
        exact ⟨_, rfl, Hown.out, HBf.out⟩
end
end Go.Proofs.Ytkcpmoinpdojjaa
