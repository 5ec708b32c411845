import Derived.Test.YtehjfmjibiafdaaGreatZooTellsJ40
/- The reference's bonds: Loosen, less, Under. (printed by mk_rf3.py) -/
namespace Go.Proofs.YtehjfmjibiafdaaGreat
open Go Go.RowKit
attribute [local go_sem] AllFrom.cons_eq AllFrom.nil_eq putF_nil putF_cons wantedL_none wantedL_some OpGoalT OpGoalV OpGoalQ OpGoalA OpGoalK YieldsR preF_nil preF_cons

theorem Turns.same {w w' : World} {F : List Nat} (hb : Below w.heap.size w w') : Turns w F F w' := ⟨(Mod.ofBelow hb).mono (by simp), fun _ h => .inl h⟩
/-- append of one handle; what else lay stays. -/
theorem app_handleG {w : World} {ops : Array Oper} {rest : List Oper} {o : Oper} {a : Act} {Q : Exit → Act → World → Prop} (hgd : o.guard = none) (s x : Operand)
    (ho : o.op = .call { callee := .builtin .append, args := #[s, x], argTypes := #[55, 55] }) (base : Nat) (v : Value) (l : List Hd) (y : Hd) (ad : Addr) (c : Nat)
    (hs : a.eval s = v) (hown : w.ownsRow base 41 2 v l.length (l.flatMap handleC)) (hx : a.eval x = .slice (some ad) 1 c) (hc : ∀ j u, (handleC y)[j]? = some u → w.cell? (ad.add j) = some u)
    (hlen : l.length < 8796093022207) (hbase : base ≤ w.heap.size)
    (h : ∀ v' w', w'.ownsRow base 41 2 v' (l ++ [y]).length ((l ++ [y]).flatMap handleC) → w.grownBy w' v.ownBlock → wpList Tryz.prog ops Q rest (a.put o.dst v') w') : wpList Tryz.prog ops Q (o :: rest) a w := by
  refine app_rec (enc := handleC) (n := 2) (z := .agg #[.int .i64 0, .int .i64 0]) (bytes := 16) hgd s x 55 41 ho Tryz.underlying55 info_handle rfl (by omega) (by omega) handleC_one handleC_len base v l y ad c hs hown hx hc (by omega) hbase ?_
  intro v' w' h1 h2 _
  exact h v' w' h1 h2
theorem wpList_app {P : Program} {w w' : World} {ops : Array Oper} {rest : List Oper} {o : Oper} {a : Act} {Q : Exit → Act → World → Prop} (hgd : o.guard = none) (s x : Operand) (T : TypeId)
    (ho : o.op = .call { callee := .builtin .append, args := #[s, x], argTypes := #[T, T] }) {v1 v2 v' : Value} (hs : a.eval s = v1) (hx : a.eval x = v2)
    (hr : (Builtin.append_ #[T, T] o.type #[v1, v2]).run P w = .ok v' w') (h : wpList P ops Q rest (a.put o.dst v') w') : wpList P ops Q (o :: rest) a w := by
  refine wpList_plain hgd fun K hK => ?_
  unfold Oper.wp execOp
  simp only [ho, resolve, invoke, builtin, Sem.run_bind, Sem.run_pure, Result.andThen_ok, List.map_toArray, List.map_cons, List.map_nil, hs, hx, hr]
  exact hK _ _ h
/-- append of a list of handles. -/
theorem run_appH {w : World} (base B2 : Nat) (v v2 : Value) (l l2 : List Hd) (ty : TypeId) (hown : w.ownsRow base 41 2 v l.length (l.flatMap handleC)) (hrow : w.ownsRow B2 41 2 v2 l2.length (l2.flatMap handleC))
    (hlen : l.length + l2.length < 8796093022207) (hbase : base ≤ w.heap.size) :
    ∃ v' w', (Builtin.append_ #[55, 55] ty #[v, v2]).run Tryz.prog w = .ok v' w' ∧ w'.ownsRow base 41 2 v' (l ++ l2).length ((l ++ l2).flatMap handleC) ∧ w.grownBy w' v.ownBlock := by
  obtain ⟨i0, hi, hz0, hz1, hz2⟩ := info_parts info_handle
  rcases hrow with ⟨hx, ⟨rfl, h2⟩ | ⟨g, cap2, cur, rfl, h3⟩⟩
  · have hl2 : l2 = [] := List.eq_nil_of_length_eq_zero h2
    subst hl2
    exact ⟨v, w, run_append_owned_none (P := Tryz.prog) w base 55 ty 41 i0 2 Tryz.underlying55 hi v l.length _ hown, by simpa using hown, ⟨rfl, rfl, rfl, Nat.le_refl _, fun _ _ _ => rfl⟩⟩
  · have hrow2 : w.ownsRow B2 41 2 (.slice (some ⟨g, 0, none⟩) l2.length cap2) l2.length (l2.flatMap handleC) := ⟨hx, .inr ⟨g, cap2, cur, rfl, h3⟩⟩
    obtain ⟨v', w', hr, h4, h5, -, -⟩ := run_append_own_at (P := Tryz.prog) w base 55 ty 41 i0 _ 2 16 Tryz.underlying55 hi hz0 hz1 hz2 rfl (by omega) v l.length _ hown ⟨g, 0, none⟩ l2.length cap2 (l2.flatMap handleC) (flatV_length handleC_len l2) (fun j u hu => by
      have h5 := row_cell hrow2 hu
      rw [Addr.add_mid, Nat.zero_add]; exact h5) (flat_one handleC_one _) (by unfold maxLen; omega) (by omega) hbase
    refine ⟨v', w', hr, ?_, h5⟩
    rw [List.length_append, List.flatMap_append]
    exact h4
theorem app_list {w : World} {ops : Array Oper} {rest : List Oper} {o : Oper} {a : Act} {Q : Exit → Act → World → Prop} (hgd : o.guard = none) (s x : Operand)
    (ho : o.op = .call { callee := .builtin .append, args := #[s, x], argTypes := #[55, 55] }) (base B2 : Nat) (v v2 : Value) (l l2 : List Hd)
    (hs : a.eval s = v) (hown : w.ownsRow base 41 2 v l.length (l.flatMap handleC)) (hx : a.eval x = v2) (hrow : w.ownsRow B2 41 2 v2 l2.length (l2.flatMap handleC))
    (hlen : l.length + l2.length < 8796093022207) (hbase : base ≤ w.heap.size)
    (h : ∀ v' w', w'.ownsRow base 41 2 v' (l ++ l2).length ((l ++ l2).flatMap handleC) → w.grownBy w' v.ownBlock → wpList Tryz.prog ops Q rest (a.put o.dst v') w') : wpList Tryz.prog ops Q (o :: rest) a w := by
  obtain ⟨v', w', hr, h1, h2⟩ := run_appH base B2 v v2 l l2 o.type hown hrow hlen hbase
  exact wpList_app hgd s x _ ho hs hx hr (h v' w' h1 h2)
theorem underN_len {B : List Bd} (h : FamOk B) {n : Nat} {x : Hd} (hl : Low B n x) : (underN B n x).length ≤ B.length := by
  have h1 := nodup_le (under_nodup h hl) (ys := B.map (·.1)) (fun y hy => by
    obtain ⟨p, h1, -⟩ := (mem_under hl).1 hy
    exact List.mem_map.2 ⟨_, h1, rfl⟩)
  rw [List.length_map] at h1
  exact h1
/-- What has come behind k of the children. -/
def undP (B : List Bd) (n : Nat) (ks : List Hd) (k : Nat) : List Hd := (ks.take k).flatMap (fun c => c :: underN B n c)
theorem undP_succ (B : List Bd) (n : Nat) (ks : List Hd) (k : Nat) (hk : k < ks.length) : undP B n ks (k + 1) = (undP B n ks k ++ [ks[k]]) ++ underN B n ks[k] := by
  unfold undP; rw [take_succ_get ks k hk, List.flatMap_append]; simp
theorem undP_all (B : List Bd) (n : Nat) (h : Hd) : undP B n (kidsB B h) (kidsB B h).length = underN B (n + 1) h := by
  unfold undP; rw [List.take_length]; rfl
theorem undP_len (B : List Bd) (n : Nat) (ks : List Hd) (k : Nat) : (undP B n ks k).length ≤ (undP B n ks ks.length).length := by
  unfold undP
  rw [List.take_length]
  conv => rhs; rw [← List.take_append_drop k ks]
  rw [List.flatMap_append, List.length_append]; omega

section
variable {vg vl vr : Value} {w : World} {q : Nat} {B : List Bd} {F : List Nat}
set_option maxRecDepth 20000 in
set_option maxHeartbeats 4000000 in
theorem less_any (s g t u : Int) (w : World) : Calls Tryz.prog 87 #[.agg #[.int .i64 s, .int .i64 g], .agg #[.int .i64 t, .int .i64 u]] w (BoolPost (ltH (s, g) (t, u)) w) := by
  have hB : Below w.heap.size w ((w.alloc (.cells #[.int .i64 s, .int .i64 g] 41)).alloc (.cells #[.int .i64 t, .int .i64 u] 41)) := ((Below.refl _ _).alloc (Nat.le_refl _) _).alloc (by simp) _
  have HB := Lib.hid hB
  clear hB
  unfold ltH
  simp only
  by_cases h1 : s < t
  · rw [show (decide (s < t) || (decide (s = t) && decide (g < u))) = true by simp [h1]]
    go_enter Tryz.func87, Tryz.ntmps87
    go_wp2
    go_ret
    exact ⟨rfl, HB.out⟩
  · by_cases h2 : s = t
    · subst h2
      by_cases h3 : g < u
      · rw [show (decide (s < s) || (decide (s = s) && decide (g < u))) = true by simp [h3]]
        go_enter Tryz.func87, Tryz.ntmps87
        go_wp2
        go_ret
        exact ⟨rfl, HB.out⟩
      · rw [show (decide (s < s) || (decide (s = s) && decide (g < u))) = false by simp [h3]]
        go_enter Tryz.func87, Tryz.ntmps87
        go_wp2
        go_ret
        exact ⟨rfl, HB.out⟩
    · rw [show (decide (s < t) || (decide (s = t) && decide (g < u))) = false by simp [h1, h2]]
      go_enter Tryz.func87, Tryz.ntmps87
      go_wp2
      go_ret
      exact ⟨rfl, HB.out⟩

set_option maxRecDepth 20000 in
set_option maxHeartbeats 4000000 in
theorem rloosen_any (h : RepB vg vl vr w q B F) (hl : B.length ≤ 1200000000000) (s g : Int) : Calls Tryz.prog 51 #[.pointer (some ⟨q, 0, none⟩), .agg #[.int .i64 s, .int .i64 g]] w (RFRet vg vl vr (outB B (s, g)) (.int .i64 (looE (parB B (s, g)))) q F w) := by
  obtain ⟨w0, hw0, hb0, hz0, hs0⟩ := box1 w (.cells #[.int .i64 s, .int .i64 g] 41)
  have h0 := h.below hb0
  have H1 := Lib.hid (rpar_any h0 hl s g)
  have q0 := blk_cell hz0 0
  have q1 := blk_cell hz0 1
  simp only [List.getElem?_toArray, List.getElem?_cons_zero, List.getElem?_cons_succ] at q0 q1
  have ql := blk_lt hz0
  have H := Lib.hid h; have Hb0 := Lib.hid hb0; have HZ0 := Lib.hid h0; have Hz0 := Lib.hid hz0; have Hl := Lib.hid hl
  clear h hb0 h0 hz0 hl
  clear hs0
  go_enter Tryz.func51, Tryz.ntmps51
  go_wp2_with fail
  clear hw0
  refine H1.out.mono ?_
  rintro e w1 ⟨rfl, hb1⟩
  clear q0 q1 ql
  obtain ⟨⟨ps, pg⟩, hps⟩ : ∃ x, parV (parB B (s, g)) = x := ⟨_, rfl⟩
  simp only [hdV, handleC, hps]
  cases hp : parB B (s, g) with
  | none =>
    have hfin : RFRet vg vl vr (outB B (s, g)) (.int .i64 (looE (parB B (s, g)))) q F w (.returned (.int .i64 5)) (w1.alloc (.cells #[.int .i64 ps, .int .i64 pg] 41)) := by
      have hb := Hb0.out.trans (hb1.mono Hb0.out.size)
      have hb2 := hb.alloc hb.size (.cells #[.int .i64 ps, .int .i64 pg] 41)
      rw [hp, outB_none hp]
      exact ⟨rfl, F, H.out.below hb2, Turns.same hb2⟩
    simp only [Option.isSome_none]
    have Hfin := Lib.hid hfin
    clear hfin
    clear hb1 hp hps
    go_wp2
    refine bodyPost_ret (v := .int .i64 5) (by unfold results; try go_simp) rfl ?_
    exact Hfin.out
  | some p =>
    obtain ⟨w2, hw2, hb2, -, hs2⟩ := box1 w1 (.cells #[.int .i64 ps, .int .i64 pg] 41)
    have hb02 := hb1.trans (hb2.mono hb1.size)
    have hz2 := (Mod.ofBelow hb02).keep Hz0.out (by simp)
    have h2 := HZ0.out.below hb02
    obtain ⟨A, cap, hq, hrow⟩ := h2.open_
    have H3 := Lib.hid (withoutLoosen_any hrow Hl.out s g w.heap.size hz2)
    have c0 := blk_cell hq 0
    have c1 := blk_cell hq 1
    have c2 := blk_cell hq 2
    have c3 := blk_cell hq 3
    simp only [List.getElem?_toArray, List.getElem?_cons_zero, List.getElem?_cons_succ] at c0 c1 c2 c3
    have cl := blk_lt hq
    have hBw := Hb0.out.trans (hb02.mono Hb0.out.size)
    simp only [Option.isSome_some]
    have HZ2 := Lib.hid h2; have Hq := Lib.hid hq; have Hp := Lib.hid hp; have HBw := Lib.hid hBw
    clear h2 hq hp hBw
    clear hb1 hb2 hb02 hz2 hrow hps hs2
    go_wp2_with fail
    clear hw2
    refine H3.out.mono ?_
    rintro e w3 ⟨v, rfl, hv, hb3⟩
    have hq1 := (Mod.ofBelow hb3).keep Hq.out (by simp)
    clear c0 c1 c2 c3 cl
    have c0 := blk_cell hq1 0
    have c1 := blk_cell hq1 1
    have c2 := blk_cell hq1 2
    have c3 := blk_cell hq1 3
    simp only [List.getElem?_toArray, List.getElem?_cons_zero, List.getElem?_cons_succ] at c0 c1 c2 c3
    have cl := blk_lt hq1
    have f3 := blk_free hq1 3
    obtain ⟨A2, cap2, rfl, -, -⟩ := row_slice hv
    obtain ⟨F', h4, hT⟩ := HZ2.out.put hb3 hv
    have hfin : RFRet vg vl vr (outB B (s, g)) (.int .i64 (looE (parB B (s, g)))) q F w (.returned (.int .i64 0)) (w3.setCell ⟨q, 3, none⟩ (.slice A2 (outB B (s, g)).length cap2)) := by
      rw [Hp.out]
      exact ⟨rfl, F', h4, Turns.after HBw.out hT⟩
    have Hfin := Lib.hid hfin
    clear hfin
    clear hv hb3 hq1 h4 hT
    go_wp2
    refine bodyPost_ret (v := .int .i64 0) (by unfold results; try go_simp) rfl ?_
    exact Hfin.out

set_option maxRecDepth 20000 in
set_option maxHeartbeats 4000000 in
theorem runder_any (hO : FamOk B) (hl : B.length ≤ 1200000000000) : ∀ (n : Nat) (s g : Int) (w : World), Low B n (s, g) → RepB vg vl vr w q B F → Calls Tryz.prog 52 #[.pointer (some ⟨q, 0, none⟩), .agg #[.int .i64 s, .int .i64 g]] w (MadeRecs 41 2 handleC (underN B n (s, g)) w) := by
  intro n
  induction n with
  | zero => intro s g w hl0; exact hl0.elim
  | succ n ih =>
    intro s g w hlow h
    obtain ⟨w0, hw0, hb0, hz0, hs0⟩ := box1 w (.cells #[.int .i64 s, .int .i64 g] 41)
    have h0 := h.below hb0
    have H1 := Lib.hid (rkids_any h0 hl s g)
    have hlen := underN_len hO hlow
    have hall := undP_all B n (s, g)
    have hplen := undP_len B n (kidsB B (s, g))
    rw [hall] at hplen
    have q0 := blk_cell hz0 0
    have q1 := blk_cell hz0 1
    simp only [List.getElem?_toArray, List.getElem?_cons_zero, List.getElem?_cons_succ] at q0 q1
    have ql := blk_lt hz0
    have HZ0 := Lib.hid h0; have Hb0 := Lib.hid hb0; have HLB := Lib.hid hl; have Hs0 := Lib.hid hs0; have IH := Lib.hid ih; have Hlow := Lib.hid hlow; have Hlen := Lib.hid hlen; have Hall := Lib.hid hall; have Hplen := Lib.hid hplen
    clear h0 hb0 hl hs0 ih hlow hlen hall hplen
    clear h hz0
    go_enter Tryz.func52, Tryz.ntmps52
    go_wp2_with fail
    clear hw0 q0 q1 ql
    refine H1.out.mono ?_
    rintro e w2 ⟨vk, rfl, hk, hb2⟩
    have h2 := HZ0.out.below hb2
    have hkl : (kidsB B (s, g)).length ≤ 1200000000000 := by
      unfold kidsB
      rw [List.length_map]
      have h1 : (B.filter (fun b => decide (b.2 = (s, g)))).length ≤ B.length := List.length_filter_le _ _
      have := HLB.out
      omega
    have hBw2 := Hb0.out.trans (hb2.mono Hb0.out.size)
    have hkl2 : (kidsB B (s, g)).length ≤ 9223372036854775807 := by omega
    have hlow' : ∀ c ∈ kidsB B (s, g), Low B n c := Hlow.out
    generalize kidsB B (s, g) = ks at *
    obtain ⟨A, cap, rfl, -, -⟩ := row_slice hk
    have H2 := Lib.hid h2; have Hk := Lib.hid hk; have HBw2 := Lib.hid hBw2; have Hlow' := Lib.hid hlow'; have HKL := Lib.hid hkl
    clear h2 hk hBw2 hlow' hkl
    clear hb2 H1
    go_wp2_with fail
    go_loopw [5, 12] (fun v i wr => ∃ k : Nat, k ≤ ks.length ∧ i = .int .i64 k ∧ wr.ownsRow w2.heap.size 41 2 v (undP B n ks k).length ((undP B n ks k).flatMap handleC) ∧ Below w2.heap.size w2 wr) (fun _ i _ => ks.length - (Go.RowKit.intOf i).toNat)
    case atStart => exact ⟨0, by omega, rfl, ⟨rfl, .inl ⟨rfl, rfl⟩⟩, Below.refl _ _⟩
    case round =>
      obtain ⟨k, hkk, rfl, hown, hbel⟩ := hrel
      have hsz := hbel.size
      by_cases hlt : k < ks.length
      · have hro := row_mod Hk.out (Mod.ofBelow hbel) (by simp)
        obtain ⟨g0, cap0, cur0, hv, -, -, -⟩ := row_some hro (by omega)
        cases hv
        have hpc := row_piece handleC_len hro hlt 0 (handleC ks[k]) (fun j u hu => by rw [Nat.zero_add]; exact hu)
        have hg0 := row_lt hro g0 rfl
        have hki : (k : Int) < (ks.length : Int) := by omega
        have hst := undP_succ B n ks k hlt
        have hlowx := Hlow'.out _ (List.getElem_mem hlt)
        have hl1 := Hplen.out (k + 1)
        have hl0 := Hplen.out k
        obtain ⟨A5, cap5, rfl, -, -⟩ := row_slice hown
        rw [hst, List.length_append, List.length_append] at hl1
        generalize undP B n ks k = M at *
        generalize ks[k] = x at *
        obtain ⟨c0, c1⟩ := x
        obtain ⟨w3, hw3, hb3, hz3, hs3⟩ := box1 wr (.cells #[.int .i64 c0, .int .i64 c1] 41)
        have hO3 := hown.alloc (.cells #[.int .i64 c0, .int .i64 c1] 41)
        rw [hw3] at hO3
        have hb03 := hbel.trans (hb3.mono hsz)
        have hvlt : ∀ y, (Value.slice A5 M.length cap5).ownBlock = some y → y < wr.heap.size := row_lt hown
        have r0 := blk_cell hz3 0
        have r1 := blk_cell hz3 1
        simp only [List.getElem?_toArray, List.getElem?_cons_zero, List.getElem?_cons_succ] at r0 r1
        have rl := blk_lt hz3
        have HP := Lib.hid hpc; have Hst := Lib.hid hst; have Hlowx := Lib.hid hlowx; have Hl1 := Lib.hid hl1; have Hl0 := Lib.hid hl0; have HO3 := Lib.hid hO3; have Hb03 := Lib.hid hb03; have Hs3 := Lib.hid hs3; have Hz3 := Lib.hid hz3; have Hvlt := Lib.hid hvlt
        clear hpc hst hlowx hl1 hl0 hO3 hb03 hs3 hz3 hvlt
        clear hro hown hbel hb3
        go_wp2_with (first | (refine wpList_load_flat rfl 41 (.tmp 14) rfl _ rfl [.int .i64 c0, .int .i64 c1] _ Tryz.underlying41 rfl (by kernel_rfl) HP.out ?_) | (at_builtin; refine app_handleG rfl _ _ rfl w2.heap.size (.slice A5 M.length cap5) M (c0, c1) ⟨w3.heap.size, 0, none⟩ 1 rfl (HO3.out.alloc _) rfl (new_rec (by simp) rfl) (by have := Hl0.out; have := Hlen.out; have := HLB.out; omega) (by have := Hb03.out.size; simp; omega) ?_; intro v5 w5 hown5 hg5; have hz5 := (grown_mod hg5).keep (blk_alloc Hz3.out _) (by intro e; have := Hvlt.out _ (by simpa using e); omega); have z0 := blk_cell hz5 0; have z1 := blk_cell hz5 1; simp only [List.getElem?_toArray, List.getElem?_cons_zero, List.getElem?_cons_succ] at z0 z1; have zl := blk_lt hz5))
        have hb05 : Below w2.heap.size w2 w5 := (Hb03.out.alloc Hb03.out.size _).trans ((Below.refl _ _).grown hg5 (by have := Hb03.out.size; simp; omega) (own_ge HO3.out))
        have h5 := H2.out.mod (Mod.ofBelow hb05) (by simp)
        obtain ⟨A55, cap55, rfl, -, -⟩ := row_slice hown5
        have H6 := Lib.hid (IH.out c0 c1 w5 Hlowx.out h5)
        have Hb05 := Lib.hid hb05; have Hown5 := Lib.hid hown5
        clear hb05 hown5
        clear r0 r1 rl z0 z1 zl hz5 hg5 hw3 h5
        refine H6.out.mono ?_
        rintro e w6 ⟨v6, rfl, hown6, hb6⟩
        have hown56 := row_mod Hown5.out (Mod.ofBelow hb6) (by simp)
        have hb06 := Hb05.out.trans (hb6.mono Hb05.out.size)
        have Hown6 := Lib.hid hown6; have Hb06 := Lib.hid hb06; have Hown56 := Lib.hid hown56
        clear hown6 hb06 hown56
        clear hb6
        go_wp2_with (at_builtin; refine app_list rfl _ _ rfl w2.heap.size w5.heap.size (.slice A55 (M ++ [(c0, c1)]).length cap55) _ (M ++ [(c0, c1)]) (underN B n (c0, c1)) (by rw [List.length_append, List.length_singleton]; rfl) Hown56.out rfl Hown6.out (by have := Hl1.out; have := Hlen.out; have := HLB.out; rw [List.length_append]; omega) Hb06.out.size ?_; intro v7 w7 hown7 hg7)
        go_roundw
        case rel => exact ⟨k + 1, by omega, by go_num, by rw [Hst.out]; exact hown7, Hb06.out.trans ((Below.refl _ _).grown hg7 Hb06.out.size (own_ge Hown56.out))⟩
        case measure => simp [Go.RowKit.intOf]; omega
      · obtain rfl : k = ks.length := by omega
        rw [Hall.out] at hown
        have hBf := HBw2.out.trans (hbel.mono HBw2.out.size)
        have hown := row_base hown (B' := w.heap.size) (fun k hk => by have := own_ge hown k hk; have := HBw2.out.size; omega)
        have Hown := Lib.hid hown; have HBf := Lib.hid hBf
        clear hown hBf
        clear hbel
        go_wp2
        go_ret
        exact ⟨_, rfl, Hown.out, HBf.out⟩
end
end Go.Proofs.YtehjfmjibiafdaaGreat
