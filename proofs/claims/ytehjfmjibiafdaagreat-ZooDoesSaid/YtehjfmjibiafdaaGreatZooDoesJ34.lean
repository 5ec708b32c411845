import Derived.Test.YtehjfmjibiafdaaGreatZooDoesJ33
import Derived.Test.YtehjfmjibiafdaaGreatZooDoesJ14
/- Families: Gone, Bonds. -/
namespace Go.Proofs.YtehjfmjibiafdaaGreat
open Go Go.RowKit Go.Maps
attribute [local go_sem] AllFrom.cons_eq AllFrom.nil_eq putF_nil putF_cons wantedL_none wantedL_some OpGoalT OpGoalV OpGoalQ OpGoalA OpGoalK YieldsR preF_nil preF_cons

def ofH (h : Hd) (b : Bd) : Bool := eqB b.1 h || eqB b.2 h
def BoolPost (r : Bool) (w : World) (e : Ending) (w' : World) : Prop := e = .returned (.bool r) ∧ Below w.heap.size w w'
set_option maxRecDepth 20000 in
set_option maxHeartbeats 2000000 in
theorem goneF_any (c0 c1 p0 p1 s g : Int) (hb : Nat) (w : World) (hh : w.heap[hb]? = some (.cells #[.int .i64 s, .int .i64 g] 41 (0, 0))) :
    Calls Tryz.prog 141 #[.agg #[.int .i64 c0, .int .i64 c1], .agg #[.int .i64 p0, .int .i64 p1], .pointer (some ⟨hb, 0, none⟩)] w (BoolPost (ofH (s, g) ((c0, c1), (p0, p1))) w) := by
  obtain ⟨w0, hw0, hb0, hz0, hs0⟩ := box1 w (.cells #[.int .i64 c0, .int .i64 c1] 41)
  obtain ⟨w1, hw1, hb1, hz1, hs1⟩ := box1 w0 (.cells #[.int .i64 p0, .int .i64 p1] 41)
  have hz01 := (Mod.ofBelow hb1).keep hz0 (by simp)
  have hB := hb0.trans (hb1.mono hb0.size)
  have hh1 := (Mod.ofBelow hB).keep hh (by simp)
  unfold ofH
  have hq1 := fun w => eqlHandle w c0 c1 s g
  have hq2 := fun w => eqlHandle w p0 p1 s g
  generalize eqB (c0, c1) (s, g) = r1 at *
  generalize eqB (p0, p1) (s, g) = r2 at *
  have q0 := blk_cell hz01 0
  have q1 := blk_cell hz01 1
  simp only [List.getElem?_toArray, List.getElem?_cons_zero, List.getElem?_cons_succ] at q0 q1
  have ql := blk_lt hz01
  have u0 := blk_cell hz1 0
  have u1 := blk_cell hz1 1
  simp only [List.getElem?_toArray, List.getElem?_cons_zero, List.getElem?_cons_succ] at u0 u1
  have ul := blk_lt hz1
  have v0 := blk_cell hh1 0
  have v1 := blk_cell hh1 1
  simp only [List.getElem?_toArray, List.getElem?_cons_zero, List.getElem?_cons_succ] at v0 v1
  have vl := blk_lt hh1
  have HB := Lib.hid hB
  clear hB
  clear hz0 hz01 hz1 hb0 hb1 hs0 hs1 hh hh1
  cases r1 with
  | true =>
    go_enter Tryz.func141, Tryz.ntmps141
    go_wp2
    go_ret
    exact ⟨rfl, HB.out⟩
  | false =>
    go_enter Tryz.func141, Tryz.ntmps141
    go_wp2
    go_ret
    exact ⟨rfl, HB.out⟩

theorem mid_perm {α : Type} (D t1 t2 : List α) (x : α) : (D ++ (t1 ++ x :: t2)).Perm (D ++ [x] ++ (t1 ++ t2)) := by
  rw [List.append_assoc]
  exact List.Perm.append_left D List.perm_middle
theorem del_step {l' Dk t1 t2 : List Bd} {x : Bd} (ha : l'.Pairwise (fun a b => a.1 ≠ b.1)) (hp : l'.Perm (Dk ++ (t1 ++ x :: t2))) :
    ∃ l1 l2, l' = l1 ++ x :: l2 ∧ (l1 ++ l2).Perm (Dk ++ (t1 ++ t2)) ∧ ∀ y ∈ t1 ++ t2, y.1 ≠ x.1 := by
  have hx : x ∈ l' := hp.mem_iff.2 (by simp)
  obtain ⟨l1, l2, rfl⟩ := List.append_of_mem hx
  have h1 : (x :: (l1 ++ l2)).Perm (x :: (Dk ++ (t1 ++ t2))) := (List.perm_middle.symm.trans hp).trans ((mid_perm Dk t1 t2 x).trans (by rw [List.append_assoc]; exact List.perm_middle))
  refine ⟨l1, l2, rfl, h1.cons_inv, fun y hy => ?_⟩
  have h2 := ((List.Perm.pairwise_iff (fun h => Ne.symm h) (List.perm_middle.trans h1)).1 ha)
  exact (List.pairwise_cons.1 h2).1 y (List.mem_append_right _ hy) |>.symm
def DelPost (m : Nat) (l : List Bd) (h : Hd) (w : World) (e : Ending) (w' : World) : Prop :=
  e = .returned (.tuple #[]) ∧ (∃ l' : List Bd, MapAt Tryz.prog 41 w' m (l'.map bdPr) ∧ l'.Perm (l.filter (fun b => !ofH h b))) ∧ Mod [m] w w'
set_option maxRecDepth 20000 in
set_option maxHeartbeats 4000000 in
theorem delF_any (m hb : Nat) (l : List Bd) (s g : Int) (w : World) (hm : MapAt Tryz.prog 41 w m (l.map bdPr)) (hr : ∀ b ∈ l, HdR b.1) (hh : w.heap[hb]? = some (.cells #[.int .i64 s, .int .i64 g] 41 (0, 0))) :
    Calls Tryz.prog 140 #[.map (some m), .func (.func 141) #[] #[.pointer (some ⟨hb, 0, none⟩)]] w (DelPost m l (s, g) w) := by
  obtain ⟨o, hrun, hR⟩ := hm.range Tryz.underlying115
  obtain ⟨w1, hw1, hb1, -, hs1⟩ := box1 w o
  rw [hw1] at hR
  have hh1 := (Mod.ofBelow hb1).keep hh (by simp)
  have hlt := hm.lt
  have hbm : hb ≠ m := by
    rintro rfl
    obtain ⟨es, c, h1, -⟩ := hm
    rw [h1] at hh; cases hh
  have hbl := blk_lt hh
  have hm01 : Mod [m] w w1 := (Mod.ofBelow hb1).mono (by simp)
  go_enter Tryz.func140, Tryz.ntmps140
  have HR := Lib.hid hR; have Hb1 := Lib.hid hb1; have Hs1 := Lib.hid hs1; have Hh1 := Lib.hid hh1; have HR1 := Lib.hid hr; have Hbm := Lib.hid hbm; have Hbl := Lib.hid hbl; have Hlt := Lib.hid hlt; have Hm01 := Lib.hid hm01
  clear hR hb1 hs1 hh1 hr hbm hbl hlt hm01
  clear hm hh
  go_wp2_with fail
  clear hrun hw1
  generalize hrr : w.heap.size = r at *
  go_loopw [9] (fun _ wr => ∃ (l' D ts : List Bd), RangeAt Tryz.prog 41 wr m r (l'.map bdPr) (ts.map bdPr) ∧ l'.Perm (D.filter (fun b => !ofH (s, g) b) ++ ts) ∧ (D ++ ts).Perm l ∧ Mod [m, r] w1 wr) (fun _ wr => wr.rangeLeft m r)
  case atStart => exact ⟨l, [], l, HR.out, .refl _, .refl _, Mod.refl _ _⟩
  case round =>
    obtain ⟨l', D, ts, hR, hp1, hp2, hmod⟩ := hrel
    by_cases hts : ts = []
    · subst hts
      have hov := fun ty => RangeAt.over (P := Tryz.prog) (by simpa using hR) ty
      simp only [List.append_nil] at hp1 hp2
      have hfin : DelPost m l (s, g) w (.returned (.tuple #[])) wr := by
        refine ⟨rfl, ⟨l', hR.map, hp1.trans (hp2.filter _)⟩, ?_⟩
        exact Hm01.out.trans hmod (fun x hx => by
          simp at hx
          rcases hx with rfl | rfl
          · simp
          · exact .inr (by omega))
      have Hfin := Lib.hid hfin
      clear hfin
      clear hR hp1 hp2 hmod
      go_wp2
      refine bodyPost_end (v := .tuple #[]) ?_ rfl Hfin.out
      unfold results; try go_simp
    · obtain ⟨t1, x, t2, w2, rfl, hn, hen, hx, hR2, hm2, hs2⟩ := hR.nextE hts
      have hmeas := hR.left_eq
      obtain ⟨⟨c0, c1⟩, p0, p1⟩ := x
      have hm12 : Mod [m, r] w1 w2 := hmod.step (hm2.mono (by simp))
      have hsz2 := hm12.size
      have hh2 := hm12.keep Hh1.out (by have := Hbm.out; have := Hbl.out; simp; omega)
      have hmm : ((c0, c1), (p0, p1)) ∈ l := hp2.mem_iff.1 (by simp)
      have hc := HR1.out _ hmm
      simp only [bdPr, hdV, handleC] at hn hen
      have HR := Lib.hid hR; have Hp1 := Lib.hid hp1; have Hp2 := Lib.hid hp2; have Hmod := Lib.hid hmod; have Hx := Lib.hid hx; have HR2 := Lib.hid hR2; have Hm2 := Lib.hid hm2; have Hs2 := Lib.hid hs2; have Hmeas := Lib.hid hmeas; have Hm12 := Lib.hid hm12; have Hsz2 := Lib.hid hsz2; have Hh2 := Lib.hid hh2; have Hmm := Lib.hid hmm; have Hc := Lib.hid hc
      clear hR hp1 hp2 hmod hx hR2 hm2 hs2 hmeas hm12 hsz2 hh2 hmm hc
      go_wp2_with fail
      have H2 := Lib.hid (goneF_any c0 c1 p0 p1 s g hb)
      obtain ⟨w3, hw3, hb3, hz3, hs3⟩ := box1 w2 (.cells #[.int .i64 c0, .int .i64 c1] 41)
      obtain ⟨w4, hw4, hb4, -, -⟩ := box1 w3 (.cells #[.int .i64 p0, .int .i64 p1] 41)
      rw [hw3, hw4]
      have hb24 : Below w2.heap.size w2 w4 := hb3.trans (hb4.mono hb3.size)
      have hz4 := (Mod.ofBelow hb4).keep hz3 (by simp)
      have hh4 := (Mod.ofBelow hb24).keep Hh2.out (by simp)
      refine (H2.out w4 hh4).mono ?_
      rintro e w5 ⟨rfl, hb5⟩
      have hb25 : Below w2.heap.size w2 w5 := hb24.trans (hb5.mono hb24.size)
      have hz5 := (Mod.ofBelow hb5).keep hz4 (by simp)
      have hR5 := HR2.out.mod (Mod.ofBelow hb25) (by simp) (by simp)
      have hm15 := Hm12.out.andBelow hb25
      clear hn hen hw3 hw4 hb3 hb4 hb24 hz3 hz4 hh4 hs3 hb5
      cases hof : ofH (s, g) ((c0, c1), (p0, p1)) with
      | false =>
        have HR5 := Lib.hid hR5; have Hm15 := Lib.hid hm15; have Hof := Lib.hid hof
        clear hR5 hm15 hof
        clear hz5
        go_wp2
        go_roundw
        case rel =>
          refine ⟨l', D ++ [((c0, c1), (p0, p1))], t1 ++ t2, HR5.out, ?_, (mid_perm D t1 t2 _).symm.trans Hp2.out, Hm15.out⟩
          rw [List.filter_append, show [((c0, c1), (p0, p1))].filter (fun b => !ofH (s, g) b) = [((c0, c1), (p0, p1))] by simp [Hof.out]]
          exact Hp1.out.trans (mid_perm _ t1 t2 _)
        case measure => rw [HR5.out.left_eq, Hmeas.out]; simp
      | true =>
        obtain ⟨l1, l2, hl', hpp, hne⟩ := del_step (mh_apart bdPr_keys hR5.map) Hp1.out
        obtain ⟨kl, hk⟩ := hd_key Hc.out
        rw [hl', List.map_append, List.map_cons] at hR5
        obtain ⟨w6, hrun, hR6, hm6, hs6⟩ := hR5.del (ty := 0) hd_keyed Tryz.underlying115 (key := hdV (c0, c1)) hk (fun e => by
          obtain ⟨y, hy, he⟩ := List.mem_map.1 e
          have h1 : hdV y.1 = hdV (c0, c1) := congrArg Prod.fst he
          exact hne y hy (hdV_inj h1))
        rw [← List.map_append] at hR6
        have hm16 := hm15.step (hm6.mono (by simp))
        simp only [hdV, handleC] at hrun
        have q0 := blk_cell hz5 0
        have q1 := blk_cell hz5 1
        simp only [List.getElem?_toArray, List.getElem?_cons_zero, List.getElem?_cons_succ] at q0 q1
        have ql := blk_lt hz5
        have HR6 := Lib.hid hR6; have Hm16 := Lib.hid hm16; have Hof := Lib.hid hof; have Hpp := Lib.hid hpp
        clear hR6 hm16 hof hpp
        clear hz5 hR5 hm15 hm6 hs6 hl' hne hk
        go_wp2
        go_roundw
        case rel =>
          refine ⟨l1 ++ l2, D ++ [((c0, c1), (p0, p1))], t1 ++ t2, HR6.out, ?_, (mid_perm D t1 t2 _).symm.trans Hp2.out, Hm16.out⟩
          rw [List.filter_append, show [((c0, c1), (p0, p1))].filter (fun b => !ofH (s, g) b) = [] by simp [Hof.out], List.append_nil]
          exact Hpp.out
        case measure => rw [HR6.out.left_eq, Hmeas.out]; simp

theorem goneB_eq (B : List Bd) (h : Hd) : goneB B h = B.filter (fun b => !ofH h b) := rfl
section
variable {w : World} {f : Nat} {B : List Bd} {F : List Nat}
set_option maxRecDepth 20000 in
set_option maxHeartbeats 2000000 in
theorem gone_any (h : RepF w f B F) (s g : Int) : Calls Tryz.prog 96 #[.pointer (some ⟨f, 0, none⟩), .agg #[.int .i64 s, .int .i64 g]] w (FRet (goneB B (s, g)) (.tuple #[]) f F w) := by
  obtain ⟨w0, hw0, hb0, hz0, hs0⟩ := box1 w (.cells #[.int .i64 s, .int .i64 g] 41)
  have h0 := h.below hb0
  obtain ⟨ho, hr, m, l, h1, h2, h3, hF, h5⟩ := h0
  have e0 := blk_cell h1 0
  simp only [List.getElem?_toArray, List.getElem?_cons_zero] at e0
  have hfl := blk_lt h1
  have H1 := Lib.hid (delF_any m w.heap.size l s g w0 h2 (fun b hb => (hr b (h3.mem_iff.1 hb)).1) hz0)
  have Hb0 := Lib.hid hb0; have Hz0 := Lib.hid hz0; have Ho := Lib.hid ho; have Hr := Lib.hid hr; have HB1 := Lib.hid h1; have H2 := Lib.hid h2; have H3 := Lib.hid h3; have HF := Lib.hid hF; have H5 := Lib.hid h5
  clear hb0 hz0 ho hr h1 h2 h3 hF h5
  clear h hs0
  go_enter Tryz.func96, Tryz.ntmps96
  go_wp2_with fail
  clear hw0
  refine H1.out.mono ?_
  rintro e w1 ⟨rfl, ⟨l', hm', hp'⟩, hmod⟩
  have hfin : FRet (goneB B (s, g)) (.tuple #[]) f F w (.returned (.tuple #[])) w1 := by
    refine ⟨rfl, ⟨Ho.out.sub List.filter_sublist, fun b hb => Hr.out b (List.mem_filter.1 hb).1, m, l', hmod.keep HB1.out (by simpa using H5.out), hm', ?_, HF.out, H5.out⟩, ?_⟩
    · rw [goneB_eq]; exact hp'.trans (H3.out.filter _)
    · exact ((Mod.ofBelow Hb0.out).mono (by simp) : Mod F w w0).step (hmod.mono (by rw [HF.out]; simp))
  have Hfin := Lib.hid hfin
  clear hfin
  clear hmod hm' hp'
  go_wp2
  refine bodyPost_end (v := .tuple #[]) ?_ rfl Hfin.out
  unfold results; try go_simp

theorem app_bond {w : World} {ops : Array Oper} {rest : List Oper} {o : Oper} {a : Act} {Q : Exit → Act → World → Prop} (hgd : o.guard = none) (s x : Operand)
    (ho : o.op = .call { callee := .builtin .append, args := #[s, x], argTypes := #[24, 24] }) (base : Nat) (v : Value) (l : List Bd) (y : Bd) (ad : Addr) (c : Nat)
    (hs : a.eval s = v) (hown : w.ownsRow base 84 4 v l.length (l.flatMap bdC)) (hx : a.eval x = .slice (some ad) 1 c) (hc : ∀ j u, (bdC y)[j]? = some u → w.cell? (ad.add j) = some u)
    (hlen : l.length < 4000000000000) (hbase : base ≤ w.heap.size)
    (h : ∀ v' w', w'.ownsRow base 84 4 v' (l ++ [y]).length ((l ++ [y]).flatMap bdC) → w.grownBy w' v.ownBlock → wpList Tryz.prog ops Q rest (a.put o.dst v') w') : wpList Tryz.prog ops Q (o :: rest) a w := by
  refine app_rec (enc := bdC) (n := 4) (bytes := 32) hgd s x 24 84 ho Tryz.underlying24 inf_Bond rfl (by omega) (by omega) bdC_one bdC_len base v l y ad c hs hown hx hc (by omega) hbase ?_
  intro v' w' h1 h2 _
  exact h v' w' h1 h2
theorem own_ne_range {P : Program} {kt : TypeId} {w : World} {B E k n b r : Nat} {v : Value} {xs : List Value} {l todo : List (Value × Value)} (h : w.ownsRow B E k v n xs) (hR : RangeAt P kt w b r l todo) : r ∉ v.ownBlock.toList ∧ b ∉ v.ownBlock.toList := by
  obtain ⟨es, clock, since, seen, c0, h1, h2, h3, -⟩ := hR
  obtain ⟨-, ⟨rfl, -⟩ | ⟨g, cap, cur, rfl, -, hb, -⟩⟩ := h
  · simp [Value.ownBlock]
  · simp only [Value.ownBlock, Option.toList_some, List.mem_singleton]
    constructor
    · rintro rfl; rw [hb] at h3; cases h3
    · rintro rfl; rw [hb] at h1; cases h1
set_option maxRecDepth 20000 in
set_option maxHeartbeats 4000000 in
theorem bonds_any (h : RepF w f B F) (hB : B.length ≤ 1200000000000) : Calls Tryz.prog 38 #[.pointer (some ⟨f, 0, none⟩)] w (MadeRecs 84 4 bdC B w) := by
  obtain ⟨ho, hr, m, l, h1, h2, h3, hF, h5⟩ := h
  obtain ⟨o, hrun, hR⟩ := h2.range Tryz.underlying115
  obtain ⟨w1, hw1, hb1, -, hs1⟩ := box1 w o
  rw [hw1] at hR
  have e0 := blk_cell h1 0
  simp only [List.getElem?_toArray, List.getElem?_cons_zero] at e0
  have hfl := blk_lt h1
  have hll : l.length ≤ 1200000000000 := by rw [h3.length_eq]; exact hB
  have HR := Lib.hid hR; have Hb1 := Lib.hid hb1; have Hs1 := Lib.hid hs1; have Ho := Lib.hid ho; have H3 := Lib.hid h3; have Hll := Lib.hid hll
  clear hR hb1 hs1 ho h3 hll
  clear h1 h2 hr hF h5 hB
  go_enter Tryz.func38, Tryz.ntmps38
  go_wp2_with fail
  clear hrun hw1 e0 hfl
  go_loopw [3, 12] (fun v _ wr => ∃ (D ts : List Bd), RangeAt Tryz.prog 41 wr m w.heap.size (l.map bdPr) (ts.map bdPr) ∧ (D ++ ts).Perm l ∧ wr.ownsRow w.heap.size 84 4 v D.length (D.flatMap bdC) ∧ Below w.heap.size w wr) (fun _ _ wr => wr.rangeLeft m w.heap.size)
  case atStart => exact ⟨[], l, HR.out, .refl _, ⟨rfl, .inl ⟨rfl, rfl⟩⟩, Hb1.out⟩
  case round =>
    obtain ⟨D, ts, hR, hp, hown, hB⟩ := hrel
    obtain ⟨A, cap, rfl, -, -⟩ := row_slice hown
    have hlen : D.length + ts.length = l.length := by rw [← List.length_append]; exact hp.length_eq
    by_cases hts : ts = []
    · subst hts
      have hov := fun ty => RangeAt.over (P := Tryz.prog) (by simpa using hR) ty
      simp only [List.append_nil] at hp
      have H1 := Lib.hid (sortBonds_any hown (by have := Hll.out; rw [hp.length_eq]; exact this))
      have Hp := Lib.hid hp; have HB := Lib.hid hB; have Hown := Lib.hid hown
      clear hp hB hown
      clear hR hlen
      go_wp2_with fail
      refine H1.out.mono ?_
      rintro e w2 ⟨rfl, l', hp', hs', hown', hmod⟩
      have hl' : l' = B := sortB_eq Ho.out.so ((hp'.trans Hp.out).trans H3.out) (hs'.imp fun {x y} h => by
        have h : ltOf cmpH y.1 x.1 = false := h
        rw [ltHd_eq] at h; exact h)
      have hB2 : Below w.heap.size w w2 := HB.out.trans (hmod.toBelow (fun x hx => own_ge Hown.out x (by simpa using hx)) HB.out.size)
      rw [hl'] at hown'
      have hDl : D.length = B.length := (Hp.out.trans H3.out).length_eq
      have HB2 := Lib.hid hB2; have HO2 := Lib.hid hown'
      clear hB2 hown'
      clear hp' hs' hmod hl'
      go_wp2
      refine bodyPost_ret (v := .slice A D.length cap) (by unfold results; try go_simp) rfl ?_
      exact ⟨_, rfl, HO2.out, HB2.out⟩
    · obtain ⟨t1, x, t2, w2, rfl, hn, hen, hx, hR2, hm2, hs2⟩ := hR.nextE hts
      have hmeas := hR.left_eq
      obtain ⟨⟨c0, c1⟩, p0, p1⟩ := x
      have hne := own_ne_range hown hR
      have hrl := hR.lt
      have hown2 := row_mod hown hm2 (fun k hk e => by
        have hk' : k = w.heap.size := by simpa using e
        subst hk'; exact hne.1 (by rw [hk]; simp))
      have hB2 : Below w.heap.size w w2 := hB.trans (hm2.toBelow (by simp) hB.size)
      simp only [bdPr, hdV, handleC] at hn hen
      have hDl : D.length < 1200000000000 := by have := Hll.out; simp at hlen; omega
      have HR := Lib.hid hR; have Hp := Lib.hid hp; have Hown := Lib.hid hown; have HB := Lib.hid hB; have HR2 := Lib.hid hR2; have Hm2 := Lib.hid hm2; have Hs2 := Lib.hid hs2; have Hmeas := Lib.hid hmeas; have HNe := Lib.hid hne; have Hown2 := Lib.hid hown2; have HB2 := Lib.hid hB2; have Hx := Lib.hid hx; have HDl := Lib.hid hDl
      clear hR hp hown hB hR2 hm2 hs2 hmeas hne hown2 hB2 hx hDl
      clear hlen
      go_wp2_with (at_builtin; refine app_bond rfl _ _ rfl w.heap.size (.slice A D.length cap) D ((c0, c1), (p0, p1)) ⟨w2.heap.size + 2, 0, none⟩ 1 rfl (((Hown2.out.alloc _).alloc _).alloc _) rfl (new_rec (by simp) rfl) (by have := HDl.out; omega) (by have := HB2.out.size; simp; omega) ?_; intro v' w3 hown3 hg3)
      go_roundw
      case rel =>
        refine ⟨D ++ [((c0, c1), (p0, p1))], t1 ++ t2, ?_, (mid_perm D t1 t2 _).symm.trans Hp.out, hown3, ?_⟩
        · refine (HR2.out.mod ((((Mod.refl [] w2).alloc _).alloc _).alloc _) (by simp) (by simp)).mod (grown_mod hg3) HNe.out.2 HNe.out.1
        · exact (((HB2.out.alloc HB2.out.size _).alloc (by have := HB2.out.size; simp; omega) _).alloc (by have := HB2.out.size; simp; omega) _).trans ((Below.refl _ _).grown hg3 (by have := HB2.out.size; simp; omega) (own_ge Hown.out))
      case measure =>
        have h3 := (HR2.out.mod ((((Mod.refl [] w2).alloc _).alloc _).alloc _) (by simp) (by simp)).mod (grown_mod hg3) HNe.out.2 HNe.out.1
        rw [h3.left_eq, Hmeas.out]; simp
end
end Go.Proofs.YtehjfmjibiafdaaGreat
