import Derived.Test.YtkcpmoinpdojjaaFamilyTellsJ33
import Derived.Test.YtkcpmoinpdojjaaFamilyTellsJ26
/- A family and the reference's bonds side by side; related. (printed by mk_fam6.py) -/
namespace Go.Proofs.Ytkcpmoinpdojjaa
open Go Go.RowKit
attribute [local go_sem] AllFrom.cons_eq AllFrom.nil_eq putF_nil putF_cons wantedL_none wantedL_some OpGoalT OpGoalV OpGoalQ OpGoalA OpGoalK YieldsR preF_nil preF_cons

def AF (f : Nat) (B : List Bd) (w : World) (F : List Nat) : Prop := RepF w f B F
def AB (vg vl vr : Value) (q : Nat) (B : List Bd) (w : World) (F : List Nat) : Prop := RepB vg vl vr w q B F
theorem own_F (f : Nat) (B : List Bd) : Own (AF f B) := ⟨fun h hm hd => RepF.mod h hm hd, fun h => RepF.lt h⟩
theorem own_B (vg vl vr : Value) (q : Nat) (B : List Bd) : Own (AB vg vl vr q B) := ⟨fun h hm hd => RepB.mod h hm hd, fun h => RepB.lt h⟩
abbrev PF (vg vl vr : Value) (Lo : Nat) (Z : List Nat) (f q : Nat) (B B' : List Bd) (w : World) : Prop := Sep Lo Z (AF f B) (AB vg vl vr q B') w
section
variable {vg vl vr : Value} {Lo : Nat} {Z : List Nat} {f q : Nat} {B B' : List Bd} {w : World}
theorem PF.ok (h : PF vg vl vr Lo Z f q B B' w) : FamOk B := by obtain ⟨F, G, h⟩ := h; exact h.a.ok
theorem pf_below {w' : World} (h : PF vg vl vr Lo Z f q B B' w) (hb : Below w.heap.size w w') : PF vg vl vr Lo Z f q B B' w' ∧ Below Lo w w' ∧ KeepZ Z w w' := Sep.below (own_F _ _) (own_B _ _ _ _ _) h hb
def PFPost (vg vl vr : Value) (Lo : Nat) (Z : List Nat) (f q : Nat) (B B' : List Bd) (w : World) (r : Value) (e : Ending) (w' : World) : Prop :=
  e = .returned r ∧ PF vg vl vr Lo Z f q B B' w' ∧ Below Lo w w' ∧ KeepZ Z w w'
theorem fret_own {B1 : List Bd} {r : Value} {F : List Nat} {e : Ending} {w' : World} (h : FRet B1 r f F w e w') : e = .returned r ∧ OwnPost (AF f B1) F w w' := ⟨h.1, F, h.2.1, h.2.2, fun _ h => .inl h⟩
theorem adoB_len (B : List Bd) (c p : Hd) : (adoB B c p).length ≤ B.length + 1 := by
  unfold adoB
  split
  · omega
  · rw [(insB_perm B (c, p)).length_eq, List.length_cons]
    have h1 : (outB B (c, p).1).length ≤ B.length := List.length_filter_le _ _
    omega
theorem pf_fadopt (h : PF vg vl vr Lo Z f q B B' w) (s g t u : Int) (hc : HdR (s, g)) (hp : HdR (t, u)) : Calls Try.prog 44 #[.pointer (some ⟨f, 0, none⟩), .agg #[.int .i64 s, .int .i64 g], .agg #[.int .i64 t, .int .i64 u]] w (PFPost vg vl vr Lo Z f q (adoB B (s, g) (t, u)) B' w (.int .i64 (adoE B (s, g) (t, u)))) :=
  Sep.callL (own_F _ _) (own_B _ _ _ _ _) h fun _ hF => (adopt_any hF s g t u hc hp).mono fun _ _ h => fret_own h
theorem pf_floosen (h : PF vg vl vr Lo Z f q B B' w) (s g : Int) (hc : HdR (s, g)) : Calls Try.prog 92 #[.pointer (some ⟨f, 0, none⟩), .agg #[.int .i64 s, .int .i64 g]] w (PFPost vg vl vr Lo Z f q (outB B (s, g)) B' w (.int .i64 (looE (parB B (s, g))))) :=
  Sep.callL (own_F _ _) (own_B _ _ _ _ _) h fun _ hF => (loosen_any hF s g hc).mono fun _ _ h => fret_own h
theorem pf_fgone (h : PF vg vl vr Lo Z f q B B' w) (s g : Int) : Calls Try.prog 94 #[.pointer (some ⟨f, 0, none⟩), .agg #[.int .i64 s, .int .i64 g]] w (PFPost vg vl vr Lo Z f q (goneB B (s, g)) B' w (.tuple #[])) :=
  Sep.callL (own_F _ _) (own_B _ _ _ _ _) h fun _ hF => (gone_any hF s g).mono fun _ _ h => fret_own h
theorem pf_fparent (h : PF vg vl vr Lo Z f q B B' w) (s g : Int) (hc : HdR (s, g)) : Calls Try.prog 42 #[.pointer (some ⟨f, 0, none⟩), .agg #[.int .i64 s, .int .i64 g]] w (PFPost vg vl vr Lo Z f q B B' w (.tuple #[hdV (parV (parB B (s, g))), .bool (parB B (s, g)).isSome])) :=
  Sep.readL (own_F _ _) (own_B _ _ _ _ _) h fun _ hF => parent_any hF s g hc
theorem radopt_any (hO : FamOk B) (hl : B.length ≤ 1200000000000) {F : List Nat} (h : RepB vg vl vr w q B F) (s g t u : Int) : Calls Try.prog 91 #[.pointer (some ⟨q, 0, none⟩), .agg #[.int .i64 s, .int .i64 g], .agg #[.int .i64 t, .int .i64 u]] w (RFRet vg vl vr (adoB B (s, g) (t, u)) (.int .i64 (adoE B (s, g) (t, u))) q F w) := by
  by_cases e : (s, g) = (t, u)
  · obtain ⟨rfl, rfl⟩ := Prod.mk.inj e
    rw [show adoB B (s, g) (s, g) = B by unfold adoB; rw [if_pos (Up.refl _)], show adoE B (s, g) (s, g) = 8 by unfold adoE; rw [if_pos (Up.refl _)]]
    exact radopt_same h s g
  · exact radopt_diff hO hl h s g t u e
theorem pf_radopt (h : PF vg vl vr Lo Z f q B B' w) (hO : FamOk B') (hl : B'.length ≤ 1200000000000) (s g t u : Int) : Calls Try.prog 91 #[.pointer (some ⟨q, 0, none⟩), .agg #[.int .i64 s, .int .i64 g], .agg #[.int .i64 t, .int .i64 u]] w (PFPost vg vl vr Lo Z f q B (adoB B' (s, g) (t, u)) w (.int .i64 (adoE B' (s, g) (t, u)))) :=
  Sep.callR (own_F _ _) (own_B _ _ _ _ _) h fun _ hF => radopt_any hO hl hF s g t u
theorem pf_rloosen (h : PF vg vl vr Lo Z f q B B' w) (hl : B'.length ≤ 1200000000000) (s g : Int) : Calls Try.prog 93 #[.pointer (some ⟨q, 0, none⟩), .agg #[.int .i64 s, .int .i64 g]] w (PFPost vg vl vr Lo Z f q B (outB B' (s, g)) w (.int .i64 (looE (parB B' (s, g))))) :=
  Sep.callR (own_F _ _) (own_B _ _ _ _ _) h fun _ hF => rloosen_any hF hl s g
theorem pf_rgone (h : PF vg vl vr Lo Z f q B B' w) (hl : B'.length ≤ 1200000000000) (s g : Int) : Calls Try.prog 95 #[.pointer (some ⟨q, 0, none⟩), .agg #[.int .i64 s, .int .i64 g]] w (PFPost vg vl vr Lo Z f q B (goneB B' (s, g)) w (.tuple #[])) :=
  Sep.callR (own_F _ _) (own_B _ _ _ _ _) h fun _ hF => rgone_any hF hl s g
theorem pf_rparent (h : PF vg vl vr Lo Z f q B B' w) (hl : B'.length ≤ 1200000000000) (s g : Int) : Calls Try.prog 43 #[.pointer (some ⟨q, 0, none⟩), .agg #[.int .i64 s, .int .i64 g]] w (PFPost vg vl vr Lo Z f q B B' w (.tuple #[hdV (parV (parB B' (s, g))), .bool (parB B' (s, g)).isSome])) :=
  Sep.readR (own_F _ _) (own_B _ _ _ _ _) h fun _ hF => rpar_any hF hl s g

/-- What related leaves. -/
def RelPost (vg vl vr : Value) (Lo : Nat) (Z : List Nat) (f q : Nat) (B : List Bd) (w : World) (e : Ending) (w' : World) : Prop :=
  e = .returned (.bool true) ∧ (∃ B1 : List Bd, B1.length ≤ B.length + 1 ∧ PF vg vl vr Lo Z f q B1 B1 w') ∧ Below Lo w w' ∧ KeepZ Z w w'

set_option maxRecDepth 20000 in
set_option maxHeartbeats 4000000 in
theorem rel_adopt (h : PF vg vl vr Lo Z f q B B w) (hl : B.length ≤ 1200000000000) (K a0 a1 a2 a3 a4 a5 a6 a7 s g t u k n : Int) (hc : HdR (s, g)) (hp : HdR (t, u)) : Calls Try.prog 39 #[.pointer (some ⟨f, 0, none⟩), .pointer (some ⟨q, 0, none⟩), .agg #[.int .i64 5, .int .i64 K, .int .i64 a0, .int .i64 a1, .int .i64 a2, .int .i64 a3, .int .i64 a4, .int .i64 a5, .int .i64 a6, .int .i64 a7, .int .i64 s, .int .i64 g, .int .i64 t, .int .i64 u, .int .i64 k, .int .i64 n]] w (RelPost vg vl vr Lo Z f q B w) := by
  obtain ⟨w0, hw0, hb0, hz0, hs0⟩ := box1 w (.cells #[.int .i64 5, .int .i64 K, .int .i64 a0, .int .i64 a1, .int .i64 a2, .int .i64 a3, .int .i64 a4, .int .i64 a5, .int .i64 a6, .int .i64 a7, .int .i64 s, .int .i64 g, .int .i64 t, .int .i64 u, .int .i64 k, .int .i64 n] 74)
  have HO := Lib.hid h.ok
  have h0 := Sep.fresh (own_F _ _) (own_B _ _ _ _ _) h hb0 w.heap.size (Nat.le_refl _) (by omega)
  have hg0 : Went Lo Z w w0 := ⟨hb0.mono h.lo, (pf_below h hb0).2.2⟩
  have q0 := blk_cell hz0 0
  have q1 := blk_cell hz0 1
  have q2 := blk_cell hz0 2
  have q3 := blk_cell hz0 3
  have q4 := blk_cell hz0 4
  have q5 := blk_cell hz0 5
  have q6 := blk_cell hz0 6
  have q7 := blk_cell hz0 7
  have q8 := blk_cell hz0 8
  have q9 := blk_cell hz0 9
  have q10 := blk_cell hz0 10
  have q11 := blk_cell hz0 11
  have q12 := blk_cell hz0 12
  have q13 := blk_cell hz0 13
  have q14 := blk_cell hz0 14
  have q15 := blk_cell hz0 15
  simp only [List.getElem?_toArray, List.getElem?_cons_zero, List.getElem?_cons_succ] at q0 q1 q2 q3 q4 q5 q6 q7 q8 q9 q10 q11 q12 q13 q14 q15
  have ql := blk_lt hz0
  have HP := Lib.hid h0; have Hz0 := Lib.hid hz0; have Hs0 := Lib.hid hs0; have Hg0 := Lib.hid hg0; have HL := Lib.hid hl; have HC := Lib.hid hc; have HPr := Lib.hid hp
  clear h0 hz0 hs0 hg0 hl hc hp
  clear h hb0
  go_enter Try.func39, Try.ntmps39
  go_wp2_with fail
  clear hw0
  clear q0 q1 q2 q3 q4 q5 q6 q7 q8 q9 q10 q11 q12 q13 q14 q15 ql
  refine wp_planK [] 11 [0, 6] [some 11, some 12, some 13, some 14, some 15, some 16, some 17, some 18, some 19, some 20, some 21, some 22, some 23, some 6] [[], [], [1], [], [3], [0, 1, 2, 3, 4], [], [], [7], [], [9], [0, 1, 2, 3, 4, 5, 6, 7, 8, 9, 10], [0, 1, 2, 3, 4, 5, 6, 7, 8, 9, 10, 11], [0, 1, 2, 3, 4, 5, 6, 7, 8, 9, 10, 11, 12]] [0, 1, 2, 3, 4, 5, 6, 7, 8, 9, 10] (fun Lf σ V => ITwo 5 Lo (w.heap.size :: Z) w0 (PF vg vl vr Lo (w.heap.size :: Z) f q B B) (PF vg vl vr Lo (w.heap.size :: Z) f q (adoB B (s, g) (t, u)) B) Lf σ V) mixed rfl (by kernel_rfl) (by decide) (by decide) (by decide) (ITwo.start (pf_below HP.out below_drew).1 (pf_below HP.out below_drew).2.1 (pf_below HP.out below_drew).2.2) rfl ?_
  iterate 11 apply Exists.intro
  refine ⟨rfl, ?_, ?_⟩
  · simp only [List.take_succ_cons, List.take_zero, AllFrom.cons_eq, AllFrom.nil_eq, OpGoalK]
    refine ⟨?_, ?_, ?_, ?_, ?_, ?_, ?_, ?_, ?_, ?_, ?_, trivial⟩
    all_goals (intro L' σ V h1 h2 h3 hI hp; have HA1 := Lib.hid h1; have HA2 := Lib.hid h2; have HA3 := Lib.hid h3; clear h1 h2 h3; (try simp only [List.getD_cons_zero, List.getD_cons_succ, preK_cons, preK_nil] at hp); (try simp only [List.mem_cons, List.not_mem_nil, or_false, eq_self, Nat.reduceEqDiff, Nat.reduceAdd, Nat.zero_add, false_or, true_or, true_and, and_true] at hp); (first | (have hq : True := hp; clear hq hp) | skip); have HI := Lib.hid hI; clear hI)
    all_goals (
      have hzV := HI.out.k _ (by simp) _ Hz0.out
      have q0 := blk_cell hzV 0
      have q1 := blk_cell hzV 1
      have q2 := blk_cell hzV 2
      have q3 := blk_cell hzV 3
      have q4 := blk_cell hzV 4
      have q5 := blk_cell hzV 5
      have q6 := blk_cell hzV 6
      have q7 := blk_cell hzV 7
      have q8 := blk_cell hzV 8
      have q9 := blk_cell hzV 9
      have q10 := blk_cell hzV 10
      have q11 := blk_cell hzV 11
      have q12 := blk_cell hzV 12
      have q13 := blk_cell hzV 13
      have q14 := blk_cell hzV 14
      have q15 := blk_cell hzV 15
      simp only [List.getElem?_toArray, List.getElem?_cons_zero, List.getElem?_cons_succ] at q0 q1 q2 q3 q4 q5 q6 q7 q8 q9 q10 q11 q12 q13 q14 q15
      have ql := blk_lt hzV
      clear hzV)
    · (go_simp; exact ⟨.inr rfl, HI.out.read (by decide) _⟩)
    · (go_simp; exact ⟨.inr rfl, HI.out.read (by decide) _⟩)
    · (go_simp; exact ⟨.inr rfl, HI.out.read (by decide) _⟩)
    · (go_simp; exact ⟨.inr rfl, HI.out.read (by decide) _⟩)
    · (go_simp; exact ⟨.inr rfl, HI.out.read (by decide) _⟩)
    · go_simp
      refine ((pf_fadopt (HI.out.s0 (HA1.out)) s g t u HC.out HPr.out)).mono ?_
      rintro e V' ⟨rfl, h1, hb, hk⟩
      exact ⟨_, rfl, .inr rfl, HI.out.turn h1 hb hk _⟩
    · (go_simp; exact ⟨.inr rfl, HI.out.read (by decide) _⟩)
    · (go_simp; exact ⟨.inr rfl, HI.out.read (by decide) _⟩)
    · (go_simp; exact ⟨.inr rfl, HI.out.read (by decide) _⟩)
    · (go_simp; exact ⟨.inr rfl, HI.out.read (by decide) _⟩)
    · (go_simp; exact ⟨.inr rfl, HI.out.read (by decide) _⟩)
  · intro L' σ V h1 hI hp
    have hs := hI.s1 (h1 5 (by decide))
    have hgV : Went Lo Z w V := Hg0.out.trans (Went.more ⟨hI.b, hI.k⟩)
    have hzV := hI.k _ (by simp) _ Hz0.out
    clear h1 hI
    simp only [preK_cons, preK_nil, List.getD_cons_zero, List.getD_cons_succ] at hp; simp only [List.mem_cons, List.not_mem_nil, or_false, eq_self, Nat.reduceEqDiff, false_or, true_or, true_and, and_true] at hp
    have q0 := blk_cell hzV 0
    have q1 := blk_cell hzV 1
    have q2 := blk_cell hzV 2
    have q3 := blk_cell hzV 3
    have q4 := blk_cell hzV 4
    have q5 := blk_cell hzV 5
    have q6 := blk_cell hzV 6
    have q7 := blk_cell hzV 7
    have q8 := blk_cell hzV 8
    have q9 := blk_cell hzV 9
    have q10 := blk_cell hzV 10
    have q11 := blk_cell hzV 11
    have q12 := blk_cell hzV 12
    have q13 := blk_cell hzV 13
    have q14 := blk_cell hzV 14
    have q15 := blk_cell hzV 15
    simp only [List.getElem?_toArray, List.getElem?_cons_zero, List.getElem?_cons_succ] at q0 q1 q2 q3 q4 q5 q6 q7 q8 q9 q10 q11 q12 q13 q14 q15
    have ql := blk_lt hzV
    have H2 := Lib.hid ((fun hs hl => pf_radopt hs HO.out hl s g t u) hs HL.out)
    have hlen := adoB_len B (s, g) (t, u)
    generalize adoE B (s, g) (t, u) = rr at *
    have HgV := Lib.hid hgV; have HLen := Lib.hid hlen
    clear hgV hlen
    clear hs hzV
    simp only [List.drop_succ_cons, List.drop_zero]
    go_simp
    clear hp
    go_wp2_with fail
    refine H2.out.mono ?_
    rintro e w2 ⟨rfl, h2, hb2, hk2⟩
    have hF := h2.drop (Y := Z) (fun y hy => List.mem_cons_of_mem _ hy)
    have hg2 : Went Lo Z w w2 := HgV.out.trans (Went.more ⟨hb2, hk2⟩)
    have HF := Lib.hid hF; have Hg2 := Lib.hid hg2
    clear hF hg2
    clear h2 hb2 hk2
    go_wp2_with fail
    refine ⟨rfl, ?_⟩
    go_wp2
    go_ret
    exact ⟨rfl, ⟨_, HLen.out, HF.out⟩, Hg2.out.b, Hg2.out.k⟩
  all_goals exact undef

set_option maxRecDepth 20000 in
set_option maxHeartbeats 4000000 in
theorem rel_loosen (h : PF vg vl vr Lo Z f q B B w) (hl : B.length ≤ 1200000000000) (K a0 a1 a2 a3 a4 a5 a6 a7 s g t u k n : Int) (hc : HdR (s, g)) (hp : HdR (t, u)) : Calls Try.prog 39 #[.pointer (some ⟨f, 0, none⟩), .pointer (some ⟨q, 0, none⟩), .agg #[.int .i64 6, .int .i64 K, .int .i64 a0, .int .i64 a1, .int .i64 a2, .int .i64 a3, .int .i64 a4, .int .i64 a5, .int .i64 a6, .int .i64 a7, .int .i64 s, .int .i64 g, .int .i64 t, .int .i64 u, .int .i64 k, .int .i64 n]] w (RelPost vg vl vr Lo Z f q B w) := by
  obtain ⟨w0, hw0, hb0, hz0, hs0⟩ := box1 w (.cells #[.int .i64 6, .int .i64 K, .int .i64 a0, .int .i64 a1, .int .i64 a2, .int .i64 a3, .int .i64 a4, .int .i64 a5, .int .i64 a6, .int .i64 a7, .int .i64 s, .int .i64 g, .int .i64 t, .int .i64 u, .int .i64 k, .int .i64 n] 74)
  have HO := Lib.hid h.ok
  have h0 := Sep.fresh (own_F _ _) (own_B _ _ _ _ _) h hb0 w.heap.size (Nat.le_refl _) (by omega)
  have hg0 : Went Lo Z w w0 := ⟨hb0.mono h.lo, (pf_below h hb0).2.2⟩
  have q0 := blk_cell hz0 0
  have q1 := blk_cell hz0 1
  have q2 := blk_cell hz0 2
  have q3 := blk_cell hz0 3
  have q4 := blk_cell hz0 4
  have q5 := blk_cell hz0 5
  have q6 := blk_cell hz0 6
  have q7 := blk_cell hz0 7
  have q8 := blk_cell hz0 8
  have q9 := blk_cell hz0 9
  have q10 := blk_cell hz0 10
  have q11 := blk_cell hz0 11
  have q12 := blk_cell hz0 12
  have q13 := blk_cell hz0 13
  have q14 := blk_cell hz0 14
  have q15 := blk_cell hz0 15
  simp only [List.getElem?_toArray, List.getElem?_cons_zero, List.getElem?_cons_succ] at q0 q1 q2 q3 q4 q5 q6 q7 q8 q9 q10 q11 q12 q13 q14 q15
  have ql := blk_lt hz0
  have HP := Lib.hid h0; have Hz0 := Lib.hid hz0; have Hs0 := Lib.hid hs0; have Hg0 := Lib.hid hg0; have HL := Lib.hid hl; have HC := Lib.hid hc; have HPr := Lib.hid hp
  clear h0 hz0 hs0 hg0 hl hc hp
  clear h hb0
  go_enter Try.func39, Try.ntmps39
  go_wp2_with fail
  clear hw0
  clear q0 q1 q2 q3 q4 q5 q6 q7 q8 q9 q10 q11 q12 q13 q14 q15 ql
  refine wp_planK [] 7 [0, 4] [some 26, some 27, some 28, some 29, some 30, some 31, some 32, some 33, some 34, some 6] [[], [], [1], [0, 1, 2], [], [], [5], [0, 1, 2, 3, 4, 5, 6], [0, 1, 2, 3, 4, 5, 6, 7], [0, 1, 2, 3, 4, 5, 6, 7, 8]] [0, 1, 2, 3, 4, 5, 6] (fun Lf σ V => ITwo 3 Lo (w.heap.size :: Z) w0 (PF vg vl vr Lo (w.heap.size :: Z) f q B B) (PF vg vl vr Lo (w.heap.size :: Z) f q (outB B (s, g)) B) Lf σ V) mixed rfl (by kernel_rfl) (by decide) (by decide) (by decide) (ITwo.start (pf_below HP.out below_drew).1 (pf_below HP.out below_drew).2.1 (pf_below HP.out below_drew).2.2) rfl ?_
  iterate 7 apply Exists.intro
  refine ⟨rfl, ?_, ?_⟩
  · simp only [List.take_succ_cons, List.take_zero, AllFrom.cons_eq, AllFrom.nil_eq, OpGoalK]
    refine ⟨?_, ?_, ?_, ?_, ?_, ?_, ?_, trivial⟩
    all_goals (intro L' σ V h1 h2 h3 hI hp; have HA1 := Lib.hid h1; have HA2 := Lib.hid h2; have HA3 := Lib.hid h3; clear h1 h2 h3; (try simp only [List.getD_cons_zero, List.getD_cons_succ, preK_cons, preK_nil] at hp); (try simp only [List.mem_cons, List.not_mem_nil, or_false, eq_self, Nat.reduceEqDiff, Nat.reduceAdd, Nat.zero_add, false_or, true_or, true_and, and_true] at hp); (first | (have hq : True := hp; clear hq hp) | skip); have HI := Lib.hid hI; clear hI)
    all_goals (
      have hzV := HI.out.k _ (by simp) _ Hz0.out
      have q0 := blk_cell hzV 0
      have q1 := blk_cell hzV 1
      have q2 := blk_cell hzV 2
      have q3 := blk_cell hzV 3
      have q4 := blk_cell hzV 4
      have q5 := blk_cell hzV 5
      have q6 := blk_cell hzV 6
      have q7 := blk_cell hzV 7
      have q8 := blk_cell hzV 8
      have q9 := blk_cell hzV 9
      have q10 := blk_cell hzV 10
      have q11 := blk_cell hzV 11
      have q12 := blk_cell hzV 12
      have q13 := blk_cell hzV 13
      have q14 := blk_cell hzV 14
      have q15 := blk_cell hzV 15
      simp only [List.getElem?_toArray, List.getElem?_cons_zero, List.getElem?_cons_succ] at q0 q1 q2 q3 q4 q5 q6 q7 q8 q9 q10 q11 q12 q13 q14 q15
      have ql := blk_lt hzV
      clear hzV)
    · (go_simp; exact ⟨.inr rfl, HI.out.read (by decide) _⟩)
    · (go_simp; exact ⟨.inr rfl, HI.out.read (by decide) _⟩)
    · (go_simp; exact ⟨.inr rfl, HI.out.read (by decide) _⟩)
    · go_simp
      refine ((pf_floosen (HI.out.s0 (HA1.out)) s g HC.out)).mono ?_
      rintro e V' ⟨rfl, h1, hb, hk⟩
      exact ⟨_, rfl, .inr rfl, HI.out.turn h1 hb hk _⟩
    · (go_simp; exact ⟨.inr rfl, HI.out.read (by decide) _⟩)
    · (go_simp; exact ⟨.inr rfl, HI.out.read (by decide) _⟩)
    · (go_simp; exact ⟨.inr rfl, HI.out.read (by decide) _⟩)
  · intro L' σ V h1 hI hp
    have hs := hI.s1 (h1 3 (by decide))
    have hgV : Went Lo Z w V := Hg0.out.trans (Went.more ⟨hI.b, hI.k⟩)
    have hzV := hI.k _ (by simp) _ Hz0.out
    clear h1 hI
    simp only [preK_cons, preK_nil, List.getD_cons_zero, List.getD_cons_succ] at hp; simp only [List.mem_cons, List.not_mem_nil, or_false, eq_self, Nat.reduceEqDiff, false_or, true_or, true_and, and_true] at hp
    have q0 := blk_cell hzV 0
    have q1 := blk_cell hzV 1
    have q2 := blk_cell hzV 2
    have q3 := blk_cell hzV 3
    have q4 := blk_cell hzV 4
    have q5 := blk_cell hzV 5
    have q6 := blk_cell hzV 6
    have q7 := blk_cell hzV 7
    have q8 := blk_cell hzV 8
    have q9 := blk_cell hzV 9
    have q10 := blk_cell hzV 10
    have q11 := blk_cell hzV 11
    have q12 := blk_cell hzV 12
    have q13 := blk_cell hzV 13
    have q14 := blk_cell hzV 14
    have q15 := blk_cell hzV 15
    simp only [List.getElem?_toArray, List.getElem?_cons_zero, List.getElem?_cons_succ] at q0 q1 q2 q3 q4 q5 q6 q7 q8 q9 q10 q11 q12 q13 q14 q15
    have ql := blk_lt hzV
    have H2 := Lib.hid ((fun hs hl => pf_rloosen hs hl s g) hs HL.out)
    have hlen := (show (outB B (s, g)).length ≤ B.length + 1 from Nat.le_trans (List.length_filter_le _ _) (Nat.le_succ _))
    generalize looE (parB B (s, g)) = rr at *
    have HgV := Lib.hid hgV; have HLen := Lib.hid hlen
    clear hgV hlen
    clear hs hzV
    simp only [List.drop_succ_cons, List.drop_zero]
    go_simp
    clear hp
    go_wp2_with fail
    refine H2.out.mono ?_
    rintro e w2 ⟨rfl, h2, hb2, hk2⟩
    have hF := h2.drop (Y := Z) (fun y hy => List.mem_cons_of_mem _ hy)
    have hg2 : Went Lo Z w w2 := HgV.out.trans (Went.more ⟨hb2, hk2⟩)
    have HF := Lib.hid hF; have Hg2 := Lib.hid hg2
    clear hF hg2
    clear h2 hb2 hk2
    go_wp2_with fail
    refine ⟨rfl, ?_⟩
    go_wp2
    go_ret
    exact ⟨rfl, ⟨_, HLen.out, HF.out⟩, Hg2.out.b, Hg2.out.k⟩
  all_goals exact undef


set_option maxRecDepth 20000 in
set_option maxHeartbeats 4000000 in
theorem rel_kill (h : PF vg vl vr Lo Z f q B B w) (hl : B.length ≤ 1200000000000) (K a0 a1 a2 a3 a4 a5 a6 a7 s g t u k n : Int) (hc : HdR (s, g)) (hp : HdR (t, u)) : Calls Try.prog 39 #[.pointer (some ⟨f, 0, none⟩), .pointer (some ⟨q, 0, none⟩), .agg #[.int .i64 2, .int .i64 K, .int .i64 a0, .int .i64 a1, .int .i64 a2, .int .i64 a3, .int .i64 a4, .int .i64 a5, .int .i64 a6, .int .i64 a7, .int .i64 s, .int .i64 g, .int .i64 t, .int .i64 u, .int .i64 k, .int .i64 n]] w (RelPost vg vl vr Lo Z f q B w) := by
  obtain ⟨w0, hw0, hb0, hz0, hs0⟩ := box1 w (.cells #[.int .i64 2, .int .i64 K, .int .i64 a0, .int .i64 a1, .int .i64 a2, .int .i64 a3, .int .i64 a4, .int .i64 a5, .int .i64 a6, .int .i64 a7, .int .i64 s, .int .i64 g, .int .i64 t, .int .i64 u, .int .i64 k, .int .i64 n] 74)
  have HO := Lib.hid h.ok
  have h0 := Sep.fresh (own_F _ _) (own_B _ _ _ _ _) h hb0 w.heap.size (Nat.le_refl _) (by omega)
  have hg0 : Went Lo Z w w0 := ⟨hb0.mono h.lo, (pf_below h hb0).2.2⟩
  have q0 := blk_cell hz0 0
  have q1 := blk_cell hz0 1
  have q2 := blk_cell hz0 2
  have q3 := blk_cell hz0 3
  have q4 := blk_cell hz0 4
  have q5 := blk_cell hz0 5
  have q6 := blk_cell hz0 6
  have q7 := blk_cell hz0 7
  have q8 := blk_cell hz0 8
  have q9 := blk_cell hz0 9
  have q10 := blk_cell hz0 10
  have q11 := blk_cell hz0 11
  have q12 := blk_cell hz0 12
  have q13 := blk_cell hz0 13
  have q14 := blk_cell hz0 14
  have q15 := blk_cell hz0 15
  simp only [List.getElem?_toArray, List.getElem?_cons_zero, List.getElem?_cons_succ] at q0 q1 q2 q3 q4 q5 q6 q7 q8 q9 q10 q11 q12 q13 q14 q15
  have ql := blk_lt hz0
  have HP := Lib.hid h0; have Hz0 := Lib.hid hz0; have Hs0 := Lib.hid hs0; have Hg0 := Lib.hid hg0; have HL := Lib.hid hl; have HC := Lib.hid hc; have HPr := Lib.hid hp
  clear h0 hz0 hs0 hg0 hl hc hp
  clear h hb0
  go_enter Try.func39, Try.ntmps39
  go_wp2_with fail
  clear hw0
  have H1 := Lib.hid (pf_fgone HP.out s g)
  clear q0 q1 q2 q3 q4 q5 q6 q7 q8 q9 q10 q11 q12 q13 q14 q15 ql
  go_wp2_with fail
  refine H1.out.mono ?_
  rintro e w1 ⟨rfl, h1, hb1, hk1⟩
  have hz1 := hk1 _ (by simp) _ Hz0.out
  have hg1 := Hg0.out.trans (Went.more ⟨hb1, hk1⟩)
  have H2 := Lib.hid (pf_rgone h1 HL.out s g)
  have q0 := blk_cell hz1 0
  have q1 := blk_cell hz1 1
  have q2 := blk_cell hz1 2
  have q3 := blk_cell hz1 3
  have q4 := blk_cell hz1 4
  have q5 := blk_cell hz1 5
  have q6 := blk_cell hz1 6
  have q7 := blk_cell hz1 7
  have q8 := blk_cell hz1 8
  have q9 := blk_cell hz1 9
  have q10 := blk_cell hz1 10
  have q11 := blk_cell hz1 11
  have q12 := blk_cell hz1 12
  have q13 := blk_cell hz1 13
  have q14 := blk_cell hz1 14
  have q15 := blk_cell hz1 15
  simp only [List.getElem?_toArray, List.getElem?_cons_zero, List.getElem?_cons_succ] at q0 q1 q2 q3 q4 q5 q6 q7 q8 q9 q10 q11 q12 q13 q14 q15
  have ql := blk_lt hz1
  have Hg1 := Lib.hid hg1
  clear hg1
  clear h1 hb1 hk1 hz1
  go_wp2_with fail
  refine H2.out.mono ?_
  rintro e w2 ⟨rfl, h2, hb2, hk2⟩
  have hF := h2.drop (Y := Z) (fun y hy => List.mem_cons_of_mem _ hy)
  have hg2 : Went Lo Z w w2 := Hg1.out.trans (Went.more ⟨hb2, hk2⟩)
  have hlen : (goneB B (s, g)).length ≤ B.length + 1 := Nat.le_trans (List.length_filter_le _ _) (Nat.le_succ _)
  have HF := Lib.hid hF; have Hg2 := Lib.hid hg2; have HLen := Lib.hid hlen
  clear hF hg2 hlen
  clear h2 hb2 hk2
  go_wp2
  go_ret
  exact ⟨rfl, ⟨_, HLen.out, HF.out⟩, Hg2.out.b, Hg2.out.k⟩

set_option maxRecDepth 20000 in
set_option maxHeartbeats 4000000 in
theorem rel_none (h : PF vg vl vr Lo Z f q B B w) (d K a0 a1 a2 a3 a4 a5 a6 a7 s g t u k n : Int) (h5 : d ≠ 5) (h6 : d ≠ 6) (h2 : d ≠ 2) : Calls Try.prog 39 #[.pointer (some ⟨f, 0, none⟩), .pointer (some ⟨q, 0, none⟩), .agg #[.int .i64 d, .int .i64 K, .int .i64 a0, .int .i64 a1, .int .i64 a2, .int .i64 a3, .int .i64 a4, .int .i64 a5, .int .i64 a6, .int .i64 a7, .int .i64 s, .int .i64 g, .int .i64 t, .int .i64 u, .int .i64 k, .int .i64 n]] w (RelPost vg vl vr Lo Z f q B w) := by
  obtain ⟨w0, hw0, hb0, hz0, hs0⟩ := box1 w (.cells #[.int .i64 d, .int .i64 K, .int .i64 a0, .int .i64 a1, .int .i64 a2, .int .i64 a3, .int .i64 a4, .int .i64 a5, .int .i64 a6, .int .i64 a7, .int .i64 s, .int .i64 g, .int .i64 t, .int .i64 u, .int .i64 k, .int .i64 n] 74)
  have hP := pf_below h hb0
  have q0 := blk_cell hz0 0
  have q1 := blk_cell hz0 1
  have q2 := blk_cell hz0 2
  have q3 := blk_cell hz0 3
  have q4 := blk_cell hz0 4
  have q5 := blk_cell hz0 5
  have q6 := blk_cell hz0 6
  have q7 := blk_cell hz0 7
  have q8 := blk_cell hz0 8
  have q9 := blk_cell hz0 9
  have q10 := blk_cell hz0 10
  have q11 := blk_cell hz0 11
  have q12 := blk_cell hz0 12
  have q13 := blk_cell hz0 13
  have q14 := blk_cell hz0 14
  have q15 := blk_cell hz0 15
  simp only [List.getElem?_toArray, List.getElem?_cons_zero, List.getElem?_cons_succ] at q0 q1 q2 q3 q4 q5 q6 q7 q8 q9 q10 q11 q12 q13 q14 q15
  have ql := blk_lt hz0
  have HP := Lib.hid hP
  clear hP
  clear h hb0 hz0 hs0
  go_enter Try.func39, Try.ntmps39
  go_wp2
  go_ret
  exact ⟨rfl, ⟨_, by omega, HP.out.1⟩, HP.out.2.1, HP.out.2.2⟩
theorem related_any (h : PF vg vl vr Lo Z f q B B w) (hl : B.length ≤ 1200000000000) (d K a0 a1 a2 a3 a4 a5 a6 a7 s g t u k n : Int) (hc : HdR (s, g)) (hp : HdR (t, u)) : Calls Try.prog 39 #[.pointer (some ⟨f, 0, none⟩), .pointer (some ⟨q, 0, none⟩), .agg #[.int .i64 d, .int .i64 K, .int .i64 a0, .int .i64 a1, .int .i64 a2, .int .i64 a3, .int .i64 a4, .int .i64 a5, .int .i64 a6, .int .i64 a7, .int .i64 s, .int .i64 g, .int .i64 t, .int .i64 u, .int .i64 k, .int .i64 n]] w (RelPost vg vl vr Lo Z f q B w) := by
  by_cases h5 : d = 5
  · subst h5; exact rel_adopt h hl K a0 a1 a2 a3 a4 a5 a6 a7 s g t u k n hc hp
  · by_cases h6 : d = 6
    · subst h6; exact rel_loosen h hl K a0 a1 a2 a3 a4 a5 a6 a7 s g t u k n hc hp
    · by_cases h2 : d = 2
      · subst h2; exact rel_kill h hl K a0 a1 a2 a3 a4 a5 a6 a7 s g t u k n hc hp
      · exact rel_none h d K a0 a1 a2 a3 a4 a5 a6 a7 s g t u k n h5 h6 h2
end
end Go.Proofs.Ytkcpmoinpdojjaa
