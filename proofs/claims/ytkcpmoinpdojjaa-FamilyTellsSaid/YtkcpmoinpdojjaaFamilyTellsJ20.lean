import Derived.Test.YtkcpmoinpdojjaaFamilyTellsJ19
import Derived.Test.YtkcpmoinpdojjaaFamilyTellsJ17
/- Worlds: Kill, Get. (printed by mk_w8.py) -/
namespace Go.Proofs.Ytkcpmoinpdojjaa
open Go Go.RowKit

attribute [local go_sem] AllFrom.cons_eq AllFrom.nil_eq putF_nil putF_cons wantedL_none wantedL_some OpGoalT OpGoalV OpGoalQ OpGoalA YieldsR preF_nil preF_cons

theorem killL_none {L : List Rw} {h : Hd} (hi : idxL L h = none) : killL L h = L := by
  unfold killL; rw [List.filter_eq_self]; intro x hx; simpa using idx_none hi x hx
section
variable {w : World} {p : Nat} {sl : Sl} {L : List Rw} {F : List Nat}

set_option maxRecDepth 20000 in
set_option maxHeartbeats 4000000 in
theorem wkill_dead (h : RepW w p sl L F) (s g : Int) (hd : liveB sl s g = false) :
    Calls Try.prog 37 #[.pointer (some ⟨p, 0, none⟩), .agg #[.int .i64 s, .int .i64 g]] w (fun e w' => e = .returned (.int .i64 7) ∧ Below w.heap.size w w') := by
  obtain ⟨w0, hw0, hb0, hz0, hs0⟩ := box1 w (.cells #[.int .i64 s, .int .i64 g] 45)
  obtain ⟨ps, mt, mp, tb, rw, pl, FS, Fs, c, hW, hC, hO, rfl⟩ := h
  have hW0 := hW.below hb0
  have e0 := blk_cell hW0.blk 0
  simp only [List.getElem?_toArray, List.getElem?_cons_zero, List.getElem?_cons_succ] at e0
  have hpl := blk_lt hW0.blk
  have q0 := blk_cell hz0 0
  have q1 := blk_cell hz0 1
  simp only [List.getElem?_toArray, List.getElem?_cons_zero, List.getElem?_cons_succ] at q0 q1
  have ql := blk_lt hz0
  have h1 := live_any ps sl FS s g w0.drew (hW0.below below_drew).sl
  rw [hd] at h1
  have H1 := Lib.hid h1; have Hb0 := Lib.hid hb0; have Hs0 := Lib.hid hs0
  clear h1 hb0 hs0
  clear hz0 hW hW0 hC hO hd
  go_enter Try.func37, Try.ntmps37
  go_wp2_with fail
  clear hw0
  refine wp_planR 5 [0] [some 5, some 6, some 7, some 8, some 9, some 10, some 11] [[], [0], [0, 1], [0, 1, 2], [], [0, 1, 2, 3, 4], [0, 1, 2, 3, 4, 5]] [0, 1, 2, 3, 4] mixed rfl (by kernel_rfl) (by decide) (by decide) rfl ?_
  iterate 5 apply Exists.intro
  refine ⟨rfl, ?_, ?_⟩
  · simp only [List.take_succ_cons, List.take_zero, AllFrom.cons_eq, AllFrom.nil_eq, OpGoalQ]
    refine ⟨?_, ?_, ?_, ?_, ?_, trivial⟩
    all_goals (intro σ hp; (try simp only [List.getD_cons_zero, List.getD_cons_succ, List.map_cons, List.map_nil, preF_cons, preF_nil, isV, and_true] at hp); (first | (have hq : True := hp; clear hq hp) | skip))
    all_goals (go_simp; exact ⟨rfl, rfl⟩)
  intro σ hp
  simp only [List.getD_cons_zero, List.getD_cons_succ, List.map_cons, List.map_nil, preF_cons, preF_nil, isV, and_true] at hp
  simp only [List.drop_succ_cons, List.drop_zero]
  go_simp
  clear hp
  go_wp2_with fail
  refine H1.out.mono ?_
  rintro e w1 ⟨rfl, hb1⟩
  have hB := Lib.hid (Hb0.out.trans ((below_drew.trans hb1).mono Hb0.out.size))
  clear hb1
  go_wp2_with fail
  refine ⟨rfl, ?_⟩
  go_wp2
  go_ret
  exact ⟨rfl, hB.out⟩

set_option maxRecDepth 20000 in
set_option maxHeartbeats 4000000 in
theorem wkill_live (h : RepW w p sl L F) (s g : Int) (hd : liveB sl s g = true) :
    Calls Try.prog 37 #[.pointer (some ⟨p, 0, none⟩), .agg #[.int .i64 s, .int .i64 g]] w (WRet p (freeL sl s g) (killL L (s, g)) F w (.int .i64 0)) := by
  obtain ⟨w0, hw0, hb0, hz0, hs0⟩ := box1 w (.cells #[.int .i64 s, .int .i64 g] 45)
  have hFlt := h.lt
  obtain ⟨ps, mt, mp, tb, rw, pl, FS, Fs, c, hW, hC, hO, rfl⟩ := h
  have hW0 := hW.below hb0
  have e0 := blk_cell hW0.blk 0
  simp only [List.getElem?_toArray, List.getElem?_cons_zero, List.getElem?_cons_succ] at e0
  have hpl := blk_lt hW0.blk
  have q0 := blk_cell hz0 0
  have q1 := blk_cell hz0 1
  simp only [List.getElem?_toArray, List.getElem?_cons_zero, List.getElem?_cons_succ] at q0 q1
  have ql := blk_lt hz0
  have h1 := live_any ps sl FS s g w0.drew (hW0.below below_drew).sl
  rw [hd] at h1
  obtain ⟨x, hxL, hx⟩ := (hO.live s g).1 hd
  obtain ⟨xh, K, a0, a1, a2, a3, a4, a5, a6, a7⟩ := x
  simp only at hx
  subst hx
  have hO2 := hO.kill hd
  have hfe : freeE sl s g = 0 := by unfold freeE; rw [if_pos hd]
  have H1 := Lib.hid h1; have Hb0 := Lib.hid hb0; have Hs0 := Lib.hid hs0; have HW := Lib.hid hW; have HC := Lib.hid hC; have HO := Lib.hid hO; have Hz0 := Lib.hid hz0; have HFlt := Lib.hid hFlt; have HxL := Lib.hid hxL; have HO2 := Lib.hid hO2; have Hfe := Lib.hid hfe
  clear h1 hb0 hs0 hW hC hO hz0 hFlt hxL hO2 hfe
  clear hW0 hd
  go_enter Try.func37, Try.ntmps37
  go_wp2_with fail
  clear hw0
  refine wp_planR 5 [0] [some 5, some 6, some 7, some 8, some 9, some 10, some 11] [[], [0], [0, 1], [0, 1, 2], [], [0, 1, 2, 3, 4], [0, 1, 2, 3, 4, 5]] [0, 1, 2, 3, 4] mixed rfl (by kernel_rfl) (by decide) (by decide) rfl ?_
  iterate 5 apply Exists.intro
  refine ⟨rfl, ?_, ?_⟩
  · simp only [List.take_succ_cons, List.take_zero, AllFrom.cons_eq, AllFrom.nil_eq, OpGoalQ]
    refine ⟨?_, ?_, ?_, ?_, ?_, trivial⟩
    all_goals (intro σ hp; (try simp only [List.getD_cons_zero, List.getD_cons_succ, List.map_cons, List.map_nil, preF_cons, preF_nil, isV, and_true] at hp); (first | (have hq : True := hp; clear hq hp) | skip))
    all_goals (go_simp; exact ⟨rfl, rfl⟩)
  intro σ hp
  simp only [List.getD_cons_zero, List.getD_cons_succ, List.map_cons, List.map_nil, preF_cons, preF_nil, isV, and_true] at hp
  simp only [List.drop_succ_cons, List.drop_zero]
  go_simp
  clear hp
  go_wp2_with fail
  refine H1.out.mono ?_
  rintro e w1 ⟨rfl, hb1⟩
  have hb01 : Below w0.heap.size w0 w1 := below_drew.trans hb1
  have hW1 := HW.out.below (Hb0.out.trans (hb01.mono Hb0.out.size))
  have hz1 := (Mod.ofBelow hb01).keep Hz0.out (by simp)
  have H2 := Lib.hid (lift_core (L := L) hW1 HC.out (fun y hy => hy) HO.out.len (fun y hy => HO.out.slot hy) (fun y hy => HO.out.be y hy) s g K a0 a1 a2 a3 a4 a5 a6 a7 HxL.out)
  clear q0 q1 ql e0 hpl
  have q0 := blk_cell hz1 0
  have q1 := blk_cell hz1 1
  simp only [List.getElem?_toArray, List.getElem?_cons_zero, List.getElem?_cons_succ] at q0 q1
  have ql := blk_lt hz1
  have hsz : w0.heap.size ≤ w1.heap.size := hb01.size
  have Hb01 := Lib.hid hb01; have HW1 := Lib.hid hW1; have Hz1 := Lib.hid hz1
  clear hb01 hW1 hz1
  clear hb1
  go_wp2_with fail
  refine ⟨rfl, ?_⟩
  go_wp2_with fail
  refine H2.out.mono ?_
  rintro e w2 ⟨rfl, tb2, rw2, pl2, FS2, Fs2, c2, hW2, hC2, hT2⟩
  have hz2 := hT2.mod.keep Hz1.out (fun e => by have := HFlt.out _ e; omega)
  have e0 := blk_cell hW2.blk 0
  simp only [List.getElem?_toArray, List.getElem?_cons_zero, List.getElem?_cons_succ] at e0
  have hpl := blk_lt hW2.blk
  clear q0 q1 ql
  have q0 := blk_cell hz2 0
  have q1 := blk_cell hz2 1
  simp only [List.getElem?_toArray, List.getElem?_cons_zero, List.getElem?_cons_succ] at q0 q1
  have ql := blk_lt hz2
  have h3 := free_any ps sl FS2 s g w2.drew (hW2.below below_drew).sl HO.out.ok
  rw [Hfe.out] at h3
  have H3 := Lib.hid h3; have HW2 := Lib.hid hW2; have HC2 := Lib.hid hC2; have HT2 := Lib.hid hT2
  clear h3 hW2 hC2 hT2
  clear hz2
  go_wp2_with fail
  refine wp_planR 5 [0] [some 15, some 16, some 17, some 18, some 19, some 20, some 4] [[], [0], [0, 1], [0, 1, 2], [], [0, 1, 2, 3, 4], [0, 1, 2, 3, 4, 5]] [0, 1, 2, 3, 4] mixed rfl (by kernel_rfl) (by decide) (by decide) rfl ?_
  iterate 5 apply Exists.intro
  refine ⟨rfl, ?_, ?_⟩
  · simp only [List.take_succ_cons, List.take_zero, AllFrom.cons_eq, AllFrom.nil_eq, OpGoalQ]
    refine ⟨?_, ?_, ?_, ?_, ?_, trivial⟩
    all_goals (intro σ hp; (try simp only [List.getD_cons_zero, List.getD_cons_succ, List.map_cons, List.map_nil, preF_cons, preF_nil, isV, and_true] at hp); (first | (have hq : True := hp; clear hq hp) | skip))
    all_goals (go_simp; exact ⟨rfl, rfl⟩)
  intro σ hp
  simp only [List.getD_cons_zero, List.getD_cons_succ, List.map_cons, List.map_nil, preF_cons, preF_nil, isV, and_true] at hp
  simp only [List.drop_succ_cons, List.drop_zero]
  go_simp
  clear hp
  go_wp2_with fail
  refine H3.out.mono ?_
  rintro e w3 ⟨rfl, hs3, hm3⟩
  obtain ⟨hW3, hT3⟩ := (HW2.out.below below_drew).turnSl hs3 ⟨hm3, fun _ h => .inl h⟩
  have hR : RepW w3 p (freeL sl s g) (killL L (s, g)) _ := ⟨ps, mt, mp, tb2, rw2, pl2, FS2, Fs2, _, hW3, HC2.out.congr (fun y => ?_), HO2.out, rfl⟩
  have hT := ((Turns.after (Hb0.out.trans (Hb01.out.mono Hb0.out.size)) HT2.out).trans (Turns.ofBelow below_drew)).trans hT3
  have HR := Lib.hid hR; have HT := Lib.hid hT
  clear hR hT
  clear hs3 hm3 hW3 hT3
  go_wp2_with fail
  refine ⟨rfl, ?_⟩
  go_wp2
  go_ret
  exact ⟨rfl, _, HR.out, HT.out⟩
  constructor
  · rintro ⟨h1, h2⟩
    exact List.mem_filter.2 ⟨h1, by simp only [ne_eq, decide_not, Bool.not_eq_true', decide_eq_false_iff_not]; exact fun e => h2 (HO.out.one h1 HxL.out (by rw [e]))⟩
  · intro hy
    obtain ⟨h1, h2⟩ := List.mem_filter.1 hy
    refine ⟨h1, fun e => ?_⟩
    subst e
    simp at h2
theorem wkill_any (h : RepW w p sl L F) (s g : Int) :
    Calls Try.prog 37 #[.pointer (some ⟨p, 0, none⟩), .agg #[.int .i64 s, .int .i64 g]] w (WRet p (freeL sl s g) (killL L (s, g)) F w (.int .i64 (killE L (s, g)))) := by
  rcases h.ok.idx s g with ⟨h1, i, h2⟩ | ⟨h1, h2⟩
  · rw [show killE L (s, g) = 0 by unfold killE; rw [h2]]
    exact wkill_live h s g h1
  · rw [show killE L (s, g) = 7 by unfold killE; rw [h2], killL_none h2, show freeL sl s g = sl by unfold freeL; rw [if_neg (by rw [h1]; simp)]]
    refine (wkill_dead h s g h1).mono ?_
    rintro e w' ⟨rfl, hb⟩
    exact ⟨rfl, F, h.below hb, Turns.ofBelow hb⟩
theorem spawn_any (h : RepW w p sl L F) (K a0 a1 a2 a3 a4 a5 a6 a7 : Int) :
    Calls Try.prog 80 #[.pointer (some ⟨p, 0, none⟩), .agg #[.int .i64 K, .int .i64 a0, .int .i64 a1, .int .i64 a2, .int .i64 a3, .int .i64 a4, .int .i64 a5, .int .i64 a6, .int .i64 a7]] w (WRet p (spawnS sl (K, a0, a1, a2, a3, a4, a5, a6, a7)) (spawnL sl L (K, a0, a1, a2, a3, a4, a5, a6, a7)) F w (.tuple #[.agg #[.int .i64 (spawnH sl (K, a0, a1, a2, a3, a4, a5, a6, a7)).1, .int .i64 (spawnH sl (K, a0, a1, a2, a3, a4, a5, a6, a7)).2], .int .i64 (spawnE sl (K, a0, a1, a2, a3, a4, a5, a6, a7))])) := by
  by_cases hb : beastZ (K, a0, a1, a2, a3, a4, a5, a6, a7) = 0
  · have e1 : spawnS sl (K, a0, a1, a2, a3, a4, a5, a6, a7) = takeL sl := by unfold spawnS; rw [if_neg (by simpa using hb)]
    have e2 : spawnH sl (K, a0, a1, a2, a3, a4, a5, a6, a7) = (takeK sl, takeG sl) := by unfold spawnH; rw [if_neg (by simpa using hb)]
    have e3 : spawnE sl (K, a0, a1, a2, a3, a4, a5, a6, a7) = takeE sl := by unfold spawnE; rw [if_neg (by simpa using hb)]
    by_cases ht : takeE sl = 0
    · rw [e1, e2, show spawnL sl L (K, a0, a1, a2, a3, a4, a5, a6, a7) = insR L ((takeK sl, takeG sl), K, a0, a1, a2, a3, a4, a5, a6, a7) by unfold spawnL; rw [e3, if_pos ht], e3, ht]
      exact spawn_ok h K a0 a1 a2 a3 a4 a5 a6 a7 hb ht
    · rw [e1, e2, show spawnL sl L (K, a0, a1, a2, a3, a4, a5, a6, a7) = L by unfold spawnL; rw [e3, if_neg ht], e3]
      exact spawn_full h K a0 a1 a2 a3 a4 a5 a6 a7 hb ht
  · have e1 : spawnS sl (K, a0, a1, a2, a3, a4, a5, a6, a7) = sl := by unfold spawnS; rw [if_pos (by simpa using hb)]
    have e2 : spawnH sl (K, a0, a1, a2, a3, a4, a5, a6, a7) = (0, 0) := by unfold spawnH; rw [if_pos (by simpa using hb)]
    have e3 : spawnE sl (K, a0, a1, a2, a3, a4, a5, a6, a7) = beastZ (K, a0, a1, a2, a3, a4, a5, a6, a7) := by unfold spawnE; rw [if_pos (by simpa using hb)]
    rw [e1, e2, show spawnL sl L (K, a0, a1, a2, a3, a4, a5, a6, a7) = L by unfold spawnL; rw [e3, if_neg hb], e3]
    exact spawn_bad h K a0 a1 a2 a3 a4 a5 a6 a7 hb
end
end Go.Proofs.Ytkcpmoinpdojjaa

/- A region whose drawn head has known values, but for those of a list of operations; what the world is, an invariant says. -/
namespace Go.Proofs.Ytkcpmoinpdojjaa
open Go Go.RowKit

structure PostK (i : Nat) (n : List Nat) (c : Value) (J : Value → World → Prop) (v : Value) (w : World) : Prop where
  val : i ∈ n ∨ v = c
  inv : J v w
section
variable {P : Program}
def vpK (n : List Nat) : Nat → List Value → List (Value → World → Prop)
  | _, [] => []
  | k, v :: vs => (fun u _ => k ∈ n ∨ u = v) :: vpK n (k + 1) vs
theorem vpK_get (n : List Nat) : ∀ (vs : List Value) (k i : Nat), i < vs.length → (vpK n k vs).getD i (fun _ _ => True) = fun u _ => k + i ∈ n ∨ u = vs.getD i undef
  | [], _, _, h => by simp at h
  | v :: vs, k, 0, _ => rfl
  | v :: vs, k, i + 1, h => by
    have := vpK_get n vs (k + 1) i (by simpa using h)
    rw [show k + 1 + i = k + (i + 1) by omega] at this
    exact this
theorem keepAll_vpK {n : List Nat} {σ : Nat → Value} {L : Nat → Bool} {w w' : World} : ∀ (vs : List Value) (k j : Nat), KeepAll σ L w w' k (vpK n j vs)
  | [], _, _ => trivial
  | _ :: vs, k, j => ⟨fun _ h => h, keepAll_vpK vs (k + 1) (j + 1)⟩
/-- What is known of the values numbered in the list. -/
def PreK (n : List Nat) (vs : List Value) (σ : Nat → Value) : List Nat → Prop
  | [] => True
  | j :: l => (j ∈ n ∨ σ j = vs.getD j undef) ∧ PreK n vs σ l
theorem preK_nil {n : List Nat} {vs : List Value} {σ : Nat → Value} : PreK n vs σ [] = True := rfl
theorem preK_cons {n : List Nat} {vs : List Value} {σ : Nat → Value} {j : Nat} {l : List Nat} : PreK n vs σ (j :: l) = ((j ∈ n ∨ σ j = vs.getD j undef) ∧ PreK n vs σ l) := rfl
theorem preK_of {n : List Nat} {vs : List Value} {σ : Nat → Value} {w : World} : ∀ (l : List Nat), (∀ j ∈ l, j < vs.length) → PreF (vpK n 0 vs) σ w l → PreK n vs σ l
  | [], _, _ => trivial
  | j :: l, hl, h => by
    refine ⟨?_, preK_of l (fun x hx => hl x (by simp [hx])) h.2⟩
    have h1 := h.1
    rw [vpK_get n vs 0 j (hl j (by simp))] at h1
    simpa using h1
def OpGoalK (P : Program) (dsts : List (Option Tmp)) (pre : List (List Nat)) (vs : List Value) (n : List Nat) (I : (Nat → Bool) → (Nat → Value) → World → Prop) (a0 : Act) (i : Nat) (o : Oper) : Prop :=
  ∀ (L : Nat → Bool) (σ : Nat → Value) (w : World), L i = false → (∀ j ∈ pre.getD i [], L j = true) → (∀ k, i ∈ pre.getD k [] → L k = false) → I L σ w → PreK n vs σ (pre.getD i []) →
    if wantedL dsts (putF dsts σ (pre.getD i []) a0) o.guard = true then YieldsR P o (putF dsts σ (pre.getD i []) a0).eval w (PostK i n (vs.getD i undef) (fun v => I (upd L i) (updv σ i v)))
    else PostK i n (vs.getD i undef) (fun v => I (upd L i) (updv σ i v)) undef w
/-- A region that draws its order: all values of its head are known, but for those of the operations n. -/
theorem wp_planK {Q : Exit → Act → World → Prop} {id : Nat} {l : List Oper} {a0 : Act} {w0 : World} (n : List Nat) (m : Nat) (fl : List Nat) (dsts : List (Option Tmp)) (pre : List (List Nat)) (is : List Nat) (I : (Nat → Bool) → (Nat → Value) → World → Prop)
    (hm : P.follows .mixedOrders = true) (hd : l.map (·.dst) = dsts) (hc : planOk l.toArray pre = true) (hT : tailOkB l pre m fl = true) (hmn : m ≤ l.length) (hpm : (pre.take m).all (fun q => q.all (fun j => decide (j < m))) = true)
    (h0 : I (fun _ => false) (fun _ => undef) w0.drew) (his : List.range m = is)
    (h : ExL m fun vs => vs.length = m ∧ AllFrom (OpGoalK P dsts pre vs n I a0) 0 (l.take m) ∧
      (∀ (L : Nat → Bool) (σ : Nat → Value) w, (∀ i ∈ is, L i = true) → I L σ w → PreK n vs σ is → wpList P l.toArray (OnlyN Q) (l.drop m) (putF dsts σ is a0) w)) :
    (Code.region id l.toArray true).wp P Q a0 w0 := by
  obtain ⟨vs, hl, h1, h2⟩ := h.out
  have hpre : ∀ i, i < m → ∀ j ∈ pre.getD i [], j < vs.length := by
    intro i hi j hj
    rw [hl]
    cases hg : pre[i]? with
    | none => rw [List.getD_eq_getElem?_getD, hg] at hj; simp at hj
    | some q =>
      rw [List.getD_eq_getElem?_getD, hg] at hj
      simp only [Option.getD_some] at hj
      have hq : q ∈ pre.take m := by
        refine List.mem_of_getElem? (i := i) ?_
        rw [List.getElem?_take, if_pos hi]; exact hg
      have := List.all_eq_true.1 (List.all_eq_true.1 hpm q hq) j hj
      simpa using this
  refine wp_planF m fl dsts pre is 0 (fun _ => vpK n 0 vs) I hm hd hc hT hmn h0 his ?_
  show _ ∧ _
  refine ⟨allFrom_imp _ _ (fun j o hj hp => ?_) h1, fun L σ w hL hI hq => h2 L σ w hL hI (preK_of is (fun i hi => by rw [hl]; rw [← his] at hi; simpa using hi) hq)⟩
  have hjm : j < m := by
    rcases Nat.lt_or_ge j m with h | h
    · exact h
    · rw [List.getElem?_eq_none (by rw [List.length_take]; omega)] at hj; cases hj
  intro L σ w hL1 hL2 hL3 hI hq
  simp only [Nat.zero_add] at hp hL1 hL2 hL3 hq ⊢
  have := hp L σ w hL1 hL2 hL3 hI (preK_of _ (hpre j hjm) hq)
  have key : ∀ v w', PostK j n (vs.getD j undef) (fun v => I (upd L j) (updv σ j v)) v w' → PostV ((vpK n 0 vs).getD j (fun _ _ => True)) (fun v => I (upd L j) (updv σ j v)) (fun w' => KeepAll σ L w w' 0 (vpK n 0 vs)) v w' := fun v w' k =>
    ⟨by rw [vpK_get n vs 0 j (by omega), Nat.zero_add]; exact k.val, k.inv, keepAll_vpK _ _ _⟩
  split
  · next hw => rw [if_pos hw] at this; exact this.mono key
  · next hw => rw [if_neg hw] at this; exact key _ _ this
end
end Go.Proofs.Ytkcpmoinpdojjaa

/- Worlds: Get. (printed by mk_w9.py) -/
namespace Go.Proofs.Ytkcpmoinpdojjaa
open Go Go.RowKit

attribute [local go_sem] AllFrom.cons_eq AllFrom.nil_eq putF_nil putF_cons wantedL_none wantedL_some OpGoalT OpGoalV OpGoalQ OpGoalA OpGoalK YieldsR preF_nil preF_cons

/-- A region that makes one block (operation n) and stores into it (operation m). -/
structure IGet (n m : Nat) (w2 : World) (zs row : Array Value) (T : TypeId) (L : Nat → Bool) (σ : Nat → Value) (V : World) : Prop where
  b : Below w2.heap.size w2 V
  blk : L n = true → ∃ g, σ n = .pointer (some ⟨g, 0, none⟩) ∧ w2.heap.size ≤ g ∧ V.heap[g]? = some (.cells (if L m = true then row else zs) T (0, 0))
section
variable {n m : Nat} {w2 V V' : World} {zs row : Array Value} {T : TypeId} {L : Nat → Bool} {σ : Nat → Value}
theorem IGet.start (h : Below w2.heap.size w2 V) : IGet n m w2 zs row T (fun _ => false) σ V := ⟨h, fun e => by cases e⟩
theorem IGet.read (h : IGet n m w2 zs row T L σ V) {i : Nat} (h1 : i ≠ n) (h2 : i ≠ m) (v : Value) : IGet n m w2 zs row T (upd L i) (updv σ i v) V := by
  have e1 : upd L i n = L n := by unfold upd; simp [Ne.symm h1]
  have e2 : upd L i m = L m := by unfold upd; simp [Ne.symm h2]
  refine ⟨h.b, fun e => ?_⟩
  rw [e1] at e
  rw [e2]
  obtain ⟨g, q1, q2, q3⟩ := h.blk e
  exact ⟨g, by unfold updv; rw [if_neg (Ne.symm h1)]; exact q1, q2, q3⟩
theorem IGet.step (h : IGet n m w2 zs row T L σ V) (hb : Below V.heap.size V V') : IGet n m w2 zs row T L σ V' :=
  ⟨h.b.trans (hb.mono h.b.size), fun e => by obtain ⟨g, q1, q2, q3⟩ := h.blk e; exact ⟨g, q1, q2, (Mod.ofBelow hb).keep q3 (by simp)⟩⟩
theorem IGet.made (h : IGet n m w2 zs row T L σ V) (hnm : n ≠ m) (hm : L m = false) : IGet n m w2 zs row T (upd L n) (updv σ n (.pointer (some ⟨V.heap.size, 0, none⟩))) (V.alloc (.cells zs T)) := by
  refine ⟨h.b.alloc h.b.size _, fun _ => ⟨V.heap.size, by unfold updv; rw [if_pos rfl], h.b.size, ?_⟩⟩
  have e2 : upd L n m = false := by unfold upd; simp [Ne.symm hnm, hm]
  rw [e2]; exact heap_alloc_new V _
theorem IGet.stored {zl rl : List Value} (h : IGet n m w2 zl.toArray rl.toArray T L σ V) (hnm : n ≠ m) (hn : L n = true) (hm : L m = false) (hl : rl.length = zl.length) : ∃ g, σ n = .pointer (some ⟨g, 0, none⟩) ∧ V.there g 0 rl.length ∧ ∀ v, IGet n m w2 zl.toArray rl.toArray T (upd L m) (updv σ m v) (V.setCells g 0 rl) := by
  obtain ⟨g, q1, q2, q3⟩ := h.blk hn
  rw [hm] at q3
  simp only [Bool.false_eq_true, if_false] at q3
  have hst := setCells_block (w := V) rl 0 V zl q3
  rw [setL_all rl zl hl] at hst
  have hmod := mod_setCells (F := [g]) (g := g) (.inl (by simp)) rl 0 V (Mod.refl _ V)
  refine ⟨g, q1, hl ▸ blk_there q3 (Nat.le_refl _), fun v => ⟨h.b.trans (hmod.toBelow (by simpa using q2) h.b.size), fun _ => ⟨g, by unfold updv; rw [if_neg hnm]; exact q1, q2, ?_⟩⟩⟩
  have e2 : upd L m m = true := by simp [upd]
  rw [e2]; exact hst
end
theorem yr_store {P : Program} {o : Oper} {ρ : Operand → Value} {w : World} {J : Value → World → Prop} (ty : TypeId) (x y : Operand) (ho : o.op = .store ty x y) (b f : Nat) (vs : List Value) (hx : ρ x = .pointer (some ⟨b, f, none⟩)) (hy : ρ y = .agg vs.toArray) (ht : w.there b f vs.length)
    (hi : (P.info? ty).map (·.size) = some vs.length) (h1 : ∀ u ∈ vs, u.oneCell' = true) (h : J undef (w.setCells b f vs)) : YieldsR P o ρ w J := by
  unfold YieldsR execOp
  simp only [ho, hx, hy, Instr.storeAt, Instr.sureAddr, Sem.run_bind, Sem.run_pure, Result.andThen_ok, run_storeVar_mid w b f ty vs.toArray (by simpa using ht) (by simpa using hi) (all_oneCell_toArray h1)]
  simpa using h

theorem IGet.yr_stored {P : Program} {o : Oper} {ρ : Operand → Value} {J : Value → World → Prop} {n m : Nat} {w2 V : World} {zl rl : List Value} {T : TypeId} {L : Nat → Bool} {σ : Nat → Value}
    (h : IGet n m w2 zl.toArray rl.toArray T L σ V) (hnm : n ≠ m) (hn : L n = true) (hm : L m = false) (hl : rl.length = zl.length) (ty : TypeId) (x y : Operand) (ho : o.op = .store ty x y) (hx : ρ x = σ n) (hy : ρ y = .agg rl.toArray)
    (hi : (P.info? ty).map (·.size) = some rl.length) (h1 : ∀ u ∈ rl, u.oneCell' = true) (hJ : ∀ V', IGet n m w2 zl.toArray rl.toArray T (upd L m) (updv σ m undef) V' → J undef V') : YieldsR P o ρ V J := by
  obtain ⟨g, hr, hth, hst⟩ := h.stored hnm hn hm hl
  exact yr_store ty x y ho g 0 rl (hx.trans hr) hy hth hi h1 (hJ _ (hst _))

section
variable {w : World} {p : Nat} {sl : Sl} {L : List Rw} {F : List Nat}

set_option maxRecDepth 20000 in
set_option maxHeartbeats 4000000 in
theorem wget_dead (h : RepW w p sl L F) (s g : Int) (hd : liveB sl s g = false) :
    Calls Try.prog 35 #[.pointer (some ⟨p, 0, none⟩), .agg #[.int .i64 s, .int .i64 g]] w (fun e w' => e = .returned (.tuple #[.agg #[.int .i64 0, .int .i64 0, .int .i64 0, .int .i64 0, .int .i64 0, .int .i64 0, .int .i64 0, .int .i64 0, .int .i64 0], .int .i64 7]) ∧ Below w.heap.size w w') := by
  obtain ⟨w0, hw0, hb0, hz0, hz1, hs0⟩ := box2 w (.cells #[.int .i64 s, .int .i64 g] 45) (.cells #[.int .i64 0, .int .i64 0, .int .i64 0, .int .i64 0, .int .i64 0, .int .i64 0, .int .i64 0, .int .i64 0, .int .i64 0] 24)
  obtain ⟨ps, mt, mp, tb, rw, pl, FS, Fs, c, hW, hC, hO, rfl⟩ := h
  have hW0 := hW.below hb0
  have e0 := blk_cell hW0.blk 0
  simp only [List.getElem?_toArray, List.getElem?_cons_zero, List.getElem?_cons_succ] at e0
  have hpl := blk_lt hW0.blk
  have q0 := blk_cell hz0 0
  have q1 := blk_cell hz0 1
  simp only [List.getElem?_toArray, List.getElem?_cons_zero, List.getElem?_cons_succ] at q0 q1
  have ql := blk_lt hz0
  have h1 := live_any ps sl FS s g w0.drew (hW0.below below_drew).sl
  rw [hd] at h1
  have H1 := Lib.hid h1; have Hb0 := Lib.hid hb0; have Hs0 := Lib.hid hs0; have Hz1 := Lib.hid hz1
  clear h1 hb0 hs0 hz1
  clear hz0 hW hW0 hC hO hd
  go_enter Try.func35, Try.ntmps35
  go_wp2_with fail
  clear hw0
  refine wp_planR 5 [0] [some 9, some 10, some 11, some 12, some 13, some 14, some 15] [[], [0], [0, 1], [0, 1, 2], [], [0, 1, 2, 3, 4], [0, 1, 2, 3, 4, 5]] [0, 1, 2, 3, 4] mixed rfl (by kernel_rfl) (by decide) (by decide) rfl ?_
  iterate 5 apply Exists.intro
  refine ⟨rfl, ?_, ?_⟩
  · simp only [List.take_succ_cons, List.take_zero, AllFrom.cons_eq, AllFrom.nil_eq, OpGoalQ]
    refine ⟨?_, ?_, ?_, ?_, ?_, trivial⟩
    all_goals (intro σ hp; (try simp only [List.getD_cons_zero, List.getD_cons_succ, List.map_cons, List.map_nil, preF_cons, preF_nil, isV, and_true] at hp); (first | (have hq : True := hp; clear hq hp) | skip))
    all_goals (go_simp; exact ⟨rfl, rfl⟩)
  intro σ hp
  simp only [List.getD_cons_zero, List.getD_cons_succ, List.map_cons, List.map_nil, preF_cons, preF_nil, isV, and_true] at hp
  simp only [List.drop_succ_cons, List.drop_zero]
  go_simp
  clear hp
  go_wp2_with fail
  refine H1.out.mono ?_
  rintro e w1 ⟨rfl, hb1⟩
  have hb01 : Below w0.heap.size w0 w1 := below_drew.trans hb1
  have hz1 := (Mod.ofBelow hb01).keep Hz1.out (by simp)
  have r0 := blk_cell hz1 0
  have r1 := blk_cell hz1 1
  have r2 := blk_cell hz1 2
  have r3 := blk_cell hz1 3
  have r4 := blk_cell hz1 4
  have r5 := blk_cell hz1 5
  have r6 := blk_cell hz1 6
  have r7 := blk_cell hz1 7
  have r8 := blk_cell hz1 8
  simp only [List.getElem?_toArray, List.getElem?_cons_zero, List.getElem?_cons_succ] at r0 r1 r2 r3 r4 r5 r6 r7 r8
  have rl := blk_lt hz1
  have f0 := blk_free hz1 0
  have f1 := blk_free hz1 1
  have f2 := blk_free hz1 2
  have f3 := blk_free hz1 3
  have f4 := blk_free hz1 4
  have f5 := blk_free hz1 5
  have f6 := blk_free hz1 6
  have f7 := blk_free hz1 7
  have f8 := blk_free hz1 8
  have HB := Lib.hid (Hb0.out.trans (hb01.mono Hb0.out.size))
  have hs0 := Hs0.out
  have hl : w.heap.size ≤ w.heap.size + 1 := by omega
  clear hb1 hb01 hz1 hs0 q0 q1 ql
  go_wp2_with fail
  refine ⟨rfl, ?_⟩
  go_wp2
  refine bodyPost_ret (v := .tuple #[.agg #[.int .i64 0, .int .i64 0, .int .i64 0, .int .i64 0, .int .i64 0, .int .i64 0, .int .i64 0, .int .i64 0, .int .i64 0], .int .i64 7]) (by unfold results; try go_simp) rfl ?_
  refine ⟨rfl, ?_⟩
  repeat (refine Below.setCell ?_ hl _)
  exact HB.out

set_option maxRecDepth 20000 in
set_option maxHeartbeats 8000000 in
theorem wget_live (h : RepW w p sl L F) (s kn : Nat) (g a0 a1 a2 a3 a4 a5 a6 a7 : Int) (hxL : (((s : Int), g), (kn : Int), a0, a1, a2, a3, a4, a5, a6, a7) ∈ L) :
    Calls Try.prog 35 #[.pointer (some ⟨p, 0, none⟩), .agg #[.int .i64 (s : Int), .int .i64 g]] w (fun e w' => e = .returned (.tuple #[.agg #[.int .i64 (kn : Int), .int .i64 a0, .int .i64 a1, .int .i64 a2, .int .i64 a3, .int .i64 a4, .int .i64 a5, .int .i64 a6, .int .i64 a7], .int .i64 0]) ∧ Below w.heap.size w w') := by
  have hd : liveB sl (s : Int) g = true := (h.ok.live _ _).2 ⟨_, hxL, rfl⟩
  obtain ⟨w0, hw0, hb0, hz0, hz1, hs0⟩ := box2 w (.cells #[.int .i64 (s : Int), .int .i64 g] 45) (.cells #[.int .i64 0, .int .i64 0, .int .i64 0, .int .i64 0, .int .i64 0, .int .i64 0, .int .i64 0, .int .i64 0, .int .i64 0] 24)
  obtain ⟨ps, mt, mp, tb, rw, pl, FS, Fs, c, hW, hC, hO, rfl⟩ := h
  obtain ⟨s0, kn0, i, e1, hpm, hx⟩ := hC.has _ hxL
  simp only at e1
  obtain rfl : s = s0 := by omega
  obtain ⟨s1, hs60, e2⟩ := hO.slot hxL
  simp only at e2
  obtain rfl : s = s1 := by omega
  obtain ⟨hk, -⟩ := hC.pla _ _ _ hpm
  obtain ⟨-, e3, -⟩ := hC.row kn0 hk i _ hx
  simp only at e3
  obtain rfl : kn = kn0 := by omega
  obtain ⟨hg, hkn⟩ := beastZ_good (x := (((s : Int), g), (kn : Int), a0, a1, a2, a3, a4, a5, a6, a7)) (hO.be _ hxL) rfl
  have hl : (rw kn).length ≤ L.length := hC.len (fun _ h => h) hk
  have hl2 := hO.len
  obtain ⟨⟨k', b⟩, hkb, hk'⟩ := List.mem_map.1 hk
  simp only at hk'
  subst hk'
  have hs256 : s < 256 := by omega
  have hl3 : (rw k').length ≤ 1200000000000 := by omega
  have hW0 := hW.below hb0
  have e0 := blk_cell hW0.blk 0
  simp only [List.getElem?_toArray, List.getElem?_cons_zero, List.getElem?_cons_succ] at e0
  have hpl := blk_lt hW0.blk
  have q0 := blk_cell hz0 0
  have q1 := blk_cell hz0 1
  simp only [List.getElem?_toArray, List.getElem?_cons_zero, List.getElem?_cons_succ] at q0 q1
  have ql := blk_lt hz0
  have h1 := live_any ps sl FS (s : Int) g w0.drew (hW0.below below_drew).sl
  rw [hd] at h1
  have H1 := Lib.hid h1; have Hb0 := Lib.hid hb0; have Hs0 := Lib.hid hs0; have Hz1 := Lib.hid hz1; have Hz0 := Lib.hid hz0; have HW0 := Lib.hid hW0; have Hx := Lib.hid hx; have Hpm := Lib.hid hpm; have Hk := Lib.hid hk; have Hkb := Lib.hid hkb; have Hg := Lib.hid hg; have Hkn := Lib.hid hkn; have Hs256 := Lib.hid hs256; have Hl3 := Lib.hid hl3
  clear h1 hb0 hs0 hz1 hz0 hW0 hx hpm hk hkb hg hkn hs256 hl3
  clear hW hC hO hd hxL hl hl2 hs60
  go_enter Try.func35, Try.ntmps35
  go_wp2_with fail
  clear hw0
  refine wp_planR 5 [0] [some 9, some 10, some 11, some 12, some 13, some 14, some 15] [[], [0], [0, 1], [0, 1, 2], [], [0, 1, 2, 3, 4], [0, 1, 2, 3, 4, 5]] [0, 1, 2, 3, 4] mixed rfl (by kernel_rfl) (by decide) (by decide) rfl ?_
  iterate 5 apply Exists.intro
  refine ⟨rfl, ?_, ?_⟩
  · simp only [List.take_succ_cons, List.take_zero, AllFrom.cons_eq, AllFrom.nil_eq, OpGoalQ]
    refine ⟨?_, ?_, ?_, ?_, ?_, trivial⟩
    all_goals (intro σ hp; (try simp only [List.getD_cons_zero, List.getD_cons_succ, List.map_cons, List.map_nil, preF_cons, preF_nil, isV, and_true] at hp); (first | (have hq : True := hp; clear hq hp) | skip))
    all_goals (go_simp; exact ⟨rfl, rfl⟩)
  intro σ hp
  simp only [List.getD_cons_zero, List.getD_cons_succ, List.map_cons, List.map_nil, preF_cons, preF_nil, isV, and_true] at hp
  simp only [List.drop_succ_cons, List.drop_zero]
  go_simp
  clear hp
  go_wp2_with fail
  refine H1.out.mono ?_
  rintro e w1 ⟨rfl, hb1⟩
  have hb01 : Below w0.heap.size w0 w1 := below_drew.trans hb1
  have hz0 := (Mod.ofBelow hb01).keep Hz0.out (by simp)
  have hz1 := (Mod.ofBelow hb01).keep Hz1.out (by simp)
  have hW1 := HW0.out.below hb01
  clear q0 q1 ql e0 hpl
  have q0 := blk_cell hz0 0
  have q1 := blk_cell hz0 1
  simp only [List.getElem?_toArray, List.getElem?_cons_zero, List.getElem?_cons_succ] at q0 q1
  have ql := blk_lt hz0
  have e0 := blk_cell hW1.blk 2
  simp only [List.getElem?_toArray, List.getElem?_cons_zero, List.getElem?_cons_succ] at e0
  have hpl := blk_lt hW1.blk
  have hlk := mi_in plPr_keys Try.underlying79 (hW1.below below_drew).pm Hs256.out Hpm.out false
  have hlk2 := mi_in plPr_keys Try.underlying79 (hW1.below ((Below.refl _ w1).alloc (Nat.le_refl _) (.cells #[.int .i64 0, .int .i64 0] 151)).drew).pm Hs256.out Hpm.out false
  simp only [plPr, Bool.false_eq_true, if_false] at hlk hlk2
  obtain ⟨w2, hw2⟩ : ∃ w2, (w1.alloc (.cells #[.int .i64 (k' : Int), .int .i64 (i : Int)] 151)).drew = w2 := ⟨_, rfl⟩
  have hb12 : Below w1.heap.size w1 w2 := by rw [← hw2]; exact ((Below.refl _ w1).alloc (Nat.le_refl _) _).drew
  have hu2 : w2.heap[w1.heap.size]? = some (.cells #[.int .i64 (k' : Int), .int .i64 (i : Int)] 151 (0, 0)) := by rw [← hw2]; exact blk_drew (heap_alloc_new w1 _)
  have hB02 := Hb0.out.trans ((hb01.trans (hb12.mono hb01.size)).mono Hb0.out.size)
  have hW2 := hW1.below hb12
  have hy1 := (Mod.ofBelow hb12).keep hz1 (by simp)
  have hsz : w0.heap.size ≤ w1.heap.size := hb01.size
  have Hw2 := Lib.hid hw2; have Hu2 := Lib.hid hu2; have HB02 := Lib.hid hB02; have HW2 := Lib.hid hW2; have Hy1 := Lib.hid hy1
  clear hw2 hu2 hB02 hW2 hy1
  clear hb1 hb01 hz0 hz1 hW1 hb12
  go_wp2_with fail
  refine ⟨rfl, ?_⟩
  go_wp2_with fail
  refine wp_planA ((w1.alloc (.cells #[.int .i64 0, .int .i64 0] 151)).drew) 7 8 [0] [some 17, some 18, some 19, some 20, some 21, some 22, some 23, some 6, none] [[], [0], [0, 1], [0, 1, 2], [], [4], [0, 1, 2, 3, 4, 5], [], [0, 1, 2, 3, 4, 5, 6, 7]] [0, 1, 2, 3, 4, 5, 6, 7] mixed rfl (by kernel_rfl) (by decide) (by decide) (by decide) rfl ?_
  iterate 8 apply Exists.intro
  refine ⟨rfl, ?_, ?_⟩
  · simp only [List.take_succ_cons, List.take_zero, AllFrom.cons_eq, AllFrom.nil_eq, OpGoalA]
    refine ⟨?_, ?_, ?_, ?_, ?_, ?_, ?_, ?_, trivial⟩
    all_goals (intro σ hp; (try simp only [List.getD_cons_zero, List.getD_cons_succ, List.map_cons, List.map_nil, preF_cons, preF_nil, isV, and_true] at hp); (first | (have hq : True := hp; clear hq hp) | skip))
    all_goals (go_simp; first | exact ⟨⟨rfl, rfl⟩, ⟨rfl, rfl⟩⟩ | exact ⟨rfl, rfl⟩)
  intro σ hp
  simp only [List.getD_cons_zero, List.getD_cons_succ, List.map_cons, List.map_nil, preF_cons, preF_nil, isV, and_true] at hp
  simp only [List.drop_succ_cons, List.drop_zero]
  go_simp
  clear hp
  go_wp2_with fail
  rw [Hw2.out]
  refine ⟨rfl, ?_⟩
  clear hlk hlk2 e0 hpl q0 q1 ql
  go_wp2_with fail
  obtain ⟨zl, hzl⟩ : ∃ zl, zl = ints zero11 := ⟨_, rfl⟩
  obtain ⟨rl, hrl⟩ : ∃ rl, rl = ints [(s : Int), g, (k' : Int), a0, a1, a2, a3, a4, a5, a6, a7] := ⟨_, rfl⟩
  have Hzl := Lib.hid hzl; have Hrl := Lib.hid hrl
  clear hzl hrl
  refine wp_planK [13] 15 [0] [some 25, some 26, some 27, some 28, some 29, some 30, some 31, some 32, some 33, some 34, some 24, some 35, some 36, some 7, none, some 8] [[], [0], [0, 1], [0, 1, 2], [], [4], [0, 1, 2, 3, 4, 5], [], [7], [0, 1, 2, 3, 4, 5, 6, 7, 8], [0, 1, 2, 3, 4, 5, 6, 7, 8, 9], [0, 1, 2, 3, 4, 5, 6, 7, 8, 9, 10], [0, 1, 2, 3, 4, 5, 6, 7, 8, 9, 10], [], [0, 1, 2, 3, 4, 5, 6, 7, 8, 9, 10, 11, 13], [0, 1, 2, 3, 4, 5, 6, 7, 8, 9, 10, 11, 12, 13, 14]] [0, 1, 2, 3, 4, 5, 6, 7, 8, 9, 10, 11, 12, 13, 14] (fun L σ V => IGet 13 14 w2 zl.toArray rl.toArray 51 L σ V) mixed rfl (by kernel_rfl) (by decide) (by decide) (by decide) (IGet.start (Below.refl _ _).drew) rfl ?_
  iterate 15 apply Exists.intro
  refine ⟨rfl, ?_, ?_⟩
  · simp only [List.take_succ_cons, List.take_zero, AllFrom.cons_eq, AllFrom.nil_eq, OpGoalK]
    refine ⟨?_, ?_, ?_, ?_, ?_, ?_, ?_, ?_, ?_, ?_, ?_, ?_, ?_, ?_, ?_, trivial⟩
    all_goals (intro L' σ V h1 h2 h3 hI hp; have HA1 := Lib.hid h1; have HA2 := Lib.hid h2; have HA3 := Lib.hid h3; clear h1 h2 h3; (try simp only [List.getD_cons_zero, List.getD_cons_succ, preK_cons, preK_nil] at hp); (try simp only [List.mem_cons, List.not_mem_nil, or_false, eq_self, Nat.reduceEqDiff, Nat.reduceAdd, Nat.zero_add, false_or, true_or, true_and, and_true] at hp); (first | (have hq : True := hp; clear hq hp) | skip); have HI := Lib.hid hI; clear hI)
    all_goals (
      have hWV := HW2.out.below HI.out.b
      have huV := (Mod.ofBelow HI.out.b).keep Hu2.out (by simp)
      have e0 := blk_cell hWV.blk 1
      have u0 := blk_cell huV 0
      have u1 := blk_cell huV 1
      simp only [List.getElem?_toArray, List.getElem?_cons_zero, List.getElem?_cons_succ] at e0 u0 u1
      have hlk := mi_in colPr_keys Try.underlying78 hWV.tm Hkn.out Hkb.out false
      simp only [colPr, Bool.false_eq_true, if_false] at hlk
      have hR := Lib.hid (rt_row (hWV.tab _ Hkb.out) Hx.out Hg.out Hl3.out)
      clear hWV huV)
    · (go_simp; exact ⟨.inr rfl, HI.out.read (by decide) (by decide) _⟩)
    · (go_simp; exact ⟨.inr rfl, HI.out.read (by decide) (by decide) _⟩)
    · (go_simp; exact ⟨.inr rfl, HI.out.read (by decide) (by decide) _⟩)
    · (go_simp; exact ⟨.inr rfl, HI.out.read (by decide) (by decide) _⟩)
    · (go_simp; exact ⟨.inr rfl, HI.out.read (by decide) (by decide) _⟩)
    · (go_simp; exact ⟨.inr rfl, HI.out.read (by decide) (by decide) _⟩)
    · (go_simp; exact ⟨.inr rfl, HI.out.read (by decide) (by decide) _⟩)
    · (go_simp; exact ⟨.inr rfl, HI.out.read (by decide) (by decide) _⟩)
    · (go_simp; exact ⟨.inr rfl, HI.out.read (by decide) (by decide) _⟩)
    · go_simp
      refine hR.out.mono ?_
      rintro e V' ⟨rfl, hb⟩
      exact ⟨_, rfl, .inr rfl, (HI.out.read (by decide) (by decide) _).step hb⟩
    · (go_simp; exact ⟨.inr rfl, HI.out.read (by decide) (by decide) _⟩)
    · (go_simp; exact ⟨.inr rfl, HI.out.read (by decide) (by decide) _⟩)
    · (go_simp; exact ⟨.inr rfl, HI.out.read (by decide) (by decide) _⟩)
    · go_simp
      have hmk := HI.out.made (by decide) (HA3.out 14 (by decide))
      rw [Hzl.out] at hmk ⊢
      exact PostK.mk (c := undef) (.inl (by decide)) hmk
    · simp only [wantedL_none, if_true, Nat.reduceAdd, Nat.zero_add]
      have x3 := HA1.out
      simp only [Nat.reduceAdd, Nat.zero_add] at x3
      generalize hρ : Act.eval _ = ρ
      refine IGet.yr_stored HI.out (by decide) (HA2.out 13 (by decide)) x3 (by rw [Hzl.out, Hrl.out]; simp [ints, zero11]) 51 (.tmp 7) (.tmp 35) rfl ?_ ?_ (by rw [Hrl.out]; exact info_of inf_Row) (by rw [Hrl.out]; exact ints_one _) (fun V' hV' => PostK.mk (c := undef) (.inr rfl) hV')
      · rw [← hρ]
        go_simp
      · rw [← hρ]
        go_simp
        rw [Hrl.out]
        rfl
  · intro L' σ V h1 hI hp
    obtain ⟨r, s13, hr, hst2⟩ := hI.blk (h1 13 (by decide))
    rw [if_pos (h1 14 (by decide)), Hrl.out] at hst2
    clear h1
    simp only [preK_cons, preK_nil, List.getD_cons_zero, List.getD_cons_succ] at hp; simp only [List.mem_cons, List.not_mem_nil, or_false, eq_self, Nat.reduceEqDiff, false_or, true_or, true_and, and_true] at hp
    have HB := Lib.hid hI.b
    have Hst2 := Lib.hid hst2
    have Hr := Lib.hid hr
    clear hI hst2 hr
    simp only [List.drop_succ_cons, List.drop_zero]
    go_simp
    clear hp
    generalize σ 13 = v13 at *
    subst s13
    have hst2 : V.heap[r]? = some (.cells #[.int .i64 (s : Int), .int .i64 g, .int .i64 (k' : Int), .int .i64 a0, .int .i64 a1, .int .i64 a2, .int .i64 a3, .int .i64 a4, .int .i64 a5, .int .i64 a6, .int .i64 a7] 51 (0, 0)) := Hst2.out
    have hr := Hr.out; have hB := HB.out
    have v0 := blk_cell hst2 0
    have v1 := blk_cell hst2 1
    have v2 := blk_cell hst2 2
    have v3 := blk_cell hst2 3
    have v4 := blk_cell hst2 4
    have v5 := blk_cell hst2 5
    have v6 := blk_cell hst2 6
    have v7 := blk_cell hst2 7
    have v8 := blk_cell hst2 8
    have v9 := blk_cell hst2 9
    have v10 := blk_cell hst2 10
    simp only [List.getElem?_toArray, List.getElem?_cons_zero, List.getElem?_cons_succ] at v0 v1 v2 v3 v4 v5 v6 v7 v8 v9 v10
    have vl := blk_lt hst2
    have hs0 := Hs0.out
    have hl1 := blk_lt Hu2.out
    have hy2 := (Mod.ofBelow hB).keep Hy1.out (by simp)
    have r0 := blk_cell hy2 0
    have r1 := blk_cell hy2 1
    have r2 := blk_cell hy2 2
    have r3 := blk_cell hy2 3
    have r4 := blk_cell hy2 4
    have r5 := blk_cell hy2 5
    have r6 := blk_cell hy2 6
    have r7 := blk_cell hy2 7
    have r8 := blk_cell hy2 8
    simp only [List.getElem?_toArray, List.getElem?_cons_zero, List.getElem?_cons_succ] at r0 r1 r2 r3 r4 r5 r6 r7 r8
    have rl := blk_lt hy2
    have f0 := blk_free hy2 0
    have f1 := blk_free hy2 1
    have f2 := blk_free hy2 2
    have f3 := blk_free hy2 3
    have f4 := blk_free hy2 4
    have f5 := blk_free hy2 5
    have f6 := blk_free hy2 6
    have f7 := blk_free hy2 7
    have f8 := blk_free hy2 8
    have n1 : r ≠ w.heap.size + 1 := by omega
    have n2 : w.heap.size + 1 ≠ r := by omega
    have hle : w.heap.size ≤ w.heap.size + 1 := by omega
    have hBf : Below w.heap.size w V := HB02.out.trans (hB.mono HB02.out.size)
    have HBf := Lib.hid hBf
    clear hBf
    clear hst2 hy2 hs0 hr hB
    go_wp2_with fail
    refine ⟨rfl, ?_⟩
    go_wp2
    refine bodyPost_ret (v := .tuple #[.agg #[.int .i64 (k' : Int), .int .i64 a0, .int .i64 a1, .int .i64 a2, .int .i64 a3, .int .i64 a4, .int .i64 a5, .int .i64 a6, .int .i64 a7], .int .i64 0]) (by unfold results; try go_simp) rfl ?_
    refine ⟨rfl, ?_⟩
    repeat (refine Below.setCell ?_ hle _)
    exact HBf.out
  all_goals exact undef
theorem wget_any (h : RepW w p sl L F) (s g : Int) :
    Calls Try.prog 35 #[.pointer (some ⟨p, 0, none⟩), .agg #[.int .i64 s, .int .i64 g]] w (fun e w' => e = .returned (.tuple #[.agg (btC (getB L (s, g))).toArray, .int .i64 (getE L (s, g))]) ∧ Below w.heap.size w w') := by
  have hO := h.ok
  rcases hO.idx s g with ⟨h1, i, h2⟩ | ⟨h1, h2⟩
  · obtain ⟨hl, he⟩ := idx_some h2
    have hm : L[i] ∈ L := List.getElem_mem hl
    rw [show getE L (s, g) = 0 by unfold getE; rw [h2], show getB L (s, g) = L[i].2 by unfold getB; rw [h2]; simp only; rw [List.getD_eq_getElem?_getD, List.getElem?_eq_getElem hl]; rfl]
    obtain ⟨kn, hkn, hK, -⟩ := (beastZ_iff _).1 (hO.be _ hm)
    obtain ⟨s1, hs1, hs2⟩ := hO.slot hm
    generalize L[i] = x at *
    obtain ⟨⟨xs, xg⟩, xK, a0, a1, a2, a3, a4, a5, a6, a7⟩ := x
    simp only [Prod.mk.injEq] at he hK hs2
    obtain ⟨rfl, rfl⟩ := he
    subst hK hs2
    exact wget_live h s1 kn xg a0 a1 a2 a3 a4 a5 a6 a7 hm
  · rw [show getE L (s, g) = 7 by unfold getE; rw [h2], show getB L (s, g) = (0, 0, 0, 0, 0, 0, 0, 0, 0) by unfold getB; rw [h2]; rfl]
    exact wget_dead h s g h1
end
end Go.Proofs.Ytkcpmoinpdojjaa
