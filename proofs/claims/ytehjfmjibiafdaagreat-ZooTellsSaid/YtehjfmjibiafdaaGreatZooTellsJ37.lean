import Derived.Test.YtehjfmjibiafdaaGreatZooTellsJ35
import Derived.Test.YtehjfmjibiafdaaGreatZooTellsJ36
import Derived.RangeFuncLeaves
import Derived.Shelf.Abstract
import Derived.Shelf.RegionOpen
import Derived.OwnWalkIn
import Derived.TacticsInMore
import Derived.LoopNIn
import Derived.LoopIn
/- Families: above, Adopt. (printed by mk_fam4.py) -/
namespace Go.Proofs.YtehjfmjibiafdaaGreat
open Go Go.RowKit Go.Maps Go.Shelf
attribute [local go_sem] AllFrom.cons_eq AllFrom.nil_eq putF_nil putF_cons wantedL_none wantedL_some OpGoalT OpGoalV OpGoalQ OpGoalA OpGoalK YieldsR preF_nil preF_cons
attribute [local go_sem] Oper.semAt_some

/-- All that a handle is under, the nearest first. -/
inductive Chain (B : List Bd) : Hd → List Hd → Prop
  | nil {h : Hd} : parB B h = none → Chain B h []
  | cons {h p : Hd} {xs : List Hd} : parB B h = some p → Chain B p xs → Chain B h (p :: xs)
theorem Acy.chain {B : List Bd} (h : Acy B) (x : Hd) : ∃ xs, Chain B x xs := by
  obtain ⟨rk, hr⟩ := h
  have key : ∀ n x, rk x ≤ n → ∃ xs, Chain B x xs := by
    intro n
    induction n with
    | zero =>
      intro x hx
      cases hp : parB B x with
      | none => exact ⟨[], .nil hp⟩
      | some p =>
        have h1 := hr _ (parB_some hp)
        simp only at h1
        omega
    | succ n ih =>
      intro x hx
      cases hp : parB B x with
      | none => exact ⟨[], .nil hp⟩
      | some p =>
        have h1 := hr _ (parB_some hp)
        simp only at h1
        obtain ⟨xs, hx⟩ := ih p (by omega)
        exact ⟨p :: xs, .cons hp hx⟩
  exact key _ x (Nat.le_refl _)
theorem Chain.mem {B : List Bd} (hs : SortB B) {x : Hd} {xs : List Hd} (h : Chain B x xs) (a : Hd) : (x = a ∨ a ∈ xs) ↔ Up B x a := by
  induction h with
  | nil hp => rw [up_none hp]; simp
  | cons hp _ ih => rw [up_some hs hp, ← ih, List.mem_cons]; constructor <;> (rintro (h | h) <;> simp_all) <;> (rcases h with h | h <;> simp_all)

theorem Chain.fn {B : List Bd} {x : Hd} {xs ys : List Hd} (h : Chain B x xs) (k : Chain B x ys) : xs = ys := by
  induction h generalizing ys with
  | nil hp => cases k with
    | nil => rfl
    | cons hq _ => rw [hp] at hq; cases hq
  | cons hp _ ih => cases k with
    | nil hq => rw [hp] at hq; cases hq
    | cons hq k => rw [hp] at hq; cases hq; rw [ih k]
open Classical in
noncomputable def chLen (B : List Bd) (x : Hd) : Nat := if h : ∃ xs, Chain B x xs then h.choose.length else 0
theorem chLen_eq {B : List Bd} {x : Hd} {xs : List Hd} (h : Chain B x xs) : chLen B x = xs.length := by
  unfold chLen
  rw [dif_pos ⟨xs, h⟩]
  rw [Chain.fn (Exists.choose_spec (⟨xs, h⟩ : ∃ xs, Chain B x xs)) h]
def boxH (wr : World) (p : Value) : Hd := match p with
  | .pointer (some a) => (match wr.cell? a, wr.cell? (a.add 1) with | some (.int _ s), some (.int _ g) => (s, g) | _, _ => (0, 0))
  | _ => (0, 0)
theorem boxH_eq {wr : World} {b : Nat} {y : Hd} (h : wr.heap[b]? = some (.cells (handleC y).toArray 41 (0, 0))) : boxH wr (.pointer (some ⟨b, 0, none⟩)) = y := by
  have e0 := blk_cell h 0
  have e1 := blk_cell h 1
  simp only [handleC, List.getElem?_toArray, List.getElem?_cons_zero, List.getElem?_cons_succ] at e0 e1
  have ha : (⟨b, 0, none⟩ : Addr).add 1 = ⟨b, 1, none⟩ := rfl
  simp only [boxH, ha, e0, e1]
/-- What the loop knows of what is to come. -/
def Nxt (B : List Bd) (v : Bool) (y : Hd) (rest : List Hd) : Prop := (v = false ∧ rest = []) ∨ (v = true ∧ ∃ r, rest = y :: r ∧ Chain B y r ∧ HdR y)
theorem nxt_of {B : List Bd} {x : Hd} {rest : List Hd} (hr : ∀ b ∈ B, HdR b.1 ∧ HdR b.2) (h : Chain B x rest) : Nxt B (parB B x).isSome (parV (parB B x)) rest := by
  cases h with
  | nil hp => exact .inl ⟨by rw [hp]; rfl, rfl⟩
  | cons hp k => exact .inr ⟨by rw [hp]; rfl, _, by rw [hp]; rfl, by rw [hp]; exact k, by rw [hp]; exact (hr _ (parB_some hp)).2⟩
noncomputable def nxtM (B : List Bd) (v4 v5 : Value) (wr : World) : Nat := match v5 with
  | .bool true => 1 + chLen B (boxH wr v4)
  | _ => 0
theorem nxtM_eq {B : List Bd} {v : Bool} {y : Hd} {rest : List Hd} {b : Nat} {wr : World} (h : Nxt B v y rest) (hb : wr.heap[b]? = some (.cells (handleC y).toArray 41 (0, 0))) : nxtM B (.pointer (some ⟨b, 0, none⟩)) (.bool v) wr = rest.length := by
  rcases h with ⟨rfl, rfl⟩ | ⟨rfl, r, rfl, hc, -⟩
  · rfl
  · unfold nxtM
    simp only
    rw [boxH_eq hb, chLen_eq hc, List.length_cons]
    omega

/-- A region that stores (operation m) into one block g that was made ahead of it. -/
structure IOne (m g : Nat) (w2 : World) (zs row : Array Value) (T : TypeId) (L : Nat → Bool) (V : World) : Prop where
  b : Below w2.heap.size w2 V
  ge : w2.heap.size ≤ g
  blk : V.heap[g]? = some (.cells (if L m = true then row else zs) T (0, 0))
theorem IOne.read {m g : Nat} {w2 : World} {zs row : Array Value} {T : TypeId} {L : Nat → Bool} {V : World} (h : IOne m g w2 zs row T L V) {i : Nat} (h1 : m ≠ i) : IOne m g w2 zs row T (upd L i) V := by
  have e : upd L i m = L m := by unfold upd; simp [h1]
  exact ⟨h.b, h.ge, by rw [e]; exact h.blk⟩
theorem IOne.yr_stored {P : Program} {o : Oper} {ρ : Operand → Value} {J : Value → World → Prop} {m g : Nat} {w2 V : World} {zl rl : List Value} {T : TypeId} {L : Nat → Bool}
    (h : IOne m g w2 zl.toArray rl.toArray T L V) (hm : L m = false) (hl : rl.length = zl.length) (ty : TypeId) (x y : Operand) (ho : o.op = .store ty x y) (hx : ρ x = .pointer (some ⟨g, 0, none⟩)) (hy : ρ y = .agg rl.toArray)
    (hi : (P.info? ty).map (·.size) = some rl.length) (h1 : ∀ u ∈ rl, u.oneCell' = true) (hJ : ∀ V', IOne m g w2 zl.toArray rl.toArray T (upd L m) V' → J undef V') : YieldsR P o ρ V J := by
  have q3 := h.blk
  rw [hm] at q3
  simp only [Bool.false_eq_true, if_false] at q3
  have hst := setCells_block (w := V) rl 0 V zl q3
  rw [setL_all rl zl hl] at hst
  have hmod := mod_setCells (F := [g]) (g := g) (.inl (by simp)) rl 0 V (Mod.refl _ V)
  refine yr_store ty x y ho g 0 rl hx hy (hl ▸ blk_there q3 (Nat.le_refl _)) hi h1 (hJ _ ⟨h.b.trans (hmod.toBelow (by simpa using h.ge) h.b.size), h.ge, ?_⟩)
  have e2 : upd L m m = true := by simp [upd]
  rw [e2]; exact hst

section
variable {w : World} {f : Nat} {B : List Bd} {F : List Nat}
set_option maxRecDepth 20000 in
theorem above_any (f : Nat) (s g : Int) (w : World) : Calls Tryz.prog 81 #[.pointer (some ⟨f, 0, none⟩), .agg #[.int .i64 s, .int .i64 g]] w fun e w' => e = .returned (.func (.func 132) #[] #[.pointer (some ⟨w.heap.size, 0, none⟩), .pointer (some ⟨w.heap.size + 1, 0, none⟩)]) ∧ w' = (w.alloc (.cells #[.pointer (some ⟨f, 0, none⟩)] 60)).alloc (.cells #[.int .i64 s, .int .i64 g] 41) := by
  go_enter Tryz.func81, Tryz.ntmps81
  go_wp2
  go_ret
  exact ⟨rfl, rfl⟩

set_option maxRecDepth 20000 in
set_option maxHeartbeats 4000000 in
theorem above_seq (n : Nat) (h : RepF w f B F) (s g : Int) (hr : HdR (s, g)) {ch : List Hd} (hc : Chain B (s, g) ch) (bf bh : Nat) (hf : w.heap[bf]? = some (.cells #[.pointer (some ⟨f, 0, none⟩)] 60 (0, 0))) (hh : w.heap[bh]? = some (.cells #[.int .i64 s, .int .i64 g] 41 (0, 0))) :
    SeqR Fence.wide n Tryz.prog 132 #[.pointer (some ⟨bf, 0, none⟩), .pointer (some ⟨bh, 0, none⟩)] (fun x : Hd => #[hdV x]) (fun xs => xs = ch) (fun pre => pre <+: ch) ch.length w := by
  intro l J Jx W hW hlw hlt hJ hY h0
  have hFlt := h.lt
  refine callsIn_of_wp Tryz.func132 rfl trivial (wpIn_wide.2 ?_) rfl
  simp only [Tryz.ntmps132, List.size_toArray, List.length_cons, List.length_nil, Nat.reduceAdd, Nat.reduceSub, Array.replicate_succ, Array.replicate_zero, List.push_toArray, List.append_toArray, List.nil_append, List.cons_append]
  have hRW := h.below hW
  obtain ⟨m, hF, hL⟩ := hRW.look
  have hfW := (Mod.ofBelow hW).keep hf (by simp)
  have hhW := (Mod.ofBelow hW).keep hh (by simp)
  have hL1 := fun W' (hW' : Below W.heap.size W W') => (⟨(hL W' hW').1, (hL W' hW').2.1, (hL W' hW').2.2 s g hr⟩ : _ ∧ _ ∧ _)
  obtain ⟨⟨ps, pg⟩, hps⟩ : ∃ x, parV (parB B (s, g)) = x := ⟨_, rfl⟩
  simp only [hdV, handleC, hps] at hL1
  have hbf := blk_lt hf
  generalize hbo : (parB B (s, g)).isSome = bo at hL1
  obtain ⟨zl, hzl⟩ : ∃ zl, zl = ints [0, 0] := ⟨_, rfl⟩
  obtain ⟨rl, hrl⟩ : ∃ rl, rl = ints [ps, pg] := ⟨_, rfl⟩
  have HW := Lib.hid hW; have Hlw := Lib.hid hlw; have Hlt := Lib.hid hlt; have HJ := Lib.hid hJ; have HY := Lib.hid hY; have H0 := Lib.hid h0; have HRW := Lib.hid hRW; have HfW := Lib.hid hfW; have Hz := Lib.hid hhW; have HL := Lib.hid hL1; have Hps := Lib.hid hps; have Hbo := Lib.hid hbo; have Hzl := Lib.hid hzl; have Hrl := Lib.hid hrl; have HF := Lib.hid hF; have Hc := Lib.hid hc; have Hbf := Lib.hid hbf; have HFlt := Lib.hid hFlt
  clear hW hlw hlt hJ hY h0 hRW hfW hhW hL1 hps hbo hzl hrl hF hc hbf hFlt
  clear hL
  clear h hf hh hr
  go_wp2_with fail
  refine wp_planK [9] 11 [] [some 7, some 8, some 9, some 10, some 11, some 12, some 6, some 13, some 14, some 4, none, some 5] [[], [0], [0, 1], [0, 1, 2], [], [0, 1, 2, 3, 4], [0, 1, 2, 3, 4, 5], [0, 1, 2, 3, 4, 5, 6], [0, 1, 2, 3, 4, 5, 6], [], [0, 1, 2, 3, 4, 5, 6, 7, 9], [0, 1, 2, 3, 4, 5, 6, 7, 8, 9, 10]] [0, 1, 2, 3, 4, 5, 6, 7, 8, 9, 10] (fun L σ V => IGet 9 10 W zl.toArray rl.toArray 41 L σ V) mixed rfl (by kernel_rfl) (by decide) (by decide) (by decide) (IGet.start (Below.refl _ _).drew) rfl ?_
  iterate 11 apply Exists.intro
  refine ⟨rfl, ?_, ?_⟩
  · simp only [List.take_succ_cons, List.take_zero, AllFrom.cons_eq, AllFrom.nil_eq, OpGoalK]
    refine ⟨?_, ?_, ?_, ?_, ?_, ?_, ?_, ?_, ?_, ?_, ?_, trivial⟩
    all_goals (intro L' σ V h1 h2 h3 hI hp; have HA1 := Lib.hid h1; have HA2 := Lib.hid h2; have HA3 := Lib.hid h3; clear h1 h2 h3; (try simp only [List.getD_cons_zero, List.getD_cons_succ, preK_cons, preK_nil] at hp); (try simp only [List.mem_cons, List.not_mem_nil, or_false, eq_self, Nat.reduceEqDiff, Nat.reduceAdd, Nat.zero_add, false_or, true_or, true_and, and_true] at hp); (first | (have hq : True := hp; clear hq hp) | skip); have HI := Lib.hid hI; clear hI)
    all_goals (
      have hLV := HL.out V HI.out.b
      have hc := hLV.1; have hl := hLV.2.1; have hk := hLV.2.2
      have hzV := (Mod.ofBelow HI.out.b).keep Hz.out (by simp)
      have q0 := blk_cell hzV 0
      have q1 := blk_cell hzV 1
      simp only [List.getElem?_toArray, List.getElem?_cons_zero, List.getElem?_cons_succ] at q0 q1
      have ql := blk_lt hzV
      have hfV := (Mod.ofBelow HI.out.b).keep HfW.out (by simp)
      have u0 := blk_cell hfV 0
      simp only [List.getElem?_toArray, List.getElem?_cons_zero, List.getElem?_cons_succ] at u0
      have ul := blk_lt hfV
      clear hfV
      clear hLV hzV)
    · (go_simp; exact ⟨.inr rfl, HI.out.read (by decide) (by decide) _⟩)
    · (go_simp; exact ⟨.inr rfl, HI.out.read (by decide) (by decide) _⟩)
    · (go_simp; exact ⟨.inr rfl, HI.out.read (by decide) (by decide) _⟩)
    · (go_simp; exact ⟨.inr rfl, HI.out.read (by decide) (by decide) _⟩)
    · (go_simp; exact ⟨.inr rfl, HI.out.read (by decide) (by decide) _⟩)
    · (go_simp; exact ⟨.inr rfl, HI.out.read (by decide) (by decide) _⟩)
    · (go_simp; exact ⟨.inr rfl, HI.out.read (by decide) (by decide) _⟩)
    · (go_simp; exact ⟨.inr rfl, HI.out.read (by decide) (by decide) _⟩)
    · (go_simp; exact ⟨.inr rfl, HI.out.read (by decide) (by decide) _⟩)
    · go_simp
      have hmk := HI.out.made (by decide) (HA3.out 10 (by decide))
      rw [Hzl.out] at hmk ⊢
      exact PostK.mk (c := undef) (.inl (by decide)) hmk
    · simp only [wantedL_none, if_true, Nat.reduceAdd, Nat.zero_add]
      have x3 := HA1.out
      simp only [Nat.reduceAdd, Nat.zero_add] at x3
      generalize hρ : Act.eval _ = ρ
      refine IGet.yr_stored HI.out (by decide) (HA2.out 9 (by decide)) x3 (by rw [Hzl.out, Hrl.out]; rfl) 41 (.tmp 4) (.tmp 13) rfl ?_ ?_ (by rw [Hrl.out]; kernel_rfl) (by rw [Hrl.out]; exact ints_one _) (fun V' hV' => PostK.mk (c := undef) (.inr rfl) hV')
      · rw [← hρ]
        go_simp
      · rw [← hρ]
        go_simp
        rw [Hrl.out]
        rfl
  · intro L' σ V h1 hI hp
    obtain ⟨r, s9, hr, hst⟩ := hI.blk (h1 9 (by decide))
    rw [if_pos (h1 10 (by decide)), Hrl.out] at hst
    clear h1
    simp only [preK_cons, preK_nil, List.getD_cons_zero, List.getD_cons_succ] at hp; simp only [List.mem_cons, List.not_mem_nil, or_false, eq_self, Nat.reduceEqDiff, false_or, true_or, true_and, and_true] at hp
    have HB := Lib.hid hI.b
    have Hr := Lib.hid hr
    have Hst := Lib.hid hst
    clear hI hst hr
    simp only [List.drop_succ_cons, List.drop_zero]
    go_simp
    clear hp
    generalize σ 9 = v9 at *
    subst s9
    go_wp2_with fail
    refine ⟨rfl, ?_⟩
    go_wp2_with fail
    go_loopw [4, 5] (fun v4 v5 wr => ∃ (pre rest : List Hd) (b : Nat) (v : Bool) (y : Hd), v4 = .pointer (some ⟨b, 0, none⟩) ∧ v5 = .bool v ∧ ch = pre ++ rest ∧ J pre wr ∧ Mod [l] W wr ∧ W.heap.size ≤ b ∧ wr.heap[b]? = some (.cells (handleC y).toArray 41 (0, 0)) ∧ Nxt B v y rest) (fun v4 v5 wr => nxtM B v4 v5 wr)
    case atStart =>
      refine ⟨[], ch, r, bo, (ps, pg), rfl, rfl, rfl, HJ.out _ _ _ H0.out HB.out, (Mod.ofBelow HB.out).mono (by simp), Hr.out, Hst.out, ?_⟩
      rw [← Hps.out, ← Hbo.out]
      exact nxt_of HRW.out.r Hc.out
    case round =>
      obtain ⟨pre, rest, b, v, ⟨y0, y1⟩, rfl, rfl, hch, hJp, hmod, hbge, hbb, hnx⟩ := hrel
      have hmeas := nxtM_eq hnx hbb
      rcases hnx with ⟨rfl, rfl⟩ | ⟨rfl, rest, rfl, hcy, hyr⟩
      · have hfin : (∃ v : Value, Ending.returned (.tuple #[]) = .returned v) ∧ ((∃ xs, xs = ch ∧ J xs wr) ∨ (∃ pre, pre <+: ch ∧ Jx pre wr)) := ⟨⟨_, rfl⟩, .inl ⟨pre, by rw [hch]; simp, hJp⟩⟩
        have Hfin := Lib.hid hfin
        clear hfin
        clear hch hJp hmod hbge hbb hmeas
        go_wp2
        refine bodyPost_end (v := .tuple #[]) ?_ rfl Hfin.out
        unfold results; try go_simp
      · have hll : pre.length < ch.length := by rw [hch]; simp
        have hyl := HY.out pre (y0, y1) wr hJp hll
        obtain ⟨fn, tmps, assign, body, hy, hR⟩ := hyl
        simp only [hdV, handleC] at hy
        have HR := Lib.hid hR; have Hch := Lib.hid hch; have HJp := Lib.hid hJp; have Hmod := Lib.hid hmod; have Hbge := Lib.hid hbge; have Hbb := Lib.hid hbb; have Hmeas := Lib.hid hmeas; have Hcy := Lib.hid hcy; have Hyr := Lib.hid hyr
        clear hR hch hJp hmod hbge hbb hmeas hcy hyr
        have e0 := blk_cell Hbb.out 0
        have e1 := blk_cell Hbb.out 1
        simp only [handleC, List.getElem?_toArray, List.getElem?_cons_zero, List.getElem?_cons_succ] at e0 e1
        have el := blk_lt Hbb.out
        clear hll
        refine (wpIn_wide (n := n)).1 ?_
        gi_wp2_with fail
        refine ⟨fun h => (by simp [Fence.wide] at h), HR.out.mono ?_⟩
        rintro e W3 (⟨rfl, hJ3, hm3⟩ | ⟨rfl, hJx3⟩)
        · have hb3 := hm3.keep Hbb.out (by have := Hbge.out; have := Hlt.out; simp; omega)
          have e0 := blk_cell hb3 0
          have e1 := blk_cell hb3 1
          simp only [handleC, List.getElem?_toArray, List.getElem?_cons_zero, List.getElem?_cons_succ] at e0 e1
          have el := blk_lt hb3
          have hm03 := Hmod.out.step hm3
          have hFl : ∀ y ∈ F, y ∉ [l] := fun y hy e => by
            have h1 := HFlt.out y hy
            have h2 := Hlw.out
            simp only [List.mem_cons, List.not_mem_nil, or_false] at e
            omega
          have hR3 := HRW.out.mod hm03 hFl
          obtain ⟨m3, hF3, hL3⟩ := hR3.look
          obtain rfl : m3 = m := by
            have := hF3.symm.trans HF.out
            simpa using this
          have hbf3 := hm03.keep HfW.out (by have := Hbf.out; have := Hlw.out; simp; omega)
          have hL4 := fun W' (hW' : Below W3.heap.size W3 W') => (⟨(hL3 W' hW').1, (hL3 W' hW').2.1, (hL3 W' hW').2.2 y0 y1 Hyr.out⟩ : _ ∧ _ ∧ _)
          obtain ⟨⟨qs, qg⟩, has⟩ : ∃ x, parV (parB B (y0, y1)) = x := ⟨_, rfl⟩
          simp only [hdV, handleC, has] at hL4
          have hnx := nxt_of HRW.out.r Hcy.out
          rw [has] at hnx
          generalize (parB B (y0, y1)).isSome = bo2 at hL4 hnx
          obtain ⟨zl2, hzl2⟩ : ∃ zl, zl = ints [y0, y1] := ⟨_, rfl⟩
          obtain ⟨rl2, hrl2⟩ : ∃ rl, rl = ints [qs, qg] := ⟨_, rfl⟩
          have hst : IOne 9 W3.heap.size W3 zl2.toArray rl2.toArray 41 (fun _ => false) (W3.alloc (.cells #[.int .i64 y0, .int .i64 y1] 41)).drew := by
            rw [hzl2]
            exact ⟨((Below.refl _ W3).alloc (Nat.le_refl _) _).drew, Nat.le_refl _, blk_drew (heap_alloc_new W3 _)⟩
          have hsz3 := hm03.size
          have Hb3 := Lib.hid hb3; have HJ3 := Lib.hid hJ3; have Hm3 := Lib.hid hm3; have Hm03 := Lib.hid hm03; have Hbf3 := Lib.hid hbf3; have HL4 := Lib.hid hL4; have Has := Lib.hid has; have Hnx := Lib.hid hnx; have Hzl2 := Lib.hid hzl2; have Hrl2 := Lib.hid hrl2; have Hst2 := Lib.hid hst; have Hsz3 := Lib.hid hsz3
          clear hb3 hJ3 hm3 hm03 hbf3 hL4 has hnx hzl2 hrl2 hst hsz3
          clear hR3 hF3 hL3 hFl
          gi_wp2_with fail
          clear e0 e1 el hy
          refine wpIn_wide.2 ?_
          refine wp_planK [] 10 [] [some 17, some 18, some 19, some 20, some 21, some 22, some 16, some 23, some 24, none, some 5] [[], [0], [0, 1], [0, 1, 2], [], [0, 1, 2, 3, 4], [0, 1, 2, 3, 4, 5], [0, 1, 2, 3, 4, 5, 6], [0, 1, 2, 3, 4, 5, 6], [0, 1, 2, 3, 4, 5, 6, 7], [0, 1, 2, 3, 4, 5, 6, 7, 8, 9]] [0, 1, 2, 3, 4, 5, 6, 7, 8, 9] (fun L σ V => IOne 9 W3.heap.size W3 zl2.toArray rl2.toArray 41 L V) mixed rfl (by kernel_rfl) (by decide) (by decide) (by decide) Hst2.out rfl ?_
          iterate 10 apply Exists.intro
          refine ⟨rfl, ?_, ?_⟩
          · simp only [List.take_succ_cons, List.take_zero, AllFrom.cons_eq, AllFrom.nil_eq, OpGoalK]
            refine ⟨?_, ?_, ?_, ?_, ?_, ?_, ?_, ?_, ?_, ?_, trivial⟩
            all_goals (intro L' σ V h1 h2 h3 hI hp; have HA1 := Lib.hid h1; have HA2 := Lib.hid h2; have HA3 := Lib.hid h3; clear h1 h2 h3; (try simp only [List.getD_cons_zero, List.getD_cons_succ, preK_cons, preK_nil] at hp); (try simp only [List.mem_cons, List.not_mem_nil, or_false, eq_self, Nat.reduceEqDiff, Nat.reduceAdd, Nat.zero_add, false_or, true_or, true_and, and_true] at hp); (first | (have hq : True := hp; clear hq hp) | skip); have HI := Lib.hid hI; clear hI)
            all_goals (
              have hLV := HL4.out V HI.out.b
              have hc := hLV.1; have hl := hLV.2.1; have hk := hLV.2.2
              have hfV := (Mod.ofBelow HI.out.b).keep Hbf3.out (by simp)
              have u0 := blk_cell hfV 0
              simp only [List.getElem?_toArray, List.getElem?_cons_zero, List.getElem?_cons_succ] at u0
              have ul := blk_lt hfV
              clear hLV hfV)
            · (go_simp; exact ⟨.inr rfl, HI.out.read (by decide)⟩)
            · (go_simp; exact ⟨.inr rfl, HI.out.read (by decide)⟩)
            · (go_simp; exact ⟨.inr rfl, HI.out.read (by decide)⟩)
            · (go_simp; exact ⟨.inr rfl, HI.out.read (by decide)⟩)
            · have hzV := HI.out.blk
              rw [if_neg (by rw [HA3.out 9 (by decide)]; simp), Hzl2.out] at hzV
              have hzV : V.heap[W3.heap.size]? = some (.cells #[.int .i64 y0, .int .i64 y1] 41 (0, 0)) := hzV
              have q0 := blk_cell hzV 0
              have q1 := blk_cell hzV 1
              simp only [List.getElem?_toArray, List.getElem?_cons_zero, List.getElem?_cons_succ] at q0 q1
              have ql := blk_lt hzV
              clear hzV
              go_simp
              exact ⟨.inr rfl, HI.out.read (by decide)⟩
            · (go_simp; exact ⟨.inr rfl, HI.out.read (by decide)⟩)
            · (go_simp; exact ⟨.inr rfl, HI.out.read (by decide)⟩)
            · (go_simp; exact ⟨.inr rfl, HI.out.read (by decide)⟩)
            · (go_simp; exact ⟨.inr rfl, HI.out.read (by decide)⟩)
            · simp only [wantedL_none, if_true, Nat.reduceAdd, Nat.zero_add]
              have x3 := HA1.out
              simp only [Nat.reduceAdd, Nat.zero_add] at x3
              generalize hρ : Act.eval _ = ρ
              refine IOne.yr_stored HI.out x3 (by rw [Hzl2.out, Hrl2.out]; rfl) 41 (.tmp 4) (.tmp 23) rfl ?_ ?_ (by rw [Hrl2.out]; kernel_rfl) (by rw [Hrl2.out]; exact ints_one _) (fun V' hV' => PostK.mk (c := undef) (.inr rfl) hV')
              · rw [← hρ]
                go_simp
              · rw [← hρ]
                go_simp
                rw [Hrl2.out]
                rfl
          · intro L' σ V h1 hI hp
            have hst2 := hI.blk
            rw [if_pos (h1 9 (by decide)), Hrl2.out] at hst2
            clear h1
            simp only [preK_cons, preK_nil, List.getD_cons_zero, List.getD_cons_succ] at hp; simp only [List.mem_cons, List.not_mem_nil, or_false, eq_self, Nat.reduceEqDiff, false_or, true_or, true_and, and_true] at hp
            have HB4 := Lib.hid hI.b
            have Hst3 := Lib.hid hst2
            clear hI hst2
            simp only [List.drop_succ_cons, List.drop_zero]
            go_simp
            clear hp
            go_wp2_with fail
            refine ⟨rfl, ?_⟩
            go_wp2_with fail
            go_roundw
            case rel =>
              refine ⟨pre ++ [(y0, y1)], rest, W3.heap.size, bo2, (qs, qg), rfl, rfl, by rw [Hch.out]; simp, HJ.out _ _ _ HJ3.out (HB4.out.mono Hsz3.out), (Hm03.out.andBelow HB4.out), Hsz3.out, Hst3.out, Hnx.out⟩
            case measure =>
              rw [nxtM_eq Hnx.out Hst3.out, Hmeas.out]; simp
        · have hfin : (∃ v : Value, Ending.returned (.tuple #[]) = .returned v) ∧ ((∃ xs, xs = ch ∧ J xs W3) ∨ (∃ pre, pre <+: ch ∧ Jx pre W3)) := ⟨⟨_, rfl⟩, .inr ⟨pre ++ [(y0, y1)], ⟨rest, by rw [Hch.out]; simp⟩, hJx3⟩⟩
          have Hfin := Lib.hid hfin
          clear hfin
          clear hJx3 e0 e1 el hy
          gi_wp2
          refine bodyPost_ret (v := .tuple #[]) ?_ rfl Hfin.out
          unfold results; try go_simp
  all_goals exact undef
end
end Go.Proofs.YtehjfmjibiafdaaGreat
