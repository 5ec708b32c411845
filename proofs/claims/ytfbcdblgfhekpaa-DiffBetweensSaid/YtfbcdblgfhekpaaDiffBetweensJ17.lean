import Derived.Test.YtfbcdblgfhekpaaDiffBetweensJ15
import Derived.Test.YtfbcdblgfhekpaaDiffBetweensJ8
import Derived.Test.YtfbcdblgfhekpaaDiffBetweensJ9
import Derived.Test.YtfbcdblgfhekpaaDiffBetweensJ10
import Derived.Test.YtfbcdblgfhekpaaDiffBetweensJ13
import Derived.Test.YtfbcdblgfhekpaaDiffBetweensJ6
/- The plain law of Between: the merge of two sorted lists. -/
namespace Go.Proofs.Ytfbcdblgfhekpaa
open Go

def chg (h : Hd) (o n : Bt) : List Cg := if eqB o n = true then [] else [(h, o, n)]
def SortR (l : List Rw) : Prop := l.Pairwise (fun x y => ltH x.1 y.1 = true)
def mrgB : Nat → List Rw → List Rw → List Cg
  | 0, _, _ => []
  | _ + 1, [], [] => []
  | n + 1, x :: a, [] => chg x.1 x.2 noneB ++ mrgB n a []
  | n + 1, [], y :: b => chg y.1 noneB y.2 ++ mrgB n [] b
  | n + 1, x :: a, y :: b =>
    if ltH x.1 y.1 = true then chg x.1 x.2 noneB ++ mrgB n a (y :: b)
    else if ltH y.1 x.1 = true then chg y.1 noneB y.2 ++ mrgB n (x :: a) b
    else chg y.1 x.2 y.2 ++ mrgB n a b
theorem getM_cons_ne {x : Rw} {a : List Rw} {h : Hd} (hne : h ≠ x.1) : getM (x :: a) h = getM a h := by
  unfold getM
  rw [List.find?_cons_of_neg (by simpa using Ne.symm hne)]
theorem getM_cons_eq (x : Rw) (a : List Rw) : getM (x :: a) x.1 = x.2 := by unfold getM; simp
theorem hasH_cons (x : Rw) (a : List Rw) (h : Hd) : hasH (x :: a) h ↔ h = x.1 ∨ hasH a h := by
  constructor
  · rintro ⟨b, hb⟩
    rcases List.mem_cons.1 hb with e | e
    · exact .inl (congrArg Prod.fst e)
    · exact .inr ⟨b, e⟩
  · rintro (rfl | ⟨b, hb⟩)
    · exact ⟨x.2, by simp⟩
    · exact ⟨b, by simp [hb]⟩
theorem hasH_nil (h : Hd) : ¬ hasH [] h := by rintro ⟨b, hb⟩; cases hb
theorem getM_nil (h : Hd) : getM [] h = noneB := rfl
theorem SortR.head {x : Rw} {a : List Rw} (hs : SortR (x :: a)) {h : Hd} (hh : hasH a h) : ltH x.1 h = true := by
  obtain ⟨b, hb⟩ := hh
  exact (List.pairwise_cons.1 hs).1 _ hb
theorem SortR.tail {x : Rw} {a : List Rw} (hs : SortR (x :: a)) : SortR a := (List.pairwise_cons.1 hs).2
theorem getM_none {l : List Rw} {h : Hd} (hn : ¬ hasH l h) : getM l h = noneB := getM_out (fun r hr e => hn ⟨r.2, by rw [← e]; exact hr⟩)
theorem betL_cons (la lb : List Rw) (h : Hd) (t : List Hd) : betL la lb (h :: t) = chg h (getM la h) (getM lb h) ++ betL la lb t := by
  unfold betL chg
  rw [List.filter_cons]
  cases e : eqB (getM la h) (getM lb h) <;> simp
theorem betL_congr {la lb la' lb' : List Rw} : ∀ (t : List Hd), (∀ h ∈ t, getM la h = getM la' h ∧ getM lb h = getM lb' h) → betL la lb t = betL la' lb' t
  | [], _ => rfl
  | h :: t, hh => by
    rw [betL_cons, betL_cons, betL_congr t (fun k hk => hh k (by simp [hk])), (hh h (by simp)).1, (hh h (by simp)).2]
theorem bet_step {la lb la' lb' : List Rw} {hs : List Hd} {m : Hd} (hB : BetH la lb hs) (hm : hasH la m ∨ hasH lb m) (hmin : ∀ h, hasH la h ∨ hasH lb h → h = m ∨ ltH m h = true)
    (hr : ∀ h, (hasH la' h ∨ hasH lb' h) ↔ (hasH la h ∨ hasH lb h) ∧ h ≠ m) (hg : ∀ h, h ≠ m → getM la h = getM la' h ∧ getM lb h = getM lb' h) :
    ∃ t, BetH la' lb' t ∧ betL la lb hs = chg m (getM la m) (getM lb m) ++ betL la' lb' t := by
  have hmem := (hB.mem m).2 hm
  cases hs with
  | nil => cases hmem
  | cons h0 t =>
    have hso := List.pairwise_cons.1 hB.so
    have h0m : h0 = m := by
      rcases hmin h0 ((hB.mem h0).1 (by simp)) with e | e
      · exact e
      · rcases List.mem_cons.1 hmem with e2 | e2
        · exact e2.symm
        · have := hso.1 m e2
          rw [ltH_asymm this] at e; cases e
    subst h0m
    refine ⟨t, ⟨hso.2, fun h => ?_⟩, ?_⟩
    · rw [hr h, ← hB.mem h]
      constructor
      · intro hh
        exact ⟨by simp [hh], fun e => by subst e; have := hso.1 _ hh; rw [ltH_irrefl] at this; cases this⟩
      · rintro ⟨hh, hne⟩
        rcases List.mem_cons.1 hh with e | e
        · exact absurd e hne
        · exact e
    · rw [betL_cons, betL_congr t (fun h hh => hg h (fun e => by subst e; have := hso.1 _ hh; rw [ltH_irrefl] at this; cases this))]
theorem bet_nil {hs : List Hd} (hB : BetH [] [] hs) : betL [] [] hs = [] := by
  cases hs with
  | nil => rfl
  | cons h t => rcases (hB.mem h).1 (by simp) with e | e <;> exact absurd e (hasH_nil h)

theorem mrg_bet : ∀ (n : Nat) (la lb : List Rw) (hs : List Hd), la.length + lb.length ≤ n → SortR la → SortR lb → BetH la lb hs → mrgB n la lb = betL la lb hs
  | 0, [], [], hs, _, _, _, hB => by rw [bet_nil hB]; rfl
  | 0, _ :: _, _, _, h, _, _, _ => by simp at h
  | 0, [], _ :: _, _, h, _, _, _ => by simp at h
  | n + 1, [], [], hs, _, _, _, hB => by rw [bet_nil hB]; rfl
  | n + 1, x :: a, [], hs, hl, hsa, hsb, hB => by
    obtain ⟨t, hB', he⟩ := bet_step (la' := a) (lb' := []) (m := x.1) hB (.inl ((hasH_cons _ _ _).2 (.inl rfl)))
      (fun h hh => by
        rcases hh with hh | hh
        · exact ((hasH_cons _ _ _).1 hh).imp id hsa.head
        · exact absurd hh (hasH_nil h))
      (fun h => by
        rw [hasH_cons]
        constructor
        · rintro (hh | hh)
          · exact ⟨.inl (.inr hh), fun e => by subst e; have := hsa.head hh; rw [ltH_irrefl] at this; cases this⟩
          · exact absurd hh (hasH_nil h)
        · rintro ⟨(hh | hh) | hh, hne⟩
          · exact absurd hh hne
          · exact .inl hh
          · exact .inr hh)
      (fun h hne => ⟨getM_cons_ne hne, rfl⟩)
    rw [he, getM_cons_eq, getM_nil]
    show chg x.1 x.2 noneB ++ mrgB n a [] = _
    rw [mrg_bet n a [] t (by simp at hl ⊢; omega) hsa.tail hsb hB']
  | n + 1, [], y :: b, hs, hl, hsa, hsb, hB => by
    obtain ⟨t, hB', he⟩ := bet_step (la' := []) (lb' := b) (m := y.1) hB (.inr ((hasH_cons _ _ _).2 (.inl rfl)))
      (fun h hh => by
        rcases hh with hh | hh
        · exact absurd hh (hasH_nil h)
        · exact ((hasH_cons _ _ _).1 hh).imp id hsb.head)
      (fun h => by
        rw [hasH_cons]
        constructor
        · rintro (hh | hh)
          · exact absurd hh (hasH_nil h)
          · exact ⟨.inr (.inr hh), fun e => by subst e; have := hsb.head hh; rw [ltH_irrefl] at this; cases this⟩
        · rintro ⟨hh | hh | hh, hne⟩
          · exact .inl hh
          · exact absurd hh hne
          · exact .inr hh)
      (fun h hne => ⟨rfl, getM_cons_ne hne⟩)
    rw [he, getM_cons_eq, getM_nil]
    show chg y.1 noneB y.2 ++ mrgB n [] b = _
    rw [mrg_bet n [] b t (by simp at hl ⊢; omega) hsa hsb.tail hB']
  | n + 1, x :: a, y :: b, hs, hl, hsa, hsb, hB => by
    have hl2 : a.length + b.length + 2 ≤ n + 1 := by simp at hl; omega
    unfold mrgB
    cases hxy : ltH x.1 y.1 with
    | true =>
      have hnb : ¬ hasH (y :: b) x.1 := fun hh => by
        rcases (hasH_cons _ _ _).1 hh with e | e
        · rw [e, ltH_irrefl] at hxy; cases hxy
        · have := ltH_asymm (hsb.head e); rw [this] at hxy; cases hxy
      obtain ⟨t, hB', he⟩ := bet_step (la' := a) (lb' := y :: b) (m := x.1) hB (.inl ((hasH_cons _ _ _).2 (.inl rfl)))
        (fun h hh => by
          rcases hh with hh | hh
          · exact ((hasH_cons _ _ _).1 hh).imp id hsa.head
          · rcases (hasH_cons _ _ _).1 hh with e | e
            · exact .inr (by rw [e]; exact hxy)
            · exact .inr (ltH_trans hxy (hsb.head e)))
        (fun h => by
          rw [hasH_cons x]
          constructor
          · rintro (hh | hh)
            · exact ⟨.inl (.inr hh), fun e => by subst e; have := hsa.head hh; rw [ltH_irrefl] at this; cases this⟩
            · exact ⟨.inr hh, fun e => by subst e; exact hnb hh⟩
          · rintro ⟨(hh | hh) | hh, hne⟩
            · exact absurd hh hne
            · exact .inl hh
            · exact .inr hh)
        (fun h hne => ⟨getM_cons_ne hne, rfl⟩)
      rw [he, getM_cons_eq, getM_none hnb, if_pos rfl, mrg_bet n a (y :: b) t (by simp; omega) hsa.tail hsb hB']
    | false =>
      rw [if_neg (by simp)]
      cases hyx : ltH y.1 x.1 with
      | true =>
        have hna : ¬ hasH (x :: a) y.1 := fun hh => by
          rcases (hasH_cons _ _ _).1 hh with e | e
          · rw [e, ltH_irrefl] at hyx; cases hyx
          · have := ltH_asymm (hsa.head e); rw [this] at hyx; cases hyx
        obtain ⟨t, hB', he⟩ := bet_step (la' := x :: a) (lb' := b) (m := y.1) hB (.inr ((hasH_cons _ _ _).2 (.inl rfl)))
          (fun h hh => by
            rcases hh with hh | hh
            · rcases (hasH_cons _ _ _).1 hh with e | e
              · exact .inr (by rw [e]; exact hyx)
              · exact .inr (ltH_trans hyx (hsa.head e))
            · exact ((hasH_cons _ _ _).1 hh).imp id hsb.head)
          (fun h => by
            rw [hasH_cons y]
            constructor
            · rintro (hh | hh)
              · exact ⟨.inl hh, fun e => by subst e; exact hna hh⟩
              · exact ⟨.inr (.inr hh), fun e => by subst e; have := hsb.head hh; rw [ltH_irrefl] at this; cases this⟩
            · rintro ⟨hh | hh | hh, hne⟩
              · exact .inl hh
              · exact absurd hh hne
              · exact .inr hh)
          (fun h hne => ⟨rfl, getM_cons_ne hne⟩)
        rw [he, getM_cons_eq, getM_none hna, if_pos rfl, mrg_bet n (x :: a) b t (by simp; omega) hsa hsb.tail hB']
      | false =>
        have e0 : x.1 = y.1 := ltH_tri hxy hyx
        obtain ⟨t, hB', he⟩ := bet_step (la' := a) (lb' := b) (m := y.1) hB (.inr ((hasH_cons _ _ _).2 (.inl rfl)))
          (fun h hh => by
            rcases hh with hh | hh
            · rcases (hasH_cons _ _ _).1 hh with e | e
              · exact .inl (e.trans e0)
              · exact .inr (by rw [← e0]; exact hsa.head e)
            · exact ((hasH_cons _ _ _).1 hh).imp id hsb.head)
          (fun h => by
            rw [hasH_cons x, hasH_cons y]
            constructor
            · rintro (hh | hh)
              · exact ⟨.inl (.inr hh), fun e => by subst e; have := hsa.head hh; rw [e0, ltH_irrefl] at this; cases this⟩
              · exact ⟨.inr (.inr hh), fun e => by subst e; have := hsb.head hh; rw [ltH_irrefl] at this; cases this⟩
            · rintro ⟨(hh | hh) | hh | hh, hne⟩
              · exact absurd (hh.trans e0) hne
              · exact .inl hh
              · exact absurd hh hne
              · exact .inr hh)
          (fun h hne => ⟨getM_cons_ne (by rw [e0]; exact hne), getM_cons_ne hne⟩)
        have hgx : getM (x :: a) y.1 = x.2 := by rw [← e0]; exact getM_cons_eq _ _
        rw [he, hgx, getM_cons_eq, if_neg (by simp), mrg_bet n a b t (by omega) hsa.tail hsb.tail hB']
end Go.Proofs.Ytfbcdblgfhekpaa

/- The slots of the reference's zoo: All, Is, Free, Take. (printed by mk_zs.py out of XSlot2, XSlot4, XSlot5) -/
namespace Go.Proofs.Ytfbcdblgfhekpaa
open Go.RowKit

attribute [local go_sem] AllFrom.cons_eq AllFrom.nil_eq putF_nil putF_cons wantedL_none wantedL_some OpGoalT OpGoalS OpGoalP OpGoalV YieldsR preF_nil preF_cons

variable {vL vB : Value}

end Go.Proofs.Ytfbcdblgfhekpaa

/- The reference's zoo: its blocks, At, Get. -/
namespace Go.Proofs.Ytfbcdblgfhekpaa
open Go Go.RowKit
variable {vB : Value}

attribute [local go_sem] AllFrom.cons_eq AllFrom.nil_eq putF_nil putF_cons wantedL_none wantedL_some OpGoalT OpGoalV OpGoalQ YieldsR preF_nil preF_cons

def atI (L : List Rw) (h : Hd) : Int := match idxL L h with | some i => (i : Int) | none => -1
theorem atI_some {L : List Rw} {h : Hd} {i : Nat} (hi : idxL L h = some i) : atI L h = (i : Int) := by unfold atI; rw [hi]
theorem atI_none {L : List Rw} {h : Hd} (hi : idxL L h = none) : atI L h = -1 := by unfold atI; rw [hi]

end Go.Proofs.Ytfbcdblgfhekpaa

/- The reference's zoo: Get; rows without some. (printed by mk_z2.py) -/
namespace Go.Proofs.Ytfbcdblgfhekpaa
open Go Go.RowKit
variable {vB : Value}

attribute [local go_sem] AllFrom.cons_eq AllFrom.nil_eq putF_nil putF_cons wantedL_none wantedL_some OpGoalT OpGoalV OpGoalQ YieldsR preF_nil preF_cons

theorem getE_some {L : List Rw} {h : Hd} {i : Nat} (hi : idxL L h = some i) : getE L h = 0 := by unfold getE; rw [hi]
theorem getE_none {L : List Rw} {h : Hd} (hi : idxL L h = none) : getE L h = 7 := by unfold getE; rw [hi]
theorem getB_some {L : List Rw} {h : Hd} {i : Nat} (hi : idxL L h = some i) (hl : i < L.length) : getB L h = L[i].2 := by unfold getB; rw [hi]; simp only; rw [List.getD_eq_getElem?_getD, List.getElem?_eq_getElem hl]; rfl
theorem getB_none {L : List Rw} {h : Hd} (hi : idxL L h = none) : getB L h = (0, 0, 0, 0, 0, 0, 0, 0, 0) := by unfold getB; rw [hi]; rfl

/-- append of one row onto a row of one's own. -/
theorem app_row {w : World} {ops : Array Oper} {rest : List Oper} {o : Oper} {a : Act} {Q : Exit → Act → World → Prop} (hgd : o.guard = none) (s x : Operand)
    (ho : o.op = .call { callee := .builtin .append, args := #[s, x], argTypes := #[22, 22] }) (base : Nat) (v : Value) (l : List Rw) (y : Rw) (ad : Addr) (c : Nat)
    (hs : a.eval s = v) (hown : w.ownsRow base 33 11 v l.length (l.flatMap rwC)) (hx : a.eval x = .slice (some ad) 1 c) (hc : ∀ j u, (rwC y)[j]? = some u → w.cell? (ad.add j) = some u)
    (hlen : l.length < 1200000000000) (hbase : base ≤ w.heap.size)
    (h : ∀ v' w', w'.ownsRow base 33 11 v' (l ++ [y]).length ((l ++ [y]).flatMap rwC) → Below base w w' → wpList Try.prog ops Q rest (a.put o.dst v') w') : wpList Try.prog ops Q (o :: rest) a w := by
  refine app_rec (enc := rwC) (n := 11) (z := .agg (ints zero11).toArray) (bytes := 88) hgd s x 22 33 ho Try.underlying22 inf_Row rfl (by omega) (by omega) rwC_one rwC_len base v l y ad c hs hown hx hc (by omega) hbase ?_
  intro v' w' h1 h2 _
  exact h v' w' h1 ((Below.refl base w).grown h2 hbase (own_ge hown))

end Go.Proofs.Ytfbcdblgfhekpaa

/- The reference's zoo: its rows turned; Kill. -/
namespace Go.Proofs.Ytfbcdblgfhekpaa
open Go Go.RowKit
variable {vB : Value}

attribute [local go_sem] AllFrom.cons_eq AllFrom.nil_eq putF_nil putF_cons wantedL_none wantedL_some OpGoalT OpGoalV OpGoalQ YieldsR preF_nil preF_cons

section
variable {w w1 : World} {q : Nat} {sl : Sl} {L L' : List Rw} {F : List Nat} {v : Value}
theorem killLz_none {h : Hd} (hi : idxL L h = none) : killL L h = L := by
  unfold killL
  rw [List.filter_eq_self]
  intro x hx
  have := idx_none hi x hx
  simpa using this
theorem freeL_dead {s g : Int} (h : liveB sl s g = false) : freeL sl s g = sl := by unfold freeL; rw [h]; rfl
theorem freeE_live {s g : Int} (h : liveB sl s g = true) : freeE sl s g = 0 := by unfold freeE; rw [h]; rfl
theorem killE_none {h : Hd} (hi : idxL L h = none) : killE L h = 7 := by unfold killE; rw [hi]
theorem killE_some {h : Hd} {i : Nat} (hi : idxL L h = some i) : killE L h = 0 := by unfold killE; rw [hi]

end
end Go.Proofs.Ytfbcdblgfhekpaa

/- The reference's zoo: Put, Drop. (printed by mk_z4.py) -/
namespace Go.Proofs.Ytfbcdblgfhekpaa
open Go Go.RowKit
variable {{vB : Value}}

attribute [local go_sem] AllFrom.cons_eq AllFrom.nil_eq putF_nil putF_cons wantedL_none wantedL_some OpGoalT OpGoalV OpGoalQ YieldsR preF_nil preF_cons

theorem modL_len {L : List Rw} {i : Nat} {x' : Rw} : (L.set i x').length = L.length := List.length_set
theorem rw_kinds (x : Rw) (K : Int) : setL (rwC x) 2 [.int .i64 K] = rwC (x.1, (K, x.2.2)) := by
  obtain ⟨⟨s, g⟩, K', a0, a1, a2, a3, a4, a5, a6, a7⟩ := x
  rfl
theorem set_twice {L : List Rw} {i : Nat} (x y : Rw) : (L.set i x).set i y = L.set i y := List.set_set ..
theorem rw_kind0 (x : Rw) : (rwC x)[2]? = some (.int .i64 x.2.1) := by
  obtain ⟨⟨s, g⟩, K', a0, a1, a2, a3, a4, a5, a6, a7⟩ := x
  rfl
theorem pwK_le (j : Nat) (hj : j < 8) : pw j ≤ 128 ∧ 0 ≤ pw j := by
  have : ∀ j : Fin 8, pw j.val ≤ 128 ∧ 0 ≤ pw j.val := by decide
  exact this ⟨j, hj⟩
theorem wrapM (z : Int) (h1 : -1000000 ≤ z) (h2 : z ≤ 1000000) : IntKind.i64.wrap z = z := by
  by_cases h : 0 ≤ z
  · exact wrapSmall z h h2
  · have e : z % 2 ^ 64 = z + 2 ^ 64 := by
      rw [← Int.add_emod_right]
      exact Int.emod_eq_of_lt (by omega) (by omega)
    simp only [IntKind.wrap, IntKind.bits, IntKind.signed, e, Bool.true_and, decide_eq_true_eq]
    split <;> omega
theorem powK_any (j : Nat) (hj : j < 8) (w : World) : Calls Try.prog 54 #[.int .i64 (j : Int)] w fun e w' => e = .returned (.int .i64 (pw j)) ∧ w = w' := by
  exact power_any j (by omega) w

section
variable {w : World} {q : Nat} {sl : Sl} {L : List Rw} {F : List Nat}
theorem putE_some {h : Hd} {i : Nat} {k n : Int} (hi : idxL L h = some i) : putE L h k n = if putBad k n then 1 else 0 := by unfold putE; rw [hi]
theorem putE_none {h : Hd} {k n : Int} (hi : idxL L h = none) : putE L h k n = 7 := by unfold putE; rw [hi]
theorem putW_some {h : Hd} {i : Nat} {k n : Int} (hi : idxL L h = some i) : putW L h k n = if putBad k n then L else L.modify i (fun x => putR x k.toNat n) := by unfold putW; rw [hi]
theorem putW_none {h : Hd} {k n : Int} (hi : idxL L h = none) : putW L h k n = L := by unfold putW; rw [hi]
theorem dropE_some {h : Hd} {i : Nat} {k : Int} (hi : idxL L h = some i) (hl : i < L.length) : dropE L h k = if k < 0 ∨ 7 < k then 1 else if hasK L[i].2.1 k.toNat = true then 0 else 5 := by unfold dropE; rw [hi]; simp only; rw [List.getD_eq_getElem?_getD, List.getElem?_eq_getElem hl]; rfl
theorem dropE_none {h : Hd} {k : Int} (hi : idxL L h = none) : dropE L h k = 7 := by unfold dropE; rw [hi]
theorem dropL_some {h : Hd} {i : Nat} {k : Int} (hi : idxL L h = some i) : dropL L h k = if dropE L h k = 0 then L.modify i (fun x => dropR x k.toNat) else L := by unfold dropL; rw [hi]
theorem dropL_none {h : Hd} {k : Int} (hi : idxL L h = none) : dropL L h k = L := by unfold dropL; rw [hi]
theorem putR_has {x : Rw} {j : Nat} {n : Int} (h : hasK x.2.1 j = true) : putR x j n = rwSet x j n := by
  unfold putR putK; rw [if_pos h]
  obtain ⟨⟨s, g⟩, K', a0, a1, a2, a3, a4, a5, a6, a7⟩ := x
  rfl
theorem putR_not {x : Rw} {j : Nat} {n : Int} (h : hasK x.2.1 j = false) : putR x j n = rwSet (x.1, (x.2.1 + pw j, x.2.2)) j n := by
  unfold putR putK; rw [if_neg (by rw [h]; simp)]
  obtain ⟨⟨s, g⟩, K', a0, a1, a2, a3, a4, a5, a6, a7⟩ := x
  rfl
theorem dropR_eq {x : Rw} {j : Nat} : dropR x j = rwSet (x.1, (x.2.1 - pw j, x.2.2)) j 0 := by
  unfold dropR
  obtain ⟨⟨s, g⟩, K', a0, a1, a2, a3, a4, a5, a6, a7⟩ := x
  rfl

end
end Go.Proofs.Ytfbcdblgfhekpaa

/- The reference's zoo: Spawn. (printed by mk_z5.py) -/
namespace Go.Proofs.Ytfbcdblgfhekpaa
open Go Go.RowKit
variable {vB : Value}

attribute [local go_sem] AllFrom.cons_eq AllFrom.nil_eq putF_nil putF_cons wantedL_none wantedL_some OpGoalT OpGoalV OpGoalQ OpGoalK YieldsR preF_nil preF_cons

theorem insR_split {L : List Rw} {x : Rw} {k : Nat} (hk : k ≤ L.length) (h1 : ∀ j (h : j < L.length), j < k → L[j].1.1 < x.1.1) (h2 : ∀ h : k < L.length, ¬ L[k].1.1 < x.1.1) : insR L x = L.take k ++ x :: L.drop k := by
  have e1 : L.takeWhile (fun y => decide (y.1.1 < x.1.1)) = L.take k := by
    conv => lhs; rw [← List.take_append_drop k L]
    rw [List.takeWhile_append_of_pos]
    · cases hd : L.drop k with
      | nil => simp
      | cons y l =>
        have hkl : k < L.length := by
          rcases Nat.lt_or_ge k L.length with h | h
          · exact h
          · rw [List.drop_eq_nil_of_le h] at hd; cases hd
        rw [List.drop_eq_getElem_cons hkl] at hd
        simp only [List.cons.injEq] at hd
        rw [List.takeWhile_cons_of_neg (by rw [← hd.1]; simpa using h2 hkl)]; simp
    · intro y hy
      obtain ⟨j, hj, e⟩ := List.mem_iff_getElem.1 hy
      rw [List.length_take] at hj
      rw [List.getElem_take] at e
      rw [← e]; simpa using h1 j (by omega) (by omega)
  have e2 : L.dropWhile (fun y => decide (y.1.1 < x.1.1)) = L.drop k := by
    have h3 := List.takeWhile_append_dropWhile (p := fun y : Rw => decide (y.1.1 < x.1.1)) (l := L)
    rw [e1] at h3
    exact List.append_cancel_left (h3.trans (List.take_append_drop k L).symm)
  unfold insR
  rw [e1, e2]

/-! Pieces of a list of rows, and append of one. -/
theorem yr_val {P : Program} {o : Oper} {ρ : Operand → Value} {w : World} {J : Value → World → Prop} (T : TypeId) (x : Operand) (lo hi : Option Operand) (ho : o.op = .slice T x lo hi none) {v : Value} (hr : (Instr.sliceAt T (ρ x) (lo.map ρ) (hi.map ρ) none).run P w = .ok v w) (h : J v w) : YieldsR P o ρ w J := by
  unfold YieldsR execOp
  simp only [ho, resolve, Sem.run_bind, Sem.run_pure, Result.andThen_ok, Option.map_none, hr]
  exact h
theorem yr_appV {P : Program} {o : Oper} {ρ : Operand → Value} {w w' : World} {J : Value → World → Prop} (s x : Operand) (T : TypeId)
    (ho : o.op = .call { callee := .builtin .append, args := #[s, x], argTypes := #[T, T] }) {v' v1 v2 : Value} (h1 : ρ s = v1) (h2 : ρ x = v2) (hr : (Builtin.append_ #[T, T] o.type #[v1, v2]).run P w = .ok v' w') (h : J v' w') : YieldsR P o ρ w J := by
  subst h1 h2
  unfold YieldsR execOp
  simp only [ho, resolve, invoke, builtin, Sem.run_bind, Sem.run_pure, Result.andThen_ok, List.map_toArray, List.map_cons, List.map_nil, hr]
  exact h
theorem slice_split {w : World} {A : Option Addr} {cap k : Nat} {L : List Rw} (hrow : w.ownsRow 0 33 11 (.slice A L.length cap) L.length (L.flatMap rwC)) (hk : k ≤ L.length) (hl : L.length ≤ 60) :
    ∃ v6 v18, (∀ W, (Instr.sliceAt 22 (.slice A L.length cap) none (some (.int .i64 (k : Int))) none).run Try.prog W = .ok v6 W) ∧ (∀ W, (Instr.sliceAt 22 (.slice A L.length cap) (some (.int .i64 (k : Int))) none none).run Try.prog W = .ok v18 W) ∧
      (∀ V, Mod [] w V → Calls Try.prog 26 #[v6] V (MadeR 33 11 rwC (L.take k) V)) ∧
      ∀ V, Mod [] w V → ∀ ty base v (l : List Rw), V.ownsRow base 33 11 v l.length (l.flatMap rwC) → l.length ≤ 61 → base ≤ V.heap.size →
        ∃ v' V', (Builtin.append_ #[22, 22] ty #[v, v18]).run Try.prog V = .ok v' V' ∧ V'.ownsRow base 33 11 v' (l ++ L.drop k).length ((l ++ L.drop k).flatMap rwC) ∧ V.grownBy V' v.ownBlock := by
  obtain ⟨i0, hi, hz0, hz1, hz2⟩ := info_parts inf_Row
  have hel : Try.prog.elem 22 = 33 := by kernel_rfl
  have hsz : (sizeOf (Try.prog.elem 22)).run Try.prog = fun W => .ok 11 W := by
    funext W
    rw [hel]
    simp [sizeOf, typeInfo, hi, hz1]
  have hund : Try.prog.underlying 22 = some (.slice (Try.prog.elem 22)) := by rw [hel]; exact Try.underlying22
  obtain ⟨A', c', e, hcl, hlies⟩ := own_lies hrow
  cases e
  have hm6 : ∀ W, (Instr.sliceAt 22 (.slice A L.length cap) none (some (.int .i64 (k : Int))) none).run Try.prog W = .ok (.slice (if cap = 0 then A else A.map (·.add (0 * 11))) (k - 0) (cap - 0)) W := by
    intro W
    rw [run_sliceAt_slice _ _ _ _ _ _ hund, run_slice_h W _ A L.length cap hund .i64 k (by omega) (by omega), hsz]
    simp only [Result.andThen, sliced, Int.toNat_natCast]
  have hm18 : ∀ W, (Instr.sliceAt 22 (.slice A L.length cap) (some (.int .i64 (k : Int))) none none).run Try.prog W = .ok (.slice (if cap = k then A else A.map (·.add (k * 11))) (L.length - k) (cap - k)) W := by
    intro W
    rw [run_sliceAt_slice _ _ _ _ _ _ hund, run_slice_l W _ A L.length cap hund .i64 k (by omega) (by omega), hsz]
    simp only [Result.andThen, sliced, Int.toNat_natCast]
  have htl : (L.take k).length = k := by rw [List.length_take]; omega
  have hdl : (L.drop k).length = L.length - k := List.length_drop
  refine ⟨_, _, hm6, hm18, fun V hV => ?_, fun V hV ty base v l hown hl61 hbase => ?_⟩
  · have hrow2 := row_mod hrow hV (by simp)
    have hA : (if cap = 0 then A else A.map (·.add (0 * 11))) = A := by
      split
      · rfl
      · rcases hrow with ⟨-, ⟨h1, -⟩ | ⟨g, cap2, cur, h1, -⟩⟩
        · simp only [Value.slice.injEq] at h1; rw [h1.1]; rfl
        · simp only [Value.slice.injEq] at h1; rw [h1.1]; rfl
    rw [hA]
    have hh := copyR_any A (cap - 0) (L.take k) V (by rw [htl]; omega) (fun j u hu => by
      obtain ⟨A2, c2, e, -, hl2⟩ := own_lies hrow2
      cases e
      refine hl2 j u ?_
      have hj := (List.getElem?_eq_some_iff.1 hu).1
      conv => lhs; rw [← List.take_append_drop k L]
      rw [List.flatMap_append, List.getElem?_append_left hj]
      exact hu) (fun e => ?_) (fun e => ?_)
    · rw [htl] at hh; exact hh
    · subst e
      rcases hrow with ⟨-, ⟨h1, h2⟩ | ⟨g, cap2, cur, h1, -⟩⟩
      · simp only [Value.slice.injEq, true_and] at h1
        rw [List.eq_nil_of_length_eq_zero h1.1]; simp
      · cases h1
    · subst e
      rcases hrow with ⟨-, ⟨h1, h2⟩ | ⟨g, cap2, cur, h1, -⟩⟩
      · simp only [Value.slice.injEq, true_and] at h1
        omega
      · cases h1
  · have hrow2 := row_mod hrow hV (by simp)
    rcases hrow2 with ⟨hx, ⟨h1, h2⟩ | ⟨g, cap2, cur, h1, -⟩⟩
    · simp only [Value.slice.injEq] at h1
      obtain ⟨rfl, h3, h4⟩ := h1
      have hL : L = [] := List.eq_nil_of_length_eq_zero h3
      subst hL
      obtain rfl : k = 0 := by simpa using hk
      refine ⟨v, V, ?_, by simpa using hown, ⟨rfl, rfl, rfl, Nat.le_refl _, fun _ _ _ => rfl⟩⟩
      have := run_append_owned_none (P := Try.prog) V base 22 ty 33 i0 11 Try.underlying22 hi v l.length _ hown
      subst h4
      exact this
    · simp only [Value.slice.injEq] at h1
      obtain ⟨rfl, -, rfl⟩ := h1
      have hrow2 := row_mod hrow hV (by simp)
      obtain ⟨ad, had, hc⟩ : ∃ ad, (if cap = k then some (⟨g, 0, none⟩ : Addr) else (some (⟨g, 0, none⟩ : Addr)).map (·.add (k * 11))) = some ad ∧ ∀ j u, ((L.drop k).flatMap rwC)[j]? = some u → V.cell? (ad.add j) = some u := by
        by_cases e : cap = k
        · refine ⟨⟨g, 0, none⟩, by rw [if_pos e], fun j u hu => ?_⟩
          rw [List.drop_eq_nil_of_le (by omega)] at hu
          simp at hu
        · refine ⟨(⟨g, 0, none⟩ : Addr).add (k * 11), by rw [if_neg e]; rfl, fun j u hu => ?_⟩
          have h5 := row_cell hrow2 (i := k * 11 + j) (u := u) (by
            conv => lhs; rw [← List.take_append_drop k L]
            rw [List.flatMap_append, List.getElem?_append_right (by rw [flatV_length rwC_len, htl]; omega), flatV_length rwC_len, htl, show k * 11 + j - k * 11 = j by omega]
            exact hu)
          rw [show ((⟨g, 0, none⟩ : Addr).add (k * 11)).add j = ⟨g, k * 11 + j, none⟩ by rw [Addr.add_mid, Addr.add_mid, Nat.zero_add]]
          exact h5
      rw [had]
      obtain ⟨v', V', hr, h2, h3, -, -⟩ := run_append_own_at (P := Try.prog) V base 22 ty 33 i0 _ 11 88 Try.underlying22 hi hz0 hz1 hz2 rfl (by omega) v l.length _ hown ad (L.length - k) (cap - k) ((L.drop k).flatMap rwC) (by rw [flatV_length rwC_len, hdl]) hc (flat_one rwC_one _) (by unfold maxLen; omega) (by omega) hbase
      refine ⟨v', V', hr, ?_, h3⟩
      rw [List.length_append, List.flatMap_append, hdl]
      exact h2

/-- What the region that lays the new rows keeps. -/
structure ISp (w5 : World) (l1 l2 : List Rw) (x : Rw) (L : Nat → Bool) (σ : Nat → Value) (V : World) : Prop where
  b : Below w5.heap.size w5 V
  c : L 7 = true → L 12 = false → V.ownsRow w5.heap.size 33 11 (σ 7) l1.length (l1.flatMap rwC)
  o : L 11 = true → L 12 = false → oneR w5.heap.size (rwC x).toArray 33 (σ 11) V
  a : L 12 = true → L 19 = false → V.ownsRow w5.heap.size 33 11 (σ 12) (l1 ++ [x]).length ((l1 ++ [x]).flatMap rwC)
  e : L 19 = true → V.ownsRow w5.heap.size 33 11 (σ 19) (l1 ++ [x] ++ l2).length ((l1 ++ [x] ++ l2).flatMap rwC)
section
variable {w5 V V' : World} {l1 l2 : List Rw} {x : Rw} {L : Nat → Bool} {σ : Nat → Value}
theorem ISp.start (h : Below w5.heap.size w5 V) : ISp w5 l1 l2 x (fun _ => false) σ V := ⟨h, fun e => (by cases e), fun e => (by cases e), fun e => (by cases e), fun e => (by cases e)⟩
theorem ISp.read (h : ISp w5 l1 l2 x L σ V) {i : Nat} (h1 : 7 ≠ i ∧ 11 ≠ i ∧ 12 ≠ i ∧ 19 ≠ i) (v : Value) : ISp w5 l1 l2 x (upd L i) (updv σ i v) V := by
  obtain ⟨n1, n2, n3, n4⟩ := h1
  have eL : ∀ j, j ≠ i → upd L i j = L j := fun j hj => by unfold upd; simp [hj]
  have es : ∀ j, j ≠ i → updv σ i v j = σ j := fun j hj => by unfold updv; rw [if_neg hj]
  refine ⟨h.b, ?_, ?_, ?_, ?_⟩
  · rw [eL 7 n1, eL 12 n3, es 7 n1]; exact h.c
  · rw [eL 11 n2, eL 12 n3, es 11 n2]; exact h.o
  · rw [eL 12 n3, eL 19 n4, es 12 n3]; exact h.a
  · rw [eL 19 n4, es 19 n4]; exact h.e
theorem ISp.copied (h : ISp w5 l1 l2 x L σ V) (h19 : L 19 = false) (hb : Below V.heap.size V V') {v : Value} (hv : V'.ownsRow V.heap.size 33 11 v l1.length (l1.flatMap rwC)) (h12 : L 12 = false) : ISp w5 l1 l2 x (upd L 7) (updv σ 7 v) V' := by
  have eL : ∀ j, j ≠ 7 → upd L 7 j = L j := fun j hj => by unfold upd; simp [hj]
  have es : ∀ j, j ≠ 7 → updv σ 7 v j = σ j := fun j hj => by unfold updv; rw [if_neg hj]
  have hs := h.b.size
  refine ⟨h.b.trans (hb.mono hs), fun _ _ => ?_, ?_, ?_, ?_⟩
  · show V'.ownsRow _ _ _ (updv σ 7 v 7) _ _
    rw [show updv σ 7 v 7 = v from rfl]
    exact row_base hv (fun k hk => by have := (hv.lt k hk).1; omega)
  · rw [eL 11 (by decide), eL 12 (by decide), es 11 (by decide)]; exact fun h1 h2 => oneR_mod (h.o h1 h2) (Mod.ofBelow hb) (by simp)
  · rw [eL 12 (by decide), h12]; intro e; cases e
  · rw [eL 19 (by decide), h19]; intro e; cases e
theorem ISp.oned (h : ISp w5 l1 l2 x L σ V) (h19 : L 19 = false) (h12 : L 12 = false) : ISp w5 l1 l2 x (upd L 11) (updv σ 11 (.slice (some ⟨V.heap.size, 0, none⟩) 1 1)) (V.alloc (.cells (rwC x).toArray 33)) := by
  have eL : ∀ j, j ≠ 11 → upd L 11 j = L j := fun j hj => by unfold upd; simp [hj]
  have es : ∀ v j, j ≠ 11 → updv σ 11 v j = σ j := fun v j hj => by unfold updv; rw [if_neg hj]
  have hs := h.b.size
  refine ⟨h.b.alloc hs _, ?_, fun _ _ => ?_, ?_, ?_⟩
  · rw [eL 7 (by decide), eL 12 (by decide), es _ 7 (by decide)]; exact fun h1 h2 => row_mod (h.c h1 h2) ((Mod.refl [] V).alloc _) (by simp)
  · exact oneR_new hs
  · rw [eL 12 (by decide), h12]; intro e; cases e
  · rw [eL 19 (by decide), h19]; intro e; cases e
theorem ISp.apped (h : ISp w5 l1 l2 x L σ V) (h19 : L 19 = false) (h7 : L 7 = true) (h12 : L 12 = false) {v : Value} (hg : V.grownBy V' (σ 7).ownBlock) (hv : V'.ownsRow w5.heap.size 33 11 v (l1 ++ [x]).length ((l1 ++ [x]).flatMap rwC)) : ISp w5 l1 l2 x (upd L 12) (updv σ 12 v) V' := by
  have eL : ∀ j, j ≠ 12 → upd L 12 j = L j := fun j hj => by unfold upd; simp [hj]
  refine ⟨h.b.trans ((Below.refl w5.heap.size V).grown hg h.b.size (own_ge (h.c h7 h12))), ?_, ?_, fun _ _ => hv, ?_⟩
  · intro _ e; simp [upd] at e
  · intro _ e; simp [upd] at e
  · rw [eL 19 (by decide), h19]; intro e; cases e
theorem ISp.apped2 (h : ISp w5 l1 l2 x L σ V) (h19 : L 19 = false) (h12 : L 12 = true) {v : Value} (hg : V.grownBy V' (σ 12).ownBlock) (hv : V'.ownsRow w5.heap.size 33 11 v (l1 ++ [x] ++ l2).length ((l1 ++ [x] ++ l2).flatMap rwC)) : ISp w5 l1 l2 x (upd L 19) (updv σ 19 v) V' := by
  have eL : ∀ j, j ≠ 19 → upd L 19 j = L j := fun j hj => by unfold upd; simp [hj]
  refine ⟨h.b.trans ((Below.refl w5.heap.size V).grown hg h.b.size (own_ge (h.a h12 h19))), ?_, ?_, ?_, fun _ => hv⟩
  · rw [eL 12 (by decide), h12]; intro _ e; cases e
  · rw [eL 12 (by decide), h12]; intro _ e; cases e
  · intro _ e; simp [upd] at e
end

section
variable {w : World} {q : Nat} {sl : Sl} {L : List Rw} {F : List Nat}

end
end Go.Proofs.Ytfbcdblgfhekpaa

/- l[1:] of a row of rows; R.None. -/
namespace Go.Proofs.Ytfbcdblgfhekpaa
open Go Go.RowKit Go.Maps
attribute [local go_sem] AllFrom.cons_eq AllFrom.nil_eq putF_nil putF_cons wantedL_none wantedL_some OpGoalT OpGoalV OpGoalQ OpGoalA OpGoalK YieldsR preF_nil preF_cons

theorem rows_tail {w : World} {B : Nat} {A : Option Addr} {c : Nat} {x : Rw} {l : List Rw} (hA : Lies w B A ((x :: l).flatMap rwC)) (hc : l.length + 1 ≤ c) :
    ∃ A', (∀ W, (Instr.sliceAt 22 (.slice A (l.length + 1) c) (some (.int .i64 1)) none none).run Try.prog W = .ok (.slice A' l.length (c - 1)) W) ∧ Lies w B A' (l.flatMap rwC) := by
  obtain ⟨i0, hi, hz0, hz1, hz2⟩ := info_parts inf_Row
  have hel : Try.prog.elem 22 = 33 := by kernel_rfl
  have hsz : (sizeOf (Try.prog.elem 22)).run Try.prog = fun W => .ok 11 W := by
    funext W
    rw [hel]
    simp [sizeOf, typeInfo, hi, hz1]
  have hund : Try.prog.underlying 22 = some (.slice (Try.prog.elem 22)) := by rw [hel]; exact Try.underlying22
  have hm : ∀ W, (Instr.sliceAt 22 (.slice A (l.length + 1) c) (some (.int .i64 1)) none none).run Try.prog W = .ok (.slice (if c = 1 then A else A.map (·.add (1 * 11))) (l.length + 1 - 1) (c - 1)) W := by
    intro W
    rw [run_sliceAt_slice _ _ _ _ _ _ hund, run_slice_l W _ A (l.length + 1) c hund .i64 1 (by omega) (by omega), hsz]
    simp only [Result.andThen, sliced]
    rfl
  refine ⟨_, hm, ?_⟩
  by_cases e : c = 1
  · have : l = [] := by cases l with
      | nil => rfl
      | cons y t => simp at hc; omega
    subst this
    exact Lies.nil _ _ _
  · rw [if_neg e]
    intro k u hu
    have h11 : (rwC x).length = 11 := rwC_len x
    obtain ⟨a, rfl, hb, hcell⟩ := hA (11 + k) u (by rw [List.flatMap_cons, List.getElem?_append_right (by omega), h11, Nat.add_sub_cancel_left]; exact hu)
    refine ⟨_, rfl, ?_, ?_⟩
    · rw [add_block]; exact hb
    · rw [Addr.add_add]; exact hcell

theorem rNone_any (w : World) : Calls Try.prog 20 #[] w fun e w' => e = .returned (beV noneB) ∧ Below w.heap.size w w' := by
  have HB := Lib.hid (show Below w.heap.size w (w.alloc (.cells #[.int .i64 (-1), .int .i64 0, .int .i64 0, .int .i64 0, .int .i64 0, .int .i64 0, .int .i64 0, .int .i64 0, .int .i64 0] 31)) from (Below.refl _ _).alloc (Nat.le_refl _) _)
  go_enter Try.func20, Try.ntmps20
  go_wp2
  refine bodyPost_ret (v := .agg #[.int .i64 (-1), .int .i64 0, .int .i64 0, .int .i64 0, .int .i64 0, .int .i64 0, .int .i64 0, .int .i64 0, .int .i64 0]) (by unfold results; try go_simp) rfl ?_
  exact ⟨rfl, HB.out⟩
end Go.Proofs.Ytfbcdblgfhekpaa

/- A region that stores two pieces (operations m1, m2) into one block cb that was there ahead of it. -/
namespace Go.Proofs.Ytfbcdblgfhekpaa
open Go Go.RowKit

/-- f: the block's cells, by which of the two stores has run. -/
structure ISt (m1 m2 : Nat) (w : World) (cb : Nat) (T : TypeId) (f : Bool → Bool → List Value) (L : Nat → Bool) (V : World) : Prop where
  b : Below w.heap.size w V
  ge : w.heap.size ≤ cb
  blk : V.heap[cb]? = some (.cells (f (L m1) (L m2)).toArray T (0, 0))
section
variable {m1 m2 : Nat} {w V V' : World} {cb : Nat} {T : TypeId} {f : Bool → Bool → List Value} {L : Nat → Bool}
theorem ISt.read (h : ISt m1 m2 w cb T f L V) {i : Nat} (h1 : m1 ≠ i) (h2 : m2 ≠ i) : ISt m1 m2 w cb T f (upd L i) V := by
  have e1 : upd L i m1 = L m1 := by unfold upd; simp [h1]
  have e2 : upd L i m2 = L m2 := by unfold upd; simp [h2]
  exact ⟨h.b, h.ge, by rw [e1, e2]; exact h.blk⟩
theorem ISt.step (h : ISt m1 m2 w cb T f L V) (hb : Below V.heap.size V V') : ISt m1 m2 w cb T f L V' :=
  ⟨h.b.trans (hb.mono h.b.size), h.ge, (hb.block _ (blk_lt h.blk)).trans h.blk⟩
theorem there_at {b : Nat} {xs : List Value} {t : TypeId} (h : V.heap[b]? = some (.cells xs.toArray t (0, 0))) {o n : Nat} (hn : o + n ≤ xs.length) : V.there b o n := fun j hj => by
  refine ⟨?_, blk_free h _⟩
  rw [blk_cell h]
  have : o + j < xs.length := by omega
  simp [this]
theorem ISt.yr1 {P : Program} {o : Oper} {ρ : Operand → Value} {J : Value → World → Prop} (h : ISt m1 m2 w cb T f L V) (hm : L m1 = false) (h12 : m1 ≠ m2) (off : Nat) (rl : List Value) (ty : TypeId) (x y : Operand) (ho : o.op = .store ty x y)
    (hx : ρ x = .pointer (some ⟨cb, off, none⟩)) (hy : ρ y = .agg rl.toArray) (hn : ∀ b, off + rl.length ≤ (f false b).length) (hi : (P.info? ty).map (·.size) = some rl.length) (h1 : ∀ u ∈ rl, u.oneCell' = true)
    (hf : ∀ b, setL (f false b) off rl = f true b) (hJ : ∀ V', ISt m1 m2 w cb T f (upd L m1) V' → J undef V') : YieldsR P o ρ V J := by
  have q3 := h.blk
  rw [hm] at q3
  have hst := setCells_block (w := V) rl off V _ q3
  rw [hf] at hst
  have hmod := mod_setCells (F := [cb]) (g := cb) (.inl (by simp)) rl off V (Mod.refl _ V)
  refine yr_store ty x y ho cb off rl hx hy (there_at q3 (hn _)) hi h1 (hJ _ ⟨h.b.trans (hmod.toBelow (by simpa using h.ge) h.b.size), h.ge, ?_⟩)
  have e1 : upd L m1 m1 = true := by simp [upd]
  have e2 : upd L m1 m2 = L m2 := by unfold upd; simp [Ne.symm h12]
  rw [e1, e2]; exact hst
theorem ISt.yr2 {P : Program} {o : Oper} {ρ : Operand → Value} {J : Value → World → Prop} (h : ISt m1 m2 w cb T f L V) (hm : L m2 = false) (h12 : m1 ≠ m2) (off : Nat) (rl : List Value) (ty : TypeId) (x y : Operand) (ho : o.op = .store ty x y)
    (hx : ρ x = .pointer (some ⟨cb, off, none⟩)) (hy : ρ y = .agg rl.toArray) (hn : ∀ b, off + rl.length ≤ (f b false).length) (hi : (P.info? ty).map (·.size) = some rl.length) (h1 : ∀ u ∈ rl, u.oneCell' = true)
    (hf : ∀ b, setL (f b false) off rl = f b true) (hJ : ∀ V', ISt m1 m2 w cb T f (upd L m2) V' → J undef V') : YieldsR P o ρ V J := by
  have q3 := h.blk
  rw [hm] at q3
  have hst := setCells_block (w := V) rl off V _ q3
  rw [hf] at hst
  have hmod := mod_setCells (F := [cb]) (g := cb) (.inl (by simp)) rl off V (Mod.refl _ V)
  refine yr_store ty x y ho cb off rl hx hy (there_at q3 (hn _)) hi h1 (hJ _ ⟨h.b.trans (hmod.toBelow (by simpa using h.ge) h.b.size), h.ge, ?_⟩)
  have e1 : upd L m2 m2 = true := by simp [upd]
  have e2 : upd L m2 m1 = L m1 := by unfold upd; simp [h12]
  rw [e1, e2]; exact hst
end
theorem setL_at (c : Cg) (h : Hd) : setL (cgC c) 0 (handleC h) = cgC (h, c.2.1, c.2.2) := by
  obtain ⟨⟨a, b⟩, o, n⟩ := c
  obtain ⟨s, g⟩ := h
  rfl
end Go.Proofs.Ytfbcdblgfhekpaa

/- Families: Adopt. (printed by mk_fam5.py) -/
namespace Go.Proofs.Ytfbcdblgfhekpaa
open Go Go.RowKit Go.Maps Go.Shelf
attribute [local go_sem] AllFrom.cons_eq AllFrom.nil_eq putF_nil putF_cons wantedL_none wantedL_some OpGoalT OpGoalV OpGoalQ OpGoalA OpGoalK YieldsR preF_nil preF_cons
attribute [local go_sem] Oper.semAt_some

theorem Mod.thenBelow {F : List Nat} {a b c : World} (h : Mod F a b) (k : Below a.heap.size b c) : Mod F a c :=
  ⟨k.os.trans h.os, k.tape.trans h.tape, k.output.trans h.output, Nat.le_trans h.size k.size, fun i hi hF => (k.block i hi).trans (h.block i hi hF)⟩
open Classical in
noncomputable def adoE (B : List Bd) (c p : Hd) : Int := if Up B p c then 8 else 0
open Classical in
noncomputable def adoB (B : List Bd) (c p : Hd) : List Bd := if Up B p c then B else insB B (c, p)
section
variable {w : World} {f : Nat} {B : List Bd} {F : List Nat}
end
end Go.Proofs.Ytfbcdblgfhekpaa

/- The reference's bonds: Parent, Children, without, Gone, Loosen. (printed by mk_rf1.py) -/
namespace Go.Proofs.Ytfbcdblgfhekpaa
open Go Go.RowKit
attribute [local go_sem] AllFrom.cons_eq AllFrom.nil_eq putF_nil putF_cons wantedL_none wantedL_some OpGoalT OpGoalV OpGoalQ OpGoalA OpGoalK YieldsR preF_nil preF_cons

section
variable {vg vl vr : Value}
theorem parB_succ {B : List Bd} {h : Hd} {n : Nat} (hn : n < B.length) (hno : parB (B.take n) h = none) : parB (B.take (n + 1)) h = if B[n].1 = h then some B[n].2 else none := by
  unfold parB at *
  rw [Option.map_eq_none_iff] at hno
  rw [take_succ_get B n hn, List.find?_append, hno]
  by_cases e : B[n].1 = h <;> simp [e]
theorem parB_take {B : List Bd} {h p : Hd} {n : Nat} (e : parB (B.take n) h = some p) : parB B h = some p := by
  unfold parB at *
  conv => lhs; rw [← List.take_append_drop n B]
  rw [List.find?_append]
  cases hf : (B.take n).find? (fun b => decide (b.1 = h)) with
  | none => rw [hf] at e; cases e
  | some b => rw [hf] at e; simpa using e
theorem kids_succ (B : List Bd) (h : Hd) (n : Nat) (hn : n < B.length) : kidsB (B.take (n + 1)) h = kidsB (B.take n) h ++ (if eqB B[n].2 h = true then [B[n].1] else []) := by
  unfold kidsB eqB
  rw [take_succ_get B n hn, List.filter_append, List.map_append, List.filter_cons]
  by_cases e : B[n].2 = h <;> simp [e]
theorem outB_succ (B : List Bd) (h : Hd) (n : Nat) (hn : n < B.length) : outB (B.take (n + 1)) h = outB (B.take n) h ++ (if eqB B[n].1 h = true then [] else [B[n]]) := by
  unfold outB eqB
  rw [take_succ_get B n hn, List.filter_append, List.filter_cons]
  by_cases e : B[n].1 = h <;> simp [e]
theorem goneB_succ (B : List Bd) (h : Hd) (n : Nat) (hn : n < B.length) : goneB (B.take (n + 1)) h = goneB (B.take n) h ++ (if ofH h B[n] = true then [] else [B[n]]) := by
  unfold goneB ofH eqB
  rw [take_succ_get B n hn, List.filter_append, List.filter_cons]
  by_cases e1 : B[n].1 = h <;> by_cases e2 : B[n].2 = h <;> simp [e1, e2]

end
end Go.Proofs.Ytfbcdblgfhekpaa

/- The reference's bonds: Parent, Children, Gone, Loosen. (printed by mk_rf2.py) -/
namespace Go.Proofs.Ytfbcdblgfhekpaa
open Go Go.RowKit
attribute [local go_sem] AllFrom.cons_eq AllFrom.nil_eq putF_nil putF_cons wantedL_none wantedL_some OpGoalT OpGoalV OpGoalQ OpGoalA OpGoalK YieldsR preF_nil preF_cons
section
variable {vg vl vr : Value} {w : World} {q : Nat} {B : List Bd} {F : List Nat}
end
end Go.Proofs.Ytfbcdblgfhekpaa

/- The reference's bonds: Loosen, less, Under. (printed by mk_rf3.py) -/
namespace Go.Proofs.Ytfbcdblgfhekpaa
open Go Go.RowKit
attribute [local go_sem] AllFrom.cons_eq AllFrom.nil_eq putF_nil putF_cons wantedL_none wantedL_some OpGoalT OpGoalV OpGoalQ OpGoalA OpGoalK YieldsR preF_nil preF_cons

theorem Turns.same {w w' : World} {F : List Nat} (hb : Below w.heap.size w w') : Turns w F F w' := ⟨(Mod.ofBelow hb).mono (by simp), fun _ h => .inl h⟩
/-- append of one handle; what else lay stays. -/
theorem app_handleG {w : World} {ops : Array Oper} {rest : List Oper} {o : Oper} {a : Act} {Q : Exit → Act → World → Prop} (hgd : o.guard = none) (s x : Operand)
    (ho : o.op = .call { callee := .builtin .append, args := #[s, x], argTypes := #[47, 47] }) (base : Nat) (v : Value) (l : List Hd) (y : Hd) (ad : Addr) (c : Nat)
    (hs : a.eval s = v) (hown : w.ownsRow base 28 2 v l.length (l.flatMap handleC)) (hx : a.eval x = .slice (some ad) 1 c) (hc : ∀ j u, (handleC y)[j]? = some u → w.cell? (ad.add j) = some u)
    (hlen : l.length < 8796093022207) (hbase : base ≤ w.heap.size)
    (h : ∀ v' w', w'.ownsRow base 28 2 v' (l ++ [y]).length ((l ++ [y]).flatMap handleC) → w.grownBy w' v.ownBlock → wpList Try.prog ops Q rest (a.put o.dst v') w') : wpList Try.prog ops Q (o :: rest) a w := by
  refine app_rec (enc := handleC) (n := 2) (z := .agg #[.int .i64 0, .int .i64 0]) (bytes := 16) hgd s x 47 28 ho Try.underlying47 info_handle rfl (by omega) (by omega) handleC_one handleC_len base v l y ad c hs hown hx hc (by omega) hbase ?_
  intro v' w' h1 h2 _
  exact h v' w' h1 h2
theorem wpList_app {P : Program} {w w' : World} {ops : Array Oper} {rest : List Oper} {o : Oper} {a : Act} {Q : Exit → Act → World → Prop} (hgd : o.guard = none) (s x : Operand) (T : TypeId)
    (ho : o.op = .call { callee := .builtin .append, args := #[s, x], argTypes := #[T, T] }) {v1 v2 v' : Value} (hs : a.eval s = v1) (hx : a.eval x = v2)
    (hr : (Builtin.append_ #[T, T] o.type #[v1, v2]).run P w = .ok v' w') (h : wpList P ops Q rest (a.put o.dst v') w') : wpList P ops Q (o :: rest) a w := by
  refine wpList_plain hgd fun K hK => ?_
  unfold Oper.wp execOp
  simp only [ho, resolve, invoke, builtin, Sem.run_bind, Sem.run_pure, Result.andThen_ok, List.map_toArray, List.map_cons, List.map_nil, hs, hx, hr]
  exact hK _ _ h
/-- append of a list of handles. -/
theorem run_appH {w : World} (base B2 : Nat) (v v2 : Value) (l l2 : List Hd) (ty : TypeId) (hown : w.ownsRow base 28 2 v l.length (l.flatMap handleC)) (hrow : w.ownsRow B2 28 2 v2 l2.length (l2.flatMap handleC))
    (hlen : l.length + l2.length < 8796093022207) (hbase : base ≤ w.heap.size) :
    ∃ v' w', (Builtin.append_ #[47, 47] ty #[v, v2]).run Try.prog w = .ok v' w' ∧ w'.ownsRow base 28 2 v' (l ++ l2).length ((l ++ l2).flatMap handleC) ∧ w.grownBy w' v.ownBlock := by
  obtain ⟨i0, hi, hz0, hz1, hz2⟩ := info_parts info_handle
  rcases hrow with ⟨hx, ⟨rfl, h2⟩ | ⟨g, cap2, cur, rfl, h3⟩⟩
  · have hl2 : l2 = [] := List.eq_nil_of_length_eq_zero h2
    subst hl2
    exact ⟨v, w, run_append_owned_none (P := Try.prog) w base 47 ty 28 i0 2 Try.underlying47 hi v l.length _ hown, by simpa using hown, ⟨rfl, rfl, rfl, Nat.le_refl _, fun _ _ _ => rfl⟩⟩
  · have hrow2 : w.ownsRow B2 28 2 (.slice (some ⟨g, 0, none⟩) l2.length cap2) l2.length (l2.flatMap handleC) := ⟨hx, .inr ⟨g, cap2, cur, rfl, h3⟩⟩
    obtain ⟨v', w', hr, h4, h5, -, -⟩ := run_append_own_at (P := Try.prog) w base 47 ty 28 i0 _ 2 16 Try.underlying47 hi hz0 hz1 hz2 rfl (by omega) v l.length _ hown ⟨g, 0, none⟩ l2.length cap2 (l2.flatMap handleC) (flatV_length handleC_len l2) (fun j u hu => by
      have h5 := row_cell hrow2 hu
      rw [Addr.add_mid, Nat.zero_add]; exact h5) (flat_one handleC_one _) (by unfold maxLen; omega) (by omega) hbase
    refine ⟨v', w', hr, ?_, h5⟩
    rw [List.length_append, List.flatMap_append]
    exact h4
theorem app_list {w : World} {ops : Array Oper} {rest : List Oper} {o : Oper} {a : Act} {Q : Exit → Act → World → Prop} (hgd : o.guard = none) (s x : Operand)
    (ho : o.op = .call { callee := .builtin .append, args := #[s, x], argTypes := #[47, 47] }) (base B2 : Nat) (v v2 : Value) (l l2 : List Hd)
    (hs : a.eval s = v) (hown : w.ownsRow base 28 2 v l.length (l.flatMap handleC)) (hx : a.eval x = v2) (hrow : w.ownsRow B2 28 2 v2 l2.length (l2.flatMap handleC))
    (hlen : l.length + l2.length < 8796093022207) (hbase : base ≤ w.heap.size)
    (h : ∀ v' w', w'.ownsRow base 28 2 v' (l ++ l2).length ((l ++ l2).flatMap handleC) → w.grownBy w' v.ownBlock → wpList Try.prog ops Q rest (a.put o.dst v') w') : wpList Try.prog ops Q (o :: rest) a w := by
  obtain ⟨v', w', hr, h1, h2⟩ := run_appH base B2 v v2 l l2 o.type hown hrow hlen hbase
  exact wpList_app hgd s x _ ho hs hx hr (h v' w' h1 h2)
theorem underN_len {B : List Bd} (h : FamOk B) {n : Nat} {x : Hd} (hl : Low B n x) : (underN B n x).length ≤ B.length := by
  have h1 := nodup_le (under_nodup h hl) (ys := B.map (·.1)) (fun y hy => by
    obtain ⟨p, h1, -⟩ := (mem_under hl).1 hy
    exact List.mem_map.2 ⟨_, h1, rfl⟩)
  rw [List.length_map] at h1
  exact h1
/-- What has come behind k of the children. -/
def undP (B : List Bd) (n : Nat) (ks : List Hd) (k : Nat) : List Hd := (ks.take k).flatMap (fun c => c :: underN B n c)
theorem undP_succ (B : List Bd) (n : Nat) (ks : List Hd) (k : Nat) (hk : k < ks.length) : undP B n ks (k + 1) = (undP B n ks k ++ [ks[k]]) ++ underN B n ks[k] := by
  unfold undP; rw [take_succ_get ks k hk, List.flatMap_append]; simp
theorem undP_all (B : List Bd) (n : Nat) (h : Hd) : undP B n (kidsB B h) (kidsB B h).length = underN B (n + 1) h := by
  unfold undP; rw [List.take_length]; rfl
theorem undP_len (B : List Bd) (n : Nat) (ks : List Hd) (k : Nat) : (undP B n ks k).length ≤ (undP B n ks ks.length).length := by
  unfold undP
  rw [List.take_length]
  conv => rhs; rw [← List.take_append_drop k ks]
  rw [List.flatMap_append, List.length_append]; omega

section
variable {vg vl vr : Value} {w : World} {q : Nat} {B : List Bd} {F : List Nat}
set_option maxRecDepth 20000 in
set_option maxHeartbeats 4000000 in
theorem less_any (s g t u : Int) (w : World) : Calls Try.prog 21 #[.agg #[.int .i64 s, .int .i64 g], .agg #[.int .i64 t, .int .i64 u]] w (BoolPost (ltH (s, g) (t, u)) w) := by
  have hB : Below w.heap.size w ((w.alloc (.cells #[.int .i64 s, .int .i64 g] 28)).alloc (.cells #[.int .i64 t, .int .i64 u] 28)) := ((Below.refl _ _).alloc (Nat.le_refl _) _).alloc (by simp) _
  have HB := Lib.hid hB
  clear hB
  unfold ltH
  simp only
  by_cases h1 : s < t
  · rw [show (decide (s < t) || (decide (s = t) && decide (g < u))) = true by simp [h1]]
    go_enter Try.func21, Try.ntmps21
    go_wp2
    go_ret
    exact ⟨rfl, HB.out⟩
  · by_cases h2 : s = t
    · subst h2
      by_cases h3 : g < u
      · rw [show (decide (s < s) || (decide (s = s) && decide (g < u))) = true by simp [h3]]
        go_enter Try.func21, Try.ntmps21
        go_wp2
        go_ret
        exact ⟨rfl, HB.out⟩
      · rw [show (decide (s < s) || (decide (s = s) && decide (g < u))) = false by simp [h3]]
        go_enter Try.func21, Try.ntmps21
        go_wp2
        go_ret
        exact ⟨rfl, HB.out⟩
    · rw [show (decide (s < t) || (decide (s = t) && decide (g < u))) = false by simp [h1, h2]]
      go_enter Try.func21, Try.ntmps21
      go_wp2
      go_ret
      exact ⟨rfl, HB.out⟩

end
end Go.Proofs.Ytfbcdblgfhekpaa
