import Derived.Test.YtfbcdblgfhekpaaDiffBetweensJ23
import Derived.Test.YtfbcdblgfhekpaaDiffBetweensJ12
import Derived.Test.YtfbcdblgfhekpaaDiffBetweensJ14
import Derived.Test.YtfbcdblgfhekpaaDiffBetweensJ16
/- The plain law of Between: the merge of two sorted lists. -/
namespace Go.Proofs.Ytfbcdblgfhekpaa
open Go

def chg (h : Hd) (o n : Bt) : List Cg := if eqB o n = true then [] else [(h, o, n)]
def SortR (l : List Rw) : Prop := l.Pairwise (fun x y => ltH x.1 y.1 = true)
def mrgB : Nat → List Rw → List Rw → List Cg
  | 0, _, _ => []
  | _ + 1, [], [] => []
  | n + 1, x :: a, [] => chg x.1 x.2 noneB ++ mrgB n a []
  | n + 1, [], y :: b => chg y.1 noneB y.2 ++ mrgB n [] b
  | n + 1, x :: a, y :: b =>
    if ltH x.1 y.1 = true then chg x.1 x.2 noneB ++ mrgB n a (y :: b)
    else if ltH y.1 x.1 = true then chg y.1 noneB y.2 ++ mrgB n (x :: a) b
    else chg y.1 x.2 y.2 ++ mrgB n a b
theorem getM_cons_ne {x : Rw} {a : List Rw} {h : Hd} (hne : h ≠ x.1) : getM (x :: a) h = getM a h := by
  unfold getM
  rw [List.find?_cons_of_neg (by simpa using Ne.symm hne)]
theorem getM_cons_eq (x : Rw) (a : List Rw) : getM (x :: a) x.1 = x.2 := by unfold getM; simp
theorem hasH_cons (x : Rw) (a : List Rw) (h : Hd) : hasH (x :: a) h ↔ h = x.1 ∨ hasH a h := by
  constructor
  · rintro ⟨b, hb⟩
    rcases List.mem_cons.1 hb with e | e
    · exact .inl (congrArg Prod.fst e)
    · exact .inr ⟨b, e⟩
  · rintro (rfl | ⟨b, hb⟩)
    · exact ⟨x.2, by simp⟩
    · exact ⟨b, by simp [hb]⟩
theorem hasH_nil (h : Hd) : ¬ hasH [] h := by rintro ⟨b, hb⟩; cases hb
theorem getM_nil (h : Hd) : getM [] h = noneB := rfl
theorem SortR.head {x : Rw} {a : List Rw} (hs : SortR (x :: a)) {h : Hd} (hh : hasH a h) : ltH x.1 h = true := by
  obtain ⟨b, hb⟩ := hh
  exact (List.pairwise_cons.1 hs).1 _ hb
theorem SortR.tail {x : Rw} {a : List Rw} (hs : SortR (x :: a)) : SortR a := (List.pairwise_cons.1 hs).2
theorem getM_none {l : List Rw} {h : Hd} (hn : ¬ hasH l h) : getM l h = noneB := getM_out (fun r hr e => hn ⟨r.2, by rw [← e]; exact hr⟩)
theorem betL_cons (la lb : List Rw) (h : Hd) (t : List Hd) : betL la lb (h :: t) = chg h (getM la h) (getM lb h) ++ betL la lb t := by
  unfold betL chg
  rw [List.filter_cons]
  cases e : eqB (getM la h) (getM lb h) <;> simp
theorem betL_congr {la lb la' lb' : List Rw} : ∀ (t : List Hd), (∀ h ∈ t, getM la h = getM la' h ∧ getM lb h = getM lb' h) → betL la lb t = betL la' lb' t
  | [], _ => rfl
  | h :: t, hh => by
    rw [betL_cons, betL_cons, betL_congr t (fun k hk => hh k (by simp [hk])), (hh h (by simp)).1, (hh h (by simp)).2]
theorem bet_step {la lb la' lb' : List Rw} {hs : List Hd} {m : Hd} (hB : BetH la lb hs) (hm : hasH la m ∨ hasH lb m) (hmin : ∀ h, hasH la h ∨ hasH lb h → h = m ∨ ltH m h = true)
    (hr : ∀ h, (hasH la' h ∨ hasH lb' h) ↔ (hasH la h ∨ hasH lb h) ∧ h ≠ m) (hg : ∀ h, h ≠ m → getM la h = getM la' h ∧ getM lb h = getM lb' h) :
    ∃ t, BetH la' lb' t ∧ betL la lb hs = chg m (getM la m) (getM lb m) ++ betL la' lb' t := by
  have hmem := (hB.mem m).2 hm
  cases hs with
  | nil => cases hmem
  | cons h0 t =>
    have hso := List.pairwise_cons.1 hB.so
    have h0m : h0 = m := by
      rcases hmin h0 ((hB.mem h0).1 (by simp)) with e | e
      · exact e
      · rcases List.mem_cons.1 hmem with e2 | e2
        · exact e2.symm
        · have := hso.1 m e2
          rw [ltH_asymm this] at e; cases e
    subst h0m
    refine ⟨t, ⟨hso.2, fun h => ?_⟩, ?_⟩
    · rw [hr h, ← hB.mem h]
      constructor
      · intro hh
        exact ⟨by simp [hh], fun e => by subst e; have := hso.1 _ hh; rw [ltH_irrefl] at this; cases this⟩
      · rintro ⟨hh, hne⟩
        rcases List.mem_cons.1 hh with e | e
        · exact absurd e hne
        · exact e
    · rw [betL_cons, betL_congr t (fun h hh => hg h (fun e => by subst e; have := hso.1 _ hh; rw [ltH_irrefl] at this; cases this))]
theorem bet_nil {hs : List Hd} (hB : BetH [] [] hs) : betL [] [] hs = [] := by
  cases hs with
  | nil => rfl
  | cons h t => rcases (hB.mem h).1 (by simp) with e | e <;> exact absurd e (hasH_nil h)

theorem mrg_bet : ∀ (n : Nat) (la lb : List Rw) (hs : List Hd), la.length + lb.length ≤ n → SortR la → SortR lb → BetH la lb hs → mrgB n la lb = betL la lb hs
  | 0, [], [], hs, _, _, _, hB => by rw [bet_nil hB]; rfl
  | 0, _ :: _, _, _, h, _, _, _ => by simp at h
  | 0, [], _ :: _, _, h, _, _, _ => by simp at h
  | n + 1, [], [], hs, _, _, _, hB => by rw [bet_nil hB]; rfl
  | n + 1, x :: a, [], hs, hl, hsa, hsb, hB => by
    obtain ⟨t, hB', he⟩ := bet_step (la' := a) (lb' := []) (m := x.1) hB (.inl ((hasH_cons _ _ _).2 (.inl rfl)))
      (fun h hh => by
        rcases hh with hh | hh
        · exact ((hasH_cons _ _ _).1 hh).imp id hsa.head
        · exact absurd hh (hasH_nil h))
      (fun h => by
        rw [hasH_cons]
        constructor
        · rintro (hh | hh)
          · exact ⟨.inl (.inr hh), fun e => by subst e; have := hsa.head hh; rw [ltH_irrefl] at this; cases this⟩
          · exact absurd hh (hasH_nil h)
        · rintro ⟨(hh | hh) | hh, hne⟩
          · exact absurd hh hne
          · exact .inl hh
          · exact .inr hh)
      (fun h hne => ⟨getM_cons_ne hne, rfl⟩)
    rw [he, getM_cons_eq, getM_nil]
    show chg x.1 x.2 noneB ++ mrgB n a [] = _
    rw [mrg_bet n a [] t (by simp at hl ⊢; omega) hsa.tail hsb hB']
  | n + 1, [], y :: b, hs, hl, hsa, hsb, hB => by
    obtain ⟨t, hB', he⟩ := bet_step (la' := []) (lb' := b) (m := y.1) hB (.inr ((hasH_cons _ _ _).2 (.inl rfl)))
      (fun h hh => by
        rcases hh with hh | hh
        · exact absurd hh (hasH_nil h)
        · exact ((hasH_cons _ _ _).1 hh).imp id hsb.head)
      (fun h => by
        rw [hasH_cons]
        constructor
        · rintro (hh | hh)
          · exact absurd hh (hasH_nil h)
          · exact ⟨.inr (.inr hh), fun e => by subst e; have := hsb.head hh; rw [ltH_irrefl] at this; cases this⟩
        · rintro ⟨hh | hh | hh, hne⟩
          · exact .inl hh
          · exact absurd hh hne
          · exact .inr hh)
      (fun h hne => ⟨rfl, getM_cons_ne hne⟩)
    rw [he, getM_cons_eq, getM_nil]
    show chg y.1 noneB y.2 ++ mrgB n [] b = _
    rw [mrg_bet n [] b t (by simp at hl ⊢; omega) hsa hsb.tail hB']
  | n + 1, x :: a, y :: b, hs, hl, hsa, hsb, hB => by
    have hl2 : a.length + b.length + 2 ≤ n + 1 := by simp at hl; omega
    unfold mrgB
    cases hxy : ltH x.1 y.1 with
    | true =>
      have hnb : ¬ hasH (y :: b) x.1 := fun hh => by
        rcases (hasH_cons _ _ _).1 hh with e | e
        · rw [e, ltH_irrefl] at hxy; cases hxy
        · have := ltH_asymm (hsb.head e); rw [this] at hxy; cases hxy
      obtain ⟨t, hB', he⟩ := bet_step (la' := a) (lb' := y :: b) (m := x.1) hB (.inl ((hasH_cons _ _ _).2 (.inl rfl)))
        (fun h hh => by
          rcases hh with hh | hh
          · exact ((hasH_cons _ _ _).1 hh).imp id hsa.head
          · rcases (hasH_cons _ _ _).1 hh with e | e
            · exact .inr (by rw [e]; exact hxy)
            · exact .inr (ltH_trans hxy (hsb.head e)))
        (fun h => by
          rw [hasH_cons x]
          constructor
          · rintro (hh | hh)
            · exact ⟨.inl (.inr hh), fun e => by subst e; have := hsa.head hh; rw [ltH_irrefl] at this; cases this⟩
            · exact ⟨.inr hh, fun e => by subst e; exact hnb hh⟩
          · rintro ⟨(hh | hh) | hh, hne⟩
            · exact absurd hh hne
            · exact .inl hh
            · exact .inr hh)
        (fun h hne => ⟨getM_cons_ne hne, rfl⟩)
      rw [he, getM_cons_eq, getM_none hnb, if_pos rfl, mrg_bet n a (y :: b) t (by simp; omega) hsa.tail hsb hB']
    | false =>
      rw [if_neg (by simp)]
      cases hyx : ltH y.1 x.1 with
      | true =>
        have hna : ¬ hasH (x :: a) y.1 := fun hh => by
          rcases (hasH_cons _ _ _).1 hh with e | e
          · rw [e, ltH_irrefl] at hyx; cases hyx
          · have := ltH_asymm (hsa.head e); rw [this] at hyx; cases hyx
        obtain ⟨t, hB', he⟩ := bet_step (la' := x :: a) (lb' := b) (m := y.1) hB (.inr ((hasH_cons _ _ _).2 (.inl rfl)))
          (fun h hh => by
            rcases hh with hh | hh
            · rcases (hasH_cons _ _ _).1 hh with e | e
              · exact .inr (by rw [e]; exact hyx)
              · exact .inr (ltH_trans hyx (hsa.head e))
            · exact ((hasH_cons _ _ _).1 hh).imp id hsb.head)
          (fun h => by
            rw [hasH_cons y]
            constructor
            · rintro (hh | hh)
              · exact ⟨.inl hh, fun e => by subst e; exact hna hh⟩
              · exact ⟨.inr (.inr hh), fun e => by subst e; have := hsb.head hh; rw [ltH_irrefl] at this; cases this⟩
            · rintro ⟨hh | hh | hh, hne⟩
              · exact .inl hh
              · exact absurd hh hne
              · exact .inr hh)
          (fun h hne => ⟨rfl, getM_cons_ne hne⟩)
        rw [he, getM_cons_eq, getM_none hna, if_pos rfl, mrg_bet n (x :: a) b t (by simp; omega) hsa hsb.tail hB']
      | false =>
        have e0 : x.1 = y.1 := ltH_tri hxy hyx
        obtain ⟨t, hB', he⟩ := bet_step (la' := a) (lb' := b) (m := y.1) hB (.inr ((hasH_cons _ _ _).2 (.inl rfl)))
          (fun h hh => by
            rcases hh with hh | hh
            · rcases (hasH_cons _ _ _).1 hh with e | e
              · exact .inl (e.trans e0)
              · exact .inr (by rw [← e0]; exact hsa.head e)
            · exact ((hasH_cons _ _ _).1 hh).imp id hsb.head)
          (fun h => by
            rw [hasH_cons x, hasH_cons y]
            constructor
            · rintro (hh | hh)
              · exact ⟨.inl (.inr hh), fun e => by subst e; have := hsa.head hh; rw [e0, ltH_irrefl] at this; cases this⟩
              · exact ⟨.inr (.inr hh), fun e => by subst e; have := hsb.head hh; rw [ltH_irrefl] at this; cases this⟩
            · rintro ⟨(hh | hh) | hh | hh, hne⟩
              · exact absurd (hh.trans e0) hne
              · exact .inl hh
              · exact absurd hh hne
              · exact .inr hh)
          (fun h hne => ⟨getM_cons_ne (by rw [e0]; exact hne), getM_cons_ne hne⟩)
        have hgx : getM (x :: a) y.1 = x.2 := by rw [← e0]; exact getM_cons_eq _ _
        rw [he, hgx, getM_cons_eq, if_neg (by simp), mrg_bet n a b t (by omega) hsa.tail hsb.tail hB']
end Go.Proofs.Ytfbcdblgfhekpaa

/- The slots of the reference's zoo: All, Is, Free, Take. (printed by mk_zs.py out of XSlot2, XSlot4, XSlot5) -/
namespace Go.Proofs.Ytfbcdblgfhekpaa
open Go.RowKit

attribute [local go_sem] AllFrom.cons_eq AllFrom.nil_eq putF_nil putF_cons wantedL_none wantedL_some OpGoalT OpGoalS OpGoalP OpGoalV YieldsR preF_nil preF_cons

variable {vL vB : Value}

end Go.Proofs.Ytfbcdblgfhekpaa

/- The reference's zoo: its blocks, At, Get. -/
namespace Go.Proofs.Ytfbcdblgfhekpaa
open Go Go.RowKit
variable {vB : Value}

attribute [local go_sem] AllFrom.cons_eq AllFrom.nil_eq putF_nil putF_cons wantedL_none wantedL_some OpGoalT OpGoalV OpGoalQ YieldsR preF_nil preF_cons

def atI (L : List Rw) (h : Hd) : Int := match idxL L h with | some i => (i : Int) | none => -1
theorem atI_some {L : List Rw} {h : Hd} {i : Nat} (hi : idxL L h = some i) : atI L h = (i : Int) := by unfold atI; rw [hi]
theorem atI_none {L : List Rw} {h : Hd} (hi : idxL L h = none) : atI L h = -1 := by unfold atI; rw [hi]

end Go.Proofs.Ytfbcdblgfhekpaa

/- The reference's zoo: Get; rows without some. (printed by mk_z2.py) -/
namespace Go.Proofs.Ytfbcdblgfhekpaa
open Go Go.RowKit
variable {vB : Value}

attribute [local go_sem] AllFrom.cons_eq AllFrom.nil_eq putF_nil putF_cons wantedL_none wantedL_some OpGoalT OpGoalV OpGoalQ YieldsR preF_nil preF_cons

theorem getE_some {L : List Rw} {h : Hd} {i : Nat} (hi : idxL L h = some i) : getE L h = 0 := by unfold getE; rw [hi]
theorem getE_none {L : List Rw} {h : Hd} (hi : idxL L h = none) : getE L h = 7 := by unfold getE; rw [hi]
theorem getB_some {L : List Rw} {h : Hd} {i : Nat} (hi : idxL L h = some i) (hl : i < L.length) : getB L h = L[i].2 := by unfold getB; rw [hi]; simp only; rw [List.getD_eq_getElem?_getD, List.getElem?_eq_getElem hl]; rfl
theorem getB_none {L : List Rw} {h : Hd} (hi : idxL L h = none) : getB L h = (0, 0, 0, 0, 0, 0, 0, 0, 0) := by unfold getB; rw [hi]; rfl

/-- append of one row onto a row of one's own. -/
theorem app_row {w : World} {ops : Array Oper} {rest : List Oper} {o : Oper} {a : Act} {Q : Exit → Act → World → Prop} (hgd : o.guard = none) (s x : Operand)
    (ho : o.op = .call { callee := .builtin .append, args := #[s, x], argTypes := #[22, 22] }) (base : Nat) (v : Value) (l : List Rw) (y : Rw) (ad : Addr) (c : Nat)
    (hs : a.eval s = v) (hown : w.ownsRow base 33 11 v l.length (l.flatMap rwC)) (hx : a.eval x = .slice (some ad) 1 c) (hc : ∀ j u, (rwC y)[j]? = some u → w.cell? (ad.add j) = some u)
    (hlen : l.length < 1200000000000) (hbase : base ≤ w.heap.size)
    (h : ∀ v' w', w'.ownsRow base 33 11 v' (l ++ [y]).length ((l ++ [y]).flatMap rwC) → Below base w w' → wpList Try.prog ops Q rest (a.put o.dst v') w') : wpList Try.prog ops Q (o :: rest) a w := by
  refine app_rec (enc := rwC) (n := 11) (z := .agg (ints zero11).toArray) (bytes := 88) hgd s x 22 33 ho Try.underlying22 inf_Row rfl (by omega) (by omega) rwC_one rwC_len base v l y ad c hs hown hx hc (by omega) hbase ?_
  intro v' w' h1 h2 _
  exact h v' w' h1 ((Below.refl base w).grown h2 hbase (own_ge hown))

end Go.Proofs.Ytfbcdblgfhekpaa

/- The reference's zoo: its rows turned; Kill. -/
namespace Go.Proofs.Ytfbcdblgfhekpaa
open Go Go.RowKit
variable {vB : Value}

attribute [local go_sem] AllFrom.cons_eq AllFrom.nil_eq putF_nil putF_cons wantedL_none wantedL_some OpGoalT OpGoalV OpGoalQ YieldsR preF_nil preF_cons

section
variable {w w1 : World} {q : Nat} {sl : Sl} {L L' : List Rw} {F : List Nat} {v : Value}
theorem killLz_none {h : Hd} (hi : idxL L h = none) : killL L h = L := by
  unfold killL
  rw [List.filter_eq_self]
  intro x hx
  have := idx_none hi x hx
  simpa using this
theorem freeL_dead {s g : Int} (h : liveB sl s g = false) : freeL sl s g = sl := by unfold freeL; rw [h]; rfl
theorem freeE_live {s g : Int} (h : liveB sl s g = true) : freeE sl s g = 0 := by unfold freeE; rw [h]; rfl
theorem killE_none {h : Hd} (hi : idxL L h = none) : killE L h = 7 := by unfold killE; rw [hi]
theorem killE_some {h : Hd} {i : Nat} (hi : idxL L h = some i) : killE L h = 0 := by unfold killE; rw [hi]

end
end Go.Proofs.Ytfbcdblgfhekpaa

/- The reference's zoo: Put, Drop. (printed by mk_z4.py) -/
namespace Go.Proofs.Ytfbcdblgfhekpaa
open Go Go.RowKit
variable {{vB : Value}}

attribute [local go_sem] AllFrom.cons_eq AllFrom.nil_eq putF_nil putF_cons wantedL_none wantedL_some OpGoalT OpGoalV OpGoalQ YieldsR preF_nil preF_cons

theorem modL_len {L : List Rw} {i : Nat} {x' : Rw} : (L.set i x').length = L.length := List.length_set
theorem rw_kinds (x : Rw) (K : Int) : setL (rwC x) 2 [.int .i64 K] = rwC (x.1, (K, x.2.2)) := by
  obtain ⟨⟨s, g⟩, K', a0, a1, a2, a3, a4, a5, a6, a7⟩ := x
  rfl
theorem set_twice {L : List Rw} {i : Nat} (x y : Rw) : (L.set i x).set i y = L.set i y := List.set_set ..
theorem rw_kind0 (x : Rw) : (rwC x)[2]? = some (.int .i64 x.2.1) := by
  obtain ⟨⟨s, g⟩, K', a0, a1, a2, a3, a4, a5, a6, a7⟩ := x
  rfl
theorem pwK_le (j : Nat) (hj : j < 8) : pw j ≤ 128 ∧ 0 ≤ pw j := by
  have : ∀ j : Fin 8, pw j.val ≤ 128 ∧ 0 ≤ pw j.val := by decide
  exact this ⟨j, hj⟩
theorem wrapM (z : Int) (h1 : -1000000 ≤ z) (h2 : z ≤ 1000000) : IntKind.i64.wrap z = z := by
  by_cases h : 0 ≤ z
  · exact wrapSmall z h h2
  · have e : z % 2 ^ 64 = z + 2 ^ 64 := by
      rw [← Int.add_emod_right]
      exact Int.emod_eq_of_lt (by omega) (by omega)
    simp only [IntKind.wrap, IntKind.bits, IntKind.signed, e, Bool.true_and, decide_eq_true_eq]
    split <;> omega
theorem powK_any (j : Nat) (hj : j < 8) (w : World) : Calls Try.prog 54 #[.int .i64 (j : Int)] w fun e w' => e = .returned (.int .i64 (pw j)) ∧ w = w' := by
  exact power_any j (by omega) w

section
variable {w : World} {q : Nat} {sl : Sl} {L : List Rw} {F : List Nat}
theorem putE_some {h : Hd} {i : Nat} {k n : Int} (hi : idxL L h = some i) : putE L h k n = if putBad k n then 1 else 0 := by unfold putE; rw [hi]
theorem putE_none {h : Hd} {k n : Int} (hi : idxL L h = none) : putE L h k n = 7 := by unfold putE; rw [hi]
theorem putW_some {h : Hd} {i : Nat} {k n : Int} (hi : idxL L h = some i) : putW L h k n = if putBad k n then L else L.modify i (fun x => putR x k.toNat n) := by unfold putW; rw [hi]
theorem putW_none {h : Hd} {k n : Int} (hi : idxL L h = none) : putW L h k n = L := by unfold putW; rw [hi]
theorem dropE_some {h : Hd} {i : Nat} {k : Int} (hi : idxL L h = some i) (hl : i < L.length) : dropE L h k = if k < 0 ∨ 7 < k then 1 else if hasK L[i].2.1 k.toNat = true then 0 else 5 := by unfold dropE; rw [hi]; simp only; rw [List.getD_eq_getElem?_getD, List.getElem?_eq_getElem hl]; rfl
theorem dropE_none {h : Hd} {k : Int} (hi : idxL L h = none) : dropE L h k = 7 := by unfold dropE; rw [hi]
theorem dropL_some {h : Hd} {i : Nat} {k : Int} (hi : idxL L h = some i) : dropL L h k = if dropE L h k = 0 then L.modify i (fun x => dropR x k.toNat) else L := by unfold dropL; rw [hi]
theorem dropL_none {h : Hd} {k : Int} (hi : idxL L h = none) : dropL L h k = L := by unfold dropL; rw [hi]
theorem putR_has {x : Rw} {j : Nat} {n : Int} (h : hasK x.2.1 j = true) : putR x j n = rwSet x j n := by
  unfold putR putK; rw [if_pos h]
  obtain ⟨⟨s, g⟩, K', a0, a1, a2, a3, a4, a5, a6, a7⟩ := x
  rfl
theorem putR_not {x : Rw} {j : Nat} {n : Int} (h : hasK x.2.1 j = false) : putR x j n = rwSet (x.1, (x.2.1 + pw j, x.2.2)) j n := by
  unfold putR putK; rw [if_neg (by rw [h]; simp)]
  obtain ⟨⟨s, g⟩, K', a0, a1, a2, a3, a4, a5, a6, a7⟩ := x
  rfl
theorem dropR_eq {x : Rw} {j : Nat} : dropR x j = rwSet (x.1, (x.2.1 - pw j, x.2.2)) j 0 := by
  unfold dropR
  obtain ⟨⟨s, g⟩, K', a0, a1, a2, a3, a4, a5, a6, a7⟩ := x
  rfl

end
end Go.Proofs.Ytfbcdblgfhekpaa
