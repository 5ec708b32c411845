import Derived.Test.YtfbcdblgfhekpaaDiffAppliesJ14
import Derived.Test.YtfbcdblgfhekpaaDiffAppliesJ9
import Derived.Test.YtfbcdblgfhekpaaDiffAppliesJ10
/- Applying changes to rows: what the program and the reference compute (plain). -/
namespace Go.Proofs.Ytfbcdblgfhekpaa
open Go Go.RowKit Go.Maps

def delR (l : List Rw) (h : Hd) : List Rw := l.filter (fun r => decide (r.1 ≠ h))
def setR (l : List Rw) (x : Rw) : List Rw := l.takeWhile (fun r => ltH r.1 x.1) ++ x :: l.dropWhile (fun r => ltH r.1 x.1)
def stepR (l : List Rw) (x : Cg) : List Rw := if eqB x.2.2 noneB = true then delR l x.1 else setR (delR l x.1) (x.1, x.2.2)
def stepE (l : List Rw) (x : Cg) : Int := if eqB x.2.1 x.2.2 = true then 4 else if eqB (getM l x.1) x.2.1 = true then 0 else 5
def runR : List Rw → List Cg → List Rw × Int
  | l, [] => (l, 0)
  | l, x :: t => if stepE l x = 0 then runR (stepR l x) t else (l, stepE l x)
def aplZ (la : List Rw) (cs : List Cg) : Int :=
  if mayB la = false then 4 else if 120 < cs.length then 2 else if (runR la cs).2 = 0 then (if mayB (runR la cs).1 = true then 0 else 4) else (runR la cs).2
def aplL (la : List Rw) (cs : List Cg) : List Rw := if aplZ la cs = 0 then (runR la cs).1 else []

theorem eqB_ok {α : Type} [DecidableEq α] {a b : α} (h : eqB a b = true) : a = b := by unfold eqB at h; exact of_decide_eq_true h
theorem aplZ_bad {la : List Rw} {cs : List Cg} (h : mayB la = false) : aplZ la cs = 4 ∧ aplL la cs = [] := by
  have h1 : aplZ la cs = 4 := by unfold aplZ; rw [if_pos h]
  exact ⟨h1, by unfold aplL; rw [h1, if_neg (by decide)]⟩
theorem aplZ_many {la : List Rw} {cs : List Cg} (h : mayB la = true) (h2 : 120 < cs.length) : aplZ la cs = 2 ∧ aplL la cs = [] := by
  have h1 : aplZ la cs = 2 := by unfold aplZ; rw [if_neg (by rw [h]; simp), if_pos h2]
  exact ⟨h1, by unfold aplL; rw [h1, if_neg (by decide)]⟩
theorem aplZ_run {la : List Rw} {cs : List Cg} (h : mayB la = true) (h2 : cs.length ≤ 120) {R : List Rw} {z : Int} (hr : runR la cs = (R, z)) (hz : z ≠ 0) : aplZ la cs = z ∧ aplL la cs = [] := by
  have h1 : aplZ la cs = z := by unfold aplZ; rw [if_neg (by rw [h]; simp), if_neg (by omega), hr]; simp only; rw [if_neg hz]
  exact ⟨h1, by unfold aplL; rw [h1, if_neg hz]⟩
theorem aplZ_end {la : List Rw} {cs : List Cg} (h : mayB la = true) (h2 : cs.length ≤ 120) {R : List Rw} (hr : runR la cs = (R, 0)) (hm : mayB R = true) : aplZ la cs = 0 ∧ aplL la cs = R := by
  have h1 : aplZ la cs = 0 := by unfold aplZ; rw [if_neg (by rw [h]; simp), if_neg (by omega), hr]; simp only; rw [if_pos True.intro, if_pos hm]
  exact ⟨h1, by unfold aplL; rw [h1, if_pos rfl, hr]⟩
theorem aplZ_endbad {la : List Rw} {cs : List Cg} (h : mayB la = true) (h2 : cs.length ≤ 120) {R : List Rw} (hr : runR la cs = (R, 0)) (hm : mayB R = false) : aplZ la cs = 4 ∧ aplL la cs = [] := by
  have h1 : aplZ la cs = 4 := by unfold aplZ; rw [if_neg (by rw [h]; simp), if_neg (by omega), hr]; simp only; rw [if_pos True.intro, if_neg (by rw [hm]; simp)]
  exact ⟨h1, by unfold aplL; rw [h1, if_neg (by decide)]⟩
/-- One step of a run. -/
theorem run_same {R : List Rw} {x : Cg} {t : List Cg} (h : eqB x.2.1 x.2.2 = true) : runR R (x :: t) = (R, 4) := by
  have e : stepE R x = 4 := by unfold stepE; rw [if_pos h]
  unfold runR; rw [e, if_neg (by decide)]
theorem run_none {R : List Rw} {x : Cg} {t : List Cg} (h : eqB x.2.1 x.2.2 = false) (h2 : eqB (getM R x.1) x.2.1 = false) : runR R (x :: t) = (R, 5) := by
  have e : stepE R x = 5 := by unfold stepE; rw [if_neg (by rw [h]; simp), if_neg (by rw [h2]; simp)]
  unfold runR; rw [e, if_neg (by decide)]
theorem run_del {R : List Rw} {x : Cg} {t : List Cg} (h : eqB x.2.1 x.2.2 = false) (h2 : eqB (getM R x.1) x.2.1 = true) (h3 : eqB x.2.2 noneB = true) : runR R (x :: t) = runR (delR R x.1) t := by
  have e : stepE R x = 0 := by unfold stepE; rw [if_neg (by rw [h]; simp), if_pos h2]
  conv => { lhs; unfold runR }
  rw [e, if_pos rfl]
  unfold stepR; rw [if_pos h3]
theorem run_put {R : List Rw} {x : Cg} {t : List Cg} (h : eqB x.2.1 x.2.2 = false) (h2 : eqB (getM R x.1) x.2.1 = true) (h3 : eqB x.2.2 noneB = false) : runR R (x :: t) = runR (setR (delR R x.1) (x.1, x.2.2)) t := by
  have e : stepE R x = 0 := by unfold stepE; rw [if_neg (by rw [h]; simp), if_pos h2]
  conv => { lhs; unfold runR }
  rw [e, if_pos rfl]
  unfold stepR; rw [if_neg (by rw [h3]; simp)]

theorem getM_mem {l : List Rw} {h : Hd} {b : Bt} (hg : getM l h = b) (hb : b ≠ noneB) : (h, b) ∈ l := by
  unfold getM at hg
  cases hf : l.find? (fun r => decide (r.1 = h)) with
  | none => rw [hf] at hg; exact absurd hg.symm hb
  | some r =>
    rw [hf] at hg
    have h1 := List.find?_some hf
    have h2 := List.mem_of_find?_eq_some hf
    simp only [decide_eq_true_eq] at h1
    have h3 : r.2 = b := hg
    rw [← h1, ← h3]; exact h2
theorem SortR.apart {l : List Rw} (h : SortR l) : l.Pairwise (fun x y => x.1 ≠ y.1) := h.imp fun hlt => ltH_ne hlt
theorem SortR.del {l : List Rw} (h : SortR l) (k : Hd) : SortR (delR l k) := List.Pairwise.filter _ h
theorem delR_ne {l : List Rw} {k : Hd} : ∀ r ∈ delR l k, r.1 ≠ k := fun r hr => by simpa using (List.mem_filter.1 hr).2
theorem delR_len (l : List Rw) (k : Hd) : (delR l k).length ≤ l.length := List.length_filter_le _ _
theorem setR_perm (l : List Rw) (x : Rw) : (setR l x).Perm (x :: l) := by
  unfold setR
  refine List.perm_middle.trans (List.Perm.cons _ ?_)
  rw [List.takeWhile_append_dropWhile]
theorem setR_len (l : List Rw) (x : Rw) : (setR l x).length = l.length + 1 := by rw [(setR_perm l x).length_eq, List.length_cons]
theorem SortR.put : ∀ {l : List Rw} {x : Rw}, SortR l → (∀ r ∈ l, r.1 ≠ x.1) → SortR (setR l x)
  | [], x, _, _ => by unfold setR SortR; simp
  | y :: l, x, h, hn => by
    unfold setR
    cases e : ltH y.1 x.1 with
    | true =>
      rw [List.takeWhile_cons_of_pos (p := fun r : Rw => ltH r.1 x.1) e, List.dropWhile_cons_of_pos (p := fun r : Rw => ltH r.1 x.1) e]
      have ih : SortR (setR l x) := SortR.put h.tail (fun r hr => hn r (List.mem_cons_of_mem _ hr))
      refine List.pairwise_cons.2 ⟨fun r hr => ?_, ih⟩
      rcases List.mem_cons.1 ((setR_perm l x).mem_iff.1 hr) with e2 | e2
      · rw [e2]; exact e
      · exact (List.pairwise_cons.1 h).1 r e2
    | false =>
      rw [List.takeWhile_cons_of_neg (p := fun r : Rw => ltH r.1 x.1) (by rw [e]; simp), List.dropWhile_cons_of_neg (p := fun r : Rw => ltH r.1 x.1) (by rw [e]; simp)]
      have hxy : ltH x.1 y.1 = true := by
        cases e2 : ltH x.1 y.1 with
        | true => rfl
        | false => exact absurd (ltH_tri e e2) (hn y (by simp))
      refine List.pairwise_cons.2 ⟨fun r hr => ?_, h⟩
      rcases List.mem_cons.1 hr with rfl | e2
      · exact hxy
      · exact ltH_trans hxy ((List.pairwise_cons.1 h).1 r e2)
theorem sort_unique : ∀ {hs ks : List Hd}, hs.Pairwise (fun x y => ltH x y = true) → ks.Pairwise (fun x y => ltH x y = true) → (∀ h, h ∈ hs ↔ h ∈ ks) → hs = ks
  | [], [], _, _, _ => rfl
  | [], k :: ks, _, _, hm => absurd ((hm k).2 (by simp)) (by simp)
  | h :: hs, [], _, _, hm => absurd ((hm h).1 (by simp)) (by simp)
  | h :: hs, k :: ks, h1, h2, hm => by
    obtain ⟨a1, a2⟩ := List.pairwise_cons.1 h1
    obtain ⟨b1, b2⟩ := List.pairwise_cons.1 h2
    have e : h = k := by
      rcases List.mem_cons.1 ((hm h).1 (by simp)) with e | e
      · exact e
      · rcases List.mem_cons.1 ((hm k).2 (by simp)) with e2 | e2
        · exact e2.symm
        · have := ltH_asymm (a1 k e2); rw [b1 h e] at this; cases this
    subst e
    rw [sort_unique a2 b2 (fun x => ?_)]
    constructor
    · intro hx
      rcases List.mem_cons.1 ((hm x).1 (List.mem_cons_of_mem _ hx)) with e | e
      · subst e; have := a1 _ hx; rw [ltH_irrefl] at this; cases this
      · exact e
    · intro hx
      rcases List.mem_cons.1 ((hm x).2 (List.mem_cons_of_mem _ hx)) with e | e
      · subst e; have := b1 _ hx; rw [ltH_irrefl] at this; cases this
      · exact e
theorem keys_of {R : List Rw} {hs : List Hd} (hR : SortR R) (hB : BetH R [] hs) : hs = R.map (·.1) := by
  refine sort_unique hB.so ?_ (fun h => ?_)
  · rw [List.pairwise_map]; exact hR
  · rw [hB.mem, List.mem_map]
    constructor
    · rintro (⟨b, hb⟩ | hh)
      · exact ⟨_, hb, rfl⟩
      · exact absurd hh (hasH_nil h)
    · rintro ⟨⟨a, b⟩, hm, rfl⟩
      exact .inl ⟨b, hm⟩
theorem rows_of {R : List Rw} (hR : SortR R) : (R.map (·.1)).map (fun h => (h, getM R h)) = R := by
  rw [List.map_map]
  refine (List.map_congr_left (fun r hr => ?_)).trans (List.map_id R)
  have := getM_in hR.apart (show (r.1, r.2) ∈ R from hr)
  show (r.1, getM R r.1) = r
  rw [this]
theorem run_len : ∀ (cs : List Cg) (R : List Rw), (runR R cs).1.length ≤ R.length + cs.length
  | [], R => by simp [runR]
  | x :: t, R => by
    have h1 : (stepR R x).length ≤ R.length + 1 := by
      unfold stepR
      split
      · have := delR_len R x.1; omega
      · rw [setR_len]; have := delR_len R x.1; omega
    unfold runR
    split
    · have := run_len t (stepR R x); simp only [List.length_cons]; omega
    · simp only [List.length_cons]; omega
theorem aplL_len (la : List Rw) (cs : List Cg) : (aplL la cs).length ≤ la.length + cs.length := by
  unfold aplL
  split
  · exact run_len cs la
  · simp
end Go.Proofs.Ytfbcdblgfhekpaa

/- The slots of the reference's zoo: All, Is, Free, Take. (printed by mk_zs.py out of XSlot2, XSlot4, XSlot5) -/
namespace Go.Proofs.Ytfbcdblgfhekpaa
open Go.RowKit

attribute [local go_sem] AllFrom.cons_eq AllFrom.nil_eq putF_nil putF_cons wantedL_none wantedL_some OpGoalT OpGoalS OpGoalP OpGoalV YieldsR preF_nil preF_cons

variable {vL vB : Value}

end Go.Proofs.Ytfbcdblgfhekpaa

/- The reference's zoo: its blocks, At, Get. -/
namespace Go.Proofs.Ytfbcdblgfhekpaa
open Go Go.RowKit
variable {vB : Value}

attribute [local go_sem] AllFrom.cons_eq AllFrom.nil_eq putF_nil putF_cons wantedL_none wantedL_some OpGoalT OpGoalV OpGoalQ YieldsR preF_nil preF_cons

end Go.Proofs.Ytfbcdblgfhekpaa

/- The reference's zoo: Get; rows without some. (printed by mk_z2.py) -/
namespace Go.Proofs.Ytfbcdblgfhekpaa
open Go Go.RowKit
variable {vB : Value}

attribute [local go_sem] AllFrom.cons_eq AllFrom.nil_eq putF_nil putF_cons wantedL_none wantedL_some OpGoalT OpGoalV OpGoalQ YieldsR preF_nil preF_cons

/-- append of one row onto a row of one's own. -/
theorem app_row {w : World} {ops : Array Oper} {rest : List Oper} {o : Oper} {a : Act} {Q : Exit → Act → World → Prop} (hgd : o.guard = none) (s x : Operand)
    (ho : o.op = .call { callee := .builtin .append, args := #[s, x], argTypes := #[22, 22] }) (base : Nat) (v : Value) (l : List Rw) (y : Rw) (ad : Addr) (c : Nat)
    (hs : a.eval s = v) (hown : w.ownsRow base 33 11 v l.length (l.flatMap rwC)) (hx : a.eval x = .slice (some ad) 1 c) (hc : ∀ j u, (rwC y)[j]? = some u → w.cell? (ad.add j) = some u)
    (hlen : l.length < 1200000000000) (hbase : base ≤ w.heap.size)
    (h : ∀ v' w', w'.ownsRow base 33 11 v' (l ++ [y]).length ((l ++ [y]).flatMap rwC) → Below base w w' → wpList Try.prog ops Q rest (a.put o.dst v') w') : wpList Try.prog ops Q (o :: rest) a w := by
  refine app_rec (enc := rwC) (n := 11) (z := .agg (ints zero11).toArray) (bytes := 88) hgd s x 22 33 ho Try.underlying22 inf_Row rfl (by omega) (by omega) rwC_one rwC_len base v l y ad c hs hown hx hc (by omega) hbase ?_
  intro v' w' h1 h2 _
  exact h v' w' h1 ((Below.refl base w).grown h2 hbase (own_ge hown))

end Go.Proofs.Ytfbcdblgfhekpaa
