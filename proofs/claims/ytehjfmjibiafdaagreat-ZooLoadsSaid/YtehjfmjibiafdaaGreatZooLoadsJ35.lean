import Derived.Test.YtehjfmjibiafdaaGreatRows
import Derived.Test.YtehjfmjibiafdaaGreatZooLoadsJ1
import Derived.Test.YtehjfmjibiafdaaGreatZooLoadsJ34
import Derived.Test.YtehjfmjibiafdaaGreatZooLoadsJ16
import Derived.Test.YtehjfmjibiafdaaGreatZooLoadsJ30
import Derived.Test.YtehjfmjibiafdaaGreatZooLoadsJ33
import Derived.Test.YtehjfmjibiafdaaGreatZooLoadsJ18
import Derived.Test.YtehjfmjibiafdaaGreatZooLoadsJ3
/- The law SlotsLoads returns true for every input. -/
namespace Go.Proofs.YtehjfmjibiafdaaGreat
open Go.ChangeShapes Go.WideShapes Go.ChangeAt Go.RowKit

attribute [local go_sem] AllFrom.cons_eq AllFrom.nil_eq putF_nil putF_cons wantedL_none wantedL_some OpGoalT OpGoalS OpGoalP OpGoalV YieldsR preF_nil preF_cons

theorem load_err (A : Option Addr) (c : Nat) (gs : List Int) (A' : Option Addr) (c' : Nat) (ks : List Int) (w : World) (hg : gs.length ≤ 9223372036854775807) (hk : ks.length ≤ 9223372036854775807) (hA : Lies w w.heap.size A (ints gs)) (hA' : Lies w w.heap.size A' (ints ks)) (hE : loadE gs ks ≠ 0) :
    Calls Tryz.prog 78 #[.slice A gs.length c, .slice A' ks.length c'] w fun e w' => e = .returned (.tuple #[.pointer none, .int .i64 (loadE gs ks)]) ∧ Below w.heap.size w w' :=
  (load_any A c gs A' c' ks w hg hk hA hA').mono fun e w' ⟨hb, h⟩ => by
    rcases h with ⟨_, h⟩ | ⟨h, _⟩
    · exact ⟨h, hb⟩
    · exact absurd h hE
theorem rload_err (A : Option Addr) (c : Nat) (gs : List Int) (A' : Option Addr) (c' : Nat) (ks : List Int) (w : World) (hg : gs.length ≤ 9223372036854775807) (hk : ks.length ≤ c') (hc : c' ≤ 9223372036854775807) (hA : Lies w w.heap.size A (ints gs)) (hA' : Lies w w.heap.size A' (ints ks)) (hE : loadE gs ks ≠ 0) :
    Calls Tryz.prog 82 #[.slice A gs.length c, .slice A' ks.length c'] w fun e w' => e = .returned (.tuple #[.pointer none, .int .i64 (loadE gs ks)]) ∧ Below w.heap.size w w' :=
  (rload_any A c gs A' c' ks w hg hk hc hA hA').mono fun e w' ⟨hb, h⟩ => by
    rcases h with ⟨_, h⟩ | ⟨h, _⟩
    · exact ⟨h, hb⟩
    · exact absurd h hE
theorem load_ok (A : Option Addr) (c : Nat) (gs : List Int) (A' : Option Addr) (c' : Nat) (ks : List Int) (w : World) (hg : gs.length ≤ 9223372036854775807) (hk : ks.length ≤ 9223372036854775807) (hA : Lies w w.heap.size A (ints gs)) (hA' : Lies w w.heap.size A' (ints ks)) (hE : loadE gs ks = 0) :
    Calls Tryz.prog 78 #[.slice A gs.length c, .slice A' ks.length c'] w fun e w' => ∃ p F, e = .returned (.tuple #[.pointer (some ⟨p, 0, none⟩), .int .i64 0]) ∧ RepS w' p (loadL gs ks) F ∧ (∀ k ∈ F, w.heap.size ≤ k) ∧ SlOk (loadL gs ks) ∧ Below w.heap.size w w' :=
  (load_any A c gs A' c' ks w hg hk hA hA').mono fun e w' ⟨hb, h⟩ => by
    rcases h with ⟨h, _⟩ | ⟨_, p, F, h1, h2, h3, h4⟩
    · exact absurd hE h
    · exact ⟨p, F, h1, h2, h3, h4, hb⟩
theorem rload_ok (A : Option Addr) (c : Nat) (gs : List Int) (A' : Option Addr) (c' : Nat) (ks : List Int) (w : World) (hg : gs.length ≤ 9223372036854775807) (hk : ks.length ≤ c') (hc : c' ≤ 9223372036854775807) (hA : Lies w w.heap.size A (ints gs)) (hA' : Lies w w.heap.size A' (ints ks)) (hE : loadE gs ks = 0) :
    Calls Tryz.prog 82 #[.slice A gs.length c, .slice A' ks.length c'] w fun e w' => ∃ p F, e = .returned (.tuple #[.pointer (some ⟨p, 0, none⟩), .int .i64 0]) ∧ RepRS w' p (loadL gs ks) F ∧ (∀ k ∈ F, w.heap.size ≤ k) ∧ Below w.heap.size w w' :=
  (rload_any A c gs A' c' ks w hg hk hc hA hA').mono fun e w' ⟨hb, h⟩ => by
    rcases h with ⟨h, _⟩ | ⟨_, p, F, h1, h2, h3, h4⟩
    · exact absurd hE h
    · exact ⟨p, F, h1, h2, h3, hb⟩
end Go.Proofs.YtehjfmjibiafdaaGreat

/- Loading a world: the plain part. -/
namespace Go.Proofs.YtehjfmjibiafdaaGreat
open Go Go.RowKit

def slotsOf (rows : List Rw) : List Int := rows.map (fun r => r.1.1)
/-- The first fault among the rows. -/
def rowsErr (sl : Sl) : List Rw → Int
  | [] => 0
  | r :: rs => if liveB sl r.1.1 r.1.2 = false then 7 else if beastZ r.2 ≠ 0 then beastZ r.2 else rowsErr sl rs
def wlS (gs : List Int) (rows : List Rw) : Sl := loadL gs (slotsOf rows)
def wlE (gs : List Int) (rows : List Rw) : Int := if 60 < rows.length then 2 else if loadE gs (slotsOf rows) ≠ 0 then loadE gs (slotsOf rows) else rowsErr (wlS gs rows) rows
def wlL (gs : List Int) (rows : List Rw) : List Rw := (List.range gs.length).flatMap (fun (k : Nat) => rows.filter (fun r => decide (r.1.1 = (k : Int))))
theorem rowsErr_ok {sl : Sl} : ∀ {rows : List Rw}, rowsErr sl rows = 0 ↔ ∀ r ∈ rows, liveB sl r.1.1 r.1.2 = true ∧ beastZ r.2 = 0
  | [] => by simp [rowsErr]
  | r :: rs => by
    have ih := rowsErr_ok (sl := sl) (rows := rs)
    rw [rowsErr]
    constructor
    · intro h
      by_cases h1 : liveB sl r.1.1 r.1.2 = false
      · rw [if_pos h1] at h; simp at h
      · rw [if_neg h1] at h
        by_cases h2 : beastZ r.2 ≠ 0
        · rw [if_pos h2] at h; exact absurd h h2
        · rw [if_neg h2] at h
          intro x hx
          rcases List.mem_cons.1 hx with rfl | hx
          · exact ⟨by simpa using h1, Decidable.not_not.1 h2⟩
          · exact ih.1 h x hx
    · intro h
      have h0 := h r (by simp)
      rw [if_neg (by rw [h0.1]; simp), if_neg (by rw [h0.2]; simp)]
      exact ih.2 fun x hx => h x (List.mem_cons_of_mem _ hx)
/-- What holds of data whose slots can be loaded. -/
theorem loadE_zero {gs ks : List Int} (h : loadE gs ks = 0) : LoadIn gs ks ∧ dupB ks = false ∧ anyS (1000000, true) (loadL gs ks) = false := by
  unfold loadE at h
  by_cases h1 : 60 < gs.length
  · rw [if_pos h1] at h; simp at h
  · rw [if_neg h1] at h
    by_cases h2 : anyP badN gs = true
    · rw [if_pos h2] at h; simp at h
    · rw [if_neg h2] at h
      by_cases h3 : anyP (badK gs.length) ks = true
      · rw [if_pos h3] at h; simp at h
      · rw [if_neg h3] at h
        by_cases h4 : dupB ks = true
        · rw [if_pos h4] at h; simp at h
        · rw [if_neg h4] at h
          by_cases h5 : anyS (1000000, true) (loadL gs ks) = true
          · rw [if_pos h5] at h; simp at h
          · exact ⟨loadIn_of (by omega) (by simpa using h2) (by simpa using h3), by simpa using h4, by simpa using h5⟩
theorem nodup_of_dupB {ks : List Int} (h : dupB ks = false) : ks.Nodup := by
  refine List.pairwise_iff_getElem.2 fun i j hi hj hij e => ?_
  have := dupB_of (ks := ks) hj (by
    rw [hasB_iff, ← e]
    refine List.mem_iff_getElem.2 ⟨i, by rw [List.length_take]; omega, by rw [List.getElem_take]⟩)
  rw [h] at this; cases this
section
variable {gs : List Int} {rows : List Rw}
structure WLok (gs : List Int) (rows : List Rw) : Prop where
  i : LoadIn gs (slotsOf rows)
  nd : rows.Pairwise (fun a b => a.1.1 ≠ b.1.1)
  ok : SlOk (wlS gs rows)
  live : ∀ r ∈ rows, liveB (wlS gs rows) r.1.1 r.1.2 = true
  be : ∀ r ∈ rows, beastZ r.2 = 0
  len : rows.length ≤ 60
theorem wlok_of (h : wlE gs rows = 0) : WLok gs rows := by
  unfold wlE at h
  by_cases h1 : 60 < rows.length
  · rw [if_pos h1] at h; simp at h
  · rw [if_neg h1] at h
    by_cases h2 : loadE gs (slotsOf rows) ≠ 0
    · rw [if_pos h2] at h; exact absurd h h2
    · rw [if_neg h2] at h
      obtain ⟨a, b, c⟩ := loadE_zero (Decidable.not_not.1 h2)
      have hr := rowsErr_ok.1 h
      refine ⟨a, ?_, a.ok c, fun r hr' => (hr r hr').1, fun r hr' => (hr r hr').2, by omega⟩
      have := nodup_of_dupB b
      unfold slotsOf List.Nodup at this
      rw [List.pairwise_map] at this
      exact this
theorem WLok.slot (h : WLok gs rows) {r : Rw} (hr : r ∈ rows) : ∃ s : Nat, r.1.1 = (s : Int) ∧ s < gs.length ∧ s < 60 := by
  obtain ⟨i, hi, he⟩ := List.mem_iff_getElem.1 (show r.1.1 ∈ slotsOf rows from List.mem_map.2 ⟨r, hr, rfl⟩)
  have h1 := h.i.keys i hi
  rw [he] at h1
  have := h.i.len
  exact ⟨r.1.1.toNat, by omega, by omega, by omega⟩
theorem WLok.mem (h : WLok gs rows) (y : Rw) : y ∈ wlL gs rows ↔ y ∈ rows := by
  unfold wlL
  rw [List.mem_flatMap]
  constructor
  · rintro ⟨k, -, hy⟩; exact (List.mem_filter.1 hy).1
  · intro hy
    obtain ⟨s, h1, h2, -⟩ := h.slot hy
    exact ⟨s, List.mem_range.2 h2, List.mem_filter.2 ⟨hy, by simpa using h1⟩⟩
theorem WLok.sorted (h : WLok gs rows) : (wlL gs rows).Pairwise (fun a b => a.1.1 < b.1.1) := by
  unfold wlL
  rw [List.pairwise_flatMap]
  refine ⟨fun k _ => ?_, ?_⟩
  · refine List.Pairwise.imp_of_mem ?_ (h.nd.sublist (List.filter_sublist (p := fun r : Rw => decide (r.1.1 = (k : Int)))))
    intro a b ha hb hne
    have e1 := (List.mem_filter.1 ha).2
    have e2 := (List.mem_filter.1 hb).2
    simp only [decide_eq_true_eq] at e1 e2
    exact absurd (e1.trans e2.symm) hne
  · refine List.Pairwise.imp ?_ List.pairwise_lt_range
    intro a b hab x hx y hy
    have e1 := (List.mem_filter.1 hx).2
    have e2 := (List.mem_filter.1 hy).2
    simp only [decide_eq_true_eq] at e1 e2
    omega
theorem WLok.wok (h : WLok gs rows) : WOk (wlS gs rows) (wlL gs rows) := by
  refine ⟨h.ok, ?_, fun x hx => h.be x ((h.mem x).1 hx)⟩
  have hs1 : ((wlL gs rows).map (·.1)).Pairwise (fun a b => a.1 < b.1) := by rw [List.pairwise_map]; exact h.sorted
  have hs2 : (allS (wlS gs rows)).Pairwise (fun a b => a.1 < b.1) := allFrom_sorted _ 0
  have n1 : ((wlL gs rows).map (·.1)).Nodup := hs1.imp (fun h e => by rw [e] at h; omega)
  have n2 : (allS (wlS gs rows)).Nodup := hs2.imp (fun h e => by rw [e] at h; omega)
  have hp : ((wlL gs rows).map (·.1)).Perm (allS (wlS gs rows)) := by
    refine (List.perm_ext_iff_of_nodup n1 n2).2 fun x => ?_
    obtain ⟨s, g⟩ := x
    rw [← liveB_iff, List.mem_map]
    constructor
    · rintro ⟨r, hr, e⟩
      have := h.live r ((h.mem r).1 hr)
      rw [e] at this
      exact this
    · intro hl
      obtain ⟨h0, hlt, he⟩ := liveB_lt hl
      obtain ⟨k, rfl⟩ := Int.eq_ofNat_of_zero_le h0
      simp only [Int.toNat_natCast] at hlt he
      have hk := loadL_get gs (slotsOf rows) (n := k) (by exact hlt)
      have he2 : (loadL gs (slotsOf rows))[k]'hlt = (g, true) := he
      rw [hk] at he2
      simp only [Prod.mk.injEq] at he2
      obtain ⟨r, hr, e1⟩ := List.mem_map.1 ((hasB_iff _ _).1 he2.2)
      refine ⟨r, (h.mem r).2 hr, ?_⟩
      have hlr := h.live r hr
      rw [e1] at hlr
      obtain ⟨-, h5, h6⟩ := liveB_lt hlr
      simp only [Int.toNat_natCast] at h5 h6
      have h7 : (loadL gs (slotsOf rows))[k]'hlt = (r.1.2, true) := h6
      rw [hk] at h7
      simp only [Prod.mk.injEq] at h7
      exact Prod.ext_iff.2 ⟨e1, h7.1.symm.trans he2.1⟩
  refine List.Perm.eq_of_pairwise (le := fun a b : Hd => a.1 ≤ b.1) (fun a b ha hb e1 e2 => ?_) (hs1.imp (fun h => by omega)) (hs2.imp (fun h => by omega)) hp
  have ha2 := hp.mem_iff.1 ha
  obtain ⟨i, hi, rfl⟩ := List.mem_iff_getElem.1 ha2
  obtain ⟨j, hj, rfl⟩ := List.mem_iff_getElem.1 hb
  have hpp := List.pairwise_iff_getElem.1 hs2
  rcases Nat.lt_trichotomy i j with h1 | h1 | h1
  · have := hpp i j hi hj h1; omega
  · subst h1; rfl
  · have := hpp j i hj hi h1; omega
end
end Go.Proofs.YtehjfmjibiafdaaGreat

/- Loading bonds (plain). -/
namespace Go.Proofs.YtehjfmjibiafdaaGreat
open Go Go.RowKit

noncomputable def loadB (sl : Sl) : List Bd → List Bd → List Bd × Int
  | B, [] => (B, 0)
  | B, x :: r => if liveZ sl [x.1, x.2] = true then (if (parB B x.1).isSome = true then (B, 6) else if adoE B x.1 x.2 = 0 then loadB sl (adoB B x.1 x.2) r else (B, adoE B x.1 x.2)) else (B, 7)
section
variable {sl : Sl} {B : List Bd} {x : Bd} {r : List Bd}
theorem loadB_dead (h : liveZ sl [x.1, x.2] = false) : loadB sl B (x :: r) = (B, 7) := by unfold loadB; rw [if_neg (by rw [h]; simp)]
theorem loadB_twice (h : liveZ sl [x.1, x.2] = true) (h2 : (parB B x.1).isSome = true) : loadB sl B (x :: r) = (B, 6) := by unfold loadB; rw [if_pos h, if_pos h2]
theorem loadB_loop (h : liveZ sl [x.1, x.2] = true) (h2 : (parB B x.1).isSome = false) (h3 : adoE B x.1 x.2 ≠ 0) : loadB sl B (x :: r) = (B, adoE B x.1 x.2) := by unfold loadB; rw [if_pos h, if_neg (by rw [h2]; simp), if_neg h3]
theorem loadB_go (h : liveZ sl [x.1, x.2] = true) (h2 : (parB B x.1).isSome = false) (h3 : adoE B x.1 x.2 = 0) : loadB sl B (x :: r) = loadB sl (adoB B x.1 x.2) r := by conv => { lhs; unfold loadB }; rw [if_pos h, if_neg (by rw [h2]; simp), if_pos h3]
theorem adoE_cases (B : List Bd) (a b : Hd) : adoE B a b = 0 ∨ adoE B a b = 8 := by unfold adoE; split <;> simp
theorem adoB_fam (h : FamOk B) (a b : Hd) : FamOk (adoB B a b) := by
  unfold adoB
  split
  · exact h
  · exact insB_ok h (by assumption)
theorem adoB_live (h : ∀ b ∈ B, b.1 ∈ allS sl) {a b : Hd} (ha : a ∈ allS sl) : ∀ y ∈ adoB B a b, y.1 ∈ allS sl := by
  intro y hy
  unfold adoB at hy
  split at hy
  · exact h y hy
  · rcases mem_insB.1 hy with rfl | ⟨hy, -⟩
    · exact ha
    · exact h y hy
theorem liveZ_two {a b : Hd} : liveZ sl [a, b] = (liveB sl a.1 a.2 && liveB sl b.1 b.2) := by unfold liveZ; simp
end
noncomputable def zlE (gs : List Int) (rows : List Rw) (bs : List Bd) : Int := if wlE gs rows = 0 then (loadB (wlS gs rows) [] bs).2 else wlE gs rows
noncomputable def zlB (gs : List Int) (rows : List Rw) (bs : List Bd) : List Bd := (loadB (wlS gs rows) [] bs).1
theorem zlE_bad {gs : List Int} {rows : List Rw} {bs : List Bd} (h : wlE gs rows ≠ 0) : zlE gs rows bs = wlE gs rows := by unfold zlE; rw [if_neg h]
theorem zlE_run {gs : List Int} {rows : List Rw} {bs B : List Bd} {z : Int} (h : wlE gs rows = 0) (h2 : loadB (wlS gs rows) [] bs = (B, z)) : zlE gs rows bs = z ∧ zlB gs rows bs = B := by unfold zlE zlB; rw [if_pos h, h2]; exact ⟨rfl, rfl⟩
end Go.Proofs.YtehjfmjibiafdaaGreat

/- One op at both zoos: the same answer, the same state. -/
namespace Go.Proofs.YtehjfmjibiafdaaGreat
open Go Go.RowKit

end Go.Proofs.YtehjfmjibiafdaaGreat

/- Ops as sixteen numbers; the pair of a new world and a new zoo. (printed by mk_wdoes.py) -/
namespace Go.Proofs.YtehjfmjibiafdaaGreat
open Go Go.RowKit Go.ChangeShapes Go.WideShapes Go.ChangeAt

section
variable {vB : Value} {Lo : Nat} {Z : List Nat} {p q : Nat} {sl sl' : Sl} {L L' : List Rw} {w : World}
end
end Go.Proofs.YtehjfmjibiafdaaGreat

/- Pairs of zoos: New, Same. (printed by mk_zlaw.py) -/
namespace Go.Proofs.YtehjfmjibiafdaaGreat
open Go Go.RowKit
attribute [local go_sem] AllFrom.cons_eq AllFrom.nil_eq putF_nil putF_cons wantedL_none wantedL_some OpGoalT OpGoalV OpGoalQ OpGoalA OpGoalK YieldsR preF_nil preF_cons

theorem eqRows_self (l : List Rw) (v v' : Value) (w : World) {B B' : Nat} (hl : l.length ≤ 1200000000000) (h : w.ownsRow B 69 11 v l.length (l.flatMap rwC)) (h' : w.ownsRow B' 69 11 v' l.length (l.flatMap rwC)) :
    Calls Tryz.prog 23 #[v, v'] w fun e w' => e = .returned (.bool true) ∧ Below w.heap.size w w' := by
  obtain ⟨A, c, rfl, hc, hA⟩ := own_lies h
  obtain ⟨A', c', rfl, hc', hA'⟩ := own_lies h'
  have := eqRow_any A c A' c' l l w (by omega) (by omega) hA hA'
  rw [eqB_self] at this
  exact this
theorem eqBonds_self (l : List Bd) (v v' : Value) (w : World) {B B' : Nat} (hl : l.length ≤ 1200000000000) (h : w.ownsRow B 84 4 v l.length (l.flatMap bdC)) (h' : w.ownsRow B' 84 4 v' l.length (l.flatMap bdC)) :
    Calls Tryz.prog 36 #[v, v'] w fun e w' => e = .returned (.bool true) ∧ Below w.heap.size w w' := by
  obtain ⟨A, c, rfl, hc, hA⟩ := own_lies h
  obtain ⟨A', c', rfl, hc', hA'⟩ := own_lies h'
  have := eqBond_any A c A' c' l l w (by omega) (by omega) hA hA'
  rw [eqB_self] at this
  exact this
theorem eqInts_self (l : List Int) (v v' : Value) (w : World) {B B' : Nat} (hl : l.length ≤ 1200000000000) (h : w.ownsRow B 3 1 v l.length (ints l)) (h' : w.ownsRow B' 3 1 v' l.length (ints l)) :
    Calls Tryz.prog 35 #[v, v'] w fun e w' => e = .returned (.bool true) ∧ Below w.heap.size w w' := by
  obtain ⟨A, c, rfl, hc, hA⟩ := own_lies h
  obtain ⟨A', c', rfl, hc', hA'⟩ := own_lies h'
  have := eqInt_any A c A' c' l l w.heap.size w.heap.size w (by omega) (by omega) hA hA'
  rw [eqB_self] at this
  exact this.mono fun e w' ⟨he, hw⟩ => ⟨he, hw ▸ Below.refl _ _⟩

set_option maxRecDepth 20000 in
set_option maxHeartbeats 4000000 in
theorem same_any {sl : Sl} {L : List Rw} {B : List Bd} (hO : ZOk sl L B) {v1 v2 v3 u1 u2 u3 : Value} {w : World} (g1 : w.ownsRow 0 3 1 v1 (gensS sl).length (ints (gensS sl))) (g2 : w.ownsRow 0 69 11 v2 L.length (L.flatMap rwC)) (g3 : w.ownsRow 0 84 4 v3 B.length (B.flatMap bdC))
    (k1 : w.ownsRow 0 3 1 u1 (gensS sl).length (ints (gensS sl))) (k2 : w.ownsRow 0 69 11 u2 L.length (L.flatMap rwC)) (k3 : w.ownsRow 0 84 4 u3 B.length (B.flatMap bdC)) :
    Calls Tryz.prog 10 #[.agg #[v1, v2, v3], .agg #[u1, u2, u3]] w fun e w' => e = .returned (.bool true) ∧ Below w.heap.size w w' := by
  obtain ⟨A1, c1, rfl, -, -⟩ := row_slice g1
  obtain ⟨A2, c2, rfl, -, -⟩ := row_slice g2
  obtain ⟨A3, c3, rfl, -, -⟩ := row_slice g3
  obtain ⟨A4, c4, rfl, -, -⟩ := row_slice k1
  obtain ⟨A5, c5, rfl, -, -⟩ := row_slice k2
  obtain ⟨A6, c6, rfl, -, -⟩ := row_slice k3
  have hlg : (gensS sl).length ≤ 60 := by unfold gensS; rw [List.length_map]; exact hO.w.ok.1
  have hll := hO.w.len; have hbl := hO.len
  generalize gensS sl = gs at *
  obtain ⟨w0, hw0, hb0, hz0, hs0⟩ := box1 w (.cells #[.slice A1 gs.length c1, .slice A2 L.length c2, .slice A3 B.length c3] 26)
  obtain ⟨w1, hw1, hb1, hz1, hs1⟩ := box1 w0 (.cells #[.slice A4 gs.length c4, .slice A5 L.length c5, .slice A6 B.length c6] 26)
  have hb01 := hb0.trans (hb1.mono hb0.size)
  have hz01 := (Mod.ofBelow hb1).keep hz0 (by simp)
  have H1 := Lib.hid (fun V (hb : Below w.heap.size w V) => eqInts_self gs _ _ V (by omega) (row_mod g1 (Mod.ofBelow hb) (by simp)) (row_mod k1 (Mod.ofBelow hb) (by simp)))
  have H2 := Lib.hid (fun V (hb : Below w.heap.size w V) => eqRows_self L _ _ V (by omega) (row_mod g2 (Mod.ofBelow hb) (by simp)) (row_mod k2 (Mod.ofBelow hb) (by simp)))
  have H3 := Lib.hid (fun V (hb : Below w.heap.size w V) => eqBonds_self B _ _ V (by omega) (row_mod g3 (Mod.ofBelow hb) (by simp)) (row_mod k3 (Mod.ofBelow hb) (by simp)))
  have a0 := blk_cell hz01 0
  have a1 := blk_cell hz01 1
  have a2 := blk_cell hz01 2
  simp only [List.getElem?_toArray, List.getElem?_cons_zero, List.getElem?_cons_succ] at a0 a1 a2
  have al := blk_lt hz01
  have b0 := blk_cell hz1 0
  have b1 := blk_cell hz1 1
  have b2 := blk_cell hz1 2
  simp only [List.getElem?_toArray, List.getElem?_cons_zero, List.getElem?_cons_succ] at b0 b1 b2
  have bl := blk_lt hz1
  have Hb01 := Lib.hid hb01; have Hz01 := Lib.hid hz01; have Hz1 := Lib.hid hz1; have Hs0 := Lib.hid hs0; have Hs1 := Lib.hid hs1
  clear hb01 hz01 hz1 hs0 hs1
  clear g1 g2 g3 k1 k2 k3 hb0 hb1 hz0
  go_enter Tryz.func10, Tryz.ntmps10
  go_wp2_with fail
  clear hw0 hw1
  refine (H1.out _ Hb01.out).mono ?_
  rintro e w2 ⟨rfl, hb2⟩
  have hz02 := (Mod.ofBelow hb2).keep Hz01.out (by simp)
  have hz12 := (Mod.ofBelow hb2).keep Hz1.out (by simp)
  have hb02 := Hb01.out.trans (hb2.mono Hb01.out.size)
  clear a0 a1 a2 al b0 b1 b2 bl
  have a0 := blk_cell hz02 0
  have a1 := blk_cell hz02 1
  have a2 := blk_cell hz02 2
  simp only [List.getElem?_toArray, List.getElem?_cons_zero, List.getElem?_cons_succ] at a0 a1 a2
  have al := blk_lt hz02
  have b0 := blk_cell hz12 0
  have b1 := blk_cell hz12 1
  have b2 := blk_cell hz12 2
  simp only [List.getElem?_toArray, List.getElem?_cons_zero, List.getElem?_cons_succ] at b0 b1 b2
  have bl := blk_lt hz12
  have Hz02 := Lib.hid hz02; have Hz12 := Lib.hid hz12; have Hb02 := Lib.hid hb02
  clear hz02 hz12 hb02
  clear hb2
  go_wp2_with fail
  refine (H2.out _ Hb02.out).mono ?_
  rintro e w3 ⟨rfl, hb3⟩
  have hz03 := (Mod.ofBelow hb3).keep Hz02.out (by simp)
  have hz13 := (Mod.ofBelow hb3).keep Hz12.out (by simp)
  have hb03 := Hb02.out.trans (hb3.mono Hb02.out.size)
  clear a0 a1 a2 al b0 b1 b2 bl
  have a0 := blk_cell hz03 0
  have a1 := blk_cell hz03 1
  have a2 := blk_cell hz03 2
  simp only [List.getElem?_toArray, List.getElem?_cons_zero, List.getElem?_cons_succ] at a0 a1 a2
  have al := blk_lt hz03
  have b0 := blk_cell hz13 0
  have b1 := blk_cell hz13 1
  have b2 := blk_cell hz13 2
  simp only [List.getElem?_toArray, List.getElem?_cons_zero, List.getElem?_cons_succ] at b0 b1 b2
  have bl := blk_lt hz13
  have Hz03 := Lib.hid hz03; have Hz13 := Lib.hid hz13; have Hb03 := Lib.hid hb03
  clear hz03 hz13 hb03
  clear hb3
  go_wp2_with fail
  refine (H3.out _ Hb03.out).mono ?_
  rintro e w4 ⟨rfl, hb4⟩
  have hb04 := Hb03.out.trans (hb4.mono Hb03.out.size)
  have Hb04 := Lib.hid hb04
  clear hb04
  clear hb4
  go_wp2
  go_ret
  exact ⟨rfl, Hb04.out⟩

abbrev PVQ (Lo : Nat) (Z : List Nat) (z p f q : Nat) (sl : Sl) (L : List Rw) (B : List Bd) (sl' : Sl) (L' : List Rw) (B' : List Bd) (w : World) : Prop := Sep Lo Z (RepV z p f sl L B) (RepQ q sl' L' B') w
section
variable {Lo : Nat} {Z : List Nat} {z p f q : Nat} {sl sl' sl2 : Sl} {L L' L2 : List Rw} {B B' B2 : List Bd} {w : World}
theorem PVQ.ok (h : PVQ Lo Z z p f q sl L B sl' L' B' w) (hc : ∀ b ∈ B, b.1 ∈ allS sl) : ZOk sl L B := by
  obtain ⟨F, G, h⟩ := h
  exact ⟨h.a.okW, h.a.okF, hc⟩
variable {d K a0 a1 a2 a3 a4 a5 a6 a7 s g ts tg kd n r0 r1 e0 : Int}
end
end Go.Proofs.YtehjfmjibiafdaaGreat
