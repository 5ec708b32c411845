import Derived.Test.YtehjfmjibiafdaaGreatZooDoesJ10
import Derived.Test.YtehjfmjibiafdaaGreatZooDoesJ11
/- The program's Load: its closures and searches. -/
namespace Go.Proofs.YtehjfmjibiafdaaGreat
open Go.RowKit

end Go.Proofs.YtehjfmjibiafdaaGreat

/- The program's Load: the search for a slot; slots as two lists; the word for what Load answers. -/
namespace Go.Proofs.YtehjfmjibiafdaaGreat
open Go.RowKit

attribute [local go_sem] AllFrom.cons_eq AllFrom.nil_eq putF_nil putF_cons wantedL_none wantedL_some OpGoalT OpGoalS OpGoalP YieldsR preF_nil preF_cons

def anyS (x : Int × Bool) (l : Sl) : Bool := (l.findIdx? (eqB x)).isSome
theorem anyS_iff (x : Int × Bool) (l : Sl) : anyS x l = true ↔ x ∈ l := by
  unfold anyS
  cases h : l.findIdx? (eqB x) with
  | some k =>
    obtain ⟨hk, hp⟩ := fi_lt h
    have e : x = l[k] := by simpa [eqB] using hp
    exact ⟨fun _ => by rw [e]; exact List.getElem_mem hk, fun _ => rfl⟩
  | none =>
    rw [List.findIdx?_eq_none_iff] at h
    refine ⟨fun h => (nomatch h), fun hx => ?_⟩
    have := h x hx
    simp [eqB] at this
/-- The slots of the generations gs, those of ks alive. -/
def loadL (gs ks : List Int) : Sl := (List.range gs.length).map fun i => (gs.getD i 0, hasB ks (i : Int))
theorem loadL_len (gs ks : List Int) : (loadL gs ks).length = gs.length := by simp [loadL]
theorem loadL_get (gs ks : List Int) {n : Nat} (h : n < (loadL gs ks).length) : (loadL gs ks)[n] = (gs[n]'(by simpa [loadL] using h), hasB ks (n : Int)) := by
  have h' : n < gs.length := by simpa [loadL] using h
  simp [loadL, List.getD_eq_getElem?_getD, List.getElem?_eq_getElem h']
/-- All sits well ahead of the lists' order. -/
structure LoadIn (gs ks : List Int) : Prop where
  len : gs.length ≤ 60
  gens : ∀ k (h : k < gs.length), 0 ≤ gs[k] ∧ gs[k] ≤ 1000000
  keys : ∀ k (h : k < ks.length), 0 ≤ ks[k] ∧ ks[k] < gs.length
/-- Loaded slots with nobody at a spent generation are slots as they may be. -/
theorem LoadIn.ok {gs ks : List Int} (h : LoadIn gs ks) (h2 : anyS (1000000, true) (loadL gs ks) = false) : SlOk (loadL gs ks) := by
  refine ⟨by rw [loadL_len]; exact h.len, fun x hx => ?_⟩
  obtain ⟨n, hn, rfl⟩ := List.mem_iff_getElem.1 hx
  have hg := loadL_get gs ks hn
  have hb := h.gens n (by simpa [loadL] using hn)
  refine ⟨by rw [hg]; exact hb.1, by rw [hg]; exact hb.2, fun ht => ?_⟩
  have hne : ¬ ((loadL gs ks)[n].1 = 1000000) := by
    intro e
    have hm : ((1000000 : Int), true) ∈ loadL gs ks := by
      have e2 : (loadL gs ks)[n] = (1000000, true) := Prod.ext e ht
      rw [← e2]; exact List.getElem_mem hn
    rw [← anyS_iff, h2] at hm
    cases hm
  have : (loadL gs ks)[n].1 ≤ 1000000 := by rw [hg]; exact hb.2
  omega
end Go.Proofs.YtehjfmjibiafdaaGreat

/- The program's Load. -/
namespace Go.Proofs.YtehjfmjibiafdaaGreat
open Go.RowKit

theorem RepS.open_ {w : World} {p : Nat} {l : Sl} {F : List Nat} (h : RepS w p l F) : ∃ A cap, w.heap[p]? = some (.cells #[.slice A l.length cap] 157 (0, 0)) ∧ w.ownsRow 0 159 2 (.slice A l.length cap) l.length (l.flatMap slotC) ∧ F = p :: (Value.slice A l.length cap).ownBlock.toList := by
  obtain ⟨v, h1, h2, h3, -⟩ := h
  obtain ⟨A, cap, rfl, -, -⟩ := row_slice h2
  exact ⟨A, cap, h1, h2, h3⟩

end Go.Proofs.YtehjfmjibiafdaaGreat

/- The reference's Copy and outside; make in a region. -/
namespace Go.Proofs.YtehjfmjibiafdaaGreat
open Go Go.RowKit

set_option maxHeartbeats 1000000 in
theorem copyInt_any (A : Option Addr) (c : Nat) (l : List Int) (B : Nat) (w : World) (hl : l.length ≤ 60) (hA : Lies w B A (ints l)) (hB : B ≤ w.heap.size) :
    Calls Tryz.prog 39 #[.slice A l.length c] w (MadeInts w.heap.size l w) := by
  have hrow : w.ownsRow w.heap.size 3 1 (.slice none 0 0) 0 [] := ⟨rfl, .inl ⟨rfl, rfl⟩⟩
  obtain ⟨i0, hi, hz0, hz1, hz2⟩ := info_parts info_int
  have Hi := Lib.hid hi; have Hz0 := Lib.hid hz0; have Hz1 := Lib.hid hz1; have Hz2 := Lib.hid hz2
  clear hi hz0 hz1 hz2
  cases A with
  | none =>
    have hl0 : l = [] := by
      cases l with
      | nil => rfl
      | cons x l =>
        obtain ⟨a, h, -⟩ := hA 0 _ rfl
        cases h
    subst hl0
    clear hA
    go_enter Tryz.func39, Tryz.ntmps39
    go_wp2
    go_ret
    exact ⟨_, rfl, hrow, Below.refl _ _⟩
  | some a =>
    have HA := Lib.hid hA
    have hcell : ∀ j u, (ints l)[j]? = some u → w.cell? (a.add j) = some u := by
      intro j u hu
      obtain ⟨a', h, -, hc⟩ := HA.out j u hu
      cases h; exact hc
    have Hc := Lib.hid hcell; have Hr := Lib.hid hrow
    clear hcell hrow hA
    have hone : ∀ u ∈ ints l, u.oneCell' = true := by
      intro u hu
      simp only [ints, List.mem_map] at hu
      obtain ⟨x, -, rfl⟩ := hu
      rfl
    have Ho := Lib.hid hone
    clear hone
    go_enter Tryz.func39, Tryz.ntmps39
    go_wp2_with (at_builtin; refine wpList_append_own w rfl _ _ 22 rfl w.heap.size 3 i0 (.int .i64 0) 1 8 Tryz.underlying22 Hi.out Hz0.out Hz1.out Hz2.out rfl (by omega) (.slice none 0 0) 0 [] rfl Hr.out a l.length c (ints l) rfl (by simp [ints]) Hc.out Ho.out (by unfold maxLen; omega) (by omega) (Nat.le_refl _) ?_; intro v' w' h1 h2 h3)
    go_ret
    refine ⟨_, rfl, by simpa using h1, (Below.refl _ _).grown h2 (Nat.le_refl _) (by simp [Value.ownBlock])⟩
end Go.Proofs.YtehjfmjibiafdaaGreat

/- The contract of Eq at lists of rows. -/
namespace Go.Proofs.YtehjfmjibiafdaaGreat
open Go Go.RowKit

attribute [local go_sem] AllFrom.cons_eq AllFrom.nil_eq putF_nil putF_cons wantedL_none wantedL_some OpGoalQ YieldsR preF_nil preF_cons

set_option maxRecDepth 20000 in
set_option maxHeartbeats 1000000 in
theorem eqRow_any (A : Option Addr) (c : Nat) (A' : Option Addr) (c' : Nat) (l l' : List Rw) (w : World) (hl : l.length ≤ 9223372036854775807) (hl' : l'.length ≤ 9223372036854775807)
    (hA : Lies w w.heap.size A (l.flatMap rwC)) (hA' : Lies w w.heap.size A' (l'.flatMap rwC)) :
    Calls Tryz.prog 23 #[.slice A l.length c, .slice A' l'.length c'] w fun e w' => e = .returned (.bool (eqB l l')) ∧ Below w.heap.size w w' := by
  by_cases hlen : l.length = l'.length
  · have hb : ((l.length : Int) != (l'.length : Int)) = false := by simp [hlen]
    have Hlen := Lib.hid hlen
    clear hlen
    go_enter Tryz.func23, Tryz.ntmps23
    go_wp2
    go_loopw [14] (fun i wr => ∃ k : Nat, k ≤ l.length ∧ i = .int .i64 k ∧ l.take k = l'.take k ∧ Below w.heap.size w wr) (fun i _ => l.length - (intOf i).toNat)
    case atStart => exact ⟨0, by omega, rfl, rfl, Below.refl _ _⟩
    case round =>
      obtain ⟨k, hk, rfl, heq, hbel⟩ := hrel
      have Heq := Lib.hid heq
      clear heq hb
      have hsz := hbel.size
      by_cases hlt : k < l.length
      · have hlt' : k < l'.length := by rw [← Hlen.out]; exact hlt
        obtain ⟨ab, ao, rfl, hal, hc⟩ := hA.rec_at rwC_len (by omega) hlt
        obtain ⟨bb, bo, rfl, hbl, hc'⟩ := hA'.rec_at rwC_len (by omega) hlt'
        have hs := take_succ_get l k hlt
        have hs' := take_succ_get l' k hlt'
        have hne : l[k] ≠ l'[k] → l ≠ l' := by
          intro h e; subst e; exact h rfl
        have hc1 : ∀ j u, (rwC l[k])[j]? = some u → wr.cell? ((⟨ab, ao + k * 11, none⟩ : Addr).add j) = some u := fun j u hu => by
          have := (hbel.cell (p := ⟨ab, ao + k * 11 + j, none⟩) hal).trans (hc j u hu)
          rw [Addr.add_mid]; exact this
        have hc2 : ∀ j u, (rwC l'[k])[j]? = some u → wr.cell? ((⟨bb, bo + k * 11, none⟩ : Addr).add j) = some u := fun j u hu => by
          have := (hbel.cell (p := ⟨bb, bo + k * 11 + j, none⟩) hbl).trans (hc' j u hu)
          rw [Addr.add_mid]; exact this
        have hal2 : ab < wr.heap.size := by omega
        have hbl2 : bb < wr.heap.size := by omega
        have hin : (k : Int) < (l'.length : Int) := by omega
        generalize l[k] = x at *
        generalize l'[k] = y at *
        have Hs := Lib.hid hs; have Hs' := Lib.hid hs'; have Hne := Lib.hid hne; have Hc1 := Lib.hid hc1; have Hc2 := Lib.hid hc2; have Hbel := Lib.hid hbel
        have he := fun w => neqRow w x y
        clear hs hs' hne hc hc' hA hA' hc1 hc2 hbel
        generalize hr : eqB x y = r at *
        have Hr := Lib.hid hr
        clear hr
        have hDa : ∀ u ∈ rwC x, u.oneCell' = true := rwC_one x
        have HDa := Lib.hid hDa
        clear hDa
        go_wp2_with (first | (refine wpList_load_flat rfl 69 (.tmp 17) rfl _ rfl (rwC x) _ Tryz.underlying69 rfl (sz_Row _) Hc1.out ?_) | (refine wpList_store_new rfl 69 (.tmp 6) (.tmp 18) rfl wr (ints [0, 0, 0, 0, 0, 0, 0, 0, 0, 0, 0]) (rwC x) 69 rfl rfl rfl (sz_Row _) HDa.out ?_))
        have hnew : ∀ j u, (rwC x)[j]? = some u → (wr.alloc (.cells (rwC x).toArray 69)).drew.cell? ((⟨wr.heap.size, 0, none⟩ : Addr).add j) = some u := fun j u hu => new_rec rfl (by simp) j u hu
        have hold : ∀ j u, (rwC y)[j]? = some u → (wr.alloc (.cells (rwC x).toArray 69)).drew.cell? ((⟨bb, bo + k * 11, none⟩ : Addr).add j) = some u := fun j u hu => by
          have := Hc2.out j u hu
          rw [Addr.add_mid] at this ⊢
          exact (((Below.refl wr.heap.size wr).alloc (Nat.le_refl _) _).cell (p := ⟨bb, bo + k * 11 + j, none⟩) hbl2).trans this
        have Hnew := Lib.hid hnew; have Hold := Lib.hid hold
        clear hnew hold
        refine wp_planR 6 [1, 2] [some 19, some 20, some 21, some 22, some 23, some 24] [[], [], [], [1, 2], [1, 2, 3], [0, 1, 2, 3, 4]] [0, 1, 2, 3, 4, 5] mixed rfl (by kernel_rfl) (by decide) (by decide) rfl ?_
        iterate 6 apply Exists.intro
        refine ⟨rfl, ?_, ?_⟩
        · simp only [List.take_succ_cons, List.take_zero, AllFrom.cons_eq, AllFrom.nil_eq, OpGoalQ]
          refine ⟨?_, ?_, ?_, ?_, ?_, ?_, trivial⟩
          all_goals (intro σ hp; (try simp only [List.getD_cons_zero, List.getD_cons_succ, List.map_cons, List.map_nil, preF_cons, preF_nil, isV, and_true] at hp); (first | (have hq : True := hp; clear hq hp) | skip))
          · (simp only [wantedL_none, ↓reduceIte, List.getD_cons_zero, List.getD_cons_succ]; refine yr_load 69 (.tmp 6) (by rfl) ⟨wr.heap.size, 0, none⟩ ?_ (rwC x) _ Tryz.underlying69 rfl (sz_Row _) Hnew.out ?_; (· go_simp); (· exact ⟨rfl, rfl⟩))
          · (go_simp; exact ⟨rfl, rfl⟩)
          · (go_simp; exact ⟨rfl, rfl⟩)
          · (go_simp; exact ⟨rfl, rfl⟩)
          · (simp only [wantedL_none, ↓reduceIte, List.getD_cons_zero, List.getD_cons_succ]; refine yr_load 69 (.tmp 22) (by rfl) ⟨bb, bo + k * 11, none⟩ ?_ (rwC y) _ Tryz.underlying69 rfl (sz_Row _) Hold.out ?_; (· go_simp); (· exact ⟨rfl, rfl⟩))
          · (go_simp; exact ⟨rfl, rfl⟩)
        intro σ hp
        simp only [List.getD_cons_zero, List.getD_cons_succ, List.map_cons, List.map_nil, preF_cons, preF_nil, isV, and_true] at hp
        simp only [List.drop_succ_cons, List.drop_zero]
        go_simp
        clear hp
        cases r with
        | true =>
          have hxy : x = y := by simpa [eqB] using Hr.out
          have Hxy := Lib.hid hxy
          clear hxy
          go_simp
          refine ⟨rfl, ?_⟩
          go_wp2
          go_roundw
          case rel => exact ⟨k + 1, by omega, by go_num, by rw [Hs.out, Hs'.out, Heq.out, Hxy.out], (Hbel.out.alloc hsz _).drew⟩
          case measure => simp [intOf]; omega
        | false =>
          have hxy : x ≠ y := by intro e; have := Hr.out; rw [e, eqB_self] at this; cases this
          have Hf := Lib.hid (eqB_ne (Hne.out hxy))
          clear hxy
          go_simp
          refine ⟨rfl, ?_⟩
          go_wp2
          go_ret
          exact ⟨by rw [Hf.out]; rfl, (Hbel.out.alloc hsz _).drew⟩
      · have he : l = l' := by
          have := Heq.out
          rwa [List.take_of_length_le (by omega), List.take_of_length_le (by have := Hlen.out; omega)] at this
        have Hf : Hid (eqB l l' = true) := by rw [he]; exact eqB_self _
        clear he
        go_wp2
        go_ret
        exact ⟨by rw [Hf.out]; rfl, hbel⟩
  · have hb : ((l.length : Int) != (l'.length : Int)) = true := by simp; omega
    have Hf := Lib.hid (eqB_ne (fun e : l = l' => hlen (congrArg List.length e)))
    clear hlen
    go_enter Tryz.func23, Tryz.ntmps23
    go_wp2
    go_ret
    exact ⟨by rw [Hf.out]; rfl, Below.refl _ _⟩
end Go.Proofs.YtehjfmjibiafdaaGreat
