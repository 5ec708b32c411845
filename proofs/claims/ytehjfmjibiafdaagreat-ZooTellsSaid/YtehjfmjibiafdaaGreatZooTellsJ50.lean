import Derived.Test.YtehjfmjibiafdaaGreatZooTellsJ10
import Derived.Test.YtehjfmjibiafdaaGreatZooTellsJ11
import Derived.Test.YtehjfmjibiafdaaGreatZooTellsJ47
import Derived.Test.YtehjfmjibiafdaaGreatZooTellsJ49
import Derived.Test.YtehjfmjibiafdaaGreatZooTellsJ42
import Derived.Test.YtehjfmjibiafdaaGreatZooTellsJ43
import Derived.Test.YtehjfmjibiafdaaGreatZooTellsJ3
/- The program's Load: its closures and searches. -/
namespace Go.Proofs.YtehjfmjibiafdaaGreat
open Go.RowKit

end Go.Proofs.YtehjfmjibiafdaaGreat

/- The program's Load: the search for a slot; slots as two lists; the word for what Load answers. -/
namespace Go.Proofs.YtehjfmjibiafdaaGreat
open Go.RowKit

attribute [local go_sem] AllFrom.cons_eq AllFrom.nil_eq putF_nil putF_cons wantedL_none wantedL_some OpGoalT OpGoalS OpGoalP YieldsR preF_nil preF_cons

def anyS (x : Int × Bool) (l : Sl) : Bool := (l.findIdx? (eqB x)).isSome
theorem anyS_iff (x : Int × Bool) (l : Sl) : anyS x l = true ↔ x ∈ l := by
  unfold anyS
  cases h : l.findIdx? (eqB x) with
  | some k =>
    obtain ⟨hk, hp⟩ := fi_lt h
    have e : x = l[k] := by simpa [eqB] using hp
    exact ⟨fun _ => by rw [e]; exact List.getElem_mem hk, fun _ => rfl⟩
  | none =>
    rw [List.findIdx?_eq_none_iff] at h
    refine ⟨fun h => (nomatch h), fun hx => ?_⟩
    have := h x hx
    simp [eqB] at this
/-- The slots of the generations gs, those of ks alive. -/
def loadL (gs ks : List Int) : Sl := (List.range gs.length).map fun i => (gs.getD i 0, hasB ks (i : Int))
theorem loadL_len (gs ks : List Int) : (loadL gs ks).length = gs.length := by simp [loadL]
theorem loadL_get (gs ks : List Int) {n : Nat} (h : n < (loadL gs ks).length) : (loadL gs ks)[n] = (gs[n]'(by simpa [loadL] using h), hasB ks (n : Int)) := by
  have h' : n < gs.length := by simpa [loadL] using h
  simp [loadL, List.getD_eq_getElem?_getD, List.getElem?_eq_getElem h']
/-- All sits well ahead of the lists' order. -/
structure LoadIn (gs ks : List Int) : Prop where
  len : gs.length ≤ 60
  gens : ∀ k (h : k < gs.length), 0 ≤ gs[k] ∧ gs[k] ≤ 1000000
  keys : ∀ k (h : k < ks.length), 0 ≤ ks[k] ∧ ks[k] < gs.length
/-- Loaded slots with nobody at a spent generation are slots as they may be. -/
theorem LoadIn.ok {gs ks : List Int} (h : LoadIn gs ks) (h2 : anyS (1000000, true) (loadL gs ks) = false) : SlOk (loadL gs ks) := by
  refine ⟨by rw [loadL_len]; exact h.len, fun x hx => ?_⟩
  obtain ⟨n, hn, rfl⟩ := List.mem_iff_getElem.1 hx
  have hg := loadL_get gs ks hn
  have hb := h.gens n (by simpa [loadL] using hn)
  refine ⟨by rw [hg]; exact hb.1, by rw [hg]; exact hb.2, fun ht => ?_⟩
  have hne : ¬ ((loadL gs ks)[n].1 = 1000000) := by
    intro e
    have hm : ((1000000 : Int), true) ∈ loadL gs ks := by
      have e2 : (loadL gs ks)[n] = (1000000, true) := Prod.ext e ht
      rw [← e2]; exact List.getElem_mem hn
    rw [← anyS_iff, h2] at hm
    cases hm
  have : (loadL gs ks)[n].1 ≤ 1000000 := by rw [hg]; exact hb.2
  omega
end Go.Proofs.YtehjfmjibiafdaaGreat

/- The program's Load. -/
namespace Go.Proofs.YtehjfmjibiafdaaGreat
open Go.RowKit

theorem RepS.open_ {w : World} {p : Nat} {l : Sl} {F : List Nat} (h : RepS w p l F) : ∃ A cap, w.heap[p]? = some (.cells #[.slice A l.length cap] 157 (0, 0)) ∧ w.ownsRow 0 159 2 (.slice A l.length cap) l.length (l.flatMap slotC) ∧ F = p :: (Value.slice A l.length cap).ownBlock.toList := by
  obtain ⟨v, h1, h2, h3, -⟩ := h
  obtain ⟨A, cap, rfl, -, -⟩ := row_slice h2
  exact ⟨A, cap, h1, h2, h3⟩

end Go.Proofs.YtehjfmjibiafdaaGreat

/- The reference's Copy and outside; make in a region. -/
namespace Go.Proofs.YtehjfmjibiafdaaGreat
open Go Go.RowKit

end Go.Proofs.YtehjfmjibiafdaaGreat

/- The contract of Eq at lists of rows. -/
namespace Go.Proofs.YtehjfmjibiafdaaGreat
open Go Go.RowKit

attribute [local go_sem] AllFrom.cons_eq AllFrom.nil_eq putF_nil putF_cons wantedL_none wantedL_some OpGoalQ YieldsR preF_nil preF_cons

set_option maxRecDepth 20000 in
set_option maxHeartbeats 1000000 in
theorem eqRow_any (A : Option Addr) (c : Nat) (A' : Option Addr) (c' : Nat) (l l' : List Rw) (w : World) (hl : l.length ≤ 9223372036854775807) (hl' : l'.length ≤ 9223372036854775807)
    (hA : Lies w w.heap.size A (l.flatMap rwC)) (hA' : Lies w w.heap.size A' (l'.flatMap rwC)) :
    Calls Tryz.prog 23 #[.slice A l.length c, .slice A' l'.length c'] w fun e w' => e = .returned (.bool (eqB l l')) ∧ Below w.heap.size w w' := by
  by_cases hlen : l.length = l'.length
  · have hb : ((l.length : Int) != (l'.length : Int)) = false := by simp [hlen]
    have Hlen := Lib.hid hlen
    clear hlen
    go_enter Tryz.func23, Tryz.ntmps23
    go_wp2
    go_loopw [14] (fun i wr => ∃ k : Nat, k ≤ l.length ∧ i = .int .i64 k ∧ l.take k = l'.take k ∧ Below w.heap.size w wr) (fun i _ => l.length - (Go.RowKit.intOf i).toNat)
    case atStart => exact ⟨0, by omega, rfl, rfl, Below.refl _ _⟩
    case round =>
      obtain ⟨k, hk, rfl, heq, hbel⟩ := hrel
      have Heq := Lib.hid heq
      clear heq hb
      have hsz := hbel.size
      by_cases hlt : k < l.length
      · have hlt' : k < l'.length := by rw [← Hlen.out]; exact hlt
        obtain ⟨ab, ao, rfl, hal, hc⟩ := hA.rec_at rwC_len (by omega) hlt
        obtain ⟨bb, bo, rfl, hbl, hc'⟩ := hA'.rec_at rwC_len (by omega) hlt'
        have hs := take_succ_get l k hlt
        have hs' := take_succ_get l' k hlt'
        have hne : l[k] ≠ l'[k] → l ≠ l' := by
          intro h e; subst e; exact h rfl
        have hc1 : ∀ j u, (rwC l[k])[j]? = some u → wr.cell? ((⟨ab, ao + k * 11, none⟩ : Addr).add j) = some u := fun j u hu => by
          have := (hbel.cell (p := ⟨ab, ao + k * 11 + j, none⟩) hal).trans (hc j u hu)
          rw [Addr.add_mid]; exact this
        have hc2 : ∀ j u, (rwC l'[k])[j]? = some u → wr.cell? ((⟨bb, bo + k * 11, none⟩ : Addr).add j) = some u := fun j u hu => by
          have := (hbel.cell (p := ⟨bb, bo + k * 11 + j, none⟩) hbl).trans (hc' j u hu)
          rw [Addr.add_mid]; exact this
        have hal2 : ab < wr.heap.size := by omega
        have hbl2 : bb < wr.heap.size := by omega
        have hin : (k : Int) < (l'.length : Int) := by omega
        generalize l[k] = x at *
        generalize l'[k] = y at *
        have Hs := Lib.hid hs; have Hs' := Lib.hid hs'; have Hne := Lib.hid hne; have Hc1 := Lib.hid hc1; have Hc2 := Lib.hid hc2; have Hbel := Lib.hid hbel
        have he := fun w => neqRow w x y
        clear hs hs' hne hc hc' hA hA' hc1 hc2 hbel
        generalize hr : eqB x y = r at *
        have Hr := Lib.hid hr
        clear hr
        have hDa : ∀ u ∈ rwC x, u.oneCell' = true := rwC_one x
        have HDa := Lib.hid hDa
        clear hDa
        go_wp2_with (first | (refine wpList_load_flat rfl 69 (.tmp 17) rfl _ rfl (rwC x) _ Tryz.underlying69 rfl (sz_Row _) Hc1.out ?_) | (refine wpList_store_new rfl 69 (.tmp 6) (.tmp 18) rfl wr (ints [0, 0, 0, 0, 0, 0, 0, 0, 0, 0, 0]) (rwC x) 69 rfl rfl rfl (sz_Row _) HDa.out ?_))
        have hnew : ∀ j u, (rwC x)[j]? = some u → (wr.alloc (.cells (rwC x).toArray 69)).drew.cell? ((⟨wr.heap.size, 0, none⟩ : Addr).add j) = some u := fun j u hu => new_rec rfl (by simp) j u hu
        have hold : ∀ j u, (rwC y)[j]? = some u → (wr.alloc (.cells (rwC x).toArray 69)).drew.cell? ((⟨bb, bo + k * 11, none⟩ : Addr).add j) = some u := fun j u hu => by
          have := Hc2.out j u hu
          rw [Addr.add_mid] at this ⊢
          exact (((Below.refl wr.heap.size wr).alloc (Nat.le_refl _) _).cell (p := ⟨bb, bo + k * 11 + j, none⟩) hbl2).trans this
        have Hnew := Lib.hid hnew; have Hold := Lib.hid hold
        clear hnew hold
        refine wp_planR 6 [1, 2] [some 19, some 20, some 21, some 22, some 23, some 24] [[], [], [], [1, 2], [1, 2, 3], [0, 1, 2, 3, 4]] [0, 1, 2, 3, 4, 5] mixed rfl (by kernel_rfl) (by decide) (by decide) rfl ?_
        iterate 6 apply Exists.intro
        refine ⟨rfl, ?_, ?_⟩
        · simp only [List.take_succ_cons, List.take_zero, AllFrom.cons_eq, AllFrom.nil_eq, OpGoalQ]
          refine ⟨?_, ?_, ?_, ?_, ?_, ?_, trivial⟩
          all_goals (intro σ hp; (try simp only [List.getD_cons_zero, List.getD_cons_succ, List.map_cons, List.map_nil, preF_cons, preF_nil, isV, and_true] at hp); (first | (have hq : True := hp; clear hq hp) | skip))
          · (simp only [wantedL_none, ↓reduceIte, List.getD_cons_zero, List.getD_cons_succ]; refine yr_load 69 (.tmp 6) (by rfl) ⟨wr.heap.size, 0, none⟩ ?_ (rwC x) _ Tryz.underlying69 rfl (sz_Row _) Hnew.out ?_; (· go_simp); (· exact ⟨rfl, rfl⟩))
          · (go_simp; exact ⟨rfl, rfl⟩)
          · (go_simp; exact ⟨rfl, rfl⟩)
          · (go_simp; exact ⟨rfl, rfl⟩)
          · (simp only [wantedL_none, ↓reduceIte, List.getD_cons_zero, List.getD_cons_succ]; refine yr_load 69 (.tmp 22) (by rfl) ⟨bb, bo + k * 11, none⟩ ?_ (rwC y) _ Tryz.underlying69 rfl (sz_Row _) Hold.out ?_; (· go_simp); (· exact ⟨rfl, rfl⟩))
          · (go_simp; exact ⟨rfl, rfl⟩)
        intro σ hp
        simp only [List.getD_cons_zero, List.getD_cons_succ, List.map_cons, List.map_nil, preF_cons, preF_nil, isV, and_true] at hp
        simp only [List.drop_succ_cons, List.drop_zero]
        go_simp
        clear hp
        cases r with
        | true =>
          have hxy : x = y := by simpa [eqB] using Hr.out
          have Hxy := Lib.hid hxy
          clear hxy
          go_simp
          refine ⟨rfl, ?_⟩
          go_wp2
          go_roundw
          case rel => exact ⟨k + 1, by omega, by go_num, by rw [Hs.out, Hs'.out, Heq.out, Hxy.out], (Hbel.out.alloc hsz _).drew⟩
          case measure => simp [Go.RowKit.intOf]; omega
        | false =>
          have hxy : x ≠ y := by intro e; have := Hr.out; rw [e, eqB_self] at this; cases this
          have Hf := Lib.hid (eqB_ne (Hne.out hxy))
          clear hxy
          go_simp
          refine ⟨rfl, ?_⟩
          go_wp2
          go_ret
          exact ⟨by rw [Hf.out]; rfl, (Hbel.out.alloc hsz _).drew⟩
      · have he : l = l' := by
          have := Heq.out
          rwa [List.take_of_length_le (by omega), List.take_of_length_le (by have := Hlen.out; omega)] at this
        have Hf : Hid (eqB l l' = true) := by rw [he]; exact eqB_self _
        clear he
        go_wp2
        go_ret
        exact ⟨by rw [Hf.out]; rfl, hbel⟩
  · have hb : ((l.length : Int) != (l'.length : Int)) = true := by simp; omega
    have Hf := Lib.hid (eqB_ne (fun e : l = l' => hlen (congrArg List.length e)))
    clear hlen
    go_enter Tryz.func23, Tryz.ntmps23
    go_wp2
    go_ret
    exact ⟨by rw [Hf.out]; rfl, Below.refl _ _⟩
end Go.Proofs.YtehjfmjibiafdaaGreat

/- State of both zoos. (printed by mk_zst.py) -/
namespace Go.Proofs.YtehjfmjibiafdaaGreat
open Go Go.RowKit
attribute [local go_sem] AllFrom.cons_eq AllFrom.nil_eq putF_nil putF_cons wantedL_none wantedL_some OpGoalT OpGoalV OpGoalQ OpGoalA OpGoalK YieldsR preF_nil preF_cons

/-- A row that a call makes: the operation, the type of its elements, their size, how many, the cells. -/
abbrev Rs := Nat × TypeId × Nat × Nat × List Value
/-- A region of calls that make rows. -/
structure IRs (w0 : World) (R : List Rs) (L : Nat → Bool) (σ : Nat → Value) (V : World) : Prop where
  b : Below w0.heap.size w0 V
  r : ∀ x ∈ R, L x.1 = true → V.ownsRow w0.heap.size x.2.1 x.2.2.1 (σ x.1) x.2.2.2.1 x.2.2.2.2
section
variable {w0 V V' : World} {R : List Rs} {L : Nat → Bool} {σ : Nat → Value}
theorem IRs.start (h : Below w0.heap.size w0 V) : IRs w0 R (fun _ => false) σ V := ⟨h, fun _ _ e => (by cases e)⟩
theorem IRs.read (h : IRs w0 R L σ V) {i : Nat} (hi : i ∉ R.map (·.1)) (v : Value) : IRs w0 R (upd L i) (updv σ i v) V := by
  refine ⟨h.b, fun x hx e => ?_⟩
  have hne : x.1 ≠ i := fun e2 => hi (e2 ▸ List.mem_map.2 ⟨x, hx, rfl⟩)
  have e1 : upd L i x.1 = L x.1 := by unfold upd; simp [hne]
  have e2 : updv σ i v x.1 = σ x.1 := by unfold updv; rw [if_neg hne]
  rw [e1] at e
  rw [e2]
  exact h.r x hx e
theorem IRs.got (h : IRs w0 R L σ V) {m : Nat} {v : Value} (hb : Below V.heap.size V V') (hv : ∀ x ∈ R, x.1 = m → V'.ownsRow V.heap.size x.2.1 x.2.2.1 v x.2.2.2.1 x.2.2.2.2) : IRs w0 R (upd L m) (updv σ m v) V' := by
  refine ⟨h.b.trans (hb.mono h.b.size), fun x hx e => ?_⟩
  by_cases hm : x.1 = m
  · have h1 := hv x hx hm
    have e2 : updv σ m v x.1 = v := by unfold updv; simp [hm]
    rw [e2]
    exact row_base h1 (fun j hj => Nat.le_trans h.b.size (own_ge h1 j hj))
  · have e1 : upd L m x.1 = L x.1 := by unfold upd; simp [hm]
    have e2 : updv σ m v x.1 = σ x.1 := by unfold updv; rw [if_neg hm]
    rw [e1] at e
    rw [e2]
    exact row_mod (h.r x hx e) (Mod.ofBelow hb) (by simp)
end
section
variable {z p f q : Nat} {sl : Sl} {L : List Rw} {B : List Bd} {w : World} {F : List Nat}
end
end Go.Proofs.YtehjfmjibiafdaaGreat
