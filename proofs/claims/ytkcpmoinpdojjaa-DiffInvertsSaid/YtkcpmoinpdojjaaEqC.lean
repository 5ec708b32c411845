/- The contract of Eq at lists of changes. -/
import Derived.Test.YtkcpmoinpdojjaaRec
namespace Go.Proofs.Ytkcpmoinpdojjaa
open Go Go.RowKit

attribute [local go_sem] AllFrom.cons_eq AllFrom.nil_eq putF_nil putF_cons wantedL_none wantedL_some OpGoalQ YieldsR preF_nil preF_cons

set_option maxRecDepth 20000 in
set_option maxHeartbeats 1000000 in
theorem eqChange_any (A : Option Addr) (c : Nat) (A' : Option Addr) (c' : Nat) (l l' : List Cg) (w : World) (hl : l.length ≤ 9223372036854775807) (hl' : l'.length ≤ 9223372036854775807)
    (hA : Lies w w.heap.size A (l.flatMap cgC)) (hA' : Lies w w.heap.size A' (l'.flatMap cgC)) :
    Calls Try.prog 51 #[.slice A l.length c, .slice A' l'.length c'] w fun e w' => e = .returned (.bool (eqB l l')) ∧ Below w.heap.size w w' := by
  by_cases hlen : l.length = l'.length
  · have hb : ((l.length : Int) != (l'.length : Int)) = false := by simp [hlen]
    have Hlen := Lib.hid hlen
    clear hlen
    go_enter Try.func51, Try.ntmps51
    go_wp2
    go_loopw [14] (fun i wr => ∃ k : Nat, k ≤ l.length ∧ i = .int .i64 k ∧ l.take k = l'.take k ∧ Below w.heap.size w wr) (fun i _ => l.length - (intOf i).toNat)
    case atStart => exact ⟨0, by omega, rfl, rfl, Below.refl _ _⟩
    case round =>
      obtain ⟨k, hk, rfl, heq, hbel⟩ := hrel
      have Heq := Lib.hid heq
      clear heq hb
      have hsz := hbel.size
      by_cases hlt : k < l.length
      · have hlt' : k < l'.length := by rw [← Hlen.out]; exact hlt
        obtain ⟨ab, ao, rfl, hal, hc⟩ := hA.rec_at cgC_len (by omega) hlt
        obtain ⟨bb, bo, rfl, hbl, hc'⟩ := hA'.rec_at cgC_len (by omega) hlt'
        have hs := take_succ_get l k hlt
        have hs' := take_succ_get l' k hlt'
        have hne : l[k] ≠ l'[k] → l ≠ l' := by
          intro h e; subst e; exact h rfl
        have hc1 : ∀ j u, (cgC l[k])[j]? = some u → wr.cell? ((⟨ab, ao + k * 20, none⟩ : Addr).add j) = some u := fun j u hu => by
          have := (hbel.cell (p := ⟨ab, ao + k * 20 + j, none⟩) hal).trans (hc j u hu)
          rw [Addr.add_mid]; exact this
        have hc2 : ∀ j u, (cgC l'[k])[j]? = some u → wr.cell? ((⟨bb, bo + k * 20, none⟩ : Addr).add j) = some u := fun j u hu => by
          have := (hbel.cell (p := ⟨bb, bo + k * 20 + j, none⟩) hbl).trans (hc' j u hu)
          rw [Addr.add_mid]; exact this
        have hal2 : ab < wr.heap.size := by omega
        have hbl2 : bb < wr.heap.size := by omega
        have hin : (k : Int) < (l'.length : Int) := by omega
        generalize l[k] = x at *
        generalize l'[k] = y at *
        have Hs := Lib.hid hs; have Hs' := Lib.hid hs'; have Hne := Lib.hid hne; have Hc1 := Lib.hid hc1; have Hc2 := Lib.hid hc2; have Hbel := Lib.hid hbel
        have he := fun w => neqChange w x y
        clear hs hs' hne hc hc' hA hA' hc1 hc2 hbel
        generalize hr : eqB x y = r at *
        have Hr := Lib.hid hr
        clear hr
        have hDa : ∀ u ∈ cgC x, u.oneCell' = true := cgC_one x
        have HDa := Lib.hid hDa
        clear hDa
        go_wp2_with (first | (refine wpList_load_flat rfl 102 (.tmp 17) rfl _ rfl (cgC x) _ Try.underlying102 rfl (sz_Change _) Hc1.out ?_) | (refine wpList_store_new rfl 102 (.tmp 6) (.tmp 18) rfl wr (ints [0, 0, 0, 0, 0, 0, 0, 0, 0, 0, 0, 0, 0, 0, 0, 0, 0, 0, 0, 0]) (cgC x) 102 rfl rfl rfl (sz_Change _) HDa.out ?_))
        have hnew : ∀ j u, (cgC x)[j]? = some u → (wr.alloc (.cells (cgC x).toArray 102)).drew.cell? ((⟨wr.heap.size, 0, none⟩ : Addr).add j) = some u := fun j u hu => new_rec rfl (by simp) j u hu
        have hold : ∀ j u, (cgC y)[j]? = some u → (wr.alloc (.cells (cgC x).toArray 102)).drew.cell? ((⟨bb, bo + k * 20, none⟩ : Addr).add j) = some u := fun j u hu => by
          have := Hc2.out j u hu
          rw [Addr.add_mid] at this ⊢
          exact (((Below.refl wr.heap.size wr).alloc (Nat.le_refl _) _).cell (p := ⟨bb, bo + k * 20 + j, none⟩) hbl2).trans this
        have Hnew := Lib.hid hnew; have Hold := Lib.hid hold
        clear hnew hold
        refine wp_planR 6 [1, 2] [some 19, some 20, some 21, some 22, some 23, some 24] [[], [], [], [1, 2], [1, 2, 3], [0, 1, 2, 3, 4]] [0, 1, 2, 3, 4, 5] mixed rfl (by kernel_rfl) (by decide) (by decide) rfl ?_
        iterate 6 apply Exists.intro
        refine ⟨rfl, ?_, ?_⟩
        · simp only [List.take_succ_cons, List.take_zero, AllFrom.cons_eq, AllFrom.nil_eq, OpGoalQ]
          refine ⟨?_, ?_, ?_, ?_, ?_, ?_, trivial⟩
          all_goals (intro σ hp; (try simp only [List.getD_cons_zero, List.getD_cons_succ, List.map_cons, List.map_nil, preF_cons, preF_nil, isV, and_true] at hp); (first | (have hq : True := hp; clear hq hp) | skip))
          · (simp only [wantedL_none, ↓reduceIte, List.getD_cons_zero, List.getD_cons_succ]; refine yr_load 102 (.tmp 6) (by rfl) ⟨wr.heap.size, 0, none⟩ ?_ (cgC x) _ Try.underlying102 rfl (sz_Change _) Hnew.out ?_; (· go_simp); (· exact ⟨rfl, rfl⟩))
          · (go_simp; exact ⟨rfl, rfl⟩)
          · (go_simp; exact ⟨rfl, rfl⟩)
          · (go_simp; exact ⟨rfl, rfl⟩)
          · (simp only [wantedL_none, ↓reduceIte, List.getD_cons_zero, List.getD_cons_succ]; refine yr_load 102 (.tmp 22) (by rfl) ⟨bb, bo + k * 20, none⟩ ?_ (cgC y) _ Try.underlying102 rfl (sz_Change _) Hold.out ?_; (· go_simp); (· exact ⟨rfl, rfl⟩))
          · (go_simp; exact ⟨rfl, rfl⟩)
        intro σ hp
        simp only [List.getD_cons_zero, List.getD_cons_succ, List.map_cons, List.map_nil, preF_cons, preF_nil, isV, and_true] at hp
        simp only [List.drop_succ_cons, List.drop_zero]
        go_simp
        clear hp
        cases r with
        | true =>
          have hxy : x = y := by simpa [eqB] using Hr.out
          have Hxy := Lib.hid hxy
          clear hxy
          go_simp
          refine ⟨rfl, ?_⟩
          go_wp2
          go_roundw
          case rel => exact ⟨k + 1, by omega, by go_num, by rw [Hs.out, Hs'.out, Heq.out, Hxy.out], (Hbel.out.alloc hsz _).drew⟩
          case measure => simp [intOf]; omega
        | false =>
          have hxy : x ≠ y := by intro e; have := Hr.out; rw [e, eqB_self] at this; cases this
          have Hf := Lib.hid (eqB_ne (Hne.out hxy))
          clear hxy
          go_simp
          refine ⟨rfl, ?_⟩
          go_wp2
          go_ret
          exact ⟨by rw [Hf.out]; rfl, (Hbel.out.alloc hsz _).drew⟩
      · have he : l = l' := by
          have := Heq.out
          rwa [List.take_of_length_le (by omega), List.take_of_length_le (by have := Hlen.out; omega)] at this
        have Hf : Hid (eqB l l' = true) := by rw [he]; exact eqB_self _
        clear he
        go_wp2
        go_ret
        exact ⟨by rw [Hf.out]; rfl, hbel⟩
  · have hb : ((l.length : Int) != (l'.length : Int)) = true := by simp; omega
    have Hf := Lib.hid (eqB_ne (fun e : l = l' => hlen (congrArg List.length e)))
    clear hlen
    go_enter Try.func51, Try.ntmps51
    go_wp2
    go_ret
    exact ⟨by rw [Hf.out]; rfl, Below.refl _ _⟩
end Go.Proofs.Ytkcpmoinpdojjaa
