/- The contract of Eq at lists of handles. -/
import Derived.Test.YtkcpmoinpdojjaaSlot3
namespace Go.Proofs.Ytkcpmoinpdojjaa
open Go.RowKit

/-- One record of a list that lies flat, by block and offset. -/
theorem Lies.rec_at {α : Type} {enc : α → List Value} {n : Nat} {w : World} {B : Nat} {A : Option Addr} {l : List α} (h : Lies w B A (l.flatMap enc)) (hf : ∀ x, (enc x).length = n) (hn : 0 < n) {k : Nat} (hk : k < l.length) :
    ∃ b o, A = some ⟨b, o, none⟩ ∧ b < B ∧ ∀ j u, (enc l[k])[j]? = some u → w.cell? ⟨b, o + k * n + j, none⟩ = some u := by
  obtain ⟨a, rfl, hb, hc⟩ := h.rec_ hf hn hk
  obtain ⟨a0, e, -, h0⟩ := h 0 ((l.flatMap enc)[0]'(by rw [flatV_length hf]; exact Nat.mul_pos (by omega) hn)) (List.getElem?_eq_getElem _)
  cases e
  obtain ⟨b, o, s⟩ := a
  have hs : s = none := by
    cases s with
    | none => rfl
    | some x =>
      rw [add_zero] at h0
      simp only [World.cell?] at h0
      split at h0
      · simp at h0
      · cases h0
  subst hs
  refine ⟨b, o, rfl, hb, fun j u hu => ?_⟩
  have := hc j u hu
  rw [add_add_] at this
  have e : (⟨b, o, none⟩ : Addr).add (k * n + j) = ⟨b, o + k * n + j, none⟩ := by
    unfold Addr.add
    split
    · next h0 => simp only [Addr.mk.injEq, true_and, and_true]; omega
    · simp only [Addr.mk.injEq, true_and, and_true]; omega
  rw [e] at this
  exact this

attribute [local go_sem] AllFrom.cons_eq AllFrom.nil_eq putF_nil putF_cons wantedL_none wantedL_some OpGoalT OpGoalS YieldsR preF_nil preF_cons

set_option maxHeartbeats 1000000 in
theorem eqHandle_any (A : Option Addr) (c : Nat) (A' : Option Addr) (c' : Nat) (l l' : List (Int × Int)) (w : World) (hl : l.length ≤ 9223372036854775807) (hl' : l'.length ≤ 9223372036854775807)
    (hA : Lies w w.heap.size A (l.flatMap handleC)) (hA' : Lies w w.heap.size A' (l'.flatMap handleC)) :
    Calls Try.prog 30 #[.slice A l.length c, .slice A' l'.length c'] w fun e w' => e = .returned (.bool (eqB l l')) ∧ Below w.heap.size w w' := by
  by_cases hlen : l.length = l'.length
  · have hb : ((l.length : Int) != (l'.length : Int)) = false := by simp [hlen]
    have Hlen := Lib.hid hlen
    clear hlen
    go_enter Try.func30, Try.ntmps30
    go_wp2
    go_loopw [14] (fun i wr => ∃ k : Nat, k ≤ l.length ∧ i = .int .i64 k ∧ l.take k = l'.take k ∧ Below w.heap.size w wr) (fun i _ => l.length - (intOf i).toNat)
    case atStart => exact ⟨0, by omega, rfl, rfl, Below.refl _ _⟩
    case round =>
      obtain ⟨k, hk, rfl, heq, hbel⟩ := hrel
      have Heq := Lib.hid heq
      clear heq hb
      have hsz := hbel.size
      by_cases hlt : k < l.length
      · have hlt' : k < l'.length := by rw [← Hlen.out]; exact hlt
        obtain ⟨ab, ao, rfl, hal, hc⟩ := hA.rec_at handleC_len (by omega) hlt
        obtain ⟨bb, bo, rfl, hbl, hc'⟩ := hA'.rec_at handleC_len (by omega) hlt'
        have hs := take_succ_get l k hlt
        have hs' := take_succ_get l' k hlt'
        have hne : l[k] ≠ l'[k] → l ≠ l' := by
          intro h e; subst e; exact h rfl
        have c0 := (hbel.cell (p := ⟨ab, ao + k * 2, none⟩) hal).trans (hc 0 _ rfl)
        have c1 := (hbel.cell (p := ⟨ab, ao + k * 2 + 1, none⟩) hal).trans (hc 1 _ rfl)
        have d0 := (hbel.cell (p := ⟨bb, bo + k * 2, none⟩) hbl).trans (hc' 0 _ rfl)
        have d1 := (hbel.cell (p := ⟨bb, bo + k * 2 + 1, none⟩) hbl).trans (hc' 1 _ rfl)
        have hal2 : ab < wr.heap.size := by omega
        have hbl2 : bb < wr.heap.size := by omega
        have hin : (k : Int) < (l'.length : Int) := by omega
        generalize l[k] = x at *
        generalize l'[k] = y at *
        obtain ⟨x0, x1⟩ := x
        obtain ⟨y0, y1⟩ := y
        simp only at c0 c1 d0 d1
        have Hs := Lib.hid hs; have Hs' := Lib.hid hs'; have Hne := Lib.hid hne
        have he := fun w => neqHandle w x0 x1 y0 y1
        clear hs hs' hne hc hc' hA hA'
        generalize hr : eqB (x0, x1) (y0, y1) = r at *
        have Hr := Lib.hid hr
        clear hr
        cases r with
        | true =>
          have hxy : ((x0, x1) : Int × Int) = (y0, y1) := by simpa [eqB] using Hr.out
          have Hxy := Lib.hid hxy
          clear hxy
          go_wp2
          refine wp_planS [some 19, some 20, some 21, some 22, some 23, some 24] [[], [], [], [1, 2], [1, 2, 3], [0, 1, 2, 3, 4]] [0, 1, 2, 3, 4, 5] 6 5 mixed rfl (by kernel_rfl) (by decide) rfl ?_ (by decide)
          iterate 7 apply Exists.intro
          refine ⟨rfl, ?_, ?_⟩
          · simp only [AllFrom.cons_eq, AllFrom.nil_eq, OpGoalS]
            refine ⟨?_, ?_, ?_, ?_, ?_, ?_, trivial⟩
            all_goals (intro σ hp; (try simp only [List.getD_cons_zero, List.getD_cons_succ, List.map_cons, List.map_nil, preF_cons, preF_nil, isV, and_true] at hp); (first | (have hq : True := hp; clear hq hp) | skip))
            all_goals (go_simp; exact ⟨rfl, rfl⟩)
          · intro σ hp
            simp only [List.getD_cons_zero, List.getD_cons_succ, List.map_cons, List.map_nil, preF_cons, preF_nil, isV, and_true] at hp
            go_simp
            go_wp2
            go_roundw
            case rel => exact ⟨k + 1, by omega, by go_num, by rw [Hs.out, Hs'.out, Heq.out, Hxy.out], (hbel.alloc hsz _).drew⟩
            case measure => simp [intOf]; omega
        | false =>
          have hxy : ((x0, x1) : Int × Int) ≠ (y0, y1) := by intro e; have := Hr.out; rw [e, eqB_self] at this; cases this
          have Hf := Lib.hid (eqB_ne (Hne.out hxy))
          clear hxy
          go_wp2
          refine wp_planS [some 19, some 20, some 21, some 22, some 23, some 24] [[], [], [], [1, 2], [1, 2, 3], [0, 1, 2, 3, 4]] [0, 1, 2, 3, 4, 5] 6 5 mixed rfl (by kernel_rfl) (by decide) rfl ?_ (by decide)
          iterate 7 apply Exists.intro
          refine ⟨rfl, ?_, ?_⟩
          · simp only [AllFrom.cons_eq, AllFrom.nil_eq, OpGoalS]
            refine ⟨?_, ?_, ?_, ?_, ?_, ?_, trivial⟩
            all_goals (intro σ hp; (try simp only [List.getD_cons_zero, List.getD_cons_succ, List.map_cons, List.map_nil, preF_cons, preF_nil, isV, and_true] at hp); (first | (have hq : True := hp; clear hq hp) | skip))
            all_goals (go_simp; exact ⟨rfl, rfl⟩)
          · intro σ hp
            simp only [List.getD_cons_zero, List.getD_cons_succ, List.map_cons, List.map_nil, preF_cons, preF_nil, isV, and_true] at hp
            go_simp
            go_wp2
            go_ret
            exact ⟨by rw [Hf.out]; rfl, (hbel.alloc hsz _).drew⟩
      · have he : l = l' := by
          have := Heq.out
          rwa [List.take_of_length_le (by omega), List.take_of_length_le (by have := Hlen.out; omega)] at this
        have Hf : Hid (eqB l l' = true) := by rw [he]; exact eqB_self _
        clear he
        go_wp2
        go_ret
        exact ⟨by rw [Hf.out]; rfl, hbel⟩
  · have hb : ((l.length : Int) != (l'.length : Int)) = true := by simp; omega
    have Hf := Lib.hid (eqB_ne (fun e : l = l' => hlen (congrArg List.length e)))
    clear hlen
    go_enter Try.func30, Try.ntmps30
    go_wp2
    go_ret
    exact ⟨by rw [Hf.out]; rfl, Below.refl _ _⟩
end Go.Proofs.Ytkcpmoinpdojjaa
