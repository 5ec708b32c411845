import Derived.Test.YtehjfmjibiafdaaGreatZooLoadsJ32
import Derived.Test.YtehjfmjibiafdaaGreatZooLoadsJ33
/- The reference's SlotsLoad. -/
namespace Go.Proofs.YtehjfmjibiafdaaGreat
open Go Go.RowKit

attribute [local go_sem] AllFrom.cons_eq AllFrom.nil_eq putF_nil putF_cons wantedL_none wantedL_some OpGoalT OpGoalS OpGoalP OpGoalV YieldsR preF_nil preF_cons

theorem made_bools (n : Nat) : (madeCells (Value.bool false).cells (n * 1)).toList = bools (List.replicate n false) := by
  apply List.ext_getElem
  · simp [madeCells, bools]
  · intro i h1 h2
    simp [madeCells, bools, Value.cells, Nat.mod_one]
theorem make_bools (w : World) (n : Nat) (hn : n ≤ 60) : ∃ w', (Instr.makeSlice 43 (.int .i64 (n : Int)) (.int .i64 (n : Int))).run Tryz.prog w = .ok (.slice (some ⟨w.heap.size, 0, none⟩) n n) w' ∧
    w'.ownsRow w.heap.size 4 1 (.slice (some ⟨w.heap.size, 0, none⟩) n n) n (bools (List.replicate n false)) ∧ w.grownBy w' none := by
  obtain ⟨i0, hi, hz0, hz1, hz2⟩ := info_parts info_bool
  have h := run_make_full (P := Tryz.prog) w w.heap.size 43 4 i0 (.bool false) 1 Tryz.underlying43 hi hz0 hz1 .i64 .i64 n (by rw [hz2]; omega) (by unfold maxLen; omega) (Nat.le_refl _)
  rw [made_bools] at h
  exact h
theorem yr_make {o : Oper} {ρ : Operand → Value} {V : World} {J : Value → World → Prop} (x y : Operand) (n : Nat) (ho : o.op = .makeSlice 43 x y) (hx : ρ x = .int .i64 (n : Int)) (hy : ρ y = .int .i64 (n : Int)) (hn : n ≤ 60)
    (h : ∀ V2, V2.ownsRow V.heap.size 4 1 (.slice (some ⟨V.heap.size, 0, none⟩) n n) n (bools (List.replicate n false)) → Below V.heap.size V V2 → J (.slice (some ⟨V.heap.size, 0, none⟩) n n) V2) : YieldsR Tryz.prog o ρ V J := by
  obtain ⟨V2, hr, hown, hgr⟩ := make_bools V n hn
  unfold YieldsR execOp
  simp only [ho, resolve, Sem.run_bind, Sem.run_pure, Result.andThen_ok, hx, hy, hr]
  exact h V2 hown ((Below.refl _ _).grown hgr (Nat.le_refl _) (by simp))
theorem wrapMid (z : Int) (h1 : -1000000 ≤ z) (h2 : z ≤ 1000000) : IntKind.i64.wrap z = z := by
  by_cases h : 0 ≤ z
  · exact wrapSmall z h h2
  · have e : z % 2 ^ 64 = z + 2 ^ 64 := by
      rw [← Int.add_emod_right]
      exact Int.emod_eq_of_lt (by omega) (by omega)
    simp only [IntKind.wrap, IntKind.bits, IntKind.signed, e, Bool.true_and, decide_eq_true_eq]
    split <;> omega

def RLoadPost (gs ks : List Int) (w : World) (e : Ending) (w' : World) : Prop :=
  Below w.heap.size w w' ∧ ((loadE gs ks ≠ 0 ∧ e = .returned (.tuple #[.pointer none, .int .i64 (loadE gs ks)])) ∨
    (loadE gs ks = 0 ∧ ∃ p F, e = .returned (.tuple #[.pointer (some ⟨p, 0, none⟩), .int .i64 0]) ∧ RepRS w' p (loadL gs ks) F ∧ (∀ k ∈ F, w.heap.size ≤ k) ∧ SlOk (loadL gs ks)))

theorem LoadIn.spent {gs ks : List Int} (h : LoadIn gs ks) {j m : Nat} (hj : j < ks.length) (hm : ks[j] = m) (hg : gs.getD m 0 = 1000000) : anyS (1000000, true) (loadL gs ks) = true := by
  have hml : m < gs.length := by have := (h.keys j hj).2; omega
  have hmL : m < (loadL gs ks).length := by rw [loadL_len]; exact hml
  have e := loadL_get gs ks hmL
  rw [List.getD_eq_getElem?_getD, List.getElem?_eq_getElem hml, Option.getD_some] at hg
  rw [hg, (hasB_iff ks (m : Int)).2 (by rw [← hm]; exact List.getElem_mem hj)] at e
  rw [anyS_iff, ← e]
  exact List.getElem_mem hmL
theorem LoadIn.unspent {gs ks : List Int} (h : LoadIn gs ks) (hno : ∀ j (hj : j < ks.length) (m : Nat), ks[j] = m → gs.getD m 0 ≠ 1000000) : anyS (1000000, true) (loadL gs ks) = false := by
  cases e : anyS (1000000, true) (loadL gs ks) with
  | false => rfl
  | true =>
    rw [anyS_iff] at e
    obtain ⟨m, hm, he⟩ := List.mem_iff_getElem.1 e
    rw [loadL_get gs ks hm] at he
    have hml : m < gs.length := by rwa [loadL_len] at hm
    have h1 : gs[m] = 1000000 := congrArg Prod.fst he
    have h2 : hasB ks (m : Int) = true := congrArg Prod.snd he
    rw [hasB_iff] at h2
    obtain ⟨j, hj, hjm⟩ := List.mem_iff_getElem.1 h2
    exact absurd (by rw [List.getD_eq_getElem?_getD, List.getElem?_eq_getElem hml]; exact h1) (hno j hj m hjm)
theorem outside_gen (x : Int) : outsideB x 0 1000000 = badN x := rfl
theorem outside_key (n : Nat) (x : Int) : outsideB x 0 ((n : Int) - 1) = badK n x := by
  unfold outsideB badK
  congr 1
  simp; omega

/-- Two of a region's values lie in blocks of their own, apart. -/
structure TwoI (V : World) (i j : Nat) (L : Nat → Bool) (σ : Nat → Value) : Prop where
  a : L i = true → ∀ k, (σ i).ownBlock = some k → k < V.heap.size
  b : L j = true → ∀ k, (σ j).ownBlock = some k → k < V.heap.size
  ne : L i = true → L j = true → ∀ k, (σ i).ownBlock = some k → (σ j).ownBlock ≠ some k
theorem TwoI.nil {V : World} {i j : Nat} {σ : Nat → Value} : TwoI V i j (fun _ => false) σ := ⟨fun h => (nomatch h), fun h => (nomatch h), fun h => (nomatch h)⟩
theorem TwoI.other {V V' : World} {i j k : Nat} {L : Nat → Bool} {σ : Nat → Value} {v : Value} (h : TwoI V i j L σ) (hs : V.heap.size ≤ V'.heap.size) (hi : i ≠ k) (hj : j ≠ k) : TwoI V' i j (upd L k) (updv σ k v) := by
  have e1 : upd L k i = L i := by simp [upd, hi]
  have e2 : upd L k j = L j := by simp [upd, hj]
  have e3 : updv σ k v i = σ i := by simp [updv, hi]
  have e4 : updv σ k v j = σ j := by simp [updv, hj]
  refine ⟨?_, ?_, ?_⟩
  · rw [e1, e3]; intro hl b hb; have := h.a hl b hb; omega
  · rw [e2, e4]; intro hl b hb; have := h.b hl b hb; omega
  · rw [e1, e2, e3, e4]; exact h.ne
theorem TwoI.left {V V' : World} {i j : Nat} {L : Nat → Bool} {σ : Nat → Value} {v : Value} (h : TwoI V i j L σ) (hs : V.heap.size ≤ V'.heap.size) (hij : j ≠ i) (hv : ∀ k, v.ownBlock = some k → V.heap.size ≤ k ∧ k < V'.heap.size) : TwoI V' i j (upd L i) (updv σ i v) := by
  have e2 : upd L i j = L j := by simp [upd, hij]
  have e3 : updv σ i v i = v := by simp [updv]
  have e4 : updv σ i v j = σ j := by simp [updv, hij]
  refine ⟨?_, ?_, ?_⟩
  · rw [e3]; intro _ b hb; exact (hv b hb).2
  · rw [e2, e4]; intro hl b hb; have := h.b hl b hb; omega
  · rw [e2, e3, e4]; intro _ hl b hb hb'; have := h.b hl b hb'; have := hv b hb; omega
theorem TwoI.right {V V' : World} {i j : Nat} {L : Nat → Bool} {σ : Nat → Value} {v : Value} (h : TwoI V i j L σ) (hs : V.heap.size ≤ V'.heap.size) (hij : i ≠ j) (hv : ∀ k, v.ownBlock = some k → V.heap.size ≤ k ∧ k < V'.heap.size) : TwoI V' i j (upd L j) (updv σ j v) := by
  have e2 : upd L j i = L i := by simp [upd, hij]
  have e3 : updv σ j v j = v := by simp [updv]
  have e4 : updv σ j v i = σ i := by simp [updv, hij]
  refine ⟨?_, ?_, ?_⟩
  · rw [e2, e4]; intro hl b hb; have := h.a hl b hb; omega
  · rw [e3]; intro _ b hb; exact (hv b hb).2
  · rw [e2, e3, e4]; intro hl _ b hb hb'; have := h.a hl b hb; have := hv b hb'; omega
theorem gens_load (gs : List Int) : gensS (loadL gs []) = gs := by rw [loadL_nil]; simp [gensS, Function.comp_def]
theorem lives_load (gs : List Int) : livesS (loadL gs []) = List.replicate gs.length false := by
  rw [loadL_nil]
  apply List.ext_getElem
  · simp [livesS]
  · intro i h1 h2
    simp [livesS]
theorem load_rep {gs : List Int} {V w : World} {v1 v4 : Value} (h1 : V.ownsRow w.heap.size 3 1 v1 gs.length (ints gs)) (h4 : V.ownsRow w.heap.size 4 1 v4 gs.length (bools (List.replicate gs.length false))) (hne : ∀ k, v1.ownBlock = some k → v4.ownBlock ≠ some k) :
    RepRS (V.alloc (.cells #[v1, v4] 45)) V.heap.size (loadL gs []) (V.heap.size :: (v1.ownBlock.toList ++ v4.ownBlock.toList)) := by
  refine ⟨v1, v4, heap_alloc_new V _, ?_, ?_, rfl, ?_⟩
  · rw [gens_load, loadL_len]; exact row_base (h1.alloc _) (fun _ _ => Nat.zero_le _)
  · rw [lives_load, loadL_len]; exact row_base (h4.alloc _) (fun _ _ => Nat.zero_le _)
  · have a1 : ∀ k, v1.ownBlock = some k → k < V.heap.size := fun k hk => row_lt h1 k hk
    have a4 : ∀ k, v4.ownBlock = some k → k < V.heap.size := fun k hk => row_lt h4 k hk
    cases e1 : v1.ownBlock with
    | none =>
      cases e4 : v4.ownBlock with
      | none => simp
      | some b => have := a4 b e4; simp; omega
    | some a =>
      have h := a1 a e1
      cases e4 : v4.ownBlock with
      | none => simp; omega
      | some b =>
        have h' := a4 b e4
        have hn := hne a e1
        rw [e4] at hn
        simp at hn ⊢
        refine ⟨by omega, fun e => hn e.symm⟩

set_option maxRecDepth 20000 in
set_option maxHeartbeats 4000000 in
theorem rload_any (A : Option Addr) (c : Nat) (gs : List Int) (A' : Option Addr) (c' : Nat) (ks : List Int) (w : World) (hg : gs.length ≤ 9223372036854775807) (hk : ks.length ≤ c') (hc' : c' ≤ 9223372036854775807) (hA : Lies w w.heap.size A (ints gs)) (hA' : Lies w w.heap.size A' (ints ks)) :
    Calls Tryz.prog 82 #[.slice A gs.length c, .slice A' ks.length c'] w (RLoadPost gs ks w) := by
  by_cases h60 : 60 < gs.length
  · have H := Lib.hid (loadE_long (ks := ks) h60)
    have hin : (60 : Int) < (gs.length : Int) := by omega
    go_enter Tryz.func82, Tryz.ntmps82
    go_wp2
    refine bodyPost_ret (v := .tuple #[.pointer none, .int .i64 2]) (by unfold results; try go_simp) rfl ?_
    exact ⟨Below.refl _ _, .inl ⟨by rw [H.out]; omega, by rw [H.out]⟩⟩
  · have HA := Lib.hid hA; have HA' := Lib.hid hA'
    have hin : (gs.length : Int) ≤ (60 : Int) := by omega
    have hle : gs.length ≤ 60 := by omega
    clear hA hA' h60
    go_enter Tryz.func82, Tryz.ntmps82
    go_wp2
    go_loop [20] (fun i => ∃ k : Nat, k ≤ gs.length ∧ i = .int .i64 k ∧ (∀ j (h : j < k) (h' : j < gs.length), badN gs[j] = false)) (fun i => gs.length - (intOf i).toNat)
    case atStart => exact ⟨0, by omega, rfl, fun j h => by omega⟩
    case round =>
      obtain ⟨k, hkl, rfl, hno⟩ := hrel
      by_cases hlt : k < gs.length
      · obtain ⟨ab, ao, rfl, hab, c0⟩ := HA.out.int_at hlt
        have hyes : badN gs[k] = true → loadE gs ks = 1 := fun h => loadE_gen (by omega) (anyP_of hlt h)
        have hno2 : badN gs[k] = false → ∀ j (h : j < k + 1) (h' : j < gs.length), badN gs[j] = false := by
          intro hf j h h'
          by_cases e : j = k
          · subst e; exact hf
          · exact hno j (by omega) h'
        have ho := outside_any gs[k] 0 1000000 w
        rw [outside_gen] at ho
        generalize badN gs[k] = r at *
        generalize gs[k] = x at *
        have Hno2 := Lib.hid hno2; have Hyes := Lib.hid hyes; have Ho := Lib.hid ho
        clear hno hno2 hyes ho
        cases r with
        | true =>
          have H := Lib.hid (Hyes.out rfl)
          go_wp2_with (go_at_call 101; refine (Ho.out).mono ?_; rintro e w1 ⟨rfl, rfl⟩)
          refine bodyPost_ret (v := .tuple #[.pointer none, .int .i64 1]) (by unfold results; try go_simp) rfl ?_
          exact ⟨Below.refl _ _, .inl ⟨by rw [H.out]; omega, by rw [H.out]⟩⟩
        | false =>
          go_wp2_with (go_at_call 101; refine (Ho.out).mono ?_; rintro e w1 ⟨rfl, rfl⟩)
          go_round
          case rel => exact ⟨k + 1, by omega, by go_num, Hno2.out trivial⟩
          case measure => simp [intOf]; omega
      · obtain rfl : k = gs.length := by omega
        have hbn : anyP badN gs = false := anyP_none fun j hj => hno j hj hj
        clear hno hlt
        have hn1 := wrapMid ((gs.length : Int) - 1) (by omega) (by omega)
        go_wp2
        go_loop [29] (fun i => ∃ k : Nat, k ≤ ks.length ∧ i = .int .i64 k ∧ (∀ j (h : j < k) (h' : j < ks.length), badK gs.length ks[j] = false)) (fun i => ks.length - (intOf i).toNat)
        case atStart => exact ⟨0, by omega, rfl, fun j h => by omega⟩
        case round =>
          obtain ⟨k, hkl2, rfl, hno⟩ := hrel
          by_cases hlt : k < ks.length
          · obtain ⟨ab, ao, rfl, hab, c0⟩ := HA'.out.int_at hlt
            have hyes : badK gs.length ks[k] = true → loadE gs ks = 5 := fun h => loadE_key (by omega) hbn (anyP_of hlt h)
            have hno2 : badK gs.length ks[k] = false → ∀ j (h : j < k + 1) (h' : j < ks.length), badK gs.length ks[j] = false := by
              intro hf j h h'
              by_cases e : j = k
              · subst e; exact hf
              · exact hno j (by omega) h'
            have ho := outside_any ks[k] 0 ((gs.length : Int) - 1) w
            rw [outside_key] at ho
            generalize badK gs.length ks[k] = r at *
            generalize ks[k] = x at *
            have Hno2 := Lib.hid hno2; have Hyes := Lib.hid hyes; have Ho := Lib.hid ho; have Hbn := Lib.hid hbn
            clear hno hno2 hyes ho hbn
            cases r with
            | true =>
              have H := Lib.hid (Hyes.out rfl)
              go_wp2_with (go_at_call 101; refine (Ho.out).mono ?_; rintro e w1 ⟨rfl, rfl⟩)
              refine bodyPost_ret (v := .tuple #[.pointer none, .int .i64 5]) (by unfold results; try go_simp) rfl ?_
              exact ⟨Below.refl _ _, .inl ⟨by rw [H.out]; omega, by rw [H.out]⟩⟩
            | false =>
              go_wp2_with (go_at_call 101; refine (Ho.out).mono ?_; rintro e w1 ⟨rfl, rfl⟩)
              go_round
              case rel => exact ⟨k + 1, by omega, by go_num, Hno2.out trivial⟩
              case measure => simp [intOf]; omega
          · obtain rfl : k = ks.length := by omega
            have hbk : anyP (badK gs.length) ks = false := anyP_none fun j hj => hno j hj hj
            have HI := Lib.hid (loadIn_of (by omega) hbn hbk)
            clear hno hlt hbn hbk
            go_wp2
            refine wp_planF 5 [0, 2] [some 39, some 40, some 41, some 42, some 43, some 44, some 45, some 10] [[], [0], [], [2], [2, 3], [0, 1, 2, 3, 4], [0, 1, 2, 3, 4, 5], [0, 1, 2, 3, 4, 5, 6]] [0, 1, 2, 3, 4] 5 (fun vs => [isV (vs.getD 0 undef), (rowV w.heap.size 3 1 gs.length (ints gs)), isV (vs.getD 2 undef), isV (vs.getD 3 undef), (rowV w.heap.size 4 1 gs.length (bools (List.replicate gs.length false)))])
              (fun L σ V => Below w.heap.size w V ∧ TwoI V 1 4 L σ) mixed rfl (by kernel_rfl) (by decide) (by decide)
              ⟨(Below.refl _ _).drew, TwoI.nil⟩ rfl ?_
            iterate 5 apply Exists.intro
            refine ⟨?_, ?_⟩
            · simp only [List.take_succ_cons, List.take_zero, AllFrom.cons_eq, AllFrom.nil_eq, OpGoalV]
              refine ⟨?_, ?_, ?_, ?_, ?_, trivial⟩
              all_goals (intro L' σ V h1 h2 h3 hI hp; clear h2 h3; (try simp only [List.getD_cons_zero, List.getD_cons_succ, preF_cons, preF_nil, isV, and_true] at hp); (first | (have hq : True := hp; clear hq hp) | skip))
              all_goals (
                have HI := Lib.hid hI
                clear hI h1)
              · go_simp; exact ⟨rfl, ⟨HI.out.1, HI.out.2.other (Nat.le_refl _) (by decide) (by decide)⟩, KeepAll.refl⟩
              rotate_left 1
              · go_simp; exact ⟨rfl, ⟨HI.out.1, HI.out.2.other (Nat.le_refl _) (by decide) (by decide)⟩, KeepAll.refl⟩
              · go_simp; exact ⟨rfl, ⟨HI.out.1, HI.out.2.other (Nat.le_refl _) (by decide) (by decide)⟩, KeepAll.refl⟩
              · simp only [wantedL_none, ↓reduceIte, List.getD_cons_zero, List.getD_cons_succ]
                apply yr_make (.tmp 42) (.tmp 42) gs.length
                case ho => rfl
                case hx => go_simp
                case hy => go_simp
                case hn => exact hle
                intro V2 hown hb
                exact ⟨row_base hown (fun k hk => Nat.le_trans HI.out.1.size (own_ge hown k hk)), ⟨HI.out.1.trans (hb.mono HI.out.1.size), HI.out.2.right hb.size (by decide) (fun k hk => ⟨own_ge hown k hk, row_lt hown k hk⟩)⟩, KeepAll.ofStab (T := Grow) hb (by repeat (first | exact allStab_nil | refine allStab_isV ?_ | refine allStab_rowV ?_))⟩
              · go_simp
                refine (copyInt_any A c gs w.heap.size V hle (HA.out.below HI.out.1) HI.out.1.size).mono ?_
                rintro e V2 ⟨v, rfl, hown, hb⟩
                exact ⟨_, rfl, ⟨row_base hown (fun k hk => Nat.le_trans HI.out.1.size (own_ge hown k hk)), ⟨HI.out.1.trans (hb.mono HI.out.1.size), HI.out.2.left hb.size (by decide) (fun k hk => ⟨own_ge hown k hk, row_lt hown k hk⟩)⟩, KeepAll.ofStab (T := Grow) hb (by repeat (first | exact allStab_nil | refine allStab_isV ?_ | refine allStab_rowV ?_))⟩⟩
            · intro L' σ V h1 hI hp
              have hL1 := h1 1 (by decide)
              have hL4 := h1 4 (by decide)
              clear h1
              simp only [List.getD_cons_zero, List.getD_cons_succ, preF_cons, preF_nil, isV, and_true] at hp
              have s0 := hp.1
              have s1 := hp.2.1
              have s2 := hp.2.2.1
              have s3 := hp.2.2.2.1
              have s4 := hp.2.2.2.2
              clear hp
              have hne := hI.2.ne hL1 hL4
              have hV := hI.1
              clear hI hL1 hL4
              simp only [List.drop_succ_cons, List.drop_zero]
              go_simp
              clear s0 s2 s3
              generalize σ 1 = v1 at *
              generalize σ 4 = v4 at *
              obtain ⟨A1, c1, rfl, -, -⟩ := row_slice s1
              obtain ⟨A4, c4, rfl, -, -⟩ := row_slice s4
              have hrep := load_rep s1 s4 hne
              have hlow : ∀ k ∈ (V.heap.size :: ((Value.slice A1 gs.length c1).ownBlock.toList ++ (Value.slice A4 gs.length c4).ownBlock.toList)), w.heap.size ≤ k := by
                intro k hk
                rcases List.mem_cons.1 hk with rfl | hk
                · exact hV.size
                · rcases List.mem_append.1 hk with hk | hk
                  · exact own_ge s1 k (by simpa using hk)
                  · exact own_ge s4 k (by simpa using hk)
              have HR := Lib.hid hrep; have HLow := Lib.hid hlow; have HV := Lib.hid (hV.alloc hV.size (.cells #[.slice A1 gs.length c1, .slice A4 gs.length c4] 45))
              clear hrep hlow hV hne s1 s4
              go_wp2
              refine ⟨rfl, ?_⟩
              go_wp2
              obtain ⟨w2, hw2⟩ : ∃ w2, w2 = V.alloc (.cells #[.slice A1 gs.length c1, .slice A4 gs.length c4] 45) := ⟨_, rfl⟩
              rw [← hw2] at HR HV
              rw [← hw2]
              clear hw2
              generalize (Value.slice A1 gs.length c1).ownBlock = o1 at *
              generalize (Value.slice A4 gs.length c4).ownBlock = o4 at *
              generalize hG : V.heap.size :: (o1.toList ++ o4.toList) = G at *
              clear hG
              generalize V.heap.size = q at *
              go_loopw [48] (fun i wr => ∃ n : Nat, n ≤ ks.length ∧ i = .int .i64 n ∧ RepRS wr q (loadL gs (ks.take n)) G ∧ (∀ j (h : j < n) (h' : j < ks.length), hasB (ks.take j) ks[j] = false) ∧ Below w.heap.size w wr) (fun i _ => ks.length - (intOf i).toNat)
              case atStart => exact ⟨0, by omega, rfl, HR.out, fun j h => by omega, HV.out⟩
              case round =>
                obtain ⟨n, hn, rfl, hs, hno, hbel⟩ := hrel
                have hsz := hbel.size
                have hlL := loadL_len gs (ks.take n)
                by_cases hlt : n < ks.length
                · obtain ⟨ab, ao, rfl, hab, hcell⟩ := HA'.out.int_at hlt
                  have c0 := (hbel.cell (p := ⟨ab, ao + n, none⟩) hab).trans hcell
                  obtain ⟨hz0, hz1⟩ := HI.out.keys n hlt
                  obtain ⟨m, hm⟩ := Int.eq_ofNat_of_zero_le hz0
                  rw [hm] at c0 hz1
                  have hmL : m < (loadL gs (ks.take n)).length := by rw [hlL]; omega
                  have hmi : (m : Int) < ((loadL gs (ks.take n)).length : Int) := by omega
                  obtain ⟨g0, k0, g1, k1, hp, hgF, hgF1, n1, n2, n3, n4, l0, l1, -, e1, hfz, hfz1, -, hset⟩ := hs.at_ hmL
                  have hset' := hset true
                  rw [loadL_set gs (ks.take n) hmL, ← hm, ← take_succ_get ks n hlt] at hset'
                  rw [loadL_get gs (ks.take n) hmL] at e1
                  simp only at e1
                  have c2 := blk_cell hp 1
                  simp only [List.getElem?_toArray, List.getElem?_cons_zero, List.getElem?_cons_succ] at c2
                  have hpl := blk_lt hp
                  have f1 := hfz1 m
                  have hdup : hasB (ks.take n) (m : Int) = true → loadE gs ks = 6 := fun h => HI.out.dup (dupB_of hlt (by rw [hm]; exact h))
                  have hno2 : hasB (ks.take n) (m : Int) = false → ∀ j (h : j < n + 1) (h' : j < ks.length), hasB (ks.take j) ks[j] = false := by
                    intro hf j h h'
                    by_cases e : j = n
                    · subst e; rw [hm]; exact hf
                    · exact hno j (by omega) h'
                  have hhas := hasInt_any (some ⟨ab, ao, none⟩) c' (ks.take n) (m : Int) w.heap.size wr (by rw [List.length_take]; omega) (by rw [← ints_take]; exact (HA'.out.below hbel).take n)
                  rw [List.length_take, Nat.min_eq_left (by omega)] at hhas
                  have hnc : n ≤ c' := by omega
                  have hnci : (n : Int) ≤ (c' : Int) := by omega
                  clear hset
                  generalize hasB (ks.take n) (m : Int) = r at *
                  generalize loadL gs (ks.take n) = L at *
                  have HS2 := Lib.hid hs; have HSet := Lib.hid hset'; have HBel2 := Lib.hid hbel; have Hdup := Lib.hid hdup; have Hno2 := Lib.hid hno2; have HG := Lib.hid hgF1; have HP := Lib.hid hp; have Hh := Lib.hid hhas; have HlL := Lib.hid hlL
                  clear hs hset' hbel hdup hno2 hno hcell hm hfz hfz1 hgF hgF1 hp HR HV hhas hlL
                  cases r with
                  | true =>
                    have H := Lib.hid (Hdup.out rfl)
                    go_wp2_with (go_at_call 133; refine (Hh.out).mono ?_; rintro e w1 ⟨rfl, rfl⟩)
                    refine bodyPost_ret (v := .tuple #[.pointer none, .int .i64 6]) (by unfold results; try go_simp) rfl ?_
                    exact ⟨HBel2.out, .inl ⟨by rw [H.out]; omega, by rw [H.out]⟩⟩
                  | false =>
                    go_wp2_with (go_at_call 133; refine (Hh.out).mono ?_; rintro e w1 ⟨rfl, rfl⟩)
                    go_roundw
                    case rel => exact ⟨n + 1, by omega, by go_num, HSet.out, Hno2.out trivial, HBel2.out.trans (((Mod.refl G wr).setCell (p := ⟨g1, m, none⟩) (.inl HG.out) _).toBelow HLow.out hsz)⟩
                    case measure => simp [intOf]; omega
                · obtain rfl : n = ks.length := by omega
                  rw [List.take_length] at hs hlL
                  have hd : dupB ks = false := dupB_none fun j hj => hno j hj hj
                  have HS2 := Lib.hid hs; have HBel2 := Lib.hid hbel; have HD := Lib.hid hd
                  clear hs hbel hd hno hlL HR HV hlt
                  go_wp2
                  go_loop [67] (fun i => ∃ n : Nat, n ≤ ks.length ∧ i = .int .i64 n ∧ (∀ j (h : j < n) (hj : j < ks.length) (m : Nat), ks[j] = m → gs.getD m 0 ≠ 1000000)) (fun i => ks.length - (intOf i).toNat)
                  case atStart => exact ⟨0, by omega, rfl, fun j h => by omega⟩
                  case round =>
                    obtain ⟨n, hn2, rfl, hno⟩ := hrel
                    by_cases hlt : n < ks.length
                    · obtain ⟨ab, ao, rfl, hab, hcell⟩ := HA'.out.int_at hlt
                      have c0 := (HBel2.out.cell (p := ⟨ab, ao + n, none⟩) hab).trans hcell
                      obtain ⟨hz0, hz1⟩ := HI.out.keys n hlt
                      obtain ⟨m, hm⟩ := Int.eq_ofNat_of_zero_le hz0
                      rw [hm] at c0 hz1
                      have hml : m < gs.length := by omega
                      obtain ⟨gb, go, rfl, hgb, gcell⟩ := HA.out.int_at hml
                      have c1 := (HBel2.out.cell (p := ⟨gb, go + m, none⟩) hgb).trans gcell
                      have hgd : gs.getD m 0 = gs[m] := by rw [List.getD_eq_getElem?_getD, List.getElem?_eq_getElem hml]; rfl
                      have hyes : gs[m] = 1000000 → loadE gs ks = 1 := fun h => HI.out.full HD.out (HI.out.spent hlt hm (by rw [hgd]; exact h))
                      have hno2 : gs[m] ≠ 1000000 → ∀ j (h : j < n + 1) (hj : j < ks.length) (m : Nat), ks[j] = m → gs.getD m 0 ≠ 1000000 := by
                        intro hne j h hj m' hm'
                        by_cases e : j = n
                        · subst e
                          have : m = m' := by rw [hm] at hm'; omega
                          subst this
                          rw [hgd]; exact hne
                        · exact hno j (by omega) hj m' hm'
                      generalize gs[m] = x at *
                      have Hyes := Lib.hid hyes; have Hno2 := Lib.hid hno2
                      clear hyes hno2 hno hcell gcell hgd hm
                      by_cases hx : x = 1000000
                      · have H := Lib.hid (Hyes.out hx)
                        subst hx
                        go_wp2
                        refine bodyPost_ret (v := .tuple #[.pointer none, .int .i64 1]) (by unfold results; try go_simp) rfl ?_
                        exact ⟨HBel2.out, .inl ⟨by rw [H.out]; omega, by rw [H.out]⟩⟩
                      · have Hn := Lib.hid (Hno2.out hx)
                        have hx2 : decide (x = 1000000) = false := by simpa using hx
                        go_wp2
                        go_round
                        case rel => exact ⟨n + 1, by omega, by go_num, Hn.out⟩
                        case measure => simp [intOf]; omega
                    · obtain rfl : n = ks.length := by omega
                      have hany := HI.out.unspent (fun j hj m hm => hno j hj hj m hm)
                      have H := Lib.hid (HI.out.good HD.out hany)
                      have HO := Lib.hid (HI.out.ok hany)
                      clear hany hno hlt
                      go_wp2
                      refine bodyPost_ret (v := .tuple #[.pointer (some ⟨q, 0, none⟩), .int .i64 0]) (by unfold results; try go_simp) rfl ?_
                      exact ⟨HBel2.out, .inr ⟨H.out, q, G, rfl, HS2.out, HLow.out, HO.out⟩⟩
            all_goals exact undef
end Go.Proofs.YtehjfmjibiafdaaGreat

/- Both sides' slots side by side, for the law SlotsLoads (SlotsDo bears its own copy of these lines). -/
namespace Go.Proofs.YtehjfmjibiafdaaGreat
open Go Go.RowKit

/-- What holds of both slots between two rounds. -/
structure Both (W w : World) (p q : Nat) (sl : Sl) (F G : List Nat) : Prop where
  s : RepS w p sl F
  r : RepRS w q sl G
  ok : SlOk sl
  apart : ∀ k ∈ F, k ∉ G
  lowF : ∀ k ∈ F, W.heap.size ≤ k
  lowG : ∀ k ∈ G, W.heap.size ≤ k
  below : Below W.heap.size W w
theorem Both.size {W w : World} {p q : Nat} {sl : Sl} {F G : List Nat} (h : Both W w p q sl F G) : W.heap.size ≤ w.heap.size := h.below.size
theorem Both.grow {W w w' : World} {p q : Nat} {sl : Sl} {F G : List Nat} (h : Both W w p q sl F G) (hb : Below w.heap.size w w') : Both W w' p q sl F G :=
  ⟨h.s.mod (Mod.ofBelow hb) (by simp), h.r.mod (Mod.ofBelow hb) (by simp), h.ok, h.apart, h.lowF, h.lowG, h.below.trans (hb.mono h.size)⟩

theorem Both.step {W wz w3 w3' w4 : World} {p q : Nat} {sl sl' : Sl} {F G F3 G4 : List Nat} (h : Both W wz p q sl F G) (hs : RepS w3 p sl' F3) (ht : Turns wz F F3 w3) (hg : Below w3.heap.size w3 w3') (hr : RepRS w4 q sl' G4) (ht2 : Turns w3' G G4 w4) (hok : SlOk sl') :
    Both W w4 p q sl' F3 G4 := by
  have hGl := h.r.lt
  have hFG : ∀ k ∈ F3, k ∉ G := by
    intro k hk hkG
    rcases ht.new k hk with h1 | h1
    · exact h.apart k h1 hkG
    · have := hGl k hkG; omega
  have hs3 := hs.lt
  have hsz := h.size
  have hsz2 := ht.mod.size
  have hsz3 := hg.size
  refine ⟨(hs.mod (Mod.ofBelow hg) (by simp)).mod ht2.mod hFG, hr, hok, ?_, ?_, ?_, ?_⟩
  · intro k hk hkG
    rcases ht2.new k hkG with h1 | h1
    · exact hFG k hk h1
    · have := hs3 k hk; omega
  · intro k hk
    rcases ht.new k hk with h1 | h1
    · exact h.lowF k h1
    · omega
  · intro k hk
    rcases ht2.new k hk with h1 | h1
    · exact h.lowG k h1
    · omega
  · exact ((h.below.trans (ht.mod.toBelow h.lowF hsz)).trans (hg.mono (by omega))).trans (ht2.mod.toBelow h.lowG (by omega))
end Go.Proofs.YtehjfmjibiafdaaGreat
