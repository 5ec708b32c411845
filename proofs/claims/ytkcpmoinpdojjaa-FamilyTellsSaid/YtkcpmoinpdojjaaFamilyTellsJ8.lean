import Derived.Test.YtkcpmoinpdojjaaFamilyTellsJ7
import Derived.Maps.RangeRun
import Derived.Maps.Keyed
import Derived.Test.YtkcpmoinpdojjaaFamilyTellsJ3
/- The reference's slots: Take. -/
namespace Go.Proofs.Ytkcpmoinpdojjaa
open Go.RowKit

attribute [local go_sem] AllFrom.cons_eq AllFrom.nil_eq putF_nil putF_cons wantedL_none wantedL_some OpGoalT OpGoalS OpGoalP OpGoalV YieldsR preF_nil preF_cons

def intC (z : Int) : List Value := [.int .i64 z]
def boolC (b : Bool) : List Value := [.bool b]
theorem ints_flat (l : List Int) : ints l = l.flatMap intC := by induction l with | nil => rfl | cons x l ih => simp only [List.flatMap_cons, ← ih]; rfl
theorem bools_flat (l : List Bool) : bools l = l.flatMap boolC := by induction l with | nil => rfl | cons x l ih => simp only [List.flatMap_cons, ← ih]; rfl
theorem intC_one (z : Int) : ∀ u ∈ intC z, u.oneCell' = true := by intro u hu; simp [intC] at hu; subst hu; rfl
theorem boolC_one (b : Bool) : ∀ u ∈ boolC b, u.oneCell' = true := by intro u hu; simp [boolC] at hu; subst hu; rfl
theorem gensS_len (l : Sl) : (gensS l).length = l.length := by simp [gensS]
theorem livesS_len (l : Sl) : (livesS l).length = l.length := by simp [livesS]
theorem rtake_fin {p : Nat} {l : Sl} {F : List Nat} {w w0 W W2 : World} {vg vl v7 v13 : Value} (hR : RepRS w p l F) (hp : w.heap[p]? = some (.cells #[vg, vl] 69 (0, 0))) (hF : F = p :: (vg.ownBlock.toList ++ vl.ownBlock.toList)) (hN : F.Nodup)
    (hm0 : Mod [] w w0) (hs0 : w0.heap.size = w.heap.size + 1) (hz0 : w0.heap[w.heap.size]? = some (.cells #[.int .i64 0, .int .i64 0] 45 (0, 0))) (hm : Mod vg.ownBlock.toList w0 W)
    (h7 : appV 3 1 (gensS l ++ [0]).length ((gensS l ++ [0]).flatMap intC) vg.ownBlock w.heap.size v7 W)
    (h13 : W2.ownsRow 0 4 1 v13 (livesS l ++ [true]).length ((livesS l ++ [true]).flatMap boolC)) (hg : W.grownBy W2 vl.ownBlock) (hloc : v13.ownBlock = vl.ownBlock ∨ v13.ownBlock = some W.heap.size) :
    ∃ g7 c7 g13 c13, v7 = .slice (some ⟨g7, 0, none⟩) (l.length + 1) c7 ∧ v13 = .slice (some ⟨g13, 0, none⟩) (l.length + 1) c13 ∧ p < W2.heap.size ∧ w.heap.size < W2.heap.size ∧ p ≠ w.heap.size ∧ w.heap.size ≠ p ∧
      W2.cell? ⟨p, 0, none⟩ = some vg ∧ W2.cell? ⟨p, 1, none⟩ = some vl ∧ W2.frozen? ⟨p, 0, none⟩ = false ∧ W2.frozen? ⟨p, 1, none⟩ = false ∧
      W2.cell? ⟨w.heap.size, 0, none⟩ = some (.int .i64 0) ∧ W2.cell? ⟨w.heap.size, 1, none⟩ = some (.int .i64 0) ∧ W2.frozen? ⟨w.heap.size, 0, none⟩ = false ∧ W2.frozen? ⟨w.heap.size, 1, none⟩ = false ∧
      Hid (RepRS ((W2.setCell ⟨p, 0, none⟩ v7).setCell ⟨p, 1, none⟩ v13) p (l ++ [(0, true)]) [p, g7, g13] ∧ w.heap.size ∉ [p, g7, g13]) ∧ Hid (Mod F w W2) ∧ Hid (∀ k ∈ [p, g7, g13], k ∈ F ∨ w.heap.size ≤ k) := by
  have hlt := hR.lt
  rw [hF] at hN
  have hGF : ∀ k, vg.ownBlock = some k → k ∈ F := fun k hk => by rw [hF, hk]; simp
  have hLF : ∀ k, vl.ownBlock = some k → k ∈ F := fun k hk => by rw [hF, hk]; simp
  have hpF : p ∈ F := by rw [hF]; simp
  have hpG : ∀ k, vg.ownBlock = some k → k ≠ p := by rintro k hk rfl; rw [hk] at hN; simp at hN
  have hpL : ∀ k, vl.ownBlock = some k → k ≠ p := by rintro k hk rfl; rw [hk] at hN; simp at hN
  have hGL : ∀ k, vg.ownBlock = some k → vl.ownBlock ≠ some k := by rintro k hk hk'; rw [hk, hk'] at hN; simp at hN
  obtain ⟨h7, h7l⟩ := h7
  have h7b := row_lt h7
  have hm2 := grown_mod hg
  have hpw := hlt p hpF
  -- where v7 lies
  have h7F : ∀ k, v7.ownBlock = some k → (k ∈ F ∨ w.heap.size ≤ k) ∧ k ≠ p ∧ vl.ownBlock ≠ some k ∧ k < W.heap.size ∧ k ≠ w.heap.size := by
    intro k hk
    have hkW := h7b k hk
    rcases h7l with h | ⟨b, h, hb⟩
    · rw [h] at hk
      have := hlt k (hGF k hk)
      exact ⟨.inl (hGF k hk), hpG k hk, hGL k hk, hkW, by omega⟩
    · rw [hk] at h; cases h
      refine ⟨.inr hb, by omega, fun e => by have := hlt _ (hLF _ e); omega, hkW, ?_⟩
      rintro rfl
      -- the block of the handle is no row
      have hz := hm.keep hz0 (fun hh => by have := hlt _ (hGF _ (by simpa using hh)); omega)
      obtain ⟨g, c, cur, e, -, hbk, -⟩ := row_some h7 (by simp)
      rw [e] at hk
      simp only [Value.ownBlock, Option.some.injEq] at hk
      rw [hk, hz] at hbk
      exact absurd hbk (by simp)
  have h13F : ∀ k, v13.ownBlock = some k → (k ∈ F ∨ w.heap.size ≤ k) ∧ k ≠ p ∧ v7.ownBlock ≠ some k ∧ k ≠ w.heap.size := by
    intro k hk
    have hsW : w.heap.size < W.heap.size := by have := hm.size; omega
    rcases hloc with h | h
    · rw [h] at hk
      have := hlt k (hLF k hk)
      exact ⟨.inl (hLF k hk), hpL k hk, fun e => (h7F k e).2.2.1 hk, by omega⟩
    · rw [hk] at h; cases h
      exact ⟨.inr (by omega), by omega, fun e => by have := (h7F _ e).2.2.2.1; omega, by omega⟩
  have hm02 : Mod F w W := (hm0.mono (by simp)).trans hm (fun x hx => .inl (hGF x (by simpa using hx)))
  have hm3 : Mod F w W2 := hm02.trans hm2 (fun x hx => .inl (hLF x (by simpa using hx)))
  have hp2 : W2.heap[p]? = some (.cells #[vg, vl] 69 (0, 0)) :=
    hm2.keep (hm.keep (hm0.keep hp (by simp)) (fun h => hpG p (by simpa using h) rfl)) (fun h => hpL p (by simpa using h) rfl)
  have hz2 : W2.heap[w.heap.size]? = some (.cells #[.int .i64 0, .int .i64 0] 45 (0, 0)) :=
    hm2.keep (hm.keep hz0 (fun h => by have := hlt _ (hGF _ (by simpa using h)); omega)) (fun h => by have := hlt _ (hLF _ (by simpa using h)); omega)
  have h72 := row_mod h7 hm2 (fun k hk h => (h7F k hk).2.2.1 (by simpa using h))
  have e7 : (gensS l ++ [(0 : Int)]).length = l.length + 1 := by simp [gensS]
  have e13 : (livesS l ++ [true]).length = l.length + 1 := by simp [livesS]
  have x7 : (gensS l ++ [(0 : Int)]).flatMap intC = ints (gensS (l ++ [(0, true)])) := by rw [← ints_flat]; simp [gensS]
  have x13 : (livesS l ++ [true]).flatMap boolC = bools (livesS (l ++ [(0, true)])) := by rw [← bools_flat]; simp [livesS]
  rw [e7, x7] at h72
  rw [e13, x13] at h13
  obtain ⟨g7, c7, cur7, rfl, -, hb7, -⟩ := row_some h72 (by omega)
  obtain ⟨g13, c13, cur13, rfl, -, hb13, -⟩ := row_some h13 (by omega)
  obtain ⟨f1, f2, f3, f4, f5⟩ := h7F g7 rfl
  obtain ⟨j1, j2, j3, j4⟩ := h13F g13 rfl
  have j3' : g7 ≠ g13 := fun e => j3 (by rw [e]; rfl)
  refine ⟨g7, c7, g13, c13, rfl, rfl, blk_lt hp2, blk_lt hz2, by omega, by omega, by rw [blk_cell hp2]; rfl, by rw [blk_cell hp2]; rfl, blk_free hp2 0, blk_free hp2 1, by rw [blk_cell hz2]; rfl, by rw [blk_cell hz2]; rfl, blk_free hz2 0, blk_free hz2 1, ⟨?_, ?_⟩, hm3, ?_⟩
  · have hmm : ∀ u v, Mod [p] W2 ((W2.setCell ⟨p, 0, none⟩ u).setCell ⟨p, 1, none⟩ v) := fun u v => ((Mod.refl [p] W2).setCell (.inl (by simp)) u).setCell (.inl (by simp)) v
    refine ⟨.slice (some ⟨g7, 0, none⟩) (l.length + 1) c7, .slice (some ⟨g13, 0, none⟩) (l.length + 1) c13, ?_, ?_, ?_, rfl, ?_⟩
    · rw [blk_set (blk_set hp2 0 _) 1 _]; rfl
    · rw [List.length_append]
      exact row_mod h72 (hmm _ _) (fun k hk h => by
        have e1 : g7 = k := by simpa [Value.ownBlock] using hk
        have e2 : k = p := by simpa using h
        exact f2 (e1.trans e2))
    · rw [List.length_append]
      exact row_mod h13 (hmm _ _) (fun k hk h => by
        have e1 : g13 = k := by simpa [Value.ownBlock] using hk
        have e2 : k = p := by simpa using h
        exact j2 (e1.trans e2))
    · simp only [Value.ownBlock, Option.toList_some, List.cons_append, List.nil_append, List.nodup_cons, List.mem_cons, List.not_mem_nil, or_false, not_or, not_false_eq_true, List.nodup_nil, and_true]
      exact ⟨⟨fun e => f2 e.symm, fun e => j2 e.symm⟩, j3'⟩
  · simp only [List.mem_cons, List.not_mem_nil, or_false, not_or]
    exact ⟨by omega, fun e => f5 e.symm, fun e => j4 e.symm⟩
  · intro k hk
    simp only [List.mem_cons, List.not_mem_nil, or_false] at hk
    rcases hk with rfl | rfl | rfl
    · exact .inl hpF
    · exact f1
    · exact j1

def RTakePost (p : Nat) (l : Sl) (F : List Nat) (w : World) (e : Ending) (w' : World) : Prop :=
  e = .returned (.tuple #[.agg #[.int .i64 (takeK l), .int .i64 (takeG l)], .int .i64 (takeE l)]) ∧ ∃ F', RepRS w' p (takeL l) F' ∧ Turns w F F' w'

theorem RepRS.setLive {w W : World} {p : Nat} {l : Sl} {F G : List Nat} {n : Nat} (h : RepRS w p l F) (hm : Mod G w W) (hd : ∀ k ∈ F, k ∉ G) (hn : n < l.length) {g0 c0 g1 c1 : Nat}
    (hp : w.heap[p]? = some (.cells #[.slice (some ⟨g0, 0, none⟩) l.length c0, .slice (some ⟨g1, 0, none⟩) l.length c1] 69 (0, 0))) (b : Bool) : RepRS (W.setCell ⟨g1, n, none⟩ (.bool b)) p (l.set n (l[n].1, b)) F := by
  have hpF : p ∈ F := by obtain ⟨_, _, _, _, _, rfl, _⟩ := h; simp
  obtain ⟨g0', c0', g1', c1', hp', -, -, -, -, -, -, -, -, -, -, -, -, -, hset⟩ := (h.mod hm hd).at_ hn
  have hee := (hm.keep hp (hd p hpF)).symm.trans hp'
  simp only [Option.some.injEq, Obj.cells.injEq, Array.mk.injEq, List.cons.injEq, Value.slice.injEq, Addr.mk.injEq, and_true, true_and] at hee
  obtain ⟨⟨rfl, rfl⟩, rfl, rfl⟩ := hee
  exact hset b

set_option maxHeartbeats 1000000 in
theorem rtake_any (p : Nat) (l : Sl) (F : List Nat) (w : World) (h : RepRS w p l F) (hok : SlOk l) :
    Calls Try.prog 134 #[.pointer (some ⟨p, 0, none⟩)] w (RTakePost p l F w) := by
  have hl60 := hok.1
  obtain ⟨vg, vl, hp, hg, hl, hF, hne⟩ := h
  have HR : Hid (RepRS w p l F) := ⟨vg, vl, hp, hg, hl, hF, hne⟩
  have HG := Lib.hid hg; have HL := Lib.hid hl; have HP := Lib.hid hp; have HF := Lib.hid hF; have HN := Lib.hid hne; have HO := Lib.hid hok
  obtain ⟨A, cap, rfl, -, -⟩ := row_slice HG.out
  obtain ⟨A', cap', rfl, -, -⟩ := row_slice HL.out
  have hc0 := blk_cell hp 0
  have hc1 := blk_cell hp 1
  have hpl := blk_lt hp
  simp at hc0 hc1
  clear hp hg hl hF hne hok
  go_enter Try.func134, Try.ntmps134
  go_wp2
  go_loop [11] (fun i => ∃ k : Nat, k ≤ l.length ∧ i = .int .i64 k ∧ ∀ j (h : j < k) (h' : j < l.length), freeB l[j] = false) (fun i => l.length - (intOf i).toNat)
  case atStart => exact ⟨0, by omega, rfl, fun j h => by omega⟩
  case round =>
    obtain ⟨k, hk, rfl, hno⟩ := hrel
    by_cases hlt : k < l.length
    · obtain ⟨g0, c0, g1, c1, hp, hgF, hgF1, n1, n2, n3, n4, l0, l1, e0, e1, hfz, hfz1, -, -⟩ := HR.out.at_ hlt
      have hee := HP.out.symm.trans hp
      simp only [Option.some.injEq, Obj.cells.injEq, Array.mk.injEq, List.cons.injEq, Value.slice.injEq, and_true, true_and] at hee
      obtain ⟨⟨rfl, rfl⟩, rfl, rfl⟩ := hee
      have hset := HR.out.setLive (Mod.refl [] w) (by simp) hlt hp true
      have hq0 := blk_cell hp 0
      have hq1 := blk_cell hp 1
      simp at hq0 hq1
      have f1 := hfz1 k
      have hin : (k : Int) < (l.length : Int) := by omega
      have hlw := HR.out.lt
      have n5 : w.heap.size ≠ g1 := by have := hlw g1 hgF1; omega
      have n6 : w.heap.size ≠ g0 := by have := hlw g0 hgF; omega
      have hyes : freeB l[k] = true → l.findIdx? freeB = some k := fun h => fi_some hlt h fun j hj => hno j hj (by omega)
      have hgo : freeB l[k] = false → ∀ j (h : j < k + 1) (h' : j < l.length), freeB l[j] = false := by
        intro hf j h h'
        by_cases e : j = k
        · subst e; exact hf
        · exact hno j (by omega) h'
      have hx : ∀ x : Int × Bool, l[k] = x → freeB x = true → takeK l = k ∧ takeG l = x.1 ∧ takeE l = 0 ∧ takeL l = l.set k (x.1, true) := by
        intro x hx hf
        subst hx
        have := hyes hf
        unfold takeK takeG takeE takeL
        rw [this]
        simp [List.getD_eq_getElem?_getD, List.getElem?_eq_getElem hlt]
      have HS := Lib.hid hset; have Hgo := Lib.hid hgo; have HGF1 := Lib.hid hgF1; have Hx := Lib.hid hx
      clear hset hgo hyes hx hno hgF hgF1 hlw hfz hfz1 hp hc0 hc1
      generalize l[k] = x at *
      obtain ⟨a, b⟩ := x
      simp only at e0 e1
      cases b with
      | true =>
        go_wp2
        go_round
        case rel => exact ⟨k + 1, by omega, by go_num, Hgo.out rfl⟩
        case measure => simp [intOf]; omega
      | false =>
        by_cases ha : a < 1000000
        · obtain ⟨q1, q2, q3, q4⟩ := Hx.out (a, false) rfl (by simp [freeB, ha])
          have Q1 := Lib.hid q1; have Q2 := Lib.hid q2; have Q3 := Lib.hid q3; have Q4 := Lib.hid q4
          clear q1 q2 q3 q4
          go_wp2
          refine bodyPost_ret (v := .tuple #[.agg #[.int .i64 k, .int .i64 a], .int .i64 0]) (by unfold results; go_simp) rfl ?_
          refine ⟨by rw [Q1.out, Q2.out, Q3.out], F, ?_, ⟨?_, fun k hk => .inl hk⟩⟩
          · rw [Q4.out]
            exact HS.out.mod ((Mod.refl [] _).alloc _) (by simp)
          · exact ((Mod.refl F w).setCell (p := ⟨g1, k, none⟩) (.inl HGF1.out) _).alloc _
        · have Hn := Lib.hid (Hgo.out (by simp [freeB, ha]))
          go_wp2
          go_round
          case rel => exact ⟨k + 1, by omega, by go_num, Hn.out⟩
          case measure => simp [intOf]; omega
    · have hnone : l.findIdx? freeB = none := fi_none fun j hj => hno j (by omega) hj
      obtain rfl : k = l.length := by omega
      clear hno
      by_cases h60 : l.length = 60
      · have q : takeK l = 0 ∧ takeG l = 0 ∧ takeE l = 2 ∧ takeL l = l := by unfold takeK takeG takeE takeL; rw [hnone]; simp [h60]
        have Q := Lib.hid q
        have hl2 : ((l.length : Int) == 60) = true := by simp [h60]
        clear q h60 hnone
        go_wp2
        refine bodyPost_ret (v := .tuple #[.agg #[.int .i64 0, .int .i64 0], .int .i64 2]) (by unfold results; go_simp) rfl ?_
        refine ⟨by rw [Q.out.1, Q.out.2.1, Q.out.2.2.1], F, ?_, ⟨?_, fun k hk => .inl hk⟩⟩
        · rw [Q.out.2.2.2]
          exact HR.out.mod ((Mod.refl [] w).alloc _) (by simp)
        · exact (Mod.refl F w).alloc _
      · have q : takeK l = l.length ∧ takeG l = 0 ∧ takeE l = 0 ∧ takeL l = l ++ [(0, true)] := by unfold takeK takeG takeE takeL; rw [hnone]; simp [h60]
        have Q := Lib.hid q
        have hl2 : ((l.length : Int) == 60) = false := by simp; omega
        have hlt60 : l.length < 60 := by omega
        clear q h60 hnone hl60
        go_wp2
        have hlw := HR.out.lt
        have hpF : p ∈ F := by rw [HF.out]; simp
        have hGF : ∀ k, (Value.slice A l.length cap).ownBlock = some k → k ∈ F := fun k hk => by rw [HF.out, hk]; simp
        have hLF : ∀ k, (Value.slice A' l.length cap').ownBlock = some k → k ∈ F := fun k hk => by rw [HF.out, hk]; simp
        have hGp : ∀ k, (Value.slice A l.length cap).ownBlock = some k → k ≠ p := by
          rintro k hk rfl
          have := HN.out
          rw [HF.out, hk] at this; simp at this
        have hGL : ∀ k, (Value.slice A l.length cap).ownBlock = some k → (Value.slice A' l.length cap').ownBlock ≠ some k := by
          rintro k hk hk'
          have := HN.out
          rw [HF.out, hk, hk'] at this; simp at this
        have hLp : ∀ k, (Value.slice A' l.length cap').ownBlock = some k → k ≠ p := by
          rintro k hk rfl
          have := HN.out
          rw [HF.out, hk] at this; simp at this
        obtain ⟨w0, hw0⟩ : ∃ w0, w.alloc (.cells #[.int .i64 0, .int .i64 0] 45) = w0 := ⟨_, rfl⟩
        have hm0 : Mod [] w w0 := by rw [← hw0]; exact (Mod.refl _ _).alloc _
        have hs0 : w0.heap.size = w.heap.size + 1 := by rw [← hw0]; simp
        have hz0 : w0.heap[w.heap.size]? = some (.cells #[.int .i64 0, .int .i64 0] 45 (0, 0)) := by rw [← hw0]; exact heap_alloc_new w _
        rw [hw0]
        have HM0 := Lib.hid hm0; have HS0 := Lib.hid hs0; have HZ0 := Lib.hid hz0; have HLW := Lib.hid hlw
        have H1 := Lib.hid hGF; have H2 := Lib.hid hLF; have H3 := Lib.hid hGp; have H4 := Lib.hid hGL; have H5 := Lib.hid hLp
        clear hm0 hs0 hz0 hw0 hGF hLF hGp hGL hLp hlw hc0 hc1
        refine wp_planF 13 [0, 1, 2, 8] [some 45, some 46, some 47, some 48, some 49, some 50, some 51, some 52, some 53, some 54, some 55, some 56, some 57, some 58, some 59, some 60, none, some 61, some 62, none] [[], [], [], [2], [2, 3], [2, 3, 4], [], [2, 3, 4, 5, 6], [], [8], [8, 9], [8, 9, 10], [], [2, 3, 4, 5, 6, 7, 8, 9, 10, 11, 12], [0, 2, 3, 4, 5, 6, 7, 8, 9, 10, 11, 12, 13], [0, 2, 3, 4, 5, 6, 7, 8, 9, 10, 11, 12, 13, 14], [0, 2, 3, 4, 5, 6, 7, 8, 9, 10, 11, 12, 13, 14, 15], [0, 1, 2, 3, 4, 5, 6, 7, 8, 9, 10, 11, 12, 13, 14, 15, 16], [0, 1, 2, 3, 4, 5, 6, 7, 8, 9, 10, 11, 12, 13, 14, 15, 16, 17], [0, 1, 2, 3, 4, 5, 6, 7, 8, 9, 10, 11, 12, 13, 14, 15, 16, 17, 18]] [0, 1, 2, 3, 4, 5, 6, 7, 8, 9, 10, 11, 12] 13 (fun vs => [isV (vs.getD 0 undef), isV (vs.getD 1 undef), isV (vs.getD 2 undef), isV (vs.getD 3 undef), isV (vs.getD 4 undef), isV (vs.getD 5 undef), (oneR w.heap.size #[.int .i64 0] 3), (appV 3 1 (gensS l ++ [0]).length ((gensS l ++ [0]).flatMap intC) (Value.slice A l.length cap).ownBlock w.heap.size), isV (vs.getD 8 undef), isV (vs.getD 9 undef), isV (vs.getD 10 undef), isV (vs.getD 11 undef), (oneR w.heap.size #[.bool true] 4)])
          (fun L _ W => Mod (Value.slice A l.length cap).ownBlock.toList w0 W ∧ (L 7 = false → W.ownsRow 0 3 1 (.slice A l.length cap) l.length (ints (gensS l)))) mixed rfl (by kernel_rfl) (by decide) (by decide)
          ⟨(Mod.refl _ _).drew, fun _ => row_mod HG.out (HM0.out.drew) (by simp)⟩ rfl ?_
        iterate 13 apply Exists.intro
        refine ⟨?_, ?_⟩
        · simp only [List.take_succ_cons, List.take_zero, AllFrom.cons_eq, AllFrom.nil_eq, OpGoalV]
          refine ⟨?_, ?_, ?_, ?_, ?_, ?_, ?_, ?_, ?_, ?_, ?_, ?_, ?_, trivial⟩
          all_goals (intro L' σ W h1 h2 h3 hI hp; clear h2 h3; (try simp only [List.getD_cons_zero, List.getD_cons_succ, preF_cons, preF_nil, isV, and_true] at hp); (first | (have hq : True := hp; clear hq hp) | skip))
          all_goals (
            have hpk := hI.1.keep (HM0.out.keep HP.out (by simp)) (fun h => H3.out p (by simpa using h) rfl)
            have q0 := blk_cell hpk 0
            have q1 := blk_cell hpk 1
            simp only [List.getElem?_toArray, List.getElem?_cons_zero, List.getElem?_cons_succ] at q0 q1
            have hsz := hI.1.size
            have hle : w.heap.size ≤ W.heap.size := by have := HS0.out; omega
            have HI := Lib.hid hI
            have Hh1 := Lib.hid h1
            clear hpk hsz hI h1)
          all_goals (try (go_simp; exact ⟨rfl, ⟨HI.out.1, fun h => HI.out.2 (upd_false h)⟩, KeepAll.refl⟩))
          · go_simp
            exact ⟨oneR_new hle, ⟨HI.out.1.alloc _, fun h => row_mod (HI.out.2 (upd_false h)) ((Mod.refl [] W).alloc _) (by simp)⟩, KeepAll.ofStab (T := Grow) (grow_alloc _ _) (by repeat (first | exact allStab_nil | refine allStab_isV ?_ | refine allStab_oneR ?_ | refine allStab_appV ?_))⟩
          · simp only [wantedL_none, ↓reduceIte, List.getD_cons_zero, List.getD_cons_succ]
            have hrow := HI.out.2 Hh1.out
            rw [← gensS_len, ints_flat, gensS_len] at hrow
            have Hrow := Lib.hid hrow
            clear hrow
            refine yr_app (enc := intC) (n := 1) (z := .int .i64 0) (bytes := 8) (.tmp 50) (.tmp 51) 55 3 rfl Try.underlying55 info_int rfl (by omega) (by omega) intC_one (fun _ => rfl) 0 (.slice A l.length cap) (gensS l) 0 w.heap.size #[.int .i64 0] 3 (by go_simp) (by rw [gensS_len]; exact Hrow.out) (by go_simp) rfl (by rw [gensS_len]; omega) (Nat.zero_le _) ?_
            intro v' w' hr hg hloc
            have hm := grown_mod hg
            have hsm : ∀ k ∈ (Value.slice A l.length cap).ownBlock.toList, k < w.heap.size := fun k hk => HLW.out k (H1.out k (by simpa using hk))
            refine ⟨⟨hr, ?_⟩, ⟨HI.out.1.trans hm (fun x hx => .inl hx), fun h => absurd h (by simp [upd])⟩, ?_⟩
            · rcases hloc with h | h
              · exact .inl h
              · exact .inr ⟨_, h, hle⟩
            · refine keep_isV (keep_isV (keep_isV (keep_isV (keep_isV (keep_isV (keep_of (fun _ h => oneR_mod h hm hsm) (keep_not Hh1.out (keep_isV (keep_isV (keep_isV (keep_isV (keep_of (fun _ h => oneR_mod h hm hsm) keep_nil))))))))))))
          · go_simp
            exact ⟨oneR_new hle, ⟨HI.out.1.alloc _, fun h => row_mod (HI.out.2 (upd_false h)) ((Mod.refl [] W).alloc _) (by simp)⟩, KeepAll.ofStab (T := Grow) (grow_alloc _ _) (by repeat (first | exact allStab_nil | refine allStab_isV ?_ | refine allStab_oneR ?_ | refine allStab_appV ?_))⟩
        · intro L' σ W h1 hI hp
          clear h1
          simp only [List.getD_cons_zero, List.getD_cons_succ, preF_cons, preF_nil, isV, and_true] at hp
          have s0 := hp.1
          have s1 := hp.2.1
          have s2 := hp.2.2.1
          have s3 := hp.2.2.2.1
          have s4 := hp.2.2.2.2.1
          have s5 := hp.2.2.2.2.2.1
          have s6 := hp.2.2.2.2.2.2.1
          have s7 := hp.2.2.2.2.2.2.2.1
          have s8 := hp.2.2.2.2.2.2.2.2.1
          have s9 := hp.2.2.2.2.2.2.2.2.2.1
          have s10 := hp.2.2.2.2.2.2.2.2.2.2.1
          have s11 := hp.2.2.2.2.2.2.2.2.2.2.2.1
          have s12 := hp.2.2.2.2.2.2.2.2.2.2.2.2
          clear hp
          have hmW := hI.1
          clear hI
          simp only [List.drop_succ_cons, List.drop_zero]
          go_simp
          clear s0 s1 s2 s3 s4 s5 s6 s8 s9 s10 s11
          generalize σ 7 = v7 at *
          generalize σ 12 = v12 at *
          have S7 := Lib.hid s7; have S12 := Lib.hid s12; have HMW := Lib.hid hmW
          have hrow : W.ownsRow 0 4 1 (.slice A' l.length cap') (livesS l).length ((livesS l).flatMap boolC) := by
            rw [← bools_flat, livesS_len]
            exact row_mod (row_mod HL.out HM0.out (by simp)) hmW (fun k hk hm => H4.out k (by simpa using hm) hk)
          have Hrow := Lib.hid hrow
          clear hrow s7 s12 hmW
          go_wp2_with (at_builtin; refine app_oneR (enc := boolC) (n := 1) (z := .bool false) (bytes := 1) rfl _ _ 67 4 rfl Try.underlying67 info_bool rfl (by omega) (by omega) boolC_one (fun _ => rfl) 0 _ (livesS l) true w.heap.size #[.bool true] 4 rfl Hrow.out S12.out rfl (by rw [livesS_len]; omega) (Nat.zero_le _) ?_; intro v13 W2 hr13 hg13 hloc13; obtain ⟨g7, c7, g13, c13, rfl, rfl, k1, k2, k3, k4, k5, k6, k7, k8, k9, k10, k11, k12, KR, KM, KF⟩ := rtake_fin HR.out HP.out HF.out HN.out HM0.out HS0.out HZ0.out HMW.out S7.out hr13 hg13 hloc13; clear hr13 hg13 hloc13)
          refine ⟨rfl, ?_⟩
          go_wp2
          refine bodyPost_ret (v := .tuple #[.agg #[.int .i64 l.length, .int .i64 0], .int .i64 0]) (by unfold results; go_simp) rfl ?_
          refine ⟨by rw [Q.out.1, Q.out.2.1, Q.out.2.2.1], [p, g7, g13], ?_, ⟨?_, KF.out⟩⟩
          · rw [Q.out.2.2.2]
            exact KR.out.1.mod (((Mod.refl [w.heap.size] _).setCell (.inl (by simp)) _).setCell (.inl (by simp)) _) (fun k hk hz => by
              have e : k = w.heap.size := by simpa using hz
              exact KR.out.2 (e ▸ hk))
          · have hpF : p ∈ F := by rw [HF.out]; simp
            exact (((KM.out.setCell (.inl hpF) _).setCell (.inl hpF) _).setCell (.inr (Nat.le_refl _)) _).setCell (.inr (Nat.le_refl _)) _
        all_goals exact undef
end Go.Proofs.Ytkcpmoinpdojjaa

/- Maps: the entries as a list of pairs, in the order in which they were laid. -/
namespace Go.Proofs.Ytkcpmoinpdojjaa
open Go Go.RowKit Go.Maps Go.MapKept
open Go.ChangeMaps (setBlock)
open Go.ChangeMaps

def prs (es : Array MapEntry) : List (Value × Value) := es.toList.map fun e => (e.key, e.val)

theorem setBlock_same {w : World} {b : Nat} {o o' : Obj} (hb : w.heap[b]? = some o) : (setBlock w b o').heap[b]? = some o' := by
  have := blk_lt hb
  simp [setBlock, this]
theorem setBlock_ne {w : World} {b k : Nat} {o' : Obj} (hk : k ≠ b) : (setBlock w b o').heap[k]? = w.heap[k]? := by
  simp [setBlock, Array.getElem?_setIfInBounds, Ne.symm hk]
theorem setBlock_size (w : World) (b : Nat) (o' : Obj) : (setBlock w b o').heap.size = w.heap.size := by simp [setBlock]
theorem setBlock_mod (w : World) (b : Nat) (o' : Obj) : Mod [b] w (setBlock w b o') :=
  ⟨rfl, rfl, rfl, by rw [setBlock_size]; exact Nat.le_refl _, fun k _ hk => setBlock_ne (by simpa using hk)⟩

section
variable {P : Program} {kt : TypeId} {w : World} {b : Nat} {l : List (Value × Value)}

structure EsOk (P : Program) (kt : TypeId) (es : Array MapEntry) (clock : Nat) (l : List (Value × Value)) : Prop where
  st : Stamped es clock
  keys : ∀ e ∈ es.toList, ∃ kl, keyOf P kt e.key = some kl
  prs : prs es = l
/-- Block b is a map of the pairs l. -/
def MapAt (P : Program) (kt : TypeId) (w : World) (b : Nat) (l : List (Value × Value)) : Prop := ∃ es clock, w.heap[b]? = some (.map es clock) ∧ EsOk P kt es clock l

theorem MapAt.lt (h : MapAt P kt w b l) : b < w.heap.size := by obtain ⟨es, c, hb, -⟩ := h; exact blk_lt hb
theorem MapAt.mod {w' : World} {F : List Nat} (h : MapAt P kt w b l) (hm : Mod F w w') (hd : b ∉ F) : MapAt P kt w' b l := by
  obtain ⟨es, c, hb, hk⟩ := h; exact ⟨es, c, hm.keep hb hd, hk⟩
theorem MapAt.made (w : World) : MapAt P kt (w.alloc (.map #[] 0)) w.heap.size [] := ⟨#[], 0, (MapKept.heap_alloc w _).1, ⟨stamped_empty 0, by simp, rfl⟩⟩
theorem EsOk.apart {es : Array MapEntry} {clock : Nat} (h : EsOk P kt es clock l) : l.Pairwise (fun p q => p.1 ≠ q.1) := by
  have := ((stamped_iff es clock).1 h.st).2.2
  rw [← h.prs]
  exact List.pairwise_map.2 this
theorem EsOk.mem {es : Array MapEntry} {clock : Nat} (h : EsOk P kt es clock l) {e : MapEntry} (he : e ∈ es.toList) : (e.key, e.val) ∈ l := by
  rw [← h.prs]; exact List.mem_map.2 ⟨e, he, rfl⟩
theorem pair_same : ∀ {l : List (Value × Value)}, l.Pairwise (fun p q => p.1 ≠ q.1) → ∀ {k v v' : Value}, (k, v) ∈ l → (k, v') ∈ l → v = v'
  | p :: l, hp, k, v, v', h1, h2 => by
    obtain ⟨ha, hb⟩ := List.pairwise_cons.1 hp
    rcases List.mem_cons.1 h1 with e1 | h1
    · rcases List.mem_cons.1 h2 with e2 | h2
      · have := e1.trans e2.symm; cases this; rfl
      · exact absurd (by rw [← e1]) (ha _ h2)
    · rcases List.mem_cons.1 h2 with e2 | h2
      · exact absurd (by rw [← e2]) (ha _ h1)
      · exact pair_same hb h1 h2
variable {t e : TypeId} {key : Value} {kl : Lit}
/-- A look-up at a key that is there. -/
theorem MapAt.look_in (K : Keyed P kt) (ht : P.underlying t = some (.map kt e)) (h : MapAt P kt w b l) (hkey : keyOf P kt key = some kl) {v : Value} (hv : (key, v) ∈ l) (c : Bool) :
    (Instr.lookup t (.map (some b)) key c).run P w = .ok (if c then .tuple #[v, .bool true] else v) w := by
  obtain ⟨es, clock, hb, hok⟩ := h
  rcases K.find w hkey es.toList hok.keys with ⟨_, h2⟩ | ⟨j, e0, h1, h2, h3⟩
  · rw [← hok.prs] at hv
    obtain ⟨x, hx, hx2⟩ := List.mem_map.1 hv
    exact absurd (congrArg Prod.fst hx2) (h2 x hx)
  · have hm := hok.mem (List.mem_of_getElem? h2)
    rw [h3] at hm
    have := pair_same hok.apart hm hv
    simp [Instr.lookup, run_underlying ht, MapKept.run_getObj_map hb, K.check w _ hkey, h1, Result.andThen, this]
/-- A look-up at a key that is not there. -/
theorem MapAt.look_out (K : Keyed P kt) (ht : P.underlying t = some (.map kt e)) {z : Value} (hz : (zeroValue e).run P w = .ok z w) (h : MapAt P kt w b l) (hkey : keyOf P kt key = some kl) (hv : ∀ p ∈ l, p.1 ≠ key) (c : Bool) :
    (Instr.lookup t (.map (some b)) key c).run P w = .ok (if c then .tuple #[z, .bool false] else z) w := by
  obtain ⟨es, clock, hb, hok⟩ := h
  rcases K.find w hkey es.toList hok.keys with ⟨h1, _⟩ | ⟨j, e0, h1, h2, h3⟩
  · simp [Instr.lookup, run_underlying ht, MapKept.run_getObj_map hb, K.check w _ hkey, h1, hz, Result.andThen]
  · exact absurd h3 (hv _ (hok.mem (List.mem_of_getElem? h2)))
/-- A store at a new key. -/
theorem MapAt.put_new (K : Keyed P kt) (ht : P.underlying t = some (.map kt e)) (h : MapAt P kt w b l) (hkey : keyOf P kt key = some kl) (hv : ∀ p ∈ l, p.1 ≠ key) (v : Value) :
    ∃ w', (Instr.mapUpdate t (.map (some b)) key v).run P w = .ok () w' ∧ MapAt P kt w' b (l ++ [(key, v)]) ∧ Mod [b] w w' ∧ w'.heap.size = w.heap.size := by
  obtain ⟨es, clock, hb, hok⟩ := h
  have hne : ∀ x ∈ es.toList, x.key ≠ key := fun x hx => hv _ (hok.mem hx)
  rcases K.find w hkey es.toList hok.keys with ⟨h1, _⟩ | ⟨j, e0, h1, h2, h3⟩
  · refine ⟨setBlock w b (.map (es.push ⟨key, v, clock⟩) (clock + 1)), ?_, ⟨_, _, setBlock_same hb, stamped_push hok.st hne, ?_, ?_⟩, setBlock_mod _ _ _, setBlock_size _ _ _⟩
    · simp [Instr.mapUpdate, run_underlying ht, MapKept.run_getObj_map hb, K.check w false hkey, h1, MapKept.run_setObj_map _ hb, Result.andThen, setBlock]
    · intro x hx
      simp only [Array.toList_push, List.mem_append, List.mem_singleton] at hx
      rcases hx with hx | rfl
      · exact hok.keys x hx
      · exact ⟨kl, hkey⟩
    · rw [← hok.prs]; simp [Go.Proofs.Ytkcpmoinpdojjaa.prs]
  · exact absurd h3 (hne e0 (List.mem_of_getElem? h2))
theorem apart_mid {l1 l2 : List (Value × Value)} {k v : Value} (h : (l1 ++ (k, v) :: l2).Pairwise (fun p q => p.1 ≠ q.1)) : ∀ p ∈ l1 ++ l2, p.1 ≠ k := by
  intro p hp
  rw [List.pairwise_append] at h
  obtain ⟨h1, h2, h3⟩ := h
  rcases List.mem_append.1 hp with hp | hp
  · exact h3 p hp (k, v) (by simp)
  · exact (fun e => (List.pairwise_cons.1 h2).1 p hp e.symm)
/-- Where an entry stands, its pair stands. -/
theorem split_at {es : Array MapEntry} {clock : Nat} {l1 l2 : List (Value × Value)} {v0 : Value} (hok : EsOk P kt es clock (l1 ++ (key, v0) :: l2)) {j : Nat} {e0 : MapEntry} (h2 : es.toList[j]? = some e0) (h3 : e0.key = key) : j = l1.length ∧ e0.val = v0 := by
  have hj : (l1 ++ (key, v0) :: l2)[j]? = some (key, e0.val) := by
    rw [← hok.prs, prs, List.getElem?_map, h2, ← h3]; rfl
  have hap := hok.apart
  have hm := pair_same hap (List.mem_of_getElem? hj) (show (key, v0) ∈ l1 ++ (key, v0) :: l2 by simp)
  refine ⟨?_, hm⟩
  rcases Nat.lt_trichotomy j l1.length with h | h | h
  · rw [List.getElem?_append_left h] at hj
    exact absurd rfl (apart_mid hap _ (List.mem_append_left _ (List.mem_of_getElem? hj)))
  · exact h
  · rw [List.getElem?_append_right (by omega), show j - l1.length = (j - l1.length - 1) + 1 by omega, List.getElem?_cons_succ] at hj
    exact absurd rfl (apart_mid hap _ (List.mem_append_right _ (List.mem_of_getElem? hj)))
/-- A store at a key that is there. -/
theorem MapAt.put_old (K : Keyed P kt) (ht : P.underlying t = some (.map kt e)) {l1 l2 : List (Value × Value)} {v0 : Value} (h : MapAt P kt w b (l1 ++ (key, v0) :: l2)) (hkey : keyOf P kt key = some kl) (v : Value) :
    ∃ w', (Instr.mapUpdate t (.map (some b)) key v).run P w = .ok () w' ∧ MapAt P kt w' b (l1 ++ (key, v) :: l2) ∧ Mod [b] w w' ∧ w'.heap.size = w.heap.size := by
  obtain ⟨es, clock, hb, hok⟩ := h
  rcases K.find w hkey es.toList hok.keys with ⟨_, h2⟩ | ⟨j, e0, h1, h2, h3⟩
  · have hv : (key, v0) ∈ prs es := by rw [hok.prs]; simp
    obtain ⟨x, hx, hx2⟩ := List.mem_map.1 hv
    exact absurd (congrArg Prod.fst hx2) (h2 x hx)
  · have hj : es[j]? = some e0 := by simpa using h2
    obtain ⟨rfl, -⟩ := split_at hok h2 h3
    have hkeyf : ∀ e', es[l1.length]? = some e' → ({ e' with key := key, val := v } : MapEntry).key = e'.key := fun e' he' => by rw [hj] at he'; cases he'; exact h3.symm
    have hlist : (es.modify l1.length (fun e' => { e' with key := key, val := v })).toList = es.toList.set l1.length { e0 with key := key, val := v } := by rw [Array.toList_modify, modify_eq_set _ _ _ _ h2]
    refine ⟨setBlock w b (.map (es.modify l1.length (fun e' => { e' with key := key, val := v })) clock), ?_, ⟨_, _, setBlock_same hb, stamped_modify hok.st _ _ (fun _ _ => rfl) (fun e' _ he' => hkeyf e' he'), ?_, ?_⟩, setBlock_mod _ _ _, setBlock_size _ _ _⟩
    · simp [Instr.mapUpdate, run_underlying ht, MapKept.run_getObj_map hb, K.check w false hkey, h1, hj, h3, K.stays w hkey, MapKept.run_setObj_map _ hb, Result.andThen, setBlock]
    · intro x hx
      rw [hlist] at hx
      rcases List.mem_or_eq_of_mem_set hx with hx | rfl
      · exact hok.keys x hx
      · exact ⟨kl, hkey⟩
    · unfold Go.Proofs.Ytkcpmoinpdojjaa.prs
      rw [hlist, List.map_set]
      have := hok.prs
      unfold Go.Proofs.Ytkcpmoinpdojjaa.prs at this
      rw [this, List.set_append_right _ _ (Nat.le_refl _), Nat.sub_self]
      rfl
/-- delete at a key that is there. -/
theorem MapAt.del_in {ty : TypeId} (K : Keyed P kt) (ht : P.underlying t = some (.map kt e)) {l1 l2 : List (Value × Value)} {v0 : Value} (h : MapAt P kt w b (l1 ++ (key, v0) :: l2)) (hkey : keyOf P kt key = some kl) :
    ∃ w', (Builtin.delete_ #[t, kt] ty #[.map (some b), key]).run P w = .ok (.tuple #[]) w' ∧ MapAt P kt w' b (l1 ++ l2) ∧ Mod [b] w w' ∧ w'.heap.size = w.heap.size := by
  obtain ⟨es, clock, hb, hok⟩ := h
  rcases K.find w hkey es.toList hok.keys with ⟨_, h2⟩ | ⟨j, e0, h1, h2, h3⟩
  · have hv : (key, v0) ∈ prs es := by rw [hok.prs]; simp
    obtain ⟨x, hx, hx2⟩ := List.mem_map.1 hv
    exact absurd (congrArg Prod.fst hx2) (h2 x hx)
  · obtain ⟨rfl, -⟩ := split_at hok h2 h3
    have hjs : l1.length < es.size := by have := (List.getElem?_eq_some_iff.1 h2).1; simpa using this
    have hsub : (es.eraseIdxIfInBounds l1.length).toList = es.toList.eraseIdx l1.length := by
      unfold Array.eraseIdxIfInBounds
      rw [dif_pos hjs]
      simp
    refine ⟨setBlock w b (.map (es.eraseIdxIfInBounds l1.length) clock), ?_, ⟨_, _, setBlock_same hb, stamped_erase hok.st _, ?_, ?_⟩, setBlock_mod _ _ _, setBlock_size _ _ _⟩
    · simp [Builtin.delete_, run_underlying ht, MapKept.run_getObj_map hb, K.check w _ hkey, h1, MapKept.run_setObj_map _ hb, Result.andThen, setBlock]
    · intro x hx
      rw [hsub] at hx
      exact hok.keys x ((List.eraseIdx_sublist _ _).subset hx)
    · have := hok.prs
      unfold Go.Proofs.Ytkcpmoinpdojjaa.prs at this ⊢
      rw [hsub, ChangeMaps.map_eraseIdx, this, List.eraseIdx_append_of_length_le (Nat.le_refl _), Nat.sub_self]
      rfl

/-! 'range' over a map whose entries stay. -/
/-- Block r is an iterator over map b of the pairs l, of which 'todo' are still to come. -/
def RangeAt (P : Program) (kt : TypeId) (w : World) (b r : Nat) (l todo : List (Value × Value)) : Prop :=
  ∃ es clock since seen c0, w.heap[b]? = some (.map es clock) ∧ EsOk P kt es clock l ∧ w.heap[r]? = some (.mapIter (some b) since seen c0) ∧ (∀ x ∈ es.toList, x.born < since) ∧ since ≤ c0 ∧ since ≤ clock ∧ prs (leftOf es seen) = todo
theorem RangeAt.mod {w' : World} {F : List Nat} {r : Nat} {todo : List (Value × Value)} (h : RangeAt P kt w b r l todo) (hm : Mod F w w') (hb : b ∉ F) (hr : r ∉ F) : RangeAt P kt w' b r l todo := by
  obtain ⟨es, clock, since, seen, c0, h1, h2, h3, h4, h5, h7, h6⟩ := h
  exact ⟨es, clock, since, seen, c0, hm.keep h1 hb, h2, hm.keep h3 hr, h4, h5, h7, h6⟩
theorem RangeAt.lt {r : Nat} {todo : List (Value × Value)} (h : RangeAt P kt w b r l todo) : r < w.heap.size := by obtain ⟨_, _, _, _, _, _, _, h3, _⟩ := h; exact blk_lt h3
theorem MapAt.range (ht : P.underlying t = some (.map kt e)) (h : MapAt P kt w b l) :
    ∃ o, (Instr.range t (.map (some b))).run P w = .ok (.pointer (some ⟨w.heap.size, 0, none⟩)) (w.alloc o) ∧ RangeAt P kt (w.alloc o) b w.heap.size l l := by
  obtain ⟨es, clock, hb, hok⟩ := h
  refine ⟨_, run_range_map w t kt e b es clock ht hb, es, clock, clock, #[], clock, blk_alloc hb _, hok, (MapKept.heap_alloc w _).1, ((stamped_iff es clock).1 hok.st).1, Nat.le_refl _, Nat.le_refl _, ?_⟩
  rw [← hok.prs]
  unfold leftOf
  congr 1
  rw [Array.filter_eq_self]
  simp
theorem RangeAt.over {r : Nat} (h : RangeAt P kt w b r l []) (ty : TypeId) : (Instr.next (.pointer (some ⟨r, 0, none⟩)) false ty).run P w = .ok (.tuple #[.bool false]) w := by
  obtain ⟨es, clock, since, seen, c0, h1, h2, h3, h4, h5, h7, h6⟩ := h
  rcases run_next_at (P := P) w ty r b since c0 seen es clock h3 h1 h4 h5 with ⟨_, hr⟩ | ⟨x, hx, _⟩
  · exact hr
  · have : (x.key, x.val) ∈ prs (leftOf es seen) := List.mem_map.2 ⟨x, hx, rfl⟩
    rw [h6] at this
    cases this
theorem RangeAt.next {r : Nat} {todo : List (Value × Value)} (h : RangeAt P kt w b r l todo) (hne : todo ≠ []) (ty : TypeId) :
    ∃ t1 p t2 w', todo = t1 ++ p :: t2 ∧ p ∈ l ∧ (Instr.next (.pointer (some ⟨r, 0, none⟩)) false ty).run P w = .ok (.tuple #[.bool true, p.1, p.2]) w' ∧
      (Instr.entry (.pointer (some ⟨r, 0, none⟩))).run P w' = .ok (.tuple #[p.1, p.2]) w' ∧ RangeAt P kt w' b r l (t1 ++ t2) ∧ Mod [r] w w' ∧ w'.heap.size = w.heap.size := by
  obtain ⟨es, clock, since, seen, c0, h1, h2, h3, h4, h5, h7, h6⟩ := h
  have hbr : b ≠ r := by rintro rfl; rw [h1] at h3; cases h3
  rcases run_next_at (P := P) w ty r b since c0 seen es clock h3 h1 h4 h5 with ⟨h0, _⟩ | ⟨x, hx, w1, hw1, hr⟩
  · have : leftOf es seen = #[] := Array.eq_empty_of_size_eq_zero h0
    rw [this] at h6
    exact absurd h6.symm hne
  · have hm1 : Mod [] w w1 := by 
      rcases hw1 with rfl | rfl
      · exact Mod.refl _ _
      · exact (Mod.refl _ _).drew
    have hs1 : w1.heap.size = w.heap.size := by rcases hw1 with rfl | rfl <;> rfl
    obtain ⟨hxe, hxs⟩ := mem_left hx
    have hst := (stamped_iff es clock).1 h2.st
    obtain ⟨a, c, hac⟩ := List.append_of_mem hx
    have hnd : ((leftOf es seen).toList.map (·.born)).Nodup := by
      unfold leftOf
      rw [Array.toList_filter]
      exact List.Nodup.sublist (List.Sublist.map _ List.filter_sublist) hst.2.1
    have hleft : (leftOf es (seen.push x.born)).toList = a ++ c := by
      have e1 : (leftOf es (seen.push x.born)).toList = (leftOf es seen).toList.filter (fun y => !(y.born == x.born)) := by
        unfold leftOf
        rw [Array.toList_filter, Array.toList_filter, List.filter_filter]
        apply List.filter_congr
        intro y _
        rw [Array.contains_push]
        cases (y.born == x.born) <;> cases seen.contains y.born <;> rfl
      rw [e1, hac]
      rw [hac, List.map_append, List.map_cons] at hnd
      rw [List.nodup_append] at hnd
      obtain ⟨_, n2, n3⟩ := hnd
      rw [List.nodup_cons] at n2
      rw [List.filter_append, List.filter_cons]
      simp only [beq_self_eq_true, Bool.not_true, Bool.false_eq_true, if_false]
      congr 1
      · rw [List.filter_eq_self]
        intro y hy
        have := n3 y.born (List.mem_map.2 ⟨y, hy, rfl⟩) x.born (by simp)
        simpa using this
      · rw [List.filter_eq_self]
        intro y hy
        have : y.born ≠ x.born := fun e => n2.1 (by rw [← e]; exact List.mem_map.2 ⟨y, hy, rfl⟩)
        simpa using this
    have h1' : (setBlock w1 r (.mapIter (some b) since (seen.push x.born) clock)).heap[b]? = some (.map es clock) := by rw [setBlock_ne hbr]; exact hm1.keep h1 (by simp)
    have h3' : (setBlock w1 r (.mapIter (some b) since (seen.push x.born) clock)).heap[r]? = some (.mapIter (some b) since (seen.push x.born) clock) := setBlock_same (hm1.keep h3 (by simp))
    refine ⟨a.map (fun y => (y.key, y.val)), (x.key, x.val), c.map (fun y => (y.key, y.val)), _, ?_, h2.mem hxe, hr, run_entry_at _ r b since seen es clock x h3' h1' hxe hst.2.1, ⟨es, clock, since, seen.push x.born, clock, h1', h2, h3', h4, h7, h7, ?_⟩, (hm1.mono (G := [r]) (by simp)).trans (setBlock_mod _ _ _) (fun x hx => .inl hx), ?_⟩
    · rw [← h6]; unfold prs; rw [hac]; simp
    · unfold prs; rw [hleft, List.map_append]
    · rw [setBlock_size, hs1]
end
end Go.Proofs.Ytkcpmoinpdojjaa

/- Tables: a field that holds a slice of one's own, appended to. -/
namespace Go.Proofs.Ytkcpmoinpdojjaa
open Go Go.RowKit

/-- A cell of block p holds a slice of one's own, in another block. -/
structure FieldAt {α : Type} (enc : α → List Value) (E n : Nat) (w : World) (p o : Nat) (cs : Array Value) (T : TypeId) (v : Value) (l : List α) : Prop where
  blk : w.heap[p]? = some (.cells cs T (0, 0))
  here : cs[o]? = some v
  row : w.ownsRow 0 E n v l.length (l.flatMap enc)
  ne : ∀ k, v.ownBlock = some k → k ≠ p
section
variable {α : Type} {enc : α → List Value} {E n : Nat} {w w' w1 w2 : World} {p o : Nat} {cs : Array Value} {T : TypeId} {v v' : Value} {l : List α}
theorem FieldAt.mod (h : FieldAt enc E n w p o cs T v l) {F : List Nat} (hm : Mod F w w') (hp : p ∉ F) (hv : ∀ k, v.ownBlock = some k → k ∉ F) : FieldAt enc E n w' p o cs T v l :=
  ⟨hm.keep h.blk hp, h.here, row_mod h.row hm hv, h.ne⟩
theorem FieldAt.cell (h : FieldAt enc E n w p o cs T v l) : w.cell? ⟨p, o, none⟩ = some v := by rw [blk_cell h.blk]; exact h.here
theorem FieldAt.lt (h : FieldAt enc E n w p o cs T v l) : p < w.heap.size := blk_lt h.blk
/-- What a field is behind a store of a slice v'. -/
structure FieldPost (enc : α → List Value) (E n : Nat) (w : World) (p o : Nat) (cs : Array Value) (T : TypeId) (v : Value) (l' : List α) (w' : World) : Prop where
  ex : ∃ v', FieldAt enc E n w' p o (cs.setIfInBounds o v') T v' l' ∧ (∀ k, v'.ownBlock = some k → v.ownBlock = some k ∨ w.heap.size ≤ k)
  mod : Mod (p :: v.ownBlock.toList) w w'
theorem field_grow (h : FieldAt enc E n w p o cs T v l) (hm : Mod [] w w1) {l' : List α} (hown : w2.ownsRow 0 E n v' l'.length (l'.flatMap enc)) (hg : w1.grownBy w2 v.ownBlock) (hloc : v'.ownBlock = v.ownBlock ∨ v'.ownBlock = some w1.heap.size) :
    FieldPost enc E n w p o cs T v l' (w2.setCell ⟨p, o, none⟩ v') ∧ w2.heap[p]? = some (.cells cs T (0, 0)) := by
  have hpl := blk_lt h.blk
  have hs := hm.size
  have hm2 : Mod (p :: v.ownBlock.toList) w w2 := (hm.mono (G := p :: v.ownBlock.toList) (by simp)).grown hg (fun k hk => .inl (by simp [hk]))
  have hp2 : w2.heap[p]? = some (.cells cs T (0, 0)) := (hg.block p (by omega) (fun e => h.ne p e.symm rfl)).trans (hm.keep h.blk (by simp))
  have hvp : ∀ k, v'.ownBlock = some k → k ≠ p := by
    intro k hk
    rcases hloc with e | e
    · exact h.ne k (e.symm.trans hk)
    · rw [e] at hk; cases hk; omega
  have hol : o < cs.size := (Array.getElem?_eq_some_iff.1 h.here).1
  refine ⟨⟨⟨v', ⟨blk_set hp2 o v', by simp [hol], row_mod hown ((Mod.refl [p] _).setCell (.inl (by simp)) _) (fun k hk => by simpa using hvp k hk), hvp⟩, ?_⟩, hm2.setCell (.inl (by simp)) _⟩, hp2⟩
  intro k hk
  rcases hloc with e | e
  · exact .inl (e.symm.trans hk)
  · rw [e] at hk; cases hk; right; omega
end

def FieldRet {α : Type} (enc : α → List Value) (E n : Nat) (w : World) (p o : Nat) (cs : Array Value) (T : TypeId) (v : Value) (l' : List α) (r : Value) (e : Ending) (w' : World) : Prop := e = .returned r ∧ FieldPost enc E n w p o cs T v l' w'

set_option maxRecDepth 20000 in
set_option maxHeartbeats 1000000 in
theorem colAdd_any (p o : Nat) (cs : Array Value) (T : TypeId) (v : Value) (l : List Int) (x : Int) (w : World) (h : FieldAt intC 3 1 w p o cs T v l) (hl : l.length ≤ 1200000000000) :
    Calls Try.prog 71 #[.pointer (some ⟨p, o, none⟩), .int .i64 x] w (FieldRet intC 3 1 w p o cs T v (l ++ [x]) (.tuple #[])) := by
  have hc := h.cell
  have hlt := h.lt
  have H := Lib.hid h; have Hl := Lib.hid hl
  clear h hl
  obtain ⟨A, cap, rfl, -, -⟩ := row_slice H.out.row
  go_enter Try.func71, Try.ntmps71
  go_wp2_with (at_builtin; refine app_rec (enc := intC) (n := 1) (z := .int .i64 0) (bytes := 8) rfl _ _ 55 3 rfl Try.underlying55 info_int rfl (by omega) (by omega) intC_one (fun _ => rfl) 0 _ l x ⟨w.heap.size, 0, none⟩ 1 rfl (H.out.row.alloc _) rfl (new_rec (by simp) rfl) (by have := Hl.out; omega) (Nat.zero_le _) ?_; intro v' w2 hown hg hloc; obtain ⟨A2, cap2, rfl, -, -⟩ := row_slice hown; have hk := field_grow H.out ((Mod.refl [] w).alloc _) hown hg hloc; have hb2 := hk.2; have hk1 := hk.1; rw [List.length_append] at hk1; have HK := Lib.hid hk1; have hf2 := blk_free hb2 o; have hc2 := blk_cell hb2 o; rw [H.out.here] at hc2; have hl2 := blk_lt hb2; clear hown hg hloc hk hk1 hb2)
  refine bodyPost_end (v := .tuple #[]) ?_ rfl ?_
  · unfold results; try go_simp
  · exact ⟨rfl, HK.out⟩

attribute [local go_sem] AllFrom.cons_eq AllFrom.nil_eq putF_nil putF_cons wantedL_none wantedL_some OpGoalT OpGoalV OpGoalQ YieldsR preF_nil preF_cons

set_option maxRecDepth 20000 in
set_option maxHeartbeats 1000000 in
theorem hdlAdd_any (p o : Nat) (cs : Array Value) (T : TypeId) (v : Value) (l : List (Int × Int)) (s g : Int) (w : World) (h : FieldAt handleC 45 2 w p o cs T v l) (hl : l.length ≤ 1200000000000) :
    Calls Try.prog 70 #[.pointer (some ⟨p, o, none⟩), .agg #[.int .i64 s, .int .i64 g]] w (FieldRet handleC 45 2 w p o cs T v (l ++ [(s, g)]) (.tuple #[])) := by
  have hlt := h.lt
  have H := Lib.hid h; have Hl := Lib.hid hl
  clear h hl
  obtain ⟨A, cap, rfl, -, -⟩ := row_slice H.out.row
  go_enter Try.func70, Try.ntmps70
  go_wp2
  obtain ⟨w0, hw0⟩ : ∃ w0, w.alloc (.cells #[.int .i64 s, .int .i64 g] 45) = w0 := ⟨_, rfl⟩
  have hm0 : Mod [] w w0 := by rw [← hw0]; exact (Mod.refl _ _).alloc _
  have hs0 : w0.heap.size = w.heap.size + 1 := by rw [← hw0]; simp
  have hz0 : w0.heap[w.heap.size]? = some (.cells #[.int .i64 s, .int .i64 g] 45 (0, 0)) := by rw [← hw0]; exact heap_alloc_new w _
  rw [hw0]
  have HM0 := Lib.hid hm0; have HS0 := Lib.hid hs0; have HZ0 := Lib.hid hz0
  have H0 := Lib.hid (H.out.mod hm0 (by simp) (by simp))
  clear hm0 hs0 hz0 hw0
  refine wp_planF 7 [0, 1] [some 4, some 5, some 6, some 7, some 8, some 9, some 10, some 11, some 12, some 13, none] [[], [], [1], [1, 2], [1, 2, 3], [], [5], [1, 2, 3, 4, 5, 6], [0, 1, 2, 3, 4, 5, 6, 7], [0, 1, 2, 3, 4, 5, 6, 7, 8], [0, 1, 2, 3, 4, 5, 6, 7, 8, 9]] [0, 1, 2, 3, 4, 5, 6] 7 (fun vs => [isV (vs.getD 0 undef), isV (vs.getD 1 undef), isV (vs.getD 2 undef), isV (vs.getD 3 undef), isV (vs.getD 4 undef), isV (vs.getD 5 undef), (oneR w0.heap.size #[.int .i64 s, .int .i64 g] 45)])
    (fun _ _ W => Below w0.heap.size w0 W) mixed rfl (by kernel_rfl) (by decide) (by decide) (Below.refl _ _).drew rfl ?_
  iterate 7 apply Exists.intro
  refine ⟨?_, ?_⟩
  · simp only [List.take_succ_cons, List.take_zero, AllFrom.cons_eq, AllFrom.nil_eq, OpGoalV]
    refine ⟨?_, ?_, ?_, ?_, ?_, ?_, ?_, trivial⟩
    all_goals (intro L' σ W h1 h2 h3 hI hp; clear h1 h2 h3; (try simp only [List.getD_cons_zero, List.getD_cons_succ, preF_cons, preF_nil, isV, and_true] at hp); (first | (have hq : True := hp; clear hq hp) | skip); have HI := Lib.hid hI; clear hI)
    all_goals (
      have hf := ((H0.out.mod (Mod.ofBelow HI.out) (by simp) (by simp))).cell
      have hzk := (Mod.ofBelow HI.out).keep HZ0.out (by simp)
      have q0 := blk_cell hzk 0
      have q1 := blk_cell hzk 1
      simp only [List.getElem?_toArray, List.getElem?_cons_zero, List.getElem?_cons_succ] at q0 q1
      clear hzk)
    all_goals (first | (go_simp; exact ⟨rfl, HI.out, KeepAll.refl⟩) | (go_simp; exact ⟨oneR_new HI.out.size, HI.out.alloc HI.out.size _, KeepAll.ofStab (T := Grow) (grow_alloc _ _) (by repeat (first | exact allStab_nil | refine allStab_isV ?_ | refine allStab_oneR ?_))⟩))
  · intro L' σ W h1 hI hp
    clear h1
    simp only [List.getD_cons_zero, List.getD_cons_succ, preF_cons, preF_nil, isV, and_true] at hp
    obtain ⟨s0, s1, s2, s3, s4, s5, s6⟩ := hp
    have HI := Lib.hid hI; have S6 := Lib.hid s6
    have HW := Lib.hid (HM0.out.trans (Mod.ofBelow hI) (by simp))
    clear hI s6
    simp only [List.drop_succ_cons, List.drop_zero]
    go_simp
    clear s0 s1 s2 s3 s4 s5
    generalize σ 6 = v6 at *
    go_wp2_with (at_builtin; refine app_oneR (enc := handleC) (n := 2) (z := .agg #[.int .i64 0, .int .i64 0]) (bytes := 16) rfl _ _ 59 45 rfl Try.underlying59 info_handle rfl (by omega) (by omega) handleC_one handleC_len 0 _ l (s, g) w0.heap.size #[.int .i64 s, .int .i64 g] 45 rfl (row_mod H.out.row HW.out (by simp)) S6.out rfl (by have := Hl.out; omega) (Nat.zero_le _) ?_; intro v' w2 hown hg hloc; obtain ⟨A2, cap2, rfl, -, -⟩ := row_slice hown; have hk := field_grow H.out HW.out hown hg hloc; have hb2 := hk.2; have hk1 := hk.1; rw [List.length_append] at hk1; have HK := Lib.hid hk1; have hf2 := blk_free hb2 o; have hc2 := blk_cell hb2 o; rw [H.out.here] at hc2; have hl2 := blk_lt hb2; clear hown hg hloc hk hk1 hb2)
    refine ⟨rfl, ?_⟩
    go_wp2
    refine bodyPost_end (v := .tuple #[]) ?_ rfl ?_
    · unfold results; try go_simp
    · exact ⟨rfl, HK.out⟩
  all_goals exact undef
end Go.Proofs.Ytkcpmoinpdojjaa
