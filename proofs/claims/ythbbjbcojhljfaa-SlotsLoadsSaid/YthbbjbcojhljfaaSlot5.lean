/- The reference's slots: Take. -/
import Derived.Test.YthbbjbcojhljfaaSlot4
import Derived.Test.YthbbjbcojhljfaaApp
namespace Go.Proofs.Ythbbjbcojhljfaa
open Go.RowKit

attribute [local go_sem] AllFrom.cons_eq AllFrom.nil_eq putF_nil putF_cons wantedL_none wantedL_some OpGoalT OpGoalS OpGoalP OpGoalV YieldsR preF_nil preF_cons

def intC (z : Int) : List Value := [.int .i64 z]
def boolC (b : Bool) : List Value := [.bool b]
theorem ints_flat (l : List Int) : ints l = l.flatMap intC := by induction l with | nil => rfl | cons x l ih => simp only [List.flatMap_cons, ← ih]; rfl
theorem bools_flat (l : List Bool) : bools l = l.flatMap boolC := by induction l with | nil => rfl | cons x l ih => simp only [List.flatMap_cons, ← ih]; rfl
theorem intC_one (z : Int) : ∀ u ∈ intC z, u.oneCell' = true := by intro u hu; simp [intC] at hu; subst hu; rfl
theorem boolC_one (b : Bool) : ∀ u ∈ boolC b, u.oneCell' = true := by intro u hu; simp [boolC] at hu; subst hu; rfl
theorem gensS_len (l : Sl) : (gensS l).length = l.length := by simp [gensS]
theorem livesS_len (l : Sl) : (livesS l).length = l.length := by simp [livesS]
theorem rtake_fin {p : Nat} {l : Sl} {F : List Nat} {w w0 W W2 : World} {vg vl v7 v13 : Value} (hR : RepRS w p l F) (hp : w.heap[p]? = some (.cells #[vg, vl] 57 (0, 0))) (hF : F = p :: (vg.ownBlock.toList ++ vl.ownBlock.toList)) (hN : F.Nodup)
    (hm0 : Mod [] w w0) (hs0 : w0.heap.size = w.heap.size + 1) (hz0 : w0.heap[w.heap.size]? = some (.cells #[.int .i64 0, .int .i64 0] 59 (0, 0))) (hm : Mod vg.ownBlock.toList w0 W)
    (h7 : appV 3 1 (gensS l ++ [0]).length ((gensS l ++ [0]).flatMap intC) vg.ownBlock w.heap.size v7 W)
    (h13 : W2.ownsRow 0 4 1 v13 (livesS l ++ [true]).length ((livesS l ++ [true]).flatMap boolC)) (hg : W.grownBy W2 vl.ownBlock) (hloc : v13.ownBlock = vl.ownBlock ∨ v13.ownBlock = some W.heap.size) :
    ∃ g7 c7 g13 c13, v7 = .slice (some ⟨g7, 0, none⟩) (l.length + 1) c7 ∧ v13 = .slice (some ⟨g13, 0, none⟩) (l.length + 1) c13 ∧ p < W2.heap.size ∧ w.heap.size < W2.heap.size ∧ p ≠ w.heap.size ∧ w.heap.size ≠ p ∧
      W2.cell? ⟨p, 0, none⟩ = some vg ∧ W2.cell? ⟨p, 1, none⟩ = some vl ∧ W2.frozen? ⟨p, 0, none⟩ = false ∧ W2.frozen? ⟨p, 1, none⟩ = false ∧
      W2.cell? ⟨w.heap.size, 0, none⟩ = some (.int .i64 0) ∧ W2.cell? ⟨w.heap.size, 1, none⟩ = some (.int .i64 0) ∧ W2.frozen? ⟨w.heap.size, 0, none⟩ = false ∧ W2.frozen? ⟨w.heap.size, 1, none⟩ = false ∧
      Hid (RepRS ((W2.setCell ⟨p, 0, none⟩ v7).setCell ⟨p, 1, none⟩ v13) p (l ++ [(0, true)]) [p, g7, g13] ∧ w.heap.size ∉ [p, g7, g13]) ∧ Hid (Mod F w W2) ∧ Hid (∀ k ∈ [p, g7, g13], k ∈ F ∨ w.heap.size ≤ k) := by
  have hlt := hR.lt
  rw [hF] at hN
  have hGF : ∀ k, vg.ownBlock = some k → k ∈ F := fun k hk => by rw [hF, hk]; simp
  have hLF : ∀ k, vl.ownBlock = some k → k ∈ F := fun k hk => by rw [hF, hk]; simp
  have hpF : p ∈ F := by rw [hF]; simp
  have hpG : ∀ k, vg.ownBlock = some k → k ≠ p := by rintro k hk rfl; rw [hk] at hN; simp at hN
  have hpL : ∀ k, vl.ownBlock = some k → k ≠ p := by rintro k hk rfl; rw [hk] at hN; simp at hN
  have hGL : ∀ k, vg.ownBlock = some k → vl.ownBlock ≠ some k := by rintro k hk hk'; rw [hk, hk'] at hN; simp at hN
  obtain ⟨h7, h7l⟩ := h7
  have h7b := row_lt h7
  have hm2 := grown_mod hg
  have hpw := hlt p hpF
  -- where v7 lies
  have h7F : ∀ k, v7.ownBlock = some k → (k ∈ F ∨ w.heap.size ≤ k) ∧ k ≠ p ∧ vl.ownBlock ≠ some k ∧ k < W.heap.size ∧ k ≠ w.heap.size := by
    intro k hk
    have hkW := h7b k hk
    rcases h7l with h | ⟨b, h, hb⟩
    · rw [h] at hk
      have := hlt k (hGF k hk)
      exact ⟨.inl (hGF k hk), hpG k hk, hGL k hk, hkW, by omega⟩
    · rw [hk] at h; cases h
      refine ⟨.inr hb, by omega, fun e => by have := hlt _ (hLF _ e); omega, hkW, ?_⟩
      rintro rfl
      -- the block of the handle is no row
      have hz := hm.keep hz0 (fun hh => by have := hlt _ (hGF _ (by simpa using hh)); omega)
      obtain ⟨g, c, cur, e, -, hbk, -⟩ := row_some h7 (by simp)
      rw [e] at hk
      simp only [Value.ownBlock, Option.some.injEq] at hk
      rw [hk, hz] at hbk
      exact absurd hbk (by simp)
  have h13F : ∀ k, v13.ownBlock = some k → (k ∈ F ∨ w.heap.size ≤ k) ∧ k ≠ p ∧ v7.ownBlock ≠ some k ∧ k ≠ w.heap.size := by
    intro k hk
    have hsW : w.heap.size < W.heap.size := by have := hm.size; omega
    rcases hloc with h | h
    · rw [h] at hk
      have := hlt k (hLF k hk)
      exact ⟨.inl (hLF k hk), hpL k hk, fun e => (h7F k e).2.2.1 hk, by omega⟩
    · rw [hk] at h; cases h
      exact ⟨.inr (by omega), by omega, fun e => by have := (h7F _ e).2.2.2.1; omega, by omega⟩
  have hm02 : Mod F w W := (hm0.mono (by simp)).trans hm (fun x hx => .inl (hGF x (by simpa using hx)))
  have hm3 : Mod F w W2 := hm02.trans hm2 (fun x hx => .inl (hLF x (by simpa using hx)))
  have hp2 : W2.heap[p]? = some (.cells #[vg, vl] 57 (0, 0)) :=
    hm2.keep (hm.keep (hm0.keep hp (by simp)) (fun h => hpG p (by simpa using h) rfl)) (fun h => hpL p (by simpa using h) rfl)
  have hz2 : W2.heap[w.heap.size]? = some (.cells #[.int .i64 0, .int .i64 0] 59 (0, 0)) :=
    hm2.keep (hm.keep hz0 (fun h => by have := hlt _ (hGF _ (by simpa using h)); omega)) (fun h => by have := hlt _ (hLF _ (by simpa using h)); omega)
  have h72 := row_mod h7 hm2 (fun k hk h => (h7F k hk).2.2.1 (by simpa using h))
  have e7 : (gensS l ++ [(0 : Int)]).length = l.length + 1 := by simp [gensS]
  have e13 : (livesS l ++ [true]).length = l.length + 1 := by simp [livesS]
  have x7 : (gensS l ++ [(0 : Int)]).flatMap intC = ints (gensS (l ++ [(0, true)])) := by rw [← ints_flat]; simp [gensS]
  have x13 : (livesS l ++ [true]).flatMap boolC = bools (livesS (l ++ [(0, true)])) := by rw [← bools_flat]; simp [livesS]
  rw [e7, x7] at h72
  rw [e13, x13] at h13
  obtain ⟨g7, c7, cur7, rfl, -, hb7, -⟩ := row_some h72 (by omega)
  obtain ⟨g13, c13, cur13, rfl, -, hb13, -⟩ := row_some h13 (by omega)
  obtain ⟨f1, f2, f3, f4, f5⟩ := h7F g7 rfl
  obtain ⟨j1, j2, j3, j4⟩ := h13F g13 rfl
  have j3' : g7 ≠ g13 := fun e => j3 (by rw [e]; rfl)
  refine ⟨g7, c7, g13, c13, rfl, rfl, blk_lt hp2, blk_lt hz2, by omega, by omega, by rw [blk_cell hp2]; rfl, by rw [blk_cell hp2]; rfl, blk_free hp2 0, blk_free hp2 1, by rw [blk_cell hz2]; rfl, by rw [blk_cell hz2]; rfl, blk_free hz2 0, blk_free hz2 1, ⟨?_, ?_⟩, hm3, ?_⟩
  · have hmm : ∀ u v, Mod [p] W2 ((W2.setCell ⟨p, 0, none⟩ u).setCell ⟨p, 1, none⟩ v) := fun u v => ((Mod.refl [p] W2).setCell (.inl (by simp)) u).setCell (.inl (by simp)) v
    refine ⟨.slice (some ⟨g7, 0, none⟩) (l.length + 1) c7, .slice (some ⟨g13, 0, none⟩) (l.length + 1) c13, ?_, ?_, ?_, rfl, ?_⟩
    · rw [blk_set (blk_set hp2 0 _) 1 _]; rfl
    · rw [List.length_append]
      exact row_mod h72 (hmm _ _) (fun k hk h => by
        have e1 : g7 = k := by simpa [Value.ownBlock] using hk
        have e2 : k = p := by simpa using h
        exact f2 (e1.trans e2))
    · rw [List.length_append]
      exact row_mod h13 (hmm _ _) (fun k hk h => by
        have e1 : g13 = k := by simpa [Value.ownBlock] using hk
        have e2 : k = p := by simpa using h
        exact j2 (e1.trans e2))
    · simp only [Value.ownBlock, Option.toList_some, List.cons_append, List.nil_append, List.nodup_cons, List.mem_cons, List.not_mem_nil, or_false, not_or, not_false_eq_true, List.nodup_nil, and_true]
      exact ⟨⟨fun e => f2 e.symm, fun e => j2 e.symm⟩, j3'⟩
  · simp only [List.mem_cons, List.not_mem_nil, or_false, not_or]
    exact ⟨by omega, fun e => f5 e.symm, fun e => j4 e.symm⟩
  · intro k hk
    simp only [List.mem_cons, List.not_mem_nil, or_false] at hk
    rcases hk with rfl | rfl | rfl
    · exact .inl hpF
    · exact f1
    · exact j1

def RTakePost (p : Nat) (l : Sl) (F : List Nat) (w : World) (e : Ending) (w' : World) : Prop :=
  e = .returned (.tuple #[.agg #[.int .i64 (takeK l), .int .i64 (takeG l)], .int .i64 (takeE l)]) ∧ ∃ F', RepRS w' p (takeL l) F' ∧ Turns w F F' w'

theorem RepRS.setLive {w W : World} {p : Nat} {l : Sl} {F G : List Nat} {n : Nat} (h : RepRS w p l F) (hm : Mod G w W) (hd : ∀ k ∈ F, k ∉ G) (hn : n < l.length) {g0 c0 g1 c1 : Nat}
    (hp : w.heap[p]? = some (.cells #[.slice (some ⟨g0, 0, none⟩) l.length c0, .slice (some ⟨g1, 0, none⟩) l.length c1] 57 (0, 0))) (b : Bool) : RepRS (W.setCell ⟨g1, n, none⟩ (.bool b)) p (l.set n (l[n].1, b)) F := by
  have hpF : p ∈ F := by obtain ⟨_, _, _, _, _, rfl, _⟩ := h; simp
  obtain ⟨g0', c0', g1', c1', hp', -, -, -, -, -, -, -, -, -, -, -, -, -, hset⟩ := (h.mod hm hd).at_ hn
  have hee := (hm.keep hp (hd p hpF)).symm.trans hp'
  simp only [Option.some.injEq, Obj.cells.injEq, Array.mk.injEq, List.cons.injEq, Value.slice.injEq, Addr.mk.injEq, and_true, true_and] at hee
  obtain ⟨⟨rfl, rfl⟩, rfl, rfl⟩ := hee
  exact hset b

set_option maxHeartbeats 1000000 in
theorem rtake_any (p : Nat) (l : Sl) (F : List Nat) (w : World) (h : RepRS w p l F) (hok : SlOk l) :
    Calls Try.prog 43 #[.pointer (some ⟨p, 0, none⟩)] w (RTakePost p l F w) := by
  have hl60 := hok.1
  obtain ⟨vg, vl, hp, hg, hl, hF, hne⟩ := h
  have HR : Hid (RepRS w p l F) := ⟨vg, vl, hp, hg, hl, hF, hne⟩
  have HG := Lib.hid hg; have HL := Lib.hid hl; have HP := Lib.hid hp; have HF := Lib.hid hF; have HN := Lib.hid hne; have HO := Lib.hid hok
  obtain ⟨A, cap, rfl, -, -⟩ := row_slice HG.out
  obtain ⟨A', cap', rfl, -, -⟩ := row_slice HL.out
  have hc0 := blk_cell hp 0
  have hc1 := blk_cell hp 1
  have hpl := blk_lt hp
  simp at hc0 hc1
  clear hp hg hl hF hne hok
  go_enter Try.func43, Try.ntmps43
  go_wp2
  go_loop [11] (fun i => ∃ k : Nat, k ≤ l.length ∧ i = .int .i64 k ∧ ∀ j (h : j < k) (h' : j < l.length), freeB l[j] = false) (fun i => l.length - (intOf i).toNat)
  case atStart => exact ⟨0, by omega, rfl, fun j h => by omega⟩
  case round =>
    obtain ⟨k, hk, rfl, hno⟩ := hrel
    by_cases hlt : k < l.length
    · obtain ⟨g0, c0, g1, c1, hp, hgF, hgF1, n1, n2, n3, n4, l0, l1, e0, e1, hfz, hfz1, -, -⟩ := HR.out.at_ hlt
      have hee := HP.out.symm.trans hp
      simp only [Option.some.injEq, Obj.cells.injEq, Array.mk.injEq, List.cons.injEq, Value.slice.injEq, and_true, true_and] at hee
      obtain ⟨⟨rfl, rfl⟩, rfl, rfl⟩ := hee
      have hset := HR.out.setLive (Mod.refl [] w) (by simp) hlt hp true
      have hq0 := blk_cell hp 0
      have hq1 := blk_cell hp 1
      simp at hq0 hq1
      have f1 := hfz1 k
      have hin : (k : Int) < (l.length : Int) := by omega
      have hlw := HR.out.lt
      have n5 : w.heap.size ≠ g1 := by have := hlw g1 hgF1; omega
      have n6 : w.heap.size ≠ g0 := by have := hlw g0 hgF; omega
      have hyes : freeB l[k] = true → l.findIdx? freeB = some k := fun h => fi_some hlt h fun j hj => hno j hj (by omega)
      have hgo : freeB l[k] = false → ∀ j (h : j < k + 1) (h' : j < l.length), freeB l[j] = false := by
        intro hf j h h'
        by_cases e : j = k
        · subst e; exact hf
        · exact hno j (by omega) h'
      have hx : ∀ x : Int × Bool, l[k] = x → freeB x = true → takeK l = k ∧ takeG l = x.1 ∧ takeE l = 0 ∧ takeL l = l.set k (x.1, true) := by
        intro x hx hf
        subst hx
        have := hyes hf
        unfold takeK takeG takeE takeL
        rw [this]
        simp [List.getD_eq_getElem?_getD, List.getElem?_eq_getElem hlt]
      have HS := Lib.hid hset; have Hgo := Lib.hid hgo; have HGF1 := Lib.hid hgF1; have Hx := Lib.hid hx
      clear hset hgo hyes hx hno hgF hgF1 hlw hfz hfz1 hp hc0 hc1
      generalize l[k] = x at *
      obtain ⟨a, b⟩ := x
      simp only at e0 e1
      cases b with
      | true =>
        go_wp2
        go_round
        case rel => exact ⟨k + 1, by omega, by go_num, Hgo.out rfl⟩
        case measure => simp [intOf]; omega
      | false =>
        by_cases ha : a < 1000000
        · obtain ⟨q1, q2, q3, q4⟩ := Hx.out (a, false) rfl (by simp [freeB, ha])
          have Q1 := Lib.hid q1; have Q2 := Lib.hid q2; have Q3 := Lib.hid q3; have Q4 := Lib.hid q4
          clear q1 q2 q3 q4
          go_wp2
          refine bodyPost_ret (v := .tuple #[.agg #[.int .i64 k, .int .i64 a], .int .i64 0]) (by unfold results; go_simp) rfl ?_
          refine ⟨by rw [Q1.out, Q2.out, Q3.out], F, ?_, ⟨?_, fun k hk => .inl hk⟩⟩
          · rw [Q4.out]
            exact HS.out.mod ((Mod.refl [] _).alloc _) (by simp)
          · exact ((Mod.refl F w).setCell (p := ⟨g1, k, none⟩) (.inl HGF1.out) _).alloc _
        · have Hn := Lib.hid (Hgo.out (by simp [freeB, ha]))
          go_wp2
          go_round
          case rel => exact ⟨k + 1, by omega, by go_num, Hn.out⟩
          case measure => simp [intOf]; omega
    · have hnone : l.findIdx? freeB = none := fi_none fun j hj => hno j (by omega) hj
      obtain rfl : k = l.length := by omega
      clear hno
      by_cases h60 : l.length = 60
      · have q : takeK l = 0 ∧ takeG l = 0 ∧ takeE l = 2 ∧ takeL l = l := by unfold takeK takeG takeE takeL; rw [hnone]; simp [h60]
        have Q := Lib.hid q
        have hl2 : ((l.length : Int) == 60) = true := by simp [h60]
        clear q h60 hnone
        go_wp2
        refine bodyPost_ret (v := .tuple #[.agg #[.int .i64 0, .int .i64 0], .int .i64 2]) (by unfold results; go_simp) rfl ?_
        refine ⟨by rw [Q.out.1, Q.out.2.1, Q.out.2.2.1], F, ?_, ⟨?_, fun k hk => .inl hk⟩⟩
        · rw [Q.out.2.2.2]
          exact HR.out.mod ((Mod.refl [] w).alloc _) (by simp)
        · exact (Mod.refl F w).alloc _
      · have q : takeK l = l.length ∧ takeG l = 0 ∧ takeE l = 0 ∧ takeL l = l ++ [(0, true)] := by unfold takeK takeG takeE takeL; rw [hnone]; simp [h60]
        have Q := Lib.hid q
        have hl2 : ((l.length : Int) == 60) = false := by simp; omega
        have hlt60 : l.length < 60 := by omega
        clear q h60 hnone hl60
        go_wp2
        have hlw := HR.out.lt
        have hpF : p ∈ F := by rw [HF.out]; simp
        have hGF : ∀ k, (Value.slice A l.length cap).ownBlock = some k → k ∈ F := fun k hk => by rw [HF.out, hk]; simp
        have hLF : ∀ k, (Value.slice A' l.length cap').ownBlock = some k → k ∈ F := fun k hk => by rw [HF.out, hk]; simp
        have hGp : ∀ k, (Value.slice A l.length cap).ownBlock = some k → k ≠ p := by
          rintro k hk rfl
          have := HN.out
          rw [HF.out, hk] at this; simp at this
        have hGL : ∀ k, (Value.slice A l.length cap).ownBlock = some k → (Value.slice A' l.length cap').ownBlock ≠ some k := by
          rintro k hk hk'
          have := HN.out
          rw [HF.out, hk, hk'] at this; simp at this
        have hLp : ∀ k, (Value.slice A' l.length cap').ownBlock = some k → k ≠ p := by
          rintro k hk rfl
          have := HN.out
          rw [HF.out, hk] at this; simp at this
        obtain ⟨w0, hw0⟩ : ∃ w0, w.alloc (.cells #[.int .i64 0, .int .i64 0] 59) = w0 := ⟨_, rfl⟩
        have hm0 : Mod [] w w0 := by rw [← hw0]; exact (Mod.refl _ _).alloc _
        have hs0 : w0.heap.size = w.heap.size + 1 := by rw [← hw0]; simp
        have hz0 : w0.heap[w.heap.size]? = some (.cells #[.int .i64 0, .int .i64 0] 59 (0, 0)) := by rw [← hw0]; exact heap_alloc_new w _
        rw [hw0]
        have HM0 := Lib.hid hm0; have HS0 := Lib.hid hs0; have HZ0 := Lib.hid hz0; have HLW := Lib.hid hlw
        have H1 := Lib.hid hGF; have H2 := Lib.hid hLF; have H3 := Lib.hid hGp; have H4 := Lib.hid hGL; have H5 := Lib.hid hLp
        clear hm0 hs0 hz0 hw0 hGF hLF hGp hGL hLp hlw hc0 hc1
        refine wp_planF 13 [0, 1, 2, 8] [some 45, some 46, some 47, some 48, some 49, some 50, some 51, some 52, some 53, some 54, some 55, some 56, some 57, some 58, some 59, some 60, none, some 61, some 62, none] [[], [], [], [2], [2, 3], [2, 3, 4], [], [2, 3, 4, 5, 6], [], [8], [8, 9], [8, 9, 10], [], [2, 3, 4, 5, 6, 7, 8, 9, 10, 11, 12], [0, 2, 3, 4, 5, 6, 7, 8, 9, 10, 11, 12, 13], [0, 2, 3, 4, 5, 6, 7, 8, 9, 10, 11, 12, 13, 14], [0, 2, 3, 4, 5, 6, 7, 8, 9, 10, 11, 12, 13, 14, 15], [0, 1, 2, 3, 4, 5, 6, 7, 8, 9, 10, 11, 12, 13, 14, 15, 16], [0, 1, 2, 3, 4, 5, 6, 7, 8, 9, 10, 11, 12, 13, 14, 15, 16, 17], [0, 1, 2, 3, 4, 5, 6, 7, 8, 9, 10, 11, 12, 13, 14, 15, 16, 17, 18]] [0, 1, 2, 3, 4, 5, 6, 7, 8, 9, 10, 11, 12] 13 (fun vs => [isV (vs.getD 0 undef), isV (vs.getD 1 undef), isV (vs.getD 2 undef), isV (vs.getD 3 undef), isV (vs.getD 4 undef), isV (vs.getD 5 undef), (oneR w.heap.size #[.int .i64 0] 3), (appV 3 1 (gensS l ++ [0]).length ((gensS l ++ [0]).flatMap intC) (Value.slice A l.length cap).ownBlock w.heap.size), isV (vs.getD 8 undef), isV (vs.getD 9 undef), isV (vs.getD 10 undef), isV (vs.getD 11 undef), (oneR w.heap.size #[.bool true] 4)])
          (fun L _ W => Mod (Value.slice A l.length cap).ownBlock.toList w0 W ∧ (L 7 = false → W.ownsRow 0 3 1 (.slice A l.length cap) l.length (ints (gensS l)))) mixed rfl (by kernel_rfl) (by decide) (by decide)
          ⟨(Mod.refl _ _).drew, fun _ => row_mod HG.out (HM0.out.drew) (by simp)⟩ rfl ?_
        iterate 13 apply Exists.intro
        refine ⟨?_, ?_⟩
        · simp only [List.take_succ_cons, List.take_zero, AllFrom.cons_eq, AllFrom.nil_eq, OpGoalV]
          refine ⟨?_, ?_, ?_, ?_, ?_, ?_, ?_, ?_, ?_, ?_, ?_, ?_, ?_, trivial⟩
          all_goals (intro L' σ W h1 h2 h3 hI hp; clear h2 h3; (try simp only [List.getD_cons_zero, List.getD_cons_succ, preF_cons, preF_nil, isV, and_true] at hp); (first | (have hq : True := hp; clear hq hp) | skip))
          all_goals (
            have hpk := hI.1.keep (HM0.out.keep HP.out (by simp)) (fun h => H3.out p (by simpa using h) rfl)
            have q0 := blk_cell hpk 0
            have q1 := blk_cell hpk 1
            simp only [List.getElem?_toArray, List.getElem?_cons_zero, List.getElem?_cons_succ] at q0 q1
            have hsz := hI.1.size
            have hle : w.heap.size ≤ W.heap.size := by have := HS0.out; omega
            have HI := Lib.hid hI
            have Hh1 := Lib.hid h1
            clear hpk hsz hI h1)
          all_goals (try (go_simp; exact ⟨rfl, ⟨HI.out.1, fun h => HI.out.2 (upd_false h)⟩, KeepAll.refl⟩))
          · go_simp
            exact ⟨oneR_new hle, ⟨HI.out.1.alloc _, fun h => row_mod (HI.out.2 (upd_false h)) ((Mod.refl [] W).alloc _) (by simp)⟩, KeepAll.ofStab (T := Grow) (grow_alloc _ _) (by repeat (first | exact allStab_nil | refine allStab_isV ?_ | refine allStab_oneR ?_ | refine allStab_appV ?_))⟩
          · simp only [wantedL_none, ↓reduceIte, List.getD_cons_zero, List.getD_cons_succ]
            have hrow := HI.out.2 Hh1.out
            rw [← gensS_len, ints_flat, gensS_len] at hrow
            have Hrow := Lib.hid hrow
            clear hrow
            refine yr_app (enc := intC) (n := 1) (z := .int .i64 0) (bytes := 8) (.tmp 50) (.tmp 51) 27 3 rfl Try.underlying27 info_int rfl (by omega) (by omega) intC_one (fun _ => rfl) 0 (.slice A l.length cap) (gensS l) 0 w.heap.size #[.int .i64 0] 3 (by go_simp) (by rw [gensS_len]; exact Hrow.out) (by go_simp) rfl (by rw [gensS_len]; omega) (Nat.zero_le _) ?_
            intro v' w' hr hg hloc
            have hm := grown_mod hg
            have hsm : ∀ k ∈ (Value.slice A l.length cap).ownBlock.toList, k < w.heap.size := fun k hk => HLW.out k (H1.out k (by simpa using hk))
            refine ⟨⟨hr, ?_⟩, ⟨HI.out.1.trans hm (fun x hx => .inl hx), fun h => absurd h (by simp [upd])⟩, ?_⟩
            · rcases hloc with h | h
              · exact .inl h
              · exact .inr ⟨_, h, hle⟩
            · refine keep_isV (keep_isV (keep_isV (keep_isV (keep_isV (keep_isV (keep_of (fun _ h => oneR_mod h hm hsm) (keep_not Hh1.out (keep_isV (keep_isV (keep_isV (keep_isV (keep_of (fun _ h => oneR_mod h hm hsm) keep_nil))))))))))))
          · go_simp
            exact ⟨oneR_new hle, ⟨HI.out.1.alloc _, fun h => row_mod (HI.out.2 (upd_false h)) ((Mod.refl [] W).alloc _) (by simp)⟩, KeepAll.ofStab (T := Grow) (grow_alloc _ _) (by repeat (first | exact allStab_nil | refine allStab_isV ?_ | refine allStab_oneR ?_ | refine allStab_appV ?_))⟩
        · intro L' σ W h1 hI hp
          clear h1
          simp only [List.getD_cons_zero, List.getD_cons_succ, preF_cons, preF_nil, isV, and_true] at hp
          have s0 := hp.1
          have s1 := hp.2.1
          have s2 := hp.2.2.1
          have s3 := hp.2.2.2.1
          have s4 := hp.2.2.2.2.1
          have s5 := hp.2.2.2.2.2.1
          have s6 := hp.2.2.2.2.2.2.1
          have s7 := hp.2.2.2.2.2.2.2.1
          have s8 := hp.2.2.2.2.2.2.2.2.1
          have s9 := hp.2.2.2.2.2.2.2.2.2.1
          have s10 := hp.2.2.2.2.2.2.2.2.2.2.1
          have s11 := hp.2.2.2.2.2.2.2.2.2.2.2.1
          have s12 := hp.2.2.2.2.2.2.2.2.2.2.2.2
          clear hp
          have hmW := hI.1
          clear hI
          simp only [List.drop_succ_cons, List.drop_zero]
          go_simp
          clear s0 s1 s2 s3 s4 s5 s6 s8 s9 s10 s11
          generalize σ 7 = v7 at *
          generalize σ 12 = v12 at *
          have S7 := Lib.hid s7; have S12 := Lib.hid s12; have HMW := Lib.hid hmW
          have hrow : W.ownsRow 0 4 1 (.slice A' l.length cap') (livesS l).length ((livesS l).flatMap boolC) := by
            rw [← bools_flat, livesS_len]
            exact row_mod (row_mod HL.out HM0.out (by simp)) hmW (fun k hk hm => H4.out k (by simpa using hm) hk)
          have Hrow := Lib.hid hrow
          clear hrow s7 s12 hmW
          go_wp2_with (at_builtin; refine app_oneR (enc := boolC) (n := 1) (z := .bool false) (bytes := 1) rfl _ _ 52 4 rfl Try.underlying52 info_bool rfl (by omega) (by omega) boolC_one (fun _ => rfl) 0 _ (livesS l) true w.heap.size #[.bool true] 4 rfl Hrow.out S12.out rfl (by rw [livesS_len]; omega) (Nat.zero_le _) ?_; intro v13 W2 hr13 hg13 hloc13; obtain ⟨g7, c7, g13, c13, rfl, rfl, k1, k2, k3, k4, k5, k6, k7, k8, k9, k10, k11, k12, KR, KM, KF⟩ := rtake_fin HR.out HP.out HF.out HN.out HM0.out HS0.out HZ0.out HMW.out S7.out hr13 hg13 hloc13; clear hr13 hg13 hloc13)
          refine ⟨rfl, ?_⟩
          go_wp2
          refine bodyPost_ret (v := .tuple #[.agg #[.int .i64 l.length, .int .i64 0], .int .i64 0]) (by unfold results; go_simp) rfl ?_
          refine ⟨by rw [Q.out.1, Q.out.2.1, Q.out.2.2.1], [p, g7, g13], ?_, ⟨?_, KF.out⟩⟩
          · rw [Q.out.2.2.2]
            exact KR.out.1.mod (((Mod.refl [w.heap.size] _).setCell (.inl (by simp)) _).setCell (.inl (by simp)) _) (fun k hk hz => by
              have e : k = w.heap.size := by simpa using hz
              exact KR.out.2 (e ▸ hk))
          · have hpF : p ∈ F := by rw [HF.out]; simp
            exact (((KM.out.setCell (.inl hpF) _).setCell (.inl hpF) _).setCell (.inr (Nat.le_refl _)) _).setCell (.inr (Nat.le_refl _)) _
        all_goals exact undef
end Go.Proofs.Ythbbjbcojhljfaa
