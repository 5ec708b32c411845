import Derived.Test.YtehjfmjibiafdaaGreatZooTellsJ28
/- The reference's zoo: its rows turned; Kill. -/
namespace Go.Proofs.YtehjfmjibiafdaaGreat
open Go Go.RowKit
variable {vB : Value}

attribute [local go_sem] AllFrom.cons_eq AllFrom.nil_eq putF_nil putF_cons wantedL_none wantedL_some OpGoalT OpGoalV OpGoalQ YieldsR preF_nil preF_cons

/-- What a call on a zoo leaves. -/
def ZRet (vB : Value) (q : Nat) (sl : Sl) (L : List Rw) (F : List Nat) (w : World) (r : Value) (e : Ending) (w' : World) : Prop := e = .returned r ∧ ∃ F', RepZ vB w' q sl L F' ∧ Turns w F F' w'
section
variable {w w1 : World} {q : Nat} {sl : Sl} {L L' : List Rw} {F : List Nat} {v : Value}
theorem RepZ.nodup (h : RepZ vB w q sl L F) : F.Nodup := by
  obtain ⟨_, _, _, _, _, hn⟩ := h
  exact hn
/-- New rows, in blocks of their own. -/
theorem RepZ.turn (h : RepZ vB w q sl L F) (hb : Below w.heap.size w w1) (hown : w1.ownsRow w.heap.size 69 11 v L'.length (L'.flatMap rwC)) :
    ∃ FS, RepZS v vB (w1.setCell ⟨q, 2, none⟩ v) q sl FS ∧ (w1.setCell ⟨q, 2, none⟩ v).ownsRow w.heap.size 69 11 v L'.length (L'.flatMap rwC) ∧ (∀ k ∈ FS, k ∈ F ∧ k < w.heap.size) ∧ FS.Nodup ∧ Turns w F (FS ++ v.ownBlock.toList) (w1.setCell ⟨q, 2, none⟩ v) ∧ RepZ vB (w1.setCell ⟨q, 2, none⟩ v) q sl L' (FS ++ v.ownBlock.toList) := by
  have hlt := h.lt
  obtain ⟨vL, FS, h1, h2, rfl, h3⟩ := h
  have hq : q ∈ FS := by obtain ⟨_, _, _, _, _, rfl, _⟩ := h1; simp
  have hn : FS.Nodup := (List.nodup_append.1 h3).1
  have hFl : ∀ k ∈ FS, k < w.heap.size := fun k hk => hlt k (by simp [hk])
  have hvl : ∀ k, v.ownBlock = some k → w.heap.size ≤ k := fun k hk => (hown.lt k hk).1
  have hM : Mod [q] w1 (w1.setCell ⟨q, 2, none⟩ v) := (Mod.refl _ _).setCell (.inl (by simp)) v
  have hz := h1.turnL (vL' := v) (Mod.ofBelow hb) (by simp)
  have ho := row_mod hown hM (fun k hk e => by have := hvl k hk; have := hFl q hq; simp at e; omega)
  have hT : Turns w (FS ++ vL.ownBlock.toList) (FS ++ v.ownBlock.toList) (w1.setCell ⟨q, 2, none⟩ v) := by
    refine ⟨((Mod.ofBelow hb).mono (by simp)).setCell (.inl (by simp [hq])) v, fun k hk => ?_⟩
    rcases List.mem_append.1 hk with hk | hk
    · exact .inl (by simp [hk])
    · exact .inr (hvl k (by simpa using hk))
  refine ⟨FS, hz, ho, fun k hk => ⟨by simp [hk], hFl k hk⟩, hn, hT, v, FS, hz, row_base ho (by omega), rfl, ?_⟩
  rw [List.nodup_append]
  refine ⟨hn, by cases v.ownBlock <;> simp, fun a ha b hb' e => ?_⟩
  subst e
  have := hFl a ha
  have := hvl a (by simpa using hb')
  omega
theorem killLz_none {h : Hd} (hi : idxL L h = none) : killL L h = L := by
  unfold killL
  rw [List.filter_eq_self]
  intro x hx
  have := idx_none hi x hx
  simpa using this
theorem freeL_dead {s g : Int} (h : liveB sl s g = false) : freeL sl s g = sl := by unfold freeL; rw [h]; rfl
theorem freeE_live {s g : Int} (h : liveB sl s g = true) : freeE sl s g = 0 := by unfold freeE; rw [h]; rfl
theorem killE_none {h : Hd} (hi : idxL L h = none) : killE L h = 7 := by unfold killE; rw [hi]
theorem killE_some {h : Hd} {i : Nat} (hi : idxL L h = some i) : killE L h = 0 := by unfold killE; rw [hi]

set_option maxRecDepth 20000 in
set_option maxHeartbeats 4000000 in
theorem zkill_any (h : RepZ vB w q sl L F) (hO : WOk sl L) (s g : Int) :
    Calls Tryz.prog 53 #[.pointer (some ⟨q, 0, none⟩), .agg #[.int .i64 s, .int .i64 g]] w (ZRet vB q (freeL sl s g) (killL L (s, g)) F w (.int .i64 (killE L (s, g)))) := by
  obtain ⟨w0, hw0, hb0, hz0, hs0⟩ := box1 w (.cells #[.int .i64 s, .int .i64 g] 41)
  have hl := hO.len
  have h1 := at_any (h.below hb0) hl s g
  have q0 := blk_cell hz0 0
  have q1 := blk_cell hz0 1
  simp only [List.getElem?_toArray, List.getElem?_cons_zero, List.getElem?_cons_succ] at q0 q1
  have ql := blk_lt hz0
  rcases hO.idx s g with ⟨hv, i, hi⟩ | ⟨hv, hi⟩
  · rw [killE_some hi]
    rw [atI_some hi] at h1
    have hin : (decide ((i : Int) < 0)) = false := by simp
    have hmf : ∀ (fn : Fn) (first cap : Array Value) (w : World), (Instr.makeFunc fn first cap).run Tryz.prog w = .ok (.func fn first cap) w := fun _ _ _ _ => rfl
    obtain ⟨vg, vl, A, cap, hq, hrow⟩ := h.open_
    have H := Lib.hid h; have H1 := Lib.hid h1; have Hb := Lib.hid hb0; have Hz := Lib.hid hz0; have HS := Lib.hid hs0; have Hq := Lib.hid hq; have Hrow := Lib.hid hrow; have HO := Lib.hid hO; have Hv := Lib.hid hv
    clear h h1 hb0 hz0 hs0 hq hrow hO hv
    clear hi
    go_enter Tryz.func53, Tryz.ntmps53
    go_wp2_with fail
    clear hw0
    refine H1.out.mono ?_
    rintro e w1 ⟨rfl, hb1⟩
    have hb01 : Below w.heap.size w w1 := Hb.out.trans (hb1.mono Hb.out.size)
    have hy1 := (Mod.ofBelow hb1).keep Hz.out (by simp)
    have hq1 := (Mod.ofBelow hb01).keep Hq.out (by simp)
    have c2 := blk_cell hq1 2
    simp only [List.getElem?_toArray, List.getElem?_cons_zero, List.getElem?_cons_succ] at c2
    have hql := blk_lt hq1
    have h2 := without_any (row_mod Hrow.out (Mod.ofBelow hb01) (by simp)) (by omega) s g w.heap.size hy1
    clear q0 q1 ql
    have q0 := blk_cell hy1 0
    have q1 := blk_cell hy1 1
    simp only [List.getElem?_toArray, List.getElem?_cons_zero, List.getElem?_cons_succ] at q0 q1
    have ql := blk_lt hy1
    have Hb1 := Lib.hid hb01; have Hy1 := Lib.hid hy1; have H2 := Lib.hid h2
    clear hb01 hy1 h2
    clear hb1 hq1
    go_wp2_with fail
    refine H2.out.mono ?_
    rintro e w2 ⟨v, rfl, hown, hb2⟩
    obtain ⟨A2, cap2, hv2, -, -⟩ := row_slice hown
    have hb02 : Below w.heap.size w w2 := Hb1.out.trans (hb2.mono Hb1.out.size)
    obtain ⟨FS, hz, ho, hFl, hn, hT, hR⟩ := RepZ.turn H.out hb02 (row_base hown (B' := w.heap.size) (fun k hk => by have := (hown.lt k hk).1; have := Hb1.out.size; omega))
    have hq2 := (Mod.ofBelow hb02).keep Hq.out (by simp)
    have hy2 := (Mod.ofBelow hb2).keep Hy1.out (by simp)
    have hqw : q < w.heap.size := blk_lt Hq.out
    subst hv2
    obtain ⟨v, hv2⟩ : ∃ v, v = Value.slice A2 (killL L (s, g)).length cap2 := ⟨_, rfl⟩
    rw [← hv2] at hown hz ho hT hR
    obtain ⟨w3, hw3⟩ : ∃ w3, (w2.setCell ⟨q, 2, none⟩ v).drew = w3 := ⟨_, rfl⟩
    have hM : Mod [q] w2 w3 := by rw [← hw3]; exact ((Mod.refl _ _).setCell (.inl (by simp)) v).drew
    have hy3 := hM.keep hy2 (by simp; omega)
    have hB3 : Below (w2.setCell ⟨q, 2, none⟩ v).heap.size (w2.setCell ⟨q, 2, none⟩ v) w3 := by rw [← hw3]; exact below_drew
    have hz3 := hz.mod (Mod.ofBelow hB3) (by simp)
    have ho3 := row_mod ho (Mod.ofBelow hB3) (by simp)
    have hT3 := hT.below hB3
    have h3 := zfree_any q sl FS s g w3 hz3 HO.out.ok
    have c2 := blk_cell hq2 2
    simp only [List.getElem?_toArray, List.getElem?_cons_zero, List.getElem?_cons_succ] at c2
    have f2 := blk_free hq2 2
    have hql := blk_lt hq2
    clear q0 q1 ql
    have hqn : q ≠ w.heap.size := by omega
    have hnq : w.heap.size ≠ q := by omega
    have q0 := blk_cell hy2 0
    have q1 := blk_cell hy2 1
    simp only [List.getElem?_toArray, List.getElem?_cons_zero, List.getElem?_cons_succ] at q0 q1
    have ql := blk_lt hy2
    have Hown := Lib.hid hown; have Hb2 := Lib.hid hb2; have Hb02 := Lib.hid hb02; have HZ := Lib.hid hz; have Ho := Lib.hid ho; have HFl := Lib.hid hFl; have Hn := Lib.hid hn; have HT := Lib.hid hT; have HR := Lib.hid hR; have Hw3 := Lib.hid hw3; have HM := Lib.hid hM; have Hy3 := Lib.hid hy3; have HZ3 := Lib.hid hz3; have Ho3 := Lib.hid ho3; have HT3 := Lib.hid hT3; have H3 := Lib.hid h3; have Hv2 := Lib.hid hv2
    clear hown hb2 hb02 hz ho hFl hn hT hR hw3 hM hy3 hz3 ho3 hT3 h3 hv2
    clear hq2 hy2 hB3
    go_wp2_with fail
    refine wp_planR 4 [0] [some 18, some 19, some 20, some 21, some 22, some 4] [[], [0], [0, 1], [], [0, 1, 2, 3], [0, 1, 2, 3, 4]] [0, 1, 2, 3] mixed rfl (by kernel_rfl) (by decide) (by decide) rfl ?_
    iterate 4 apply Exists.intro
    refine ⟨rfl, ?_, ?_⟩
    · simp only [List.take_succ_cons, List.take_zero, AllFrom.cons_eq, AllFrom.nil_eq, OpGoalQ]
      refine ⟨?_, ?_, ?_, ?_, trivial⟩
      all_goals (intro σ hp; (try simp only [List.getD_cons_zero, List.getD_cons_succ, List.map_cons, List.map_nil, preF_cons, preF_nil, isV, and_true] at hp); (first | (have hq : True := hp; clear hq hp) | skip))
      all_goals (go_simp; exact ⟨rfl, rfl⟩)
    intro σ hp
    simp only [List.getD_cons_zero, List.getD_cons_succ, List.map_cons, List.map_nil, preF_cons, preF_nil, isV, and_true] at hp
    simp only [List.drop_succ_cons, List.drop_zero]
    go_simp
    clear hp
    rw [← Hv2.out, Hw3.out]
    go_wp2_with fail
    refine H3.out.mono ?_
    rintro e w4 ⟨rfl, hz4, hm4⟩
    have HZ4 := Lib.hid hz4; have HM4 := Lib.hid hm4
    clear hz4 hm4
    go_wp2_with fail
    refine ⟨rfl, ?_⟩
    go_wp2
    go_ret
    have hz4 := HZ4.out
    have hm4 := HM4.out
    rw [freeE_live Hv.out]
    have hvl : ∀ k, v.ownBlock = some k → w.heap.size ≤ k := fun k hk => (Ho.out.lt k hk).1
    have ho4 := row_mod Ho3.out hm4 (fun k hk e => by have := hvl k hk; have := (HFl.out k e).2; omega)
    have hT4 : Turns w3 (FS ++ v.ownBlock.toList) (FS ++ v.ownBlock.toList) w4 := ⟨hm4.mono (fun x hx => .inl (List.mem_append_left _ hx)), fun k hk => .inl hk⟩
    exact ⟨rfl, _, ⟨v, FS, hz4, row_base ho4 (fun k _ => Nat.zero_le k), rfl, HR.out.nodup⟩, HT3.out.trans hT4⟩
  · rw [killE_none hi, killLz_none hi, freeL_dead hv]
    rw [atI_none hi] at h1
    have H := Lib.hid h; have H1 := Lib.hid h1; have Hb := Lib.hid hb0; have HS := Lib.hid hs0
    clear h h1 hb0 hs0
    clear hz0 hi hv
    go_enter Tryz.func53, Tryz.ntmps53
    go_wp2_with fail
    clear hw0
    refine H1.out.mono ?_
    rintro e w1 ⟨rfl, hb1⟩
    have HB := Lib.hid (Hb.out.trans (hb1.mono Hb.out.size))
    clear hb1 q0 q1 ql
    go_wp2
    go_ret
    exact ⟨rfl, F, H.out.below HB.out, Turns.ofBelow HB.out⟩
end
end Go.Proofs.YtehjfmjibiafdaaGreat
