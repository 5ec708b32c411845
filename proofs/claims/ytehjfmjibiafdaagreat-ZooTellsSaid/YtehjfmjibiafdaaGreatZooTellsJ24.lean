import Derived.Test.YtehjfmjibiafdaaGreatZooTellsJ23
import Derived.Test.YtehjfmjibiafdaaGreatZooTellsJ19
/- Worlds in memory by their slots and rows: New, and the two inner calls. -/
namespace Go.Proofs.YtehjfmjibiafdaaGreat
open Go Go.RowKit

/-- A world at block p with slots sl and rows L; F: its blocks. -/
def RepW (w : World) (p : Nat) (sl : Sl) (L : List Rw) (F : List Nat) : Prop :=
  ∃ ps mt mp tb rw pl FS Fs c, WorldAt w p ps mt mp sl tb rw pl FS Fs c ∧ WCore (· ∈ L) (tb.map (·.1)) rw pl ∧ WOk sl L ∧ F = wF p mt mp tb FS Fs
theorem RepW.mod {w w' : World} {p : Nat} {sl : Sl} {L : List Rw} {F G : List Nat} (h : RepW w p sl L F) (hm : Mod G w w') (hd : ∀ y ∈ F, y ∉ G) : RepW w' p sl L F := by
  obtain ⟨ps, mt, mp, tb, rw, pl, FS, Fs, c, h1, h2, h3, rfl⟩ := h
  exact ⟨ps, mt, mp, tb, rw, pl, FS, Fs, c, h1.mod hm hd, h2, h3, rfl⟩
theorem RepW.below {w w' : World} {p : Nat} {sl : Sl} {L : List Rw} {F : List Nat} (h : RepW w p sl L F) (hb : Below w.heap.size w w') : RepW w' p sl L F := h.mod (Mod.ofBelow hb) (by simp)
theorem RepW.lt {w : World} {p : Nat} {sl : Sl} {L : List Rw} {F : List Nat} (h : RepW w p sl L F) : ∀ y ∈ F, y < w.heap.size := by
  obtain ⟨ps, mt, mp, tb, rw, pl, FS, Fs, c, h1, h2, h3, rfl⟩ := h
  exact h1.lt
theorem RepW.ok {w : World} {p : Nat} {sl : Sl} {L : List Rw} {F : List Nat} (h : RepW w p sl L F) : WOk sl L := by
  obtain ⟨ps, mt, mp, tb, rw, pl, FS, Fs, c, h1, h2, h3, rfl⟩ := h
  exact h3
/-- What a call on a world leaves. -/
def WRet (p : Nat) (sl : Sl) (L : List Rw) (F : List Nat) (w : World) (r : Value) (e : Ending) (w' : World) : Prop := e = .returned r ∧ ∃ F', RepW w' p sl L F' ∧ Turns w F F' w'

theorem MapAt.fresh {w' : World} {b : Nat} (h : w'.heap[b]? = some (.map #[] 0)) : MapAt Tryz.prog 3 w' b [] := ⟨#[], 0, h, ⟨Go.MapKept.stamped_empty 0, by simp, rfl⟩⟩

def NewW (w : World) (e : Ending) (w' : World) : Prop := ∃ p F, e = .returned (.pointer (some ⟨p, 0, none⟩)) ∧ RepW w' p [] [] F ∧ (∀ y ∈ F, w.heap.size ≤ y) ∧ Below w.heap.size w w'
set_option maxRecDepth 20000 in
theorem worldNew_any (w : World) : Calls Tryz.prog 42 #[] w (NewW w) := by
  have hmm := @run_makeMap Tryz.prog
  go_enter Tryz.func42, Tryz.ntmps42
  go_wp2_with fail
  refine (slotsNew_any _).mono ?_
  rintro e w1 ⟨ps, rfl, hb1, hs1, hps⟩
  have hsz := hb1.size
  have hpl := hs1.lt ps (by simp)
  obtain ⟨w2, hw2⟩ : ∃ w2, w2 = ((w1.alloc (.map #[] 0)).alloc (.map #[] 0)).alloc (.cells #[.pointer (some ⟨ps, 0, none⟩), .map (some w1.heap.size), .map (some (w1.heap.size + 1))] 96) := ⟨_, rfl⟩
  have h0 : w2.heap[w1.heap.size]? = some (.map #[] 0) := by rw [hw2]; exact blk_alloc (blk_alloc (MapKept.heap_alloc w1 _).1 _) _
  have h1 : w2.heap[w1.heap.size + 1]? = some (.map #[] 0) := by rw [hw2]; have := (MapKept.heap_alloc (w1.alloc (.map #[] 0)) (.map #[] 0)).1; simp only [World.size_alloc] at this; exact blk_alloc this _
  have h2 : w2.heap[w1.heap.size + 2]? = some (.cells #[.pointer (some ⟨ps, 0, none⟩), .map (some w1.heap.size), .map (some (w1.heap.size + 1))] 96 (0, 0)) := by
    rw [hw2]; have := heap_alloc_new ((w1.alloc (.map #[] 0)).alloc (.map #[] 0)) (.cells #[.pointer (some ⟨ps, 0, none⟩), .map (some w1.heap.size), .map (some (w1.heap.size + 1))] 96); simpa using this
  have hb2 : Below w1.heap.size w1 w2 := by rw [hw2]; exact (((Below.refl _ _).alloc (Nat.le_refl _) _).alloc (by simp only [World.size_alloc]; omega) _).alloc (by simp only [World.size_alloc]; omega) _
  have HS := Lib.hid (hs1.mod (Mod.ofBelow hb2) (by simp)); have HB := Lib.hid (hb1.trans (hb2.mono hsz)); have HW := Lib.hid hw2
  have H0 := Lib.hid h0; have H1 := Lib.hid h1; have H2 := Lib.hid h2
  clear hs1 hb1 hw2 h0 h1 h2 hb2
  go_wp2
  go_ret
  rw [← HW.out]
  refine ⟨w1.heap.size + 2, wF (w1.heap.size + 2) w1.heap.size (w1.heap.size + 1) [] [ps] (fun _ => []), rfl, ⟨ps, w1.heap.size, w1.heap.size + 1, [], fun _ => [], [], [ps], fun _ => [], fun y => if y = w1.heap.size + 2 then 1 else if y = ps then 2 else if y = w1.heap.size then 3 else 4, ⟨H2.out, HS.out, MapAt.fresh H0.out, MapAt.fresh H1.out, by simp, by simp, fun y hy => ?_, ?_, ?_, by simp⟩, ?_, wok_nil, rfl⟩, ?_, HB.out⟩
  · simp at hy; subst hy; rw [if_neg (by omega), if_pos rfl]
  · show (if _ then _ else _) = 3
    rw [if_neg (by omega), if_neg (by omega), if_pos rfl]
  · show (if _ then _ else _) = 4
    rw [if_neg (by omega), if_neg (by omega), if_neg (by omega)]
  · exact wcore_nil.congr (by simp)
  · intro y hy
    rcases mem_wF.1 hy with rfl | rfl | rfl | hy | ⟨t, ht, -⟩
    · omega
    · omega
    · omega
    · simp at hy; omega
    · simp at ht

section
variable {w : World} {p ps mt mp : Nat} {sl : Sl} {tb : List (Nat × Nat)} {rw : Nat → List Rw} {pl : List Pl} {FS : List Nat} {Fs : Nat → List Nat} {c : Nat → Nat} {M : Rw → Prop} {L : List Rw}
theorem WCore.len (h : WCore M (tb.map (·.1)) rw pl) (hL : ∀ y, M y → y ∈ L) {k : Nat} (hk : k ∈ tb.map (·.1)) : (rw k).length ≤ L.length := by
  refine List.Nodup.length_le_of_subset ?_ fun y hy => ?_
  · refine List.pairwise_iff_getElem.2 fun i j hi hj hij e => ?_
    obtain ⟨-, -, s, q1, q2⟩ := h.row k hk i _ (List.getElem?_eq_getElem hi)
    obtain ⟨-, -, s', q3, q4⟩ := h.row k hk j _ (List.getElem?_eq_getElem hj)
    rw [e] at q1
    have : s = s' := by omega
    subst this
    have := key_one h.pn q2 q4
    simp only [Prod.mk.injEq] at this
    omega
  · obtain ⟨i, hi, rfl⟩ := List.mem_iff_getElem.1 hy
    exact hL _ (h.row k hk i _ (List.getElem?_eq_getElem hi)).1
/-- What lay and lift leave. -/
def WMid (p ps mt mp : Nat) (sl : Sl) (M : Rw → Prop) (F : List Nat) (w : World) (r : Value) (e : Ending) (w' : World) : Prop :=
  e = .returned r ∧ ∃ tb rw pl FS Fs c, WorldAt w' p ps mt mp sl tb rw pl FS Fs c ∧ WCore M (tb.map (·.1)) rw pl ∧ Turns w F (wF p mt mp tb FS Fs) w'
theorem lay_core (h : WorldAt w p ps mt mp sl tb rw pl FS Fs c) (hc : WCore M (tb.map (·.1)) rw pl) (hL : ∀ y, M y → y ∈ L) (hL60 : L.length ≤ 60) (s : Nat) (hs : s < 256) (g K a0 a1 a2 a3 a4 a5 a6 a7 : Int) (hb : beastZ (K, a0, a1, a2, a3, a4, a5, a6, a7) = 0)
    (hn : ∀ y, M y → y.1.1 ≠ (s : Int)) :
    Calls Tryz.prog 80 #[.pointer (some ⟨p, 0, none⟩), .agg #[.int .i64 (s : Int), .int .i64 g], .agg #[.int .i64 K, .int .i64 a0, .int .i64 a1, .int .i64 a2, .int .i64 a3, .int .i64 a4, .int .i64 a5, .int .i64 a6, .int .i64 a7]] w
      (WMid p ps mt mp sl (fun y => M y ∨ y = (((s : Int), g), K, a0, a1, a2, a3, a4, a5, a6, a7)) (wF p mt mp tb FS Fs) w (.tuple #[])) := by
  obtain ⟨kn, hkn, e, -⟩ := (beastZ_iff _).1 hb
  simp only at e
  subst e
  have hsn := hc.slotNew hn
  by_cases hk : kn ∈ tb.map (·.1)
  · obtain ⟨⟨k', b⟩, hkb, rfl⟩ := List.mem_map.1 hk
    have hl : (rw k').length ≤ L.length := hc.len hL hk
    refine (lay_old h s g k' b a0 a1 a2 a3 a4 a5 a6 a7 hkb hkn hb hs hsn (by omega)).mono ?_
    rintro e w' ⟨rfl, FS', Fs', c', h', hT⟩
    exact ⟨rfl, _, _, _, _, _, _, h', hc.layOld hk rfl rfl hn, hT⟩
  · refine (lay_new h s g kn a0 a1 a2 a3 a4 a5 a6 a7 (fun t ht e => hk (List.mem_map.2 ⟨t, ht, e⟩)) hkn hb hs hsn).mono ?_
    rintro e w' ⟨b, rfl, FS', Fs', c', h', hT⟩
    refine ⟨rfl, _, _, _, _, _, _, h', ?_, hT⟩
    rw [List.map_append]
    exact hc.layNew hk rfl rfl hn
theorem lift_core (h : WorldAt w p ps mt mp sl tb rw pl FS Fs c) (hc : WCore M (tb.map (·.1)) rw pl) (hL : ∀ y, M y → y ∈ L) (hL60 : L.length ≤ 60) (hsl : ∀ y, M y → ∃ s : Nat, s < 60 ∧ y.1.1 = (s : Int)) (hbe : ∀ y, M y → beastZ y.2 = 0)
    (s g K a0 a1 a2 a3 a4 a5 a6 a7 : Int) (hM : M ((s, g), K, a0, a1, a2, a3, a4, a5, a6, a7)) :
    Calls Tryz.prog 99 #[.pointer (some ⟨p, 0, none⟩), .agg #[.int .i64 s, .int .i64 g]] w
      (WMid p ps mt mp sl (fun y => M y ∧ y ≠ ((s, g), K, a0, a1, a2, a3, a4, a5, a6, a7)) (wF p mt mp tb FS Fs) w (.agg #[.int .i64 K, .int .i64 a0, .int .i64 a1, .int .i64 a2, .int .i64 a3, .int .i64 a4, .int .i64 a5, .int .i64 a6, .int .i64 a7])) := by
  obtain ⟨s0, kn, i, e1, hp, hx⟩ := hc.has _ hM
  simp only at e1
  subst e1
  obtain ⟨s1, hs1, e2⟩ := hsl _ hM
  simp only at e2
  obtain ⟨hk, -⟩ := hc.pla _ _ _ hp
  obtain ⟨-, e3, -⟩ := hc.row kn hk i _ hx
  simp only at e3
  subst e3
  obtain ⟨hg, hkn⟩ := beastZ_good (x := (((s0 : Int), g), (kn : Int), a0, a1, a2, a3, a4, a5, a6, a7)) (hbe _ hM) rfl
  obtain ⟨⟨k', b⟩, hkb, rfl⟩ := List.mem_map.1 hk
  have hl : (rw k').length ≤ L.length := hc.len hL hk
  have hil := (List.getElem?_eq_some_iff.1 hx).1
  refine (lift_any h s0 g k' b i a0 a1 a2 a3 a4 a5 a6 a7 hkb hkn (by omega) hp hx hg (by omega) (fun y hy => ?_)).mono ?_
  · have hil : i < (rw k').length := hil
    rw [remL_at hil] at hy
    split at hy
    · next hlt =>
      rw [if_pos rfl] at hy
      obtain ⟨q1, -, s2, q3, q4⟩ := hc.row _ hk _ y hy
      obtain ⟨s3, hs3, q5⟩ := hsl y q1
      refine ⟨s2, _, by omega, q3, q4, ?_⟩
      rintro rfl
      have := key_one hc.pn q4 hp
      simp only [Prod.mk.injEq] at this
      omega
    · cases hy
  · rintro e w' ⟨rfl, FS', Fs', c', h', hT⟩
    refine ⟨rfl, _, _, _, _, _, _, h', ?_, hT⟩
    rw [liftTb_keys]
    exact hc.lift hp hx
end
end Go.Proofs.YtehjfmjibiafdaaGreat

/- Worlds: Spawn, Kill. (printed by mk_w7.py) -/
namespace Go.Proofs.YtehjfmjibiafdaaGreat
open Go Go.RowKit

theorem box2 (w : World) (o1 o2 : Obj) : ∃ w0, (w.alloc o1).alloc o2 = w0 ∧ Below w.heap.size w w0 ∧ w0.heap[w.heap.size]? = some o1 ∧ w0.heap[w.heap.size + 1]? = some o2 ∧ w0.heap.size = w.heap.size + 2 :=
  ⟨_, rfl, ((Below.refl _ _).alloc (Nat.le_refl _) _).alloc (by simp) _, blk_alloc (MapKept.heap_alloc w o1).1 _, by have := (MapKept.heap_alloc (w.alloc o1) o2).1; simpa using this, by simp⟩
theorem box1 (w : World) (o1 : Obj) : ∃ w0, w.alloc o1 = w0 ∧ Below w.heap.size w w0 ∧ w0.heap[w.heap.size]? = some o1 ∧ w0.heap.size = w.heap.size + 1 :=
  ⟨_, rfl, (Below.refl _ _).alloc (Nat.le_refl _) _, (MapKept.heap_alloc w o1).1, by simp⟩

theorem rep_fin {w w1 w8 w9 : World} {p : Nat} {sl : Sl} {L : List Rw} {F F' Z : List Nat} (hb : Below w.heap.size w w1) (hZ : ∀ z ∈ Z, w.heap.size ≤ z ∧ z < w1.heap.size) (hF : ∀ y ∈ F, y < w.heap.size) (h : RepW w8 p sl L F') (hT : Turns w1 F F' w8) (hm : Mod Z w8 w9) :
    RepW w9 p sl L F' ∧ Turns w F F' w9 := by
  refine ⟨h.mod hm (fun y hy e => ?_), (Turns.after hb hT).mod.trans hm (fun x hx => .inr (hZ x hx).1), (Turns.after hb hT).new⟩
  have := hZ y e
  rcases hT.new y hy with h1 | h1
  · have := hF _ h1; omega
  · omega

attribute [local go_sem] AllFrom.cons_eq AllFrom.nil_eq putF_nil putF_cons wantedL_none wantedL_some OpGoalT OpGoalV OpGoalQ OpGoalA YieldsR preF_nil preF_cons

section
variable {w : World} {p : Nat} {sl : Sl} {L : List Rw} {F : List Nat}

set_option maxRecDepth 20000 in
set_option maxHeartbeats 4000000 in
theorem spawn_bad (h : RepW w p sl L F) (K a0 a1 a2 a3 a4 a5 a6 a7 : Int) (hb : beastZ (K, a0, a1, a2, a3, a4, a5, a6, a7) ≠ 0) :
    Calls Tryz.prog 43 #[.pointer (some ⟨p, 0, none⟩), .agg #[.int .i64 K, .int .i64 a0, .int .i64 a1, .int .i64 a2, .int .i64 a3, .int .i64 a4, .int .i64 a5, .int .i64 a6, .int .i64 a7]] w (WRet p sl L F w (.tuple #[.agg #[.int .i64 0, .int .i64 0], .int .i64 (beastZ (K, a0, a1, a2, a3, a4, a5, a6, a7))])) := by
  have h1 := fun w => checkBeast_any K a0 a1 a2 a3 a4 a5 a6 a7 w
  rw [show beastE K [a0, a1, a2, a3, a4, a5, a6, a7] = beastZ (K, a0, a1, a2, a3, a4, a5, a6, a7) from rfl] at h1
  generalize beastZ (K, a0, a1, a2, a3, a4, a5, a6, a7) = z at *
  have hq : (z != 0) = true := by simpa using hb
  obtain ⟨w0, hw0, hb0, hz0, hz1, hs0⟩ := box2 w (.cells #[.int .i64 K, .int .i64 a0, .int .i64 a1, .int .i64 a2, .int .i64 a3, .int .i64 a4, .int .i64 a5, .int .i64 a6, .int .i64 a7] 50) (.cells #[.int .i64 0, .int .i64 0] 41)
  have q0 := blk_cell hz0 0
  have q1 := blk_cell hz0 1
  have q2 := blk_cell hz0 2
  have q3 := blk_cell hz0 3
  have q4 := blk_cell hz0 4
  have q5 := blk_cell hz0 5
  have q6 := blk_cell hz0 6
  have q7 := blk_cell hz0 7
  have q8 := blk_cell hz0 8
  simp only [List.getElem?_toArray, List.getElem?_cons_zero, List.getElem?_cons_succ] at q0 q1 q2 q3 q4 q5 q6 q7 q8
  have ql := blk_lt hz0
  have H := Lib.hid h; have H1 := Lib.hid h1; have Hb0 := Lib.hid hb0; have Hz1 := Lib.hid hz1; have Hs0 := Lib.hid hs0
  clear h h1 hb0 hz1 hs0
  clear hb hz0
  go_enter Tryz.func43, Tryz.ntmps43
  go_wp2_with fail
  clear hw0
  refine (H1.out _).mono ?_
  rintro e w1 ⟨rfl, hb1⟩
  have hy1 := (Mod.ofBelow hb1).keep Hz1.out (by simp)
  have r0 := blk_cell hy1 0
  have r1 := blk_cell hy1 1
  simp only [List.getElem?_toArray, List.getElem?_cons_zero, List.getElem?_cons_succ] at r0 r1
  have rl := blk_lt hy1
  have f0 := blk_free hy1 0
  have f1 := blk_free hy1 1
  have hb01 := Hb0.out.trans (hb1.mono Hb0.out.size)
  have hsz := hb1.size
  have hs0 := Hs0.out
  have HFin := Lib.hid (fun w9 (hm : Mod [w.heap.size + 1] w1 w9) => rep_fin hb01 (Z := [w.heap.size + 1]) (by simp; omega) H.out.lt (H.out.below hb01) (Turns.refl _ _) hm)
  clear hb1 hb01 hy1 q0 q1 q2 q3 q4 q5 q6 q7 q8 ql hs0
  go_wp2
  refine bodyPost_ret (v := .tuple #[.agg #[.int .i64 0, .int .i64 0], .int .i64 z]) (by unfold results; try go_simp) rfl ?_
  refine ⟨rfl, F, HFin.out _ ?_⟩
  repeat (refine Mod.setCell ?_ (.inl (by simp)) _)
  exact Mod.refl _ _

set_option maxRecDepth 20000 in
set_option maxHeartbeats 4000000 in
theorem spawn_full (h : RepW w p sl L F) (K a0 a1 a2 a3 a4 a5 a6 a7 : Int) (hb : beastZ (K, a0, a1, a2, a3, a4, a5, a6, a7) = 0) (ht : takeE sl ≠ 0) :
    Calls Tryz.prog 43 #[.pointer (some ⟨p, 0, none⟩), .agg #[.int .i64 K, .int .i64 a0, .int .i64 a1, .int .i64 a2, .int .i64 a3, .int .i64 a4, .int .i64 a5, .int .i64 a6, .int .i64 a7]] w (WRet p (takeL sl) L F w (.tuple #[.agg #[.int .i64 (takeK sl), .int .i64 (takeG sl)], .int .i64 (takeE sl)])) := by
  have h1 := fun w => checkBeast_any K a0 a1 a2 a3 a4 a5 a6 a7 w
  rw [show beastE K [a0, a1, a2, a3, a4, a5, a6, a7] = beastZ (K, a0, a1, a2, a3, a4, a5, a6, a7) from rfl, hb] at h1
  have hq : (takeE sl == 0) = false := by simpa using ht
  have htl : takeL sl = sl := by
    unfold takeE at ht; unfold takeL
    cases hf : sl.findIdx? freeB with
    | some k => rw [hf] at ht; simp at ht
    | none =>
      rw [hf] at ht
      simp only at ht ⊢
      by_cases h60 : sl.length = 60
      · rw [if_pos h60]
      · rw [if_neg h60] at ht; simp at ht
  obtain ⟨w0, hw0, hb0, hz0, hz1, hs0⟩ := box2 w (.cells #[.int .i64 K, .int .i64 a0, .int .i64 a1, .int .i64 a2, .int .i64 a3, .int .i64 a4, .int .i64 a5, .int .i64 a6, .int .i64 a7] 50) (.cells #[.int .i64 0, .int .i64 0] 41)
  have q0 := blk_cell hz0 0
  have q1 := blk_cell hz0 1
  have q2 := blk_cell hz0 2
  have q3 := blk_cell hz0 3
  have q4 := blk_cell hz0 4
  have q5 := blk_cell hz0 5
  have q6 := blk_cell hz0 6
  have q7 := blk_cell hz0 7
  have q8 := blk_cell hz0 8
  simp only [List.getElem?_toArray, List.getElem?_cons_zero, List.getElem?_cons_succ] at q0 q1 q2 q3 q4 q5 q6 q7 q8
  have ql := blk_lt hz0
  have hFlt := h.lt
  obtain ⟨ps, mt, mp, tb, rw, pl, FS, Fs, c, hW, hC, hO, rfl⟩ := h
  have HW := Lib.hid hW; have HC := Lib.hid hC; have HO := Lib.hid hO; have H1 := Lib.hid h1; have Hb0 := Lib.hid hb0; have Hz1 := Lib.hid hz1; have Hs0 := Lib.hid hs0; have Htl := Lib.hid htl; have HFlt := Lib.hid hFlt
  clear hW hC hO h1 hb0 hz1 hs0 htl hFlt
  clear hb hz0 ht
  go_enter Tryz.func43, Tryz.ntmps43
  go_wp2_with fail
  clear hw0
  refine (H1.out _).mono ?_
  rintro e w1 ⟨rfl, hb1⟩
  have hb01 := Hb0.out.trans (hb1.mono Hb0.out.size)
  have hW1 := HW.out.below hb01
  have e0 := blk_cell hW1.blk 0
  simp only [List.getElem?_toArray, List.getElem?_cons_zero, List.getElem?_cons_succ] at e0
  have hpl := blk_lt hW1.blk
  have hy1 := (Mod.ofBelow hb1).keep Hz1.out (by simp)
  have H2 := Lib.hid (take_any ps sl FS w1 hW1.sl HO.out.ok)
  have Hb01 := Lib.hid hb01; have HW1 := Lib.hid hW1; have Hy1 := Lib.hid hy1
  clear hb01 hW1 hy1
  clear hb1 q0 q1 q2 q3 q4 q5 q6 q7 q8 ql
  go_wp2_with fail
  refine H2.out.mono ?_
  rintro e w2 ⟨rfl, F2, hs2, hT2⟩
  obtain ⟨hW2, hT⟩ := HW1.out.turnSl hs2 hT2
  have hFS : ∀ y, w.heap.size ≤ y → y ∉ FS := fun y hy e => by have := HFlt.out y (mem_wF.2 (.inr (.inr (.inr (.inl e))))); omega
  have hy2 := hT2.mod.keep Hy1.out (hFS _ (by omega))
  have r0 := blk_cell hy2 0
  have r1 := blk_cell hy2 1
  simp only [List.getElem?_toArray, List.getElem?_cons_zero, List.getElem?_cons_succ] at r0 r1
  have rl := blk_lt hy2
  have f0 := blk_free hy2 0
  have f1 := blk_free hy2 1
  have hs0 := Hs0.out
  have hb := Hb01.out
  have hl1 := blk_lt Hy1.out
  rw [Htl.out] at hW2
  have HFin := Lib.hid (fun w9 (hm : Mod [w.heap.size + 1] w2 w9) => rep_fin hb (Z := [w.heap.size + 1]) (by simp; omega) HFlt.out ⟨ps, mt, mp, tb, rw, pl, F2, Fs, _, hW2, HC.out, HO.out, rfl⟩ hT hm)
  clear hs2 hT2 hW2 hT hFS hy2 e0 hs0 hb
  go_wp2
  refine bodyPost_ret (v := .tuple #[.agg #[.int .i64 (takeK sl), .int .i64 (takeG sl)], .int .i64 (takeE sl)]) (by unfold results; try go_simp) rfl ?_
  rw [Htl.out]
  refine ⟨rfl, _, HFin.out _ ?_⟩
  refine Mod.alloc ?_ _
  repeat (refine Mod.setCell ?_ (.inl (by simp)) _)
  exact Mod.refl _ _

set_option maxRecDepth 20000 in
set_option maxHeartbeats 4000000 in
theorem spawn_ok (h : RepW w p sl L F) (K a0 a1 a2 a3 a4 a5 a6 a7 : Int) (hb : beastZ (K, a0, a1, a2, a3, a4, a5, a6, a7) = 0) (ht : takeE sl = 0) :
    Calls Tryz.prog 43 #[.pointer (some ⟨p, 0, none⟩), .agg #[.int .i64 K, .int .i64 a0, .int .i64 a1, .int .i64 a2, .int .i64 a3, .int .i64 a4, .int .i64 a5, .int .i64 a6, .int .i64 a7]] w (WRet p (takeL sl) (insR L ((takeK sl, takeG sl), K, a0, a1, a2, a3, a4, a5, a6, a7)) F w (.tuple #[.agg #[.int .i64 (takeK sl), .int .i64 (takeG sl)], .int .i64 0])) := by
  have h1 := fun w => checkBeast_any K a0 a1 a2 a3 a4 a5 a6 a7 w
  rw [show beastE K [a0, a1, a2, a3, a4, a5, a6, a7] = beastZ (K, a0, a1, a2, a3, a4, a5, a6, a7) from rfl, hb] at h1
  obtain ⟨w0, hw0, hb0, hz0, hz1, hs0⟩ := box2 w (.cells #[.int .i64 K, .int .i64 a0, .int .i64 a1, .int .i64 a2, .int .i64 a3, .int .i64 a4, .int .i64 a5, .int .i64 a6, .int .i64 a7] 50) (.cells #[.int .i64 0, .int .i64 0] 41)
  have q0 := blk_cell hz0 0
  have q1 := blk_cell hz0 1
  have q2 := blk_cell hz0 2
  have q3 := blk_cell hz0 3
  have q4 := blk_cell hz0 4
  have q5 := blk_cell hz0 5
  have q6 := blk_cell hz0 6
  have q7 := blk_cell hz0 7
  have q8 := blk_cell hz0 8
  simp only [List.getElem?_toArray, List.getElem?_cons_zero, List.getElem?_cons_succ] at q0 q1 q2 q3 q4 q5 q6 q7 q8
  have ql := blk_lt hz0
  have hFlt := h.lt
  obtain ⟨ps, mt, mp, tb, rw, pl, FS, Fs, c, hW, hC, hO, rfl⟩ := h
  obtain ⟨k, hk60, hk, hkn, -⟩ := take_spec hO.ok ht
  have hTk := take_any ps sl FS
  unfold TakePost at hTk
  rw [ht, hk] at hTk
  rw [hk]
  have hO2 := hO.spawn ht hb
  rw [hk] at hO2
  generalize takeK sl = tk at *
  generalize takeG sl = tg at *
  have HW := Lib.hid hW; have HC := Lib.hid hC; have HO := Lib.hid hO; have H1 := Lib.hid h1; have Hb0 := Lib.hid hb0; have Hz0 := Lib.hid hz0; have Hz1 := Lib.hid hz1; have Hs0 := Lib.hid hs0; have HFlt := Lib.hid hFlt; have HTk := Lib.hid hTk; have HO2 := Lib.hid hO2; have Hkn := Lib.hid hkn; have Hb := Lib.hid hb; have Hk60 := Lib.hid hk60
  clear hW hC hO h1 hb0 hz0 hz1 hs0 hFlt hTk hO2 hkn hb hk60
  clear ht hk
  go_enter Tryz.func43, Tryz.ntmps43
  go_wp2_with fail
  clear hw0
  refine (H1.out _).mono ?_
  rintro e w1 ⟨rfl, hb1⟩
  have hb01 := Hb0.out.trans (hb1.mono Hb0.out.size)
  have hW1 := HW.out.below hb01
  have e0 := blk_cell hW1.blk 0
  simp only [List.getElem?_toArray, List.getElem?_cons_zero, List.getElem?_cons_succ] at e0
  have hpl := blk_lt hW1.blk
  have hy0 := (Mod.ofBelow hb1).keep Hz0.out (by simp)
  have hy1 := (Mod.ofBelow hb1).keep Hz1.out (by simp)
  have H2 := Lib.hid (HTk.out w1 hW1.sl HO.out.ok)
  have hsz01 : w0.heap.size ≤ w1.heap.size := hb1.size
  have Hb01 := Lib.hid hb01; have HW1 := Lib.hid hW1; have Hy0 := Lib.hid hy0; have Hy1 := Lib.hid hy1
  clear hb01 hW1 hy0 hy1
  clear hb1 q0 q1 q2 q3 q4 q5 q6 q7 q8 ql
  go_wp2_with fail
  refine H2.out.mono ?_
  rintro e w2 ⟨rfl, F2, hs2, hT2⟩
  obtain ⟨hW2, hT⟩ := HW1.out.turnSl hs2 hT2
  have hFS : ∀ y, w.heap.size ≤ y → y ∉ FS := fun y hy e => by have := HFlt.out y (mem_wF.2 (.inr (.inr (.inr (.inl e))))); omega
  obtain ⟨w3, hw3, hb3, hx3, hs3⟩ := box1 w2 (.cells #[.int .i64 (k : Int), .int .i64 tg] 41)
  have hy2 := (Mod.ofBelow hb3).keep (hT2.mod.keep Hy0.out (hFS _ (by omega))) (by simp)
  have hy3 := (Mod.ofBelow hb3).keep (hT2.mod.keep Hy1.out (hFS _ (by omega))) (by simp)
  have q0 := blk_cell hy2 0
  have q1 := blk_cell hy2 1
  have q2 := blk_cell hy2 2
  have q3 := blk_cell hy2 3
  have q4 := blk_cell hy2 4
  have q5 := blk_cell hy2 5
  have q6 := blk_cell hy2 6
  have q7 := blk_cell hy2 7
  have q8 := blk_cell hy2 8
  simp only [List.getElem?_toArray, List.getElem?_cons_zero, List.getElem?_cons_succ] at q0 q1 q2 q3 q4 q5 q6 q7 q8
  have ql := blk_lt hy2
  have r0 := blk_cell hx3 0
  have r1 := blk_cell hx3 1
  simp only [List.getElem?_toArray, List.getElem?_cons_zero, List.getElem?_cons_succ] at r0 r1
  have rl := blk_lt hx3
  have hT3 := hT.below hb3
  have hW3 := hW2.below hb3
  have H4 := Lib.hid (lay_core (L := L) hW3 HC.out (fun y hy => hy) HO.out.len k (by have := Hk60.out; omega) tg K a0 a1 a2 a3 a4 a5 a6 a7 Hb.out (fun y hy e => Hkn.out y.1 (by rw [← HO.out.hs]; exact List.mem_map.2 ⟨y, hy, rfl⟩) e))
  have hlw := hW2.lt
  have hsz12 : w1.heap.size ≤ w2.heap.size := hT2.mod.size
  have HT3 := Lib.hid hT3; have HW3 := Lib.hid hW3; have Hx3 := Lib.hid hx3; have Hy3 := Lib.hid hy3; have Hlw := Lib.hid hlw; have Hs3 := Lib.hid hs3
  clear hT3 hW3 hx3 hy3 hlw hs3
  clear hs2 hT2 hW2 hT hFS hy2 e0 hb3
  go_wp2_with fail
  clear hw3
  refine H4.out.mono ?_
  rintro e w4 ⟨rfl, tb4, rw4, pl4, FS4, Fs4, c4, hW4, hC4, hT4⟩
  have hno : ∀ y, y ∈ wF p mt mp tb F2 Fs → (w.heap.size ≤ y ∧ y < w1.heap.size → False) := fun y hy ⟨e1, e2⟩ => by
    rcases HT3.out.new y hy with h1 | h1
    · have := HFlt.out y h1; omega
    · omega
  have hs0 := Hs0.out
  have hl1 := blk_lt Hy1.out
  have hx4 := hT4.mod.keep Hx3.out (fun e => by have := Hlw.out _ e; omega)
  have hy4 := hT4.mod.keep Hy3.out (fun e => hno _ e ⟨by omega, by omega⟩)
  have r0 := blk_cell hx4 0
  have r1 := blk_cell hx4 1
  simp only [List.getElem?_toArray, List.getElem?_cons_zero, List.getElem?_cons_succ] at r0 r1
  have rl := blk_lt hx4
  have u0 := blk_cell hy4 0
  have u1 := blk_cell hy4 1
  simp only [List.getElem?_toArray, List.getElem?_cons_zero, List.getElem?_cons_succ] at u0 u1
  have ul := blk_lt hy4
  have f0 := blk_free hy4 0
  have f1 := blk_free hy4 1
  have hsw2 : w0.heap.size ≤ w2.heap.size := by omega
  have n1 : w2.heap.size ≠ w.heap.size + 1 := by omega
  have n2 : w.heap.size + 1 ≠ w2.heap.size := by omega
  have hR4 : RepW w4 p (takeL sl) (insR L (((k : Int), tg), K, a0, a1, a2, a3, a4, a5, a6, a7)) (wF p mt mp tb4 FS4 Fs4) := ⟨ps, mt, mp, tb4, rw4, pl4, FS4, Fs4, c4, hW4, hC4.congr (fun x => mem_insR.symm), HO2.out, rfl⟩
  have hb := Hb01.out
  have HFin := Lib.hid (fun w9 (hm : Mod [w.heap.size + 1] w4 w9) => rep_fin hb (Z := [w.heap.size + 1]) (by simp; omega) HFlt.out hR4 (HT3.out.trans hT4) hm)
  clear hW4 hC4 hT4 hno hx4 hy4 hs0 hR4 hb q0 q1 q2 q3 q4 q5 q6 q7 q8 ql
  go_wp2
  refine bodyPost_ret (v := .tuple #[.agg #[.int .i64 (k : Int), .int .i64 tg], .int .i64 0]) (by unfold results; try go_simp) rfl ?_
  refine ⟨rfl, _, HFin.out _ ?_⟩
  repeat (refine Mod.setCell ?_ (.inl (by simp)) _)
  exact Mod.refl _ _
end
end Go.Proofs.YtehjfmjibiafdaaGreat
