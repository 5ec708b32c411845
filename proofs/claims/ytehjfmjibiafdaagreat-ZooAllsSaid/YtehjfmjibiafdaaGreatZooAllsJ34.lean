import Derived.Test.YtehjfmjibiafdaaGreatZooAllsJ0
import Derived.Test.YtehjfmjibiafdaaGreatZooAllsJ33
/- A part of the proof that the law ZooAlls returns true for every input. -/
namespace Go.Proofs.YtehjfmjibiafdaaGreat
open Go Go.RowKit
theorem spawnS_sub {sl : Sl} (h : SlOk sl) (b : Bt) {x : Hd} (hx : x ∈ allS sl) : x ∈ allS (spawnS sl b) := by
 unfold spawnS
 split
 ·exact hx
 ·by_cases e : takeE sl = 0
  ·obtain ⟨k, -, -, -, ha⟩ := take_spec h e
   rw [ha]
   unfold insH
   rw [← List.takeWhile_append_dropWhile (p := fun y : Hd => decide (y.1 < ((k : Int), takeG sl).1) ) (l := allS sl)] at hx
   rcases List.mem_append.1 hx with hx | hx
   ·exact List.mem_append.2 (.inl hx)
   ·exact List.mem_append.2 (.inr (List.mem_cons_of_mem _ hx))
  ·have e2 : takeL sl = sl := by
    unfold takeE at e
    unfold takeL
    cases hf : sl.findIdx? freeB with
    | some k => rw [hf] at e; exact absurd rfl e
    | none =>
     rw [hf] at e
     simp only at e ⊢
     by_cases h60 : sl.length = 60
     ·rw [if_pos h60]
     ·rw [if_neg h60] at e; exact absurd rfl e
   rw [e2]; exact hx
theorem kills_par : ∀ {sl : Sl} {L : List Rw} {B : List Bd} (_ : ∀ b ∈ B, b.2 ∈ allS sl) (l : List Hd), ∀ b ∈ (killsZ (sl, L, B) l).2.2, b.2 ∈ allS (killsZ (sl, L, B) l).1
 | _, _, _, h, [] => h
 | sl, L, B, h, x :: l => kills_par (sl := freeL sl x.1 x.2) (L := killL L x) (B := goneB B x) (fun b hb => by
  obtain ⟨h1, -, h3⟩ := mem_goneB.1 hb
  exact mem_free.2 ⟨h b h1, h3⟩) l
structure DoAt (sl : Sl) (L : List Rw) (B : List Bd) (d K a0 a1 a2 a3 a4 a5 a6 a7 s g ts tg k n : Int) (sl' : Sl) (L' : List Rw) (B' : List Bd) (r0 r1 e : Int) : Prop where
 c : ∀ b ∈ B', b.1 ∈ allS sl'
 ok : ZOk sl L B → ZOk sl' L' B'
 par : (∀ b ∈ B, b.2 ∈ allS sl) → ∀ b ∈ B', b.2 ∈ allS sl'
 pl : DoPl sl d sl' r0 r1 e
 v : ∀ {z p f : Nat} {w : World} {F : List Nat}, RepV z p f sl L B w F → Calls Tryz.prog 14 #[.pointer (some ⟨z, 0, none⟩), .agg #[.int .i64 d, .int .i64 K, .int .i64 a0, .int .i64 a1, .int .i64 a2, .int .i64 a3, .int .i64 a4, .int .i64 a5, .int .i64 a6, .int .i64 a7, .int .i64 s, .int .i64 g, .int .i64 ts, .int .i64 tg, .int .i64 k, .int .i64 n]] w (VRet z p f sl' L' B' F w (.tuple #[.agg #[.int .i64 r0, .int .i64 r1], .int .i64 e]))
 q : ∀ {q : Nat} {w : World} {F : List Nat}, RepQ q sl L B w F → Calls Tryz.prog 15 #[.pointer (some ⟨q, 0, none⟩), .agg #[.int .i64 d, .int .i64 K, .int .i64 a0, .int .i64 a1, .int .i64 a2, .int .i64 a3, .int .i64 a4, .int .i64 a5, .int .i64 a6, .int .i64 a7, .int .i64 s, .int .i64 g, .int .i64 ts, .int .i64 tg, .int .i64 k, .int .i64 n]] w (QRet q sl' L' B' F w (.tuple #[.agg #[.int .i64 r0, .int .i64 r1], .int .i64 e]))
theorem live2 {sl : Sl} {s g t u : Int} : liveZ sl [(s, g), (t, u)] = (liveB sl s g && liveB sl t u) := by unfold liveZ; simp
theorem live1 {sl : Sl} {s g : Int} : liveZ sl [(s, g)] = liveB sl s g := by unfold liveZ; simp
theorem do_any {sl : Sl} {L : List Rw} {B : List Bd} (hO : ZOk sl L B) (d K a0 a1 a2 a3 a4 a5 a6 a7 s g ts tg k n : Int) (hc : HdR (s, g)) (hp : HdR (ts, tg)) :
  ∃ sl' L' B' r0 r1 e, DoAt sl L B d K a0 a1 a2 a3 a4 a5 a6 a7 s g ts tg k n sl' L' B' r0 r1 e := by
 by_cases h1 : d = 1
 ·subst h1
  exact ⟨_, _, _, _, _, _, fun b hb => spawnS_sub hO.w.ok _ (hO.c b hb), fun hO => ⟨hO.w.spawnA _, hO.f, fun b hb => spawnS_sub hO.w.ok _ (hO.c b hb)⟩, fun hq b hb => spawnS_sub hO.w.ok _ (hq b hb), doPl_spawn hO.w.ok _, fun h => vdo_spawn h K a0 a1 a2 a3 a4 a5 a6 a7 s g ts tg k n, fun h => qdo_spawn h hO K a0 a1 a2 a3 a4 a5 a6 a7 s g ts tg k n⟩
 by_cases h2 : d = 2
 ·subst h2
  cases hl : liveB sl s g with
  | true => exact ⟨_, _, _, _, _, _, (hO.kills _).c, fun hO => hO.kills _, fun hq => kills_par hq _, doPl_kills _ (by decide), fun h => vdo_kill h K a0 a1 a2 a3 a4 a5 a6 a7 s g ts tg k n hO hl, fun h => qdo_kill h hO K a0 a1 a2 a3 a4 a5 a6 a7 s g ts tg k n hl⟩
  | false => exact ⟨_, _, _, _, _, _, hO.c, id, id, doPl_same (fun h => absurd h (by decide)), fun h => vdo_killno h K a0 a1 a2 a3 a4 a5 a6 a7 s g ts tg k n hO hl, fun h => qdo_killno h hO K a0 a1 a2 a3 a4 a5 a6 a7 s g ts tg k n hl⟩
 by_cases h3 : d = 3
 ·subst h3
  exact ⟨_, _, _, _, _, _, hO.c, fun hO => ⟨hO.w.putA _ _ _, hO.f, hO.c⟩, id, doPl_same (fun h => absurd h (by decide)), fun h => vdo_put h K a0 a1 a2 a3 a4 a5 a6 a7 s g ts tg k n, fun h => qdo_put h hO K a0 a1 a2 a3 a4 a5 a6 a7 s g ts tg k n⟩
 by_cases h4 : d = 4
 ·subst h4
  exact ⟨_, _, _, _, _, _, hO.c, fun hO => ⟨hO.w.dropA _ _, hO.f, hO.c⟩, id, doPl_same (fun h => absurd h (by decide)), fun h => vdo_drop h K a0 a1 a2 a3 a4 a5 a6 a7 s g ts tg k n, fun h => qdo_drop h hO K a0 a1 a2 a3 a4 a5 a6 a7 s g ts tg k n⟩
 by_cases h5 : d = 5
 ·subst h5
  cases hl : liveB sl s g with
  | false => exact ⟨_, _, _, _, _, _, hO.c, id, id, doPl_same (fun h => absurd h (by decide)), fun h => vdo_adoptno h K a0 a1 a2 a3 a4 a5 a6 a7 s g ts tg k n (by rw [live2, hl]; rfl), fun h => qdo_adoptno1 h hO K a0 a1 a2 a3 a4 a5 a6 a7 s g ts tg k n hl⟩
  | true =>
   cases ht : liveB sl ts tg with
   | false => exact ⟨_, _, _, _, _, _, hO.c, id, id, doPl_same (fun h => absurd h (by decide)), fun h => vdo_adoptno h K a0 a1 a2 a3 a4 a5 a6 a7 s g ts tg k n (by rw [live2, hl, ht]; rfl), fun h => qdo_adoptno2 h hO K a0 a1 a2 a3 a4 a5 a6 a7 s g ts tg k n hl ht⟩
   | true =>
    refine ⟨_, _, _, _, _, _, fun b hb => ?_, fun hO2 => ⟨hO2.w, adoB_fam hO2.f _ _, ?_⟩, fun hq b hb => ?_, doPl_same (fun h => absurd h (by decide)), fun h => vdo_adopt h K a0 a1 a2 a3 a4 a5 a6 a7 s g ts tg k n hc hp (by rw [live2, hl, ht]; rfl), fun h => qdo_adopt h hO K a0 a1 a2 a3 a4 a5 a6 a7 s g ts tg k n hl ht⟩
    ·unfold adoB at hb
     split at hb
     ·exact hO.c b hb
     ·rcases mem_insB.1 hb with rfl | ⟨hb, -⟩
      ·exact (liveB_iff sl s g).1 hl
      ·exact hO.c b hb
    ·exact adoB_live hO2.c ((liveB_iff sl s g).1 hl)
    ·unfold adoB at hb
     split at hb
     ·exact hq b hb
     ·rcases mem_insB.1 hb with rfl | ⟨hb, -⟩
      ·exact (liveB_iff sl ts tg).1 ht
      ·exact hq b hb
 by_cases h6 : d = 6
 ·subst h6
  cases hl : liveB sl s g with
  | true => exact ⟨_, _, _, _, _, _, fun b hb => hO.c b (List.mem_filter.1 hb).1, fun hO => ⟨hO.w, hO.f.sub List.filter_sublist, fun b hb => hO.c b (List.mem_filter.1 hb).1⟩, fun hq b hb => hq b (List.mem_filter.1 hb).1, doPl_same (fun h => absurd h (by decide)), fun h => vdo_loosen h K a0 a1 a2 a3 a4 a5 a6 a7 s g ts tg k n hc (by rw [live1, hl]), fun h => qdo_loosen h hO K a0 a1 a2 a3 a4 a5 a6 a7 s g ts tg k n hl⟩
  | false => exact ⟨_, _, _, _, _, _, hO.c, id, id, doPl_same (fun h => absurd h (by decide)), fun h => vdo_loosenno h K a0 a1 a2 a3 a4 a5 a6 a7 s g ts tg k n (by rw [live1, hl]), fun h => qdo_loosenno h hO K a0 a1 a2 a3 a4 a5 a6 a7 s g ts tg k n hl⟩
 exact ⟨_, _, _, _, _, _, hO.c, id, id, doPl_same (fun h => absurd h h1), fun h => vdo_other h K a0 a1 a2 a3 a4 a5 a6 a7 s g ts tg k n d h1 h2 h3 h4 h5 h6, fun h => qdo_other h hO K a0 a1 a2 a3 a4 a5 a6 a7 s g ts tg k n d h1 h2 h3 h4 h5 h6⟩
def meanH (sp : List Hd) (h : Hd) (is : Bool) : Hd × Bool :=
 if is = false ∨ 0 ≤ h.1 then (h, true) else match sp[(-h.1 - 1).toNat]? with
  | some x => (x, true)
  | none => (h, false)
def srchH (h : Hd) : List Hd → Int → Option Hd
 | [], _ => none
 | x :: t, i => if h.1 = -1 - i then some x else srchH h t (i + 1)
theorem srchH_at (h : Hd) : ∀ (t : List Hd) (i : Int), i ≤ -h.1 - 1 → srchH h t i = t[(-h.1 - 1 - i).toNat]?
 | [], _, _ => by simp [srchH]
 | x :: t, i, hi => by
  unfold srchH
  by_cases he : h.1 = -1 - i
  ·rw [if_pos he, show (-h.1 - 1 - i).toNat = 0 by omega]; rfl
  ·rw [if_neg he, srchH_at h t (i + 1) (by omega), show (-h.1 - 1 - i).toNat = (-h.1 - 1 - (i + 1)).toNat + 1 by omega, List.getElem?_cons_succ]
theorem srchH_eq (h : Hd) (t : List Hd) (hn : h.1 < 0) : srchH h t 0 = t[(-h.1 - 1).toNat]? := by
 rw [srchH_at h t 0 (by omega)]; simp
theorem meanH_srch (sp : List Hd) (h : Hd) (is : Bool) : meanH sp h is = if is = false ∨ 0 ≤ h.1 then (h, true) else ((srchH h sp 0).getD h, (srchH h sp 0).isSome) := by
 unfold meanH
 by_cases hc : is = false ∨ 0 ≤ h.1
 ·rw [if_pos hc, if_pos hc]
 ·rw [if_neg hc, if_neg hc, srchH_eq h sp (by omega)]
  cases sp[(-h.1 - 1).toNat]? <;> rfl
theorem meanH_no (sp : List Hd) (h : Hd) (hn : h.1 < -(sp.length : Int)) : meanH sp h true = (h, false) := by
 unfold meanH
 rw [if_neg (by simp; omega), List.getElem?_eq_none (by omega)]
theorem meanH_in (sp : List Hd) (h : Hd) (h0 : h.1 < 0) (hn : -(sp.length : Int) ≤ h.1) : meanH sp h true = (sp[(-h.1 - 1).toNat]'(by omega), true) := by
 unfold meanH
 rw [if_neg (by simp; omega), List.getElem?_eq_getElem (by omega)]
theorem meanH_self (sp : List Hd) (h : Hd) (is : Bool) (h0 : is = false ∨ 0 ≤ h.1) : meanH sp h is = (h, true) := by
 unfold meanH
 rw [if_pos h0]
theorem meanH_mem (sp : List Hd) (h : Hd) (is : Bool) : (meanH sp h is).1 = h ∨ (meanH sp h is).1 ∈ sp := by
 unfold meanH
 split
 ·exact .inl rfl
 ·split
  ·next x e => exact .inr (List.mem_of_getElem? e)
  ·exact .inl rfl
end Go.Proofs.YtehjfmjibiafdaaGreat
namespace Go.Proofs.YtehjfmjibiafdaaGreat
open Go Go.RowKit Go.ChangeShapes Go.WideShapes Go.ChangeAt
abbrev Ov := Int × Bt × Hd × Hd × Int × Int
def opI (x : Ov) : List Int := [x.1] ++ (btI x.2.1 ++ (hdI x.2.2.1 ++ (hdI x.2.2.2.1 ++ [x.2.2.2.2.1, x.2.2.2.2.2])))
def opC (x : Ov) : List Value := ints (opI x)
theorem opC_len (x : Ov) : (opC x).length = 16 := rfl
theorem opC_one (x : Ov) : ∀ u ∈ opC x, u.oneCell' = true := ints_one _
theorem sz_Op (x : Ov) : (Tryz.prog.info? 52).map (·.size) = some (opC x).length := by rw [opC_len]; kernel_rfl
theorem opI_mk (zs : List Int) (h : zs.length = 16) : ∃ x, opI x = zs := by
 match zs, h with
 | [d, K, a0, a1, a2, a3, a4, a5, a6, a7, s, g, ts, tg, kd, n], _ => exact ⟨(d, (K, a0, a1, a2, a3, a4, a5, a6, a7), (s, g), (ts, tg), kd, n), rfl⟩
theorem intCells_Op : IntCells Tryz.prog 52 := IntCells.struct Tryz.underlying52 (by kernel_rfl) (by
 intro f hf
 simp only [List.mem_toArray, List.mem_cons, List.not_mem_nil, or_false] at hf
 rcases hf with rfl | rfl | rfl | rfl | rfl | rfl
 ·exact intCells_int
 ·exact intCells_Beast
 ·exact intCells_Handle
 ·exact intCells_Handle
 ·exact intCells_int
 ·exact intCells_int)
section
variable {vB : Value} {Lo : Nat} {Z : List Nat} {p q : Nat} {sl sl' : Sl} {L L' : List Rw} {w : World}
end
end Go.Proofs.YtehjfmjibiafdaaGreat
namespace Go.Proofs.YtehjfmjibiafdaaGreat
open Go Go.RowKit
def lkA (d : Int) : Bool := decide (2 ≤ d) && decide (d ≤ 6)
def lkT (d : Int) : Bool := decide (d = 5)
def meanO (sp : List Hd) : Ov → Ov | (d, b, h, t, k, n) => (d, b, (meanH sp h (lkA d)).1, (meanH sp t (lkT d)).1, k, n)
def meanOk (sp : List Hd) : Ov → Bool | (d, _, h, t, _, _) => (meanH sp h (lkA d)).2 && (meanH sp t (lkT d)).2
def DoO (sl : Sl) (L : List Rw) (B : List Bd) : Ov → Sl → List Rw → List Bd → Hd → Int → Prop
 | (d, (K, a0, a1, a2, a3, a4, a5, a6, a7), (s, g), (ts, tg), k, n), sl', L', B', h, e => DoAt sl L B d K a0 a1 a2 a3 a4 a5 a6 a7 s g ts tg k n sl' L' B' h.1 h.2 e
def spawnP (sp : List Hd) (d : Int) (h : Hd) : List Hd := if d = 1 then sp ++ [h] else sp
def AllAt : Sl → List Rw → List Bd → List Hd → Int → List Ov → Int → Int → Sl → List Rw → List Bd → Prop
 | sl, L, B, _, k, [], n, e, sl', L', B' => n = k ∧ e = 0 ∧ sl' = sl ∧ L' = L ∧ B' = B
 | sl, L, B, sp, k, x :: r, n, e, sl', L', B' => (meanOk sp x = false ∧ n = k ∧ e = 5) ∨
   (meanOk sp x = true ∧ ∃ sl1 L1 B1 h e1, DoO sl L B (meanO sp x) sl1 L1 B1 h e1 ∧ ((e1 ≠ 0 ∧ n = k ∧ e = e1) ∨ (e1 = 0 ∧ AllAt sl1 L1 B1 (spawnP sp x.1 h) (k + 1) r n e sl' L' B')))
theorem DoO.at_ {sl : Sl} {L : List Rw} {B : List Bd} {x : Ov} {sl' : Sl} {L' : List Rw} {B' : List Bd} {h : Hd} {e : Int} (H : DoO sl L B x sl' L' B' h e) : DoAt sl L B x.1 x.2.1.1 x.2.1.2.1 x.2.1.2.2.1 x.2.1.2.2.2.1 x.2.1.2.2.2.2.1 x.2.1.2.2.2.2.2.1 x.2.1.2.2.2.2.2.2.1 x.2.1.2.2.2.2.2.2.2.1 x.2.1.2.2.2.2.2.2.2.2 x.2.2.1.1 x.2.2.1.2 x.2.2.2.1.1 x.2.2.2.1.2 x.2.2.2.2.1 x.2.2.2.2.2 sl' L' B' h.1 h.2 e := H
theorem doO_any {sl : Sl} {L : List Rw} {B : List Bd} (hO : ZOk sl L B) (x : Ov) (h1 : HdR x.2.2.1) (h2 : HdR x.2.2.2.1) : ∃ sl' L' B' h e, DoO sl L B x sl' L' B' h e := by
 obtain ⟨d, ⟨K, a0, a1, a2, a3, a4, a5, a6, a7⟩, ⟨s, g⟩, ⟨ts, tg⟩, k, n⟩ := x
 obtain ⟨sl', L', B', r0, r1, e, hD⟩ := do_any hO d K a0 a1 a2 a3 a4 a5 a6 a7 s g ts tg k n h1 h2
 exact ⟨sl', L', B', (r0, r1), e, hD⟩
theorem meanH_hdR {sp : List Hd} (hs : ∀ h ∈ sp, HdR h) {h : Hd} (hh : HdR h) (is : Bool) : HdR (meanH sp h is).1 := by
 rcases meanH_mem sp h is with e | e
 ·rw [e]; exact hh
 ·exact hs _ e
theorem spawnP_hdR {sp : List Hd} (hs : ∀ h ∈ sp, HdR h) {h : Hd} (hh : HdR h) (d : Int) : ∀ y ∈ spawnP sp d h, HdR y := by
 unfold spawnP
 split
 ·intro y hy
  rcases List.mem_append.1 hy with hy | hy
  ·exact hs y hy
  ·simp at hy; subst hy; exact hh
 ·exact hs
theorem allAt_any : ∀ (l : List Ov) {sl : Sl} {L : List Rw} {B : List Bd} {sp : List Hd} (k : Int), ZOk sl L B → (∀ x ∈ l, HdR x.2.2.1 ∧ HdR x.2.2.2.1) → (∀ h ∈ sp, HdR h) → ∃ n e sl' L' B', AllAt sl L B sp k l n e sl' L' B'
 | [], sl, L, B, sp, k, _, _, _ => ⟨k, 0, sl, L, B, rfl, rfl, rfl, rfl, rfl⟩
 | x :: r, sl, L, B, sp, k, hO, hx, hs => by
  cases hm : meanOk sp x with
  | false => exact ⟨k, 5, sl, L, B, .inl ⟨hm, rfl, rfl⟩⟩
  | true =>
   have h1 := hx x (by simp)
   obtain ⟨sl1, L1, B1, h, e1, hD⟩ := doO_any hO (meanO sp x) (meanH_hdR hs h1.1 _) (meanH_hdR hs h1.2 _)
   by_cases he : e1 = 0
   ·obtain ⟨n, e, sl', L', B', hr⟩ := allAt_any r (sp := spawnP sp x.1 h) (k + 1) (hD.at_.ok hO) (fun y hy => hx y (by simp [hy])) (spawnP_hdR hs hD.at_.pl.hr _)
    exact ⟨n, e, sl', L', B', .inr ⟨hm, sl1, L1, B1, h, e1, hD, .inr ⟨he, hr⟩⟩⟩
   ·exact ⟨k, e1, sl, L, B, .inr ⟨hm, sl1, L1, B1, h, e1, hD, .inl ⟨he, rfl, rfl⟩⟩⟩
theorem allAt_ok : ∀ {l : List Ov} {sl : Sl} {L : List Rw} {B : List Bd} {sp : List Hd} {k n : Int} {sl' : Sl} {L' : List Rw} {B' : List Bd}, AllAt sl L B sp k l n 0 sl' L' B' → n = k + l.length
 | [], _, _, _, _, _, _, _, _, _, ⟨h, _⟩ => by simp [h]
 | x :: r, sl, L, B, sp, k, n, sl', L', B', h => by
  rcases h with ⟨-, -, h⟩ | ⟨-, sl1, L1, B1, y, e1, -, h | ⟨-, h⟩⟩
  ·omega
  ·exact absurd h.2.2.symm h.1
  ·have := allAt_ok h
   rw [List.length_cons]
   omega
theorem allAt_zok : ∀ {l : List Ov} {sl : Sl} {L : List Rw} {B : List Bd} {sp : List Hd} {k n : Int} {sl' : Sl} {L' : List Rw} {B' : List Bd}, AllAt sl L B sp k l n 0 sl' L' B' → ZOk sl L B → (∀ b ∈ B, b.2 ∈ allS sl) → ZOk sl' L' B' ∧ ∀ b ∈ B', b.2 ∈ allS sl'
 | [], _, _, _, _, _, _, _, _, _, ⟨_, _, e1, e2, e3⟩, hO, hq => by subst e1 e2 e3; exact ⟨hO, hq⟩
 | x :: r, sl, L, B, sp, k, n, sl', L', B', h, hO, hq => by
  rcases h with ⟨-, -, h⟩ | ⟨-, sl1, L1, B1, y, e1, hD, h | ⟨-, h⟩⟩
  ·omega
  ·exact absurd h.2.2.symm h.1
  ·exact allAt_zok h (hD.at_.ok hO) (hD.at_.par hq)
def AllO (sl : Sl) (L : List Rw) (B : List Bd) (l : List Ov) (n e : Int) (sl' : Sl) (L' : List Rw) (B' : List Bd) : Prop :=
 (80 < l.length ∧ n = 0 ∧ e = 2 ∧ sl' = sl ∧ L' = L ∧ B' = B) ∨ (l.length ≤ 80 ∧ ∃ s1 L1 B1, AllAt sl L B [] 0 l n e s1 L1 B1 ∧ ((e = 0 ∧ sl' = s1 ∧ L' = L1 ∧ B' = B1) ∨ (e ≠ 0 ∧ sl' = sl ∧ L' = L ∧ B' = B)))
theorem allO_any {sl : Sl} {L : List Rw} {B : List Bd} (hO : ZOk sl L B) (l : List Ov) (hR : ∀ x ∈ l, HdR x.2.2.1 ∧ HdR x.2.2.2.1) : ∃ n e sl' L' B', AllO sl L B l n e sl' L' B' := by
 by_cases h : 80 < l.length
 ·exact ⟨0, 2, sl, L, B, .inl ⟨h, rfl, rfl, rfl, rfl, rfl⟩⟩
 ·obtain ⟨n, e, s1, L1, B1, hA⟩ := allAt_any l (sp := []) 0 hO hR (by simp)
  by_cases he : e = 0
  ·exact ⟨n, e, s1, L1, B1, .inr ⟨by omega, s1, L1, B1, hA, .inl ⟨he, rfl, rfl, rfl⟩⟩⟩
  ·exact ⟨n, e, sl, L, B, .inr ⟨by omega, s1, L1, B1, hA, .inr ⟨he, rfl, rfl, rfl⟩⟩⟩
theorem AllO.ok {sl : Sl} {L : List Rw} {B : List Bd} {l : List Ov} {n e : Int} {sl' : Sl} {L' : List Rw} {B' : List Bd} (h : AllO sl L B l n e sl' L' B') (hO : ZOk sl L B) (hq : ∀ b ∈ B, b.2 ∈ allS sl) : ZOk sl' L' B' ∧ ∀ b ∈ B', b.2 ∈ allS sl' := by
 rcases h with ⟨-, -, -, rfl, rfl, rfl⟩ | ⟨-, s1, L1, B1, hA, ⟨rfl, rfl, rfl, rfl⟩ | ⟨-, rfl, rfl, rfl⟩⟩
 ·exact ⟨hO, hq⟩
 ·exact allAt_zok hA hO hq
 ·exact ⟨hO, hq⟩
end Go.Proofs.YtehjfmjibiafdaaGreat
namespace Go.Proofs.YtehjfmjibiafdaaGreat
open Go Go.RowKit
attribute [local go_sem] AllFrom.cons_eq AllFrom.nil_eq putF_nil putF_cons wantedL_none wantedL_some OpGoalT OpGoalV OpGoalQ OpGoalA OpGoalK YieldsR preF_nil preF_cons
def ptrL (o : Nat) : Nat → List Value
 | 0 => []
 | 1 => [.pointer (some ⟨o, 10, none⟩)]
 | _ => [.pointer (some ⟨o, 10, none⟩), .pointer (some ⟨o, 12, none⟩)]
def LooksP (o : Nat) (d : Int) (w : World) (e : Ending) (w' : World) : Prop :=
 ∃ (nl : Nat) (v : Value), nl ≤ 2 ∧ e = .returned v ∧ w'.ownsRow w.heap.size 139 1 v nl (ptrL o nl) ∧ lkA d = decide (0 < nl) ∧ lkT d = decide (1 < nl) ∧ Below w.heap.size w w'
theorem row_new {w : World} {E : TypeId} {xs : List Value} {n : Nat} (h : xs.length = n) (hn : n ≤ 2) : (w.alloc (.cells xs.toArray E)).ownsRow w.heap.size E 1 (.slice (some ⟨w.heap.size, 0, none⟩) n n) n xs :=
 ⟨by omega, .inr ⟨w.heap.size, n, xs.toArray, rfl, Nat.le_refl _, heap_alloc_new w _, Nat.le_refl _, by unfold maxLen; omega, by simp; omega, by rw [Nat.mul_one, ← h]; simp⟩⟩
set_option maxRecDepth 20000 in
set_option maxHeartbeats 2000000 in
theorem looks_any {w : World} {o : Nat} (d : Int) (h0 : w.cell? ⟨o, 0, none⟩ = some (.int .i64 d)) (ho : o < w.heap.size) :
  Calls Tryz.prog 75 #[.pointer (some ⟨o, 0, none⟩)] w (LooksP o d w) := by
 by_cases hd : d = 2 ∨ d = 3 ∨ d = 4 ∨ d = 6
 ·have hfin : LooksP o d w (.returned (.slice (some ⟨w.heap.size, 0, none⟩) 1 1)) (w.alloc (.cells #[.pointer (some ⟨o, 10, none⟩)] 139)) := by
   refine ⟨1, _, by omega, rfl, row_new rfl (by omega), ?_, ?_, (Below.refl _ _).alloc (Nat.le_refl _) _⟩
   ·rcases hd with rfl | rfl | rfl | rfl <;> decide
   ·rcases hd with rfl | rfl | rfl | rfl <;> decide
  have Hfin := Lib.hid hfin
  clear hfin
  rcases hd with rfl | rfl | rfl | rfl <;> (
   go_enter Tryz.func75, Tryz.ntmps75
   go_wp2
   refine ⟨rfl, ?_⟩
   go_wp2
   refine ⟨.slice (some ⟨w.heap.size, 0, none⟩) 1 1, by unfold results; go_simp, Hfin.out⟩)
 ·by_cases h5 : d = 5
  ·subst h5
   have hfin : LooksP o 5 w (.returned (.slice (some ⟨w.heap.size, 0, none⟩) 2 2)) (w.drew.alloc (.cells #[.pointer (some ⟨o, 10, none⟩), .pointer (some ⟨o, 12, none⟩)] 139)) :=
    ⟨2, _, by omega, rfl, row_new (w := w.drew) rfl (by omega), by decide, by decide, below_drew.alloc (Nat.le_refl _) _⟩
   have Hfin := Lib.hid hfin
   clear hfin
   clear hd
   go_enter Tryz.func75, Tryz.ntmps75
   go_wp2
   refine wp_planR 6 [0, 3] [some 18, some 19, some 20, some 21, some 22, some 23, some 24, some 2] [[], [0], [0, 1], [], [3], [3, 4], [0, 1, 2, 3, 4, 5], [0, 1, 2, 3, 4, 5, 6]] [0, 1, 2, 3, 4, 5] mixed rfl (by kernel_rfl) (by decide) (by decide) rfl ?_
   iterate 6 apply Exists.intro
   refine ⟨rfl, ?_, ?_⟩
   ·simp only [List.take_succ_cons, List.take_zero, AllFrom.cons_eq, AllFrom.nil_eq, OpGoalQ]
    refine ⟨?_, ?_, ?_, ?_, ?_, ?_, trivial⟩
    all_goals (intro σ hp; (try simp only [List.getD_cons_zero, List.getD_cons_succ, List.map_cons, List.map_nil, preF_cons, preF_nil, isV, and_true] at hp); (first | (have hq : True := hp; clear hq hp) | skip))
    all_goals (go_simp; exact ⟨rfl, rfl⟩)
   intro σ hp
   simp only [List.getD_cons_zero, List.getD_cons_succ, List.map_cons, List.map_nil, preF_cons, preF_nil, isV, and_true] at hp
   simp only [List.drop_succ_cons, List.drop_zero]
   go_simp
   clear hp
   go_wp2
   refine ⟨rfl, ?_⟩
   go_wp2
   refine ⟨rfl, ?_⟩
   go_wp2
   refine ⟨.slice (some ⟨w.heap.size, 0, none⟩) 2 2, by unfold results; go_simp, Hfin.out⟩
  ·have hfin : LooksP o d w (.returned (.slice none 0 0)) w := by
    refine ⟨0, _, by omega, rfl, ⟨rfl, .inl ⟨rfl, rfl⟩⟩, ?_, ?_, Below.refl _ _⟩
    ·unfold lkA
     simp only [Nat.lt_irrefl, decide_false]
     rcases Int.lt_or_le d 2 with h | h
     ·simp [show ¬ (2 ≤ d) by omega]
     ·simp [show ¬ (d ≤ 6) by omega]
    ·unfold lkT; simp [h5]
   have h2 : (d == 2) = false := by simp; omega
   have h3 : (d == 3) = false := by simp; omega
   have h4 : (d == 4) = false := by simp; omega
   have h6 : (d == 6) = false := by simp; omega
   have h5 : (d == 5) = false := by simp; omega
   have Hfin := Lib.hid hfin
   clear hfin
   clear hd
   go_enter Tryz.func75, Tryz.ntmps75
   go_wp2
   go_ret
   exact Hfin.out
end Go.Proofs.YtehjfmjibiafdaaGreat
