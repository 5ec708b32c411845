import Derived.Test.YtehjfmjibiafdaaGreatZooTellsJ50
import Derived.Test.YtehjfmjibiafdaaGreatZooTellsJ53
import Derived.Test.YtehjfmjibiafdaaGreatRows
import Derived.Test.YtehjfmjibiafdaaGreatZooTellsJ1
import Derived.Test.YtehjfmjibiafdaaGreatZooTellsJ24
import Derived.Test.YtehjfmjibiafdaaGreatZooTellsJ49
import Derived.Test.YtehjfmjibiafdaaGreatZooTellsJ33
import Derived.Test.YtehjfmjibiafdaaGreatZooTellsJ3
import Derived.Test.YtehjfmjibiafdaaGreatZooTellsJ25
import Derived.Test.YtehjfmjibiafdaaGreatZooTellsJ51
/- The reference's SlotsLoad. -/
namespace Go.Proofs.YtehjfmjibiafdaaGreat
open Go Go.RowKit

attribute [local go_sem] AllFrom.cons_eq AllFrom.nil_eq putF_nil putF_cons wantedL_none wantedL_some OpGoalT OpGoalS OpGoalP OpGoalV YieldsR preF_nil preF_cons

/-- Two of a region's values lie in blocks of their own, apart. -/
structure TwoI (V : World) (i j : Nat) (L : Nat → Bool) (σ : Nat → Value) : Prop where
  a : L i = true → ∀ k, (σ i).ownBlock = some k → k < V.heap.size
  b : L j = true → ∀ k, (σ j).ownBlock = some k → k < V.heap.size
  ne : L i = true → L j = true → ∀ k, (σ i).ownBlock = some k → (σ j).ownBlock ≠ some k
theorem TwoI.nil {V : World} {i j : Nat} {σ : Nat → Value} : TwoI V i j (fun _ => false) σ := ⟨fun h => (nomatch h), fun h => (nomatch h), fun h => (nomatch h)⟩
theorem TwoI.left {V V' : World} {i j : Nat} {L : Nat → Bool} {σ : Nat → Value} {v : Value} (h : TwoI V i j L σ) (hs : V.heap.size ≤ V'.heap.size) (hij : j ≠ i) (hv : ∀ k, v.ownBlock = some k → V.heap.size ≤ k ∧ k < V'.heap.size) : TwoI V' i j (upd L i) (updv σ i v) := by
  have e2 : upd L i j = L j := by simp [upd, hij]
  have e3 : updv σ i v i = v := by simp [updv]
  have e4 : updv σ i v j = σ j := by simp [updv, hij]
  refine ⟨?_, ?_, ?_⟩
  · rw [e3]; intro _ b hb; exact (hv b hb).2
  · rw [e2, e4]; intro hl b hb; have := h.b hl b hb; omega
  · rw [e2, e3, e4]; intro _ hl b hb hb'; have := h.b hl b hb'; have := hv b hb; omega
theorem TwoI.right {V V' : World} {i j : Nat} {L : Nat → Bool} {σ : Nat → Value} {v : Value} (h : TwoI V i j L σ) (hs : V.heap.size ≤ V'.heap.size) (hij : i ≠ j) (hv : ∀ k, v.ownBlock = some k → V.heap.size ≤ k ∧ k < V'.heap.size) : TwoI V' i j (upd L j) (updv σ j v) := by
  have e2 : upd L j i = L i := by simp [upd, hij]
  have e3 : updv σ j v j = v := by simp [updv]
  have e4 : updv σ j v i = σ i := by simp [updv, hij]
  refine ⟨?_, ?_, ?_⟩
  · rw [e2, e4]; intro hl b hb; have := h.a hl b hb; omega
  · rw [e3]; intro _ b hb; exact (hv b hb).2
  · rw [e2, e3, e4]; intro hl _ b hb hb'; have := h.a hl b hb; have := hv b hb'; omega
end Go.Proofs.YtehjfmjibiafdaaGreat

/- Both sides' slots side by side, for the law SlotsLoads (SlotsDo bears its own copy of these lines). -/
namespace Go.Proofs.YtehjfmjibiafdaaGreat
open Go Go.RowKit

/-- What holds of both slots between two rounds. -/
structure Both (W w : World) (p q : Nat) (sl : Sl) (F G : List Nat) : Prop where
  s : RepS w p sl F
  r : RepRS w q sl G
  ok : SlOk sl
  apart : ∀ k ∈ F, k ∉ G
  lowF : ∀ k ∈ F, W.heap.size ≤ k
  lowG : ∀ k ∈ G, W.heap.size ≤ k
  below : Below W.heap.size W w
theorem Both.size {W w : World} {p q : Nat} {sl : Sl} {F G : List Nat} (h : Both W w p q sl F G) : W.heap.size ≤ w.heap.size := h.below.size
theorem Both.grow {W w w' : World} {p q : Nat} {sl : Sl} {F G : List Nat} (h : Both W w p q sl F G) (hb : Below w.heap.size w w') : Both W w' p q sl F G :=
  ⟨h.s.mod (Mod.ofBelow hb) (by simp), h.r.mod (Mod.ofBelow hb) (by simp), h.ok, h.apart, h.lowF, h.lowG, h.below.trans (hb.mono h.size)⟩

theorem Both.step {W wz w3 w3' w4 : World} {p q : Nat} {sl sl' : Sl} {F G F3 G4 : List Nat} (h : Both W wz p q sl F G) (hs : RepS w3 p sl' F3) (ht : Turns wz F F3 w3) (hg : Below w3.heap.size w3 w3') (hr : RepRS w4 q sl' G4) (ht2 : Turns w3' G G4 w4) (hok : SlOk sl') :
    Both W w4 p q sl' F3 G4 := by
  have hGl := h.r.lt
  have hFG : ∀ k ∈ F3, k ∉ G := by
    intro k hk hkG
    rcases ht.new k hk with h1 | h1
    · exact h.apart k h1 hkG
    · have := hGl k hkG; omega
  have hs3 := hs.lt
  have hsz := h.size
  have hsz2 := ht.mod.size
  have hsz3 := hg.size
  refine ⟨(hs.mod (Mod.ofBelow hg) (by simp)).mod ht2.mod hFG, hr, hok, ?_, ?_, ?_, ?_⟩
  · intro k hk hkG
    rcases ht2.new k hkG with h1 | h1
    · exact hFG k hk h1
    · have := hs3 k hk; omega
  · intro k hk
    rcases ht.new k hk with h1 | h1
    · exact h.lowF k h1
    · omega
  · intro k hk
    rcases ht2.new k hk with h1 | h1
    · exact h.lowG k h1
    · omega
  · exact ((h.below.trans (ht.mod.toBelow h.lowF hsz)).trans (hg.mono (by omega))).trans (ht2.mod.toBelow h.lowG (by omega))
end Go.Proofs.YtehjfmjibiafdaaGreat

/- The law SlotsLoads returns true for every input. -/
namespace Go.Proofs.YtehjfmjibiafdaaGreat
open Go.ChangeShapes Go.WideShapes Go.ChangeAt Go.RowKit

attribute [local go_sem] AllFrom.cons_eq AllFrom.nil_eq putF_nil putF_cons wantedL_none wantedL_some OpGoalT OpGoalS OpGoalP OpGoalV YieldsR preF_nil preF_cons

end Go.Proofs.YtehjfmjibiafdaaGreat

/- Loading a world: the plain part. -/
namespace Go.Proofs.YtehjfmjibiafdaaGreat
open Go Go.RowKit

def slotsOf (rows : List Rw) : List Int := rows.map (fun r => r.1.1)
def wlS (gs : List Int) (rows : List Rw) : Sl := loadL gs (slotsOf rows)
def wlL (gs : List Int) (rows : List Rw) : List Rw := (List.range gs.length).flatMap (fun (k : Nat) => rows.filter (fun r => decide (r.1.1 = (k : Int))))
section
variable {gs : List Int} {rows : List Rw}
structure WLok (gs : List Int) (rows : List Rw) : Prop where
  i : LoadIn gs (slotsOf rows)
  nd : rows.Pairwise (fun a b => a.1.1 ≠ b.1.1)
  ok : SlOk (wlS gs rows)
  live : ∀ r ∈ rows, liveB (wlS gs rows) r.1.1 r.1.2 = true
  be : ∀ r ∈ rows, beastZ r.2 = 0
  len : rows.length ≤ 60
theorem WLok.slot (h : WLok gs rows) {r : Rw} (hr : r ∈ rows) : ∃ s : Nat, r.1.1 = (s : Int) ∧ s < gs.length ∧ s < 60 := by
  obtain ⟨i, hi, he⟩ := List.mem_iff_getElem.1 (show r.1.1 ∈ slotsOf rows from List.mem_map.2 ⟨r, hr, rfl⟩)
  have h1 := h.i.keys i hi
  rw [he] at h1
  have := h.i.len
  exact ⟨r.1.1.toNat, by omega, by omega, by omega⟩
theorem WLok.mem (h : WLok gs rows) (y : Rw) : y ∈ wlL gs rows ↔ y ∈ rows := by
  unfold wlL
  rw [List.mem_flatMap]
  constructor
  · rintro ⟨k, -, hy⟩; exact (List.mem_filter.1 hy).1
  · intro hy
    obtain ⟨s, h1, h2, -⟩ := h.slot hy
    exact ⟨s, List.mem_range.2 h2, List.mem_filter.2 ⟨hy, by simpa using h1⟩⟩
theorem WLok.sorted (h : WLok gs rows) : (wlL gs rows).Pairwise (fun a b => a.1.1 < b.1.1) := by
  unfold wlL
  rw [List.pairwise_flatMap]
  refine ⟨fun k _ => ?_, ?_⟩
  · refine List.Pairwise.imp_of_mem ?_ (h.nd.sublist (List.filter_sublist (p := fun r : Rw => decide (r.1.1 = (k : Int)))))
    intro a b ha hb hne
    have e1 := (List.mem_filter.1 ha).2
    have e2 := (List.mem_filter.1 hb).2
    simp only [decide_eq_true_eq] at e1 e2
    exact absurd (e1.trans e2.symm) hne
  · refine List.Pairwise.imp ?_ List.pairwise_lt_range
    intro a b hab x hx y hy
    have e1 := (List.mem_filter.1 hx).2
    have e2 := (List.mem_filter.1 hy).2
    simp only [decide_eq_true_eq] at e1 e2
    omega
end
end Go.Proofs.YtehjfmjibiafdaaGreat

/- Loading bonds (plain). -/
namespace Go.Proofs.YtehjfmjibiafdaaGreat
open Go Go.RowKit

section
variable {sl : Sl} {B : List Bd} {x : Bd} {r : List Bd}
theorem adoB_fam (h : FamOk B) (a b : Hd) : FamOk (adoB B a b) := by
  unfold adoB
  split
  · exact h
  · exact insB_ok h (by assumption)
theorem adoB_live (h : ∀ b ∈ B, b.1 ∈ allS sl) {a b : Hd} (ha : a ∈ allS sl) : ∀ y ∈ adoB B a b, y.1 ∈ allS sl := by
  intro y hy
  unfold adoB at hy
  split at hy
  · exact h y hy
  · rcases mem_insB.1 hy with rfl | ⟨hy, -⟩
    · exact ha
    · exact h y hy
end
end Go.Proofs.YtehjfmjibiafdaaGreat

/- One op at both zoos: the same answer, the same state. -/
namespace Go.Proofs.YtehjfmjibiafdaaGreat
open Go Go.RowKit

theorem spawnS_sub {sl : Sl} (h : SlOk sl) (b : Bt) {x : Hd} (hx : x ∈ allS sl) : x ∈ allS (spawnS sl b) := by
  unfold spawnS
  split
  · exact hx
  · by_cases e : takeE sl = 0
    · obtain ⟨k, -, -, -, ha⟩ := take_spec h e
      rw [ha]
      unfold insH
      rw [← List.takeWhile_append_dropWhile (p := fun y : Hd => decide (y.1 < ((k : Int), takeG sl).1) ) (l := allS sl)] at hx
      rcases List.mem_append.1 hx with hx | hx
      · exact List.mem_append.2 (.inl hx)
      · exact List.mem_append.2 (.inr (List.mem_cons_of_mem _ hx))
    · have e2 : takeL sl = sl := by
        unfold takeE at e
        unfold takeL
        cases hf : sl.findIdx? freeB with
        | some k => rw [hf] at e; exact absurd rfl e
        | none =>
          rw [hf] at e
          simp only at e ⊢
          by_cases h60 : sl.length = 60
          · rw [if_pos h60]
          · rw [if_neg h60] at e; exact absurd rfl e
      rw [e2]; exact hx
theorem kills_par : ∀ {sl : Sl} {L : List Rw} {B : List Bd} (_ : ∀ b ∈ B, b.2 ∈ allS sl) (l : List Hd), ∀ b ∈ (killsZ (sl, L, B) l).2.2, b.2 ∈ allS (killsZ (sl, L, B) l).1
  | _, _, _, h, [] => h
  | sl, L, B, h, x :: l => kills_par (sl := freeL sl x.1 x.2) (L := killL L x) (B := goneB B x) (fun b hb => by
    obtain ⟨h1, -, h3⟩ := mem_goneB.1 hb
    exact mem_free.2 ⟨h b h1, h3⟩) l
/-- Do of one op, at the program's zoo and at the reference's. -/
structure DoAt (sl : Sl) (L : List Rw) (B : List Bd) (d K a0 a1 a2 a3 a4 a5 a6 a7 s g ts tg k n : Int) (sl' : Sl) (L' : List Rw) (B' : List Bd) (r0 r1 e : Int) : Prop where
  c : ∀ b ∈ B', b.1 ∈ allS sl'
  ok : ZOk sl L B → ZOk sl' L' B'
  par : (∀ b ∈ B, b.2 ∈ allS sl) → ∀ b ∈ B', b.2 ∈ allS sl'
  pl : DoPl sl d sl' r0 r1 e
  v : ∀ {z p f : Nat} {w : World} {F : List Nat}, RepV z p f sl L B w F → Calls Tryz.prog 14 #[.pointer (some ⟨z, 0, none⟩), .agg #[.int .i64 d, .int .i64 K, .int .i64 a0, .int .i64 a1, .int .i64 a2, .int .i64 a3, .int .i64 a4, .int .i64 a5, .int .i64 a6, .int .i64 a7, .int .i64 s, .int .i64 g, .int .i64 ts, .int .i64 tg, .int .i64 k, .int .i64 n]] w (VRet z p f sl' L' B' F w (.tuple #[.agg #[.int .i64 r0, .int .i64 r1], .int .i64 e]))
  q : ∀ {q : Nat} {w : World} {F : List Nat}, RepQ q sl L B w F → Calls Tryz.prog 15 #[.pointer (some ⟨q, 0, none⟩), .agg #[.int .i64 d, .int .i64 K, .int .i64 a0, .int .i64 a1, .int .i64 a2, .int .i64 a3, .int .i64 a4, .int .i64 a5, .int .i64 a6, .int .i64 a7, .int .i64 s, .int .i64 g, .int .i64 ts, .int .i64 tg, .int .i64 k, .int .i64 n]] w (QRet q sl' L' B' F w (.tuple #[.agg #[.int .i64 r0, .int .i64 r1], .int .i64 e]))
theorem live2 {sl : Sl} {s g t u : Int} : liveZ sl [(s, g), (t, u)] = (liveB sl s g && liveB sl t u) := by unfold liveZ; simp
theorem live1 {sl : Sl} {s g : Int} : liveZ sl [(s, g)] = liveB sl s g := by unfold liveZ; simp
theorem do_any {sl : Sl} {L : List Rw} {B : List Bd} (hO : ZOk sl L B) (d K a0 a1 a2 a3 a4 a5 a6 a7 s g ts tg k n : Int) (hc : HdR (s, g)) (hp : HdR (ts, tg)) :
    ∃ sl' L' B' r0 r1 e, DoAt sl L B d K a0 a1 a2 a3 a4 a5 a6 a7 s g ts tg k n sl' L' B' r0 r1 e := by
  by_cases h1 : d = 1
  · subst h1
    exact ⟨_, _, _, _, _, _, fun b hb => spawnS_sub hO.w.ok _ (hO.c b hb), fun hO => ⟨hO.w.spawnA _, hO.f, fun b hb => spawnS_sub hO.w.ok _ (hO.c b hb)⟩, fun hq b hb => spawnS_sub hO.w.ok _ (hq b hb), doPl_spawn hO.w.ok _, fun h => vdo_spawn h K a0 a1 a2 a3 a4 a5 a6 a7 s g ts tg k n, fun h => qdo_spawn h hO K a0 a1 a2 a3 a4 a5 a6 a7 s g ts tg k n⟩
  by_cases h2 : d = 2
  · subst h2
    cases hl : liveB sl s g with
    | true => exact ⟨_, _, _, _, _, _, (hO.kills _).c, fun hO => hO.kills _, fun hq => kills_par hq _, doPl_kills _ (by decide), fun h => vdo_kill h K a0 a1 a2 a3 a4 a5 a6 a7 s g ts tg k n hO hl, fun h => qdo_kill h hO K a0 a1 a2 a3 a4 a5 a6 a7 s g ts tg k n hl⟩
    | false => exact ⟨_, _, _, _, _, _, hO.c, id, id, doPl_same (fun h => absurd h (by decide)), fun h => vdo_killno h K a0 a1 a2 a3 a4 a5 a6 a7 s g ts tg k n hO hl, fun h => qdo_killno h hO K a0 a1 a2 a3 a4 a5 a6 a7 s g ts tg k n hl⟩
  by_cases h3 : d = 3
  · subst h3
    exact ⟨_, _, _, _, _, _, hO.c, fun hO => ⟨hO.w.putA _ _ _, hO.f, hO.c⟩, id, doPl_same (fun h => absurd h (by decide)), fun h => vdo_put h K a0 a1 a2 a3 a4 a5 a6 a7 s g ts tg k n, fun h => qdo_put h hO K a0 a1 a2 a3 a4 a5 a6 a7 s g ts tg k n⟩
  by_cases h4 : d = 4
  · subst h4
    exact ⟨_, _, _, _, _, _, hO.c, fun hO => ⟨hO.w.dropA _ _, hO.f, hO.c⟩, id, doPl_same (fun h => absurd h (by decide)), fun h => vdo_drop h K a0 a1 a2 a3 a4 a5 a6 a7 s g ts tg k n, fun h => qdo_drop h hO K a0 a1 a2 a3 a4 a5 a6 a7 s g ts tg k n⟩
  by_cases h5 : d = 5
  · subst h5
    cases hl : liveB sl s g with
    | false => exact ⟨_, _, _, _, _, _, hO.c, id, id, doPl_same (fun h => absurd h (by decide)), fun h => vdo_adoptno h K a0 a1 a2 a3 a4 a5 a6 a7 s g ts tg k n (by rw [live2, hl]; rfl), fun h => qdo_adoptno1 h hO K a0 a1 a2 a3 a4 a5 a6 a7 s g ts tg k n hl⟩
    | true =>
      cases ht : liveB sl ts tg with
      | false => exact ⟨_, _, _, _, _, _, hO.c, id, id, doPl_same (fun h => absurd h (by decide)), fun h => vdo_adoptno h K a0 a1 a2 a3 a4 a5 a6 a7 s g ts tg k n (by rw [live2, hl, ht]; rfl), fun h => qdo_adoptno2 h hO K a0 a1 a2 a3 a4 a5 a6 a7 s g ts tg k n hl ht⟩
      | true =>
        refine ⟨_, _, _, _, _, _, fun b hb => ?_, fun hO2 => ⟨hO2.w, adoB_fam hO2.f _ _, ?_⟩, fun hq b hb => ?_, doPl_same (fun h => absurd h (by decide)), fun h => vdo_adopt h K a0 a1 a2 a3 a4 a5 a6 a7 s g ts tg k n hc hp (by rw [live2, hl, ht]; rfl), fun h => qdo_adopt h hO K a0 a1 a2 a3 a4 a5 a6 a7 s g ts tg k n hl ht⟩
        · unfold adoB at hb
          split at hb
          · exact hO.c b hb
          · rcases mem_insB.1 hb with rfl | ⟨hb, -⟩
            · exact (liveB_iff sl s g).1 hl
            · exact hO.c b hb
        · exact adoB_live hO2.c ((liveB_iff sl s g).1 hl)
        · unfold adoB at hb
          split at hb
          · exact hq b hb
          · rcases mem_insB.1 hb with rfl | ⟨hb, -⟩
            · exact (liveB_iff sl ts tg).1 ht
            · exact hq b hb
  by_cases h6 : d = 6
  · subst h6
    cases hl : liveB sl s g with
    | true => exact ⟨_, _, _, _, _, _, fun b hb => hO.c b (List.mem_filter.1 hb).1, fun hO => ⟨hO.w, hO.f.sub List.filter_sublist, fun b hb => hO.c b (List.mem_filter.1 hb).1⟩, fun hq b hb => hq b (List.mem_filter.1 hb).1, doPl_same (fun h => absurd h (by decide)), fun h => vdo_loosen h K a0 a1 a2 a3 a4 a5 a6 a7 s g ts tg k n hc (by rw [live1, hl]), fun h => qdo_loosen h hO K a0 a1 a2 a3 a4 a5 a6 a7 s g ts tg k n hl⟩
    | false => exact ⟨_, _, _, _, _, _, hO.c, id, id, doPl_same (fun h => absurd h (by decide)), fun h => vdo_loosenno h K a0 a1 a2 a3 a4 a5 a6 a7 s g ts tg k n (by rw [live1, hl]), fun h => qdo_loosenno h hO K a0 a1 a2 a3 a4 a5 a6 a7 s g ts tg k n hl⟩
  exact ⟨_, _, _, _, _, _, hO.c, id, id, doPl_same (fun h => absurd h h1), fun h => vdo_other h K a0 a1 a2 a3 a4 a5 a6 a7 s g ts tg k n d h1 h2 h3 h4 h5 h6, fun h => qdo_other h hO K a0 a1 a2 a3 a4 a5 a6 a7 s g ts tg k n d h1 h2 h3 h4 h5 h6⟩
end Go.Proofs.YtehjfmjibiafdaaGreat

/- Ops as sixteen numbers; the pair of a new world and a new zoo. (printed by mk_wdoes.py) -/
namespace Go.Proofs.YtehjfmjibiafdaaGreat
open Go Go.RowKit Go.ChangeShapes Go.WideShapes Go.ChangeAt

/-- An op; its sixteen numbers. -/
abbrev Ov := Int × Bt × Hd × Hd × Int × Int
def opI (x : Ov) : List Int := [x.1] ++ (btI x.2.1 ++ (hdI x.2.2.1 ++ (hdI x.2.2.2.1 ++ [x.2.2.2.2.1, x.2.2.2.2.2])))
def opC (x : Ov) : List Value := ints (opI x)
theorem opC_len (x : Ov) : (opC x).length = 16 := rfl
theorem opC_one (x : Ov) : ∀ u ∈ opC x, u.oneCell' = true := ints_one _
theorem sz_Op (x : Ov) : (Tryz.prog.info? 52).map (·.size) = some (opC x).length := by rw [opC_len]; kernel_rfl
theorem opI_mk (zs : List Int) (h : zs.length = 16) : ∃ x, opI x = zs := by
  match zs, h with
  | [d, K, a0, a1, a2, a3, a4, a5, a6, a7, s, g, ts, tg, kd, n], _ => exact ⟨(d, (K, a0, a1, a2, a3, a4, a5, a6, a7), (s, g), (ts, tg), kd, n), rfl⟩
theorem intCells_Op : IntCells Tryz.prog 52 := IntCells.struct Tryz.underlying52 (by kernel_rfl) (by
  intro f hf
  simp only [List.mem_toArray, List.mem_cons, List.not_mem_nil, or_false] at hf
  rcases hf with rfl | rfl | rfl | rfl | rfl | rfl
  · exact intCells_int
  · exact intCells_Beast
  · exact intCells_Handle
  · exact intCells_Handle
  · exact intCells_int
  · exact intCells_int)
section
variable {vB : Value} {Lo : Nat} {Z : List Nat} {p q : Nat} {sl sl' : Sl} {L L' : List Rw} {w : World}
end
end Go.Proofs.YtehjfmjibiafdaaGreat

/- Pairs of zoos: New, Same. (printed by mk_zlaw.py) -/
namespace Go.Proofs.YtehjfmjibiafdaaGreat
open Go Go.RowKit
attribute [local go_sem] AllFrom.cons_eq AllFrom.nil_eq putF_nil putF_cons wantedL_none wantedL_some OpGoalT OpGoalV OpGoalQ OpGoalA OpGoalK YieldsR preF_nil preF_cons

theorem eqRows_self (l : List Rw) (v v' : Value) (w : World) {B B' : Nat} (hl : l.length ≤ 1200000000000) (h : w.ownsRow B 69 11 v l.length (l.flatMap rwC)) (h' : w.ownsRow B' 69 11 v' l.length (l.flatMap rwC)) :
    Calls Tryz.prog 23 #[v, v'] w fun e w' => e = .returned (.bool true) ∧ Below w.heap.size w w' := by
  obtain ⟨A, c, rfl, hc, hA⟩ := own_lies h
  obtain ⟨A', c', rfl, hc', hA'⟩ := own_lies h'
  have := eqRow_any A c A' c' l l w (by omega) (by omega) hA hA'
  rw [eqB_self] at this
  exact this
/-- What New leaves. -/
def NewV (w : World) (e : Ending) (w' : World) : Prop := ∃ z p f F, e = .returned (.pointer (some ⟨z, 0, none⟩)) ∧ RepV z p f [] [] [] w' F ∧ (∀ y ∈ F, w.heap.size ≤ y) ∧ Below w.heap.size w w'
set_option maxRecDepth 20000 in
theorem zooNew_any (w : World) : Calls Tryz.prog 13 #[] w (NewV w) := by
  go_enter Tryz.func13, Tryz.ntmps13
  go_wp2_with fail
  refine (worldNew_any w).mono ?_
  rintro e w1 ⟨p, FW, rfl, hW, hFW, hb1⟩
  have HW := Lib.hid hW; have HFW := Lib.hid hFW; have Hb1 := Lib.hid hb1
  clear hW hFW hb1
  go_wp2_with fail
  refine (famNew_any w1).mono ?_
  rintro e w2 ⟨f, FF, rfl, hF, hFF, hb2⟩
  obtain ⟨w3, hw3, hb3, hz3, hs3⟩ := box1 w2 (.cells #[.pointer (some ⟨p, 0, none⟩), .pointer (some ⟨f, 0, none⟩)] 62)
  have hlW := HW.out.lt; have hlF := hF.lt
  have hs1 := Hb1.out.size; have hs2 := hb2.size
  have hfin : RepV w2.heap.size p f [] [] [] w3 (w2.heap.size :: (FW ++ FF)) := ⟨hz3, FW, FF, (HW.out.below hb2).below hb3, hF.below hb3, rfl, fun e => by have := hlW _ e; omega, fun e => by have := hlF _ e; omega, fun y hy e => by have h1 := hlW y hy; have h2 := hFF y e; omega⟩
  have hge : ∀ y ∈ w2.heap.size :: (FW ++ FF), w.heap.size ≤ y := fun y hy => by
    rcases List.mem_cons.1 hy with rfl | hy
    · omega
    · rcases List.mem_append.1 hy with hy | hy
      · exact HFW.out y hy
      · have := hFF y hy; omega
  have hb03 := (Hb1.out.trans (hb2.mono hs1)).trans (hb3.mono (by omega))
  have Hfin := Lib.hid hfin; have Hge := Lib.hid hge; have Hb03 := Lib.hid hb03
  clear hfin hge hb03
  clear hb2 hb3 hz3 hs3 hlW hlF hs1 hs2 hF hFF
  go_wp2
  go_ret
  exact ⟨_, _, _, _, rfl, Hfin.out, Hge.out, Hb03.out⟩

/-! Pairs. -/
abbrev PVQ (Lo : Nat) (Z : List Nat) (z p f q : Nat) (sl : Sl) (L : List Rw) (B : List Bd) (sl' : Sl) (L' : List Rw) (B' : List Bd) (w : World) : Prop := Sep Lo Z (RepV z p f sl L B) (RepQ q sl' L' B') w
section
variable {Lo : Nat} {Z : List Nat} {z p f q : Nat} {sl sl' sl2 : Sl} {L L' L2 : List Rw} {B B' B2 : List Bd} {w : World}
theorem PVQ.ok (h : PVQ Lo Z z p f q sl L B sl' L' B' w) (hc : ∀ b ∈ B, b.1 ∈ allS sl) : ZOk sl L B := by
  obtain ⟨F, G, h⟩ := h
  exact ⟨h.a.okW, h.a.okF, hc⟩
theorem pvq_below {w' : World} (h : PVQ Lo Z z p f q sl L B sl' L' B' w) (hb : Below w.heap.size w w') : PVQ Lo Z z p f q sl L B sl' L' B' w' ∧ Below Lo w w' ∧ KeepZ Z w w' := Sep.below (own_V _ _ _ _ _ _) (own_Q _ _ _ _) h hb
theorem pvq_start {w w1 w2 : World} {F : List Nat} (h : RepV z p f [] [] [] w1 F) (hF : ∀ y ∈ F, w.heap.size ≤ y) (hb : Below w.heap.size w w1) (h2 : w1.alloc (.cells #[.slice none 0 0, .slice none 0 0, .slice none 0 0, .slice none 0 0] 47) = w2) :
    PVQ w.heap.size [] z p f w1.heap.size [] [] [] [] [] [] w2 ∧ Below w.heap.size w w2 := by
  have hlt := h.lt
  have hs := hb.size
  have hb2 : Below w1.heap.size w1 w2 := by rw [← h2]; exact (Below.refl _ _).alloc (Nat.le_refl _) _
  have hq : w2.heap[w1.heap.size]? = some (.cells #[.slice none 0 0, .slice none 0 0, .slice none 0 0, .slice none 0 0] 47 (0, 0)) := by rw [← h2]; exact heap_alloc_new w1 _
  have hr : ∀ E k, w2.ownsRow 0 E k (.slice none 0 0) 0 [] := fun E k => ⟨(Nat.zero_mul k).symm, .inl ⟨rfl, rfl⟩⟩
  refine ⟨⟨F, [w1.heap.size], ⟨h.below hb2, ⟨.slice none 0 0, [w1.heap.size], ⟨.slice none 0 0, [w1.heap.size], ⟨.slice none 0 0, .slice none 0 0, hq, hr _ _, hr _ _, rfl, by simp⟩, hr _ _, by simp [Value.ownBlock], by simp⟩, hr _ _, by simp [Value.ownBlock], by simp [Value.ownBlock]⟩, fun y hy e => ?_, fun y hy => ⟨hF y hy, by simp⟩, fun y hy => ?_, by have := hb2.size; omega, by simp⟩⟩, hb.trans (hb2.mono hs)⟩
  · have := hlt y hy; simp at e; omega
  · simp at hy; subst hy; exact ⟨hs, by simp⟩
variable {d K a0 a1 a2 a3 a4 a5 a6 a7 s g ts tg kd n r0 r1 e0 : Int}
theorem pv_do (h : PVQ Lo Z z p f q sl L B sl' L' B' w) (hD : DoAt sl L B d K a0 a1 a2 a3 a4 a5 a6 a7 s g ts tg kd n sl2 L2 B2 r0 r1 e0) :
    Calls Tryz.prog 14 #[.pointer (some ⟨z, 0, none⟩), .agg #[.int .i64 d, .int .i64 K, .int .i64 a0, .int .i64 a1, .int .i64 a2, .int .i64 a3, .int .i64 a4, .int .i64 a5, .int .i64 a6, .int .i64 a7, .int .i64 s, .int .i64 g, .int .i64 ts, .int .i64 tg, .int .i64 kd, .int .i64 n]] w (fun e w' => e = .returned (.tuple #[.agg #[.int .i64 r0, .int .i64 r1], .int .i64 e0]) ∧ PVQ Lo Z z p f q sl2 L2 B2 sl' L' B' w' ∧ Below Lo w w' ∧ KeepZ Z w w') :=
  Sep.callL (own_V _ _ _ _ _ _) (own_Q _ _ _ _) h fun _ hF => hD.v hF
theorem pq_do (h : PVQ Lo Z z p f q sl L B sl' L' B' w) (hD : DoAt sl' L' B' d K a0 a1 a2 a3 a4 a5 a6 a7 s g ts tg kd n sl2 L2 B2 r0 r1 e0) :
    Calls Tryz.prog 15 #[.pointer (some ⟨q, 0, none⟩), .agg #[.int .i64 d, .int .i64 K, .int .i64 a0, .int .i64 a1, .int .i64 a2, .int .i64 a3, .int .i64 a4, .int .i64 a5, .int .i64 a6, .int .i64 a7, .int .i64 s, .int .i64 g, .int .i64 ts, .int .i64 tg, .int .i64 kd, .int .i64 n]] w (fun e w' => e = .returned (.tuple #[.agg #[.int .i64 r0, .int .i64 r1], .int .i64 e0]) ∧ PVQ Lo Z z p f q sl L B sl2 L2 B2 w' ∧ Below Lo w w' ∧ KeepZ Z w w') :=
  Sep.callR (own_V _ _ _ _ _ _) (own_Q _ _ _ _) h fun _ hF => hD.q hF
end
end Go.Proofs.YtehjfmjibiafdaaGreat

/- world.Load. (printed by mk_wl2.py) -/
namespace Go.Proofs.YtehjfmjibiafdaaGreat
open Go Go.RowKit

attribute [local go_sem] AllFrom.cons_eq AllFrom.nil_eq putF_nil putF_cons wantedL_none wantedL_some OpGoalT OpGoalV OpGoalQ OpGoalA OpGoalK YieldsR preF_nil preF_cons

section
variable {w : World} {A A2 : Option Addr} {c c2 : Nat} {gs : List Int} {rows : List Rw}
end
end Go.Proofs.YtehjfmjibiafdaaGreat

/- zoo.Load. (printed by mk_zload.py) -/
namespace Go.Proofs.YtehjfmjibiafdaaGreat
open Go Go.RowKit
attribute [local go_sem] AllFrom.cons_eq AllFrom.nil_eq putF_nil putF_cons wantedL_none wantedL_some OpGoalT OpGoalV OpGoalQ OpGoalA OpGoalK YieldsR preF_nil preF_cons

theorem v_parent {z p f : Nat} {sl : Sl} {L : List Rw} {B : List Bd} {w : World} {F : List Nat} (h : RepV z p f sl L B w F) (s g : Int) (hc : HdR (s, g)) : Calls Tryz.prog 19 #[.pointer (some ⟨f, 0, none⟩), .agg #[.int .i64 s, .int .i64 g]] w (fun e w' => e = .returned (.tuple #[hdV (parV (parB B (s, g))), .bool (parB B (s, g)).isSome]) ∧ Below w.heap.size w w') := by
  obtain ⟨FF, h1⟩ := h.f_
  exact parent_any h1 s g hc

end Go.Proofs.YtehjfmjibiafdaaGreat
