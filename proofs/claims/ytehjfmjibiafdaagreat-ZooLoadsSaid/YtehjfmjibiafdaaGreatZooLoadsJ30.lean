import Derived.Test.YtehjfmjibiafdaaGreatZooLoadsJ14
import Derived.Test.YtehjfmjibiafdaaGreatZooLoadsJ18
import Derived.Test.YtehjfmjibiafdaaGreatZooLoadsJ28
import Derived.Test.YtehjfmjibiafdaaGreatZooLoadsJ29
import Derived.Test.YtehjfmjibiafdaaGreatZooLoadsJ8
import Derived.Lib.LazyBuf
/- The program's zoo and the reference's in memory; calls on their parts. -/
namespace Go.Proofs.YtehjfmjibiafdaaGreat
open Go Go.RowKit

/-- The program's zoo: its block, its world, its family. -/
def RepV (z p f : Nat) (sl : Sl) (L : List Rw) (B : List Bd) (w : World) (F : List Nat) : Prop :=
  w.heap[z]? = some (.cells #[.pointer (some ⟨p, 0, none⟩), .pointer (some ⟨f, 0, none⟩)] 62 (0, 0)) ∧
    ∃ FW FF, RepW w p sl L FW ∧ RepF w f B FF ∧ F = z :: (FW ++ FF) ∧ z ∉ FW ∧ z ∉ FF ∧ ∀ y ∈ FW, y ∉ FF
section
variable {z p f : Nat} {sl sl' : Sl} {L L' : List Rw} {B B' : List Bd} {w w' : World} {F G : List Nat}
theorem RepV.mod (h : RepV z p f sl L B w F) (hm : Mod G w w') (hd : ∀ y ∈ F, y ∉ G) : RepV z p f sl L B w' F := by
  obtain ⟨h1, FW, FF, h2, h3, rfl, h4, h5, h6⟩ := h
  exact ⟨hm.keep h1 (hd z (by simp)), FW, FF, h2.mod hm (fun y hy => hd y (by simp [hy])), h3.mod hm (fun y hy => hd y (by simp [hy])), rfl, h4, h5, h6⟩
theorem RepV.below (h : RepV z p f sl L B w F) (hb : Below w.heap.size w w') : RepV z p f sl L B w' F := h.mod (Mod.ofBelow hb) (by simp)
theorem RepV.lt (h : RepV z p f sl L B w F) : ∀ y ∈ F, y < w.heap.size := by
  obtain ⟨h1, FW, FF, h2, h3, rfl, -⟩ := h
  intro y hy
  rcases List.mem_cons.1 hy with rfl | hy
  · exact blk_lt h1
  · rcases List.mem_append.1 hy with hy | hy
    · exact h2.lt y hy
    · exact h3.lt y hy
theorem own_V (z p f : Nat) (sl : Sl) (L : List Rw) (B : List Bd) : Own (RepV z p f sl L B) := ⟨fun h hm hd => h.mod hm hd, fun h => h.lt⟩
theorem RepV.okW (h : RepV z p f sl L B w F) : WOk sl L := by obtain ⟨-, FW, FF, h2, -⟩ := h; exact h2.ok
theorem RepV.okF (h : RepV z p f sl L B w F) : FamOk B := by obtain ⟨-, FW, FF, -, h3, -⟩ := h; exact h3.ok
theorem RepV.w_ (h : RepV z p f sl L B w F) : ∃ FW, RepW w p sl L FW := by obtain ⟨-, FW, FF, h2, -⟩ := h; exact ⟨FW, h2⟩
theorem RepV.f_ (h : RepV z p f sl L B w F) : ∃ FF, RepF w f B FF := by obtain ⟨-, FW, FF, -, h3, -⟩ := h; exact ⟨FF, h3⟩
/-- The slots of the zoo's world. -/
theorem RepV.slots (h : RepV z p f sl L B w F) : ∃ ps FS, w.cell? ⟨p, 0, none⟩ = some (.pointer (some ⟨ps, 0, none⟩)) ∧ p < w.heap.size ∧ RepS w ps sl FS := by
  obtain ⟨FW, h2⟩ := h.w_
  obtain ⟨ps, mt, mp, tb, rw_, pl, FS, Fs, c, h3, -, -, -⟩ := h2
  have e := blk_cell h3.blk 0
  simp only [List.getElem?_toArray, List.getElem?_cons_zero] at e
  exact ⟨ps, FS, e, blk_lt h3.blk, h3.sl⟩
theorem RepV.cells (h : RepV z p f sl L B w F) : w.cell? ⟨z, 0, none⟩ = some (.pointer (some ⟨p, 0, none⟩)) ∧ w.cell? ⟨z, 1, none⟩ = some (.pointer (some ⟨f, 0, none⟩)) ∧ z < w.heap.size := by
  refine ⟨?_, ?_, blk_lt h.1⟩
  · rw [blk_cell h.1]; rfl
  · rw [blk_cell h.1]; rfl
/-- What a call on a zoo leaves. -/
def VRet (z p f : Nat) (sl : Sl) (L : List Rw) (B : List Bd) (F : List Nat) (w : World) (r : Value) (e : Ending) (w' : World) : Prop := e = .returned r ∧ OwnPost (RepV z p f sl L B) F w w'
theorem RepV.turnF (h : RepV z p f sl L B w F) : ∃ FF, RepF w f B FF ∧ ∀ w' B' F', RepF w' f B' F' → Turns w FF F' w' → OwnPost (RepV z p f sl L B') F w w' := by
  have hlt := h.lt
  obtain ⟨h1, FW, FF, h2, h3, rfl, h4, h5, h6⟩ := h
  refine ⟨FF, h3, fun w' B' F' a b => ⟨z :: (FW ++ F'), ⟨b.mod.keep h1 h5, FW, F', h2.mod b.mod (fun y hy => h6 y hy), a, rfl, h4, ?_, ?_⟩, b.mod.mono (by intro y hy; simp [hy]), ?_⟩⟩
  · intro e
    rcases b.new z e with e | e
    · exact h5 e
    · have := hlt z (by simp); omega
  · intro y hy e
    rcases b.new y e with e2 | e2
    · exact h6 y hy e2
    · have := hlt y (by simp [hy]); omega
  · intro y hy
    rcases List.mem_cons.1 hy with rfl | hy
    · exact .inl (by simp)
    · rcases List.mem_append.1 hy with hy | hy
      · exact .inl (by simp [hy])
      · rcases b.new y hy with e2 | e2
        · exact .inl (by simp [e2])
        · exact .inr e2
theorem OwnPost.ofBelow {A : World → List Nat → Prop} (hA : Own A) {F : List Nat} {w w' : World} (h : A w F) (hb : Below w.heap.size w w') : OwnPost A F w w' := ⟨F, hA.mod h (Mod.ofBelow hb) (by simp), Turns.ofBelow hb⟩
theorem OwnPost.below {A : World → List Nat → Prop} (hA : Own A) {F : List Nat} {w w' w'' : World} (h : OwnPost A F w w') (hb : Below w'.heap.size w' w'') : OwnPost A F w w'' := by
  obtain ⟨F', h1, h2⟩ := h
  exact ⟨F', hA.mod h1 (Mod.ofBelow hb) (by simp), h2.below hb⟩
theorem OwnPost.after {A : World → List Nat → Prop} {F : List Nat} {w w' w'' : World} (hb : Below w.heap.size w w') (h : OwnPost A F w' w'') : OwnPost A F w w'' := by
  obtain ⟨F', h1, h2⟩ := h
  exact ⟨F', h1, Turns.after hb h2⟩
theorem OwnPost.next {A A' : World → List Nat → Prop} {F : List Nat} {w w' w'' : World} (h : OwnPost A F w w') (k : ∀ F', A w' F' → OwnPost A' F' w' w'') : OwnPost A' F w w'' := by
  obtain ⟨F', h1, h2⟩ := h
  obtain ⟨F'', h3, h4⟩ := k F' h1
  exact ⟨F'', h3, h2.trans h4⟩
theorem OwnPost.mod {A : World → List Nat → Prop} {F : List Nat} {w w' : World} (h : OwnPost A F w w') : Mod F w w' := by obtain ⟨F', -, h2⟩ := h; exact h2.mod

/-! Calls on the parts of the program's zoo. -/
theorem v_adopt (h : RepV z p f sl L B w F) (s g t u : Int) (hc : HdR (s, g)) (hp : HdR (t, u)) :
    Calls Tryz.prog 31 #[.pointer (some ⟨f, 0, none⟩), .agg #[.int .i64 s, .int .i64 g], .agg #[.int .i64 t, .int .i64 u]] w (VRet z p f sl L (adoB B (s, g) (t, u)) F w (.int .i64 (adoE B (s, g) (t, u)))) := by
  obtain ⟨FF, h1, h2⟩ := h.turnF
  exact (adopt_any h1 s g t u hc hp).mono fun e w' ⟨he, a, b⟩ => ⟨he, h2 _ _ _ a ⟨b, fun _ h => .inl h⟩⟩
end

/-- The reference's zoo. -/
def RepQ (q : Nat) (sl : Sl) (L : List Rw) (B : List Bd) (w : World) (F : List Nat) : Prop :=
  ∃ vB FZ, RepZ vB w q sl L FZ ∧ w.ownsRow 0 84 4 vB B.length (B.flatMap bdC) ∧ F = FZ ++ vB.ownBlock.toList ∧ ∀ y ∈ FZ, y ∉ vB.ownBlock.toList
section
variable {q : Nat} {sl sl' : Sl} {L L' : List Rw} {B B' : List Bd} {w w' : World} {F G : List Nat}
theorem RepQ.mod (h : RepQ q sl L B w F) (hm : Mod G w w') (hd : ∀ y ∈ F, y ∉ G) : RepQ q sl L B w' F := by
  obtain ⟨vB, FZ, h1, h2, rfl, h3⟩ := h
  exact ⟨vB, FZ, h1.mod hm (fun y hy => hd y (by simp [hy])), row_mod h2 hm (fun k hk => hd k (by simp [hk])), rfl, h3⟩
theorem RepQ.lt (h : RepQ q sl L B w F) : ∀ y ∈ F, y < w.heap.size := by
  obtain ⟨vB, FZ, h1, h2, rfl, h3⟩ := h
  intro y hy
  rcases List.mem_append.1 hy with hy | hy
  · exact h1.lt y hy
  · exact row_lt h2 y (by simpa using hy)
theorem RepQ.below (h : RepQ q sl L B w F) (hb : Below w.heap.size w w') : RepQ q sl L B w' F := h.mod (Mod.ofBelow hb) (by simp)
theorem own_Q (q : Nat) (sl : Sl) (L : List Rw) (B : List Bd) : Own (RepQ q sl L B) := ⟨fun h hm hd => h.mod hm hd, fun h => h.lt⟩
def QRet (q : Nat) (sl : Sl) (L : List Rw) (B : List Bd) (F : List Nat) (w : World) (r : Value) (e : Ending) (w' : World) : Prop := e = .returned r ∧ OwnPost (RepQ q sl L B) F w w'
theorem RepQ.turnB (h : RepQ q sl L B w F) : ∃ vg vl vr FB, RepB vg vl vr w q B FB ∧ ∀ w' B' F', RepB vg vl vr w' q B' F' → Turns w FB F' w' → OwnPost (RepQ q sl L B') F w w' := by
  have hlt := h.lt
  obtain ⟨vB, FZ, ⟨vL, FS, ⟨vg, vl, g1, g2, g3, rfl, g4⟩, g5, rfl, g6⟩, h2, rfl, h3⟩ := h
  have hq : q ∉ vB.ownBlock.toList := h3 q (by simp)
  refine ⟨vg, vl, vL, q :: vB.ownBlock.toList, ⟨vB, g1, h2, rfl, hq⟩, fun w' B' F' a b => ?_⟩
  obtain ⟨vB', k1, k2, rfl, k4⟩ := a
  have hn : ∀ y, y ≠ q → (y ∈ (q :: (vg.ownBlock.toList ++ vl.ownBlock.toList)) ++ vL.ownBlock.toList) → y ∉ q :: vB.ownBlock.toList := fun y hy hm e => by
    rcases List.mem_cons.1 e with e | e
    · exact hy e
    · exact h3 y hm e
  have hnd := List.nodup_append.1 g6
  have hqg : q ∉ vg.ownBlock.toList ++ vl.ownBlock.toList := (List.nodup_cons.1 g4).1
  refine ⟨((q :: (vg.ownBlock.toList ++ vl.ownBlock.toList)) ++ vL.ownBlock.toList) ++ vB'.ownBlock.toList, ⟨vB', _, ⟨vL, _, ⟨vg, vl, k1, row_mod g2 b.mod (fun k hk => ?_), row_mod g3 b.mod (fun k hk => ?_), rfl, g4⟩, row_mod g5 b.mod (fun k hk => ?_), rfl, g6⟩, k2, rfl, ?_⟩, b.mod.mono (by
    intro y hy
    rcases List.mem_cons.1 hy with rfl | hy
    · exact .inl (by simp)
    · exact .inl (List.mem_append.2 (.inr hy))), ?_⟩
  · refine hn k ?_ (by simp [hk])
    rintro rfl
    exact hqg (by simp [hk])
  · refine hn k ?_ (by simp [hk])
    rintro rfl
    exact hqg (by simp [hk])
  · refine hn k ?_ (by simp [hk])
    rintro rfl
    exact (hnd.2.2 k (by simp) k (by simp [hk])) rfl
  · intro y hy e
    by_cases ey : y = q
    · subst ey; exact k4 e
    · rcases b.new y (List.mem_cons_of_mem _ e) with e2 | e2
      · exact hn y ey hy e2
      · have := hlt y (List.mem_append.2 (.inl hy)); omega
  · intro y hy
    rcases List.mem_append.1 hy with hy | hy
    · exact .inl (List.mem_append.2 (.inl hy))
    · rcases b.new y (List.mem_cons_of_mem _ hy) with e2 | e2
      · rcases List.mem_cons.1 e2 with rfl | e2
        · exact .inl (by simp)
        · exact .inl (List.mem_append.2 (.inr e2))
      · exact .inr e2
theorem RepQ.z_ (h : RepQ q sl L B w F) : ∃ vB FZ, RepZ vB w q sl L FZ := by obtain ⟨vB, FZ, h1, -⟩ := h; exact ⟨vB, FZ, h1⟩
theorem RepQ.b_ (h : RepQ q sl L B w F) : ∃ vg vl vr FB, RepB vg vl vr w q B FB := by obtain ⟨vg, vl, vr, FB, h1, -⟩ := h.turnB; exact ⟨vg, vl, vr, FB, h1⟩

theorem q_adopt (h : RepQ q sl L B w F) (hO : FamOk B) (hl : B.length ≤ 60) (s g t u : Int) :
    Calls Tryz.prog 34 #[.pointer (some ⟨q, 0, none⟩), .agg #[.int .i64 s, .int .i64 g], .agg #[.int .i64 t, .int .i64 u]] w (QRet q sl L (adoB B (s, g) (t, u)) F w (.int .i64 (adoE B (s, g) (t, u)))) := by
  obtain ⟨vg, vl, vr, FB, h1, h2⟩ := h.turnB
  exact (radopt_any hO (by omega) h1 s g t u).mono fun e w' ⟨he, F', a, b⟩ => ⟨he, h2 _ _ _ a b⟩
theorem q_at (h : RepQ q sl L B w F) (hO : WOk sl L) (s g : Int) :
    Calls Tryz.prog 33 #[.pointer (some ⟨q, 0, none⟩), .agg #[.int .i64 s, .int .i64 g]] w (fun e w' => e = .returned (.int .i64 (atI L (s, g))) ∧ Below w.heap.size w w') := by
  obtain ⟨vB, FZ, h1⟩ := h.z_
  exact at_any h1 hO.len s g
end
end Go.Proofs.YtehjfmjibiafdaaGreat

/- Lists of changes: Clone, Reverse, Invert. -/
namespace Go.Proofs.YtehjfmjibiafdaaGreat
open Go Go.RowKit

attribute [local go_sem] AllFrom.cons_eq AllFrom.nil_eq putF_nil putF_cons wantedL_none wantedL_some OpGoalQ YieldsR preF_nil preF_cons

end Go.Proofs.YtehjfmjibiafdaaGreat

/- slices.Reverse at handles. (printed by mk_revh.py) -/
namespace Go.Proofs.YtehjfmjibiafdaaGreat
open Go Go.RowKit

attribute [local go_sem] AllFrom.cons_eq AllFrom.nil_eq putF_nil putF_cons wantedL_none wantedL_some OpGoalQ YieldsR preF_nil preF_cons

end Go.Proofs.YtehjfmjibiafdaaGreat

/- The program's zoo: kill, live. (printed by mk_zk.py) -/
namespace Go.Proofs.YtehjfmjibiafdaaGreat
open Go Go.RowKit
attribute [local go_sem] AllFrom.cons_eq AllFrom.nil_eq putF_nil putF_cons wantedL_none wantedL_some OpGoalT OpGoalV OpGoalQ OpGoalA OpGoalK YieldsR preF_nil preF_cons

/-- A region in which a call (operation a) turns a structure. -/
structure ITurn (a : Nat) (w0 : World) (F : List Nat) (A' : World → List Nat → Prop) (L : Nat → Bool) (σ : Nat → Value) (V : World) : Prop where
  s0 : L a = false → Below w0.heap.size w0 V
  s1 : L a = true → OwnPost A' F w0 V
section
variable {a : Nat} {w0 V V' : World} {F : List Nat} {A' : World → List Nat → Prop} {L : Nat → Bool} {σ : Nat → Value}
theorem ITurn.start (h : Below w0.heap.size w0 V) : ITurn a w0 F A' (fun _ => false) σ V := ⟨fun _ => h, fun e => (by cases e)⟩
theorem ITurn.read (h : ITurn a w0 F A' L σ V) {i : Nat} (hi : a ≠ i) (v : Value) : ITurn a w0 F A' (upd L i) (updv σ i v) V := by
  have e : upd L i a = L a := by unfold upd; simp [hi]
  exact ⟨fun h1 => h.s0 (e ▸ h1), fun h1 => h.s1 (e ▸ h1)⟩
theorem ITurn.turn (h : ITurn a w0 F A' L σ V) (ha : L a = false) (hp : OwnPost A' F V V') (v : Value) : ITurn a w0 F A' (upd L a) (updv σ a v) V' :=
  ⟨fun e => by simp [upd] at e, fun _ => OwnPost.after (h.s0 ha) hp⟩
theorem ITurn.k (h : ITurn a w0 F A' L σ V) : Mod F w0 V := by
  cases e : L a with
  | false => exact (Mod.ofBelow (h.s0 e)).mono (by simp)
  | true => exact (h.s1 e).mod
end
/-- A region in which a call (operation m) makes a row. -/
structure IRow (m : Nat) (w0 : World) (E n : Nat) (xs : List Value) (k : Nat) (L : Nat → Bool) (σ : Nat → Value) (V : World) : Prop where
  b : Below w0.heap.size w0 V
  r : L m = true → V.ownsRow w0.heap.size E n (σ m) k xs
section
variable {m : Nat} {w0 V V' : World} {E n k : Nat} {xs : List Value} {L : Nat → Bool} {σ : Nat → Value}
theorem IRow.start (h : Below w0.heap.size w0 V) : IRow m w0 E n xs k (fun _ => false) σ V := ⟨h, fun e => (by cases e)⟩
theorem IRow.read (h : IRow m w0 E n xs k L σ V) {i : Nat} (hi : m ≠ i) (v : Value) : IRow m w0 E n xs k (upd L i) (updv σ i v) V := by
  have e : upd L i m = L m := by unfold upd; simp [hi]
  have e2 : updv σ i v m = σ m := by unfold updv; rw [if_neg hi]
  exact ⟨h.b, by rw [e, e2]; exact h.r⟩
theorem IRow.got (h : IRow m w0 E n xs k L σ V) (hb : Below V.heap.size V V') {v : Value} (hv : V'.ownsRow V.heap.size E n v k xs) : IRow m w0 E n xs k (upd L m) (updv σ m v) V' := by
  have e : updv σ m v m = v := by unfold updv; simp
  refine ⟨h.b.trans (hb.mono h.b.size), fun _ => ?_⟩
  rw [e]
  exact row_base hv (fun j hj => Nat.le_trans h.b.size (own_ge hv j hj))
end
section
variable {z p f : Nat} {sl sl' : Sl} {L L' : List Rw} {B B' : List Bd} {w w' : World} {F G : List Nat}
theorem v_liveA (h : RepV z p f sl L B w F) : ∃ ps, ∀ V, Below w.heap.size w V → V.cell? ⟨z, 0, none⟩ = some (.pointer (some ⟨p, 0, none⟩)) ∧ V.cell? ⟨z, 1, none⟩ = some (.pointer (some ⟨f, 0, none⟩)) ∧ z < V.heap.size ∧ V.cell? ⟨p, 0, none⟩ = some (.pointer (some ⟨ps, 0, none⟩)) ∧ p < V.heap.size ∧ ∀ s g, Calls Tryz.prog 55 #[.pointer (some ⟨ps, 0, none⟩), .agg #[.int .i64 s, .int .i64 g]] V fun e w' => e = .returned (.bool (liveB sl s g)) ∧ Below V.heap.size V w' := by
  obtain ⟨ps, FS, h1, h2, h3⟩ := h.slots
  refine ⟨ps, fun V hV => ?_⟩
  have hc := (h.below hV).cells
  exact ⟨hc.1, hc.2.1, hc.2.2, (hV.cell (p := ⟨p, 0, none⟩) h2).trans h1, Nat.lt_of_lt_of_le h2 hV.size, fun s g => live_any ps sl FS s g V (h3.mod (Mod.ofBelow hV) (by simp))⟩

def liveZ (sl : Sl) (hs : List Hd) : Bool := hs.all (fun h => liveB sl h.1 h.2)
def liveE (sl : Sl) (hs : List Hd) : Int := if liveZ sl hs = true then 0 else 7
theorem liveE_ok {sl : Sl} {hs : List Hd} (h : liveZ sl hs = true) : liveE sl hs = 0 := by unfold liveE; rw [if_pos h]
theorem liveE_no {sl : Sl} {hs : List Hd} (h : liveZ sl hs = false) : liveE sl hs = 7 := by unfold liveE; rw [if_neg (by rw [h]; simp)]
set_option maxRecDepth 20000 in
set_option maxHeartbeats 4000000 in
theorem vlive_any (h : RepV z p f sl L B w F) (A : Option Addr) (c : Nat) (hs : List Hd) (hl : hs.length ≤ 60) (hA : Lies w w.heap.size A (hs.flatMap handleC)) :
    Calls Tryz.prog 30 #[.pointer (some ⟨z, 0, none⟩), .slice A hs.length c] w fun e w' => e = .returned (.int .i64 (liveE sl hs)) ∧ Below w.heap.size w w' := by
  obtain ⟨ps, hV⟩ := v_liveA h
  have HV := Lib.hid hV; have HA := Lib.hid hA
  clear hV hA
  clear h
  go_enter Tryz.func30, Tryz.ntmps30
  go_wp2_with fail
  go_loopw [9] (fun i wr => ∃ k : Nat, k ≤ hs.length ∧ i = .int .i64 k ∧ liveZ sl (hs.take k) = true ∧ Below w.heap.size w wr) (fun i _ => hs.length - (intOf i).toNat)
  case atStart => exact ⟨0, by omega, rfl, rfl, Below.refl _ _⟩
  case round =>
    obtain ⟨k, hk, rfl, hno, hbel⟩ := hrel
    have hsz := hbel.size
    by_cases hlt : k < hs.length
    · obtain ⟨ab, ao, rfl, hal, hc⟩ := HA.out.rec_at handleC_len (by omega) hlt
      have hki : (k : Int) < (hs.length : Int) := by omega
      have hq : ∀ j u, (handleC hs[k])[j]? = some u → wr.cell? ((⟨ab, ao + k * 2, none⟩ : Addr).add j) = some u := fun j u hu => (hbel.cell (p := (⟨ab, ao + k * 2, none⟩ : Addr).add j) (by rw [add_block]; exact hal)).trans (by first | exact hc j u hu | (have := hc j u hu; rw [Addr.add_mid]; exact this))
      have hst : liveZ sl (hs.take (k + 1)) = liveB sl hs[k].1 hs[k].2 := by
        have h1 := hno
        unfold liveZ at h1 ⊢
        rw [take_succ_get hs k hlt, List.all_append, h1]; simp
      have hall : liveB sl hs[k].1 hs[k].2 = false → liveZ sl hs = false := fun e => by
        unfold liveZ
        rw [List.all_eq_false]
        exact ⟨hs[k], List.getElem_mem hlt, by rw [e]; simp⟩
      generalize hs[k] = x at *
      obtain ⟨s, g⟩ := x
      obtain ⟨w3, hw3, hb3, hz3, hs3⟩ := box1 wr (.cells #[.int .i64 s, .int .i64 g] 41)
      have hb03 := hbel.trans (hb3.mono hsz)
      have hL := fun V (hb : Below w3.heap.size w3 V) => HV.out V (hb03.trans (hb.mono hb03.size))
      simp only at hst hall
      have HQ := Lib.hid hq; have Hst := Lib.hid hst; have Hall := Lib.hid hall; have Hb03 := Lib.hid hb03; have HL := Lib.hid hL; have Hz3 := Lib.hid hz3; have Hs3 := Lib.hid hs3; have Hw3 := Lib.hid hw3
      clear hq hst hall hb03 hL hz3 hs3 hw3
      clear hc hb3 hno hbel
      go_wp2_with (first | (refine wpList_load_flat rfl 41 (.tmp 11) rfl _ rfl [.int .i64 s, .int .i64 g] _ Tryz.underlying41 rfl (by kernel_rfl) HQ.out ?_) | fail)
      rw [Hw3.out]
      refine wp_planK [] 10 [0] [some 13, some 14, some 15, some 16, some 17, some 18, some 19, some 20, some 21, some 22] [[], [0], [0, 1], [0, 1, 2], [0, 1, 2, 3], [0, 1, 2, 3, 4], [0, 1, 2, 3, 4, 5], [], [0, 1, 2, 3, 4, 5, 6, 7], [0, 1, 2, 3, 4, 5, 6, 7, 8]] [0, 1, 2, 3, 4, 5, 6, 7, 8, 9] (fun Lf σ V => Below w3.heap.size w3 V) mixed rfl (by kernel_rfl) (by decide) (by decide) (by decide) below_drew rfl ?_
      iterate 10 apply Exists.intro
      refine ⟨rfl, ?_, ?_⟩
      · simp only [List.take_succ_cons, List.take_zero, AllFrom.cons_eq, AllFrom.nil_eq, OpGoalK]
        refine ⟨?_, ?_, ?_, ?_, ?_, ?_, ?_, ?_, ?_, ?_, trivial⟩
        all_goals (intro L' σ V h1 h2 h3 hI hp; have HA1 := Lib.hid h1; have HA2 := Lib.hid h2; have HA3 := Lib.hid h3; clear h1 h2 h3; (try simp only [List.getD_cons_zero, List.getD_cons_succ, preK_cons, preK_nil] at hp); (try simp only [List.not_mem_nil, false_or, and_true] at hp); (first | (have hq : True := hp; clear hq hp) | skip); have HI := Lib.hid hI; clear hI)
        all_goals (
          have hA := HL.out V HI.out
          have hc0 := hA.1; have hzl := hA.2.2.1; have hp0 := hA.2.2.2.1; have hpl := hA.2.2.2.2.1
          have HLv := Lib.hid hA.2.2.2.2.2
          have hzV := (Mod.ofBelow HI.out).keep Hz3.out (by simp)
          have q0 := blk_cell hzV 0
          have q1 := blk_cell hzV 1
          simp only [List.getElem?_toArray, List.getElem?_cons_zero, List.getElem?_cons_succ] at q0 q1
          have ql := blk_lt hzV
          clear hA hzV)
        · (go_simp; exact ⟨.inr rfl, HI.out⟩)
        · (go_simp; exact ⟨.inr rfl, HI.out⟩)
        · (go_simp; exact ⟨.inr rfl, HI.out⟩)
        · (go_simp; exact ⟨.inr rfl, HI.out⟩)
        · (go_simp; exact ⟨.inr rfl, HI.out⟩)
        · (go_simp; exact ⟨.inr rfl, HI.out⟩)
        · (go_simp; exact ⟨.inr rfl, HI.out⟩)
        · (go_simp; exact ⟨.inr rfl, HI.out⟩)
        · (go_simp; refine (HLv.out s g).mono ?_; rintro e V2 ⟨rfl, hb⟩; exact ⟨_, rfl, .inr rfl, HI.out.trans (hb.mono HI.out.size)⟩)
        · (go_simp; exact ⟨.inr rfl, HI.out⟩)
      · intro L' σ V h1 hI hp
        clear h1
        simp only [preK_cons, preK_nil, List.getD_cons_zero, List.getD_cons_succ] at hp; simp only [List.not_mem_nil, false_or, and_true] at hp
        have hbV := Hb03.out.trans (hI.mono Hb03.out.size)
        have HbV := Lib.hid hbV
        clear hbV
        clear hI
        simp only [List.drop_succ_cons, List.drop_zero]
        go_simp
        clear hp
        cases hlv : liveB sl s g with
        | false =>
          have hf := Hall.out hlv
          have Hf := Lib.hid hf
          clear hf
          clear hlv
          go_wp2_with fail
          refine ⟨rfl, ?_⟩
          go_wp2
          refine bodyPost_ret (v := .int .i64 7) (by unfold results; try go_simp) rfl ?_
          exact ⟨by rw [liveE_no Hf.out], HbV.out⟩
        | true =>
          have hs2 := Hst.out.trans hlv
          have Hs2 := Lib.hid hs2
          clear hs2
          clear hlv
          go_wp2_with fail
          refine ⟨rfl, ?_⟩
          go_wp2
          go_roundw
          case rel => exact ⟨k + 1, by omega, by go_num, Hs2.out, HbV.out⟩
          case measure => simp [intOf]; omega
    · obtain rfl : k = hs.length := by omega
      rw [List.take_length] at hno
      have Hno := Lib.hid hno; have HB := Lib.hid hbel
      clear hno hbel
      go_wp2
      refine bodyPost_ret (v := .int .i64 0) (by unfold results; try go_simp) rfl ?_
      exact ⟨by rw [liveE_ok Hno.out], HB.out⟩
end
end Go.Proofs.YtehjfmjibiafdaaGreat
