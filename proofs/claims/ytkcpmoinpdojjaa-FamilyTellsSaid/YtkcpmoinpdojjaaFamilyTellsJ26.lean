import Derived.Test.YtkcpmoinpdojjaaFamilyTellsJ17
import Derived.Test.YtkcpmoinpdojjaaFamilyTellsJ15
import Derived.Test.YtkcpmoinpdojjaaFamilyTellsJ24
import Derived.Test.YtkcpmoinpdojjaaFamilyTellsJ25
import Derived.Test.YtkcpmoinpdojjaaFamilyTellsJ6
/- Two structures side by side: what a call on the one leaves of both. -/
namespace Go.Proofs.Ytkcpmoinpdojjaa
open Go Go.RowKit

/-- A structure in memory with the list of its blocks. -/
structure Own (A : World → List Nat → Prop) : Prop where
  mod : ∀ {w w' : World} {F G : List Nat}, A w F → Mod G w w' → (∀ y ∈ F, y ∉ G) → A w' F
  lt : ∀ {w : World} {F : List Nat}, A w F → ∀ y ∈ F, y < w.heap.size
/-- Two structures; nothing is shared; all lies from Lo on and none of it in the blocks of Z. -/
structure SepA (Lo : Nat) (Z : List Nat) (A B : World → List Nat → Prop) (w : World) (F G : List Nat) : Prop where
  a : A w F
  b : B w G
  d : ∀ y ∈ F, y ∉ G
  af : ∀ y ∈ F, Lo ≤ y ∧ y ∉ Z
  bf : ∀ y ∈ G, Lo ≤ y ∧ y ∉ Z
  lo : Lo ≤ w.heap.size
  zl : ∀ z ∈ Z, z < w.heap.size
def Sep (Lo : Nat) (Z : List Nat) (A B : World → List Nat → Prop) (w : World) : Prop := ∃ F G, SepA Lo Z A B w F G
/-- What a call on one structure leaves. -/
def OwnPost (A' : World → List Nat → Prop) (F : List Nat) (w w' : World) : Prop := ∃ F', A' w' F' ∧ Turns w F F' w'
section
variable {Lo : Nat} {Z : List Nat} {A B A' B' : World → List Nat → Prop} {w w' : World}
theorem Sep.below (hA : Own A) (hB : Own B) (h : Sep Lo Z A B w) (hb : Below w.heap.size w w') : Sep Lo Z A B w' ∧ Below Lo w w' ∧ KeepZ Z w w' := by
  obtain ⟨F, G, ⟨a, b, d, af, bf, lo, zl⟩⟩ := h
  have hs := hb.size
  exact ⟨⟨F, G, ⟨hA.mod a (Mod.ofBelow hb) (by simp), hB.mod b (Mod.ofBelow hb) (by simp), d, af, bf, by omega, fun z hz => by have := zl z hz; omega⟩⟩, hb.mono lo, fun z hz _ ho => (Mod.ofBelow hb).keep ho (by simp)⟩
theorem SepA.left (hA : Own A') (hB : Own B) {F G : List Nat} (h : SepA Lo Z A B w F G) (hp : OwnPost A' F w w') : Sep Lo Z A' B w' ∧ Below Lo w w' ∧ KeepZ Z w w' := by
  obtain ⟨a, b, d, af, bf, lo, zl⟩ := h
  obtain ⟨F', h1, h2⟩ := hp
  have hs := h2.mod.size
  have hl := hB.lt b
  refine ⟨⟨F', G, ⟨h1, hB.mod b h2.mod (fun y hy e => d y e hy), fun y hy e => ?_, fun y hy => ?_, bf, by omega, fun z hz => by have := zl z hz; omega⟩⟩, h2.mod.toBelow (fun y hy => (af y hy).1) lo, fun z hz _ ho => h2.mod.keep ho (fun e => (af z e).2 hz)⟩
  · rcases h2.new y hy with h | h
    · exact d y h e
    · have := hl y e; omega
  · rcases h2.new y hy with h | h
    · exact af y h
    · exact ⟨by omega, fun e => by have := zl y e; omega⟩
theorem SepA.swap {F G : List Nat} (h : SepA Lo Z A B w F G) : SepA Lo Z B A w G F := by
  obtain ⟨a, b, d, af, bf, lo, zl⟩ := h
  exact ⟨b, a, fun y hy e => d y e hy, bf, af, lo, zl⟩
theorem Sep.swap (h : Sep Lo Z A B w) : Sep Lo Z B A w := by
  obtain ⟨F, G, h⟩ := h
  exact ⟨G, F, h.swap⟩
theorem SepA.right (hA : Own A) (hB : Own B') {F G : List Nat} (h : SepA Lo Z A B w F G) (hp : OwnPost B' G w w') : Sep Lo Z A B' w' ∧ Below Lo w w' ∧ KeepZ Z w w' := by
  obtain ⟨h1, h2⟩ := h.swap.left hB hA hp
  exact ⟨h1.swap, h2⟩
/-- A new block joins Z. -/
theorem Sep.fresh (hA : Own A) (hB : Own B) (h : Sep Lo Z A B w) (hb : Below w.heap.size w w') (z : Nat) (hz : w.heap.size ≤ z) (hz' : z < w'.heap.size) : Sep Lo (z :: Z) A B w' := by
  obtain ⟨F, G, ⟨a, b, d, af, bf, lo, zl⟩⟩ := h
  have hs := hb.size
  have l1 := hA.lt a
  have l2 := hB.lt b
  refine ⟨F, G, ⟨hA.mod a (Mod.ofBelow hb) (by simp), hB.mod b (Mod.ofBelow hb) (by simp), d, fun y hy => ⟨(af y hy).1, fun e => ?_⟩, fun y hy => ⟨(bf y hy).1, fun e => ?_⟩, by omega, fun x hx => ?_⟩⟩
  · rcases List.mem_cons.1 e with e | e
    · have := l1 y hy; omega
    · exact (af y hy).2 e
  · rcases List.mem_cons.1 e with e | e
    · have := l2 y hy; omega
    · exact (bf y hy).2 e
  · rcases List.mem_cons.1 hx with e | e
    · omega
    · have := zl x e; omega
/-- Blocks leave Z. -/
theorem Sep.drop (h : Sep Lo Z A B w) {Y : List Nat} (hY : ∀ y ∈ Y, y ∈ Z) : Sep Lo Y A B w := by
  obtain ⟨F, G, ⟨a, b, d, af, bf, lo, zl⟩⟩ := h
  exact ⟨F, G, ⟨a, b, d, fun y hy => ⟨(af y hy).1, fun e => (af y hy).2 (hY y e)⟩, fun y hy => ⟨(bf y hy).1, fun e => (bf y hy).2 (hY y e)⟩, lo, fun z hz => zl z (hY z hz)⟩⟩
/-- A call on the left one. -/
theorem Sep.callL {P : Program} {f : FuncId} {args : Array Value} {r : Value} (hA : Own A') (hB : Own B) (h : Sep Lo Z A B w) (hc : ∀ F, A w F → Calls P f args w (fun e w' => e = .returned r ∧ OwnPost A' F w w')) :
    Calls P f args w (fun e w' => e = .returned r ∧ Sep Lo Z A' B w' ∧ Below Lo w w' ∧ KeepZ Z w w') := by
  obtain ⟨F, G, h⟩ := h
  exact (hc F h.a).mono fun e w' ⟨he, hp⟩ => ⟨he, h.left hA hB hp⟩
theorem Sep.callR {P : Program} {f : FuncId} {args : Array Value} {r : Value} (hA : Own A) (hB : Own B') (h : Sep Lo Z A B w) (hc : ∀ G, B w G → Calls P f args w (fun e w' => e = .returned r ∧ OwnPost B' G w w')) :
    Calls P f args w (fun e w' => e = .returned r ∧ Sep Lo Z A B' w' ∧ Below Lo w w' ∧ KeepZ Z w w') := by
  obtain ⟨F, G, h⟩ := h
  exact (hc G h.b).mono fun e w' ⟨he, hp⟩ => ⟨he, h.right hA hB hp⟩
/-- A call that only reads (and makes memory). -/
theorem Sep.readL {P : Program} {f : FuncId} {args : Array Value} {r : Value} (hA : Own A) (hB : Own B) (h : Sep Lo Z A B w) (hc : ∀ F, A w F → Calls P f args w (fun e w' => e = .returned r ∧ Below w.heap.size w w')) :
    Calls P f args w (fun e w' => e = .returned r ∧ Sep Lo Z A B w' ∧ Below Lo w w' ∧ KeepZ Z w w') := by
  obtain ⟨F, G, h'⟩ := id h
  exact (hc F h'.a).mono fun e w' ⟨he, hb⟩ => ⟨he, h.below hA hB hb⟩
theorem Sep.readR {P : Program} {f : FuncId} {args : Array Value} {r : Value} (hA : Own A) (hB : Own B) (h : Sep Lo Z A B w) (hc : ∀ G, B w G → Calls P f args w (fun e w' => e = .returned r ∧ Below w.heap.size w w')) :
    Calls P f args w (fun e w' => e = .returned r ∧ Sep Lo Z A B w' ∧ Below Lo w w' ∧ KeepZ Z w w') := by
  obtain ⟨F, G, h'⟩ := id h
  exact (hc G h'.b).mono fun e w' ⟨he, hb⟩ => ⟨he, h.below hA hB hb⟩
end
theorem KeepZ.trans {Z : List Nat} {a b c : World} (h : KeepZ Z a b) (k : KeepZ Z b c) : KeepZ Z a c := fun z hz o ho => k z hz o (h z hz o ho)
end Go.Proofs.Ytkcpmoinpdojjaa

/- Worlds: the world and the reference's zoo side by side. -/
namespace Go.Proofs.Ytkcpmoinpdojjaa
open Go Go.RowKit

def AW (p : Nat) (sl : Sl) (L : List Rw) (w : World) (F : List Nat) : Prop := RepW w p sl L F
def AZ (vB : Value) (q : Nat) (sl : Sl) (L : List Rw) (w : World) (F : List Nat) : Prop := RepZ vB w q sl L F
theorem own_W (p : Nat) (sl : Sl) (L : List Rw) : Own (AW p sl L) := ⟨fun h hm hd => RepW.mod h hm hd, fun h => RepW.lt h⟩
theorem own_Z (vB : Value) (q : Nat) (sl : Sl) (L : List Rw) : Own (AZ vB q sl L) := ⟨fun h hm hd => RepZ.mod h hm hd, fun h => RepZ.lt h⟩
/-- Both hold the slots sl and the rows L (the zoo, those of sl', L' where it lags behind). -/
abbrev PZ (vB : Value) (Lo : Nat) (Z : List Nat) (p q : Nat) (sl : Sl) (L : List Rw) (sl' : Sl) (L' : List Rw) (w : World) : Prop := Sep Lo Z (AW p sl L) (AZ vB q sl' L') w
theorem PZ.ok {vB : Value} {Lo : Nat} {Z : List Nat} {p q : Nat} {sl sl' : Sl} {L L' : List Rw} {w : World} (h : PZ vB Lo Z p q sl L sl' L' w) : WOk sl L := by
  obtain ⟨F, G, h⟩ := h
  exact RepW.ok h.a
section
variable {vB : Value} {Lo : Nat} {Z : List Nat} {p q : Nat} {sl sl' : Sl} {L L' : List Rw} {w : World}
theorem pz_below {w' : World} (h : PZ vB Lo Z p q sl L sl' L' w) (hb : Below w.heap.size w w') : PZ vB Lo Z p q sl L sl' L' w' ∧ Below Lo w w' ∧ KeepZ Z w w' := Sep.below (own_W _ _ _) (own_Z _ _ _ _) h hb
def PZPost (vB : Value) (Lo : Nat) (Z : List Nat) (p q : Nat) (sl : Sl) (L : List Rw) (sl' : Sl) (L' : List Rw) (w : World) (r : Value) (e : Ending) (w' : World) : Prop :=
  e = .returned r ∧ PZ vB Lo Z p q sl L sl' L' w' ∧ Below Lo w w' ∧ KeepZ Z w w'
theorem pz_wspawn (h : PZ vB Lo Z p q sl L sl' L' w) (K a0 a1 a2 a3 a4 a5 a6 a7 : Int) :
    Calls Try.prog 80 #[.pointer (some ⟨p, 0, none⟩), .agg #[.int .i64 K, .int .i64 a0, .int .i64 a1, .int .i64 a2, .int .i64 a3, .int .i64 a4, .int .i64 a5, .int .i64 a6, .int .i64 a7]] w (PZPost vB Lo Z p q (spawnS sl (K, a0, a1, a2, a3, a4, a5, a6, a7)) (spawnL sl L (K, a0, a1, a2, a3, a4, a5, a6, a7)) sl' L' w (.tuple #[.agg #[.int .i64 (spawnH sl (K, a0, a1, a2, a3, a4, a5, a6, a7)).1, .int .i64 (spawnH sl (K, a0, a1, a2, a3, a4, a5, a6, a7)).2], .int .i64 (spawnE sl (K, a0, a1, a2, a3, a4, a5, a6, a7))])) :=
  Sep.callL (own_W _ _ _) (own_Z _ _ _ _) h fun _ hF => spawn_any hF K a0 a1 a2 a3 a4 a5 a6 a7
theorem pz_zspawn (h : PZ vB Lo Z p q sl L sl' L' w) (hO : WOk sl' L') (K a0 a1 a2 a3 a4 a5 a6 a7 : Int) :
    Calls Try.prog 81 #[.pointer (some ⟨q, 0, none⟩), .agg #[.int .i64 K, .int .i64 a0, .int .i64 a1, .int .i64 a2, .int .i64 a3, .int .i64 a4, .int .i64 a5, .int .i64 a6, .int .i64 a7]] w (PZPost vB Lo Z p q sl L (spawnS sl' (K, a0, a1, a2, a3, a4, a5, a6, a7)) (spawnL sl' L' (K, a0, a1, a2, a3, a4, a5, a6, a7)) w (.tuple #[.agg #[.int .i64 (spawnH sl' (K, a0, a1, a2, a3, a4, a5, a6, a7)).1, .int .i64 (spawnH sl' (K, a0, a1, a2, a3, a4, a5, a6, a7)).2], .int .i64 (spawnE sl' (K, a0, a1, a2, a3, a4, a5, a6, a7))])) :=
  Sep.callR (own_W _ _ _) (own_Z _ _ _ _) h fun _ hF => zspawn_any hF hO K a0 a1 a2 a3 a4 a5 a6 a7
theorem pz_wkill (h : PZ vB Lo Z p q sl L sl' L' w) (s g : Int) :
    Calls Try.prog 37 #[.pointer (some ⟨p, 0, none⟩), .agg #[.int .i64 s, .int .i64 g]] w (PZPost vB Lo Z p q (freeL sl s g) (killL L (s, g)) sl' L' w (.int .i64 (killE L (s, g)))) :=
  Sep.callL (own_W _ _ _) (own_Z _ _ _ _) h fun _ hF => wkill_any hF s g
theorem pz_zkill (h : PZ vB Lo Z p q sl L sl' L' w) (hO : WOk sl' L') (s g : Int) :
    Calls Try.prog 82 #[.pointer (some ⟨q, 0, none⟩), .agg #[.int .i64 s, .int .i64 g]] w (PZPost vB Lo Z p q sl L (freeL sl' s g) (killL L' (s, g)) w (.int .i64 (killE L' (s, g)))) :=
  Sep.callR (own_W _ _ _) (own_Z _ _ _ _) h fun _ hF => zkill_any hF hO s g
theorem pz_wput (h : PZ vB Lo Z p q sl L sl' L' w) (s g k n : Int) :
    Calls Try.prog 83 #[.pointer (some ⟨p, 0, none⟩), .agg #[.int .i64 s, .int .i64 g], .int .i64 k, .int .i64 n] w (PZPost vB Lo Z p q sl (putW L (s, g) k n) sl' L' w (.int .i64 (putE L (s, g) k n))) :=
  Sep.callL (own_W _ _ _) (own_Z _ _ _ _) h fun _ hF => wput_any hF s g k n
theorem pz_zput (h : PZ vB Lo Z p q sl L sl' L' w) (hO : WOk sl' L') (s g k n : Int) :
    Calls Try.prog 84 #[.pointer (some ⟨q, 0, none⟩), .agg #[.int .i64 s, .int .i64 g], .int .i64 k, .int .i64 n] w (PZPost vB Lo Z p q sl L sl' (putW L' (s, g) k n) w (.int .i64 (putE L' (s, g) k n))) :=
  Sep.callR (own_W _ _ _) (own_Z _ _ _ _) h fun _ hF => zput_any hF hO s g k n
theorem pz_wdrop (h : PZ vB Lo Z p q sl L sl' L' w) (s g k : Int) :
    Calls Try.prog 85 #[.pointer (some ⟨p, 0, none⟩), .agg #[.int .i64 s, .int .i64 g], .int .i64 k] w (PZPost vB Lo Z p q sl (dropL L (s, g) k) sl' L' w (.int .i64 (dropE L (s, g) k))) :=
  Sep.callL (own_W _ _ _) (own_Z _ _ _ _) h fun _ hF => wdrop_any hF s g k
theorem pz_zdrop (h : PZ vB Lo Z p q sl L sl' L' w) (hO : WOk sl' L') (s g k : Int) :
    Calls Try.prog 86 #[.pointer (some ⟨q, 0, none⟩), .agg #[.int .i64 s, .int .i64 g], .int .i64 k] w (PZPost vB Lo Z p q sl L sl' (dropL L' (s, g) k) w (.int .i64 (dropE L' (s, g) k))) :=
  Sep.callR (own_W _ _ _) (own_Z _ _ _ _) h fun _ hF => zdrop_any hF hO s g k
theorem pz_wget (h : PZ vB Lo Z p q sl L sl' L' w) (s g : Int) :
    Calls Try.prog 35 #[.pointer (some ⟨p, 0, none⟩), .agg #[.int .i64 s, .int .i64 g]] w (PZPost vB Lo Z p q sl L sl' L' w (.tuple #[.agg (btC (getB L (s, g))).toArray, .int .i64 (getE L (s, g))])) :=
  Sep.readL (own_W _ _ _) (own_Z _ _ _ _) h fun _ hF => wget_any hF s g
theorem pz_zget (h : PZ vB Lo Z p q sl L sl' L' w) (hO : WOk sl' L') (s g : Int) :
    Calls Try.prog 36 #[.pointer (some ⟨q, 0, none⟩), .agg #[.int .i64 s, .int .i64 g]] w (PZPost vB Lo Z p q sl L sl' L' w (.tuple #[.agg (btC (getB L' (s, g))).toArray, .int .i64 (getE L' (s, g))])) :=
  Sep.readR (own_W _ _ _) (own_Z _ _ _ _) h fun _ hF => zget_any hF hO.len s g
end
end Go.Proofs.Ytkcpmoinpdojjaa

/- did: an op at the world and at the reference's zoo: the answers are the same. (printed by mk_w12.py) -/
namespace Go.Proofs.Ytkcpmoinpdojjaa
open Go Go.RowKit

theorem KeepZ.sub {Z Y : List Nat} {a b : World} (h : KeepZ Z a b) (hY : ∀ y ∈ Y, y ∈ Z) : KeepZ Y a b := fun z hz o ho => h z (hY z hz) o ho
attribute [local go_sem] AllFrom.cons_eq AllFrom.nil_eq putF_nil putF_cons wantedL_none wantedL_some OpGoalT OpGoalV OpGoalQ OpGoalA OpGoalK YieldsR preF_nil preF_cons

theorem Sep.lo {Lo : Nat} {Z : List Nat} {A B : World → List Nat → Prop} {w : World} (h : Sep Lo Z A B w) : Lo ≤ w.heap.size := by obtain ⟨F, G, h⟩ := h; exact h.lo

/-- From a to b: all below Lo is as it was, and the blocks of Z. -/
structure Went (Lo : Nat) (Z : List Nat) (a c : World) : Prop where
  b : Below Lo a c
  k : KeepZ Z a c
theorem Went.trans {Lo : Nat} {Z : List Nat} {a b c : World} (h : Went Lo Z a b) (k : Went Lo Z b c) : Went Lo Z a c := ⟨h.b.trans k.b, h.k.trans k.k⟩
theorem Went.sub {Lo : Nat} {Z Y : List Nat} {a b : World} (h : Went Lo Z a b) (hY : ∀ y ∈ Y, y ∈ Z) : Went Lo Y a b := ⟨h.b, h.k.sub hY⟩
theorem Went.more {Lo : Nat} {Z : List Nat} {x : Nat} {a b : World} (h : Went Lo (x :: Z) a b) : Went Lo Z a b := h.sub (fun y hy => List.mem_cons_of_mem _ hy)
/-- A region in which a call (operation a) turns what holds. -/
structure ITwo (a : Nat) (Lo : Nat) (Z : List Nat) (w0 : World) (S0 S1 : World → Prop) (L : Nat → Bool) (σ : Nat → Value) (V : World) : Prop where
  s0 : L a = false → S0 V
  s1 : L a = true → S1 V
  b : Below Lo w0 V
  k : KeepZ Z w0 V
section
variable {a Lo : Nat} {Z : List Nat} {w0 : World} {S0 S1 : World → Prop} {L : Nat → Bool} {σ : Nat → Value} {V V' : World}
theorem ITwo.start (h : S0 V) (hb : Below Lo w0 V) (hk : KeepZ Z w0 V) : ITwo a Lo Z w0 S0 S1 (fun _ => false) σ V := ⟨fun _ => h, fun e => (by cases e), hb, hk⟩
theorem ITwo.read (h : ITwo a Lo Z w0 S0 S1 L σ V) {i : Nat} (hi : a ≠ i) (v : Value) : ITwo a Lo Z w0 S0 S1 (upd L i) (updv σ i v) V := by
  have e : upd L i a = L a := by unfold upd; simp [hi]
  exact ⟨fun h1 => h.s0 (e ▸ h1), fun h1 => h.s1 (e ▸ h1), h.b, h.k⟩
theorem ITwo.turn (h : ITwo a Lo Z w0 S0 S1 L σ V) (hs : S1 V') (hb : Below Lo V V') (hk : KeepZ Z V V') (v : Value) : ITwo a Lo Z w0 S0 S1 (upd L a) (updv σ a v) V' :=
  ⟨fun e => by simp [upd] at e, fun _ => hs, h.b.trans hb, h.k.trans hk⟩
end
/-- What did leaves. -/
def DidPost (vB : Value) (Lo : Nat) (Z : List Nat) (p q : Nat) (w : World) (e : Ending) (w' : World) : Prop :=
  e = .returned (.bool true) ∧ (∃ sl L, PZ vB Lo Z p q sl L sl L w') ∧ Below Lo w w' ∧ KeepZ Z w w'

section
variable {vB : Value} {Lo : Nat} {Z : List Nat} {p q : Nat} {sl : Sl} {L : List Rw} {w : World}

set_option maxRecDepth 20000 in
set_option maxHeartbeats 4000000 in
theorem did_spawn (h : PZ vB Lo Z p q sl L sl L w) (K a0 a1 a2 a3 a4 a5 a6 a7 s g ts tg k n : Int) : Calls Try.prog 33 #[.pointer (some ⟨p, 0, none⟩), .pointer (some ⟨q, 0, none⟩), .agg #[.int .i64 1, .int .i64 K, .int .i64 a0, .int .i64 a1, .int .i64 a2, .int .i64 a3, .int .i64 a4, .int .i64 a5, .int .i64 a6, .int .i64 a7, .int .i64 s, .int .i64 g, .int .i64 ts, .int .i64 tg, .int .i64 k, .int .i64 n]] w (DidPost vB Lo Z p q w) := by
  obtain ⟨w0, hw0, hb0, hz0, hs0⟩ := box1 w (.cells #[.int .i64 1, .int .i64 K, .int .i64 a0, .int .i64 a1, .int .i64 a2, .int .i64 a3, .int .i64 a4, .int .i64 a5, .int .i64 a6, .int .i64 a7, .int .i64 s, .int .i64 g, .int .i64 ts, .int .i64 tg, .int .i64 k, .int .i64 n] 74)
  have hO := h.ok
  have h0 := Sep.fresh (own_W _ _ _) (own_Z _ _ _ _) h hb0 w.heap.size (Nat.le_refl _) (by omega)
  have hg0 : Went Lo Z w w0 := ⟨hb0.mono h.lo, (pz_below h hb0).2.2⟩
  have q0 := blk_cell hz0 0
  have q1 := blk_cell hz0 1
  have q2 := blk_cell hz0 2
  have q3 := blk_cell hz0 3
  have q4 := blk_cell hz0 4
  have q5 := blk_cell hz0 5
  have q6 := blk_cell hz0 6
  have q7 := blk_cell hz0 7
  have q8 := blk_cell hz0 8
  have q9 := blk_cell hz0 9
  have q10 := blk_cell hz0 10
  have q11 := blk_cell hz0 11
  have q12 := blk_cell hz0 12
  have q13 := blk_cell hz0 13
  have q14 := blk_cell hz0 14
  have q15 := blk_cell hz0 15
  simp only [List.getElem?_toArray, List.getElem?_cons_zero, List.getElem?_cons_succ] at q0 q1 q2 q3 q4 q5 q6 q7 q8 q9 q10 q11 q12 q13 q14 q15
  have ql := blk_lt hz0
  have HP := Lib.hid h0; have Hz0 := Lib.hid hz0; have Hs0 := Lib.hid hs0; have HO := Lib.hid hO; have Hg0 := Lib.hid hg0
  clear h0 hz0 hs0 hO hg0
  clear h hb0
  go_enter Try.func33, Try.ntmps33
  go_wp2_with fail
  clear hw0
  have H1 := Lib.hid (pz_wspawn HP.out K a0 a1 a2 a3 a4 a5 a6 a7)
  go_wp2_with fail
  refine H1.out.mono ?_
  rintro e w1 ⟨rfl, h1, hb1, hk1⟩
  have hz1 := hk1 _ (by simp) _ Hz0.out
  generalize hS : spawnS sl (K, a0, a1, a2, a3, a4, a5, a6, a7) = sl1 at *
  generalize hL : spawnL sl L (K, a0, a1, a2, a3, a4, a5, a6, a7) = L1 at *
  generalize hsh : (spawnH sl (K, a0, a1, a2, a3, a4, a5, a6, a7)).1 = sh at *
  generalize hgh : (spawnH sl (K, a0, a1, a2, a3, a4, a5, a6, a7)).2 = gh at *
  generalize hee : spawnE sl (K, a0, a1, a2, a3, a4, a5, a6, a7) = ee at *
  obtain ⟨w2, hw2⟩ : ∃ w2, w1.alloc (.cells #[.int .i64 sh, .int .i64 gh] 45) = w2 := ⟨_, rfl⟩
  have hb2 : Below w1.heap.size w1 w2 := by rw [← hw2]; exact (Below.refl _ _).alloc (Nat.le_refl _) _
  have hy2 : w2.heap[w1.heap.size]? = some (.cells #[.int .i64 sh, .int .i64 gh] 45 (0, 0)) := by rw [← hw2]; exact heap_alloc_new w1 _
  have h2 := Sep.fresh (own_W _ _ _) (own_Z _ _ _ _) h1 hb2 w1.heap.size (Nat.le_refl _) (blk_lt hy2)
  have hz2 := (Mod.ofBelow hb2).keep hz1 (by simp)
  have hg2 : Went Lo Z w w2 := Hg0.out.trans ((Went.more ⟨hb1, hk1⟩).trans (Went.more ⟨(pz_below h1 hb2).2.1, (pz_below h1 hb2).2.2⟩))
  have h3 := pz_zspawn h2 HO.out K a0 a1 a2 a3 a4 a5 a6 a7
  rw [hS, hL, hsh, hgh, hee] at h3
  have H3 := Lib.hid h3
  clear q0 q1 q2 q3 q4 q5 q6 q7 q8 q9 q10 q11 q12 q13 q14 q15 ql
  have q0 := blk_cell hz2 0
  have q1 := blk_cell hz2 1
  have q2 := blk_cell hz2 2
  have q3 := blk_cell hz2 3
  have q4 := blk_cell hz2 4
  have q5 := blk_cell hz2 5
  have q6 := blk_cell hz2 6
  have q7 := blk_cell hz2 7
  have q8 := blk_cell hz2 8
  have q9 := blk_cell hz2 9
  have q10 := blk_cell hz2 10
  have q11 := blk_cell hz2 11
  have q12 := blk_cell hz2 12
  have q13 := blk_cell hz2 13
  have q14 := blk_cell hz2 14
  have q15 := blk_cell hz2 15
  simp only [List.getElem?_toArray, List.getElem?_cons_zero, List.getElem?_cons_succ] at q0 q1 q2 q3 q4 q5 q6 q7 q8 q9 q10 q11 q12 q13 q14 q15
  have ql := blk_lt hz2
  have Hy2 := Lib.hid hy2; have Hg2 := Lib.hid hg2; have HS := Lib.hid hS; have HL := Lib.hid hL; have HSH := Lib.hid hsh; have HGH := Lib.hid hgh; have HEE := Lib.hid hee
  clear hy2 hg2 hS hL hsh hgh hee
  clear hz1 hz2 h1 hb1 hk1 hb2 h2 h3
  go_wp2_with fail
  refine H3.out.mono ?_
  rintro e w3 ⟨rfl, h3, hb3, hk3⟩
  obtain ⟨w4, hw4⟩ : ∃ w4, w3.alloc (.cells #[.int .i64 sh, .int .i64 gh] 45) = w4 := ⟨_, rfl⟩
  have hb4 : Below w3.heap.size w3 w4 := by rw [← hw4]; exact (Below.refl _ _).alloc (Nat.le_refl _) _
  have hu4 : w4.heap[w3.heap.size]? = some (.cells #[.int .i64 sh, .int .i64 gh] 45 (0, 0)) := by rw [← hw4]; exact heap_alloc_new w3 _
  have hy4 := (Mod.ofBelow hb4).keep (hk3 _ (by simp) _ Hy2.out) (by simp)
  have hp4 := pz_below h3 hb4
  have hg4 : Went Lo Z w w4 := Hg2.out.trans ((Went.more (Went.more ⟨hb3, hk3⟩)).trans (Went.more (Went.more ⟨hp4.2.1, hp4.2.2⟩)))
  have hF := hp4.1.drop (Y := Z) (fun y hy => List.mem_cons_of_mem _ (List.mem_cons_of_mem _ hy))
  have hcmp : ∀ w, (binOp .eql 45 (.agg #[.int .i64 sh, .int .i64 gh]) (.agg #[.int .i64 sh, .int .i64 gh])).run Try.prog w = .ok (.bool true) w := fun w => by rw [eqlHandle, eqB_self]
  clear q0 q1 q2 q3 q4 q5 q6 q7 q8 q9 q10 q11 q12 q13 q14 q15 ql
  have y0 := blk_cell hy4 0
  have y1 := blk_cell hy4 1
  simp only [List.getElem?_toArray, List.getElem?_cons_zero, List.getElem?_cons_succ] at y0 y1
  have yl := blk_lt hy4
  have u0 := blk_cell hu4 0
  have u1 := blk_cell hu4 1
  simp only [List.getElem?_toArray, List.getElem?_cons_zero, List.getElem?_cons_succ] at u0 u1
  have ul := blk_lt hu4
  have Hg4 := Lib.hid hg4; have HF := Lib.hid hF
  clear hg4 hF
  clear hy4 hu4 hp4 h3 hb3 hk3 hb4
  go_wp2
  go_ret
  exact ⟨rfl, ⟨_, _, HF.out⟩, Hg4.out.b, Hg4.out.k⟩

set_option maxRecDepth 20000 in
set_option maxHeartbeats 4000000 in
theorem did_kill (h : PZ vB Lo Z p q sl L sl L w) (K a0 a1 a2 a3 a4 a5 a6 a7 s g ts tg k n : Int) : Calls Try.prog 33 #[.pointer (some ⟨p, 0, none⟩), .pointer (some ⟨q, 0, none⟩), .agg #[.int .i64 2, .int .i64 K, .int .i64 a0, .int .i64 a1, .int .i64 a2, .int .i64 a3, .int .i64 a4, .int .i64 a5, .int .i64 a6, .int .i64 a7, .int .i64 s, .int .i64 g, .int .i64 ts, .int .i64 tg, .int .i64 k, .int .i64 n]] w (DidPost vB Lo Z p q w) := by
  obtain ⟨w0, hw0, hb0, hz0, hs0⟩ := box1 w (.cells #[.int .i64 2, .int .i64 K, .int .i64 a0, .int .i64 a1, .int .i64 a2, .int .i64 a3, .int .i64 a4, .int .i64 a5, .int .i64 a6, .int .i64 a7, .int .i64 s, .int .i64 g, .int .i64 ts, .int .i64 tg, .int .i64 k, .int .i64 n] 74)
  have hO := h.ok
  have h0 := Sep.fresh (own_W _ _ _) (own_Z _ _ _ _) h hb0 w.heap.size (Nat.le_refl _) (by omega)
  have hg0 : Went Lo Z w w0 := ⟨hb0.mono h.lo, (pz_below h hb0).2.2⟩
  have q0 := blk_cell hz0 0
  have q1 := blk_cell hz0 1
  have q2 := blk_cell hz0 2
  have q3 := blk_cell hz0 3
  have q4 := blk_cell hz0 4
  have q5 := blk_cell hz0 5
  have q6 := blk_cell hz0 6
  have q7 := blk_cell hz0 7
  have q8 := blk_cell hz0 8
  have q9 := blk_cell hz0 9
  have q10 := blk_cell hz0 10
  have q11 := blk_cell hz0 11
  have q12 := blk_cell hz0 12
  have q13 := blk_cell hz0 13
  have q14 := blk_cell hz0 14
  have q15 := blk_cell hz0 15
  simp only [List.getElem?_toArray, List.getElem?_cons_zero, List.getElem?_cons_succ] at q0 q1 q2 q3 q4 q5 q6 q7 q8 q9 q10 q11 q12 q13 q14 q15
  have ql := blk_lt hz0
  have HP := Lib.hid h0; have Hz0 := Lib.hid hz0; have Hs0 := Lib.hid hs0; have HO := Lib.hid hO; have Hg0 := Lib.hid hg0
  clear h0 hz0 hs0 hO hg0
  clear h hb0
  go_enter Try.func33, Try.ntmps33
  go_wp2_with fail
  clear hw0
  clear q0 q1 q2 q3 q4 q5 q6 q7 q8 q9 q10 q11 q12 q13 q14 q15 ql
  refine wp_planK [] 7 [0, 4] [some 39, some 40, some 41, some 42, some 43, some 44, some 45, some 46, some 47, some 6] [[], [], [1], [0, 1, 2], [], [], [5], [0, 1, 2, 3, 4, 5, 6], [0, 1, 2, 3, 4, 5, 6, 7], [0, 1, 2, 3, 4, 5, 6, 7, 8]] [0, 1, 2, 3, 4, 5, 6] (fun Lf σ V => ITwo 3 Lo (w.heap.size :: Z) w0 (PZ vB Lo (w.heap.size :: Z) p q sl L sl L) (PZ vB Lo (w.heap.size :: Z) p q (freeL sl s g) (killL L (s, g)) sl L) Lf σ V) mixed rfl (by kernel_rfl) (by decide) (by decide) (by decide) (ITwo.start (pz_below HP.out below_drew).1 (pz_below HP.out below_drew).2.1 (pz_below HP.out below_drew).2.2) rfl ?_
  iterate 7 apply Exists.intro
  refine ⟨rfl, ?_, ?_⟩
  · simp only [List.take_succ_cons, List.take_zero, AllFrom.cons_eq, AllFrom.nil_eq, OpGoalK]
    refine ⟨?_, ?_, ?_, ?_, ?_, ?_, ?_, trivial⟩
    all_goals (intro L' σ V h1 h2 h3 hI hp; have HA1 := Lib.hid h1; have HA2 := Lib.hid h2; have HA3 := Lib.hid h3; clear h1 h2 h3; (try simp only [List.getD_cons_zero, List.getD_cons_succ, preK_cons, preK_nil] at hp); (try simp only [List.mem_cons, List.not_mem_nil, or_false, eq_self, Nat.reduceEqDiff, Nat.reduceAdd, Nat.zero_add, false_or, true_or, true_and, and_true] at hp); (first | (have hq : True := hp; clear hq hp) | skip); have HI := Lib.hid hI; clear hI)
    all_goals (
      have hzV := HI.out.k _ (by simp) _ Hz0.out
      have q0 := blk_cell hzV 0
      have q1 := blk_cell hzV 1
      have q2 := blk_cell hzV 2
      have q3 := blk_cell hzV 3
      have q4 := blk_cell hzV 4
      have q5 := blk_cell hzV 5
      have q6 := blk_cell hzV 6
      have q7 := blk_cell hzV 7
      have q8 := blk_cell hzV 8
      have q9 := blk_cell hzV 9
      have q10 := blk_cell hzV 10
      have q11 := blk_cell hzV 11
      have q12 := blk_cell hzV 12
      have q13 := blk_cell hzV 13
      have q14 := blk_cell hzV 14
      have q15 := blk_cell hzV 15
      simp only [List.getElem?_toArray, List.getElem?_cons_zero, List.getElem?_cons_succ] at q0 q1 q2 q3 q4 q5 q6 q7 q8 q9 q10 q11 q12 q13 q14 q15
      have ql := blk_lt hzV
      clear hzV)
    · (go_simp; exact ⟨.inr rfl, HI.out.read (by decide) _⟩)
    · (go_simp; exact ⟨.inr rfl, HI.out.read (by decide) _⟩)
    · (go_simp; exact ⟨.inr rfl, HI.out.read (by decide) _⟩)
    · go_simp
      refine ((pz_wkill (HI.out.s0 (HA1.out)) s g)).mono ?_
      rintro e V' ⟨rfl, h1, hb, hk⟩
      exact ⟨_, rfl, .inr rfl, HI.out.turn h1 hb hk _⟩
    · (go_simp; exact ⟨.inr rfl, HI.out.read (by decide) _⟩)
    · (go_simp; exact ⟨.inr rfl, HI.out.read (by decide) _⟩)
    · (go_simp; exact ⟨.inr rfl, HI.out.read (by decide) _⟩)
  · intro L' σ V h1 hI hp
    have hs := hI.s1 (h1 3 (by decide))
    have hgV : Went Lo Z w V := Hg0.out.trans (Went.more ⟨hI.b, hI.k⟩)
    have hzV := hI.k _ (by simp) _ Hz0.out
    clear h1 hI
    simp only [preK_cons, preK_nil, List.getD_cons_zero, List.getD_cons_succ] at hp; simp only [List.mem_cons, List.not_mem_nil, or_false, eq_self, Nat.reduceEqDiff, false_or, true_or, true_and, and_true] at hp
    have q0 := blk_cell hzV 0
    have q1 := blk_cell hzV 1
    have q2 := blk_cell hzV 2
    have q3 := blk_cell hzV 3
    have q4 := blk_cell hzV 4
    have q5 := blk_cell hzV 5
    have q6 := blk_cell hzV 6
    have q7 := blk_cell hzV 7
    have q8 := blk_cell hzV 8
    have q9 := blk_cell hzV 9
    have q10 := blk_cell hzV 10
    have q11 := blk_cell hzV 11
    have q12 := blk_cell hzV 12
    have q13 := blk_cell hzV 13
    have q14 := blk_cell hzV 14
    have q15 := blk_cell hzV 15
    simp only [List.getElem?_toArray, List.getElem?_cons_zero, List.getElem?_cons_succ] at q0 q1 q2 q3 q4 q5 q6 q7 q8 q9 q10 q11 q12 q13 q14 q15
    have ql := blk_lt hzV
    have H2 := Lib.hid (pz_zkill hs HO.out s g)
    have HgV := Lib.hid hgV
    clear hgV
    clear hs hzV
    simp only [List.drop_succ_cons, List.drop_zero]
    go_simp
    clear hp
    go_wp2_with fail
    refine H2.out.mono ?_
    rintro e w2 ⟨rfl, h2, hb2, hk2⟩
    have hF := h2.drop (Y := Z) (fun y hy => List.mem_cons_of_mem _ hy)
    have hg2 : Went Lo Z w w2 := HgV.out.trans (Went.more ⟨hb2, hk2⟩)
    have HF := Lib.hid hF; have Hg2 := Lib.hid hg2
    clear hF hg2
    clear h2 hb2 hk2
    go_wp2_with fail
    refine ⟨rfl, ?_⟩
    go_wp2
    go_ret
    exact ⟨rfl, ⟨_, _, HF.out⟩, Hg2.out.b, Hg2.out.k⟩

set_option maxRecDepth 20000 in
set_option maxHeartbeats 4000000 in
theorem did_put (h : PZ vB Lo Z p q sl L sl L w) (K a0 a1 a2 a3 a4 a5 a6 a7 s g ts tg k n : Int) : Calls Try.prog 33 #[.pointer (some ⟨p, 0, none⟩), .pointer (some ⟨q, 0, none⟩), .agg #[.int .i64 3, .int .i64 K, .int .i64 a0, .int .i64 a1, .int .i64 a2, .int .i64 a3, .int .i64 a4, .int .i64 a5, .int .i64 a6, .int .i64 a7, .int .i64 s, .int .i64 g, .int .i64 ts, .int .i64 tg, .int .i64 k, .int .i64 n]] w (DidPost vB Lo Z p q w) := by
  obtain ⟨w0, hw0, hb0, hz0, hs0⟩ := box1 w (.cells #[.int .i64 3, .int .i64 K, .int .i64 a0, .int .i64 a1, .int .i64 a2, .int .i64 a3, .int .i64 a4, .int .i64 a5, .int .i64 a6, .int .i64 a7, .int .i64 s, .int .i64 g, .int .i64 ts, .int .i64 tg, .int .i64 k, .int .i64 n] 74)
  have hO := h.ok
  have h0 := Sep.fresh (own_W _ _ _) (own_Z _ _ _ _) h hb0 w.heap.size (Nat.le_refl _) (by omega)
  have hg0 : Went Lo Z w w0 := ⟨hb0.mono h.lo, (pz_below h hb0).2.2⟩
  have q0 := blk_cell hz0 0
  have q1 := blk_cell hz0 1
  have q2 := blk_cell hz0 2
  have q3 := blk_cell hz0 3
  have q4 := blk_cell hz0 4
  have q5 := blk_cell hz0 5
  have q6 := blk_cell hz0 6
  have q7 := blk_cell hz0 7
  have q8 := blk_cell hz0 8
  have q9 := blk_cell hz0 9
  have q10 := blk_cell hz0 10
  have q11 := blk_cell hz0 11
  have q12 := blk_cell hz0 12
  have q13 := blk_cell hz0 13
  have q14 := blk_cell hz0 14
  have q15 := blk_cell hz0 15
  simp only [List.getElem?_toArray, List.getElem?_cons_zero, List.getElem?_cons_succ] at q0 q1 q2 q3 q4 q5 q6 q7 q8 q9 q10 q11 q12 q13 q14 q15
  have ql := blk_lt hz0
  have HP := Lib.hid h0; have Hz0 := Lib.hid hz0; have Hs0 := Lib.hid hs0; have HO := Lib.hid hO; have Hg0 := Lib.hid hg0
  clear h0 hz0 hs0 hO hg0
  clear h hb0
  go_enter Try.func33, Try.ntmps33
  go_wp2_with fail
  clear hw0
  clear q0 q1 q2 q3 q4 q5 q6 q7 q8 q9 q10 q11 q12 q13 q14 q15 ql
  refine wp_planK [] 15 [0, 8] [some 50, some 51, some 52, some 53, some 54, some 55, some 56, some 57, some 58, some 59, some 60, some 61, some 62, some 63, some 64, some 65, some 66, some 6] [[], [], [1], [], [3], [], [5], [0, 1, 2, 3, 4, 5, 6], [], [], [9], [], [11], [], [13], [0, 1, 2, 3, 4, 5, 6, 7, 8, 9, 10, 11, 12, 13, 14], [0, 1, 2, 3, 4, 5, 6, 7, 8, 9, 10, 11, 12, 13, 14, 15], [0, 1, 2, 3, 4, 5, 6, 7, 8, 9, 10, 11, 12, 13, 14, 15, 16]] [0, 1, 2, 3, 4, 5, 6, 7, 8, 9, 10, 11, 12, 13, 14] (fun Lf σ V => ITwo 7 Lo (w.heap.size :: Z) w0 (PZ vB Lo (w.heap.size :: Z) p q sl L sl L) (PZ vB Lo (w.heap.size :: Z) p q sl (putW L (s, g) k n) sl L) Lf σ V) mixed rfl (by kernel_rfl) (by decide) (by decide) (by decide) (ITwo.start (pz_below HP.out below_drew).1 (pz_below HP.out below_drew).2.1 (pz_below HP.out below_drew).2.2) rfl ?_
  iterate 15 apply Exists.intro
  refine ⟨rfl, ?_, ?_⟩
  · simp only [List.take_succ_cons, List.take_zero, AllFrom.cons_eq, AllFrom.nil_eq, OpGoalK]
    refine ⟨?_, ?_, ?_, ?_, ?_, ?_, ?_, ?_, ?_, ?_, ?_, ?_, ?_, ?_, ?_, trivial⟩
    all_goals (intro L' σ V h1 h2 h3 hI hp; have HA1 := Lib.hid h1; have HA2 := Lib.hid h2; have HA3 := Lib.hid h3; clear h1 h2 h3; (try simp only [List.getD_cons_zero, List.getD_cons_succ, preK_cons, preK_nil] at hp); (try simp only [List.mem_cons, List.not_mem_nil, or_false, eq_self, Nat.reduceEqDiff, Nat.reduceAdd, Nat.zero_add, false_or, true_or, true_and, and_true] at hp); (first | (have hq : True := hp; clear hq hp) | skip); have HI := Lib.hid hI; clear hI)
    all_goals (
      have hzV := HI.out.k _ (by simp) _ Hz0.out
      have q0 := blk_cell hzV 0
      have q1 := blk_cell hzV 1
      have q2 := blk_cell hzV 2
      have q3 := blk_cell hzV 3
      have q4 := blk_cell hzV 4
      have q5 := blk_cell hzV 5
      have q6 := blk_cell hzV 6
      have q7 := blk_cell hzV 7
      have q8 := blk_cell hzV 8
      have q9 := blk_cell hzV 9
      have q10 := blk_cell hzV 10
      have q11 := blk_cell hzV 11
      have q12 := blk_cell hzV 12
      have q13 := blk_cell hzV 13
      have q14 := blk_cell hzV 14
      have q15 := blk_cell hzV 15
      simp only [List.getElem?_toArray, List.getElem?_cons_zero, List.getElem?_cons_succ] at q0 q1 q2 q3 q4 q5 q6 q7 q8 q9 q10 q11 q12 q13 q14 q15
      have ql := blk_lt hzV
      clear hzV)
    · (go_simp; exact ⟨.inr rfl, HI.out.read (by decide) _⟩)
    · (go_simp; exact ⟨.inr rfl, HI.out.read (by decide) _⟩)
    · (go_simp; exact ⟨.inr rfl, HI.out.read (by decide) _⟩)
    · (go_simp; exact ⟨.inr rfl, HI.out.read (by decide) _⟩)
    · (go_simp; exact ⟨.inr rfl, HI.out.read (by decide) _⟩)
    · (go_simp; exact ⟨.inr rfl, HI.out.read (by decide) _⟩)
    · (go_simp; exact ⟨.inr rfl, HI.out.read (by decide) _⟩)
    · go_simp
      refine ((pz_wput (HI.out.s0 (HA1.out)) s g k n)).mono ?_
      rintro e V' ⟨rfl, h1, hb, hk⟩
      exact ⟨_, rfl, .inr rfl, HI.out.turn h1 hb hk _⟩
    · (go_simp; exact ⟨.inr rfl, HI.out.read (by decide) _⟩)
    · (go_simp; exact ⟨.inr rfl, HI.out.read (by decide) _⟩)
    · (go_simp; exact ⟨.inr rfl, HI.out.read (by decide) _⟩)
    · (go_simp; exact ⟨.inr rfl, HI.out.read (by decide) _⟩)
    · (go_simp; exact ⟨.inr rfl, HI.out.read (by decide) _⟩)
    · (go_simp; exact ⟨.inr rfl, HI.out.read (by decide) _⟩)
    · (go_simp; exact ⟨.inr rfl, HI.out.read (by decide) _⟩)
  · intro L' σ V h1 hI hp
    have hs := hI.s1 (h1 7 (by decide))
    have hgV : Went Lo Z w V := Hg0.out.trans (Went.more ⟨hI.b, hI.k⟩)
    have hzV := hI.k _ (by simp) _ Hz0.out
    clear h1 hI
    simp only [preK_cons, preK_nil, List.getD_cons_zero, List.getD_cons_succ] at hp; simp only [List.mem_cons, List.not_mem_nil, or_false, eq_self, Nat.reduceEqDiff, false_or, true_or, true_and, and_true] at hp
    have q0 := blk_cell hzV 0
    have q1 := blk_cell hzV 1
    have q2 := blk_cell hzV 2
    have q3 := blk_cell hzV 3
    have q4 := blk_cell hzV 4
    have q5 := blk_cell hzV 5
    have q6 := blk_cell hzV 6
    have q7 := blk_cell hzV 7
    have q8 := blk_cell hzV 8
    have q9 := blk_cell hzV 9
    have q10 := blk_cell hzV 10
    have q11 := blk_cell hzV 11
    have q12 := blk_cell hzV 12
    have q13 := blk_cell hzV 13
    have q14 := blk_cell hzV 14
    have q15 := blk_cell hzV 15
    simp only [List.getElem?_toArray, List.getElem?_cons_zero, List.getElem?_cons_succ] at q0 q1 q2 q3 q4 q5 q6 q7 q8 q9 q10 q11 q12 q13 q14 q15
    have ql := blk_lt hzV
    have H2 := Lib.hid (pz_zput hs HO.out s g k n)
    have HgV := Lib.hid hgV
    clear hgV
    clear hs hzV
    simp only [List.drop_succ_cons, List.drop_zero]
    go_simp
    clear hp
    go_wp2_with fail
    refine H2.out.mono ?_
    rintro e w2 ⟨rfl, h2, hb2, hk2⟩
    have hF := h2.drop (Y := Z) (fun y hy => List.mem_cons_of_mem _ hy)
    have hg2 : Went Lo Z w w2 := HgV.out.trans (Went.more ⟨hb2, hk2⟩)
    have HF := Lib.hid hF; have Hg2 := Lib.hid hg2
    clear hF hg2
    clear h2 hb2 hk2
    go_wp2_with fail
    refine ⟨rfl, ?_⟩
    go_wp2
    go_ret
    exact ⟨rfl, ⟨_, _, HF.out⟩, Hg2.out.b, Hg2.out.k⟩

set_option maxRecDepth 20000 in
set_option maxHeartbeats 4000000 in
theorem did_drop (h : PZ vB Lo Z p q sl L sl L w) (K a0 a1 a2 a3 a4 a5 a6 a7 s g ts tg k n : Int) : Calls Try.prog 33 #[.pointer (some ⟨p, 0, none⟩), .pointer (some ⟨q, 0, none⟩), .agg #[.int .i64 4, .int .i64 K, .int .i64 a0, .int .i64 a1, .int .i64 a2, .int .i64 a3, .int .i64 a4, .int .i64 a5, .int .i64 a6, .int .i64 a7, .int .i64 s, .int .i64 g, .int .i64 ts, .int .i64 tg, .int .i64 k, .int .i64 n]] w (DidPost vB Lo Z p q w) := by
  obtain ⟨w0, hw0, hb0, hz0, hs0⟩ := box1 w (.cells #[.int .i64 4, .int .i64 K, .int .i64 a0, .int .i64 a1, .int .i64 a2, .int .i64 a3, .int .i64 a4, .int .i64 a5, .int .i64 a6, .int .i64 a7, .int .i64 s, .int .i64 g, .int .i64 ts, .int .i64 tg, .int .i64 k, .int .i64 n] 74)
  have hO := h.ok
  have h0 := Sep.fresh (own_W _ _ _) (own_Z _ _ _ _) h hb0 w.heap.size (Nat.le_refl _) (by omega)
  have hg0 : Went Lo Z w w0 := ⟨hb0.mono h.lo, (pz_below h hb0).2.2⟩
  have q0 := blk_cell hz0 0
  have q1 := blk_cell hz0 1
  have q2 := blk_cell hz0 2
  have q3 := blk_cell hz0 3
  have q4 := blk_cell hz0 4
  have q5 := blk_cell hz0 5
  have q6 := blk_cell hz0 6
  have q7 := blk_cell hz0 7
  have q8 := blk_cell hz0 8
  have q9 := blk_cell hz0 9
  have q10 := blk_cell hz0 10
  have q11 := blk_cell hz0 11
  have q12 := blk_cell hz0 12
  have q13 := blk_cell hz0 13
  have q14 := blk_cell hz0 14
  have q15 := blk_cell hz0 15
  simp only [List.getElem?_toArray, List.getElem?_cons_zero, List.getElem?_cons_succ] at q0 q1 q2 q3 q4 q5 q6 q7 q8 q9 q10 q11 q12 q13 q14 q15
  have ql := blk_lt hz0
  have HP := Lib.hid h0; have Hz0 := Lib.hid hz0; have Hs0 := Lib.hid hs0; have HO := Lib.hid hO; have Hg0 := Lib.hid hg0
  clear h0 hz0 hs0 hO hg0
  clear h hb0
  go_enter Try.func33, Try.ntmps33
  go_wp2_with fail
  clear hw0
  clear q0 q1 q2 q3 q4 q5 q6 q7 q8 q9 q10 q11 q12 q13 q14 q15 ql
  refine wp_planK [] 11 [0, 6] [some 69, some 70, some 71, some 72, some 73, some 74, some 75, some 76, some 77, some 78, some 79, some 80, some 81, some 6] [[], [], [1], [], [3], [0, 1, 2, 3, 4], [], [], [7], [], [9], [0, 1, 2, 3, 4, 5, 6, 7, 8, 9, 10], [0, 1, 2, 3, 4, 5, 6, 7, 8, 9, 10, 11], [0, 1, 2, 3, 4, 5, 6, 7, 8, 9, 10, 11, 12]] [0, 1, 2, 3, 4, 5, 6, 7, 8, 9, 10] (fun Lf σ V => ITwo 5 Lo (w.heap.size :: Z) w0 (PZ vB Lo (w.heap.size :: Z) p q sl L sl L) (PZ vB Lo (w.heap.size :: Z) p q sl (dropL L (s, g) k) sl L) Lf σ V) mixed rfl (by kernel_rfl) (by decide) (by decide) (by decide) (ITwo.start (pz_below HP.out below_drew).1 (pz_below HP.out below_drew).2.1 (pz_below HP.out below_drew).2.2) rfl ?_
  iterate 11 apply Exists.intro
  refine ⟨rfl, ?_, ?_⟩
  · simp only [List.take_succ_cons, List.take_zero, AllFrom.cons_eq, AllFrom.nil_eq, OpGoalK]
    refine ⟨?_, ?_, ?_, ?_, ?_, ?_, ?_, ?_, ?_, ?_, ?_, trivial⟩
    all_goals (intro L' σ V h1 h2 h3 hI hp; have HA1 := Lib.hid h1; have HA2 := Lib.hid h2; have HA3 := Lib.hid h3; clear h1 h2 h3; (try simp only [List.getD_cons_zero, List.getD_cons_succ, preK_cons, preK_nil] at hp); (try simp only [List.mem_cons, List.not_mem_nil, or_false, eq_self, Nat.reduceEqDiff, Nat.reduceAdd, Nat.zero_add, false_or, true_or, true_and, and_true] at hp); (first | (have hq : True := hp; clear hq hp) | skip); have HI := Lib.hid hI; clear hI)
    all_goals (
      have hzV := HI.out.k _ (by simp) _ Hz0.out
      have q0 := blk_cell hzV 0
      have q1 := blk_cell hzV 1
      have q2 := blk_cell hzV 2
      have q3 := blk_cell hzV 3
      have q4 := blk_cell hzV 4
      have q5 := blk_cell hzV 5
      have q6 := blk_cell hzV 6
      have q7 := blk_cell hzV 7
      have q8 := blk_cell hzV 8
      have q9 := blk_cell hzV 9
      have q10 := blk_cell hzV 10
      have q11 := blk_cell hzV 11
      have q12 := blk_cell hzV 12
      have q13 := blk_cell hzV 13
      have q14 := blk_cell hzV 14
      have q15 := blk_cell hzV 15
      simp only [List.getElem?_toArray, List.getElem?_cons_zero, List.getElem?_cons_succ] at q0 q1 q2 q3 q4 q5 q6 q7 q8 q9 q10 q11 q12 q13 q14 q15
      have ql := blk_lt hzV
      clear hzV)
    · (go_simp; exact ⟨.inr rfl, HI.out.read (by decide) _⟩)
    · (go_simp; exact ⟨.inr rfl, HI.out.read (by decide) _⟩)
    · (go_simp; exact ⟨.inr rfl, HI.out.read (by decide) _⟩)
    · (go_simp; exact ⟨.inr rfl, HI.out.read (by decide) _⟩)
    · (go_simp; exact ⟨.inr rfl, HI.out.read (by decide) _⟩)
    · go_simp
      refine ((pz_wdrop (HI.out.s0 (HA1.out)) s g k)).mono ?_
      rintro e V' ⟨rfl, h1, hb, hk⟩
      exact ⟨_, rfl, .inr rfl, HI.out.turn h1 hb hk _⟩
    · (go_simp; exact ⟨.inr rfl, HI.out.read (by decide) _⟩)
    · (go_simp; exact ⟨.inr rfl, HI.out.read (by decide) _⟩)
    · (go_simp; exact ⟨.inr rfl, HI.out.read (by decide) _⟩)
    · (go_simp; exact ⟨.inr rfl, HI.out.read (by decide) _⟩)
    · (go_simp; exact ⟨.inr rfl, HI.out.read (by decide) _⟩)
  · intro L' σ V h1 hI hp
    have hs := hI.s1 (h1 5 (by decide))
    have hgV : Went Lo Z w V := Hg0.out.trans (Went.more ⟨hI.b, hI.k⟩)
    have hzV := hI.k _ (by simp) _ Hz0.out
    clear h1 hI
    simp only [preK_cons, preK_nil, List.getD_cons_zero, List.getD_cons_succ] at hp; simp only [List.mem_cons, List.not_mem_nil, or_false, eq_self, Nat.reduceEqDiff, false_or, true_or, true_and, and_true] at hp
    have q0 := blk_cell hzV 0
    have q1 := blk_cell hzV 1
    have q2 := blk_cell hzV 2
    have q3 := blk_cell hzV 3
    have q4 := blk_cell hzV 4
    have q5 := blk_cell hzV 5
    have q6 := blk_cell hzV 6
    have q7 := blk_cell hzV 7
    have q8 := blk_cell hzV 8
    have q9 := blk_cell hzV 9
    have q10 := blk_cell hzV 10
    have q11 := blk_cell hzV 11
    have q12 := blk_cell hzV 12
    have q13 := blk_cell hzV 13
    have q14 := blk_cell hzV 14
    have q15 := blk_cell hzV 15
    simp only [List.getElem?_toArray, List.getElem?_cons_zero, List.getElem?_cons_succ] at q0 q1 q2 q3 q4 q5 q6 q7 q8 q9 q10 q11 q12 q13 q14 q15
    have ql := blk_lt hzV
    have H2 := Lib.hid (pz_zdrop hs HO.out s g k)
    have HgV := Lib.hid hgV
    clear hgV
    clear hs hzV
    simp only [List.drop_succ_cons, List.drop_zero]
    go_simp
    clear hp
    go_wp2_with fail
    refine H2.out.mono ?_
    rintro e w2 ⟨rfl, h2, hb2, hk2⟩
    have hF := h2.drop (Y := Z) (fun y hy => List.mem_cons_of_mem _ hy)
    have hg2 : Went Lo Z w w2 := HgV.out.trans (Went.more ⟨hb2, hk2⟩)
    have HF := Lib.hid hF; have Hg2 := Lib.hid hg2
    clear hF hg2
    clear h2 hb2 hk2
    go_wp2_with fail
    refine ⟨rfl, ?_⟩
    go_wp2
    go_ret
    exact ⟨rfl, ⟨_, _, HF.out⟩, Hg2.out.b, Hg2.out.k⟩

set_option maxRecDepth 20000 in
set_option maxHeartbeats 4000000 in
theorem did_other (h : PZ vB Lo Z p q sl L sl L w) (d K a0 a1 a2 a3 a4 a5 a6 a7 s g ts tg k n : Int) (h1 : d ≠ 1) (h2 : d ≠ 2) (h3 : d ≠ 3) (h4 : d ≠ 4) : Calls Try.prog 33 #[.pointer (some ⟨p, 0, none⟩), .pointer (some ⟨q, 0, none⟩), .agg #[.int .i64 d, .int .i64 K, .int .i64 a0, .int .i64 a1, .int .i64 a2, .int .i64 a3, .int .i64 a4, .int .i64 a5, .int .i64 a6, .int .i64 a7, .int .i64 s, .int .i64 g, .int .i64 ts, .int .i64 tg, .int .i64 k, .int .i64 n]] w (DidPost vB Lo Z p q w) := by
  have e1 : (d == 1) = false := by simpa using h1
  have e2 : (d == 2) = false := by simpa using h2
  have e3 : (d == 3) = false := by simpa using h3
  have e4 : (d == 4) = false := by simpa using h4
  clear h1 h2 h3 h4
  obtain ⟨w0, hw0, hb0, hz0, hs0⟩ := box1 w (.cells #[.int .i64 d, .int .i64 K, .int .i64 a0, .int .i64 a1, .int .i64 a2, .int .i64 a3, .int .i64 a4, .int .i64 a5, .int .i64 a6, .int .i64 a7, .int .i64 s, .int .i64 g, .int .i64 ts, .int .i64 tg, .int .i64 k, .int .i64 n] 74)
  have hO := h.ok
  have h0 := Sep.fresh (own_W _ _ _) (own_Z _ _ _ _) h hb0 w.heap.size (Nat.le_refl _) (by omega)
  have hg0 : Went Lo Z w w0 := ⟨hb0.mono h.lo, (pz_below h hb0).2.2⟩
  have q0 := blk_cell hz0 0
  have q1 := blk_cell hz0 1
  have q2 := blk_cell hz0 2
  have q3 := blk_cell hz0 3
  have q4 := blk_cell hz0 4
  have q5 := blk_cell hz0 5
  have q6 := blk_cell hz0 6
  have q7 := blk_cell hz0 7
  have q8 := blk_cell hz0 8
  have q9 := blk_cell hz0 9
  have q10 := blk_cell hz0 10
  have q11 := blk_cell hz0 11
  have q12 := blk_cell hz0 12
  have q13 := blk_cell hz0 13
  have q14 := blk_cell hz0 14
  have q15 := blk_cell hz0 15
  simp only [List.getElem?_toArray, List.getElem?_cons_zero, List.getElem?_cons_succ] at q0 q1 q2 q3 q4 q5 q6 q7 q8 q9 q10 q11 q12 q13 q14 q15
  have ql := blk_lt hz0
  have HP := Lib.hid h0; have Hz0 := Lib.hid hz0; have Hs0 := Lib.hid hs0; have HO := Lib.hid hO; have Hg0 := Lib.hid hg0
  clear h0 hz0 hs0 hO hg0
  clear h hb0
  go_enter Try.func33, Try.ntmps33
  go_wp2_with fail
  clear hw0
  have hF := HP.out.drop (Y := Z) (fun y hy => List.mem_cons_of_mem _ hy)
  have HF := Lib.hid hF
  clear hF
  go_wp2
  go_ret
  exact ⟨rfl, ⟨_, _, HF.out⟩, Hg0.out.b, Hg0.out.k⟩
theorem did_any (h : PZ vB Lo Z p q sl L sl L w) (d K a0 a1 a2 a3 a4 a5 a6 a7 s g ts tg k n : Int) : Calls Try.prog 33 #[.pointer (some ⟨p, 0, none⟩), .pointer (some ⟨q, 0, none⟩), .agg #[.int .i64 d, .int .i64 K, .int .i64 a0, .int .i64 a1, .int .i64 a2, .int .i64 a3, .int .i64 a4, .int .i64 a5, .int .i64 a6, .int .i64 a7, .int .i64 s, .int .i64 g, .int .i64 ts, .int .i64 tg, .int .i64 k, .int .i64 n]] w (DidPost vB Lo Z p q w) := by
  by_cases h1 : d = 1
  · subst h1; exact did_spawn h K a0 a1 a2 a3 a4 a5 a6 a7 s g ts tg k n
  · by_cases h2 : d = 2
    · subst h2; exact did_kill h K a0 a1 a2 a3 a4 a5 a6 a7 s g ts tg k n
    · by_cases h3 : d = 3
      · subst h3; exact did_put h K a0 a1 a2 a3 a4 a5 a6 a7 s g ts tg k n
      · by_cases h4 : d = 4
        · subst h4; exact did_drop h K a0 a1 a2 a3 a4 a5 a6 a7 s g ts tg k n
        · exact did_other h d K a0 a1 a2 a3 a4 a5 a6 a7 s g ts tg k n h1 h2 h3 h4
end
end Go.Proofs.Ytkcpmoinpdojjaa
