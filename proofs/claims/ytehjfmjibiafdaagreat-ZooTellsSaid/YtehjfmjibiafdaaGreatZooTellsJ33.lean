import Derived.Test.YtehjfmjibiafdaaGreatZooTellsJ21
import Derived.Test.YtehjfmjibiafdaaGreatZooTellsJ17
import Derived.Test.YtehjfmjibiafdaaGreatZooTellsJ31
import Derived.Test.YtehjfmjibiafdaaGreatZooTellsJ32
import Derived.Test.YtehjfmjibiafdaaGreatZooTellsJ8
import Derived.DeepKeys4
import Derived.Test.YtehjfmjibiafdaaGreatZooTellsJ11
import Derived.Test.YtehjfmjibiafdaaGreatZooTellsJ10
import Derived.Test.YtehjfmjibiafdaaGreatZooTellsJ1
/- Two structures side by side: what a call on the one leaves of both. -/
namespace Go.Proofs.YtehjfmjibiafdaaGreat
open Go Go.RowKit

/-- A structure in memory with the list of its blocks. -/
structure Own (A : World → List Nat → Prop) : Prop where
  mod : ∀ {w w' : World} {F G : List Nat}, A w F → Mod G w w' → (∀ y ∈ F, y ∉ G) → A w' F
  lt : ∀ {w : World} {F : List Nat}, A w F → ∀ y ∈ F, y < w.heap.size
/-- Two structures; nothing is shared; all lies from Lo on and none of it in the blocks of Z. -/
structure SepA (Lo : Nat) (Z : List Nat) (A B : World → List Nat → Prop) (w : World) (F G : List Nat) : Prop where
  a : A w F
  b : B w G
  d : ∀ y ∈ F, y ∉ G
  af : ∀ y ∈ F, Lo ≤ y ∧ y ∉ Z
  bf : ∀ y ∈ G, Lo ≤ y ∧ y ∉ Z
  lo : Lo ≤ w.heap.size
  zl : ∀ z ∈ Z, z < w.heap.size
def Sep (Lo : Nat) (Z : List Nat) (A B : World → List Nat → Prop) (w : World) : Prop := ∃ F G, SepA Lo Z A B w F G
/-- What a call on one structure leaves. -/
def OwnPost (A' : World → List Nat → Prop) (F : List Nat) (w w' : World) : Prop := ∃ F', A' w' F' ∧ Turns w F F' w'
section
variable {Lo : Nat} {Z : List Nat} {A B A' B' : World → List Nat → Prop} {w w' : World}
theorem Sep.below (hA : Own A) (hB : Own B) (h : Sep Lo Z A B w) (hb : Below w.heap.size w w') : Sep Lo Z A B w' ∧ Below Lo w w' ∧ KeepZ Z w w' := by
  obtain ⟨F, G, ⟨a, b, d, af, bf, lo, zl⟩⟩ := h
  have hs := hb.size
  exact ⟨⟨F, G, ⟨hA.mod a (Mod.ofBelow hb) (by simp), hB.mod b (Mod.ofBelow hb) (by simp), d, af, bf, by omega, fun z hz => by have := zl z hz; omega⟩⟩, hb.mono lo, fun z hz _ ho => (Mod.ofBelow hb).keep ho (by simp)⟩
theorem SepA.left (hA : Own A') (hB : Own B) {F G : List Nat} (h : SepA Lo Z A B w F G) (hp : OwnPost A' F w w') : Sep Lo Z A' B w' ∧ Below Lo w w' ∧ KeepZ Z w w' := by
  obtain ⟨a, b, d, af, bf, lo, zl⟩ := h
  obtain ⟨F', h1, h2⟩ := hp
  have hs := h2.mod.size
  have hl := hB.lt b
  refine ⟨⟨F', G, ⟨h1, hB.mod b h2.mod (fun y hy e => d y e hy), fun y hy e => ?_, fun y hy => ?_, bf, by omega, fun z hz => by have := zl z hz; omega⟩⟩, h2.mod.toBelow (fun y hy => (af y hy).1) lo, fun z hz _ ho => h2.mod.keep ho (fun e => (af z e).2 hz)⟩
  · rcases h2.new y hy with h | h
    · exact d y h e
    · have := hl y e; omega
  · rcases h2.new y hy with h | h
    · exact af y h
    · exact ⟨by omega, fun e => by have := zl y e; omega⟩
theorem SepA.swap {F G : List Nat} (h : SepA Lo Z A B w F G) : SepA Lo Z B A w G F := by
  obtain ⟨a, b, d, af, bf, lo, zl⟩ := h
  exact ⟨b, a, fun y hy e => d y e hy, bf, af, lo, zl⟩
theorem Sep.swap (h : Sep Lo Z A B w) : Sep Lo Z B A w := by
  obtain ⟨F, G, h⟩ := h
  exact ⟨G, F, h.swap⟩
theorem SepA.right (hA : Own A) (hB : Own B') {F G : List Nat} (h : SepA Lo Z A B w F G) (hp : OwnPost B' G w w') : Sep Lo Z A B' w' ∧ Below Lo w w' ∧ KeepZ Z w w' := by
  obtain ⟨h1, h2⟩ := h.swap.left hB hA hp
  exact ⟨h1.swap, h2⟩
/-- A new block joins Z. -/
theorem Sep.fresh (hA : Own A) (hB : Own B) (h : Sep Lo Z A B w) (hb : Below w.heap.size w w') (z : Nat) (hz : w.heap.size ≤ z) (hz' : z < w'.heap.size) : Sep Lo (z :: Z) A B w' := by
  obtain ⟨F, G, ⟨a, b, d, af, bf, lo, zl⟩⟩ := h
  have hs := hb.size
  have l1 := hA.lt a
  have l2 := hB.lt b
  refine ⟨F, G, ⟨hA.mod a (Mod.ofBelow hb) (by simp), hB.mod b (Mod.ofBelow hb) (by simp), d, fun y hy => ⟨(af y hy).1, fun e => ?_⟩, fun y hy => ⟨(bf y hy).1, fun e => ?_⟩, by omega, fun x hx => ?_⟩⟩
  · rcases List.mem_cons.1 e with e | e
    · have := l1 y hy; omega
    · exact (af y hy).2 e
  · rcases List.mem_cons.1 e with e | e
    · have := l2 y hy; omega
    · exact (bf y hy).2 e
  · rcases List.mem_cons.1 hx with e | e
    · omega
    · have := zl x e; omega
/-- Blocks leave Z. -/
theorem Sep.drop (h : Sep Lo Z A B w) {Y : List Nat} (hY : ∀ y ∈ Y, y ∈ Z) : Sep Lo Y A B w := by
  obtain ⟨F, G, ⟨a, b, d, af, bf, lo, zl⟩⟩ := h
  exact ⟨F, G, ⟨a, b, d, fun y hy => ⟨(af y hy).1, fun e => (af y hy).2 (hY y e)⟩, fun y hy => ⟨(bf y hy).1, fun e => (bf y hy).2 (hY y e)⟩, lo, fun z hz => zl z (hY z hz)⟩⟩
/-- A call on the left one. -/
theorem Sep.callL {P : Program} {f : FuncId} {args : Array Value} {r : Value} (hA : Own A') (hB : Own B) (h : Sep Lo Z A B w) (hc : ∀ F, A w F → Calls P f args w (fun e w' => e = .returned r ∧ OwnPost A' F w w')) :
    Calls P f args w (fun e w' => e = .returned r ∧ Sep Lo Z A' B w' ∧ Below Lo w w' ∧ KeepZ Z w w') := by
  obtain ⟨F, G, h⟩ := h
  exact (hc F h.a).mono fun e w' ⟨he, hp⟩ => ⟨he, h.left hA hB hp⟩
theorem Sep.callR {P : Program} {f : FuncId} {args : Array Value} {r : Value} (hA : Own A) (hB : Own B') (h : Sep Lo Z A B w) (hc : ∀ G, B w G → Calls P f args w (fun e w' => e = .returned r ∧ OwnPost B' G w w')) :
    Calls P f args w (fun e w' => e = .returned r ∧ Sep Lo Z A B' w' ∧ Below Lo w w' ∧ KeepZ Z w w') := by
  obtain ⟨F, G, h⟩ := h
  exact (hc G h.b).mono fun e w' ⟨he, hp⟩ => ⟨he, h.right hA hB hp⟩
end
theorem KeepZ.trans {Z : List Nat} {a b c : World} (h : KeepZ Z a b) (k : KeepZ Z b c) : KeepZ Z a c := fun z hz o ho => k z hz o (h z hz o ho)
end Go.Proofs.YtehjfmjibiafdaaGreat

/- Worlds: the world and the reference's zoo side by side. -/
namespace Go.Proofs.YtehjfmjibiafdaaGreat
open Go Go.RowKit

def AW (p : Nat) (sl : Sl) (L : List Rw) (w : World) (F : List Nat) : Prop := RepW w p sl L F
def AZ (vB : Value) (q : Nat) (sl : Sl) (L : List Rw) (w : World) (F : List Nat) : Prop := RepZ vB w q sl L F
/-- Both hold the slots sl and the rows L (the zoo, those of sl', L' where it lags behind). -/
abbrev PZ (vB : Value) (Lo : Nat) (Z : List Nat) (p q : Nat) (sl : Sl) (L : List Rw) (sl' : Sl) (L' : List Rw) (w : World) : Prop := Sep Lo Z (AW p sl L) (AZ vB q sl' L') w
theorem PZ.ok {vB : Value} {Lo : Nat} {Z : List Nat} {p q : Nat} {sl sl' : Sl} {L L' : List Rw} {w : World} (h : PZ vB Lo Z p q sl L sl' L' w) : WOk sl L := by
  obtain ⟨F, G, h⟩ := h
  exact RepW.ok h.a
section
variable {vB : Value} {Lo : Nat} {Z : List Nat} {p q : Nat} {sl sl' : Sl} {L L' : List Rw} {w : World}
end
end Go.Proofs.YtehjfmjibiafdaaGreat

/- did: an op at the world and at the reference's zoo: the answers are the same. (printed by mk_w12.py) -/
namespace Go.Proofs.YtehjfmjibiafdaaGreat
open Go Go.RowKit

theorem KeepZ.sub {Z Y : List Nat} {a b : World} (h : KeepZ Z a b) (hY : ∀ y ∈ Y, y ∈ Z) : KeepZ Y a b := fun z hz o ho => h z (hY z hz) o ho
attribute [local go_sem] AllFrom.cons_eq AllFrom.nil_eq putF_nil putF_cons wantedL_none wantedL_some OpGoalT OpGoalV OpGoalQ OpGoalA OpGoalK YieldsR preF_nil preF_cons

theorem Sep.lo {Lo : Nat} {Z : List Nat} {A B : World → List Nat → Prop} {w : World} (h : Sep Lo Z A B w) : Lo ≤ w.heap.size := by obtain ⟨F, G, h⟩ := h; exact h.lo

/-- From a to b: all below Lo is as it was, and the blocks of Z. -/
structure Went (Lo : Nat) (Z : List Nat) (a c : World) : Prop where
  b : Below Lo a c
  k : KeepZ Z a c
theorem Went.trans {Lo : Nat} {Z : List Nat} {a b c : World} (h : Went Lo Z a b) (k : Went Lo Z b c) : Went Lo Z a c := ⟨h.b.trans k.b, h.k.trans k.k⟩
theorem Went.sub {Lo : Nat} {Z Y : List Nat} {a b : World} (h : Went Lo Z a b) (hY : ∀ y ∈ Y, y ∈ Z) : Went Lo Y a b := ⟨h.b, h.k.sub hY⟩
/-- A region in which a call (operation a) turns what holds. -/
structure ITwo (a : Nat) (Lo : Nat) (Z : List Nat) (w0 : World) (S0 S1 : World → Prop) (L : Nat → Bool) (σ : Nat → Value) (V : World) : Prop where
  s0 : L a = false → S0 V
  s1 : L a = true → S1 V
  b : Below Lo w0 V
  k : KeepZ Z w0 V
section
variable {a Lo : Nat} {Z : List Nat} {w0 : World} {S0 S1 : World → Prop} {L : Nat → Bool} {σ : Nat → Value} {V V' : World}
theorem ITwo.start (h : S0 V) (hb : Below Lo w0 V) (hk : KeepZ Z w0 V) : ITwo a Lo Z w0 S0 S1 (fun _ => false) σ V := ⟨fun _ => h, fun e => (by cases e), hb, hk⟩
theorem ITwo.read (h : ITwo a Lo Z w0 S0 S1 L σ V) {i : Nat} (hi : a ≠ i) (v : Value) : ITwo a Lo Z w0 S0 S1 (upd L i) (updv σ i v) V := by
  have e : upd L i a = L a := by unfold upd; simp [hi]
  exact ⟨fun h1 => h.s0 (e ▸ h1), fun h1 => h.s1 (e ▸ h1), h.b, h.k⟩
theorem ITwo.turn (h : ITwo a Lo Z w0 S0 S1 L σ V) (hs : S1 V') (hb : Below Lo V V') (hk : KeepZ Z V V') (v : Value) : ITwo a Lo Z w0 S0 S1 (upd L a) (updv σ a v) V' :=
  ⟨fun e => by simp [upd] at e, fun _ => hs, h.b.trans hb, h.k.trans hk⟩
end
section
variable {vB : Value} {Lo : Nat} {Z : List Nat} {p q : Nat} {sl : Sl} {L : List Rw} {w : World}

end
end Go.Proofs.YtehjfmjibiafdaaGreat

/- Maps whose keys are handles. -/
namespace Go.Proofs.YtehjfmjibiafdaaGreat
open Go Go.RowKit Go.Maps

def HdR (h : Hd) : Prop := InR h.1 ∧ InR h.2
def hdV (h : Hd) : Value := .agg (handleC h).toArray
theorem hdV_inj {a b : Hd} (h : hdV a = hdV b) : a = b := by
  have h1 : (handleC a).toArray = (handleC b).toArray := Value.agg.inj h
  have h2 : handleC a = handleC b := by simpa using congrArg Array.toList h1
  unfold handleC at h2
  simp only [List.cons.injEq, Value.int.injEq, true_and, and_true] at h2
  exact Prod.ext h2.1 h2.2
theorem hd_keyed : Keyed Tryz.prog 41 :=
  Keyed.of_law (deep_law_laid laid_ (m := 3) (by decide) (of_decide_eq_true (by kernel_rfl)) (by kernel_rfl) (by rw [Tryz.underlying41]))
theorem wf_of_inR {z : Int} (h : InR z) : (Lit.int .i64 z).wf = true := by
  unfold InR at h
  simp [Lit.wf, IntKind.min, IntKind.max, IntKind.bits, IntKind.signed]
  omega
theorem hd_lits (s g : Int) (hs : InR s) (hg : InR g) (d : Nat) : Tryz.prog.keyLits (d + 2) 41 [.int .i64 s, .int .i64 g] = some [.int .i64 s, .int .i64 g] := by
  have h1 : ∀ z : Int, InR z → Tryz.prog.keyLits (d + 1) 3 [.int .i64 z] = some [.int .i64 z] := fun z hz => by
    unfold Program.keyLits
    rw [Tryz.underlying3]
    simp [wf_of_inR hz]
  unfold Program.keyLits
  rw [Tryz.underlying41]
  simp only []
  have hc : Tryz.prog.cellsOf 3 = 1 := by kernel_rfl
  have hC : Tryz.prog.cellsOf 41 = 2 := by kernel_rfl
  simp [hc, hC, h1 s hs, h1 g hg]
theorem hd_key {h : Hd} (hr : HdR h) : ∃ kl, keyOf Tryz.prog 41 (hdV h) = some kl := by
  obtain ⟨s, g⟩ := h
  have h1 : (Tryz.prog.keyType 41 && (hdV (s, g)).formed Tryz.prog 41) = true := by kernel_rfl
  obtain ⟨d, hd⟩ : ∃ d, Tryz.prog.types.size + 1 = d + 2 := ⟨Tryz.prog.types.size - 1, by have : 0 < Tryz.prog.types.size := of_decide_eq_true (by kernel_rfl); omega⟩
  unfold keyOf
  rw [Tryz.underlying41]
  simp only [h1, if_true]
  rw [hd, show (hdV (s, g)).cells.toList = [.int .i64 s, .int .i64 g] from rfl, hd_lits s g hr.1 hr.2]
  exact ⟨_, rfl⟩

/-- Entries whose keys are handles. -/
structure HdKeys {β : Type} (enc : Hd × β → Value × Value) : Prop where
  key : ∀ x, (enc x).1 = hdV x.1
section
variable {β : Type} {enc : Hd × β → Value × Value} {w : World} {b : Nat} {l : List (Hd × β)} {t e : TypeId} {k : Hd}
theorem mh_apart (K : HdKeys enc) (h : MapAt Tryz.prog 41 w b (l.map enc)) : l.Pairwise (fun x y => x.1 ≠ y.1) := by
  obtain ⟨es, clock, -, hok⟩ := h
  have := hok.apart
  rw [List.pairwise_map] at this
  exact this.imp fun {x y} hne e => hne (by rw [K.key, K.key, e])
theorem mh_ne (K : HdKeys enc) (hn : ∀ x ∈ l, x.1 ≠ k) : ∀ p ∈ l.map enc, p.1 ≠ hdV k := by
  intro p hp e
  obtain ⟨x, hx, rfl⟩ := List.mem_map.1 hp
  rw [K.key] at e
  exact hn x hx (hdV_inj e)
theorem mh_in (K : HdKeys enc) (ht : Tryz.prog.underlying t = some (.map 41 e)) (h : MapAt Tryz.prog 41 w b (l.map enc)) (hr : HdR k) {v : β} (hm : (k, v) ∈ l) (c : Bool) :
    (Instr.lookup t (.map (some b)) (hdV k) c).run Tryz.prog w = .ok (if c then .tuple #[(enc (k, v)).2, .bool true] else (enc (k, v)).2) w := by
  obtain ⟨kl, hk⟩ := hd_key hr
  refine h.look_in hd_keyed ht hk ?_ c
  have : enc (k, v) ∈ l.map enc := List.mem_map.2 ⟨_, hm, rfl⟩
  rw [show enc (k, v) = (hdV k, (enc (k, v)).2) from Prod.ext (K.key _) rfl] at this
  exact this
theorem mh_out (K : HdKeys enc) (ht : Tryz.prog.underlying t = some (.map 41 e)) {z : Value} (hz : (zeroValue e).run Tryz.prog w = .ok z w) (h : MapAt Tryz.prog 41 w b (l.map enc)) (hr : HdR k) (hn : ∀ x ∈ l, x.1 ≠ k) (c : Bool) :
    (Instr.lookup t (.map (some b)) (hdV k) c).run Tryz.prog w = .ok (if c then .tuple #[z, .bool false] else z) w := by
  obtain ⟨kl, hk⟩ := hd_key hr
  exact h.look_out hd_keyed ht hz hk (mh_ne K hn) c
theorem mh_split (h : l.Pairwise (fun x y => x.1 ≠ y.1)) {v : β} (hm : (k, v) ∈ l) : ∃ l1 l2, l = l1 ++ (k, v) :: l2 ∧ l.filter (fun x => decide (x.1 ≠ k)) = l1 ++ l2 := by
  obtain ⟨l1, l2, rfl⟩ := List.append_of_mem hm
  refine ⟨l1, l2, rfl, ?_⟩
  rw [List.pairwise_append, List.pairwise_cons] at h
  obtain ⟨-, ⟨h2, -⟩, h3⟩ := h
  rw [List.filter_append, List.filter_cons]
  simp only [ne_eq, not_true, decide_false, Bool.false_eq_true, if_false]
  congr 1
  · exact List.filter_eq_self.2 fun x hx => by simpa using h3 x hx (k, v) (by simp)
  · exact List.filter_eq_self.2 fun x hx => by simpa using (h2 x hx).symm
theorem mh_upd (K : HdKeys enc) (ht : Tryz.prog.underlying t = some (.map 41 e)) (h : MapAt Tryz.prog 41 w b (l.map enc)) (hr : HdR k) (v : β) :
    ∃ (w' : World) (l' : List (Hd × β)), (Instr.mapUpdate t (.map (some b)) (hdV k) (enc (k, v)).2).run Tryz.prog w = .ok () w' ∧ MapAt Tryz.prog 41 w' b (l'.map enc) ∧ l'.Perm ((k, v) :: l.filter (fun x => decide (x.1 ≠ k))) ∧ Mod [b] w w' ∧ w'.heap.size = w.heap.size := by
  obtain ⟨kl, hk⟩ := hd_key hr
  have hap := mh_apart K h
  have hkv : enc (k, v) = (hdV k, (enc (k, v)).2) := Prod.ext (K.key _) rfl
  by_cases hin : ∃ v0, (k, v0) ∈ l
  · obtain ⟨v0, hv0⟩ := hin
    obtain ⟨l1, l2, rfl, hf⟩ := mh_split hap hv0
    rw [List.map_append, List.map_cons, show enc (k, v0) = (hdV k, (enc (k, v0)).2) from Prod.ext (K.key _) rfl] at h
    obtain ⟨w', h1, h2, h3⟩ := h.put_old hd_keyed ht hk (enc (k, v)).2
    refine ⟨w', l1 ++ (k, v) :: l2, h1, ?_, ?_, h3⟩
    · rw [List.map_append, List.map_cons, hkv]; exact h2
    · rw [hf]; exact List.perm_middle
  · have hn : ∀ x ∈ l, x.1 ≠ k := fun x hx e => hin ⟨x.2, by rw [← e]; exact hx⟩
    obtain ⟨w', h1, h2, h3⟩ := h.put_new hd_keyed ht hk (mh_ne K hn) (enc (k, v)).2
    refine ⟨w', l ++ [(k, v)], h1, ?_, ?_, h3⟩
    · rw [List.map_append, List.map_cons, List.map_nil, hkv]; exact h2
    · rw [List.filter_eq_self.2 (fun x hx => by simpa using hn x hx)]
      exact List.perm_append_singleton _ _
theorem mh_del {ty : TypeId} (K : HdKeys enc) (ht : Tryz.prog.underlying t = some (.map 41 e)) (h : MapAt Tryz.prog 41 w b (l.map enc)) (hr : HdR k) {v0 : β} (hm : (k, v0) ∈ l) :
    ∃ (w' : World) (l' : List (Hd × β)), (Builtin.delete_ #[t, 41] ty #[.map (some b), hdV k]).run Tryz.prog w = .ok (.tuple #[]) w' ∧ MapAt Tryz.prog 41 w' b (l'.map enc) ∧ l' = l.filter (fun x => decide (x.1 ≠ k)) ∧ Mod [b] w w' ∧ w'.heap.size = w.heap.size := by
  obtain ⟨kl, hk⟩ := hd_key hr
  obtain ⟨l1, l2, rfl, hf⟩ := mh_split (mh_apart K h) hm
  rw [List.map_append, List.map_cons, show enc (k, v0) = (hdV k, (enc (k, v0)).2) from Prod.ext (K.key _) rfl] at h
  obtain ⟨w', h1, h2, h3⟩ := h.del_in (ty := ty) hd_keyed ht hk
  exact ⟨w', l1 ++ l2, h1, by rw [List.map_append]; exact h2, hf.symm, h3⟩
end

/-! 'range' over a map; an entry that has come may be deleted. -/
section
variable {P : Program} {kt : TypeId} {w : World} {b r : Nat} {l todo : List (Value × Value)}
theorem RangeAt.map (h : RangeAt P kt w b r l todo) : MapAt P kt w b l := by
  obtain ⟨es, clock, since, seen, c0, h1, h2, -⟩ := h
  exact ⟨es, clock, h1, h2⟩
theorem RangeAt.ne (h : RangeAt P kt w b r l todo) : b ≠ r := by
  obtain ⟨es, clock, since, seen, c0, h1, h2, h3, -⟩ := h
  rintro rfl; rw [h1] at h3; cases h3
theorem filter_erase {α : Type} (q : α → Bool) : ∀ (l : List α) (j : Nat) (x : α), l[j]? = some x → q x = false → (l.eraseIdx j).filter q = l.filter q
  | [], j, x, h, _ => by simp at h
  | y :: l, 0, x, h, hq => by
    simp only [List.getElem?_cons_zero, Option.some.injEq] at h
    subst h
    simp [hq]
  | y :: l, j + 1, x, h, hq => by
    simp only [List.getElem?_cons_succ] at h
    rw [List.eraseIdx_cons_succ, List.filter_cons, List.filter_cons, filter_erase q l j x h hq]
theorem RangeAt.del {t e ty : TypeId} {key : Value} {kl : Lit} (K : Keyed P kt) (ht : P.underlying t = some (.map kt e)) {l1 l2 : List (Value × Value)} {v0 : Value} (h : RangeAt P kt w b r (l1 ++ (key, v0) :: l2) todo) (hkey : keyOf P kt key = some kl) (hn : (key, v0) ∉ todo) :
    ∃ w', (Builtin.delete_ #[t, kt] ty #[.map (some b), key]).run P w = .ok (.tuple #[]) w' ∧ RangeAt P kt w' b r (l1 ++ l2) todo ∧ Mod [b] w w' ∧ w'.heap.size = w.heap.size := by
  have hbr := h.ne
  obtain ⟨es, clock, since, seen, c0, hb, hok, h3, h4, h5, h7, h6⟩ := h
  rcases K.find w hkey es.toList hok.keys with ⟨_, h2⟩ | ⟨j, e0, f1, f2, f3⟩
  · have hv : (key, v0) ∈ prs es := by rw [hok.prs]; simp
    obtain ⟨x, hx, hx2⟩ := List.mem_map.1 hv
    exact absurd (congrArg Prod.fst hx2) (h2 x hx)
  · obtain ⟨rfl, hv0⟩ := split_at hok f2 f3
    have hjs : l1.length < es.size := by have := (List.getElem?_eq_some_iff.1 f2).1; simpa using this
    have hsub : (es.eraseIdxIfInBounds l1.length).toList = es.toList.eraseIdx l1.length := by
      unfold Array.eraseIdxIfInBounds
      rw [dif_pos hjs]
      simp
    have hseen : (!seen.contains e0.born) = false := by
      cases hq : (!seen.contains e0.born) with
      | false => rfl
      | true =>
        refine absurd ?_ hn
        rw [← h6]
        refine List.mem_map.2 ⟨e0, ?_, by rw [f3, hv0]⟩
        unfold leftOf
        rw [Array.toList_filter]
        exact List.mem_filter.2 ⟨List.mem_of_getElem? f2, hq⟩
    refine ⟨ChangeMaps.setBlock w b (.map (es.eraseIdxIfInBounds l1.length) clock), ?_, ⟨_, clock, since, seen, c0, setBlock_same hb, ⟨MapKept.stamped_erase hok.st _, ?_, ?_⟩, ?_, ?_, h5, h7, ?_⟩, setBlock_mod _ _ _, setBlock_size _ _ _⟩
    · simp [Builtin.delete_, run_underlying ht, MapKept.run_getObj_map hb, K.check w _ hkey, f1, MapKept.run_setObj_map _ hb, Result.andThen, ChangeMaps.setBlock]
    · intro x hx
      rw [hsub] at hx
      exact hok.keys x ((List.eraseIdx_sublist _ _).subset hx)
    · have := hok.prs
      unfold prs at this ⊢
      rw [hsub, ChangeMaps.map_eraseIdx, this, List.eraseIdx_append_of_length_le (Nat.le_refl _), Nat.sub_self]
      rfl
    · rw [setBlock_ne (Ne.symm hbr)]; exact h3
    · intro x hx
      rw [hsub] at hx
      exact h4 x ((List.eraseIdx_sublist _ _).subset hx)
    · rw [← h6]
      unfold prs leftOf
      rw [Array.toList_filter, Array.toList_filter, hsub, filter_erase _ _ _ e0 f2 hseen]
theorem RangeAt.nextE {α : Type} {enc : α → Value × Value} {ts : List α} (h : RangeAt P kt w b r l (ts.map enc)) (hne : ts ≠ []) :
    ∃ t1 x t2 w', ts = t1 ++ x :: t2 ∧ (∀ ty, (Instr.next (.pointer (some ⟨r, 0, none⟩)) false ty).run P w = .ok (.tuple #[.bool true, (enc x).1, (enc x).2]) w') ∧
      (Instr.entry (.pointer (some ⟨r, 0, none⟩))).run P w' = .ok (.tuple #[(enc x).1, (enc x).2]) w' ∧ enc x ∈ l ∧ RangeAt P kt w' b r l ((t1 ++ t2).map enc) ∧ Mod [r] w w' ∧ w'.heap.size = w.heap.size := by
  obtain ⟨t1, p, t2, w', he, hp, hn, hen, hr, hm, hs⟩ := h.next (by simpa using hne) 0
  obtain ⟨a, c, rfl, rfl, hc⟩ := List.map_eq_append_iff.1 he
  obtain ⟨x, t, rfl, rfl, rfl⟩ := List.map_eq_cons_iff.1 hc
  refine ⟨a, x, t, w', rfl, fun ty => ?_, hen, hp, by rw [List.map_append]; exact hr, hm, hs⟩
  have : (Instr.next (.pointer (some ⟨r, 0, none⟩)) false ty) = (Instr.next (.pointer (some ⟨r, 0, none⟩)) false 0) := rfl
  rw [this]; exact hn
end
end Go.Proofs.YtehjfmjibiafdaaGreat
