import Derived.Test.YtoheblfpjinmnaaGreatDoorTextParsesJ8
import Derived.Maps.RangeRun
import Derived.Maps.Keyed
set_option linter.unusedVariables false
set_option linter.unusedSimpArgs false
/- A part of the proof that TextParses returns true. -/
namespace Go.Proofs.YtoheblfpjinmnaaGreatDoor
open Go Go.RowKit
abbrev Hd:=Int × Int
abbrev Bt:=Int × Int × Int × Int × Int × Int × Int × Int × Int
abbrev Rw:=Hd × Bt
abbrev Cg:=Hd × Bt × Bt
abbrev Bd:=Hd × Hd
def hdI : Hd → List Int | (a,b) => [a,b]
def btI : Bt → List Int | (k,a0,a1,a2,a3,a4,a5,a6,a7) => [k,a0,a1,a2,a3,a4,a5,a6,a7]
def rwI (r : Rw) : List Int:=hdI r.1 ++ btI r.2
def cgI (c : Cg) : List Int:=hdI c.1 ++ (btI c.2.1 ++ btI c.2.2)
def bdI (b : Bd) : List Int:=hdI b.1 ++ hdI b.2
def rwC (r : Rw) : List Value:=ints (rwI r)
def bdC (b : Bd) : List Value:=ints (bdI b)
theorem rwC_len (b : Rw) : (rwC b).length = 11:=rfl
theorem bdC_len (b : Bd) : (bdC b).length = 4:=rfl
theorem ints_one (l : List Int) : ∀ u ∈ ints l,u.oneCell' = true:=by
 intro u hu
 unfold ints at hu
 obtain ⟨z,-,rfl⟩:=List.mem_map.1 hu
 rfl
theorem rwC_one (b : Rw) : ∀ u ∈ rwC b,u.oneCell' = true:=ints_one _
theorem bdC_one (b : Bd) : ∀ u ∈ bdC b,u.oneCell' = true:=ints_one _
theorem hdI_inj {a b : Hd} (h : hdI a = hdI b) : a = b:=by
 obtain ⟨a0,a1⟩:=a;obtain ⟨b0,b1⟩:=b
 simpa [hdI] using h
theorem btI_inj {a b : Bt} (h : btI a = btI b) : a = b:=by
 obtain ⟨a0,a1,a2,a3,a4,a5,a6,a7,a8⟩:=a;obtain ⟨b0,b1,b2,b3,b4,b5,b6,b7,b8⟩:=b
 simpa [btI] using h
theorem app_inj {a b c d : List Int} (hl : a.length = c.length) (h : a ++ b = c ++ d) : a = c ∧ b = d:=List.append_inj h hl
theorem rwI_inj {a b : Rw} (h : rwI a = rwI b) : a = b:=by
 obtain ⟨h1,h2⟩:=app_inj (by rfl) h
 exact Prod.ext (hdI_inj h1) (btI_inj h2)
theorem cgI_inj {a b : Cg} (h : cgI a = cgI b) : a = b:=by
 obtain ⟨h1,h2⟩:=app_inj (by rfl) h
 obtain ⟨h3,h4⟩:=app_inj (by rfl) h2
 exact Prod.ext (hdI_inj h1) (Prod.ext (btI_inj h3) (btI_inj h4))
theorem bdI_inj {a b : Bd} (h : bdI a = bdI b) : a = b:=by
 obtain ⟨h1,h2⟩:=app_inj (by rfl) h
 exact Prod.ext (hdI_inj h1) (hdI_inj h2)
instance : DecidableEq Bt:=fun a b => decidable_of_iff (btI a = btI b) ⟨fun h => btI_inj h,fun h => congrArg _ h⟩
instance : DecidableEq Rw:=fun a b => decidable_of_iff (rwI a = rwI b) ⟨fun h => rwI_inj h,fun h => congrArg _ h⟩
instance : DecidableEq Cg:=fun a b => decidable_of_iff (cgI a = cgI b) ⟨fun h => cgI_inj h,fun h => congrArg _ h⟩
theorem eqB_inj {α β : Type} [DecidableEq α] [DecidableEq β] {f : α → β} (hf : ∀ {a b},f a = f b → a = b) (a b : α) : eqB (f a) (f b) = eqB a b:=by
 unfold eqB
 by_cases h : a = b
 ·subst h;simp
 ·rw [decide_eq_false h,decide_eq_false (fun e => h (hf e))]
theorem info_of {P : Program} {t : TypeId} {z : Value} {n b : Nat} (h : (P.info? t).map (fun i => (i.zero,i.size,i.bytes)) = some (some z,n,b)) : (P.info? t).map (·.size) = some n:=by
 cases hq : P.info? t with
 | none => rw [hq] at h;cases h
 | some i => rw [hq] at h;simp only [Option.map_some,Option.some.injEq,Prod.mk.injEq] at h ⊢;exact h.2.1
theorem ieHandle (d : Nat) : IE Tryz.prog (d + 2) 46 (GInts (Tryz.prog.cellsOf 46)):=by
 rw [show Tryz.prog.cellsOf 46 = 2 by kernel_rfl]
 obtain ⟨i,hi⟩:=Option.isSome_iff_exists.1 (show (Tryz.prog.info? 46).isSome = true by kernel_rfl)
 exact (esHandle d).part Tryz.underlying46 rfl hi
theorem ieBeast (d : Nat) : IE Tryz.prog (d + 3) 49 (GInts (Tryz.prog.cellsOf 49)):=by
 rw [show Tryz.prog.cellsOf 49 = 9 by kernel_rfl]
 obtain ⟨i,hi⟩:=Option.isSome_iff_exists.1 (show (Tryz.prog.info? 49).isSome = true by kernel_rfl)
 exact (esBeast d).part Tryz.underlying49 rfl hi
theorem esRow (d : Nat) : ES Tryz.prog (d + 4) 51 (GInts 11):=by
 refine ES.flat (by kernel_rfl) (by kernel_rfl) 11 (by kernel_rfl) (by kernel_rfl) ?_
 intro f hf
 simp only [Program.fieldsOf,Tryz.underlying51,List.mem_cons,List.not_mem_nil,or_false] at hf
 rcases hf with rfl | rfl
 ·exact ieHandle (d + 1)
 ·exact ieBeast d
theorem esBond (d : Nat) : ES Tryz.prog (d + 3) 55 (GInts 4):=by
 refine ES.flat (by kernel_rfl) (by kernel_rfl) 4 (by kernel_rfl) (by kernel_rfl) ?_
 intro f hf
 simp only [Program.fieldsOf,Tryz.underlying55,List.mem_cons,List.not_mem_nil,or_false] at hf
 rcases hf with rfl | rfl <;> exact ieHandle d
theorem neqRow (w : World) (x y : Rw) : (binOp .neq 51 (.agg (rwC x).toArray) (.agg (rwC y).toArray)).run Tryz.prog w = .ok (.bool (!eqB x y)) w:=by
 refine ((esRow 9996).neqI w (rwI x) (rwI y) rfl rfl (x:=(rwC x).toArray) (y:=(rwC y).toArray) rfl rfl).trans ?_
 rw [eqB_inj rwI_inj]
theorem neqBond (w : World) (x y : Bd) : (binOp .neq 55 (.agg (bdC x).toArray) (.agg (bdC y).toArray)).run Tryz.prog w = .ok (.bool (!eqB x y)) w:=by
 refine ((esBond 9997).neqI w (bdI x) (bdI y) rfl rfl (x:=(bdC x).toArray) (y:=(bdC y).toArray) rfl rfl).trans ?_
 rw [eqB_inj bdI_inj]
theorem inf_Row : (Tryz.prog.info? 51).map (fun i => (i.zero,i.size,i.bytes)) = some (some (.agg (Array.replicate 11 (.int .i64 0))),11,88):=by kernel_rfl
theorem inf_Bond : (Tryz.prog.info? 55).map (fun i => (i.zero,i.size,i.bytes)) = some (some (.agg (Array.replicate 4 (.int .i64 0))),4,32):=by kernel_rfl
theorem sz_Row (x : Rw) : (Tryz.prog.info? 51).map (·.size) = some (rwC x).length:=info_of inf_Row
theorem sz_Bond (x : Bd) : (Tryz.prog.info? 55).map (·.size) = some (bdC x).length:=info_of inf_Bond
section
variable {P : Program}
theorem setCells_block {w : World} {b : Nat} {t : TypeId} {f : Nat × Nat} : ∀ (vs : List Value) (i : Nat) (w : World) (xs : List Value),w.heap[b]? = some (.cells xs.toArray t f) → (w.setCells b i vs).heap[b]? = some (.cells (setL xs i vs).toArray t f)
 | [],_,_,_,h => h
 | v :: vs,i,w,xs,h => setCells_block (w:=w) vs (i + 1) _ _ (by
   have:=blk_set h i v
   rw [this];simp)
theorem setCells_rest (b : Nat) : ∀ (vs : List Value) (i : Nat) (w : World),(w.setCells b i vs).os = w.os ∧ (w.setCells b i vs).tape = w.tape ∧ (w.setCells b i vs).output = w.output ∧ (w.setCells b i vs).drawn = w.drawn ∧ ∀ k,k ≠ b → (w.setCells b i vs).heap[k]? = w.heap[k]?
 | [],_,_ => ⟨rfl,rfl,rfl,rfl,fun _ _ => rfl⟩
 | v :: vs,i,w => by
  obtain ⟨h1,h2,h3,h5,h4⟩:=setCells_rest b vs (i + 1) (w.setCell ⟨b,i,none⟩ v)
  exact ⟨h1,h2,h3,h5,fun k hk => (h4 k hk).trans (blk_set_ne (by simpa using hk) v)⟩
theorem world_ext {a b : World} (h1 : a.os = b.os) (h2 : a.tape = b.tape) (h3 : a.output = b.output) (h5 : a.drawn = b.drawn) (h4 : ∀ k : Nat,a.heap[k]? = b.heap[k]?) : a = b:=by
 have : a.heap = b.heap:=Array.ext_getElem? h4
 cases a;cases b;simp_all
theorem store_new (w : World) (cs : List Value) (vs : List Value) (t : TypeId) (h : vs.length = cs.length) : (w.alloc (.cells cs.toArray t)).setCells w.heap.size 0 vs = w.alloc (.cells vs.toArray t):=by
 obtain ⟨h1,h2,h3,h5,h4⟩:=setCells_rest w.heap.size vs 0 (w.alloc (.cells cs.toArray t))
 refine world_ext h1 h2 h3 h5 fun k => ?_
 by_cases hk : k = w.heap.size
 ·subst hk
  rw [setCells_block (w:=w) vs 0 _ cs (heap_alloc_new w _),setL_all vs cs h]
  exact (heap_alloc_new w _).symm
 ·rw [h4 k hk]
  rcases Nat.lt_or_ge k w.heap.size with h | h
  ·rw [Below.heap_alloc _ _ _ h,Below.heap_alloc _ _ _ h]
  ·rw [Array.getElem?_eq_none (by simp;omega),Array.getElem?_eq_none (by simp;omega)]
theorem wpList_store_new {ops : Array Oper} {rest : List Oper} {op : Oper} {a : Act} {Q : Exit → Act → World → Prop} (hgd : op.guard = none) (ty : TypeId) (x y : Operand) (ho : op.op = .store ty x y)
  (w : World) (cs vs : List Value) (t : TypeId) (hx : a.eval x = .pointer (some ⟨w.heap.size,0,none⟩)) (hy : a.eval y = .agg vs.toArray) (hl : vs.length = cs.length) (hi : (P.info? ty).map (·.size) = some vs.length) (h1 : ∀ u ∈ vs,u.oneCell' = true)
  (h : wpList P ops Q rest (a.put op.dst undef) (w.alloc (.cells vs.toArray t))) : wpList P ops Q (op :: rest) a (w.alloc (.cells cs.toArray t)):=by
 refine wpList_store_mid hgd ty x y ho w.heap.size 0 vs.toArray hx hy ?_ (by simpa using hi) (all_oneCell_toArray h1) ?_
 ·intro j hj
  have hb:=heap_alloc_new w (.cells cs.toArray t)
  have hj' : j < cs.length:=by simp at hj;omega
  constructor
  ·rw [Nat.zero_add,blk_cell hb];simp [hj']
  ·exact blk_free hb _
 ·rw [show vs.toArray.toList = vs by simp,store_new w cs vs t hl]
  exact h
end
end Go.Proofs.YtoheblfpjinmnaaGreatDoor
namespace Go.Proofs.YtoheblfpjinmnaaGreatDoor
open Go.RowKit
attribute [local go_sem] AllFrom.cons_eq AllFrom.nil_eq putF_nil putF_cons wantedL_none wantedL_some OpGoalT OpGoalS OpGoalP YieldsR preF_nil preF_cons
theorem RepRS.at_ {w : World} {p : Nat} {l : Sl} {F : List Nat} (h : RepRS w p l F) {n : Nat} (hn : n < l.length) : ∃ g0 c0 g1 c1,w.heap[p]? = some (.cells #[.slice (some ⟨g0,0,none⟩) l.length c0,.slice (some ⟨g1,0,none⟩) l.length c1] 90 (0,0)) ∧
  g0 ∈ F ∧ g1 ∈ F ∧ g0 ≠ g1 ∧ g1 ≠ g0 ∧ p ≠ g0 ∧ p ≠ g1 ∧ g0 < w.heap.size ∧ g1 < w.heap.size ∧ w.cell? ⟨g0,n,none⟩ = some (.int .i64 l[n].1) ∧ w.cell? ⟨g1,n,none⟩ = some (.bool l[n].2) ∧ (∀ i,w.frozen? ⟨g0,i,none⟩ = false) ∧ (∀ i,w.frozen? ⟨g1,i,none⟩ = false) ∧
  (∀ g b,RepRS ((w.setCell ⟨g1,n,none⟩ (.bool b)).setCell ⟨g0,n,none⟩ (.int .i64 g)) p (l.set n (g,b)) F) ∧ (∀ b,RepRS (w.setCell ⟨g1,n,none⟩ (.bool b)) p (l.set n (l[n].1,b)) F):=by
 obtain ⟨vg,vl,hp,hg,hl,rfl,hne⟩:=h
 obtain ⟨g0,c0,cur0,rfl,-,hb0,-⟩:=row_some hg (by omega)
 obtain ⟨g1,c1,cur1,rfl,-,hb1,-⟩:=row_some hl (by omega)
 have hne':=hne
 simp [Value.ownBlock] at hne'
 obtain ⟨⟨n1,n2⟩,n3⟩:=hne'
 refine ⟨g0,c0,g1,c1,hp,by simp [Value.ownBlock],by simp [Value.ownBlock],n3,fun e => n3 e.symm,n1,n2,blk_lt hb0,blk_lt hb1,row_cell hg (gens_get l n hn),row_cell hl (lives_get l n hn),blk_free hb0,blk_free hb1,fun g b => ?_,fun b => ?_⟩
 ·refine ⟨_,_,?_,?_,?_,rfl,hne⟩
  ·rw [blk_set_ne (by simpa using n1),blk_set_ne (by simpa using n2)];exact hp
  ·have h2:=row_set (row_mod hg ((Mod.refl [g1] w).setCell (p:=⟨g1,n,none⟩) (.inl (by simp)) (.bool b)) (by simp [Value.ownBlock,n3])) n (.int .i64 g)
   rw [List.length_set]
   rw [show ints (gensS (l.set n (g,b))) = (ints (gensS l)).set n (.int .i64 g) by simp [ints,gensS,List.map_set]]
   exact h2
  ·have h2:=row_mod (row_set hl n (.bool b)) ((Mod.refl [g0] _).setCell (p:=⟨g0,n,none⟩) (.inl (by simp)) (.int .i64 g)) (by simp [Value.ownBlock];exact fun e => n3 e.symm)
   rw [List.length_set]
   rw [show bools (livesS (l.set n (g,b))) = (bools (livesS l)).set n (.bool b) by simp [bools,livesS,List.map_set]]
   exact h2
 ·refine ⟨_,_,?_,?_,?_,rfl,hne⟩
  ·rw [blk_set_ne (by simpa using n2)];exact hp
  ·rw [List.length_set]
   rw [show gensS (l.set n (l[n].1,b)) = gensS l by
    have e : (l.map (·.1))[n]'(by simpa using hn) = l[n].1:=by simp
    simp only [gensS,List.map_set]
    rw [← e]
    exact List.set_getElem_self _]
   exact row_mod hg ((Mod.refl [g1] w).setCell (p:=⟨g1,n,none⟩) (.inl (by simp)) (.bool b)) (by simp [Value.ownBlock,n3])
  ·have h2:=row_set hl n (.bool b)
   rw [List.length_set]
   rw [show bools (livesS (l.set n (l[n].1,b))) = (bools (livesS l)).set n (.bool b) by simp [bools,livesS,List.map_set]]
   exact h2
end Go.Proofs.YtoheblfpjinmnaaGreatDoor
namespace Go.Proofs.YtoheblfpjinmnaaGreatDoor
open Go.RowKit
attribute [local go_sem] AllFrom.cons_eq AllFrom.nil_eq putF_nil putF_cons wantedL_none wantedL_some OpGoalT OpGoalS OpGoalP OpGoalV YieldsR preF_nil preF_cons
def intC (z : Int) : List Value:=[.int .i64 z]
theorem ints_flat (l : List Int) : ints l = l.flatMap intC:=by induction l with | nil => rfl | cons x l ih => simp only [List.flatMap_cons,← ih];rfl
theorem intC_one (z : Int) : ∀ u ∈ intC z,u.oneCell' = true:=by intro u hu;simp [intC] at hu;subst hu;rfl
end Go.Proofs.YtoheblfpjinmnaaGreatDoor
namespace Go.Proofs.YtoheblfpjinmnaaGreatDoor
open Go Go.RowKit Go.Maps Go.MapKept
open Go.ChangeMaps (setBlock)
open Go.ChangeMaps
def prs (es : Array MapEntry) : List (Value × Value):=es.toList.map fun e => (e.key,e.val)
theorem setBlock_same {w : World} {b : Nat} {o o' : Obj} (hb : w.heap[b]? = some o) : (setBlock w b o').heap[b]? = some o':=by
 have:=blk_lt hb
 simp [setBlock,this]
theorem setBlock_ne {w : World} {b k : Nat} {o' : Obj} (hk : k ≠ b) : (setBlock w b o').heap[k]? = w.heap[k]?:=by
 simp [setBlock,Array.getElem?_setIfInBounds,Ne.symm hk]
theorem setBlock_size (w : World) (b : Nat) (o' : Obj) : (setBlock w b o').heap.size = w.heap.size:=by simp [setBlock]
theorem setBlock_mod (w : World) (b : Nat) (o' : Obj) : Mod [b] w (setBlock w b o') :=
 ⟨rfl,rfl,rfl,by rw [setBlock_size];exact Nat.le_refl _,fun k _ hk => setBlock_ne (by simpa using hk)⟩
section
variable {P : Program} {kt : TypeId} {w : World} {b : Nat} {l : List (Value × Value)}
structure EsOk (P : Program) (kt : TypeId) (es : Array MapEntry) (clock : Nat) (l : List (Value × Value)) : Prop where
 st : Stamped es clock
 keys : ∀ e ∈ es.toList,∃ kl,keyOf P kt e.key = some kl
 prs : prs es = l
def MapAt (P : Program) (kt : TypeId) (w : World) (b : Nat) (l : List (Value × Value)) : Prop:=∃ es clock,w.heap[b]? = some (.map es clock) ∧ EsOk P kt es clock l
theorem MapAt.lt (h : MapAt P kt w b l) : b < w.heap.size:=by obtain ⟨es,c,hb,-⟩:=h;exact blk_lt hb
theorem MapAt.mod {w' : World} {F : List Nat} (h : MapAt P kt w b l) (hm : Mod F w w') (hd : b ∉ F) : MapAt P kt w' b l:=by
 obtain ⟨es,c,hb,hk⟩:=h;exact ⟨es,c,hm.keep hb hd,hk⟩
theorem EsOk.apart {es : Array MapEntry} {clock : Nat} (h : EsOk P kt es clock l) : l.Pairwise (fun p q => p.1 ≠ q.1):=by
 have:=((stamped_iff es clock).1 h.st).2.2
 rw [← h.prs]
 exact List.pairwise_map.2 this
theorem EsOk.mem {es : Array MapEntry} {clock : Nat} (h : EsOk P kt es clock l) {e : MapEntry} (he : e ∈ es.toList) : (e.key,e.val) ∈ l:=by
 rw [← h.prs];exact List.mem_map.2 ⟨e,he,rfl⟩
theorem pair_same : ∀ {l : List (Value × Value)},l.Pairwise (fun p q => p.1 ≠ q.1) → ∀ {k v v' : Value},(k,v) ∈ l → (k,v') ∈ l → v = v'
 | p :: l,hp,k,v,v',h1,h2 => by
  obtain ⟨ha,hb⟩:=List.pairwise_cons.1 hp
  rcases List.mem_cons.1 h1 with e1 | h1
  ·rcases List.mem_cons.1 h2 with e2 | h2
   ·have:=e1.trans e2.symm;cases this;rfl
   ·exact absurd (by rw [← e1]) (ha _ h2)
  ·rcases List.mem_cons.1 h2 with e2 | h2
   ·exact absurd (by rw [← e2]) (ha _ h1)
   ·exact pair_same hb h1 h2
variable {t e : TypeId} {key : Value} {kl : Lit}
theorem MapAt.look_in (K : Keyed P kt) (ht : P.underlying t = some (.map kt e)) (h : MapAt P kt w b l) (hkey : keyOf P kt key = some kl) {v : Value} (hv : (key,v) ∈ l) (c : Bool) :
  (Instr.lookup t (.map (some b)) key c).run P w = .ok (if c then .tuple #[v,.bool true] else v) w:=by
 obtain ⟨es,clock,hb,hok⟩:=h
 rcases K.find w hkey es.toList hok.keys with ⟨_,h2⟩ | ⟨j,e0,h1,h2,h3⟩
 ·rw [← hok.prs] at hv
  obtain ⟨x,hx,hx2⟩:=List.mem_map.1 hv
  exact absurd (congrArg Prod.fst hx2) (h2 x hx)
 ·have hm:=hok.mem (List.mem_of_getElem? h2)
  rw [h3] at hm
  have:=pair_same hok.apart hm hv
  simp [Instr.lookup,run_underlying ht,MapKept.run_getObj_map hb,K.check w _ hkey,h1,Result.andThen,this]
theorem MapAt.look_out (K : Keyed P kt) (ht : P.underlying t = some (.map kt e)) {z : Value} (hz : (zeroValue e).run P w = .ok z w) (h : MapAt P kt w b l) (hkey : keyOf P kt key = some kl) (hv : ∀ p ∈ l,p.1 ≠ key) (c : Bool) :
  (Instr.lookup t (.map (some b)) key c).run P w = .ok (if c then .tuple #[z,.bool false] else z) w:=by
 obtain ⟨es,clock,hb,hok⟩:=h
 rcases K.find w hkey es.toList hok.keys with ⟨h1,_⟩ | ⟨j,e0,h1,h2,h3⟩
 ·simp [Instr.lookup,run_underlying ht,MapKept.run_getObj_map hb,K.check w _ hkey,h1,hz,Result.andThen]
 ·exact absurd h3 (hv _ (hok.mem (List.mem_of_getElem? h2)))
theorem MapAt.put_new (K : Keyed P kt) (ht : P.underlying t = some (.map kt e)) (h : MapAt P kt w b l) (hkey : keyOf P kt key = some kl) (hv : ∀ p ∈ l,p.1 ≠ key) (v : Value) :
  ∃ w',(Instr.mapUpdate t (.map (some b)) key v).run P w = .ok () w' ∧ MapAt P kt w' b (l ++ [(key,v)]) ∧ Mod [b] w w' ∧ w'.heap.size = w.heap.size:=by
 obtain ⟨es,clock,hb,hok⟩:=h
 have hne : ∀ x ∈ es.toList,x.key ≠ key:=fun x hx => hv _ (hok.mem hx)
 rcases K.find w hkey es.toList hok.keys with ⟨h1,_⟩ | ⟨j,e0,h1,h2,h3⟩
 ·refine ⟨setBlock w b (.map (es.push ⟨key,v,clock⟩) (clock + 1)),?_,⟨_,_,setBlock_same hb,stamped_push hok.st hne,?_,?_⟩,setBlock_mod _ _ _,setBlock_size _ _ _⟩
  ·simp [Instr.mapUpdate,run_underlying ht,MapKept.run_getObj_map hb,K.check w false hkey,h1,MapKept.run_setObj_map _ hb,Result.andThen,setBlock]
  ·intro x hx
   simp only [Array.toList_push,List.mem_append,List.mem_singleton] at hx
   rcases hx with hx | rfl
   ·exact hok.keys x hx
   ·exact ⟨kl,hkey⟩
  ·rw [← hok.prs];simp [Go.Proofs.YtoheblfpjinmnaaGreatDoor.prs]
 ·exact absurd h3 (hne e0 (List.mem_of_getElem? h2))
theorem apart_mid {l1 l2 : List (Value × Value)} {k v : Value} (h : (l1 ++ (k,v) :: l2).Pairwise (fun p q => p.1 ≠ q.1)) : ∀ p ∈ l1 ++ l2,p.1 ≠ k:=by
 intro p hp
 rw [List.pairwise_append] at h
 obtain ⟨h1,h2,h3⟩:=h
 rcases List.mem_append.1 hp with hp | hp
 ·exact h3 p hp (k,v) (by simp)
 ·exact (fun e => (List.pairwise_cons.1 h2).1 p hp e.symm)
theorem split_at {es : Array MapEntry} {clock : Nat} {l1 l2 : List (Value × Value)} {v0 : Value} (hok : EsOk P kt es clock (l1 ++ (key,v0) :: l2)) {j : Nat} {e0 : MapEntry} (h2 : es.toList[j]? = some e0) (h3 : e0.key = key) : j = l1.length ∧ e0.val = v0:=by
 have hj : (l1 ++ (key,v0) :: l2)[j]? = some (key,e0.val):=by
  rw [← hok.prs,prs,List.getElem?_map,h2,← h3];rfl
 have hap:=hok.apart
 have hm:=pair_same hap (List.mem_of_getElem? hj) (show (key,v0) ∈ l1 ++ (key,v0) :: l2 by simp)
 refine ⟨?_,hm⟩
 rcases Nat.lt_trichotomy j l1.length with h | h | h
 ·rw [List.getElem?_append_left h] at hj
  exact absurd rfl (apart_mid hap _ (List.mem_append_left _ (List.mem_of_getElem? hj)))
 ·exact h
 ·rw [List.getElem?_append_right (by omega),show j - l1.length = (j - l1.length - 1) + 1 by omega,List.getElem?_cons_succ] at hj
  exact absurd rfl (apart_mid hap _ (List.mem_append_right _ (List.mem_of_getElem? hj)))
theorem MapAt.put_old (K : Keyed P kt) (ht : P.underlying t = some (.map kt e)) {l1 l2 : List (Value × Value)} {v0 : Value} (h : MapAt P kt w b (l1 ++ (key,v0) :: l2)) (hkey : keyOf P kt key = some kl) (v : Value) :
  ∃ w',(Instr.mapUpdate t (.map (some b)) key v).run P w = .ok () w' ∧ MapAt P kt w' b (l1 ++ (key,v) :: l2) ∧ Mod [b] w w' ∧ w'.heap.size = w.heap.size:=by
 obtain ⟨es,clock,hb,hok⟩:=h
 rcases K.find w hkey es.toList hok.keys with ⟨_,h2⟩ | ⟨j,e0,h1,h2,h3⟩
 ·have hv : (key,v0) ∈ prs es:=by rw [hok.prs];simp
  obtain ⟨x,hx,hx2⟩:=List.mem_map.1 hv
  exact absurd (congrArg Prod.fst hx2) (h2 x hx)
 ·have hj : es[j]? = some e0:=by simpa using h2
  obtain ⟨rfl,-⟩:=split_at hok h2 h3
  have hkeyf : ∀ e',es[l1.length]? = some e' → ({ e' with key:=key,val:=v } : MapEntry).key = e'.key:=fun e' he' => by rw [hj] at he';cases he';exact h3.symm
  have hlist : (es.modify l1.length (fun e' => { e' with key:=key,val:=v })).toList = es.toList.set l1.length { e0 with key:=key,val:=v }:=by rw [Array.toList_modify,modify_eq_set _ _ _ _ h2]
  refine ⟨setBlock w b (.map (es.modify l1.length (fun e' => { e' with key:=key,val:=v })) clock),?_,⟨_,_,setBlock_same hb,stamped_modify hok.st _ _ (fun _ _ => rfl) (fun e' _ he' => hkeyf e' he'),?_,?_⟩,setBlock_mod _ _ _,setBlock_size _ _ _⟩
  ·simp [Instr.mapUpdate,run_underlying ht,MapKept.run_getObj_map hb,K.check w false hkey,h1,hj,h3,K.stays w hkey,MapKept.run_setObj_map _ hb,Result.andThen,setBlock]
  ·intro x hx
   rw [hlist] at hx
   rcases List.mem_or_eq_of_mem_set hx with hx | rfl
   ·exact hok.keys x hx
   ·exact ⟨kl,hkey⟩
  ·unfold Go.Proofs.YtoheblfpjinmnaaGreatDoor.prs
   rw [hlist,List.map_set]
   have:=hok.prs
   unfold Go.Proofs.YtoheblfpjinmnaaGreatDoor.prs at this
   rw [this,List.set_append_right _ _ (Nat.le_refl _),Nat.sub_self]
   rfl
def RangeAt (P : Program) (kt : TypeId) (w : World) (b r : Nat) (l todo : List (Value × Value)) : Prop :=
 ∃ es clock since seen c0,w.heap[b]? = some (.map es clock) ∧ EsOk P kt es clock l ∧ w.heap[r]? = some (.mapIter (some b) since seen c0) ∧ (∀ x ∈ es.toList,x.born < since) ∧ since ≤ c0 ∧ since ≤ clock ∧ prs (leftOf es seen) = todo
theorem RangeAt.mod {w' : World} {F : List Nat} {r : Nat} {todo : List (Value × Value)} (h : RangeAt P kt w b r l todo) (hm : Mod F w w') (hb : b ∉ F) (hr : r ∉ F) : RangeAt P kt w' b r l todo:=by
 obtain ⟨es,clock,since,seen,c0,h1,h2,h3,h4,h5,h7,h6⟩:=h
 exact ⟨es,clock,since,seen,c0,hm.keep h1 hb,h2,hm.keep h3 hr,h4,h5,h7,h6⟩
theorem MapAt.range (ht : P.underlying t = some (.map kt e)) (h : MapAt P kt w b l) :
  ∃ o,(Instr.range t (.map (some b))).run P w = .ok (.pointer (some ⟨w.heap.size,0,none⟩)) (w.alloc o) ∧ RangeAt P kt (w.alloc o) b w.heap.size l l:=by
 obtain ⟨es,clock,hb,hok⟩:=h
 refine ⟨_,run_range_map w t kt e b es clock ht hb,es,clock,clock,#[],clock,blk_alloc hb _,hok,(MapKept.heap_alloc w _).1,((stamped_iff es clock).1 hok.st).1,Nat.le_refl _,Nat.le_refl _,?_⟩
 rw [← hok.prs]
 unfold leftOf
 congr 1
 rw [Array.filter_eq_self]
 simp
theorem RangeAt.over {r : Nat} (h : RangeAt P kt w b r l []) (ty : TypeId) : (Instr.next (.pointer (some ⟨r,0,none⟩)) false ty).run P w = .ok (.tuple #[.bool false]) w:=by
 obtain ⟨es,clock,since,seen,c0,h1,h2,h3,h4,h5,h7,h6⟩:=h
 rcases run_next_at (P:=P) w ty r b since c0 seen es clock h3 h1 h4 h5 with ⟨_,hr⟩ | ⟨x,hx,_⟩
 ·exact hr
 ·have : (x.key,x.val) ∈ prs (leftOf es seen):=List.mem_map.2 ⟨x,hx,rfl⟩
  rw [h6] at this
  cases this
theorem RangeAt.next {r : Nat} {todo : List (Value × Value)} (h : RangeAt P kt w b r l todo) (hne : todo ≠ []) (ty : TypeId) :
  ∃ t1 p t2 w',todo = t1 ++ p :: t2 ∧ p ∈ l ∧ (Instr.next (.pointer (some ⟨r,0,none⟩)) false ty).run P w = .ok (.tuple #[.bool true,p.1,p.2]) w' ∧
   (Instr.entry (.pointer (some ⟨r,0,none⟩))).run P w' = .ok (.tuple #[p.1,p.2]) w' ∧ RangeAt P kt w' b r l (t1 ++ t2) ∧ Mod [r] w w' ∧ w'.heap.size = w.heap.size:=by
 obtain ⟨es,clock,since,seen,c0,h1,h2,h3,h4,h5,h7,h6⟩:=h
 have hbr : b ≠ r:=by rintro rfl;rw [h1] at h3;cases h3
 rcases run_next_at (P:=P) w ty r b since c0 seen es clock h3 h1 h4 h5 with ⟨h0,_⟩ | ⟨x,hx,w1,hw1,hr⟩
 ·have : leftOf es seen = #[]:=Array.eq_empty_of_size_eq_zero h0
  rw [this] at h6
  exact absurd h6.symm hne
 ·have hm1 : Mod [] w w1:=by
   rcases hw1 with rfl | rfl
   ·exact Mod.refl _ _
   ·exact (Mod.refl _ _).drew
  have hs1 : w1.heap.size = w.heap.size:=by rcases hw1 with rfl | rfl <;> rfl
  obtain ⟨hxe,hxs⟩:=mem_left hx
  have hst:=(stamped_iff es clock).1 h2.st
  obtain ⟨a,c,hac⟩:=List.append_of_mem hx
  have hnd : ((leftOf es seen).toList.map (·.born)).Nodup:=by
   unfold leftOf
   rw [Array.toList_filter]
   exact List.Nodup.sublist (List.Sublist.map _ List.filter_sublist) hst.2.1
  have hleft : (leftOf es (seen.push x.born)).toList = a ++ c:=by
   have e1 : (leftOf es (seen.push x.born)).toList = (leftOf es seen).toList.filter (fun y => !(y.born == x.born)):=by
    unfold leftOf
    rw [Array.toList_filter,Array.toList_filter,List.filter_filter]
    apply List.filter_congr
    intro y _
    rw [Array.contains_push]
    cases (y.born == x.born) <;> cases seen.contains y.born <;> rfl
   rw [e1,hac]
   rw [hac,List.map_append,List.map_cons] at hnd
   rw [List.nodup_append] at hnd
   obtain ⟨_,n2,n3⟩:=hnd
   rw [List.nodup_cons] at n2
   rw [List.filter_append,List.filter_cons]
   simp only [beq_self_eq_true,Bool.not_true,Bool.false_eq_true,if_false]
   congr 1
   ·rw [List.filter_eq_self]
    intro y hy
    have:=n3 y.born (List.mem_map.2 ⟨y,hy,rfl⟩) x.born (by simp)
    simpa using this
   ·rw [List.filter_eq_self]
    intro y hy
    have : y.born ≠ x.born:=fun e => n2.1 (by rw [← e];exact List.mem_map.2 ⟨y,hy,rfl⟩)
    simpa using this
  have h1' : (setBlock w1 r (.mapIter (some b) since (seen.push x.born) clock)).heap[b]? = some (.map es clock):=by rw [setBlock_ne hbr];exact hm1.keep h1 (by simp)
  have h3' : (setBlock w1 r (.mapIter (some b) since (seen.push x.born) clock)).heap[r]? = some (.mapIter (some b) since (seen.push x.born) clock):=setBlock_same (hm1.keep h3 (by simp))
  refine ⟨a.map (fun y => (y.key,y.val)),(x.key,x.val),c.map (fun y => (y.key,y.val)),_,?_,h2.mem hxe,hr,run_entry_at _ r b since seen es clock x h3' h1' hxe hst.2.1,⟨es,clock,since,seen.push x.born,clock,h1',h2,h3',h4,h7,h7,?_⟩,(hm1.mono (G:=[r]) (by simp)).trans (setBlock_mod _ _ _) (fun x hx => .inl hx),?_⟩
  ·rw [← h6];unfold prs;rw [hac];simp
  ·unfold prs;rw [hleft,List.map_append]
  ·rw [setBlock_size,hs1]
end
end Go.Proofs.YtoheblfpjinmnaaGreatDoor
namespace Go.Proofs.YtoheblfpjinmnaaGreatDoor
open Go Go.RowKit
structure FieldAt {α : Type} (enc : α → List Value) (E n : Nat) (w : World) (p o : Nat) (cs : Array Value) (T : TypeId) (v : Value) (l : List α) : Prop where
 blk : w.heap[p]? = some (.cells cs T (0,0))
 here : cs[o]? = some v
 row : w.ownsRow 0 E n v l.length (l.flatMap enc)
 ne : ∀ k,v.ownBlock = some k → k ≠ p
section
variable {α : Type} {enc : α → List Value} {E n : Nat} {w w' w1 w2 : World} {p o : Nat} {cs : Array Value} {T : TypeId} {v v' : Value} {l : List α}
theorem FieldAt.mod (h : FieldAt enc E n w p o cs T v l) {F : List Nat} (hm : Mod F w w') (hp : p ∉ F) (hv : ∀ k,v.ownBlock = some k → k ∉ F) : FieldAt enc E n w' p o cs T v l :=
 ⟨hm.keep h.blk hp,h.here,row_mod h.row hm hv,h.ne⟩
theorem FieldAt.cell (h : FieldAt enc E n w p o cs T v l) : w.cell? ⟨p,o,none⟩ = some v:=by rw [blk_cell h.blk];exact h.here
theorem FieldAt.lt (h : FieldAt enc E n w p o cs T v l) : p < w.heap.size:=blk_lt h.blk
structure FieldPost (enc : α → List Value) (E n : Nat) (w : World) (p o : Nat) (cs : Array Value) (T : TypeId) (v : Value) (l' : List α) (w' : World) : Prop where
 ex : ∃ v',FieldAt enc E n w' p o (cs.setIfInBounds o v') T v' l' ∧ (∀ k,v'.ownBlock = some k → v.ownBlock = some k ∨ w.heap.size ≤ k)
 mod : Mod (p :: v.ownBlock.toList) w w'
theorem field_grow (h : FieldAt enc E n w p o cs T v l) (hm : Mod [] w w1) {l' : List α} (hown : w2.ownsRow 0 E n v' l'.length (l'.flatMap enc)) (hg : w1.grownBy w2 v.ownBlock) (hloc : v'.ownBlock = v.ownBlock ∨ v'.ownBlock = some w1.heap.size) :
  FieldPost enc E n w p o cs T v l' (w2.setCell ⟨p,o,none⟩ v') ∧ w2.heap[p]? = some (.cells cs T (0,0)):=by
 have hpl:=blk_lt h.blk
 have hs:=hm.size
 have hm2 : Mod (p :: v.ownBlock.toList) w w2:=(hm.mono (G:=p :: v.ownBlock.toList) (by simp)).grown hg (fun k hk => .inl (by simp [hk]))
 have hp2 : w2.heap[p]? = some (.cells cs T (0,0)):=(hg.block p (by omega) (fun e => h.ne p e.symm rfl)).trans (hm.keep h.blk (by simp))
 have hvp : ∀ k,v'.ownBlock = some k → k ≠ p:=by
  intro k hk
  rcases hloc with e | e
  ·exact h.ne k (e.symm.trans hk)
  ·rw [e] at hk;cases hk;omega
 have hol : o < cs.size:=(Array.getElem?_eq_some_iff.1 h.here).1
 refine ⟨⟨⟨v',⟨blk_set hp2 o v',by simp [hol],row_mod hown ((Mod.refl [p] _).setCell (.inl (by simp)) _) (fun k hk => by simpa using hvp k hk),hvp⟩,?_⟩,hm2.setCell (.inl (by simp)) _⟩,hp2⟩
 intro k hk
 rcases hloc with e | e
 ·exact .inl (e.symm.trans hk)
 ·rw [e] at hk;cases hk;right;omega
end
def FieldRet {α : Type} (enc : α → List Value) (E n : Nat) (w : World) (p o : Nat) (cs : Array Value) (T : TypeId) (v : Value) (l' : List α) (r : Value) (e : Ending) (w' : World) : Prop:=e = .returned r ∧ FieldPost enc E n w p o cs T v l' w'
set_option maxRecDepth 20000 in
set_option maxHeartbeats 1000000 in
theorem colAdd_any (p o : Nat) (cs : Array Value) (T : TypeId) (v : Value) (l : List Int) (x : Int) (w : World) (h : FieldAt intC 3 1 w p o cs T v l) (hl : l.length ≤ 1200000000000) :
  Calls Tryz.prog 123 #[.pointer (some ⟨p,o,none⟩),.int .i64 x] w (FieldRet intC 3 1 w p o cs T v (l ++ [x]) (.tuple #[])):=by
 have hc:=h.cell
 have hlt:=h.lt
 obtain ⟨H,Hl⟩:=hid2 h hl
 clear h hl
 obtain ⟨A,cap,rfl,-,-⟩:=row_slice H.out.row
 go_enter Tryz.func123,Tryz.ntmps123
 go_wp2_with (at_builtin;refine app_rec (enc:=intC) (n:=1) (z:=.int .i64 0) (bytes:=8) rfl _ _ 22 3 rfl Tryz.underlying22 info_int rfl (by omega) (by omega) intC_one (fun _ => rfl) 0 _ l x ⟨w.heap.size,0,none⟩ 1 rfl (H.out.row.alloc _) rfl (new_rec (by simp) rfl) (by have:=Hl.out;omega) (Nat.zero_le _) ?_;intro v' w2 hown hg hloc;obtain ⟨A2,cap2,rfl,-,-⟩:=row_slice hown;have hk:=field_grow H.out ((Mod.refl [] w).alloc _) hown hg hloc;have hb2:=hk.2;have hk1:=hk.1;rw [List.length_append] at hk1;have HK:=Lib.hid hk1;have hf2:=blk_free hb2 o;have hc2:=blk_cell hb2 o;rw [H.out.here] at hc2;have hl2:=blk_lt hb2;clear hown hg hloc hk hk1 hb2)
 refine bodyPost_end (v:=.tuple #[]) ?_ rfl ?_
 ·unfold results;try go_simp
 ·exact ⟨rfl,HK.out⟩
attribute [local go_sem] AllFrom.cons_eq AllFrom.nil_eq putF_nil putF_cons wantedL_none wantedL_some OpGoalT OpGoalV OpGoalQ YieldsR preF_nil preF_cons
set_option maxRecDepth 20000 in
set_option maxHeartbeats 1000000 in
theorem hdlAdd_any (p o : Nat) (cs : Array Value) (T : TypeId) (v : Value) (l : List (Int × Int)) (s g : Int) (w : World) (h : FieldAt handleC 46 2 w p o cs T v l) (hl : l.length ≤ 1200000000000) :
  Calls Tryz.prog 122 #[.pointer (some ⟨p,o,none⟩),.agg #[.int .i64 s,.int .i64 g]] w (FieldRet handleC 46 2 w p o cs T v (l ++ [(s,g)]) (.tuple #[])):=by
 have hlt:=h.lt
 obtain ⟨H,Hl⟩:=hid2 h hl
 clear h hl
 obtain ⟨A,cap,rfl,-,-⟩:=row_slice H.out.row
 go_enter Tryz.func122,Tryz.ntmps122
 go_wp2
 obtain ⟨w0,hw0⟩ : ∃ w0,w.alloc (.cells #[.int .i64 s,.int .i64 g] 46) = w0:=⟨_,rfl⟩
 have hm0 : Mod [] w w0:=by rw [← hw0];exact (Mod.refl _ _).alloc _
 have hs0 : w0.heap.size = w.heap.size + 1:=by rw [← hw0];simp
 have hz0 : w0.heap[w.heap.size]? = some (.cells #[.int .i64 s,.int .i64 g] 46 (0,0)):=by rw [← hw0];exact heap_alloc_new w _
 rw [hw0]
 obtain ⟨HM0,HS0,HZ0⟩:=hid3 hm0 hs0 hz0
 have H0:=Lib.hid (H.out.mod hm0 (by simp) (by simp))
 clear hm0 hs0 hz0 hw0
 refine wp_planF 7 [0,1] [some 4,some 5,some 6,some 7,some 8,some 9,some 10,some 11,some 12,some 13,none] [[],[],[1],[1,2],[1,2,3],[],[5],[1,2,3,4,5,6],[0,1,2,3,4,5,6,7],[0,1,2,3,4,5,6,7,8],[0,1,2,3,4,5,6,7,8,9]] [0,1,2,3,4,5,6] 7 (fun vs => [isV (vs.getD 0 undef),isV (vs.getD 1 undef),isV (vs.getD 2 undef),isV (vs.getD 3 undef),isV (vs.getD 4 undef),isV (vs.getD 5 undef),(oneR w0.heap.size #[.int .i64 s,.int .i64 g] 46)])
  (fun _ _ W => Below w0.heap.size w0 W) mixed rfl (by kernel_rfl) (by decide) (by decide) (Below.refl _ _).drew rfl ?_
 iterate 7 apply Exists.intro
 refine ⟨?_,?_⟩
 ·simp only [tS,List.take_zero,AllFrom.cons_eq,AllFrom.nil_eq,OpGoalV]
  refine ⟨?_,?_,?_,?_,?_,?_,?_,trivial⟩
  all_goals (intro L' σ W h1 h2 h3 hI hp;clear h1 h2 h3;(try simp only [gZ,gS,preF_cons,preF_nil,isV,and_true] at hp);(first | (have hq : True:=hp;clear hq hp) | skip);have HI:=Lib.hid hI;clear hI)
  all_goals (
   have hf:=((H0.out.mod (Mod.ofBelow HI.out) (by simp) (by simp))).cell
   have hzk:=(Mod.ofBelow HI.out).keep HZ0.out (by simp)
   have q0:=blk_cell hzk 0
   have q1:=blk_cell hzk 1
   simp only [eA,eZ,eS] at q0 q1
   clear hzk)
  all_goals (first | (go_simp;exact ⟨rfl,HI.out,KeepAll.refl⟩) | (go_simp;exact ⟨oneR_new HI.out.size,HI.out.alloc HI.out.size _,KeepAll.ofStab (T:=Grow) (grow_alloc _ _) (by repeat (first | exact allStab_nil | refine allStab_isV ?_ | refine allStab_oneR ?_))⟩))
 ·intro L' σ W h1 hI hp
  clear h1
  simp only [gZ,gS,preF_cons,preF_nil,isV,and_true] at hp
  obtain ⟨s0,s1,s2,s3,s4,s5,s6⟩:=hp
  obtain ⟨HI,S6⟩:=hid2 hI s6
  have HW:=Lib.hid (HM0.out.trans (Mod.ofBelow hI) (by simp))
  clear hI s6
  simp only [dS,List.drop_zero]
  go_simp
  clear s0 s1 s2 s3 s4 s5
  generalize σ 6 = v6 at *
  go_wp2_with (at_builtin;refine app_oneR (enc:=handleC) (n:=2) (z:=.agg #[.int .i64 0,.int .i64 0]) (bytes:=16) rfl _ _ 127 46 rfl Tryz.underlying127 info_handle rfl (by omega) (by omega) handleC_one handleC_len 0 _ l (s,g) w0.heap.size #[.int .i64 s,.int .i64 g] 46 rfl (row_mod H.out.row HW.out (by simp)) S6.out rfl (by have:=Hl.out;omega) (Nat.zero_le _) ?_;intro v' w2 hown hg hloc;obtain ⟨A2,cap2,rfl,-,-⟩:=row_slice hown;have hk:=field_grow H.out HW.out hown hg hloc;have hb2:=hk.2;have hk1:=hk.1;rw [List.length_append] at hk1;have HK:=Lib.hid hk1;have hf2:=blk_free hb2 o;have hc2:=blk_cell hb2 o;rw [H.out.here] at hc2;have hl2:=blk_lt hb2;clear hown hg hloc hk hk1 hb2)
  refine ⟨rfl,?_⟩
  go_wp2
  refine bodyPost_end (v:=.tuple #[]) ?_ rfl ?_
  ·unfold results;try go_simp
  ·exact ⟨rfl,HK.out⟩
 all_goals exact undef
section
variable {α : Type} {enc : α → List Value} {E n : Nat} {w W : World} {p o : Nat} {cs : Array Value} {T : TypeId} {l : List α}
end
attribute [local go_sem] AllFrom.cons_eq AllFrom.nil_eq putF_nil putF_cons wantedL_none wantedL_some OpGoalT OpGoalV OpGoalQ YieldsR preF_nil preF_cons
end Go.Proofs.YtoheblfpjinmnaaGreatDoor
namespace Go.Proofs.YtoheblfpjinmnaaGreatDoor
open Go Go.RowKit
attribute [local go_sem] AllFrom.cons_eq AllFrom.nil_eq putF_nil putF_cons wantedL_none wantedL_some OpGoalT OpGoalV OpGoalQ YieldsR preF_nil preF_cons
end Go.Proofs.YtoheblfpjinmnaaGreatDoor
namespace Go.Proofs.YtoheblfpjinmnaaGreatDoor
open Go
def natKinds (m n : Nat) : List Nat:=(List.range n).filter fun k => m.testBit k
theorem natKinds_succ (m n : Nat) : natKinds m (n + 1) = natKinds m n ++ (if m.testBit n = true then [n] else []):=by
 unfold natKinds
 rw [List.range_succ,List.filter_append]
 congr 1
 cases h : m.testBit n <;> simp [h]
theorem natKinds_lt {m n k : Nat} (h : k ∈ natKinds m n) : k < n:=by
 unfold natKinds at h
 have:=(List.mem_filter.1 h).1
 simpa using this
theorem low8_nat (m : Nat) (h : m < 256) : low8 (m : Int) = m:=by unfold low8;omega
end Go.Proofs.YtoheblfpjinmnaaGreatDoor
