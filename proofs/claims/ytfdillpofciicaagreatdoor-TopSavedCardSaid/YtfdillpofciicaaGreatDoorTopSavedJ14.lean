import Derived.Test.YtfdillpofciicaaGreatDoorTopSavedJ12
set_option linter.unusedVariables false
set_option linter.unusedSimpArgs false
/- A part of the proof that TopSaved returns true. -/
namespace Go.Proofs.YtfdillpofciicaaGreatDoor
open Go Go.RowKit
theorem Turns.refl (F : List Nat) (w : World) : Turns w F F w:=⟨Mod.refl _ _,fun _ h => .inl h⟩
theorem Turns.trans {a b c : World} {F G H : List Nat} (h : Turns a F G b) (k : Turns b G H c) : Turns a F H c :=
 ⟨h.mod.trans k.mod h.new,fun x hx => by
  rcases k.new x hx with h1 | h1
  ·exact h.new x h1
  ·have:=h.mod.size;exact .inr (by omega)⟩
theorem Turns.below {a b c : World} {F G : List Nat} (h : Turns a F G b) (k : Below b.heap.size b c) : Turns a F G c:=⟨h.mod.andBelow k,h.new⟩
theorem Turns.ofBelow {a b : World} {F : List Nat} (k : Below a.heap.size a b) : Turns a F F b:=⟨(Mod.ofBelow k).mono (by simp),fun _ h => .inl h⟩
theorem Turns.after {a b c : World} {F G : List Nat} (k : Below a.heap.size a b) (h : Turns b F G c) : Turns a F G c:=(Turns.ofBelow k).trans h
section
variable {w : World} {p kn : Nat} {rows : List Rw} {F : List Nat}
theorem rt_new (kn : Nat) (hk : kn < 256) (w : World) : Calls Tryz.prog 144 #[.int .i64 (kn : Int)] w fun e w' => ∃ b F,e = .returned (.tuple #[.pointer (some ⟨b,0,none⟩),.int .i64 0]) ∧ RepT w' b kn [] F ∧ (∀ y ∈ F,w.heap.size ≤ y) ∧ Below w.heap.size w w':=by
 refine (new_ok kn hk w).mono ?_
 rintro e w1 ⟨b,m,cs,rfl,ht,hF,hb⟩
 exact ⟨b,_,rfl,⟨_,m,cs,_,ht,rfl⟩,hF,hb⟩
def RtPost (p kn : Nat) (rows : List Rw) (F : List Nat) (w : World) (r : Value) (e : Ending) (w' : World) : Prop:=e = .returned r ∧ ∃ F',RepT w' p kn rows F' ∧ Turns w F F' w'
theorem rt_add (h : RepT w p kn rows F) (hkn : kn < 256) (s g a0 a1 a2 a3 a4 a5 a6 a7 : Int) (hb : beastE (kn : Int) [a0,a1,a2,a3,a4,a5,a6,a7] = 0) (hl : rows.length < 1200000000000) :
  Calls Tryz.prog 145 #[.pointer (some ⟨p,0,none⟩),.agg #[.int .i64 s,.int .i64 g],.agg #[.int .i64 (kn : Int),.int .i64 a0,.int .i64 a1,.int .i64 a2,.int .i64 a3,.int .i64 a4,.int .i64 a5,.int .i64 a6,.int .i64 a7]] w
   (RtPost p kn (rows ++ [((s,g),(kn : Int),a0,a1,a2,a3,a4,a5,a6,a7)]) F w (.tuple #[.int .i64 (rows.length : Int),.int .i64 0])):=by
 obtain ⟨vh,m,cs,Fs,ht,rfl⟩:=h
 refine (add_ok ht s g a0 a1 a2 a3 a4 a5 a6 a7 hb (fun kc _ => by rw [List.length_map,List.length_map]) (by simpa using hl)).mono ?_
 rintro e w1 ⟨rfl,vh',Fs',ht',hy,hm⟩
 refine ⟨by rw [List.length_map],_,⟨vh',m,cs,Fs',?_,rfl⟩,hm,hy⟩
 have he:=colsR_app rows ((s,g),(kn : Int),a0,a1,a2,a3,a4,a5,a6,a7)
 rw [List.map_append]
 show TabAt _ _ _ _ (colsR (rows ++ [_])) _ _ _ _
 rw [he]
 exact ht'
theorem rt_row (h : RepT w p kn rows F) {i : Nat} {x : Rw} (hx : rows[i]? = some x) (hg : GoodR kn x) (hl : rows.length ≤ 1200000000000) :
  Calls Tryz.prog 85 #[.pointer (some ⟨p,0,none⟩),.int .i64 (i : Int)] w fun e w' => e = .returned (.tuple #[.agg (rwC x).toArray,.int .i64 0]) ∧ Below w.heap.size w w':=by
 obtain ⟨vh,m,cs,Fs,ht,rfl⟩:=h
 obtain ⟨hi,rfl⟩:=List.getElem?_eq_some_iff.1 hx
 refine (row_yes ht i (by simpa using hi) (fun kc _ => by rw [List.length_map,List.length_map]) (by simpa using hl)).mono ?_
 rintro e w1 ⟨rfl,hbl⟩
 refine ⟨?_,hbl⟩
 have:=rowI_good i hi hg
 rw [List.getElem_map]
 show Ending.returned (.tuple #[.agg (ints (rowI kn rows[i].1 fun k => (colsR rows k).getD i 0)).toArray,_]) = _
 rw [this];rfl
theorem rt_rem (h : RepT w p kn rows F) {i : Nat} {x : Rw} (hx : rows[i]? = some x) (hg : GoodR kn x) (hl : rows.length ≤ 1200000000000) :
  Calls Tryz.prog 154 #[.pointer (some ⟨p,0,none⟩),.int .i64 (i : Int)] w (RtPost p kn (remL rows i) F w (.tuple #[.agg (rwC x).toArray,.int .i64 0])):=by
 obtain ⟨vh,m,cs,Fs,ht,rfl⟩:=h
 obtain ⟨hi,rfl⟩:=List.getElem?_eq_some_iff.1 hx
 refine (remove_ok ht i (by simpa using hi) (fun kc _ => by rw [List.length_map,List.length_map]) (by simpa using hl)).mono ?_
 rintro e w1 ⟨rfl,vh',Fs',ht',hy,hm⟩
 refine ⟨?_,_,⟨vh',m,cs,Fs',?_,rfl⟩,hm,hy⟩
 ·have:=rowI_good i hi hg
  rw [List.getElem_map]
  show Ending.returned (.tuple #[.agg (ints (rowI kn rows[i].1 fun k => (colsR rows k).getD i 0)).toArray,_]) = _
  rw [this];rfl
 ·have he:=colsR_rem rows i
  rw [← remL_map]
  show TabAt _ _ _ _ (colsR (remL rows i)) _ _ _ _
  rw [he]
  exact ht'
theorem rt_set (h : RepT w p kn rows F) {i k : Nat} {x : Rw} (hx : rows[i]? = some x) (hk : k < 8) (hb : kn.testBit k = true) (n : Int) (hn : ¬ (n < -1000000000 ∨ 1000000000 < n)) (hl : rows.length ≤ 1200000000000) :
  Calls Tryz.prog 102 #[.pointer (some ⟨p,0,none⟩),.int .i64 (i : Int),.int .i64 (k : Int),.int .i64 n] w (RtPost p kn (rows.set i (rwSet x k n)) F w (.int .i64 0)):=by
 obtain ⟨vh,m,cs,Fs,ht,rfl⟩:=h
 obtain ⟨hi,rfl⟩:=List.getElem?_eq_some_iff.1 hx
 refine (set_any ht (i : Int) (k : Int) n (fun kc _ => by rw [List.length_map,List.length_map]) (by simpa using hl)).mono ?_
 rintro e w1 ⟨rfl,ht',hm⟩
 have hz : setE kn (i : Int) (rows.map (·.1)).length (k : Int) n = 0:=by
  unfold setE
  rw [if_neg (by rw [rowB_iff.2 ⟨i,rfl,by simpa using hi⟩];simp)]
  have : kindE kn (k : Int) = 0:=by unfold kindE;rw [if_neg (by omega),Int.toNat_natCast,if_pos hb]
  rw [this,if_neg (by simp),if_neg hn]
 rw [if_pos hz,Int.toNat_natCast,Int.toNat_natCast] at ht'
 refine ⟨by rw [hz],_,⟨vh,m,cs,Fs,?_,rfl⟩,hm,fun _ h => .inl h⟩
 rw [map_set_same rows i hi]
 show TabAt _ _ _ _ (colsR (rows.set i _)) _ _ _ _
 rw [colsR_set rows i hi k hk]
 exact ht'
theorem rt_handles (h : RepT w p kn rows F) (hl : rows.length ≤ 1200000000000) :
  Calls Tryz.prog 84 #[.pointer (some ⟨p,0,none⟩)] w (MadeR 47 2 handleC (rows.map (·.1)) w):=by
 obtain ⟨vh,m,cs,Fs,ht,rfl⟩:=h
 exact handles_any ht (by simpa using hl)
end
def plPr (x : Pl) : Value × Value:=(.int .i64 (x.1 : Int),.agg #[.int .i64 (x.2.1 : Int),.int .i64 (x.2.2 : Int)])
structure IntKeys {β : Type} (enc : Nat × β → Value × Value) : Prop where
 key : ∀ x,(enc x).1 = .int .i64 (x.1 : Int)
theorem plPr_keys : IntKeys plPr:=⟨fun _ => rfl⟩
theorem colPr_keys : IntKeys colPr:=⟨fun _ => rfl⟩
section
variable {β : Type} {enc : Nat × β → Value × Value} {w : World} {b : Nat} {l : List (Nat × β)} {t e : TypeId}
theorem MapAt.keysNodup (K : IntKeys enc) (h : MapAt Tryz.prog 3 w b (l.map enc)) : (l.map (·.1)).Nodup:=by
 obtain ⟨es,clock,hb,hok⟩:=h
 have:=hok.apart
 rw [List.pairwise_map] at this
 unfold List.Nodup
 rw [List.pairwise_map]
 refine this.imp fun {x y} hxy e => hxy ?_
 rw [K.key,K.key,e]
theorem key_ne (K : IntKeys enc) {s : Nat} (hs : ∀ x ∈ l,x.1 ≠ s) : ∀ p ∈ l.map enc,p.1 ≠ .int .i64 (s : Int):=by
 intro p hp e
 obtain ⟨x,hx,rfl⟩:=List.mem_map.1 hp
 rw [K.key] at e
 simp only [Value.int.injEq,true_and] at e
 exact hs x hx (by omega)
theorem mi_in (K : IntKeys enc) (ht : Tryz.prog.underlying t = some (.map 3 e)) (h : MapAt Tryz.prog 3 w b (l.map enc)) {s : Nat} (hs : s < 256) {v : β} (hm : (s,v) ∈ l) (c : Bool) :
  (Instr.lookup t (.map (some b)) (.int .i64 (s : Int)) c).run Tryz.prog w = .ok (if c then .tuple #[(enc (s,v)).2,.bool true] else (enc (s,v)).2) w :=
 h.look_in keyedInt ht (keyInt (inR_nat hs)) (by
  have : enc (s,v) ∈ l.map enc:=List.mem_map.2 ⟨_,hm,rfl⟩
  rw [show enc (s,v) = (.int .i64 (s : Int),(enc (s,v)).2) from Prod.ext (K.key _) rfl] at this
  exact this) c
theorem mi_put (K : IntKeys enc) (ht : Tryz.prog.underlying t = some (.map 3 e)) (h : MapAt Tryz.prog 3 w b (l.map enc)) {s : Nat} (hs : s < 256) (hn : ∀ x ∈ l,x.1 ≠ s) (v : β) :
  ∃ w',(Instr.mapUpdate t (.map (some b)) (.int .i64 (s : Int)) (enc (s,v)).2).run Tryz.prog w = .ok () w' ∧ MapAt Tryz.prog 3 w' b ((l ++ [(s,v)]).map enc) ∧ Mod [b] w w' ∧ w'.heap.size = w.heap.size:=by
 obtain ⟨w',h1,h2,h3⟩:=h.put_new keyedInt ht (keyInt (inR_nat hs)) (key_ne K hn) (enc (s,v)).2
 refine ⟨w',h1,?_,h3⟩
 rw [List.map_append]
 rw [show (List.map enc [(s,v)]) = [(.int .i64 (s : Int),(enc (s,v)).2)] from congrArg (· :: []) (Prod.ext (K.key _) rfl)]
 exact h2
theorem mi_set (K : IntKeys enc) (ht : Tryz.prog.underlying t = some (.map 3 e)) (h : MapAt Tryz.prog 3 w b (l.map enc)) {s : Nat} (hs : s < 256) {v0 : β} (hm : (s,v0) ∈ l) (v : β) :
  ∃ w',(Instr.mapUpdate t (.map (some b)) (.int .i64 (s : Int)) (enc (s,v)).2).run Tryz.prog w = .ok () w' ∧ MapAt Tryz.prog 3 w' b ((setPl l s v).map enc) ∧ Mod [b] w w' ∧ w'.heap.size = w.heap.size:=by
 obtain ⟨l1,l2,rfl,hne⟩:=pl_split (h.keysNodup K) hm
 rw [setPl_split hne]
 rw [List.map_append,List.map_cons,show enc (s,v0) = (.int .i64 (s : Int),(enc (s,v0)).2) from Prod.ext (K.key _) rfl] at h
 rw [List.map_append,List.map_cons,show enc (s,v) = (.int .i64 (s : Int),(enc (s,v)).2) from Prod.ext (K.key _) rfl]
 exact h.put_old keyedInt ht (keyInt (inR_nat hs)) (enc (s,v)).2
theorem mi_del {ty : TypeId} (K : IntKeys enc) (ht : Tryz.prog.underlying t = some (.map 3 e)) (h : MapAt Tryz.prog 3 w b (l.map enc)) {s : Nat} (hs : s < 256) {v0 : β} (hm : (s,v0) ∈ l) :
  ∃ w',(Builtin.delete_ #[t,3] ty #[.map (some b),.int .i64 (s : Int)]).run Tryz.prog w = .ok (.tuple #[]) w' ∧ MapAt Tryz.prog 3 w' b ((delPl l s).map enc) ∧ Mod [b] w w' ∧ w'.heap.size = w.heap.size:=by
 obtain ⟨l1,l2,rfl,hne⟩:=pl_split (h.keysNodup K) hm
 rw [delPl_split hne]
 rw [List.map_append,List.map_cons,show enc (s,v0) = (.int .i64 (s : Int),(enc (s,v0)).2) from Prod.ext (K.key _) rfl] at h
 rw [List.map_append]
 exact h.del_in keyedInt ht (keyInt (inR_nat hs))
end
structure WorldAt (w : World) (p ps mt mp : Nat) (sl : Sl) (tb : List (Nat × Nat)) (rw : Nat → List Rw) (pl : List Pl) (FS : List Nat) (Fs : Nat → List Nat) (c : Nat → Nat) : Prop where
 blk : w.heap[p]? = some (.cells #[.pointer (some ⟨ps,0,none⟩),.map (some mt),.map (some mp)] 115 (0,0))
 sl : RepS w ps sl FS
 tm : MapAt Tryz.prog 3 w mt (tb.map colPr)
 pm : MapAt Tryz.prog 3 w mp (pl.map plPr)
 tab : ∀ t ∈ tb,RepT w t.2 t.1 (rw t.1) (Fs t.1)
 cp : c p = 1
 cs : ∀ y ∈ FS,c y = 2
 ct : c mt = 3
 cm : c mp = 4
 cb : ∀ t ∈ tb,∀ y ∈ Fs t.1,c y = 5 + t.1
def wF (p mt mp : Nat) (tb : List (Nat × Nat)) (FS : List Nat) (Fs : Nat → List Nat) : List Nat:=p :: mt :: mp :: (FS ++ tb.flatMap fun t => Fs t.1)
theorem mem_wF {p mt mp : Nat} {tb : List (Nat × Nat)} {FS : List Nat} {Fs : Nat → List Nat} {y : Nat} : y ∈ wF p mt mp tb FS Fs ↔ y = p ∨ y = mt ∨ y = mp ∨ y ∈ FS ∨ ∃ t ∈ tb,y ∈ Fs t.1:=by
 unfold wF;simp only [List.mem_cons,List.mem_append,List.mem_flatMap]
def recol (c : Nat → Nat) (n k : Nat) (y : Nat) : Nat:=if y < n then c y else k
theorem recol_lt {c : Nat → Nat} {n k y : Nat} (h : y < n) : recol c n k y = c y:=if_pos h
theorem recol_ge {c : Nat → Nat} {n k y : Nat} (h : n ≤ y) : recol c n k y = k:=if_neg (by omega)
section
variable {w w1 w2 w' : World} {p ps mt mp : Nat} {sl : Sl} {tb : List (Nat × Nat)} {rw : Nat → List Rw} {pl : List Pl} {FS : List Nat} {Fs : Nat → List Nat} {c : Nat → Nat}
theorem WorldAt.lt (h : WorldAt w p ps mt mp sl tb rw pl FS Fs c) : ∀ y ∈ wF p mt mp tb FS Fs,y < w.heap.size:=by
 intro y hy
 rcases mem_wF.1 hy with rfl | rfl | rfl | hy | ⟨t,ht,hy⟩
 ·exact blk_lt h.blk
 ·exact h.tm.lt
 ·exact h.pm.lt
 ·exact h.sl.lt y hy
 ·exact (h.tab t ht).lt y hy
theorem WorldAt.mod (h : WorldAt w p ps mt mp sl tb rw pl FS Fs c) {G : List Nat} (hm : Mod G w w') (hd : ∀ y ∈ wF p mt mp tb FS Fs,y ∉ G) : WorldAt w' p ps mt mp sl tb rw pl FS Fs c :=
 ⟨hm.keep h.blk (hd _ (mem_wF.2 (.inl rfl))),h.sl.mod hm (fun y hy => hd y (mem_wF.2 (.inr (.inr (.inr (.inl hy)))))),h.tm.mod hm (hd _ (mem_wF.2 (.inr (.inl rfl)))),h.pm.mod hm (hd _ (mem_wF.2 (.inr (.inr (.inl rfl))))),
  fun t ht => (h.tab t ht).mod hm (fun y hy => hd y (mem_wF.2 (.inr (.inr (.inr (.inr ⟨t,ht,hy⟩)))))),h.cp,h.cs,h.ct,h.cm,h.cb⟩
theorem WorldAt.below (h : WorldAt w p ps mt mp sl tb rw pl FS Fs c) (hb : Below w.heap.size w w') : WorldAt w' p ps mt mp sl tb rw pl FS Fs c:=h.mod (Mod.ofBelow hb) (by simp)
theorem WorldAt.keys (h : WorldAt w p ps mt mp sl tb rw pl FS Fs c) : (tb.map (·.1)).Nodup:=h.tm.keysNodup colPr_keys
theorem WorldAt.one (h : WorldAt w p ps mt mp sl tb rw pl FS Fs c) {k b b' : Nat} (h1 : (k,b) ∈ tb) (h2 : (k,b') ∈ tb) : b = b':=key_one h.keys h1 h2
theorem WorldAt.turnTab (h : WorldAt w p ps mt mp sl tb rw pl FS Fs c) {k b : Nat} (hk : (k,b) ∈ tb) {rows : List Rw} {F' : List Nat} (ht : RepT w' b k rows F') (hm : Turns w (Fs k) F' w') :
  WorldAt w' p ps mt mp sl tb (updL rw k rows) pl FS (updL Fs k F') (recol c w.heap.size (5 + k)) ∧ Turns w (wF p mt mp tb FS Fs) (wF p mt mp tb FS (updL Fs k F')) w':=by
 have hlt:=h.lt
 have hck : ∀ y ∈ Fs k,c y = 5 + k:=h.cb _ hk
 have hkeep : ∀ y ∈ wF p mt mp tb FS Fs,c y ≠ 5 + k → y ∉ Fs k:=fun y _ hne hy => hne (hck y hy)
 have l0:=hlt p (mem_wF.2 (.inl rfl));have l1:=hlt mt (mem_wF.2 (.inr (.inl rfl)));have l2:=hlt mp (mem_wF.2 (.inr (.inr (.inl rfl))))
 refine ⟨⟨hm.mod.keep h.blk (fun e => by have:=hck _ e;rw [h.cp] at this;omega),h.sl.mod hm.mod (fun y hy e => by have:=hck _ e;rw [h.cs y hy] at this;omega),h.tm.mod hm.mod (fun e => by have:=hck _ e;rw [h.ct] at this;omega),h.pm.mod hm.mod (fun e => by have:=hck _ e;rw [h.cm] at this;omega),?_,
  by rw [recol_lt l0];exact h.cp,fun y hy => by rw [recol_lt (h.sl.lt y hy)];exact h.cs y hy,by rw [recol_lt l1];exact h.ct,by rw [recol_lt l2];exact h.cm,?_⟩,?_,?_⟩
 ·rintro ⟨j,b'⟩ hj
  by_cases e : j = k
  ·subst e
   have:=h.one hj hk
   subst this
   simp only [updL_same];exact ht
  ·simp only [updL_ne _ _ e]
   exact (h.tab _ hj).mod hm.mod (fun y hy e2 => by have h1:=hck _ e2;have h2:=h.cb _ hj y hy;simp only at h2;omega)
 ·rintro ⟨j,b'⟩ hj y hy
  by_cases e : j = k
  ·subst e
   simp only [updL_same] at hy
   rcases hm.new y hy with h1 | h1
   ·rw [recol_lt ((h.tab _ hk).lt y h1)];exact hck y h1
   ·rw [recol_ge h1]
  ·simp only [updL_ne _ _ e] at hy
   rw [recol_lt ((h.tab _ hj).lt y hy)];exact h.cb _ hj y hy
 ·exact hm.mod.mono fun x hx => .inl (mem_wF.2 (.inr (.inr (.inr (.inr ⟨_,hk,hx⟩)))))
 ·intro y hy
  rcases mem_wF.1 hy with h1 | h1 | h1 | h1 | ⟨⟨j,b'⟩,hj,h1⟩
  ·exact .inl (mem_wF.2 (.inl h1))
  ·exact .inl (mem_wF.2 (.inr (.inl h1)))
  ·exact .inl (mem_wF.2 (.inr (.inr (.inl h1))))
  ·exact .inl (mem_wF.2 (.inr (.inr (.inr (.inl h1)))))
  ·by_cases e : j = k
   ·subst e
    simp only [updL_same] at h1
    rcases hm.new y h1 with h2 | h2
    ·exact .inl (mem_wF.2 (.inr (.inr (.inr (.inr ⟨_,hk,h2⟩)))))
    ·exact .inr h2
   ·simp only [updL_ne _ _ e] at h1
    exact .inl (mem_wF.2 (.inr (.inr (.inr (.inr ⟨_,hj,h1⟩)))))
theorem WorldAt.turnPl (h : WorldAt w p ps mt mp sl tb rw pl FS Fs c) {pl' : List Pl} (hp : MapAt Tryz.prog 3 w' mp (pl'.map plPr)) (hm : Mod [mp] w w') :
  WorldAt w' p ps mt mp sl tb rw pl' FS Fs c ∧ Turns w (wF p mt mp tb FS Fs) (wF p mt mp tb FS Fs) w':=by
 have hno : ∀ y,c y ≠ 4 → y ∉ [mp]:=fun y hy e => by simp at e;subst e;exact hy h.cm
 refine ⟨⟨hm.keep h.blk (hno _ (by rw [h.cp];omega)),h.sl.mod hm (fun y hy => hno _ (by rw [h.cs y hy];omega)),h.tm.mod hm (hno _ (by rw [h.ct];omega)),hp,fun t ht => (h.tab t ht).mod hm (fun y hy => hno _ (by rw [h.cb t ht y hy];omega)),h.cp,h.cs,h.ct,h.cm,h.cb⟩,
  hm.mono fun x hx => .inl (by simp at hx;subst hx;exact mem_wF.2 (.inr (.inr (.inl rfl)))),fun _ h => .inl h⟩
theorem WorldAt.addTab (h : WorldAt w p ps mt mp sl tb rw pl FS Fs c) (hb : Below w.heap.size w w1) {k b : Nat} {rows : List Rw} {F : List Nat} (ht : RepT w1 b k rows F) (hF : ∀ y ∈ F,w.heap.size ≤ y) (hk : ∀ t ∈ tb,t.1 ≠ k)
  (hmap : MapAt Tryz.prog 3 w2 mt ((tb ++ [(k,b)]).map colPr)) (hm : Mod [mt] w1 w2) :
  WorldAt w2 p ps mt mp sl (tb ++ [(k,b)]) (updL rw k rows) pl FS (updL Fs k F) (recol c w.heap.size (5 + k)) ∧ Turns w (wF p mt mp tb FS Fs) (wF p mt mp (tb ++ [(k,b)]) FS (updL Fs k F)) w2:=by
 have hlt:=h.lt
 have h1:=h.below hb
 have hno : ∀ y,c y ≠ 3 → y ∉ [mt]:=fun y hy e => by simp at e;subst e;exact hy h.ct
 have l0:=hlt p (mem_wF.2 (.inl rfl));have l1:=hlt mt (mem_wF.2 (.inr (.inl rfl)));have l2:=hlt mp (mem_wF.2 (.inr (.inr (.inl rfl))))
 refine ⟨⟨hm.keep h1.blk (hno _ (by rw [h.cp];omega)),h1.sl.mod hm (fun y hy => hno _ (by rw [h.cs y hy];omega)),hmap,h1.pm.mod hm (hno _ (by rw [h.cm];omega)),?_,
  by rw [recol_lt l0];exact h.cp,fun y hy => by rw [recol_lt (h.sl.lt y hy)];exact h.cs y hy,by rw [recol_lt l1];exact h.ct,by rw [recol_lt l2];exact h.cm,?_⟩,?_,?_⟩
 ·intro t hj
  rcases List.mem_append.1 hj with hj | hj
  ·rw [updL_ne _ _ (hk t hj),updL_ne _ _ (hk t hj)]
   exact (h1.tab t hj).mod hm (fun y hy => hno _ (by rw [h.cb t hj y hy];omega))
  ·simp at hj;subst hj
   simp only [updL_same]
   exact ht.mod hm (fun y hy e => by simp at e;have:=hF y hy;omega)
 ·intro t hj y hy
  rcases List.mem_append.1 hj with hj | hj
  ·rw [updL_ne _ _ (hk t hj)] at hy
   rw [recol_lt ((h.tab t hj).lt y hy)];exact h.cb t hj y hy
  ·simp at hj;subst hj
   simp only [updL_same] at hy
   rw [recol_ge (hF y hy)]
 ·exact ((Mod.ofBelow hb).mono (by simp)).trans hm (fun x hx => .inl (by simp at hx;subst hx;exact mem_wF.2 (.inr (.inl rfl))))
 ·intro y hy
  rcases mem_wF.1 hy with h1 | h1 | h1 | h1 | ⟨t,hj,h1⟩
  ·exact .inl (mem_wF.2 (.inl h1))
  ·exact .inl (mem_wF.2 (.inr (.inl h1)))
  ·exact .inl (mem_wF.2 (.inr (.inr (.inl h1))))
  ·exact .inl (mem_wF.2 (.inr (.inr (.inr (.inl h1)))))
  ·rcases List.mem_append.1 hj with hj | hj
   ·rw [updL_ne _ _ (hk t hj)] at h1
    exact .inl (mem_wF.2 (.inr (.inr (.inr (.inr ⟨t,hj,h1⟩)))))
   ·simp at hj;subst hj
    simp only [updL_same] at h1
    exact .inr (hF y h1)
theorem WorldAt.delTab (h : WorldAt w p ps mt mp sl tb rw pl FS Fs c) {k : Nat} (hmap : MapAt Tryz.prog 3 w' mt ((delPl tb k).map colPr)) (hm : Mod [mt] w w') :
  WorldAt w' p ps mt mp sl (delPl tb k) rw pl FS Fs c ∧ Turns w (wF p mt mp tb FS Fs) (wF p mt mp (delPl tb k) FS Fs) w':=by
 have hno : ∀ y,c y ≠ 3 → y ∉ [mt]:=fun y hy e => by simp at e;subst e;exact hy h.ct
 refine ⟨⟨hm.keep h.blk (hno _ (by rw [h.cp];omega)),h.sl.mod hm (fun y hy => hno _ (by rw [h.cs y hy];omega)),hmap,h.pm.mod hm (hno _ (by rw [h.cm];omega)),fun t ht => (h.tab t (mem_delPl.1 ht).1).mod hm (fun y hy => hno _ (by rw [h.cb t (mem_delPl.1 ht).1 y hy];omega)),h.cp,h.cs,h.ct,h.cm,fun t ht => h.cb t (mem_delPl.1 ht).1⟩,
  hm.mono fun x hx => .inl (by simp at hx;subst hx;exact mem_wF.2 (.inr (.inl rfl))),?_⟩
 intro y hy
 rcases mem_wF.1 hy with h1 | h1 | h1 | h1 | ⟨t,hj,h1⟩
 ·exact .inl (mem_wF.2 (.inl h1))
 ·exact .inl (mem_wF.2 (.inr (.inl h1)))
 ·exact .inl (mem_wF.2 (.inr (.inr (.inl h1))))
 ·exact .inl (mem_wF.2 (.inr (.inr (.inr (.inl h1)))))
 ·exact .inl (mem_wF.2 (.inr (.inr (.inr (.inr ⟨t,(mem_delPl.1 hj).1,h1⟩)))))
theorem WorldAt.turnSl (h : WorldAt w p ps mt mp sl tb rw pl FS Fs c) {sl' : Sl} {FS' : List Nat} (hs : RepS w' ps sl' FS') (hm : Turns w FS FS' w') :
  WorldAt w' p ps mt mp sl' tb rw pl FS' Fs (recol c w.heap.size 2) ∧ Turns w (wF p mt mp tb FS Fs) (wF p mt mp tb FS' Fs) w':=by
 have hlt:=h.lt
 have hno : ∀ y,c y ≠ 2 → y ∉ FS:=fun y hy e => hy (h.cs y e)
 have l0:=hlt p (mem_wF.2 (.inl rfl));have l1:=hlt mt (mem_wF.2 (.inr (.inl rfl)));have l2:=hlt mp (mem_wF.2 (.inr (.inr (.inl rfl))))
 refine ⟨⟨hm.mod.keep h.blk (hno _ (by rw [h.cp];omega)),hs,h.tm.mod hm.mod (hno _ (by rw [h.ct];omega)),h.pm.mod hm.mod (hno _ (by rw [h.cm];omega)),fun t ht => (h.tab t ht).mod hm.mod (fun y hy => hno _ (by rw [h.cb t ht y hy];omega)),
  by rw [recol_lt l0];exact h.cp,?_,by rw [recol_lt l1];exact h.ct,by rw [recol_lt l2];exact h.cm,fun t ht y hy => by rw [recol_lt ((h.tab t ht).lt y hy)];exact h.cb t ht y hy⟩,hm.mod.mono fun x hx => .inl (mem_wF.2 (.inr (.inr (.inr (.inl hx))))),?_⟩
 ·intro y hy
  rcases hm.new y hy with h1 | h1
  ·rw [recol_lt (h.sl.lt y h1)];exact h.cs y h1
  ·rw [recol_ge h1]
 ·intro y hy
  rcases mem_wF.1 hy with h1 | h1 | h1 | h1 | ⟨t,hj,h1⟩
  ·exact .inl (mem_wF.2 (.inl h1))
  ·exact .inl (mem_wF.2 (.inr (.inl h1)))
  ·exact .inl (mem_wF.2 (.inr (.inr (.inl h1))))
  ·rcases hm.new y h1 with h2 | h2
   ·exact .inl (mem_wF.2 (.inr (.inr (.inr (.inl h2)))))
   ·exact .inr h2
  ·exact .inl (mem_wF.2 (.inr (.inr (.inr (.inr ⟨t,hj,h1⟩)))))
end
def WPost (p ps mt mp : Nat) (sl : Sl) (tb : List (Nat × Nat)) (rw : Nat → List Rw) (pl : List Pl) (F : List Nat) (w : World) (r : Value) (e : Ending) (w' : World) : Prop :=
 e = .returned r ∧ ∃ FS Fs c,WorldAt w' p ps mt mp sl tb rw pl FS Fs c ∧ Turns w F (wF p mt mp tb FS Fs) w'
attribute [local go_sem] AllFrom.cons_eq AllFrom.nil_eq putF_nil putF_cons wantedL_none wantedL_some OpGoalT OpGoalV OpGoalQ YieldsR preF_nil preF_cons
theorem zeroTab (w : World) : (zeroValue 154).run Tryz.prog w = .ok (.pointer none) w:=by kernel_rfl
theorem updL_twice {α : Type} (f : Nat → α) (k : Nat) (x y : α) : updL (updL f k x) k y = updL f k y:=by funext j;unfold updL;split <;> rfl
theorem below_drew {w : World} : Below w.heap.size w w.drew:=(Below.refl _ _).drew
section
variable {w : World} {p ps mt mp : Nat} {sl : Sl} {tb : List (Nat × Nat)} {rw : Nat → List Rw} {pl : List Pl} {FS : List Nat} {Fs : Nat → List Nat} {c : Nat → Nat}
set_option maxRecDepth 20000 in
set_option maxHeartbeats 4000000 in
theorem lay_old (h : WorldAt w p ps mt mp sl tb rw pl FS Fs c) (s : Nat) (g : Int) (kn b : Nat) (a0 a1 a2 a3 a4 a5 a6 a7 : Int) (hk : (kn,b) ∈ tb) (hkn : kn < 256) (hbe : beastE (kn : Int) [a0,a1,a2,a3,a4,a5,a6,a7] = 0)
  (hs : s < 256) (hn : ∀ x ∈ pl,x.1 ≠ s) (hl : (rw kn).length < 1200000000000) :
  Calls Tryz.prog 94 #[.pointer (some ⟨p,0,none⟩),.agg #[.int .i64 (s : Int),.int .i64 g],.agg #[.int .i64 (kn : Int),.int .i64 a0,.int .i64 a1,.int .i64 a2,.int .i64 a3,.int .i64 a4,.int .i64 a5,.int .i64 a6,.int .i64 a7]] w
   (WPost p ps mt mp sl tb (updL rw kn (rw kn ++ [(((s : Int),g),(kn : Int),a0,a1,a2,a3,a4,a5,a6,a7)])) (pl ++ [(s,kn,(rw kn).length)]) (wF p mt mp tb FS Fs) w (.tuple #[])):=by
 obtain ⟨w0,hw0⟩ : ∃ w0,(w.alloc (.cells #[.int .i64 (s : Int),.int .i64 g] 47)).alloc (.cells #[.int .i64 (kn : Int),.int .i64 a0,.int .i64 a1,.int .i64 a2,.int .i64 a3,.int .i64 a4,.int .i64 a5,.int .i64 a6,.int .i64 a7] 45) = w0:=⟨_,rfl⟩
 have hb0 : Below w.heap.size w w0:=by rw [← hw0];exact ((Below.refl _ _).alloc (Nat.le_refl _) _).alloc (by simp) _
 have hz0 : w0.heap[w.heap.size]? = some (.cells #[.int .i64 (s : Int),.int .i64 g] 47 (0,0)):=by rw [← hw0];exact blk_alloc (heap_alloc_new w _) _
 have hz1 : w0.heap[w.heap.size + 1]? = some (.cells #[.int .i64 (kn : Int),.int .i64 a0,.int .i64 a1,.int .i64 a2,.int .i64 a3,.int .i64 a4,.int .i64 a5,.int .i64 a6,.int .i64 a7] 45 (0,0)):=by
  rw [← hw0];have:=heap_alloc_new (w.alloc (.cells #[.int .i64 (s : Int),.int .i64 g] 47)) (.cells #[.int .i64 (kn : Int),.int .i64 a0,.int .i64 a1,.int .i64 a2,.int .i64 a3,.int .i64 a4,.int .i64 a5,.int .i64 a6,.int .i64 a7] 45);simpa using this
 have h0:=h.below hb0
 have h0d:=h0.below below_drew
 have hlk:=mi_in colPr_keys Tryz.underlying112 h0d.tm hkn hk true
 simp only [colPr,if_true] at hlk
 have e0:=blk_cell h0.blk 1
 simp only [eA,eZ,eS] at e0
 have hpl:=blk_lt h0.blk
 obtain ⟨q0,q1,ql⟩:=cells2 hz0
 obtain ⟨r0,r1,r2,r3,r4,r5,r6,r7,r8,rl⟩:=cells9 hz1
 have H1:=Lib.hid (rt_add (h0d.tab _ hk) hkn (s : Int) g a0 a1 a2 a3 a4 a5 a6 a7 hbe hl)
 have hltw:=h.lt
 obtain ⟨H,Hb0,Hz0,Hz1,H0,H0d,Hltw,Hk,Hn,Hs⟩:=hid10 h hb0 hz0 hz1 h0 h0d hltw hk hn hs
 clear h hb0 hz0 hz1 h0 h0d hltw hk hn hs
 clear hbe hl
 go_enter Tryz.func94,Tryz.ntmps94
 go_wp2_with fail
 clear hw0
 refine wp_planR 12 [0] [some 11,some 12,some 13,some 14,some 15,some 16,some 17,some 10,some 18,some 19,some 6,some 7] [[],[0],[0,1],[0,1,2],[],[4],[0,1,2,3,4,5],[0,1,2,3,4,5,6],[0,1,2,3,4,5,6,7],[0,1,2,3,4,5,6,7],[0,1,2,3,4,5,6,7,8],[0,1,2,3,4,5,6,7,8,9,10]] [0,1,2,3,4,5,6,7,8,9,10,11] mixed rfl (by kernel_rfl) (by decide) (by decide) rfl ?_
 iterate 12 apply Exists.intro
 refine ⟨rfl,?_,?_⟩
 ·simp only [tS,List.take_zero,AllFrom.cons_eq,AllFrom.nil_eq,OpGoalQ]
  refine ⟨?_,?_,?_,?_,?_,?_,?_,?_,?_,?_,?_,?_,trivial⟩
  all_goals (intro σ hp;(try simp only [gZ,gS,mC,mN,preF_cons,preF_nil,isV,and_true] at hp);(first | (have hq : True:=hp;clear hq hp) | skip))
  all_goals (go_simp;exact ⟨rfl,rfl⟩)
 intro σ hp
 simp only [gZ,gS,mC,mN,preF_cons,preF_nil,isV,and_true] at hp
 simp only [dS,List.drop_zero]
 go_simp
 clear hp
 refine ⟨rfl,?_⟩
 go_wp2_with fail
 refine H1.out.mono ?_
 rintro e w2 ⟨rfl,F2,ht2,htu⟩
 obtain ⟨h2,hT2⟩:=H0d.out.turnTab Hk.out ht2 htu
 have hd2 : ∀ y,w.heap.size ≤ y → y ∉ Fs kn:=fun y hy e => by have:=Hltw.out y (mem_wF.2 (.inr (.inr (.inr (.inr ⟨_,Hk.out,e⟩)))));omega
 have hz2:=htu.mod.keep (blk_drew Hz0.out) (hd2 _ (Nat.le_refl _))
 have hz3:=htu.mod.keep (blk_drew Hz1.out) (hd2 _ (by omega))
 have e0:=blk_cell h2.blk 2
 simp only [eA,eZ,eS] at e0
 have hpl:=blk_lt h2.blk
 obtain ⟨q0,q1,ql⟩:=cells2 hz2
 obtain ⟨r0,r1,r2,r3,r4,r5,r6,r7,r8,rl⟩:=cells9 hz3
 have h2d:=h2.below below_drew
 obtain ⟨w4,hrun,hmap,hmod,hsz⟩:=mi_put plPr_keys Tryz.underlying113 h2d.pm Hs.out Hn.out (kn,(rw kn).length)
 simp only [plPr] at hrun
 obtain ⟨h4,hT4⟩:=h2d.turnPl hmap hmod
 have hT:=(((Turns.after Hb0.out (Turns.ofBelow below_drew)).trans hT2).trans (Turns.ofBelow below_drew)).trans hT4
 obtain ⟨H4,HT⟩:=hid2 h4 hT
 clear h4 hT
 clear ht2 htu h2 hT2 hd2 hz2 hz3 h2d hmap hmod hT4 hsz
 go_wp2_with fail
 refine wp_planR 10 [0,8] [some 42,some 43,some 44,some 45,some 46,some 47,some 48,some 49,some 50,some 51,none] [[],[0],[0,1],[0,1,2],[],[4],[],[6],[],[6,7,8],[0,1,2,3,4,5,6,7,8,9]] [0,1,2,3,4,5,6,7,8,9] mixed rfl (by kernel_rfl) (by decide) (by decide) rfl ?_
 iterate 10 apply Exists.intro
 refine ⟨rfl,?_,?_⟩
 ·simp only [tS,List.take_zero,AllFrom.cons_eq,AllFrom.nil_eq,OpGoalQ]
  refine ⟨?_,?_,?_,?_,?_,?_,?_,?_,?_,?_,trivial⟩
  all_goals (intro σ hp;(try simp only [gZ,gS,mC,mN,preF_cons,preF_nil,isV,and_true] at hp);(first | (have hq : True:=hp;clear hq hp) | skip))
  all_goals (go_simp;exact ⟨rfl,rfl⟩)
 intro σ hp
 simp only [gZ,gS,mC,mN,preF_cons,preF_nil,isV,and_true] at hp
 simp only [dS,List.drop_zero]
 go_simp
 clear hp
 go_wp2
 refine ⟨rfl,?_⟩
 go_wp2
 refine bodyPost_end (v:=.tuple #[]) ?_ rfl ?_
 ·unfold results;try go_simp
 ·exact ⟨rfl,_,_,_,H4.out,HT.out⟩
 all_goals exact undef
set_option maxRecDepth 20000 in
set_option maxHeartbeats 4000000 in
theorem lay_new (h : WorldAt w p ps mt mp sl tb rw pl FS Fs c) (s : Nat) (g : Int) (kn : Nat) (a0 a1 a2 a3 a4 a5 a6 a7 : Int) (hk : ∀ t ∈ tb,t.1 ≠ kn) (hkn : kn < 256) (hbe : beastE (kn : Int) [a0,a1,a2,a3,a4,a5,a6,a7] = 0)
  (hs : s < 256) (hn : ∀ x ∈ pl,x.1 ≠ s) :
  Calls Tryz.prog 94 #[.pointer (some ⟨p,0,none⟩),.agg #[.int .i64 (s : Int),.int .i64 g],.agg #[.int .i64 (kn : Int),.int .i64 a0,.int .i64 a1,.int .i64 a2,.int .i64 a3,.int .i64 a4,.int .i64 a5,.int .i64 a6,.int .i64 a7]] w
   (fun e w' => ∃ b,WPost p ps mt mp sl (tb ++ [(kn,b)]) (updL rw kn [(((s : Int),g),(kn : Int),a0,a1,a2,a3,a4,a5,a6,a7)]) (pl ++ [(s,kn,0)]) (wF p mt mp tb FS Fs) w (.tuple #[]) e w'):=by
 obtain ⟨w0,hw0⟩ : ∃ w0,(w.alloc (.cells #[.int .i64 (s : Int),.int .i64 g] 47)).alloc (.cells #[.int .i64 (kn : Int),.int .i64 a0,.int .i64 a1,.int .i64 a2,.int .i64 a3,.int .i64 a4,.int .i64 a5,.int .i64 a6,.int .i64 a7] 45) = w0:=⟨_,rfl⟩
 have hb0 : Below w.heap.size w w0:=by rw [← hw0];exact ((Below.refl _ _).alloc (Nat.le_refl _) _).alloc (by simp) _
 have hz0 : w0.heap[w.heap.size]? = some (.cells #[.int .i64 (s : Int),.int .i64 g] 47 (0,0)):=by rw [← hw0];exact blk_alloc (heap_alloc_new w _) _
 have hz1 : w0.heap[w.heap.size + 1]? = some (.cells #[.int .i64 (kn : Int),.int .i64 a0,.int .i64 a1,.int .i64 a2,.int .i64 a3,.int .i64 a4,.int .i64 a5,.int .i64 a6,.int .i64 a7] 45 (0,0)):=by
  rw [← hw0];have:=heap_alloc_new (w.alloc (.cells #[.int .i64 (s : Int),.int .i64 g] 47)) (.cells #[.int .i64 (kn : Int),.int .i64 a0,.int .i64 a1,.int .i64 a2,.int .i64 a3,.int .i64 a4,.int .i64 a5,.int .i64 a6,.int .i64 a7] 45);simpa using this
 have h0:=h.below hb0
 have h0d:=h0.below below_drew
 have hlk:=h0d.tm.look_out keyedInt Tryz.underlying112 (zeroTab _) (keyInt (inR_nat hkn)) (key_ne colPr_keys hk) true
 simp only [if_true] at hlk
 have e0:=blk_cell h0.blk 1
 simp only [eA,eZ,eS] at e0
 have hpl:=blk_lt h0.blk
 obtain ⟨q0,q1,ql⟩:=cells2 hz0
 obtain ⟨r0,r1,r2,r3,r4,r5,r6,r7,r8,rl⟩:=cells9 hz1
 have HN:=Lib.hid (rt_new kn hkn);have Hkn:=Lib.hid hkn;have Hbe:=Lib.hid hbe
 have hltw:=h.lt
 obtain ⟨H,Hb0,Hz0,Hz1,H0,H0d,Hltw,Hk,Hn,Hs⟩:=hid10 h hb0 hz0 hz1 h0 h0d hltw hk hn hs
 clear h hb0 hz0 hz1 h0 h0d hltw hk hn hs
 clear hbe hkn
 go_enter Tryz.func94,Tryz.ntmps94
 go_wp2_with fail
 clear hw0
 refine wp_planR 12 [0] [some 11,some 12,some 13,some 14,some 15,some 16,some 17,some 10,some 18,some 19,some 6,some 7] [[],[0],[0,1],[0,1,2],[],[4],[0,1,2,3,4,5],[0,1,2,3,4,5,6],[0,1,2,3,4,5,6,7],[0,1,2,3,4,5,6,7],[0,1,2,3,4,5,6,7,8],[0,1,2,3,4,5,6,7,8,9,10]] [0,1,2,3,4,5,6,7,8,9,10,11] mixed rfl (by kernel_rfl) (by decide) (by decide) rfl ?_
 iterate 12 apply Exists.intro
 refine ⟨rfl,?_,?_⟩
 ·simp only [tS,List.take_zero,AllFrom.cons_eq,AllFrom.nil_eq,OpGoalQ]
  refine ⟨?_,?_,?_,?_,?_,?_,?_,?_,?_,?_,?_,?_,trivial⟩
  all_goals (intro σ hp;(try simp only [gZ,gS,mC,mN,preF_cons,preF_nil,isV,and_true] at hp);(first | (have hq : True:=hp;clear hq hp) | skip))
  all_goals (go_simp;exact ⟨rfl,rfl⟩)
 intro σ hp
 simp only [gZ,gS,mC,mN,preF_cons,preF_nil,isV,and_true] at hp
 simp only [dS,List.drop_zero]
 go_simp
 clear hp
 refine ⟨rfl,?_⟩
 go_wp2_with fail
 refine (HN.out _).mono ?_
 rintro e w1 ⟨b,F1,rfl,ht1,hF1,hb1⟩
 have hb01 : Below w0.heap.size w0 w1:=below_drew.trans (hb1.mono (Nat.le_refl _))
 have hz0:=(Mod.ofBelow hb01).keep Hz0.out (by simp)
 have hz1:=(Mod.ofBelow hb01).keep Hz1.out (by simp)
 have h1:=H0.out.below hb01
 have e0:=blk_cell h1.blk 1
 simp only [eA,eZ,eS] at e0
 have hpl:=blk_lt h1.blk
 obtain ⟨q0,q1,ql⟩:=cells2 hz0
 obtain ⟨r0,r1,r2,r3,r4,r5,r6,r7,r8,rl⟩:=cells9 hz1
 obtain ⟨w2,hrun,hmap,hmod,hsz⟩:=mi_put colPr_keys Tryz.underlying112 (h1.below below_drew).tm Hkn.out Hk.out b
 simp only [colPr] at hrun
 obtain ⟨h2,hT2⟩:=H0.out.addTab (hb01.trans (below_drew.mono hb01.size)) (ht1.mod (Mod.ofBelow below_drew) (by simp)) (fun y hy => hF1 y hy) Hk.out hmap hmod
 have hno : ∀ y,w.heap.size ≤ y → y ∉ [mt]:=fun y hy e => by simp at e;subst e;have:=Hltw.out y (mem_wF.2 (.inr (.inl rfl)));omega
 have hz2:=hmod.keep (blk_drew hz0) (hno _ (Nat.le_refl _))
 have hz3:=hmod.keep (blk_drew hz1) (hno _ (by omega))
 obtain ⟨H2,HT2,Hy0,Hy1,Hno,Hb01,Hx0,Hx1,H1⟩:=hid9 h2 hT2 hz2 hz3 hno hb01 hz0 hz1 h1
 clear h2 hT2 hz2 hz3 hno hb01 hz0 hz1 h1
 have HF1:=Lib.hid hF1
 clear ht1 hF1 hb1 hmap hmod hsz
 go_wp2_with fail
 refine wp_planR 7 [0,6] [some 28,some 29,some 30,some 31,some 32,some 33,some 34,none] [[],[0],[0,1],[0,1,2],[],[4],[],[0,1,2,3,4,5,6]] [0,1,2,3,4,5,6] mixed rfl (by kernel_rfl) (by decide) (by decide) rfl ?_
 iterate 7 apply Exists.intro
 refine ⟨rfl,?_,?_⟩
 ·simp only [tS,List.take_zero,AllFrom.cons_eq,AllFrom.nil_eq,OpGoalQ]
  refine ⟨?_,?_,?_,?_,?_,?_,?_,trivial⟩
  all_goals (intro σ hp;(try simp only [gZ,gS,mC,mN,preF_cons,preF_nil,isV,and_true] at hp);(first | (have hq : True:=hp;clear hq hp) | skip))
  all_goals (go_simp;exact ⟨rfl,rfl⟩)
 intro σ hp
 simp only [gZ,gS,mC,mN,preF_cons,preF_nil,isV,and_true] at hp
 simp only [dS,List.drop_zero]
 go_simp
 clear hp
 go_wp2
 refine ⟨rfl,?_⟩
 clear hrun e0 hpl q0 q1 ql r0 r1 r2 r3 r4 r5 r6 r7 r8 rl
 have hy0:=Hy0.out
 have hy1:=Hy1.out
 obtain ⟨q0,q1,ql⟩:=cells2 hy0
 obtain ⟨r0,r1,r2,r3,r4,r5,r6,r7,r8,rl⟩:=cells9 hy1
 clear hy0 hy1
 have hk2 : (kn,b) ∈ tb ++ [(kn,b)]:=by simp
 have ht:=H2.out.tab _ hk2
 have hadd:=rt_add ht Hkn.out (s : Int) g a0 a1 a2 a3 a4 a5 a6 a7 Hbe.out (by simp only [updL_same];simp)
 simp only [updL_same] at hadd
 have HA:=Lib.hid hadd
 have Hk2:=Lib.hid hk2
 clear hk2
 clear ht hadd
 go_wp2_with fail
 refine HA.out.mono ?_
 rintro e w3 ⟨rfl,F2,ht2,htu⟩
 obtain ⟨h2,hT3⟩:=H2.out.turnTab Hk2.out ht2 (by rw [updL_same];exact htu)
 have htu : Turns w2 (updL Fs kn F1 kn) F2 w3:=by rw [updL_same];exact htu
 have hd2 : ∀ y,y < w0.heap.size → y ∉ updL Fs kn F1 kn:=fun y hy2 e => by
  rw [updL_same] at e
  have : w0.heap.size ≤ y:=HF1.out y e
  omega
 have hz2:=htu.mod.keep Hy0.out (hd2 _ (blk_lt Hz0.out))
 have hz3:=htu.mod.keep Hy1.out (hd2 _ (blk_lt Hz1.out))
 have e0:=blk_cell h2.blk 2
 simp only [eA,eZ,eS] at e0
 have hpl:=blk_lt h2.blk
 obtain ⟨q0,q1,ql⟩:=cells2 hz2
 obtain ⟨r0,r1,r2,r3,r4,r5,r6,r7,r8,rl⟩:=cells9 hz3
 have h2d:=h2.below below_drew
 obtain ⟨w4,hrun,hmap,hmod,hsz⟩:=mi_put plPr_keys Tryz.underlying113 h2d.pm Hs.out Hn.out (kn,0)
 simp only [plPr] at hrun
 rw [show ((0 : Nat) : Int) = 0 from rfl] at hrun
 obtain ⟨h4,hT4⟩:=h2d.turnPl hmap hmod
 have hT:=(((Turns.after Hb0.out HT2.out).trans hT3).trans (Turns.ofBelow below_drew)).trans hT4
 obtain ⟨H4,HT⟩:=hid2 h4 hT
 clear h4 hT
 clear ht2 htu h2 hT3 hd2 hz2 hz3 h2d hmap hmod hT4 hsz
 go_wp2_with fail
 refine wp_planR 10 [0,8] [some 42,some 43,some 44,some 45,some 46,some 47,some 48,some 49,some 50,some 51,none] [[],[0],[0,1],[0,1,2],[],[4],[],[6],[],[6,7,8],[0,1,2,3,4,5,6,7,8,9]] [0,1,2,3,4,5,6,7,8,9] mixed rfl (by kernel_rfl) (by decide) (by decide) rfl ?_
 iterate 10 apply Exists.intro
 refine ⟨rfl,?_,?_⟩
 ·simp only [tS,List.take_zero,AllFrom.cons_eq,AllFrom.nil_eq,OpGoalQ]
  refine ⟨?_,?_,?_,?_,?_,?_,?_,?_,?_,?_,trivial⟩
  all_goals (intro σ hp;(try simp only [gZ,gS,mC,mN,preF_cons,preF_nil,isV,and_true] at hp);(first | (have hq : True:=hp;clear hq hp) | skip))
  all_goals (go_simp;exact ⟨rfl,rfl⟩)
 intro σ hp
 simp only [gZ,gS,mC,mN,preF_cons,preF_nil,isV,and_true] at hp
 simp only [dS,List.drop_zero]
 go_simp
 clear hp
 go_wp2
 refine ⟨rfl,?_⟩
 go_wp2
 refine bodyPost_end (v:=.tuple #[]) ?_ rfl ?_
 ·unfold results;try go_simp
 ·exact ⟨b,rfl,_,_,_,(by have:=H4.out;rw [updL_twice] at this;exact this),HT.out⟩
 all_goals exact undef
end
section
variable {P : Program}
theorem keepAll_isV {σ : Nat → Value} {L : Nat → Bool} {w w' : World} : ∀ (vs : List Value) (k : Nat),KeepAll σ L w w' k (vs.map isV)
 | [],_ => trivial
 | _ :: vs,k => keep_isV (keepAll_isV vs (k + 1))
def OpGoalA (P : Program) (dsts : List (Option Tmp)) (pre : List (List Nat)) (vs : List Value) (a b : World) (n : Nat) (a0 : Act) (i : Nat) (o : Oper) : Prop :=
 ∀ (σ : Nat → Value),PreF (vs.map isV) σ a (pre.getD i []) →
  if i = n then (wantedL dsts (putF dsts σ (pre.getD i []) a0) o.guard = true ∧ YieldsR P o (putF dsts σ (pre.getD i []) a0).eval a (PostS (vs.getD i undef) b))
  else if wantedL dsts (putF dsts σ (pre.getD i []) a0) o.guard = true then YieldsR P o (putF dsts σ (pre.getD i []) a0).eval a (PostS (vs.getD i undef) a) ∧ YieldsR P o (putF dsts σ (pre.getD i []) a0).eval b (PostS (vs.getD i undef) b)
  else vs.getD i undef = undef
theorem wp_planA {Q : Exit → Act → World → Prop} {id : Nat} {l : List Oper} {a0 : Act} {w0 : World} (b : World) (n m : Nat) (fl : List Nat) (dsts : List (Option Tmp)) (pre : List (List Nat)) (is : List Nat)
  (hm : P.follows .mixedOrders = true) (hd : l.map (·.dst) = dsts) (hc : planOk l.toArray pre = true) (hT : tailOkB l pre m fl = true) (hmn : m ≤ l.length) (hn : n < m) (his : List.range m = is)
  (h : ExL m fun vs => vs.length = m ∧ AllFrom (OpGoalA P dsts pre vs w0.drew b n a0) 0 (l.take m) ∧
   (∀ (σ : Nat → Value),PreF (vs.map isV) σ w0.drew is → wpList P l.toArray (OnlyN Q) (l.drop m) (putF dsts σ is a0) b)) :
  (Code.region id l.toArray true).wp P Q a0 w0:=by
 obtain ⟨vs,hl,h1,h2⟩:=h.out
 have hgd : ∀ i,i < m → (vs.map isV).getD i (fun _ _ => True) = isV (vs.getD i undef):=fun i hi => by
  rw [List.getD_eq_getElem?_getD,List.getElem?_map,List.getD_eq_getElem?_getD]
  have : i < vs.length:=by omega
  rw [List.getElem?_eq_getElem this];rfl
 refine wp_planF m fl dsts pre is 0 (fun _ => vs.map isV) (fun L _ V => V = if L n = true then b else w0.drew) hm hd hc hT hmn rfl his ?_
 show _ ∧ _
 refine ⟨allFrom_imp _ _ (fun j o hj hp => ?_) h1,?_⟩
 ·have hjm : j < m:=by
   rcases Nat.lt_or_ge j m with h | h
   ·exact h
   ·rw [List.getElem?_eq_none (by rw [List.length_take];omega)] at hj;cases hj
  intro L σ w hL1 hL2 hL3 hI hpre
  have:=hp σ (preF_isV hpre)
  simp only [Nat.zero_add] at this hL1 ⊢
  by_cases hjn : j = n
  ·subst hjn
   rw [if_pos rfl] at this
   rw [hL1] at hI
   simp only [Bool.false_eq_true,if_false] at hI
   subst hI
   rw [if_pos this.1]
   refine this.2.mono ?_
   rintro v w' ⟨hv,hw'⟩
   subst hw'
   exact ⟨by rw [hgd j hjm];exact hv,by simp [upd],keepAll_isV _ _⟩
  ·rw [if_neg hjn] at this
   have hu : upd L j n = L n:=by unfold upd;simp [Ne.symm hjn]
   split
   ·next hw =>
    rw [if_pos hw] at this
    by_cases hLn : L n = true
    ·rw [if_pos hLn] at hI;subst hI
     refine this.2.mono ?_
     rintro v w' ⟨hv,hw'⟩
     subst hw'
     exact ⟨by rw [hgd j hjm];exact hv,by rw [hu,if_pos hLn],keepAll_isV _ _⟩
    ·rw [if_neg hLn] at hI;subst hI
     refine this.1.mono ?_
     rintro v w' ⟨hv,hw'⟩
     subst hw'
     exact ⟨by rw [hgd j hjm];exact hv,by rw [hu,if_neg hLn],keepAll_isV _ _⟩
   ·next hw =>
    rw [if_neg hw] at this
    exact ⟨by rw [hgd j hjm,this];rfl,by rw [hu];exact hI,keepAll_isV _ _⟩
 ·intro L σ w hL hI hpre
  have : L n = true:=hL n (by rw [← his];simpa using hn)
  rw [if_pos this] at hI
  subst hI
  exact h2 σ (preF_isV hpre)
end
end Go.Proofs.YtfdillpofciicaaGreatDoor
