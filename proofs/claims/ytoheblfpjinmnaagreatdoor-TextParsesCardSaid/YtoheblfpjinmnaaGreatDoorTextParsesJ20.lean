import Derived.Test.YtoheblfpjinmnaaGreatDoorTextParsesJ19
import Derived.Shelf.SlMaps.Clone
import Derived.Great.BuildSlice
set_option linter.unusedVariables false
set_option linter.unusedSimpArgs false
/- A part of the proof that TextParses returns true. -/
namespace Go.Proofs.YtoheblfpjinmnaaGreatDoor
open Go Go.RowKit
def ordB (hs : List Hd) : Bool:=(List.range (hs.length - 1)).all fun i => ltH (hs.getD i (0,0)) (hs.getD (i + 1) (0,0))
theorem ordB_step {hs : List Hd} (h : ordB hs = true) {i : Nat} (hi : i + 1 < hs.length) : ltH hs[i] hs[i + 1] = true:=by
 unfold ordB at h
 rw [List.all_eq_true] at h
 have:=h i (List.mem_range.2 (by omega))
 rw [List.getD_eq_getElem?_getD,List.getD_eq_getElem?_getD,List.getElem?_eq_getElem (by omega),List.getElem?_eq_getElem hi] at this
 exact this
theorem ordB_of {hs : List Hd} (h : ∀ i (hi : i + 1 < hs.length),ltH hs[i] hs[i + 1] = true) : ordB hs = true:=by
 unfold ordB
 rw [List.all_eq_true]
 intro i hi
 have hi':=List.mem_range.1 hi
 have hlt : i + 1 < hs.length:=by omega
 rw [List.getD_eq_getElem?_getD,List.getD_eq_getElem?_getD,List.getElem?_eq_getElem (by omega),List.getElem?_eq_getElem hlt]
 exact h i hlt
theorem ordB_not {hs : List Hd} {i : Nat} (hi : i + 1 < hs.length) (h : ltH hs[i] hs[i + 1] = false) : ordB hs = false:=by
 cases e : ordB hs with
 | false => rfl
 | true => rw [ordB_step e hi] at h;cases h
theorem ordB_iff {hs : List Hd} : ordB hs = true ↔ hs.Pairwise (fun a b => ltH a b = true):=by
 constructor
 ·intro h
  rw [List.pairwise_iff_getElem]
  intro i j hi hj hij
  obtain ⟨d,rfl⟩ : ∃ d,j = i + 1 + d:=⟨j - i - 1,by omega⟩
  clear hij
  induction d with
  | zero => exact ordB_step h (by omega)
  | succ d ih => exact ltH_trans (ih (by omega)) (ordB_step h (i:=i + 1 + d) (by omega))
 ·intro h
  exact ordB_of fun i hi => List.pairwise_iff_getElem.1 h i (i + 1) (by omega) hi (by omega)
theorem bonds_unique : ∀ {l m : List Bd},SortB l → SortB m → (∀ r,r ∈ l ↔ r ∈ m) → l = m
 | [],[],_,_,_ => rfl
 | [],k :: ks,_,_,hm => absurd ((hm k).2 (by simp)) (by simp)
 | h :: hs,[],_,_,hm => absurd ((hm h).1 (by simp)) (by simp)
 | h :: hs,k :: ks,h1,h2,hm => by
  obtain ⟨a1,a2⟩:=List.pairwise_cons.1 h1
  obtain ⟨b1,b2⟩:=List.pairwise_cons.1 h2
  have e : h = k:=by
   rcases List.mem_cons.1 ((hm h).1 (by simp)) with e | e
   ·exact e
   ·rcases List.mem_cons.1 ((hm k).2 (by simp)) with e2 | e2
    ·exact e2.symm
    ·have h3:=a1 k e2
     have h4:=b1 h e
     rw [ltH_asymm h3] at h4;cases h4
  subst e
  rw [bonds_unique (l:=hs) (m:=ks) a2 b2 (fun x => ?_)]
  constructor
  ·intro hx
   rcases List.mem_cons.1 ((hm x).1 (List.mem_cons_of_mem _ hx)) with e | e
   ·subst e;have:=a1 _ hx;rw [ltH_irrefl] at this;cases this
   ·exact e
  ·intro hx
   rcases List.mem_cons.1 ((hm x).2 (List.mem_cons_of_mem _ hx)) with e | e
   ·subst e;have:=b1 _ hx;rw [ltH_irrefl] at this;cases this
   ·exact e
theorem loadB_ok {sl : Sl} : ∀ {Q P B : List Bd},FamOk P → loadB sl P Q = (B,0) → FamOk B ∧ (∀ x,x ∈ B ↔ x ∈ P ∨ x ∈ Q) ∧ ∀ x ∈ Q,liveZ sl [x.1,x.2] = true
 | [],P,B,hP,h => by
  rw [loadB] at h
  obtain ⟨rfl,-⟩:=Prod.mk.inj h
  exact ⟨hP,by simp,by simp⟩
 | x :: Q,P,B,hP,h => by
  by_cases h1 : liveZ sl [x.1,x.2] = true
  ·cases h2 : (parB P x.1).isSome with
   | true => rw [loadB_twice h1 h2] at h;cases (Prod.mk.inj h).2
   | false =>
    by_cases h3 : adoE P x.1 x.2 = 0
    ·rw [loadB_go h1 h2 h3] at h
     obtain ⟨k1,k2,k3⟩:=loadB_ok (adoB_fam hP x.1 x.2) h
     have hnu : ¬ Up P x.2 x.1:=fun hu => by unfold adoE at h3;rw [if_pos hu] at h3;cases h3
     have hpn : parB P x.1 = none:=by
      cases hq : parB P x.1 with
      | none => rfl
      | some y => rw [hq] at h2;cases h2
     refine ⟨k1,fun y => ?_,?_⟩
     ·rw [k2 y]
      unfold adoB
      rw [if_neg hnu,mem_insB]
      constructor
      ·rintro ((rfl | ⟨hy,-⟩) | hy)
       ·exact .inr (by simp)
       ·exact .inl hy
       ·exact .inr (by simp [hy])
      ·rintro (hy | hy)
       ·exact .inl (.inr ⟨hy,parB_none hpn y hy⟩)
       ·rcases List.mem_cons.1 hy with rfl | hy
        ·exact .inl (.inl rfl)
        ·exact .inr hy
     ·intro y hy
      rcases List.mem_cons.1 hy with rfl | hy
      ·exact h1
      ·exact k3 y hy
    ·rw [loadB_loop h1 h2 h3] at h
     exact absurd (Prod.mk.inj h).2 h3
  ·rw [loadB_dead (by simpa using h1)] at h;cases (Prod.mk.inj h).2
section
variable {gs : List Int} {rows : List Rw} {bs : List Bd}
theorem zlE_zero (h : zlE gs rows bs = 0) : wlE gs rows = 0 ∧ loadB (wlS gs rows) [] bs = (zlB gs rows bs,0):=by
 by_cases hw : wlE gs rows = 0
 ·refine ⟨hw,?_⟩
  unfold zlE at h
  rw [if_pos hw] at h
  unfold zlB
  exact Prod.ext rfl h
 ·rw [zlE_bad hw] at h;exact absurd h hw
noncomputable def printE (gs : List Int) (rows : List Rw) (bs : List Bd) : Int:=if zlE gs rows bs = 0 then (if wlL gs rows = rows ∧ zlB gs rows bs = bs then 0 else 4) else zlE gs rows bs
noncomputable def printS (gs : List Int) (rows : List Rw) (bs : List Bd) : Bs:=if printE gs rows bs = 0 then printX gs rows bs else []
theorem printE_load (h : zlE gs rows bs ≠ 0) : printE gs rows bs = zlE gs rows bs:=by unfold printE;rw [if_neg h]
theorem ord_rows (h : zlE gs rows bs = 0) : ordB (rows.map (·.1)) = true ↔ wlL gs rows = rows:=by
 have hw:=wlok_of (zlE_zero h).1
 rw [ordB_iff,List.pairwise_map]
 constructor
 ·intro hp
  refine rows_unique hw.sorted ?_ (fun r => hw.mem r)
  refine (List.Pairwise.and hp hw.nd).imp ?_
  rintro a b ⟨h1,h2⟩
  rw [ltH_iff] at h1
  omega
 ·intro e
  have h1:=hw.sorted
  rw [e] at h1
  exact h1.imp fun {a b} h2 => by rw [ltH_iff];exact .inl h2
theorem ord_bonds (h : zlE gs rows bs = 0) : ordB (bs.map (·.1)) = true ↔ zlB gs rows bs = bs:=by
 obtain ⟨k1,k2,k3⟩:=loadB_ok famOk_nil (zlE_zero h).2
 rw [ordB_iff,List.pairwise_map]
 constructor
 ·intro hp
  exact bonds_unique k1.so hp (fun r => by rw [k2 r];simp)
 ·intro e
  have h1:=k1.so
  rw [e] at h1
  exact h1
theorem printE_ord (h : zlE gs rows bs = 0) : printE gs rows bs = if ordB (rows.map (·.1)) = true ∧ ordB (bs.map (·.1)) = true then 0 else 4:=by
 unfold printE
 rw [if_pos h]
 have e : (wlL gs rows = rows ∧ zlB gs rows bs = bs) ↔ (ordB (rows.map (·.1)) = true ∧ ordB (bs.map (·.1)) = true):=by rw [ord_rows h,ord_bonds h]
 simp only [e]
theorem printE_zero (h : printE gs rows bs = 0) : zlE gs rows bs = 0 ∧ wlL gs rows = rows ∧ zlB gs rows bs = bs:=by
 unfold printE at h
 by_cases hz : zlE gs rows bs = 0
 ·rw [if_pos hz] at h
  by_cases h2 : wlL gs rows = rows ∧ zlB gs rows bs = bs
  ·exact ⟨hz,h2⟩
  ·rw [if_neg h2] at h;cases h
 ·rw [if_neg hz] at h;exact absurd h hz
theorem live_small {sl : Sl} (hs : SlOk sl) {h : Hd} (hl : liveB sl h.1 h.2 = true) : SmallI h.1 ∧ SmallI h.2:=by
 obtain ⟨s,g⟩:=h
 rw [liveB_iff] at hl
 obtain ⟨j,h1,hj,h2,h3⟩:=(mem_allFrom sl 0 s g).1 hl
 have h4:=hs.at_ hj
 have h5:=hs.1
 unfold SmallI
 simp only
 omega
theorem tok_of (h : printE gs rows bs = 0) : TOk gs rows bs:=by
 have hz:=(printE_zero h).1
 obtain ⟨hw,hl⟩:=zlE_zero hz
 have hk:=wlok_of hw
 obtain ⟨k1,k2,k3⟩:=loadB_ok famOk_nil hl
 refine ⟨fun n hn => ?_,fun r hr => ?_,fun b hb => ?_⟩
 ·obtain ⟨i,hi,e⟩:=List.mem_iff_getElem.1 hn
  have:=hk.i.gens i hi
  rw [e] at this
  unfold SmallI;omega
 ·obtain ⟨h1,h2⟩:=live_small hk.ok (h:=r.1) (hk.live r hr)
  exact ⟨h1,h2,hk.be r hr⟩
 ·have h3:=k3 b hb
  rw [liveZ_two,Bool.and_eq_true] at h3
  obtain ⟨a1,a2⟩:=live_small hk.ok (h:=b.1) h3.1
  obtain ⟨b1,b2⟩:=live_small hk.ok (h:=b.2) h3.2
  exact ⟨a1,a2,b1,b2⟩
end
noncomputable def parseE (t : Bs) : Int:=if 6000 < t.length then 2 else if printE (parseX t).1 (parseX t).2.1 (parseX t).2.2 = 0 ∧ printX (parseX t).1 (parseX t).2.1 (parseX t).2.2 = t then 0 else 9
noncomputable def parseZ (t : Bs) : St3:=if parseE t = 0 then parseX t else ([],[],[])
noncomputable def parseRE (t : Bs) : Int:=if 6000 < t.length then 2 else match parseR t with | none => 9 | some s => if printE s.1 s.2.1 s.2.2 = 0 then 0 else 9
noncomputable def parseRZ (t : Bs) : St3:=if parseRE t = 0 then (parseR t).getD ([],[],[]) else ([],[],[])
theorem parse_same (t : Bs) : parseE t = parseRE t ∧ parseZ t = parseRZ t:=by
 have key : parseE t = parseRE t ∧ (parseE t = 0 → parseR t = some (parseX t)):=by
  unfold parseE parseRE
  by_cases hl : 6000 < t.length
  ·rw [if_pos hl,if_pos hl];exact ⟨rfl,fun e => by cases e⟩
  ·rw [if_neg hl,if_neg hl]
   by_cases hp : printE (parseX t).1 (parseX t).2.1 (parseX t).2.2 = 0 ∧ printX (parseX t).1 (parseX t).2.1 (parseX t).2.2 = t
   ·rw [if_pos hp]
    have h1:=parseR_reads (tok_of hp.1)
    rw [hp.2] at h1
    rw [h1]
    simp only
    rw [if_pos hp.1]
    exact ⟨by trivial,fun _ => by trivial⟩
   ·rw [if_neg hp]
    refine ⟨?_,fun e => by cases e⟩
    cases hr : parseR t with
    | none => rfl
    | some s =>
     simp only
     by_cases h0 : printE s.1 s.2.1 s.2.2 = 0
     ·exfalso
      have h1:=parseR_print hr
      have h2:=parse_print (tok_of h0)
      rw [h1] at h2
      exact hp ⟨by rw [h2];exact h0,by rw [h2];exact h1⟩
     ·rw [if_neg h0]
 refine ⟨key.1,?_⟩
 unfold parseZ parseRZ
 rw [← key.1]
 by_cases h : parseE t = 0
 ·rw [if_pos h,if_pos h,key.2 h];rfl
 ·rw [if_neg h,if_neg h]
end Go.Proofs.YtoheblfpjinmnaaGreatDoor
namespace Go.Proofs.YtoheblfpjinmnaaGreatDoor
open Go Go.RowKit Go.Maps
attribute [local go_sem] AllFrom.cons_eq AllFrom.nil_eq putF_nil putF_cons wantedL_none wantedL_some OpGoalT OpGoalV OpGoalQ OpGoalA OpGoalK YieldsR preF_nil preF_cons
section
variable {w : World} {m : Nat} {l : List Rw}
end
end Go.Proofs.YtoheblfpjinmnaaGreatDoor
namespace Go.Proofs.YtoheblfpjinmnaaGreatDoor
open Go Go.RowKit Go.Maps Go.Shelf
attribute [local go_sem] AllFrom.cons_eq AllFrom.nil_eq putF_nil putF_cons wantedL_none wantedL_some OpGoalT OpGoalV OpGoalQ OpGoalA OpGoalK YieldsR preF_nil preF_cons
attribute [local go_sem] Oper.semAt_some
section
variable {w : World} {m : Nat} {l : List Rw}
end
theorem own_ne_box {W : World} {b : Nat} {E T : TypeId} {z : Nat} {v : Value} {k : Nat} {xs : List Value} {j : Nat} {u : Array Value} (h : W.ownsRow b E z v k xs) (hj : W.heap[j]? = some (.cells u T (0,0))) (hne : T ≠ E) : some j ≠ v.ownBlock:=by
 rcases h.2 with ⟨rfl,_⟩ | ⟨g,cap,cur,rfl,_,hgb,_⟩
 ·simp [Value.ownBlock]
 ·intro e
  have : j = g:=by simpa [Value.ownBlock] using e
  subst this
  rw [hgb] at hj
  cases hj
  exact hne rfl
theorem own_cells {W : World} {b : Nat} {E : TypeId} {z : Nat} {v : Value} {k : Nat} {xs : List Value} (h : W.ownsRow b E z v k xs) : ∀ (j : Nat) (o : Obj),v.ownBlock = some j → W.heap[j]? = some o → o.isCells = true:=by
 intro j o hj ho
 rcases h.2 with ⟨rfl,_⟩ | ⟨g,cap,cur,rfl,_,hgb,_⟩
 ·simp [Value.ownBlock] at hj
 ·have : g = j:=by simpa [Value.ownBlock] using hj
  subst this;rw [hgb] at ho;cases ho;rfl
theorem KeptO.of_grown {W W' : World} {row : Option Nat} (hg : W.grownBy W' row) (hrow : ∀ (j : Nat) (o : Obj),row = some j → W.heap[j]? = some o → o.isCells = true) : KeptO W W' :=
 ⟨hg.size,fun k o hk ho => by
  refine (hg.block k (Array.getElem?_eq_some_iff.1 hk).1 ?_).trans hk
  intro e
  rw [hrow k o e.symm hk] at ho;cases ho⟩
theorem KeptO.trans {A B C : World} (h : KeptO A B) (k : KeptO B C) : KeptO A C:=⟨Nat.le_trans h.size k.size,fun i o hi ho => k.same i o (h.same i o hi ho) ho⟩
theorem keptO_below {a w : World} (h : Below a.heap.size a w) : KeptO a w:=⟨h.size,fun k o hk _ => (h.block k (Array.getElem?_eq_some_iff.1 hk).1).trans hk⟩
theorem keptO_setCell {W : World} {b : Nat} {u : Array Value} {T : TypeId} (h : W.heap[b]? = some (.cells u T (0,0))) (i : Nat) (v : Value) : KeptO W (W.setCell ⟨b,i,none⟩ v) :=
 ⟨by show W.heap.size ≤ (W.heap.modify _ _).size;rw [Array.size_modify];exact Nat.le_refl _,fun k o hk ho => by
  have hne : k ≠ b:=by rintro rfl;rw [h] at hk;cases hk;cases ho
  exact (Below.heap_setCell W ⟨b,i,none⟩ v k hne).trans hk⟩
section
variable {w : World} {gf : Nat} {lb : Array Value} {S : List Hd → Prop} {N : Nat}
end
end Go.Proofs.YtoheblfpjinmnaaGreatDoor
namespace Go.Proofs.YtoheblfpjinmnaaGreatDoor
open Go Go.RowKit
theorem wpList_build1 {P : Program} {ops : Array Oper} {rest : List Oper} {o : Oper} {a : Act} {w : World} {Q : Exit → Act → World → Prop} (hg : o.guard = none) (t e : TypeId) (x : Operand) (ho : o.op = .buildSlice t 1 #[(0,x)])
  (vs : List Value) (hx : a.eval x = .agg vs.toArray) {z : Value} {n b : Nat} (hu : P.underlying t = some (.slice e)) (hinf : (P.info? e).map (fun i => (i.zero,i.size,i.bytes)) = some (some z,n,b)) (hn : vs.length = n) (h0 : 0 < n) (h1 : n ≤ 1000)
  (h : wpList P ops Q rest (a.put o.dst (.slice (some ⟨w.heap.size,0,none⟩) 1 1)) (w.alloc (.cells vs.toArray e))) : wpList P ops Q (o :: rest) a w:=by
 obtain ⟨i0,hi,hz0,hz1,hz2⟩:=info_parts hinf
 refine wpList_buildSlice hg t e 1 #[(0,x)] ho vs.toArray i0 z hu hi hz0 (by rw [hz1];omega) (by rw [hz1];omega) ?_ h
 rw [hz1]
 have:=Great.fill_whole h0 [Value.agg vs.toArray] ((Array.range (1 * n)).map (z.cells[· % z.cells.size]!)) (by intro v hv;simp only [List.mem_singleton] at hv;subst hv;simpa [Value.cells] using hn) (by simp)
 simpa [hx,Value.cells] using this
end Go.Proofs.YtoheblfpjinmnaaGreatDoor
