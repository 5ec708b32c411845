import Derived.Test.YtfdillpofciicaaGreatDoorTopSavedJ12
set_option linter.unusedVariables false
set_option linter.unusedSimpArgs false
/- A part of the proof that TopSaved returns true. -/
namespace Go.Proofs.YtfdillpofciicaaGreatDoor
open Go Go.RowKit
def beastZ : Bt → Int
 | (K,a0,a1,a2,a3,a4,a5,a6,a7) => beastE K [a0,a1,a2,a3,a4,a5,a6,a7]
theorem beastGo_iff (K : Int) : ∀ (vs : List Int) (k : Nat),beastGo K k vs = 0 ↔ ∀ i,i < vs.length → (hasK K (k + i) = false → vs.getD i 0 = 0) ∧ ¬ (vs.getD i 0 < -1000000000 ∨ 1000000000 < vs.getD i 0)
 | [],_ => by simp [beastGo]
 | v :: vs,k => by
  have ih:=beastGo_iff K vs (k + 1)
  rw [beastGo]
  constructor
  ·intro h i hi
   by_cases h1 : hasK K k = false ∧ v ≠ 0
   ·rw [if_pos h1] at h;simp at h
   ·rw [if_neg h1] at h
    by_cases h2 : v < -1000000000 ∨ 1000000000 < v
    ·rw [if_pos h2] at h;simp at h
    ·rw [if_neg h2] at h
     match i with
     | 0 => exact ⟨fun hk => Decidable.byContradiction fun e => h1 ⟨hk,e⟩,h2⟩
     | i + 1 =>
      have:=ih.1 h i (by simpa using hi)
      rw [show k + 1 + i = k + (i + 1) by omega] at this
      exact this
  ·intro h
   have h0 : (hasK K k = false → v = 0) ∧ ¬ (v < -1000000000 ∨ 1000000000 < v):=h 0 (by simp)
   rw [if_neg (fun e => e.2 (h0.1 e.1)),if_neg h0.2]
   refine ih.2 fun i hi => ?_
   have:=h (i + 1) (by simpa using hi)
   rw [show k + 1 + i = k + (i + 1) by omega]
   exact this
theorem valK_get {K a0 a1 a2 a3 a4 a5 a6 a7 : Int} {k : Nat} : [a0,a1,a2,a3,a4,a5,a6,a7].getD k 0 = valK k (K,a0,a1,a2,a3,a4,a5,a6,a7):=rfl
theorem beastZ_iff (b : Bt) : beastZ b = 0 ↔ ∃ kn : Nat,kn < 256 ∧ b.1 = (kn : Int) ∧ ∀ k,k < 8 → (kn.testBit k = false → valK k b = 0) ∧ ¬ (valK k b < -1000000000 ∨ 1000000000 < valK k b):=by
 obtain ⟨K,a0,a1,a2,a3,a4,a5,a6,a7⟩:=b
 show (if isSetB K = true then beastGo K 0 [a0,a1,a2,a3,a4,a5,a6,a7] else (1 : Int)) = 0 ↔ _
 constructor
 ·intro h
  by_cases hs : isSetB K = true
  ·rw [if_pos hs,beastGo_iff] at h
   obtain ⟨m,rfl,hm⟩:=isSetB_nat hs
   refine ⟨m,hm,rfl,fun k hk => ?_⟩
   have:=h k (by simpa using hk)
   rw [Nat.zero_add,hasK_nat m k hm] at this
   exact this
  ·rw [if_neg hs] at h;simp at h
 ·rintro ⟨kn,hkn,e,h⟩
  simp only at e
  subst e
  rw [if_pos (isSetB_t _ (by omega) (by omega)),beastGo_iff]
  intro i hi
  rw [Nat.zero_add,hasK_nat kn i hkn]
  exact h i (by simpa using hi)
theorem beastZ_good {x : Rw} {kn : Nat} (h : beastZ x.2 = 0) (hk : x.2.1 = (kn : Int)) : GoodR kn x ∧ kn < 256:=by
 obtain ⟨m,hm,e,hv⟩:=(beastZ_iff _).1 h
 have : m = kn:=by omega
 subst this
 exact ⟨⟨hk,fun k hk hb => (hv k hk).1 hb⟩,hm⟩
def insH (l : List Hd) (x : Hd) : List Hd:=l.takeWhile (fun y => decide (y.1 < x.1)) ++ x :: l.dropWhile (fun y => decide (y.1 < x.1))
def insR (l : List Rw) (x : Rw) : List Rw:=l.takeWhile (fun y => decide (y.1.1 < x.1.1)) ++ x :: l.dropWhile (fun y => decide (y.1.1 < x.1.1))
theorem insR_map (l : List Rw) (x : Rw) : (insR l x).map (·.1) = insH (l.map (·.1)) x.1:=by
 unfold insR insH
 rw [List.map_append,List.map_cons,List.takeWhile_map,List.dropWhile_map]
 rfl
theorem mem_insR {l : List Rw} {x y : Rw} : y ∈ insR l x ↔ y ∈ l ∨ y = x:=by
 unfold insR
 rw [List.mem_append,List.mem_cons]
 conv => rhs;rw [← List.takeWhile_append_dropWhile (p:=fun y : Rw => decide (y.1.1 < x.1.1)) (l:=l)]
 rw [List.mem_append]
 constructor
 ·rintro (h | rfl | h)
  ·exact .inl (.inl h)
  ·exact .inr rfl
  ·exact .inl (.inr h)
 ·rintro ((h | h) | rfl)
  ·exact .inl h
  ·exact .inr (.inr h)
  ·exact .inr (.inl rfl)
theorem ins_split {a b : List Hd} {x : Hd} (ha : ∀ y ∈ a,y.1 < x.1) (hb : ∀ y ∈ b,¬ y.1 < x.1) : insH (a ++ b) x = a ++ x :: b:=by
 have h1 : (a ++ b).takeWhile (fun y => decide (y.1 < x.1)) = a:=by
  rw [List.takeWhile_append_of_pos (fun y hy => by simpa using ha y hy)]
  cases b with
  | nil => simp
  | cons z b => rw [List.takeWhile_cons_of_neg (by simpa using hb z (by simp))];simp
 have h2 : (a ++ b).dropWhile (fun y => decide (y.1 < x.1)) = b:=by
  rw [List.dropWhile_append_of_pos (fun y hy => by simpa using ha y hy)]
  cases b with
  | nil => rfl
  | cons z b => rw [List.dropWhile_cons_of_neg (by simpa using hb z (by simp))]
 unfold insH
 rw [h1,h2]
theorem allFrom_lo {l : Sl} {k : Nat} {h : Hd} (hh : h ∈ allFrom k l) : (k : Int) ≤ h.1 ∧ h.1 < ((k + l.length : Nat) : Int):=by
 obtain ⟨s,g⟩:=h
 obtain ⟨j,rfl,hj,-⟩:=(mem_allFrom l k s g).1 hh
 exact ⟨by simp only;omega,by simp only;omega⟩
theorem allFrom_sorted : ∀ (l : Sl) (k : Nat),(allFrom k l).Pairwise (fun a b => a.1 < b.1)
 | [],_ => by simp [allFrom]
 | x :: l,k => by
  rw [allFrom]
  split
  ·rw [List.singleton_append,List.pairwise_cons]
   exact ⟨fun y hy => by have:=(allFrom_lo hy).1;simp only;omega,allFrom_sorted l (k + 1)⟩
  ·rw [List.nil_append];exact allFrom_sorted l (k + 1)
theorem get_split {α : Type} {l : List α} {k : Nat} (hk : k < l.length) : l = l.take k ++ l[k] :: l.drop (k + 1):=by
 rw [← List.drop_eq_getElem_cons hk,List.take_append_drop]
theorem set_split {α : Type} {l : List α} {k : Nat} (hk : k < l.length) (y : α) : l.set k y = l.take k ++ y :: l.drop (k + 1):=by
 rw [List.set_eq_take_append_cons_drop,if_pos hk]
theorem take_spec {sl : Sl} (hok : SlOk sl) (he : takeE sl = 0) : ∃ k : Nat,k < 60 ∧ takeK sl = (k : Int) ∧ (∀ h ∈ allS sl,h.1 ≠ (k : Int)) ∧ allS (takeL sl) = insH (allS sl) ((k : Int),takeG sl):=by
 unfold takeE at he
 cases hf : sl.findIdx? freeB with
 | some k =>
  obtain ⟨hk,hp⟩:=fi_lt hf
  have hk60:=hok.1
  have h2 : sl[k].2 = false:=by unfold freeB at hp;simp only [Bool.and_eq_true,Bool.not_eq_true'] at hp;exact hp.1
  have e1 : allS sl = allS (sl.take k) ++ allFrom (k + 1) (sl.drop (k + 1)):=by
   conv => lhs;rw [get_split hk]
   unfold allS
   rw [allFrom_append,List.length_take,Nat.min_eq_left (by omega),allFrom,h2]
   simp
  have e2 : takeL sl = sl.set k (sl[k].1,true):=by unfold takeL;rw [hf];simp only;rw [List.getD_eq_getElem?_getD,List.getElem?_eq_getElem hk];rfl
  have e3 : takeG sl = sl[k].1:=by unfold takeG;rw [hf];simp only;rw [List.getD_eq_getElem?_getD,List.getElem?_eq_getElem hk];rfl
  have ha : ∀ y ∈ allS (sl.take k),y.1 < (k : Int):=fun y hy => by have:=(allFrom_lo hy).2;rw [List.length_take] at this;omega
  have hb : ∀ y ∈ allFrom (k + 1) (sl.drop (k + 1)),(k : Int) < y.1:=fun y hy => by have:=(allFrom_lo hy).1;omega
  refine ⟨k,by omega,by unfold takeK;rw [hf],?_,?_⟩
  ·intro h hh
   rw [e1] at hh
   rcases List.mem_append.1 hh with hh | hh
   ·have:=ha h hh;omega
   ·have:=hb h hh;omega
  ·rw [e1,ins_split ha (fun y hy => by have:=hb y hy;simp only;omega),e2,e3,set_split hk]
   unfold allS
   rw [allFrom_append,List.length_take,Nat.min_eq_left (by omega),allFrom]
   simp
 | none =>
  rw [hf] at he
  simp only at he
  by_cases h60 : sl.length = 60
  ·rw [if_pos h60] at he;simp at he
  ·have hk60:=hok.1
   have ha : ∀ y ∈ allS sl,y.1 < (sl.length : Int):=fun y hy => by have:=(allFrom_lo hy).2;omega
   refine ⟨sl.length,by omega,by unfold takeK;rw [hf];simp only;rw [if_neg h60],fun h hh => by have:=ha h hh;omega,?_⟩
   have e:=ins_split (a:=allS sl) (b:=[]) (x:=((sl.length : Int),takeG sl)) ha (by simp)
   rw [List.append_nil] at e
   rw [e]
   have e2 : takeL sl = sl ++ [(0,true)]:=by unfold takeL;rw [hf];simp only;rw [if_neg h60]
   have e3 : takeG sl = 0:=by unfold takeG;rw [hf]
   rw [e2,e3]
   unfold allS
   rw [allFrom_append]
   simp [allFrom]
theorem free_spec {sl : Sl} {s g : Int} (h : liveB sl s g = true) : allS (freeL sl s g) = (allS sl).filter (fun x => decide (x ≠ (s,g))):=by
 obtain ⟨h0,hk,he⟩:=liveB_lt h
 obtain ⟨k,rfl⟩:=Int.eq_ofNat_of_zero_le h0
 rw [Int.toNat_natCast] at hk
 simp only [Int.toNat_natCast] at he
 unfold freeL
 rw [if_pos h,Int.toNat_natCast,set_split hk]
 have ha : ∀ y ∈ allS (sl.take k),decide (y ≠ ((k : Int),g)) = true:=fun y hy => by
  have:=(allFrom_lo hy).2;rw [List.length_take] at this
  simp only [ne_eq,decide_eq_true_eq];rintro rfl;simp only at this;omega
 have hb : ∀ y ∈ allFrom (k + 1) (sl.drop (k + 1)),decide (y ≠ ((k : Int),g)) = true:=fun y hy => by
  have:=(allFrom_lo hy).1
  simp only [ne_eq,decide_eq_true_eq];rintro rfl;simp only at this;omega
 have e1 : allS sl = allS (sl.take k) ++ ((k : Int),g) :: allFrom (k + 1) (sl.drop (k + 1)):=by
  conv => lhs;rw [get_split hk]
  unfold allS
  rw [allFrom_append,List.length_take,Nat.min_eq_left (by omega),allFrom,he]
  simp
 rw [e1,List.filter_append,List.filter_cons,List.filter_eq_self.2 ha,List.filter_eq_self.2 hb]
 unfold allS
 rw [allFrom_append,List.length_take,Nat.min_eq_left (by omega),allFrom]
 simp
structure WOk (sl : Sl) (L : List Rw) : Prop where
 ok : SlOk sl
 hs : L.map (·.1) = allS sl
 be : ∀ x ∈ L,beastZ x.2 = 0
section
variable {sl : Sl} {L : List Rw}
theorem wok_nil : WOk [] []:=⟨slOk_nil,rfl,by simp⟩
theorem WOk.len (h : WOk sl L) : L.length ≤ 60:=by
 have:=congrArg List.length h.hs
 rw [List.length_map] at this
 have h1:=allS_len sl
 have:=h.ok.1
 omega
theorem WOk.slot (h : WOk sl L) {x : Rw} (hx : x ∈ L) : ∃ s : Nat,s < 60 ∧ x.1.1 = (s : Int):=by
 have : x.1 ∈ allS sl:=by rw [← h.hs];exact List.mem_map.2 ⟨x,hx,rfl⟩
 obtain ⟨h1,h2⟩:=allFrom_lo this
 have:=h.ok.1
 exact ⟨x.1.1.toNat,by omega,by omega⟩
theorem WOk.sorted (h : WOk sl L) : L.Pairwise (fun a b => a.1.1 < b.1.1):=by
 have:=allFrom_sorted sl 0
 rw [show allFrom 0 sl = L.map (·.1) from h.hs.symm,List.pairwise_map] at this
 exact this
theorem WOk.one (h : WOk sl L) {x y : Rw} (hx : x ∈ L) (hy : y ∈ L) (e : x.1.1 = y.1.1) : x = y:=by
 obtain ⟨i,hi,rfl⟩:=List.mem_iff_getElem.1 hx
 obtain ⟨j,hj,rfl⟩:=List.mem_iff_getElem.1 hy
 have hp:=List.pairwise_iff_getElem.1 h.sorted
 rcases Nat.lt_trichotomy i j with h1 | h1 | h1
 ·have:=hp i j hi hj h1;omega
 ·subst h1;rfl
 ·have:=hp j i hj hi h1;omega
theorem WOk.live (h : WOk sl L) (s g : Int) : liveB sl s g = true ↔ ∃ x ∈ L,x.1 = (s,g):=by
 rw [liveB_iff,← h.hs,List.mem_map]
theorem WOk.spawn (h : WOk sl L) (he : takeE sl = 0) {b : Bt} (hb : beastZ b = 0) : WOk (takeL sl) (insR L ((takeK sl,takeG sl),b)):=by
 obtain ⟨k,-,hk,-,ha⟩:=take_spec h.ok he
 refine ⟨h.ok.take,?_,fun x hx => ?_⟩
 ·rw [insR_map,h.hs,ha,hk]
 ·rcases mem_insR.1 hx with hx | rfl
  ·exact h.be x hx
  ·exact hb
theorem WOk.kill (h : WOk sl L) {s g : Int} (hl : liveB sl s g = true) : WOk (freeL sl s g) (L.filter (fun x => decide (x.1 ≠ (s,g)))):=by
 refine ⟨h.ok.free s g,?_,fun x hx => h.be x (List.mem_filter.1 hx).1⟩
 rw [free_spec hl,← h.hs,List.filter_map];rfl
theorem WOk.set (h : WOk sl L) {i : Nat} {x' : Rw} (hi : i < L.length) (h1 : x'.1 = L[i].1) (hb : beastZ x'.2 = 0) : WOk sl (L.set i x'):=by
 refine ⟨h.ok,?_,fun x hx => ?_⟩
 ·rw [← h.hs]
  apply List.ext_getElem?
  intro j
  rw [List.getElem?_map,List.getElem?_map,List.getElem?_set]
  by_cases e : i = j
  ·subst e;simp [hi,h1]
  ·simp [e]
 ·rcases List.mem_or_eq_of_mem_set hx with hx | rfl
  ·exact h.be x hx
  ·exact hb
theorem WOk.mem_set (h : WOk sl L) {i : Nat} {x' : Rw} (hi : i < L.length) (h1 : x'.1 = L[i].1) (y : Rw) : y ∈ L.set i x' ↔ (y ∈ L ∧ y ≠ L[i]) ∨ y = x':=by
 rw [set_split hi]
 constructor
 ·intro hy
  rcases List.mem_append.1 hy with hy | hy
  ·left
   obtain ⟨j,hj,e⟩:=List.mem_iff_getElem.1 hy
   rw [List.length_take] at hj
   rw [List.getElem_take] at e
   refine ⟨List.mem_of_mem_take hy,fun e2 => ?_⟩
   have:=List.pairwise_iff_getElem.1 h.sorted j i (by omega) hi (by omega)
   rw [e,e2] at this;omega
  ·rcases List.mem_cons.1 hy with rfl | hy
   ·exact .inr rfl
   ·left
    obtain ⟨j,hj,e⟩:=List.mem_iff_getElem.1 hy
    rw [List.length_drop] at hj
    rw [List.getElem_drop] at e
    refine ⟨List.mem_of_mem_drop hy,fun e2 => ?_⟩
    have:=List.pairwise_iff_getElem.1 h.sorted i (i + 1 + j) hi (by omega) (by omega)
    rw [e,e2] at this;omega
 ·rintro (⟨hy,hne⟩ | rfl)
  ·rw [get_split hi] at hy
   rcases List.mem_append.1 hy with hy | hy
   ·exact List.mem_append_left _ hy
   ·rcases List.mem_cons.1 hy with hy | hy
    ·exact absurd hy hne
    ·exact List.mem_append_right _ (List.mem_cons_of_mem _ hy)
  ·simp
end
def putK (K : Int) (k : Nat) : Int:=if hasK K k = true then K else K + pw k
def putR (x : Rw) (k : Nat) (n : Int) : Rw:=(x.1,(putK x.2.1 k,(rwSet x k n).2.2))
def dropR (x : Rw) (k : Nat) : Rw:=(x.1,(x.2.1 - pw k,(rwSet x k 0).2.2))
def idxL (L : List Rw) (h : Hd) : Option Nat:=L.findIdx? (fun x => decide (x.1 = h))
def putBad (k n : Int) : Prop:=(k < 0 ∨ 7 < k) ∨ (n < -1000000000 ∨ 1000000000 < n)
instance (k n : Int) : Decidable (putBad k n):=by unfold putBad;infer_instance
def spawnE (sl : Sl) (b : Bt) : Int:=if beastZ b ≠ 0 then beastZ b else takeE sl
def spawnH (sl : Sl) (b : Bt) : Hd:=if beastZ b ≠ 0 then (0,0) else (takeK sl,takeG sl)
def spawnS (sl : Sl) (b : Bt) : Sl:=if beastZ b ≠ 0 then sl else takeL sl
def spawnL (sl : Sl) (L : List Rw) (b : Bt) : List Rw:=if spawnE sl b = 0 then insR L ((takeK sl,takeG sl),b) else L
def killE (L : List Rw) (h : Hd) : Int:=match idxL L h with | some _ => 0 | none => 7
def killL (L : List Rw) (h : Hd) : List Rw:=L.filter (fun x => decide (x.1 ≠ h))
def putE (L : List Rw) (h : Hd) (k n : Int) : Int:=match idxL L h with | some _ => if putBad k n then 1 else 0 | none => 7
def putW (L : List Rw) (h : Hd) (k n : Int) : List Rw:=match idxL L h with | some i => if putBad k n then L else L.modify i (fun x => putR x k.toNat n) | none => L
def dropE (L : List Rw) (h : Hd) (k : Int) : Int:=match idxL L h with | some i => if k < 0 ∨ 7 < k then 1 else if hasK (L.getD i zeroR).2.1 k.toNat = true then 0 else 5 | none => 7
def dropL (L : List Rw) (h : Hd) (k : Int) : List Rw:=match idxL L h with | some i => if dropE L h k = 0 then L.modify i (fun x => dropR x k.toNat) else L | none => L
section
variable {sl : Sl} {L : List Rw}
theorem idx_some {h : Hd} {i : Nat} (hi : idxL L h = some i) : ∃ hl : i < L.length,L[i].1 = h:=by
 obtain ⟨hl,hp⟩:=fi_lt hi
 exact ⟨hl,by simpa using hp⟩
theorem idx_none {h : Hd} (hi : idxL L h = none) : ∀ x ∈ L,x.1 ≠ h:=by
 unfold idxL at hi
 rw [List.findIdx?_eq_none_iff] at hi
 intro x hx e
 have:=hi x hx
 simp [e] at this
theorem WOk.idx (h : WOk sl L) (s g : Int) : (liveB sl s g = true ∧ ∃ i,idxL L (s,g) = some i) ∨ (liveB sl s g = false ∧ idxL L (s,g) = none):=by
 cases hi : idxL L (s,g) with
 | some i =>
  obtain ⟨hl,e⟩:=idx_some hi
  exact .inl ⟨(h.live s g).2 ⟨_,List.getElem_mem hl,e⟩,i,rfl⟩
 | none =>
  refine .inr ⟨?_,rfl⟩
  cases hv : liveB sl s g with
  | false => rfl
  | true =>
   obtain ⟨x,hx,e⟩:=(h.live s g).1 hv
   exact absurd e (idx_none hi x hx)
theorem modify_set {α : Type} {l : List α} {i : Nat} (hi : i < l.length) (f : α → α) : l.modify i f = l.set i (f l[i]):=by
 apply List.ext_getElem?
 intro j
 rw [List.getElem?_modify,List.getElem?_set]
 by_cases e : i = j
 ·subst e;simp [hi]
 ·simp [e]
theorem bit_set : ∀ m : Fin 256,∀ k j : Fin 8,m.val.testBit k.val = false → (m.val + 2 ^ k.val < 256 ∧ (m.val + 2 ^ k.val).testBit j.val = (m.val.testBit j.val || decide (j = k))):=by decide +kernel
theorem bit_clear : ∀ m : Fin 256,∀ k j : Fin 8,m.val.testBit k.val = true → (2 ^ k.val ≤ m.val ∧ (m.val - 2 ^ k.val).testBit j.val = (m.val.testBit j.val && !decide (j = k))):=by decide +kernel
theorem valK_tail {b c : Bt} (h : b.2 = c.2) (k : Nat) : valK k b = valK k c:=by
 obtain ⟨K,b⟩:=b;obtain ⟨K',c⟩:=c
 simp only at h
 subst h
 rfl
theorem putR_val (x : Rw) (k j : Nat) (hk : k < 8) (n : Int) : valK j (putR x k n).2 = if j = k then n else valK j x.2:=by
 rw [← rwSet_val x k j hk n]
 exact valK_tail rfl j
theorem dropR_val (x : Rw) (k j : Nat) (hk : k < 8) : valK j (dropR x k).2 = if j = k then 0 else valK j x.2:=by
 rw [← rwSet_val x k j hk 0]
 exact valK_tail rfl j
theorem putR_ok {x : Rw} (h : beastZ x.2 = 0) {k : Nat} (hk : k < 8) {n : Int} (hn : ¬ (n < -1000000000 ∨ 1000000000 < n)) : beastZ (putR x k n).2 = 0:=by
 obtain ⟨m,hm,e,hv⟩:=(beastZ_iff _).1 h
 rw [beastZ_iff]
 cases hb : m.testBit k with
 | true =>
  refine ⟨m,hm,?_,fun j hj => ?_⟩
  ·show putK x.2.1 k = _
   unfold putK;rw [e,hasK_nat m k hm,if_pos hb]
  ·rw [putR_val x k j hk]
   split
   ·next e2 => subst e2;exact ⟨fun h => (by rw [hb] at h;cases h),hn⟩
   ·exact hv j hj
 | false =>
  have h2:=fun j (hj : j < 8) => bit_set ⟨m,hm⟩ ⟨k,hk⟩ ⟨j,hj⟩ hb
  refine ⟨m + 2 ^ k,(h2 0 (by omega)).1,?_,fun j hj => ?_⟩
  ·show putK x.2.1 k = _
   unfold putK;rw [e,hasK_nat m k hm,if_neg (by rw [hb];simp)];unfold pw;omega
  ·rw [putR_val x k j hk,(h2 j hj).2]
   split
   ·next e2 => subst e2;exact ⟨fun h => by simp at h,hn⟩
   ·next e2 => simp only [Fin.mk.injEq,e2,decide_false,Bool.or_false];exact hv j hj
theorem dropR_ok {x : Rw} (h : beastZ x.2 = 0) {k : Nat} (hk : k < 8) (hh : hasK x.2.1 k = true) : beastZ (dropR x k).2 = 0:=by
 obtain ⟨m,hm,e,hv⟩:=(beastZ_iff _).1 h
 rw [e,hasK_nat m k hm] at hh
 rw [beastZ_iff]
 have h2:=fun j (hj : j < 8) => bit_clear ⟨m,hm⟩ ⟨k,hk⟩ ⟨j,hj⟩ hh
 have h3 : 2 ^ k ≤ m:=(h2 0 (by omega)).1
 refine ⟨m - 2 ^ k,Nat.lt_of_le_of_lt (Nat.sub_le _ _) hm,?_,fun j hj => ?_⟩
 ·show x.2.1 - pw k = _
  rw [e];unfold pw;omega
 ·rw [dropR_val x k j hk,(h2 j hj).2]
  split
  ·exact ⟨fun _ => rfl,by omega⟩
  ·next e2 => simp only [Fin.mk.injEq,e2,decide_false,Bool.not_false,Bool.and_true];exact hv j hj
end
def ltH (a b : Hd) : Bool:=decide (a.1 < b.1) || (decide (a.1 = b.1) && decide (a.2 < b.2))
theorem ltH_iff (a b : Hd) : ltH a b = true ↔ a.1 < b.1 ∨ a.1 = b.1 ∧ a.2 < b.2:=by simp [ltH]
theorem ltH_irrefl (a : Hd) : ltH a a = false:=by simp [ltH]
theorem ltH_trans {a b c : Hd} (h : ltH a b = true) (k : ltH b c = true) : ltH a c = true:=by rw [ltH_iff] at *;omega
theorem ltH_tri {a b : Hd} (h : ltH a b = false) (k : ltH b a = false) : a = b:=by
 have h' : ¬ (a.1 < b.1 ∨ a.1 = b.1 ∧ a.2 < b.2):=fun e => by rw [(ltH_iff a b).2 e] at h;cases h
 have k' : ¬ (b.1 < a.1 ∨ b.1 = a.1 ∧ b.2 < a.2):=fun e => by rw [(ltH_iff b a).2 e] at k;cases k
 exact Prod.ext (by omega) (by omega)
theorem ltH_asymm {a b : Hd} (h : ltH a b = true) : ltH b a = false:=by
 cases e : ltH b a with
 | false => rfl
 | true => have:=ltH_trans h e;rw [ltH_irrefl] at this;cases this
theorem ltH_ne {a b : Hd} (h : ltH a b = true) : a ≠ b:=by rintro rfl;rw [ltH_irrefl] at h;cases h
def SortB (B : List Bd) : Prop:=B.Pairwise (fun a b => ltH a.1 b.1 = true)
def Acy (B : List Bd) : Prop:=∃ rk : Hd → Nat,∀ b ∈ B,rk b.2 < rk b.1
structure FamOk (B : List Bd) : Prop where
 so : SortB B
 ac : Acy B
theorem famOk_nil : FamOk []:=⟨.nil,fun _ => 0,by simp⟩
def parB (B : List Bd) (h : Hd) : Option Hd:=(B.find? (fun b => decide (b.1 = h))).map (·.2)
def outB (B : List Bd) (h : Hd) : List Bd:=B.filter (fun b => decide (b.1 ≠ h))
def goneB (B : List Bd) (h : Hd) : List Bd:=B.filter (fun b => !(decide (b.1 = h) || decide (b.2 = h)))
def insB (B : List Bd) (x : Bd) : List Bd:=(outB B x.1).takeWhile (fun b => ltH b.1 x.1) ++ x :: (outB B x.1).dropWhile (fun b => ltH b.1 x.1)
def kidsB (B : List Bd) (h : Hd) : List Hd:=(B.filter (fun b => decide (b.2 = h))).map (·.1)
theorem FamOk.sub {B C : List Bd} (h : FamOk B) (hs : C.Sublist B) : FamOk C :=
 ⟨h.so.sublist hs,by obtain ⟨rk,hr⟩:=h.ac;exact ⟨rk,fun b hb => hr b (hs.subset hb)⟩⟩
theorem SortB.inj {B : List Bd} (h : SortB B) {c p q : Hd} (h1 : (c,p) ∈ B) (h2 : (c,q) ∈ B) : p = q:=by
 induction B with
 | nil => cases h1
 | cons b B ih =>
  have h3:=List.pairwise_cons.1 h
  rcases List.mem_cons.1 h1 with e1 | e1 <;> rcases List.mem_cons.1 h2 with e2 | e2
  ·exact congrArg Prod.snd (e1.trans e2.symm)
  ·have:=h3.1 _ e2;rw [← e1,ltH_irrefl] at this;cases this
  ·have:=h3.1 _ e1;rw [← e2,ltH_irrefl] at this;cases this
  ·exact ih h3.2 e1 e2
theorem SortB.keys {B : List Bd} (h : SortB B) : B.Pairwise (fun a b => a.1 ≠ b.1):=h.imp (fun h => ltH_ne h)
theorem parB_some {B : List Bd} {h p : Hd} (e : parB B h = some p) : (h,p) ∈ B:=by
 unfold parB at e
 cases hf : B.find? (fun b => decide (b.1 = h)) with
 | none => rw [hf] at e;cases e
 | some b =>
  rw [hf] at e
  have h1:=List.find?_some hf
  have h2:=List.mem_of_find?_eq_some hf
  simp only [decide_eq_true_eq] at h1
  simp only [Option.map_some,Option.some.injEq] at e
  rw [← h1,← e];exact h2
theorem parB_none {B : List Bd} {h : Hd} (e : parB B h = none) : ∀ b ∈ B,b.1 ≠ h:=by
 unfold parB at e
 rw [Option.map_eq_none_iff,List.find?_eq_none] at e
 intro b hb
 simpa using e b hb
inductive Up (B : List Bd) : Hd → Hd → Prop
 | refl (h : Hd) : Up B h h
 | step {h p a : Hd} : (h,p) ∈ B → Up B p a → Up B h a
theorem Up.trans {B : List Bd} {a b c : Hd} (h : Up B a b) (k : Up B b c) : Up B a c:=by
 induction h with
 | refl => exact k
 | step hm _ ih => exact .step hm (ih k)
theorem Up.le {B : List Bd} {rk : Hd → Nat} (hr : ∀ b ∈ B,rk b.2 < rk b.1) {h a : Hd} (hu : Up B h a) : rk a ≤ rk h:=by
 induction hu with
 | refl => exact Nat.le_refl _
 | step hm _ ih => have:=hr _ hm;simp only at this;omega
theorem Up.cases' {B : List Bd} {h a : Hd} (hu : Up B h a) : h = a ∨ ∃ p,(h,p) ∈ B ∧ Up B p a:=by
 cases hu with
 | refl => exact .inl rfl
 | step hm k => exact .inr ⟨_,hm,k⟩
theorem up_none {B : List Bd} {h a : Hd} (hp : parB B h = none) : Up B h a ↔ h = a :=
  ⟨fun hu => by rcases hu.cases' with e | ⟨p, hm, -⟩
                · exact e
                · exact absurd rfl (parB_none hp _ hm), fun e => e ▸ .refl _⟩
theorem up_some {B : List Bd} (hs : SortB B) {h p a : Hd} (hp : parB B h = some p) : Up B h a ↔ h = a ∨ Up B p a :=
  ⟨fun hu => by rcases hu.cases' with e | ⟨q, hm, hk⟩
                · exact .inl e
                · rw [hs.inj (parB_some hp) hm]; exact .inr hk, fun e => by
                rcases e with rfl | e
                · exact .refl _
                · exact .step (parB_some hp) e⟩
theorem Acy.bound {B : List Bd} (h : Acy B) : ∃ (rk : Hd → Nat) (N : Nat),(∀ b ∈ B,rk b.2 < rk b.1) ∧ ∀ x,rk x ≤ N:=by
 obtain ⟨rk,hr⟩:=h
 let S : List Hd:=B.map (·.1) ++ B.map (·.2)
 have hb : ∀ (S : List Hd),∃ N,∀ x ∈ S,rk x ≤ N:=by
  intro S
  induction S with
  | nil => exact ⟨0,by simp⟩
  | cons y S ih =>
   obtain ⟨N,hN⟩:=ih
   refine ⟨max (rk y) N,fun x hx => ?_⟩
   rcases List.mem_cons.1 hx with rfl | hx
   ·exact Nat.le_max_left _ _
   ·exact Nat.le_trans (hN x hx) (Nat.le_max_right _ _)
 obtain ⟨N,hN⟩:=hb S
 refine ⟨fun x => if x ∈ S then rk x else 0,N,fun b hb => ?_,fun x => ?_⟩
 ·have m1 : b.1 ∈ S:=List.mem_append_left _ (List.mem_map.2 ⟨b,hb,rfl⟩)
  have m2 : b.2 ∈ S:=List.mem_append_right _ (List.mem_map.2 ⟨b,hb,rfl⟩)
  simp only [m1,m2,if_true]
  exact hr b hb
 ·by_cases hx : x ∈ S
  ·simp only [hx,if_true];exact hN x hx
  ·simp [hx]
theorem mem_insB {B : List Bd} {x b : Bd} : b ∈ insB B x ↔ b = x ∨ (b ∈ B ∧ b.1 ≠ x.1):=by
 unfold insB
 rw [List.mem_append,List.mem_cons]
 have h1 : b ∈ outB B x.1 ↔ b ∈ (outB B x.1).takeWhile (fun b => ltH b.1 x.1) ∨ b ∈ (outB B x.1).dropWhile (fun b => ltH b.1 x.1):=by
  rw [← List.mem_append,List.takeWhile_append_dropWhile]
 have h2 : b ∈ outB B x.1 ↔ b ∈ B ∧ b.1 ≠ x.1:=by unfold outB;rw [List.mem_filter];simp
 rw [← h2,h1]
 constructor
 ·rintro (h | h | h)
  ·exact .inr (.inl h)
  ·exact .inl h
  ·exact .inr (.inr h)
 ·rintro (h | h | h)
  ·exact .inr (.inl h)
  ·exact .inl h
  ·exact .inr (.inr h)
theorem dropWhile_le {B : List Bd} (hs : SortB B) {c : Hd} (hne : ∀ b ∈ B,b.1 ≠ c) : ∀ b ∈ B.dropWhile (fun b => ltH b.1 c),ltH c b.1 = true:=by
 induction B with
 | nil => simp
 | cons x B ih =>
  have h3:=List.pairwise_cons.1 hs
  rw [List.dropWhile_cons]
  by_cases hx : ltH x.1 c = true
  ·rw [if_pos hx];exact ih h3.2 (fun b hb => hne b (List.mem_cons_of_mem _ hb))
  ·rw [if_neg hx]
   have hcx : ltH c x.1 = true:=by
    cases e : ltH c x.1 with
    | true => rfl
    | false => exact absurd (ltH_tri (by simpa using hx) e) (hne x (by simp))
   intro b hb
   rcases List.mem_cons.1 hb with rfl | hb
   ·exact hcx
   ·exact ltH_trans hcx (h3.1 b hb)
theorem takeWhile_lt {B : List Bd} {c : Hd} : ∀ b ∈ B.takeWhile (fun b => ltH b.1 c),ltH b.1 c = true:=by
 induction B with
 | nil => simp
 | cons x B ih =>
  rw [List.takeWhile_cons]
  by_cases hx : ltH x.1 c = true
  ·rw [if_pos hx]
   intro b hb
   rcases List.mem_cons.1 hb with rfl | hb
   ·exact hx
   ·exact ih b hb
  ·rw [if_neg hx];simp
theorem insB_sort {B : List Bd} (hs : SortB B) (x : Bd) : SortB (insB B x):=by
 have ho : SortB (outB B x.1):=hs.sublist List.filter_sublist
 have hne : ∀ b ∈ outB B x.1,b.1 ≠ x.1:=fun b hb => by
  have:=(List.mem_filter.1 hb).2
  simpa using this
 unfold insB SortB
 have hd:=dropWhile_le ho hne
 have ht:=@takeWhile_lt (outB B x.1) x.1
 rw [List.pairwise_append]
 refine ⟨ho.sublist (List.takeWhile_sublist _),List.pairwise_cons.2 ⟨hd,ho.sublist (List.dropWhile_sublist _)⟩,?_⟩
 intro a ha b hb
 rcases List.mem_cons.1 hb with rfl | hb
 ·exact ht a ha
 ·exact ltH_trans (ht a ha) (hd b hb)
theorem insB_ok {B : List Bd} (h : FamOk B) {c p : Hd} (hn : ¬ Up B p c) : FamOk (insB B (c,p)):=by
 refine ⟨insB_sort h.so _,?_⟩
 obtain ⟨rk,hr⟩:=h.ac
 classical
 refine ⟨fun x => if Up B x c then rk x + (rk p + 1) else rk x,fun b hb => ?_⟩
 rcases mem_insB.1 hb with rfl | ⟨hb,hne⟩
 ·simp only [hn,if_false,Up.refl c,if_true];omega
 ·have h1:=hr b hb
  have h2 : Up B b.1 c ↔ Up B b.2 c:=by
   constructor
   ·intro hu
    rcases hu.cases' with e | ⟨q,hm,hk⟩
    ·exact absurd e hne
    ·rw [h.so.inj (show (b.1,b.2) ∈ B from hb) hm];exact hk
   ·exact fun hu => .step (show (b.1,b.2) ∈ B from hb) hu
  by_cases hu : Up B b.2 c
  ·simp only [hu,h2.2 hu,if_true];omega
  ·have hu' : ¬ Up B b.1 c:=fun e => hu (h2.1 e)
   simp only [hu,hu',if_false];exact h1
theorem insB_perm (B : List Bd) (x : Bd) : (insB B x).Perm (x :: outB B x.1):=by
 unfold insB
 refine List.perm_middle.trans (List.Perm.cons _ ?_)
 rw [List.takeWhile_append_dropWhile]
theorem sortB_eq {B C : List Bd} (hs : SortB B) (hp : C.Perm B) (hc : C.Pairwise (fun x y => ltH y.1 x.1 = false)) : C = B:=by
 have hk : C.Pairwise (fun a b => a.1 ≠ b.1):=(List.Perm.pairwise_iff (fun h => Ne.symm h) hp).2 hs.keys
 have hc2 : SortB C:=by
  refine (hc.and hk).imp ?_
  rintro a b ⟨h1,h2⟩
  cases e : ltH a.1 b.1 with
  | true => rfl
  | false => exact absurd (ltH_tri e h1) h2
 refine List.Perm.eq_of_pairwise (le:=fun a b : Bd => ltH a.1 b.1 = true) (fun a b ha hb h1 h2 => ?_) hc2 hs hp
 rw [ltH_asymm h1] at h2;cases h2
def underN (B : List Bd) : Nat → Hd → List Hd
 | 0,_ => []
 | n + 1,h => (kidsB B h).flatMap (fun c => c :: underN B n c)
def Low (B : List Bd) : Nat → Hd → Prop
 | 0,_ => False
 | n + 1,h => ∀ c ∈ kidsB B h,Low B n c
theorem mem_kids {B : List Bd} {h c : Hd} : c ∈ kidsB B h ↔ (c,h) ∈ B:=by
 unfold kidsB
 rw [List.mem_map]
 constructor
 ·rintro ⟨b,hb,rfl⟩
  obtain ⟨h1,h2⟩:=List.mem_filter.1 hb
  simp only [decide_eq_true_eq] at h2
  rw [← h2];exact h1
 ·intro hm;exact ⟨(c,h),List.mem_filter.2 ⟨hm,by simp⟩,rfl⟩
theorem Acy.low {B : List Bd} (h : Acy B) : ∃ N,∀ x,Low B N x:=by
 obtain ⟨rk,N,hr,hN⟩:=h.bound
 have key : ∀ n x,N < rk x + n → Low B n x:=by
  intro n
  induction n with
  | zero => intro x hx;have:=hN x;omega
  | succ n ih =>
   intro x hx c hc
   refine ih c ?_
   have:=hr _ (mem_kids.1 hc)
   simp only at this
   omega
 exact ⟨N + 1,fun x => key _ x (by omega)⟩
open Classical in
noncomputable def lowN (B : List Bd) : Nat:=if h : ∃ N,∀ x,Low B N x then h.choose else 0
noncomputable def underB (B : List Bd) (h : Hd) : List Hd:=underN B (lowN B) h
theorem lowN_spec {B : List Bd} (h : Acy B) (x : Hd) : Low B (lowN B) x:=by
 unfold lowN
 rw [dif_pos h.low]
 exact h.low.choose_spec x
theorem mem_under {B : List Bd} : ∀ {n : Nat} {h x : Hd},Low B n h → (x ∈ underN B n h ↔ ∃ p,(x,p) ∈ B ∧ Up B p h)
 | n + 1,h,x,hl => by
  unfold underN
  rw [List.mem_flatMap]
  constructor
  ·rintro ⟨c,hc,hx⟩
   rcases List.mem_cons.1 hx with rfl | hx
   ·exact ⟨h,mem_kids.1 hc,.refl _⟩
   ·obtain ⟨p,h1,h2⟩:=(mem_under (hl c hc)).1 hx
    exact ⟨p,h1,h2.trans (.step (mem_kids.1 hc) (.refl _))⟩
  ·rintro ⟨p,h1,h2⟩
   -- the last step of the way up
   have key : ∀ {a : Hd},Up B a h → a = h ∨ ∃ c,(c,h) ∈ B ∧ Up B a c:=by
    intro a hu
    induction hu with
    | refl => exact .inl rfl
    | @step a q z hm hk ih =>
     rcases ih hl h2 with e | ⟨c,h3,h4⟩
     ·subst e;exact .inr ⟨a,hm,.refl _⟩
     ·exact .inr ⟨c,h3,.step hm h4⟩
   rcases key h2 with rfl | ⟨c,h3,h4⟩
   ·exact ⟨x,mem_kids.2 h1,by simp⟩
   ·exact ⟨c,mem_kids.2 h3,List.mem_cons_of_mem _ ((mem_under (hl c (mem_kids.2 h3))).2 ⟨p,h1,h4⟩)⟩
theorem nodup_le {α : Type} [DecidableEq α] : ∀ {xs ys : List α},xs.Nodup → (∀ x ∈ xs,x ∈ ys) → xs.length ≤ ys.length
 | [],_,_,_ => by simp
 | x :: xs,ys,hn,hs => by
  have h1:=List.nodup_cons.1 hn
  have h2:=nodup_le (xs:=xs) (ys:=ys.erase x) h1.2 (fun y hy => by
   refine (List.mem_erase_of_ne ?_).2 (hs y (List.mem_cons_of_mem _ hy))
   rintro rfl;exact h1.1 hy)
  have h3:=List.length_erase_of_mem (hs x (by simp))
  have h4 : 0 < ys.length:=List.length_pos_of_mem (hs x (by simp))
  rw [List.length_cons];omega
theorem kids_nodup {B : List Bd} (hs : SortB B) (h : Hd) : (kidsB B h).Nodup:=by
 unfold kidsB List.Nodup
 rw [List.pairwise_map]
 exact hs.keys.sublist List.filter_sublist
theorem Up.lin {B : List Bd} (hs : SortB B) {x a b : Hd} (h : Up B x a) (k : Up B x b) : Up B a b ∨ Up B b a:=by
 induction h with
 | refl => exact .inl k
 | step hm h' ih =>
  rcases k.cases' with rfl | ⟨q,hm2,hk⟩
  ·exact .inr (.step hm h')
  ·rw [hs.inj hm2 hm] at hk;exact ih hk
theorem under_nodup {B : List Bd} (h : FamOk B) : ∀ {n : Nat} {x : Hd},Low B n x → (underN B n x).Nodup
 | n + 1,x,hl => by
  obtain ⟨rk,hr⟩:=h.ac
  unfold underN List.Nodup
  rw [List.pairwise_flatMap]
  refine ⟨fun c hc => List.nodup_cons.2 ⟨fun hm => ?_,under_nodup h (hl c hc)⟩,?_⟩
  ·obtain ⟨p,h1,h2⟩:=(mem_under (hl c hc)).1 hm
   have:=hr _ h1
   have:=h2.le hr
   simp only at *
   omega
  ·refine List.Pairwise.imp_of_mem ?_ (kids_nodup h.so x)
   intro a b ha hb hne y hy z hz e
   subst e
   have ua : Up B y a:=by
    rcases List.mem_cons.1 hy with rfl | hy
    ·exact .refl _
    ·obtain ⟨p,h1,h2⟩:=(mem_under (hl a ha)).1 hy;exact .step h1 h2
   have ub : Up B y b:=by
    rcases List.mem_cons.1 hz with rfl | hz
    ·exact .refl _
    ·obtain ⟨p,h1,h2⟩:=(mem_under (hl b hb)).1 hz;exact .step h1 h2
   have ma:=mem_kids.1 ha
   have mb:=mem_kids.1 hb
   have r1:=hr _ ma
   have r2:=hr _ mb
   simp only at r1 r2
   rcases ua.lin h.so ub with hu | hu
   ·rcases hu.cases' with e | ⟨q,hm,hk⟩
    ·exact hne e
    ·have:=h.so.inj hm ma
     subst this
     have:=hk.le hr
     omega
   ·rcases hu.cases' with e | ⟨q,hm,hk⟩
    ·exact hne e.symm
    ·have:=h.so.inj hm mb
     subst this
     have:=hk.le hr
     omega
theorem under_len {B : List Bd} (h : FamOk B) (x : Hd) : (underB B x).length ≤ B.length:=by
 have h1:=nodup_le (under_nodup h (lowN_spec h.ac x)) (ys:=B.map (·.1)) (fun y hy => by
  obtain ⟨p,h1,-⟩:=(mem_under (lowN_spec h.ac x)).1 hy
  exact List.mem_map.2 ⟨_,h1,rfl⟩)
 rw [List.length_map] at h1
 exact h1
structure ZOk (sl : Sl) (L : List Rw) (B : List Bd) : Prop where
 w : WOk sl L
 f : FamOk B
 c : ∀ b ∈ B,b.1 ∈ allS sl
section
variable {sl : Sl} {L : List Rw} {B : List Bd}
theorem ZOk.len (h : ZOk sl L B) : B.length ≤ 60:=by
 have h1 : (B.map (·.1)).Nodup:=by
  unfold List.Nodup
  rw [List.pairwise_map]
  exact h.f.so.keys
 have h2:=nodup_le h1 (ys:=allS sl) (fun x hx => by
  obtain ⟨b,hb,rfl⟩:=List.mem_map.1 hx
  exact h.c b hb)
 rw [List.length_map] at h2
 have h3:=allS_len sl
 have h4:=h.w.ok.1
 omega
theorem mem_goneB {b : Bd} {h : Hd} : b ∈ goneB B h ↔ b ∈ B ∧ b.1 ≠ h ∧ b.2 ≠ h:=by
 unfold goneB
 rw [List.mem_filter]
 simp
theorem freeL_dead {s g : Int} (h : liveB sl s g = false) : freeL sl s g = sl:=by unfold freeL;rw [if_neg (by rw [h];simp)]
theorem killL_dead (h : WOk sl L) {s g : Int} (hd : liveB sl s g = false) : killL L (s,g) = L:=by
 unfold killL
 refine List.filter_eq_self.2 fun x hx => ?_
 have : x.1 ≠ (s,g):=fun e => by
  have:=(h.live s g).2 ⟨x,hx,e⟩
  rw [hd] at this;cases this
 simpa using this
theorem WOk.killA (h : WOk sl L) (s g : Int) : WOk (freeL sl s g) (killL L (s,g)):=by
 cases e : liveB sl s g with
 | true => exact h.kill e
 | false => rw [freeL_dead e,killL_dead h e];exact h
theorem mem_free {s g : Int} {x : Hd} : x ∈ allS (freeL sl s g) ↔ x ∈ allS sl ∧ x ≠ (s,g):=by
 cases e : liveB sl s g with
 | true => rw [free_spec e,List.mem_filter];simp
 | false =>
  rw [freeL_dead e]
  refine ⟨fun hx => ⟨hx,fun e2 => ?_⟩,fun hx => hx.1⟩
  subst e2
  rw [(liveB_iff sl s g).2 hx] at e;cases e
theorem ZOk.kill (h : ZOk sl L B) (s g : Int) : ZOk (freeL sl s g) (killL L (s,g)) (goneB B (s,g)) :=
 ⟨h.w.killA s g,h.f.sub List.filter_sublist,fun b hb => by
  obtain ⟨h1,h2,-⟩:=mem_goneB.1 hb
  exact mem_free.2 ⟨h.c b h1,h2⟩⟩
end
abbrev ZS:=Sl × List Rw × List Bd
def killZ (st : ZS) (h : Hd) : ZS:=(freeL st.1 h.1 h.2,killL st.2.1 h,goneB st.2.2 h)
def killsZ (st : ZS) (hs : List Hd) : ZS:=hs.foldl killZ st
theorem free_get (sl : Sl) (s g : Int) (k : Nat) : (freeL sl s g)[k]? = (sl[k]?).map (fun x => if (s = (k : Int) ∧ x.2 = true ∧ x.1 = g) then (g + 1,false) else x):=by
 unfold freeL
 by_cases h : liveB sl s g = true
 ·rw [if_pos h]
  obtain ⟨h0,hk,he⟩:=liveB_lt h
  obtain ⟨j,rfl⟩:=Int.eq_ofNat_of_zero_le h0
  simp only [Int.toNat_natCast] at hk he ⊢
  rw [List.getElem?_set]
  by_cases e : j = k
  ·subst e
   rw [if_pos rfl,if_pos hk,List.getElem?_eq_getElem hk]
   simp only [he,Option.map_some]
   simp
  ·rw [if_neg e]
   have : ¬ ((j : Int) = (k : Int)):=by omega
   simp only [this,false_and,if_false]
   cases sl[k]? <;> rfl
 ·rw [if_neg h]
  cases hx : sl[k]? with
  | none => rfl
  | some x =>
   simp only [Option.map_some]
   rw [if_neg]
   rintro ⟨rfl,h1,h2⟩
   apply h
   unfold liveB
   simp only [Int.toNat_natCast,hx,h1,h2]
   simp
theorem free_comm (sl : Sl) (s g t u : Int) : freeL (freeL sl s g) t u = freeL (freeL sl t u) s g:=by
 apply List.ext_getElem?
 intro k
 rw [free_get,free_get,free_get,free_get]
 cases sl[k]? with
 | none => rfl
 | some x =>
  obtain ⟨a,b⟩:=x
  simp only [Option.map_some]
  congr 1
  by_cases h1 : s = (k : Int) ∧ b = true ∧ a = g
  ·by_cases h2 : t = (k : Int) ∧ b = true ∧ a = u
   ·rw [if_pos h1,if_pos h2,if_neg (by simp),if_neg (by simp),← h1.2.2,← h2.2.2]
   ·rw [if_pos h1,if_neg h2,if_pos h1,if_neg (by simp)]
  ·by_cases h2 : t = (k : Int) ∧ b = true ∧ a = u
   ·rw [if_neg h1,if_pos h2,if_neg (by simp)]
   ·rw [if_neg h1,if_neg h2,if_neg h1]
theorem killZ_comm (st : ZS) (x y : Hd) : killZ (killZ st x) y = killZ (killZ st y) x:=by
 obtain ⟨sl,L,B⟩:=st
 unfold killZ killL goneB
 simp only
 rw [free_comm,List.filter_filter,List.filter_filter,List.filter_filter,List.filter_filter]
 congr 2
 ·exact List.filter_congr fun _ _ => Bool.and_comm _ _
 ·exact List.filter_congr fun _ _ => Bool.and_comm _ _
theorem killsZ_perm : ∀ {l m : List Hd} (_ : l.Perm m) (st : ZS),killsZ st l = killsZ st m
 | _,_,.nil,_ => rfl
 | _,_,.cons x h,st => killsZ_perm h (killZ st x)
 | _,_,.swap x y l,st => by
  show killsZ (killZ (killZ st y) x) l = killsZ (killZ (killZ st x) y) l
  rw [killZ_comm]
 | _,_,.trans h1 h2,st => (killsZ_perm h1 st).trans (killsZ_perm h2 st)
theorem killsZ_snoc (st : ZS) (l : List Hd) (x : Hd) : killsZ st (l ++ [x]) = killZ (killsZ st l) x:=by
 unfold killsZ;rw [List.foldl_append];rfl
theorem killsZ_rev (st : ZS) (l : List Hd) (x : Hd) : killsZ st (l.reverse ++ [x]) = killsZ st (l ++ [x]):=killsZ_perm ((List.reverse_perm l).append_right _) st
theorem ZOk.kills {sl : Sl} {L : List Rw} {B : List Bd} (h : ZOk sl L B) (l : List Hd) : ZOk (killsZ (sl,L,B) l).1 (killsZ (sl,L,B) l).2.1 (killsZ (sl,L,B) l).2.2:=by
 induction l generalizing sl L B with
 | nil => exact h
 | cons x l ih => exact ih (h.kill x.1 x.2)
end Go.Proofs.YtfdillpofciicaaGreatDoor
