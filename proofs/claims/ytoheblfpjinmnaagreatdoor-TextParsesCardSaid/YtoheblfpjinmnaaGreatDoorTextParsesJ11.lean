import Derived.Test.YtoheblfpjinmnaaGreatDoorTextParsesJ10
set_option linter.unusedVariables false
set_option linter.unusedSimpArgs false
/- A part of the proof that TextParses returns true. -/
namespace Go.Proofs.YtoheblfpjinmnaaGreatDoor
open Go Go.RowKit
abbrev Pl:=Nat × Nat × Nat
section
variable {β : Type} {l : List (Nat × β)} {s : Nat} {v v0 : β}
theorem pl_split (hn : (l.map (·.1)).Nodup) (hm : (s,v0) ∈ l) : ∃ l1 l2,l = l1 ++ (s,v0) :: l2 ∧ (∀ x ∈ l1 ++ l2,x.1 ≠ s):=by
 obtain ⟨l1,l2,rfl⟩:=List.append_of_mem hm
 refine ⟨l1,l2,rfl,fun x hx e => ?_⟩
 rw [List.map_append,List.map_cons,List.nodup_append] at hn
 obtain ⟨h1,h2,h3⟩:=hn
 rw [List.nodup_cons] at h2
 rcases List.mem_append.1 hx with hx | hx
 ·exact h3 x.1 (List.mem_map.2 ⟨x,hx,rfl⟩) s (by simp) e
 ·exact h2.1 (by rw [← e];exact List.mem_map.2 ⟨x,hx,rfl⟩)
theorem key_one (hn : (l.map (·.1)).Nodup) {a b : β} (h1 : (s,a) ∈ l) (h2 : (s,b) ∈ l) : a = b:=by
 obtain ⟨l1,l2,rfl,h⟩:=pl_split hn h1
 rcases List.mem_append.1 h2 with h2 | h2
 ·exact absurd rfl (h _ (List.mem_append_left _ h2))
 ·rcases List.mem_cons.1 h2 with h2 | h2
  ·cases h2;rfl
  ·exact absurd rfl (h _ (List.mem_append_right _ h2))
end
structure WCore (M : Rw → Prop) (ts : List Nat) (rw : Nat → List Rw) (pl : List Pl) : Prop where
 one : ∀ x y,M x → M y → x.1.1 = y.1.1 → x = y
 tn : ts.Nodup
 pn : (pl.map (·.1)).Nodup
 ne : ∀ k ∈ ts,rw k ≠ []
 row : ∀ k ∈ ts,∀ i x,(rw k)[i]? = some x → M x ∧ x.2.1 = (k : Int) ∧ ∃ s : Nat,x.1.1 = (s : Int) ∧ (s,k,i) ∈ pl
 pla : ∀ s k i,(s,k,i) ∈ pl → k ∈ ts ∧ ∃ x,(rw k)[i]? = some x ∧ x.1.1 = (s : Int)
 has : ∀ x,M x → ∃ s k i : Nat,x.1.1 = (s : Int) ∧ (s,k,i) ∈ pl ∧ (rw k)[i]? = some x
section
variable {M : Rw → Prop} {ts : List Nat} {rw : Nat → List Rw} {pl : List Pl}
theorem wcore_nil : WCore (fun _ => False) [] rw []:=⟨by simp,by simp,by simp,by simp,by simp,by simp,by simp⟩
theorem WCore.congr {M' : Rw → Prop} (h : WCore M ts rw pl) (e : ∀ x,M x ↔ M' x) : WCore M' ts rw pl:=by
 have : M = M':=by funext x;exact propext (e x)
 rw [← this];exact h
theorem get_snoc {α : Type} {l : List α} {x y : α} {i : Nat} (h : (l ++ [x])[i]? = some y) : l[i]? = some y ∨ (i = l.length ∧ y = x):=by
 rcases Nat.lt_or_ge i l.length with hi | hi
 ·rw [List.getElem?_append_left hi] at h;exact .inl h
 ·rw [List.getElem?_append_right hi] at h
  cases hj : i - l.length with
  | zero => rw [hj] at h;simp at h;exact .inr ⟨by omega,h.symm⟩
  | succ j => rw [hj] at h;simp at h
theorem WCore.slotNew (h : WCore M ts rw pl) {s : Nat} (hs : ∀ y,M y → y.1.1 ≠ (s : Int)) : ∀ e ∈ pl,e.1 ≠ s:=by
 rintro ⟨s',k,i⟩ he rfl
 obtain ⟨hk,x,hx,hx2⟩:=h.pla _ _ _ he
 exact hs x (h.row k hk i x hx).1 hx2
theorem WCore.layOld (h : WCore M ts rw pl) {x : Rw} {s k : Nat} (hk : k ∈ ts) (hx : x.2.1 = (k : Int)) (hs : x.1.1 = (s : Int)) (hn : ∀ y,M y → y.1.1 ≠ (s : Int)) :
  WCore (fun y => M y ∨ y = x) ts (updL rw k (rw k ++ [x])) (pl ++ [(s,k,(rw k).length)]):=by
 have hsn:=h.slotNew hn
 refine ⟨?_,h.tn,?_,?_,?_,?_,?_⟩
 ·rintro a b (ha | rfl) (hb | rfl) e
  ·exact h.one a b ha hb e
  ·exact absurd (e.trans hs) (hn a ha)
  ·exact absurd (e.symm.trans hs) (hn b hb)
  ·rfl
 ·rw [List.map_append,List.nodup_append]
  refine ⟨h.pn,by simp,fun a ha b hb => ?_⟩
  obtain ⟨e,he,rfl⟩:=List.mem_map.1 ha
  simp at hb;subst hb
  exact hsn e he
 ·intro j hj
  by_cases e : j = k
  ·subst e;rw [updL_same];simp
  ·rw [updL_ne _ _ e];exact h.ne j hj
 ·intro j hj i y hy
  by_cases e : j = k
  ·subst e
   rw [updL_same] at hy
   rcases get_snoc hy with hy | ⟨rfl,rfl⟩
   ·obtain ⟨h1,h2,s',h3,h4⟩:=h.row j hj i y hy
    exact ⟨.inl h1,h2,s',h3,List.mem_append_left _ h4⟩
   ·exact ⟨.inr rfl,hx,s,hs,by simp⟩
  ·rw [updL_ne _ _ e] at hy
   obtain ⟨h1,h2,s',h3,h4⟩:=h.row j hj i y hy
   exact ⟨.inl h1,h2,s',h3,List.mem_append_left _ h4⟩
 ·intro s' j i he
  rcases List.mem_append.1 he with he | he
  ·obtain ⟨h1,y,h2,h3⟩:=h.pla s' j i he
   refine ⟨h1,y,?_,h3⟩
   by_cases e : j = k
   ·subst e;rw [updL_same,List.getElem?_append_left (List.getElem?_eq_some_iff.1 h2).1];exact h2
   ·rw [updL_ne _ _ e];exact h2
  ·simp only [List.mem_singleton,Prod.mk.injEq] at he
   obtain ⟨rfl,rfl,rfl⟩:=he
   exact ⟨hk,x,by rw [updL_same];simp,hs⟩
 ·rintro y (hy | rfl)
  ·obtain ⟨s',j,i,h1,h2,h3⟩:=h.has y hy
   refine ⟨s',j,i,h1,List.mem_append_left _ h2,?_⟩
   by_cases e : j = k
   ·subst e;rw [updL_same,List.getElem?_append_left (List.getElem?_eq_some_iff.1 h3).1];exact h3
   ·rw [updL_ne _ _ e];exact h3
  ·exact ⟨s,k,(rw k).length,hs,by simp,by rw [updL_same];simp⟩
theorem WCore.layNew (h : WCore M ts rw pl) {x : Rw} {s k : Nat} (hk : k ∉ ts) (hx : x.2.1 = (k : Int)) (hs : x.1.1 = (s : Int)) (hn : ∀ y,M y → y.1.1 ≠ (s : Int)) :
  WCore (fun y => M y ∨ y = x) (ts ++ [k]) (updL rw k [x]) (pl ++ [(s,k,0)]):=by
 have hsn:=h.slotNew hn
 have hne : ∀ j ∈ ts,j ≠ k:=fun j hj e => hk (e ▸ hj)
 refine ⟨?_,?_,?_,?_,?_,?_,?_⟩
 ·rintro a b (ha | rfl) (hb | rfl) e
  ·exact h.one a b ha hb e
  ·exact absurd (e.trans hs) (hn a ha)
  ·exact absurd (e.symm.trans hs) (hn b hb)
  ·rfl
 ·rw [List.nodup_append]
  exact ⟨h.tn,by simp,fun a ha b hb => by simp at hb;subst hb;exact hne a ha⟩
 ·rw [List.map_append,List.nodup_append]
  refine ⟨h.pn,by simp,fun a ha b hb => ?_⟩
  obtain ⟨e,he,rfl⟩:=List.mem_map.1 ha
  simp at hb;subst hb
  exact hsn e he
 ·intro j hj
  rcases List.mem_append.1 hj with hj | hj
  ·rw [updL_ne _ _ (hne j hj)];exact h.ne j hj
  ·simp at hj;subst hj;rw [updL_same];simp
 ·intro j hj i y hy
  rcases List.mem_append.1 hj with hj | hj
  ·rw [updL_ne _ _ (hne j hj)] at hy
   obtain ⟨h1,h2,s',h3,h4⟩:=h.row j hj i y hy
   exact ⟨.inl h1,h2,s',h3,List.mem_append_left _ h4⟩
  ·simp at hj;subst hj
   rw [updL_same] at hy
   cases i with
   | zero => simp at hy;subst hy;exact ⟨.inr rfl,hx,s,hs,by simp⟩
   | succ i => simp at hy
 ·intro s' j i he
  rcases List.mem_append.1 he with he | he
  ·obtain ⟨h1,y,h2,h3⟩:=h.pla s' j i he
   exact ⟨List.mem_append_left _ h1,y,by rw [updL_ne _ _ (hne j h1)];exact h2,h3⟩
  ·simp only [List.mem_singleton,Prod.mk.injEq] at he
   obtain ⟨rfl,rfl,rfl⟩:=he
   exact ⟨by simp,x,by rw [updL_same];simp,hs⟩
 ·rintro y (hy | rfl)
  ·obtain ⟨s',j,i,h1,h2,h3⟩:=h.has y hy
   exact ⟨s',j,i,h1,List.mem_append_left _ h2,by rw [updL_ne _ _ (hne j (h.pla _ _ _ h2).1)];exact h3⟩
  ·exact ⟨s,k,0,hs,by simp,by rw [updL_same];simp⟩
end
def beastZ : Bt → Int
 | (K,a0,a1,a2,a3,a4,a5,a6,a7) => beastE K [a0,a1,a2,a3,a4,a5,a6,a7]
theorem beastGo_iff (K : Int) : ∀ (vs : List Int) (k : Nat),beastGo K k vs = 0 ↔ ∀ i,i < vs.length → (hasK K (k + i) = false → vs.getD i 0 = 0) ∧ ¬ (vs.getD i 0 < -1000000000 ∨ 1000000000 < vs.getD i 0)
 | [],_ => by simp [beastGo]
 | v :: vs,k => by
  have ih:=beastGo_iff K vs (k + 1)
  rw [beastGo]
  constructor
  ·intro h i hi
   by_cases h1 : hasK K k = false ∧ v ≠ 0
   ·rw [if_pos h1] at h;simp at h
   ·rw [if_neg h1] at h
    by_cases h2 : v < -1000000000 ∨ 1000000000 < v
    ·rw [if_pos h2] at h;simp at h
    ·rw [if_neg h2] at h
     match i with
     | 0 => exact ⟨fun hk => Decidable.byContradiction fun e => h1 ⟨hk,e⟩,h2⟩
     | i + 1 =>
      have:=ih.1 h i (by simpa using hi)
      rw [show k + 1 + i = k + (i + 1) by omega] at this
      exact this
  ·intro h
   have h0 : (hasK K k = false → v = 0) ∧ ¬ (v < -1000000000 ∨ 1000000000 < v):=h 0 (by simp)
   rw [if_neg (fun e => e.2 (h0.1 e.1)),if_neg h0.2]
   refine ih.2 fun i hi => ?_
   have:=h (i + 1) (by simpa using hi)
   rw [show k + 1 + i = k + (i + 1) by omega]
   exact this
theorem beastZ_iff (b : Bt) : beastZ b = 0 ↔ ∃ kn : Nat,kn < 256 ∧ b.1 = (kn : Int) ∧ ∀ k,k < 8 → (kn.testBit k = false → valK k b = 0) ∧ ¬ (valK k b < -1000000000 ∨ 1000000000 < valK k b):=by
 obtain ⟨K,a0,a1,a2,a3,a4,a5,a6,a7⟩:=b
 show (if isSetB K = true then beastGo K 0 [a0,a1,a2,a3,a4,a5,a6,a7] else (1 : Int)) = 0 ↔ _
 constructor
 ·intro h
  by_cases hs : isSetB K = true
  ·rw [if_pos hs,beastGo_iff] at h
   obtain ⟨m,rfl,hm⟩:=isSetB_nat hs
   refine ⟨m,hm,rfl,fun k hk => ?_⟩
   have:=h k (by simpa using hk)
   rw [Nat.zero_add,hasK_nat m k hm] at this
   exact this
  ·rw [if_neg hs] at h;simp at h
 ·rintro ⟨kn,hkn,e,h⟩
  simp only at e
  subst e
  rw [if_pos (isSetB_t _ (by omega) (by omega)),beastGo_iff]
  intro i hi
  rw [Nat.zero_add,hasK_nat kn i hkn]
  exact h i (by simpa using hi)
theorem allFrom_lo {l : Sl} {k : Nat} {h : Hd} (hh : h ∈ allFrom k l) : (k : Int) ≤ h.1 ∧ h.1 < ((k + l.length : Nat) : Int):=by
 obtain ⟨s,g⟩:=h
 obtain ⟨j,rfl,hj,-⟩:=(mem_allFrom l k s g).1 hh
 exact ⟨by simp only;omega,by simp only;omega⟩
theorem allFrom_sorted : ∀ (l : Sl) (k : Nat),(allFrom k l).Pairwise (fun a b => a.1 < b.1)
 | [],_ => by simp [allFrom]
 | x :: l,k => by
  rw [allFrom]
  split
  ·rw [List.singleton_append,List.pairwise_cons]
   exact ⟨fun y hy => by have:=(allFrom_lo hy).1;simp only;omega,allFrom_sorted l (k + 1)⟩
  ·rw [List.nil_append];exact allFrom_sorted l (k + 1)
theorem get_split {α : Type} {l : List α} {k : Nat} (hk : k < l.length) : l = l.take k ++ l[k] :: l.drop (k + 1):=by
 rw [← List.drop_eq_getElem_cons hk,List.take_append_drop]
structure WOk (sl : Sl) (L : List Rw) : Prop where
 ok : SlOk sl
 hs : L.map (·.1) = allS sl
 be : ∀ x ∈ L,beastZ x.2 = 0
section
variable {sl : Sl} {L : List Rw}
theorem wok_nil : WOk [] []:=⟨slOk_nil,rfl,by simp⟩
theorem WOk.len (h : WOk sl L) : L.length ≤ 60:=by
 have:=congrArg List.length h.hs
 rw [List.length_map] at this
 have h1:=allS_len sl
 have:=h.ok.1
 omega
theorem WOk.live (h : WOk sl L) (s g : Int) : liveB sl s g = true ↔ ∃ x ∈ L,x.1 = (s,g):=by
 rw [liveB_iff,← h.hs,List.mem_map]
end
def putK (K : Int) (k : Nat) : Int:=if hasK K k = true then K else K + pw k
def putR (x : Rw) (k : Nat) (n : Int) : Rw:=(x.1,(putK x.2.1 k,(rwSet x k n).2.2))
def idxL (L : List Rw) (h : Hd) : Option Nat:=L.findIdx? (fun x => decide (x.1 = h))
def putBad (k n : Int) : Prop:=(k < 0 ∨ 7 < k) ∨ (n < -1000000000 ∨ 1000000000 < n)
instance (k n : Int) : Decidable (putBad k n):=by unfold putBad;infer_instance
section
variable {sl : Sl} {L : List Rw}
theorem idx_some {h : Hd} {i : Nat} (hi : idxL L h = some i) : ∃ hl : i < L.length,L[i].1 = h:=by
 obtain ⟨hl,hp⟩:=fi_lt hi
 exact ⟨hl,by simpa using hp⟩
theorem idx_none {h : Hd} (hi : idxL L h = none) : ∀ x ∈ L,x.1 ≠ h:=by
 unfold idxL at hi
 rw [List.findIdx?_eq_none_iff] at hi
 intro x hx e
 have:=hi x hx
 simp [e] at this
theorem WOk.idx (h : WOk sl L) (s g : Int) : (liveB sl s g = true ∧ ∃ i,idxL L (s,g) = some i) ∨ (liveB sl s g = false ∧ idxL L (s,g) = none):=by
 cases hi : idxL L (s,g) with
 | some i =>
  obtain ⟨hl,e⟩:=idx_some hi
  exact .inl ⟨(h.live s g).2 ⟨_,List.getElem_mem hl,e⟩,i,rfl⟩
 | none =>
  refine .inr ⟨?_,rfl⟩
  cases hv : liveB sl s g with
  | false => rfl
  | true =>
   obtain ⟨x,hx,e⟩:=(h.live s g).1 hv
   exact absurd e (idx_none hi x hx)
theorem valK_tail {b c : Bt} (h : b.2 = c.2) (k : Nat) : valK k b = valK k c:=by
 obtain ⟨K,b⟩:=b;obtain ⟨K',c⟩:=c
 simp only at h
 subst h
 rfl
theorem putR_val (x : Rw) (k j : Nat) (hk : k < 8) (n : Int) : valK j (putR x k n).2 = if j = k then n else valK j x.2:=by
 rw [← rwSet_val x k j hk n]
 exact valK_tail rfl j
end
def ltH (a b : Hd) : Bool:=decide (a.1 < b.1) || (decide (a.1 = b.1) && decide (a.2 < b.2))
theorem ltH_iff (a b : Hd) : ltH a b = true ↔ a.1 < b.1 ∨ a.1 = b.1 ∧ a.2 < b.2:=by simp [ltH]
theorem ltH_irrefl (a : Hd) : ltH a a = false:=by simp [ltH]
theorem ltH_trans {a b c : Hd} (h : ltH a b = true) (k : ltH b c = true) : ltH a c = true:=by rw [ltH_iff] at *;omega
theorem ltH_tri {a b : Hd} (h : ltH a b = false) (k : ltH b a = false) : a = b:=by
 have h' : ¬ (a.1 < b.1 ∨ a.1 = b.1 ∧ a.2 < b.2):=fun e => by rw [(ltH_iff a b).2 e] at h;cases h
 have k' : ¬ (b.1 < a.1 ∨ b.1 = a.1 ∧ b.2 < a.2):=fun e => by rw [(ltH_iff b a).2 e] at k;cases k
 exact Prod.ext (by omega) (by omega)
theorem ltH_asymm {a b : Hd} (h : ltH a b = true) : ltH b a = false:=by
 cases e : ltH b a with
 | false => rfl
 | true => have:=ltH_trans h e;rw [ltH_irrefl] at this;cases this
theorem ltH_ne {a b : Hd} (h : ltH a b = true) : a ≠ b:=by rintro rfl;rw [ltH_irrefl] at h;cases h
def SortB (B : List Bd) : Prop:=B.Pairwise (fun a b => ltH a.1 b.1 = true)
def Acy (B : List Bd) : Prop:=∃ rk : Hd → Nat,∀ b ∈ B,rk b.2 < rk b.1
structure FamOk (B : List Bd) : Prop where
 so : SortB B
 ac : Acy B
theorem famOk_nil : FamOk []:=⟨.nil,fun _ => 0,by simp⟩
def parB (B : List Bd) (h : Hd) : Option Hd:=(B.find? (fun b => decide (b.1 = h))).map (·.2)
def outB (B : List Bd) (h : Hd) : List Bd:=B.filter (fun b => decide (b.1 ≠ h))
def insB (B : List Bd) (x : Bd) : List Bd:=(outB B x.1).takeWhile (fun b => ltH b.1 x.1) ++ x :: (outB B x.1).dropWhile (fun b => ltH b.1 x.1)
def kidsB (B : List Bd) (h : Hd) : List Hd:=(B.filter (fun b => decide (b.2 = h))).map (·.1)
theorem SortB.inj {B : List Bd} (h : SortB B) {c p q : Hd} (h1 : (c,p) ∈ B) (h2 : (c,q) ∈ B) : p = q:=by
 induction B with
 | nil => cases h1
 | cons b B ih =>
  have h3:=List.pairwise_cons.1 h
  rcases List.mem_cons.1 h1 with e1 | e1 <;> rcases List.mem_cons.1 h2 with e2 | e2
  ·exact congrArg Prod.snd (e1.trans e2.symm)
  ·have:=h3.1 _ e2;rw [← e1,ltH_irrefl] at this;cases this
  ·have:=h3.1 _ e1;rw [← e2,ltH_irrefl] at this;cases this
  ·exact ih h3.2 e1 e2
theorem SortB.keys {B : List Bd} (h : SortB B) : B.Pairwise (fun a b => a.1 ≠ b.1):=h.imp (fun h => ltH_ne h)
theorem parB_some {B : List Bd} {h p : Hd} (e : parB B h = some p) : (h,p) ∈ B:=by
 unfold parB at e
 cases hf : B.find? (fun b => decide (b.1 = h)) with
 | none => rw [hf] at e;cases e
 | some b =>
  rw [hf] at e
  have h1:=List.find?_some hf
  have h2:=List.mem_of_find?_eq_some hf
  simp only [decide_eq_true_eq] at h1
  simp only [Option.map_some,Option.some.injEq] at e
  rw [← h1,← e];exact h2
theorem parB_none {B : List Bd} {h : Hd} (e : parB B h = none) : ∀ b ∈ B,b.1 ≠ h:=by
 unfold parB at e
 rw [Option.map_eq_none_iff,List.find?_eq_none] at e
 intro b hb
 simpa using e b hb
inductive Up (B : List Bd) : Hd → Hd → Prop
 | refl (h : Hd) : Up B h h
 | step {h p a : Hd} : (h,p) ∈ B → Up B p a → Up B h a
theorem Up.trans {B : List Bd} {a b c : Hd} (h : Up B a b) (k : Up B b c) : Up B a c:=by
 induction h with
 | refl => exact k
 | step hm _ ih => exact .step hm (ih k)
theorem Up.le {B : List Bd} {rk : Hd → Nat} (hr : ∀ b ∈ B,rk b.2 < rk b.1) {h a : Hd} (hu : Up B h a) : rk a ≤ rk h:=by
 induction hu with
 | refl => exact Nat.le_refl _
 | step hm _ ih => have:=hr _ hm;simp only at this;omega
theorem Up.cases' {B : List Bd} {h a : Hd} (hu : Up B h a) : h = a ∨ ∃ p,(h,p) ∈ B ∧ Up B p a:=by
 cases hu with
 | refl => exact .inl rfl
 | step hm k => exact .inr ⟨_,hm,k⟩
theorem up_none {B : List Bd} {h a : Hd} (hp : parB B h = none) : Up B h a ↔ h = a :=
  ⟨fun hu => by rcases hu.cases' with e | ⟨p, hm, -⟩
                · exact e
                · exact absurd rfl (parB_none hp _ hm), fun e => e ▸ .refl _⟩
theorem up_some {B : List Bd} (hs : SortB B) {h p a : Hd} (hp : parB B h = some p) : Up B h a ↔ h = a ∨ Up B p a :=
  ⟨fun hu => by rcases hu.cases' with e | ⟨q, hm, hk⟩
                · exact .inl e
                · rw [hs.inj (parB_some hp) hm]; exact .inr hk, fun e => by
                rcases e with rfl | e
                · exact .refl _
                · exact .step (parB_some hp) e⟩
theorem Acy.bound {B : List Bd} (h : Acy B) : ∃ (rk : Hd → Nat) (N : Nat),(∀ b ∈ B,rk b.2 < rk b.1) ∧ ∀ x,rk x ≤ N:=by
 obtain ⟨rk,hr⟩:=h
 let S : List Hd:=B.map (·.1) ++ B.map (·.2)
 have hb : ∀ (S : List Hd),∃ N,∀ x ∈ S,rk x ≤ N:=by
  intro S
  induction S with
  | nil => exact ⟨0,by simp⟩
  | cons y S ih =>
   obtain ⟨N,hN⟩:=ih
   refine ⟨max (rk y) N,fun x hx => ?_⟩
   rcases List.mem_cons.1 hx with rfl | hx
   ·exact Nat.le_max_left _ _
   ·exact Nat.le_trans (hN x hx) (Nat.le_max_right _ _)
 obtain ⟨N,hN⟩:=hb S
 refine ⟨fun x => if x ∈ S then rk x else 0,N,fun b hb => ?_,fun x => ?_⟩
 ·have m1 : b.1 ∈ S:=List.mem_append_left _ (List.mem_map.2 ⟨b,hb,rfl⟩)
  have m2 : b.2 ∈ S:=List.mem_append_right _ (List.mem_map.2 ⟨b,hb,rfl⟩)
  simp only [m1,m2,if_true]
  exact hr b hb
 ·by_cases hx : x ∈ S
  ·simp only [hx,if_true];exact hN x hx
  ·simp [hx]
theorem mem_insB {B : List Bd} {x b : Bd} : b ∈ insB B x ↔ b = x ∨ (b ∈ B ∧ b.1 ≠ x.1):=by
 unfold insB
 rw [List.mem_append,List.mem_cons]
 have h1 : b ∈ outB B x.1 ↔ b ∈ (outB B x.1).takeWhile (fun b => ltH b.1 x.1) ∨ b ∈ (outB B x.1).dropWhile (fun b => ltH b.1 x.1):=by
  rw [← List.mem_append,List.takeWhile_append_dropWhile]
 have h2 : b ∈ outB B x.1 ↔ b ∈ B ∧ b.1 ≠ x.1:=by unfold outB;rw [List.mem_filter];simp
 rw [← h2,h1]
 constructor
 ·rintro (h | h | h)
  ·exact .inr (.inl h)
  ·exact .inl h
  ·exact .inr (.inr h)
 ·rintro (h | h | h)
  ·exact .inr (.inl h)
  ·exact .inl h
  ·exact .inr (.inr h)
theorem dropWhile_le {B : List Bd} (hs : SortB B) {c : Hd} (hne : ∀ b ∈ B,b.1 ≠ c) : ∀ b ∈ B.dropWhile (fun b => ltH b.1 c),ltH c b.1 = true:=by
 induction B with
 | nil => simp
 | cons x B ih =>
  have h3:=List.pairwise_cons.1 hs
  rw [List.dropWhile_cons]
  by_cases hx : ltH x.1 c = true
  ·rw [if_pos hx];exact ih h3.2 (fun b hb => hne b (List.mem_cons_of_mem _ hb))
  ·rw [if_neg hx]
   have hcx : ltH c x.1 = true:=by
    cases e : ltH c x.1 with
    | true => rfl
    | false => exact absurd (ltH_tri (by simpa using hx) e) (hne x (by simp))
   intro b hb
   rcases List.mem_cons.1 hb with rfl | hb
   ·exact hcx
   ·exact ltH_trans hcx (h3.1 b hb)
theorem takeWhile_lt {B : List Bd} {c : Hd} : ∀ b ∈ B.takeWhile (fun b => ltH b.1 c),ltH b.1 c = true:=by
 induction B with
 | nil => simp
 | cons x B ih =>
  rw [List.takeWhile_cons]
  by_cases hx : ltH x.1 c = true
  ·rw [if_pos hx]
   intro b hb
   rcases List.mem_cons.1 hb with rfl | hb
   ·exact hx
   ·exact ih b hb
  ·rw [if_neg hx];simp
theorem insB_sort {B : List Bd} (hs : SortB B) (x : Bd) : SortB (insB B x):=by
 have ho : SortB (outB B x.1):=hs.sublist List.filter_sublist
 have hne : ∀ b ∈ outB B x.1,b.1 ≠ x.1:=fun b hb => by
  have:=(List.mem_filter.1 hb).2
  simpa using this
 unfold insB SortB
 have hd:=dropWhile_le ho hne
 have ht:=@takeWhile_lt (outB B x.1) x.1
 rw [List.pairwise_append]
 refine ⟨ho.sublist (List.takeWhile_sublist _),List.pairwise_cons.2 ⟨hd,ho.sublist (List.dropWhile_sublist _)⟩,?_⟩
 intro a ha b hb
 rcases List.mem_cons.1 hb with rfl | hb
 ·exact ht a ha
 ·exact ltH_trans (ht a ha) (hd b hb)
theorem insB_ok {B : List Bd} (h : FamOk B) {c p : Hd} (hn : ¬ Up B p c) : FamOk (insB B (c,p)):=by
 refine ⟨insB_sort h.so _,?_⟩
 obtain ⟨rk,hr⟩:=h.ac
 classical
 refine ⟨fun x => if Up B x c then rk x + (rk p + 1) else rk x,fun b hb => ?_⟩
 rcases mem_insB.1 hb with rfl | ⟨hb,hne⟩
 ·simp only [hn,if_false,Up.refl c,if_true];omega
 ·have h1:=hr b hb
  have h2 : Up B b.1 c ↔ Up B b.2 c:=by
   constructor
   ·intro hu
    rcases hu.cases' with e | ⟨q,hm,hk⟩
    ·exact absurd e hne
    ·rw [h.so.inj (show (b.1,b.2) ∈ B from hb) hm];exact hk
   ·exact fun hu => .step (show (b.1,b.2) ∈ B from hb) hu
  by_cases hu : Up B b.2 c
  ·simp only [hu,h2.2 hu,if_true];omega
  ·have hu' : ¬ Up B b.1 c:=fun e => hu (h2.1 e)
   simp only [hu,hu',if_false];exact h1
theorem insB_perm (B : List Bd) (x : Bd) : (insB B x).Perm (x :: outB B x.1):=by
 unfold insB
 refine List.perm_middle.trans (List.Perm.cons _ ?_)
 rw [List.takeWhile_append_dropWhile]
def underN (B : List Bd) : Nat → Hd → List Hd
 | 0,_ => []
 | n + 1,h => (kidsB B h).flatMap (fun c => c :: underN B n c)
def Low (B : List Bd) : Nat → Hd → Prop
 | 0,_ => False
 | n + 1,h => ∀ c ∈ kidsB B h,Low B n c
theorem mem_kids {B : List Bd} {h c : Hd} : c ∈ kidsB B h ↔ (c,h) ∈ B:=by
 unfold kidsB
 rw [List.mem_map]
 constructor
 ·rintro ⟨b,hb,rfl⟩
  obtain ⟨h1,h2⟩:=List.mem_filter.1 hb
  simp only [decide_eq_true_eq] at h2
  rw [← h2];exact h1
 ·intro hm;exact ⟨(c,h),List.mem_filter.2 ⟨hm,by simp⟩,rfl⟩
theorem Acy.low {B : List Bd} (h : Acy B) : ∃ N,∀ x,Low B N x:=by
 obtain ⟨rk,N,hr,hN⟩:=h.bound
 have key : ∀ n x,N < rk x + n → Low B n x:=by
  intro n
  induction n with
  | zero => intro x hx;have:=hN x;omega
  | succ n ih =>
   intro x hx c hc
   refine ih c ?_
   have:=hr _ (mem_kids.1 hc)
   simp only at this
   omega
 exact ⟨N + 1,fun x => key _ x (by omega)⟩
open Classical in
noncomputable def lowN (B : List Bd) : Nat:=if h : ∃ N,∀ x,Low B N x then h.choose else 0
noncomputable def underB (B : List Bd) (h : Hd) : List Hd:=underN B (lowN B) h
theorem lowN_spec {B : List Bd} (h : Acy B) (x : Hd) : Low B (lowN B) x:=by
 unfold lowN
 rw [dif_pos h.low]
 exact h.low.choose_spec x
theorem mem_under {B : List Bd} : ∀ {n : Nat} {h x : Hd},Low B n h → (x ∈ underN B n h ↔ ∃ p,(x,p) ∈ B ∧ Up B p h)
 | n + 1,h,x,hl => by
  unfold underN
  rw [List.mem_flatMap]
  constructor
  ·rintro ⟨c,hc,hx⟩
   rcases List.mem_cons.1 hx with rfl | hx
   ·exact ⟨h,mem_kids.1 hc,.refl _⟩
   ·obtain ⟨p,h1,h2⟩:=(mem_under (hl c hc)).1 hx
    exact ⟨p,h1,h2.trans (.step (mem_kids.1 hc) (.refl _))⟩
  ·rintro ⟨p,h1,h2⟩
   -- the last step of the way up
   have key : ∀ {a : Hd},Up B a h → a = h ∨ ∃ c,(c,h) ∈ B ∧ Up B a c:=by
    intro a hu
    induction hu with
    | refl => exact .inl rfl
    | @step a q z hm hk ih =>
     rcases ih hl h2 with e | ⟨c,h3,h4⟩
     ·subst e;exact .inr ⟨a,hm,.refl _⟩
     ·exact .inr ⟨c,h3,.step hm h4⟩
   rcases key h2 with rfl | ⟨c,h3,h4⟩
   ·exact ⟨x,mem_kids.2 h1,by simp⟩
   ·exact ⟨c,mem_kids.2 h3,List.mem_cons_of_mem _ ((mem_under (hl c (mem_kids.2 h3))).2 ⟨p,h1,h4⟩)⟩
theorem mem_underB {B : List Bd} (h : FamOk B) {c p : Hd} : (c = p ∨ p ∈ underB B c) ↔ Up B p c:=by
 unfold underB
 rw [mem_under (lowN_spec h.ac c)]
 constructor
 ·rintro (rfl | ⟨q,h1,h2⟩)
  ·exact .refl _
  ·exact .step h1 h2
 ·intro hu
  rcases hu.cases' with e | ⟨q,h1,h2⟩
  ·exact .inl e.symm
  ·exact .inr ⟨q,h1,h2⟩
theorem nodup_le {α : Type} [DecidableEq α] : ∀ {xs ys : List α},xs.Nodup → (∀ x ∈ xs,x ∈ ys) → xs.length ≤ ys.length
 | [],_,_,_ => by simp
 | x :: xs,ys,hn,hs => by
  have h1:=List.nodup_cons.1 hn
  have h2:=nodup_le (xs:=xs) (ys:=ys.erase x) h1.2 (fun y hy => by
   refine (List.mem_erase_of_ne ?_).2 (hs y (List.mem_cons_of_mem _ hy))
   rintro rfl;exact h1.1 hy)
  have h3:=List.length_erase_of_mem (hs x (by simp))
  have h4 : 0 < ys.length:=List.length_pos_of_mem (hs x (by simp))
  rw [List.length_cons];omega
theorem kids_nodup {B : List Bd} (hs : SortB B) (h : Hd) : (kidsB B h).Nodup:=by
 unfold kidsB List.Nodup
 rw [List.pairwise_map]
 exact hs.keys.sublist List.filter_sublist
theorem Up.lin {B : List Bd} (hs : SortB B) {x a b : Hd} (h : Up B x a) (k : Up B x b) : Up B a b ∨ Up B b a:=by
 induction h with
 | refl => exact .inl k
 | step hm h' ih =>
  rcases k.cases' with rfl | ⟨q,hm2,hk⟩
  ·exact .inr (.step hm h')
  ·rw [hs.inj hm2 hm] at hk;exact ih hk
theorem under_nodup {B : List Bd} (h : FamOk B) : ∀ {n : Nat} {x : Hd},Low B n x → (underN B n x).Nodup
 | n + 1,x,hl => by
  obtain ⟨rk,hr⟩:=h.ac
  unfold underN List.Nodup
  rw [List.pairwise_flatMap]
  refine ⟨fun c hc => List.nodup_cons.2 ⟨fun hm => ?_,under_nodup h (hl c hc)⟩,?_⟩
  ·obtain ⟨p,h1,h2⟩:=(mem_under (hl c hc)).1 hm
   have:=hr _ h1
   have:=h2.le hr
   simp only at *
   omega
  ·refine List.Pairwise.imp_of_mem ?_ (kids_nodup h.so x)
   intro a b ha hb hne y hy z hz e
   subst e
   have ua : Up B y a:=by
    rcases List.mem_cons.1 hy with rfl | hy
    ·exact .refl _
    ·obtain ⟨p,h1,h2⟩:=(mem_under (hl a ha)).1 hy;exact .step h1 h2
   have ub : Up B y b:=by
    rcases List.mem_cons.1 hz with rfl | hz
    ·exact .refl _
    ·obtain ⟨p,h1,h2⟩:=(mem_under (hl b hb)).1 hz;exact .step h1 h2
   have ma:=mem_kids.1 ha
   have mb:=mem_kids.1 hb
   have r1:=hr _ ma
   have r2:=hr _ mb
   simp only at r1 r2
   rcases ua.lin h.so ub with hu | hu
   ·rcases hu.cases' with e | ⟨q,hm,hk⟩
    ·exact hne e
    ·have:=h.so.inj hm ma
     subst this
     have:=hk.le hr
     omega
   ·rcases hu.cases' with e | ⟨q,hm,hk⟩
    ·exact hne e.symm
    ·have:=h.so.inj hm mb
     subst this
     have:=hk.le hr
     omega
structure ZOk (sl : Sl) (L : List Rw) (B : List Bd) : Prop where
 w : WOk sl L
 f : FamOk B
 c : ∀ b ∈ B,b.1 ∈ allS sl
section
variable {sl : Sl} {L : List Rw} {B : List Bd}
theorem ZOk.len (h : ZOk sl L B) : B.length ≤ 60:=by
 have h1 : (B.map (·.1)).Nodup:=by
  unfold List.Nodup
  rw [List.pairwise_map]
  exact h.f.so.keys
 have h2:=nodup_le h1 (ys:=allS sl) (fun x hx => by
  obtain ⟨b,hb,rfl⟩:=List.mem_map.1 hx
  exact h.c b hb)
 rw [List.length_map] at h2
 have h3:=allS_len sl
 have h4:=h.w.ok.1
 omega
end
theorem Turns.trans {a b c : World} {F G H : List Nat} (h : Turns a F G b) (k : Turns b G H c) : Turns a F H c :=
 ⟨h.mod.trans k.mod h.new,fun x hx => by
  rcases k.new x hx with h1 | h1
  ·exact h.new x h1
  ·have:=h.mod.size;exact .inr (by omega)⟩
theorem Turns.below {a b c : World} {F G : List Nat} (h : Turns a F G b) (k : Below b.heap.size b c) : Turns a F G c:=⟨h.mod.andBelow k,h.new⟩
theorem Turns.ofBelow {a b : World} {F : List Nat} (k : Below a.heap.size a b) : Turns a F F b:=⟨(Mod.ofBelow k).mono (by simp),fun _ h => .inl h⟩
theorem Turns.after {a b c : World} {F G : List Nat} (k : Below a.heap.size a b) (h : Turns b F G c) : Turns a F G c:=(Turns.ofBelow k).trans h
section
variable {w : World} {p kn : Nat} {rows : List Rw} {F : List Nat}
theorem rt_new (kn : Nat) (hk : kn < 256) (w : World) : Calls Tryz.prog 104 #[.int .i64 (kn : Int)] w fun e w' => ∃ b F,e = .returned (.tuple #[.pointer (some ⟨b,0,none⟩),.int .i64 0]) ∧ RepT w' b kn [] F ∧ (∀ y ∈ F,w.heap.size ≤ y) ∧ Below w.heap.size w w':=by
 refine (new_ok kn hk w).mono ?_
 rintro e w1 ⟨b,m,cs,rfl,ht,hF,hb⟩
 exact ⟨b,_,rfl,⟨_,m,cs,_,ht,rfl⟩,hF,hb⟩
def RtPost (p kn : Nat) (rows : List Rw) (F : List Nat) (w : World) (r : Value) (e : Ending) (w' : World) : Prop:=e = .returned r ∧ ∃ F',RepT w' p kn rows F' ∧ Turns w F F' w'
theorem rt_add (h : RepT w p kn rows F) (hkn : kn < 256) (s g a0 a1 a2 a3 a4 a5 a6 a7 : Int) (hb : beastE (kn : Int) [a0,a1,a2,a3,a4,a5,a6,a7] = 0) (hl : rows.length < 1200000000000) :
  Calls Tryz.prog 105 #[.pointer (some ⟨p,0,none⟩),.agg #[.int .i64 s,.int .i64 g],.agg #[.int .i64 (kn : Int),.int .i64 a0,.int .i64 a1,.int .i64 a2,.int .i64 a3,.int .i64 a4,.int .i64 a5,.int .i64 a6,.int .i64 a7]] w
   (RtPost p kn (rows ++ [((s,g),(kn : Int),a0,a1,a2,a3,a4,a5,a6,a7)]) F w (.tuple #[.int .i64 (rows.length : Int),.int .i64 0])):=by
 obtain ⟨vh,m,cs,Fs,ht,rfl⟩:=h
 refine (add_ok ht s g a0 a1 a2 a3 a4 a5 a6 a7 hb (fun kc _ => by rw [List.length_map,List.length_map]) (by simpa using hl)).mono ?_
 rintro e w1 ⟨rfl,vh',Fs',ht',hy,hm⟩
 refine ⟨by rw [List.length_map],_,⟨vh',m,cs,Fs',?_,rfl⟩,hm,hy⟩
 have he:=colsR_app rows ((s,g),(kn : Int),a0,a1,a2,a3,a4,a5,a6,a7)
 rw [List.map_append]
 show TabAt _ _ _ _ (colsR (rows ++ [_])) _ _ _ _
 rw [he]
 exact ht'
end
def plPr (x : Pl) : Value × Value:=(.int .i64 (x.1 : Int),.agg #[.int .i64 (x.2.1 : Int),.int .i64 (x.2.2 : Int)])
structure IntKeys {β : Type} (enc : Nat × β → Value × Value) : Prop where
 key : ∀ x,(enc x).1 = .int .i64 (x.1 : Int)
theorem plPr_keys : IntKeys plPr:=⟨fun _ => rfl⟩
theorem colPr_keys : IntKeys colPr:=⟨fun _ => rfl⟩
section
variable {β : Type} {enc : Nat × β → Value × Value} {w : World} {b : Nat} {l : List (Nat × β)} {t e : TypeId}
theorem MapAt.keysNodup (K : IntKeys enc) (h : MapAt Tryz.prog 3 w b (l.map enc)) : (l.map (·.1)).Nodup:=by
 obtain ⟨es,clock,hb,hok⟩:=h
 have:=hok.apart
 rw [List.pairwise_map] at this
 unfold List.Nodup
 rw [List.pairwise_map]
 refine this.imp fun {x y} hxy e => hxy ?_
 rw [K.key,K.key,e]
theorem key_ne (K : IntKeys enc) {s : Nat} (hs : ∀ x ∈ l,x.1 ≠ s) : ∀ p ∈ l.map enc,p.1 ≠ .int .i64 (s : Int):=by
 intro p hp e
 obtain ⟨x,hx,rfl⟩:=List.mem_map.1 hp
 rw [K.key] at e
 simp only [Value.int.injEq,true_and] at e
 exact hs x hx (by omega)
theorem mi_in (K : IntKeys enc) (ht : Tryz.prog.underlying t = some (.map 3 e)) (h : MapAt Tryz.prog 3 w b (l.map enc)) {s : Nat} (hs : s < 256) {v : β} (hm : (s,v) ∈ l) (c : Bool) :
  (Instr.lookup t (.map (some b)) (.int .i64 (s : Int)) c).run Tryz.prog w = .ok (if c then .tuple #[(enc (s,v)).2,.bool true] else (enc (s,v)).2) w :=
 h.look_in keyedInt ht (keyInt (inR_nat hs)) (by
  have : enc (s,v) ∈ l.map enc:=List.mem_map.2 ⟨_,hm,rfl⟩
  rw [show enc (s,v) = (.int .i64 (s : Int),(enc (s,v)).2) from Prod.ext (K.key _) rfl] at this
  exact this) c
theorem mi_put (K : IntKeys enc) (ht : Tryz.prog.underlying t = some (.map 3 e)) (h : MapAt Tryz.prog 3 w b (l.map enc)) {s : Nat} (hs : s < 256) (hn : ∀ x ∈ l,x.1 ≠ s) (v : β) :
  ∃ w',(Instr.mapUpdate t (.map (some b)) (.int .i64 (s : Int)) (enc (s,v)).2).run Tryz.prog w = .ok () w' ∧ MapAt Tryz.prog 3 w' b ((l ++ [(s,v)]).map enc) ∧ Mod [b] w w' ∧ w'.heap.size = w.heap.size:=by
 obtain ⟨w',h1,h2,h3⟩:=h.put_new keyedInt ht (keyInt (inR_nat hs)) (key_ne K hn) (enc (s,v)).2
 refine ⟨w',h1,?_,h3⟩
 rw [List.map_append]
 rw [show (List.map enc [(s,v)]) = [(.int .i64 (s : Int),(enc (s,v)).2)] from congrArg (· :: []) (Prod.ext (K.key _) rfl)]
 exact h2
end
structure WorldAt (w : World) (p ps mt mp : Nat) (sl : Sl) (tb : List (Nat × Nat)) (rw : Nat → List Rw) (pl : List Pl) (FS : List Nat) (Fs : Nat → List Nat) (c : Nat → Nat) : Prop where
 blk : w.heap[p]? = some (.cells #[.pointer (some ⟨ps,0,none⟩),.map (some mt),.map (some mp)] 120 (0,0))
 sl : RepS w ps sl FS
 tm : MapAt Tryz.prog 3 w mt (tb.map colPr)
 pm : MapAt Tryz.prog 3 w mp (pl.map plPr)
 tab : ∀ t ∈ tb,RepT w t.2 t.1 (rw t.1) (Fs t.1)
 cp : c p = 1
 cs : ∀ y ∈ FS,c y = 2
 ct : c mt = 3
 cm : c mp = 4
 cb : ∀ t ∈ tb,∀ y ∈ Fs t.1,c y = 5 + t.1
def wF (p mt mp : Nat) (tb : List (Nat × Nat)) (FS : List Nat) (Fs : Nat → List Nat) : List Nat:=p :: mt :: mp :: (FS ++ tb.flatMap fun t => Fs t.1)
theorem mem_wF {p mt mp : Nat} {tb : List (Nat × Nat)} {FS : List Nat} {Fs : Nat → List Nat} {y : Nat} : y ∈ wF p mt mp tb FS Fs ↔ y = p ∨ y = mt ∨ y = mp ∨ y ∈ FS ∨ ∃ t ∈ tb,y ∈ Fs t.1:=by
 unfold wF;simp only [List.mem_cons,List.mem_append,List.mem_flatMap]
def recol (c : Nat → Nat) (n k : Nat) (y : Nat) : Nat:=if y < n then c y else k
theorem recol_lt {c : Nat → Nat} {n k y : Nat} (h : y < n) : recol c n k y = c y:=if_pos h
theorem recol_ge {c : Nat → Nat} {n k y : Nat} (h : n ≤ y) : recol c n k y = k:=if_neg (by omega)
section
variable {w w1 w2 w' : World} {p ps mt mp : Nat} {sl : Sl} {tb : List (Nat × Nat)} {rw : Nat → List Rw} {pl : List Pl} {FS : List Nat} {Fs : Nat → List Nat} {c : Nat → Nat}
theorem WorldAt.lt (h : WorldAt w p ps mt mp sl tb rw pl FS Fs c) : ∀ y ∈ wF p mt mp tb FS Fs,y < w.heap.size:=by
 intro y hy
 rcases mem_wF.1 hy with rfl | rfl | rfl | hy | ⟨t,ht,hy⟩
 ·exact blk_lt h.blk
 ·exact h.tm.lt
 ·exact h.pm.lt
 ·exact h.sl.lt y hy
 ·exact (h.tab t ht).lt y hy
theorem WorldAt.mod (h : WorldAt w p ps mt mp sl tb rw pl FS Fs c) {G : List Nat} (hm : Mod G w w') (hd : ∀ y ∈ wF p mt mp tb FS Fs,y ∉ G) : WorldAt w' p ps mt mp sl tb rw pl FS Fs c :=
 ⟨hm.keep h.blk (hd _ (mem_wF.2 (.inl rfl))),h.sl.mod hm (fun y hy => hd y (mem_wF.2 (.inr (.inr (.inr (.inl hy)))))),h.tm.mod hm (hd _ (mem_wF.2 (.inr (.inl rfl)))),h.pm.mod hm (hd _ (mem_wF.2 (.inr (.inr (.inl rfl))))),
  fun t ht => (h.tab t ht).mod hm (fun y hy => hd y (mem_wF.2 (.inr (.inr (.inr (.inr ⟨t,ht,hy⟩)))))),h.cp,h.cs,h.ct,h.cm,h.cb⟩
theorem WorldAt.below (h : WorldAt w p ps mt mp sl tb rw pl FS Fs c) (hb : Below w.heap.size w w') : WorldAt w' p ps mt mp sl tb rw pl FS Fs c:=h.mod (Mod.ofBelow hb) (by simp)
theorem WorldAt.keys (h : WorldAt w p ps mt mp sl tb rw pl FS Fs c) : (tb.map (·.1)).Nodup:=h.tm.keysNodup colPr_keys
theorem WorldAt.one (h : WorldAt w p ps mt mp sl tb rw pl FS Fs c) {k b b' : Nat} (h1 : (k,b) ∈ tb) (h2 : (k,b') ∈ tb) : b = b':=key_one h.keys h1 h2
theorem WorldAt.turnTab (h : WorldAt w p ps mt mp sl tb rw pl FS Fs c) {k b : Nat} (hk : (k,b) ∈ tb) {rows : List Rw} {F' : List Nat} (ht : RepT w' b k rows F') (hm : Turns w (Fs k) F' w') :
  WorldAt w' p ps mt mp sl tb (updL rw k rows) pl FS (updL Fs k F') (recol c w.heap.size (5 + k)) ∧ Turns w (wF p mt mp tb FS Fs) (wF p mt mp tb FS (updL Fs k F')) w':=by
 have hlt:=h.lt
 have hck : ∀ y ∈ Fs k,c y = 5 + k:=h.cb _ hk
 have hkeep : ∀ y ∈ wF p mt mp tb FS Fs,c y ≠ 5 + k → y ∉ Fs k:=fun y _ hne hy => hne (hck y hy)
 have l0:=hlt p (mem_wF.2 (.inl rfl));have l1:=hlt mt (mem_wF.2 (.inr (.inl rfl)));have l2:=hlt mp (mem_wF.2 (.inr (.inr (.inl rfl))))
 refine ⟨⟨hm.mod.keep h.blk (fun e => by have:=hck _ e;rw [h.cp] at this;omega),h.sl.mod hm.mod (fun y hy e => by have:=hck _ e;rw [h.cs y hy] at this;omega),h.tm.mod hm.mod (fun e => by have:=hck _ e;rw [h.ct] at this;omega),h.pm.mod hm.mod (fun e => by have:=hck _ e;rw [h.cm] at this;omega),?_,
  by rw [recol_lt l0];exact h.cp,fun y hy => by rw [recol_lt (h.sl.lt y hy)];exact h.cs y hy,by rw [recol_lt l1];exact h.ct,by rw [recol_lt l2];exact h.cm,?_⟩,?_,?_⟩
 ·rintro ⟨j,b'⟩ hj
  by_cases e : j = k
  ·subst e
   have:=h.one hj hk
   subst this
   simp only [updL_same];exact ht
  ·simp only [updL_ne _ _ e]
   exact (h.tab _ hj).mod hm.mod (fun y hy e2 => by have h1:=hck _ e2;have h2:=h.cb _ hj y hy;simp only at h2;omega)
 ·rintro ⟨j,b'⟩ hj y hy
  by_cases e : j = k
  ·subst e
   simp only [updL_same] at hy
   rcases hm.new y hy with h1 | h1
   ·rw [recol_lt ((h.tab _ hk).lt y h1)];exact hck y h1
   ·rw [recol_ge h1]
  ·simp only [updL_ne _ _ e] at hy
   rw [recol_lt ((h.tab _ hj).lt y hy)];exact h.cb _ hj y hy
 ·exact hm.mod.mono fun x hx => .inl (mem_wF.2 (.inr (.inr (.inr (.inr ⟨_,hk,hx⟩)))))
 ·intro y hy
  rcases mem_wF.1 hy with h1 | h1 | h1 | h1 | ⟨⟨j,b'⟩,hj,h1⟩
  ·exact .inl (mem_wF.2 (.inl h1))
  ·exact .inl (mem_wF.2 (.inr (.inl h1)))
  ·exact .inl (mem_wF.2 (.inr (.inr (.inl h1))))
  ·exact .inl (mem_wF.2 (.inr (.inr (.inr (.inl h1)))))
  ·by_cases e : j = k
   ·subst e
    simp only [updL_same] at h1
    rcases hm.new y h1 with h2 | h2
    ·exact .inl (mem_wF.2 (.inr (.inr (.inr (.inr ⟨_,hk,h2⟩)))))
    ·exact .inr h2
   ·simp only [updL_ne _ _ e] at h1
    exact .inl (mem_wF.2 (.inr (.inr (.inr (.inr ⟨_,hj,h1⟩)))))
theorem WorldAt.turnPl (h : WorldAt w p ps mt mp sl tb rw pl FS Fs c) {pl' : List Pl} (hp : MapAt Tryz.prog 3 w' mp (pl'.map plPr)) (hm : Mod [mp] w w') :
  WorldAt w' p ps mt mp sl tb rw pl' FS Fs c ∧ Turns w (wF p mt mp tb FS Fs) (wF p mt mp tb FS Fs) w':=by
 have hno : ∀ y,c y ≠ 4 → y ∉ [mp]:=fun y hy e => by simp at e;subst e;exact hy h.cm
 refine ⟨⟨hm.keep h.blk (hno _ (by rw [h.cp];omega)),h.sl.mod hm (fun y hy => hno _ (by rw [h.cs y hy];omega)),h.tm.mod hm (hno _ (by rw [h.ct];omega)),hp,fun t ht => (h.tab t ht).mod hm (fun y hy => hno _ (by rw [h.cb t ht y hy];omega)),h.cp,h.cs,h.ct,h.cm,h.cb⟩,
  hm.mono fun x hx => .inl (by simp at hx;subst hx;exact mem_wF.2 (.inr (.inr (.inl rfl)))),fun _ h => .inl h⟩
theorem WorldAt.addTab (h : WorldAt w p ps mt mp sl tb rw pl FS Fs c) (hb : Below w.heap.size w w1) {k b : Nat} {rows : List Rw} {F : List Nat} (ht : RepT w1 b k rows F) (hF : ∀ y ∈ F,w.heap.size ≤ y) (hk : ∀ t ∈ tb,t.1 ≠ k)
  (hmap : MapAt Tryz.prog 3 w2 mt ((tb ++ [(k,b)]).map colPr)) (hm : Mod [mt] w1 w2) :
  WorldAt w2 p ps mt mp sl (tb ++ [(k,b)]) (updL rw k rows) pl FS (updL Fs k F) (recol c w.heap.size (5 + k)) ∧ Turns w (wF p mt mp tb FS Fs) (wF p mt mp (tb ++ [(k,b)]) FS (updL Fs k F)) w2:=by
 have hlt:=h.lt
 have h1:=h.below hb
 have hno : ∀ y,c y ≠ 3 → y ∉ [mt]:=fun y hy e => by simp at e;subst e;exact hy h.ct
 have l0:=hlt p (mem_wF.2 (.inl rfl));have l1:=hlt mt (mem_wF.2 (.inr (.inl rfl)));have l2:=hlt mp (mem_wF.2 (.inr (.inr (.inl rfl))))
 refine ⟨⟨hm.keep h1.blk (hno _ (by rw [h.cp];omega)),h1.sl.mod hm (fun y hy => hno _ (by rw [h.cs y hy];omega)),hmap,h1.pm.mod hm (hno _ (by rw [h.cm];omega)),?_,
  by rw [recol_lt l0];exact h.cp,fun y hy => by rw [recol_lt (h.sl.lt y hy)];exact h.cs y hy,by rw [recol_lt l1];exact h.ct,by rw [recol_lt l2];exact h.cm,?_⟩,?_,?_⟩
 ·intro t hj
  rcases List.mem_append.1 hj with hj | hj
  ·rw [updL_ne _ _ (hk t hj),updL_ne _ _ (hk t hj)]
   exact (h1.tab t hj).mod hm (fun y hy => hno _ (by rw [h.cb t hj y hy];omega))
  ·simp at hj;subst hj
   simp only [updL_same]
   exact ht.mod hm (fun y hy e => by simp at e;have:=hF y hy;omega)
 ·intro t hj y hy
  rcases List.mem_append.1 hj with hj | hj
  ·rw [updL_ne _ _ (hk t hj)] at hy
   rw [recol_lt ((h.tab t hj).lt y hy)];exact h.cb t hj y hy
  ·simp at hj;subst hj
   simp only [updL_same] at hy
   rw [recol_ge (hF y hy)]
 ·exact ((Mod.ofBelow hb).mono (by simp)).trans hm (fun x hx => .inl (by simp at hx;subst hx;exact mem_wF.2 (.inr (.inl rfl))))
 ·intro y hy
  rcases mem_wF.1 hy with h1 | h1 | h1 | h1 | ⟨t,hj,h1⟩
  ·exact .inl (mem_wF.2 (.inl h1))
  ·exact .inl (mem_wF.2 (.inr (.inl h1)))
  ·exact .inl (mem_wF.2 (.inr (.inr (.inl h1))))
  ·exact .inl (mem_wF.2 (.inr (.inr (.inr (.inl h1)))))
  ·rcases List.mem_append.1 hj with hj | hj
   ·rw [updL_ne _ _ (hk t hj)] at h1
    exact .inl (mem_wF.2 (.inr (.inr (.inr (.inr ⟨t,hj,h1⟩)))))
   ·simp at hj;subst hj
    simp only [updL_same] at h1
    exact .inr (hF y h1)
end
end Go.Proofs.YtoheblfpjinmnaaGreatDoor
