import Derived.Shelf.SlMaps.Clone
import Derived.Test.YtfdillpofciicaaGreatDoorTopSavedJ34
set_option linter.unusedVariables false
set_option linter.unusedSimpArgs false
/- A part of the proof that TopSaved returns true. -/
namespace Go.Proofs.YtfdillpofciicaaGreatDoor
open Go Go.RowKit
def wGens : Bs:=[103,101,110,115]
def wRow : Bs:=[114,111,119]
def wBond : Bs:=[98,111,110,100]
def gensX (gs : List Int) : Bs:=wGens ++ nums gs
def pairX (b : Bt) (k : Nat) : Bs:=Lib.itoa (k : Int) ++ 61 :: Lib.itoa (valK k b)
def rowX (r : Rw) : Bs:=(wRow ++ nums [r.1.1,r.1.2]) ++ (natKinds r.2.1.toNat 8).flatMap fun k => 32 :: pairX r.2 k
def bondX (b : Bd) : Bs:=wBond ++ nums [b.1.1,b.1.2,b.2.1,b.2.2]
def lnX (x : Bs) : Bs:=x ++ [10]
def linesX (gs : List Int) (rows : List Rw) (bs : List Bd) : List Bs:=gensX gs :: (rows.map rowX ++ bs.map bondX)
def printX (gs : List Int) (rows : List Rw) (bs : List Bd) : Bs:=(linesX gs rows bs).flatMap lnX
theorem glue_cons (c : UInt8) (w : Bs) : ∀ l : List Bs,w ++ l.flatMap (fun x => c :: x) = glue c (w :: l)
 | [] => by simp [glue]
 | x :: l => by rw [List.flatMap_cons,glue,← glue_cons c x l,List.cons_append]
theorem nums_map (l : List Int) : nums l = (l.map Lib.itoa).flatMap (fun x => 32 :: x):=by unfold nums;rw [List.flatMap_map]
theorem gensX_glue (gs : List Int) : gensX gs = glue 32 (wGens :: gs.map Lib.itoa):=by unfold gensX;rw [nums_map,glue_cons]
theorem bondX_glue (b : Bd) : bondX b = glue 32 (wBond :: [b.1.1,b.1.2,b.2.1,b.2.2].map Lib.itoa):=by unfold bondX;rw [nums_map,glue_cons]
theorem rowX_glue (r : Rw) : rowX r = glue 32 (wRow :: (Lib.itoa r.1.1 :: Lib.itoa r.1.2 :: (natKinds r.2.1.toNat 8).map (pairX r.2))):=by
 unfold rowX
 rw [← glue_cons,nums_map,List.append_assoc]
 simp [List.flatMap_map]
theorem itoa_no (n : Int) : (32 : UInt8) ∉ Lib.itoa n ∧ (10 : UInt8) ∉ Lib.itoa n ∧ (61 : UInt8) ∉ Lib.itoa n:=⟨itoa_not (.inl rfl),itoa_not (.inr (.inl rfl)),itoa_not (.inr (.inr rfl))⟩
theorem pairX_no (b : Bt) (k : Nat) : (32 : UInt8) ∉ pairX b k ∧ (10 : UInt8) ∉ pairX b k:=by
 unfold pairX
 have h1:=itoa_no (k : Int);have h2:=itoa_no (valK k b)
 constructor <;> simp only [List.mem_append,List.mem_cons,not_or]
 ·exact ⟨h1.1,by decide,h2.1⟩
 ·exact ⟨h1.2.1,by decide,h2.2.1⟩
theorem glue_no {c d : UInt8} (hcd : c ≠ d) : ∀ {l : List Bs},(∀ x ∈ l,c ∉ x) → c ∉ glue d l
 | [],_ => by simp [glue]
 | [x],h => by rw [glue];exact h x (by simp)
 | x :: y :: r,h => by
  rw [glue]
  simp only [List.mem_append,List.mem_cons,not_or]
  exact ⟨h x (by simp),hcd,glue_no hcd (fun z hz => h z (by simp only [List.mem_cons] at hz ⊢;exact .inr hz))⟩
theorem gens_words (gs : List Int) (c : UInt8) (hc : c = 32 ∨ c = 10) : ∀ x ∈ wGens :: gs.map Lib.itoa,c ∉ x:=by
 intro x hx
 rcases List.mem_cons.1 hx with rfl | hx
 ·rcases hc with rfl | rfl <;> decide
 ·obtain ⟨n,-,rfl⟩:=List.mem_map.1 hx
  exact itoa_not (by rcases hc with h | h <;> simp [h])
theorem bond_words (b : Bd) (c : UInt8) (hc : c = 32 ∨ c = 10) : ∀ x ∈ wBond :: [b.1.1,b.1.2,b.2.1,b.2.2].map Lib.itoa,c ∉ x:=by
 intro x hx
 rcases List.mem_cons.1 hx with rfl | hx
 ·rcases hc with rfl | rfl <;> decide
 ·obtain ⟨n,-,rfl⟩:=List.mem_map.1 hx
  exact itoa_not (by rcases hc with h | h <;> simp [h])
theorem row_words (r : Rw) (c : UInt8) (hc : c = 32 ∨ c = 10) : ∀ x ∈ wRow :: (Lib.itoa r.1.1 :: Lib.itoa r.1.2 :: (natKinds r.2.1.toNat 8).map (pairX r.2)),c ∉ x:=by
 intro x hx
 have hi : ∀ n,c ∉ Lib.itoa n:=fun n => itoa_not (by rcases hc with h | h <;> simp [h])
 rcases List.mem_cons.1 hx with rfl | hx
 ·rcases hc with rfl | rfl <;> decide
 ·rcases List.mem_cons.1 hx with rfl | hx
  ·exact hi _
  ·rcases List.mem_cons.1 hx with rfl | hx
   ·exact hi _
   ·obtain ⟨n,-,rfl⟩:=List.mem_map.1 hx
    rcases hc with rfl | rfl
    ·exact (pairX_no _ _).1
    ·exact (pairX_no _ _).2
theorem linesX_no (gs : List Int) (rows : List Rw) (bs : List Bd) : ∀ x ∈ linesX gs rows bs,(10 : UInt8) ∉ x:=by
 intro x hx
 unfold linesX at hx
 rcases List.mem_cons.1 hx with rfl | hx
 ·rw [gensX_glue];exact glue_no (by decide) (gens_words gs 10 (.inr rfl))
 ·rcases List.mem_append.1 hx with hx | hx
  ·obtain ⟨r,-,rfl⟩:=List.mem_map.1 hx
   rw [rowX_glue];exact glue_no (by decide) (row_words r 10 (.inr rfl))
  ·obtain ⟨b,-,rfl⟩:=List.mem_map.1 hx
   rw [bondX_glue];exact glue_no (by decide) (bond_words b 10 (.inr rfl))
abbrev St3:=List Int × List Rw × List Bd
def zeroRw (h : Hd) : Rw:=(h,0,0,0,0,0,0,0,0,0)
def kvS (r : Rw) (y : Bs) : Rw:=if 0 ≤ num0 (Lib.cut y [61]).1 ∧ num0 (Lib.cut y [61]).1 < 8 then putR r (num0 (Lib.cut y [61]).1).toNat (num0 (Lib.cut y [61]).2.1) else r
def stepW (s : St3) (w : List Bs) : St3 :=
 if w.head? = some wGens then ((w.drop 1).map num0,s.2)
 else if w.head? = some wRow ∧ 1 < (w.drop 1).length then (s.1,s.2.1 ++ [(w.drop 3).foldl kvS (zeroRw (((w.drop 1).map num0).getD 0 0,((w.drop 1).map num0).getD 1 0))],s.2.2)
 else if w.head? = some wBond ∧ (w.drop 1).length = 4 then (s.1,s.2.1,s.2.2 ++ [((((w.drop 1).map num0).getD 0 0,((w.drop 1).map num0).getD 1 0),(((w.drop 1).map num0).getD 2 0,((w.drop 1).map num0).getD 3 0))])
 else s
def stepX (s : St3) (x : Bs) : St3:=stepW s (spl 32 (Lib.trimSuffix x [10]))
def parseX (t : Bs) : St3:=(lns t).foldl stepX ([],[],[])
def SmallI (n : Int) : Prop:=n.natAbs < 10000000000
structure TOk (gs : List Int) (rows : List Rw) (bs : List Bd) : Prop where
 g : ∀ n ∈ gs,SmallI n
 r : ∀ r ∈ rows,SmallI r.1.1 ∧ SmallI r.1.2 ∧ beastZ r.2 = 0
 b : ∀ b ∈ bs,SmallI b.1.1 ∧ SmallI b.1.2 ∧ SmallI b.2.1 ∧ SmallI b.2.2
theorem num0_small {n : Int} (h : SmallI n) : num0 (Lib.itoa n) = n:=num0_itoa (by unfold SmallI at h;omega)
theorem map_num0 : ∀ {l : List Int},(∀ n ∈ l,SmallI n) → (l.map Lib.itoa).map num0 = l
 | [],_ => rfl
 | n :: l,h => by rw [List.map_cons,List.map_cons,num0_small (h n (by simp)),map_num0 (fun m hm => h m (by simp [hm]))]
theorem bt_eq {a b : Bt} (h : a.1 = b.1) (hv : ∀ k,k < 8 → valK k a = valK k b) : a = b:=by
 obtain ⟨K,a0,a1,a2,a3,a4,a5,a6,a7⟩:=a
 obtain ⟨K',b0,b1,b2,b3,b4,b5,b6,b7⟩:=b
 have e0:=hv 0 (by omega);have e1:=hv 1 (by omega);have e2:=hv 2 (by omega);have e3:=hv 3 (by omega)
 have e4:=hv 4 (by omega);have e5:=hv 5 (by omega);have e6:=hv 6 (by omega);have e7:=hv 7 (by omega)
 simp only [valK,btI,gS,gZ] at e0 e1 e2 e3 e4 e5 e6 e7 h
 subst e0 e1 e2 e3 e4 e5 e6 e7 h
 rfl
theorem pow_bits : ∀ m : Fin 256,∀ n : Fin 8,(m.val % 2 ^ n.val).testBit n.val = false ∧ m.val % 2 ^ (n.val + 1) = m.val % 2 ^ n.val + (if m.val.testBit n.val = true then 2 ^ n.val else 0):=by decide +kernel
theorem putKs (h : Hd) {b : Bt} {m : Nat} (hm : m < 256) : ∀ n,n ≤ 8 → ((natKinds m n).foldl (fun r k => putR r k (valK k b)) (zeroRw h)).1 = h ∧ ((natKinds m n).foldl (fun r k => putR r k (valK k b)) (zeroRw h)).2.1 = ((m % 2 ^ n : Nat) : Int) ∧
  ∀ j,valK j ((natKinds m n).foldl (fun r k => putR r k (valK k b)) (zeroRw h)).2 = if j < n ∧ m.testBit j = true then valK j b else 0
 | 0,_ => by
  refine ⟨rfl,?_,fun j => ?_⟩
  ·show (0 : Int) = _
   rw [Nat.pow_zero,Nat.mod_one];rfl
  ·show valK j (zeroRw h).2 = _
   rw [if_neg (by omega)]
   by_cases hj : j < 8
   ·have : j = 0 ∨ j = 1 ∨ j = 2 ∨ j = 3 ∨ j = 4 ∨ j = 5 ∨ j = 6 ∨ j = 7:=by omega
    rcases this with rfl | rfl | rfl | rfl | rfl | rfl | rfl | rfl <;> rfl
   ·exact valK_big j (by omega) _
 | n + 1,hn => by
  obtain ⟨h1,h2,h3⟩:=putKs h (b:=b) hm n (by omega)
  have hp:=pow_bits ⟨m,hm⟩ ⟨n,by omega⟩
  simp only at hp
  rw [natKinds_succ,List.foldl_append]
  generalize (natKinds m n).foldl (fun r k => putR r k (valK k b)) (zeroRw h) = R at h1 h2 h3 ⊢
  cases hb : m.testBit n with
  | false =>
   simp only [Bool.false_eq_true,if_false,List.foldl_nil]
   refine ⟨h1,?_,fun j => ?_⟩
   ·rw [h2,hp.2,hb];simp
   ·rw [h3 j]
    by_cases hj : j = n
    ·subst hj;rw [hb];simp
    ·have : (j < n + 1 ∧ m.testBit j = true) ↔ (j < n ∧ m.testBit j = true):=by constructor <;> (rintro ⟨h1,h2⟩;exact ⟨by omega,h2⟩)
     simp only [this]
  | true =>
   simp only [if_true,List.foldl_cons,List.foldl_nil]
   refine ⟨h1,?_,fun j => ?_⟩
   ·show putK R.2.1 n = _
    unfold putK
    rw [h2,hasK_nat _ _ (by have:=Nat.mod_le m (2 ^ n);omega),hp.1,if_neg (by simp),hp.2,hb,if_pos rfl]
    unfold pw;omega
   ·rw [putR_val _ _ _ (by omega)]
    by_cases hj : j = n
    ·subst hj;rw [if_pos rfl,if_pos ⟨by omega,hb⟩]
    ·rw [if_neg hj,h3 j]
     have : (j < n + 1 ∧ m.testBit j = true) ↔ (j < n ∧ m.testBit j = true):=by constructor <;> (rintro ⟨h1,h2⟩;exact ⟨by omega,h2⟩)
     simp only [this]
theorem putKs_row {r : Rw} (h : beastZ r.2 = 0) : (natKinds r.2.1.toNat 8).foldl (fun x k => putR x k (valK k r.2)) (zeroRw r.1) = r:=by
 obtain ⟨m,hm,e,hv⟩:=(beastZ_iff _).1 h
 obtain ⟨h1,h2,h3⟩:=putKs r.1 (b:=r.2) hm 8 (Nat.le_refl _)
 have e2 : r.2.1.toNat = m:=by rw [e];rfl
 rw [e2]
 refine Prod.ext h1 (bt_eq ?_ fun k hk => ?_)
 ·rw [h2,e,Nat.mod_eq_of_lt hm]
 ·rw [h3 k]
  cases hb : m.testBit k with
  | false => rw [if_neg (by simp)];exact ((hv k hk).1 hb).symm
  | true => rw [if_pos ⟨hk,rfl⟩]
theorem val_small {r : Rw} (h : beastZ r.2 = 0) {k : Nat} (hk : k < 8) : SmallI (valK k r.2):=by
 obtain ⟨m,hm,e,hv⟩:=(beastZ_iff _).1 h
 have:=(hv k hk).2
 unfold SmallI;omega
theorem kvS_pair (b : Bt) {k : Nat} (hk : k < 8) (hv : SmallI (valK k b)) (x : Rw) : kvS x (pairX b k) = putR x k (valK k b):=by
 unfold kvS pairX
 rw [cut_app (itoa_no _).2.2]
 simp only
 rw [num0_small (n:=(k : Int)) (by unfold SmallI;omega),num0_small hv,if_pos (by omega)]
 rfl
theorem kvS_all (b : Bt) : ∀ (ks : List Nat) (x : Rw),(∀ k ∈ ks,k < 8 ∧ SmallI (valK k b)) → (ks.map (pairX b)).foldl kvS x = ks.foldl (fun r k => putR r k (valK k b)) x
 | [],_,_ => rfl
 | k :: ks,x,h => by
  rw [List.map_cons,List.foldl_cons,List.foldl_cons,kvS_pair b (h k (by simp)).1 (h k (by simp)).2,kvS_all b ks _ (fun j hj => h j (by simp [hj]))]
section
variable {gs : List Int} {rows : List Rw} {bs : List Bd}
theorem words_of {c : UInt8} {x : Bs} {ws : List Bs} (e : x = glue 32 ws) (hne : ws ≠ []) (h32 : ∀ y ∈ ws,(32 : UInt8) ∉ y) : spl 32 (Lib.trimSuffix (lnX x) [10]) = ws:=by
 unfold lnX
 rw [trim_app,e,spl_glue hne h32]
theorem stepX_gens (hg : ∀ n ∈ gs,SmallI n) (s : St3) : stepX s (lnX (gensX gs)) = (gs,s.2):=by
 unfold stepX
 rw [words_of (c:=0) (gensX_glue gs) (by simp) (gens_words gs 32 (.inl rfl))]
 unfold stepW
 rw [if_pos (show (wGens :: gs.map Lib.itoa).head? = some wGens from rfl)]
 simp only [dS,List.drop_zero]
 rw [map_num0 hg]
theorem stepX_row {r : Rw} (h : SmallI r.1.1 ∧ SmallI r.1.2 ∧ beastZ r.2 = 0) (s : St3) : stepX s (lnX (rowX r)) = (s.1,s.2.1 ++ [r],s.2.2):=by
 unfold stepX
 rw [words_of (c:=0) (rowX_glue r) (by simp) (row_words r 32 (.inl rfl))]
 unfold stepW
 simp only [List.head?_cons]
 rw [if_neg (by simp [wRow,wGens]),if_pos ⟨by trivial,by simp⟩]
 simp only [dS,List.drop_zero,mC,gZ,gS]
 rw [num0_small h.1,num0_small h.2.1,kvS_all _ _ _ (fun k hk => ⟨natKinds_lt hk,val_small h.2.2 (natKinds_lt hk)⟩),putKs_row h.2.2]
theorem stepX_bond {b : Bd} (h : SmallI b.1.1 ∧ SmallI b.1.2 ∧ SmallI b.2.1 ∧ SmallI b.2.2) (s : St3) : stepX s (lnX (bondX b)) = (s.1,s.2.1,s.2.2 ++ [b]):=by
 unfold stepX
 rw [words_of (c:=0) (bondX_glue b) (by simp) (bond_words b 32 (.inl rfl))]
 unfold stepW
 simp only [List.head?_cons]
 rw [if_neg (by simp [wBond,wGens]),if_neg (by simp [wBond,wRow]),if_pos ⟨by trivial,by simp⟩]
 simp only [dS,List.drop_zero,mC,gZ,gS]
 rw [num0_small h.1,num0_small h.2.1,num0_small h.2.2.1,num0_small h.2.2.2]
theorem steps_rows : ∀ {rows : List Rw} (s : St3),(∀ r ∈ rows,SmallI r.1.1 ∧ SmallI r.1.2 ∧ beastZ r.2 = 0) → (rows.map fun r => lnX (rowX r)).foldl stepX s = (s.1,s.2.1 ++ rows,s.2.2)
 | [],s,_ => by simp
 | r :: rows,s,h => by
  rw [List.map_cons,List.foldl_cons,stepX_row (h r (by simp)),steps_rows _ (fun x hx => h x (by simp [hx]))]
  simp
theorem steps_bonds : ∀ {bs : List Bd} (s : St3),(∀ b ∈ bs,SmallI b.1.1 ∧ SmallI b.1.2 ∧ SmallI b.2.1 ∧ SmallI b.2.2) → (bs.map fun b => lnX (bondX b)).foldl stepX s = (s.1,s.2.1,s.2.2 ++ bs)
 | [],s,_ => by simp
 | b :: bs,s,h => by
  rw [List.map_cons,List.foldl_cons,stepX_bond (h b (by simp)),steps_bonds _ (fun x hx => h x (by simp [hx]))]
  simp
theorem parse_print (h : TOk gs rows bs) : parseX (printX gs rows bs) = (gs,rows,bs):=by
 unfold parseX printX
 have e:=lns_all (linesX_no gs rows bs)
 rw [show (fun x : Bs => x ++ [10]) = lnX from rfl] at e
 rw [e]
 unfold linesX
 rw [List.map_cons,List.map_append,List.map_map,List.map_map,List.foldl_cons,stepX_gens h.g,List.foldl_append]
 have e1:=steps_rows (gs,([] : List Rw),([] : List Bd)) h.r
 have e2:=steps_bonds (gs,rows,([] : List Bd)) h.b
 simp only [List.nil_append] at e1 e2
 rw [show (lnX ∘ rowX) = (fun r => lnX (rowX r)) from rfl,show (lnX ∘ bondX) = (fun b => lnX (bondX b)) from rfl,e1,e2]
end
section
variable {gs : List Int} {rows : List Rw} {bs : List Bd}
end
def ordB (hs : List Hd) : Bool:=(List.range (hs.length - 1)).all fun i => ltH (hs.getD i (0,0)) (hs.getD (i + 1) (0,0))
theorem ordB_step {hs : List Hd} (h : ordB hs = true) {i : Nat} (hi : i + 1 < hs.length) : ltH hs[i] hs[i + 1] = true:=by
 unfold ordB at h
 rw [List.all_eq_true] at h
 have:=h i (List.mem_range.2 (by omega))
 rw [List.getD_eq_getElem?_getD,List.getD_eq_getElem?_getD,List.getElem?_eq_getElem (by omega),List.getElem?_eq_getElem hi] at this
 exact this
theorem ordB_of {hs : List Hd} (h : ∀ i (hi : i + 1 < hs.length),ltH hs[i] hs[i + 1] = true) : ordB hs = true:=by
 unfold ordB
 rw [List.all_eq_true]
 intro i hi
 have hi':=List.mem_range.1 hi
 have hlt : i + 1 < hs.length:=by omega
 rw [List.getD_eq_getElem?_getD,List.getD_eq_getElem?_getD,List.getElem?_eq_getElem (by omega),List.getElem?_eq_getElem hlt]
 exact h i hlt
theorem ordB_not {hs : List Hd} {i : Nat} (hi : i + 1 < hs.length) (h : ltH hs[i] hs[i + 1] = false) : ordB hs = false:=by
 cases e : ordB hs with
 | false => rfl
 | true => rw [ordB_step e hi] at h;cases h
theorem ordB_iff {hs : List Hd} : ordB hs = true ↔ hs.Pairwise (fun a b => ltH a b = true):=by
 constructor
 ·intro h
  rw [List.pairwise_iff_getElem]
  intro i j hi hj hij
  obtain ⟨d,rfl⟩ : ∃ d,j = i + 1 + d:=⟨j - i - 1,by omega⟩
  clear hij
  induction d with
  | zero => exact ordB_step h (by omega)
  | succ d ih => exact ltH_trans (ih (by omega)) (ordB_step h (i:=i + 1 + d) (by omega))
 ·intro h
  exact ordB_of fun i hi => List.pairwise_iff_getElem.1 h i (i + 1) (by omega) hi (by omega)
theorem bonds_unique : ∀ {l m : List Bd},SortB l → SortB m → (∀ r,r ∈ l ↔ r ∈ m) → l = m
 | [],[],_,_,_ => rfl
 | [],k :: ks,_,_,hm => absurd ((hm k).2 (by simp)) (by simp)
 | h :: hs,[],_,_,hm => absurd ((hm h).1 (by simp)) (by simp)
 | h :: hs,k :: ks,h1,h2,hm => by
  obtain ⟨a1,a2⟩:=List.pairwise_cons.1 h1
  obtain ⟨b1,b2⟩:=List.pairwise_cons.1 h2
  have e : h = k:=by
   rcases List.mem_cons.1 ((hm h).1 (by simp)) with e | e
   ·exact e
   ·rcases List.mem_cons.1 ((hm k).2 (by simp)) with e2 | e2
    ·exact e2.symm
    ·have h3:=a1 k e2
     have h4:=b1 h e
     rw [ltH_asymm h3] at h4;cases h4
  subst e
  rw [bonds_unique (l:=hs) (m:=ks) a2 b2 (fun x => ?_)]
  constructor
  ·intro hx
   rcases List.mem_cons.1 ((hm x).1 (List.mem_cons_of_mem _ hx)) with e | e
   ·subst e;have:=a1 _ hx;rw [ltH_irrefl] at this;cases this
   ·exact e
  ·intro hx
   rcases List.mem_cons.1 ((hm x).2 (List.mem_cons_of_mem _ hx)) with e | e
   ·subst e;have:=b1 _ hx;rw [ltH_irrefl] at this;cases this
   ·exact e
theorem loadB_ok {sl : Sl} : ∀ {Q P B : List Bd},FamOk P → loadB sl P Q = (B,0) → FamOk B ∧ (∀ x,x ∈ B ↔ x ∈ P ∨ x ∈ Q) ∧ ∀ x ∈ Q,liveZ sl [x.1,x.2] = true
 | [],P,B,hP,h => by
  rw [loadB] at h
  obtain ⟨rfl,-⟩:=Prod.mk.inj h
  exact ⟨hP,by simp,by simp⟩
 | x :: Q,P,B,hP,h => by
  by_cases h1 : liveZ sl [x.1,x.2] = true
  ·cases h2 : (parB P x.1).isSome with
   | true => rw [loadB_twice h1 h2] at h;cases (Prod.mk.inj h).2
   | false =>
    by_cases h3 : adoE P x.1 x.2 = 0
    ·rw [loadB_go h1 h2 h3] at h
     obtain ⟨k1,k2,k3⟩:=loadB_ok (adoB_fam hP x.1 x.2) h
     have hnu : ¬ Up P x.2 x.1:=fun hu => by unfold adoE at h3;rw [if_pos hu] at h3;cases h3
     have hpn : parB P x.1 = none:=by
      cases hq : parB P x.1 with
      | none => rfl
      | some y => rw [hq] at h2;cases h2
     refine ⟨k1,fun y => ?_,?_⟩
     ·rw [k2 y]
      unfold adoB
      rw [if_neg hnu,mem_insB]
      constructor
      ·rintro ((rfl | ⟨hy,-⟩) | hy)
       ·exact .inr (by simp)
       ·exact .inl hy
       ·exact .inr (by simp [hy])
      ·rintro (hy | hy)
       ·exact .inl (.inr ⟨hy,parB_none hpn y hy⟩)
       ·rcases List.mem_cons.1 hy with rfl | hy
        ·exact .inl (.inl rfl)
        ·exact .inr hy
     ·intro y hy
      rcases List.mem_cons.1 hy with rfl | hy
      ·exact h1
      ·exact k3 y hy
    ·rw [loadB_loop h1 h2 h3] at h
     exact absurd (Prod.mk.inj h).2 h3
  ·rw [loadB_dead (by simpa using h1)] at h;cases (Prod.mk.inj h).2
section
variable {gs : List Int} {rows : List Rw} {bs : List Bd}
theorem zlE_zero (h : zlE gs rows bs = 0) : wlE gs rows = 0 ∧ loadB (wlS gs rows) [] bs = (zlB gs rows bs,0):=by
 by_cases hw : wlE gs rows = 0
 ·refine ⟨hw,?_⟩
  unfold zlE at h
  rw [if_pos hw] at h
  unfold zlB
  exact Prod.ext rfl h
 ·rw [zlE_bad hw] at h;exact absurd h hw
noncomputable def printE (gs : List Int) (rows : List Rw) (bs : List Bd) : Int:=if zlE gs rows bs = 0 then (if wlL gs rows = rows ∧ zlB gs rows bs = bs then 0 else 4) else zlE gs rows bs
noncomputable def printS (gs : List Int) (rows : List Rw) (bs : List Bd) : Bs:=if printE gs rows bs = 0 then printX gs rows bs else []
theorem printE_load (h : zlE gs rows bs ≠ 0) : printE gs rows bs = zlE gs rows bs:=by unfold printE;rw [if_neg h]
theorem ord_rows (h : zlE gs rows bs = 0) : ordB (rows.map (·.1)) = true ↔ wlL gs rows = rows:=by
 have hw:=wlok_of (zlE_zero h).1
 rw [ordB_iff,List.pairwise_map]
 constructor
 ·intro hp
  refine rows_unique hw.sorted ?_ (fun r => hw.mem r)
  refine (List.Pairwise.and hp hw.nd).imp ?_
  rintro a b ⟨h1,h2⟩
  rw [ltH_iff] at h1
  omega
 ·intro e
  have h1:=hw.sorted
  rw [e] at h1
  exact h1.imp fun {a b} h2 => by rw [ltH_iff];exact .inl h2
theorem ord_bonds (h : zlE gs rows bs = 0) : ordB (bs.map (·.1)) = true ↔ zlB gs rows bs = bs:=by
 obtain ⟨k1,k2,k3⟩:=loadB_ok famOk_nil (zlE_zero h).2
 rw [ordB_iff,List.pairwise_map]
 constructor
 ·intro hp
  exact bonds_unique k1.so hp (fun r => by rw [k2 r];simp)
 ·intro e
  have h1:=k1.so
  rw [e] at h1
  exact h1
theorem printE_ord (h : zlE gs rows bs = 0) : printE gs rows bs = if ordB (rows.map (·.1)) = true ∧ ordB (bs.map (·.1)) = true then 0 else 4:=by
 unfold printE
 rw [if_pos h]
 have e : (wlL gs rows = rows ∧ zlB gs rows bs = bs) ↔ (ordB (rows.map (·.1)) = true ∧ ordB (bs.map (·.1)) = true):=by rw [ord_rows h,ord_bonds h]
 simp only [e]
theorem printE_zero (h : printE gs rows bs = 0) : zlE gs rows bs = 0 ∧ wlL gs rows = rows ∧ zlB gs rows bs = bs:=by
 unfold printE at h
 by_cases hz : zlE gs rows bs = 0
 ·rw [if_pos hz] at h
  by_cases h2 : wlL gs rows = rows ∧ zlB gs rows bs = bs
  ·exact ⟨hz,h2⟩
  ·rw [if_neg h2] at h;cases h
 ·rw [if_neg hz] at h;exact absurd h hz
theorem live_small {sl : Sl} (hs : SlOk sl) {h : Hd} (hl : liveB sl h.1 h.2 = true) : SmallI h.1 ∧ SmallI h.2:=by
 obtain ⟨s,g⟩:=h
 rw [liveB_iff] at hl
 obtain ⟨j,h1,hj,h2,h3⟩:=(mem_allFrom sl 0 s g).1 hl
 have h4:=hs.at_ hj
 have h5:=hs.1
 unfold SmallI
 simp only
 omega
theorem tok_of (h : printE gs rows bs = 0) : TOk gs rows bs:=by
 have hz:=(printE_zero h).1
 obtain ⟨hw,hl⟩:=zlE_zero hz
 have hk:=wlok_of hw
 obtain ⟨k1,k2,k3⟩:=loadB_ok famOk_nil hl
 refine ⟨fun n hn => ?_,fun r hr => ?_,fun b hb => ?_⟩
 ·obtain ⟨i,hi,e⟩:=List.mem_iff_getElem.1 hn
  have:=hk.i.gens i hi
  rw [e] at this
  unfold SmallI;omega
 ·obtain ⟨h1,h2⟩:=live_small hk.ok (h:=r.1) (hk.live r hr)
  exact ⟨h1,h2,hk.be r hr⟩
 ·have h3:=k3 b hb
  rw [liveZ_two,Bool.and_eq_true] at h3
  obtain ⟨a1,a2⟩:=live_small hk.ok (h:=b.1) h3.1
  obtain ⟨b1,b2⟩:=live_small hk.ok (h:=b.2) h3.2
  exact ⟨a1,a2,b1,b2⟩
end
noncomputable def parseE (t : Bs) : Int:=if 6000 < t.length then 2 else if printE (parseX t).1 (parseX t).2.1 (parseX t).2.2 = 0 ∧ printX (parseX t).1 (parseX t).2.1 (parseX t).2.2 = t then 0 else 9
noncomputable def parseZ (t : Bs) : St3:=if parseE t = 0 then parseX t else ([],[],[])
end Go.Proofs.YtfdillpofciicaaGreatDoor
namespace Go.Proofs.YtfdillpofciicaaGreatDoor
open Go Go.RowKit Go.Maps
attribute [local go_sem] AllFrom.cons_eq AllFrom.nil_eq putF_nil putF_cons wantedL_none wantedL_some OpGoalT OpGoalV OpGoalQ OpGoalA OpGoalK YieldsR preF_nil preF_cons
section
variable {w : World} {m : Nat} {l : List Rw}
end
end Go.Proofs.YtfdillpofciicaaGreatDoor
namespace Go.Proofs.YtfdillpofciicaaGreatDoor
open Go Go.RowKit Go.Maps Go.Shelf
attribute [local go_sem] AllFrom.cons_eq AllFrom.nil_eq putF_nil putF_cons wantedL_none wantedL_some OpGoalT OpGoalV OpGoalQ OpGoalA OpGoalK YieldsR preF_nil preF_cons
attribute [local go_sem] Oper.semAt_some
section
variable {w : World} {m : Nat} {l : List Rw}
end
theorem own_ne_box {W : World} {b : Nat} {E T : TypeId} {z : Nat} {v : Value} {k : Nat} {xs : List Value} {j : Nat} {u : Array Value} (h : W.ownsRow b E z v k xs) (hj : W.heap[j]? = some (.cells u T (0,0))) (hne : T ≠ E) : some j ≠ v.ownBlock:=by
 rcases h.2 with ⟨rfl,_⟩ | ⟨g,cap,cur,rfl,_,hgb,_⟩
 ·simp [Value.ownBlock]
 ·intro e
  have : j = g:=by simpa [Value.ownBlock] using e
  subst this
  rw [hgb] at hj
  cases hj
  exact hne rfl
theorem own_cells {W : World} {b : Nat} {E : TypeId} {z : Nat} {v : Value} {k : Nat} {xs : List Value} (h : W.ownsRow b E z v k xs) : ∀ (j : Nat) (o : Obj),v.ownBlock = some j → W.heap[j]? = some o → o.isCells = true:=by
 intro j o hj ho
 rcases h.2 with ⟨rfl,_⟩ | ⟨g,cap,cur,rfl,_,hgb,_⟩
 ·simp [Value.ownBlock] at hj
 ·have : g = j:=by simpa [Value.ownBlock] using hj
  subst this;rw [hgb] at ho;cases ho;rfl
theorem KeptO.of_grown {W W' : World} {row : Option Nat} (hg : W.grownBy W' row) (hrow : ∀ (j : Nat) (o : Obj),row = some j → W.heap[j]? = some o → o.isCells = true) : KeptO W W' :=
 ⟨hg.size,fun k o hk ho => by
  refine (hg.block k (Array.getElem?_eq_some_iff.1 hk).1 ?_).trans hk
  intro e
  rw [hrow k o e.symm hk] at ho;cases ho⟩
theorem KeptO.trans {A B C : World} (h : KeptO A B) (k : KeptO B C) : KeptO A C:=⟨Nat.le_trans h.size k.size,fun i o hi ho => k.same i o (h.same i o hi ho) ho⟩
theorem keptO_below {a w : World} (h : Below a.heap.size a w) : KeptO a w:=⟨h.size,fun k o hk _ => (h.block k (Array.getElem?_eq_some_iff.1 hk).1).trans hk⟩
theorem keptO_setCell {W : World} {b : Nat} {u : Array Value} {T : TypeId} (h : W.heap[b]? = some (.cells u T (0,0))) (i : Nat) (v : Value) : KeptO W (W.setCell ⟨b,i,none⟩ v) :=
 ⟨by show W.heap.size ≤ (W.heap.modify _ _).size;rw [Array.size_modify];exact Nat.le_refl _,fun k o hk ho => by
  have hne : k ≠ b:=by rintro rfl;rw [h] at hk;cases hk;cases ho
  exact (Below.heap_setCell W ⟨b,i,none⟩ v k hne).trans hk⟩
section
variable {w : World} {gf : Nat} {lb : Array Value} {S : List Hd → Prop} {N : Nat}
end
end Go.Proofs.YtfdillpofciicaaGreatDoor
