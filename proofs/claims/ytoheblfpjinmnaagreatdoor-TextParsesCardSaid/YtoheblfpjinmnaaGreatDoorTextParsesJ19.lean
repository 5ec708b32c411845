import Derived.Test.YtoheblfpjinmnaaGreatDoorTextParsesJ18
set_option linter.unusedVariables false
set_option linter.unusedSimpArgs false
/- A part of the proof that TextParses returns true. -/
namespace Go.Proofs.YtoheblfpjinmnaaGreatDoor
open Go Go.RowKit
def wGens : Bs:=[103,101,110,115]
def wRow : Bs:=[114,111,119]
def wBond : Bs:=[98,111,110,100]
def gensX (gs : List Int) : Bs:=wGens ++ nums gs
def pairX (b : Bt) (k : Nat) : Bs:=Lib.itoa (k : Int) ++ 61 :: Lib.itoa (valK k b)
def rowX (r : Rw) : Bs:=(wRow ++ nums [r.1.1,r.1.2]) ++ (natKinds r.2.1.toNat 8).flatMap fun k => 32 :: pairX r.2 k
def bondX (b : Bd) : Bs:=wBond ++ nums [b.1.1,b.1.2,b.2.1,b.2.2]
def lnX (x : Bs) : Bs:=x ++ [10]
def linesX (gs : List Int) (rows : List Rw) (bs : List Bd) : List Bs:=gensX gs :: (rows.map rowX ++ bs.map bondX)
def printX (gs : List Int) (rows : List Rw) (bs : List Bd) : Bs:=(linesX gs rows bs).flatMap lnX
theorem glue_cons (c : UInt8) (w : Bs) : ∀ l : List Bs,w ++ l.flatMap (fun x => c :: x) = glue c (w :: l)
 | [] => by simp [glue]
 | x :: l => by rw [List.flatMap_cons,glue,← glue_cons c x l,List.cons_append]
theorem nums_map (l : List Int) : nums l = (l.map Lib.itoa).flatMap (fun x => 32 :: x):=by unfold nums;rw [List.flatMap_map]
theorem gensX_glue (gs : List Int) : gensX gs = glue 32 (wGens :: gs.map Lib.itoa):=by unfold gensX;rw [nums_map,glue_cons]
theorem bondX_glue (b : Bd) : bondX b = glue 32 (wBond :: [b.1.1,b.1.2,b.2.1,b.2.2].map Lib.itoa):=by unfold bondX;rw [nums_map,glue_cons]
theorem rowX_glue (r : Rw) : rowX r = glue 32 (wRow :: (Lib.itoa r.1.1 :: Lib.itoa r.1.2 :: (natKinds r.2.1.toNat 8).map (pairX r.2))):=by
 unfold rowX
 rw [← glue_cons,nums_map,List.append_assoc]
 simp [List.flatMap_map]
theorem itoa_no (n : Int) : (32 : UInt8) ∉ Lib.itoa n ∧ (10 : UInt8) ∉ Lib.itoa n ∧ (61 : UInt8) ∉ Lib.itoa n:=⟨itoa_not (.inl rfl),itoa_not (.inr (.inl rfl)),itoa_not (.inr (.inr rfl))⟩
theorem pairX_no (b : Bt) (k : Nat) : (32 : UInt8) ∉ pairX b k ∧ (10 : UInt8) ∉ pairX b k:=by
 unfold pairX
 have h1:=itoa_no (k : Int);have h2:=itoa_no (valK k b)
 constructor <;> simp only [List.mem_append,List.mem_cons,not_or]
 ·exact ⟨h1.1,by decide,h2.1⟩
 ·exact ⟨h1.2.1,by decide,h2.2.1⟩
theorem glue_no {c d : UInt8} (hcd : c ≠ d) : ∀ {l : List Bs},(∀ x ∈ l,c ∉ x) → c ∉ glue d l
 | [],_ => by simp [glue]
 | [x],h => by rw [glue];exact h x (by simp)
 | x :: y :: r,h => by
  rw [glue]
  simp only [List.mem_append,List.mem_cons,not_or]
  exact ⟨h x (by simp),hcd,glue_no hcd (fun z hz => h z (by simp only [List.mem_cons] at hz ⊢;exact .inr hz))⟩
theorem gens_words (gs : List Int) (c : UInt8) (hc : c = 32 ∨ c = 10) : ∀ x ∈ wGens :: gs.map Lib.itoa,c ∉ x:=by
 intro x hx
 rcases List.mem_cons.1 hx with rfl | hx
 ·rcases hc with rfl | rfl <;> decide
 ·obtain ⟨n,-,rfl⟩:=List.mem_map.1 hx
  exact itoa_not (by rcases hc with h | h <;> simp [h])
theorem bond_words (b : Bd) (c : UInt8) (hc : c = 32 ∨ c = 10) : ∀ x ∈ wBond :: [b.1.1,b.1.2,b.2.1,b.2.2].map Lib.itoa,c ∉ x:=by
 intro x hx
 rcases List.mem_cons.1 hx with rfl | hx
 ·rcases hc with rfl | rfl <;> decide
 ·obtain ⟨n,-,rfl⟩:=List.mem_map.1 hx
  exact itoa_not (by rcases hc with h | h <;> simp [h])
theorem row_words (r : Rw) (c : UInt8) (hc : c = 32 ∨ c = 10) : ∀ x ∈ wRow :: (Lib.itoa r.1.1 :: Lib.itoa r.1.2 :: (natKinds r.2.1.toNat 8).map (pairX r.2)),c ∉ x:=by
 intro x hx
 have hi : ∀ n,c ∉ Lib.itoa n:=fun n => itoa_not (by rcases hc with h | h <;> simp [h])
 rcases List.mem_cons.1 hx with rfl | hx
 ·rcases hc with rfl | rfl <;> decide
 ·rcases List.mem_cons.1 hx with rfl | hx
  ·exact hi _
  ·rcases List.mem_cons.1 hx with rfl | hx
   ·exact hi _
   ·obtain ⟨n,-,rfl⟩:=List.mem_map.1 hx
    rcases hc with rfl | rfl
    ·exact (pairX_no _ _).1
    ·exact (pairX_no _ _).2
theorem linesX_no (gs : List Int) (rows : List Rw) (bs : List Bd) : ∀ x ∈ linesX gs rows bs,(10 : UInt8) ∉ x:=by
 intro x hx
 unfold linesX at hx
 rcases List.mem_cons.1 hx with rfl | hx
 ·rw [gensX_glue];exact glue_no (by decide) (gens_words gs 10 (.inr rfl))
 ·rcases List.mem_append.1 hx with hx | hx
  ·obtain ⟨r,-,rfl⟩:=List.mem_map.1 hx
   rw [rowX_glue];exact glue_no (by decide) (row_words r 10 (.inr rfl))
  ·obtain ⟨b,-,rfl⟩:=List.mem_map.1 hx
   rw [bondX_glue];exact glue_no (by decide) (bond_words b 10 (.inr rfl))
abbrev St3:=List Int × List Rw × List Bd
def zeroRw (h : Hd) : Rw:=(h,0,0,0,0,0,0,0,0,0)
def kvS (r : Rw) (y : Bs) : Rw:=if 0 ≤ num0 (Lib.cut y [61]).1 ∧ num0 (Lib.cut y [61]).1 < 8 then putR r (num0 (Lib.cut y [61]).1).toNat (num0 (Lib.cut y [61]).2.1) else r
def stepW (s : St3) (w : List Bs) : St3 :=
 if w.head? = some wGens then ((w.drop 1).map num0,s.2)
 else if w.head? = some wRow ∧ 1 < (w.drop 1).length then (s.1,s.2.1 ++ [(w.drop 3).foldl kvS (zeroRw (((w.drop 1).map num0).getD 0 0,((w.drop 1).map num0).getD 1 0))],s.2.2)
 else if w.head? = some wBond ∧ (w.drop 1).length = 4 then (s.1,s.2.1,s.2.2 ++ [((((w.drop 1).map num0).getD 0 0,((w.drop 1).map num0).getD 1 0),(((w.drop 1).map num0).getD 2 0,((w.drop 1).map num0).getD 3 0))])
 else s
def stepX (s : St3) (x : Bs) : St3:=stepW s (spl 32 (Lib.trimSuffix x [10]))
def parseX (t : Bs) : St3:=(lns t).foldl stepX ([],[],[])
def SmallI (n : Int) : Prop:=n.natAbs < 10000000000
structure TOk (gs : List Int) (rows : List Rw) (bs : List Bd) : Prop where
 g : ∀ n ∈ gs,SmallI n
 r : ∀ r ∈ rows,SmallI r.1.1 ∧ SmallI r.1.2 ∧ beastZ r.2 = 0
 b : ∀ b ∈ bs,SmallI b.1.1 ∧ SmallI b.1.2 ∧ SmallI b.2.1 ∧ SmallI b.2.2
theorem num0_small {n : Int} (h : SmallI n) : num0 (Lib.itoa n) = n:=num0_itoa (by unfold SmallI at h;omega)
theorem map_num0 : ∀ {l : List Int},(∀ n ∈ l,SmallI n) → (l.map Lib.itoa).map num0 = l
 | [],_ => rfl
 | n :: l,h => by rw [List.map_cons,List.map_cons,num0_small (h n (by simp)),map_num0 (fun m hm => h m (by simp [hm]))]
theorem bt_eq {a b : Bt} (h : a.1 = b.1) (hv : ∀ k,k < 8 → valK k a = valK k b) : a = b:=by
 obtain ⟨K,a0,a1,a2,a3,a4,a5,a6,a7⟩:=a
 obtain ⟨K',b0,b1,b2,b3,b4,b5,b6,b7⟩:=b
 have e0:=hv 0 (by omega);have e1:=hv 1 (by omega);have e2:=hv 2 (by omega);have e3:=hv 3 (by omega)
 have e4:=hv 4 (by omega);have e5:=hv 5 (by omega);have e6:=hv 6 (by omega);have e7:=hv 7 (by omega)
 simp only [valK,btI,gS,gZ] at e0 e1 e2 e3 e4 e5 e6 e7 h
 subst e0 e1 e2 e3 e4 e5 e6 e7 h
 rfl
theorem pow_bits : ∀ m : Fin 256,∀ n : Fin 8,(m.val % 2 ^ n.val).testBit n.val = false ∧ m.val % 2 ^ (n.val + 1) = m.val % 2 ^ n.val + (if m.val.testBit n.val = true then 2 ^ n.val else 0):=by decide +kernel
theorem putKs (h : Hd) {b : Bt} {m : Nat} (hm : m < 256) : ∀ n,n ≤ 8 → ((natKinds m n).foldl (fun r k => putR r k (valK k b)) (zeroRw h)).1 = h ∧ ((natKinds m n).foldl (fun r k => putR r k (valK k b)) (zeroRw h)).2.1 = ((m % 2 ^ n : Nat) : Int) ∧
  ∀ j,valK j ((natKinds m n).foldl (fun r k => putR r k (valK k b)) (zeroRw h)).2 = if j < n ∧ m.testBit j = true then valK j b else 0
 | 0,_ => by
  refine ⟨rfl,?_,fun j => ?_⟩
  ·show (0 : Int) = _
   rw [Nat.pow_zero,Nat.mod_one];rfl
  ·show valK j (zeroRw h).2 = _
   rw [if_neg (by omega)]
   by_cases hj : j < 8
   ·have : j = 0 ∨ j = 1 ∨ j = 2 ∨ j = 3 ∨ j = 4 ∨ j = 5 ∨ j = 6 ∨ j = 7:=by omega
    rcases this with rfl | rfl | rfl | rfl | rfl | rfl | rfl | rfl <;> rfl
   ·exact valK_big j (by omega) _
 | n + 1,hn => by
  obtain ⟨h1,h2,h3⟩:=putKs h (b:=b) hm n (by omega)
  have hp:=pow_bits ⟨m,hm⟩ ⟨n,by omega⟩
  simp only at hp
  rw [natKinds_succ,List.foldl_append]
  generalize (natKinds m n).foldl (fun r k => putR r k (valK k b)) (zeroRw h) = R at h1 h2 h3 ⊢
  cases hb : m.testBit n with
  | false =>
   simp only [Bool.false_eq_true,if_false,List.foldl_nil]
   refine ⟨h1,?_,fun j => ?_⟩
   ·rw [h2,hp.2,hb];simp
   ·rw [h3 j]
    by_cases hj : j = n
    ·subst hj;rw [hb];simp
    ·have : (j < n + 1 ∧ m.testBit j = true) ↔ (j < n ∧ m.testBit j = true):=by constructor <;> (rintro ⟨h1,h2⟩;exact ⟨by omega,h2⟩)
     simp only [this]
  | true =>
   simp only [if_true,List.foldl_cons,List.foldl_nil]
   refine ⟨h1,?_,fun j => ?_⟩
   ·show putK R.2.1 n = _
    unfold putK
    rw [h2,hasK_nat _ _ (by have:=Nat.mod_le m (2 ^ n);omega),hp.1,if_neg (by simp),hp.2,hb,if_pos rfl]
    unfold pw;omega
   ·rw [putR_val _ _ _ (by omega)]
    by_cases hj : j = n
    ·subst hj;rw [if_pos rfl,if_pos ⟨by omega,hb⟩]
    ·rw [if_neg hj,h3 j]
     have : (j < n + 1 ∧ m.testBit j = true) ↔ (j < n ∧ m.testBit j = true):=by constructor <;> (rintro ⟨h1,h2⟩;exact ⟨by omega,h2⟩)
     simp only [this]
theorem putKs_row {r : Rw} (h : beastZ r.2 = 0) : (natKinds r.2.1.toNat 8).foldl (fun x k => putR x k (valK k r.2)) (zeroRw r.1) = r:=by
 obtain ⟨m,hm,e,hv⟩:=(beastZ_iff _).1 h
 obtain ⟨h1,h2,h3⟩:=putKs r.1 (b:=r.2) hm 8 (Nat.le_refl _)
 have e2 : r.2.1.toNat = m:=by rw [e];rfl
 rw [e2]
 refine Prod.ext h1 (bt_eq ?_ fun k hk => ?_)
 ·rw [h2,e,Nat.mod_eq_of_lt hm]
 ·rw [h3 k]
  cases hb : m.testBit k with
  | false => rw [if_neg (by simp)];exact ((hv k hk).1 hb).symm
  | true => rw [if_pos ⟨hk,rfl⟩]
theorem val_small {r : Rw} (h : beastZ r.2 = 0) {k : Nat} (hk : k < 8) : SmallI (valK k r.2):=by
 obtain ⟨m,hm,e,hv⟩:=(beastZ_iff _).1 h
 have:=(hv k hk).2
 unfold SmallI;omega
theorem kvS_pair (b : Bt) {k : Nat} (hk : k < 8) (hv : SmallI (valK k b)) (x : Rw) : kvS x (pairX b k) = putR x k (valK k b):=by
 unfold kvS pairX
 rw [cut_app (itoa_no _).2.2]
 simp only
 rw [num0_small (n:=(k : Int)) (by unfold SmallI;omega),num0_small hv,if_pos (by omega)]
 rfl
theorem kvS_all (b : Bt) : ∀ (ks : List Nat) (x : Rw),(∀ k ∈ ks,k < 8 ∧ SmallI (valK k b)) → (ks.map (pairX b)).foldl kvS x = ks.foldl (fun r k => putR r k (valK k b)) x
 | [],_,_ => rfl
 | k :: ks,x,h => by
  rw [List.map_cons,List.foldl_cons,List.foldl_cons,kvS_pair b (h k (by simp)).1 (h k (by simp)).2,kvS_all b ks _ (fun j hj => h j (by simp [hj]))]
section
variable {gs : List Int} {rows : List Rw} {bs : List Bd}
theorem words_of {c : UInt8} {x : Bs} {ws : List Bs} (e : x = glue 32 ws) (hne : ws ≠ []) (h32 : ∀ y ∈ ws,(32 : UInt8) ∉ y) : spl 32 (Lib.trimSuffix (lnX x) [10]) = ws:=by
 unfold lnX
 rw [trim_app,e,spl_glue hne h32]
theorem stepX_gens (hg : ∀ n ∈ gs,SmallI n) (s : St3) : stepX s (lnX (gensX gs)) = (gs,s.2):=by
 unfold stepX
 rw [words_of (c:=0) (gensX_glue gs) (by simp) (gens_words gs 32 (.inl rfl))]
 unfold stepW
 rw [if_pos (show (wGens :: gs.map Lib.itoa).head? = some wGens from rfl)]
 simp only [dS,List.drop_zero]
 rw [map_num0 hg]
theorem stepX_row {r : Rw} (h : SmallI r.1.1 ∧ SmallI r.1.2 ∧ beastZ r.2 = 0) (s : St3) : stepX s (lnX (rowX r)) = (s.1,s.2.1 ++ [r],s.2.2):=by
 unfold stepX
 rw [words_of (c:=0) (rowX_glue r) (by simp) (row_words r 32 (.inl rfl))]
 unfold stepW
 simp only [List.head?_cons]
 rw [if_neg (by simp [wRow,wGens]),if_pos ⟨by trivial,by simp⟩]
 simp only [dS,List.drop_zero,mC,gZ,gS]
 rw [num0_small h.1,num0_small h.2.1,kvS_all _ _ _ (fun k hk => ⟨natKinds_lt hk,val_small h.2.2 (natKinds_lt hk)⟩),putKs_row h.2.2]
theorem stepX_bond {b : Bd} (h : SmallI b.1.1 ∧ SmallI b.1.2 ∧ SmallI b.2.1 ∧ SmallI b.2.2) (s : St3) : stepX s (lnX (bondX b)) = (s.1,s.2.1,s.2.2 ++ [b]):=by
 unfold stepX
 rw [words_of (c:=0) (bondX_glue b) (by simp) (bond_words b 32 (.inl rfl))]
 unfold stepW
 simp only [List.head?_cons]
 rw [if_neg (by simp [wBond,wGens]),if_neg (by simp [wBond,wRow]),if_pos ⟨by trivial,by simp⟩]
 simp only [dS,List.drop_zero,mC,gZ,gS]
 rw [num0_small h.1,num0_small h.2.1,num0_small h.2.2.1,num0_small h.2.2.2]
theorem steps_rows : ∀ {rows : List Rw} (s : St3),(∀ r ∈ rows,SmallI r.1.1 ∧ SmallI r.1.2 ∧ beastZ r.2 = 0) → (rows.map fun r => lnX (rowX r)).foldl stepX s = (s.1,s.2.1 ++ rows,s.2.2)
 | [],s,_ => by simp
 | r :: rows,s,h => by
  rw [List.map_cons,List.foldl_cons,stepX_row (h r (by simp)),steps_rows _ (fun x hx => h x (by simp [hx]))]
  simp
theorem steps_bonds : ∀ {bs : List Bd} (s : St3),(∀ b ∈ bs,SmallI b.1.1 ∧ SmallI b.1.2 ∧ SmallI b.2.1 ∧ SmallI b.2.2) → (bs.map fun b => lnX (bondX b)).foldl stepX s = (s.1,s.2.1,s.2.2 ++ bs)
 | [],s,_ => by simp
 | b :: bs,s,h => by
  rw [List.map_cons,List.foldl_cons,stepX_bond (h b (by simp)),steps_bonds _ (fun x hx => h x (by simp [hx]))]
  simp
theorem parse_print (h : TOk gs rows bs) : parseX (printX gs rows bs) = (gs,rows,bs):=by
 unfold parseX printX
 have e:=lns_all (linesX_no gs rows bs)
 rw [show (fun x : Bs => x ++ [10]) = lnX from rfl] at e
 rw [e]
 unfold linesX
 rw [List.map_cons,List.map_append,List.map_map,List.map_map,List.foldl_cons,stepX_gens h.g,List.foldl_append]
 have e1:=steps_rows (gs,([] : List Rw),([] : List Bd)) h.r
 have e2:=steps_bonds (gs,rows,([] : List Bd)) h.b
 simp only [List.nil_append] at e1 e2
 rw [show (lnX ∘ rowX) = (fun r => lnX (rowX r)) from rfl,show (lnX ∘ bondX) = (fun b => lnX (bondX b)) from rfl,e1,e2]
end
theorem itoa_inj {a b : Int} (ha : SmallI a) (hb : SmallI b) (h : Lib.itoa a = Lib.itoa b) : a = b:=by
 rw [← num0_small ha,← num0_small hb,h]
noncomputable def numR (s : Bs) : Option Int:=by
 classical exact if h : ∃ n,SmallI n ∧ s = Lib.itoa n then some h.choose else none
theorem numR_some {s : Bs} {n : Int} (h : numR s = some n) : SmallI n ∧ s = Lib.itoa n:=by
 unfold numR at h
 split at h
 ·rename_i hx
  have e:=Option.some.inj h
  subst e
  exact hx.choose_spec
 ·cases h
theorem numR_itoa {n : Int} (h : SmallI n) : numR (Lib.itoa n) = some n:=by
 unfold numR
 have hx : ∃ m,SmallI m ∧ Lib.itoa n = Lib.itoa m:=⟨n,h,rfl⟩
 rw [dif_pos hx]
 exact congrArg some (itoa_inj hx.choose_spec.1 h hx.choose_spec.2.symm)
theorem numR_none {s : Bs} (h : ¬ ∃ n,SmallI n ∧ s = Lib.itoa n) : numR s = none:=by unfold numR;rw [dif_neg h]
def wantsP (isRow : Bool) (n : List Int) : Bool:=isRow && decide (2 ≤ n.length) && decide (n.length % 2 = 0)
noncomputable def wordsR (isRow : Bool) : List Int → List Bs → Option (List Int)
 | n,[] => some n
 | n,y :: ys =>
  if (Lib.cut y [61]).2.2 = true ∧ wantsP isRow n = true then
   match numR (Lib.cut y [61]).1,numR (Lib.cut y [61]).2.1 with
   | some k,some v => if 0 ≤ k ∧ k ≤ 7 then wordsR isRow (n ++ [k,v]) ys else none
   | _,_ => none
  else match numR y with
   | some k => if isRow = true ∧ 2 ≤ n.length then none else wordsR isRow (n ++ [k]) ys
   | none => none
def rowK : Rw → List Int → Option Rw
 | r,[] => some r
 | r,[_] => some r
 | r,k :: v :: rest => if hasK r.2.1 k.toNat = true ∨ pw k.toNat ≤ r.2.1 then none else rowK (putR r k.toNat v) rest
noncomputable def lineW (i0 : Bool) (s : St3) (h : Option Bs) (ns : Option (List Int)) : Option St3 :=
 match ns with
 | none => none
 | some n =>
  if i0 = true ∧ h = some wGens then some (n,s.2)
  else if i0 = false ∧ h = some wRow ∧ 2 ≤ n.length ∧ s.2.2 = [] then (rowK (zeroRw (n.getD 0 0,n.getD 1 0)) (n.drop 2)).map fun r => (s.1,s.2.1 ++ [r],s.2.2)
  else if i0 = false ∧ h = some wBond ∧ n.length = 4 then some (s.1,s.2.1,s.2.2 ++ [((n.getD 0 0,n.getD 1 0),(n.getD 2 0,n.getD 3 0))])
  else none
noncomputable def lineR (i0 : Bool) (s : St3) (x : Bs) : Option St3:=lineW i0 s (spl 32 x).head? (wordsR ((spl 32 x).head? == some wRow) [] ((spl 32 x).drop 1))
noncomputable def linesR : Bool → St3 → List Bs → Option St3
 | _,s,[] => some s
 | i0,s,x :: xs => (lineR i0 s x).bind fun s' => linesR false s' xs
noncomputable def parseR (t : Bs) : Option St3:=if Lib.hasSuffix t [10] = true then linesR true ([],[],[]) (spl 10 (t.take (t.length - 1))) else none
theorem wordsR_plain : ∀ {ys : List Bs} {n m : List Int},wordsR false n ys = some m → ∃ l,m = n ++ l ∧ ys = l.map Lib.itoa
 | [],n,m,h => by rw [wordsR] at h;exact ⟨[],by simpa using (Option.some.inj h).symm,rfl⟩
 | y :: ys,n,m,h => by
  rw [wordsR,if_neg (fun e => by have:=e.2;simp [wantsP] at this)] at h
  cases hk : numR y with
  | none => rw [hk] at h;cases h
  | some k =>
   rw [hk] at h
   simp only [Bool.false_eq_true,false_and,if_false] at h
   obtain ⟨l,rfl,rfl⟩:=wordsR_plain h
   obtain ⟨-,rfl⟩:=numR_some hk
   exact ⟨k :: l,by simp,rfl⟩
theorem wordsR_all : ∀ {l n : List Int},(∀ k ∈ l,SmallI k) → wordsR false n (l.map Lib.itoa) = some (n ++ l)
 | [],n,_ => by rw [List.map_nil,wordsR,List.append_nil]
 | k :: l,n,h => by
  rw [List.map_cons,wordsR,if_neg (fun e => by have:=e.2;simp [wantsP] at this),numR_itoa (h k (by simp))]
  simp only [Bool.false_eq_true,false_and,if_false]
  rw [wordsR_all (fun j hj => h j (by simp [hj]))];simp
abbrev Pr:=Int × Int
def pairsI (ps : List Pr) : List Int:=ps.flatMap fun p => [p.1,p.2]
def pairsT (ps : List Pr) : List Bs:=ps.map fun p => Lib.itoa p.1 ++ 61 :: Lib.itoa p.2
theorem wordsR_pairs : ∀ {ys : List Bs} {n m : List Int},2 ≤ n.length → n.length % 2 = 0 → wordsR true n ys = some m → ∃ ps : List Pr,m = n ++ pairsI ps ∧ ys = pairsT ps ∧ ∀ p ∈ ps,0 ≤ p.1 ∧ p.1 ≤ 7
 | [],n,m,_,_,h => by rw [wordsR] at h;exact ⟨[],by simpa [pairsI] using (Option.some.inj h).symm,rfl,by simp⟩
 | y :: ys,n,m,h2,he,h => by
  rw [wordsR] at h
  by_cases hc : (Lib.cut y [61]).2.2 = true
  ·rw [if_pos ⟨hc,by simp [wantsP,h2,he]⟩] at h
   cases hk : numR (Lib.cut y [61]).1 with
   | none => rw [hk] at h;simp at h
   | some k =>
    cases hv : numR (Lib.cut y [61]).2.1 with
    | none => rw [hk,hv] at h;simp at h
    | some v =>
     rw [hk,hv] at h
     simp only at h
     by_cases hr : 0 ≤ k ∧ k ≤ 7
     ·rw [if_pos hr] at h
      obtain ⟨ps,rfl,rfl,hp⟩:=wordsR_pairs (by rw [List.length_append];simp only [List.length_cons,List.length_nil];omega) (by rw [List.length_append];simp only [List.length_cons,List.length_nil];omega) h
      have e:=cut_true (s:=y) (c:=61) (a:=(Lib.cut y [61]).1) (r:=(Lib.cut y [61]).2.1) (by rw [← hc])
      obtain ⟨-,e1⟩:=numR_some hk
      obtain ⟨-,e2⟩:=numR_some hv
      refine ⟨(k,v) :: ps,by simp [pairsI],?_,?_⟩
      ·unfold pairsT
       rw [List.map_cons,← e1,← e2,← e.1]
      ·intro p hp'
       rcases List.mem_cons.1 hp' with rfl | hp'
       ·exact hr
       ·exact hp p hp'
     ·rw [if_neg hr] at h;cases h
  ·rw [if_neg (fun e => hc e.1)] at h
   cases hk : numR y with
   | none => rw [hk] at h;cases h
   | some k => rw [hk] at h;simp only [h2,and_self,if_true] at h;cases h
theorem wordsR_row {ys : List Bs} {m : List Int} (h : wordsR true [] ys = some m) (h2 : 2 ≤ m.length) : ∃ a b,∃ ps : List Pr,m = a :: b :: pairsI ps ∧ ys = Lib.itoa a :: Lib.itoa b :: pairsT ps ∧ ∀ p ∈ ps,0 ≤ p.1 ∧ p.1 ≤ 7:=by
 match ys with
 | [] => rw [wordsR] at h;have:=Option.some.inj h;subst this;simp at h2
 | y :: ys =>
  rw [wordsR,if_neg (fun e => by have:=e.2;simp [wantsP] at this)] at h
  cases hk : numR y with
  | none => rw [hk] at h;cases h
  | some a =>
   rw [hk] at h
   simp only [List.length_nil,Nat.not_succ_le_zero,and_false,if_false,List.nil_append] at h
   match ys with
   | [] => rw [wordsR] at h;have:=Option.some.inj h;subst this;simp at h2
   | z :: ys =>
    have hw : ¬ ((Lib.cut z [61]).2.2 = true ∧ wantsP true [a] = true):=fun e => by have:=e.2;simp [wantsP] at this
    rw [wordsR,if_neg hw] at h
    cases hz : numR z with
    | none => rw [hz] at h;cases h
    | some b =>
     rw [hz] at h
     rw [if_neg (by simp)] at h
     obtain ⟨ps,rfl,rfl,hp⟩:=wordsR_pairs (by simp) (by simp) h
     obtain ⟨-,rfl⟩:=numR_some hk
     obtain ⟨-,rfl⟩:=numR_some hz
     exact ⟨a,b,ps,rfl,rfl,hp⟩
theorem wordsR_pall : ∀ {ps : List Pr} {n : List Int},2 ≤ n.length → n.length % 2 = 0 → (∀ p ∈ ps,(0 ≤ p.1 ∧ p.1 ≤ 7) ∧ SmallI p.2) → wordsR true n (pairsT ps) = some (n ++ pairsI ps)
 | [],n,_,_,_ => by rw [show pairsT [] = [] from rfl,wordsR];simp [pairsI]
 | p :: ps,n,h2,he,h => by
  have hp:=h p (by simp)
  rw [show pairsT (p :: ps) = (Lib.itoa p.1 ++ 61 :: Lib.itoa p.2) :: pairsT ps from rfl,wordsR,cut_app (itoa_no _).2.2,if_pos ⟨rfl,by simp [wantsP,h2,he]⟩]
  simp only
  rw [numR_itoa (by unfold SmallI;omega),numR_itoa hp.2]
  simp only
  rw [if_pos hp.1,wordsR_pall (by rw [List.length_append];simp only [List.length_cons,List.length_nil];omega) (by rw [List.length_append];simp only [List.length_cons,List.length_nil];omega) (fun q hq => h q (by simp [hq]))]
  simp [pairsI]
theorem kinds_up : ∀ m : Fin 256,∀ k : Fin 8,m.val < 2 ^ k.val → (m.val.testBit k.val = false ∧ m.val + 2 ^ k.val < 256 ∧ natKinds (m.val + 2 ^ k.val) 8 = natKinds m.val 8 ++ [k.val] ∧ (m.val + 2 ^ k.val).testBit k.val = true ∧ ∀ j : Fin 8,m.val.testBit j.val = true → (m.val + 2 ^ k.val).testBit j.val = true):=by decide +kernel
theorem rowK_some : ∀ {ps : List Pr} {r r' : Rw} {m : Nat},m < 256 → r.2.1 = (m : Int) → (∀ p ∈ ps,0 ≤ p.1 ∧ p.1 ≤ 7) → rowK r (pairsI ps) = some r' →
  ∃ m' : Nat,m' < 256 ∧ r'.2.1 = (m' : Int) ∧ r'.1 = r.1 ∧ natKinds m' 8 = natKinds m 8 ++ ps.map (fun p => p.1.toNat) ∧ (∀ j,j < 8 → m.testBit j = true → m'.testBit j = true ∧ valK j r'.2 = valK j r.2) ∧ ∀ p ∈ ps,valK p.1.toNat r'.2 = p.2
 | [],r,r',m,hm,hr,_,h => by
  rw [show pairsI [] = [] from rfl,rowK] at h
  have:=Option.some.inj h
  subst this
  exact ⟨m,hm,hr,rfl,by simp,fun j _ h => ⟨h,rfl⟩,by simp⟩
 | p :: ps,r,r',m,hm,hr,hp,h => by
  obtain ⟨k,v⟩:=p
  have hk:=hp _ (List.mem_cons_self)
  simp only at hk
  obtain ⟨kn,rfl⟩ : ∃ kn : Nat,k = (kn : Int):=⟨k.toNat,by omega⟩
  have hkn : kn < 8:=by omega
  rw [show pairsI (((kn : Int),v) :: ps) = (kn : Int) :: v :: pairsI ps from rfl,rowK] at h
  by_cases hc : hasK r.2.1 (kn : Int).toNat = true ∨ pw (kn : Int).toNat ≤ r.2.1
  ·rw [if_pos hc] at h;cases h
  ·rw [if_neg hc] at h
   have hlt : m < 2 ^ kn:=by
    have : ¬ pw kn ≤ r.2.1:=fun e => hc (.inr e)
    rw [hr] at this;unfold pw at this;omega
   obtain ⟨g1,g2,g3,g4,g5⟩:=kinds_up ⟨m,hm⟩ ⟨kn,hkn⟩ hlt
   simp only at g1 g2 g3 g4 g5
   have e2 : (putR r kn v).2.1 = ((m + 2 ^ kn : Nat) : Int):=by
    show putK r.2.1 kn = _
    unfold putK
    rw [hr,hasK_nat m kn hm,g1,if_neg (by simp)]
    unfold pw;omega
   obtain ⟨m',h1,h2,h3,h4,h5,h6⟩:=rowK_some g2 e2 (fun q hq => hp q (by simp [hq])) h
   refine ⟨m',h1,h2,h3,?_,?_,?_⟩
   ·rw [h4,g3];simp
   ·intro j hj hb
    have hjk : j ≠ kn:=fun e => by subst e;rw [g1] at hb;cases hb
    obtain ⟨k1,k2⟩:=h5 j hj (g5 ⟨j,hj⟩ hb)
    exact ⟨k1,by rw [k2,putR_val _ _ _ hkn,if_neg hjk]⟩
   ·intro q hq
    rcases List.mem_cons.1 hq with rfl | hq
    ·show valK kn r'.2 = v
     rw [(h5 kn hkn g4).2,putR_val _ _ _ hkn,if_pos rfl]
    ·exact h6 q hq
theorem nk_zero : natKinds 0 8 = []:=by decide
theorem row_read {a b : Int} {ps : List Pr} {r : Rw} (hp : ∀ p ∈ ps,0 ≤ p.1 ∧ p.1 ≤ 7) (h : rowK (zeroRw (a,b)) (pairsI ps) = some r) : r.1 = (a,b) ∧ pairsT ps = (natKinds r.2.1.toNat 8).map (pairX r.2):=by
 obtain ⟨m',h1,h2,h3,h4,h5,h6⟩:=rowK_some (r:=zeroRw (a,b)) (m:=0) (by omega) rfl hp h
 refine ⟨h3,?_⟩
 rw [h2,show ((m' : Nat) : Int).toNat = m' from rfl,h4,nk_zero,List.nil_append,List.map_map]
 unfold pairsT
 refine List.map_congr_left fun p hp' => ?_
 show _ = pairX r.2 p.1.toNat
 unfold pairX
 rw [h6 p hp',show ((p.1.toNat : Nat) : Int) = p.1 by have:=hp p hp';omega]
theorem head_cons {x w : Bs} (h : (spl 32 x).head? = some w) : x = glue 32 (w :: (spl 32 x).drop 1):=by
 obtain ⟨y,r,e⟩:=spl_ne 32 x
 rw [e] at h
 simp only [List.head?_cons,Option.some.injEq] at h
 subst h
 have:=glue_spl 32 x
 rw [e] at this ⊢
 exact this.symm
theorem lineR_first {s s' : St3} {x : Bs} (h : lineR true s x = some s') : x = gensX s'.1 ∧ s'.2 = s.2:=by
 unfold lineR lineW at h
 split at h
 ·cases h
 ·rename_i n hn
  by_cases hg : (spl 32 x).head? = some wGens
  ·rw [if_pos ⟨rfl,hg⟩] at h
   have e:=Option.some.inj h
   subst e
   rw [hg,show (some wGens == some wRow) = false by decide] at hn
   obtain ⟨l,e1,e2⟩:=wordsR_plain hn
   have hx:=head_cons hg
   rw [e2] at hx
   rw [List.nil_append] at e1
   subst e1
   exact ⟨by rw [gensX_glue];exact hx,rfl⟩
  ·rw [if_neg (fun e => hg e.2),if_neg (fun e => by cases e.1),if_neg (fun e => by cases e.1)] at h;cases h
theorem lineR_later {s s' : St3} {x : Bs} (h : lineR false s x = some s') : (∃ r,x = rowX r ∧ s.2.2 = [] ∧ s' = (s.1,s.2.1 ++ [r],s.2.2)) ∨ ∃ b,x = bondX b ∧ s' = (s.1,s.2.1,s.2.2 ++ [b]):=by
 unfold lineR lineW at h
 split at h
 ·cases h
 ·rename_i n hn
  rw [if_neg (fun e => by cases e.1)] at h
  by_cases hr : (spl 32 x).head? = some wRow ∧ 2 ≤ n.length ∧ s.2.2 = []
  ·rw [if_pos ⟨rfl,hr⟩] at h
   rw [hr.1,show (some wRow == some wRow) = true by decide] at hn
   obtain ⟨a,b,ps,rfl,e2,hp⟩:=wordsR_row hn hr.2.1
   simp only [gZ,gS,dS,List.drop_zero] at h
   cases hk : rowK (zeroRw (a,b)) (pairsI ps) with
   | none => rw [hk] at h;cases h
   | some r =>
    rw [hk] at h
    obtain ⟨h1,h2⟩:=row_read hp hk
    refine .inl ⟨r,?_,hr.2.2,(Option.some.inj h).symm⟩
    rw [rowX_glue,h1,← h2]
    have hx:=head_cons hr.1
    rw [e2] at hx
    exact hx
  ·rw [if_neg (fun e => hr e.2)] at h
   by_cases hb : (spl 32 x).head? = some wBond ∧ n.length = 4
   ·rw [if_pos ⟨rfl,hb⟩] at h
    rw [hb.1,show (some wBond == some wRow) = false by decide] at hn
    obtain ⟨l,e1,e2⟩:=wordsR_plain hn
    rw [List.nil_append] at e1
    subst e1
    obtain ⟨hb1,hb2⟩:=hb
    match n,hb2 with
    | [a,b,c,d],_ =>
     refine .inr ⟨((a,b),(c,d)),?_,(Option.some.inj h).symm⟩
     rw [bondX_glue]
     have hx:=head_cons hb1
     rw [e2] at hx
     exact hx
   ·rw [if_neg (fun e => hb e.2)] at h;cases h
theorem linesR_print : ∀ {xs : List Bs} {s s' : St3},linesR false s xs = some s' → linesX s'.1 s'.2.1 s'.2.2 = linesX s.1 s.2.1 s.2.2 ++ xs
 | [],s,s',h => by rw [linesR] at h;have:=Option.some.inj h;subst this;simp
 | x :: xs,s,s',h => by
  rw [linesR] at h
  cases h1 : lineR false s x with
  | none => rw [h1] at h;cases h
  | some s1 =>
   rw [h1] at h
   have ih:=linesR_print (s:=s1) h
   rw [ih]
   rcases lineR_later h1 with ⟨r,rfl,h2,rfl⟩ | ⟨b,rfl,rfl⟩
   ·unfold linesX
    simp only
    rw [h2]
    simp
   ·unfold linesX
    simp
theorem parseR_print {t : Bs} {s : St3} (h : parseR t = some s) : printX s.1 s.2.1 s.2.2 = t:=by
 unfold parseR at h
 split at h
 ·rename_i hs
  unfold Lib.hasSuffix at hs
  rw [List.isSuffixOf_iff_suffix] at hs
  obtain ⟨u,rfl⟩:=hs
  rw [show List.take ((u ++ ([10] : Bs)).length - 1) (u ++ ([10] : Bs)) = u by simp] at h
  obtain ⟨x,xs,e⟩:=spl_ne 10 u
  have hg:=glue_spl 10 u
  rw [e] at h hg
  rw [linesR] at h
  cases h1 : lineR true ([],[],[]) x with
  | none => rw [h1] at h;cases h
  | some s1 =>
   rw [h1] at h
   have h2:=linesR_print (s:=s1) h
   obtain ⟨h3,h4⟩:=lineR_first h1
   unfold printX
   rw [h2]
   have e5 : linesX s1.1 s1.2.1 s1.2.2 = [x]:=by rw [h4,h3];rfl
   rw [e5,List.singleton_append,← hg,glue_lines (by simp)]
   rfl
 ·cases h
theorem rowK_app : ∀ (a : List Pr) (b : List Int) (r : Rw),rowK r (pairsI a ++ b) = (rowK r (pairsI a)).bind fun r' => rowK r' b
 | [],b,r => by simp [pairsI,rowK]
 | p :: a,b,r => by
  rw [show pairsI (p :: a) = p.1 :: p.2 :: pairsI a from rfl,List.cons_append,List.cons_append,rowK,rowK]
  split
  ·rfl
  ·exact rowK_app a b _
def pairsB (b : Bt) (ks : List Nat) : List Pr:=ks.map fun (k : Nat) => ((k : Int),valK k b)
theorem rowK_all (h : Hd) {b : Bt} {m : Nat} (hm : m < 256) : ∀ n,n ≤ 8 → rowK (zeroRw h) (pairsI (pairsB b (natKinds m n))) = some ((natKinds m n).foldl (fun r k => putR r k (valK k b)) (zeroRw h))
 | 0,_ => rfl
 | n + 1,hn => by
  have ih:=rowK_all h (b:=b) hm n (by omega)
  obtain ⟨h1,h2,h3⟩:=putKs h (b:=b) hm n (by omega)
  have hp:=pow_bits ⟨m,hm⟩ ⟨n,by omega⟩
  simp only at hp
  rw [natKinds_succ]
  cases hb : m.testBit n with
  | false => simp only [Bool.false_eq_true,if_false,List.append_nil];exact ih
  | true =>
   simp only [if_true]
   rw [show pairsI (pairsB b (natKinds m n ++ [n])) = pairsI (pairsB b (natKinds m n)) ++ [(n : Int),valK n b] by simp [pairsI,pairsB],rowK_app,ih,List.foldl_append]
   generalize (natKinds m n).foldl (fun r k => putR r k (valK k b)) (zeroRw h) = R at h1 h2 h3 ⊢
   simp only [Option.bind_some,List.foldl_cons,List.foldl_nil]
   rw [rowK,if_neg]
   ·rfl
   ·rw [show (n : Int).toNat = n from rfl,h2]
    intro e
    have hlt : m % 2 ^ n < 2 ^ n:=Nat.mod_lt _ (Nat.pow_pos (by omega))
    rcases e with e | e
    ·rw [hasK_nat _ _ (by have:=Nat.mod_le m (2 ^ n);omega),hp.1] at e;cases e
    ·unfold pw at e;omega
section
variable {gs : List Int} {rows : List Rw} {bs : List Bd}
theorem lineR_gens (hg : ∀ n ∈ gs,SmallI n) (s : St3) : lineR true s (gensX gs) = some (gs,s.2):=by
 unfold lineR
 rw [gensX_glue,spl_glue (by simp) (gens_words gs 32 (.inl rfl))]
 show lineW true s (some wGens) (wordsR (some wGens == some wRow) [] (gs.map Lib.itoa)) = _
 rw [show (some wGens == some wRow) = false by decide,wordsR_all hg]
 unfold lineW
 simp
theorem lineR_row {r : Rw} (h : SmallI r.1.1 ∧ SmallI r.1.2 ∧ beastZ r.2 = 0) (s : St3) (hs : s.2.2 = []) : lineR false s (rowX r) = some (s.1,s.2.1 ++ [r],s.2.2):=by
 unfold lineR
 rw [rowX_glue,spl_glue (by simp) (row_words r 32 (.inl rfl))]
 show lineW false s (some wRow) (wordsR (some wRow == some wRow) [] (Lib.itoa r.1.1 :: Lib.itoa r.1.2 :: (natKinds r.2.1.toNat 8).map (pairX r.2))) = _
 have hpt : (natKinds r.2.1.toNat 8).map (pairX r.2) = pairsT (pairsB r.2 (natKinds r.2.1.toNat 8)):=by
  unfold pairsT pairsB
  rw [List.map_map];rfl
 have hw : wordsR true [] (Lib.itoa r.1.1 :: Lib.itoa r.1.2 :: (natKinds r.2.1.toNat 8).map (pairX r.2)) = some (r.1.1 :: r.1.2 :: pairsI (pairsB r.2 (natKinds r.2.1.toNat 8))):=by
  rw [hpt,wordsR,if_neg (fun e => by have:=e.2;simp [wantsP] at this),numR_itoa h.1]
  simp only [List.length_nil,Nat.not_succ_le_zero,and_false,if_false,List.nil_append]
  have hw2 : ¬ ((Lib.cut (Lib.itoa r.1.2) [61]).2.2 = true ∧ wantsP true [r.1.1] = true):=fun e => by have:=e.2;simp [wantsP] at this
  rw [wordsR,if_neg hw2,numR_itoa h.2.1]
  simp only
  rw [if_neg (by simp),wordsR_pall (by simp) (by simp)]
  ·rfl
  ·intro p hp
   obtain ⟨k,hk,rfl⟩:=List.mem_map.1 hp
   have:=natKinds_lt hk
   exact ⟨by simp only;omega,val_small h.2.2 this⟩
 rw [show (some wRow == some wRow) = true by decide,hw]
 unfold lineW
 simp only
 rw [if_neg (by simp),if_pos ⟨by trivial,by trivial,by simp,hs⟩]
 simp only [gZ,gS,dS,List.drop_zero]
 obtain ⟨m,hm,e,-⟩:=(beastZ_iff _).1 h.2.2
 have hk:=rowK_all r.1 (b:=r.2) hm 8 (Nat.le_refl _)
 have e2 : r.2.1.toNat = m:=by rw [e];rfl
 have hp:=putKs_row h.2.2
 rw [e2] at hp ⊢
 rw [hk,hp]
 rfl
theorem lineR_bond {b : Bd} (h : SmallI b.1.1 ∧ SmallI b.1.2 ∧ SmallI b.2.1 ∧ SmallI b.2.2) (s : St3) : lineR false s (bondX b) = some (s.1,s.2.1,s.2.2 ++ [b]):=by
 unfold lineR
 rw [bondX_glue,spl_glue (by simp) (bond_words b 32 (.inl rfl))]
 show lineW false s (some wBond) (wordsR (some wBond == some wRow) [] ([b.1.1,b.1.2,b.2.1,b.2.2].map Lib.itoa)) = _
 rw [show (some wBond == some wRow) = false by decide,wordsR_all (by
  intro k hk
  simp only [List.mem_cons,List.not_mem_nil,or_false] at hk
  rcases hk with rfl | rfl | rfl | rfl
  ·exact h.1
  ·exact h.2.1
  ·exact h.2.2.1
  ·exact h.2.2.2)]
 unfold lineW
 simp only
 rw [if_neg (by simp),if_neg (by simp [wBond,wRow]),if_pos (by simp)]
 rfl
theorem linesR_rows : ∀ {rows : List Rw} (s : St3) (xs : List Bs),s.2.2 = [] → (∀ r ∈ rows,SmallI r.1.1 ∧ SmallI r.1.2 ∧ beastZ r.2 = 0) → linesR false s (rows.map rowX ++ xs) = linesR false (s.1,s.2.1 ++ rows,s.2.2) xs
 | [],s,xs,_,_ => by simp
 | r :: rows,s,xs,hs,h => by
  rw [List.map_cons,List.cons_append,linesR,lineR_row (h r (by simp)) s hs,Option.bind_some,linesR_rows (rows:=rows) (s.1,s.2.1 ++ [r],s.2.2) xs hs (fun x hx => h x (by simp [hx]))]
  simp
theorem linesR_bonds : ∀ {bs : List Bd} (s : St3),(∀ b ∈ bs,SmallI b.1.1 ∧ SmallI b.1.2 ∧ SmallI b.2.1 ∧ SmallI b.2.2) → linesR false s (bs.map bondX) = some (s.1,s.2.1,s.2.2 ++ bs)
 | [],s,_ => by rw [List.map_nil,linesR];simp
 | b :: bs,s,h => by
  rw [List.map_cons,linesR,lineR_bond (h b (by simp)) s,Option.bind_some,linesR_bonds (bs:=bs) (s.1,s.2.1,s.2.2 ++ [b]) (fun x hx => h x (by simp [hx]))]
  simp
theorem parseR_reads (h : TOk gs rows bs) : parseR (printX gs rows bs) = some (gs,rows,bs):=by
 have hg:=glue_lines (xs:=linesX gs rows bs) (by unfold linesX;simp)
 unfold parseR printX
 rw [show lnX = (fun x : Bs => x ++ [10]) from rfl,← hg]
 rw [if_pos (by unfold Lib.hasSuffix;rw [List.isSuffixOf_iff_suffix];exact List.suffix_append _ _)]
 rw [show List.take ((glue 10 (linesX gs rows bs) ++ ([10] : Bs)).length - 1) (glue 10 (linesX gs rows bs) ++ ([10] : Bs)) = glue 10 (linesX gs rows bs) by simp]
 rw [spl_glue (by unfold linesX;simp) (linesX_no gs rows bs)]
 unfold linesX
 rw [linesR,lineR_gens h.g,Option.bind_some,linesR_rows _ _ rfl h.r,linesR_bonds _ h.b]
 simp
end
end Go.Proofs.YtoheblfpjinmnaaGreatDoor
