import Derived.Test.YtidbcolnkcbkoaaGreatTopHandlesJ31
import Derived.Test.YtidbcolnkcbkoaaGreatTopHandlesJ30
/- A part of the proof that TopHandles returns true. -/
namespace Go.Proofs.YtidbcolnkcbkoaaGreat
open Go Go.RowKit
def putStep (h : Hd) (was now : Bt) (L : List Rw) (k : Int) : List Rw:=if valK k.toNat now ≠ valK k.toNat was then putW L h k (valK k.toNat now) else L
def putsL (h : Hd) (was now : Bt) (L : List Rw) (ks : List Int) : List Rw:=ks.foldl (putStep h was now) L
def rowP (s : Sy) (M : List Rw) (r : Rw) : List Rw:=putsL r.1 r.2 (stepBt s r.2) M (kindsN (low8 (stepBt s r.2).1))
def stepRow (s : Sy) (r : Rw) : Rw:=(r.1,stepBt s r.2)
theorem rw_ext {x y : Rw} (h1 : x.1 = y.1) (h2 : x.2.1 = y.2.1) (h3 : ∀ k,k < 8 → valK k x.2 = valK k y.2) : x = y:=by
 obtain ⟨hx,K,a0,a1,a2,a3,a4,a5,a6,a7⟩:=x
 obtain ⟨hy,K',b0,b1,b2,b3,b4,b5,b6,b7⟩:=y
 simp only at h1 h2
 subst h1 h2
 have e0 : a0 = b0:=h3 0 (by omega)
 have e1 : a1 = b1:=h3 1 (by omega)
 have e2 : a2 = b2:=h3 2 (by omega)
 have e3 : a3 = b3:=h3 3 (by omega)
 have e4 : a4 = b4:=h3 4 (by omega)
 have e5 : a5 = b5:=h3 5 (by omega)
 have e6 : a6 = b6:=h3 6 (by omega)
 have e7 : a7 = b7:=h3 7 (by omega)
 subst e0 e1 e2 e3 e4 e5 e6 e7
 rfl
def AtI (M : List Rw) (h : Hd) (i : Nat) : Prop:=∀ j x,M[j]? = some x → (x.1 = h ↔ j = i)
theorem AtI.idx {M : List Rw} {h : Hd} {i : Nat} (H : AtI M h i) (hi : i < M.length) : idxL M h = some i:=by
 refine fi_some hi (by simpa using (H i M[i] (List.getElem?_eq_getElem hi)).2 rfl) (fun j hj => ?_)
 have:=(H j (M[j]'(by omega)) (List.getElem?_eq_getElem (by omega))).1
 simp only [decide_eq_false_iff_not]
 intro e
 have:=this e
 omega
theorem AtI.set {M : List Rw} {h : Hd} {i : Nat} (H : AtI M h i) {y : Rw} (hy : y.1 = h) : AtI (M.set i y) h i:=by
 intro j x hx
 rw [List.getElem?_set] at hx
 by_cases e : i = j
 ·subst e
  rw [if_pos rfl] at hx
  split at hx
  ·cases hx;exact ⟨fun _ => rfl,fun _ => hy⟩
  ·cases hx
 ·rw [if_neg e] at hx
  exact H j x hx
def mixR (was now : Bt) (x : Rw) (k : Int) : Rw:=if valK k.toNat now ≠ valK k.toNat was then rwSet x k.toNat (valK k.toNat now) else x
theorem mixR_hd (was now : Bt) (x : Rw) (k : Int) : (mixR was now x k).1 = x.1:=by unfold mixR;split <;> rfl
theorem mixR_kn (was now : Bt) (x : Rw) (k : Int) : (mixR was now x k).2.1 = x.2.1:=by unfold mixR;split <;> rfl
theorem puts_set {was now : Bt} {kn : Nat} (hkn : kn < 256) (hnow : ∀ k,k < 8 → ¬ (valK k now < -1000000000 ∨ 1000000000 < valK k now)) (h : Hd) (i : Nat) : ∀ (ks : List Int) (M : List Rw) (x : Rw),(∀ k ∈ ks,0 ≤ k ∧ k < 8 ∧ kn.testBit k.toNat = true) → i < M.length → M[i]? = some x → x.1 = h → x.2.1 = (kn : Int) → AtI M h i →
  putsL h was now M ks = M.set i (ks.foldl (mixR was now) x)
 | [],M,x,_,hi,hx,_,_,_ => by
  have : M[i] = x:=by rw [List.getElem?_eq_getElem hi] at hx;exact Option.some.inj hx
  show M = M.set i x
  rw [← this,List.set_getElem_self]
 | k :: ks,M,x,hks,hi,hx,hxh,hxk,hA => by
  obtain ⟨hk0,hk8,hbit⟩:=hks k (by simp)
  have hget : M[i] = x:=by rw [List.getElem?_eq_getElem hi] at hx;exact Option.some.inj hx
  have hone : putStep h was now M k = M.set i (mixR was now x k):=by
   unfold putStep mixR
   by_cases e : valK k.toNat now ≠ valK k.toNat was
   ·rw [if_pos e,if_pos e]
    unfold putW
    rw [hA.idx hi]
    simp only
    rw [if_neg (by unfold putBad;have:=hnow k.toNat (by omega);omega),modify_set hi,hget,putR_has (by rw [hxk,hasK_nat kn k.toNat hkn];exact hbit)]
   ·rw [if_neg e,if_neg e,← hget,List.set_getElem_self]
  show putsL h was now (putStep h was now M k) ks = _
  rw [hone,puts_set hkn hnow h i ks (M.set i (mixR was now x k)) (mixR was now x k) (fun y hy => hks y (by simp [hy])) (by rw [List.length_set];exact hi) (by rw [List.getElem?_set,if_pos rfl,if_pos hi]) (by rw [mixR_hd];exact hxh) (by rw [mixR_kn];exact hxk) (hA.set (by rw [mixR_hd];exact hxh)),List.set_set]
  rfl
theorem mix_val {was now : Bt} : ∀ (ks : List Int) (x : Rw),(∀ k ∈ ks,0 ≤ k ∧ k < 8) → ∀ j,j < 8 → (valK j x.2 = valK j was ∨ valK j x.2 = valK j now) → valK j (ks.foldl (mixR was now) x).2 = if (j : Int) ∈ ks then valK j now else valK j x.2
 | [],x,_,j,_,_ => by simp
 | k :: ks,x,hks,j,hj,hx => by
  obtain ⟨hk0,hk8⟩:=hks k (by simp)
  have hv : valK j (mixR was now x k).2 = if (j : Int) = k ∧ valK j now ≠ valK j was then valK j now else valK j x.2:=by
   unfold mixR
   by_cases e : valK k.toNat now ≠ valK k.toNat was
   ·rw [if_pos e,rwSet_val _ _ _ (by omega)]
    by_cases ej : j = k.toNat
    ·subst ej
     rw [if_pos rfl,if_pos ⟨by omega,e⟩]
    ·rw [if_neg ej,if_neg (by intro h;omega)]
   ·rw [if_neg e]
    by_cases ej : (j : Int) = k
    ·have : k.toNat = j:=by omega
     rw [this] at e
     rw [if_neg (fun h => e h.2)]
    ·rw [if_neg (fun h => ej h.1)]
  have hx2 : valK j (mixR was now x k).2 = valK j was ∨ valK j (mixR was now x k).2 = valK j now:=by
   rw [hv];split
   ·exact .inr rfl
   ·exact hx
  show valK j (ks.foldl (mixR was now) (mixR was now x k)).2 = _
  rw [mix_val ks _ (fun y hy => hks y (by simp [hy])) j hj hx2,hv]
  by_cases h1 : (j : Int) ∈ ks
  ·rw [if_pos h1,if_pos (by simp [h1])]
  ·rw [if_neg h1]
   by_cases h2 : (j : Int) = k
   ·rw [if_pos (by simp [h2] : (j : Int) ∈ k :: ks)]
    by_cases h3 : valK j now ≠ valK j was
    ·rw [if_pos ⟨h2,h3⟩]
    ·rw [if_neg (fun h => h3 h.2)]
     have h3:=Classical.not_not.1 h3
     rcases hx with h | h
     ·rw [h,h3]
     ·exact h
   ·rw [if_neg (fun h => h2 h.1),if_neg (by simp [h1,h2])]
theorem mem_kindsN {kn : Nat} {k : Int} : k ∈ kindsN kn ↔ 0 ≤ k ∧ k < 8 ∧ kn.testBit k.toNat = true:=by
 unfold kindsN kindsTo
 rw [List.mem_map]
 constructor
 ·rintro ⟨j,hj,rfl⟩
  rw [List.mem_filter,List.mem_range] at hj
  exact ⟨by omega,by omega,by simpa using hj.2⟩
 ·rintro ⟨h1,h2,h3⟩
  exact ⟨k.toNat,by rw [List.mem_filter,List.mem_range];exact ⟨by omega,h3⟩,by omega⟩
theorem row_at {s : Sy} (hs : s.e = 0) {M : List Rw} {r : Rw} {i : Nat} (hr : beastZ r.2 = 0) (hi : i < M.length) (hx : M[i]? = some r) (hA : AtI M r.1 i) : rowP s M r = M.set i (stepRow s r):=by
 have hnow:=stepBt_ok hs hr
 obtain ⟨kn,hkn,hK,hv⟩:=(beastZ_iff _).1 hr
 have hK' : (stepBt s r.2).1 = (kn : Int):=by rw [stepBt_kinds];exact hK
 obtain ⟨kn',hkn',hK2,hv'⟩:=(beastZ_iff _).1 hnow
 have : kn' = kn:=by omega
 subst this
 unfold rowP
 rw [hK',low8_nat kn' hkn]
 rw [puts_set hkn (fun k hk => (hv' k hk).2) r.1 i (kindsN kn') M r (fun k hk => mem_kindsN.1 hk) hi hx rfl hK hA]
 congr 1
 have hall : ∀ k ∈ kindsN kn',0 ≤ k ∧ k < 8:=fun k hk => ⟨(mem_kindsN.1 hk).1,(mem_kindsN.1 hk).2.1⟩
 have hfh : ∀ (ks : List Int) (x : Rw),(ks.foldl (mixR r.2 (stepBt s r.2)) x).1 = x.1 ∧ (ks.foldl (mixR r.2 (stepBt s r.2)) x).2.1 = x.2.1:=by
  intro ks
  induction ks with
  | nil => exact fun x => ⟨rfl,rfl⟩
  | cons k ks ih => exact fun x => ⟨(ih _).1.trans (mixR_hd _ _ _ _),(ih _).2.trans (mixR_kn _ _ _ _)⟩
 refine rw_ext (hfh _ _).1 ((hfh _ _).2.trans (hK.trans hK'.symm)) (fun k hk => ?_)
 rw [mix_val _ _ hall k hk (.inl rfl)]
 split
 ·rfl
 ·next hn =>
  have hb : kn'.testBit k = false:=by
   cases hb : kn'.testBit k with
   | false => rfl
   | true => exact absurd (mem_kindsN.2 ⟨by omega,by omega,by simpa using hb⟩) hn
  rw [(hv k hk).1 hb]
  exact ((hv' k hk).1 hb).symm
theorem row_next {sl : Sl} {L : List Rw} {s : Sy} (hL : WOk sl L) (hs : s.e = 0) (k : Nat) (hk : k < L.length) :
  rowP s ((L.take k).map (stepRow s) ++ L.drop k) L[k] = (L.take (k + 1)).map (stepRow s) ++ L.drop (k + 1):=by
 have hl : ((L.take k).map (stepRow s)).length = k:=by rw [List.length_map,List.length_take];omega
 have hd:=List.drop_eq_getElem_cons hk
 have hget : ((L.take k).map (stepRow s) ++ L.drop k)[k]? = some L[k]:=by
  rw [List.getElem?_append_right (by omega),hl,Nat.sub_self,hd];rfl
 have hfst : ∀ j x,((L.take k).map (stepRow s) ++ L.drop k)[j]? = some x → ∃ hj : j < L.length,x.1 = L[j].1:=by
  intro j x hx
  by_cases hjk : j < k
  ·rw [List.getElem?_append_left (by omega),List.getElem?_map,List.getElem?_take,if_pos hjk,List.getElem?_eq_getElem (by omega)] at hx
   simp at hx
   exact ⟨by omega,by rw [← hx];rfl⟩
  ·rw [List.getElem?_append_right (by omega),hl,List.getElem?_drop,show k + (j - k) = j by omega] at hx
   obtain ⟨hj,e⟩:=List.getElem?_eq_some_iff.1 hx
   exact ⟨hj,by rw [e]⟩
 have hA : AtI ((L.take k).map (stepRow s) ++ L.drop k) L[k].1 k:=by
  intro j x hx
  obtain ⟨hj,e⟩:=hfst j x hx
  constructor
  ·intro h
   rcases Nat.lt_trichotomy j k with h2 | h2 | h2
   ·have:=List.pairwise_iff_getElem.1 hL.sorted j k hj hk h2
    rw [e] at h;rw [h] at this;omega
   ·exact h2
   ·have:=List.pairwise_iff_getElem.1 hL.sorted k j hk hj h2
    rw [e] at h;rw [h] at this;omega
  ·rintro rfl;exact e
 rw [row_at hs (hL.be _ (List.getElem_mem hk)) (by rw [List.length_append,List.length_drop];omega) hget hA,List.set_append_right _ _ (by omega),hl,Nat.sub_self,hd,List.set_cons_zero,take_succ_get L k hk,List.map_append,List.append_assoc]
 rfl
theorem WOk.step {sl : Sl} {L : List Rw} {s : Sy} (hL : WOk sl L) (hs : s.e = 0) : WOk sl (L.map (stepRow s)) :=
 ⟨hL.ok,by rw [List.map_map];exact hL.hs,fun r hr => by
  obtain ⟨x,hx,rfl⟩:=List.mem_map.1 hr
  exact stepBt_ok hs (hL.be x hx)⟩
def serL (l : List Sy) (L : List Rw) : List Rw:=l.foldl (fun L s => L.map (stepRow s)) L
theorem serL_ok {sl : Sl} : ∀ {l : List Sy} {L : List Rw},(∀ s ∈ l,s.e = 0) → WOk sl L → WOk sl (serL l L)
 | [],_,_,h => h
 | s :: l,L,hs,h => serL_ok (l:=l) (fun y hy => hs y (by simp [hy])) (h.step (hs s (by simp)))
theorem serL_snoc (l : List Sy) (s : Sy) (L : List Rw) : serL (l ++ [s]) L = (serL l L).map (stepRow s):=by unfold serL;rw [List.foldl_append];rfl
theorem firstE_all : ∀ {l : List Sy},firstE l = 0 → ∀ s ∈ l,s.e = 0
 | p :: l,h,s,hs => by
  unfold firstE at h
  by_cases hp : p.e ≠ 0
  ·rw [if_pos hp] at h;exact absurd h hp
  ·rw [if_neg hp] at h
   rcases List.mem_cons.1 hs with rfl | hs
   ·exact Classical.not_not.1 hp
   ·exact firstE_all h s hs
theorem planE_all {l : List Sy} (h : planE l = 0) : l.length ≤ 20 ∧ ∀ s ∈ l,s.e = 0:=by
 unfold planE at h
 split at h
 ·cases h
 ·exact ⟨by omega,firstE_all h⟩
end Go.Proofs.YtidbcolnkcbkoaaGreat
namespace Go.Proofs.YtidbcolnkcbkoaaGreat
open Go Go.RowKit
attribute [local go_sem] AllFrom.cons_eq AllFrom.nil_eq putF_nil putF_cons wantedL_none wantedL_some OpGoalT OpGoalV OpGoalQ OpGoalA OpGoalK YieldsR preF_nil preF_cons
theorem ITurn.call {a : Nat} {w0 V V' : World} {F : List Nat} {A' : World → List Nat → Prop} {L : Nat → Bool} {σ : Nat → Value} (h : ITurn a w0 F A' L σ V) (ha : L a = false) {i : Nat} (hi : a ≠ i) (hb : Below V.heap.size V V') (v : Value) : ITurn a w0 F A' (upd L i) (updv σ i v) V':=by
 have e : upd L i a = L a:=by unfold upd;simp [hi]
 exact ⟨fun _ => (h.s0 ha).trans (hb.mono (h.s0 ha).size),fun h1 => by rw [e,ha] at h1;cases h1⟩
section
variable {z p f : Nat} {sl : Sl} {L : List Rw} {B : List Bd} {w : World} {F : List Nat}
set_option maxRecDepth 20000 in
set_option maxHeartbeats 2000000 in
theorem rows_any (h : RepV z p f sl L B w F) : Calls Tryz.prog 62 #[.pointer (some ⟨z,0,none⟩)] w (MadeRecs 63 11 rwC L w):=by
 obtain ⟨FW,hW⟩:=h.w_
 have H1:=Lib.hid (wrows_any hW 0 0 0)
 have hc:=h.cells
 have hc0:=hc.1;have hzl:=hc.2.2
 clear h hc hW
 go_enter Tryz.func62,Tryz.ntmps62
 go_wp2_with fail
 refine H1.out.mono ?_
 rintro e w1 ⟨v,rfl,hv,hb1⟩
 rw [show qcheck 0 0 0 = 0 by decide,if_pos rfl,rowsM_zero'] at hv
 rw [show qcheck 0 0 0 = 0 by decide]
 obtain ⟨Hv,Hb1⟩:=hid2 hv hb1
 clear hv hb1
 clear hc0 hzl H1
 go_wp2
 go_ret
 exact ⟨_,rfl,Hv.out,Hb1.out⟩
set_option maxRecDepth 20000 in
set_option maxHeartbeats 4000000 in
theorem put_any (h : RepV z p f sl L B w F) (s g K a0 a1 a2 a3 a4 a5 a6 a7 Kn b0 b1 b2 b3 b4 b5 b6 b7 : Int) :
  Calls Tryz.prog 63 #[.pointer (some ⟨z,0,none⟩),.agg #[.int .i64 s,.int .i64 g],.agg #[.int .i64 K,.int .i64 a0,.int .i64 a1,.int .i64 a2,.int .i64 a3,.int .i64 a4,.int .i64 a5,.int .i64 a6,.int .i64 a7],.agg #[.int .i64 Kn,.int .i64 b0,.int .i64 b1,.int .i64 b2,.int .i64 b3,.int .i64 b4,.int .i64 b5,.int .i64 b6,.int .i64 b7]] w (VRet z p f sl (putsL (s,g) (K,a0,a1,a2,a3,a4,a5,a6,a7) (Kn,b0,b1,b2,b3,b4,b5,b6,b7) L (kindsN (low8 Kn))) B F w (.tuple #[])):=by
 obtain ⟨w1,hw1,hb1,hz1,hs1⟩:=box1 w (.cells #[.int .i64 s,.int .i64 g] 43)
 obtain ⟨w2,hw2,hb2,hz2,hs2⟩:=box1 w1 (.cells #[.int .i64 K,.int .i64 a0,.int .i64 a1,.int .i64 a2,.int .i64 a3,.int .i64 a4,.int .i64 a5,.int .i64 a6,.int .i64 a7] 41)
 obtain ⟨w3,hw3,hb3,hz3,hs3⟩:=box1 w2 (.cells #[.int .i64 Kn,.int .i64 b0,.int .i64 b1,.int .i64 b2,.int .i64 b3,.int .i64 b4,.int .i64 b5,.int .i64 b6,.int .i64 b7] 41)
 have hz1:=(Mod.ofBelow hb3).keep ((Mod.ofBelow hb2).keep hz1 (by simp)) (by simp)
 have hz2:=(Mod.ofBelow hb3).keep hz2 (by simp)
 have hb03:=hb1.trans ((hb2.trans (hb3.mono hb2.size)).mono hb1.size)
 have hV3:=h.below hb03
 have hlF:=h.lt
 have HL:=Lib.hid (list_any Kn w3)
 have hkm : ∀ k ∈ kindsN (low8 Kn),0 ≤ k ∧ k < 8:=fun k hk => ⟨(mem_kindsN.1 hk).1,(mem_kindsN.1 hk).2.1⟩
 obtain ⟨c0,c1,c2,c3,c4,c5,c6,c7,c8,cl⟩:=cells9 hz3
 obtain ⟨HZ1,HZ2,HZ3,Hb03,HV3,HlF,Hs1,Hs2,Hs3,Hkm⟩:=hid10 hz1 hz2 hz3 hb03 hV3 hlF hs1 hs2 hs3 hkm
 clear hz1 hz2 hz3 hb03 hV3 hlF hs1 hs2 hs3 hkm
 clear hb1 hb2 hb3 h
 go_enter Tryz.func63,Tryz.ntmps63
 go_wp2_with fail
 clear hw1 hw2 hw3 c0 c1 c2 c3 c4 c5 c6 c7 c8 cl
 refine HL.out.mono ?_
 rintro e w4 ⟨v,rfl,hrow,hb4⟩
 obtain ⟨A,c,rfl,-,-⟩:=row_slice hrow
 have hV4:=HV3.out.below hb4
 have hz1:=(Mod.ofBelow hb4).keep HZ1.out (by simp)
 have hz2:=(Mod.ofBelow hb4).keep HZ2.out (by simp)
 have hz3:=(Mod.ofBelow hb4).keep HZ3.out (by simp)
 have hb04:=Hb03.out.trans (hb4.mono Hb03.out.size)
 have hsz : w.heap.size < w3.heap.size ∧ w1.heap.size < w3.heap.size ∧ w2.heap.size < w3.heap.size ∧ w.heap.size ≤ w1.heap.size ∧ w.heap.size ≤ w2.heap.size:=by
  have:=Hs1.out;have:=Hs2.out;have:=Hs3.out;omega
 generalize hks : kindsN (low8 Kn) = ks at *
 have hkl : ks.length ≤ 8:=by rw [← hks];exact kindsTo_len _ 8
 obtain ⟨HY1,HY2,HY3,Hb04,HV4,Hrow,HSz,Hkl,Hks⟩:=hid9 hz1 hz2 hz3 hb04 hV4 hrow hsz hkl hks
 clear hz1 hz2 hz3 hb04 hV4 hrow hsz hkl hks
 clear hb4 HZ1 HZ2 HZ3 HL
 go_wp2_with fail
 go_loopw [14] (fun i wr => ∃ k : Nat,k ≤ ks.length ∧ i = .int .i64 k ∧ OwnPost (RepV z p f sl (putsL (s,g) (K,a0,a1,a2,a3,a4,a5,a6,a7) (Kn,b0,b1,b2,b3,b4,b5,b6,b7) L (ks.take k)) B) F w4 wr) (fun i _ => ks.length - (Go.RowKit.intOf i).toNat)
 case atStart => exact ⟨0,by omega,rfl,OwnPost.ofBelow (own_V _ _ _ _ _ _) HV4.out (Below.refl _ _)⟩
 case round =>
  obtain ⟨k,hk,rfl,hOP⟩:=hrel
  by_cases hlt : k < ks.length
  ·obtain ⟨F1,hV,hT⟩:=hOP
   have hnF : ∀ b,w.heap.size ≤ b → b ∉ F:=fun b hb e => by have:=HlF.out b e;omega
   have hsz:=HSz.out
   have hy1:=hT.mod.keep HY1.out (hnF _ (Nat.le_refl _))
   have hy2:=hT.mod.keep HY2.out (hnF _ hsz.2.2.2.1)
   have hy3:=hT.mod.keep HY3.out (hnF _ hsz.2.2.2.2)
   have hrw:=row_mod Hrow.out hT.mod (fun b hb => hnF b (by have:=own_ge Hrow.out b hb;omega))
   obtain ⟨g0,cap,cur,he,-,-,-⟩:=row_some hrw (by omega)
   cases he
   have hrc:=row_cell hrw (i:=k) (u:=.int .i64 ks[k]) (by simp [ints,hlt])
   have hgl:=row_lt hrw g0 rfl
   have hk8:=Hkm.out ks[k] (List.getElem_mem hlt)
   have hst : putsL (s,g) (K,a0,a1,a2,a3,a4,a5,a6,a7) (Kn,b0,b1,b2,b3,b4,b5,b6,b7) L (ks.take (k + 1)) = putStep (s,g) (K,a0,a1,a2,a3,a4,a5,a6,a7) (Kn,b0,b1,b2,b3,b4,b5,b6,b7) (putsL (s,g) (K,a0,a1,a2,a3,a4,a5,a6,a7) (Kn,b0,b1,b2,b3,b4,b5,b6,b7) L (ks.take k)) ks[k]:=by
    rw [take_succ_get ks k hlt];unfold putsL;rw [List.foldl_append];rfl
   have hki : (k : Int) < (ks.length : Int):=by omega
   have hkl:=Hkl.out
   obtain ⟨j,hj,hj8⟩ : ∃ j : Nat,ks[k] = (j : Int) ∧ j < 8:=⟨ks[k].toNat,by omega,by omega⟩
   rw [hj] at hrc hst
   clear hk8 hj
   unfold putStep at hst
   simp only [Int.toNat_natCast] at hst
   generalize putsL (s,g) (K,a0,a1,a2,a3,a4,a5,a6,a7) (Kn,b0,b1,b2,b3,b4,b5,b6,b7) L (ks.take k) = M at *
   have hcn : ∀ V : World,V.heap[w2.heap.size]? = some (.cells #[.int .i64 Kn,.int .i64 b0,.int .i64 b1,.int .i64 b2,.int .i64 b3,.int .i64 b4,.int .i64 b5,.int .i64 b6,.int .i64 b7] 41 (0,0)) → V.cell? ⟨w2.heap.size,1 + j,none⟩ = some (.int .i64 (valK j (Kn,b0,b1,b2,b3,b4,b5,b6,b7))):=fun V hV => by
    have:=RepBt.v (w:=V) (b:=w2.heap.size) (K:=Kn) (l:=[b0,b1,b2,b3,b4,b5,b6,b7]) hV (k:=j) hj8
    rw [this]
    congr 2
    rw [← valK_get,List.getD_eq_getElem?_getD,List.getElem?_eq_getElem];rfl
   have hcw : ∀ V : World,V.heap[w1.heap.size]? = some (.cells #[.int .i64 K,.int .i64 a0,.int .i64 a1,.int .i64 a2,.int .i64 a3,.int .i64 a4,.int .i64 a5,.int .i64 a6,.int .i64 a7] 41 (0,0)) → V.cell? ⟨w1.heap.size,1 + j,none⟩ = some (.int .i64 (valK j (K,a0,a1,a2,a3,a4,a5,a6,a7))):=fun V hV => by
    have:=RepBt.v (w:=V) (b:=w1.heap.size) (K:=K) (l:=[a0,a1,a2,a3,a4,a5,a6,a7]) hV (k:=j) hj8
    rw [this]
    congr 2
    rw [← valK_get,List.getD_eq_getElem?_getD,List.getElem?_eq_getElem];rfl
   have cn:=hcn wr hy3
   have cw:=hcw wr hy2
   have ln:=blk_lt hy3
   have lw:=blk_lt hy2
   have hmi : (j : Int) < 8:=by omega
   have hVd:=hV.below below_drew
   have hTd:=hT.below below_drew
   have hy1d:=blk_drew hy1
   have hy3d:=blk_drew hy3
   generalize valK j (Kn,b0,b1,b2,b3,b4,b5,b6,b7) = yn at *
   generalize valK j (K,a0,a1,a2,a3,a4,a5,a6,a7) = yw at *
   obtain ⟨HVd,HTd,Hy1d,Hy3d,Hcn,Hst,Hlt,HV⟩:=hid8 hVd hTd hy1d hy3d hcn hst hlt hV
   clear hVd hTd hy1d hy3d hcn hst hlt hV
   clear hy1 hy2 hy3 hrw hT hcw hnF hsz
   by_cases he : yn = yw
   ·have hbe : (yn != yw) = false:=by simp [he]
    have hst2:=Hst.out
    rw [if_neg (fun h => h he)] at hst2
    have hOP2 : OwnPost (RepV z p f sl (putsL (s,g) (K,a0,a1,a2,a3,a4,a5,a6,a7) (Kn,b0,b1,b2,b3,b4,b5,b6,b7) L (ks.take (k + 1))) B) F w4 wr.drew:=by rw [hst2];exact ⟨F1,HVd.out,HTd.out⟩
    obtain ⟨HOP2,Hst2⟩:=hid2 hOP2 hst2
    clear hOP2 hst2
    clear he
    go_wp2_with fail
    refine wp_planR 9 [0,4] [some 18,some 19,some 20,some 21,some 22,some 23,some 24,some 25,some 26] [[],[],[0,1],[0,1,2],[],[],[4,5],[4,5,6],[0,1,2,3,4,5,6,7]] [0,1,2,3,4,5,6,7,8] mixed rfl (by kernel_rfl) (by decide) (by decide) rfl ?_
    iterate 9 apply Exists.intro
    refine ⟨rfl,?_,?_⟩
    ·simp only [tS,List.take_zero,AllFrom.cons_eq,AllFrom.nil_eq,OpGoalQ]
     refine ⟨?_,?_,?_,?_,?_,?_,?_,?_,?_,trivial⟩
     all_goals (intro σ hp;(try simp only [gZ,gS,mC,mN,preF_cons,preF_nil,isV,and_true] at hp);(first | (have hq : True:=hp;clear hq hp) | skip))
     all_goals (go_simp;exact ⟨rfl,rfl⟩)
    intro σ hp
    simp only [gZ,gS,mC,mN,preF_cons,preF_nil,isV,and_true] at hp
    simp only [dS,List.drop_zero]
    go_simp
    clear hp
    go_wp2
    refine ⟨rfl,?_⟩
    go_wp2
    go_roundw
    case rel => exact ⟨k + 1,by have:=Hlt.out;omega,by go_num,HOP2.out⟩
    case measure => have:=Hlt.out;simp [Go.RowKit.intOf];omega
   ·have hbe : (yn != yw) = true:=by simp [he]
    have hst2:=Hst.out
    rw [if_pos he] at hst2
    have Hst2:=Lib.hid hst2
    clear hst2
    clear he
    go_wp2_with fail
    refine wp_planR 9 [0,4] [some 18,some 19,some 20,some 21,some 22,some 23,some 24,some 25,some 26] [[],[],[0,1],[0,1,2],[],[],[4,5],[4,5,6],[0,1,2,3,4,5,6,7]] [0,1,2,3,4,5,6,7,8] mixed rfl (by kernel_rfl) (by decide) (by decide) rfl ?_
    iterate 9 apply Exists.intro
    refine ⟨rfl,?_,?_⟩
    ·simp only [tS,List.take_zero,AllFrom.cons_eq,AllFrom.nil_eq,OpGoalQ]
     refine ⟨?_,?_,?_,?_,?_,?_,?_,?_,?_,trivial⟩
     all_goals (intro σ hp;(try simp only [gZ,gS,mC,mN,preF_cons,preF_nil,isV,and_true] at hp);(first | (have hq : True:=hp;clear hq hp) | skip))
     all_goals (go_simp;exact ⟨rfl,rfl⟩)
    intro σ hp
    simp only [gZ,gS,mC,mN,preF_cons,preF_nil,isV,and_true] at hp
    simp only [dS,List.drop_zero]
    go_simp
    clear hp
    go_wp2_with fail
    refine ⟨rfl,?_⟩
    go_wp2_with fail
    clear cn cw ln lw hrc hgl
    refine wp_planK [] 11 [0,5,6] [some 27,some 28,some 29,some 30,some 31,some 32,some 33,some 34,some 35,some 36,some 37] [[],[0],[0,1],[0,1,2],[],[],[],[],[6,7],[6,7,8],[0,1,2,3,4,5,6,7,8,9]] [0,1,2,3,4,5,6,7,8,9,10] (fun Lf σ W => ITurn 10 wr.drew F1 (RepV z p f sl (putW M (s,g) (j : Int) yn) B) Lf σ W) mixed rfl (by kernel_rfl) (by decide) (by decide) (by decide) (ITurn.start below_drew) rfl ?_
    iterate 11 apply Exists.intro
    refine ⟨rfl,?_,?_⟩
    ·simp only [tS,List.take_zero,AllFrom.cons_eq,AllFrom.nil_eq,OpGoalK]
     refine ⟨?_,?_,?_,?_,?_,?_,?_,?_,?_,?_,?_,trivial⟩
     all_goals (intro L' σ V h1 h2 h3 hI hp;have HA1:=Lib.hid h1;have HA2:=Lib.hid h2;have HA3:=Lib.hid h3;clear h1 h2 h3;(try simp only [gZ,gS,preK_cons,preK_nil] at hp);(try simp only [List.not_mem_nil,false_or,and_true] at hp);(first | (have hq : True:=hp;clear hq hp) | skip);have HI:=Lib.hid hI;clear hI)
     all_goals (
      have hb:=HI.out.s0 (by first | exact HA3.out 10 (by decide) | exact HA1.out)
      have hRV:=HVd.out.below hb
      have hA:=hRV.cells
      have hc0:=hA.1;have hzl:=hA.2.2
      have hk1:=(Mod.ofBelow hb).keep Hy1d.out (by simp)
      have hk3:=(Mod.ofBelow hb).keep Hy3d.out (by simp)
      have cn:=Hcn.out V hk3
      have ln:=blk_lt hk3
      have e0:=blk_cell hk1 0
      have e1:=blk_cell hk1 1
      simp only [eA,eZ,eS] at e0 e1
      have el:=blk_lt hk1
      have HRV:=Lib.hid hRV
      clear hA hRV hb hk1 hk3)
     iterate 10 · (go_simp;exact ⟨.inr rfl,HI.out.read (by decide) _⟩)
     ·(go_simp;refine (v_put HRV.out s g (j : Int) yn).mono ?_;rintro e V2 ⟨rfl,hp2⟩;exact ⟨_,rfl,.inr rfl,HI.out.turn HA1.out hp2 _⟩)
    ·intro L' σ V7 h1 hI hp
     have hP:=hI.s1 (h1 10 (by decide))
     clear h1 hI
     simp only [preK_cons,preK_nil,gZ,gS] at hp;simp only [List.not_mem_nil,false_or,and_true] at hp
     have hOP7 : OwnPost (RepV z p f sl (putsL (s,g) (K,a0,a1,a2,a3,a4,a5,a6,a7) (Kn,b0,b1,b2,b3,b4,b5,b6,b7) L (ks.take (k + 1))) B) F w4 V7:=by
      rw [Hst2.out]
      obtain ⟨F4,h3,h4⟩:=hP
      exact ⟨F4,h3,HTd.out.trans h4⟩
     have HOP7:=Lib.hid hOP7
     clear hOP7
     clear hP
     simp only [dS,List.drop_zero]
     go_simp
     clear hp
     go_wp2
     refine ⟨rfl,?_⟩
     go_wp2
     go_roundw
     case rel => exact ⟨k + 1,by have:=Hlt.out;omega,by go_num,HOP7.out⟩
     case measure => have:=Hlt.out;simp [Go.RowKit.intOf];omega
  ·obtain rfl : k = ks.length:=by omega
   rw [List.take_length] at hOP
   have hfin : VRet z p f sl (putsL (s,g) (K,a0,a1,a2,a3,a4,a5,a6,a7) (Kn,b0,b1,b2,b3,b4,b5,b6,b7) L ks) B F w (.tuple #[]) (.returned (.tuple #[])) wr:=⟨rfl,OwnPost.after Hb04.out hOP⟩
   have Hfin:=Lib.hid hfin
   clear hfin
   clear hOP hlt
   go_wp2
   refine bodyPost_end (v:=.tuple #[]) ?_ rfl Hfin.out
   unfold results
   go_simp
end
end Go.Proofs.YtidbcolnkcbkoaaGreat
namespace Go.Proofs.YtidbcolnkcbkoaaGreat
open Go.RowKit
theorem made_ints : ∀ n : Nat,(madeCells (Value.int .i64 0).cells (n * 1)).toList = ints (List.replicate n 0):=by
 intro n
 show (madeCells #[.int .i64 0] (n * 1)).toList = _
 rw [toList_madeCells_one,Nat.mul_one]
 simp [ints]
theorem make_int {w : World} {ops : Array Oper} {rest : List Oper} {o : Oper} {a : Act} {Q : Exit → Act → World → Prop} (hgd : o.guard = none) (s x : Operand)
  (ho : o.op = .makeSlice 26 s x) (base n : Nat) (hs : a.eval s = .int .i64 n) (hx : a.eval x = .int .i64 n) (hn : n ≤ 1000000) (hbase : base ≤ w.heap.size)
  (h : ∀ w',w'.ownsRow base 3 1 (.slice (some ⟨w.heap.size,0,none⟩) n n) n (ints (List.replicate n 0)) → Below base w w' → wpList Tryz.prog ops Q rest (a.put o.dst (.slice (some ⟨w.heap.size,0,none⟩) n n)) w') :
  wpList Tryz.prog ops Q (o :: rest) a w:=by
 obtain ⟨i0,hi,hz0,hz1,hz2⟩:=info_parts info_int
 refine wpList_make_full w hgd s x 26 ho base 3 i0 (.int .i64 0) 1 Tryz.underlying26 hi hz0 hz1 .i64 .i64 n n n hs hx rfl rfl (by rw [hz2];omega) (by unfold maxLen;omega) hbase ?_
 intro w' h1 h2
 rw [made_ints] at h1
 exact h w' h1 ((Below.refl base w).grown h2 hbase (by simp))
theorem own_below {w w' : World} {B e size n : Nat} {v : Value} {xs : List Value} (h : w.ownsRow B e size v n xs) (hb : Below w.heap.size w w') : w'.ownsRow B e size v n xs:=by
 obtain ⟨hl,h⟩:=h
 refine ⟨hl,?_⟩
 rcases h with h | ⟨g,cap,cur,hv,hg,hh,hr⟩
 ·exact .inl h
 ·have hlt : g < w.heap.size:=by
   rcases Nat.lt_or_ge g w.heap.size with h | h
   ·exact h
   ·rw [Array.getElem?_eq_none h] at hh;cases hh
  exact .inr ⟨g,cap,cur,hv,hg,(hb.block g hlt).trans hh,hr⟩
theorem rep_succ (n i : Nat) (h : i < n) : List.replicate (n - i) (0 : Int) = 0 :: List.replicate (n - (i + 1)) 0:=by
 rw [show n - i = (n - (i + 1)) + 1 by omega,List.replicate_succ]
theorem wrap_small (z : Int) (h1 : 0 ≤ z) (h2 : z ≤ 1000000) : IntKind.i64.wrap z = z:=by
 have e : z % 2 ^ 64 = z:=Int.emod_eq_of_lt h1 (by omega)
 simp only [IntKind.wrap,IntKind.bits,IntKind.signed,e,Bool.true_and,decide_eq_true_eq]
 split <;> omega
theorem ints_left (P R : List Int) (y : Int) (k : Nat) (h : k < P.length) : (ints (P ++ y :: R))[k]? = some (.int .i64 (P.getD k 0)):=by
 unfold ints
 rw [List.getElem?_map,List.getElem?_append_left h,List.getElem?_eq_getElem h,List.getD_eq_getElem?_getD,List.getElem?_eq_getElem h];rfl
theorem ints_mid (P R : List Int) (y : Int) (i : Nat) (h : P.length = i) : (ints (P ++ y :: R))[i]? = some (.int .i64 y):=by
 subst h
 unfold ints
 rw [List.getElem?_map,List.getElem?_append_right (Nat.le_refl _)];simp
theorem ints_setP (P R : List Int) (y z : Int) (i : Nat) (h : P.length = i) : (ints (P ++ y :: R)).set i (.int .i64 z) = ints (P ++ z :: R):=by
 subst h
 unfold ints
 simp
attribute [local go_sem] AllFrom.cons_eq AllFrom.nil_eq putL_nil putL_cons wantedL_none wantedL_some OpGoalM OpGoalL YieldsJ upd
set_option maxHeartbeats 4000000 in
theorem plan_ok (A : Option Addr) (c : Nat) (l : List Sy) (w : World) (hl : l.length ≤ 20) (hA : Lies w w.heap.size A (sysCells l)) (hok : firstE l = 0) :
  Calls Tryz.prog 61 #[.slice A l.length c] w (PlanPost l w):=by
 have hp : planE l = 0:=by unfold planE;rw [if_neg (by omega)];exact hok
 have hpl : planL l = planTo l l.length:=by unfold planL;rw [if_pos hp]
 have Hp:=Lib.hid hp
 have Hpl:=Lib.hid hpl
 have Hok:=Lib.hid hok
 clear hp hpl hok
 go_enter Tryz.func61,Tryz.ntmps61
 go_wp2
 go_loopw [16] (fun i wr => ∃ k : Nat,k ≤ l.length ∧ i = .int .i64 k ∧ firstE (l.drop k) = firstE l ∧ Below w.heap.size w wr) (fun i _ => l.length - (Go.RowKit.intOf i).toNat)
 case atStart => exact ⟨0,by omega,rfl,rfl,Below.refl _ _⟩
 case round =>
  obtain ⟨k,hk,rfl,hgo,hbel⟩:=hrel
  have hsz:=hbel.size
  by_cases hlt : k < l.length
  ·obtain ⟨a,rfl,hb,hc⟩:=((hA.below hbel).mono hbel.size).elem Sy.cells_len (by omega) hlt
   have hst:=firstE_drop l k hlt
   generalize l[k] = p at *
   obtain ⟨n,t,s0,r,s,d,x⟩:=p
   have hck:=fun w => sysCheck_any n t s0 r s d x w
   have he : Sy.e ⟨n,t,s0,r,s,d,x⟩ = sysE n t s0 r s d x:=rfl
   rw [he,hgo,Hok.out] at hst
   clear he
   generalize sysE n t s0 r s d x = q at *
   have hq : q = 0:=by
    apply Classical.byContradiction
    intro hne
    rw [if_pos hne] at hst
    exact hne hst.symm
   subst hq
   have Hc:=Lib.hid hc
   have Hst:=Lib.hid hst
   have HA:=Lib.hid hA
   have Hgo:=Lib.hid hgo
   have Hck:=Lib.hid hck
   clear hc hst hA hgo hck
   go_wp2_with (first | (refine wpList_load_flat rfl 60 _ rfl _ rfl [.int .i64 n,.int .i64 t,.int .i64 s0,.int .i64 r,.int .i64 s,.int .i64 d,.int .i64 x] _ Tryz.underlying60 rfl (by kernel_rfl) Hc.out ?_) | (go_at_call 88;refine (Hck.out _).mono ?_;rintro e w1 ⟨rfl,hb1⟩))
   go_roundw
   case rel => exact ⟨k + 1,by omega,by go_num,by rw [Hok.out,Hst.out];simp,(hbel.alloc hsz _).trans (hb1.mono (by simp;omega))⟩
   case measure => simp [Go.RowKit.intOf];omega
  ·have HA0:=Lib.hid hA
   obtain rfl : k = l.length:=by omega
   clear hA hgo hk hlt
   go_wp2_with (at_make;refine make_int rfl _ _ rfl w.heap.size l.length rfl rfl (by omega) hsz ?_;intro wm hown0 hbm)
   have hbel2 : Below w.heap.size w wm:=hbel.trans hbm
   have hg : w.heap.size ≤ wr.heap.size:=hsz
   generalize wr.heap.size = g at *
   clear hbm hbel
   go_loopw [31] (fun s wq => ∃ i : Nat,i ≤ l.length ∧ s = .int .i64 i ∧ wq.ownsRow w.heap.size 3 1 (.slice (some ⟨g,0,none⟩) l.length l.length) l.length (ints (planTo l i ++ List.replicate (l.length - i) 0)) ∧ Below w.heap.size w wq) (fun s _ => l.length - (Go.RowKit.intOf s).toNat)
   case atStart => exact ⟨0,by omega,rfl,hown0,hbel2⟩
   case round =>
    clear hown0 hbel2
    obtain ⟨i,hi,rfl,hown,hbel⟩:=hrel
    have hsz2:=hbel.size
    by_cases hlt : i < l.length
    ·obtain ⟨a,rfl,hb,hc⟩:=(HA0.out.below hbel).elem Sy.cells_len (by omega) hlt
     have hls:=fun k hk => lvlAt_succ l i k hlt hk
     have hz:=lvlAt_zero l i
     have hps:=planTo_succ l i
     have hrp:=rep_succ l.length i hlt
     have hpn:=planTo_len l i
     generalize l[i] = p at *
     obtain ⟨n,t,s0,r,s,d,x⟩:=p
     have Hc:=Lib.hid hc
     obtain ⟨Hls,Hps,Hpn⟩:=hid3 hls hps hpn
     rw [hrp] at hown
     clear hc hls hps hrp hpn
     go_wp2_with (first | (refine wpList_load_flat rfl 60 _ rfl _ rfl [.int .i64 n,.int .i64 t,.int .i64 s0,.int .i64 r,.int .i64 s,.int .i64 d,.int .i64 x] _ Tryz.underlying60 rfl (by kernel_rfl) Hc.out ?_) | fail)
     obtain ⟨gs,hgs⟩ : ∃ gs,gs = wr.heap.size:=⟨_,rfl⟩
     have hblk : (wr.alloc (.cells #[.int .i64 n,.int .i64 t,.int .i64 s0,.int .i64 r,.int .i64 s,.int .i64 d,.int .i64 x] 60)).heap[gs]? = some (.cells #[.int .i64 n,.int .i64 t,.int .i64 s0,.int .i64 r,.int .i64 s,.int .i64 d,.int .i64 x] 60 (0,0)):=by rw [hgs];exact heap_alloc_new wr _
     rw [← hgs]
     have hgg : g < gs:=by rw [hgs];exact (hown.lt g rfl).2
     have Hgs:=Lib.hid hgs
     clear hgs
     go_loopw [37] (fun s' wq => ∃ k : Nat,k ≤ i ∧ s' = .int .i64 k ∧ wq.ownsRow w.heap.size 3 1 (.slice (some ⟨g,0,none⟩) l.length l.length) l.length (ints (planTo l i ++ lvlAt l i k :: List.replicate (l.length - (i + 1)) 0)) ∧ Below w.heap.size w wq ∧ wq.heap[gs]? = some (.cells #[.int .i64 n,.int .i64 t,.int .i64 s0,.int .i64 r,.int .i64 s,.int .i64 d,.int .i64 x] 60 (0,0))) (fun s' _ => i - (Go.RowKit.intOf s').toNat)
     case atStart => exact ⟨0,by omega,rfl,by rw [hz];exact hown.alloc _,hbel.alloc hsz2 _,hblk⟩
     case round =>
      clear hown hbel hblk hsz2 hz
      obtain ⟨k,hk,rfl,hown,hbel,hblk⟩:=hrel
      have hsz3:=hbel.size
      have hgl : gs < wr.heap.size:=by
       rcases Nat.lt_or_ge gs wr.heap.size with h | h
       ·exact h
       ·rw [Array.getElem?_eq_none h] at hblk;cases hblk
      have hgsg : g ≠ gs:=by omega
      have hgw:=(hown.lt g rfl).2
      by_cases hlt2 : k < i
      ·obtain ⟨a2,ha2,hb2,hc2⟩:=(HA0.out.below hbel).elem Sy.cells_len (by omega) (show k < l.length by omega)
       cases ha2
       have hls:=Hls.out k (by omega)
       have hlb:=lvlAt_bound l i k
       have hxb:=getD_bound (planTo l i) i (planTo_bound l i) (by omega) k
       have hLk : (ints (planTo l i ++ lvlAt l i k :: List.replicate (l.length - (i + 1)) 0))[k]? = some (.int .i64 ((planTo l i).getD k 0)):=ints_left _ _ _ _ (by rw [Hpn.out];exact hlt2)
       have hLi : (ints (planTo l i ++ lvlAt l i k :: List.replicate (l.length - (i + 1)) 0))[i]? = some (.int .i64 (lvlAt l i k)):=ints_mid _ _ _ _ Hpn.out
       have hLs : ∀ y,(ints (planTo l i ++ lvlAt l i k :: List.replicate (l.length - (i + 1)) 0)).set i (.int .i64 y) = ints (planTo l i ++ y :: List.replicate (l.length - (i + 1)) 0):=fun y => ints_setP _ _ _ _ _ Hpn.out
       have hck:=(hown.cellAt k (by omega)).trans hLk
       have hci:=(hown.cellAt i (by omega)).trans hLi
       have hfi:=hown.frozenAt i
       have hpc:=cell_of_row wr gs
       generalize l[k]'(by omega) = q at *
       obtain ⟨n',t',s0',r',s',d',x'⟩:=q
       have hcl:=fun w => clash_any ⟨n,t,s0,r,s,d,x⟩ ⟨n',t',s0',r',s',d',x'⟩ w
       simp only [Sy.val] at hcl
       generalize clashB _ _ = b at *
       generalize lvlAt l i k = cur at *
       generalize (planTo l i).getD k 0 = xk at *
       obtain ⟨Hls2,HLs,Hcl,Hc2,Hblk,Hown,Hbel⟩:=hid7 hls hLs hcl hc2 hblk hown hbel
       clear hls hLk hLi hLs hcl hc2 hpc hblk hown hbel
       have hkl : k < l.length:=by omega
       go_wp2
       refine wp_planM [some 40,some 41,some 42,some 43,some 44,some 45] [[],[],[],[1,2],[1,2,3],[0,1,2,3,4]] [.agg #[.int .i64 n,.int .i64 t,.int .i64 s0,.int .i64 r,.int .i64 s,.int .i64 d,.int .i64 x],.slice (some a) l.length c,.int .i64 k,.pointer (some (a.add (k * 7))),.agg #[.int .i64 n',.int .i64 t',.int .i64 s0',.int .i64 r',.int .i64 s',.int .i64 d',.int .i64 x'],.bool b]
        (fun w' => Below wr.heap.size wr w') mixed rfl (by kernel_rfl) (Below.refl _ _).drew ?_ ?_
       ·simp only [AllFrom.cons_eq,AllFrom.nil_eq,OpGoalM,wantedL_none,↓reduceIte]
        refine ⟨?_,?_,?_,?_,?_,?_,trivial⟩
        ·intro w1 hI
         have hlo:=fun oo xx ρ ho hx hc => run_op_load ρ oo w1 60 xx ho ⟨gs,0,none⟩ hx [.int .i64 n,.int .i64 t,.int .i64 s0,.int .i64 r,.int .i64 s,.int .i64 d,.int .i64 x] _ Tryz.underlying60 rfl (by kernel_rfl) hc
         set_option maxRecDepth 100000 in refine yj_run (hlo _ _ _ rfl rfl (fun j u hu => ?_)) hI
         have h1:=(hI.block gs hgl).trans Hblk.out
         have e : (⟨gs,0,none⟩ : Addr).add j = ⟨gs,j,none⟩:=by unfold Addr.add;split <;> simp_all
         rw [e,cell_of_row w1 gs j _ _ _ h1]
         simpa using hu
        ·intro w1 hI
         go_simp
        ·intro w1 hI
         go_simp
        ·intro w1 hI
         go_simp
        ·intro w1 hI
         have hlo:=fun oo xx ρ ho hx hc => run_op_load ρ oo w1 60 xx ho (a.add (k * 7)) hx [.int .i64 n',.int .i64 t',.int .i64 s0',.int .i64 r',.int .i64 s',.int .i64 d',.int .i64 x'] _ Tryz.underlying60 rfl (by kernel_rfl) hc
         set_option maxRecDepth 100000 in refine yj_run (hlo _ _ _ rfl rfl (fun j u hu => ?_)) hI
         have hlt3 : ((a.add (k * 7)).add j).block < wr.heap.size:=by rw [add_block,add_block];omega
         exact (hI.cell hlt3).trans (Hc2.out j u hu)
        ·intro w1 hI
         go_simp
         refine (Hcl.out _).mono ?_
         rintro e w' ⟨rfl,hb⟩
         exact ⟨rfl,hI.trans (hb.mono hI.size)⟩
       ·intro w1 hI
        have hI2:=own_below Hown.out hI
        have hI3:=(hI.block gs hgl).trans Hblk.out
        have hI4:=Hbel.out.trans (hI.mono hsz3)
        obtain ⟨HI,HI2,HI3,HI4⟩:=hid4 hI hI2 hI3 hI4
        have hck1:=(hI.cell (p:=⟨g,k,none⟩) hgw).trans hck
        have hci1:=(hI.cell (p:=⟨g,i,none⟩) hgw).trans hci
        have hfi1:=(hI.frozen (p:=⟨g,i,none⟩) hgw).trans hfi
        clear hI hI2 hI3 hI4 hck hci hfi
        go_simp
        cases b with
        | false =>
         go_wp2
         go_roundw
         case rel => exact ⟨k + 1,by omega,by go_num,by rw [Hls2.out];simpa using HI2.out,HI4.out,HI3.out⟩
         case measure => simp [Go.RowKit.intOf];omega
        | true =>
         go_wp2
         refine wp_plan [some 46,some 47,some 48,some 49,some 50,some 51,some 52,some 53,some 54,some 55,some 56,some 57,some 58,none] [[],[],[],[],[2,3],[2,3,4],[],[],[6,7],[6,7,8],[6,7,8,9],[2,3,4,5,6,7,8,9,10],[0,1,2,3,4,5,6,7,8,9,10,11],[0,1,2,3,4,5,6,7,8,9,10,11,12]] [.slice (some ⟨g,0,none⟩) l.length l.length,.int .i64 i,.slice (some ⟨g,0,none⟩) l.length l.length,.int .i64 i,.pointer (some ⟨g,i,none⟩),.int .i64 cur,
          .slice (some ⟨g,0,none⟩) l.length l.length,.int .i64 k,.pointer (some ⟨g,k,none⟩),.int .i64 xk,.int .i64 (xk + 1),.int .i64 (max cur (xk + 1)),.pointer (some ⟨g,i,none⟩),undef]
          (fun L w' => w' = if L 13 = true then w1.drew.setCell ⟨g,i,none⟩ (.int .i64 (max cur (xk + 1))) else w1.drew) mixed rfl (by kernel_rfl) rfl ?_ ?_
         ·simp only [AllFrom.cons_eq,AllFrom.nil_eq,OpGoalL,wantedL_none,↓reduceIte]
          refine ⟨?_,?_,?_,?_,?_,?_,?_,?_,?_,?_,?_,?_,?_,?_,trivial⟩
          all_goals (intro L w2 h1 h2 h3 hI)
          all_goals (try have h13:=h3 13 (by decide))
          all_goals (clear h2 h3)
          all_goals (first | rw [h13] at hI | rw [h1] at hI)
          all_goals (simp only [Bool.false_eq_true,↓reduceIte] at hI;subst hI)
          all_goals (try go_simp)
          ·exact wrap_small _ (by omega) (by omega)
         ·intro L w2 hL hI
          rw [hL 13 (by decide)] at hI
          simp only [↓reduceIte] at hI
          have hown3:=HI2.out.drew.stored i (.int .i64 (max cur (xk + 1)))
          rw [HLs.out] at hown3
          subst hI
          go_simp
          go_wp2
          go_roundw
          case rel => exact ⟨k + 1,by omega,by go_num,by rw [Hls2.out,if_pos trivial];exact hown3.1,HI4.out.drew.setCell (show w.heap.size ≤ g from hg) _,(Below.heap_setCell _ _ _ _ (fun e => hgsg e.symm)).trans HI3.out⟩
          case measure => simp [Go.RowKit.intOf];omega
      ·obtain rfl : k = i:=by omega
       have hps:=Hps.out
       have hown2 : wr.ownsRow w.heap.size 3 1 (.slice (some ⟨g,0,none⟩) l.length l.length) l.length (ints (planTo l (k + 1) ++ List.replicate (l.length - (k + 1)) 0)):=by
        rw [hps,List.append_assoc];exact hown
       obtain ⟨Hown2,Hbel⟩:=hid2 hown2 hbel
       clear hown hown2 hbel hblk hps hk hlt2
       go_wp2
       go_roundw
       case rel => exact ⟨k + 1,by omega,by go_num,Hown2.out,Hbel.out⟩
       case measure => simp [Go.RowKit.intOf];omega
    ·obtain rfl : i = l.length:=by omega
     have hown2 : wr.ownsRow w.heap.size 3 1 (.slice (some ⟨g,0,none⟩) l.length l.length) l.length (ints (planTo l l.length)):=by simpa using hown
     have hpost : ∀ wz,wz = wr → PlanPost l w (.returned (.tuple #[.slice (some ⟨g,0,none⟩) l.length l.length,.int .i64 0])) wz:=by
      rintro wz rfl
      refine ⟨_,by rw [Hp.out],?_,hbel⟩
      rw [Hpl.out,planTo_len];exact hown2
     have HP:=Lib.hid hpost
     clear hown hown2 hpost hbel hi hlt
     go_wp2
     go_ret2
     exact HP.out _ rfl
end Go.Proofs.YtidbcolnkcbkoaaGreat
namespace Go.Proofs.YtidbcolnkcbkoaaGreat
open Go.RowKit
attribute [local go_sem] AllFrom.cons_eq AllFrom.nil_eq putL_nil putL_cons wantedL_none wantedL_some OpGoalM OpGoalL YieldsJ upd
end Go.Proofs.YtidbcolnkcbkoaaGreat
namespace Go.Proofs.YtidbcolnkcbkoaaGreat
open Go.ChangeShapes Go.WideShapes Go.ChangeAt Go.RowKit
theorem plan_any (A : Option Addr) (c : Nat) (l : List Sy) (w : World) (hl : l.length ≤ 9223372036854775807) (hA : Lies w w.heap.size A (sysCells l)) :
  Calls Tryz.prog 61 #[.slice A l.length c] w (PlanPost l w):=by
 rcases Nat.lt_or_ge 20 l.length with h | h
 ·exact sys_many A c l w h hl
 ·by_cases he : firstE l = 0
  ·exact plan_ok A c l w h hA he
  ·exact plan_bad A c l w h hA he
attribute [local go_sem] AllFrom.cons_eq AllFrom.nil_eq putL_nil putL_cons wantedL_none wantedL_some OpGoalM YieldsJ
end Go.Proofs.YtidbcolnkcbkoaaGreat
