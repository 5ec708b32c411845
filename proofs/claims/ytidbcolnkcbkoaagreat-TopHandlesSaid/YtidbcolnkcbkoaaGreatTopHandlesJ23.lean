import Derived.Shelf.SlIterI.Collect
import Derived.Test.YtidbcolnkcbkoaaGreatTopHandlesJ22
/- A part of the proof that TopHandles returns true. -/
namespace Go.Proofs.YtidbcolnkcbkoaaGreat
open Go Go.RowKit Go.Shelf Go.Maps Go.Sort
def keysTab_ren : Go.Shelf.Ren:=⟨fun | 7 => 37 | 10 => 69 | n => n,fun | 23 => 68 | 26 => 3 | 3 => 97 | 28 => 104 | 0 => 0 | 27 => 103 | 33 => 133 | 4 => 4 | n => n,fun | n => n⟩
theorem keysTab : Go.Proofs.SlLaysZI.n7 Tryz.prog keysTab_ren:={
 mixed:=by kernel_rfl,
 f7:=⟨Tryz.f37.name,by decide,Tryz.func37.trans (congrArg some (by kernel_rfl))⟩,
 f10:=⟨Tryz.f69.name,by decide,Tryz.func69.trans (congrArg some (by kernel_rfl))⟩,
 t0:=Tryz.underlying0,
 a0:=Tryz.isAgg0,
 z0:=Tryz.sizeOf0,
 v0:=Tryz.zeroValue0,
 t4:=Tryz.underlying4,
 a4:=Tryz.isAgg4,
 z4:=Tryz.sizeOf4,
 v4:=Tryz.zeroValue4,
 t23:=Tryz.underlying68,
 a23:=Tryz.isAgg68,
 z23:=Tryz.sizeOf68,
 v23:=Tryz.zeroValue68,
 t26:=Tryz.underlying3,
 a26:=Tryz.isAgg3,
 z26:=Tryz.sizeOf3,
 v26:=Tryz.zeroValue3,
 t27:=Tryz.underlying103,
 a27:=Tryz.isAgg103,
 z27:=Tryz.sizeOf103,
 v27:=Tryz.zeroValue103,
 t28:=Tryz.underlying104,
 a28:=Tryz.isAgg104,
 z28:=Tryz.sizeOf104,
 v28:=Tryz.zeroValue104,
 t33:=Tryz.underlying133,
 a33:=Tryz.isAgg133,
 z33:=Tryz.sizeOf133,
 v33:=Tryz.zeroValue133 }
def collInt_ren : Go.Shelf.Ren:=⟨fun | 8 => 36 | 11 => 68 | n => n,fun | 26 => 3 | 28 => 104 | 24 => 26 | 0 => 0 | 33 => 133 | 4 => 4 | n => n,fun | n => n⟩
theorem collInt : Go.Proofs.SlLaysZI.n8 Tryz.prog collInt_ren:={
 mixed:=by kernel_rfl,
 f8:=⟨Tryz.f36.name,by decide,Tryz.func36.trans (congrArg some (by kernel_rfl))⟩,
 f11:=⟨Tryz.f68.name,by decide,Tryz.func68.trans (congrArg some (by kernel_rfl))⟩,
 t0:=Tryz.underlying0,
 a0:=Tryz.isAgg0,
 z0:=Tryz.sizeOf0,
 v0:=Tryz.zeroValue0,
 t24:=Tryz.underlying26,
 a24:=Tryz.isAgg26,
 z24:=Tryz.sizeOf26,
 v24:=Tryz.zeroValue26,
 t26:=Tryz.underlying3,
 a26:=Tryz.isAgg3,
 z26:=Tryz.sizeOf3,
 v26:=Tryz.zeroValue3,
 t28:=Tryz.underlying104,
 a28:=Tryz.isAgg104,
 z28:=Tryz.sizeOf104,
 v28:=Tryz.zeroValue104,
 i26:=by kernel_rfl }
def noElem (_ : Value) : Option (DataW Unit × List MemPlace):=some (.nil,[])
def intV (v : Value) : Int:=match v with
 | .int _ a => a
 | _ => 0
theorem MapAt.owns {w : World} {b : Nat} {l : List (Nat × Nat)} (h : MapAt Tryz.prog 3 w b (l.map colPr)) (hl : l.length ≤ maxLen) :
  ∃ D : DataW Unit,w.ownsMap Tryz.prog 3 noElem b l.length D ∧ (Go.intKeys D).Perm (l.map fun x => (x.1 : Int)) ∧ Maps.size D = l.length:=by
 obtain ⟨es,clock,hb,hk⟩:=h
 have hsz : es.size = l.length:=by
  have:=congrArg List.length hk.prs
  simpa [prs] using this
 have hrg : ∀ x ∈ es.toList,Go.intOf (WideElems.rg Tryz.prog 3 noElem x).1 = intV x.key:=by
  intro x hx
  obtain ⟨kl,hkl⟩:=hk.keys x hx
  obtain ⟨z,h1,h2,-⟩:=Maps.keyOf_i64 Tryz.underlying3 hkl
  rw [WideElems.rg_of (WideElems.rd_mk (born:=x.born) hkl rfl),h2,h1]
  rfl
 refine ⟨_,⟨es,clock,hb,⟨by omega,hk.st,fun x hx => ?_⟩,by omega,rfl⟩,?_,?_⟩
 ·obtain ⟨kl,hkl⟩:=hk.keys x hx
  exact ⟨_,WideElems.rd_mk (born:=x.born) hkl rfl⟩
 ·show (((es.toList.map (WideElems.rg Tryz.prog 3 noElem)).foldr DataW.insert []).map fun p => Go.intOf p.1).Perm _
  refine ((WideShapes.sorted_perm _).map _).trans ?_
  generalize WideElems.rg Tryz.prog 3 noElem = f at hrg ⊢
  rw [List.map_map]
  have e1 : es.toList.map ((fun p => Go.intOf p.1) ∘ f) = (es.toList.map (fun e => (e.key,e.val))).map (fun p => intV p.1):=by
   rw [List.map_map]
   exact List.map_congr_left fun x hx => hrg x hx
  have e2 : es.toList.map (fun e => (e.key,e.val)) = l.map colPr:=hk.prs
  rw [e1,e2,List.map_map]
  exact .refl _
 ·show ((es.toList.map (WideElems.rg Tryz.prog 3 noElem)).foldr DataW.insert []).length = l.length
  rw [(WideShapes.sorted_perm _).length_eq,List.length_map]
  simpa using hsz
def KeysPost (B : Nat) (l : List (Nat × Nat)) (w : World) (e : Ending) (w' : World) : Prop :=
 ∃ (v : Value) (ss : List Int),e = .returned v ∧ ss.Perm (l.map fun x => (x.1 : Int)) ∧ w'.ownsRow B 3 1 v ss.length (ints ss) ∧ Below w.heap.size w w'
section
variable {w : World} {b : Nat} {l : List (Nat × Nat)}
set_option maxRecDepth 100000 in
theorem keys_any (w : World) (b : Nat) : Calls Tryz.prog 37 #[.map (some b)] w fun e w' => e = .returned (.func (.func 69) #[] #[.pointer (some ⟨w.heap.size,0,none⟩)]) ∧ w' = w.alloc (.cells #[.map (some b)] 68) :=
 (callsIn_wide (n:=5)).1 (AnyZI.keys_in keysTab Fence.wide 5 trivial rfl (some b) w)
set_option maxRecDepth 100000 in
theorem coll_any (h : MapAt Tryz.prog 3 w b (l.map colPr)) (hl : l.length ≤ 1000) :
  Calls Tryz.prog 36 #[.func (.func 69) #[] #[.pointer (some ⟨w.heap.size,0,none⟩)]] (w.alloc (.cells #[.map (some b)] 68)) (KeysPost w.heap.size l (w.alloc (.cells #[.map (some b)] 68))):=by
 obtain ⟨D,hD,hp,hs⟩:=h.owns (by unfold maxLen;omega)
 have hbl:=hD.lt
 have hseq : SeqGives Fence.wide 4 Tryz.prog 69 #[.pointer (some ⟨w.heap.size,0,none⟩)] encZ (fun ss => ss.Perm (Go.intKeys D)) (Maps.size D) (w.alloc (.cells #[.map (some b)] 68)) :=
  AnyZI.keys_gives (ρ:=keysTab_ren) { keysTab with } Fence.wide _ trivial rfl (by omega) w.heap.size b l.length D _ (by simp) (by simp) (by
   obtain ⟨es,clock,hb,Ft,hs,hD⟩:=hD
   exact ⟨es,clock,(Below.heap_alloc _ _ b hbl).trans hb,Ft,hs,hD⟩)
 have hc:=AnyZI.collect_in collInt Fence.wide 6 trivial trivial rfl (by omega) 69 #[.pointer (some ⟨w.heap.size,0,none⟩)] trivial (enters_of Tryz.func69 (by kernel_rfl) rfl) _ _ (by rw [hs];unfold maxLen;omega) (by rw [hs];omega) _ hseq
 refine ((callsIn_wide (n:=6)).1 hc).mono ?_
 rintro e w' ⟨v,ss,rfl,hS,hrow,-,hb⟩
 exact ⟨v,ss,rfl,hS.trans hp,ownsRow_base_a hrow (by simp),hb⟩
end
end Go.Proofs.YtidbcolnkcbkoaaGreat
namespace Go.Proofs.YtidbcolnkcbkoaaGreat
open Go Go.RowKit
def rowsK (rw : Nat → List Rw) (n t a : Int) (ks : List Int) : List Rw:=ks.flatMap (fun k => if matchesB k n t a = true then rw k.toNat else [])
theorem rowsK_snoc (rw : Nat → List Rw) (n t a : Int) (ks : List Int) (k : Int) : rowsK rw n t a (ks ++ [k]) = rowsK rw n t a ks ++ (if matchesB k n t a = true then rw k.toNat else []):=by
 unfold rowsK;rw [List.flatMap_append];simp
theorem rowsK_len {rw : Nat → List Rw} {n t a : Int} : ∀ {ks : List Int},(∀ k ∈ ks,(rw k.toNat).length ≤ 60) → (rowsK rw n t a ks).length ≤ 60 * ks.length
 | [],_ => by simp [rowsK]
 | k :: ks,h => by
  have ih:=rowsK_len (n:=n) (t:=t) (a:=a) (fun x hx => h x (List.mem_cons_of_mem _ hx))
  have h1:=h k (by simp)
  unfold rowsK at ih ⊢
  rw [List.flatMap_cons,List.length_append,List.length_cons,Nat.mul_add]
  have h2 : (if matchesB k n t a = true then rw k.toNat else []).length ≤ 60:=by
   split
   ·exact h1
   ·simp
  omega
section
variable {sl : Sl} {L : List Rw} {tb : List (Nat × Nat)} {rw : Nat → List Rw} {pl : List Pl}
theorem WCore.tabs (hc : WCore (· ∈ L) (tb.map (·.1)) rw pl) (hO : WOk sl L) : (∀ k ∈ tb.map (·.1),k < 256 ∧ (rw k).length ≤ 60) ∧ tb.length ≤ 256:=by
 have h1 : ∀ k ∈ tb.map (·.1),k < 256 ∧ (rw k).length ≤ 60:=by
  intro k hk
  have hl:=hc.len (fun _ h => h) hk
  have:=hO.len
  refine ⟨?_,by omega⟩
  have hne:=hc.ne k hk
  cases hr : rw k with
  | nil => exact absurd hr hne
  | cons x r =>
   obtain ⟨h2,h3,-⟩:=hc.row k hk 0 x (by rw [hr];rfl)
   exact (beastZ_good (hO.be x h2) h3).2
 refine ⟨h1,?_⟩
 have h2 : (tb.map (·.1)).length ≤ (List.range 256).length:=List.Nodup.length_le_of_subset hc.tn (fun k hk => List.mem_range.2 (h1 k hk).1)
 simpa using h2
theorem rowsK_mem (hc : WCore (· ∈ L) (tb.map (·.1)) rw pl) {ks : List Int} (hp : ks.Perm (tb.map fun x => (x.1 : Int))) (n t a : Int) (y : Rw) : y ∈ rowsK rw n t a ks ↔ y ∈ rowsM L n t a:=by
 unfold rowsK rowsM
 rw [List.mem_flatMap,List.mem_filter]
 constructor
 ·rintro ⟨k,hk,hy⟩
  split at hy
  ·next hm =>
   obtain ⟨x,hx,rfl⟩:=List.mem_map.1 (hp.mem_iff.1 hk)
   rw [Int.toNat_natCast] at hy
   obtain ⟨i,hi⟩:=List.mem_iff_getElem?.1 hy
   obtain ⟨h2,h3,-⟩:=hc.row x.1 (List.mem_map.2 ⟨x,hx,rfl⟩) i y hi
   exact ⟨h2,by rw [h3];exact hm⟩
  ·simp at hy
 ·rintro ⟨hy,hm⟩
  obtain ⟨s,k,i,h1,h2,h3⟩:=hc.has y hy
  obtain ⟨hk,-⟩:=hc.pla s k i h2
  obtain ⟨-,h5,-⟩:=hc.row k hk i y h3
  obtain ⟨x,hx,rfl⟩:=List.mem_map.1 hk
  refine ⟨(x.1 : Int),hp.mem_iff.2 (List.mem_map.2 ⟨x,hx,rfl⟩),?_⟩
  rw [h5] at hm
  rw [if_pos hm,Int.toNat_natCast]
  exact List.mem_of_getElem? h3
theorem rowsK_nodup (hc : WCore (· ∈ L) (tb.map (·.1)) rw pl) {ks : List Int} (hp : ks.Perm (tb.map fun x => (x.1 : Int))) (n t a : Int) : (rowsK rw n t a ks).Nodup:=by
 have hin : ∀ k ∈ ks,∃ x ∈ tb,k = (x.1 : Int):=fun k hk => by
  obtain ⟨x,hx,e⟩:=List.mem_map.1 (hp.mem_iff.1 hk)
  exact ⟨x,hx,e.symm⟩
 have hkn : ks.Nodup:=by
  refine List.Nodup.perm ?_ hp.symm
  have:=hc.tn
  unfold List.Nodup at this ⊢
  rw [List.pairwise_map] at this ⊢
  exact this.imp (fun h e => h (by omega))
 unfold rowsK List.Nodup
 rw [List.pairwise_flatMap]
 refine ⟨fun k hk => ?_,?_⟩
 ·split
  ·obtain ⟨x,hx,rfl⟩:=hin k hk
   rw [Int.toNat_natCast]
   refine List.pairwise_iff_getElem.2 fun i j hi hj hij e => ?_
   have hkt : x.1 ∈ tb.map (·.1):=List.mem_map.2 ⟨x,hx,rfl⟩
   obtain ⟨-,-,s,q1,q2⟩:=hc.row x.1 hkt i _ (List.getElem?_eq_getElem hi)
   obtain ⟨-,-,s',q3,q4⟩:=hc.row x.1 hkt j _ (List.getElem?_eq_getElem hj)
   rw [e] at q1
   have : s = s':=by omega
   subst this
   have:=key_one hc.pn q2 q4
   simp only [Prod.mk.injEq] at this
   omega
  ·exact .nil
 ·refine List.Pairwise.imp_of_mem ?_ hkn
  intro k1 k2 hk1 hk2 hne x hx y hy e
  subst e
  split at hx
  ·split at hy
   ·obtain ⟨x1,hx1,rfl⟩:=hin k1 hk1
    obtain ⟨x2,hx2,rfl⟩:=hin k2 hk2
    rw [Int.toNat_natCast] at hx hy
    obtain ⟨i,hi⟩:=List.mem_iff_getElem?.1 hx
    obtain ⟨j,hj⟩:=List.mem_iff_getElem?.1 hy
    obtain ⟨-,h3,-⟩:=hc.row x1.1 (List.mem_map.2 ⟨x1,hx1,rfl⟩) i _ hi
    obtain ⟨-,h4,-⟩:=hc.row x2.1 (List.mem_map.2 ⟨x2,hx2,rfl⟩) j _ hj
    exact hne (by omega)
   ·simp at hy
  ·simp at hx
end
end Go.Proofs.YtidbcolnkcbkoaaGreat
namespace Go.Proofs.YtidbcolnkcbkoaaGreat
open Go Go.RowKit Go.Shelf Go.Sort
attribute [local go_sem] AllFrom.cons_eq AllFrom.nil_eq putF_nil putF_cons wantedL_none wantedL_some OpGoalT OpGoalV OpGoalQ OpGoalA OpGoalK YieldsR preF_nil preF_cons
section
variable {sl : Sl} {L : List Rw} {tb : List (Nat × Nat)} {rw : Nat → List Rw} {pl : List Pl}
theorem ltRow_eq (x y : Rw) : ltOf (fun x y : Rw => Lib.compareInt x.1.1 y.1.1) x y = decide (x.1.1 < y.1.1):=by
 unfold ltOf Lib.compareInt
 by_cases h1 : x.1.1 < y.1.1
 ·simp [h1]
 ·by_cases h2 : y.1.1 < x.1.1 <;> simp [h1,h2]
theorem swoRow : SWO (ltOf fun x y : Rw => Lib.compareInt x.1.1 y.1.1) where
 irrefl x:=by rw [ltRow_eq];simp
 trans x y z h1 h2:=by rw [ltRow_eq] at *;simp at *;omega
 ntrans x y z h1 h2:=by rw [ltRow_eq] at *;simp at *;omega
theorem rows_sorted (hc : WCore (· ∈ L) (tb.map (·.1)) rw pl) (hO : WOk sl L) {ks : List Int} (hp : ks.Perm (tb.map fun x => (x.1 : Int))) (n t a : Int) {l' : List Rw} (h1 : l'.Perm (rowsK rw n t a ks)) (h2 : l'.Pairwise (fun x y => ltOf (fun x y : Rw => Lib.compareInt x.1.1 y.1.1) y x = false)) : l' = rowsM L n t a:=by
 have hs : (rowsM L n t a).Pairwise (fun x y => x.1.1 < y.1.1):=List.Pairwise.sublist List.filter_sublist hO.sorted
 have hn : (rowsM L n t a).Nodup:=hs.imp (fun h e => by rw [e] at h;omega)
 have h3 : l'.Perm (rowsM L n t a):=h1.trans ((List.perm_ext_iff_of_nodup (rowsK_nodup hc hp n t a) hn).2 (rowsK_mem hc hp n t a))
 refine List.Perm.eq_of_pairwise (le:=fun x y : Rw => x.1.1 ≤ y.1.1) (fun x y hx hy e1 e2 => ?_) (h2.imp (fun h => by rw [ltRow_eq] at h;simpa using h)) (hs.imp (fun h => by omega)) h3
 have hx2:=(List.mem_filter.1 (h3.mem_iff.1 hx)).1
 have hy2:=(List.mem_filter.1 hy).1
 exact hO.one hx2 hy2 (by omega)
end
set_option maxRecDepth 20000 in
theorem compare_any (x y : Int) (w : World) : Calls Tryz.prog 42 #[.int .i64 x,.int .i64 y] w fun e w' => e = .returned (.int .i64 (Lib.compareInt x y)) ∧ w = w':=by
 unfold Lib.compareInt
 by_cases h1 : x < y
 ·rw [if_pos h1]
  go_enter Tryz.func42,Tryz.ntmps42
  go_wp2
  go_ret
  exact ⟨rfl,rfl⟩
 ·rw [if_neg h1]
  by_cases h2 : y < x
  ·rw [if_pos h2]
   go_enter Tryz.func42,Tryz.ntmps42
   go_wp2
   go_ret
   exact ⟨rfl,rfl⟩
  ·rw [if_neg h2]
   go_enter Tryz.func42,Tryz.ntmps42
   go_wp2
   go_ret
   exact ⟨rfl,rfl⟩
set_option maxRecDepth 20000 in
set_option maxHeartbeats 2000000 in
theorem cmpRow_any (x y : Rw) (W : World) : Calls Tryz.prog 41 #[.agg (rwC x).toArray,.agg (rwC y).toArray] W fun e w' => e = .returned (.int .i64 (Lib.compareInt x.1.1 y.1.1)) ∧ ∃ q os,w' = grow (W.drewN q) os:=by
 obtain ⟨⟨s1,g1⟩,K1,a0,a1,a2,a3,a4,a5,a6,a7⟩:=x
 obtain ⟨⟨s2,g2⟩,K2,c0,c1,c2,c3,c4,c5,c6,c7⟩:=y
 have hcon:=compare_any s1 s2
 simp only
 generalize Lib.compareInt s1 s2 = r at hcon ⊢
 show Calls Tryz.prog 41 #[.agg #[.int .i64 s1,.int .i64 g1,.int .i64 K1,.int .i64 a0,.int .i64 a1,.int .i64 a2,.int .i64 a3,.int .i64 a4,.int .i64 a5,.int .i64 a6,.int .i64 a7],.agg #[.int .i64 s2,.int .i64 g2,.int .i64 K2,.int .i64 c0,.int .i64 c1,.int .i64 c2,.int .i64 c3,.int .i64 c4,.int .i64 c5,.int .i64 c6,.int .i64 c7]] W _
 have HC:=Lib.hid hcon
 clear hcon
 go_enter Tryz.func41,Tryz.ntmps41
 go_wp2_with fail
 refine (HC.out _).mono ?_
 rintro e w' ⟨rfl,rfl⟩
 go_wp2
 go_ret
 exact ⟨rfl,0,_,by rw [alloc_eq_grow,alloc_eq_grow,grow_grow];rfl⟩
def sortRowL_ren : Go.Shelf.Ren:=⟨fun | 6 => 40 | 15 => 72 | 14 => 71 | 28 => 103 | 29 => 104 | 20 => 95 | 21 => 96 | 22 => 97 | 23 => 98 | 24 => 99 | 25 => 100 | 26 => 101 | 27 => 102 | 46 => 127 | 47 => 128 | 48 => 129 | 49 => 130 | 50 => 131 | 57 => 152 | n => n,fun | 22 => 27 | 24 => 63 | 25 => 110 | 3 => 3 | 39 => 159 | 0 => 0 | 53 => 191 | 55 => 193 | 4 => 4 | 46 => 184 | 45 => 183 | 50 => 188 | 5 => 5 | 9 => 9 | 66 => 215 | 70 => 219 | 76 => 235 | 77 => 236 | n => n,fun | n => n⟩
theorem sortRowL : Go.Proofs.SlLaysF0.n6 Tryz.prog sortRowL_ren:={
 mixed:=by kernel_rfl,
 f6:=⟨Tryz.f40.name,by decide,Tryz.func40.trans (congrArg some (by kernel_rfl))⟩,
 f14:=⟨Tryz.f71.name,by decide,Tryz.func71.trans (congrArg some (by kernel_rfl))⟩,
 f15:=Tryz.func72.trans (congrArg some (by kernel_rfl)),
 f20:=⟨Tryz.f95.name,by decide,Tryz.func95.trans (congrArg some (by kernel_rfl))⟩,
 f21:=⟨Tryz.f96.name,by decide,Tryz.func96.trans (congrArg some (by kernel_rfl))⟩,
 f22:=⟨Tryz.f97.name,by decide,Tryz.func97.trans (congrArg some (by kernel_rfl))⟩,
 f23:=⟨Tryz.f98.name,by decide,Tryz.func98.trans (congrArg some (by kernel_rfl))⟩,
 f24:=⟨Tryz.f99.name,by decide,Tryz.func99.trans (congrArg some (by kernel_rfl))⟩,
 f25:=⟨Tryz.f100.name,by decide,Tryz.func100.trans (congrArg some (by kernel_rfl))⟩,
 f26:=⟨Tryz.f101.name,by decide,Tryz.func101.trans (congrArg some (by kernel_rfl))⟩,
 f27:=⟨Tryz.f102.name,by decide,Tryz.func102.trans (congrArg some (by kernel_rfl))⟩,
 f28:=Tryz.func103.trans (congrArg some (by kernel_rfl)),
 f29:=Tryz.func104.trans (congrArg some (by kernel_rfl)),
 f46:=⟨Tryz.f127.name,by decide,Tryz.func127.trans (congrArg some (by kernel_rfl))⟩,
 f47:=Tryz.func128.trans (congrArg some (by kernel_rfl)),
 f48:=Tryz.func129.trans (congrArg some (by kernel_rfl)),
 f49:=⟨Tryz.f130.name,by decide,Tryz.func130.trans (congrArg some (by kernel_rfl))⟩,
 f50:=⟨Tryz.f131.name,by decide,Tryz.func131.trans (congrArg some (by kernel_rfl))⟩,
 f57:=⟨Tryz.f152.name,by decide,Tryz.func152.trans (congrArg some (by kernel_rfl))⟩,
 t0:=Tryz.underlying0,
 a0:=Tryz.isAgg0,
 z0:=Tryz.sizeOf0,
 v0:=Tryz.zeroValue0,
 t3:=Tryz.underlying3,
 a3:=Tryz.isAgg3,
 z3:=Tryz.sizeOf3,
 v3:=Tryz.zeroValue3,
 t4:=Tryz.underlying4,
 a4:=Tryz.isAgg4,
 z4:=Tryz.sizeOf4,
 v4:=Tryz.zeroValue4,
 t5:=Tryz.underlying5,
 a5:=Tryz.isAgg5,
 z5:=Tryz.sizeOf5,
 v5:=Tryz.zeroValue5,
 t9:=Tryz.underlying9,
 a9:=Tryz.isAgg9,
 z9:=Tryz.sizeOf9,
 v9:=Tryz.zeroValue9,
 t22:=Tryz.underlying27,
 a22:=Tryz.isAgg27,
 z22:=Tryz.sizeOf27,
 v22:=Tryz.zeroValue27,
 t25:=Tryz.underlying110,
 a25:=Tryz.isAgg110,
 z25:=Tryz.sizeOf110,
 v25:=Tryz.zeroValue110,
 t39:=Tryz.underlying159,
 a39:=Tryz.isAgg159,
 z39:=Tryz.sizeOf159,
 v39:=Tryz.zeroValue159,
 t45:=Tryz.underlying183,
 a45:=Tryz.isAgg183,
 z45:=Tryz.sizeOf183,
 v45:=Tryz.zeroValue183,
 t46:=Tryz.underlying184,
 a46:=Tryz.isAgg184,
 z46:=Tryz.sizeOf184,
 v46:=Tryz.zeroValue184,
 t50:=Tryz.underlying188,
 a50:=Tryz.isAgg188,
 z50:=Tryz.sizeOf188,
 v50:=Tryz.zeroValue188,
 t53:=Tryz.underlying191,
 a53:=Tryz.isAgg191,
 z53:=Tryz.sizeOf191,
 v53:=Tryz.zeroValue191,
 t55:=Tryz.underlying193,
 a55:=Tryz.isAgg193,
 z55:=Tryz.sizeOf193,
 v55:=Tryz.zeroValue193,
 t66:=Tryz.underlying215,
 a66:=Tryz.isAgg215,
 z66:=Tryz.sizeOf215,
 v66:=Tryz.zeroValue215,
 t70:=Tryz.underlying219,
 a70:=Tryz.isAgg219,
 z70:=Tryz.sizeOf219,
 v70:=Tryz.zeroValue219,
 t76:=Tryz.underlying235,
 a76:=Tryz.isAgg235,
 z76:=Tryz.sizeOf235,
 v76:=Tryz.zeroValue235,
 t77:=Tryz.underlying236,
 a77:=Tryz.isAgg236,
 z77:=Tryz.sizeOf236,
 v77:=Tryz.zeroValue236 }
theorem sortRows_any {w : World} {B : Nat} {v : Value} {l : List Rw} (hown : w.ownsRow B 63 11 v l.length (l.flatMap rwC)) (hl : l.length < 1200000000000) :
  Calls Tryz.prog 40 #[v,.func (.func 41) #[] #[]] w (SortedRow rwC 11 B 63 (ltOf fun x y : Rw => Lib.compareInt x.1.1 y.1.1) l v w) :=
 sort_own sortRowL Tryz.isAgg63 Tryz.sizeOf63 rwC_len rwC_one _ swoRow 41 (enters_of Tryz.func41 (by kernel_rfl) rfl) cmpRow_any hown (by omega)
end Go.Proofs.YtidbcolnkcbkoaaGreat
namespace Go.Proofs.YtidbcolnkcbkoaaGreat
open Go Go.RowKit
attribute [local go_sem] AllFrom.cons_eq AllFrom.nil_eq putF_nil putF_cons wantedL_none wantedL_some OpGoalT OpGoalV OpGoalQ OpGoalA OpGoalK YieldsR preF_nil preF_cons
set_option maxRecDepth 20000 in
set_option maxHeartbeats 4000000 in
theorem wrows_any {w : World} {p : Nat} {sl : Sl} {L : List Rw} {F : List Nat} (h : RepW w p sl L F) (n t a : Int) :
  Calls Tryz.prog 14 #[.pointer (some ⟨p,0,none⟩),.agg #[.int .i64 n,.int .i64 t,.int .i64 a]] w (RowsPost w.heap.size L n t a w):=by
 obtain ⟨w0,hw0,hb0,hz0,hs0⟩:=box1 w (.cells #[.int .i64 n,.int .i64 t,.int .i64 a] 58)
 have H1:=Lib.hid (checkQuery_any n t a)
 have h0:=h.below hb0
 obtain ⟨r0,r1,r2,rl⟩:=cells3 hz0
 unfold RowsPost
 cases hz : qcheck n t a == 0 with
 | false =>
  have he : qcheck n t a ≠ 0:=by simpa using hz
  rw [if_neg he]
  have hq : (qcheck n t a != 0) = true:=by simpa using he
  generalize qcheck n t a = z at *
  obtain ⟨Hb0,Hs0⟩:=hid2 hb0 hs0
  clear hb0 hs0
  clear hz0 h0 he h
  go_enter Tryz.func14,Tryz.ntmps14
  go_wp2_with fail
  clear hw0
  refine (H1.out _).mono ?_
  rintro e w1 ⟨rfl,hb1⟩
  have hB:=Hb0.out.trans (hb1.mono Hb0.out.size)
  have HB:=Lib.hid hB
  clear hB
  clear hb1
  go_wp2
  go_ret2
  exact ⟨_,rfl,⟨rfl,.inl ⟨rfl,rfl⟩⟩,HB.out⟩
 | true =>
  have he : qcheck n t a = 0:=by simpa using hz
  rw [if_pos he]
  simp only [he] at H1
  rw [he]
  obtain ⟨ps,mt,mp,tb,rw,pl,FS,Fs,c,hW,hC,hO,-⟩:=h0
  obtain ⟨Hb0,Hs0,HW0,HC,HO,Hz0⟩:=hid6 hb0 hs0 hW hC hO hz0
  clear hb0 hs0 hW hC hO hz0
  clear h hz he
  go_enter Tryz.func14,Tryz.ntmps14
  go_wp2_with fail
  clear hw0
  refine (H1.out _).mono ?_
  rintro e w1 ⟨rfl,hb1⟩
  have hB:=Hb0.out.trans (hb1.mono Hb0.out.size)
  have hz1:=(Mod.ofBelow hb1).keep Hz0.out (by simp)
  have hW1:=HW0.out.below hb1
  have e0:=blk_cell hW1.blk 1
  simp only [eA,eZ,eS] at e0
  have hpl:=blk_lt hW1.blk
  have H2:=Lib.hid (coll_any hW1.tm (by have:=(HC.out.tabs HO.out).2;omega))
  obtain ⟨HB,Hz1,HW1⟩:=hid3 hB hz1 hW1
  clear hB hz1 hW1
  clear hb1 r0 r1 r2 rl
  go_wp2_with fail
  refine (keys_any _ _).mono ?_
  rintro e w2 ⟨rfl,rfl⟩
  go_wp2_with fail
  refine H2.out.mono ?_
  rintro e w3 ⟨vk,ss,rfl,hp,hks,hb3⟩
  have hb13 : Below w1.heap.size w1 w3:=((Below.refl w1.heap.size w1).alloc (Nat.le_refl _) _).trans (hb3.mono (by simp))
  obtain ⟨Ak,ck,hvk,hck,hck2⟩:=row_slice hks
  subst hvk
  have hlk : ss.length ≤ 256:=by
   have h1:=hp.length_eq
   rw [List.length_map] at h1
   have:=(HC.out.tabs HO.out).2
   omega
  have hz3:=(Mod.ofBelow hb13).keep Hz1.out (by simp)
  have hW3:=HW1.out.below hb13
  have hB3:=HB.out.trans (hb13.mono HB.out.size)
  obtain ⟨HP,HKS,Hz3,HW3,HB3⟩:=hid5 hp hks hz3 hW3 hB3
  clear hp hks hz3 hW3 hB3
  clear hb13 hb3 e0 hpl hck hck2
  go_wp2_with fail
  go_loopw [7,26] (fun v i wr => ∃ m : Nat,m ≤ ss.length ∧ i = .int .i64 m ∧ wr.ownsRow w3.heap.size 63 11 v (rowsK rw n t a (ss.take m)).length ((rowsK rw n t a (ss.take m)).flatMap rwC) ∧ Below w3.heap.size w3 wr) (fun _ i _ => ss.length - (Go.RowKit.intOf i).toNat)
  case atStart => exact ⟨0,by omega,rfl,⟨rfl,.inl ⟨rfl,rfl⟩⟩,Below.refl _ _⟩
  case round =>
   obtain ⟨m,hm,rfl,hown,hbel⟩:=hrel
   have hzr:=(Mod.ofBelow hbel).keep Hz3.out (by simp)
   have hWr:=HW3.out.below hbel
   have hBr:=HB3.out.trans (hbel.mono HB3.out.size)
   by_cases hlt : m < ss.length
   ·have hkr:=row_mod HKS.out (Mod.ofBelow hbel) (by simp)
    obtain ⟨gk,ck2,-,hv,-,-,-⟩:=row_some hkr (by omega)
    cases hv
    have hcell:=row_cell hkr (i:=m) (u:=.int .i64 ss[m]) (by unfold ints;rw [List.getElem?_map,List.getElem?_eq_getElem hlt];rfl)
    have hgk:=row_lt hkr gk rfl
    obtain ⟨⟨kn,b⟩,hx,hxe⟩:=List.mem_map.1 (HP.out.mem_iff.1 (List.getElem_mem hlt))
    simp only at hxe
    rw [← hxe] at hcell
    have hkt : kn ∈ tb.map (·.1):=List.mem_map.2 ⟨_,hx,rfl⟩
    obtain ⟨hkn,hl60⟩:=(HC.out.tabs HO.out).1 kn hkt
    have hsn : rowsK rw n t a (ss.take (m + 1)) = rowsK rw n t a (ss.take m) ++ (if matchesB (kn : Int) n t a = true then rw kn else []):=by
     rw [take_succ_get ss m hlt,rowsK_snoc,← hxe,Int.toNat_natCast]
    have hlen : (rowsK rw n t a (ss.take m)).length ≤ 60 * m:=by
     have h1:=rowsK_len (rw:=rw) (n:=n) (t:=t) (a:=a) (ks:=ss.take m) (fun k hk => by
      obtain ⟨x,hx,rfl⟩:=List.mem_map.1 (HP.out.mem_iff.1 (List.mem_of_mem_take hk))
      rw [Int.toNat_natCast]
      exact ((HC.out.tabs HO.out).1 x.1 (List.mem_map.2 ⟨x,hx,rfl⟩)).2)
     rw [List.length_take,Nat.min_eq_left hm] at h1
     exact h1
    generalize rowsK rw n t a (ss.take m) = M at *
    have hmi : (m : Int) < (ss.length : Int):=by omega
    have H8:=Lib.hid (matches_any (kn : Int) n t a)
    obtain ⟨r0,r1,r2,rl⟩:=cells3 hzr
    generalize hmz : matchesB (kn : Int) n t a = z at *
    obtain ⟨HWr,HBr,Hkr,Hown,Hbel,Hsn,Hlen,Hxe,Hx,Hkt,Hkn,Hl60,Hzr,Hmz⟩:=hid14 hWr hBr hkr hown hbel hsn hlen hxe hx hkt hkn hl60 hzr hmz
    clear hWr hBr hkr hown hbel hsn hlen hxe hx hkt hkn hl60 hzr hmz
    cases z with
    | false =>
     go_wp2_with fail
     refine (H8.out _).mono ?_
     rintro e w4 ⟨rfl,hb4⟩
     have ho4:=row_mod Hown.out (Mod.ofBelow hb4) (by simp)
     have hB4:=Hbel.out.trans (hb4.mono Hbel.out.size)
     have hsn:=Hsn.out
     rw [if_neg (by simp),List.append_nil] at hsn
     obtain ⟨Ho4,HB4,Hsn2⟩:=hid3 ho4 hB4 hsn
     clear ho4 hB4 hsn
     clear hb4
     go_wp2
     go_roundw
     case rel => exact ⟨m + 1,by omega,by go_num,by rw [Hsn2.out];exact Ho4.out,HB4.out⟩
     case measure => simp [Go.RowKit.intOf];omega
    | true =>
     go_wp2_with fail
     refine (H8.out _).mono ?_
     rintro e w4 ⟨rfl,hb4⟩
     have ho4:=row_mod Hown.out (Mod.ofBelow hb4) (by simp)
     have hW4:=HWr.out.below hb4
     have hB4:=Hbel.out.trans (hb4.mono Hbel.out.size)
     have e0:=blk_cell hW4.blk 1
     simp only [eA,eZ,eS] at e0
     have hpl:=blk_lt hW4.blk
     have hlk:=mi_in colPr_keys Tryz.underlying68 hW4.tm Hkn.out Hx.out false
     simp only [colPr,Bool.false_eq_true,if_false] at hlk
     have H10:=Lib.hid (rt_handles (hW4.tab _ Hx.out) (by have:=Hl60.out;simp only;omega))
     have hsn:=Hsn.out
     rw [if_pos (by simp)] at hsn
     obtain ⟨Ho4,HB4,Hsn2,HW4⟩:=hid4 ho4 hB4 hsn hW4
     clear ho4 hB4 hsn hW4
     clear hb4 r0 r1 r2 rl hcell hgk
     go_wp2_with fail
     refine H10.out.mono ?_
     rintro e w5 ⟨vh,rfl,hvh,hb5⟩
     obtain ⟨Ah,ch,hve,-,-⟩:=row_slice hvh
     subst hve
     have ho5:=row_mod Ho4.out (Mod.ofBelow hb5) (by simp)
     have hB5:=HB4.out.trans (hb5.mono HB4.out.size)
     have hl:=Hl60.out
     obtain ⟨Ho5,HB5⟩:=hid2 ho5 hB5
     clear ho5 hB5
     clear hvh hb5 e0 hpl hlk
     go_wp2_with fail
     go_loopw [7,43] (fun v j wu => ∃ u : Nat,u ≤ (rw kn).length ∧ j = .int .i64 u ∧ wu.ownsRow w3.heap.size 63 11 v (M ++ (rw kn).take u).length ((M ++ (rw kn).take u).flatMap rwC) ∧ Below w3.heap.size w3 wu) (fun _ j _ => (rw kn).length - (Go.RowKit.intOf j).toNat)
     case atStart => exact ⟨0,by omega,rfl,by simpa using Ho5.out,HB5.out⟩
     case round =>
      obtain ⟨u,hu,rfl,hou,hbu⟩:=hrel
      have hWu:=HW3.out.below hbu
      by_cases hul : u < (rw kn).length
      ·have hxu : (rw kn)[u]? = some (rw kn)[u]:=List.getElem?_eq_getElem hul
       obtain ⟨x,hxx⟩ : ∃ x,(rw kn)[u] = x:=⟨_,rfl⟩
       rw [hxx] at hxu
       obtain ⟨hxL,hxk,-⟩:=HC.out.row kn Hkt.out u x hxu
       have hgood:=(beastZ_good (HO.out.be x hxL) hxk).1
       have h13:=rt_row (hWu.tab _ Hx.out) hxu hgood (by simp only;omega)
       have hst : M ++ (rw kn).take (u + 1) = (M ++ (rw kn).take u) ++ [x]:=by
        rw [take_succ_get _ u hul,hxx,List.append_assoc]
       have hlm : (M ++ (rw kn).take u).length < 1200000000000:=by
        rw [List.length_append,List.length_take];have:=Hlen.out;omega
       generalize M ++ (rw kn).take u = M2 at *
       obtain ⟨⟨s1,g1⟩,K1,a0,a1,a2,a3,a4,a5,a6,a7⟩:=x
       simp only at hxk
       subst hxk
       have hui : (u : Int) < ((rw kn).length : Int):=by omega
       rw [show (rwC ((s1,g1),(kn : Int),a0,a1,a2,a3,a4,a5,a6,a7)).toArray = #[.int .i64 s1,.int .i64 g1,.int .i64 (kn : Int),.int .i64 a0,.int .i64 a1,.int .i64 a2,.int .i64 a3,.int .i64 a4,.int .i64 a5,.int .i64 a6,.int .i64 a7] from rfl] at h13
       obtain ⟨HWu,Hou,Hst,Hbu,Hlm,H13⟩:=hid6 hWu hou hst hbu hlm h13
       clear hWu hou hst hbu hlm h13
       clear hxu hxL hgood hxx
       go_wp2_with fail
       refine H13.out.mono ?_
       rintro e w6 ⟨rfl,hb6⟩
       obtain ⟨w7,hw7⟩ : ∃ w7,w6.alloc (.cells #[.int .i64 s1,.int .i64 g1,.int .i64 (kn : Int),.int .i64 a0,.int .i64 a1,.int .i64 a2,.int .i64 a3,.int .i64 a4,.int .i64 a5,.int .i64 a6,.int .i64 a7] 63) = w7:=⟨_,rfl⟩
       have hb7 : Below w6.heap.size w6 w7:=by rw [← hw7];exact (Below.refl _ _).alloc (Nat.le_refl _) _
       have hz7 : w7.heap[w6.heap.size]? = some (.cells #[.int .i64 s1,.int .i64 g1,.int .i64 (kn : Int),.int .i64 a0,.int .i64 a1,.int .i64 a2,.int .i64 a3,.int .i64 a4,.int .i64 a5,.int .i64 a6,.int .i64 a7] 63 (0,0)):=by rw [← hw7];exact heap_alloc_new w6 _
       have hb67:=hb6.trans (hb7.mono hb6.size)
       have hou7:=row_mod Hou.out (Mod.ofBelow hb67) (by simp)
       have hbu7:=Hbu.out.trans (hb67.mono Hbu.out.size)
       obtain ⟨x0,x1,x2,x3,x4,x5,x6,x7,x8,x9,x10,xl⟩:=cells11 hz7
       obtain ⟨Hou7,Hbu7⟩:=hid2 hou7 hbu7
       clear hou7 hbu7
       clear hb6 hb7 hz7 hb67
       go_wp2_with (at_builtin;(refine app_row rfl _ _ rfl w3.heap.size _ M2 ((s1,g1),(kn : Int),a0,a1,a2,a3,a4,a5,a6,a7) ⟨w7.heap.size,0,none⟩ 1 rfl (Hou7.out.alloc _) rfl (new_rec (by simp) rfl) Hlm.out (by have:=Hbu7.out.size;simp;omega) ?_);intro v' w8 hown8 hb8)
       go_roundw
       case rel => exact ⟨u + 1,by omega,by go_num,by rw [Hst.out];exact hown8,(Hbu7.out.alloc Hbu7.out.size _).trans hb8⟩
       case measure => simp [Go.RowKit.intOf];omega
      ·obtain rfl : u = (rw kn).length:=by omega
       rw [List.take_length] at hou
       obtain ⟨Hou,HBu⟩:=hid2 hou hbu
       clear hou hbu
       clear hWu
       go_wp2
       go_roundw
       case rel => exact ⟨m + 1,by omega,by go_num,by rw [Hsn2.out];exact Hou.out,HBu.out⟩
       case measure => simp [Go.RowKit.intOf];omega
   ·obtain rfl : m = ss.length:=by omega
    rw [List.take_length] at hown
    have hlen : (rowsK rw n t a ss).length ≤ 60 * ss.length:=rowsK_len (fun k hk => by
      obtain ⟨x,hx,rfl⟩:=List.mem_map.1 (HP.out.mem_iff.1 hk)
      rw [Int.toNat_natCast]
      exact ((HC.out.tabs HO.out).1 x.1 (List.mem_map.2 ⟨x,hx,rfl⟩)).2)
    have H17:=Lib.hid (sortRows_any hown (by omega))
    obtain ⟨HBr,Hown⟩:=hid2 hBr hown
    clear hBr hown
    clear hzr hWr hbel hlen
    go_wp2_with fail
    refine H17.out.mono ?_
    rintro e w9 ⟨rfl,l',hl1,hl2,hown9,hm9⟩
    have hl':=rows_sorted HC.out HO.out HP.out n t a hl1 hl2
    subst hl'
    have hB9 : Below w.heap.size w w9:=HBr.out.trans (hm9.toBelow (fun y hy => Nat.le_trans HB3.out.size (Hown.out.lt y (by simpa using hy)).1) HBr.out.size)
    have hown9:=row_base hown9 (B':=w.heap.size) (fun k hk => Nat.le_trans HB3.out.size (hown9.lt k hk).1)
    obtain ⟨Hown9,HB9⟩:=hid2 hown9 hB9
    clear hown9 hB9
    clear hl1 hl2 hm9
    go_wp2
    go_ret2
    exact ⟨_,rfl,Hown9.out,HB9.out⟩
end Go.Proofs.YtidbcolnkcbkoaaGreat
namespace Go.Proofs.YtidbcolnkcbkoaaGreat
open Go Go.RowKit
def RepV (z p f : Nat) (sl : Sl) (L : List Rw) (B : List Bd) (w : World) (F : List Nat) : Prop :=
 w.heap[z]? = some (.cells #[.pointer (some ⟨p,0,none⟩),.pointer (some ⟨f,0,none⟩)] 53 (0,0)) ∧
  ∃ FW FF,RepW w p sl L FW ∧ RepF w f B FF ∧ F = z :: (FW ++ FF) ∧ z ∉ FW ∧ z ∉ FF ∧ ∀ y ∈ FW,y ∉ FF
section
variable {z p f : Nat} {sl sl' : Sl} {L L' : List Rw} {B B' : List Bd} {w w' : World} {F G : List Nat}
theorem RepV.mod (h : RepV z p f sl L B w F) (hm : Mod G w w') (hd : ∀ y ∈ F,y ∉ G) : RepV z p f sl L B w' F:=by
 obtain ⟨h1,FW,FF,h2,h3,rfl,h4,h5,h6⟩:=h
 exact ⟨hm.keep h1 (hd z (by simp)),FW,FF,h2.mod hm (fun y hy => hd y (by simp [hy])),h3.mod hm (fun y hy => hd y (by simp [hy])),rfl,h4,h5,h6⟩
theorem RepV.below (h : RepV z p f sl L B w F) (hb : Below w.heap.size w w') : RepV z p f sl L B w' F:=h.mod (Mod.ofBelow hb) (by simp)
theorem RepV.lt (h : RepV z p f sl L B w F) : ∀ y ∈ F,y < w.heap.size:=by
 obtain ⟨h1,FW,FF,h2,h3,rfl,-⟩:=h
 intro y hy
 rcases List.mem_cons.1 hy with rfl | hy
 ·exact blk_lt h1
 ·rcases List.mem_append.1 hy with hy | hy
  ·exact h2.lt y hy
  ·exact h3.lt y hy
theorem own_V (z p f : Nat) (sl : Sl) (L : List Rw) (B : List Bd) : Own (RepV z p f sl L B):=⟨fun h hm hd => h.mod hm hd,fun h => h.lt⟩
theorem RepV.okW (h : RepV z p f sl L B w F) : WOk sl L:=by obtain ⟨-,FW,FF,h2,-⟩:=h;exact h2.ok
theorem RepV.okF (h : RepV z p f sl L B w F) : FamOk B:=by obtain ⟨-,FW,FF,-,h3,-⟩:=h;exact h3.ok
theorem RepV.w_ (h : RepV z p f sl L B w F) : ∃ FW,RepW w p sl L FW:=by obtain ⟨-,FW,FF,h2,-⟩:=h;exact ⟨FW,h2⟩
theorem RepV.f_ (h : RepV z p f sl L B w F) : ∃ FF,RepF w f B FF:=by obtain ⟨-,FW,FF,-,h3,-⟩:=h;exact ⟨FF,h3⟩
theorem RepV.slots (h : RepV z p f sl L B w F) : ∃ ps FS,w.cell? ⟨p,0,none⟩ = some (.pointer (some ⟨ps,0,none⟩)) ∧ p < w.heap.size ∧ RepS w ps sl FS:=by
 obtain ⟨FW,h2⟩:=h.w_
 obtain ⟨ps,mt,mp,tb,rw_,pl,FS,Fs,c,h3,-,-,-⟩:=h2
 have e:=blk_cell h3.blk 0
 simp only [eA,eZ] at e
 exact ⟨ps,FS,e,blk_lt h3.blk,h3.sl⟩
theorem RepV.cells (h : RepV z p f sl L B w F) : w.cell? ⟨z,0,none⟩ = some (.pointer (some ⟨p,0,none⟩)) ∧ w.cell? ⟨z,1,none⟩ = some (.pointer (some ⟨f,0,none⟩)) ∧ z < w.heap.size:=by
 refine ⟨?_,?_,blk_lt h.1⟩
 ·rw [blk_cell h.1];rfl
 ·rw [blk_cell h.1];rfl
def VRet (z p f : Nat) (sl : Sl) (L : List Rw) (B : List Bd) (F : List Nat) (w : World) (r : Value) (e : Ending) (w' : World) : Prop:=e = .returned r ∧ OwnPost (RepV z p f sl L B) F w w'
theorem RepV.turnW (h : RepV z p f sl L B w F) : ∃ FW,RepW w p sl L FW ∧ ∀ w' sl' L' F',RepW w' p sl' L' F' → Turns w FW F' w' → OwnPost (RepV z p f sl' L' B) F w w':=by
 have hlt:=h.lt
 obtain ⟨h1,FW,FF,h2,h3,rfl,h4,h5,h6⟩:=h
 refine ⟨FW,h2,fun w' sl' L' F' a b => ⟨z :: (F' ++ FF),⟨b.mod.keep h1 h4,F',FF,a,h3.mod b.mod (fun y hy e => h6 y e hy),rfl,?_,h5,?_⟩,b.mod.mono (by intro y hy;simp [hy]),?_⟩⟩
 ·intro e
  rcases b.new z e with e | e
  ·exact h4 e
  ·have:=hlt z (by simp);omega
 ·intro y hy e
  rcases b.new y hy with e2 | e2
  ·exact h6 y e2 e
  ·have:=hlt y (by simp [e]);omega
 ·intro y hy
  rcases List.mem_cons.1 hy with rfl | hy
  ·exact .inl (by simp)
  ·rcases List.mem_append.1 hy with hy | hy
   ·rcases b.new y hy with e2 | e2
    ·exact .inl (by simp [e2])
    ·exact .inr e2
   ·exact .inl (by simp [hy])
theorem RepV.turnF (h : RepV z p f sl L B w F) : ∃ FF,RepF w f B FF ∧ ∀ w' B' F',RepF w' f B' F' → Turns w FF F' w' → OwnPost (RepV z p f sl L B') F w w':=by
 have hlt:=h.lt
 obtain ⟨h1,FW,FF,h2,h3,rfl,h4,h5,h6⟩:=h
 refine ⟨FF,h3,fun w' B' F' a b => ⟨z :: (FW ++ F'),⟨b.mod.keep h1 h5,FW,F',h2.mod b.mod (fun y hy => h6 y hy),a,rfl,h4,?_,?_⟩,b.mod.mono (by intro y hy;simp [hy]),?_⟩⟩
 ·intro e
  rcases b.new z e with e | e
  ·exact h5 e
  ·have:=hlt z (by simp);omega
 ·intro y hy e
  rcases b.new y e with e2 | e2
  ·exact h6 y hy e2
  ·have:=hlt y (by simp [hy]);omega
 ·intro y hy
  rcases List.mem_cons.1 hy with rfl | hy
  ·exact .inl (by simp)
  ·rcases List.mem_append.1 hy with hy | hy
   ·exact .inl (by simp [hy])
   ·rcases b.new y hy with e2 | e2
    ·exact .inl (by simp [e2])
    ·exact .inr e2
theorem OwnPost.ofBelow {A : World → List Nat → Prop} (hA : Own A) {F : List Nat} {w w' : World} (h : A w F) (hb : Below w.heap.size w w') : OwnPost A F w w':=⟨F,hA.mod h (Mod.ofBelow hb) (by simp),Turns.ofBelow hb⟩
theorem OwnPost.after {A : World → List Nat → Prop} {F : List Nat} {w w' w'' : World} (hb : Below w.heap.size w w') (h : OwnPost A F w' w'') : OwnPost A F w w'':=by
 obtain ⟨F',h1,h2⟩:=h
 exact ⟨F',h1,Turns.after hb h2⟩
theorem OwnPost.mod {A : World → List Nat → Prop} {F : List Nat} {w w' : World} (h : OwnPost A F w w') : Mod F w w':=by obtain ⟨F',-,h2⟩:=h;exact h2.mod
theorem v_spawn (h : RepV z p f sl L B w F) (K a0 a1 a2 a3 a4 a5 a6 a7 : Int) :
  Calls Tryz.prog 24 #[.pointer (some ⟨p,0,none⟩),.agg #[.int .i64 K,.int .i64 a0,.int .i64 a1,.int .i64 a2,.int .i64 a3,.int .i64 a4,.int .i64 a5,.int .i64 a6,.int .i64 a7]] w
   (VRet z p f (spawnS sl (K,a0,a1,a2,a3,a4,a5,a6,a7)) (spawnL sl L (K,a0,a1,a2,a3,a4,a5,a6,a7)) B F w (.tuple #[.agg #[.int .i64 (spawnH sl (K,a0,a1,a2,a3,a4,a5,a6,a7)).1,.int .i64 (spawnH sl (K,a0,a1,a2,a3,a4,a5,a6,a7)).2],.int .i64 (spawnE sl (K,a0,a1,a2,a3,a4,a5,a6,a7))])):=by
 obtain ⟨FW,h1,h2⟩:=h.turnW
 exact (spawn_any h1 K a0 a1 a2 a3 a4 a5 a6 a7).mono fun e w' ⟨he,F',a,b⟩ => ⟨he,h2 _ _ _ _ a b⟩
theorem v_kill (h : RepV z p f sl L B w F) (s g : Int) :
  Calls Tryz.prog 54 #[.pointer (some ⟨p,0,none⟩),.agg #[.int .i64 s,.int .i64 g]] w (VRet z p f (freeL sl s g) (killL L (s,g)) B F w (.int .i64 (killE L (s,g)))):=by
 obtain ⟨FW,h1,h2⟩:=h.turnW
 exact (wkill_any h1 s g).mono fun e w' ⟨he,F',a,b⟩ => ⟨he,h2 _ _ _ _ a b⟩
theorem v_put (h : RepV z p f sl L B w F) (s g k n : Int) :
  Calls Tryz.prog 26 #[.pointer (some ⟨p,0,none⟩),.agg #[.int .i64 s,.int .i64 g],.int .i64 k,.int .i64 n] w (VRet z p f sl (putW L (s,g) k n) B F w (.int .i64 (putE L (s,g) k n))):=by
 obtain ⟨FW,h1,h2⟩:=h.turnW
 exact (wput_any h1 s g k n).mono fun e w' ⟨he,F',a,b⟩ => ⟨he,h2 _ _ _ _ a b⟩
theorem v_drop (h : RepV z p f sl L B w F) (s g k : Int) :
  Calls Tryz.prog 27 #[.pointer (some ⟨p,0,none⟩),.agg #[.int .i64 s,.int .i64 g],.int .i64 k] w (VRet z p f sl (dropL L (s,g) k) B F w (.int .i64 (dropE L (s,g) k))):=by
 obtain ⟨FW,h1,h2⟩:=h.turnW
 exact (wdrop_any h1 s g k).mono fun e w' ⟨he,F',a,b⟩ => ⟨he,h2 _ _ _ _ a b⟩
theorem v_adopt (h : RepV z p f sl L B w F) (s g t u : Int) (hc : HdR (s,g)) (hp : HdR (t,u)) :
  Calls Tryz.prog 29 #[.pointer (some ⟨f,0,none⟩),.agg #[.int .i64 s,.int .i64 g],.agg #[.int .i64 t,.int .i64 u]] w (VRet z p f sl L (adoB B (s,g) (t,u)) F w (.int .i64 (adoE B (s,g) (t,u)))):=by
 obtain ⟨FF,h1,h2⟩:=h.turnF
 exact (adopt_any h1 s g t u hc hp).mono fun e w' ⟨he,a,b⟩ => ⟨he,h2 _ _ _ a ⟨b,fun _ h => .inl h⟩⟩
theorem v_loosen (h : RepV z p f sl L B w F) (s g : Int) (hc : HdR (s,g)) :
  Calls Tryz.prog 30 #[.pointer (some ⟨f,0,none⟩),.agg #[.int .i64 s,.int .i64 g]] w (VRet z p f sl L (outB B (s,g)) F w (.int .i64 (looE (parB B (s,g))))):=by
 obtain ⟨FF,h1,h2⟩:=h.turnF
 exact (loosen_any h1 s g hc).mono fun e w' ⟨he,a,b⟩ => ⟨he,h2 _ _ _ a ⟨b,fun _ h => .inl h⟩⟩
theorem v_gone (h : RepV z p f sl L B w F) (s g : Int) :
  Calls Tryz.prog 55 #[.pointer (some ⟨f,0,none⟩),.agg #[.int .i64 s,.int .i64 g]] w (VRet z p f sl L (goneB B (s,g)) F w (.tuple #[])):=by
 obtain ⟨FF,h1,h2⟩:=h.turnF
 exact (gone_any h1 s g).mono fun e w' ⟨he,a,b⟩ => ⟨he,h2 _ _ _ a ⟨b,fun _ h => .inl h⟩⟩
theorem v_under (h : RepV z p f sl L B w F) (hl : B.length ≤ 60) (s g : Int) :
  Calls Tryz.prog 52 #[.pointer (some ⟨f,0,none⟩),.agg #[.int .i64 s,.int .i64 g]] w (MadeRecs 43 2 handleC (underB B (s,g)) w):=by
 obtain ⟨FF,h1⟩:=h.f_
 exact funder_any (by omega) (lowN B) s g w (lowN_spec h.okF.ac _) h1
end
section
variable {q : Nat} {sl sl' : Sl} {L L' : List Rw} {B B' : List Bd} {w w' : World} {F G : List Nat}
end
def revK {α : Type} (l : List α) (k : Nat) : List α:=l.mapIdx fun i x => if i < k ∨ l.length - k ≤ i then l.getD (l.length - 1 - i) x else x
theorem revK_length {α : Type} (l : List α) (k : Nat) : (revK l k).length = l.length:=by simp [revK]
theorem revK_zero {α : Type} (l : List α) : revK l 0 = l:=by
 unfold revK
 apply List.ext_getElem (by simp)
 intro i h1 h2
 simp only [List.getElem_mapIdx]
 rw [if_neg (by simp at h1 ⊢;omega)]
theorem revK_get {α : Type} (l : List α) (k i : Nat) (h : i < l.length) : (revK l k)[i]'(by rw [revK_length];exact h) = if i < k ∨ l.length - k ≤ i then l[l.length - 1 - i] else l[i]:=by
 unfold revK
 simp only [List.getElem_mapIdx]
 split
 ·rw [List.getD_eq_getElem?_getD,List.getElem?_eq_getElem (by omega)];rfl
 ·rfl
theorem revK_end {α : Type} (l : List α) (k : Nat) (h : l.length ≤ 2 * k + 1) (hk : k ≤ l.length) : revK l k = l.reverse:=by
 apply List.ext_getElem (by rw [revK_length,List.length_reverse])
 intro i h1 h2
 rw [revK_length] at h1
 rw [revK_get l k i h1,List.getElem_reverse]
 split
 ·rfl
 ·congr 1;omega
theorem revK_step {α : Type} (l : List α) (k : Nat) (h : 2 * k + 1 < l.length) : ((revK l k).set k (l[l.length - 1 - k])).set (l.length - 1 - k) l[k] = revK l (k + 1):=by
 apply List.ext_getElem (by simp [revK_length])
 intro i h1 h2
 rw [revK_length] at h2
 rw [revK_get l (k + 1) i h2]
 by_cases e : i = l.length - 1 - k
 ·subst e
  rw [List.getElem_set_self,if_pos (by omega)]
  congr 1;omega
 ·rw [List.getElem_set_ne (Ne.symm e)]
  by_cases e2 : i = k
  ·subst e2
   rw [List.getElem_set_self,if_pos (by omega)]
  ·rw [List.getElem_set_ne (Ne.symm e2),revK_get l k i h2]
   by_cases h3 : i < k ∨ l.length - k ≤ i
   ·rw [if_pos h3,if_pos (by omega)]
   ·rw [if_neg h3,if_neg (by omega)]
theorem revK_at {α : Type} (l : List α) (k m : Nat) (h : k + m + 1 = l.length) (hkm : k < m) : ((revK l k).set k (l[m])).set m (l[k]) = revK l (k + 1):=by
 have:=revK_step l k (by omega)
 have e : l.length - 1 - k = m:=by omega
 simpa only [e] using this
attribute [local go_sem] AllFrom.cons_eq AllFrom.nil_eq putF_nil putF_cons wantedL_none wantedL_some OpGoalQ YieldsR preF_nil preF_cons
end Go.Proofs.YtidbcolnkcbkoaaGreat
