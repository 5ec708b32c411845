import Derived.Test.YtfdillpofciicaaGreatDoorTextPrintsJ21
/- A part of the proof that TextPrints returns true. -/
namespace Go.Proofs.YtfdillpofciicaaGreatDoor
open Go.RowKit
attribute [local go_sem] AllFrom.cons_eq AllFrom.nil_eq putF_nil putF_cons wantedL_none wantedL_some OpGoalT OpGoalS OpGoalP YieldsR preF_nil preF_cons
set_option maxHeartbeats 1000000 in
theorem indexSlot_any (v : Value) (l : Sl) (s : Int) (t : Bool) (w : World) (hrow : w.ownsRow 0 166 2 v l.length (l.flatMap slotC)) (hl : l.length ≤ 60) :
  Calls Tryz.prog 194 #[v,.agg #[.int .i64 s,.bool t]] w fun e w' => e = .returned (.int .i64 (firstI (eqB (s,t)) l)) ∧ Below w.heap.size w w':=by
 obtain ⟨A,cap,rfl,hc1,hc2⟩:=row_slice hrow
 clear hc2
 go_enter Tryz.func194,Tryz.ntmps194
 go_wp2
 go_loopw [8] (fun i wr => ∃ k : Nat,k ≤ l.length ∧ i = .int .i64 k ∧ (∀ j (h : j < k) (h' : j < l.length),eqB (s,t) l[j] = false) ∧ Below (w.heap.size + 1) (w.alloc (.cells #[.int .i64 s,.bool t] 166)) wr) (fun i _ => l.length - (Go.RowKit.intOf i).toNat)
 case atStart => exact ⟨0,by omega,rfl,fun j h => by omega,Below.refl _ _⟩
 case round =>
  obtain ⟨k,hk,rfl,hno,hbel⟩:=hrel
  have hsz:=hbel.size
  simp only [World.size_alloc] at hsz
  have hsz2 : w.heap.size < wr.heap.size:=hsz
  have hb0 : Below w.heap.size w wr:=((Below.refl w.heap.size w).alloc (Nat.le_refl _) _).trans (hbel.mono (by omega))
  have d0 : wr.cell? ⟨w.heap.size,0,none⟩ = some (.int .i64 s):=(hbel.cell (p:=⟨w.heap.size,0,none⟩) (by simp)).trans (by simp)
  have d1 : wr.cell? ⟨w.heap.size,1,none⟩ = some (.bool t):=(hbel.cell (p:=⟨w.heap.size,1,none⟩) (by simp)).trans (by simp)
  by_cases hlt : k < l.length
  ·obtain ⟨g0,cap',he,hcell⟩:=row_rec slotC_len hrow hlt
   cases he
   have hgl:=row_lt hrow g0 rfl
   have c0:=(hb0.cell (p:=⟨g0,k * 2,none⟩) hgl).trans (hcell 0 _ rfl)
   have c1:=(hb0.cell (p:=⟨g0,k * 2 + 1,none⟩) hgl).trans (hcell 1 _ rfl)
   have hgl2 : g0 < wr.heap.size:=by omega
   have hin : (k : Int) < (l.length : Int):=by omega
   have hyes : eqB (s,t) l[k] = true → firstI (eqB (s,t)) l = k:=fun h => firstI_some (fi_some hlt h fun j hj => hno j hj (by omega))
   have hno2 : eqB (s,t) l[k] = false → ∀ j (h : j < k + 1) (h' : j < l.length),eqB (s,t) l[j] = false:=by
    intro hf j h h'
    by_cases e : j = k
    ·subst e;exact hf
    ·exact hno j (by omega) h'
   clear hcell hrow
   generalize l[k] = x at *
   obtain ⟨a,b⟩:=x
   simp only at c0 c1
   have he:=fun w => eqlSlot w s a t b
   have hg:=guardSlot
   generalize hf : eqB (s,t) (a,b) = r at *
   obtain ⟨Hno,Hno2,Hyes,Hbel,Hb0⟩:=hid5 hno hno2 hyes hbel hb0
   clear hno hno2 hyes hf hbel hb0
   go_wp2
   go_quiet (fail)
   cases r with
   | true =>
    have H:=Lib.hid (Hyes.out rfl)
    go_wp2
    go_ret
    exact ⟨by rw [H.out];rfl,below_drewN Hb0.out _⟩
   | false =>
    go_wp2
    go_roundw
    case rel => exact ⟨k + 1,by omega,by go_num,Hno2.out rfl,below_drewN Hbel.out _⟩
    case measure => simp [Go.RowKit.intOf];omega
  ·have hf : firstI (eqB (s,t)) l = -1:=firstI_none (fi_none fun j hj => hno j (by omega) hj)
   have H:=Lib.hid hf
   clear hf hno hrow
   go_wp2
   go_ret
   exact ⟨by rw [H.out];rfl,hb0⟩
def anyS (x : Int × Bool) (l : Sl) : Bool:=(l.findIdx? (eqB x)).isSome
theorem anyS_cases (x : Int × Bool) (l : Sl) : (anyS x l = true ∧ ∃ k : Nat,firstI (eqB x) l = k) ∨ (anyS x l = false ∧ firstI (eqB x) l = -1):=by
 unfold anyS firstI
 cases h : l.findIdx? (eqB x) with
 | some k => exact .inl ⟨rfl,k,rfl⟩
 | none => exact .inr ⟨rfl,rfl⟩
theorem anyS_iff (x : Int × Bool) (l : Sl) : anyS x l = true ↔ x ∈ l:=by
 unfold anyS
 cases h : l.findIdx? (eqB x) with
 | some k =>
  obtain ⟨hk,hp⟩:=fi_lt h
  have e : x = l[k]:=by simpa [eqB] using hp
  exact ⟨fun _ => by rw [e];exact List.getElem_mem hk,fun _ => rfl⟩
 | none =>
  rw [List.findIdx?_eq_none_iff] at h
  refine ⟨fun h => (nomatch h),fun hx => ?_⟩
  have:=h x hx
  simp [eqB] at this
set_option maxHeartbeats 1000000 in
theorem containsSlot_any (v : Value) (l : Sl) (s : Int) (t : Bool) (w : World) (hrow : w.ownsRow 0 166 2 v l.length (l.flatMap slotC)) (hl : l.length ≤ 60) :
  Calls Tryz.prog 143 #[v,.agg #[.int .i64 s,.bool t]] w fun e w' => e = .returned (.bool (anyS (s,t) l)) ∧ Below w.heap.size w w':=by
 have hi:=indexSlot_any v l s t _ (row_mod hrow ((Mod.refl [] w).alloc (.cells #[.int .i64 s,.bool t] 166)) (by simp)) hl
 rcases anyS_cases (s,t) l with ⟨h1,k,h2⟩ | ⟨h1,h2⟩
 ·rw [h2] at hi
  obtain ⟨Hi,H⟩:=hid2 hi h1
  have hp : decide ((0 : Int) ≤ (k : Int)) = true:=by simp
  clear hi h1 h2
  go_enter Tryz.func143,Tryz.ntmps143
  go_wp2_with fail
  refine (Hi.out).mono ?_
  rintro e w1 ⟨rfl,hb⟩
  simp only [World.size_alloc] at hb
  go_wp2
  go_ret
  exact ⟨by rw [H.out];rfl,((Below.refl w.heap.size w).alloc (Nat.le_refl _) _).trans (hb.mono (by omega))⟩
 ·rw [h2] at hi
  obtain ⟨Hi,H⟩:=hid2 hi h1
  clear hi h1 h2
  go_enter Tryz.func143,Tryz.ntmps143
  go_wp2_with fail
  refine (Hi.out).mono ?_
  rintro e w1 ⟨rfl,hb⟩
  simp only [World.size_alloc] at hb
  go_wp2
  go_ret
  exact ⟨by rw [H.out];rfl,((Below.refl w.heap.size w).alloc (Nat.le_refl _) _).trans (hb.mono (by omega))⟩
def loadL (gs ks : List Int) : Sl:=(List.range gs.length).map fun i => (gs.getD i 0,hasB ks (i : Int))
def dupB (ks : List Int) : Bool:=(List.range ks.length).any fun j => hasB (ks.take j) (ks.getD j 0)
def loadE (gs ks : List Int) : Int:=if 60 < gs.length then 2 else if anyP badN gs = true then 1 else if anyP (badK gs.length) ks = true then 5 else if dupB ks = true then 6 else if anyS (1000000,true) (loadL gs ks) = true then 1 else 0
theorem loadL_len (gs ks : List Int) : (loadL gs ks).length = gs.length:=by simp [loadL]
theorem loadL_get (gs ks : List Int) {n : Nat} (h : n < (loadL gs ks).length) : (loadL gs ks)[n] = (gs[n]'(by simpa [loadL] using h),hasB ks (n : Int)):=by
 have h' : n < gs.length:=by simpa [loadL] using h
 simp [loadL,List.getD_eq_getElem?_getD,List.getElem?_eq_getElem h']
theorem loadL_nil (gs : List Int) : loadL gs [] = gs.map (·,false):=by
 apply List.ext_getElem
 ·simp [loadL]
 ·intro n h1 h2
  rw [loadL_get,hasB_nil];simp
theorem loadL_set (gs ks : List Int) {n : Nat} (h : n < (loadL gs ks).length) : (loadL gs ks).set n ((loadL gs ks)[n].1,true) = loadL gs (ks ++ [(n : Int)]):=by
 apply List.ext_getElem
 ·simp [loadL]
 ·intro j h1 h2
  rw [List.getElem_set,loadL_get gs (ks ++ [(n : Int)]),hasB_snoc]
  split
  ·next e => subst e;rw [loadL_get];simp
  ·next e =>
   rw [loadL_get]
   have : ¬ ((j : Int) = n):=by omega
   simp [this]
theorem dupB_of {ks : List Int} {j : Nat} (hj : j < ks.length) (h : hasB (ks.take j) ks[j] = true) : dupB ks = true:=by
 unfold dupB
 rw [List.any_eq_true]
 exact ⟨j,by simpa using hj,by simpa [List.getD_eq_getElem?_getD,List.getElem?_eq_getElem hj] using h⟩
theorem dupB_none {ks : List Int} (h : ∀ j (hj : j < ks.length),hasB (ks.take j) ks[j] = false) : dupB ks = false:=by
 cases e : dupB ks with
 | false => rfl
 | true =>
  unfold dupB at e
  rw [List.any_eq_true] at e
  obtain ⟨j,hj,h2⟩:=e
  have hj' : j < ks.length:=by simpa using hj
  have:=h j hj'
  simp [List.getD_eq_getElem?_getD,List.getElem?_eq_getElem hj'] at h2
  rw [h2] at this;cases this
structure LoadIn (gs ks : List Int) : Prop where
 len : gs.length ≤ 60
 gens : ∀ k (h : k < gs.length),0 ≤ gs[k] ∧ gs[k] ≤ 1000000
 keys : ∀ k (h : k < ks.length),0 ≤ ks[k] ∧ ks[k] < gs.length
theorem loadE_long {gs ks : List Int} (h : 60 < gs.length) : loadE gs ks = 2:=by unfold loadE;rw [if_pos h]
theorem loadE_gen {gs ks : List Int} (h : gs.length ≤ 60) (h1 : anyP badN gs = true) : loadE gs ks = 1:=by unfold loadE;rw [if_neg (by omega),if_pos h1]
theorem loadE_key {gs ks : List Int} (h : gs.length ≤ 60) (h1 : anyP badN gs = false) (h2 : anyP (badK gs.length) ks = true) : loadE gs ks = 5:=by unfold loadE;rw [if_neg (by omega),if_neg (by simp [h1]),if_pos h2]
theorem loadIn_of {gs ks : List Int} (h : gs.length ≤ 60) (h1 : anyP badN gs = false) (h2 : anyP (badK gs.length) ks = false) : LoadIn gs ks:=by
 refine ⟨h,fun k hk => ?_,fun k hk => ?_⟩
 ·have:=anyP_false h1 hk
  simp [badN] at this;omega
 ·have:=anyP_false h2 hk
  simp [badK] at this;omega
theorem LoadIn.bad {gs ks : List Int} (h : LoadIn gs ks) : anyP badN gs = false ∧ anyP (badK gs.length) ks = false:=by
 refine ⟨anyP_none fun k hk => badN_in (h.gens k hk).1 (h.gens k hk).2,anyP_none fun k hk => badK_in (h.keys k hk).1 (h.keys k hk).2⟩
theorem LoadIn.dup {gs ks : List Int} (h : LoadIn gs ks) (h1 : dupB ks = true) : loadE gs ks = 6:=by
 unfold loadE;rw [if_neg (by have:=h.len;omega),if_neg (by simp [h.bad.1]),if_neg (by simp [h.bad.2]),if_pos h1]
theorem LoadIn.full {gs ks : List Int} (h : LoadIn gs ks) (h1 : dupB ks = false) (h2 : anyS (1000000,true) (loadL gs ks) = true) : loadE gs ks = 1:=by
 unfold loadE;rw [if_neg (by have:=h.len;omega),if_neg (by simp [h.bad.1]),if_neg (by simp [h.bad.2]),if_neg (by simp [h1]),if_pos h2]
theorem LoadIn.good {gs ks : List Int} (h : LoadIn gs ks) (h1 : dupB ks = false) (h2 : anyS (1000000,true) (loadL gs ks) = false) : loadE gs ks = 0:=by
 unfold loadE;rw [if_neg (by have:=h.len;omega),if_neg (by simp [h.bad.1]),if_neg (by simp [h.bad.2]),if_neg (by simp [h1]),if_neg (by simp [h2])]
theorem LoadIn.ok {gs ks : List Int} (h : LoadIn gs ks) (h2 : anyS (1000000,true) (loadL gs ks) = false) : SlOk (loadL gs ks):=by
 refine ⟨by rw [loadL_len];exact h.len,fun x hx => ?_⟩
 obtain ⟨n,hn,rfl⟩:=List.mem_iff_getElem.1 hx
 have hg:=loadL_get gs ks hn
 have hb:=h.gens n (by simpa [loadL] using hn)
 refine ⟨by rw [hg];exact hb.1,by rw [hg];exact hb.2,fun ht => ?_⟩
 have hne : ¬ ((loadL gs ks)[n].1 = 1000000):=by
  intro e
  have hm : ((1000000 : Int),true) ∈ loadL gs ks:=by
   have e2 : (loadL gs ks)[n] = (1000000,true):=Prod.ext e ht
   rw [← e2];exact List.getElem_mem hn
  rw [← anyS_iff,h2] at hm
  cases hm
 have : (loadL gs ks)[n].1 ≤ 1000000:=by rw [hg];exact hb.2
 omega
end Go.Proofs.YtfdillpofciicaaGreatDoor
namespace Go.Proofs.YtfdillpofciicaaGreatDoor
open Go.RowKit
theorem push_fin {p : Nat} {l : Sl} {F : List Nat} {w1 w2 : World} {v v' : Value} {o : Obj} {y : Int × Bool} (hR : RepS w1 p l F) (hp1 : w1.heap[p]? = some (.cells #[v] 164 (0,0))) (hF : F = p :: v.ownBlock.toList)
  (hown : w2.ownsRow 0 166 2 v' (l ++ [y]).length ((l ++ [y]).flatMap slotC)) (hg : (w1.alloc o).grownBy w2 v.ownBlock) (hloc : v'.ownBlock = v.ownBlock ∨ v'.ownBlock = some (w1.alloc o).heap.size) :
  ∃ g' cap',v' = .slice (some ⟨g',0,none⟩) (l.length + 1) cap' ∧ p < w2.heap.size ∧ w2.cell? ⟨p,0,none⟩ = some v ∧ w2.frozen? ⟨p,0,none⟩ = false ∧ Hid (RepS (w2.setCell ⟨p,0,none⟩ v') p (l ++ [y]) (p :: v'.ownBlock.toList)) ∧ Hid (Mod F w1 w2) ∧ Hid (∀ k ∈ v'.ownBlock.toList,k ∈ F ∨ w1.heap.size ≤ k):=by
 have hlt:=hR.lt
 have hpw:=hlt p (by rw [hF];simp)
 have hnp : F.Nodup:=by obtain ⟨_,_,_,_,h⟩:=hR;exact h
 have hvp : ∀ k,v.ownBlock = some k → k ∈ F ∧ k ≠ p:=by
  intro k hk
  refine ⟨by rw [hF];simp [hk],?_⟩
  rintro rfl
  rw [hF,hk] at hnp
  simp at hnp
 have hm : Mod F w1 w2:=((Mod.refl F w1).alloc o).grown hg (fun k hk => .inl (hvp k hk).1)
 have hp2 : w2.heap[p]? = some (.cells #[v] 164 (0,0)):=(hg.block p (by simp;omega) (fun e => (hvp p e.symm).2 rfl)).trans (blk_alloc hp1 o)
 have hgp : ∀ k,v'.ownBlock = some k → k ≠ p:=by
  intro k hk
  rcases hloc with h | h
  ·exact (hvp k (h.symm.trans hk)).2
  ·rw [h] at hk;simp at hk;omega
 obtain ⟨g',cap',cur',he,-,-,-⟩:=row_some hown (by simp)
 refine ⟨g',cap',by rw [he];simp,blk_lt hp2,by rw [blk_cell hp2];rfl,blk_free hp2 0,⟨v',by rw [blk_set hp2];rfl,row_mod hown ((Mod.refl [p] _).setCell (.inl (by simp)) _) (fun k hk => by simpa using hgp k hk),rfl,?_⟩,hm,?_⟩
 ·cases h : v'.ownBlock with
  | none => simp
  | some k => simpa using fun e => hgp k h e.symm
 ·intro k hk
  have hk' : v'.ownBlock = some k:=by simpa using hk
  rcases hloc with h | h
  ·exact .inl (hvp k (h.symm.trans hk')).1
  ·rw [h] at hk';simp at hk';right;omega
def LoadPost (gs ks : List Int) (w : World) (e : Ending) (w' : World) : Prop :=
 Below w.heap.size w w' ∧ ((loadE gs ks ≠ 0 ∧ e = .returned (.tuple #[.pointer none,.int .i64 (loadE gs ks)])) ∨
  (loadE gs ks = 0 ∧ ∃ p F,e = .returned (.tuple #[.pointer (some ⟨p,0,none⟩),.int .i64 0]) ∧ RepS w' p (loadL gs ks) F ∧ (∀ k ∈ F,w.heap.size ≤ k) ∧ SlOk (loadL gs ks)))
set_option maxHeartbeats 1000000 in
theorem load_long (A : Option Addr) (c : Nat) (gs : List Int) (A' : Option Addr) (c' : Nat) (ks : List Int) (w : World) (hl : gs.length ≤ 9223372036854775807) (h60 : 60 < gs.length) :
  Calls Tryz.prog 91 #[.slice A gs.length c,.slice A' ks.length c'] w (LoadPost gs ks w):=by
 have H:=Lib.hid (loadE_long (ks:=ks) h60)
 have hin : (60 : Int) < (gs.length : Int):=by omega
 go_enter Tryz.func91,Tryz.ntmps91
 go_wp2
 refine bodyPost_ret (v:=.tuple #[.pointer none,.int .i64 2]) (by unfold results;try go_simp) rfl ?_
 exact ⟨(Below.refl _ _).alloc (Nat.le_refl _) _,.inl ⟨by rw [H.out];omega,by rw [H.out]⟩⟩
set_option maxHeartbeats 1000000 in
theorem load_gen (A : Option Addr) (c : Nat) (gs : List Int) (A' : Option Addr) (c' : Nat) (ks : List Int) (w : World) (h60 : gs.length ≤ 60) (hA : Lies w w.heap.size A (ints gs)) (hb : anyP badN gs = true) :
  Calls Tryz.prog 91 #[.slice A gs.length c,.slice A' ks.length c'] w (LoadPost gs ks w):=by
 have hE:=loadE_gen (ks:=ks) h60 hb
 have h1:=containsN_any A c gs w.heap.size _ (by omega) (hA.below ((Below.refl w.heap.size w).alloc (Nat.le_refl _) (.cells #[.slice A gs.length c] 22)))
 rw [hb] at h1
 obtain ⟨H,H1⟩:=hid2 hE h1
 have hin : (gs.length : Int) ≤ (60 : Int):=by omega
 clear hE h1 hb hA
 go_enter Tryz.func91,Tryz.ntmps91
 go_wp2_with fail
 refine H1.out.mono ?_
 rintro e w1 ⟨rfl,rfl⟩
 go_wp2
 refine bodyPost_ret (v:=.tuple #[.pointer none,.int .i64 1]) (by unfold results;try go_simp) rfl ?_
 exact ⟨(Below.refl _ _).alloc (Nat.le_refl _) _,.inl ⟨by rw [H.out];omega,by rw [H.out]⟩⟩
set_option maxHeartbeats 1000000 in
theorem load_key (A : Option Addr) (c : Nat) (gs : List Int) (A' : Option Addr) (c' : Nat) (ks : List Int) (w : World) (h60 : gs.length ≤ 60) (hk : ks.length ≤ 9223372036854775807) (hA : Lies w w.heap.size A (ints gs)) (hA' : Lies w w.heap.size A' (ints ks))
  (hb : anyP badN gs = false) (hb2 : anyP (badK gs.length) ks = true) :
  Calls Tryz.prog 91 #[.slice A gs.length c,.slice A' ks.length c'] w (LoadPost gs ks w):=by
 have hE:=loadE_key h60 hb hb2
 have hm:=(Below.refl w.heap.size w).alloc (Nat.le_refl _) (.cells #[.slice A gs.length c] 22)
 have h1:=containsN_any A c gs w.heap.size _ (by omega) (hA.below hm)
 have h2:=containsK_any w.heap.size A gs.length c A' c' ks w.heap.size _ hk (hA'.below hm) (by simp) (by omega)
 rw [hb] at h1
 rw [hb2] at h2
 obtain ⟨H,H1,H2⟩:=hid3 hE h1 h2
 have hin : (gs.length : Int) ≤ (60 : Int):=by omega
 clear hE h1 h2 hb hb2 hA hA' hm
 go_enter Tryz.func91,Tryz.ntmps91
 go_wp2_with fail
 refine H1.out.mono ?_
 rintro e w1 ⟨rfl,rfl⟩
 go_wp2_with fail
 refine H2.out.mono ?_
 rintro e w1 ⟨rfl,rfl⟩
 go_wp2
 refine bodyPost_ret (v:=.tuple #[.pointer none,.int .i64 5]) (by unfold results;try go_simp) rfl ?_
 exact ⟨(Below.refl _ _).alloc (Nat.le_refl _) _,.inl ⟨by rw [H.out];omega,by rw [H.out]⟩⟩
theorem Lies.int_at {w : World} {B : Nat} {A : Option Addr} {zs : List Int} (h : Lies w B A (ints zs)) {k : Nat} (hk : k < zs.length) :
  ∃ b o,A = some ⟨b,o,none⟩ ∧ b < B ∧ w.cell? ⟨b,o + k,none⟩ = some (.int .i64 zs[k]):=by
 have h1 : Lies w B A (zs.flatMap intC):=by rw [← ints_flat];exact h
 obtain ⟨b,o,e,hb,hc⟩:=h1.rec_at (n:=1) (fun _ => rfl) (by omega) hk
 have:=hc 0 _ rfl
 rw [Nat.mul_one,Nat.add_zero] at this
 exact ⟨b,o,e,hb,this⟩
theorem RepS.open_ {w : World} {p : Nat} {l : Sl} {F : List Nat} (h : RepS w p l F) : ∃ A cap,w.heap[p]? = some (.cells #[.slice A l.length cap] 164 (0,0)) ∧ w.ownsRow 0 166 2 (.slice A l.length cap) l.length (l.flatMap slotC) ∧ F = p :: (Value.slice A l.length cap).ownBlock.toList:=by
 obtain ⟨v,h1,h2,h3,-⟩:=h
 obtain ⟨A,cap,rfl,-,-⟩:=row_slice h2
 exact ⟨A,cap,h1,h2,h3⟩
set_option maxHeartbeats 4000000 in
theorem load_in (A : Option Addr) (c : Nat) (gs : List Int) (A' : Option Addr) (c' : Nat) (ks : List Int) (w : World) (hk : ks.length ≤ 9223372036854775807) (hA : Lies w w.heap.size A (ints gs)) (hA' : Lies w w.heap.size A' (ints ks)) (hi : LoadIn gs ks) :
  Calls Tryz.prog 91 #[.slice A gs.length c,.slice A' ks.length c'] w (LoadPost gs ks w):=by
 have hm:=(Below.refl w.heap.size w).alloc (Nat.le_refl _) (.cells #[.slice A gs.length c] 22)
 have h1:=containsN_any A c gs w.heap.size _ (by have:=hi.len;omega) (hA.below hm)
 have h2:=containsK_any w.heap.size A gs.length c A' c' ks w.heap.size _ hk (hA'.below hm) (by simp) (by have:=hi.len;omega)
 rw [hi.bad.1] at h1
 rw [hi.bad.2] at h2
 obtain ⟨H1,H2,HA,HA',HI,HM⟩:=hid6 h1 h2 hA hA' hi hm
 have h60:=hi.len
 have hin : (gs.length : Int) ≤ (60 : Int):=by omega
 clear h1 h2 hA hA' hi hm
 go_enter Tryz.func91,Tryz.ntmps91
 go_wp2_with fail
 refine H1.out.mono ?_
 rintro e w1 ⟨rfl,rfl⟩
 go_wp2_with fail
 refine H2.out.mono ?_
 rintro e w1 ⟨rfl,rfl⟩
 go_wp2_with fail
 refine (slotsNew_any _).mono ?_
 rintro e w1 ⟨p,rfl,hb1,hs1,hp1⟩
 have d0 : w1.cell? ⟨w.heap.size,0,none⟩ = some (.slice A gs.length c):=(hb1.cell (p:=⟨w.heap.size,0,none⟩) (by simp)).trans (by simp)
 have hsz1:=hb1.size
 have hb2:=HM.out.trans (hb1.mono (by simp))
 simp only [World.size_alloc] at hsz1 hp1
 obtain ⟨HS1,HB1⟩:=hid2 hs1 hb2
 have hpw : w.heap.size ≤ p:=by omega
 clear hs1 hb1 H1 H2 HM hb2 hin hsz1 hp1
 go_wp2
 clear d0
 go_loopw [25] (fun i wr => ∃ (k : Nat) (F : List Nat),k ≤ gs.length ∧ i = .int .i64 k ∧ RepS wr p ((gs.take k).map (·,false)) F ∧ (∀ b ∈ F,w.heap.size ≤ b) ∧ Below w.heap.size w wr) (fun i _ => gs.length - (Go.RowKit.intOf i).toNat)
 case atStart => exact ⟨0,_,by omega,rfl,HS1.out,by simpa using hpw,HB1.out⟩
 case round =>
  obtain ⟨k,F,hkl,rfl,hs,hF,hbel⟩:=hrel
  have hsz:=hbel.size
  by_cases hlt : k < gs.length
  ·obtain ⟨ab,ao,rfl,hab,hcell⟩:=HA.out.int_at hlt
   have c0:=(hbel.cell (p:=⟨ab,ao + k,none⟩) hab).trans hcell
   have hab2 : ab < wr.heap.size:=by omega
   have hs2 : (gs.take (k + 1)).map (·,false) = (gs.take k).map (·,false) ++ [(gs[k],false)]:=by rw [take_succ_get gs k hlt,List.map_append];rfl
   have hlen : ((gs.take k).map (·,false)).length ≤ 60:=by simp;omega
   generalize ((gs.take k).map (·,false)) = L at *
   obtain ⟨B,cap,hp,hrow,hFe⟩:=hs.open_
   have c1:=blk_cell hp 0
   simp at c1
   have hpl:=blk_lt hp
   obtain ⟨HS,HP,HR,HFe,HF,HBel⟩:=hid6 hs hp hrow hFe hF hbel
   generalize gs[k] = x at *
   have Hs2:=Lib.hid hs2
   clear hcell hs2 hs hp hrow hFe hF hbel HS1 HB1
   go_wp2_with (at_builtin;refine app_slot rfl _ _ rfl 0 _ L (x,false) ⟨wr.heap.size,0,none⟩ 1 rfl (row_mod HR.out ((Mod.refl [] wr).alloc _) (by simp)) rfl (new_rec rfl rfl) (by omega) (by omega) ?_;intro v' w2 hown2 hg1 hloc;obtain ⟨g',cap',rfl,n1,n2,n3,KR,KM,KF⟩:=push_fin HS.out HP.out HFe.out hown2 hg1 hloc;clear hown2 hg1 hloc)
   go_roundw
   case rel =>
    refine ⟨k + 1,_,by omega,by go_num,by rw [Hs2.out];exact KR.out,?_,?_⟩
    ·intro b hb
     rcases List.mem_cons.1 hb with rfl | hb
     ·exact hpw
     ·rcases KF.out b hb with h | h
      ·exact HF.out b h
      ·omega
    ·have hpF : p ∈ F:=by rw [HFe.out];simp
     exact HBel.out.trans ((KM.out.setCell (.inl hpF) _).toBelow HF.out hsz)
   case measure => simp [Go.RowKit.intOf];omega
  ·obtain rfl : k = gs.length:=by omega
   rw [List.take_length,← loadL_nil] at hs
   obtain ⟨HS,HF,HBel⟩:=hid3 hs hF hbel
   clear hs hF hbel HS1 HB1
   go_wp2
   go_loopw [43] (fun i wr => ∃ n : Nat,n ≤ ks.length ∧ i = .int .i64 n ∧ RepS wr p (loadL gs (ks.take n)) F ∧ (∀ j (h : j < n) (h' : j < ks.length),hasB (ks.take j) ks[j] = false) ∧ Below w.heap.size w wr) (fun i _ => ks.length - (Go.RowKit.intOf i).toNat)
   case atStart => exact ⟨0,by omega,rfl,HS.out,fun j h => by omega,HBel.out⟩
   case round =>
    obtain ⟨n,hn,rfl,hs,hno,hbel⟩:=hrel
    have hsz:=hbel.size
    have hlL:=loadL_len gs (ks.take n)
    by_cases hlt : n < ks.length
    ·obtain ⟨ab,ao,rfl,hab,hcell⟩:=HA'.out.int_at hlt
     have c0:=(hbel.cell (p:=⟨ab,ao + n,none⟩) hab).trans hcell
     obtain ⟨hz0,hz1⟩:=HI.out.keys n hlt
     obtain ⟨m,hm⟩:=Int.eq_ofNat_of_zero_le hz0
     rw [hm] at c0 hz1
     have hmL : m < (loadL gs (ks.take n)).length:=by rw [hlL];omega
     have hmi : (m : Int) < ((loadL gs (ks.take n)).length : Int):=by omega
     obtain ⟨g0,cap,hp,hgF,hgl,e0,e1,hfz,-,hset⟩:=hs.at_ hmL
     have hset':=hset true
     rw [loadL_set gs (ks.take n) hmL,← hm,← take_succ_get ks n hlt] at hset'
     rw [loadL_get gs (ks.take n) hmL] at e0 e1
     simp only at e0 e1
     have c1:=blk_cell hp 0
     simp only [eA,eZ] at c1
     have hpl:=blk_lt hp
     have f1:=hfz (m * 2 + 1)
     have hdup : hasB (ks.take n) (m : Int) = true → loadE gs ks = 6:=fun h => HI.out.dup (dupB_of hlt (by rw [hm];exact h))
     have hno2 : hasB (ks.take n) (m : Int) = false → ∀ j (h : j < n + 1) (h' : j < ks.length),hasB (ks.take j) ks[j] = false:=by
      intro hf j h h'
      by_cases e : j = n
      ·subst e;rw [hm];exact hf
      ·exact hno j (by omega) h'
     have hab2 : ab < wr.heap.size:=by omega
     clear hset
     generalize hasB (ks.take n) (m : Int) = r at *
     generalize gs[m]'(by omega) = x at *
     generalize loadL gs (ks.take n) = L at *
     obtain ⟨HS2,HSet,HBel2,Hdup,Hno2,HG,HP⟩:=hid7 hs hset' hbel hdup hno2 hgF hp
     clear hs hset' hbel hdup hno2 hno hcell hm hfz hgF hp HS HBel
     cases r with
     | true =>
      have H:=Lib.hid (Hdup.out rfl)
      go_wp2
      refine bodyPost_ret (v:=.tuple #[.pointer none,.int .i64 6]) (by unfold results;try go_simp) rfl ?_
      exact ⟨HBel2.out,.inl ⟨by rw [H.out];omega,by rw [H.out]⟩⟩
     | false =>
      go_wp2
      go_roundw
      case rel => exact ⟨n + 1,by omega,by go_num,HSet.out,Hno2.out rfl,HBel2.out.trans (((Mod.refl F wr).setCell (p:=⟨g0,m * 2 + 1,none⟩) (.inl HG.out) _).toBelow HF.out hsz)⟩
      case measure => simp [Go.RowKit.intOf];omega
    ·obtain rfl : n = ks.length:=by omega
     rw [List.take_length] at hs hlL
     have hd : dupB ks = false:=dupB_none fun j hj => hno j hj hj
     obtain ⟨B,cap,hp,hrow,hFe⟩:=hs.open_
     have c1:=blk_cell hp 0
     simp only [eA,eZ] at c1
     have hpl:=blk_lt hp
     have hcs:=containsSlot_any _ _ 1000000 true wr hrow (by rw [hlL];omega)
     obtain ⟨HCs,HS2,HBel2,HD⟩:=hid4 hcs hs hbel hd
     clear hcs hs hbel hd hno hrow hp hFe HS HBel hlt
     generalize (loadL gs ks).length = NL at *
     subst hlL
     go_wp2_with fail
     refine HCs.out.mono ?_
     rintro e w4 ⟨rfl,hb4⟩
     have HB4:=Lib.hid (HBel2.out.trans (hb4.mono hsz))
     have HS4:=Lib.hid (HS2.out.mod (Mod.ofBelow hb4) (by simp))
     clear hb4 HCs
     cases hany : anyS (1000000,true) (loadL gs ks) with
     | true =>
      have H:=Lib.hid (HI.out.full HD.out hany)
      clear hany
      go_wp2
      refine bodyPost_ret (v:=.tuple #[.pointer none,.int .i64 1]) (by unfold results;try go_simp) rfl ?_
      exact ⟨HB4.out,.inl ⟨by rw [H.out];omega,by rw [H.out]⟩⟩
     | false =>
      have H:=Lib.hid (HI.out.good HD.out hany)
      have HO:=Lib.hid (HI.out.ok hany)
      clear hany
      go_wp2
      refine bodyPost_ret (v:=.tuple #[.pointer (some ⟨p,0,none⟩),.int .i64 0]) (by unfold results;try go_simp) rfl ?_
      exact ⟨HB4.out,.inr ⟨H.out,p,F,rfl,HS4.out,HF.out,HO.out⟩⟩
theorem load_any (A : Option Addr) (c : Nat) (gs : List Int) (A' : Option Addr) (c' : Nat) (ks : List Int) (w : World) (hg : gs.length ≤ 9223372036854775807) (hk : ks.length ≤ 9223372036854775807) (hA : Lies w w.heap.size A (ints gs)) (hA' : Lies w w.heap.size A' (ints ks)) :
  Calls Tryz.prog 91 #[.slice A gs.length c,.slice A' ks.length c'] w (LoadPost gs ks w):=by
 by_cases h60 : 60 < gs.length
 ·exact load_long A c gs A' c' ks w hg h60
 ·cases h1 : anyP badN gs with
  | true => exact load_gen A c gs A' c' ks w (by omega) hA h1
  | false =>
   cases h2 : anyP (badK gs.length) ks with
   | true => exact load_key A c gs A' c' ks w (by omega) hk hA hA' h1 h2
   | false => exact load_in A c gs A' c' ks w hk hA hA' (loadIn_of (by omega) h1 h2)
end Go.Proofs.YtfdillpofciicaaGreatDoor
namespace Go.Proofs.YtfdillpofciicaaGreatDoor
open Go Go.RowKit
set_option maxHeartbeats 1000000 in
theorem copyInt_any (A : Option Addr) (c : Nat) (l : List Int) (B : Nat) (w : World) (hl : l.length ≤ 60) (hA : Lies w B A (ints l)) (hB : B ≤ w.heap.size) :
  Calls Tryz.prog 160 #[.slice A l.length c] w (MadeInts w.heap.size l w):=by
 have hrow : w.ownsRow w.heap.size 3 1 (.slice none 0 0) 0 []:=⟨rfl,.inl ⟨rfl,rfl⟩⟩
 obtain ⟨i0,hi,hz0,hz1,hz2⟩:=info_parts info_int
 obtain ⟨Hi,Hz0,Hz1,Hz2⟩:=hid4 hi hz0 hz1 hz2
 clear hi hz0 hz1 hz2
 cases A with
 | none =>
  have hl0 : l = []:=by
   cases l with
   | nil => rfl
   | cons x l =>
    obtain ⟨a,h,-⟩:=hA 0 _ rfl
    cases h
  subst hl0
  clear hA
  go_enter Tryz.func160,Tryz.ntmps160
  go_wp2
  go_ret
  exact ⟨_,rfl,hrow,Below.refl _ _⟩
 | some a =>
  have HA:=Lib.hid hA
  have hcell : ∀ j u,(ints l)[j]? = some u → w.cell? (a.add j) = some u:=by
   intro j u hu
   obtain ⟨a',h,-,hc⟩:=HA.out j u hu
   cases h;exact hc
  obtain ⟨Hc,Hr⟩:=hid2 hcell hrow
  clear hcell hrow hA
  have hone : ∀ u ∈ ints l,u.oneCell' = true:=by
   intro u hu
   simp only [ints,List.mem_map] at hu
   obtain ⟨x,-,rfl⟩:=hu
   rfl
  have Ho:=Lib.hid hone
  clear hone
  go_enter Tryz.func160,Tryz.ntmps160
  go_wp2_with (at_builtin;refine wpList_append_own w rfl _ _ 22 rfl w.heap.size 3 i0 (.int .i64 0) 1 8 Tryz.underlying22 Hi.out Hz0.out Hz1.out Hz2.out rfl (by omega) (.slice none 0 0) 0 [] rfl Hr.out a l.length c (ints l) rfl (by simp [ints]) Hc.out Ho.out (by unfold maxLen;omega) (by omega) (Nat.le_refl _) ?_;intro v' w' h1 h2 h3)
  go_ret
  refine ⟨_,rfl,by simpa using h1,(Below.refl _ _).grown h2 (Nat.le_refl _) (by simp [Value.ownBlock])⟩
end Go.Proofs.YtfdillpofciicaaGreatDoor
namespace Go.Proofs.YtfdillpofciicaaGreatDoor
open Go Go.ChangeShapes Go.WideShapes Go.RowKit
end Go.Proofs.YtfdillpofciicaaGreatDoor
