import Derived.Test.YtfdillpofciicaaGreatDoorTopSavedJ7
import Derived.Lib.LazyBuf
set_option linter.unusedVariables false
set_option linter.unusedSimpArgs false
/- A part of the proof that TopSaved returns true. -/
namespace Go.Proofs.YtfdillpofciicaaGreatDoor
open Go Go.RowKit
structure FieldAt {α : Type} (enc : α → List Value) (E n : Nat) (w : World) (p o : Nat) (cs : Array Value) (T : TypeId) (v : Value) (l : List α) : Prop where
 blk : w.heap[p]? = some (.cells cs T (0,0))
 here : cs[o]? = some v
 row : w.ownsRow 0 E n v l.length (l.flatMap enc)
 ne : ∀ k,v.ownBlock = some k → k ≠ p
section
variable {α : Type} {enc : α → List Value} {E n : Nat} {w w' w1 w2 : World} {p o : Nat} {cs : Array Value} {T : TypeId} {v v' : Value} {l : List α}
theorem FieldAt.mod (h : FieldAt enc E n w p o cs T v l) {F : List Nat} (hm : Mod F w w') (hp : p ∉ F) (hv : ∀ k,v.ownBlock = some k → k ∉ F) : FieldAt enc E n w' p o cs T v l :=
 ⟨hm.keep h.blk hp,h.here,row_mod h.row hm hv,h.ne⟩
theorem FieldAt.cell (h : FieldAt enc E n w p o cs T v l) : w.cell? ⟨p,o,none⟩ = some v:=by rw [blk_cell h.blk];exact h.here
theorem FieldAt.lt (h : FieldAt enc E n w p o cs T v l) : p < w.heap.size:=blk_lt h.blk
structure FieldPost (enc : α → List Value) (E n : Nat) (w : World) (p o : Nat) (cs : Array Value) (T : TypeId) (v : Value) (l' : List α) (w' : World) : Prop where
 ex : ∃ v',FieldAt enc E n w' p o (cs.setIfInBounds o v') T v' l' ∧ (∀ k,v'.ownBlock = some k → v.ownBlock = some k ∨ w.heap.size ≤ k)
 mod : Mod (p :: v.ownBlock.toList) w w'
theorem field_grow (h : FieldAt enc E n w p o cs T v l) (hm : Mod [] w w1) {l' : List α} (hown : w2.ownsRow 0 E n v' l'.length (l'.flatMap enc)) (hg : w1.grownBy w2 v.ownBlock) (hloc : v'.ownBlock = v.ownBlock ∨ v'.ownBlock = some w1.heap.size) :
  FieldPost enc E n w p o cs T v l' (w2.setCell ⟨p,o,none⟩ v') ∧ w2.heap[p]? = some (.cells cs T (0,0)):=by
 have hpl:=blk_lt h.blk
 have hs:=hm.size
 have hm2 : Mod (p :: v.ownBlock.toList) w w2:=(hm.mono (G:=p :: v.ownBlock.toList) (by simp)).grown hg (fun k hk => .inl (by simp [hk]))
 have hp2 : w2.heap[p]? = some (.cells cs T (0,0)):=(hg.block p (by omega) (fun e => h.ne p e.symm rfl)).trans (hm.keep h.blk (by simp))
 have hvp : ∀ k,v'.ownBlock = some k → k ≠ p:=by
  intro k hk
  rcases hloc with e | e
  ·exact h.ne k (e.symm.trans hk)
  ·rw [e] at hk;cases hk;omega
 have hol : o < cs.size:=(Array.getElem?_eq_some_iff.1 h.here).1
 refine ⟨⟨⟨v',⟨blk_set hp2 o v',by simp [hol],row_mod hown ((Mod.refl [p] _).setCell (.inl (by simp)) _) (fun k hk => by simpa using hvp k hk),hvp⟩,?_⟩,hm2.setCell (.inl (by simp)) _⟩,hp2⟩
 intro k hk
 rcases hloc with e | e
 ·exact .inl (e.symm.trans hk)
 ·rw [e] at hk;cases hk;right;omega
end
def FieldRet {α : Type} (enc : α → List Value) (E n : Nat) (w : World) (p o : Nat) (cs : Array Value) (T : TypeId) (v : Value) (l' : List α) (r : Value) (e : Ending) (w' : World) : Prop:=e = .returned r ∧ FieldPost enc E n w p o cs T v l' w'
set_option maxRecDepth 20000 in
set_option maxHeartbeats 1000000 in
theorem colAdd_any (p o : Nat) (cs : Array Value) (T : TypeId) (v : Value) (l : List Int) (x : Int) (w : World) (h : FieldAt intC 3 1 w p o cs T v l) (hl : l.length ≤ 1200000000000) :
  Calls Tryz.prog 196 #[.pointer (some ⟨p,o,none⟩),.int .i64 x] w (FieldRet intC 3 1 w p o cs T v (l ++ [x]) (.tuple #[])):=by
 have hc:=h.cell
 have hlt:=h.lt
 obtain ⟨H,Hl⟩:=hid2 h hl
 clear h hl
 obtain ⟨A,cap,rfl,-,-⟩:=row_slice H.out.row
 go_enter Tryz.func196,Tryz.ntmps196
 go_wp2_with (at_builtin;refine app_rec (enc:=intC) (n:=1) (z:=.int .i64 0) (bytes:=8) rfl _ _ 22 3 rfl Tryz.underlying22 info_int rfl (by omega) (by omega) intC_one (fun _ => rfl) 0 _ l x ⟨w.heap.size,0,none⟩ 1 rfl (H.out.row.alloc _) rfl (new_rec (by simp) rfl) (by have:=Hl.out;omega) (Nat.zero_le _) ?_;intro v' w2 hown hg hloc;obtain ⟨A2,cap2,rfl,-,-⟩:=row_slice hown;have hk:=field_grow H.out ((Mod.refl [] w).alloc _) hown hg hloc;have hb2:=hk.2;have hk1:=hk.1;rw [List.length_append] at hk1;have HK:=Lib.hid hk1;have hf2:=blk_free hb2 o;have hc2:=blk_cell hb2 o;rw [H.out.here] at hc2;have hl2:=blk_lt hb2;clear hown hg hloc hk hk1 hb2)
 refine bodyPost_end (v:=.tuple #[]) ?_ rfl ?_
 ·unfold results;try go_simp
 ·exact ⟨rfl,HK.out⟩
attribute [local go_sem] AllFrom.cons_eq AllFrom.nil_eq putF_nil putF_cons wantedL_none wantedL_some OpGoalT OpGoalV OpGoalQ YieldsR preF_nil preF_cons
set_option maxRecDepth 20000 in
set_option maxHeartbeats 1000000 in
theorem hdlAdd_any (p o : Nat) (cs : Array Value) (T : TypeId) (v : Value) (l : List (Int × Int)) (s g : Int) (w : World) (h : FieldAt handleC 47 2 w p o cs T v l) (hl : l.length ≤ 1200000000000) :
  Calls Tryz.prog 195 #[.pointer (some ⟨p,o,none⟩),.agg #[.int .i64 s,.int .i64 g]] w (FieldRet handleC 47 2 w p o cs T v (l ++ [(s,g)]) (.tuple #[])):=by
 have hlt:=h.lt
 obtain ⟨H,Hl⟩:=hid2 h hl
 clear h hl
 obtain ⟨A,cap,rfl,-,-⟩:=row_slice H.out.row
 go_enter Tryz.func195,Tryz.ntmps195
 go_wp2
 obtain ⟨w0,hw0⟩ : ∃ w0,w.alloc (.cells #[.int .i64 s,.int .i64 g] 47) = w0:=⟨_,rfl⟩
 have hm0 : Mod [] w w0:=by rw [← hw0];exact (Mod.refl _ _).alloc _
 have hs0 : w0.heap.size = w.heap.size + 1:=by rw [← hw0];simp
 have hz0 : w0.heap[w.heap.size]? = some (.cells #[.int .i64 s,.int .i64 g] 47 (0,0)):=by rw [← hw0];exact heap_alloc_new w _
 rw [hw0]
 obtain ⟨HM0,HS0,HZ0⟩:=hid3 hm0 hs0 hz0
 have H0:=Lib.hid (H.out.mod hm0 (by simp) (by simp))
 clear hm0 hs0 hz0 hw0
 refine wp_planF 7 [0,1] [some 4,some 5,some 6,some 7,some 8,some 9,some 10,some 11,some 12,some 13,none] [[],[],[1],[1,2],[1,2,3],[],[5],[1,2,3,4,5,6],[0,1,2,3,4,5,6,7],[0,1,2,3,4,5,6,7,8],[0,1,2,3,4,5,6,7,8,9]] [0,1,2,3,4,5,6] 7 (fun vs => [isV (vs.getD 0 undef),isV (vs.getD 1 undef),isV (vs.getD 2 undef),isV (vs.getD 3 undef),isV (vs.getD 4 undef),isV (vs.getD 5 undef),(oneR w0.heap.size #[.int .i64 s,.int .i64 g] 47)])
  (fun _ _ W => Below w0.heap.size w0 W) mixed rfl (by kernel_rfl) (by decide) (by decide) (Below.refl _ _).drew rfl ?_
 iterate 7 apply Exists.intro
 refine ⟨?_,?_⟩
 ·simp only [tS,List.take_zero,AllFrom.cons_eq,AllFrom.nil_eq,OpGoalV]
  refine ⟨?_,?_,?_,?_,?_,?_,?_,trivial⟩
  all_goals (intro L' σ W h1 h2 h3 hI hp;clear h1 h2 h3;(try simp only [gZ,gS,preF_cons,preF_nil,isV,and_true] at hp);(first | (have hq : True:=hp;clear hq hp) | skip);have HI:=Lib.hid hI;clear hI)
  all_goals (
   have hf:=((H0.out.mod (Mod.ofBelow HI.out) (by simp) (by simp))).cell
   have hzk:=(Mod.ofBelow HI.out).keep HZ0.out (by simp)
   have q0:=blk_cell hzk 0
   have q1:=blk_cell hzk 1
   simp only [eA,eZ,eS] at q0 q1
   clear hzk)
  all_goals (first | (go_simp;exact ⟨rfl,HI.out,KeepAll.refl⟩) | (go_simp;exact ⟨oneR_new HI.out.size,HI.out.alloc HI.out.size _,KeepAll.ofStab (T:=Grow) (grow_alloc _ _) (by repeat (first | exact allStab_nil | refine allStab_isV ?_ | refine allStab_oneR ?_))⟩))
 ·intro L' σ W h1 hI hp
  clear h1
  simp only [gZ,gS,preF_cons,preF_nil,isV,and_true] at hp
  obtain ⟨s0,s1,s2,s3,s4,s5,s6⟩:=hp
  obtain ⟨HI,S6⟩:=hid2 hI s6
  have HW:=Lib.hid (HM0.out.trans (Mod.ofBelow hI) (by simp))
  clear hI s6
  simp only [dS,List.drop_zero]
  go_simp
  clear s0 s1 s2 s3 s4 s5
  generalize σ 6 = v6 at *
  go_wp2_with (at_builtin;refine app_oneR (enc:=handleC) (n:=2) (z:=.agg #[.int .i64 0,.int .i64 0]) (bytes:=16) rfl _ _ 156 47 rfl Tryz.underlying156 info_handle rfl (by omega) (by omega) handleC_one handleC_len 0 _ l (s,g) w0.heap.size #[.int .i64 s,.int .i64 g] 47 rfl (row_mod H.out.row HW.out (by simp)) S6.out rfl (by have:=Hl.out;omega) (Nat.zero_le _) ?_;intro v' w2 hown hg hloc;obtain ⟨A2,cap2,rfl,-,-⟩:=row_slice hown;have hk:=field_grow H.out HW.out hown hg hloc;have hb2:=hk.2;have hk1:=hk.1;rw [List.length_append] at hk1;have HK:=Lib.hid hk1;have hf2:=blk_free hb2 o;have hc2:=blk_cell hb2 o;rw [H.out.here] at hc2;have hl2:=blk_lt hb2;clear hown hg hloc hk hk1 hb2)
  refine ⟨rfl,?_⟩
  go_wp2
  refine bodyPost_end (v:=.tuple #[]) ?_ rfl ?_
  ·unfold results;try go_simp
  ·exact ⟨rfl,HK.out⟩
 all_goals exact undef
def remL {α : Type} (l : List α) (k : Nat) : List α:=(match l[l.length - 1]? with | some z => l.set k z | none => l).take (l.length - 1)
theorem remL_eq {α : Type} {l : List α} {m k : Nat} (h : l.length = m + 1) : remL l k = (l.set k (l[m]'(by omega))).take m:=by
 unfold remL
 rw [show l.length - 1 = m by omega,List.getElem?_eq_getElem (by omega : m < l.length)]
theorem remL_length {α : Type} (l : List α) (k : Nat) : (remL l k).length = l.length - 1:=by
 unfold remL
 cases h : l[l.length - 1]? <;> simp <;> omega
theorem remL_map {α β : Type} (f : α → β) (l : List α) (k : Nat) : remL (l.map f) k = (remL l k).map f:=by
 unfold remL
 rw [List.length_map,List.getElem?_map]
 cases h : l[l.length - 1]? <;> simp [List.map_take,List.map_set]
theorem FieldPost.drew {α : Type} {enc : α → List Value} {E n : Nat} {w w' : World} {p o : Nat} {cs : Array Value} {T : TypeId} {v : Value} {l : List α} (h : FieldPost enc E n w p o cs T v l w') : FieldPost enc E n w p o cs T v l w'.drew:=by
 obtain ⟨⟨v',hf,hl⟩,hm⟩:=h
 exact ⟨⟨v',⟨hf.blk,hf.here,hf.row,hf.ne⟩,hl⟩,hm.drew⟩
structure FieldSame {α : Type} (enc : α → List Value) (E n : Nat) (w : World) (p o : Nat) (cs : Array Value) (T : TypeId) (v : Value) (l' : List α) (w' : World) : Prop where
 ex : ∃ v',FieldAt enc E n w' p o (cs.setIfInBounds o v') T v' l' ∧ (∀ k,v'.ownBlock = some k → v.ownBlock = some k)
 mod : Mod (p :: v.ownBlock.toList) w w'
theorem FieldSame.post {α : Type} {enc : α → List Value} {E n : Nat} {w w' : World} {p o : Nat} {cs : Array Value} {T : TypeId} {v : Value} {l : List α} (h : FieldSame enc E n w p o cs T v l w') : FieldPost enc E n w p o cs T v l w':=by
 obtain ⟨⟨v',hf,hl⟩,hm⟩:=h
 exact ⟨⟨v',hf,fun k hk => .inl (hl k hk)⟩,hm⟩
theorem FieldSame.new {α : Type} {enc : α → List Value} {E n : Nat} {w w' w2 : World} {p o r : Nat} {cs : Array Value} {T : TypeId} {v : Value} {l : List α} (h : FieldSame enc E n w p o cs T v l w') (hm : Mod [r] w' w2) (hr : w.heap.size ≤ r) (hp : p < w.heap.size) (hv : ∀ k,v.ownBlock = some k → k < w.heap.size) :
  FieldSame enc E n w p o cs T v l w2:=by
 obtain ⟨⟨v',hf,hl⟩,hm0⟩:=h
 exact ⟨⟨v',hf.mod hm (by simp;omega) (fun k hk => by have:=hv k (hl k hk);simp;omega),hl⟩,hm0.trans hm (fun x hx => .inr (by simp at hx;omega))⟩
section
variable {α : Type} {enc : α → List Value} {E n : Nat} {w W : World} {p o : Nat} {cs : Array Value} {T : TypeId} {l : List α}
theorem field_cut {g N cap m : Nat} (hf : ∀ x,(enc x).length = n) (h : FieldAt enc E n w p o cs T (.slice (some ⟨g,0,none⟩) N cap) l) {l1 : List α} (hrow : W.ownsRow 0 E n (.slice (some ⟨g,0,none⟩) N cap) N (l1.flatMap enc)) (hl1 : l1.length = N) (hm : Mod [g] w W) (hmn : m ≤ N) :
  FieldSame enc E n w p o cs T (.slice (some ⟨g,0,none⟩) N cap) (l1.take m) (W.setCell ⟨p,o,none⟩ (.slice (some ⟨g,0,none⟩) m cap)) ∧ W.heap[p]? = some (.cells cs T (0,0)):=by
 have hgp:=h.ne g rfl
 have hp2 : W.heap[p]? = some (.cells cs T (0,0)):=hm.keep h.blk (by simpa using fun e : p = g => hgp e.symm)
 have hol : o < cs.size:=(Array.getElem?_eq_some_iff.1 h.here).1
 have hcut:=row_cut hrow hmn (by simp)
 rw [flatV_take hf] at hcut
 have hlen : (l1.take m).length = m:=by rw [List.length_take];omega
 refine ⟨⟨⟨_,⟨blk_set hp2 o _,by simp [hol],?_,fun k hk => ?_⟩,fun k hk => ?_⟩,?_⟩,hp2⟩
 ·rw [hlen]
  exact row_mod hcut ((Mod.refl [p] _).setCell (.inl (by simp)) _) (fun k hk => by cases hk;simpa using hgp)
 ·cases hk;exact hgp
 ·cases hk;rfl
 ·exact (hm.mono (G:=p :: (Value.slice (some ⟨g,0,none⟩) N cap).ownBlock.toList) (by simp [Value.ownBlock])).setCell (.inl (by simp)) _
end
theorem ints_set (l : List Int) (k : Nat) (z : Int) : (ints l).set k (.int .i64 z) = ints (l.set k z):=by simp [ints,List.map_set]
attribute [local go_sem] AllFrom.cons_eq AllFrom.nil_eq putF_nil putF_cons wantedL_none wantedL_some OpGoalT OpGoalV OpGoalQ YieldsR preF_nil preF_cons
set_option maxRecDepth 20000 in
set_option maxHeartbeats 2000000 in
theorem colRem_any (p o : Nat) (cs : Array Value) (T : TypeId) (v : Value) (l : List Int) (k : Nat) (w : World) (h : FieldAt intC 3 1 w p o cs T v l) (hk : k < l.length) (hl : l.length ≤ 1200000000000) :
  Calls Tryz.prog 199 #[.pointer (some ⟨p,o,none⟩),.int .i64 k] w (FieldRet intC 3 1 w p o cs T v (remL l k) (.int .i64 (l[k]))):=by
 obtain ⟨m,hm⟩ : ∃ m,l.length = m + 1:=⟨l.length - 1,by omega⟩
 have hr:=remL_eq (k:=k) hm
 have hrow:=h.row
 rw [← ints_flat] at hrow
 obtain ⟨g,cap,cur,he,-,-,hnc,hcm,-,-⟩:=row_some hrow (by omega)
 rw [hm] at he hrow
 subst he
 have cx:=row_cell hrow (ints_at l k hk)
 have cz:=row_cell hrow (ints_at l m (by omega))
 have hset:=row_set hrow k (.int .i64 (l[m]'(by omega)))
 rw [ints_set,ints_flat] at hset
 have hkp:=field_cut (enc:=intC) (n:=1) (m:=m) (fun _ => rfl) h hset ((List.length_set ..).trans hm) ((Mod.refl [g] w).setCell (p:=⟨g,k,none⟩) (.inl (by simp)) _) (by omega)
 rw [← hr] at hkp
 have hc:=h.cell
 have hlt:=h.lt
 have hgl:=row_lt hrow g rfl
 have fz:=row_free hrow k
 have hgp:=h.ne g rfl
 have hki : (k : Int) < (m : Int) + 1:=by omega
 have hpf:=blk_free hkp.2 o
 have hpc:=blk_cell hkp.2 o
 rw [h.here] at hpc
 generalize l[k] = x at *
 generalize l[m]'(by omega) = z at *
 have HK:=Lib.hid hkp.1.post
 have hmc : (m : Int) ≤ (cap : Int):=by omega
 have hcm' : cap ≤ 9223372036854775807:=by unfold maxLen at hcm;exact hcm
 have hml : m ≤ 1200000000000:=by omega
 have hmi : (m : Int) < (m : Int) + 1:=by omega
 clear h hr hrow hset hkp hm hl hk hcm hnc
 go_enter Tryz.func199,Tryz.ntmps199
 go_wp2
 refine wp_planR 21 [0,4,5,9,12,16] [some 12,some 13,some 14,some 15,some 16,some 17,some 18,some 19,some 20,some 21,some 22,some 23,some 24,some 25,some 26,some 27,some 28,some 29,some 30,some 4,some 31,none] [[],[0],[0,1],[0,1,2],[],[],[5],[5,6],[5,6,7],[],[5,6,7,8,9],[5,6,7,8,9,10],[],[12],[12,13],[12,13,14],[],[12,13,14,15,16],[12,13,14,15,16,17],[5,6,7,8,9,10,11],[0,1,2,3,4,5,6,7,8,9,10,11,12,13,14,15,16,17,18,19],[0,1,2,3,4,5,6,7,8,9,10,11,12,13,14,15,16,17,18,19,20]] [0,1,2,3,4,5,6,7,8,9,10,11,12,13,14,15,16,17,18,19,20] mixed rfl (by kernel_rfl) (by decide) (by decide) rfl ?_
 iterate 21 apply Exists.intro
 refine ⟨rfl,?_,?_⟩
 ·simp only [tS,List.take_zero,AllFrom.cons_eq,AllFrom.nil_eq,OpGoalQ]
  refine ⟨?_,?_,?_,?_,?_,?_,?_,?_,?_,?_,?_,?_,?_,?_,?_,?_,?_,?_,?_,?_,?_,trivial⟩
  all_goals (intro σ hp;(try simp only [gZ,gS,mC,mN,preF_cons,preF_nil,isV,and_true] at hp);(first | (have hq : True:=hp;clear hq hp) | skip))
  all_goals (go_simp;exact ⟨rfl,rfl⟩)
 intro σ hp
 simp only [gZ,gS,mC,mN,preF_cons,preF_nil,isV,and_true] at hp
 simp only [dS,List.drop_zero]
 go_simp
 clear hp
 go_wp2
 refine ⟨rfl,?_⟩
 go_wp2
 go_ret
 exact ⟨rfl,HK.out.drew⟩
end Go.Proofs.YtfdillpofciicaaGreatDoor
namespace Go.Proofs.YtfdillpofciicaaGreatDoor
open Go Go.RowKit
attribute [local go_sem] AllFrom.cons_eq AllFrom.nil_eq putF_nil putF_cons wantedL_none wantedL_some OpGoalT OpGoalV OpGoalQ YieldsR preF_nil preF_cons
structure ResI (r : Nat) (w0 : World) (x y : Array Value) (T : TypeId) (b : Bool) (W : World) : Prop where
 mod : Mod [r] w0 W
 no : b = false → W.heap[r]? = some (.cells x T (0,0))
 yes : b = true → W.heap[r]? = some (.cells y T (0,0))
theorem ResI.go {r : Nat} {w0 W : World} {x y : Array Value} {T : TypeId} {L : Nat → Bool} {i j : Nat} (h : ResI r w0 x y T (L j) W) (hij : j ≠ i) : ResI r w0 x y T (upd L i j) W :=
 ⟨h.mod,fun e => h.no (upd_false e),fun e => h.yes (upd_true e hij)⟩
set_option maxRecDepth 20000 in
set_option maxHeartbeats 4000000 in
theorem hdlRem_any (p o : Nat) (cs : Array Value) (T : TypeId) (v : Value) (l : List (Int × Int)) (k : Nat) (w : World) (h : FieldAt handleC 47 2 w p o cs T v l) (hk : k < l.length) (hl : l.length ≤ 1200000000000) :
  Calls Tryz.prog 198 #[.pointer (some ⟨p,o,none⟩),.int .i64 k] w (FieldRet handleC 47 2 w p o cs T v (remL l k) (.agg (handleC (l[k])).toArray)):=by
 obtain ⟨m,hm⟩ : ∃ m,l.length = m + 1:=⟨l.length - 1,by omega⟩
 have hr:=remL_eq (k:=k) hm
 have hrow:=h.row
 obtain ⟨g,cap,cur,he,-,-,hnc,hcm,-,-⟩:=row_some hrow (by omega)
 have hck:=row_piece handleC_len (by rw [← he];exact hrow) hk 0 (handleC l[k]) (fun j u hu => by rw [Nat.zero_add];exact hu)
 have hcz:=row_piece handleC_len (by rw [← he];exact hrow) (show m < l.length by omega) 0 (handleC (l[m]'(by omega))) (fun j u hu => by rw [Nat.zero_add];exact hu)
 rw [hm] at he hrow
 subst he
 have hk0:=hck 0 _ rfl
 have hk1:=hck 1 _ rfl
 have hz0:=hcz 0 _ rfl
 have hz1:=hcz 1 _ rfl
 rw [Addr.add_mid] at hk0 hk1 hz0 hz1
 simp only [Nat.add_zero] at hk0 hk1 hz0 hz1
 have hgl:=row_lt hrow g rfl
 have hgp:=h.ne g rfl
 have hpl:=h.lt
 have hkm2 : k < m + 1:=by omega
 -- what the stores do to the row
 have hfin : ∀ W,Mod [w.heap.size] w W → ∀ zs zg,l[m]'(by omega) = (zs,zg) →
   FieldSame handleC 47 2 w p o cs T (.slice (some ⟨g,0,none⟩) (m + 1) cap) (remL l k) (((W.setCell ⟨g,k * 2,none⟩ (.int .i64 zs)).setCell ⟨g,k * 2 + 1,none⟩ (.int .i64 zg)).setCell ⟨p,o,none⟩ (.slice (some ⟨g,0,none⟩) m cap)) ∧
    ((W.setCell ⟨g,k * 2,none⟩ (.int .i64 zs)).setCell ⟨g,k * 2 + 1,none⟩ (.int .i64 zg)).heap[p]? = some (.cells cs T (0,0)):=by
  intro W hW zs zg hz
  have hrw : W.ownsRow 0 47 2 (.slice (some ⟨g,0,none⟩) (m + 1) cap) (m + 1) (l.flatMap handleC):=row_mod hrow hW (fun j hj => by cases hj;simp;omega)
  have h2:=row_set (row_set hrw (k * 2) (.int .i64 zs)) (k * 2 + 1) (.int .i64 zg)
  rw [flat2_set handleC_len (zs,zg) _ _ rfl l k (by omega)] at h2
  rw [hr,hz]
  refine field_cut handleC_len h h2 ((List.length_set ..).trans hm) ?_ (by omega)
  have h0 : Mod [g] w W:=hW.mono (fun x hx => .inr (by simp at hx;omega))
  exact (h0.setCell (.inl (by simp)) _).setCell (.inl (by simp)) _
 have hki : (k : Int) < (m : Int) + 1:=by omega
 have hmi : (m : Int) < (m : Int) + 1:=by omega
 have hmc : (m : Int) ≤ (cap : Int):=by omega
 have hcm' : cap ≤ 9223372036854775807:=by unfold maxLen at hcm;exact hcm
 have hml : m ≤ 1200000000000:=by omega
 have hfz : ∀ W,Mod [w.heap.size] w W → ∀ i,W.frozen? ⟨g,i,none⟩ = false:=fun W hW i => row_free (row_mod hrow hW (fun j hj => by cases hj;simp;omega)) i
 generalize l[k] = x at *
 generalize l[m]'(by omega) = z at *
 obtain ⟨xs,xg⟩:=x
 obtain ⟨zs,zg⟩:=z
 simp only at hk0 hk1 hz0 hz1
 have HF:=Lib.hid (fun W hW => hfin W hW zs zg rfl)
 obtain ⟨H,HFz⟩:=hid2 h hfz
 obtain ⟨HK0,HK1,HZ0,HZ1⟩:=hid4 hk0 hk1 hz0 hz1
 clear h hr hrow hck hcz hm hl hk hcm hnc hfin hk0 hk1 hz0 hz1 hfz
 go_enter Tryz.func198,Tryz.ntmps198
 have hc:=H.out.cell
 go_wp2
 clear hc
 obtain ⟨w0,hw0⟩ : ∃ w0,w.alloc (.cells #[.int .i64 0,.int .i64 0] 47) = w0:=⟨_,rfl⟩
 have hm0 : Mod [] w w0:=by rw [← hw0];exact (Mod.refl _ _).alloc _
 have hz0 : w0.heap[w.heap.size]? = some (.cells #[.int .i64 0,.int .i64 0] 47 (0,0)):=by rw [← hw0];exact heap_alloc_new w _
 rw [hw0]
 obtain ⟨HM0,HZ⟩:=hid2 hm0 hz0
 clear hm0 hz0 hw0
 refine wp_planF 20 [0,4,5,9,12,16] [some 12,some 13,some 14,some 15,some 16,some 17,some 18,some 19,some 20,some 21,some 22,some 23,some 24,some 25,some 26,some 27,some 28,some 29,some 30,none,some 31,none] [[],[0],[0,1],[0,1,2],[],[],[5],[5,6],[5,6,7],[],[5,6,7,8,9],[5,6,7,8,9,10],[],[12],[12,13],[12,13,14],[],[12,13,14,15,16],[12,13,14,15,16,17],[5,6,7,8,9,10,11],[0,1,2,3,4,5,6,7,8,9,10,11,12,13,14,15,16,17,18,19],[0,1,2,3,4,5,6,7,8,9,10,11,12,13,14,15,16,17,18,19,20]] [0,1,2,3,4,5,6,7,8,9,10,11,12,13,14,15,16,17,18,19] 20 (fun vs => [isV (vs.getD 0 undef),isV (vs.getD 1 undef),isV (vs.getD 2 undef),isV (vs.getD 3 undef),isV (vs.getD 4 undef),isV (vs.getD 5 undef),isV (vs.getD 6 undef),isV (vs.getD 7 undef),isV (vs.getD 8 undef),isV (vs.getD 9 undef),isV (vs.getD 10 undef),isV (vs.getD 11 undef),isV (vs.getD 12 undef),isV (vs.getD 13 undef),isV (vs.getD 14 undef),isV (vs.getD 15 undef),isV (vs.getD 16 undef),isV (vs.getD 17 undef),isV (vs.getD 18 undef),isV (vs.getD 19 undef)])
  (fun L _ W => ResI w.heap.size w0 #[.int .i64 0,.int .i64 0] #[.int .i64 xs,.int .i64 xg] 47 (L 19) W) mixed rfl (by kernel_rfl) (by decide) (by decide) ⟨(Mod.refl _ _).drew,fun _ => HZ.out,fun e => absurd e (by simp)⟩ rfl ?_
 iterate 20 apply Exists.intro
 refine ⟨?_,?_⟩
 ·simp only [tS,List.take_zero,AllFrom.cons_eq,AllFrom.nil_eq,OpGoalV]
  refine ⟨?_,?_,?_,?_,?_,?_,?_,?_,?_,?_,?_,?_,?_,?_,?_,?_,?_,?_,?_,?_,trivial⟩
  all_goals (intro L' σ W h1 h2 h3 hI hp;clear h2 h3;(try simp only [gZ,gS,preF_cons,preF_nil,isV,and_true] at hp);(first | (have hq : True:=hp;clear hq hp) | skip);have HI:=Lib.hid hI;have Hh1:=Lib.hid h1;clear hI h1)
  all_goals (
   have hWm : Mod [w.heap.size] w W:=(HM0.out.mono (G:=[w.heap.size]) (by simp)).trans HI.out.mod (fun x hx => .inl hx)
   have hf:=(H.out.mod hWm (by simp;omega) (fun j hj => by cases hj;simp;omega)).cell
   have hgc : ∀ i,W.cell? ⟨g,i,none⟩ = w.cell? ⟨g,i,none⟩:=fun i => by simp only [World.cell?,hWm.block g hgl (by simp;omega)]
   have k0:=(hgc _).trans HK0.out
   have k1:=(hgc _).trans HK1.out
   have z0:=(hgc _).trans HZ0.out
   have z1:=(hgc _).trans HZ1.out
   clear hWm hgc)
  all_goals (try (go_simp;exact ⟨rfl,HI.out.go (by decide),KeepAll.refl⟩))
  ·have hb:=HI.out.no Hh1.out
   have q0:=blk_cell hb 0
   have q1:=blk_cell hb 1
   simp only [eA,eZ,eS] at q0 q1
   have f0:=blk_free hb 0
   have f1:=blk_free hb 1
   have hst : ((W.setCell ⟨w.heap.size,0,none⟩ (.int .i64 xs)).setCell ⟨w.heap.size,1,none⟩ (.int .i64 xg)).heap[w.heap.size]? = some (.cells #[.int .i64 xs,.int .i64 xg] 47 (0,0)):=by
    rw [blk_set (blk_set hb 0 _) 1 _];rfl
   have HS:=Lib.hid hst
   have hmm:=(HI.out.mod.setCell (p:=⟨w.heap.size,0,none⟩) (.inl (by simp)) (.int .i64 xs)).setCell (p:=⟨w.heap.size,1,none⟩) (.inl (by simp)) (.int .i64 xg)
   have HMm:=Lib.hid hmm
   clear hb hst hmm
   go_simp
   exact ⟨rfl,⟨HMm.out,fun e => absurd e (by simp [upd]),fun _ => HS.out⟩,by repeat (first | exact keep_nil | refine keep_isV ?_)⟩
 ·intro L' σ W h1 hI hp
  have hL:=h1 19 (by decide)
  clear h1
  simp only [gZ,gS,preF_cons,preF_nil,isV,and_true] at hp
  obtain ⟨s0,s1,s2,s3,s4,s5,s6,s7,s8,s9,s10,s11,s12,s13,s14,s15,s16,s17,s18,s19⟩:=hp
  have hWm : Mod [w.heap.size] w W:=(HM0.out.mono (G:=[w.heap.size]) (by simp)).trans hI.mod (fun x hx => .inl hx)
  have hb:=hI.yes hL
  have hgc : ∀ i,W.cell? ⟨g,i,none⟩ = w.cell? ⟨g,i,none⟩:=fun i => by simp only [World.cell?,hWm.block g hgl (by simp;omega)]
  have k0:=(hgc _).trans HK0.out
  have k1:=(hgc _).trans HK1.out
  have fz0:=HFz.out W hWm (k * 2)
  have fz1:=HFz.out W hWm (k * 2 + 1)
  have hfp:=HF.out W hWm
  have hpc:=blk_cell hfp.2 o
  rw [H.out.here] at hpc
  have hpf:=blk_free hfp.2 o
  have hb2 : ((W.setCell ⟨g,k * 2,none⟩ (.int .i64 zs)).setCell ⟨g,k * 2 + 1,none⟩ (.int .i64 zg)).heap[w.heap.size]? = some (.cells #[.int .i64 xs,.int .i64 xg] 47 (0,0)):=by
   rw [blk_set_ne (by simp;omega),blk_set_ne (by simp;omega)];exact hb
  have HFp:=Lib.hid hfp.1;have HB2:=Lib.hid hb2
  have hgW : g < W.heap.size:=by have:=hWm.size;omega
  clear hI hL hWm hb hgc hfp hb2
  simp only [dS,List.drop_zero]
  go_simp
  clear s0 s1 s2 s3 s4 s5 s6 s7 s8 s9 s10 s11 s12 s13 s14 s15 s16 s17 s18 s19
  go_wp2
  refine ⟨rfl,?_⟩
  generalize (W.setCell ⟨g,k * 2,none⟩ (.int .i64 zs)).setCell ⟨g,k * 2 + 1,none⟩ (.int .i64 zg) = W2 at *
  have q0:=blk_cell HB2.out 0
  have q1:=blk_cell HB2.out 1
  simp only [eA,eZ,eS] at q0 q1
  have r0:=blk_free HB2.out 0
  have r1:=blk_free HB2.out 1
  have hwp : w.heap.size ≠ p:=by omega
  have hpw : p ≠ w.heap.size:=by omega
  have hpl2:=blk_lt HB2.out
  clear k0 k1 fz0 fz1 hgW
  go_wp2
  refine bodyPost_ret (v:=.agg #[.int .i64 xs,.int .i64 xg]) (by unfold results;try go_simp) rfl ?_
  refine ⟨rfl,(HFp.out.new (r:=w.heap.size) ?_ (Nat.le_refl _) hpl (fun k hk => by cases hk;exact hgl)).post⟩
  exact ((Mod.refl _ _).setCell (.inl (by simp)) _).setCell (.inl (by simp)) _
 all_goals exact undef
end Go.Proofs.YtfdillpofciicaaGreatDoor
namespace Go.Proofs.YtfdillpofciicaaGreatDoor
open Go
def cutI (z : Int) : Int:=if 1000000000 < z then 1000000000 else if z < -1000000000 then -1000000000 else z
def srcV (vs : List Int) (x sum : Int) (c : Nat) : Int:=if c < 8 then vs.getD c 0 else if c < 16 then cutI (vs.getD (c - 8) 0 + x) else cutI sum
def base8 : List Nat:=[0,1,2,3,4,5,6,7]
def natKinds (m n : Nat) : List Nat:=(List.range n).filter fun k => m.testBit k
theorem natKinds_succ (m n : Nat) : natKinds m (n + 1) = natKinds m n ++ (if m.testBit n = true then [n] else []):=by
 unfold natKinds
 rw [List.range_succ,List.filter_append]
 congr 1
 cases h : m.testBit n <;> simp [h]
theorem natKinds_lt {m n k : Nat} (h : k ∈ natKinds m n) : k < n:=by
 unfold natKinds at h
 have:=(List.mem_filter.1 h).1
 simpa using this
def pStep (d : Int) (W : List Nat) (T : List Nat) (i : Nat) : List Nat :=
 if d = 1 then T.set (W.getD i 0) (W.getD i 0 + 8) else if d = 2 then T.set (W.getD i 0) 16 else if d = 3 then T.set (W.getD i 0) (W.getD ((i + 1) % W.length) 0) else T
def pRun (d : Int) (W : List Nat) (i : Nat) : List Nat:=(List.range i).foldl (pStep d W) base8
theorem pRun_succ (d : Int) (W : List Nat) (i : Nat) : pRun d W (i + 1) = pStep d W (pRun d W i) i:=by unfold pRun;rw [List.range_succ,List.foldl_append];rfl
def sumL (vs : List Int) (x : Int) (ks : List Nat) : Int:=ks.foldl (fun s k => s + vs.getD k 0) x
theorem sumL_snoc (vs : List Int) (x : Int) (ks : List Nat) (k : Nat) : sumL vs x (ks ++ [k]) = sumL vs x ks + vs.getD k 0:=by simp [sumL]
theorem sumL_bound {vs : List Int} {x : Int} (hv : ∀ v ∈ vs,-1000000000 ≤ v ∧ v ≤ 1000000000) (ks : List Nat) : x - 1000000000 * ks.length ≤ sumL vs x ks ∧ sumL vs x ks ≤ x + 1000000000 * ks.length:=by
 have hg : ∀ k,-1000000000 ≤ vs.getD k 0 ∧ vs.getD k 0 ≤ 1000000000:=by
  intro k
  rw [List.getD_eq_getElem?_getD]
  cases h : vs[k]? with
  | none => simp
  | some v => simpa using hv v (List.mem_of_getElem? h)
 unfold sumL
 induction ks generalizing x with
 | nil => simp
 | cons k ks ih =>
  have h:=hg k
  have:=@ih (x + vs.getD k 0)
  simp only [List.foldl_cons,List.length_cons]
  omega
theorem and_nat (m n : Nat) (hm : m < 256) (hn : n < 256) : bits .and .i64 (m : Int) (n : Int) = ((m &&& n : Nat) : Int):=by
 rw [bits_and]
 have e : BitVec.ofInt 64 (m : Int) &&& BitVec.ofInt 64 (n : Int) = BitVec.ofNat 64 (m &&& n):=by
  apply BitVec.eq_of_toNat_eq
  rw [BitVec.toNat_and,BitVec.ofInt_natCast,BitVec.ofInt_natCast,BitVec.toNat_ofNat,BitVec.toNat_ofNat,BitVec.toNat_ofNat,Nat.mod_eq_of_lt (by omega),Nat.mod_eq_of_lt (by omega),Nat.mod_eq_of_lt]
  have:=Nat.and_le_left (n:=m) (m:=n)
  omega
 rw [e]
 have hle:=Nat.and_le_left (n:=m) (m:=n)
 rw [BitVec.toInt_eq_toNat_of_lt (by rw [BitVec.toNat_ofNat];omega),BitVec.toNat_ofNat,Nat.mod_eq_of_lt (by omega)]
theorem low8_nat (m : Nat) (h : m < 256) : low8 (m : Int) = m:=by unfold low8;omega
theorem and_lt256 (m n : Nat) (h : m < 256) : m &&& n < 256:=by
 have:=Nat.and_le_left (n:=m) (m:=n)
 omega
end Go.Proofs.YtfdillpofciicaaGreatDoor
namespace Go.Proofs.YtfdillpofciicaaGreatDoor
open Go Go.RowKit
def valK (k : Nat) (b : Bt) : Int:=(btI b).getD (k + 1) 0
def Col (w : World) (c : Nat) (l : List Int) (F : List Nat) : Prop:=∃ v,FieldAt intC 3 1 w c 0 #[v] 222 v l ∧ F = c :: v.ownBlock.toList
theorem Col.mod {w w' : World} {c : Nat} {l : List Int} {F G : List Nat} (h : Col w c l F) (hm : Mod G w w') (hd : ∀ k ∈ F,k ∉ G) : Col w' c l F:=by
 obtain ⟨v,hf,rfl⟩:=h
 exact ⟨v,hf.mod hm (hd c (by simp)) (fun k hk => hd k (by simp [hk])),rfl⟩
theorem Col.lt {w : World} {c : Nat} {l : List Int} {F : List Nat} (h : Col w c l F) : ∀ k ∈ F,k < w.heap.size:=by
 obtain ⟨v,hf,rfl⟩:=h
 intro k hk
 rcases List.mem_cons.1 hk with rfl | hk
 ·exact hf.lt
 ·exact row_lt hf.row k (by simpa using hk)
structure ColsAt (w : World) (cs : List (Nat × Nat)) (ls : Nat → List Int) (Fs : Nat → List Nat) (base : List Nat) : Prop where
 col : ∀ kc ∈ cs,Col w kc.2 (ls kc.1) (Fs kc.1)
 apart : ∀ kc ∈ cs,∀ kd ∈ cs,kc.1 ≠ kd.1 → ∀ x ∈ Fs kc.1,x ∉ Fs kd.1
 off : ∀ kc ∈ cs,∀ x ∈ Fs kc.1,x ∉ base
theorem ColsAt.mod {w w' : World} {cs : List (Nat × Nat)} {ls : Nat → List Int} {Fs : Nat → List Nat} {base G : List Nat} (h : ColsAt w cs ls Fs base) (hm : Mod G w w') (hd : ∀ kc ∈ cs,∀ x ∈ Fs kc.1,x ∉ G) : ColsAt w' cs ls Fs base :=
 ⟨fun kc hk => (h.col kc hk).mod hm (hd kc hk),h.apart,h.off⟩
theorem ColsAt.congr {w : World} {cs : List (Nat × Nat)} {ls ls' : Nat → List Int} {Fs : Nat → List Nat} {base : List Nat} (h : ColsAt w cs ls Fs base) (he : ∀ kc ∈ cs,ls kc.1 = ls' kc.1) : ColsAt w cs ls' Fs base :=
 ⟨fun kc hk => by rw [← he kc hk];exact h.col kc hk,h.apart,h.off⟩
def updL {α : Type} (f : Nat → α) (k : Nat) (x : α) : Nat → α:=fun j => if j = k then x else f j
theorem updL_same {α : Type} (f : Nat → α) (k : Nat) (x : α) : updL f k x k = x:=by simp [updL]
theorem updL_ne {α : Type} (f : Nat → α) {k j : Nat} (x : α) (h : j ≠ k) : updL f k x j = f j:=by simp [updL,h]
theorem kind_inj {cs : List (Nat × Nat)} (hn : (cs.map (·.1)).Nodup) {kc kd : Nat × Nat} (h1 : kc ∈ cs) (h2 : kd ∈ cs) (e : kc.1 = kd.1) : kc = kd:=by
 induction cs with
 | nil => cases h1
 | cons a cs ih =>
  simp only [mC,List.nodup_cons] at hn
  rcases List.mem_cons.1 h1 with e1 | m1
  ·rcases List.mem_cons.1 h2 with e2 | m2
   ·rw [e1,e2]
   ·exact absurd (by rw [← e1,e];exact List.mem_map.2 ⟨kd,m2,rfl⟩) hn.1
  ·rcases List.mem_cons.1 h2 with e2 | m2
   ·exact absurd (by rw [← e2,← e];exact List.mem_map.2 ⟨kc,m1,rfl⟩) hn.1
   ·exact ih hn.2 m1 m2
theorem ColsAt.step {w w' : World} {cs : List (Nat × Nat)} {ls : Nat → List Int} {Fs : Nat → List Nat} {base : List Nat} (h : ColsAt w cs ls Fs base) (hn : (cs.map (·.1)).Nodup) (hb : ∀ x ∈ base,x < w.heap.size) {kc : Nat × Nat} (hk : kc ∈ cs)
  {v : Value} {l' : List Int} (hF : Fs kc.1 = kc.2 :: v.ownBlock.toList) (hp : FieldPost intC 3 1 w kc.2 0 #[v] 222 v l' w') :
  ∃ Fs',ColsAt w' cs (updL ls kc.1 l') Fs' base ∧ (∀ kd ∈ cs,∀ x ∈ Fs' kd.1,x ∈ Fs kd.1 ∨ w.heap.size ≤ x) ∧ Mod (Fs kc.1) w w':=by
 obtain ⟨⟨v',hf,hl⟩,hm⟩:=hp
 have hm' : Mod (Fs kc.1) w w':=by rw [hF];exact hm
 have hnew : ∀ x ∈ kc.2 :: v'.ownBlock.toList,x ∈ Fs kc.1 ∨ w.heap.size ≤ x:=by
  intro x hx
  rw [hF]
  rcases List.mem_cons.1 hx with rfl | hx
  ·exact .inl (by simp)
  ·rcases hl x (by simpa using hx) with h1 | h1
   ·exact .inl (by simp [h1])
   ·exact .inr h1
 have hold : ∀ kd ∈ cs,∀ x ∈ Fs kd.1,x < w.heap.size:=fun kd hd => (h.col kd hd).lt
 refine ⟨updL Fs kc.1 (kc.2 :: v'.ownBlock.toList),⟨?_,?_,?_⟩,?_,hm'⟩
 ·intro kd hd
  by_cases e : kd.1 = kc.1
  ·have:=kind_inj hn hd hk e
   subst this
   rw [updL_same,updL_same]
   exact ⟨v',by simpa using hf,rfl⟩
  ·rw [updL_ne _ _ e,updL_ne _ _ e]
   exact (h.col kd hd).mod hm' (fun x hx => h.apart kd hd kc hk e x hx)
 ·intro ka ha kd hd hne x hx hx2
  by_cases e : ka.1 = kc.1
  ·rw [e,updL_same] at hx
   rw [updL_ne _ _ (by rw [← e];exact Ne.symm hne)] at hx2
   rcases hnew x hx with h1 | h1
   ·exact h.apart kc hk kd hd (by rw [← e];exact hne) x h1 hx2
   ·have:=hold kd hd x hx2;omega
  ·rw [updL_ne _ _ e] at hx
   by_cases e2 : kd.1 = kc.1
   ·rw [e2,updL_same] at hx2
    rcases hnew x hx2 with h1 | h1
    ·exact h.apart ka ha kc hk e x hx h1
    ·have:=hold ka ha x hx;omega
   ·rw [updL_ne _ _ e2] at hx2
    exact h.apart ka ha kd hd hne x hx hx2
 ·intro kd hd x hx hxb
  by_cases e : kd.1 = kc.1
  ·rw [e,updL_same] at hx
   rcases hnew x hx with h1 | h1
   ·exact h.off kc hk x h1 hxb
   ·have:=hb x hxb;omega
  ·rw [updL_ne _ _ e] at hx
   exact h.off kd hd x hx hxb
 ·intro kd hd x hx
  by_cases e : kd.1 = kc.1
  ·rw [e,updL_same] at hx
   rw [e];exact hnew x hx
  ·rw [updL_ne _ _ e] at hx
   exact .inl hx
def colPr (kc : Nat × Nat) : Value × Value:=(.int .i64 (kc.1 : Int),.pointer (some ⟨kc.2,0,none⟩))
def tabCs (kn : Nat) (vh : Value) (m : Nat) : Array Value:=#[.int .i64 (kn : Int),vh,.map (some m)]
structure TabAt (w : World) (p : Nat) (kn : Nat) (hs : List Hd) (ls : Nat → List Int) (vh : Value) (m : Nat) (cs : List (Nat × Nat)) (Fs : Nat → List Nat) : Prop where
 hd : FieldAt handleC 47 2 w p 1 (tabCs kn vh m) 219 vh hs
 map : MapAt Tryz.prog 3 w m (cs.map colPr)
 kinds : cs.map (·.1) = natKinds kn 8
 cols : ColsAt w cs ls Fs (p :: m :: vh.ownBlock.toList)
 mp : m ≠ p
 mh : ∀ k,vh.ownBlock = some k → k ≠ m
def tabF (p m : Nat) (vh : Value) (cs : List (Nat × Nat)) (Fs : Nat → List Nat) : List Nat:=p :: m :: (vh.ownBlock.toList ++ cs.flatMap (fun kc => Fs kc.1))
theorem natKinds_nodup (m n : Nat) : (natKinds m n).Nodup:=by
 unfold natKinds
 exact List.Nodup.sublist List.filter_sublist List.nodup_range
section
variable {w w' : World} {p kn m : Nat} {hs : List Hd} {ls : Nat → List Int} {vh : Value} {cs : List (Nat × Nat)} {Fs : Nat → List Nat}
theorem TabAt.nodup (h : TabAt w p kn hs ls vh m cs Fs) : (cs.map (·.1)).Nodup:=by rw [h.kinds];exact natKinds_nodup _ _
theorem TabAt.mod (h : TabAt w p kn hs ls vh m cs Fs) {G : List Nat} (hm : Mod G w w') (hd : ∀ k ∈ tabF p m vh cs Fs,k ∉ G) : TabAt w' p kn hs ls vh m cs Fs :=
 ⟨h.hd.mod hm (hd p (by simp [tabF])) (fun k hk => hd k (by simp [tabF,hk])),h.map.mod hm (hd m (by simp [tabF])),h.kinds,
  h.cols.mod hm (fun kc hk x hx => hd x (by simp only [tabF,List.mem_cons,List.mem_append,List.mem_flatMap];exact .inr (.inr (.inr ⟨kc,hk,hx⟩)))),h.mp,h.mh⟩
theorem TabAt.lt (h : TabAt w p kn hs ls vh m cs Fs) : ∀ k ∈ tabF p m vh cs Fs,k < w.heap.size:=by
 intro k hk
 simp only [tabF,List.mem_cons,List.mem_append,List.mem_flatMap] at hk
 rcases hk with rfl | rfl | hk | ⟨kc,hc,hk⟩
 ·exact h.hd.lt
 ·exact h.map.lt
 ·exact row_lt h.hd.row k (by simpa using hk)
 ·exact (h.cols.col kc hc).lt k hk
end
def RepT (w : World) (p kn : Nat) (rows : List Rw) (F : List Nat) : Prop :=
 ∃ vh m cs Fs,TabAt w p kn (rows.map (·.1)) (fun k => rows.map fun r => valK k r.2) vh m cs Fs ∧ F = tabF p m vh cs Fs
theorem RepT.mod {w w' : World} {p kn : Nat} {rows : List Rw} {F G : List Nat} (h : RepT w p kn rows F) (hm : Mod G w w') (hd : ∀ k ∈ F,k ∉ G) : RepT w' p kn rows F:=by
 obtain ⟨vh,m,cs,Fs,ht,rfl⟩:=h
 exact ⟨vh,m,cs,Fs,ht.mod hm hd,rfl⟩
theorem RepT.lt {w : World} {p kn : Nat} {rows : List Rw} {F : List Nat} (h : RepT w p kn rows F) : ∀ k ∈ F,k < w.heap.size:=by
 obtain ⟨vh,m,cs,Fs,ht,rfl⟩:=h
 exact ht.lt
theorem keyedInt : Go.Maps.Keyed Tryz.prog 3:=Go.Maps.int_keyed Tryz.underlying3
theorem keyInt {z : Int} (h : InR z) : keyOf Tryz.prog 3 (.int .i64 z) = some (.int .i64 z):=Go.Maps.keyOf_int_mk Tryz.underlying3 (by
 unfold InR at h
 simp [Lit.wf,IntKind.min,IntKind.max,IntKind.bits,IntKind.signed]
 omega)
def MadeR {α : Type} (E n : Nat) (enc : α → List Value) (l : List α) (w : World) (e : Ending) (w' : World) : Prop:=∃ v,e = .returned v ∧ w'.ownsRow w.heap.size E n v l.length (l.flatMap enc) ∧ Below w.heap.size w w'
theorem flat_one {α : Type} {enc : α → List Value} (h : ∀ x,∀ u ∈ enc x,u.oneCell' = true) (l : List α) : ∀ u ∈ l.flatMap enc,u.oneCell' = true:=fun u hu => by
 obtain ⟨x,_,hx⟩:=List.mem_flatMap.1 hu
 exact h x u hx
set_option maxRecDepth 100000 in
set_option maxHeartbeats 1000000 in
theorem cloneH_any (A : Option Addr) (c : Nat) (l : List (Int × Int)) (w : World) (hl : l.length * 16 ≤ 140737488351232) (hA : Lies w w.heap.size A (l.flatMap handleC)) (hn : A = none → l = []) (hc : A = none → c = 0) :
  Calls Tryz.prog 134 #[.slice A l.length c] w (MadeR 47 2 handleC l w):=by
 have Hl:=Lib.hid hl
 have hl2 : l.length ≤ 9223372036854775807:=by omega
 clear hl
 cases A with
 | none =>
  obtain rfl:=hn rfl
  obtain rfl:=hc rfl
  clear hn hc hA Hl hl2
  have hnil:=fun w => run_eql_slice_nil w 156 47 none 0 0 Tryz.underlying156
  simp only [Option.isNone_none] at hnil
  go_enter Tryz.func134,Tryz.ntmps134
  go_wp2
  go_ret
  exact ⟨_,rfl,⟨rfl,.inl ⟨rfl,rfl⟩⟩,Below.refl _ _⟩
 | some a =>
  have hnews : ∀ j u,(l.flatMap handleC)[j]? = some u → w.cell? (a.add j) = some u:=fun j u hu => by
   obtain ⟨a',e,_,h⟩:=hA j u hu
   cases e;exact h
  have hb : ∀ j u,(l.flatMap handleC)[j]? = some u → a.block < w.heap.size:=fun j u hu => by
   obtain ⟨a',e,h,_⟩:=hA j u hu
   cases e;exact h
  have hnew2 : ∀ o,∀ j u,(l.flatMap handleC)[j]? = some u → (w.alloc o).cell? (a.add j) = some u:=fun o j u hu =>
   (((Below.refl w.heap.size w).alloc (Nat.le_refl _) o).cell (p:=a.add j) (by rw [add_block];exact hb j u hu)).trans (hnews j u hu)
  obtain ⟨HN,HN0⟩:=hid2 hnew2 hnews
  have H0:=Lib.hid (flatV_length handleC_len l)
  have HO:=Lib.hid (flat_one handleC_one l)
  obtain ⟨i0,hi,hz0,hz1,hz2⟩:=info_parts info_handle
  obtain ⟨HI,HZ0,HZ1,HZ2⟩:=hid4 hi hz0 hz1 hz2
  clear hA hn hc hnews hb hnew2 hi hz0 hz1 hz2
  have hnil:=fun w => run_eql_slice_nil w 156 47 (some a) l.length c Tryz.underlying156
  simp only [Option.isNone_some] at hnil
  go_enter Tryz.func134,Tryz.ntmps134
  go_wp2_with (at_builtin;refine wpList_append_own_at _ rfl _ _ 156 rfl w.heap.size 47 i0 _ 2 16 Tryz.underlying156 HI.out HZ0.out HZ1.out HZ2.out rfl (by omega) (.slice (some ⟨w.heap.size,0,none⟩) 0 0) 0 [] rfl ⟨by simp,.inr ⟨w.heap.size,0,#[],rfl,Nat.le_refl _,heap_alloc_new w _,Nat.le_refl _,by unfold maxLen;omega,rfl,rfl⟩⟩ a l.length c (l.flatMap handleC) rfl (H0.out) (HN.out _) HO.out (by unfold maxLen;omega) (by have:=Hl.out;omega) (by simp) ?_;intro v' w' hown hg _ _)
  go_ret
  refine ⟨_,rfl,?_,((Below.refl w.heap.size w).alloc (Nat.le_refl _) _).grown hg (by simp) (fun k hk => by cases hk;exact Nat.le_refl _)⟩
  simpa using hown
end Go.Proofs.YtfdillpofciicaaGreatDoor
