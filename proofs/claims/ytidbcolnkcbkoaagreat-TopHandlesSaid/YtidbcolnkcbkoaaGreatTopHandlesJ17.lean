import Derived.Test.YtidbcolnkcbkoaaGreatTopHandlesJ16
/- A part of the proof that TopHandles returns true. -/
namespace Go.Proofs.YtidbcolnkcbkoaaGreat
open Go Go.RowKit
attribute [local go_sem] AllFrom.cons_eq AllFrom.nil_eq putF_nil putF_cons wantedL_none wantedL_some OpGoalT OpGoalV OpGoalQ OpGoalA OpGoalK YieldsR preF_nil preF_cons
structure IGet (n m : Nat) (w2 : World) (zs row : Array Value) (T : TypeId) (L : Nat → Bool) (σ : Nat → Value) (V : World) : Prop where
 b : Below w2.heap.size w2 V
 blk : L n = true → ∃ g,σ n = .pointer (some ⟨g,0,none⟩) ∧ w2.heap.size ≤ g ∧ V.heap[g]? = some (.cells (if L m = true then row else zs) T (0,0))
section
variable {n m : Nat} {w2 V V' : World} {zs row : Array Value} {T : TypeId} {L : Nat → Bool} {σ : Nat → Value}
theorem IGet.start (h : Below w2.heap.size w2 V) : IGet n m w2 zs row T (fun _ => false) σ V:=⟨h,fun e => by cases e⟩
theorem IGet.read (h : IGet n m w2 zs row T L σ V) {i : Nat} (h1 : i ≠ n) (h2 : i ≠ m) (v : Value) : IGet n m w2 zs row T (upd L i) (updv σ i v) V:=by
 have e1 : upd L i n = L n:=by unfold upd;simp [Ne.symm h1]
 have e2 : upd L i m = L m:=by unfold upd;simp [Ne.symm h2]
 refine ⟨h.b,fun e => ?_⟩
 rw [e1] at e
 rw [e2]
 obtain ⟨g,q1,q2,q3⟩:=h.blk e
 exact ⟨g,by unfold updv;rw [if_neg (Ne.symm h1)];exact q1,q2,q3⟩
theorem IGet.step (h : IGet n m w2 zs row T L σ V) (hb : Below V.heap.size V V') : IGet n m w2 zs row T L σ V' :=
 ⟨h.b.trans (hb.mono h.b.size),fun e => by obtain ⟨g,q1,q2,q3⟩:=h.blk e;exact ⟨g,q1,q2,(Mod.ofBelow hb).keep q3 (by simp)⟩⟩
theorem IGet.made (h : IGet n m w2 zs row T L σ V) (hnm : n ≠ m) (hm : L m = false) : IGet n m w2 zs row T (upd L n) (updv σ n (.pointer (some ⟨V.heap.size,0,none⟩))) (V.alloc (.cells zs T)):=by
 refine ⟨h.b.alloc h.b.size _,fun _ => ⟨V.heap.size,by unfold updv;rw [if_pos rfl],h.b.size,?_⟩⟩
 have e2 : upd L n m = false:=by unfold upd;simp [Ne.symm hnm,hm]
 rw [e2];exact heap_alloc_new V _
theorem IGet.stored {zl rl : List Value} (h : IGet n m w2 zl.toArray rl.toArray T L σ V) (hnm : n ≠ m) (hn : L n = true) (hm : L m = false) (hl : rl.length = zl.length) : ∃ g,σ n = .pointer (some ⟨g,0,none⟩) ∧ V.there g 0 rl.length ∧ ∀ v,IGet n m w2 zl.toArray rl.toArray T (upd L m) (updv σ m v) (V.setCells g 0 rl):=by
 obtain ⟨g,q1,q2,q3⟩:=h.blk hn
 rw [hm] at q3
 simp only [Bool.false_eq_true,if_false] at q3
 have hst:=setCells_block (w:=V) rl 0 V zl q3
 rw [setL_all rl zl hl] at hst
 have hmod:=mod_setCells (F:=[g]) (g:=g) (.inl (by simp)) rl 0 V (Mod.refl _ V)
 refine ⟨g,q1,hl ▸ blk_there q3 (Nat.le_refl _),fun v => ⟨h.b.trans (hmod.toBelow (by simpa using q2) h.b.size),fun _ => ⟨g,by unfold updv;rw [if_neg hnm];exact q1,q2,?_⟩⟩⟩
 have e2 : upd L m m = true:=by simp [upd]
 rw [e2];exact hst
end
theorem yr_store {P : Program} {o : Oper} {ρ : Operand → Value} {w : World} {J : Value → World → Prop} (ty : TypeId) (x y : Operand) (ho : o.op = .store ty x y) (b f : Nat) (vs : List Value) (hx : ρ x = .pointer (some ⟨b,f,none⟩)) (hy : ρ y = .agg vs.toArray) (ht : w.there b f vs.length)
  (hi : (P.info? ty).map (·.size) = some vs.length) (h1 : ∀ u ∈ vs,u.oneCell' = true) (h : J undef (w.setCells b f vs)) : YieldsR P o ρ w J:=by
 unfold YieldsR execOp
 simp only [ho,hx,hy,Instr.storeAt,Instr.sureAddr,Sem.run_bind,Sem.run_pure,Result.andThen_ok,run_storeVar_mid w b f ty vs.toArray (by simpa using ht) (by simpa using hi) (all_oneCell_toArray h1)]
 simpa using h
theorem IGet.yr_stored {P : Program} {o : Oper} {ρ : Operand → Value} {J : Value → World → Prop} {n m : Nat} {w2 V : World} {zl rl : List Value} {T : TypeId} {L : Nat → Bool} {σ : Nat → Value}
  (h : IGet n m w2 zl.toArray rl.toArray T L σ V) (hnm : n ≠ m) (hn : L n = true) (hm : L m = false) (hl : rl.length = zl.length) (ty : TypeId) (x y : Operand) (ho : o.op = .store ty x y) (hx : ρ x = σ n) (hy : ρ y = .agg rl.toArray)
  (hi : (P.info? ty).map (·.size) = some rl.length) (h1 : ∀ u ∈ rl,u.oneCell' = true) (hJ : ∀ V',IGet n m w2 zl.toArray rl.toArray T (upd L m) (updv σ m undef) V' → J undef V') : YieldsR P o ρ V J:=by
 obtain ⟨g,hr,hth,hst⟩:=h.stored hnm hn hm hl
 exact yr_store ty x y ho g 0 rl (hx.trans hr) hy hth hi h1 (hJ _ (hst _))
section
variable {w : World} {p : Nat} {sl : Sl} {L : List Rw} {F : List Nat}
set_option maxRecDepth 20000 in
set_option maxHeartbeats 4000000 in
theorem wget_dead (h : RepW w p sl L F) (s g : Int) (hd : liveB sl s g = false) :
  Calls Tryz.prog 12 #[.pointer (some ⟨p,0,none⟩),.agg #[.int .i64 s,.int .i64 g]] w (fun e w' => e = .returned (.tuple #[.agg #[.int .i64 0,.int .i64 0,.int .i64 0,.int .i64 0,.int .i64 0,.int .i64 0,.int .i64 0,.int .i64 0,.int .i64 0],.int .i64 7]) ∧ Below w.heap.size w w'):=by
 obtain ⟨w0,hw0,hb0,hz0,hz1,hs0⟩:=box2 w (.cells #[.int .i64 s,.int .i64 g] 43) (.cells #[.int .i64 0,.int .i64 0,.int .i64 0,.int .i64 0,.int .i64 0,.int .i64 0,.int .i64 0,.int .i64 0,.int .i64 0] 41)
 obtain ⟨ps,mt,mp,tb,rw,pl,FS,Fs,c,hW,hC,hO,rfl⟩:=h
 have hW0:=hW.below hb0
 have e0:=blk_cell hW0.blk 0
 simp only [eA,eZ,eS] at e0
 have hpl:=blk_lt hW0.blk
 obtain ⟨q0,q1,ql⟩:=cells2 hz0
 have h1:=live_any ps sl FS s g w0.drew (hW0.below below_drew).sl
 rw [hd] at h1
 obtain ⟨H1,Hb0,Hs0,Hz1⟩:=hid4 h1 hb0 hs0 hz1
 clear h1 hb0 hs0 hz1
 clear hz0 hW hW0 hC hO hd
 go_enter Tryz.func12,Tryz.ntmps12
 go_wp2_with fail
 clear hw0
 refine wp_planR 5 [0] [some 9,some 10,some 11,some 12,some 13,some 14,some 15] [[],[0],[0,1],[0,1,2],[],[0,1,2,3,4],[0,1,2,3,4,5]] [0,1,2,3,4] mixed rfl (by kernel_rfl) (by decide) (by decide) rfl ?_
 iterate 5 apply Exists.intro
 refine ⟨rfl,?_,?_⟩
 ·simp only [tS,List.take_zero,AllFrom.cons_eq,AllFrom.nil_eq,OpGoalQ]
  refine ⟨?_,?_,?_,?_,?_,trivial⟩
  all_goals (intro σ hp;(try simp only [gZ,gS,mC,mN,preF_cons,preF_nil,isV,and_true] at hp);(first | (have hq : True:=hp;clear hq hp) | skip))
  all_goals (go_simp;exact ⟨rfl,rfl⟩)
 intro σ hp
 simp only [gZ,gS,mC,mN,preF_cons,preF_nil,isV,and_true] at hp
 simp only [dS,List.drop_zero]
 go_simp
 clear hp
 go_wp2_with fail
 refine H1.out.mono ?_
 rintro e w1 ⟨rfl,hb1⟩
 have hb01 : Below w0.heap.size w0 w1:=below_drew.trans hb1
 have hz1:=(Mod.ofBelow hb01).keep Hz1.out (by simp)
 obtain ⟨r0,r1,r2,r3,r4,r5,r6,r7,r8,rl⟩:=cells9 hz1
 have f0:=blk_free hz1 0
 have f1:=blk_free hz1 1
 have f2:=blk_free hz1 2
 have f3:=blk_free hz1 3
 have f4:=blk_free hz1 4
 have f5:=blk_free hz1 5
 have f6:=blk_free hz1 6
 have f7:=blk_free hz1 7
 have f8:=blk_free hz1 8
 have HB:=Lib.hid (Hb0.out.trans (hb01.mono Hb0.out.size))
 have hs0:=Hs0.out
 have hl : w.heap.size ≤ w.heap.size + 1:=by omega
 clear hb1 hb01 hz1 hs0 q0 q1 ql
 go_wp2_with fail
 refine ⟨rfl,?_⟩
 go_wp2
 refine bodyPost_ret (v:=.tuple #[.agg #[.int .i64 0,.int .i64 0,.int .i64 0,.int .i64 0,.int .i64 0,.int .i64 0,.int .i64 0,.int .i64 0,.int .i64 0],.int .i64 7]) (by unfold results;try go_simp) rfl ?_
 refine ⟨rfl,?_⟩
 repeat (refine Below.setCell ?_ hl _)
 exact HB.out
set_option maxRecDepth 20000 in
set_option maxHeartbeats 8000000 in
theorem wget_live (h : RepW w p sl L F) (s kn : Nat) (g a0 a1 a2 a3 a4 a5 a6 a7 : Int) (hxL : (((s : Int),g),(kn : Int),a0,a1,a2,a3,a4,a5,a6,a7) ∈ L) :
  Calls Tryz.prog 12 #[.pointer (some ⟨p,0,none⟩),.agg #[.int .i64 (s : Int),.int .i64 g]] w (fun e w' => e = .returned (.tuple #[.agg #[.int .i64 (kn : Int),.int .i64 a0,.int .i64 a1,.int .i64 a2,.int .i64 a3,.int .i64 a4,.int .i64 a5,.int .i64 a6,.int .i64 a7],.int .i64 0]) ∧ Below w.heap.size w w'):=by
 have hd : liveB sl (s : Int) g = true:=(h.ok.live _ _).2 ⟨_,hxL,rfl⟩
 obtain ⟨w0,hw0,hb0,hz0,hz1,hs0⟩:=box2 w (.cells #[.int .i64 (s : Int),.int .i64 g] 43) (.cells #[.int .i64 0,.int .i64 0,.int .i64 0,.int .i64 0,.int .i64 0,.int .i64 0,.int .i64 0,.int .i64 0,.int .i64 0] 41)
 obtain ⟨ps,mt,mp,tb,rw,pl,FS,Fs,c,hW,hC,hO,rfl⟩:=h
 obtain ⟨s0,kn0,i,e1,hpm,hx⟩:=hC.has _ hxL
 simp only at e1
 obtain rfl : s = s0:=by omega
 obtain ⟨s1,hs60,e2⟩:=hO.slot hxL
 simp only at e2
 obtain rfl : s = s1:=by omega
 obtain ⟨hk,-⟩:=hC.pla _ _ _ hpm
 obtain ⟨-,e3,-⟩:=hC.row kn0 hk i _ hx
 simp only at e3
 obtain rfl : kn = kn0:=by omega
 obtain ⟨hg,hkn⟩:=beastZ_good (x:=(((s : Int),g),(kn : Int),a0,a1,a2,a3,a4,a5,a6,a7)) (hO.be _ hxL) rfl
 have hl : (rw kn).length ≤ L.length:=hC.len (fun _ h => h) hk
 have hl2:=hO.len
 obtain ⟨⟨k',b⟩,hkb,hk'⟩:=List.mem_map.1 hk
 simp only at hk'
 subst hk'
 have hs256 : s < 256:=by omega
 have hl3 : (rw k').length ≤ 1200000000000:=by omega
 have hW0:=hW.below hb0
 have e0:=blk_cell hW0.blk 0
 simp only [eA,eZ,eS] at e0
 have hpl:=blk_lt hW0.blk
 obtain ⟨q0,q1,ql⟩:=cells2 hz0
 have h1:=live_any ps sl FS (s : Int) g w0.drew (hW0.below below_drew).sl
 rw [hd] at h1
 obtain ⟨H1,Hb0,Hs0,Hz1,Hz0,HW0,Hx,Hpm,Hk,Hkb,Hg,Hkn,Hs256,Hl3⟩:=hid14 h1 hb0 hs0 hz1 hz0 hW0 hx hpm hk hkb hg hkn hs256 hl3
 clear h1 hb0 hs0 hz1 hz0 hW0 hx hpm hk hkb hg hkn hs256 hl3
 clear hW hC hO hd hxL hl hl2 hs60
 go_enter Tryz.func12,Tryz.ntmps12
 go_wp2_with fail
 clear hw0
 refine wp_planR 5 [0] [some 9,some 10,some 11,some 12,some 13,some 14,some 15] [[],[0],[0,1],[0,1,2],[],[0,1,2,3,4],[0,1,2,3,4,5]] [0,1,2,3,4] mixed rfl (by kernel_rfl) (by decide) (by decide) rfl ?_
 iterate 5 apply Exists.intro
 refine ⟨rfl,?_,?_⟩
 ·simp only [tS,List.take_zero,AllFrom.cons_eq,AllFrom.nil_eq,OpGoalQ]
  refine ⟨?_,?_,?_,?_,?_,trivial⟩
  all_goals (intro σ hp;(try simp only [gZ,gS,mC,mN,preF_cons,preF_nil,isV,and_true] at hp);(first | (have hq : True:=hp;clear hq hp) | skip))
  all_goals (go_simp;exact ⟨rfl,rfl⟩)
 intro σ hp
 simp only [gZ,gS,mC,mN,preF_cons,preF_nil,isV,and_true] at hp
 simp only [dS,List.drop_zero]
 go_simp
 clear hp
 go_wp2_with fail
 refine H1.out.mono ?_
 rintro e w1 ⟨rfl,hb1⟩
 have hb01 : Below w0.heap.size w0 w1:=below_drew.trans hb1
 have hz0:=(Mod.ofBelow hb01).keep Hz0.out (by simp)
 have hz1:=(Mod.ofBelow hb01).keep Hz1.out (by simp)
 have hW1:=HW0.out.below hb01
 clear q0 q1 ql e0 hpl
 obtain ⟨q0,q1,ql⟩:=cells2 hz0
 have e0:=blk_cell hW1.blk 2
 simp only [eA,eZ,eS] at e0
 have hpl:=blk_lt hW1.blk
 have hlk:=mi_in plPr_keys Tryz.underlying69 (hW1.below below_drew).pm Hs256.out Hpm.out false
 have hlk2:=mi_in plPr_keys Tryz.underlying69 (hW1.below ((Below.refl _ w1).alloc (Nat.le_refl _) (.cells #[.int .i64 0,.int .i64 0] 95)).drew).pm Hs256.out Hpm.out false
 simp only [plPr,Bool.false_eq_true,if_false] at hlk hlk2
 obtain ⟨w2,hw2⟩ : ∃ w2,(w1.alloc (.cells #[.int .i64 (k' : Int),.int .i64 (i : Int)] 95)).drew = w2:=⟨_,rfl⟩
 have hb12 : Below w1.heap.size w1 w2:=by rw [← hw2];exact ((Below.refl _ w1).alloc (Nat.le_refl _) _).drew
 have hu2 : w2.heap[w1.heap.size]? = some (.cells #[.int .i64 (k' : Int),.int .i64 (i : Int)] 95 (0,0)):=by rw [← hw2];exact blk_drew (heap_alloc_new w1 _)
 have hB02:=Hb0.out.trans ((hb01.trans (hb12.mono hb01.size)).mono Hb0.out.size)
 have hW2:=hW1.below hb12
 have hy1:=(Mod.ofBelow hb12).keep hz1 (by simp)
 have hsz : w0.heap.size ≤ w1.heap.size:=hb01.size
 obtain ⟨Hw2,Hu2,HB02,HW2,Hy1⟩:=hid5 hw2 hu2 hB02 hW2 hy1
 clear hw2 hu2 hB02 hW2 hy1
 clear hb1 hb01 hz0 hz1 hW1 hb12
 go_wp2_with fail
 refine ⟨rfl,?_⟩
 go_wp2_with fail
 refine wp_planA ((w1.alloc (.cells #[.int .i64 0,.int .i64 0] 95)).drew) 7 8 [0] [some 17,some 18,some 19,some 20,some 21,some 22,some 23,some 6,none] [[],[0],[0,1],[0,1,2],[],[4],[0,1,2,3,4,5],[],[0,1,2,3,4,5,6,7]] [0,1,2,3,4,5,6,7] mixed rfl (by kernel_rfl) (by decide) (by decide) (by decide) rfl ?_
 iterate 8 apply Exists.intro
 refine ⟨rfl,?_,?_⟩
 ·simp only [tS,List.take_zero,AllFrom.cons_eq,AllFrom.nil_eq,OpGoalA]
  refine ⟨?_,?_,?_,?_,?_,?_,?_,?_,trivial⟩
  all_goals (intro σ hp;(try simp only [gZ,gS,mC,mN,preF_cons,preF_nil,isV,and_true] at hp);(first | (have hq : True:=hp;clear hq hp) | skip))
  all_goals (go_simp;first | exact ⟨⟨rfl,rfl⟩,⟨rfl,rfl⟩⟩ | exact ⟨rfl,rfl⟩)
 intro σ hp
 simp only [gZ,gS,mC,mN,preF_cons,preF_nil,isV,and_true] at hp
 simp only [dS,List.drop_zero]
 go_simp
 clear hp
 go_wp2_with fail
 rw [Hw2.out]
 refine ⟨rfl,?_⟩
 clear hlk hlk2 e0 hpl q0 q1 ql
 go_wp2_with fail
 obtain ⟨zl,hzl⟩ : ∃ zl,zl = ints zero11:=⟨_,rfl⟩
 obtain ⟨rl,hrl⟩ : ∃ rl,rl = ints [(s : Int),g,(k' : Int),a0,a1,a2,a3,a4,a5,a6,a7]:=⟨_,rfl⟩
 obtain ⟨Hzl,Hrl⟩:=hid2 hzl hrl
 clear hzl hrl
 refine wp_planK [13] 15 [0] [some 25,some 26,some 27,some 28,some 29,some 30,some 31,some 32,some 33,some 34,some 24,some 35,some 36,some 7,none,some 8] [[],[0],[0,1],[0,1,2],[],[4],[0,1,2,3,4,5],[],[7],[0,1,2,3,4,5,6,7,8],[0,1,2,3,4,5,6,7,8,9],[0,1,2,3,4,5,6,7,8,9,10],[0,1,2,3,4,5,6,7,8,9,10],[],[0,1,2,3,4,5,6,7,8,9,10,11,13],[0,1,2,3,4,5,6,7,8,9,10,11,12,13,14]] [0,1,2,3,4,5,6,7,8,9,10,11,12,13,14] (fun L σ V => IGet 13 14 w2 zl.toArray rl.toArray 63 L σ V) mixed rfl (by kernel_rfl) (by decide) (by decide) (by decide) (IGet.start (Below.refl _ _).drew) rfl ?_
 iterate 15 apply Exists.intro
 refine ⟨rfl,?_,?_⟩
 ·simp only [tS,List.take_zero,AllFrom.cons_eq,AllFrom.nil_eq,OpGoalK]
  refine ⟨?_,?_,?_,?_,?_,?_,?_,?_,?_,?_,?_,?_,?_,?_,?_,trivial⟩
  all_goals (intro L' σ V h1 h2 h3 hI hp;have HA1:=Lib.hid h1;have HA2:=Lib.hid h2;have HA3:=Lib.hid h3;clear h1 h2 h3;(try simp only [gZ,gS,preK_cons,preK_nil] at hp);(try simp only [List.mem_cons,List.not_mem_nil,or_false,eq_self,Nat.reduceEqDiff,Nat.reduceAdd,Nat.zero_add,false_or,true_or,true_and,and_true] at hp);(first | (have hq : True:=hp;clear hq hp) | skip);have HI:=Lib.hid hI;clear hI)
  all_goals (
   have hWV:=HW2.out.below HI.out.b
   have huV:=(Mod.ofBelow HI.out.b).keep Hu2.out (by simp)
   have e0:=blk_cell hWV.blk 1
   have u0:=blk_cell huV 0
   have u1:=blk_cell huV 1
   simp only [eA,eZ,eS] at e0 u0 u1
   have hlk:=mi_in colPr_keys Tryz.underlying68 hWV.tm Hkn.out Hkb.out false
   simp only [colPr,Bool.false_eq_true,if_false] at hlk
   have hR:=Lib.hid (rt_row (hWV.tab _ Hkb.out) Hx.out Hg.out Hl3.out)
   clear hWV huV)
  iterate 9 · (go_simp;exact ⟨.inr rfl,HI.out.read (by decide) (by decide) _⟩)
  ·go_simp
   refine hR.out.mono ?_
   rintro e V' ⟨rfl,hb⟩
   exact ⟨_,rfl,.inr rfl,(HI.out.read (by decide) (by decide) _).step hb⟩
  iterate 3 · (go_simp;exact ⟨.inr rfl,HI.out.read (by decide) (by decide) _⟩)
  ·go_simp
   have hmk:=HI.out.made (by decide) (HA3.out 14 (by decide))
   rw [Hzl.out] at hmk ⊢
   exact PostK.mk (c:=undef) (.inl (by decide)) hmk
  ·simp only [wantedL_none,if_true,Nat.reduceAdd,Nat.zero_add]
   have x3:=HA1.out
   simp only [Nat.reduceAdd,Nat.zero_add] at x3
   generalize hρ : Act.eval _ = ρ
   refine IGet.yr_stored HI.out (by decide) (HA2.out 13 (by decide)) x3 (by rw [Hzl.out,Hrl.out];simp [ints,zero11]) 63 (.tmp 7) (.tmp 35) rfl ?_ ?_ (by rw [Hrl.out];exact info_of inf_Row) (by rw [Hrl.out];exact ints_one _) (fun V' hV' => PostK.mk (c:=undef) (.inr rfl) hV')
   ·rw [← hρ]
    go_simp
   ·rw [← hρ]
    go_simp
    rw [Hrl.out]
    rfl
 ·intro L' σ V h1 hI hp
  obtain ⟨r,s13,hr,hst2⟩:=hI.blk (h1 13 (by decide))
  rw [if_pos (h1 14 (by decide)),Hrl.out] at hst2
  clear h1
  simp only [preK_cons,preK_nil,gZ,gS] at hp;simp only [List.mem_cons,List.not_mem_nil,or_false,eq_self,Nat.reduceEqDiff,false_or,true_or,true_and,and_true] at hp
  have HB:=Lib.hid hI.b
  have Hst2:=Lib.hid hst2
  have Hr:=Lib.hid hr
  clear hI hst2 hr
  simp only [dS,List.drop_zero]
  go_simp
  clear hp
  generalize σ 13 = v13 at *
  subst s13
  have hst2 : V.heap[r]? = some (.cells #[.int .i64 (s : Int),.int .i64 g,.int .i64 (k' : Int),.int .i64 a0,.int .i64 a1,.int .i64 a2,.int .i64 a3,.int .i64 a4,.int .i64 a5,.int .i64 a6,.int .i64 a7] 63 (0,0)):=Hst2.out
  have hr:=Hr.out;have hB:=HB.out
  obtain ⟨v0,v1,v2,v3,v4,v5,v6,v7,v8,v9,v10,vl⟩:=cells11 hst2
  have hs0:=Hs0.out
  have hl1:=blk_lt Hu2.out
  have hy2:=(Mod.ofBelow hB).keep Hy1.out (by simp)
  obtain ⟨r0,r1,r2,r3,r4,r5,r6,r7,r8,rl⟩:=cells9 hy2
  have f0:=blk_free hy2 0
  have f1:=blk_free hy2 1
  have f2:=blk_free hy2 2
  have f3:=blk_free hy2 3
  have f4:=blk_free hy2 4
  have f5:=blk_free hy2 5
  have f6:=blk_free hy2 6
  have f7:=blk_free hy2 7
  have f8:=blk_free hy2 8
  have n1 : r ≠ w.heap.size + 1:=by omega
  have n2 : w.heap.size + 1 ≠ r:=by omega
  have hle : w.heap.size ≤ w.heap.size + 1:=by omega
  have hBf : Below w.heap.size w V:=HB02.out.trans (hB.mono HB02.out.size)
  have HBf:=Lib.hid hBf
  clear hBf
  clear hst2 hy2 hs0 hr hB
  go_wp2_with fail
  refine ⟨rfl,?_⟩
  go_wp2
  refine bodyPost_ret (v:=.tuple #[.agg #[.int .i64 (k' : Int),.int .i64 a0,.int .i64 a1,.int .i64 a2,.int .i64 a3,.int .i64 a4,.int .i64 a5,.int .i64 a6,.int .i64 a7],.int .i64 0]) (by unfold results;try go_simp) rfl ?_
  refine ⟨rfl,?_⟩
  repeat (refine Below.setCell ?_ hle _)
  exact HBf.out
 all_goals exact undef
theorem wget_any (h : RepW w p sl L F) (s g : Int) :
  Calls Tryz.prog 12 #[.pointer (some ⟨p,0,none⟩),.agg #[.int .i64 s,.int .i64 g]] w (fun e w' => e = .returned (.tuple #[.agg (btC (getB L (s,g))).toArray,.int .i64 (getE L (s,g))]) ∧ Below w.heap.size w w'):=by
 have hO:=h.ok
 rcases hO.idx s g with ⟨h1,i,h2⟩ | ⟨h1,h2⟩
 ·obtain ⟨hl,he⟩:=idx_some h2
  have hm : L[i] ∈ L:=List.getElem_mem hl
  rw [show getE L (s,g) = 0 by unfold getE;rw [h2],show getB L (s,g) = L[i].2 by unfold getB;rw [h2];simp only;rw [List.getD_eq_getElem?_getD,List.getElem?_eq_getElem hl];rfl]
  obtain ⟨kn,hkn,hK,-⟩:=(beastZ_iff _).1 (hO.be _ hm)
  obtain ⟨s1,hs1,hs2⟩:=hO.slot hm
  generalize L[i] = x at *
  obtain ⟨⟨xs,xg⟩,xK,a0,a1,a2,a3,a4,a5,a6,a7⟩:=x
  simp only [Prod.mk.injEq] at he hK hs2
  obtain ⟨rfl,rfl⟩:=he
  subst hK hs2
  exact wget_live h s1 kn xg a0 a1 a2 a3 a4 a5 a6 a7 hm
 ·rw [show getE L (s,g) = 7 by unfold getE;rw [h2],show getB L (s,g) = (0,0,0,0,0,0,0,0,0) by unfold getB;rw [h2];rfl]
  exact wget_dead h s g h1
end
end Go.Proofs.YtidbcolnkcbkoaaGreat
namespace Go.Proofs.YtidbcolnkcbkoaaGreat
open Go.RowKit
attribute [local go_sem] AllFrom.cons_eq AllFrom.nil_eq putF_nil putF_cons wantedL_none wantedL_some OpGoalT OpGoalS OpGoalP OpGoalV YieldsR preF_nil preF_cons
variable {vL vB : Value}
end Go.Proofs.YtidbcolnkcbkoaaGreat
namespace Go.Proofs.YtidbcolnkcbkoaaGreat
open Go Go.RowKit
variable {vB : Value}
attribute [local go_sem] AllFrom.cons_eq AllFrom.nil_eq putF_nil putF_cons wantedL_none wantedL_some OpGoalT OpGoalV OpGoalQ YieldsR preF_nil preF_cons
end Go.Proofs.YtidbcolnkcbkoaaGreat
namespace Go.Proofs.YtidbcolnkcbkoaaGreat
open Go Go.RowKit
variable {vB : Value}
attribute [local go_sem] AllFrom.cons_eq AllFrom.nil_eq putF_nil putF_cons wantedL_none wantedL_some OpGoalT OpGoalV OpGoalQ YieldsR preF_nil preF_cons
theorem app_row {w : World} {ops : Array Oper} {rest : List Oper} {o : Oper} {a : Act} {Q : Exit → Act → World → Prop} (hgd : o.guard = none) (s x : Operand)
  (ho : o.op = .call { callee:=.builtin .append,args:=#[s,x],argTypes:=#[27,27] }) (base : Nat) (v : Value) (l : List Rw) (y : Rw) (ad : Addr) (c : Nat)
  (hs : a.eval s = v) (hown : w.ownsRow base 63 11 v l.length (l.flatMap rwC)) (hx : a.eval x = .slice (some ad) 1 c) (hc : ∀ j u,(rwC y)[j]? = some u → w.cell? (ad.add j) = some u)
  (hlen : l.length < 1200000000000) (hbase : base ≤ w.heap.size)
  (h : ∀ v' w',w'.ownsRow base 63 11 v' (l ++ [y]).length ((l ++ [y]).flatMap rwC) → Below base w w' → wpList Tryz.prog ops Q rest (a.put o.dst v') w') : wpList Tryz.prog ops Q (o :: rest) a w:=by
 refine app_rec (enc:=rwC) (n:=11) (z:=.agg (ints zero11).toArray) (bytes:=88) hgd s x 27 63 ho Tryz.underlying27 inf_Row rfl (by omega) (by omega) rwC_one rwC_len base v l y ad c hs hown hx hc (by omega) hbase ?_
 intro v' w' h1 h2 _
 exact h v' w' h1 ((Below.refl base w).grown h2 hbase (own_ge hown))
end Go.Proofs.YtidbcolnkcbkoaaGreat
namespace Go.Proofs.YtidbcolnkcbkoaaGreat
open Go Go.RowKit
variable {vB : Value}
attribute [local go_sem] AllFrom.cons_eq AllFrom.nil_eq putF_nil putF_cons wantedL_none wantedL_some OpGoalT OpGoalV OpGoalQ YieldsR preF_nil preF_cons
section
variable {w w1 : World} {q : Nat} {sl : Sl} {L L' : List Rw} {F : List Nat} {v : Value}
end
end Go.Proofs.YtidbcolnkcbkoaaGreat
namespace Go.Proofs.YtidbcolnkcbkoaaGreat
open Go Go.RowKit
variable {{vB : Value}}
attribute [local go_sem] AllFrom.cons_eq AllFrom.nil_eq putF_nil putF_cons wantedL_none wantedL_some OpGoalT OpGoalV OpGoalQ YieldsR preF_nil preF_cons
section
variable {w : World} {q : Nat} {sl : Sl} {L : List Rw} {F : List Nat}
theorem putE_some {h : Hd} {i : Nat} {k n : Int} (hi : idxL L h = some i) : putE L h k n = if putBad k n then 1 else 0:=by unfold putE;rw [hi]
theorem putE_none {h : Hd} {k n : Int} (hi : idxL L h = none) : putE L h k n = 7:=by unfold putE;rw [hi]
theorem putW_some {h : Hd} {i : Nat} {k n : Int} (hi : idxL L h = some i) : putW L h k n = if putBad k n then L else L.modify i (fun x => putR x k.toNat n):=by unfold putW;rw [hi]
theorem putW_none {h : Hd} {k n : Int} (hi : idxL L h = none) : putW L h k n = L:=by unfold putW;rw [hi]
theorem dropE_some {h : Hd} {i : Nat} {k : Int} (hi : idxL L h = some i) (hl : i < L.length) : dropE L h k = if k < 0 ∨ 7 < k then 1 else if hasK L[i].2.1 k.toNat = true then 0 else 5:=by unfold dropE;rw [hi];simp only;rw [List.getD_eq_getElem?_getD,List.getElem?_eq_getElem hl];rfl
theorem dropE_none {h : Hd} {k : Int} (hi : idxL L h = none) : dropE L h k = 7:=by unfold dropE;rw [hi]
theorem dropL_some {h : Hd} {i : Nat} {k : Int} (hi : idxL L h = some i) : dropL L h k = if dropE L h k = 0 then L.modify i (fun x => dropR x k.toNat) else L:=by unfold dropL;rw [hi]
theorem dropL_none {h : Hd} {k : Int} (hi : idxL L h = none) : dropL L h k = L:=by unfold dropL;rw [hi]
theorem putR_has {x : Rw} {j : Nat} {n : Int} (h : hasK x.2.1 j = true) : putR x j n = rwSet x j n:=by
 unfold putR putK;rw [if_pos h]
 obtain ⟨⟨s,g⟩,K',a0,a1,a2,a3,a4,a5,a6,a7⟩:=x
 rfl
theorem putR_not {x : Rw} {j : Nat} {n : Int} (h : hasK x.2.1 j = false) : putR x j n = rwSet (x.1,(x.2.1 + pw j,x.2.2)) j n:=by
 unfold putR putK;rw [if_neg (by rw [h];simp)]
 obtain ⟨⟨s,g⟩,K',a0,a1,a2,a3,a4,a5,a6,a7⟩:=x
 rfl
theorem dropR_eq {x : Rw} {j : Nat} : dropR x j = rwSet (x.1,(x.2.1 - pw j,x.2.2)) j 0:=by
 unfold dropR
 obtain ⟨⟨s,g⟩,K',a0,a1,a2,a3,a4,a5,a6,a7⟩:=x
 rfl
end
end Go.Proofs.YtidbcolnkcbkoaaGreat
