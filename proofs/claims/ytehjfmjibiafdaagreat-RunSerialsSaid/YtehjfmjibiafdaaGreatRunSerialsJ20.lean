import Derived.Test.YtehjfmjibiafdaaGreatRunSerialsJ18
/- A part of the proof that RunSerials returns true. -/
namespace Go.Proofs.YtehjfmjibiafdaaGreat
open Go.RowKit
attribute [local go_sem] AllFrom.cons_eq AllFrom.nil_eq putF_nil putF_cons wantedL_none wantedL_some OpGoalT OpGoalS OpGoalP OpGoalV YieldsR preF_nil preF_cons
variable {vL vB : Value}
def RepZS (vL vB : Value) (w : World) (q : Nat) (l : Sl) (F : List Nat) : Prop :=
 ∃ vg vl,w.heap[q]? = some (.cells #[vg,vl,vL,vB] 47 (0,0)) ∧ w.ownsRow 0 3 1 vg l.length (ints (gensS l)) ∧ w.ownsRow 0 4 1 vl l.length (bools (livesS l)) ∧
  F = q :: (vg.ownBlock.toList ++ vl.ownBlock.toList) ∧ F.Nodup
theorem RepZS.mod {w w' : World} {q : Nat} {l : Sl} {F G : List Nat} (h : RepZS vL vB w q l F) (hm : Mod G w w') (hd : ∀ k ∈ F,k ∉ G) : RepZS vL vB w' q l F:=by
 obtain ⟨vg,vl,h1,h2,h3,rfl,h4⟩:=h
 exact ⟨vg,vl,hm.keep h1 (hd q (by simp)),row_mod h2 hm (fun k hk => hd k (by simp [hk])),row_mod h3 hm (fun k hk => hd k (by simp [hk])),rfl,h4⟩
theorem RepZS.lt {w : World} {p : Nat} {l : Sl} {F : List Nat} (h : RepZS vL vB w p l F) : ∀ k ∈ F,k < w.heap.size:=by
 obtain ⟨vg,vl,h1,h2,h3,rfl,h4⟩:=h
 intro k hk
 rcases List.mem_cons.1 hk with rfl | hk
 ·exact blk_lt h1
 ·rcases List.mem_append.1 hk with hk | hk
  ·exact row_lt h2 k (by simpa using hk)
  ·exact row_lt h3 k (by simpa using hk)
set_option maxHeartbeats 1000000 in
theorem zall_any (p : Nat) (l : Sl) (F : List Nat) (w : World) (h : RepZS vL vB w p l F) (hl : l.length ≤ 60) :
  Calls Tryz.prog 16 #[.pointer (some ⟨p,0,none⟩)] w (MadeRecs 41 2 handleC (allS l) w):=by
 obtain ⟨vg,vl,hp,hg,hv,rfl,hne⟩:=h
 obtain ⟨A,cap,rfl,hc1,hc2⟩:=row_slice hg
 obtain ⟨A',cap',rfl,hc1',hc2'⟩:=row_slice hv
 have hc:=blk_cell hp 0
 have hc':=blk_cell hp 1
 have hpl:=blk_lt hp
 simp at hc hc'
 clear hp hne hc2 hc2'
 go_enter Tryz.func16,Tryz.ntmps16
 go_wp2
 go_loopw [3,11] (fun v i wr => ∃ k : Nat,k ≤ l.length ∧ i = .int .i64 k ∧ wr.ownsRow w.heap.size 41 2 v (allS (l.take k)).length ((allS (l.take k)).flatMap handleC) ∧ Below w.heap.size w wr) (fun _ i _ => l.length - (Go.RowKit.intOf i).toNat)
 case atStart => exact ⟨0,by omega,rfl,⟨rfl,.inl ⟨rfl,rfl⟩⟩,Below.refl _ _⟩
 case round =>
  obtain ⟨k,hk,rfl,hown,hbel⟩:=hrel
  have hsz:=hbel.size
  by_cases hlt : k < l.length
  ·obtain ⟨g0,cap0,cur0,he,-⟩:=row_some hg (by omega)
   cases he
   obtain ⟨g1,cap1,cur1,he,-⟩:=row_some hv (by omega)
   cases he
   have hgl:=row_lt hg g0 rfl
   have hgl1:=row_lt hv g1 rfl
   have hs:=allS_take_succ l k hlt
   have hlen:=allS_len (l.take k)
   rw [List.length_take] at hlen
   have c0:=(hbel.cell (p:=⟨g0,k,none⟩) hgl).trans (row_cell hg (gens_get l k hlt))
   have c1:=(hbel.cell (p:=⟨g1,k,none⟩) hgl1).trans (row_cell hv (lives_get l k hlt))
   have c2:=(hbel.cell (p:=⟨p,0,none⟩) hpl).trans hc
   clear hg hv hc hc'
   generalize allS (l.take k) = L at *
   generalize l[k] = x at *
   obtain ⟨a,b⟩:=x
   simp only at c0 c1 hs
   have Hs:=Lib.hid hs
   clear hs
   cases b with
   | false =>
    have Hs2:=Lib.hid (show allS (l.take (k + 1)) = L by rw [Hs.out];simp)
    go_wp2
    go_roundw
    case rel => exact ⟨k + 1,by omega,by go_num,by rw [Hs2.out];exact hown,hbel⟩
    case measure => simp [Go.RowKit.intOf];omega
   | true =>
    have Hs2:=Lib.hid (show allS (l.take (k + 1)) = L ++ [((k : Int),a)] by rw [Hs.out];simp)
    go_wp2_with (at_builtin;refine app_handle rfl _ _ rfl w.heap.size _ L ((k : Int),a) ⟨wr.heap.size,0,none⟩ 1 rfl (hown.alloc _) rfl (new_rec (by simp) rfl) (by omega) (by simp;omega) ?_;intro v' w1 hown2 hb1)
    go_roundw
    case rel => exact ⟨k + 1,by omega,by go_num,by rw [Hs2.out];exact hown2,(hbel.alloc hsz _).trans hb1⟩
    case measure => simp [Go.RowKit.intOf];omega
  ·obtain rfl : k = l.length:=by omega
   rw [List.take_length] at hown
   clear hg hv hc hc'
   go_wp2
   go_ret
   exact ⟨_,rfl,hown,hbel⟩
set_option maxHeartbeats 1000000 in
theorem zis_any (p : Nat) (l : Sl) (F : List Nat) (s g : Int) (w : World) (h : RepZS vL vB w p l F) (hl : l.length ≤ 60) :
  Calls Tryz.prog 145 #[.pointer (some ⟨p,0,none⟩),.agg #[.int .i64 s,.int .i64 g]] w fun e w' => e = .returned (.bool (liveB l s g)) ∧ Below w.heap.size w w':=by
 have hlen:=allS_len l
 rw [← hasB_all]
 have h1 : ∀ w1,Below w.heap.size w w1 → Calls Tryz.prog 16 #[.pointer (some ⟨p,0,none⟩)] w1 (MadeRecs 41 2 handleC (allS l) w1):=fun w1 hb =>
  zall_any p l F w1 (h.mod (Mod.ofBelow hb) (by simp)) hl
 have h2 : ∀ v w,rowV 0 41 2 (allS l).length ((allS l).flatMap handleC) v w → Calls Tryz.prog 84 #[v,.agg #[.int .i64 s,.int .i64 g]] w fun e w' => e = .returned (.bool (hasB (allS l) (s,g))) ∧ Below w.heap.size w w':=by
  intro v w hv
  obtain ⟨A,c,rfl,hc,hl⟩:=own_lies hv
  exact hasHandle_any A c (allS l) s g w (by omega) hl
 generalize hasB (allS l) (s,g) = r at *
 generalize allS l = L at *
 obtain ⟨H1,H2⟩:=hid2 h1 h2
 clear h1 h2 h
 go_enter Tryz.func145,Tryz.ntmps145
 go_wp2
 refine wp_planE [some 5,some 6,some 7,some 8,some 4] [[],[0],[],[0,1,2],[0,1,2,3]] [0,1,2,3,4] 5 (fun vs => [isV (vs.getD 0 undef),(rowV 0 41 2 L.length (L.flatMap handleC)),isV (vs.getD 2 undef),(isV (.bool r)),isV (vs.getD 4 undef)])
  Grow (fun _ w' => Below (w.heap.size + 1) (w.alloc (.cells #[.int .i64 s,.int .i64 g] 41)) w') mixed rfl (by kernel_rfl) (Below.refl _ _).drew rfl ?_
 iterate 5 apply Exists.intro
 refine ⟨?_,?_,by repeat (first | exact allStab_nil | refine allStab_isV ?_ | refine allStab_rowV ?_)⟩
 ·simp only [AllFrom.cons_eq,AllFrom.nil_eq,OpGoalT]
  refine ⟨?_,?_,?_,?_,?_,trivial⟩
  all_goals (intro L' σ w1 h1 h2 h3 hI hp;clear h1 h2 h3;(try simp only [gZ,gS,preF_cons,preF_nil,isV,and_true] at hp);(first | (have hq : True:=hp;clear hq hp) | skip))
  all_goals (
   have d0 : w1.cell? ⟨w.heap.size,0,none⟩ = some (.int .i64 s):=(hI.cell (p:=⟨w.heap.size,0,none⟩) (by simp)).trans (by simp)
   have d1 : w1.cell? ⟨w.heap.size,1,none⟩ = some (.int .i64 g):=(hI.cell (p:=⟨w.heap.size,1,none⟩) (by simp)).trans (by simp))
  all_goals (try (go_simp;exact ⟨rfl,hI,Grow.refl _⟩))
  ·go_simp
   refine (H1.out w1 (((Below.refl w.heap.size w).alloc (Nat.le_refl _) _).trans (hI.mono (by omega)))).mono ?_
   rintro e w2 ⟨v,rfl,hown,hb⟩
   have hsz:=hI.size
   simp only [World.size_alloc] at hsz
   exact ⟨_,rfl,row_base hown (by simp),hI.trans (hb.mono hsz),hb⟩
  ·have hc:=H2.out _ _ hp.2.1
   go_simp
   refine hc.mono ?_
   rintro e w2 ⟨rfl,hb⟩
   have hsz:=hI.size
   simp only [World.size_alloc] at hsz
   exact ⟨_,rfl,rfl,hI.trans (hb.mono hsz),hb⟩
 ·intro L' σ w1 h1 hI hp
  clear h1
  simp only [gZ,gS,preF_cons,preF_nil,isV,and_true] at hp
  go_simp
  go_wp2
  go_ret
  exact ⟨rfl,((Below.refl w.heap.size w).alloc (Nat.le_refl _) _).trans (hI.mono (by omega))⟩
 all_goals exact undef
theorem RepZS.at_ {w : World} {p : Nat} {l : Sl} {F : List Nat} (h : RepZS vL vB w p l F) {n : Nat} (hn : n < l.length) : ∃ g0 c0 g1 c1,w.heap[p]? = some (.cells #[.slice (some ⟨g0,0,none⟩) l.length c0,.slice (some ⟨g1,0,none⟩) l.length c1,vL,vB] 47 (0,0)) ∧
  g0 ∈ F ∧ g1 ∈ F ∧ g0 ≠ g1 ∧ g1 ≠ g0 ∧ p ≠ g0 ∧ p ≠ g1 ∧ g0 < w.heap.size ∧ g1 < w.heap.size ∧ w.cell? ⟨g0,n,none⟩ = some (.int .i64 l[n].1) ∧ w.cell? ⟨g1,n,none⟩ = some (.bool l[n].2) ∧ (∀ i,w.frozen? ⟨g0,i,none⟩ = false) ∧ (∀ i,w.frozen? ⟨g1,i,none⟩ = false) ∧
  (∀ g b,RepZS vL vB ((w.setCell ⟨g1,n,none⟩ (.bool b)).setCell ⟨g0,n,none⟩ (.int .i64 g)) p (l.set n (g,b)) F) ∧ (∀ b,RepZS vL vB (w.setCell ⟨g1,n,none⟩ (.bool b)) p (l.set n (l[n].1,b)) F):=by
 obtain ⟨vg,vl,hp,hg,hl,rfl,hne⟩:=h
 obtain ⟨g0,c0,cur0,rfl,-,hb0,-⟩:=row_some hg (by omega)
 obtain ⟨g1,c1,cur1,rfl,-,hb1,-⟩:=row_some hl (by omega)
 have hne':=hne
 simp [Value.ownBlock] at hne'
 obtain ⟨⟨n1,n2⟩,n3⟩:=hne'
 refine ⟨g0,c0,g1,c1,hp,by simp [Value.ownBlock],by simp [Value.ownBlock],n3,fun e => n3 e.symm,n1,n2,blk_lt hb0,blk_lt hb1,row_cell hg (gens_get l n hn),row_cell hl (lives_get l n hn),blk_free hb0,blk_free hb1,fun g b => ?_,fun b => ?_⟩
 ·refine ⟨_,_,?_,?_,?_,rfl,hne⟩
  ·rw [blk_set_ne (by simpa using n1),blk_set_ne (by simpa using n2)];exact hp
  ·have h2:=row_set (row_mod hg ((Mod.refl [g1] w).setCell (p:=⟨g1,n,none⟩) (.inl (by simp)) (.bool b)) (by simp [Value.ownBlock,n3])) n (.int .i64 g)
   rw [List.length_set]
   rw [show ints (gensS (l.set n (g,b))) = (ints (gensS l)).set n (.int .i64 g) by simp [ints,gensS,List.map_set]]
   exact h2
  ·have h2:=row_mod (row_set hl n (.bool b)) ((Mod.refl [g0] _).setCell (p:=⟨g0,n,none⟩) (.inl (by simp)) (.int .i64 g)) (by simp [Value.ownBlock];exact fun e => n3 e.symm)
   rw [List.length_set]
   rw [show bools (livesS (l.set n (g,b))) = (bools (livesS l)).set n (.bool b) by simp [bools,livesS,List.map_set]]
   exact h2
 ·refine ⟨_,_,?_,?_,?_,rfl,hne⟩
  ·rw [blk_set_ne (by simpa using n2)];exact hp
  ·rw [List.length_set]
   rw [show gensS (l.set n (l[n].1,b)) = gensS l by
    have e : (l.map (·.1))[n]'(by simpa using hn) = l[n].1:=by simp
    simp only [gensS,List.map_set]
    rw [← e]
    exact List.set_getElem_self _]
   exact row_mod hg ((Mod.refl [g1] w).setCell (p:=⟨g1,n,none⟩) (.inl (by simp)) (.bool b)) (by simp [Value.ownBlock,n3])
  ·have h2:=row_set hl n (.bool b)
   rw [List.length_set]
   rw [show bools (livesS (l.set n (l[n].1,b))) = (bools (livesS l)).set n (.bool b) by simp [bools,livesS,List.map_set]]
   exact h2
set_option maxHeartbeats 1000000 in
theorem zfree_any (p : Nat) (l : Sl) (F : List Nat) (s g : Int) (w : World) (h : RepZS vL vB w p l F) (hok : SlOk l) :
  Calls Tryz.prog 107 #[.pointer (some ⟨p,0,none⟩),.agg #[.int .i64 s,.int .i64 g]] w fun e w' => e = .returned (.int .i64 (freeE l s g)) ∧ RepZS vL vB w' p (freeL l s g) F ∧ Mod F w w':=by
 have hlive:=fun w1 (hb : Below w.heap.size w w1) => zis_any p l F s g w1 (h.mod (Mod.ofBelow hb) (by simp)) hok.1
 have HL:=Lib.hid hlive
 clear hlive
 by_cases hv : liveB l s g = true
 ·have hE : freeE l s g = 0:=by unfold freeE;rw [if_pos hv]
  have hF : freeL l s g = l.set s.toNat (g + 1,false):=by unfold freeL;rw [if_pos hv]
  obtain ⟨h0,hk,hx⟩:=liveB_lt hv
  obtain ⟨n,rfl⟩:=Int.eq_ofNat_of_zero_le h0
  simp only [Int.toNat_natCast] at hk hx hF
  have hg:=hok.at_ hk
  rw [hx] at hg
  simp only at hg
  have hgb:=hg.2.2 trivial
  have hg0:=hg.1
  rw [hv] at HL
  obtain ⟨HE,HF,HR,HX⟩:=hid4 hE hF h hx
  clear hE hF hx hg h hv hok h0
  go_enter Tryz.func107,Tryz.ntmps107
  go_wp2_with fail
  refine (HL.out _ ((Below.refl _ _).alloc (Nat.le_refl _) _)).mono ?_
  rintro e w1 ⟨rfl,hb1⟩
  simp only [World.size_alloc] at hb1
  have d0 : w1.cell? ⟨w.heap.size,0,none⟩ = some (.int .i64 n):=(hb1.cell (p:=⟨w.heap.size,0,none⟩) (by simp)).trans (by simp)
  have d1 : w1.cell? ⟨w.heap.size,1,none⟩ = some (.int .i64 g):=(hb1.cell (p:=⟨w.heap.size,1,none⟩) (by simp)).trans (by simp)
  have hb:=((Below.refl w.heap.size w).alloc (Nat.le_refl _) (.cells #[.int .i64 n,.int .i64 g] 41)).trans (hb1.mono (by omega))
  obtain ⟨g0,k0,g1,k1,hp,hgF,hgF1,n1,n2,n3,n4,l0,l1,e0,e1,hfz,hfz1,hset,-⟩:=(HR.out.mod (Mod.ofBelow hb) (by simp)).at_ hk
  rw [HX.out] at e0 e1
  simp only at e0 e1
  have hw:=wrapSmall (g + 1) (by omega) (by omega)
  have hc:=blk_cell hp 0
  have hc1:=blk_cell hp 1
  simp at hc hc1
  have f0:=hfz n
  have f1:=hfz1 n
  have hpl:=blk_lt hp
  have hin : (n : Int) < (l.length : Int):=by omega
  have hlt:=HR.out.lt
  have n5 : w.heap.size ≠ g1:=by have:=hlt g1 hgF1;omega
  have n6 : w.heap.size ≠ g0:=by have:=hlt g0 hgF;omega
  have hzl : w.heap.size < w1.heap.size:=by have:=hb1.size;simp at this;omega
  have HS:=Lib.hid (hset (g + 1) false)
  have HB:=Lib.hid hb
  have HG:=Lib.hid hgF
  have HG1:=Lib.hid hgF1
  clear HL hb1 hset hfz hfz1 hp hb hgF hgF1 hlt
  go_wp2
  refine wp_planS [some 9,some 10,some 11,some 12,some 13,some 14,some 15,none] [[],[0],[0,1],[0,1,2],[],[4],[0,1,2,3,4,5],[0,1,2,3,4,5,6]] [0,1,2,3,4,5,6,7] 8 7 mixed rfl (by kernel_rfl) (by decide) rfl ?_ (by decide)
  iterate 9 apply Exists.intro
  refine ⟨rfl,?_,?_⟩
  ·simp only [AllFrom.cons_eq,AllFrom.nil_eq,OpGoalS]
   refine ⟨?_,?_,?_,?_,?_,?_,?_,?_,trivial⟩
   all_goals (intro σ hp;(try simp only [gZ,gS,mC,mN,preF_cons,preF_nil,isV,and_true] at hp);(first | (have hq : True:=hp;clear hq hp) | skip))
   all_goals (go_simp;exact ⟨rfl,rfl⟩)
  intro σ hp
  simp only [gZ,gS,mC,mN,preF_cons,preF_nil,isV,and_true] at hp
  go_simp
  clear hp
  go_wp2
  refine wp_planS [some 16,some 17,some 18,some 19,some 20,some 21,some 22,some 23,some 24,some 25,none] [[],[0],[0,1],[0,1,2],[],[4],[0,1,2,3,4,5],[0,1,2,3,4,5,6],[0,1,2,3,4,5,6,7],[0,1,2,3,4,5,6,7,8],[0,1,2,3,4,5,6,7,8,9]] [0,1,2,3,4,5,6,7,8,9,10] 11 10 mixed rfl (by kernel_rfl) (by decide) rfl ?_ (by decide)
  iterate 12 apply Exists.intro
  refine ⟨rfl,?_,?_⟩
  ·simp only [AllFrom.cons_eq,AllFrom.nil_eq,OpGoalS]
   refine ⟨?_,?_,?_,?_,?_,?_,?_,?_,?_,?_,?_,trivial⟩
   all_goals (intro σ hp;(try simp only [gZ,gS,mC,mN,preF_cons,preF_nil,isV,and_true] at hp);(first | (have hq : True:=hp;clear hq hp) | skip))
   all_goals (go_simp;exact ⟨rfl,rfl⟩)
  intro σ hp
  simp only [gZ,gS,mC,mN,preF_cons,preF_nil,isV,and_true] at hp
  go_simp
  clear hp
  go_wp2
  go_ret
  exact ⟨by rw [HE.out];rfl,by rw [HF.out];exact HS.out,((((Mod.ofBelow HB.out).mono (by simp)).setCell (.inl HG1.out) _).setCell (.inl HG.out) _).drew.drew⟩
 ·have hE : freeE l s g = 7:=by unfold freeE;rw [if_neg hv]
  have hF : freeL l s g = l:=by unfold freeL;rw [if_neg hv]
  rw [Bool.not_eq_true] at hv
  rw [hv] at HL
  obtain ⟨HE,HF,HR⟩:=hid3 hE hF h
  clear hE hF h hv hok
  go_enter Tryz.func107,Tryz.ntmps107
  go_wp2_with (go_at_call 145;refine (HL.out _ ((Below.refl _ _).alloc (Nat.le_refl _) _)).mono ?_;rintro e w1 ⟨rfl,hb1⟩)
  go_ret
  have hb:=((Below.refl w.heap.size w).alloc (Nat.le_refl _) (.cells #[.int .i64 s,.int .i64 g] 41)).trans (hb1.mono (by simp))
  exact ⟨by rw [HE.out];rfl,by rw [HF.out];exact HR.out.mod (Mod.ofBelow hb) (by simp),(Mod.ofBelow hb).mono (by simp)⟩
theorem ztake_fin {p : Nat} {l : Sl} {F : List Nat} {w w0 W W2 : World} {vg vl v7 v13 : Value} (hR : RepZS vL vB w p l F) (hp : w.heap[p]? = some (.cells #[vg,vl,vL,vB] 47 (0,0))) (hF : F = p :: (vg.ownBlock.toList ++ vl.ownBlock.toList)) (hN : F.Nodup)
  (hm0 : Mod [] w w0) (hs0 : w0.heap.size = w.heap.size + 1) (hz0 : w0.heap[w.heap.size]? = some (.cells #[.int .i64 0,.int .i64 0] 41 (0,0))) (hm : Mod vg.ownBlock.toList w0 W)
  (h7 : appV 3 1 (gensS l ++ [0]).length ((gensS l ++ [0]).flatMap intC) vg.ownBlock w.heap.size v7 W)
  (h13 : W2.ownsRow 0 4 1 v13 (livesS l ++ [true]).length ((livesS l ++ [true]).flatMap boolC)) (hg : W.grownBy W2 vl.ownBlock) (hloc : v13.ownBlock = vl.ownBlock ∨ v13.ownBlock = some W.heap.size) :
  ∃ g7 c7 g13 c13,v7 = .slice (some ⟨g7,0,none⟩) (l.length + 1) c7 ∧ v13 = .slice (some ⟨g13,0,none⟩) (l.length + 1) c13 ∧ p < W2.heap.size ∧ w.heap.size < W2.heap.size ∧ p ≠ w.heap.size ∧ w.heap.size ≠ p ∧
   W2.cell? ⟨p,0,none⟩ = some vg ∧ W2.cell? ⟨p,1,none⟩ = some vl ∧ W2.frozen? ⟨p,0,none⟩ = false ∧ W2.frozen? ⟨p,1,none⟩ = false ∧
   W2.cell? ⟨w.heap.size,0,none⟩ = some (.int .i64 0) ∧ W2.cell? ⟨w.heap.size,1,none⟩ = some (.int .i64 0) ∧ W2.frozen? ⟨w.heap.size,0,none⟩ = false ∧ W2.frozen? ⟨w.heap.size,1,none⟩ = false ∧
   Hid (RepZS vL vB ((W2.setCell ⟨p,0,none⟩ v7).setCell ⟨p,1,none⟩ v13) p (l ++ [(0,true)]) [p,g7,g13] ∧ w.heap.size ∉ [p,g7,g13]) ∧ Hid (Mod F w W2) ∧ Hid (∀ k ∈ [p,g7,g13],k ∈ F ∨ w.heap.size ≤ k):=by
 have hlt:=hR.lt
 rw [hF] at hN
 have hGF : ∀ k,vg.ownBlock = some k → k ∈ F:=fun k hk => by rw [hF,hk];simp
 have hLF : ∀ k,vl.ownBlock = some k → k ∈ F:=fun k hk => by rw [hF,hk];simp
 have hpF : p ∈ F:=by rw [hF];simp
 have hpG : ∀ k,vg.ownBlock = some k → k ≠ p:=by rintro k hk rfl;rw [hk] at hN;simp at hN
 have hpL : ∀ k,vl.ownBlock = some k → k ≠ p:=by rintro k hk rfl;rw [hk] at hN;simp at hN
 have hGL : ∀ k,vg.ownBlock = some k → vl.ownBlock ≠ some k:=by rintro k hk hk';rw [hk,hk'] at hN;simp at hN
 obtain ⟨h7,h7l⟩:=h7
 have h7b:=row_lt h7
 have hm2:=grown_mod hg
 have hpw:=hlt p hpF
 -- where v7 lies
 have h7F : ∀ k,v7.ownBlock = some k → (k ∈ F ∨ w.heap.size ≤ k) ∧ k ≠ p ∧ vl.ownBlock ≠ some k ∧ k < W.heap.size ∧ k ≠ w.heap.size:=by
  intro k hk
  have hkW:=h7b k hk
  rcases h7l with h | ⟨b,h,hb⟩
  ·rw [h] at hk
   have:=hlt k (hGF k hk)
   exact ⟨.inl (hGF k hk),hpG k hk,hGL k hk,hkW,by omega⟩
  ·rw [hk] at h;cases h
   refine ⟨.inr hb,by omega,fun e => by have:=hlt _ (hLF _ e);omega,hkW,?_⟩
   rintro rfl
   -- the block of the handle is no row
   have hz:=hm.keep hz0 (fun hh => by have:=hlt _ (hGF _ (by simpa using hh));omega)
   obtain ⟨g,c,cur,e,-,hbk,-⟩:=row_some h7 (by simp)
   rw [e] at hk
   simp only [Value.ownBlock,Option.some.injEq] at hk
   rw [hk,hz] at hbk
   exact absurd hbk (by simp)
 have h13F : ∀ k,v13.ownBlock = some k → (k ∈ F ∨ w.heap.size ≤ k) ∧ k ≠ p ∧ v7.ownBlock ≠ some k ∧ k ≠ w.heap.size:=by
  intro k hk
  have hsW : w.heap.size < W.heap.size:=by have:=hm.size;omega
  rcases hloc with h | h
  ·rw [h] at hk
   have:=hlt k (hLF k hk)
   exact ⟨.inl (hLF k hk),hpL k hk,fun e => (h7F k e).2.2.1 hk,by omega⟩
  ·rw [hk] at h;cases h
   exact ⟨.inr (by omega),by omega,fun e => by have:=(h7F _ e).2.2.2.1;omega,by omega⟩
 have hm02 : Mod F w W:=(hm0.mono (by simp)).trans hm (fun x hx => .inl (hGF x (by simpa using hx)))
 have hm3 : Mod F w W2:=hm02.trans hm2 (fun x hx => .inl (hLF x (by simpa using hx)))
 have hp2 : W2.heap[p]? = some (.cells #[vg,vl,vL,vB] 47 (0,0)) :=
  hm2.keep (hm.keep (hm0.keep hp (by simp)) (fun h => hpG p (by simpa using h) rfl)) (fun h => hpL p (by simpa using h) rfl)
 have hz2 : W2.heap[w.heap.size]? = some (.cells #[.int .i64 0,.int .i64 0] 41 (0,0)) :=
  hm2.keep (hm.keep hz0 (fun h => by have:=hlt _ (hGF _ (by simpa using h));omega)) (fun h => by have:=hlt _ (hLF _ (by simpa using h));omega)
 have h72:=row_mod h7 hm2 (fun k hk h => (h7F k hk).2.2.1 (by simpa using h))
 have e7 : (gensS l ++ [(0 : Int)]).length = l.length + 1:=by simp [gensS]
 have e13 : (livesS l ++ [true]).length = l.length + 1:=by simp [livesS]
 have x7 : (gensS l ++ [(0 : Int)]).flatMap intC = ints (gensS (l ++ [(0,true)])):=by rw [← ints_flat];simp [gensS]
 have x13 : (livesS l ++ [true]).flatMap boolC = bools (livesS (l ++ [(0,true)])):=by rw [← bools_flat];simp [livesS]
 rw [e7,x7] at h72
 rw [e13,x13] at h13
 obtain ⟨g7,c7,cur7,rfl,-,hb7,-⟩:=row_some h72 (by omega)
 obtain ⟨g13,c13,cur13,rfl,-,hb13,-⟩:=row_some h13 (by omega)
 obtain ⟨f1,f2,f3,f4,f5⟩:=h7F g7 rfl
 obtain ⟨j1,j2,j3,j4⟩:=h13F g13 rfl
 have j3' : g7 ≠ g13:=fun e => j3 (by rw [e];rfl)
 refine ⟨g7,c7,g13,c13,rfl,rfl,blk_lt hp2,blk_lt hz2,by omega,by omega,by rw [blk_cell hp2];rfl,by rw [blk_cell hp2];rfl,blk_free hp2 0,blk_free hp2 1,by rw [blk_cell hz2];rfl,by rw [blk_cell hz2];rfl,blk_free hz2 0,blk_free hz2 1,⟨?_,?_⟩,hm3,?_⟩
 ·have hmm : ∀ u v,Mod [p] W2 ((W2.setCell ⟨p,0,none⟩ u).setCell ⟨p,1,none⟩ v):=fun u v => ((Mod.refl [p] W2).setCell (.inl (by simp)) u).setCell (.inl (by simp)) v
  refine ⟨.slice (some ⟨g7,0,none⟩) (l.length + 1) c7,.slice (some ⟨g13,0,none⟩) (l.length + 1) c13,?_,?_,?_,rfl,?_⟩
  ·rw [blk_set (blk_set hp2 0 _) 1 _];rfl
  ·rw [List.length_append]
   exact row_mod h72 (hmm _ _) (fun k hk h => by
    have e1 : g7 = k:=by simpa [Value.ownBlock] using hk
    have e2 : k = p:=by simpa using h
    exact f2 (e1.trans e2))
  ·rw [List.length_append]
   exact row_mod h13 (hmm _ _) (fun k hk h => by
    have e1 : g13 = k:=by simpa [Value.ownBlock] using hk
    have e2 : k = p:=by simpa using h
    exact j2 (e1.trans e2))
  ·simp only [Value.ownBlock,Option.toList_some,List.cons_append,List.nil_append,List.nodup_cons,List.mem_cons,List.not_mem_nil,or_false,not_or,not_false_eq_true,List.nodup_nil,and_true]
   exact ⟨⟨fun e => f2 e.symm,fun e => j2 e.symm⟩,j3'⟩
 ·simp only [List.mem_cons,List.not_mem_nil,or_false,not_or]
  exact ⟨by omega,fun e => f5 e.symm,fun e => j4 e.symm⟩
 ·intro k hk
  simp only [List.mem_cons,List.not_mem_nil,or_false] at hk
  rcases hk with rfl | rfl | rfl
  ·exact .inl hpF
  ·exact f1
  ·exact j1
def ZTakePost (vL vB : Value) (p : Nat) (l : Sl) (F : List Nat) (w : World) (e : Ending) (w' : World) : Prop :=
 e = .returned (.tuple #[.agg #[.int .i64 (takeK l),.int .i64 (takeG l)],.int .i64 (takeE l)]) ∧ ∃ F',RepZS vL vB w' p (takeL l) F' ∧ Turns w F F' w'
theorem RepZS.setLive {w W : World} {p : Nat} {l : Sl} {F G : List Nat} {n : Nat} (h : RepZS vL vB w p l F) (hm : Mod G w W) (hd : ∀ k ∈ F,k ∉ G) (hn : n < l.length) {g0 c0 g1 c1 : Nat}
  (hp : w.heap[p]? = some (.cells #[.slice (some ⟨g0,0,none⟩) l.length c0,.slice (some ⟨g1,0,none⟩) l.length c1,vL,vB] 47 (0,0))) (b : Bool) : RepZS vL vB (W.setCell ⟨g1,n,none⟩ (.bool b)) p (l.set n (l[n].1,b)) F:=by
 have hpF : p ∈ F:=by obtain ⟨_,_,_,_,_,rfl,_⟩:=h;simp
 obtain ⟨g0',c0',g1',c1',hp',-,-,-,-,-,-,-,-,-,-,-,-,-,hset⟩:=(h.mod hm hd).at_ hn
 have hee:=(hm.keep hp (hd p hpF)).symm.trans hp'
 simp only [Option.some.injEq,Obj.cells.injEq,Array.mk.injEq,List.cons.injEq,Value.slice.injEq,Addr.mk.injEq,and_true,true_and] at hee
 obtain ⟨⟨rfl,rfl⟩,rfl,rfl⟩:=hee
 exact hset b
set_option maxHeartbeats 1000000 in
theorem ztake_any (p : Nat) (l : Sl) (F : List Nat) (w : World) (h : RepZS vL vB w p l F) (hok : SlOk l) :
  Calls Tryz.prog 100 #[.pointer (some ⟨p,0,none⟩)] w (ZTakePost vL vB p l F w):=by
 have hl60:=hok.1
 obtain ⟨vg,vl,hp,hg,hl,hF,hne⟩:=h
 have HR : Hid (RepZS vL vB w p l F):=⟨vg,vl,hp,hg,hl,hF,hne⟩
 obtain ⟨HG,HL,HP,HF,HN,HO⟩:=hid6 hg hl hp hF hne hok
 obtain ⟨A,cap,rfl,-,-⟩:=row_slice HG.out
 obtain ⟨A',cap',rfl,-,-⟩:=row_slice HL.out
 have hc0:=blk_cell hp 0
 have hc1:=blk_cell hp 1
 have hpl:=blk_lt hp
 simp at hc0 hc1
 clear hp hg hl hF hne hok
 go_enter Tryz.func100,Tryz.ntmps100
 go_wp2
 go_loop [11] (fun i => ∃ k : Nat,k ≤ l.length ∧ i = .int .i64 k ∧ ∀ j (h : j < k) (h' : j < l.length),freeB l[j] = false) (fun i => l.length - (Go.RowKit.intOf i).toNat)
 case atStart => exact ⟨0,by omega,rfl,fun j h => by omega⟩
 case round =>
  obtain ⟨k,hk,rfl,hno⟩:=hrel
  by_cases hlt : k < l.length
  ·obtain ⟨g0,c0,g1,c1,hp,hgF,hgF1,n1,n2,n3,n4,l0,l1,e0,e1,hfz,hfz1,-,-⟩:=HR.out.at_ hlt
   have hee:=HP.out.symm.trans hp
   simp only [Option.some.injEq,Obj.cells.injEq,Array.mk.injEq,List.cons.injEq,Value.slice.injEq,and_true,true_and] at hee
   obtain ⟨⟨rfl,rfl⟩,rfl,rfl⟩:=hee
   have hset:=HR.out.setLive (Mod.refl [] w) (by simp) hlt hp true
   have hq0:=blk_cell hp 0
   have hq1:=blk_cell hp 1
   simp at hq0 hq1
   have f1:=hfz1 k
   have hin : (k : Int) < (l.length : Int):=by omega
   have hlw:=HR.out.lt
   have n5 : w.heap.size ≠ g1:=by have:=hlw g1 hgF1;omega
   have n6 : w.heap.size ≠ g0:=by have:=hlw g0 hgF;omega
   have hyes : freeB l[k] = true → l.findIdx? freeB = some k:=fun h => fi_some hlt h fun j hj => hno j hj (by omega)
   have hgo : freeB l[k] = false → ∀ j (h : j < k + 1) (h' : j < l.length),freeB l[j] = false:=by
    intro hf j h h'
    by_cases e : j = k
    ·subst e;exact hf
    ·exact hno j (by omega) h'
   have hx : ∀ x : Int × Bool,l[k] = x → freeB x = true → takeK l = k ∧ takeG l = x.1 ∧ takeE l = 0 ∧ takeL l = l.set k (x.1,true):=by
    intro x hx hf
    subst hx
    have:=hyes hf
    unfold takeK takeG takeE takeL
    rw [this]
    simp [List.getD_eq_getElem?_getD,List.getElem?_eq_getElem hlt]
   obtain ⟨HS,Hgo,HGF1,Hx⟩:=hid4 hset hgo hgF1 hx
   clear hset hgo hyes hx hno hgF hgF1 hlw hfz hfz1 hp hc0 hc1
   generalize l[k] = x at *
   obtain ⟨a,b⟩:=x
   simp only at e0 e1
   cases b with
   | true =>
    go_wp2
    go_round
    case rel => exact ⟨k + 1,by omega,by go_num,Hgo.out rfl⟩
    case measure => simp [Go.RowKit.intOf];omega
   | false =>
    by_cases ha : a < 1000000
    ·obtain ⟨q1,q2,q3,q4⟩:=Hx.out (a,false) rfl (by simp [freeB,ha])
     obtain ⟨Q1,Q2,Q3,Q4⟩:=hid4 q1 q2 q3 q4
     clear q1 q2 q3 q4
     go_wp2
     refine bodyPost_ret (v:=.tuple #[.agg #[.int .i64 k,.int .i64 a],.int .i64 0]) (by unfold results;go_simp) rfl ?_
     refine ⟨by rw [Q1.out,Q2.out,Q3.out],F,?_,⟨?_,fun k hk => .inl hk⟩⟩
     ·rw [Q4.out]
      exact HS.out.mod ((Mod.refl [] _).alloc _) (by simp)
     ·exact ((Mod.refl F w).setCell (p:=⟨g1,k,none⟩) (.inl HGF1.out) _).alloc _
    ·have Hn:=Lib.hid (Hgo.out (by simp [freeB,ha]))
     go_wp2
     go_round
     case rel => exact ⟨k + 1,by omega,by go_num,Hn.out⟩
     case measure => simp [Go.RowKit.intOf];omega
  ·have hnone : l.findIdx? freeB = none:=fi_none fun j hj => hno j (by omega) hj
   obtain rfl : k = l.length:=by omega
   clear hno
   by_cases h60 : l.length = 60
   ·have q : takeK l = 0 ∧ takeG l = 0 ∧ takeE l = 2 ∧ takeL l = l:=by unfold takeK takeG takeE takeL;rw [hnone];simp [h60]
    have Q:=Lib.hid q
    have hl2 : ((l.length : Int) == 60) = true:=by simp [h60]
    clear q h60 hnone
    go_wp2
    refine bodyPost_ret (v:=.tuple #[.agg #[.int .i64 0,.int .i64 0],.int .i64 2]) (by unfold results;go_simp) rfl ?_
    refine ⟨by rw [Q.out.1,Q.out.2.1,Q.out.2.2.1],F,?_,⟨?_,fun k hk => .inl hk⟩⟩
    ·rw [Q.out.2.2.2]
     exact HR.out.mod ((Mod.refl [] w).alloc _) (by simp)
    ·exact (Mod.refl F w).alloc _
   ·have q : takeK l = l.length ∧ takeG l = 0 ∧ takeE l = 0 ∧ takeL l = l ++ [(0,true)]:=by unfold takeK takeG takeE takeL;rw [hnone];simp [h60]
    have Q:=Lib.hid q
    have hl2 : ((l.length : Int) == 60) = false:=by simp;omega
    have hlt60 : l.length < 60:=by omega
    clear q h60 hnone hl60
    go_wp2
    have hlw:=HR.out.lt
    have hpF : p ∈ F:=by rw [HF.out];simp
    have hGF : ∀ k,(Value.slice A l.length cap).ownBlock = some k → k ∈ F:=fun k hk => by rw [HF.out,hk];simp
    have hLF : ∀ k,(Value.slice A' l.length cap').ownBlock = some k → k ∈ F:=fun k hk => by rw [HF.out,hk];simp
    have hGp : ∀ k,(Value.slice A l.length cap).ownBlock = some k → k ≠ p:=by
     rintro k hk rfl
     have:=HN.out
     rw [HF.out,hk] at this;simp at this
    have hGL : ∀ k,(Value.slice A l.length cap).ownBlock = some k → (Value.slice A' l.length cap').ownBlock ≠ some k:=by
     rintro k hk hk'
     have:=HN.out
     rw [HF.out,hk,hk'] at this;simp at this
    have hLp : ∀ k,(Value.slice A' l.length cap').ownBlock = some k → k ≠ p:=by
     rintro k hk rfl
     have:=HN.out
     rw [HF.out,hk] at this;simp at this
    obtain ⟨w0,hw0⟩ : ∃ w0,w.alloc (.cells #[.int .i64 0,.int .i64 0] 41) = w0:=⟨_,rfl⟩
    have hm0 : Mod [] w w0:=by rw [← hw0];exact (Mod.refl _ _).alloc _
    have hs0 : w0.heap.size = w.heap.size + 1:=by rw [← hw0];simp
    have hz0 : w0.heap[w.heap.size]? = some (.cells #[.int .i64 0,.int .i64 0] 41 (0,0)):=by rw [← hw0];exact heap_alloc_new w _
    rw [hw0]
    obtain ⟨HM0,HS0,HZ0,HLW⟩:=hid4 hm0 hs0 hz0 hlw
    obtain ⟨H1,H2,H3,H4,H5⟩:=hid5 hGF hLF hGp hGL hLp
    clear hm0 hs0 hz0 hw0 hGF hLF hGp hGL hLp hlw hc0 hc1
    refine wp_planF 13 [0,1,2,8] [some 45,some 46,some 47,some 48,some 49,some 50,some 51,some 52,some 53,some 54,some 55,some 56,some 57,some 58,some 59,some 60,none,some 61,some 62,none] [[],[],[],[2],[2,3],[2,3,4],[],[2,3,4,5,6],[],[8],[8,9],[8,9,10],[],[2,3,4,5,6,7,8,9,10,11,12],[0,2,3,4,5,6,7,8,9,10,11,12,13],[0,2,3,4,5,6,7,8,9,10,11,12,13,14],[0,2,3,4,5,6,7,8,9,10,11,12,13,14,15],[0,1,2,3,4,5,6,7,8,9,10,11,12,13,14,15,16],[0,1,2,3,4,5,6,7,8,9,10,11,12,13,14,15,16,17],[0,1,2,3,4,5,6,7,8,9,10,11,12,13,14,15,16,17,18]] [0,1,2,3,4,5,6,7,8,9,10,11,12] 13 (fun vs => [isV (vs.getD 0 undef),isV (vs.getD 1 undef),isV (vs.getD 2 undef),isV (vs.getD 3 undef),isV (vs.getD 4 undef),isV (vs.getD 5 undef),(oneR w.heap.size #[.int .i64 0] 3),(appV 3 1 (gensS l ++ [0]).length ((gensS l ++ [0]).flatMap intC) (Value.slice A l.length cap).ownBlock w.heap.size),isV (vs.getD 8 undef),isV (vs.getD 9 undef),isV (vs.getD 10 undef),isV (vs.getD 11 undef),(oneR w.heap.size #[.bool true] 4)])
     (fun L _ W => Mod (Value.slice A l.length cap).ownBlock.toList w0 W ∧ (L 7 = false → W.ownsRow 0 3 1 (.slice A l.length cap) l.length (ints (gensS l)))) mixed rfl (by kernel_rfl) (by decide) (by decide)
     ⟨(Mod.refl _ _).drew,fun _ => row_mod HG.out (HM0.out.drew) (by simp)⟩ rfl ?_
    iterate 13 apply Exists.intro
    refine ⟨?_,?_⟩
    ·simp only [tS,List.take_zero,AllFrom.cons_eq,AllFrom.nil_eq,OpGoalV]
     refine ⟨?_,?_,?_,?_,?_,?_,?_,?_,?_,?_,?_,?_,?_,trivial⟩
     all_goals (intro L' σ W h1 h2 h3 hI hp;clear h2 h3;(try simp only [gZ,gS,preF_cons,preF_nil,isV,and_true] at hp);(first | (have hq : True:=hp;clear hq hp) | skip))
     all_goals (
      have hpk:=hI.1.keep (HM0.out.keep HP.out (by simp)) (fun h => H3.out p (by simpa using h) rfl)
      have q0:=blk_cell hpk 0
      have q1:=blk_cell hpk 1
      simp only [eA,eZ,eS] at q0 q1
      have hsz:=hI.1.size
      have hle : w.heap.size ≤ W.heap.size:=by have:=HS0.out;omega
      have HI:=Lib.hid hI
      have Hh1:=Lib.hid h1
      clear hpk hsz hI h1)
     all_goals (try (go_simp;exact ⟨rfl,⟨HI.out.1,fun h => HI.out.2 (upd_false h)⟩,KeepAll.refl⟩))
     ·go_simp
      exact ⟨oneR_new hle,⟨HI.out.1.alloc _,fun h => row_mod (HI.out.2 (upd_false h)) ((Mod.refl [] W).alloc _) (by simp)⟩,KeepAll.ofStab (T:=Grow) (grow_alloc _ _) (by repeat (first | exact allStab_nil | refine allStab_isV ?_ | refine allStab_oneR ?_ | refine allStab_appV ?_))⟩
     ·simp only [wantedL_none,↓reduceIte,gZ,gS]
      have hrow:=HI.out.2 Hh1.out
      rw [← gensS_len,ints_flat,gensS_len] at hrow
      have Hrow:=Lib.hid hrow
      clear hrow
      refine yr_app (enc:=intC) (n:=1) (z:=.int .i64 0) (bytes:=8) (.tmp 50) (.tmp 51) 22 3 rfl Tryz.underlying22 info_int rfl (by omega) (by omega) intC_one (fun _ => rfl) 0 (.slice A l.length cap) (gensS l) 0 w.heap.size #[.int .i64 0] 3 (by go_simp) (by rw [gensS_len];exact Hrow.out) (by go_simp) rfl (by rw [gensS_len];omega) (Nat.zero_le _) ?_
      intro v' w' hr hg hloc
      have hm:=grown_mod hg
      have hsm : ∀ k ∈ (Value.slice A l.length cap).ownBlock.toList,k < w.heap.size:=fun k hk => HLW.out k (H1.out k (by simpa using hk))
      refine ⟨⟨hr,?_⟩,⟨HI.out.1.trans hm (fun x hx => .inl hx),fun h => absurd h (by simp [upd])⟩,?_⟩
      ·rcases hloc with h | h
       ·exact .inl h
       ·exact .inr ⟨_,h,hle⟩
      ·refine keep_isV (keep_isV (keep_isV (keep_isV (keep_isV (keep_isV (keep_of (fun _ h => oneR_mod h hm hsm) (keep_not Hh1.out (keep_isV (keep_isV (keep_isV (keep_isV (keep_of (fun _ h => oneR_mod h hm hsm) keep_nil))))))))))))
     ·go_simp
      exact ⟨oneR_new hle,⟨HI.out.1.alloc _,fun h => row_mod (HI.out.2 (upd_false h)) ((Mod.refl [] W).alloc _) (by simp)⟩,KeepAll.ofStab (T:=Grow) (grow_alloc _ _) (by repeat (first | exact allStab_nil | refine allStab_isV ?_ | refine allStab_oneR ?_ | refine allStab_appV ?_))⟩
    ·intro L' σ W h1 hI hp
     clear h1
     simp only [gZ,gS,preF_cons,preF_nil,isV,and_true] at hp
     have s0:=hp.1
     have s1:=hp.2.1
     have s2:=hp.2.2.1
     have s3:=hp.2.2.2.1
     have s4:=hp.2.2.2.2.1
     have s5:=hp.2.2.2.2.2.1
     have s6:=hp.2.2.2.2.2.2.1
     have s7:=hp.2.2.2.2.2.2.2.1
     have s8:=hp.2.2.2.2.2.2.2.2.1
     have s9:=hp.2.2.2.2.2.2.2.2.2.1
     have s10:=hp.2.2.2.2.2.2.2.2.2.2.1
     have s11:=hp.2.2.2.2.2.2.2.2.2.2.2.1
     have s12:=hp.2.2.2.2.2.2.2.2.2.2.2.2
     clear hp
     have hmW:=hI.1
     clear hI
     simp only [dS,List.drop_zero]
     go_simp
     clear s0 s1 s2 s3 s4 s5 s6 s8 s9 s10 s11
     generalize σ 7 = v7 at *
     generalize σ 12 = v12 at *
     obtain ⟨S7,S12,HMW⟩:=hid3 s7 s12 hmW
     have hrow : W.ownsRow 0 4 1 (.slice A' l.length cap') (livesS l).length ((livesS l).flatMap boolC):=by
      rw [← bools_flat,livesS_len]
      exact row_mod (row_mod HL.out HM0.out (by simp)) hmW (fun k hk hm => H4.out k (by simpa using hm) hk)
     have Hrow:=Lib.hid hrow
     clear hrow s7 s12 hmW
     go_wp2_with (at_builtin;refine app_oneR (enc:=boolC) (n:=1) (z:=.bool false) (bytes:=1) rfl _ _ 43 4 rfl Tryz.underlying43 info_bool rfl (by omega) (by omega) boolC_one (fun _ => rfl) 0 _ (livesS l) true w.heap.size #[.bool true] 4 rfl Hrow.out S12.out rfl (by rw [livesS_len];omega) (Nat.zero_le _) ?_;intro v13 W2 hr13 hg13 hloc13;obtain ⟨g7,c7,g13,c13,rfl,rfl,k1,k2,k3,k4,k5,k6,k7,k8,k9,k10,k11,k12,KR,KM,KF⟩:=ztake_fin HR.out HP.out HF.out HN.out HM0.out HS0.out HZ0.out HMW.out S7.out hr13 hg13 hloc13;clear hr13 hg13 hloc13)
     refine ⟨rfl,?_⟩
     go_wp2
     refine bodyPost_ret (v:=.tuple #[.agg #[.int .i64 l.length,.int .i64 0],.int .i64 0]) (by unfold results;go_simp) rfl ?_
     refine ⟨by rw [Q.out.1,Q.out.2.1,Q.out.2.2.1],[p,g7,g13],?_,⟨?_,KF.out⟩⟩
     ·rw [Q.out.2.2.2]
      exact KR.out.1.mod (((Mod.refl [w.heap.size] _).setCell (.inl (by simp)) _).setCell (.inl (by simp)) _) (fun k hk hz => by
       have e : k = w.heap.size:=by simpa using hz
       exact KR.out.2 (e ▸ hk))
     ·have hpF : p ∈ F:=by rw [HF.out];simp
      exact (((KM.out.setCell (.inl hpF) _).setCell (.inl hpF) _).setCell (.inr (Nat.le_refl _)) _).setCell (.inr (Nat.le_refl _)) _
    all_goals exact undef
end Go.Proofs.YtehjfmjibiafdaaGreat
namespace Go.Proofs.YtehjfmjibiafdaaGreat
open Go Go.RowKit
variable {vB : Value}
attribute [local go_sem] AllFrom.cons_eq AllFrom.nil_eq putF_nil putF_cons wantedL_none wantedL_some OpGoalT OpGoalV OpGoalQ YieldsR preF_nil preF_cons
def RepZ (vB : Value) (w : World) (q : Nat) (sl : Sl) (L : List Rw) (F : List Nat) : Prop :=
 ∃ vL FS,RepZS vL vB w q sl FS ∧ w.ownsRow 0 69 11 vL L.length (L.flatMap rwC) ∧ F = FS ++ vL.ownBlock.toList ∧ F.Nodup
theorem RepZ.mod {w w' : World} {q : Nat} {sl : Sl} {L : List Rw} {F G : List Nat} (h : RepZ vB w q sl L F) (hm : Mod G w w') (hd : ∀ k ∈ F,k ∉ G) : RepZ vB w' q sl L F:=by
 obtain ⟨vL,FS,h1,h2,rfl,h3⟩:=h
 exact ⟨vL,FS,h1.mod hm (fun k hk => hd k (by simp [hk])),row_mod h2 hm (fun k hk => hd k (by simp [hk])),rfl,h3⟩
theorem RepZ.below {w w' : World} {q : Nat} {sl : Sl} {L : List Rw} {F : List Nat} (h : RepZ vB w q sl L F) (hb : Below w.heap.size w w') : RepZ vB w' q sl L F:=h.mod (Mod.ofBelow hb) (by simp)
theorem RepZ.lt {w : World} {q : Nat} {sl : Sl} {L : List Rw} {F : List Nat} (h : RepZ vB w q sl L F) : ∀ k ∈ F,k < w.heap.size:=by
 obtain ⟨vL,FS,h1,h2,rfl,h3⟩:=h
 intro k hk
 rcases List.mem_append.1 hk with hk | hk
 ·exact h1.lt k hk
 ·exact row_lt h2 k (by simpa using hk)
theorem RepZ.open_ {w : World} {q : Nat} {sl : Sl} {L : List Rw} {F : List Nat} (h : RepZ vB w q sl L F) : ∃ vg vl A cap,w.heap[q]? = some (.cells #[vg,vl,.slice A L.length cap,vB] 47 (0,0)) ∧ w.ownsRow 0 69 11 (.slice A L.length cap) L.length (L.flatMap rwC):=by
 obtain ⟨vL,FS,⟨vg,vl,h1,-⟩,h2,rfl,h3⟩:=h
 obtain ⟨A,cap,rfl,-,-⟩:=row_slice h2
 exact ⟨vg,vl,A,cap,h1,h2⟩
theorem RepZS.turnL {vL vL' vB : Value} {w w' : World} {q : Nat} {sl : Sl} {F G : List Nat} (h : RepZS vL vB w q sl F) (hm : Mod G w w') (hd : ∀ k ∈ F,k ∉ G) : RepZS vL' vB (w'.setCell ⟨q,2,none⟩ vL') q sl F:=by
 obtain ⟨vg,vl,h1,h2,h3,rfl,h4⟩:=h
 have hq:=hm.keep h1 (hd q (by simp))
 have hM : ∀ v,Mod [q] w' (w'.setCell ⟨q,2,none⟩ v):=fun v => (Mod.refl _ _).setCell (.inl (by simp)) v
 have hne : ∀ k ∈ vg.ownBlock.toList ++ vl.ownBlock.toList,k ≠ q:=by
  rintro k hk rfl
  rw [List.nodup_cons] at h4
  exact h4.1 hk
 refine ⟨vg,vl,?_,?_,?_,rfl,h4⟩
 ·rw [blk_set hq 2 _];rfl
 ·exact row_mod (row_mod h2 hm (fun k hk => hd k (by simp [hk]))) (hM _) (fun k hk h => hne k (by simp [hk]) (by simpa using h))
 ·exact row_mod (row_mod h3 hm (fun k hk => hd k (by simp [hk]))) (hM _) (fun k hk h => hne k (by simp [hk]) (by simpa using h))
def atI (L : List Rw) (h : Hd) : Int:=match idxL L h with | some i => (i : Int) | none => -1
theorem atI_some {L : List Rw} {h : Hd} {i : Nat} (hi : idxL L h = some i) : atI L h = (i : Int):=by unfold atI;rw [hi]
theorem atI_none {L : List Rw} {h : Hd} (hi : idxL L h = none) : atI L h = -1:=by unfold atI;rw [hi]
set_option maxRecDepth 20000 in
set_option maxHeartbeats 2000000 in
theorem at_any {w : World} {q : Nat} {sl : Sl} {L : List Rw} {F : List Nat} (h : RepZ vB w q sl L F) (hl : L.length ≤ 60) (s g : Int) :
  Calls Tryz.prog 33 #[.pointer (some ⟨q,0,none⟩),.agg #[.int .i64 s,.int .i64 g]] w (fun e w' => e = .returned (.int .i64 (atI L (s,g))) ∧ Below w.heap.size w w'):=by
 obtain ⟨vg,vl,A,cap,hq,hrow⟩:=h.open_
 have c2:=blk_cell hq 2
 simp only [eA,eZ,eS] at c2
 have hql:=blk_lt hq
 clear h hq
 go_enter Tryz.func33,Tryz.ntmps33
 go_wp2
 go_loopw [12] (fun i wr => ∃ k : Nat,k ≤ L.length ∧ i = .int .i64 k ∧ (∀ j (h : j < L.length),j < k → ¬ L[j].1 = (s,g)) ∧ Below (w.heap.size + 1) (w.alloc (.cells #[.int .i64 s,.int .i64 g] 41)) wr) (fun i _ => L.length - (Go.RowKit.intOf i).toNat)
 case atStart => exact ⟨0,by omega,rfl,fun j h => by omega,Below.refl _ _⟩
 case round =>
  obtain ⟨k,hk,rfl,hno,hbel⟩:=hrel
  have hsz:=hbel.size
  simp only [World.size_alloc] at hsz
  have hsz2 : w.heap.size < wr.heap.size:=hsz
  have hb0 : Below w.heap.size w wr:=((Below.refl w.heap.size w).alloc (Nat.le_refl _) _).trans (hbel.mono (by omega))
  have d0 : wr.cell? ⟨w.heap.size,0,none⟩ = some (.int .i64 s):=(hbel.cell (p:=⟨w.heap.size,0,none⟩) (by simp)).trans (by simp)
  have d1 : wr.cell? ⟨w.heap.size,1,none⟩ = some (.int .i64 g):=(hbel.cell (p:=⟨w.heap.size,1,none⟩) (by simp)).trans (by simp)
  by_cases hlt : k < L.length
  ·have hro : wr.ownsRow 0 69 11 (.slice A L.length cap) L.length (L.flatMap rwC):=row_mod hrow (Mod.ofBelow hb0) (by simp)
   obtain ⟨g0,cap0,cur0,hv,-,-,-⟩:=row_some hro (by omega)
   cases hv
   have hpc:=row_piece rwC_len hro hlt 0 (rwC L[k]) (fun j u hu => by rw [Nat.zero_add];exact hu)
   have hg0:=row_lt hro g0 rfl
   have hki : (k : Int) < (L.length : Int):=by omega
   have hyes : L[k].1 = (s,g) → atI L (s,g) = (k : Int):=by
    intro e
    refine atI_some (fi_some hlt (by simpa using e) fun j hj => ?_)
    have:=hno j (by omega) hj
    simpa using this
   have hgo : ¬ L[k].1 = (s,g) → ∀ j (h : j < L.length),j < k + 1 → ¬ L[j].1 = (s,g):=by
    intro e j h1 h2
    rcases Nat.lt_or_eq_of_le (Nat.lt_succ_iff.1 h2) with h3 | rfl
    ·exact hno j h1 h3
    ·exact e
   clear hno
   generalize L[k] = x at *
   obtain ⟨⟨s1,g1⟩,K,a0,a1,a2,a3,a4,a5,a6,a7⟩:=x
   obtain ⟨HP,Hyes,Hgo,Hb,Hb0,HR⟩:=hid6 hpc hyes hgo hbel hb0 hrow
   have he:=fun w => eqlHandle w s1 g1 s g
   clear hpc hyes hgo hbel hb0 hro hrow
   generalize hr : eqB (s1,g1) (s,g) = r at *
   have Hr:=Lib.hid hr
   clear hr
   cases r with
   | true =>
    have H:=Lib.hid (Hyes.out (by simpa [eqB] using Hr.out))
    go_wp2_with (refine wpList_load_flat rfl 69 (.tmp 15) rfl _ rfl [.int .i64 s1,.int .i64 g1,.int .i64 K,.int .i64 a0,.int .i64 a1,.int .i64 a2,.int .i64 a3,.int .i64 a4,.int .i64 a5,.int .i64 a6,.int .i64 a7] _ Tryz.underlying69 rfl (by kernel_rfl) HP.out ?_)
    go_ret
    exact ⟨by rw [H.out];rfl,Hb0.out.alloc (by omega) _⟩
   | false =>
    have H:=Lib.hid (Hgo.out (by simpa [eqB] using Hr.out))
    go_wp2_with (refine wpList_load_flat rfl 69 (.tmp 15) rfl _ rfl [.int .i64 s1,.int .i64 g1,.int .i64 K,.int .i64 a0,.int .i64 a1,.int .i64 a2,.int .i64 a3,.int .i64 a4,.int .i64 a5,.int .i64 a6,.int .i64 a7] _ Tryz.underlying69 rfl (by kernel_rfl) HP.out ?_)
    go_roundw
    case rel => exact ⟨k + 1,by omega,by go_num,H.out,Hb.out.alloc (by omega) _⟩
    case measure => simp [Go.RowKit.intOf];omega
  ·have hf : atI L (s,g) = -1:=atI_none (fi_none fun j hj => by have:=hno j hj (by omega);simpa using this)
   have H:=Lib.hid hf
   clear hf hno hrow
   go_wp2
   go_ret
   exact ⟨by rw [H.out];rfl,hb0⟩
end Go.Proofs.YtehjfmjibiafdaaGreat
