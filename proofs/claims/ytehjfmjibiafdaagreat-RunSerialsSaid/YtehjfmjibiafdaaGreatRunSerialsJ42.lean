import Derived.Test.YtehjfmjibiafdaaGreatRunSerialsJ41
/- A part of the proof that RunSerials returns true. -/
namespace Go.Proofs.YtehjfmjibiafdaaGreat
open Go.RowKit
theorem rsys_many (A : Option Addr) (c : Nat) (l : List Sy) (w : World) (hl : 20 < l.length) (hl2 : l.length ≤ 9223372036854775807) :
  Calls Tryz.prog 73 #[.slice A l.length c] w (PlanPost l w):=by
 have hp:=planPost_err (w:=w) (w':=w) (show planE l = 2 by unfold planE;rw [if_pos hl]) (by decide) (Below.refl _ _)
 have HP:=Lib.hid hp
 clear hp
 go_enter Tryz.func73,Tryz.ntmps73
 go_wp2
 go_ret2
 exact HP.out
set_option maxHeartbeats 1000000 in
theorem rplan_bad (A : Option Addr) (c : Nat) (l : List Sy) (w : World) (hl : l.length ≤ 20) (hA : Lies w w.heap.size A (sysCells l)) (hbad : firstE l ≠ 0) :
  Calls Tryz.prog 73 #[.slice A l.length c] w (PlanPost l w):=by
 have hp:=fun w' (h : Below w.heap.size w w') => planPost_err (w:=w) (w':=w') (show planE l = firstE l by unfold planE;rw [if_neg (by omega)]) hbad h
 have HP:=Lib.hid hp
 have Hbad:=Lib.hid hbad
 clear hp hbad
 go_enter Tryz.func73,Tryz.ntmps73
 go_wp2
 go_loopw [17] (fun i wr => ∃ k : Nat,k ≤ l.length ∧ i = .int .i64 k ∧ firstE (l.drop k) = firstE l ∧ Below w.heap.size w wr) (fun i _ => l.length - (Go.RowKit.intOf i).toNat)
 case atStart => exact ⟨0,by omega,rfl,rfl,Below.refl _ _⟩
 case round =>
  obtain ⟨k,hk,rfl,hgo,hbel⟩:=hrel
  by_cases hlt : k < l.length
  ·obtain ⟨a,rfl,hb,hc⟩:=((hA.below hbel).mono hbel.size).elem Sy.cells_len (by omega) hlt
   have hst:=firstE_drop l k hlt
   generalize l[k] = p at *
   obtain ⟨n,t,s0,r,s,d,x⟩:=p
   have hck:=fun w => sysRef_any n t s0 r s d x w
   have he : Sy.e ⟨n,t,s0,r,s,d,x⟩ = sysE n t s0 r s d x:=rfl
   rw [he,hgo] at hst
   clear he
   generalize sysE n t s0 r s d x = q at *
   have Hc:=Lib.hid hc
   have Hst:=Lib.hid hst
   have HA:=Lib.hid hA
   have Hgo:=Lib.hid hgo
   have Hck:=Lib.hid hck
   have hsz:=hbel.size
   clear hc hst hA hgo hck
   by_cases hq : q = 0
   ·subst hq
    go_wp2_with (first | (refine wpList_load_flat rfl 132 _ rfl _ rfl [.int .i64 n,.int .i64 t,.int .i64 s0,.int .i64 r,.int .i64 s,.int .i64 d,.int .i64 x] _ Tryz.underlying132 rfl (by kernel_rfl) Hc.out ?_) | (go_at_call 122;refine (Hck.out _).mono ?_;rintro e w1 ⟨rfl,hb1⟩))
    go_roundw
    case rel => exact ⟨k + 1,by omega,by go_num,by rw [Hst.out];simp,(hbel.alloc hsz _).trans (hb1.mono (by simp;omega))⟩
    case measure => simp [Go.RowKit.intOf];omega
   ·have hq' : (q != 0) = true:=by simpa using hq
    have Hq:=Lib.hid hq
    clear hq
    go_wp2_with (first | (refine wpList_load_flat rfl 132 _ rfl _ rfl [.int .i64 n,.int .i64 t,.int .i64 s0,.int .i64 r,.int .i64 s,.int .i64 d,.int .i64 x] _ Tryz.underlying132 rfl (by kernel_rfl) Hc.out ?_) | (go_at_call 122;refine (Hck.out _).mono ?_;rintro e w1 ⟨rfl,hb1⟩))
    go_ret2
    have hfin:=HP.out w1 ((hbel.alloc hsz _).trans (hb1.mono (by simp;omega)))
    rw [Hst.out,if_pos Hq.out] at hfin
    exact hfin
  ·exfalso
   have : firstE l = 0:=by rw [← hgo,List.drop_eq_nil_of_le (by omega)];rfl
   exact Hbad.out this
attribute [local go_sem] AllFrom.cons_eq AllFrom.nil_eq putL_nil putL_cons wantedL_none wantedL_some OpGoalM OpGoalL YieldsJ upd
theorem own_form {w : World} {base : Nat} {e : TypeId} {size : Nat} {v : Value} {n : Nat} {xs : List Value} (h : w.ownsRow base e size v n xs) (hn : 0 < n) :
  ∃ g cap,v = .slice (some ⟨g,0,none⟩) n cap ∧ base ≤ g:=by
 rcases h.2 with ⟨_,h0⟩ | ⟨g,cap,cur,hv,hb,hg,_⟩
 ·omega
 ·exact ⟨g,cap,hv,hb⟩
theorem ints_get (P : List Int) (k : Nat) (h : k < P.length) : (ints P)[k]? = some (.int .i64 (P.getD k 0)):=by
 rw [ints_at P k h,List.getD_eq_getElem?_getD,List.getElem?_eq_getElem h];rfl
set_option maxHeartbeats 4000000 in
theorem rplan_ok (A : Option Addr) (c : Nat) (l : List Sy) (w : World) (hl : l.length ≤ 20) (hA : Lies w w.heap.size A (sysCells l)) (hok : firstE l = 0) :
  Calls Tryz.prog 73 #[.slice A l.length c] w (PlanPost l w):=by
 have hp : planE l = 0:=by unfold planE;rw [if_neg (by omega)];exact hok
 have hpl : planL l = planTo l l.length:=by unfold planL;rw [if_pos hp]
 have Hp:=Lib.hid hp
 have Hpl:=Lib.hid hpl
 have Hok:=Lib.hid hok
 clear hp hpl hok
 go_enter Tryz.func73,Tryz.ntmps73
 go_wp2
 go_loopw [17] (fun i wr => ∃ k : Nat,k ≤ l.length ∧ i = .int .i64 k ∧ firstE (l.drop k) = firstE l ∧ Below w.heap.size w wr) (fun i _ => l.length - (Go.RowKit.intOf i).toNat)
 case atStart => exact ⟨0,by omega,rfl,rfl,Below.refl _ _⟩
 case round =>
  obtain ⟨k,hk,rfl,hgo,hbel⟩:=hrel
  have hsz:=hbel.size
  by_cases hlt : k < l.length
  ·obtain ⟨a,rfl,hb,hc⟩:=((hA.below hbel).mono hbel.size).elem Sy.cells_len (by omega) hlt
   have hst:=firstE_drop l k hlt
   generalize l[k] = p at *
   obtain ⟨n,t,s0,r,s,d,x⟩:=p
   have hck:=fun w => sysRef_any n t s0 r s d x w
   have he : Sy.e ⟨n,t,s0,r,s,d,x⟩ = sysE n t s0 r s d x:=rfl
   rw [he,hgo,Hok.out] at hst
   clear he
   generalize sysE n t s0 r s d x = q at *
   have hq : q = 0:=by
    apply Classical.byContradiction
    intro hne
    rw [if_pos hne] at hst
    exact hne hst.symm
   subst hq
   have Hc:=Lib.hid hc
   have Hst:=Lib.hid hst
   have HA:=Lib.hid hA
   have Hgo:=Lib.hid hgo
   have Hck:=Lib.hid hck
   clear hc hst hA hgo hck
   go_wp2_with (first | (refine wpList_load_flat rfl 132 _ rfl _ rfl [.int .i64 n,.int .i64 t,.int .i64 s0,.int .i64 r,.int .i64 s,.int .i64 d,.int .i64 x] _ Tryz.underlying132 rfl (by kernel_rfl) Hc.out ?_) | (go_at_call 122;refine (Hck.out _).mono ?_;rintro e w1 ⟨rfl,hb1⟩))
   go_roundw
   case rel => exact ⟨k + 1,by omega,by go_num,by rw [Hok.out,Hst.out];simp,(hbel.alloc hsz _).trans (hb1.mono (by simp;omega))⟩
   case measure => simp [Go.RowKit.intOf];omega
  ·have HA0:=Lib.hid hA
   obtain rfl : k = l.length:=by omega
   clear hA hgo hk hlt
   go_wp2
   go_loopw [29,7] (fun s v wq => ∃ i : Nat,i ≤ l.length ∧ s = .int .i64 i ∧ wq.ownsRow w.heap.size 3 1 v i (ints (planTo l i)) ∧ Below w.heap.size w wq) (fun s _ _ => l.length - (Go.RowKit.intOf s).toNat)
   case atStart => exact ⟨0,by omega,rfl,⟨rfl,.inl ⟨rfl,rfl⟩⟩,hbel⟩
   case round =>
    clear hbel hsz
    obtain ⟨i,hi,rfl,hown,hbel⟩:=hrel
    have hsz2:=hbel.size
    by_cases hlt : i < l.length
    ·obtain ⟨a,rfl,hb,hc⟩:=(HA0.out.below hbel).elem Sy.cells_len (by omega) hlt
     have hls:=fun k hk => lvlAt_succ l i k hlt hk
     have hz:=lvlAt_zero l i
     have hps:=planTo_succ l i
     have hpn:=planTo_len l i
     generalize l[i] = p at *
     obtain ⟨n,t,s0,r,s,d,x⟩:=p
     have Hc:=Lib.hid hc
     obtain ⟨Hls,Hps,Hpn⟩:=hid3 hls hps hpn
     clear hc hls hps hpn
     go_wp2_with (first | (refine wpList_load_flat rfl 132 _ rfl _ rfl [.int .i64 n,.int .i64 t,.int .i64 s0,.int .i64 r,.int .i64 s,.int .i64 d,.int .i64 x] _ Tryz.underlying132 rfl (by kernel_rfl) Hc.out ?_) | fail)
     obtain ⟨gs,hgs⟩ : ∃ gs,gs = wr.heap.size:=⟨_,rfl⟩
     have hblk : (wr.alloc (.cells #[.int .i64 n,.int .i64 t,.int .i64 s0,.int .i64 r,.int .i64 s,.int .i64 d,.int .i64 x] 132)).heap[gs]? = some (.cells #[.int .i64 n,.int .i64 t,.int .i64 s0,.int .i64 r,.int .i64 s,.int .i64 d,.int .i64 x] 132 (0,0)):=by rw [hgs];exact heap_alloc_new wr _
     rw [← hgs]
     have Hgs:=Lib.hid hgs
     clear hgs
     go_loopw [35,10] (fun s' cv wq => ∃ k : Nat,k ≤ i ∧ s' = .int .i64 k ∧ cv = .int .i64 (lvlAt l i k) ∧ wq.ownsRow w.heap.size 3 1 u7 i (ints (planTo l i)) ∧ Below w.heap.size w wq ∧ wq.heap[gs]? = some (.cells #[.int .i64 n,.int .i64 t,.int .i64 s0,.int .i64 r,.int .i64 s,.int .i64 d,.int .i64 x] 132 (0,0))) (fun s' _ _ => i - (Go.RowKit.intOf s').toNat)
     case atStart => exact ⟨0,by omega,rfl,by rw [hz],hown.alloc _,hbel.alloc hsz2 _,hblk⟩
     case round =>
      clear hown hbel hblk hsz2 hz
      obtain ⟨k,hk,rfl,rfl,hown,hbel,hblk⟩:=hrel
      have hsz3:=hbel.size
      have hgl : gs < wr.heap.size:=by
       rcases Nat.lt_or_ge gs wr.heap.size with h | h
       ·exact h
       ·rw [Array.getElem?_eq_none h] at hblk;cases hblk
      by_cases hlt2 : k < i
      ·obtain ⟨a2,ha2,hb2,hc2⟩:=(HA0.out.below hbel).elem Sy.cells_len (by omega) (show k < l.length by omega)
       cases ha2
       obtain ⟨g,cap,hv,hgw0⟩:=own_form hown (by omega)
       subst hv
       have hgw:=(hown.lt g rfl).2
       have hls:=Hls.out k (by omega)
       have hlb:=lvlAt_bound l i k
       have hxb:=getD_bound (planTo l i) i (planTo_bound l i) (by omega) k
       have hLk : (ints (planTo l i))[k]? = some (.int .i64 ((planTo l i).getD k 0)):=ints_get _ _ (by rw [Hpn.out];exact hlt2)
       have hck:=(hown.cellAt k (by omega)).trans hLk
       generalize l[k]'(by omega) = q at *
       obtain ⟨n',t',s0',r',s',d',x'⟩:=q
       have hcl:=fun w => refClash_any ⟨n',t',s0',r',s',d',x'⟩ ⟨n,t,s0,r,s,d,x⟩ w
       simp only [Sy.val] at hcl
       rw [clash_symm ⟨n',t',s0',r',s',d',x'⟩ ⟨n,t,s0,r,s,d,x⟩] at hcl
       generalize clashB _ _ = b at *
       generalize lvlAt l i k = cur at *
       generalize (planTo l i).getD k 0 = xk at *
       obtain ⟨Hls2,Hcl,Hc2,Hblk,Hown,Hbel⟩:=hid6 hls hcl hc2 hblk hown hbel
       clear hls hLk hcl hc2 hblk hown hbel
       have hkl : k < l.length:=by omega
       go_wp2
       cases b with
       | false =>
        refine wp_planM [some 38,some 39,some 40,some 41,some 42,some 43,some 44,some 45,some 46,some 47,some 48,some 49,some 50,some 51] [[],[],[0,1],[0,1,2],[],[0,1,2,3,4],[0,1,2,3,4,5],[0,1,2,3,4,5,6],[0,1,2,3,4,5,6],[0,1,2,3,4,5,6,7,8],[0,1,2,3,4,5,6,7,8,9],[0,1,2,3,4,5,6],[0,1,2,3,4,5,6,7,8,9,10,11],[0,1,2,3,4,5,6,7,8,9,10,11,12]] [.slice (some a) l.length c,.int .i64 k,.pointer (some (a.add (k * 7))),.agg #[.int .i64 n',.int .i64 t',.int .i64 s0',.int .i64 r',.int .i64 s',.int .i64 d',.int .i64 x'],.agg #[.int .i64 n,.int .i64 t,.int .i64 s0,.int .i64 r,.int .i64 s,.int .i64 d,.int .i64 x],.bool false,.bool false,undef,undef,undef,undef,undef,undef,.bool false]
         (fun w' => Below wr.heap.size wr w') mixed rfl (by kernel_rfl) (Below.refl _ _).drew ?_ ?_
        ·simp only [AllFrom.cons_eq,AllFrom.nil_eq,OpGoalM,wantedL_none,↓reduceIte]
         refine ⟨?_,?_,?_,?_,?_,?_,?_,?_,?_,?_,?_,?_,?_,?_,trivial⟩
         ·intro w1 hI
          go_simp
         ·intro w1 hI
          go_simp
         ·intro w1 hI
          go_simp
         ·intro w1 hI
          have hlo:=fun oo xx ρ ho hx hc => run_op_load ρ oo w1 132 xx ho (a.add (k * 7)) hx [.int .i64 n',.int .i64 t',.int .i64 s0',.int .i64 r',.int .i64 s',.int .i64 d',.int .i64 x'] _ Tryz.underlying132 rfl (by kernel_rfl) hc
          set_option maxRecDepth 100000 in refine yj_run (hlo _ _ _ rfl rfl (fun j u hu => ?_)) hI
          have hlt3 : ((a.add (k * 7)).add j).block < wr.heap.size:=by rw [add_block,add_block];omega
          exact (hI.cell hlt3).trans (Hc2.out j u hu)
         ·intro w1 hI
          have hlo:=fun oo xx ρ ho hx hc => run_op_load ρ oo w1 132 xx ho ⟨gs,0,none⟩ hx [.int .i64 n,.int .i64 t,.int .i64 s0,.int .i64 r,.int .i64 s,.int .i64 d,.int .i64 x] _ Tryz.underlying132 rfl (by kernel_rfl) hc
          set_option maxRecDepth 100000 in refine yj_run (hlo _ _ _ rfl rfl (fun j u hu => ?_)) hI
          have h1:=(hI.block gs hgl).trans Hblk.out
          have e : (⟨gs,0,none⟩ : Addr).add j = ⟨gs,j,none⟩:=by unfold Addr.add;split <;> simp_all
          rw [e,cell_of_row w1 gs j _ _ _ h1]
          simpa using hu
         ·intro w1 hI
          go_simp
          refine (Hcl.out _).mono ?_
          rintro e w' ⟨rfl,hb⟩
          exact ⟨rfl,hI.trans (hb.mono hI.size)⟩
         all_goals (intro w1 hI)
         all_goals go_simp
        ·intro w1 hI
         have hI2:=own_below Hown.out hI
         have hI3:=(hI.block gs hgl).trans Hblk.out
         have hI4:=Hbel.out.trans (hI.mono hsz3)
         obtain ⟨HI,HI2,HI3,HI4⟩:=hid4 hI hI2 hI3 hI4
         have hck1:=(hI.cell (p:=⟨g,k,none⟩) hgw).trans hck
         clear hI hI2 hI3 hI4 hck
         go_simp
         go_wp2
         go_roundw
         case rel => exact ⟨k + 1,by omega,by go_num,by rw [Hls2.out];simp,HI2.out,HI4.out,HI3.out⟩
         case measure => simp [Go.RowKit.intOf];omega
       | true =>
        refine wp_planM [some 38,some 39,some 40,some 41,some 42,some 43,some 44,some 45,some 46,some 47,some 48,some 49,some 50,some 51] [[],[],[0,1],[0,1,2],[],[0,1,2,3,4],[0,1,2,3,4,5],[0,1,2,3,4,5,6],[0,1,2,3,4,5,6],[0,1,2,3,4,5,6,7,8],[0,1,2,3,4,5,6,7,8,9],[0,1,2,3,4,5,6],[0,1,2,3,4,5,6,7,8,9,10,11],[0,1,2,3,4,5,6,7,8,9,10,11,12]] [.slice (some a) l.length c,.int .i64 k,.pointer (some (a.add (k * 7))),.agg #[.int .i64 n',.int .i64 t',.int .i64 s0',.int .i64 r',.int .i64 s',.int .i64 d',.int .i64 x'],.agg #[.int .i64 n,.int .i64 t,.int .i64 s0,.int .i64 r,.int .i64 s,.int .i64 d,.int .i64 x],.bool true,.bool true,.slice (some ⟨g,0,none⟩) i cap,.int .i64 k,.pointer (some ⟨g,k,none⟩),.int .i64 xk,.int .i64 cur,.bool (decide (xk ≥ cur)),.bool (decide (xk ≥ cur))]
         (fun w' => Below wr.heap.size wr w') mixed rfl (by kernel_rfl) (Below.refl _ _).drew ?_ ?_
        ·simp only [AllFrom.cons_eq,AllFrom.nil_eq,OpGoalM,wantedL_none,↓reduceIte]
         refine ⟨?_,?_,?_,?_,?_,?_,?_,?_,?_,?_,?_,?_,?_,?_,trivial⟩
         ·intro w1 hI
          go_simp
         ·intro w1 hI
          go_simp
         ·intro w1 hI
          go_simp
         ·intro w1 hI
          have hlo:=fun oo xx ρ ho hx hc => run_op_load ρ oo w1 132 xx ho (a.add (k * 7)) hx [.int .i64 n',.int .i64 t',.int .i64 s0',.int .i64 r',.int .i64 s',.int .i64 d',.int .i64 x'] _ Tryz.underlying132 rfl (by kernel_rfl) hc
          set_option maxRecDepth 100000 in refine yj_run (hlo _ _ _ rfl rfl (fun j u hu => ?_)) hI
          have hlt3 : ((a.add (k * 7)).add j).block < wr.heap.size:=by rw [add_block,add_block];omega
          exact (hI.cell hlt3).trans (Hc2.out j u hu)
         ·intro w1 hI
          have hlo:=fun oo xx ρ ho hx hc => run_op_load ρ oo w1 132 xx ho ⟨gs,0,none⟩ hx [.int .i64 n,.int .i64 t,.int .i64 s0,.int .i64 r,.int .i64 s,.int .i64 d,.int .i64 x] _ Tryz.underlying132 rfl (by kernel_rfl) hc
          set_option maxRecDepth 100000 in refine yj_run (hlo _ _ _ rfl rfl (fun j u hu => ?_)) hI
          have h1:=(hI.block gs hgl).trans Hblk.out
          have e : (⟨gs,0,none⟩ : Addr).add j = ⟨gs,j,none⟩:=by unfold Addr.add;split <;> simp_all
          rw [e,cell_of_row w1 gs j _ _ _ h1]
          simpa using hu
         ·intro w1 hI
          go_simp
          refine (Hcl.out _).mono ?_
          rintro e w' ⟨rfl,hb⟩
          exact ⟨rfl,hI.trans (hb.mono hI.size)⟩
         all_goals (intro w1 hI)
         all_goals (have hck1:=(hI.cell (p:=⟨g,k,none⟩) hgw).trans hck)
         all_goals go_simp
        ·intro w1 hI
         have hI2:=own_below Hown.out hI
         have hI3:=(hI.block gs hgl).trans Hblk.out
         have hI4:=Hbel.out.trans (hI.mono hsz3)
         obtain ⟨HI,HI2,HI3,HI4⟩:=hid4 hI hI2 hI3 hI4
         have hck1:=(hI.cell (p:=⟨g,k,none⟩) hgw).trans hck
         clear hI hI2 hI3 hI4 hck
         go_simp
         by_cases hge : xk ≥ cur
         ·go_wp2
          go_roundw
          case rel => exact ⟨k + 1,by omega,by go_num,by rw [Hls2.out,if_pos rfl];exact congrArg (Value.int .i64) (by first | omega | (rw [wrap_small _ (by omega) (by omega)];omega)),HI2.out,HI4.out,HI3.out⟩
          case measure => simp [Go.RowKit.intOf];omega
         ·go_wp2
          go_roundw
          case rel => exact ⟨k + 1,by omega,by go_num,by rw [Hls2.out,if_pos rfl];exact congrArg (Value.int .i64) (by first | omega | (rw [wrap_small _ (by omega) (by omega)];omega)),HI2.out,HI4.out,HI3.out⟩
          case measure => simp [Go.RowKit.intOf];omega
      ·obtain rfl : k = i:=by omega
       have hown1 : wr.ownsRow w.heap.size 3 1 u7 (planTo l k).length (ints (planTo l k)):=by rw [planTo_len];exact hown
       have hlen:=planTo_len l k
       have hps:=planTo_succ l k
       generalize lvlAt l k k = y at *
       obtain ⟨Hps2,Hbel⟩:=hid2 hps hbel
       clear hown hbel hblk hps hk hlt2
       go_wp2_with (at_builtin;refine app_int rfl _ _ rfl w.heap.size _ (planTo l k) y ⟨wr.heap.size,0,none⟩ 1 rfl (hown1.alloc _) rfl (by simp) (by omega) (by simp;omega) ?_;intro v' w1 hown2 hb1)
       go_roundw
       case rel => exact ⟨k + 1,by omega,by go_num,by rw [Hps2.out];simpa [hlen] using hown2,(Hbel.out.alloc hsz3 _).trans hb1⟩
       case measure => simp [Go.RowKit.intOf];omega
    ·obtain rfl : i = l.length:=by omega
     have hpost : ∀ wz,wz = wr → PlanPost l w (.returned (.tuple #[u7,.int .i64 0])) wz:=by
      rintro wz rfl
      refine ⟨_,by rw [Hp.out],?_,hbel⟩
      rw [Hpl.out,planTo_len];exact hown
     have HP:=Lib.hid hpost
     clear hown hpost hbel hi hlt
     go_wp2
     go_ret2
     exact HP.out _ rfl
end Go.Proofs.YtehjfmjibiafdaaGreat
namespace Go.Proofs.YtehjfmjibiafdaaGreat
open Go.ChangeShapes Go.WideShapes Go.ChangeAt Go.RowKit
theorem plan_any (A : Option Addr) (c : Nat) (l : List Sy) (w : World) (hl : l.length ≤ 9223372036854775807) (hA : Lies w w.heap.size A (sysCells l)) :
  Calls Tryz.prog 69 #[.slice A l.length c] w (PlanPost l w):=by
 rcases Nat.lt_or_ge 20 l.length with h | h
 ·exact sys_many A c l w h hl
 ·by_cases he : firstE l = 0
  ·exact plan_ok A c l w h hA he
  ·exact plan_bad A c l w h hA he
theorem rplan_any (A : Option Addr) (c : Nat) (l : List Sy) (w : World) (hl : l.length ≤ 9223372036854775807) (hA : Lies w w.heap.size A (sysCells l)) :
  Calls Tryz.prog 73 #[.slice A l.length c] w (PlanPost l w):=by
 rcases Nat.lt_or_ge 20 l.length with h | h
 ·exact rsys_many A c l w h hl
 ·by_cases he : firstE l = 0
  ·exact rplan_ok A c l w h hA he
  ·exact rplan_bad A c l w h hA he
attribute [local go_sem] AllFrom.cons_eq AllFrom.nil_eq putL_nil putL_cons wantedL_none wantedL_some OpGoalM YieldsJ
end Go.Proofs.YtehjfmjibiafdaaGreat
namespace Go.Proofs.YtehjfmjibiafdaaGreat
open Go Go.RowKit
attribute [local go_sem] AllFrom.cons_eq AllFrom.nil_eq putF_nil putF_cons wantedL_none wantedL_some OpGoalT OpGoalV OpGoalQ OpGoalA OpGoalK YieldsR preF_nil preF_cons
section
variable {w0 V V' : World} {R : List Rs} {L : Nat → Bool} {σ : Nat → Value}
end
section
variable {q : Nat} {sl : Sl} {L : List Rw} {B : List Bd} {w : World} {F : List Nat}
end
end Go.Proofs.YtehjfmjibiafdaaGreat
namespace Go.Proofs.YtehjfmjibiafdaaGreat
open Go Go.RowKit
end Go.Proofs.YtehjfmjibiafdaaGreat
namespace Go.Proofs.YtehjfmjibiafdaaGreat
open Go Go.RowKit
attribute [local go_sem] AllFrom.cons_eq AllFrom.nil_eq putF_nil putF_cons wantedL_none wantedL_some OpGoalT OpGoalV OpGoalQ OpGoalA OpGoalK YieldsR preF_nil preF_cons
section
variable {q : Nat} {sl : Sl} {L : List Rw} {B : List Bd} {w : World} {F : List Nat}
end
end Go.Proofs.YtehjfmjibiafdaaGreat
namespace Go.Proofs.YtehjfmjibiafdaaGreat
open Go Go.RowKit
section
variable {z q : Nat} {sl sl' : Sl} {L L' : List Rw} {B B' : List Bd} {w : World} {F : List Nat} {n e : Int}
theorem vx_state (h : RepX z sl L B w F) (hl : B.length ≤ 60) : Calls Tryz.prog 11 #[.pointer (some ⟨z,0,none⟩)] w (StPost sl L B w):=by
 obtain ⟨p,f,h⟩:=h
 exact vstate_any h hl
end
abbrev PXQ (Lo : Nat) (Z : List Nat) (z q : Nat) (sl : Sl) (L : List Rw) (B : List Bd) (sl' : Sl) (L' : List Rw) (B' : List Bd) (w : World) : Prop:=Sep Lo Z (RepX z sl L B) (RepQ q sl' L' B') w
section
variable {Lo : Nat} {Z : List Nat} {z p f q : Nat} {sl sl' sl2 : Sl} {L L' L2 : List Rw} {B B' B2 : List Bd} {w : World}
theorem PVQ.x (h : PVQ Lo Z z p f q sl L B sl' L' B' w) : PXQ Lo Z z q sl L B sl' L' B' w:=by
 obtain ⟨F,G,⟨a,b,d,af,bf,lo,zl⟩⟩:=h
 exact ⟨F,G,⟨⟨p,f,a⟩,b,d,af,bf,lo,zl⟩⟩
theorem pxq_below {w' : World} (h : PXQ Lo Z z q sl L B sl' L' B' w) (hb : Below w.heap.size w w') : PXQ Lo Z z q sl L B sl' L' B' w' ∧ Below Lo w w' ∧ KeepZ Z w w':=Sep.below (own_X _ _ _ _) (own_Q _ _ _ _) h hb
theorem px_state (h : PXQ Lo Z z q sl L B sl' L' B' w) (hO : ZOk sl L B) : Calls Tryz.prog 11 #[.pointer (some ⟨z,0,none⟩)] w (StPost sl L B w):=by
 obtain ⟨F,G,h⟩:=h
 exact vx_state h.a hO.len
theorem px_qstate (h : PXQ Lo Z z q sl L B sl' L' B' w) (hO : ZOk sl' L' B') : Calls Tryz.prog 12 #[.pointer (some ⟨q,0,none⟩)] w (StPost sl' L' B' w):=by
 obtain ⟨F,G,h⟩:=h
 exact qstate_any h.b hO
end
end Go.Proofs.YtehjfmjibiafdaaGreat
namespace Go.Proofs.YtehjfmjibiafdaaGreat
open Go Go.RowKit
attribute [local go_sem] AllFrom.cons_eq AllFrom.nil_eq putF_nil putF_cons wantedL_none wantedL_some OpGoalT OpGoalV OpGoalQ OpGoalA OpGoalK YieldsR preF_nil preF_cons
def syC (p : Sy) : List Value:=ints p.cells
theorem syC_len (p : Sy) : (syC p).length = 7:=rfl
theorem sysCells_flat (l : List Sy) : sysCells l = l.flatMap syC:=by unfold sysCells ints;rw [List.map_flatMap];rfl
theorem syC_one (p : Sy) : ∀ u ∈ syC p,u.oneCell' = true:=ints_one _
theorem sz_System (p : Sy) : (Tryz.prog.info? 132).map (·.size) = some (syC p).length:=by rw [syC_len];kernel_rfl
theorem sz_Row0 (x : Rw) : (Tryz.prog.info? 69).map (·.size) = some (rwC x).length:=by rw [rwC_len];kernel_rfl
def serO (l : List Sy) (L : List Rw) : List Rw:=if planE l = 0 then serL l L else L
section
variable {z : Nat} {sl : Sl} {L : List Rw} {B : List Bd} {w : World} {F : List Nat}
set_option maxRecDepth 20000 in
set_option maxHeartbeats 8000000 in
theorem serial_any (h : RepX z sl L B w F) (hO : WOk sl L) {Lo : Nat} (hLo : ∀ y ∈ F,Lo ≤ y) (hlo : Lo ≤ w.heap.size) (A : Option Addr) (c : Nat) (l : List Sy) (hl : l.length ≤ 9223372036854775807) (hA : Lies w Lo A (sysCells l)) (hn : ∀ s ∈ l,InR s.n) :
  Calls Tryz.prog 24 #[.pointer (some ⟨z,0,none⟩),.slice A l.length c] w (fun x w' => x = .returned (.int .i64 (planE l)) ∧ OwnPost (RepX z sl (serO l L) B) F w w'):=by
 have H1:=Lib.hid (plan_any A c l w hl (hA.mono hlo))
 rw [sysCells_flat] at hA
 obtain ⟨HV,HO,HLo,Hlo,HA,Hn⟩:=hid6 h hO hLo hlo hA hn
 clear h hO hLo hlo hA hn
 go_enter Tryz.func24,Tryz.ntmps24
 go_wp2_with fail
 refine H1.out.mono ?_
 rintro x1 w1 ⟨v1,rfl,-,hb1⟩
 by_cases hpe : planE l = 0
 rotate_left
 ·have hne : (planE l != 0) = true:=by simpa using hpe
  have hfin : OwnPost (RepX z sl (serO l L) B) F w w1:=by unfold serO;rw [if_neg hpe];exact OwnPost.ofBelow (own_X _ _ _ _) HV.out hb1
  have Hfin:=Lib.hid hfin
  clear hfin
  clear hpe hb1 H1
  go_wp2
  go_ret
  exact ⟨rfl,Hfin.out⟩
 have hso : serO l L = serL l L:=if_pos hpe
 rw [hpe]
 have Hso:=Lib.hid hso
 clear hso
 obtain ⟨h20,hse⟩:=planE_all hpe
 have hB1 : Below Lo w w1:=hb1.mono Hlo.out
 have hV1:=OwnPost.ofBelow (own_X _ _ _ _) HV.out hb1
 obtain ⟨Hse,Hpe,HV1,HB1⟩:=hid4 hse hpe hV1 hB1
 clear hse hpe hV1 hB1
 clear hb1 H1 hl
 go_wp2_with fail
 go_loopw [21] (fun i wr => ∃ k : Nat,k ≤ l.length ∧ i = .int .i64 k ∧ OwnPost (RepX z sl (serL (l.take k) L) B) F w wr) (fun i _ => l.length - (Go.RowKit.intOf i).toNat)
 case atStart => exact ⟨0,by omega,rfl,HV1.out⟩
 case round =>
  obtain ⟨k,hk,rfl,hOP⟩:=hrel
  have hbr : Below Lo w wr:=hOP.mod.toBelow HLo.out Hlo.out
  by_cases hlt : k < l.length
  ·obtain ⟨ab,ao,rfl,hal,hc⟩:=HA.out.rec_at syC_len (by omega) hlt
   have hq : ∀ j u,(syC l[k])[j]? = some u → wr.cell? ((⟨ab,ao + k * 7,none⟩ : Addr).add j) = some u:=fun j u hu => (hbr.cell (p:=(⟨ab,ao + k * 7,none⟩ : Addr).add j) (by rw [add_block];exact hal)).trans (by first | exact hc j u hu | (have:=hc j u hu;rw [Addr.add_mid];exact this))
   have hki : (k : Int) < (l.length : Int):=by omega
   have hsk:=Hse.out l[k] (List.getElem_mem hlt)
   have hnk:=Hn.out l[k] (List.getElem_mem hlt)
   have hst : serL (l.take (k + 1)) L = (serL (l.take k) L).map (stepRow l[k]):=by rw [take_succ_get l k hlt,serL_snoc]
   have hOk : WOk sl (serL (l.take k) L):=serL_ok (fun s hs => Hse.out s (List.mem_of_mem_take hs)) HO.out
   generalize l[k] = sy at *
   generalize serL (l.take k) L = M at *
   obtain ⟨n,t,a,r,q,d,x⟩:=sy
   obtain ⟨F1,⟨p,f,hV⟩,hT⟩:=hOP
   obtain ⟨w3,hw3,hb3,hk3,hs3⟩:=box1 wr (.cells #[.int .i64 n,.int .i64 t,.int .i64 a,.int .i64 r,.int .i64 q,.int .i64 d,.int .i64 x] 132)
   have HbF:=Lib.hid (fun e => (by have:=hV.lt _ e;omega) : wr.heap.size ∉ F1)
   have hV3:=hV.below hb3
   have hT3:=hT.below hb3
   have HR:=Lib.hid (rows_any hV3)
   have hlF1:=hV3.lt
   obtain ⟨HQ,Hsk,Hnk,Hst,HOk,HV3,HT3,Hk3,Hw3,Hs3,HlF1⟩:=hid11 hq hsk hnk hst hOk hV3 hT3 hk3 hw3 hs3 hlF1
   clear hq hsk hnk hst hOk hV3 hT3 hk3 hw3 hs3 hlF1
   have Hlt:=Lib.hid hlt
   clear hc hbr hV hT hb3 hal
   go_wp2_with (first | (refine wpList_load_flat rfl 132 (.tmp 23) rfl _ rfl (syC ⟨n,t,a,r,q,d,x⟩) _ Tryz.underlying132 rfl (sz_System _) HQ.out ?_) | (refine wpList_store_new rfl 132 (.tmp 8) (.tmp 24) rfl wr (ints [0,0,0,0,0,0,0]) (syC ⟨n,t,a,r,q,d,x⟩) 132 rfl rfl rfl (sz_System _) (syC_one _) ?_;rw [show (syC ⟨n,t,a,r,q,d,x⟩).toArray = #[.int .i64 n,.int .i64 t,.int .i64 a,.int .i64 r,.int .i64 q,.int .i64 d,.int .i64 x] from rfl,Hw3.out]) | fail)
   refine HR.out.mono ?_
   rintro x4 w4 ⟨v4,rfl,hrow,hb4⟩
   obtain ⟨A4,c4,rfl,-,-⟩:=row_slice hrow
   have hV4:=HV3.out.below hb4
   have hk4:=(Mod.ofBelow hb4).keep Hk3.out (by simp)
   have hT4:=HT3.out.below hb4
   have hM60:=HOk.out.len
   have hsz : wr.heap.size < w3.heap.size ∧ w3.heap.size ≤ w4.heap.size:=⟨by have:=Hs3.out;omega,hb4.size⟩
   have hkF:=HbF.out
   obtain ⟨HV4,Hk4,HT4,Hrow,HSz,HkF⟩:=hid6 hV4 hk4 hT4 hrow hsz hkF
   clear hV4 hk4 hT4 hrow hsz hkF
   clear hb4 HR HV3 Hk3 HT3 Hw3 HQ
   go_wp2_with fail
   generalize wr.heap.size = bs at *
   go_loopw [28] (fun i wr => ∃ j : Nat,j ≤ M.length ∧ i = .int .i64 j ∧ OwnPost (RepV z p f sl ((M.take j).map (stepRow ⟨n,t,a,r,q,d,x⟩) ++ M.drop j) B) F1 w4 wr) (fun i _ => M.length - (Go.RowKit.intOf i).toNat)
   case atStart => exact ⟨0,by omega,rfl,OwnPost.ofBelow (own_V _ _ _ _ _ _) (by simpa using HV4.out) (Below.refl _ _)⟩
   case round =>
    obtain ⟨j,hj,rfl,hOP⟩:=hrel
    by_cases hlt2 : j < M.length
    ·obtain ⟨F2,hV,hT⟩:=hOP
     have hnF : ∀ b,w3.heap.size ≤ b → b ∉ F1:=fun b hb e => by have:=HlF1.out b e;omega
     have hk5:=hT.mod.keep Hk4.out HkF.out
     have hrw:=row_mod Hrow.out hT.mod (fun b hb => hnF b (own_ge Hrow.out b hb))
     obtain ⟨g0,cap,cur,he,-,-,-⟩:=row_some hrw (by omega)
     cases he
     have hpc:=row_piece rwC_len hrw hlt2 0 (rwC M[j]) (fun i u hu => by rw [Nat.zero_add];exact hu)
     have hgl:=row_lt hrw g0 rfl
     have hnx:=row_next HOk.out Hsk.out j hlt2
     have hbe:=HOk.out.be M[j] (List.getElem_mem hlt2)
     unfold rowP at hnx
     generalize M[j] = y at *
     obtain ⟨⟨s,g⟩,K,a0,a1,a2,a3,a4,a5,a6,a7⟩:=y
     obtain ⟨M1,hM1⟩ : ∃ M1,(M.take j).map (stepRow ⟨n,t,a,r,q,d,x⟩) ++ M.drop j = M1:=⟨_,rfl⟩
     rw [hM1] at hV hnx
     obtain ⟨nb,hnb⟩ : ∃ nb,stepBt ⟨n,t,a,r,q,d,x⟩ (K,a0,a1,a2,a3,a4,a5,a6,a7) = nb:=⟨_,rfl⟩
     have hstep:=fun V => (step_both (s:=⟨n,t,a,r,q,d,x⟩) (b:=(K,a0,a1,a2,a3,a4,a5,a6,a7)) Hnk.out Hsk.out hbe V).1
     simp only at hnx
     rw [hnb] at hnx hstep
     obtain ⟨Kn,b0,b1,b2,b3,b4,b5,b6,b7⟩:=nb
     have hji : (j : Int) < (M.length : Int):=by omega
     obtain ⟨w6,hw6,hb6,hk6,hs6⟩:=box1 wr (.cells #[.int .i64 s,.int .i64 g,.int .i64 K,.int .i64 a0,.int .i64 a1,.int .i64 a2,.int .i64 a3,.int .i64 a4,.int .i64 a5,.int .i64 a6,.int .i64 a7] 69)
     have hV6:=hV.below hb6
     have hT6:=hT.below hb6
     have hk56:=(Mod.ofBelow hb6).keep hk5 (by simp)
     have hq6 : ∀ i u,(rwC ((s,g),K,a0,a1,a2,a3,a4,a5,a6,a7))[i]? = some u → wr.cell? ((⟨g0,j * 11 + 0,none⟩ : Addr).add i) = some u:=hpc
     obtain ⟨HV6,HT6,Hk56,Hk6,Hw6,HStep,HNx,HQ6,HM1⟩:=hid9 hV6 hT6 hk56 hk6 hw6 hstep hnx hq6 hM1
     clear hV6 hT6 hk56 hk6 hw6 hstep hnx hq6 hM1
     have Hlt2:=Lib.hid hlt2
     clear hk5 hrw hpc hV hT hb6 hs6 hnF hbe hnb
     go_wp2_with (first | (refine wpList_load_flat rfl 69 (.tmp 30) rfl _ rfl (rwC ((s,g),K,a0,a1,a2,a3,a4,a5,a6,a7)) _ Tryz.underlying69 rfl (sz_Row0 _) HQ6.out ?_) | (refine wpList_store_new rfl 69 (.tmp 10) (.tmp 31) rfl wr (ints [0,0,0,0,0,0,0,0,0,0,0]) (rwC ((s,g),K,a0,a1,a2,a3,a4,a5,a6,a7)) 69 rfl rfl rfl (sz_Row0 _) (rwC_one _) ?_;rw [show (rwC ((s,g),K,a0,a1,a2,a3,a4,a5,a6,a7)).toArray = #[.int .i64 s,.int .i64 g,.int .i64 K,.int .i64 a0,.int .i64 a1,.int .i64 a2,.int .i64 a3,.int .i64 a4,.int .i64 a5,.int .i64 a6,.int .i64 a7] from rfl,Hw6.out]) | fail)
     generalize wr.heap.size = rb at *
     refine wp_planK [] 10 [0] [some 32,some 33,some 34,some 35,some 36,some 37,some 38,some 39,some 40,some 41] [[],[],[1],[],[3],[],[5],[],[5,6,7],[0,1,2,3,4,5,6,7,8]] [0,1,2,3,4,5,6,7,8,9] (fun Lf σ W => ITurn 9 w6 F2 (RepV z p f sl (putsL (s,g) (K,a0,a1,a2,a3,a4,a5,a6,a7) (Kn,b0,b1,b2,b3,b4,b5,b6,b7) M1 (kindsN (low8 Kn))) B) Lf σ W) mixed rfl (by kernel_rfl) (by decide) (by decide) (by decide) (ITurn.start below_drew) rfl ?_
     iterate 10 apply Exists.intro
     refine ⟨rfl,?_,?_⟩
     ·simp only [tS,List.take_zero,AllFrom.cons_eq,AllFrom.nil_eq,OpGoalK]
      refine ⟨?_,?_,?_,?_,?_,?_,?_,?_,?_,?_,trivial⟩
      all_goals (intro L' σ V h1 h2 h3 hI hp;have HA1:=Lib.hid h1;have HA2:=Lib.hid h2;have HA3:=Lib.hid h3;clear h1 h2 h3;(try simp only [gZ,gS,preK_cons,preK_nil] at hp);(try simp only [List.not_mem_nil,false_or,and_true] at hp);(first | (have hq : True:=hp;clear hq hp) | skip);have HI:=Lib.hid hI;clear hI)
      all_goals (
       have hb:=HI.out.s0 (by first | exact HA3.out 9 (by decide) | exact HA1.out)
       have hRV:=HV6.out.below hb
       have hk1:=(Mod.ofBelow hb).keep Hk6.out (by simp)
       have hk2:=(Mod.ofBelow hb).keep Hk56.out (by simp)
       have e0:=blk_cell hk1 0
       have e1:=blk_cell hk1 1
       have e2:=blk_cell hk1 2
       have e3:=blk_cell hk1 3
       have e4:=blk_cell hk1 4
       have e5:=blk_cell hk1 5
       have e6:=blk_cell hk1 6
       have e7:=blk_cell hk1 7
       have e8:=blk_cell hk1 8
       have e9:=blk_cell hk1 9
       have e10:=blk_cell hk1 10
       simp only [eA,eZ,eS] at e0 e1 e2 e3 e4 e5 e6 e7 e8 e9 e10
       have el:=blk_lt hk1
       have y0:=blk_cell hk2 0
       have y1:=blk_cell hk2 1
       have y2:=blk_cell hk2 2
       have y3:=blk_cell hk2 3
       have y4:=blk_cell hk2 4
       have y5:=blk_cell hk2 5
       have y6:=blk_cell hk2 6
       simp only [eA,eZ,eS] at y0 y1 y2 y3 y4 y5 y6
       have yl:=blk_lt hk2
       have HRV:=Lib.hid hRV
       clear hRV hb hk1 hk2)
      iterate 8 · (go_simp;exact ⟨.inr rfl,HI.out.read (by decide) _⟩)
      ·(go_simp;refine (HStep.out V).mono ?_;rintro e V2 ⟨rfl,hb2⟩;exact ⟨_,rfl,.inr rfl,HI.out.call (HA3.out 9 (by decide)) (by decide) hb2 _⟩)
      ·(go_simp;refine (put_any HRV.out s g K a0 a1 a2 a3 a4 a5 a6 a7 Kn b0 b1 b2 b3 b4 b5 b6 b7).mono ?_;rintro e V2 ⟨rfl,hp2⟩;exact ⟨_,rfl,.inr rfl,HI.out.turn HA1.out hp2 _⟩)
     ·intro L' σ V7 h1 hI hp
      have hP:=hI.s1 (h1 9 (by decide))
      clear h1 hI
      simp only [preK_cons,preK_nil,gZ,gS] at hp;simp only [List.not_mem_nil,false_or,and_true] at hp
      have hOP7 : OwnPost (RepV z p f sl ((M.take (j + 1)).map (stepRow ⟨n,t,a,r,q,d,x⟩) ++ M.drop (j + 1)) B) F1 w4 V7:=by
       rw [← HNx.out]
       obtain ⟨F4,h3,h4⟩:=hP
       exact ⟨F4,h3,HT6.out.trans h4⟩
      have HOP7:=Lib.hid hOP7
      clear hOP7
      clear hP
      simp only [dS,List.drop_zero]
      go_simp
      clear hp
      go_wp2
      refine ⟨rfl,?_⟩
      go_wp2
      go_roundw
      case rel => exact ⟨j + 1,by have:=Hlt2.out;omega,by go_num,HOP7.out⟩
      case measure => have:=Hlt2.out;simp [Go.RowKit.intOf];omega
    ·obtain rfl : j = M.length:=by omega
     rw [List.take_length,List.drop_length,List.append_nil] at hOP
     have hOP2 : OwnPost (RepX z sl (serL (l.take (k + 1)) L) B) F w wr:=by
      rw [Hst.out]
      obtain ⟨F4,h3,h4⟩:=hOP
      exact ⟨F4,⟨p,f,h3⟩,HT4.out.trans h4⟩
     have HOP2:=Lib.hid hOP2
     clear hOP2
     clear hOP hlt2
     go_wp2
     go_roundw
     case rel => exact ⟨k + 1,by have:=Hlt.out;omega,by go_num,HOP2.out⟩
     case measure => have:=Hlt.out;simp [Go.RowKit.intOf];omega
  ·obtain rfl : k = l.length:=by omega
   rw [List.take_length] at hOP
   have HOP:=Lib.hid hOP
   clear hOP
   clear hlt hbr
   go_wp2
   go_ret
   exact ⟨by rw [Hpe.out];rfl,by rw [Hso.out];exact HOP.out⟩
end
end Go.Proofs.YtehjfmjibiafdaaGreat
