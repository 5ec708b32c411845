import Derived.Test.YtfdillpofciicaaGreatDoorTopSavedJ31
import Derived.Great.BuildSlice
set_option linter.unusedVariables false
set_option linter.unusedSimpArgs false
/- A part of the proof that TopSaved returns true. -/
namespace Go.Proofs.YtfdillpofciicaaGreatDoor
open Go.RowKit
theorem made_ints : ∀ n : Nat,(madeCells (Value.int .i64 0).cells (n * 1)).toList = ints (List.replicate n 0):=by
 intro n
 show (madeCells #[.int .i64 0] (n * 1)).toList = _
 rw [toList_madeCells_one,Nat.mul_one]
 simp [ints]
theorem make_int {w : World} {ops : Array Oper} {rest : List Oper} {o : Oper} {a : Act} {Q : Exit → Act → World → Prop} (hgd : o.guard = none) (s x : Operand)
  (ho : o.op = .makeSlice 22 s x) (base n : Nat) (hs : a.eval s = .int .i64 n) (hx : a.eval x = .int .i64 n) (hn : n ≤ 1000000) (hbase : base ≤ w.heap.size)
  (h : ∀ w',w'.ownsRow base 3 1 (.slice (some ⟨w.heap.size,0,none⟩) n n) n (ints (List.replicate n 0)) → Below base w w' → wpList Tryz.prog ops Q rest (a.put o.dst (.slice (some ⟨w.heap.size,0,none⟩) n n)) w') :
  wpList Tryz.prog ops Q (o :: rest) a w:=by
 obtain ⟨i0,hi,hz0,hz1,hz2⟩:=info_parts info_int
 refine wpList_make_full w hgd s x 22 ho base 3 i0 (.int .i64 0) 1 Tryz.underlying22 hi hz0 hz1 .i64 .i64 n n n hs hx rfl rfl (by rw [hz2];omega) (by unfold maxLen;omega) hbase ?_
 intro w' h1 h2
 rw [made_ints] at h1
 exact h w' h1 ((Below.refl base w).grown h2 hbase (by simp))
theorem own_below {w w' : World} {B e size n : Nat} {v : Value} {xs : List Value} (h : w.ownsRow B e size v n xs) (hb : Below w.heap.size w w') : w'.ownsRow B e size v n xs:=by
 obtain ⟨hl,h⟩:=h
 refine ⟨hl,?_⟩
 rcases h with h | ⟨g,cap,cur,hv,hg,hh,hr⟩
 ·exact .inl h
 ·have hlt : g < w.heap.size:=by
   rcases Nat.lt_or_ge g w.heap.size with h | h
   ·exact h
   ·rw [Array.getElem?_eq_none h] at hh;cases hh
  exact .inr ⟨g,cap,cur,hv,hg,(hb.block g hlt).trans hh,hr⟩
theorem rep_succ (n i : Nat) (h : i < n) : List.replicate (n - i) (0 : Int) = 0 :: List.replicate (n - (i + 1)) 0:=by
 rw [show n - i = (n - (i + 1)) + 1 by omega,List.replicate_succ]
theorem wrap_small (z : Int) (h1 : 0 ≤ z) (h2 : z ≤ 1000000) : IntKind.i64.wrap z = z:=by
 have e : z % 2 ^ 64 = z:=Int.emod_eq_of_lt h1 (by omega)
 simp only [IntKind.wrap,IntKind.bits,IntKind.signed,e,Bool.true_and,decide_eq_true_eq]
 split <;> omega
theorem ints_left (P R : List Int) (y : Int) (k : Nat) (h : k < P.length) : (ints (P ++ y :: R))[k]? = some (.int .i64 (P.getD k 0)):=by
 unfold ints
 rw [List.getElem?_map,List.getElem?_append_left h,List.getElem?_eq_getElem h,List.getD_eq_getElem?_getD,List.getElem?_eq_getElem h];rfl
theorem ints_mid (P R : List Int) (y : Int) (i : Nat) (h : P.length = i) : (ints (P ++ y :: R))[i]? = some (.int .i64 y):=by
 subst h
 unfold ints
 rw [List.getElem?_map,List.getElem?_append_right (Nat.le_refl _)];simp
theorem ints_setP (P R : List Int) (y z : Int) (i : Nat) (h : P.length = i) : (ints (P ++ y :: R)).set i (.int .i64 z) = ints (P ++ z :: R):=by
 subst h
 unfold ints
 simp
attribute [local go_sem] AllFrom.cons_eq AllFrom.nil_eq putL_nil putL_cons wantedL_none wantedL_some OpGoalM OpGoalL YieldsJ upd
set_option maxHeartbeats 4000000 in
theorem plan_ok (A : Option Addr) (c : Nat) (l : List Sy) (w : World) (hl : l.length ≤ 20) (hA : Lies w w.heap.size A (sysCells l)) (hok : firstE l = 0) :
  Calls Tryz.prog 57 #[.slice A l.length c] w (PlanPost l w):=by
 have hp : planE l = 0:=by unfold planE;rw [if_neg (by omega)];exact hok
 have hpl : planL l = planTo l l.length:=by unfold planL;rw [if_pos hp]
 have Hp:=Lib.hid hp
 have Hpl:=Lib.hid hpl
 have Hok:=Lib.hid hok
 clear hp hpl hok
 go_enter Tryz.func57,Tryz.ntmps57
 go_wp2
 go_loopw [16] (fun i wr => ∃ k : Nat,k ≤ l.length ∧ i = .int .i64 k ∧ firstE (l.drop k) = firstE l ∧ Below w.heap.size w wr) (fun i _ => l.length - (Go.RowKit.intOf i).toNat)
 case atStart => exact ⟨0,by omega,rfl,rfl,Below.refl _ _⟩
 case round =>
  obtain ⟨k,hk,rfl,hgo,hbel⟩:=hrel
  have hsz:=hbel.size
  by_cases hlt : k < l.length
  ·obtain ⟨a,rfl,hb,hc⟩:=((hA.below hbel).mono hbel.size).elem Sy.cells_len (by omega) hlt
   have hst:=firstE_drop l k hlt
   generalize l[k] = p at *
   obtain ⟨n,t,s0,r,s,d,x⟩:=p
   have hck:=fun w => sysCheck_any n t s0 r s d x w
   have he : Sy.e ⟨n,t,s0,r,s,d,x⟩ = sysE n t s0 r s d x:=rfl
   rw [he,hgo,Hok.out] at hst
   clear he
   generalize sysE n t s0 r s d x = q at *
   have hq : q = 0:=by
    apply Classical.byContradiction
    intro hne
    rw [if_pos hne] at hst
    exact hne hst.symm
   subst hq
   have Hc:=Lib.hid hc
   have Hst:=Lib.hid hst
   have HA:=Lib.hid hA
   have Hgo:=Lib.hid hgo
   have Hck:=Lib.hid hck
   clear hc hst hA hgo hck
   go_wp2_with (first | (refine wpList_load_flat rfl 102 _ rfl _ rfl [.int .i64 n,.int .i64 t,.int .i64 s0,.int .i64 r,.int .i64 s,.int .i64 d,.int .i64 x] _ Tryz.underlying102 rfl (by kernel_rfl) Hc.out ?_) | (go_at_call 104;refine (Hck.out _).mono ?_;rintro e w1 ⟨rfl,hb1⟩))
   go_roundw
   case rel => exact ⟨k + 1,by omega,by go_num,by rw [Hok.out,Hst.out];simp,(hbel.alloc hsz _).trans (hb1.mono (by simp;omega))⟩
   case measure => simp [Go.RowKit.intOf];omega
  ·have HA0:=Lib.hid hA
   obtain rfl : k = l.length:=by omega
   clear hA hgo hk hlt
   go_wp2_with (at_make;refine make_int rfl _ _ rfl w.heap.size l.length rfl rfl (by omega) hsz ?_;intro wm hown0 hbm)
   have hbel2 : Below w.heap.size w wm:=hbel.trans hbm
   have hg : w.heap.size ≤ wr.heap.size:=hsz
   generalize wr.heap.size = g at *
   clear hbm hbel
   go_loopw [31] (fun s wq => ∃ i : Nat,i ≤ l.length ∧ s = .int .i64 i ∧ wq.ownsRow w.heap.size 3 1 (.slice (some ⟨g,0,none⟩) l.length l.length) l.length (ints (planTo l i ++ List.replicate (l.length - i) 0)) ∧ Below w.heap.size w wq) (fun s _ => l.length - (Go.RowKit.intOf s).toNat)
   case atStart => exact ⟨0,by omega,rfl,hown0,hbel2⟩
   case round =>
    clear hown0 hbel2
    obtain ⟨i,hi,rfl,hown,hbel⟩:=hrel
    have hsz2:=hbel.size
    by_cases hlt : i < l.length
    ·obtain ⟨a,rfl,hb,hc⟩:=(HA0.out.below hbel).elem Sy.cells_len (by omega) hlt
     have hls:=fun k hk => lvlAt_succ l i k hlt hk
     have hz:=lvlAt_zero l i
     have hps:=planTo_succ l i
     have hrp:=rep_succ l.length i hlt
     have hpn:=planTo_len l i
     generalize l[i] = p at *
     obtain ⟨n,t,s0,r,s,d,x⟩:=p
     have Hc:=Lib.hid hc
     obtain ⟨Hls,Hps,Hpn⟩:=hid3 hls hps hpn
     rw [hrp] at hown
     clear hc hls hps hrp hpn
     go_wp2_with (first | (refine wpList_load_flat rfl 102 _ rfl _ rfl [.int .i64 n,.int .i64 t,.int .i64 s0,.int .i64 r,.int .i64 s,.int .i64 d,.int .i64 x] _ Tryz.underlying102 rfl (by kernel_rfl) Hc.out ?_) | fail)
     obtain ⟨gs,hgs⟩ : ∃ gs,gs = wr.heap.size:=⟨_,rfl⟩
     have hblk : (wr.alloc (.cells #[.int .i64 n,.int .i64 t,.int .i64 s0,.int .i64 r,.int .i64 s,.int .i64 d,.int .i64 x] 102)).heap[gs]? = some (.cells #[.int .i64 n,.int .i64 t,.int .i64 s0,.int .i64 r,.int .i64 s,.int .i64 d,.int .i64 x] 102 (0,0)):=by rw [hgs];exact heap_alloc_new wr _
     rw [← hgs]
     have hgg : g < gs:=by rw [hgs];exact (hown.lt g rfl).2
     have Hgs:=Lib.hid hgs
     clear hgs
     go_loopw [37] (fun s' wq => ∃ k : Nat,k ≤ i ∧ s' = .int .i64 k ∧ wq.ownsRow w.heap.size 3 1 (.slice (some ⟨g,0,none⟩) l.length l.length) l.length (ints (planTo l i ++ lvlAt l i k :: List.replicate (l.length - (i + 1)) 0)) ∧ Below w.heap.size w wq ∧ wq.heap[gs]? = some (.cells #[.int .i64 n,.int .i64 t,.int .i64 s0,.int .i64 r,.int .i64 s,.int .i64 d,.int .i64 x] 102 (0,0))) (fun s' _ => i - (Go.RowKit.intOf s').toNat)
     case atStart => exact ⟨0,by omega,rfl,by rw [hz];exact hown.alloc _,hbel.alloc hsz2 _,hblk⟩
     case round =>
      clear hown hbel hblk hsz2 hz
      obtain ⟨k,hk,rfl,hown,hbel,hblk⟩:=hrel
      have hsz3:=hbel.size
      have hgl : gs < wr.heap.size:=by
       rcases Nat.lt_or_ge gs wr.heap.size with h | h
       ·exact h
       ·rw [Array.getElem?_eq_none h] at hblk;cases hblk
      have hgsg : g ≠ gs:=by omega
      have hgw:=(hown.lt g rfl).2
      by_cases hlt2 : k < i
      ·obtain ⟨a2,ha2,hb2,hc2⟩:=(HA0.out.below hbel).elem Sy.cells_len (by omega) (show k < l.length by omega)
       cases ha2
       have hls:=Hls.out k (by omega)
       have hlb:=lvlAt_bound l i k
       have hxb:=getD_bound (planTo l i) i (planTo_bound l i) (by omega) k
       have hLk : (ints (planTo l i ++ lvlAt l i k :: List.replicate (l.length - (i + 1)) 0))[k]? = some (.int .i64 ((planTo l i).getD k 0)):=ints_left _ _ _ _ (by rw [Hpn.out];exact hlt2)
       have hLi : (ints (planTo l i ++ lvlAt l i k :: List.replicate (l.length - (i + 1)) 0))[i]? = some (.int .i64 (lvlAt l i k)):=ints_mid _ _ _ _ Hpn.out
       have hLs : ∀ y,(ints (planTo l i ++ lvlAt l i k :: List.replicate (l.length - (i + 1)) 0)).set i (.int .i64 y) = ints (planTo l i ++ y :: List.replicate (l.length - (i + 1)) 0):=fun y => ints_setP _ _ _ _ _ Hpn.out
       have hck:=(hown.cellAt k (by omega)).trans hLk
       have hci:=(hown.cellAt i (by omega)).trans hLi
       have hfi:=hown.frozenAt i
       have hpc:=cell_of_row wr gs
       generalize l[k]'(by omega) = q at *
       obtain ⟨n',t',s0',r',s',d',x'⟩:=q
       have hcl:=fun w => clash_any ⟨n,t,s0,r,s,d,x⟩ ⟨n',t',s0',r',s',d',x'⟩ w
       simp only [Sy.val] at hcl
       generalize clashB _ _ = b at *
       generalize lvlAt l i k = cur at *
       generalize (planTo l i).getD k 0 = xk at *
       obtain ⟨Hls2,HLs,Hcl,Hc2,Hblk,Hown,Hbel⟩:=hid7 hls hLs hcl hc2 hblk hown hbel
       clear hls hLk hLi hLs hcl hc2 hpc hblk hown hbel
       have hkl : k < l.length:=by omega
       go_wp2
       refine wp_planM [some 40,some 41,some 42,some 43,some 44,some 45] [[],[],[],[1,2],[1,2,3],[0,1,2,3,4]] [.agg #[.int .i64 n,.int .i64 t,.int .i64 s0,.int .i64 r,.int .i64 s,.int .i64 d,.int .i64 x],.slice (some a) l.length c,.int .i64 k,.pointer (some (a.add (k * 7))),.agg #[.int .i64 n',.int .i64 t',.int .i64 s0',.int .i64 r',.int .i64 s',.int .i64 d',.int .i64 x'],.bool b]
        (fun w' => Below wr.heap.size wr w') mixed rfl (by kernel_rfl) (Below.refl _ _).drew ?_ ?_
       ·simp only [AllFrom.cons_eq,AllFrom.nil_eq,OpGoalM,wantedL_none,↓reduceIte]
        refine ⟨?_,?_,?_,?_,?_,?_,trivial⟩
        ·intro w1 hI
         have hlo:=fun oo xx ρ ho hx hc => run_op_load ρ oo w1 102 xx ho ⟨gs,0,none⟩ hx [.int .i64 n,.int .i64 t,.int .i64 s0,.int .i64 r,.int .i64 s,.int .i64 d,.int .i64 x] _ Tryz.underlying102 rfl (by kernel_rfl) hc
         set_option maxRecDepth 100000 in refine yj_run (hlo _ _ _ rfl rfl (fun j u hu => ?_)) hI
         have h1:=(hI.block gs hgl).trans Hblk.out
         have e : (⟨gs,0,none⟩ : Addr).add j = ⟨gs,j,none⟩:=by unfold Addr.add;split <;> simp_all
         rw [e,cell_of_row w1 gs j _ _ _ h1]
         simpa using hu
        ·intro w1 hI
         go_simp
        ·intro w1 hI
         go_simp
        ·intro w1 hI
         go_simp
        ·intro w1 hI
         have hlo:=fun oo xx ρ ho hx hc => run_op_load ρ oo w1 102 xx ho (a.add (k * 7)) hx [.int .i64 n',.int .i64 t',.int .i64 s0',.int .i64 r',.int .i64 s',.int .i64 d',.int .i64 x'] _ Tryz.underlying102 rfl (by kernel_rfl) hc
         set_option maxRecDepth 100000 in refine yj_run (hlo _ _ _ rfl rfl (fun j u hu => ?_)) hI
         have hlt3 : ((a.add (k * 7)).add j).block < wr.heap.size:=by rw [add_block,add_block];omega
         exact (hI.cell hlt3).trans (Hc2.out j u hu)
        ·intro w1 hI
         go_simp
         refine (Hcl.out _).mono ?_
         rintro e w' ⟨rfl,hb⟩
         exact ⟨rfl,hI.trans (hb.mono hI.size)⟩
       ·intro w1 hI
        have hI2:=own_below Hown.out hI
        have hI3:=(hI.block gs hgl).trans Hblk.out
        have hI4:=Hbel.out.trans (hI.mono hsz3)
        obtain ⟨HI,HI2,HI3,HI4⟩:=hid4 hI hI2 hI3 hI4
        have hck1:=(hI.cell (p:=⟨g,k,none⟩) hgw).trans hck
        have hci1:=(hI.cell (p:=⟨g,i,none⟩) hgw).trans hci
        have hfi1:=(hI.frozen (p:=⟨g,i,none⟩) hgw).trans hfi
        clear hI hI2 hI3 hI4 hck hci hfi
        go_simp
        cases b with
        | false =>
         go_wp2
         go_roundw
         case rel => exact ⟨k + 1,by omega,by go_num,by rw [Hls2.out];simpa using HI2.out,HI4.out,HI3.out⟩
         case measure => simp [Go.RowKit.intOf];omega
        | true =>
         go_wp2
         refine wp_plan [some 46,some 47,some 48,some 49,some 50,some 51,some 52,some 53,some 54,some 55,some 56,some 57,some 58,none] [[],[],[],[],[2,3],[2,3,4],[],[],[6,7],[6,7,8],[6,7,8,9],[2,3,4,5,6,7,8,9,10],[0,1,2,3,4,5,6,7,8,9,10,11],[0,1,2,3,4,5,6,7,8,9,10,11,12]] [.slice (some ⟨g,0,none⟩) l.length l.length,.int .i64 i,.slice (some ⟨g,0,none⟩) l.length l.length,.int .i64 i,.pointer (some ⟨g,i,none⟩),.int .i64 cur,
          .slice (some ⟨g,0,none⟩) l.length l.length,.int .i64 k,.pointer (some ⟨g,k,none⟩),.int .i64 xk,.int .i64 (xk + 1),.int .i64 (max cur (xk + 1)),.pointer (some ⟨g,i,none⟩),undef]
          (fun L w' => w' = if L 13 = true then w1.drew.setCell ⟨g,i,none⟩ (.int .i64 (max cur (xk + 1))) else w1.drew) mixed rfl (by kernel_rfl) rfl ?_ ?_
         ·simp only [AllFrom.cons_eq,AllFrom.nil_eq,OpGoalL,wantedL_none,↓reduceIte]
          refine ⟨?_,?_,?_,?_,?_,?_,?_,?_,?_,?_,?_,?_,?_,?_,trivial⟩
          all_goals (intro L w2 h1 h2 h3 hI)
          all_goals (try have h13:=h3 13 (by decide))
          all_goals (clear h2 h3)
          all_goals (first | rw [h13] at hI | rw [h1] at hI)
          all_goals (simp only [Bool.false_eq_true,↓reduceIte] at hI;subst hI)
          all_goals (try go_simp)
          ·exact wrap_small _ (by omega) (by omega)
         ·intro L w2 hL hI
          rw [hL 13 (by decide)] at hI
          simp only [↓reduceIte] at hI
          have hown3:=HI2.out.drew.stored i (.int .i64 (max cur (xk + 1)))
          rw [HLs.out] at hown3
          subst hI
          go_simp
          go_wp2
          go_roundw
          case rel => exact ⟨k + 1,by omega,by go_num,by rw [Hls2.out,if_pos trivial];exact hown3.1,HI4.out.drew.setCell (show w.heap.size ≤ g from hg) _,(Below.heap_setCell _ _ _ _ (fun e => hgsg e.symm)).trans HI3.out⟩
          case measure => simp [Go.RowKit.intOf];omega
      ·obtain rfl : k = i:=by omega
       have hps:=Hps.out
       have hown2 : wr.ownsRow w.heap.size 3 1 (.slice (some ⟨g,0,none⟩) l.length l.length) l.length (ints (planTo l (k + 1) ++ List.replicate (l.length - (k + 1)) 0)):=by
        rw [hps,List.append_assoc];exact hown
       obtain ⟨Hown2,Hbel⟩:=hid2 hown2 hbel
       clear hown hown2 hbel hblk hps hk hlt2
       go_wp2
       go_roundw
       case rel => exact ⟨k + 1,by omega,by go_num,Hown2.out,Hbel.out⟩
       case measure => simp [Go.RowKit.intOf];omega
    ·obtain rfl : i = l.length:=by omega
     have hown2 : wr.ownsRow w.heap.size 3 1 (.slice (some ⟨g,0,none⟩) l.length l.length) l.length (ints (planTo l l.length)):=by simpa using hown
     have hpost : ∀ wz,wz = wr → PlanPost l w (.returned (.tuple #[.slice (some ⟨g,0,none⟩) l.length l.length,.int .i64 0])) wz:=by
      rintro wz rfl
      refine ⟨_,by rw [Hp.out],?_,hbel⟩
      rw [Hpl.out,planTo_len];exact hown2
     have HP:=Lib.hid hpost
     clear hown hown2 hpost hbel hi hlt
     go_wp2
     go_ret2
     exact HP.out _ rfl
end Go.Proofs.YtfdillpofciicaaGreatDoor
namespace Go.Proofs.YtfdillpofciicaaGreatDoor
open Go.RowKit
attribute [local go_sem] AllFrom.cons_eq AllFrom.nil_eq putL_nil putL_cons wantedL_none wantedL_some OpGoalM OpGoalL YieldsJ upd
end Go.Proofs.YtfdillpofciicaaGreatDoor
namespace Go.Proofs.YtfdillpofciicaaGreatDoor
open Go.ChangeShapes Go.WideShapes Go.ChangeAt Go.RowKit
theorem plan_any (A : Option Addr) (c : Nat) (l : List Sy) (w : World) (hl : l.length ≤ 9223372036854775807) (hA : Lies w w.heap.size A (sysCells l)) :
  Calls Tryz.prog 57 #[.slice A l.length c] w (PlanPost l w):=by
 rcases Nat.lt_or_ge 20 l.length with h | h
 ·exact sys_many A c l w h hl
 ·by_cases he : firstE l = 0
  ·exact plan_ok A c l w h hA he
  ·exact plan_bad A c l w h hA he
attribute [local go_sem] AllFrom.cons_eq AllFrom.nil_eq putL_nil putL_cons wantedL_none wantedL_some OpGoalM YieldsJ
end Go.Proofs.YtfdillpofciicaaGreatDoor
namespace Go.Proofs.YtfdillpofciicaaGreatDoor
open Go Go.RowKit
attribute [local go_sem] AllFrom.cons_eq AllFrom.nil_eq putF_nil putF_cons wantedL_none wantedL_some OpGoalT OpGoalV OpGoalQ OpGoalA OpGoalK YieldsR preF_nil preF_cons
def syC (p : Sy) : List Value:=ints p.cells
theorem syC_len (p : Sy) : (syC p).length = 7:=rfl
theorem sysCells_flat (l : List Sy) : sysCells l = l.flatMap syC:=by unfold sysCells ints;rw [List.map_flatMap];rfl
theorem syC_one (p : Sy) : ∀ u ∈ syC p,u.oneCell' = true:=ints_one _
theorem sz_System (p : Sy) : (Tryz.prog.info? 102).map (·.size) = some (syC p).length:=by rw [syC_len];kernel_rfl
theorem sz_Row0 (x : Rw) : (Tryz.prog.info? 56).map (·.size) = some (rwC x).length:=by rw [rwC_len];kernel_rfl
def serO (l : List Sy) (L : List Rw) : List Rw:=if planE l = 0 then serL l L else L
section
variable {z : Nat} {sl : Sl} {L : List Rw} {B : List Bd} {w : World} {F : List Nat}
set_option maxRecDepth 20000 in
set_option maxHeartbeats 8000000 in
theorem serial_any (h : RepX z sl L B w F) (hO : WOk sl L) {Lo : Nat} (hLo : ∀ y ∈ F,Lo ≤ y) (hlo : Lo ≤ w.heap.size) (A : Option Addr) (c : Nat) (l : List Sy) (hl : l.length ≤ 9223372036854775807) (hA : Lies w Lo A (sysCells l)) (hn : ∀ s ∈ l,InR s.n) :
  Calls Tryz.prog 16 #[.pointer (some ⟨z,0,none⟩),.slice A l.length c] w (fun x w' => x = .returned (.int .i64 (planE l)) ∧ OwnPost (RepX z sl (serO l L) B) F w w'):=by
 have H1:=Lib.hid (plan_any A c l w hl (hA.mono hlo))
 rw [sysCells_flat] at hA
 obtain ⟨HV,HO,HLo,Hlo,HA,Hn⟩:=hid6 h hO hLo hlo hA hn
 clear h hO hLo hlo hA hn
 go_enter Tryz.func16,Tryz.ntmps16
 go_wp2_with fail
 refine H1.out.mono ?_
 rintro x1 w1 ⟨v1,rfl,-,hb1⟩
 by_cases hpe : planE l = 0
 rotate_left
 ·have hne : (planE l != 0) = true:=by simpa using hpe
  have hfin : OwnPost (RepX z sl (serO l L) B) F w w1:=by unfold serO;rw [if_neg hpe];exact OwnPost.ofBelow (own_X _ _ _ _) HV.out hb1
  have Hfin:=Lib.hid hfin
  clear hfin
  clear hpe hb1 H1
  go_wp2
  go_ret
  exact ⟨rfl,Hfin.out⟩
 have hso : serO l L = serL l L:=if_pos hpe
 rw [hpe]
 have Hso:=Lib.hid hso
 clear hso
 obtain ⟨h20,hse⟩:=planE_all hpe
 have hB1 : Below Lo w w1:=hb1.mono Hlo.out
 have hV1:=OwnPost.ofBelow (own_X _ _ _ _) HV.out hb1
 obtain ⟨Hse,Hpe,HV1,HB1⟩:=hid4 hse hpe hV1 hB1
 clear hse hpe hV1 hB1
 clear hb1 H1 hl
 go_wp2_with fail
 go_loopw [21] (fun i wr => ∃ k : Nat,k ≤ l.length ∧ i = .int .i64 k ∧ OwnPost (RepX z sl (serL (l.take k) L) B) F w wr) (fun i _ => l.length - (Go.RowKit.intOf i).toNat)
 case atStart => exact ⟨0,by omega,rfl,HV1.out⟩
 case round =>
  obtain ⟨k,hk,rfl,hOP⟩:=hrel
  have hbr : Below Lo w wr:=hOP.mod.toBelow HLo.out Hlo.out
  by_cases hlt : k < l.length
  ·obtain ⟨ab,ao,rfl,hal,hc⟩:=HA.out.rec_at syC_len (by omega) hlt
   have hq : ∀ j u,(syC l[k])[j]? = some u → wr.cell? ((⟨ab,ao + k * 7,none⟩ : Addr).add j) = some u:=fun j u hu => (hbr.cell (p:=(⟨ab,ao + k * 7,none⟩ : Addr).add j) (by rw [add_block];exact hal)).trans (by first | exact hc j u hu | (have:=hc j u hu;rw [Addr.add_mid];exact this))
   have hki : (k : Int) < (l.length : Int):=by omega
   have hsk:=Hse.out l[k] (List.getElem_mem hlt)
   have hnk:=Hn.out l[k] (List.getElem_mem hlt)
   have hst : serL (l.take (k + 1)) L = (serL (l.take k) L).map (stepRow l[k]):=by rw [take_succ_get l k hlt,serL_snoc]
   have hOk : WOk sl (serL (l.take k) L):=serL_ok (fun s hs => Hse.out s (List.mem_of_mem_take hs)) HO.out
   generalize l[k] = sy at *
   generalize serL (l.take k) L = M at *
   obtain ⟨n,t,a,r,q,d,x⟩:=sy
   obtain ⟨F1,⟨p,f,hV⟩,hT⟩:=hOP
   obtain ⟨w3,hw3,hb3,hk3,hs3⟩:=box1 wr (.cells #[.int .i64 n,.int .i64 t,.int .i64 a,.int .i64 r,.int .i64 q,.int .i64 d,.int .i64 x] 102)
   have HbF:=Lib.hid (fun e => (by have:=hV.lt _ e;omega) : wr.heap.size ∉ F1)
   have hV3:=hV.below hb3
   have hT3:=hT.below hb3
   have HR:=Lib.hid (rows_any hV3)
   have hlF1:=hV3.lt
   obtain ⟨HQ,Hsk,Hnk,Hst,HOk,HV3,HT3,Hk3,Hw3,Hs3,HlF1⟩:=hid11 hq hsk hnk hst hOk hV3 hT3 hk3 hw3 hs3 hlF1
   clear hq hsk hnk hst hOk hV3 hT3 hk3 hw3 hs3 hlF1
   have Hlt:=Lib.hid hlt
   clear hc hbr hV hT hb3 hal
   go_wp2_with (first | (refine wpList_load_flat rfl 102 (.tmp 23) rfl _ rfl (syC ⟨n,t,a,r,q,d,x⟩) _ Tryz.underlying102 rfl (sz_System _) HQ.out ?_) | (refine wpList_store_new rfl 102 (.tmp 8) (.tmp 24) rfl wr (ints [0,0,0,0,0,0,0]) (syC ⟨n,t,a,r,q,d,x⟩) 102 rfl rfl rfl (sz_System _) (syC_one _) ?_;rw [show (syC ⟨n,t,a,r,q,d,x⟩).toArray = #[.int .i64 n,.int .i64 t,.int .i64 a,.int .i64 r,.int .i64 q,.int .i64 d,.int .i64 x] from rfl,Hw3.out]) | fail)
   refine HR.out.mono ?_
   rintro x4 w4 ⟨v4,rfl,hrow,hb4⟩
   obtain ⟨A4,c4,rfl,-,-⟩:=row_slice hrow
   have hV4:=HV3.out.below hb4
   have hk4:=(Mod.ofBelow hb4).keep Hk3.out (by simp)
   have hT4:=HT3.out.below hb4
   have hM60:=HOk.out.len
   have hsz : wr.heap.size < w3.heap.size ∧ w3.heap.size ≤ w4.heap.size:=⟨by have:=Hs3.out;omega,hb4.size⟩
   have hkF:=HbF.out
   obtain ⟨HV4,Hk4,HT4,Hrow,HSz,HkF⟩:=hid6 hV4 hk4 hT4 hrow hsz hkF
   clear hV4 hk4 hT4 hrow hsz hkF
   clear hb4 HR HV3 Hk3 HT3 Hw3 HQ
   go_wp2_with fail
   generalize wr.heap.size = bs at *
   go_loopw [28] (fun i wr => ∃ j : Nat,j ≤ M.length ∧ i = .int .i64 j ∧ OwnPost (RepV z p f sl ((M.take j).map (stepRow ⟨n,t,a,r,q,d,x⟩) ++ M.drop j) B) F1 w4 wr) (fun i _ => M.length - (Go.RowKit.intOf i).toNat)
   case atStart => exact ⟨0,by omega,rfl,OwnPost.ofBelow (own_V _ _ _ _ _ _) (by simpa using HV4.out) (Below.refl _ _)⟩
   case round =>
    obtain ⟨j,hj,rfl,hOP⟩:=hrel
    by_cases hlt2 : j < M.length
    ·obtain ⟨F2,hV,hT⟩:=hOP
     have hnF : ∀ b,w3.heap.size ≤ b → b ∉ F1:=fun b hb e => by have:=HlF1.out b e;omega
     have hk5:=hT.mod.keep Hk4.out HkF.out
     have hrw:=row_mod Hrow.out hT.mod (fun b hb => hnF b (own_ge Hrow.out b hb))
     obtain ⟨g0,cap,cur,he,-,-,-⟩:=row_some hrw (by omega)
     cases he
     have hpc:=row_piece rwC_len hrw hlt2 0 (rwC M[j]) (fun i u hu => by rw [Nat.zero_add];exact hu)
     have hgl:=row_lt hrw g0 rfl
     have hnx:=row_next HOk.out Hsk.out j hlt2
     have hbe:=HOk.out.be M[j] (List.getElem_mem hlt2)
     unfold rowP at hnx
     generalize M[j] = y at *
     obtain ⟨⟨s,g⟩,K,a0,a1,a2,a3,a4,a5,a6,a7⟩:=y
     obtain ⟨M1,hM1⟩ : ∃ M1,(M.take j).map (stepRow ⟨n,t,a,r,q,d,x⟩) ++ M.drop j = M1:=⟨_,rfl⟩
     rw [hM1] at hV hnx
     obtain ⟨nb,hnb⟩ : ∃ nb,stepBt ⟨n,t,a,r,q,d,x⟩ (K,a0,a1,a2,a3,a4,a5,a6,a7) = nb:=⟨_,rfl⟩
     have hstep:=fun V => step_do (s:=⟨n,t,a,r,q,d,x⟩) (b:=(K,a0,a1,a2,a3,a4,a5,a6,a7)) Hnk.out Hsk.out hbe V
     simp only at hnx
     rw [hnb] at hnx hstep
     obtain ⟨Kn,b0,b1,b2,b3,b4,b5,b6,b7⟩:=nb
     have hji : (j : Int) < (M.length : Int):=by omega
     obtain ⟨w6,hw6,hb6,hk6,hs6⟩:=box1 wr (.cells #[.int .i64 s,.int .i64 g,.int .i64 K,.int .i64 a0,.int .i64 a1,.int .i64 a2,.int .i64 a3,.int .i64 a4,.int .i64 a5,.int .i64 a6,.int .i64 a7] 56)
     have hV6:=hV.below hb6
     have hT6:=hT.below hb6
     have hk56:=(Mod.ofBelow hb6).keep hk5 (by simp)
     have hq6 : ∀ i u,(rwC ((s,g),K,a0,a1,a2,a3,a4,a5,a6,a7))[i]? = some u → wr.cell? ((⟨g0,j * 11 + 0,none⟩ : Addr).add i) = some u:=hpc
     obtain ⟨HV6,HT6,Hk56,Hk6,Hw6,HStep,HNx,HQ6,HM1⟩:=hid9 hV6 hT6 hk56 hk6 hw6 hstep hnx hq6 hM1
     clear hV6 hT6 hk56 hk6 hw6 hstep hnx hq6 hM1
     have Hlt2:=Lib.hid hlt2
     clear hk5 hrw hpc hV hT hb6 hs6 hnF hbe hnb
     go_wp2_with (first | (refine wpList_load_flat rfl 56 (.tmp 30) rfl _ rfl (rwC ((s,g),K,a0,a1,a2,a3,a4,a5,a6,a7)) _ Tryz.underlying56 rfl (sz_Row0 _) HQ6.out ?_) | (refine wpList_store_new rfl 56 (.tmp 10) (.tmp 31) rfl wr (ints [0,0,0,0,0,0,0,0,0,0,0]) (rwC ((s,g),K,a0,a1,a2,a3,a4,a5,a6,a7)) 56 rfl rfl rfl (sz_Row0 _) (rwC_one _) ?_;rw [show (rwC ((s,g),K,a0,a1,a2,a3,a4,a5,a6,a7)).toArray = #[.int .i64 s,.int .i64 g,.int .i64 K,.int .i64 a0,.int .i64 a1,.int .i64 a2,.int .i64 a3,.int .i64 a4,.int .i64 a5,.int .i64 a6,.int .i64 a7] from rfl,Hw6.out]) | fail)
     generalize wr.heap.size = rb at *
     refine wp_planK [] 10 [0] [some 32,some 33,some 34,some 35,some 36,some 37,some 38,some 39,some 40,some 41] [[],[],[1],[],[3],[],[5],[],[5,6,7],[0,1,2,3,4,5,6,7,8]] [0,1,2,3,4,5,6,7,8,9] (fun Lf σ W => ITurn 9 w6 F2 (RepV z p f sl (putsL (s,g) (K,a0,a1,a2,a3,a4,a5,a6,a7) (Kn,b0,b1,b2,b3,b4,b5,b6,b7) M1 (kindsN (low8 Kn))) B) Lf σ W) mixed rfl (by kernel_rfl) (by decide) (by decide) (by decide) (ITurn.start below_drew) rfl ?_
     iterate 10 apply Exists.intro
     refine ⟨rfl,?_,?_⟩
     ·simp only [tS,List.take_zero,AllFrom.cons_eq,AllFrom.nil_eq,OpGoalK]
      refine ⟨?_,?_,?_,?_,?_,?_,?_,?_,?_,?_,trivial⟩
      all_goals (intro L' σ V h1 h2 h3 hI hp;have HA1:=Lib.hid h1;have HA2:=Lib.hid h2;have HA3:=Lib.hid h3;clear h1 h2 h3;(try simp only [gZ,gS,preK_cons,preK_nil] at hp);(try simp only [List.not_mem_nil,false_or,and_true] at hp);(first | (have hq : True:=hp;clear hq hp) | skip);have HI:=Lib.hid hI;clear hI)
      all_goals (
       have hb:=HI.out.s0 (by first | exact HA3.out 9 (by decide) | exact HA1.out)
       have hRV:=HV6.out.below hb
       have hk1:=(Mod.ofBelow hb).keep Hk6.out (by simp)
       have hk2:=(Mod.ofBelow hb).keep Hk56.out (by simp)
       have e0:=blk_cell hk1 0
       have e1:=blk_cell hk1 1
       have e2:=blk_cell hk1 2
       have e3:=blk_cell hk1 3
       have e4:=blk_cell hk1 4
       have e5:=blk_cell hk1 5
       have e6:=blk_cell hk1 6
       have e7:=blk_cell hk1 7
       have e8:=blk_cell hk1 8
       have e9:=blk_cell hk1 9
       have e10:=blk_cell hk1 10
       simp only [eA,eZ,eS] at e0 e1 e2 e3 e4 e5 e6 e7 e8 e9 e10
       have el:=blk_lt hk1
       have y0:=blk_cell hk2 0
       have y1:=blk_cell hk2 1
       have y2:=blk_cell hk2 2
       have y3:=blk_cell hk2 3
       have y4:=blk_cell hk2 4
       have y5:=blk_cell hk2 5
       have y6:=blk_cell hk2 6
       simp only [eA,eZ,eS] at y0 y1 y2 y3 y4 y5 y6
       have yl:=blk_lt hk2
       have HRV:=Lib.hid hRV
       clear hRV hb hk1 hk2)
      iterate 8 · (go_simp;exact ⟨.inr rfl,HI.out.read (by decide) _⟩)
      ·(go_simp;refine (HStep.out V).mono ?_;rintro e V2 ⟨rfl,hb2⟩;exact ⟨_,rfl,.inr rfl,HI.out.call (HA3.out 9 (by decide)) (by decide) hb2 _⟩)
      ·(go_simp;refine (put_any HRV.out s g K a0 a1 a2 a3 a4 a5 a6 a7 Kn b0 b1 b2 b3 b4 b5 b6 b7).mono ?_;rintro e V2 ⟨rfl,hp2⟩;exact ⟨_,rfl,.inr rfl,HI.out.turn HA1.out hp2 _⟩)
     ·intro L' σ V7 h1 hI hp
      have hP:=hI.s1 (h1 9 (by decide))
      clear h1 hI
      simp only [preK_cons,preK_nil,gZ,gS] at hp;simp only [List.not_mem_nil,false_or,and_true] at hp
      have hOP7 : OwnPost (RepV z p f sl ((M.take (j + 1)).map (stepRow ⟨n,t,a,r,q,d,x⟩) ++ M.drop (j + 1)) B) F1 w4 V7:=by
       rw [← HNx.out]
       obtain ⟨F4,h3,h4⟩:=hP
       exact ⟨F4,h3,HT6.out.trans h4⟩
      have HOP7:=Lib.hid hOP7
      clear hOP7
      clear hP
      simp only [dS,List.drop_zero]
      go_simp
      clear hp
      go_wp2
      refine ⟨rfl,?_⟩
      go_wp2
      go_roundw
      case rel => exact ⟨j + 1,by have:=Hlt2.out;omega,by go_num,HOP7.out⟩
      case measure => have:=Hlt2.out;simp [Go.RowKit.intOf];omega
    ·obtain rfl : j = M.length:=by omega
     rw [List.take_length,List.drop_length,List.append_nil] at hOP
     have hOP2 : OwnPost (RepX z sl (serL (l.take (k + 1)) L) B) F w wr:=by
      rw [Hst.out]
      obtain ⟨F4,h3,h4⟩:=hOP
      exact ⟨F4,⟨p,f,h3⟩,HT4.out.trans h4⟩
     have HOP2:=Lib.hid hOP2
     clear hOP2
     clear hOP hlt2
     go_wp2
     go_roundw
     case rel => exact ⟨k + 1,by have:=Hlt.out;omega,by go_num,HOP2.out⟩
     case measure => have:=Hlt.out;simp [Go.RowKit.intOf];omega
  ·obtain rfl : k = l.length:=by omega
   rw [List.take_length] at hOP
   have HOP:=Lib.hid hOP
   clear hOP
   clear hlt hbr
   go_wp2
   go_ret
   exact ⟨by rw [Hpe.out];rfl,by rw [Hso.out];exact HOP.out⟩
end
end Go.Proofs.YtfdillpofciicaaGreatDoor
namespace Go.Proofs.YtfdillpofciicaaGreatDoor
open Go Go.RowKit
theorem wpList_build1 {P : Program} {ops : Array Oper} {rest : List Oper} {o : Oper} {a : Act} {w : World} {Q : Exit → Act → World → Prop} (hg : o.guard = none) (t e : TypeId) (x : Operand) (ho : o.op = .buildSlice t 1 #[(0,x)])
  (vs : List Value) (hx : a.eval x = .agg vs.toArray) {z : Value} {n b : Nat} (hu : P.underlying t = some (.slice e)) (hinf : (P.info? e).map (fun i => (i.zero,i.size,i.bytes)) = some (some z,n,b)) (hn : vs.length = n) (h0 : 0 < n) (h1 : n ≤ 1000)
  (h : wpList P ops Q rest (a.put o.dst (.slice (some ⟨w.heap.size,0,none⟩) 1 1)) (w.alloc (.cells vs.toArray e))) : wpList P ops Q (o :: rest) a w:=by
 obtain ⟨i0,hi,hz0,hz1,hz2⟩:=info_parts hinf
 refine wpList_buildSlice hg t e 1 #[(0,x)] ho vs.toArray i0 z hu hi hz0 (by rw [hz1];omega) (by rw [hz1];omega) ?_ h
 rw [hz1]
 have:=Great.fill_whole h0 [Value.agg vs.toArray] ((Array.range (1 * n)).map (z.cells[· % z.cells.size]!)) (by intro v hv;simp only [List.mem_singleton] at hv;subst hv;simpa [Value.cells] using hn) (by simp)
 simpa [hx,Value.cells] using this
end Go.Proofs.YtfdillpofciicaaGreatDoor
