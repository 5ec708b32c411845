import Derived.Test.YtoheblfpjinmnaaGreatDoorTextParsesJ14
set_option linter.unusedVariables false
set_option linter.unusedSimpArgs false
/- A part of the proof that TextParses returns true. -/
namespace Go.Proofs.YtoheblfpjinmnaaGreatDoor
open Go Go.RowKit
attribute [local go_sem] AllFrom.cons_eq AllFrom.nil_eq putF_nil putF_cons wantedL_none wantedL_some OpGoalT OpGoalV OpGoalQ OpGoalA OpGoalK YieldsR preF_nil preF_cons
section
variable {vg vl vr : Value} {w : World} {q : Nat} {B : List Bd} {F : List Nat}
def RFRet (vg vl vr : Value) (B' : List Bd) (r : Value) (q : Nat) (F : List Nat) (w : World) (e : Ending) (w' : World) : Prop:=e = .returned r ∧ ∃ F',RepB vg vl vr w' q B' F' ∧ Turns w F F' w'
set_option maxRecDepth 20000 in
set_option maxHeartbeats 4000000 in
theorem rpar_any (h : RepB vg vl vr w q B F) (hl : B.length ≤ 1200000000000) (s g : Int) : Calls Tryz.prog 63 #[.pointer (some ⟨q,0,none⟩),.agg #[.int .i64 s,.int .i64 g]] w (ParPost (parB B (s,g)) w):=by
 obtain ⟨w0,hw0,hb0,hz0,hs0⟩:=box1 w (.cells #[.int .i64 s,.int .i64 g] 46)
 obtain ⟨w1,hw1,hb1,hz1,hs1⟩:=box1 w0 (.cells #[.int .i64 0,.int .i64 0] 46)
 have hB1:=hb0.trans (hb1.mono hb0.size)
 have hz01:=(Mod.ofBelow hb1).keep hz0 (by simp)
 obtain ⟨A,cap,hq,hrow⟩:=(h.below hB1).open_
 have hle : B.length ≤ 9223372036854775807:=by omega
 obtain ⟨c0,c1,c2,c3,cl⟩:=cells4 hq
 obtain ⟨H,HB1,Hz01,Hz1,Hs0,Hs1,Hq,Hrow⟩:=hid8 h hB1 hz01 hz1 hs0 hs1 hq hrow
 clear h hB1 hz01 hz1 hs0 hs1 hq hrow
 clear hb0 hb1 hz0
 go_enter Tryz.func63,Tryz.ntmps63
 go_wp2_with fail
 clear hw0 hw1 c0 c1 c2 c3 cl
 go_loopw [13] (fun i wr => ∃ n : Nat,n ≤ B.length ∧ i = .int .i64 n ∧ parB (B.take n) (s,g) = none ∧ Below w1.heap.size w1 wr) (fun i _ => B.length - (Go.RowKit.intOf i).toNat)
 case atStart => exact ⟨0,by omega,rfl,rfl,Below.refl _ _⟩
 case round =>
  obtain ⟨n,hn,rfl,hno,hbel⟩:=hrel
  have hsz:=hbel.size
  have hzr:=(Mod.ofBelow hbel).keep Hz01.out (by simp)
  have hyr:=(Mod.ofBelow hbel).keep Hz1.out (by simp)
  have hwb : w.heap.size < w1.heap.size ∧ w0.heap.size < w1.heap.size:=⟨blk_lt Hz01.out,blk_lt Hz1.out⟩
  have hne1 : w0.heap.size ≠ wr.heap.size:=by omega
  have hne2 : wr.heap.size ≠ w0.heap.size:=by omega
  have hle0 : w.heap.size ≤ w0.heap.size:=by have:=Hs0.out;omega
  obtain ⟨q0,q1,ql⟩:=cells2 hzr
  obtain ⟨y0,y1,yl⟩:=cells2 hyr
  have f0:=blk_free hyr 0
  have f1:=blk_free hyr 1
  by_cases hlt : n < B.length
  ·have hro : wr.ownsRow 0 55 4 (.slice A B.length cap) B.length (B.flatMap bdC):=row_mod Hrow.out (Mod.ofBelow hbel) (by simp)
   obtain ⟨g0,cap0,cur0,hv,-,-,-⟩:=row_some hro (by omega)
   cases hv
   have hpc:=row_piece bdC_len hro hlt 0 (bdC B[n]) (fun j u hu => by rw [Nat.zero_add];exact hu)
   have hg0:=row_lt hro g0 rfl
   have hni : (n : Int) < (B.length : Int):=by omega
   have hst:=parB_succ hlt hno
   obtain ⟨x,hx⟩ : ∃ x,B[n] = x:=⟨_,rfl⟩
   rw [hx] at hpc hst
   obtain ⟨⟨b0,b1⟩,b2,b3⟩:=x
   obtain ⟨w3,hw3,hb3,hz3,hs3⟩:=box1 wr (.cells #[.int .i64 b0,.int .i64 b1,.int .i64 b2,.int .i64 b3] 55)
   have hzr3:=(Mod.ofBelow hb3).keep hzr (by simp)
   have hyr3:=(Mod.ofBelow hb3).keep hyr (by simp)
   have heq:=fun w => eqlHandle w b0 b1 s g
   have hbf:=hbel.trans (hb3.mono hsz)
   have HO:=Lib.hid (bdC_one ((b0,b1),(b2,b3)))
   clear q0 q1 ql y0 y1 yl f0 f1
   obtain ⟨r0,r1,r2,r3,rl⟩:=cells4 hz3
   obtain ⟨q0,q1,ql⟩:=cells2 hzr3
   obtain ⟨y0,y1,yl⟩:=cells2 hyr3
   have f0:=blk_free hyr3 0
   have f1:=blk_free hyr3 1
   cases hr : eqB (b0,b1) (s,g) with
   | true =>
    rw [hr] at heq
    have he : (b0,b1) = (s,g):=by simpa [eqB] using hr
    simp only at hst
    rw [if_pos he] at hst
    have hp:=parB_take hst
    unfold ParPost
    rw [hp]
    simp only [parV,Option.getD_some,Option.isSome_some,hdV,handleC]
    have hBw:=HB1.out.trans (hbf.mono HB1.out.size)
    obtain ⟨HP,Hbel,Hbf,Hs3,Hw3,HBw,Hle0⟩:=hid7 hpc hbel hbf hs3 hw3 hBw hle0
    clear hpc hbel hbf hs3 hw3 hBw hle0
    clear hro hx hb3 hzr hyr hz3 hzr3 hyr3 hr he hst hp hno
    go_wp2_with (first | (refine wpList_load_flat rfl 55 (.tmp 15) rfl _ rfl [.int .i64 b0,.int .i64 b1,.int .i64 b2,.int .i64 b3] _ Tryz.underlying55 rfl (by kernel_rfl) HP.out ?_) | (refine wpList_store_new rfl 55 (.tmp 7) (.tmp 16) rfl wr (ints [0,0,0,0]) [.int .i64 b0,.int .i64 b1,.int .i64 b2,.int .i64 b3] 55 rfl rfl rfl (by kernel_rfl) HO.out ?_;rw [show ([.int .i64 b0,.int .i64 b1,.int .i64 b2,.int .i64 b3] : List Value).toArray = #[.int .i64 b0,.int .i64 b1,.int .i64 b2,.int .i64 b3] from rfl,Hw3.out];clear HO))
    refine bodyPost_ret (v:=.tuple #[.agg #[.int .i64 b2,.int .i64 b3],.bool true]) (by unfold results;try go_simp) rfl ?_
    refine ⟨rfl,?_⟩
    repeat (refine Below.setCell ?_ Hle0.out _)
    exact HBw.out
   | false =>
    rw [hr] at heq
    simp only at hst
    rw [if_neg (fun e => by rw [e,eqB_self] at hr;cases hr)] at hst
    obtain ⟨HP,Hbel,Hbf,Hs3,Hw3,Hst⟩:=hid6 hpc hbel hbf hs3 hw3 hst
    clear hpc hbel hbf hs3 hw3 hst
    clear hro hx hb3 hzr hyr hz3 hzr3 hyr3 hr hno
    go_wp2_with (first | (refine wpList_load_flat rfl 55 (.tmp 15) rfl _ rfl [.int .i64 b0,.int .i64 b1,.int .i64 b2,.int .i64 b3] _ Tryz.underlying55 rfl (by kernel_rfl) HP.out ?_) | (refine wpList_store_new rfl 55 (.tmp 7) (.tmp 16) rfl wr (ints [0,0,0,0]) [.int .i64 b0,.int .i64 b1,.int .i64 b2,.int .i64 b3] 55 rfl rfl rfl (by kernel_rfl) HO.out ?_;rw [show ([.int .i64 b0,.int .i64 b1,.int .i64 b2,.int .i64 b3] : List Value).toArray = #[.int .i64 b0,.int .i64 b1,.int .i64 b2,.int .i64 b3] from rfl,Hw3.out];clear HO))
    go_roundw
    case rel => exact ⟨n + 1,by omega,by go_num,Hst.out,Hbf.out⟩
    case measure => simp [Go.RowKit.intOf];omega
  ·obtain rfl : n = B.length:=by omega
   rw [List.take_length] at hno
   have hBw:=HB1.out.trans (hbel.mono HB1.out.size)
   obtain ⟨HBw,Hle0,Hno⟩:=hid3 hBw hle0 hno
   clear hBw hle0 hno
   clear hzr hyr hbel
   go_wp2
   refine bodyPost_ret (v:=.tuple #[.agg #[.int .i64 0,.int .i64 0],.bool false]) (by unfold results;try go_simp) rfl ?_
   unfold ParPost
   rw [Hno.out]
   refine ⟨rfl,?_⟩
   repeat (refine Below.setCell ?_ Hle0.out _)
   exact HBw.out
set_option maxRecDepth 20000 in
set_option maxHeartbeats 4000000 in
theorem rkids_any (h : RepB vg vl vr w q B F) (hl : B.length ≤ 1200000000000) (s g : Int) : Calls Tryz.prog 116 #[.pointer (some ⟨q,0,none⟩),.agg #[.int .i64 s,.int .i64 g]] w (MadeRecs 46 2 handleC (kidsB B (s,g)) w):=by
 obtain ⟨w0,hw0,hb0,hz0,hs0⟩:=box1 w (.cells #[.int .i64 s,.int .i64 g] 46)
 obtain ⟨A,cap,hq,hrow⟩:=(h.below hb0).open_
 have hle : B.length ≤ 9223372036854775807:=by omega
 obtain ⟨c0,c1,c2,c3,cl⟩:=cells4 hq
 have HLL:=Lib.hid hl
 obtain ⟨H,Hb0,Hz0,Hs0,Hq,Hrow⟩:=hid6 h hb0 hz0 hs0 hq hrow
 clear h hb0 hz0 hs0 hq hrow
 clear hl
 go_enter Tryz.func116,Tryz.ntmps116
 go_wp2_with fail
 clear hw0 c0 c1 c2 c3 cl
 go_loopw [5,13] (fun v i wr => ∃ n : Nat,n ≤ B.length ∧ i = .int .i64 n ∧ wr.ownsRow w0.heap.size 46 2 v (kidsB (B.take n) (s,g)).length ((kidsB (B.take n) (s,g)).flatMap handleC) ∧ Below w0.heap.size w0 wr) (fun _ i _ => B.length - (Go.RowKit.intOf i).toNat)
 case atStart => exact ⟨0,by omega,rfl,⟨rfl,.inl ⟨rfl,rfl⟩⟩,Below.refl _ _⟩
 case round =>
  obtain ⟨n,hn,rfl,hown,hbel⟩:=hrel
  have hsz:=hbel.size
  have hwb:=Hs0.out
  have hzr:=(Mod.ofBelow hbel).keep Hz0.out (by simp)
  by_cases hlt : n < B.length
  ·have hro : wr.ownsRow 0 55 4 (.slice A B.length cap) B.length (B.flatMap bdC):=row_mod Hrow.out (Mod.ofBelow hbel) (by simp)
   obtain ⟨g0,cap0,cur0,hv,-,-,-⟩:=row_some hro (by omega)
   cases hv
   have hpc:=row_piece bdC_len hro hlt 0 (bdC B[n]) (fun j u hu => by rw [Nat.zero_add];exact hu)
   have hg0:=row_lt hro g0 rfl
   have hni : (n : Int) < (B.length : Int):=by omega
   have hst:=kids_succ B (s,g) n hlt
   have hlen : (kidsB (B.take n) (s,g)).length ≤ n:=by
    unfold kidsB
    rw [List.length_map]
    have h1 : ((B.take n).filter (fun b => decide (b.2 = (s,g)))).length ≤ (B.take n).length:=List.length_filter_le _ _
    rw [List.length_take] at h1;omega
   generalize kidsB (B.take n) (s,g) = M at *
   obtain ⟨x,hx⟩ : ∃ x,B[n] = x:=⟨_,rfl⟩
   rw [hx] at hpc hst
   obtain ⟨⟨b0,b1⟩,b2,b3⟩:=x
   obtain ⟨w3,hw3,hb3,hz3,hs3⟩:=box1 wr (.cells #[.int .i64 b0,.int .i64 b1,.int .i64 b2,.int .i64 b3] 55)
   have hzr3:=(Mod.ofBelow hb3).keep hzr (by simp)
   have heq:=fun w => eqlHandle w b2 b3 s g
   have hbf:=hbel.trans (hb3.mono hsz)
   have hO3:=hown.alloc (.cells #[.int .i64 b0,.int .i64 b1,.int .i64 b2,.int .i64 b3] 55)
   rw [hw3] at hO3
   have HO:=Lib.hid (bdC_one ((b0,b1),(b2,b3)))
   obtain ⟨r0,r1,r2,r3,rl⟩:=cells4 hz3
   obtain ⟨q0,q1,ql⟩:=cells2 hzr3
   cases hr : eqB (b2,b3) (s,g) with
   | false =>
    rw [hr] at heq
    simp only at hst
    rw [if_neg (by rw [hr];simp),List.append_nil] at hst
    obtain ⟨HP,Hbel,Hbf,Hs3,Hw3,Hst,HO3,Hlen⟩:=hid8 hpc hbel hbf hs3 hw3 hst hO3 hlen
    clear hpc hbel hbf hs3 hw3 hst hO3 hlen
    clear hro hx hb3 hzr hz3 hzr3 hr hown
    go_wp2_with (first | (refine wpList_load_flat rfl 55 (.tmp 15) rfl _ rfl [.int .i64 b0,.int .i64 b1,.int .i64 b2,.int .i64 b3] _ Tryz.underlying55 rfl (by kernel_rfl) HP.out ?_) | (refine wpList_store_new rfl 55 (.tmp 7) (.tmp 16) rfl wr (ints [0,0,0,0]) [.int .i64 b0,.int .i64 b1,.int .i64 b2,.int .i64 b3] 55 rfl rfl rfl (by kernel_rfl) HO.out ?_;rw [show ([.int .i64 b0,.int .i64 b1,.int .i64 b2,.int .i64 b3] : List Value).toArray = #[.int .i64 b0,.int .i64 b1,.int .i64 b2,.int .i64 b3] from rfl,Hw3.out];clear HO))
    go_roundw
    case rel => exact ⟨n + 1,by omega,by go_num,by rw [Hst.out];exact HO3.out,Hbf.out⟩
    case measure => simp [Go.RowKit.intOf];omega
   | true =>
    rw [hr] at heq
    simp only at hst
    rw [if_pos hr] at hst
    have hb0w : w0.heap.size ≤ w3.heap.size:=by omega
    obtain ⟨HP,Hbel,Hbf,Hs3,Hw3,Hst,HO3,Hlen,Hb0w⟩:=hid9 hpc hbel hbf hs3 hw3 hst hO3 hlen hb0w
    clear hpc hbel hbf hs3 hw3 hst hO3 hlen hb0w
    clear hro hx hb3 hzr hz3 hzr3 hr hown
    go_wp2_with (first | (refine wpList_load_flat rfl 55 (.tmp 15) rfl _ rfl [.int .i64 b0,.int .i64 b1,.int .i64 b2,.int .i64 b3] _ Tryz.underlying55 rfl (by kernel_rfl) HP.out ?_) | (refine wpList_store_new rfl 55 (.tmp 7) (.tmp 16) rfl wr (ints [0,0,0,0]) [.int .i64 b0,.int .i64 b1,.int .i64 b2,.int .i64 b3] 55 rfl rfl rfl (by kernel_rfl) HO.out ?_;rw [show ([.int .i64 b0,.int .i64 b1,.int .i64 b2,.int .i64 b3] : List Value).toArray = #[.int .i64 b0,.int .i64 b1,.int .i64 b2,.int .i64 b3] from rfl,Hw3.out];clear HO) | (at_builtin;(refine app_handle rfl _ _ rfl w0.heap.size _ M (b0,b1) ⟨w3.heap.size,0,none⟩ 1 rfl (HO3.out.alloc _) rfl (new_rec (by simp) rfl) (by have:=HLL.out;have:=Hlen.out;omega) (by have:=Hb0w.out;simp;omega) ?_);intro v' w5 hown5 hb5))
    go_roundw
    case rel => exact ⟨n + 1,by omega,by go_num,by rw [Hst.out];exact hown5,(Hbf.out.alloc Hb0w.out _).trans hb5⟩
    case measure => simp [Go.RowKit.intOf];omega
  ·obtain rfl : n = B.length:=by omega
   rw [List.take_length] at hown
   have hBf:=Hb0.out.trans (hbel.mono Hb0.out.size)
   have hown:=row_base hown (B':=w.heap.size) (fun k hk => by have:=own_ge hown k hk;omega)
   obtain ⟨Hown,HBf⟩:=hid2 hown hBf
   clear hown hBf
   clear hzr hbel
   go_wp2
   go_ret
   exact ⟨_,rfl,Hown.out,HBf.out⟩
end
theorem Turns.same {w w' : World} {F : List Nat} (hb : Below w.heap.size w w') : Turns w F F w':=⟨(Mod.ofBelow hb).mono (by simp),fun _ h => .inl h⟩
theorem app_handleG {w : World} {ops : Array Oper} {rest : List Oper} {o : Oper} {a : Act} {Q : Exit → Act → World → Prop} (hgd : o.guard = none) (s x : Operand)
  (ho : o.op = .call { callee:=.builtin .append,args:=#[s,x],argTypes:=#[127,127] }) (base : Nat) (v : Value) (l : List Hd) (y : Hd) (ad : Addr) (c : Nat)
  (hs : a.eval s = v) (hown : w.ownsRow base 46 2 v l.length (l.flatMap handleC)) (hx : a.eval x = .slice (some ad) 1 c) (hc : ∀ j u,(handleC y)[j]? = some u → w.cell? (ad.add j) = some u)
  (hlen : l.length < 8796093022207) (hbase : base ≤ w.heap.size)
  (h : ∀ v' w',w'.ownsRow base 46 2 v' (l ++ [y]).length ((l ++ [y]).flatMap handleC) → w.grownBy w' v.ownBlock → wpList Tryz.prog ops Q rest (a.put o.dst v') w') : wpList Tryz.prog ops Q (o :: rest) a w:=by
 refine app_rec (enc:=handleC) (n:=2) (z:=.agg #[.int .i64 0,.int .i64 0]) (bytes:=16) hgd s x 127 46 ho Tryz.underlying127 info_handle rfl (by omega) (by omega) handleC_one handleC_len base v l y ad c hs hown hx hc (by omega) hbase ?_
 intro v' w' h1 h2 _
 exact h v' w' h1 h2
theorem wpList_app {P : Program} {w w' : World} {ops : Array Oper} {rest : List Oper} {o : Oper} {a : Act} {Q : Exit → Act → World → Prop} (hgd : o.guard = none) (s x : Operand) (T : TypeId)
  (ho : o.op = .call { callee:=.builtin .append,args:=#[s,x],argTypes:=#[T,T] }) {v1 v2 v' : Value} (hs : a.eval s = v1) (hx : a.eval x = v2)
  (hr : (Builtin.append_ #[T,T] o.type #[v1,v2]).run P w = .ok v' w') (h : wpList P ops Q rest (a.put o.dst v') w') : wpList P ops Q (o :: rest) a w:=by
 refine wpList_plain hgd fun K hK => ?_
 unfold Oper.wp execOp
 simp only [ho,resolve,invoke,builtin,Sem.run_bind,Sem.run_pure,Result.andThen_ok,List.map_toArray,mC,mN,hs,hx,hr]
 exact hK _ _ h
theorem run_appH {w : World} (base B2 : Nat) (v v2 : Value) (l l2 : List Hd) (ty : TypeId) (hown : w.ownsRow base 46 2 v l.length (l.flatMap handleC)) (hrow : w.ownsRow B2 46 2 v2 l2.length (l2.flatMap handleC))
  (hlen : l.length + l2.length < 8796093022207) (hbase : base ≤ w.heap.size) :
  ∃ v' w',(Builtin.append_ #[127,127] ty #[v,v2]).run Tryz.prog w = .ok v' w' ∧ w'.ownsRow base 46 2 v' (l ++ l2).length ((l ++ l2).flatMap handleC) ∧ w.grownBy w' v.ownBlock:=by
 obtain ⟨i0,hi,hz0,hz1,hz2⟩:=info_parts info_handle
 rcases hrow with ⟨hx,⟨rfl,h2⟩ | ⟨g,cap2,cur,rfl,h3⟩⟩
 ·have hl2 : l2 = []:=List.eq_nil_of_length_eq_zero h2
  subst hl2
  exact ⟨v,w,run_append_owned_none (P:=Tryz.prog) w base 127 ty 46 i0 2 Tryz.underlying127 hi v l.length _ hown,by simpa using hown,⟨rfl,rfl,rfl,Nat.le_refl _,fun _ _ _ => rfl⟩⟩
 ·have hrow2 : w.ownsRow B2 46 2 (.slice (some ⟨g,0,none⟩) l2.length cap2) l2.length (l2.flatMap handleC):=⟨hx,.inr ⟨g,cap2,cur,rfl,h3⟩⟩
  obtain ⟨v',w',hr,h4,h5,-,-⟩:=run_append_own_at (P:=Tryz.prog) w base 127 ty 46 i0 _ 2 16 Tryz.underlying127 hi hz0 hz1 hz2 rfl (by omega) v l.length _ hown ⟨g,0,none⟩ l2.length cap2 (l2.flatMap handleC) (flatV_length handleC_len l2) (fun j u hu => by
   have h5:=row_cell hrow2 hu
   rw [Addr.add_mid,Nat.zero_add];exact h5) (flat_one handleC_one _) (by unfold maxLen;omega) (by omega) hbase
  refine ⟨v',w',hr,?_,h5⟩
  rw [List.length_append,List.flatMap_append]
  exact h4
theorem app_list {w : World} {ops : Array Oper} {rest : List Oper} {o : Oper} {a : Act} {Q : Exit → Act → World → Prop} (hgd : o.guard = none) (s x : Operand)
  (ho : o.op = .call { callee:=.builtin .append,args:=#[s,x],argTypes:=#[127,127] }) (base B2 : Nat) (v v2 : Value) (l l2 : List Hd)
  (hs : a.eval s = v) (hown : w.ownsRow base 46 2 v l.length (l.flatMap handleC)) (hx : a.eval x = v2) (hrow : w.ownsRow B2 46 2 v2 l2.length (l2.flatMap handleC))
  (hlen : l.length + l2.length < 8796093022207) (hbase : base ≤ w.heap.size)
  (h : ∀ v' w',w'.ownsRow base 46 2 v' (l ++ l2).length ((l ++ l2).flatMap handleC) → w.grownBy w' v.ownBlock → wpList Tryz.prog ops Q rest (a.put o.dst v') w') : wpList Tryz.prog ops Q (o :: rest) a w:=by
 obtain ⟨v',w',hr,h1,h2⟩:=run_appH base B2 v v2 l l2 o.type hown hrow hlen hbase
 exact wpList_app hgd s x _ ho hs hx hr (h v' w' h1 h2)
theorem underN_len {B : List Bd} (h : FamOk B) {n : Nat} {x : Hd} (hl : Low B n x) : (underN B n x).length ≤ B.length:=by
 have h1:=nodup_le (under_nodup h hl) (ys:=B.map (·.1)) (fun y hy => by
  obtain ⟨p,h1,-⟩:=(mem_under hl).1 hy
  exact List.mem_map.2 ⟨_,h1,rfl⟩)
 rw [List.length_map] at h1
 exact h1
def undP (B : List Bd) (n : Nat) (ks : List Hd) (k : Nat) : List Hd:=(ks.take k).flatMap (fun c => c :: underN B n c)
theorem undP_succ (B : List Bd) (n : Nat) (ks : List Hd) (k : Nat) (hk : k < ks.length) : undP B n ks (k + 1) = (undP B n ks k ++ [ks[k]]) ++ underN B n ks[k]:=by
 unfold undP;rw [take_succ_get ks k hk,List.flatMap_append];simp
theorem undP_all (B : List Bd) (n : Nat) (h : Hd) : undP B n (kidsB B h) (kidsB B h).length = underN B (n + 1) h:=by
 unfold undP;rw [List.take_length];rfl
theorem undP_len (B : List Bd) (n : Nat) (ks : List Hd) (k : Nat) : (undP B n ks k).length ≤ (undP B n ks ks.length).length:=by
 unfold undP
 rw [List.take_length]
 conv => rhs;rw [← List.take_append_drop k ks]
 rw [List.flatMap_append,List.length_append];omega
section
variable {vg vl vr : Value} {w : World} {q : Nat} {B : List Bd} {F : List Nat}
set_option maxRecDepth 20000 in
set_option maxHeartbeats 4000000 in
theorem less_any (s g t u : Int) (w : World) : Calls Tryz.prog 90 #[.agg #[.int .i64 s,.int .i64 g],.agg #[.int .i64 t,.int .i64 u]] w (BoolPost (ltH (s,g) (t,u)) w):=by
 have hB : Below w.heap.size w ((w.alloc (.cells #[.int .i64 s,.int .i64 g] 46)).alloc (.cells #[.int .i64 t,.int .i64 u] 46)):=((Below.refl _ _).alloc (Nat.le_refl _) _).alloc (by simp) _
 have HB:=Lib.hid hB
 clear hB
 unfold ltH
 simp only
 by_cases h1 : s < t
 ·rw [show (decide (s < t) || (decide (s = t) && decide (g < u))) = true by simp [h1]]
  go_enter Tryz.func90,Tryz.ntmps90
  go_wp2
  go_ret
  exact ⟨rfl,HB.out⟩
 ·by_cases h2 : s = t
  ·subst h2
   by_cases h3 : g < u
   ·rw [show (decide (s < s) || (decide (s = s) && decide (g < u))) = true by simp [h3]]
    go_enter Tryz.func90,Tryz.ntmps90
    go_wp2
    go_ret
    exact ⟨rfl,HB.out⟩
   ·rw [show (decide (s < s) || (decide (s = s) && decide (g < u))) = false by simp [h3]]
    go_enter Tryz.func90,Tryz.ntmps90
    go_wp2
    go_ret
    exact ⟨rfl,HB.out⟩
  ·rw [show (decide (s < t) || (decide (s = t) && decide (g < u))) = false by simp [h1,h2]]
   go_enter Tryz.func90,Tryz.ntmps90
   go_wp2
   go_ret
   exact ⟨rfl,HB.out⟩
set_option maxRecDepth 20000 in
set_option maxHeartbeats 4000000 in
theorem runder_any (hO : FamOk B) (hl : B.length ≤ 1200000000000) : ∀ (n : Nat) (s g : Int) (w : World),Low B n (s,g) → RepB vg vl vr w q B F → Calls Tryz.prog 87 #[.pointer (some ⟨q,0,none⟩),.agg #[.int .i64 s,.int .i64 g]] w (MadeRecs 46 2 handleC (underN B n (s,g)) w):=by
 intro n
 induction n with
 | zero => intro s g w hl0;exact hl0.elim
 | succ n ih =>
  intro s g w hlow h
  obtain ⟨w0,hw0,hb0,hz0,hs0⟩:=box1 w (.cells #[.int .i64 s,.int .i64 g] 46)
  have h0:=h.below hb0
  have H1:=Lib.hid (rkids_any h0 hl s g)
  have hlen:=underN_len hO hlow
  have hall:=undP_all B n (s,g)
  have hplen:=undP_len B n (kidsB B (s,g))
  rw [hall] at hplen
  obtain ⟨q0,q1,ql⟩:=cells2 hz0
  obtain ⟨HZ0,Hb0,HLB,Hs0,IH,Hlow,Hlen,Hall,Hplen⟩:=hid9 h0 hb0 hl hs0 ih hlow hlen hall hplen
  clear h0 hb0 hl hs0 ih hlow hlen hall hplen
  clear h hz0
  go_enter Tryz.func87,Tryz.ntmps87
  go_wp2_with fail
  clear hw0 q0 q1 ql
  refine H1.out.mono ?_
  rintro e w2 ⟨vk,rfl,hk,hb2⟩
  have h2:=HZ0.out.below hb2
  have hkl : (kidsB B (s,g)).length ≤ 1200000000000:=by
   unfold kidsB
   rw [List.length_map]
   have h1 : (B.filter (fun b => decide (b.2 = (s,g)))).length ≤ B.length:=List.length_filter_le _ _
   have:=HLB.out
   omega
  have hBw2:=Hb0.out.trans (hb2.mono Hb0.out.size)
  have hkl2 : (kidsB B (s,g)).length ≤ 9223372036854775807:=by omega
  have hlow' : ∀ c ∈ kidsB B (s,g),Low B n c:=Hlow.out
  generalize kidsB B (s,g) = ks at *
  obtain ⟨A,cap,rfl,-,-⟩:=row_slice hk
  obtain ⟨H2,Hk,HBw2,Hlow',HKL⟩:=hid5 h2 hk hBw2 hlow' hkl
  clear h2 hk hBw2 hlow' hkl
  clear hb2 H1
  go_wp2_with fail
  go_loopw [5,12] (fun v i wr => ∃ k : Nat,k ≤ ks.length ∧ i = .int .i64 k ∧ wr.ownsRow w2.heap.size 46 2 v (undP B n ks k).length ((undP B n ks k).flatMap handleC) ∧ Below w2.heap.size w2 wr) (fun _ i _ => ks.length - (Go.RowKit.intOf i).toNat)
  case atStart => exact ⟨0,by omega,rfl,⟨rfl,.inl ⟨rfl,rfl⟩⟩,Below.refl _ _⟩
  case round =>
   obtain ⟨k,hkk,rfl,hown,hbel⟩:=hrel
   have hsz:=hbel.size
   by_cases hlt : k < ks.length
   ·have hro:=row_mod Hk.out (Mod.ofBelow hbel) (by simp)
    obtain ⟨g0,cap0,cur0,hv,-,-,-⟩:=row_some hro (by omega)
    cases hv
    have hpc:=row_piece handleC_len hro hlt 0 (handleC ks[k]) (fun j u hu => by rw [Nat.zero_add];exact hu)
    have hg0:=row_lt hro g0 rfl
    have hki : (k : Int) < (ks.length : Int):=by omega
    have hst:=undP_succ B n ks k hlt
    have hlowx:=Hlow'.out _ (List.getElem_mem hlt)
    have hl1:=Hplen.out (k + 1)
    have hl0:=Hplen.out k
    obtain ⟨A5,cap5,rfl,-,-⟩:=row_slice hown
    rw [hst,List.length_append,List.length_append] at hl1
    generalize undP B n ks k = M at *
    generalize ks[k] = x at *
    obtain ⟨c0,c1⟩:=x
    obtain ⟨w3,hw3,hb3,hz3,hs3⟩:=box1 wr (.cells #[.int .i64 c0,.int .i64 c1] 46)
    have hO3:=hown.alloc (.cells #[.int .i64 c0,.int .i64 c1] 46)
    rw [hw3] at hO3
    have hb03:=hbel.trans (hb3.mono hsz)
    have hvlt : ∀ y,(Value.slice A5 M.length cap5).ownBlock = some y → y < wr.heap.size:=row_lt hown
    obtain ⟨r0,r1,rl⟩:=cells2 hz3
    obtain ⟨HP,Hst,Hlowx,Hl1,Hl0,HO3,Hb03,Hs3,Hz3,Hvlt⟩:=hid10 hpc hst hlowx hl1 hl0 hO3 hb03 hs3 hz3 hvlt
    clear hpc hst hlowx hl1 hl0 hO3 hb03 hs3 hz3 hvlt
    clear hro hown hbel hb3
    go_wp2_with (first | (refine wpList_load_flat rfl 46 (.tmp 14) rfl _ rfl [.int .i64 c0,.int .i64 c1] _ Tryz.underlying46 rfl (by kernel_rfl) HP.out ?_) | (at_builtin;refine app_handleG rfl _ _ rfl w2.heap.size (.slice A5 M.length cap5) M (c0,c1) ⟨w3.heap.size,0,none⟩ 1 rfl (HO3.out.alloc _) rfl (new_rec (by simp) rfl) (by have:=Hl0.out;have:=Hlen.out;have:=HLB.out;omega) (by have:=Hb03.out.size;simp;omega) ?_;intro v5 w5 hown5 hg5;have hz5:=(grown_mod hg5).keep (blk_alloc Hz3.out _) (by intro e;have:=Hvlt.out _ (by simpa using e);omega);have z0:=blk_cell hz5 0;have z1:=blk_cell hz5 1;simp only [eA,eZ,eS] at z0 z1;have zl:=blk_lt hz5))
    have hb05 : Below w2.heap.size w2 w5:=(Hb03.out.alloc Hb03.out.size _).trans ((Below.refl _ _).grown hg5 (by have:=Hb03.out.size;simp;omega) (own_ge HO3.out))
    have h5:=H2.out.mod (Mod.ofBelow hb05) (by simp)
    obtain ⟨A55,cap55,rfl,-,-⟩:=row_slice hown5
    have H6:=Lib.hid (IH.out c0 c1 w5 Hlowx.out h5)
    obtain ⟨Hb05,Hown5⟩:=hid2 hb05 hown5
    clear hb05 hown5
    clear r0 r1 rl z0 z1 zl hz5 hg5 hw3 h5
    refine H6.out.mono ?_
    rintro e w6 ⟨v6,rfl,hown6,hb6⟩
    have hown56:=row_mod Hown5.out (Mod.ofBelow hb6) (by simp)
    have hb06:=Hb05.out.trans (hb6.mono Hb05.out.size)
    obtain ⟨Hown6,Hb06,Hown56⟩:=hid3 hown6 hb06 hown56
    clear hown6 hb06 hown56
    clear hb6
    go_wp2_with (at_builtin;refine app_list rfl _ _ rfl w2.heap.size w5.heap.size (.slice A55 (M ++ [(c0,c1)]).length cap55) _ (M ++ [(c0,c1)]) (underN B n (c0,c1)) (by rw [List.length_append,List.length_singleton];rfl) Hown56.out rfl Hown6.out (by have:=Hl1.out;have:=Hlen.out;have:=HLB.out;rw [List.length_append];omega) Hb06.out.size ?_;intro v7 w7 hown7 hg7)
    go_roundw
    case rel => exact ⟨k + 1,by omega,by go_num,by rw [Hst.out];exact hown7,Hb06.out.trans ((Below.refl _ _).grown hg7 Hb06.out.size (own_ge Hown56.out))⟩
    case measure => simp [Go.RowKit.intOf];omega
   ·obtain rfl : k = ks.length:=by omega
    rw [Hall.out] at hown
    have hBf:=HBw2.out.trans (hbel.mono HBw2.out.size)
    have hown:=row_base hown (B':=w.heap.size) (fun k hk => by have:=own_ge hown k hk;have:=HBw2.out.size;omega)
    obtain ⟨Hown,HBf⟩:=hid2 hown hBf
    clear hown hBf
    clear hbel
    go_wp2
    go_ret
    exact ⟨_,rfl,Hown.out,HBf.out⟩
end
set_option maxRecDepth 100000 in
set_option maxHeartbeats 1000000 in
theorem copyB_any (A : Option Addr) (c : Nat) (l : List Bd) (w : World) (hl : l.length * 32 ≤ 140737488351232) (hA : Lies w w.heap.size A (l.flatMap bdC)) (hn : A = none → l = []) (hc : A = none → c = 0) :
  Calls Tryz.prog 91 #[.slice A l.length c] w (MadeR 55 4 bdC l w):=by
 have Hl:=Lib.hid hl
 have hl2 : l.length ≤ 9223372036854775807:=by omega
 clear hl
 cases A with
 | none =>
  obtain rfl:=hn rfl
  obtain rfl:=hc rfl
  clear hn hc hA Hl hl2
  have hnil:=fun w => run_eql_slice_nil w 24 55 none 0 0 Tryz.underlying24
  simp only [Option.isNone_none] at hnil
  go_enter Tryz.func91,Tryz.ntmps91
  go_wp2
  go_ret
  exact ⟨_,rfl,⟨rfl,.inl ⟨rfl,rfl⟩⟩,Below.refl _ _⟩
 | some a =>
  have hnews : ∀ j u,(l.flatMap bdC)[j]? = some u → w.cell? (a.add j) = some u:=fun j u hu => by
   obtain ⟨a',e,_,h⟩:=hA j u hu
   cases e;exact h
  have hb : ∀ j u,(l.flatMap bdC)[j]? = some u → a.block < w.heap.size:=fun j u hu => by
   obtain ⟨a',e,h,_⟩:=hA j u hu
   cases e;exact h
  have hnew2 : ∀ o,∀ j u,(l.flatMap bdC)[j]? = some u → (w.alloc o).cell? (a.add j) = some u:=fun o j u hu =>
   (((Below.refl w.heap.size w).alloc (Nat.le_refl _) o).cell (p:=a.add j) (by rw [add_block];exact hb j u hu)).trans (hnews j u hu)
  obtain ⟨HN,HN0⟩:=hid2 hnew2 hnews
  have H0:=Lib.hid (flatV_length bdC_len l)
  have HO:=Lib.hid (flat_one bdC_one l)
  obtain ⟨i0,hi,hz0,hz1,hz2⟩:=info_parts inf_Bond
  obtain ⟨HI,HZ0,HZ1,HZ2⟩:=hid4 hi hz0 hz1 hz2
  clear hA hn hc hnews hb hnew2 hi hz0 hz1 hz2
  have hnil:=fun w => run_eql_slice_nil w 24 55 (some a) l.length c Tryz.underlying24
  simp only [Option.isNone_some] at hnil
  go_enter Tryz.func91,Tryz.ntmps91
  go_wp2_with (at_builtin;refine wpList_append_own_at _ rfl _ _ 24 rfl w.heap.size 55 i0 _ 4 32 Tryz.underlying24 HI.out HZ0.out HZ1.out HZ2.out rfl (by omega) (.slice none 0 0) 0 [] rfl ⟨by simp,.inl ⟨rfl,rfl⟩⟩ a l.length c (l.flatMap bdC) rfl (H0.out) HN0.out HO.out (by unfold maxLen;omega) (by have:=Hl.out;omega) (Nat.le_refl _) ?_;intro v' w' hown hg _ _)
  go_ret
  refine ⟨_,rfl,?_,(Below.refl w.heap.size w).grown hg (Nat.le_refl _) (fun k hk => by cases hk)⟩
  simpa using hown
theorem yr_appVB {P : Program} {o : Oper} {ρ : Operand → Value} {w w' : World} {J : Value → World → Prop} (s x : Operand) (T : TypeId)
  (ho : o.op = .call { callee:=.builtin .append,args:=#[s,x],argTypes:=#[T,T] }) {v' v1 v2 : Value} (h1 : ρ s = v1) (h2 : ρ x = v2) (hr : (Builtin.append_ #[T,T] o.type #[v1,v2]).run P w = .ok v' w') (h : J v' w') : YieldsR P o ρ w J:=by
 subst h1 h2
 unfold YieldsR execOp
 simp only [ho,resolve,invoke,builtin,Sem.run_bind,Sem.run_pure,Result.andThen_ok,List.map_toArray,mC,mN,hr]
 exact h
theorem slice_splitB {w : World} {A : Option Addr} {cap k : Nat} {L : List Bd} (hrow : w.ownsRow 0 55 4 (.slice A L.length cap) L.length (L.flatMap bdC)) (hk : k ≤ L.length) (hl : L.length ≤ 1200000000000) :
  ∃ v6 v18,(∀ W,(Instr.sliceAt 24 (.slice A L.length cap) none (some (.int .i64 (k : Int))) none).run Tryz.prog W = .ok v6 W) ∧ (∀ W,(Instr.sliceAt 24 (.slice A L.length cap) (some (.int .i64 (k : Int))) none none).run Tryz.prog W = .ok v18 W) ∧
   (∀ V,Mod [] w V → Calls Tryz.prog 91 #[v6] V (MadeR 55 4 bdC (L.take k) V)) ∧
   ∀ V,Mod [] w V → ∀ ty base v (l : List Bd),V.ownsRow base 55 4 v l.length (l.flatMap bdC) → l.length ≤ 1200000000001 → base ≤ V.heap.size →
    ∃ v' V',(Builtin.append_ #[24,24] ty #[v,v18]).run Tryz.prog V = .ok v' V' ∧ V'.ownsRow base 55 4 v' (l ++ L.drop k).length ((l ++ L.drop k).flatMap bdC) ∧ V.grownBy V' v.ownBlock:=by
 obtain ⟨i0,hi,hz0,hz1,hz2⟩:=info_parts inf_Bond
 have hel : Tryz.prog.elem 24 = 55:=by kernel_rfl
 have hsz : (sizeOf (Tryz.prog.elem 24)).run Tryz.prog = fun W => .ok 4 W:=by
  funext W
  rw [hel]
  simp [sizeOf,typeInfo,hi,hz1]
 have hund : Tryz.prog.underlying 24 = some (.slice (Tryz.prog.elem 24)):=by rw [hel];exact Tryz.underlying24
 obtain ⟨A',c',e,hcl,hlies⟩:=own_lies hrow
 cases e
 have hm6 : ∀ W,(Instr.sliceAt 24 (.slice A L.length cap) none (some (.int .i64 (k : Int))) none).run Tryz.prog W = .ok (.slice (if cap = 0 then A else A.map (·.add (0 * 4))) (k - 0) (cap - 0)) W:=by
  intro W
  rw [run_sliceAt_slice _ _ _ _ _ _ hund,run_slice_h W _ A L.length cap hund .i64 k (by omega) (by omega),hsz]
  simp only [Result.andThen,sliced,Int.toNat_natCast]
 have hm18 : ∀ W,(Instr.sliceAt 24 (.slice A L.length cap) (some (.int .i64 (k : Int))) none none).run Tryz.prog W = .ok (.slice (if cap = k then A else A.map (·.add (k * 4))) (L.length - k) (cap - k)) W:=by
  intro W
  rw [run_sliceAt_slice _ _ _ _ _ _ hund,run_slice_l W _ A L.length cap hund .i64 k (by omega) (by omega),hsz]
  simp only [Result.andThen,sliced,Int.toNat_natCast]
 have htl : (L.take k).length = k:=by rw [List.length_take];omega
 have hdl : (L.drop k).length = L.length - k:=List.length_drop
 refine ⟨_,_,hm6,hm18,fun V hV => ?_,fun V hV ty base v l hown hl61 hbase => ?_⟩
 ·have hrow2:=row_mod hrow hV (by simp)
  have hA : (if cap = 0 then A else A.map (·.add (0 * 4))) = A:=by
   split
   ·rfl
   ·rcases hrow with ⟨-,⟨h1,-⟩ | ⟨g,cap2,cur,h1,-⟩⟩
    ·simp only [Value.slice.injEq] at h1;rw [h1.1];rfl
    ·simp only [Value.slice.injEq] at h1;rw [h1.1];rfl
  rw [hA]
  have hh:=copyB_any A (cap - 0) (L.take k) V (by rw [htl];omega) (fun j u hu => by
   obtain ⟨A2,c2,e,-,hl2⟩:=own_lies hrow2
   cases e
   refine hl2 j u ?_
   have hj:=(List.getElem?_eq_some_iff.1 hu).1
   conv => lhs;rw [← List.take_append_drop k L]
   rw [List.flatMap_append,List.getElem?_append_left hj]
   exact hu) (fun e => ?_) (fun e => ?_)
  ·rw [htl] at hh;exact hh
  ·subst e
   rcases hrow with ⟨-,⟨h1,h2⟩ | ⟨g,cap2,cur,h1,-⟩⟩
   ·simp only [Value.slice.injEq,true_and] at h1
    rw [List.eq_nil_of_length_eq_zero h1.1];simp
   ·cases h1
  ·subst e
   rcases hrow with ⟨-,⟨h1,h2⟩ | ⟨g,cap2,cur,h1,-⟩⟩
   ·simp only [Value.slice.injEq,true_and] at h1
    omega
   ·cases h1
 ·have hrow2:=row_mod hrow hV (by simp)
  rcases hrow2 with ⟨hx,⟨h1,h2⟩ | ⟨g,cap2,cur,h1,-⟩⟩
  ·simp only [Value.slice.injEq] at h1
   obtain ⟨rfl,h3,h4⟩:=h1
   have hL : L = []:=List.eq_nil_of_length_eq_zero h3
   subst hL
   obtain rfl : k = 0:=by simpa using hk
   refine ⟨v,V,?_,by simpa using hown,⟨rfl,rfl,rfl,Nat.le_refl _,fun _ _ _ => rfl⟩⟩
   have:=run_append_owned_none (P:=Tryz.prog) V base 24 ty 55 i0 4 Tryz.underlying24 hi v l.length _ hown
   subst h4
   exact this
  ·simp only [Value.slice.injEq] at h1
   obtain ⟨rfl,-,rfl⟩:=h1
   have hrow2:=row_mod hrow hV (by simp)
   obtain ⟨ad,had,hc⟩ : ∃ ad,(if cap = k then some (⟨g,0,none⟩ : Addr) else (some (⟨g,0,none⟩ : Addr)).map (·.add (k * 4))) = some ad ∧ ∀ j u,((L.drop k).flatMap bdC)[j]? = some u → V.cell? (ad.add j) = some u:=by
    by_cases e : cap = k
    ·refine ⟨⟨g,0,none⟩,by rw [if_pos e],fun j u hu => ?_⟩
     rw [List.drop_eq_nil_of_le (by omega)] at hu
     simp at hu
    ·refine ⟨(⟨g,0,none⟩ : Addr).add (k * 4),by rw [if_neg e];rfl,fun j u hu => ?_⟩
     have h5:=row_cell hrow2 (i:=k * 4 + j) (u:=u) (by
      conv => lhs;rw [← List.take_append_drop k L]
      rw [List.flatMap_append,List.getElem?_append_right (by rw [flatV_length bdC_len,htl];omega),flatV_length bdC_len,htl,show k * 4 + j - k * 4 = j by omega]
      exact hu)
     rw [show ((⟨g,0,none⟩ : Addr).add (k * 4)).add j = ⟨g,k * 4 + j,none⟩ by rw [Addr.add_mid,Addr.add_mid,Nat.zero_add]]
     exact h5
   rw [had]
   obtain ⟨v',V',hr,h2,h3,-,-⟩:=run_append_own_at (P:=Tryz.prog) V base 24 ty 55 i0 _ 4 32 Tryz.underlying24 hi hz0 hz1 hz2 rfl (by omega) v l.length _ hown ad (L.length - k) (cap - k) ((L.drop k).flatMap bdC) (by rw [flatV_length bdC_len,hdl]) hc (flat_one bdC_one _) (by unfold maxLen;omega) (by omega) hbase
   refine ⟨v',V',hr,?_,h3⟩
   rw [List.length_append,List.flatMap_append,hdl]
   exact h2
structure IAd (w5 : World) (l1 l2 : List Bd) (x : Bd) (L : Nat → Bool) (σ : Nat → Value) (V : World) : Prop where
 b : Below w5.heap.size w5 V
 c : L 4 = true → L 9 = false → V.ownsRow w5.heap.size 55 4 (σ 4) l1.length (l1.flatMap bdC)
 o : L 8 = true → L 9 = false → oneR w5.heap.size (bdC x).toArray 55 (σ 8) V
 a : L 9 = true → L 13 = false → V.ownsRow w5.heap.size 55 4 (σ 9) (l1 ++ [x]).length ((l1 ++ [x]).flatMap bdC)
 e : L 13 = true → V.ownsRow w5.heap.size 55 4 (σ 13) (l1 ++ [x] ++ l2).length ((l1 ++ [x] ++ l2).flatMap bdC)
section
variable {w5 V V' : World} {l1 l2 : List Bd} {x : Bd} {L : Nat → Bool} {σ : Nat → Value}
theorem IAd.start (h : Below w5.heap.size w5 V) : IAd w5 l1 l2 x (fun _ => false) σ V:=⟨h,fun e => (by cases e),fun e => (by cases e),fun e => (by cases e),fun e => (by cases e)⟩
theorem IAd.read (h : IAd w5 l1 l2 x L σ V) {i : Nat} (h1 : 4 ≠ i ∧ 8 ≠ i ∧ 9 ≠ i ∧ 13 ≠ i) (v : Value) : IAd w5 l1 l2 x (upd L i) (updv σ i v) V:=by
 obtain ⟨n1,n2,n3,n4⟩:=h1
 have eL : ∀ j,j ≠ i → upd L i j = L j:=fun j hj => by unfold upd;simp [hj]
 have es : ∀ j,j ≠ i → updv σ i v j = σ j:=fun j hj => by unfold updv;rw [if_neg hj]
 refine ⟨h.b,?_,?_,?_,?_⟩
 ·rw [eL 4 n1,eL 9 n3,es 4 n1];exact h.c
 ·rw [eL 8 n2,eL 9 n3,es 8 n2];exact h.o
 ·rw [eL 9 n3,eL 13 n4,es 9 n3];exact h.a
 ·rw [eL 13 n4,es 13 n4];exact h.e
theorem IAd.copied (h : IAd w5 l1 l2 x L σ V) (h13 : L 13 = false) (hb : Below V.heap.size V V') {v : Value} (hv : V'.ownsRow V.heap.size 55 4 v l1.length (l1.flatMap bdC)) (h9 : L 9 = false) : IAd w5 l1 l2 x (upd L 4) (updv σ 4 v) V':=by
 have eL : ∀ j,j ≠ 4 → upd L 4 j = L j:=fun j hj => by unfold upd;simp [hj]
 have es : ∀ j,j ≠ 4 → updv σ 4 v j = σ j:=fun j hj => by unfold updv;rw [if_neg hj]
 have hs:=h.b.size
 refine ⟨h.b.trans (hb.mono hs),fun _ _ => ?_,?_,?_,?_⟩
 ·show V'.ownsRow _ _ _ (updv σ 4 v 4) _ _
  rw [show updv σ 4 v 4 = v from rfl]
  exact row_base hv (fun k hk => by have:=(hv.lt k hk).1;omega)
 ·rw [eL 8 (by decide),eL 9 (by decide),es 8 (by decide)];exact fun h1 h2 => oneR_mod (h.o h1 h2) (Mod.ofBelow hb) (by simp)
 ·rw [eL 9 (by decide),h9];intro e;cases e
 ·rw [eL 13 (by decide),h13];intro e;cases e
theorem IAd.oned (h : IAd w5 l1 l2 x L σ V) (h13 : L 13 = false) (h9 : L 9 = false) : IAd w5 l1 l2 x (upd L 8) (updv σ 8 (.slice (some ⟨V.heap.size,0,none⟩) 1 1)) (V.alloc (.cells (bdC x).toArray 55)):=by
 have eL : ∀ j,j ≠ 8 → upd L 8 j = L j:=fun j hj => by unfold upd;simp [hj]
 have es : ∀ v j,j ≠ 8 → updv σ 8 v j = σ j:=fun v j hj => by unfold updv;rw [if_neg hj]
 have hs:=h.b.size
 refine ⟨h.b.alloc hs _,?_,fun _ _ => ?_,?_,?_⟩
 ·rw [eL 4 (by decide),eL 9 (by decide),es _ 4 (by decide)];exact fun h1 h2 => row_mod (h.c h1 h2) ((Mod.refl [] V).alloc _) (by simp)
 ·exact oneR_new hs
 ·rw [eL 9 (by decide),h9];intro e;cases e
 ·rw [eL 13 (by decide),h13];intro e;cases e
theorem IAd.apped (h : IAd w5 l1 l2 x L σ V) (h13 : L 13 = false) (h4 : L 4 = true) (h9 : L 9 = false) {v : Value} (hg : V.grownBy V' (σ 4).ownBlock) (hv : V'.ownsRow w5.heap.size 55 4 v (l1 ++ [x]).length ((l1 ++ [x]).flatMap bdC)) : IAd w5 l1 l2 x (upd L 9) (updv σ 9 v) V':=by
 have eL : ∀ j,j ≠ 9 → upd L 9 j = L j:=fun j hj => by unfold upd;simp [hj]
 refine ⟨h.b.trans ((Below.refl w5.heap.size V).grown hg h.b.size (own_ge (h.c h4 h9))),?_,?_,fun _ _ => hv,?_⟩
 ·intro _ e;simp [upd] at e
 ·intro _ e;simp [upd] at e
 ·rw [eL 13 (by decide),h13];intro e;cases e
theorem IAd.apped2 (h : IAd w5 l1 l2 x L σ V) (h13 : L 13 = false) (h9 : L 9 = true) {v : Value} (hg : V.grownBy V' (σ 9).ownBlock) (hv : V'.ownsRow w5.heap.size 55 4 v (l1 ++ [x] ++ l2).length ((l1 ++ [x] ++ l2).flatMap bdC)) : IAd w5 l1 l2 x (upd L 13) (updv σ 13 v) V':=by
 have eL : ∀ j,j ≠ 13 → upd L 13 j = L j:=fun j hj => by unfold upd;simp [hj]
 refine ⟨h.b.trans ((Below.refl w5.heap.size V).grown hg h.b.size (own_ge (h.a h9 h13))),?_,?_,?_,fun _ => hv⟩
 ·rw [eL 9 (by decide),h9];intro _ e;cases e
 ·rw [eL 9 (by decide),h9];intro _ e;cases e
 ·intro _ e;simp [upd] at e
end
theorem whiles {α : Type} (p : α → Bool) : ∀ (l : List α) (k : Nat), k ≤ l.length → (∀ j (h : j < l.length), j < k → p l[j] = true) → (∀ h : k < l.length, p l[k] = false) → l.takeWhile p = l.take k ∧ l.dropWhile p = l.drop k
  | [], k, hk, _, _ => by obtain rfl : k = 0 := by simpa using hk
                          exact ⟨rfl, rfl⟩
  | x :: l, 0, _, _, h2 => by
    have : p x = false := h2 (by simp)
    simp [this]
  | x :: l, k + 1, hk, h1, h2 => by
    have hx : p x = true := h1 0 (by simp) (by omega)
    obtain ⟨a, b⟩ := whiles p l k (by simpa using hk) (fun j hj hjk => h1 (j + 1) (by simpa using hj) (by omega)) (fun h => h2 (by simpa using h))
    simp [hx, a, b]
theorem insB_at {B : List Bd} {x : Bd} {k : Nat} (hk : k ≤ (outB B x.1).length) (h1 : ∀ j (h : j < (outB B x.1).length),j < k → ltH (outB B x.1)[j].1 x.1 = true) (h2 : ∀ h : k < (outB B x.1).length,ltH (outB B x.1)[k].1 x.1 = false) :
  insB B x = (outB B x.1).take k ++ [x] ++ (outB B x.1).drop k:=by
 obtain ⟨a,b⟩:=whiles (fun b : Bd => ltH b.1 x.1) _ k hk h1 h2
 unfold insB
 rw [a,b];simp
structure IUnd (w1 : World) (l : List Hd) (L : Nat → Bool) (σ : Nat → Value) (V : World) : Prop where
 b : Below w1.heap.size w1 V
 r : L 6 = true → V.ownsRow 0 46 2 (σ 6) l.length (l.flatMap handleC)
theorem IUnd.start {w1 V : World} {l : List Hd} {σ : Nat → Value} (h : Below w1.heap.size w1 V) : IUnd w1 l (fun _ => false) σ V:=⟨h,fun e => (by cases e)⟩
theorem IUnd.read {w1 V : World} {l : List Hd} {L : Nat → Bool} {σ : Nat → Value} (h : IUnd w1 l L σ V) {i : Nat} (hi : 6 ≠ i) (v : Value) : IUnd w1 l (upd L i) (updv σ i v) V:=by
 have eL : upd L i 6 = L 6:=by unfold upd;simp [hi]
 have es : updv σ i v 6 = σ 6:=by unfold updv;rw [if_neg hi]
 exact ⟨h.b,by rw [eL,es];exact h.r⟩
theorem IUnd.got {w1 V V' : World} {l : List Hd} {L : Nat → Bool} {σ : Nat → Value} (h : IUnd w1 l L σ V) (hb : Below V.heap.size V V') {v : Value} (hv : V'.ownsRow 0 46 2 v l.length (l.flatMap handleC)) : IUnd w1 l (upd L 6) (updv σ 6 v) V' :=
 ⟨h.b.trans (hb.mono h.b.size),fun _ => hv⟩
section
variable {vg vl vr : Value} {w : World} {q : Nat} {B : List Bd} {F : List Nat}
set_option maxRecDepth 20000 in
set_option maxHeartbeats 4000000 in
theorem radopt_same (h : RepB vg vl vr w q B F) (s g : Int) : Calls Tryz.prog 64 #[.pointer (some ⟨q,0,none⟩),.agg #[.int .i64 s,.int .i64 g],.agg #[.int .i64 s,.int .i64 g]] w (RFRet vg vl vr B (.int .i64 8) q F w):=by
 obtain ⟨w0,hw0,hb0,hz0,hs0⟩:=box1 w (.cells #[.int .i64 s,.int .i64 g] 46)
 obtain ⟨w1,hw1,hb1,hz1,hs1⟩:=box1 w0 (.cells #[.int .i64 s,.int .i64 g] 46)
 have hz01:=(Mod.ofBelow hb1).keep hz0 (by simp)
 have hB1:=hb0.trans (hb1.mono hb0.size)
 have heq:=fun w => eqlHandle w s g s g
 simp only [eqB_self] at heq
 obtain ⟨q0,q1,ql⟩:=cells2 hz01
 obtain ⟨y0,y1,yl⟩:=cells2 hz1
 have hfin : RFRet vg vl vr B (.int .i64 8) q F w (.returned (.int .i64 8)) w1.drew:=⟨rfl,F,h.below hB1.drew,Turns.same hB1.drew⟩
 have Hfin:=Lib.hid hfin
 clear hfin
 clear h hb0 hz0 hs0 hb1 hz1 hs1 hz01 hB1
 go_enter Tryz.func64,Tryz.ntmps64
 go_wp2_with fail
 clear hw0 hw1
 refine wp_planR 8 [] [some 9,some 10,some 11,some 12,some 13,some 14,some 15,some 16,some 17,some 18] [[],[],[0,1],[0,1,2],[0,1,2,3],[0,1,2,3],[0,1,2,3,4,5],[0,1,2,3],[0,1,2,3,4,5,6,7],[0,1,2,3,4,5,6,7,8]] [0,1,2,3,4,5,6,7] mixed rfl (by kernel_rfl) (by decide) (by decide) rfl ?_
 iterate 8 apply Exists.intro
 refine ⟨rfl,?_,?_⟩
 ·simp only [tS,List.take_zero,AllFrom.cons_eq,AllFrom.nil_eq,OpGoalQ]
  refine ⟨?_,?_,?_,?_,?_,?_,?_,?_,trivial⟩
  all_goals (intro σ hp;(try simp only [gZ,gS,mC,mN,preF_cons,preF_nil,isV,and_true] at hp);(first | (have hq : True:=hp;clear hq hp) | skip))
  all_goals (go_simp;exact ⟨rfl,rfl⟩)
 intro σ hp
 simp only [gZ,gS,mC,mN,preF_cons,preF_nil,isV,and_true] at hp
 simp only [dS,List.drop_zero]
 go_simp
 clear hp
 go_wp2
 refine ⟨rfl,?_⟩
 go_wp2
 refine bodyPost_ret (v:=.int .i64 8) (by unfold results;try go_simp) rfl ?_
 exact Hfin.out
 all_goals exact undef
end
end Go.Proofs.YtoheblfpjinmnaaGreatDoor
