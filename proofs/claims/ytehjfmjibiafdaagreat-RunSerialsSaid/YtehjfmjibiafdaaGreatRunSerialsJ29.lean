import Derived.Test.YtehjfmjibiafdaaGreatRunSerialsJ28
import Derived.RangeFuncNested
import Derived.RangeFuncBound
import Derived.RangeFuncCalls
/- A part of the proof that RunSerials returns true. -/
namespace Go.Proofs.YtehjfmjibiafdaaGreat
open Go Go.RowKit Go.Maps
attribute [local go_sem] AllFrom.cons_eq AllFrom.nil_eq putF_nil putF_cons wantedL_none wantedL_some OpGoalT OpGoalV OpGoalQ OpGoalA OpGoalK YieldsR preF_nil preF_cons
def ofH (h : Hd) (b : Bd) : Bool:=eqB b.1 h || eqB b.2 h
def BoolPost (r : Bool) (w : World) (e : Ending) (w' : World) : Prop:=e = .returned (.bool r) ∧ Below w.heap.size w w'
set_option maxRecDepth 20000 in
set_option maxHeartbeats 2000000 in
theorem goneF_any (c0 c1 p0 p1 s g : Int) (hb : Nat) (w : World) (hh : w.heap[hb]? = some (.cells #[.int .i64 s,.int .i64 g] 41 (0,0))) :
  Calls Tryz.prog 141 #[.agg #[.int .i64 c0,.int .i64 c1],.agg #[.int .i64 p0,.int .i64 p1],.pointer (some ⟨hb,0,none⟩)] w (BoolPost (ofH (s,g) ((c0,c1),(p0,p1))) w):=by
 obtain ⟨w0,hw0,hb0,hz0,hs0⟩:=box1 w (.cells #[.int .i64 c0,.int .i64 c1] 41)
 obtain ⟨w1,hw1,hb1,hz1,hs1⟩:=box1 w0 (.cells #[.int .i64 p0,.int .i64 p1] 41)
 have hz01:=(Mod.ofBelow hb1).keep hz0 (by simp)
 have hB:=hb0.trans (hb1.mono hb0.size)
 have hh1:=(Mod.ofBelow hB).keep hh (by simp)
 unfold ofH
 have hq1:=fun w => eqlHandle w c0 c1 s g
 have hq2:=fun w => eqlHandle w p0 p1 s g
 generalize eqB (c0,c1) (s,g) = r1 at *
 generalize eqB (p0,p1) (s,g) = r2 at *
 obtain ⟨q0,q1,ql⟩:=cells2 hz01
 obtain ⟨u0,u1,ul⟩:=cells2 hz1
 obtain ⟨v0,v1,vl⟩:=cells2 hh1
 have HB:=Lib.hid hB
 clear hB
 clear hz0 hz01 hz1 hb0 hb1 hs0 hs1 hh hh1
 cases r1 with
 | true =>
  go_enter Tryz.func141,Tryz.ntmps141
  go_wp2
  go_ret
  exact ⟨rfl,HB.out⟩
 | false =>
  go_enter Tryz.func141,Tryz.ntmps141
  go_wp2
  go_ret
  exact ⟨rfl,HB.out⟩
theorem mid_perm {α : Type} (D t1 t2 : List α) (x : α) : (D ++ (t1 ++ x :: t2)).Perm (D ++ [x] ++ (t1 ++ t2)):=by
 rw [List.append_assoc]
 exact List.Perm.append_left D List.perm_middle
theorem del_step {l' Dk t1 t2 : List Bd} {x : Bd} (ha : l'.Pairwise (fun a b => a.1 ≠ b.1)) (hp : l'.Perm (Dk ++ (t1 ++ x :: t2))) :
  ∃ l1 l2,l' = l1 ++ x :: l2 ∧ (l1 ++ l2).Perm (Dk ++ (t1 ++ t2)) ∧ ∀ y ∈ t1 ++ t2,y.1 ≠ x.1:=by
 have hx : x ∈ l':=hp.mem_iff.2 (by simp)
 obtain ⟨l1,l2,rfl⟩:=List.append_of_mem hx
 have h1 : (x :: (l1 ++ l2)).Perm (x :: (Dk ++ (t1 ++ t2))):=(List.perm_middle.symm.trans hp).trans ((mid_perm Dk t1 t2 x).trans (by rw [List.append_assoc];exact List.perm_middle))
 refine ⟨l1,l2,rfl,h1.cons_inv,fun y hy => ?_⟩
 have h2:=((List.Perm.pairwise_iff (fun h => Ne.symm h) (List.perm_middle.trans h1)).1 ha)
 exact (List.pairwise_cons.1 h2).1 y (List.mem_append_right _ hy) |>.symm
def DelPost (m : Nat) (l : List Bd) (h : Hd) (w : World) (e : Ending) (w' : World) : Prop :=
 e = .returned (.tuple #[]) ∧ (∃ l' : List Bd,MapAt Tryz.prog 41 w' m (l'.map bdPr) ∧ l'.Perm (l.filter (fun b => !ofH h b))) ∧ Mod [m] w w'
set_option maxRecDepth 20000 in
set_option maxHeartbeats 4000000 in
theorem delF_any (m hb : Nat) (l : List Bd) (s g : Int) (w : World) (hm : MapAt Tryz.prog 41 w m (l.map bdPr)) (hr : ∀ b ∈ l,HdR b.1) (hh : w.heap[hb]? = some (.cells #[.int .i64 s,.int .i64 g] 41 (0,0))) :
  Calls Tryz.prog 140 #[.map (some m),.func (.func 141) #[] #[.pointer (some ⟨hb,0,none⟩)]] w (DelPost m l (s,g) w):=by
 obtain ⟨o,hrun,hR⟩:=hm.range Tryz.underlying115
 obtain ⟨w1,hw1,hb1,-,hs1⟩:=box1 w o
 rw [hw1] at hR
 have hh1:=(Mod.ofBelow hb1).keep hh (by simp)
 have hlt:=hm.lt
 have hbm : hb ≠ m:=by
  rintro rfl
  obtain ⟨es,c,h1,-⟩:=hm
  rw [h1] at hh;cases hh
 have hbl:=blk_lt hh
 have hm01 : Mod [m] w w1:=(Mod.ofBelow hb1).mono (by simp)
 go_enter Tryz.func140,Tryz.ntmps140
 obtain ⟨HR,Hb1,Hs1,Hh1,HR1,Hbm,Hbl,Hlt,Hm01⟩:=hid9 hR hb1 hs1 hh1 hr hbm hbl hlt hm01
 clear hR hb1 hs1 hh1 hr hbm hbl hlt hm01
 clear hm hh
 go_wp2_with fail
 clear hrun hw1
 generalize hrr : w.heap.size = r at *
 go_loopw [9] (fun _ wr => ∃ (l' D ts : List Bd),RangeAt Tryz.prog 41 wr m r (l'.map bdPr) (ts.map bdPr) ∧ l'.Perm (D.filter (fun b => !ofH (s,g) b) ++ ts) ∧ (D ++ ts).Perm l ∧ Mod [m,r] w1 wr) (fun _ wr => wr.rangeLeft m r)
 case atStart => exact ⟨l,[],l,HR.out,.refl _,.refl _,Mod.refl _ _⟩
 case round =>
  obtain ⟨l',D,ts,hR,hp1,hp2,hmod⟩:=hrel
  by_cases hts : ts = []
  ·subst hts
   have hov:=fun ty => RangeAt.over (P:=Tryz.prog) (by simpa using hR) ty
   simp only [List.append_nil] at hp1 hp2
   have hfin : DelPost m l (s,g) w (.returned (.tuple #[])) wr:=by
    refine ⟨rfl,⟨l',hR.map,hp1.trans (hp2.filter _)⟩,?_⟩
    exact Hm01.out.trans hmod (fun x hx => by
     simp at hx
     rcases hx with rfl | rfl
     ·simp
     ·exact .inr (by omega))
   have Hfin:=Lib.hid hfin
   clear hfin
   clear hR hp1 hp2 hmod
   go_wp2
   refine bodyPost_end (v:=.tuple #[]) ?_ rfl Hfin.out
   unfold results;try go_simp
  ·obtain ⟨t1,x,t2,w2,rfl,hn,hen,hx,hR2,hm2,hs2⟩:=hR.nextE hts
   have hmeas:=hR.left_eq
   obtain ⟨⟨c0,c1⟩,p0,p1⟩:=x
   have hm12 : Mod [m,r] w1 w2:=hmod.step (hm2.mono (by simp))
   have hsz2:=hm12.size
   have hh2:=hm12.keep Hh1.out (by have:=Hbm.out;have:=Hbl.out;simp;omega)
   have hmm : ((c0,c1),(p0,p1)) ∈ l:=hp2.mem_iff.1 (by simp)
   have hc:=HR1.out _ hmm
   simp only [bdPr,hdV,handleC] at hn hen
   obtain ⟨HR,Hp1,Hp2,Hmod,Hx,HR2,Hm2,Hs2,Hmeas,Hm12,Hsz2,Hh2,Hmm,Hc⟩:=hid14 hR hp1 hp2 hmod hx hR2 hm2 hs2 hmeas hm12 hsz2 hh2 hmm hc
   clear hR hp1 hp2 hmod hx hR2 hm2 hs2 hmeas hm12 hsz2 hh2 hmm hc
   go_wp2_with fail
   have H2:=Lib.hid (goneF_any c0 c1 p0 p1 s g hb)
   obtain ⟨w3,hw3,hb3,hz3,hs3⟩:=box1 w2 (.cells #[.int .i64 c0,.int .i64 c1] 41)
   obtain ⟨w4,hw4,hb4,-,-⟩:=box1 w3 (.cells #[.int .i64 p0,.int .i64 p1] 41)
   rw [hw3,hw4]
   have hb24 : Below w2.heap.size w2 w4:=hb3.trans (hb4.mono hb3.size)
   have hz4:=(Mod.ofBelow hb4).keep hz3 (by simp)
   have hh4:=(Mod.ofBelow hb24).keep Hh2.out (by simp)
   refine (H2.out w4 hh4).mono ?_
   rintro e w5 ⟨rfl,hb5⟩
   have hb25 : Below w2.heap.size w2 w5:=hb24.trans (hb5.mono hb24.size)
   have hz5:=(Mod.ofBelow hb5).keep hz4 (by simp)
   have hR5:=HR2.out.mod (Mod.ofBelow hb25) (by simp) (by simp)
   have hm15:=Hm12.out.andBelow hb25
   clear hn hen hw3 hw4 hb3 hb4 hb24 hz3 hz4 hh4 hs3 hb5
   cases hof : ofH (s,g) ((c0,c1),(p0,p1)) with
   | false =>
    obtain ⟨HR5,Hm15,Hof⟩:=hid3 hR5 hm15 hof
    clear hR5 hm15 hof
    clear hz5
    go_wp2
    go_roundw
    case rel =>
     refine ⟨l',D ++ [((c0,c1),(p0,p1))],t1 ++ t2,HR5.out,?_,(mid_perm D t1 t2 _).symm.trans Hp2.out,Hm15.out⟩
     rw [List.filter_append,show [((c0,c1),(p0,p1))].filter (fun b => !ofH (s,g) b) = [((c0,c1),(p0,p1))] by simp [Hof.out]]
     exact Hp1.out.trans (mid_perm _ t1 t2 _)
    case measure => rw [HR5.out.left_eq,Hmeas.out];simp
   | true =>
    obtain ⟨l1,l2,hl',hpp,hne⟩:=del_step (mh_apart bdPr_keys hR5.map) Hp1.out
    obtain ⟨kl,hk⟩:=hd_key Hc.out
    rw [hl',List.map_append,List.map_cons] at hR5
    obtain ⟨w6,hrun,hR6,hm6,hs6⟩:=hR5.del (ty:=0) hd_keyed Tryz.underlying115 (key:=hdV (c0,c1)) hk (fun e => by
     obtain ⟨y,hy,he⟩:=List.mem_map.1 e
     have h1 : hdV y.1 = hdV (c0,c1):=congrArg Prod.fst he
     exact hne y hy (hdV_inj h1))
    rw [← List.map_append] at hR6
    have hm16:=hm15.step (hm6.mono (by simp))
    simp only [hdV,handleC] at hrun
    obtain ⟨q0,q1,ql⟩:=cells2 hz5
    obtain ⟨HR6,Hm16,Hof,Hpp⟩:=hid4 hR6 hm16 hof hpp
    clear hR6 hm16 hof hpp
    clear hz5 hR5 hm15 hm6 hs6 hl' hne hk
    go_wp2
    go_roundw
    case rel =>
     refine ⟨l1 ++ l2,D ++ [((c0,c1),(p0,p1))],t1 ++ t2,HR6.out,?_,(mid_perm D t1 t2 _).symm.trans Hp2.out,Hm16.out⟩
     rw [List.filter_append,show [((c0,c1),(p0,p1))].filter (fun b => !ofH (s,g) b) = [] by simp [Hof.out],List.append_nil]
     exact Hpp.out
    case measure => rw [HR6.out.left_eq,Hmeas.out];simp
theorem goneB_eq (B : List Bd) (h : Hd) : goneB B h = B.filter (fun b => !ofH h b):=rfl
section
variable {w : World} {f : Nat} {B : List Bd} {F : List Nat}
set_option maxRecDepth 20000 in
set_option maxHeartbeats 2000000 in
theorem gone_any (h : RepF w f B F) (s g : Int) : Calls Tryz.prog 96 #[.pointer (some ⟨f,0,none⟩),.agg #[.int .i64 s,.int .i64 g]] w (FRet (goneB B (s,g)) (.tuple #[]) f F w):=by
 obtain ⟨w0,hw0,hb0,hz0,hs0⟩:=box1 w (.cells #[.int .i64 s,.int .i64 g] 41)
 have h0:=h.below hb0
 obtain ⟨ho,hr,m,l,h1,h2,h3,hF,h5⟩:=h0
 have e0:=blk_cell h1 0
 simp only [eA,eZ] at e0
 have hfl:=blk_lt h1
 have H1:=Lib.hid (delF_any m w.heap.size l s g w0 h2 (fun b hb => (hr b (h3.mem_iff.1 hb)).1) hz0)
 obtain ⟨Hb0,Hz0,Ho,Hr,HB1,H2,H3,HF,H5⟩:=hid9 hb0 hz0 ho hr h1 h2 h3 hF h5
 clear hb0 hz0 ho hr h1 h2 h3 hF h5
 clear h hs0
 go_enter Tryz.func96,Tryz.ntmps96
 go_wp2_with fail
 clear hw0
 refine H1.out.mono ?_
 rintro e w1 ⟨rfl,⟨l',hm',hp'⟩,hmod⟩
 have hfin : FRet (goneB B (s,g)) (.tuple #[]) f F w (.returned (.tuple #[])) w1:=by
  refine ⟨rfl,⟨Ho.out.sub List.filter_sublist,fun b hb => Hr.out b (List.mem_filter.1 hb).1,m,l',hmod.keep HB1.out (by simpa using H5.out),hm',?_,HF.out,H5.out⟩,?_⟩
  ·rw [goneB_eq];exact hp'.trans (H3.out.filter _)
  ·exact ((Mod.ofBelow Hb0.out).mono (by simp) : Mod F w w0).step (hmod.mono (by rw [HF.out];simp))
 have Hfin:=Lib.hid hfin
 clear hfin
 clear hmod hm' hp'
 go_wp2
 refine bodyPost_end (v:=.tuple #[]) ?_ rfl Hfin.out
 unfold results;try go_simp
theorem app_bond {w : World} {ops : Array Oper} {rest : List Oper} {o : Oper} {a : Act} {Q : Exit → Act → World → Prop} (hgd : o.guard = none) (s x : Operand)
  (ho : o.op = .call { callee:=.builtin .append,args:=#[s,x],argTypes:=#[24,24] }) (base : Nat) (v : Value) (l : List Bd) (y : Bd) (ad : Addr) (c : Nat)
  (hs : a.eval s = v) (hown : w.ownsRow base 84 4 v l.length (l.flatMap bdC)) (hx : a.eval x = .slice (some ad) 1 c) (hc : ∀ j u,(bdC y)[j]? = some u → w.cell? (ad.add j) = some u)
  (hlen : l.length < 4000000000000) (hbase : base ≤ w.heap.size)
  (h : ∀ v' w',w'.ownsRow base 84 4 v' (l ++ [y]).length ((l ++ [y]).flatMap bdC) → w.grownBy w' v.ownBlock → wpList Tryz.prog ops Q rest (a.put o.dst v') w') : wpList Tryz.prog ops Q (o :: rest) a w:=by
 refine app_rec (enc:=bdC) (n:=4) (bytes:=32) hgd s x 24 84 ho Tryz.underlying24 inf_Bond rfl (by omega) (by omega) bdC_one bdC_len base v l y ad c hs hown hx hc (by omega) hbase ?_
 intro v' w' h1 h2 _
 exact h v' w' h1 h2
theorem own_ne_range {P : Program} {kt : TypeId} {w : World} {B E k n b r : Nat} {v : Value} {xs : List Value} {l todo : List (Value × Value)} (h : w.ownsRow B E k v n xs) (hR : RangeAt P kt w b r l todo) : r ∉ v.ownBlock.toList ∧ b ∉ v.ownBlock.toList:=by
 obtain ⟨es,clock,since,seen,c0,h1,h2,h3,-⟩:=hR
 obtain ⟨-,⟨rfl,-⟩ | ⟨g,cap,cur,rfl,-,hb,-⟩⟩:=h
 ·simp [Value.ownBlock]
 ·simp only [Value.ownBlock,Option.toList_some,List.mem_singleton]
  constructor
  ·rintro rfl;rw [hb] at h3;cases h3
  ·rintro rfl;rw [hb] at h1;cases h1
set_option maxRecDepth 20000 in
set_option maxHeartbeats 4000000 in
theorem bonds_any (h : RepF w f B F) (hB : B.length ≤ 1200000000000) : Calls Tryz.prog 38 #[.pointer (some ⟨f,0,none⟩)] w (MadeRecs 84 4 bdC B w):=by
 obtain ⟨ho,hr,m,l,h1,h2,h3,hF,h5⟩:=h
 obtain ⟨o,hrun,hR⟩:=h2.range Tryz.underlying115
 obtain ⟨w1,hw1,hb1,-,hs1⟩:=box1 w o
 rw [hw1] at hR
 have e0:=blk_cell h1 0
 simp only [eA,eZ] at e0
 have hfl:=blk_lt h1
 have hll : l.length ≤ 1200000000000:=by rw [h3.length_eq];exact hB
 obtain ⟨HR,Hb1,Hs1,Ho,H3,Hll⟩:=hid6 hR hb1 hs1 ho h3 hll
 clear hR hb1 hs1 ho h3 hll
 clear h1 h2 hr hF h5 hB
 go_enter Tryz.func38,Tryz.ntmps38
 go_wp2_with fail
 clear hrun hw1 e0 hfl
 go_loopw [3,12] (fun v _ wr => ∃ (D ts : List Bd),RangeAt Tryz.prog 41 wr m w.heap.size (l.map bdPr) (ts.map bdPr) ∧ (D ++ ts).Perm l ∧ wr.ownsRow w.heap.size 84 4 v D.length (D.flatMap bdC) ∧ Below w.heap.size w wr) (fun _ _ wr => wr.rangeLeft m w.heap.size)
 case atStart => exact ⟨[],l,HR.out,.refl _,⟨rfl,.inl ⟨rfl,rfl⟩⟩,Hb1.out⟩
 case round =>
  obtain ⟨D,ts,hR,hp,hown,hB⟩:=hrel
  obtain ⟨A,cap,rfl,-,-⟩:=row_slice hown
  have hlen : D.length + ts.length = l.length:=by rw [← List.length_append];exact hp.length_eq
  by_cases hts : ts = []
  ·subst hts
   have hov:=fun ty => RangeAt.over (P:=Tryz.prog) (by simpa using hR) ty
   simp only [List.append_nil] at hp
   have H1:=Lib.hid (sortBonds_any hown (by have:=Hll.out;rw [hp.length_eq];exact this))
   obtain ⟨Hp,HB,Hown⟩:=hid3 hp hB hown
   clear hp hB hown
   clear hR hlen
   go_wp2_with fail
   refine H1.out.mono ?_
   rintro e w2 ⟨rfl,l',hp',hs',hown',hmod⟩
   have hl' : l' = B:=sortB_eq Ho.out.so ((hp'.trans Hp.out).trans H3.out) (hs'.imp fun {x y} h => by
    have h : ltOf cmpH y.1 x.1 = false:=h
    rw [ltHd_eq] at h;exact h)
   have hB2 : Below w.heap.size w w2:=HB.out.trans (hmod.toBelow (fun x hx => own_ge Hown.out x (by simpa using hx)) HB.out.size)
   rw [hl'] at hown'
   have hDl : D.length = B.length:=(Hp.out.trans H3.out).length_eq
   obtain ⟨HB2,HO2⟩:=hid2 hB2 hown'
   clear hB2 hown'
   clear hp' hs' hmod hl'
   go_wp2
   refine bodyPost_ret (v:=.slice A D.length cap) (by unfold results;try go_simp) rfl ?_
   exact ⟨_,rfl,HO2.out,HB2.out⟩
  ·obtain ⟨t1,x,t2,w2,rfl,hn,hen,hx,hR2,hm2,hs2⟩:=hR.nextE hts
   have hmeas:=hR.left_eq
   obtain ⟨⟨c0,c1⟩,p0,p1⟩:=x
   have hne:=own_ne_range hown hR
   have hrl:=hR.lt
   have hown2:=row_mod hown hm2 (fun k hk e => by
    have hk' : k = w.heap.size:=by simpa using e
    subst hk';exact hne.1 (by rw [hk];simp))
   have hB2 : Below w.heap.size w w2:=hB.trans (hm2.toBelow (by simp) hB.size)
   simp only [bdPr,hdV,handleC] at hn hen
   have hDl : D.length < 1200000000000:=by have:=Hll.out;simp at hlen;omega
   obtain ⟨HR,Hp,Hown,HB,HR2,Hm2,Hs2,Hmeas,HNe,Hown2,HB2,Hx,HDl⟩:=hid13 hR hp hown hB hR2 hm2 hs2 hmeas hne hown2 hB2 hx hDl
   clear hR hp hown hB hR2 hm2 hs2 hmeas hne hown2 hB2 hx hDl
   clear hlen
   go_wp2_with (at_builtin;refine app_bond rfl _ _ rfl w.heap.size (.slice A D.length cap) D ((c0,c1),(p0,p1)) ⟨w2.heap.size + 2,0,none⟩ 1 rfl (((Hown2.out.alloc _).alloc _).alloc _) rfl (new_rec (by simp) rfl) (by have:=HDl.out;omega) (by have:=HB2.out.size;simp;omega) ?_;intro v' w3 hown3 hg3)
   go_roundw
   case rel =>
    refine ⟨D ++ [((c0,c1),(p0,p1))],t1 ++ t2,?_,(mid_perm D t1 t2 _).symm.trans Hp.out,hown3,?_⟩
    ·refine (HR2.out.mod ((((Mod.refl [] w2).alloc _).alloc _).alloc _) (by simp) (by simp)).mod (grown_mod hg3) HNe.out.2 HNe.out.1
    ·exact (((HB2.out.alloc HB2.out.size _).alloc (by have:=HB2.out.size;simp;omega) _).alloc (by have:=HB2.out.size;simp;omega) _).trans ((Below.refl _ _).grown hg3 (by have:=HB2.out.size;simp;omega) (own_ge Hown.out))
   case measure =>
    have h3:=(HR2.out.mod ((((Mod.refl [] w2).alloc _).alloc _).alloc _) (by simp) (by simp)).mod (grown_mod hg3) HNe.out.2 HNe.out.1
    rw [h3.left_eq,Hmeas.out];simp
end
end Go.Proofs.YtehjfmjibiafdaaGreat
namespace Go.Proofs.YtehjfmjibiafdaaGreat
open Go Go.RowKit
theorem Mod.putObj {F : List Nat} {a w : World} (h : Mod F a w) {l : Nat} (hl : l ∈ F ∨ a.heap.size ≤ l) (o : Obj) : Mod F a (w.putObj l o) :=
 h.trans (G:=[l]) ⟨rfl,rfl,rfl,by simp,fun k _ hk => World.putObj_heap_other (by simpa using hk)⟩ (by simpa using hl)
theorem below_putObj {B : Nat} {W : World} {l : Nat} (o : Obj) (hl : B ≤ l) : Below B W (W.putObj l o) :=
 ⟨rfl,rfl,rfl,by simp,fun k hk => World.putObj_heap_other (by omega)⟩
def ClB {β : Type} (n : Nat) (J : β → World → Prop) : Prop:=∀ s A B,J s A → Below n A B → J s B
def YieldR {α : Type} (l : Nat) (J Jx : List α → World → Prop) (pre : List α) (x : α) (W : World) (e : Ending) (W' : World) : Prop :=
 (e = .returned (.bool true) ∧ J (pre ++ [x]) W' ∧ Mod [l] W W') ∨ (e = .returned (.bool false) ∧ Jx (pre ++ [x]) W')
def SeqR {α : Type} (F : Fence) (n : Nat) (P : Program) (g : Nat) (lb : Array Value) (encs : α → Array Value) (S Sp : List α → Prop) (N : Nat) (w : World) : Prop :=
 ∀ (l : Nat) (J Jx : List α → World → Prop) (W : World),Below w.heap.size w W → w.heap.size ≤ l → l < W.heap.size → ClB W.heap.size J →
  (∀ pre x W1,J pre W1 → pre.length < N → YieldAt F (n - 1) P l (encs x) W1 (YieldR l J Jx pre x W1)) → J [] W →
  CallsIn F n P g (#[.func (.yield l) #[] #[]] ++ lb) W fun e W' => (∃ v,e = .returned v) ∧ ((∃ xs,S xs ∧ J xs W') ∨ (∃ pre,Sp pre ∧ Jx pre W'))
def HighKept (B : Nat) (W W' : World) : Prop:=∀ k o,B ≤ k → W.heap[k]? = some o → W'.heap[k]? = some o
def postR {α : Type} (B : Nat) (I : List α → World → Prop) (Ix : Code → List α → World → Prop) (xs : List α) (W : World) : Exit → Act → World → Prop
 | .normal,_,W' => Mod [] W W' ∧ I xs W'
 | .ret,_,W' => HighKept B W W' ∧ Ix .ret xs W'
 | .exit id,_,W' => HighKept B W W' ∧ Ix (.exit id) xs W'
 | .goto t,_,W' => HighKept B W W' ∧ Ix (.goto t) xs W'
 | .panic _,_,_ => False
 | .outgrown,_,_ => False
def ClC {α : Type} (Ax : α → Act → World → Prop) : Prop:=∀ x a' (A B : World),Ax x a' A → A.heap.size ≤ B.heap.size → (∀ (k : Nat) (o : Obj),A.heap[k]? = some o → o.isCells = true → B.heap[k]? = some o) → Ax x a' B
variable {F : Fence} {n : Nat} {P : Program}
theorem wp_rangeR {α : Type} {g : Operand} {ps : Array Tmp} {assign body : Code} {Q : Exit → Act → World → Prop} {a : Act} {w : World}
  (hro : F.round = none) (h1 : 1 ≤ n) {gf : Nat} {lb : Array Value} (hg : a.eval g = .func (.func gf) #[] lb) (hFg : F.fn gf) (eg : ∀ args w,(callFunc gf args).run P w = .ok (.enter gf args) w)
  {encs : α → Array Value} {S Sp : List α → Prop} {N : Nat} {w0 : World} (hseq : SeqR F (n - 1) P gf lb encs S Sp N w0) (hb0 : Below w0.heap.size w0 w) (hps : ∀ x,(encs x).size = ps.size)
  (I : List α → World → Prop) (Ix : Code → List α → World → Prop) (hI : ClB w.heap.size I) (hIx : ∀ c,ClB w.heap.size (Ix c)) (h0 : I [] w) (Ax : α → Act → World → Prop) (hAx : ClC Ax)
  (hassign : ∀ (l : Nat) (pre : List α) (x : α) (W : World) (K : Act → World → Prop),w.heap.size ≤ l → I pre W → (∀ a' W',Mod [] W W' → Ax x a' W' → K a' W') →
   assign.wpIn (F.inRound l) (n - 1 - 1) P (Exit.then K (fun _ _ _ => False)) { tmps:=(ps.zip (encs x)).foldl (fun t (p,v) => t.setIfInBounds p v) a.tmps,defers:=[] } W)
  (hbody : ∀ (l : Nat) (pre : List α) (x : α) (a' : Act) (W : World),w.heap.size ≤ l → I pre W → Ax x a' W → pre.length < N → body.wpIn (F.inRound l) (n - 1 - 1) P (postR w.heap.size I Ix (pre ++ [x]) W) a' W)
  (hdone : ∀ (D : Nat) (xs : List α) (W : World),w.heap.size ≤ D → S xs → I xs W → W.heap[D]? = some (.deferred (some [])) → Q .normal { a with defers:={ target:=.collected D,args:=#[] } :: a.defers } W)
  (hstop : ∀ (D : Nat) (c : Code) (pre : List α) (W : World),w.heap.size ≤ D → Sp pre → Ix c pre W → W.heap[D]? = some (.deferred (some [])) → c.wpIn F n P Q { a with defers:={ target:=.collected D,args:=#[] } :: a.defers } W) :
  (Code.rangeFunc g ps assign body).wpIn F n P Q a w:=by
 refine wpIn_rangeFunc ?_
 intro fn hfn
 rw [hro]
 obtain ⟨rec,hrec⟩ : ∃ rec : LoopState → Option Code → Loop,rec = fun st pe => { state:=st,pending:=pe,fn,tmps:=a.tmps,params:=ps,assign,body,defers:=w.heap.size }:=⟨_,rfl⟩
 obtain ⟨W1,hW1⟩ : ∃ W1,(w.alloc (.deferred (some []))).alloc (.loop (rec .ready none)) = W1:=⟨_,rfl⟩
 have hL1 : W1.heap[w.heap.size + 1]? = some (.loop (rec .ready none)):=by
  rw [← hW1];have:=World.alloc_heap_new (w.alloc (.deferred (some []))) (.loop (rec .ready none));rwa [World.size_alloc] at this
 have hK1 : W1.heap[w.heap.size]? = some (.deferred (some [])):=by
  rw [← hW1];exact (Below.heap_alloc _ _ _ (by simp)).trans (World.alloc_heap_new w _)
 have hbw : Below w.heap.size w W1:=by
  rw [← hW1];exact ((Below.refl _ w).alloc (Nat.le_refl _) _).alloc (by simp) _
 have hI1 : I [] W1:=hI _ _ _ h0 hbw
 have hb1 : Below w0.heap.size w0 W1:=hb0.trans (hbw.mono hb0.size)
 have hs1 : W1.heap.size = w.heap.size + 2:=by rw [← hW1];simp
 have hs0:=hb0.size
 refine ⟨w.heap.size + 1,[{ target:=.collected w.heap.size,args:=#[] }],W1,{ target:=.fn (.func gf) lb,args:=#[.func (.yield (w.heap.size + 1)) #[] #[]] },W1,gf,
  #[.func (.yield (w.heap.size + 1)) #[] #[]] ++ lb,W1,?_,?_,?_,?_,fun _ => h1,?_⟩
 ·rw [← hW1,hrec];exact run_enterLoop_outer _ _ _ _ _
 ·simp only [resolve,hg]
  simp [go_sem]
 ·intro f' hf';simp [Target.leads] at hf';subst hf';exact hFg
 ·simp [invoke,go_sem,eg]
 ·refine (hseq (w.heap.size + 1)
   (fun pre W => I pre W ∧ W.heap[w.heap.size + 1]? = some (.loop (rec .ready none)) ∧ W.heap[w.heap.size]? = some (.deferred (some [])))
   (fun pre W => ∃ c,Ix c pre W ∧ W.heap[w.heap.size + 1]? = some (.loop (rec .done (some c))) ∧ W.heap[w.heap.size]? = some (.deferred (some [])))
   W1 hb1 (by omega) (by omega)
   (fun s A B hs hg' => ⟨hI s A B hs.1 (hg'.mono (by omega)),(hg'.block _ (by omega)).trans hs.2.1,(hg'.block _ (by omega)).trans hs.2.2⟩)
   ?_ ⟨hI1,hL1,hK1⟩).mono ?_
  ·-- one round
   rintro pre x W ⟨hi,hl,hk⟩ hlen
   have hy:=run_yield (P:=P) (args:=encs x) hl (by rw [hrec];exact hps x)
   rw [hrec] at hy
   refine ⟨fn,_,assign,body,hy,roundIn_of_wpIn hfn (hassign _ pre x W _ (by omega) hi ?_)⟩
   clear hy
   intro a' Wa hm hax
   have hla:=hm.keep hl (by simp)
   have hka:=hm.keep hk (by simp)
   have hlt : w.heap.size + 1 < Wa.heap.size:=(Array.getElem?_eq_some_iff.1 hla).1
   have hia : I pre Wa:=hI _ _ _ hi (hm.below.mono (by have:=(Array.getElem?_eq_some_iff.1 hk).1;omega))
   refine ⟨_,run_beginRound hla (by rw [hrec]),?_⟩
   have hl2 : (Wa.putObj (w.heap.size + 1) (.loop { rec .ready none with state:=.busy })).heap[w.heap.size + 1]? = some (.loop { rec .ready none with state:=.busy }):=World.putObj_heap_same hlt
   have hk2 : (Wa.putObj (w.heap.size + 1) (.loop { rec .ready none with state:=.busy })).heap[w.heap.size]? = some (.deferred (some [])):=(World.putObj_heap_other (by omega)).trans hka
   have hi2 : I pre (Wa.putObj (w.heap.size + 1) (.loop { rec .ready none with state:=.busy })):=hI _ _ _ hia (below_putObj _ (by omega))
   have hax2 : Ax x a' (Wa.putObj (w.heap.size + 1) (.loop { rec .ready none with state:=.busy })):=hAx _ _ _ _ hax (by simp) (fun k o ho hc => by
    by_cases e : k = w.heap.size + 1
    ·subst e;rw [hla] at ho;cases ho;cases hc
    ·exact (World.putObj_heap_other e).trans ho)
   refine wpIn_mono (hbody _ pre x a' _ (by omega) hi2 hax2 hlen) ?_
   have fin : ∀ (jump : Option Code) (W3 : World),HighKept w.heap.size (Wa.putObj (w.heap.size + 1) (.loop { rec .ready none with state:=.busy })) W3 →
     (Instr.endRound (w.heap.size + 1) jump).run P W3 = .ok (.bool jump.isNone) (W3.putObj (w.heap.size + 1) (.loop (rec (if jump.isNone then .ready else .done) jump))) ∧
     w.heap.size + 1 < W3.heap.size ∧
     (W3.putObj (w.heap.size + 1) (.loop (rec (if jump.isNone then .ready else .done) jump))).heap[w.heap.size + 1]? = some (.loop (rec (if jump.isNone then .ready else .done) jump)) ∧
     (W3.putObj (w.heap.size + 1) (.loop (rec (if jump.isNone then .ready else .done) jump))).heap[w.heap.size]? = some (.deferred (some [])):=fun jump W3 hk3 => by
    have hl3:=hk3 _ _ (by omega) hl2
    have:=run_endRound (P:=P) jump hl3
    rw [hrec] at this ⊢
    exact ⟨this,(Array.getElem?_eq_some_iff.1 hl3).1,World.putObj_heap_same (Array.getElem?_eq_some_iff.1 hl3).1,(World.putObj_heap_other (by omega)).trans (hk3 _ _ (Nat.le_refl _) hk2)⟩
   rintro e a3 W3 hp
   cases e with
   | normal =>
    obtain ⟨hm3,hi3⟩:=hp
    obtain ⟨hr,hl3,hl4,hk4⟩:=fin none W3 (fun k o _ ho => hm3.keep ho (by simp))
    refine ⟨_,_,hr,.inl ⟨rfl,⟨hI _ _ _ hi3 (below_putObj _ (by omega)),hl4,hk4⟩,?_⟩⟩
    refine Mod.putObj ?_ (by simp) _
    exact ((hm.mono (by simp)).putObj (by simp) _).trans hm3 (by simp)
   | ret =>
    obtain ⟨hk3,hi3⟩:=hp
    obtain ⟨hr,hl3,hl4,hk4⟩:=fin (some .ret) W3 hk3
    exact ⟨_,_,hr,.inr ⟨rfl,.ret,hIx _ _ _ _ hi3 (below_putObj _ (by omega)),hl4,hk4⟩⟩
   | exit id =>
    obtain ⟨hk3,hi3⟩:=hp
    obtain ⟨hr,hl3,hl4,hk4⟩:=fin (some (.exit id)) W3 hk3
    exact ⟨_,_,hr,.inr ⟨rfl,.exit id,hIx _ _ _ _ hi3 (below_putObj _ (by omega)),hl4,hk4⟩⟩
   | goto t =>
    obtain ⟨hk3,hi3⟩:=hp
    obtain ⟨hr,hl3,hl4,hk4⟩:=fin (some (.goto t)) W3 hk3
    exact ⟨_,_,hr,.inr ⟨rfl,.goto t,hIx _ _ _ _ hi3 (below_putObj _ (by omega)),hl4,hk4⟩⟩
   | panic ch => exact hp.elim
   | outgrown => exact hp.elim
  ·rintro e W2 ⟨⟨v,rfl⟩,(⟨xs,hS,hi,hl,hk⟩ | ⟨pre,hSp,c,hi,hl,hk⟩)⟩
   ·exact ⟨none,_,by have:=run_endLoop (P:=P) hl (by rw [hrec];simp);rw [hrec] at this;exact this,hdone _ xs _ (Nat.le_refl _) hS (hI _ _ _ hi (below_putObj _ (by omega))) ((World.putObj_heap_other (by omega)).trans hk)⟩
   ·exact ⟨some c,_,by have:=run_endLoop (P:=P) hl (by rw [hrec];simp);rw [hrec] at this;exact this,hstop _ c pre _ (Nat.le_refl _) hSp (hIx _ _ _ _ hi (below_putObj _ (by omega))) ((World.putObj_heap_other (by omega)).trans hk)⟩
theorem wp_rangeW {α : Type} {g : Operand} {ps : Array Tmp} {assign body : Code} {Q : Exit → Act → World → Prop} {a : Act} {w : World} (n : Nat) (h1 : 1 ≤ n)
  {gf : Nat} {lb : Array Value} (hg : a.eval g = .func (.func gf) #[] lb) (eg : ∀ args w,(callFunc gf args).run P w = .ok (.enter gf args) w)
  {encs : α → Array Value} {S Sp : List α → Prop} {N : Nat} {w0 : World} (hseq : SeqR Fence.wide (n - 1) P gf lb encs S Sp N w0) (hb0 : Below w0.heap.size w0 w) (hps : ∀ x,(encs x).size = ps.size)
  (I : List α → World → Prop) (Ix : Code → List α → World → Prop) (hI : ClB w.heap.size I) (hIx : ∀ c,ClB w.heap.size (Ix c)) (h0 : I [] w) (Ax : α → Act → World → Prop) (hAx : ClC Ax)
  (hassign : ∀ (l : Nat) (pre : List α) (x : α) (W : World) (K : Act → World → Prop),w.heap.size ≤ l → I pre W → (∀ a' W',Mod [] W W' → Ax x a' W' → K a' W') →
   assign.wpIn (Fence.wide.inRound l) (n - 1 - 1) P (Exit.then K (fun _ _ _ => False)) { tmps:=(ps.zip (encs x)).foldl (fun t (p,v) => t.setIfInBounds p v) a.tmps,defers:=[] } W)
  (hbody : ∀ (l : Nat) (pre : List α) (x : α) (a' : Act) (W : World),w.heap.size ≤ l → I pre W → Ax x a' W → pre.length < N → body.wpIn (Fence.wide.inRound l) (n - 1 - 1) P (postR w.heap.size I Ix (pre ++ [x]) W) a' W)
  (hdone : ∀ (D : Nat) (xs : List α) (W : World),w.heap.size ≤ D → S xs → I xs W → W.heap[D]? = some (.deferred (some [])) → Q .normal { a with defers:={ target:=.collected D,args:=#[] } :: a.defers } W)
  (hstop : ∀ (D : Nat) (c : Code) (pre : List α) (W : World),w.heap.size ≤ D → Sp pre → Ix c pre W → W.heap[D]? = some (.deferred (some [])) → c.wp P Q { a with defers:={ target:=.collected D,args:=#[] } :: a.defers } W) :
  (Code.rangeFunc g ps assign body).wp P Q a w :=
 (wpIn_wide (n:=n)).1 (wp_rangeR rfl h1 hg trivial eg hseq hb0 hps I Ix hI hIx h0 Ax hAx hassign hbody hdone (fun D c pre W h2 h3 h4 h5 => wpIn_wide.2 (hstop D c pre W h2 h3 h4 h5)))
end Go.Proofs.YtehjfmjibiafdaaGreat
