import Derived.Test.YtfdillpofciicaaGreatDoorTextPrintsJ16
/- A part of the proof that TextPrints returns true. -/
namespace Go.Proofs.YtfdillpofciicaaGreatDoor
open Go Go.RowKit Go.Maps
attribute [local go_sem] AllFrom.cons_eq AllFrom.nil_eq putF_nil putF_cons wantedL_none wantedL_some OpGoalT OpGoalV OpGoalQ OpGoalA OpGoalK YieldsR preF_nil preF_cons
def ofH (h : Hd) (b : Bd) : Bool:=eqB b.1 h || eqB b.2 h
def BoolPost (r : Bool) (w : World) (e : Ending) (w' : World) : Prop:=e = .returned (.bool r) ∧ Below w.heap.size w w'
set_option maxRecDepth 20000 in
set_option maxHeartbeats 2000000 in
theorem goneF_any (c0 c1 p0 p1 s g : Int) (hb : Nat) (w : World) (hh : w.heap[hb]? = some (.cells #[.int .i64 s,.int .i64 g] 47 (0,0))) :
  Calls Tryz.prog 152 #[.agg #[.int .i64 c0,.int .i64 c1],.agg #[.int .i64 p0,.int .i64 p1],.pointer (some ⟨hb,0,none⟩)] w (BoolPost (ofH (s,g) ((c0,c1),(p0,p1))) w):=by
 obtain ⟨w0,hw0,hb0,hz0,hs0⟩:=box1 w (.cells #[.int .i64 c0,.int .i64 c1] 47)
 obtain ⟨w1,hw1,hb1,hz1,hs1⟩:=box1 w0 (.cells #[.int .i64 p0,.int .i64 p1] 47)
 have hz01:=(Mod.ofBelow hb1).keep hz0 (by simp)
 have hB:=hb0.trans (hb1.mono hb0.size)
 have hh1:=(Mod.ofBelow hB).keep hh (by simp)
 unfold ofH
 have hq1:=fun w => eqlHandle w c0 c1 s g
 have hq2:=fun w => eqlHandle w p0 p1 s g
 generalize eqB (c0,c1) (s,g) = r1 at *
 generalize eqB (p0,p1) (s,g) = r2 at *
 obtain ⟨q0,q1,ql⟩:=cells2 hz01
 obtain ⟨u0,u1,ul⟩:=cells2 hz1
 obtain ⟨v0,v1,vl⟩:=cells2 hh1
 have HB:=Lib.hid hB
 clear hB
 clear hz0 hz01 hz1 hb0 hb1 hs0 hs1 hh hh1
 cases r1 with
 | true =>
  go_enter Tryz.func152,Tryz.ntmps152
  go_wp2
  go_ret
  exact ⟨rfl,HB.out⟩
 | false =>
  go_enter Tryz.func152,Tryz.ntmps152
  go_wp2
  go_ret
  exact ⟨rfl,HB.out⟩
theorem mid_perm {α : Type} (D t1 t2 : List α) (x : α) : (D ++ (t1 ++ x :: t2)).Perm (D ++ [x] ++ (t1 ++ t2)):=by
 rw [List.append_assoc]
 exact List.Perm.append_left D List.perm_middle
theorem del_step {l' Dk t1 t2 : List Bd} {x : Bd} (ha : l'.Pairwise (fun a b => a.1 ≠ b.1)) (hp : l'.Perm (Dk ++ (t1 ++ x :: t2))) :
  ∃ l1 l2,l' = l1 ++ x :: l2 ∧ (l1 ++ l2).Perm (Dk ++ (t1 ++ t2)) ∧ ∀ y ∈ t1 ++ t2,y.1 ≠ x.1:=by
 have hx : x ∈ l':=hp.mem_iff.2 (by simp)
 obtain ⟨l1,l2,rfl⟩:=List.append_of_mem hx
 have h1 : (x :: (l1 ++ l2)).Perm (x :: (Dk ++ (t1 ++ t2))):=(List.perm_middle.symm.trans hp).trans ((mid_perm Dk t1 t2 x).trans (by rw [List.append_assoc];exact List.perm_middle))
 refine ⟨l1,l2,rfl,h1.cons_inv,fun y hy => ?_⟩
 have h2:=((List.Perm.pairwise_iff (fun h => Ne.symm h) (List.perm_middle.trans h1)).1 ha)
 exact (List.pairwise_cons.1 h2).1 y (List.mem_append_right _ hy) |>.symm
def DelPost (m : Nat) (l : List Bd) (h : Hd) (w : World) (e : Ending) (w' : World) : Prop :=
 e = .returned (.tuple #[]) ∧ (∃ l' : List Bd,MapAt Tryz.prog 47 w' m (l'.map bdPr) ∧ l'.Perm (l.filter (fun b => !ofH h b))) ∧ Mod [m] w w'
set_option maxRecDepth 20000 in
set_option maxHeartbeats 4000000 in
theorem delF_any (m hb : Nat) (l : List Bd) (s g : Int) (w : World) (hm : MapAt Tryz.prog 47 w m (l.map bdPr)) (hr : ∀ b ∈ l,HdR b.1) (hh : w.heap[hb]? = some (.cells #[.int .i64 s,.int .i64 g] 47 (0,0))) :
  Calls Tryz.prog 151 #[.map (some m),.func (.func 152) #[] #[.pointer (some ⟨hb,0,none⟩)]] w (DelPost m l (s,g) w):=by
 obtain ⟨o,hrun,hR⟩:=hm.range Tryz.underlying167
 obtain ⟨w1,hw1,hb1,-,hs1⟩:=box1 w o
 rw [hw1] at hR
 have hh1:=(Mod.ofBelow hb1).keep hh (by simp)
 have hlt:=hm.lt
 have hbm : hb ≠ m:=by
  rintro rfl
  obtain ⟨es,c,h1,-⟩:=hm
  rw [h1] at hh;cases hh
 have hbl:=blk_lt hh
 have hm01 : Mod [m] w w1:=(Mod.ofBelow hb1).mono (by simp)
 go_enter Tryz.func151,Tryz.ntmps151
 obtain ⟨HR,Hb1,Hs1,Hh1,HR1,Hbm,Hbl,Hlt,Hm01⟩:=hid9 hR hb1 hs1 hh1 hr hbm hbl hlt hm01
 clear hR hb1 hs1 hh1 hr hbm hbl hlt hm01
 clear hm hh
 go_wp2_with fail
 clear hrun hw1
 generalize hrr : w.heap.size = r at *
 go_loopw [9] (fun _ wr => ∃ (l' D ts : List Bd),RangeAt Tryz.prog 47 wr m r (l'.map bdPr) (ts.map bdPr) ∧ l'.Perm (D.filter (fun b => !ofH (s,g) b) ++ ts) ∧ (D ++ ts).Perm l ∧ Mod [m,r] w1 wr) (fun _ wr => wr.rangeLeft m r)
 case atStart => exact ⟨l,[],l,HR.out,.refl _,.refl _,Mod.refl _ _⟩
 case round =>
  obtain ⟨l',D,ts,hR,hp1,hp2,hmod⟩:=hrel
  by_cases hts : ts = []
  ·subst hts
   have hov:=fun ty => RangeAt.over (P:=Tryz.prog) (by simpa using hR) ty
   simp only [List.append_nil] at hp1 hp2
   have hfin : DelPost m l (s,g) w (.returned (.tuple #[])) wr:=by
    refine ⟨rfl,⟨l',hR.map,hp1.trans (hp2.filter _)⟩,?_⟩
    exact Hm01.out.trans hmod (fun x hx => by
     simp at hx
     rcases hx with rfl | rfl
     ·simp
     ·exact .inr (by omega))
   have Hfin:=Lib.hid hfin
   clear hfin
   clear hR hp1 hp2 hmod
   go_wp2
   refine bodyPost_end (v:=.tuple #[]) ?_ rfl Hfin.out
   unfold results;try go_simp
  ·obtain ⟨t1,x,t2,w2,rfl,hn,hen,hx,hR2,hm2,hs2⟩:=hR.nextE hts
   have hmeas:=hR.left_eq
   obtain ⟨⟨c0,c1⟩,p0,p1⟩:=x
   have hm12 : Mod [m,r] w1 w2:=hmod.step (hm2.mono (by simp))
   have hsz2:=hm12.size
   have hh2:=hm12.keep Hh1.out (by have:=Hbm.out;have:=Hbl.out;simp;omega)
   have hmm : ((c0,c1),(p0,p1)) ∈ l:=hp2.mem_iff.1 (by simp)
   have hc:=HR1.out _ hmm
   simp only [bdPr,hdV,handleC] at hn hen
   obtain ⟨HR,Hp1,Hp2,Hmod,Hx,HR2,Hm2,Hs2,Hmeas,Hm12,Hsz2,Hh2,Hmm,Hc⟩:=hid14 hR hp1 hp2 hmod hx hR2 hm2 hs2 hmeas hm12 hsz2 hh2 hmm hc
   clear hR hp1 hp2 hmod hx hR2 hm2 hs2 hmeas hm12 hsz2 hh2 hmm hc
   go_wp2_with fail
   have H2:=Lib.hid (goneF_any c0 c1 p0 p1 s g hb)
   obtain ⟨w3,hw3,hb3,hz3,hs3⟩:=box1 w2 (.cells #[.int .i64 c0,.int .i64 c1] 47)
   obtain ⟨w4,hw4,hb4,-,-⟩:=box1 w3 (.cells #[.int .i64 p0,.int .i64 p1] 47)
   rw [hw3,hw4]
   have hb24 : Below w2.heap.size w2 w4:=hb3.trans (hb4.mono hb3.size)
   have hz4:=(Mod.ofBelow hb4).keep hz3 (by simp)
   have hh4:=(Mod.ofBelow hb24).keep Hh2.out (by simp)
   refine (H2.out w4 hh4).mono ?_
   rintro e w5 ⟨rfl,hb5⟩
   have hb25 : Below w2.heap.size w2 w5:=hb24.trans (hb5.mono hb24.size)
   have hz5:=(Mod.ofBelow hb5).keep hz4 (by simp)
   have hR5:=HR2.out.mod (Mod.ofBelow hb25) (by simp) (by simp)
   have hm15:=Hm12.out.andBelow hb25
   clear hn hen hw3 hw4 hb3 hb4 hb24 hz3 hz4 hh4 hs3 hb5
   cases hof : ofH (s,g) ((c0,c1),(p0,p1)) with
   | false =>
    obtain ⟨HR5,Hm15,Hof⟩:=hid3 hR5 hm15 hof
    clear hR5 hm15 hof
    clear hz5
    go_wp2
    go_roundw
    case rel =>
     refine ⟨l',D ++ [((c0,c1),(p0,p1))],t1 ++ t2,HR5.out,?_,(mid_perm D t1 t2 _).symm.trans Hp2.out,Hm15.out⟩
     rw [List.filter_append,show [((c0,c1),(p0,p1))].filter (fun b => !ofH (s,g) b) = [((c0,c1),(p0,p1))] by simp [Hof.out]]
     exact Hp1.out.trans (mid_perm _ t1 t2 _)
    case measure => rw [HR5.out.left_eq,Hmeas.out];simp
   | true =>
    obtain ⟨l1,l2,hl',hpp,hne⟩:=del_step (mh_apart bdPr_keys hR5.map) Hp1.out
    obtain ⟨kl,hk⟩:=hd_key Hc.out
    rw [hl',List.map_append,List.map_cons] at hR5
    obtain ⟨w6,hrun,hR6,hm6,hs6⟩:=hR5.del (ty:=0) hd_keyed Tryz.underlying167 (key:=hdV (c0,c1)) hk (fun e => by
     obtain ⟨y,hy,he⟩:=List.mem_map.1 e
     have h1 : hdV y.1 = hdV (c0,c1):=congrArg Prod.fst he
     exact hne y hy (hdV_inj h1))
    rw [← List.map_append] at hR6
    have hm16:=hm15.step (hm6.mono (by simp))
    simp only [hdV,handleC] at hrun
    obtain ⟨q0,q1,ql⟩:=cells2 hz5
    obtain ⟨HR6,Hm16,Hof,Hpp⟩:=hid4 hR6 hm16 hof hpp
    clear hR6 hm16 hof hpp
    clear hz5 hR5 hm15 hm6 hs6 hl' hne hk
    go_wp2
    go_roundw
    case rel =>
     refine ⟨l1 ++ l2,D ++ [((c0,c1),(p0,p1))],t1 ++ t2,HR6.out,?_,(mid_perm D t1 t2 _).symm.trans Hp2.out,Hm16.out⟩
     rw [List.filter_append,show [((c0,c1),(p0,p1))].filter (fun b => !ofH (s,g) b) = [] by simp [Hof.out],List.append_nil]
     exact Hpp.out
    case measure => rw [HR6.out.left_eq,Hmeas.out];simp
theorem goneB_eq (B : List Bd) (h : Hd) : goneB B h = B.filter (fun b => !ofH h b):=rfl
section
variable {w : World} {f : Nat} {B : List Bd} {F : List Nat}
set_option maxRecDepth 20000 in
set_option maxHeartbeats 2000000 in
theorem gone_any (h : RepF w f B F) (s g : Int) : Calls Tryz.prog 100 #[.pointer (some ⟨f,0,none⟩),.agg #[.int .i64 s,.int .i64 g]] w (FRet (goneB B (s,g)) (.tuple #[]) f F w):=by
 obtain ⟨w0,hw0,hb0,hz0,hs0⟩:=box1 w (.cells #[.int .i64 s,.int .i64 g] 47)
 have h0:=h.below hb0
 obtain ⟨ho,hr,m,l,h1,h2,h3,hF,h5⟩:=h0
 have e0:=blk_cell h1 0
 simp only [eA,eZ] at e0
 have hfl:=blk_lt h1
 have H1:=Lib.hid (delF_any m w.heap.size l s g w0 h2 (fun b hb => (hr b (h3.mem_iff.1 hb)).1) hz0)
 obtain ⟨Hb0,Hz0,Ho,Hr,HB1,H2,H3,HF,H5⟩:=hid9 hb0 hz0 ho hr h1 h2 h3 hF h5
 clear hb0 hz0 ho hr h1 h2 h3 hF h5
 clear h hs0
 go_enter Tryz.func100,Tryz.ntmps100
 go_wp2_with fail
 clear hw0
 refine H1.out.mono ?_
 rintro e w1 ⟨rfl,⟨l',hm',hp'⟩,hmod⟩
 have hfin : FRet (goneB B (s,g)) (.tuple #[]) f F w (.returned (.tuple #[])) w1:=by
  refine ⟨rfl,⟨Ho.out.sub List.filter_sublist,fun b hb => Hr.out b (List.mem_filter.1 hb).1,m,l',hmod.keep HB1.out (by simpa using H5.out),hm',?_,HF.out,H5.out⟩,?_⟩
  ·rw [goneB_eq];exact hp'.trans (H3.out.filter _)
  ·exact ((Mod.ofBelow Hb0.out).mono (by simp) : Mod F w w0).step (hmod.mono (by rw [HF.out];simp))
 have Hfin:=Lib.hid hfin
 clear hfin
 clear hmod hm' hp'
 go_wp2
 refine bodyPost_end (v:=.tuple #[]) ?_ rfl Hfin.out
 unfold results;try go_simp
theorem app_bond {w : World} {ops : Array Oper} {rest : List Oper} {o : Oper} {a : Act} {Q : Exit → Act → World → Prop} (hgd : o.guard = none) (s x : Operand)
  (ho : o.op = .call { callee:=.builtin .append,args:=#[s,x],argTypes:=#[24,24] }) (base : Nat) (v : Value) (l : List Bd) (y : Bd) (ad : Addr) (c : Nat)
  (hs : a.eval s = v) (hown : w.ownsRow base 60 4 v l.length (l.flatMap bdC)) (hx : a.eval x = .slice (some ad) 1 c) (hc : ∀ j u,(bdC y)[j]? = some u → w.cell? (ad.add j) = some u)
  (hlen : l.length < 4000000000000) (hbase : base ≤ w.heap.size)
  (h : ∀ v' w',w'.ownsRow base 60 4 v' (l ++ [y]).length ((l ++ [y]).flatMap bdC) → w.grownBy w' v.ownBlock → wpList Tryz.prog ops Q rest (a.put o.dst v') w') : wpList Tryz.prog ops Q (o :: rest) a w:=by
 refine app_rec (enc:=bdC) (n:=4) (bytes:=32) hgd s x 24 60 ho Tryz.underlying24 inf_Bond rfl (by omega) (by omega) bdC_one bdC_len base v l y ad c hs hown hx hc (by omega) hbase ?_
 intro v' w' h1 h2 _
 exact h v' w' h1 h2
theorem own_ne_range {P : Program} {kt : TypeId} {w : World} {B E k n b r : Nat} {v : Value} {xs : List Value} {l todo : List (Value × Value)} (h : w.ownsRow B E k v n xs) (hR : RangeAt P kt w b r l todo) : r ∉ v.ownBlock.toList ∧ b ∉ v.ownBlock.toList:=by
 obtain ⟨es,clock,since,seen,c0,h1,h2,h3,-⟩:=hR
 obtain ⟨-,⟨rfl,-⟩ | ⟨g,cap,cur,rfl,-,hb,-⟩⟩:=h
 ·simp [Value.ownBlock]
 ·simp only [Value.ownBlock,Option.toList_some,List.mem_singleton]
  constructor
  ·rintro rfl;rw [hb] at h3;cases h3
  ·rintro rfl;rw [hb] at h1;cases h1
end
end Go.Proofs.YtfdillpofciicaaGreatDoor
namespace Go.Proofs.YtfdillpofciicaaGreatDoor
open Go Go.RowKit Go.Maps Go.Shelf
attribute [local go_sem] AllFrom.cons_eq AllFrom.nil_eq putF_nil putF_cons wantedL_none wantedL_some OpGoalT OpGoalV OpGoalQ OpGoalA OpGoalK YieldsR preF_nil preF_cons
attribute [local go_sem] Oper.semAt_some
inductive Chain (B : List Bd) : Hd → List Hd → Prop
 | nil {h : Hd} : parB B h = none → Chain B h []
 | cons {h p : Hd} {xs : List Hd} : parB B h = some p → Chain B p xs → Chain B h (p :: xs)
theorem Acy.chain {B : List Bd} (h : Acy B) (x : Hd) : ∃ xs,Chain B x xs:=by
 obtain ⟨rk,hr⟩:=h
 have key : ∀ n x,rk x ≤ n → ∃ xs,Chain B x xs:=by
  intro n
  induction n with
  | zero =>
   intro x hx
   cases hp : parB B x with
   | none => exact ⟨[],.nil hp⟩
   | some p =>
    have h1:=hr _ (parB_some hp)
    simp only at h1
    omega
  | succ n ih =>
   intro x hx
   cases hp : parB B x with
   | none => exact ⟨[],.nil hp⟩
   | some p =>
    have h1:=hr _ (parB_some hp)
    simp only at h1
    obtain ⟨xs,hx⟩:=ih p (by omega)
    exact ⟨p :: xs,.cons hp hx⟩
 exact key _ x (Nat.le_refl _)
theorem Chain.mem {B : List Bd} (hs : SortB B) {x : Hd} {xs : List Hd} (h : Chain B x xs) (a : Hd) : (x = a ∨ a ∈ xs) ↔ Up B x a:=by
 induction h with
 | nil hp => rw [up_none hp];simp
 | cons hp _ ih => rw [up_some hs hp,← ih,List.mem_cons];constructor <;> (rintro (h | h) <;> simp_all) <;> (rcases h with h | h <;> simp_all)
theorem Chain.fn {B : List Bd} {x : Hd} {xs ys : List Hd} (h : Chain B x xs) (k : Chain B x ys) : xs = ys:=by
 induction h generalizing ys with
 | nil hp => cases k with
  | nil => rfl
  | cons hq _ => rw [hp] at hq;cases hq
 | cons hp _ ih => cases k with
  | nil hq => rw [hp] at hq;cases hq
  | cons hq k => rw [hp] at hq;cases hq;rw [ih k]
open Classical in
noncomputable def chLen (B : List Bd) (x : Hd) : Nat:=if h : ∃ xs,Chain B x xs then h.choose.length else 0
theorem chLen_eq {B : List Bd} {x : Hd} {xs : List Hd} (h : Chain B x xs) : chLen B x = xs.length:=by
 unfold chLen
 rw [dif_pos ⟨xs,h⟩]
 rw [Chain.fn (Exists.choose_spec (⟨xs,h⟩ : ∃ xs,Chain B x xs)) h]
def boxH (wr : World) (p : Value) : Hd:=match p with
 | .pointer (some a) => (match wr.cell? a,wr.cell? (a.add 1) with | some (.int _ s),some (.int _ g) => (s,g) | _,_ => (0,0))
 | _ => (0,0)
theorem boxH_eq {wr : World} {b : Nat} {y : Hd} (h : wr.heap[b]? = some (.cells (handleC y).toArray 47 (0,0))) : boxH wr (.pointer (some ⟨b,0,none⟩)) = y:=by
 have e0:=blk_cell h 0
 have e1:=blk_cell h 1
 simp only [handleC,eA,eZ,eS] at e0 e1
 have ha : (⟨b,0,none⟩ : Addr).add 1 = ⟨b,1,none⟩:=rfl
 simp only [boxH,ha,e0,e1]
def Nxt (B : List Bd) (v : Bool) (y : Hd) (rest : List Hd) : Prop:=(v = false ∧ rest = []) ∨ (v = true ∧ ∃ r,rest = y :: r ∧ Chain B y r ∧ HdR y)
theorem nxt_of {B : List Bd} {x : Hd} {rest : List Hd} (hr : ∀ b ∈ B,HdR b.1 ∧ HdR b.2) (h : Chain B x rest) : Nxt B (parB B x).isSome (parV (parB B x)) rest:=by
 cases h with
 | nil hp => exact .inl ⟨by rw [hp];rfl,rfl⟩
 | cons hp k => exact .inr ⟨by rw [hp];rfl,_,by rw [hp];rfl,by rw [hp];exact k,by rw [hp];exact (hr _ (parB_some hp)).2⟩
noncomputable def nxtM (B : List Bd) (v4 v5 : Value) (wr : World) : Nat:=match v5 with
 | .bool true => 1 + chLen B (boxH wr v4)
 | _ => 0
theorem nxtM_eq {B : List Bd} {v : Bool} {y : Hd} {rest : List Hd} {b : Nat} {wr : World} (h : Nxt B v y rest) (hb : wr.heap[b]? = some (.cells (handleC y).toArray 47 (0,0))) : nxtM B (.pointer (some ⟨b,0,none⟩)) (.bool v) wr = rest.length:=by
 rcases h with ⟨rfl,rfl⟩ | ⟨rfl,r,rfl,hc,-⟩
 ·rfl
 ·unfold nxtM
  simp only
  rw [boxH_eq hb,chLen_eq hc,List.length_cons]
  omega
structure IOne (m g : Nat) (w2 : World) (zs row : Array Value) (T : TypeId) (L : Nat → Bool) (V : World) : Prop where
 b : Below w2.heap.size w2 V
 ge : w2.heap.size ≤ g
 blk : V.heap[g]? = some (.cells (if L m = true then row else zs) T (0,0))
theorem IOne.read {m g : Nat} {w2 : World} {zs row : Array Value} {T : TypeId} {L : Nat → Bool} {V : World} (h : IOne m g w2 zs row T L V) {i : Nat} (h1 : m ≠ i) : IOne m g w2 zs row T (upd L i) V:=by
 have e : upd L i m = L m:=by unfold upd;simp [h1]
 exact ⟨h.b,h.ge,by rw [e];exact h.blk⟩
theorem IOne.yr_stored {P : Program} {o : Oper} {ρ : Operand → Value} {J : Value → World → Prop} {m g : Nat} {w2 V : World} {zl rl : List Value} {T : TypeId} {L : Nat → Bool}
  (h : IOne m g w2 zl.toArray rl.toArray T L V) (hm : L m = false) (hl : rl.length = zl.length) (ty : TypeId) (x y : Operand) (ho : o.op = .store ty x y) (hx : ρ x = .pointer (some ⟨g,0,none⟩)) (hy : ρ y = .agg rl.toArray)
  (hi : (P.info? ty).map (·.size) = some rl.length) (h1 : ∀ u ∈ rl,u.oneCell' = true) (hJ : ∀ V',IOne m g w2 zl.toArray rl.toArray T (upd L m) V' → J undef V') : YieldsR P o ρ V J:=by
 have q3:=h.blk
 rw [hm] at q3
 simp only [Bool.false_eq_true,if_false] at q3
 have hst:=setCells_block (w:=V) rl 0 V zl q3
 rw [setL_all rl zl hl] at hst
 have hmod:=mod_setCells (F:=[g]) (g:=g) (.inl (by simp)) rl 0 V (Mod.refl _ V)
 refine yr_store ty x y ho g 0 rl hx hy (hl ▸ blk_there q3 (Nat.le_refl _)) hi h1 (hJ _ ⟨h.b.trans (hmod.toBelow (by simpa using h.ge) h.b.size),h.ge,?_⟩)
 have e2 : upd L m m = true:=by simp [upd]
 rw [e2];exact hst
section
variable {w : World} {f : Nat} {B : List Bd} {F : List Nat}
set_option maxRecDepth 20000 in
theorem above_any (f : Nat) (s g : Int) (w : World) : Calls Tryz.prog 95 #[.pointer (some ⟨f,0,none⟩),.agg #[.int .i64 s,.int .i64 g]] w fun e w' => e = .returned (.func (.func 146) #[] #[.pointer (some ⟨w.heap.size,0,none⟩),.pointer (some ⟨w.heap.size + 1,0,none⟩)]) ∧ w' = (w.alloc (.cells #[.pointer (some ⟨f,0,none⟩)] 107)).alloc (.cells #[.int .i64 s,.int .i64 g] 47):=by
 go_enter Tryz.func95,Tryz.ntmps95
 go_wp2
 go_ret
 exact ⟨rfl,rfl⟩
set_option maxRecDepth 20000 in
set_option maxHeartbeats 4000000 in
theorem above_seq (n : Nat) (h : RepF w f B F) (s g : Int) (hr : HdR (s,g)) {ch : List Hd} (hc : Chain B (s,g) ch) (bf bh : Nat) (hf : w.heap[bf]? = some (.cells #[.pointer (some ⟨f,0,none⟩)] 107 (0,0))) (hh : w.heap[bh]? = some (.cells #[.int .i64 s,.int .i64 g] 47 (0,0))) :
  SeqR Fence.wide n Tryz.prog 146 #[.pointer (some ⟨bf,0,none⟩),.pointer (some ⟨bh,0,none⟩)] (fun x : Hd => #[hdV x]) (fun xs => xs = ch) (fun pre => pre <+: ch) ch.length w:=by
 intro l J Jx W hW hlw hlt hJ hY h0
 have hFlt:=h.lt
 refine callsIn_of_wp Tryz.func146 rfl trivial (wpIn_wide.2 ?_) rfl
 simp only [Tryz.ntmps146,List.size_toArray,List.length_cons,List.length_nil,Nat.reduceAdd,Nat.reduceSub,Array.replicate_succ,Array.replicate_zero,List.push_toArray,List.append_toArray,List.nil_append,List.cons_append]
 have hRW:=h.below hW
 obtain ⟨m,hF,hL⟩:=hRW.look
 have hfW:=(Mod.ofBelow hW).keep hf (by simp)
 have hhW:=(Mod.ofBelow hW).keep hh (by simp)
 have hL1:=fun W' (hW' : Below W.heap.size W W') => (⟨(hL W' hW').1,(hL W' hW').2.1,(hL W' hW').2.2 s g hr⟩ : _ ∧ _ ∧ _)
 obtain ⟨⟨ps,pg⟩,hps⟩ : ∃ x,parV (parB B (s,g)) = x:=⟨_,rfl⟩
 simp only [hdV,handleC,hps] at hL1
 have hbf:=blk_lt hf
 generalize hbo : (parB B (s,g)).isSome = bo at hL1
 obtain ⟨zl,hzl⟩ : ∃ zl,zl = ints [0,0]:=⟨_,rfl⟩
 obtain ⟨rl,hrl⟩ : ∃ rl,rl = ints [ps,pg]:=⟨_,rfl⟩
 have HW:=Lib.hid hW;have Hlw:=Lib.hid hlw;have Hlt:=Lib.hid hlt;have HJ:=Lib.hid hJ;have HY:=Lib.hid hY;have H0:=Lib.hid h0;have HRW:=Lib.hid hRW;have HfW:=Lib.hid hfW;have Hz:=Lib.hid hhW;have HL:=Lib.hid hL1;have Hps:=Lib.hid hps;have Hbo:=Lib.hid hbo;have Hzl:=Lib.hid hzl;have Hrl:=Lib.hid hrl;have HF:=Lib.hid hF;have Hc:=Lib.hid hc;have Hbf:=Lib.hid hbf;have HFlt:=Lib.hid hFlt
 clear hW hlw hlt hJ hY h0 hRW hfW hhW hL1 hps hbo hzl hrl hF hc hbf hFlt
 clear hL
 clear h hf hh hr
 go_wp2_with fail
 refine wp_planK [9] 11 [] [some 7,some 8,some 9,some 10,some 11,some 12,some 6,some 13,some 14,some 4,none,some 5] [[],[0],[0,1],[0,1,2],[],[0,1,2,3,4],[0,1,2,3,4,5],[0,1,2,3,4,5,6],[0,1,2,3,4,5,6],[],[0,1,2,3,4,5,6,7,9],[0,1,2,3,4,5,6,7,8,9,10]] [0,1,2,3,4,5,6,7,8,9,10] (fun L σ V => IGet 9 10 W zl.toArray rl.toArray 47 L σ V) mixed rfl (by kernel_rfl) (by decide) (by decide) (by decide) (IGet.start (Below.refl _ _).drew) rfl ?_
 iterate 11 apply Exists.intro
 refine ⟨rfl,?_,?_⟩
 ·simp only [tS,List.take_zero,AllFrom.cons_eq,AllFrom.nil_eq,OpGoalK]
  refine ⟨?_,?_,?_,?_,?_,?_,?_,?_,?_,?_,?_,trivial⟩
  all_goals (intro L' σ V h1 h2 h3 hI hp;have HA1:=Lib.hid h1;have HA2:=Lib.hid h2;have HA3:=Lib.hid h3;clear h1 h2 h3;(try simp only [gZ,gS,preK_cons,preK_nil] at hp);(try simp only [List.mem_cons,List.not_mem_nil,or_false,eq_self,Nat.reduceEqDiff,Nat.reduceAdd,Nat.zero_add,false_or,true_or,true_and,and_true] at hp);(first | (have hq : True:=hp;clear hq hp) | skip);have HI:=Lib.hid hI;clear hI)
  all_goals (
   have hLV:=HL.out V HI.out.b
   have hc:=hLV.1;have hl:=hLV.2.1;have hk:=hLV.2.2
   have hzV:=(Mod.ofBelow HI.out.b).keep Hz.out (by simp)
   have q0:=blk_cell hzV 0
   have q1:=blk_cell hzV 1
   simp only [eA,eZ,eS] at q0 q1
   have ql:=blk_lt hzV
   have hfV:=(Mod.ofBelow HI.out.b).keep HfW.out (by simp)
   have u0:=blk_cell hfV 0
   simp only [eA,eZ,eS] at u0
   have ul:=blk_lt hfV
   clear hfV
   clear hLV hzV)
  iterate 9 · (go_simp;exact ⟨.inr rfl,HI.out.read (by decide) (by decide) _⟩)
  ·go_simp
   have hmk:=HI.out.made (by decide) (HA3.out 10 (by decide))
   rw [Hzl.out] at hmk ⊢
   exact PostK.mk (c:=undef) (.inl (by decide)) hmk
  ·simp only [wantedL_none,if_true,Nat.reduceAdd,Nat.zero_add]
   have x3:=HA1.out
   simp only [Nat.reduceAdd,Nat.zero_add] at x3
   generalize hρ : Act.eval _ = ρ
   refine IGet.yr_stored HI.out (by decide) (HA2.out 9 (by decide)) x3 (by rw [Hzl.out,Hrl.out];rfl) 47 (.tmp 4) (.tmp 13) rfl ?_ ?_ (by rw [Hrl.out];kernel_rfl) (by rw [Hrl.out];exact ints_one _) (fun V' hV' => PostK.mk (c:=undef) (.inr rfl) hV')
   ·rw [← hρ]
    go_simp
   ·rw [← hρ]
    go_simp
    rw [Hrl.out]
    rfl
 ·intro L' σ V h1 hI hp
  obtain ⟨r,s9,hr,hst⟩:=hI.blk (h1 9 (by decide))
  rw [if_pos (h1 10 (by decide)),Hrl.out] at hst
  clear h1
  simp only [preK_cons,preK_nil,gZ,gS] at hp;simp only [List.mem_cons,List.not_mem_nil,or_false,eq_self,Nat.reduceEqDiff,false_or,true_or,true_and,and_true] at hp
  have HB:=Lib.hid hI.b
  have Hr:=Lib.hid hr
  have Hst:=Lib.hid hst
  clear hI hst hr
  simp only [dS,List.drop_zero]
  go_simp
  clear hp
  generalize σ 9 = v9 at *
  subst s9
  go_wp2_with fail
  refine ⟨rfl,?_⟩
  go_wp2_with fail
  go_loopw [4,5] (fun v4 v5 wr => ∃ (pre rest : List Hd) (b : Nat) (v : Bool) (y : Hd),v4 = .pointer (some ⟨b,0,none⟩) ∧ v5 = .bool v ∧ ch = pre ++ rest ∧ J pre wr ∧ Mod [l] W wr ∧ W.heap.size ≤ b ∧ wr.heap[b]? = some (.cells (handleC y).toArray 47 (0,0)) ∧ Nxt B v y rest) (fun v4 v5 wr => nxtM B v4 v5 wr)
  case atStart =>
   refine ⟨[],ch,r,bo,(ps,pg),rfl,rfl,rfl,HJ.out _ _ _ H0.out HB.out,(Mod.ofBelow HB.out).mono (by simp),Hr.out,Hst.out,?_⟩
   rw [← Hps.out,← Hbo.out]
   exact nxt_of HRW.out.r Hc.out
  case round =>
   obtain ⟨pre,rest,b,v,⟨y0,y1⟩,rfl,rfl,hch,hJp,hmod,hbge,hbb,hnx⟩:=hrel
   have hmeas:=nxtM_eq hnx hbb
   rcases hnx with ⟨rfl,rfl⟩ | ⟨rfl,rest,rfl,hcy,hyr⟩
   ·have hfin : (∃ v : Value,Ending.returned (.tuple #[]) = .returned v) ∧ ((∃ xs,xs = ch ∧ J xs wr) ∨ (∃ pre,pre <+: ch ∧ Jx pre wr)):=⟨⟨_,rfl⟩,.inl ⟨pre,by rw [hch];simp,hJp⟩⟩
    have Hfin:=Lib.hid hfin
    clear hfin
    clear hch hJp hmod hbge hbb hmeas
    go_wp2
    refine bodyPost_end (v:=.tuple #[]) ?_ rfl Hfin.out
    unfold results;try go_simp
   ·have hll : pre.length < ch.length:=by rw [hch];simp
    have hyl:=HY.out pre (y0,y1) wr hJp hll
    obtain ⟨fn,tmps,assign,body,hy,hR⟩:=hyl
    simp only [hdV,handleC] at hy
    obtain ⟨HR,Hch,HJp,Hmod,Hbge,Hbb,Hmeas,Hcy,Hyr⟩:=hid9 hR hch hJp hmod hbge hbb hmeas hcy hyr
    clear hR hch hJp hmod hbge hbb hmeas hcy hyr
    have e0:=blk_cell Hbb.out 0
    have e1:=blk_cell Hbb.out 1
    simp only [handleC,eA,eZ,eS] at e0 e1
    have el:=blk_lt Hbb.out
    clear hll
    refine (wpIn_wide (n:=n)).1 ?_
    gi_wp2_with fail
    refine ⟨fun h => (by simp [Fence.wide] at h),HR.out.mono ?_⟩
    rintro e W3 (⟨rfl,hJ3,hm3⟩ | ⟨rfl,hJx3⟩)
    ·have hb3:=hm3.keep Hbb.out (by have:=Hbge.out;have:=Hlt.out;simp;omega)
     have e0:=blk_cell hb3 0
     have e1:=blk_cell hb3 1
     simp only [handleC,eA,eZ,eS] at e0 e1
     have el:=blk_lt hb3
     have hm03:=Hmod.out.step hm3
     have hFl : ∀ y ∈ F,y ∉ [l]:=fun y hy e => by
      have h1:=HFlt.out y hy
      have h2:=Hlw.out
      simp only [List.mem_cons,List.not_mem_nil,or_false] at e
      omega
     have hR3:=HRW.out.mod hm03 hFl
     obtain ⟨m3,hF3,hL3⟩:=hR3.look
     obtain rfl : m3 = m:=by
      have:=hF3.symm.trans HF.out
      simpa using this
     have hbf3:=hm03.keep HfW.out (by have:=Hbf.out;have:=Hlw.out;simp;omega)
     have hL4:=fun W' (hW' : Below W3.heap.size W3 W') => (⟨(hL3 W' hW').1,(hL3 W' hW').2.1,(hL3 W' hW').2.2 y0 y1 Hyr.out⟩ : _ ∧ _ ∧ _)
     obtain ⟨⟨qs,qg⟩,has⟩ : ∃ x,parV (parB B (y0,y1)) = x:=⟨_,rfl⟩
     simp only [hdV,handleC,has] at hL4
     have hnx:=nxt_of HRW.out.r Hcy.out
     rw [has] at hnx
     generalize (parB B (y0,y1)).isSome = bo2 at hL4 hnx
     obtain ⟨zl2,hzl2⟩ : ∃ zl,zl = ints [y0,y1]:=⟨_,rfl⟩
     obtain ⟨rl2,hrl2⟩ : ∃ rl,rl = ints [qs,qg]:=⟨_,rfl⟩
     have hst : IOne 9 W3.heap.size W3 zl2.toArray rl2.toArray 47 (fun _ => false) (W3.alloc (.cells #[.int .i64 y0,.int .i64 y1] 47)).drew:=by
      rw [hzl2]
      exact ⟨((Below.refl _ W3).alloc (Nat.le_refl _) _).drew,Nat.le_refl _,blk_drew (heap_alloc_new W3 _)⟩
     have hsz3:=hm03.size
     obtain ⟨Hb3,HJ3,Hm3,Hm03,Hbf3,HL4,Has,Hnx,Hzl2,Hrl2,Hst2,Hsz3⟩:=hid12 hb3 hJ3 hm3 hm03 hbf3 hL4 has hnx hzl2 hrl2 hst hsz3
     clear hb3 hJ3 hm3 hm03 hbf3 hL4 has hnx hzl2 hrl2 hst hsz3
     clear hR3 hF3 hL3 hFl
     gi_wp2_with fail
     clear e0 e1 el hy
     refine wpIn_wide.2 ?_
     refine wp_planK [] 10 [] [some 17,some 18,some 19,some 20,some 21,some 22,some 16,some 23,some 24,none,some 5] [[],[0],[0,1],[0,1,2],[],[0,1,2,3,4],[0,1,2,3,4,5],[0,1,2,3,4,5,6],[0,1,2,3,4,5,6],[0,1,2,3,4,5,6,7],[0,1,2,3,4,5,6,7,8,9]] [0,1,2,3,4,5,6,7,8,9] (fun L σ V => IOne 9 W3.heap.size W3 zl2.toArray rl2.toArray 47 L V) mixed rfl (by kernel_rfl) (by decide) (by decide) (by decide) Hst2.out rfl ?_
     iterate 10 apply Exists.intro
     refine ⟨rfl,?_,?_⟩
     ·simp only [tS,List.take_zero,AllFrom.cons_eq,AllFrom.nil_eq,OpGoalK]
      refine ⟨?_,?_,?_,?_,?_,?_,?_,?_,?_,?_,trivial⟩
      all_goals (intro L' σ V h1 h2 h3 hI hp;have HA1:=Lib.hid h1;have HA2:=Lib.hid h2;have HA3:=Lib.hid h3;clear h1 h2 h3;(try simp only [gZ,gS,preK_cons,preK_nil] at hp);(try simp only [List.mem_cons,List.not_mem_nil,or_false,eq_self,Nat.reduceEqDiff,Nat.reduceAdd,Nat.zero_add,false_or,true_or,true_and,and_true] at hp);(first | (have hq : True:=hp;clear hq hp) | skip);have HI:=Lib.hid hI;clear hI)
      all_goals (
       have hLV:=HL4.out V HI.out.b
       have hc:=hLV.1;have hl:=hLV.2.1;have hk:=hLV.2.2
       have hfV:=(Mod.ofBelow HI.out.b).keep Hbf3.out (by simp)
       have u0:=blk_cell hfV 0
       simp only [eA,eZ,eS] at u0
       have ul:=blk_lt hfV
       clear hLV hfV)
      iterate 4 · (go_simp;exact ⟨.inr rfl,HI.out.read (by decide)⟩)
      ·have hzV:=HI.out.blk
       rw [if_neg (by rw [HA3.out 9 (by decide)];simp),Hzl2.out] at hzV
       have hzV : V.heap[W3.heap.size]? = some (.cells #[.int .i64 y0,.int .i64 y1] 47 (0,0)):=hzV
       obtain ⟨q0,q1,ql⟩:=cells2 hzV
       clear hzV
       go_simp
       exact ⟨.inr rfl,HI.out.read (by decide)⟩
      iterate 4 · (go_simp;exact ⟨.inr rfl,HI.out.read (by decide)⟩)
      ·simp only [wantedL_none,if_true,Nat.reduceAdd,Nat.zero_add]
       have x3:=HA1.out
       simp only [Nat.reduceAdd,Nat.zero_add] at x3
       generalize hρ : Act.eval _ = ρ
       refine IOne.yr_stored HI.out x3 (by rw [Hzl2.out,Hrl2.out];rfl) 47 (.tmp 4) (.tmp 23) rfl ?_ ?_ (by rw [Hrl2.out];kernel_rfl) (by rw [Hrl2.out];exact ints_one _) (fun V' hV' => PostK.mk (c:=undef) (.inr rfl) hV')
       ·rw [← hρ]
        go_simp
       ·rw [← hρ]
        go_simp
        rw [Hrl2.out]
        rfl
     ·intro L' σ V h1 hI hp
      have hst2:=hI.blk
      rw [if_pos (h1 9 (by decide)),Hrl2.out] at hst2
      clear h1
      simp only [preK_cons,preK_nil,gZ,gS] at hp;simp only [List.mem_cons,List.not_mem_nil,or_false,eq_self,Nat.reduceEqDiff,false_or,true_or,true_and,and_true] at hp
      have HB4:=Lib.hid hI.b
      have Hst3:=Lib.hid hst2
      clear hI hst2
      simp only [dS,List.drop_zero]
      go_simp
      clear hp
      go_wp2_with fail
      refine ⟨rfl,?_⟩
      go_wp2_with fail
      go_roundw
      case rel =>
       refine ⟨pre ++ [(y0,y1)],rest,W3.heap.size,bo2,(qs,qg),rfl,rfl,by rw [Hch.out];simp,HJ.out _ _ _ HJ3.out (HB4.out.mono Hsz3.out),(Hm03.out.andBelow HB4.out),Hsz3.out,Hst3.out,Hnx.out⟩
      case measure =>
       rw [nxtM_eq Hnx.out Hst3.out,Hmeas.out];simp
    ·have hfin : (∃ v : Value,Ending.returned (.tuple #[]) = .returned v) ∧ ((∃ xs,xs = ch ∧ J xs W3) ∨ (∃ pre,pre <+: ch ∧ Jx pre W3)):=⟨⟨_,rfl⟩,.inr ⟨pre ++ [(y0,y1)],⟨rest,by rw [Hch.out];simp⟩,hJx3⟩⟩
     have Hfin:=Lib.hid hfin
     clear hfin
     clear hJx3 e0 e1 el hy
     gi_wp2
     refine bodyPost_ret (v:=.tuple #[]) ?_ rfl Hfin.out
     unfold results;try go_simp
 all_goals exact undef
end
theorem Mod.thenBelow {F : List Nat} {a b c : World} (h : Mod F a b) (k : Below a.heap.size b c) : Mod F a c :=
 ⟨k.os.trans h.os,k.tape.trans h.tape,k.output.trans h.output,Nat.le_trans h.size k.size,fun i hi hF => (k.block i hi).trans (h.block i hi hF)⟩
open Classical in
noncomputable def adoE (B : List Bd) (c p : Hd) : Int:=if Up B p c then 8 else 0
open Classical in
noncomputable def adoB (B : List Bd) (c p : Hd) : List Bd:=if Up B p c then B else insB B (c,p)
section
variable {w : World} {f : Nat} {B : List Bd} {F : List Nat}
set_option maxRecDepth 20000 in
set_option maxHeartbeats 4000000 in
theorem adopt_same (h : RepF w f B F) (s g : Int) : Calls Tryz.prog 51 #[.pointer (some ⟨f,0,none⟩),.agg #[.int .i64 s,.int .i64 g],.agg #[.int .i64 s,.int .i64 g]] w (FRet B (.int .i64 8) f F w):=by
 have hcmp : ∀ w,(binOp .eql 47 (.agg #[.int .i64 s,.int .i64 g]) (.agg #[.int .i64 s,.int .i64 g])).run Tryz.prog w = .ok (.bool true) w:=fun w => by rw [eqlHandle,eqB_self]
 have HF:=Lib.hid h
 go_enter Tryz.func51,Tryz.ntmps51
 go_wp2
 refine bodyPost_ret (v:=.int .i64 8) (by unfold results;try go_simp) rfl ?_
 have hb : Below w.heap.size w (((w.alloc (.cells #[.int .i64 s,.int .i64 g] 47)).alloc (.cells #[.int .i64 s,.int .i64 g] 47)).alloc (.cells #[.int .i64 8] 27)):=(((Below.refl _ _).alloc (Nat.le_refl _) _).alloc (by simp) _).alloc (by simp;omega) _
 exact ⟨rfl,h.below hb,(Mod.ofBelow hb).mono (by simp)⟩
set_option maxRecDepth 20000 in
set_option maxHeartbeats 8000000 in
theorem adopt_diff (h : RepF w f B F) (s g t u : Int) (hne : (s,g) ≠ (t,u)) (hc : HdR (s,g)) (hp : HdR (t,u)) : Calls Tryz.prog 51 #[.pointer (some ⟨f,0,none⟩),.agg #[.int .i64 s,.int .i64 g],.agg #[.int .i64 t,.int .i64 u]] w (FRet (adoB B (s,g) (t,u)) (.int .i64 (adoE B (s,g) (t,u))) f F w):=by
 obtain ⟨ch,hch⟩:=h.ok.ac.chain (t,u)
 obtain ⟨w0,hw0,hb0,hz0,hs0⟩:=box1 w (.cells #[.int .i64 s,.int .i64 g] 47)
 obtain ⟨w1,hw1,hb1,hz1,hs1⟩:=box1 w0 (.cells #[.int .i64 t,.int .i64 u] 47)
 obtain ⟨w2,hw2,hb2,hz2,hs2⟩:=box1 w1 (.cells #[.int .i64 0] 27)
 obtain ⟨w3,hw3,hb3,hz3,hs3⟩:=box1 w2 (.cells #[.pointer (some ⟨f,0,none⟩)] 107)
 obtain ⟨w4,hw4,hb4,hz4,hs4⟩:=box1 w3 (.cells #[.int .i64 t,.int .i64 u] 47)
 have hB12 : Below w0.heap.size w0 w2:=hb1.trans (hb2.mono hb1.size)
 have hB02 : Below w.heap.size w w2:=hb0.trans (hB12.mono hb0.size)
 have hB24 : Below w2.heap.size w2 w4:=hb3.trans (hb4.mono hb3.size)
 have hB04 : Below w.heap.size w w4:=hB02.trans (hB24.mono hB02.size)
 have hz02:=(Mod.ofBelow hB12).keep hz0 (by simp)
 have hz12:=(Mod.ofBelow hb2).keep hz1 (by simp)
 have hz04:=(Mod.ofBelow hB24).keep hz02 (by simp)
 have hz14:=(Mod.ofBelow hB24).keep hz12 (by simp)
 have hz24:=(Mod.ofBelow hB24).keep hz2 (by simp)
 have hz34:=(Mod.ofBelow hb4).keep hz3 (by simp)
 have hcmp : ∀ w,(binOp .eql 47 (.agg #[.int .i64 s,.int .i64 g]) (.agg #[.int .i64 t,.int .i64 u])).run Tryz.prog w = .ok (.bool false) w:=fun w => by rw [eqlHandle,eqB_ne hne]
 have h4:=h.below hB04
 have h1:=above_any f t u w2
 rw [hw3,hw4] at h1
 have hseq:=fun n => above_seq n h4 t u hp hch w2.heap.size (w2.heap.size + 1) hz34 (by rw [← hs3];exact hz4)
 obtain ⟨q0,q1,ql⟩:=cells2 hz02
 obtain ⟨v0,v1,vl⟩:=cells2 hz12
 have hlt4 : w2.heap.size < w4.heap.size:=blk_lt hz34
 obtain ⟨H,H1,Hseq,Hz04,Hz14,Hz24,H4,HB04,Hs0,Hs1,Hs2,Hs3,Hs4,Hch,Hlt4⟩:=hid15 h h1 hseq hz04 hz14 hz24 h4 hB04 hs0 hs1 hs2 hs3 hs4 hch hlt4
 clear h h1 hseq hz04 hz14 hz24 h4 hB04 hs0 hs1 hs2 hs3 hs4 hch hlt4
 clear hb0 hz0 hb1 hz1 hb2 hz2 hb3 hz3 hb4 hz4 hB12 hB02 hB24 hz02 hz12 hz34 hw3 hw4
 refine callsIn_wide.1 (callsIn_of_wp_marks (n:=5) Tryz.func51 rfl trivial (wpIn_wide.2 ?_) rfl)
 simp only [Tryz.ntmps51,List.size_toArray,List.length_cons,List.length_nil,Nat.reduceAdd,Nat.reduceSub,Array.replicate_succ,Array.replicate_zero,List.push_toArray,List.append_toArray,List.nil_append,List.cons_append]
 go_wp2_with fail
 clear hw0 hw1 hw2
 refine H1.out.mono ?_
 rintro e w' ⟨rfl,rfl⟩
 go_wp2_with fail
 have hnu : (t,u) ≠ (s,g):=Ne.symm hne
 refine wp_rangeW 5 (by omega) (gf:=146) (lb:=#[.pointer (some ⟨w2.heap.size,0,none⟩),.pointer (some ⟨w2.heap.size + 1,0,none⟩)]) rfl (enters_of Tryz.func146 (by kernel_rfl) rfl) (Hseq.out 4) (Below.refl _ _) (fun _ => rfl)
  (fun pre W => Below w'.heap.size w' W ∧ (s,g) ∉ pre)
  (fun cd pre W => cd = .ret ∧ (s,g) ∈ pre ∧ Mod [w1.heap.size] w' W ∧ W.heap[w1.heap.size]? = some (.cells #[.int .i64 8] 27 (0,0)))
  (fun _ _ _ h k => ⟨h.1.trans k,h.2⟩) (fun _ _ _ _ h k => ⟨h.1,h.2.1,?_,?_⟩) ⟨Below.refl _ _,by simp⟩
  (fun (x : Hd) a' W => ∃ Bx,W.heap[Bx]? = some (.cells (handleC x).toArray 47 (0,0)) ∧ a' = { tmps:=#[.pointer (some ⟨f,0,none⟩),.agg #[.int .i64 s,.int .i64 g],.agg #[.int .i64 t,.int .i64 u],undef,.pointer (some ⟨w.heap.size,0,none⟩),.pointer (some ⟨w0.heap.size,0,none⟩),.pointer (some ⟨w1.heap.size,0,none⟩),.pointer (some ⟨Bx,0,none⟩),.agg #[.int .i64 s,.int .i64 g],.agg #[.int .i64 t,.int .i64 u],.bool false,.pointer (some ⟨f,0,none⟩),.agg #[.int .i64 t,.int .i64 u],.func (.func 146) #[] #[.pointer (some ⟨w2.heap.size,0,none⟩),.pointer (some ⟨w2.heap.size + 1,0,none⟩)],hdV x,undef,undef,undef,undef,undef,undef,undef,undef,undef],defers:=[] })
  (fun x a' X Y h _ k => ?_) ?assign ?body ?done ?stop
 case assign =>
  rintro l pre ⟨x0,x1⟩ W K hl hI hK
  simp only [hdV,handleC]
  gi_wp2
  exact hK _ _ ((Mod.refl _ _).alloc _) ⟨W.heap.size,heap_alloc_new W _,rfl⟩
 case body =>
  rintro l pre ⟨x0,x1⟩ a' W hl ⟨hB,hn⟩ ⟨Bx,hx,rfl⟩ hlen
  simp only [hdV,handleC] at hx ⊢
  have hzW:=(Mod.ofBelow hB).keep Hz04.out (by simp)
  have hyW:=(Mod.ofBelow hB).keep Hz24.out (by simp)
  have heq:=fun w => eqlHandle w x0 x1 s g
  have hb6 : w1.heap.size < w'.heap.size:=blk_lt Hz24.out
  clear q0 q1 ql v0 v1 vl hcmp
  obtain ⟨q0,q1,ql⟩:=cells2 hx
  obtain ⟨v0,v1,vl⟩:=cells2 hzW
  obtain ⟨y0,yl⟩:=cells1 hyW
  have f0:=blk_free hyW 0
  cases hr : eqB (x0,x1) (s,g) with
  | true =>
   have hxs : (x0,x1) = (s,g):=by simpa [eqB] using hr
   rw [hr] at heq
   obtain ⟨HB,HyW,Hb6,Hl⟩:=hid4 hB hyW hb6 hl
   clear hB hyW hb6 hl
   clear hx hzW hn hr hlen
   gi_wp2
   refine ⟨?_,rfl,?_,(Mod.ofBelow HB.out).mono (by simp) |>.setCell (by simp) _,blk_set HyW.out 0 _⟩
   ·intro k o hk ho
    rw [blk_set_ne (by have:=Hb6.out;simp;omega)];exact ho
   ·rw [hxs];simp
  | false =>
   have hxs : (s,g) ≠ (x0,x1):=fun e => by rw [e,eqB_self] at hr;cases hr
   rw [hr] at heq
   have HB:=Lib.hid hB
   clear hB
   clear hx hzW hr hlen hyW
   gi_wp2
   exact ⟨Mod.refl _ _,HB.out,by simp [hn,hxs]⟩
 case done =>
  rintro D xs W hD rfl ⟨hB,hn⟩ hK
  have hnup : ¬ Up B (t,u) (s,g):=fun hu => by
   rcases (Hch.out.mem H.out.ok.so _).2 hu with e | e
   ·exact hnu e
   ·exact hn e
  have hzs:=(Mod.ofBelow hB).keep Hz04.out (by simp)
  have hzt:=(Mod.ofBelow hB).keep Hz14.out (by simp)
  have hy:=(Mod.ofBelow hB).keep Hz24.out (by simp)
  have h5:=H4.out.below hB
  obtain ⟨m,w5,hF,hcm,hfl,hrun,h6,hm6⟩:=(h5.below below_drew).upd hc hp (insB_ok H.out.ok hnup)
  simp only [hdV,handleC] at hrun
  have hcm' : W.cell? ⟨f,0,none⟩ = some (.map (some m)):=hcm
  have hfl' : f < W.heap.size:=hfl
  have hmF : m ∈ F:=by rw [hF];simp
  have hml:=H.out.lt m hmF
  have hy5:=hm6.keep (blk_drew hy) (by have:=Hs0.out;have:=Hs1.out;simp;omega)
  have hK5:=hm6.keep (blk_drew hK) (by have:=HB04.out.size;simp;omega)
  have hM5 : Mod F w w5:=(((Mod.ofBelow (HB04.out.trans (hB.mono HB04.out.size))).mono (by simp) : Mod F w W).andBelow below_drew).step (hm6.mono (by simp [hmF]))
  have hDb : D ≠ w1.heap.size:=by have:=blk_lt Hz24.out;omega
  have hw1F : ∀ y ∈ F,y ≠ w1.heap.size ∧ y ≠ D:=fun y hy => by
   have:=H.out.lt y hy;have:=Hs0.out;have:=Hs1.out;have:=HB04.out.size
   exact ⟨by omega,by omega⟩
  have hfin : FRet (adoB B (s,g) (t,u)) (.int .i64 (adoE B (s,g) (t,u))) f F w (.returned (.int .i64 0)) ((w5.setCell ⟨w1.heap.size,0,none⟩ (.int .i64 0)).putObj D (.deferred none)):=by
   have e1 : adoB B (s,g) (t,u) = insB B ((s,g),(t,u)):=by unfold adoB;rw [if_neg hnup]
   have e2 : adoE B (s,g) (t,u) = 0:=by unfold adoE;rw [if_neg hnup]
   rw [e1,e2]
   refine ⟨rfl,h6.mod (G:=[w1.heap.size,D]) (((Mod.refl _ _).setCell (by simp) _).putObj (by simp) _) (fun y hy => by simpa using hw1F y hy),?_⟩
   exact (hM5.setCell (.inr (by have:=Hs0.out;have:=Hs1.out;simp;omega)) _).putObj (.inr (by have:=HB04.out.size;omega)) _
  obtain ⟨y0,yl⟩:=cells1 hy5
  have f0:=blk_free hy5 0
  have hyf : ((w5.setCell ⟨w1.heap.size,0,none⟩ (.int .i64 0)).putObj D (.deferred none)).heap[w1.heap.size]? = some (.cells #[.int .i64 0] 27 (0,0)):=(World.putObj_heap_other (by omega)).trans (blk_set hy5 0 _)
  have hKf : (w5.setCell ⟨w1.heap.size,0,none⟩ (.int .i64 0)).heap[D]? = some (.deferred (some [])):=(blk_set_ne (by simpa using hDb) _).trans hK5
  clear q0 q1 ql v0 v1 vl hcmp
  obtain ⟨q0,q1,ql⟩:=cells2 hzs
  obtain ⟨v0,v1,vl⟩:=cells2 hzt
  obtain ⟨Hfin,Hyf,HKf⟩:=hid3 hfin hyf hKf
  clear hfin hyf hKf
  clear hzs hzt hy h5 hcm hfl h6 hm6 hml hy5 hK5 hM5 hDb hw1F hB hn hK hF hmF
  go_wp2_with fail
  refine wp_planR 6 [0] [some 18,some 19,some 20,some 21,some 22,some 23,none] [[],[0],[0,1],[0,1,2],[],[],[0,1,2,3,4,5]] [0,1,2,3,4,5] mixed rfl (by kernel_rfl) (by decide) (by decide) rfl ?_
  iterate 6 apply Exists.intro
  refine ⟨rfl,?_,?_⟩
  ·simp only [tS,List.take_zero,AllFrom.cons_eq,AllFrom.nil_eq,OpGoalQ]
   refine ⟨?_,?_,?_,?_,?_,?_,trivial⟩
   all_goals (intro σ hp;(try simp only [gZ,gS,mC,mN,preF_cons,preF_nil,isV,and_true] at hp);(first | (have hq : True:=hp;clear hq hp) | skip))
   all_goals (go_simp;exact ⟨rfl,rfl⟩)
  intro σ hp
  simp only [gZ,gS,mC,mN,preF_cons,preF_nil,isV,and_true] at hp
  simp only [dS,List.drop_zero]
  go_simp
  clear hp
  go_wp2
  refine ⟨rfl,?_⟩
  go_wp2
  refine ⟨by simp,.inl ⟨_,_,rfl,run_takeDeferred HKf.out,?_⟩⟩
  have e0:=blk_cell Hyf.out 0
  simp only [eA,eZ] at e0
  have el:=blk_lt Hyf.out
  refine ⟨.int .i64 0,?_,Hfin.out⟩
  unfold results;go_simp
 case stop =>
  rintro D cd pre W hD hpre ⟨rfl,hmem,hmod,hb8⟩ hK
  have hup : Up B (t,u) (s,g):=(Hch.out.mem H.out.ok.so _).1 (.inr (hpre.subset hmem))
  have hD' : D ≠ w1.heap.size:=by have:=blk_lt Hz24.out;omega
  have hb9 : (W.putObj D (.deferred none)).heap[w1.heap.size]? = some (.cells #[.int .i64 8] 27 (0,0)):=(World.putObj_heap_other (by omega)).trans hb8
  have hfin : FRet (adoB B (s,g) (t,u)) (.int .i64 (adoE B (s,g) (t,u))) f F w (.returned (.int .i64 8)) (W.putObj D (.deferred none)):=by
   have e1 : adoB B (s,g) (t,u) = B:=by unfold adoB;rw [if_pos hup]
   have e2 : adoE B (s,g) (t,u) = 8:=by unfold adoE;rw [if_pos hup]
   rw [e1,e2]
   have hM0 : Mod [] w (W.putObj D (.deferred none)):=(((Mod.ofBelow HB04.out).trans hmod (fun x hx => by
    simp only [List.mem_cons,List.not_mem_nil,or_false] at hx
    have:=Hs0.out;have:=Hs1.out
    exact .inr (by omega))).putObj (.inr (by have:=HB04.out.size;omega)) _)
   exact ⟨rfl,H.out.mod hM0 (by simp),hM0.mono (by simp)⟩
  obtain ⟨Hfin,HK,Hb9⟩:=hid3 hfin hK hb9
  clear hfin hK hb9
  clear hmod hb8 hmem hpre hup q0 q1 ql v0 v1 vl hcmp
  go_wp2
  refine ⟨by simp,.inl ⟨_,_,rfl,run_takeDeferred HK.out,?_⟩⟩
  have e0:=blk_cell Hb9.out 0
  simp only [eA,eZ] at e0
  have el:=blk_lt Hb9.out
  refine ⟨.int .i64 8,?_,Hfin.out⟩
  unfold results;go_simp
 ·exact h.2.2.1.thenBelow k
 ·exact (k.block _ (blk_lt Hz24.out)).trans h.2.2.2
 ·obtain ⟨Bx,h1,h2⟩:=h
  exact ⟨Bx,k _ _ h1 rfl,h2⟩
theorem adopt_any (h : RepF w f B F) (s g t u : Int) (hc : HdR (s,g)) (hp : HdR (t,u)) : Calls Tryz.prog 51 #[.pointer (some ⟨f,0,none⟩),.agg #[.int .i64 s,.int .i64 g],.agg #[.int .i64 t,.int .i64 u]] w (FRet (adoB B (s,g) (t,u)) (.int .i64 (adoE B (s,g) (t,u))) f F w):=by
 by_cases e : (s,g) = (t,u)
 ·obtain ⟨rfl,rfl⟩:=Prod.mk.inj e
  rw [show adoB B (s,g) (s,g) = B by unfold adoB;rw [if_pos (Up.refl _)],show adoE B (s,g) (s,g) = 8 by unfold adoE;rw [if_pos (Up.refl _)]]
  exact adopt_same h s g
 ·exact adopt_diff h s g t u e hc hp
end
end Go.Proofs.YtfdillpofciicaaGreatDoor
