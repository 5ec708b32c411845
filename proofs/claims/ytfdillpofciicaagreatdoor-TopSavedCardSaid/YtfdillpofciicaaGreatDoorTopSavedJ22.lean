import Derived.Test.YtfdillpofciicaaGreatDoorTopSavedJ21
import Derived.Shelf.SlIterI.Collect
set_option linter.unusedVariables false
set_option linter.unusedSimpArgs false
/- A part of the proof that TopSaved returns true. -/
namespace Go.Proofs.YtfdillpofciicaaGreatDoor
open Go Go.RowKit Go.Maps
attribute [local go_sem] AllFrom.cons_eq AllFrom.nil_eq putF_nil putF_cons wantedL_none wantedL_some OpGoalT OpGoalV OpGoalQ OpGoalA OpGoalK YieldsR preF_nil preF_cons
structure IPuH (w0 : World) (base : Nat) (v : Value) (M : List Hd) (x : Hd) (L : Nat → Bool) (σ : Nat → Value) (V : World) : Prop where
 b : L 3 = false → Below w0.heap.size w0 V
 o : L 2 = true → L 3 = false → oneR w0.heap.size (handleC x).toArray 47 (σ 2) V
 a : L 3 = true → (∃ V0,Below w0.heap.size w0 V0 ∧ V0.grownBy V v.ownBlock) ∧ V.ownsRow base 47 2 (σ 3) (M ++ [x]).length ((M ++ [x]).flatMap handleC)
section
variable {w0 V V' : World} {base : Nat} {v : Value} {M : List Hd} {x : Hd} {L : Nat → Bool} {σ : Nat → Value}
theorem IPuH.start (h : Below w0.heap.size w0 V) : IPuH w0 base v M x (fun _ => false) σ V:=⟨fun _ => h,fun e => (by cases e),fun e => (by cases e)⟩
theorem IPuH.read (h : IPuH w0 base v M x L σ V) {i : Nat} (h1 : 2 ≠ i ∧ 3 ≠ i) (u : Value) : IPuH w0 base v M x (upd L i) (updv σ i u) V:=by
 obtain ⟨n1,n2⟩:=h1
 have eL : ∀ j,j ≠ i → upd L i j = L j:=fun j hj => by unfold upd;simp [hj]
 have es : ∀ j,j ≠ i → updv σ i u j = σ j:=fun j hj => by unfold updv;rw [if_neg hj]
 refine ⟨?_,?_,?_⟩
 ·rw [eL 3 n2];exact h.b
 ·rw [eL 2 n1,eL 3 n2,es 2 n1];exact h.o
 ·rw [eL 3 n2,es 3 n2];exact h.a
theorem IPuH.oned (h : IPuH w0 base v M x L σ V) (h3 : L 3 = false) : IPuH w0 base v M x (upd L 2) (updv σ 2 (.slice (some ⟨V.heap.size,0,none⟩) 1 1)) (V.alloc (.cells (handleC x).toArray 47)):=by
 have eL : upd L 2 3 = L 3:=by unfold upd;simp
 have hs:=(h.b h3).size
 refine ⟨fun _ => (h.b h3).alloc hs _,fun _ _ => oneR_new hs,?_⟩
 rw [eL,h3];intro e;cases e
theorem IPuH.apped (h : IPuH w0 base v M x L σ V) (h3 : L 3 = false) {u : Value} (hg : V.grownBy V' v.ownBlock) (hv : V'.ownsRow base 47 2 u (M ++ [x]).length ((M ++ [x]).flatMap handleC)) : IPuH w0 base v M x (upd L 3) (updv σ 3 u) V':=by
 refine ⟨fun e => by simp [upd] at e,fun _ e => by simp [upd] at e,fun _ => ⟨⟨V,h.b h3,hg⟩,?_⟩⟩
 simpa [updv] using hv
theorem IPuH.mod (h : IPuH w0 base v M x L σ V) : Mod v.ownBlock.toList w0 V:=by
 cases e : L 3 with
 | false => exact (Mod.ofBelow (h.b e)).mono (by simp)
 | true =>
  obtain ⟨⟨V0,h1,h2⟩,-⟩:=h.a e
  exact ((Mod.ofBelow h1).mono (by simp) : Mod v.ownBlock.toList w0 V0).step (grown_mod h2)
end
section
variable {f : Nat} {B : List Bd} {F : List Nat}
set_option maxRecDepth 20000 in
set_option maxHeartbeats 8000000 in
theorem funder_any (hl : B.length ≤ 1200000000000) : ∀ (n : Nat) (s g : Int) (w : World),Low B n (s,g) → RepF w f B F → Calls Tryz.prog 97 #[.pointer (some ⟨f,0,none⟩),.agg #[.int .i64 s,.int .i64 g]] w (MadeRecs 47 2 handleC (underN B n (s,g)) w):=by
 intro n
 induction n with
 | zero => intro s g w hl0;exact hl0.elim
 | succ n ih =>
  intro s g w hlow h
  obtain ⟨w0,hw0,hb0,hz0,hs0⟩:=box1 w (.cells #[.int .i64 s,.int .i64 g] 47)
  have h0:=h.below hb0
  have hO:=h.ok
  have H1:=Lib.hid (fkids_any h0 hl s g)
  have hlen:=underN_len hO hlow
  have hall:=undP_all B n (s,g)
  have hplen:=undP_len B n (kidsB B (s,g))
  rw [hall] at hplen
  obtain ⟨q0,q1,ql⟩:=cells2 hz0
  obtain ⟨HZ0,Hb0,HLB,Hs0,IH,Hlow,Hlen,Hall,Hplen⟩:=hid9 h0 hb0 hl hs0 ih hlow hlen hall hplen
  clear h0 hb0 hl hs0 ih hlow hlen hall hplen
  clear h hz0 hO
  go_enter Tryz.func97,Tryz.ntmps97
  go_wp2_with fail
  clear hw0 q0 q1 ql
  refine H1.out.mono ?_
  rintro e w2 ⟨vk,rfl,hk,hb2⟩
  have h2:=HZ0.out.below hb2
  have hkl : (kidsB B (s,g)).length ≤ 1200000000000:=by
   have h1:=kids_len B (s,g)
   have:=HLB.out
   omega
  have hBw2:=Hb0.out.trans (hb2.mono Hb0.out.size)
  have hkl2 : (kidsB B (s,g)).length ≤ 9223372036854775807:=by omega
  have hlow' : ∀ c ∈ kidsB B (s,g),Low B n c:=Hlow.out
  generalize kidsB B (s,g) = ks at *
  obtain ⟨A,cap,rfl,-,-⟩:=row_slice hk
  obtain ⟨H2,Hk,HBw2,Hlow',HKL⟩:=hid5 h2 hk hBw2 hlow' hkl
  clear h2 hk hBw2 hlow' hkl
  clear hb2 H1
  go_wp2_with fail
  go_loopw [5,12] (fun v i wr => ∃ k : Nat,k ≤ ks.length ∧ i = .int .i64 k ∧ wr.ownsRow w2.heap.size 47 2 v (undP B n ks k).length ((undP B n ks k).flatMap handleC) ∧ Below w2.heap.size w2 wr) (fun _ i _ => ks.length - (Go.RowKit.intOf i).toNat)
  case atStart => exact ⟨0,by omega,rfl,⟨rfl,.inl ⟨rfl,rfl⟩⟩,Below.refl _ _⟩
  case round =>
   obtain ⟨k,hkk,rfl,hown,hbel⟩:=hrel
   have hsz:=hbel.size
   by_cases hlt : k < ks.length
   ·have hro:=row_mod Hk.out (Mod.ofBelow hbel) (by simp)
    obtain ⟨g0,cap0,cur0,hv,-,-,-⟩:=row_some hro (by omega)
    cases hv
    have hpc:=row_piece handleC_len hro hlt 0 (handleC ks[k]) (fun j u hu => by rw [Nat.zero_add];exact hu)
    have hg0:=row_lt hro g0 rfl
    have hki : (k : Int) < (ks.length : Int):=by omega
    have hst:=undP_succ B n ks k hlt
    have hlowx:=Hlow'.out _ (List.getElem_mem hlt)
    have hl1:=Hplen.out (k + 1)
    have hl0:=Hplen.out k
    obtain ⟨A5,cap5,rfl,-,-⟩:=row_slice hown
    rw [hst,List.length_append,List.length_append] at hl1
    generalize undP B n ks k = M at *
    generalize ks[k] = x at *
    obtain ⟨c0,c1⟩:=x
    obtain ⟨w3,hw3,hb3,hz3,hs3⟩:=box1 wr (.cells #[.int .i64 c0,.int .i64 c1] 47)
    have hO3:=hown.alloc (.cells #[.int .i64 c0,.int .i64 c1] 47)
    rw [hw3] at hO3
    have hb03:=hbel.trans (hb3.mono hsz)
    have hvlt : ∀ y,(Value.slice A5 M.length cap5).ownBlock = some y → y < wr.heap.size:=row_lt hown
    have hge:=own_ge hO3
    generalize hvv : Value.slice A5 M.length cap5 = vv at *
    have hnb : wr.heap.size ∉ vv.ownBlock.toList:=fun e => by have:=hvlt _ (by simpa using e);omega
    have hF2 : ∀ y ∈ F,y ∉ vv.ownBlock.toList:=fun y hy e => by
     have h1:=H2.out.lt y hy
     have h2:=hge y (by simpa using e)
     omega
    obtain ⟨HP,Hst,Hlowx,Hl1,Hl0,HO3,Hb03,Hs3,Hz3,Hge,Hnb,HF2,Hvv⟩:=hid13 hpc hst hlowx hl1 hl0 hO3 hb03 hs3 hz3 hge hnb hF2 hvv
    clear hpc hst hlowx hl1 hl0 hO3 hb03 hs3 hz3 hge hnb hF2 hvv
    clear hro hown hbel hb3 hvlt
    go_wp2_with (refine wpList_load_flat rfl 47 (.tmp 14) rfl _ rfl [.int .i64 c0,.int .i64 c1] _ Tryz.underlying47 rfl (by kernel_rfl) HP.out ?_)
    clear hw3
    refine wp_planK [2,3] 6 [4] [some 16,some 17,some 18,some 19,some 20,some 21,some 22,some 23,some 5] [[],[],[1],[0,1,2],[],[],[0,1,2,3,4,5],[0,1,2,3,4,5,6],[0,1,2,3,4,5,6,7]] [0,1,2,3,4,5] (fun Lf σ V => IPuH w3 w2.heap.size vv M (c0,c1) Lf σ V) mixed rfl (by kernel_rfl) (by decide) (by decide) (by decide) (IPuH.start below_drew) rfl ?_
    iterate 6 apply Exists.intro
    refine ⟨rfl,?_,?_⟩
    ·simp only [tS,List.take_zero,AllFrom.cons_eq,AllFrom.nil_eq,OpGoalK]
     refine ⟨?_,?_,?_,?_,?_,?_,trivial⟩
     all_goals (intro L' σ V h1 h2 h3 hI hp;have HA1:=Lib.hid h1;have HA2:=Lib.hid h2;have HA3:=Lib.hid h3;clear h1 h2 h3;(try simp only [gZ,gS,preK_cons,preK_nil] at hp);(try simp only [List.mem_cons,List.not_mem_nil,or_false,eq_self,Nat.reduceEqDiff,Nat.reduceAdd,Nat.zero_add,false_or,true_or,true_and,and_true] at hp);(first | (have hq : True:=hp;clear hq hp) | skip);have HI:=Lib.hid hI;clear hI)
     all_goals (
      have hzV:=HI.out.mod.keep Hz3.out Hnb.out
      have q0:=blk_cell hzV 0
      have q1:=blk_cell hzV 1
      simp only [eA,eZ,eS] at q0 q1
      have ql:=blk_lt hzV
      clear hzV)
     iterate 2 · (go_simp;exact ⟨.inr rfl,HI.out.read (by decide) _⟩)
     ·go_simp
      exact PostK.mk (c:=undef) (.inl (by decide)) (HI.out.oned (HA3.out 3 (by decide)))
     ·simp only [wantedL_none,if_true]
      have hbb:=HI.out.b HA1.out
      have ha:=HI.out.o (HA2.out 2 (by decide)) HA1.out
      have hrw:=row_mod HO3.out (Mod.ofBelow hbb) (by simp)
      obtain ⟨Ha,Hrw⟩:=hid2 ha hrw
      have Hlen2:=Lib.hid (show (M.length + 1) * 16 ≤ 140737488355328 by have:=Hl0.out;have:=Hlen.out;have:=HLB.out;omega)
      have Hbs:=Lib.hid (show w2.heap.size ≤ V.heap.size from Nat.le_trans Hb03.out.size hbb.size)
      clear ha hrw hbb
      refine yr_app (enc:=handleC) (n:=2) (bytes:=16) (.tmp 16) (.tmp 18) 156 47 rfl Tryz.underlying156 info_handle rfl (by omega) (by omega) handleC_one handleC_len w2.heap.size vv M (c0,c1) w3.heap.size (handleC (c0,c1)).toArray 47 (by go_simp) Hrw.out (by go_simp;exact Ha.out) rfl Hlen2.out Hbs.out ?_
      intro v' V' hv hg _
      exact PostK.mk (c:=undef) (.inl (by decide)) (HI.out.apped HA1.out hg hv)
     iterate 2 · (go_simp;exact ⟨.inr rfl,HI.out.read (by decide) _⟩)
    ·intro L' σ V h1 hI hp
     have hA3:=(hI.a (h1 3 (by decide))).2
     have hmV:=hI.mod
     clear h1 hI
     simp only [preK_cons,preK_nil,gZ,gS] at hp;simp only [List.mem_cons,List.not_mem_nil,or_false,eq_self,Nat.reduceEqDiff,false_or,true_or,true_and,and_true] at hp
     have hFV:=(H2.out.below Hb03.out).mod hmV HF2.out
     have H6:=Lib.hid (IH.out c0 c1 V Hlowx.out hFV)
     have hbV : Below w2.heap.size w2 V:=Hb03.out.trans (hmV.toBelow (fun x hx => Hge.out x (by simpa using hx)) Hb03.out.size)
     obtain ⟨HA3,HbV⟩:=hid2 hA3 hbV
     clear hA3 hbV
     clear hmV hFV
     simp only [dS,List.drop_zero]
     go_simp
     clear hp
     generalize σ 3 = v3 at *
     generalize σ 2 = v2 at *
     go_wp2_with fail
     refine H6.out.mono ?_
     rintro e w6 ⟨v6,rfl,hown6,hb6⟩
     have hown56:=row_mod HA3.out (Mod.ofBelow hb6) (by simp)
     have hb06:=HbV.out.trans (hb6.mono HbV.out.size)
     obtain ⟨Hown6,Hb06,Hown56⟩:=hid3 hown6 hb06 hown56
     clear hown6 hb06 hown56
     clear hb6
     go_wp2_with (at_builtin;refine app_list rfl _ _ rfl w2.heap.size V.heap.size v3 _ (M ++ [(c0,c1)]) (underN B n (c0,c1)) rfl Hown56.out rfl Hown6.out (by have:=Hl1.out;have:=Hlen.out;have:=HLB.out;rw [List.length_append];omega) Hb06.out.size ?_;intro v7 w7 hown7 hg7)
     refine ⟨rfl,?_⟩
     go_wp2_with fail
     go_roundw
     case rel => exact ⟨k + 1,by omega,by go_num,by rw [Hst.out];exact hown7,Hb06.out.trans ((Below.refl _ _).grown hg7 Hb06.out.size (own_ge Hown56.out))⟩
     case measure => simp [Go.RowKit.intOf];omega
    all_goals exact undef
   ·obtain rfl : k = ks.length:=by omega
    rw [Hall.out] at hown
    have hBf:=HBw2.out.trans (hbel.mono HBw2.out.size)
    have hown:=row_base hown (B':=w.heap.size) (fun k hk => by have:=own_ge hown k hk;have:=HBw2.out.size;omega)
    obtain ⟨Hown,HBf⟩:=hid2 hown hBf
    clear hown hBf
    clear hbel
    go_wp2
    go_ret
    exact ⟨_,rfl,Hown.out,HBf.out⟩
end
end Go.Proofs.YtfdillpofciicaaGreatDoor
namespace Go.Proofs.YtfdillpofciicaaGreatDoor
open Go Go.RowKit
variable {vB : Value}
attribute [local go_sem] AllFrom.cons_eq AllFrom.nil_eq putF_nil putF_cons wantedL_none wantedL_some OpGoalT OpGoalV OpGoalQ YieldsR preF_nil preF_cons
def rowsM (L : List Rw) (n t a : Int) : List Rw:=L.filter (fun x => matchesB x.2.1 n t a)
def RowsPost (B : Nat) (L : List Rw) (n t a : Int) (w : World) (e : Ending) (w' : World) : Prop :=
 ∃ v,e = .returned (.tuple #[v,.int .i64 (qcheck n t a)]) ∧ w'.ownsRow B 56 11 v (if qcheck n t a = 0 then rowsM L n t a else []).length ((if qcheck n t a = 0 then rowsM L n t a else []).flatMap rwC) ∧ Below w.heap.size w w'
end Go.Proofs.YtfdillpofciicaaGreatDoor
namespace Go.Proofs.YtfdillpofciicaaGreatDoor
open Go Go.RowKit Go.Shelf Go.Maps Go.Sort
def keysTab_ren : Go.Shelf.Ren:=⟨fun | 7 => 82 | 10 => 133 | n => n,fun | 23 => 112 | 26 => 3 | 3 => 154 | 28 => 152 | 0 => 0 | 27 => 151 | 33 => 183 | 4 => 4 | n => n,fun | n => n⟩
theorem keysTab : Go.Proofs.SlLaysZI.n7 Tryz.prog keysTab_ren:={
 mixed:=by kernel_rfl,
 f7:=⟨Tryz.f82.name,by decide,Tryz.func82.trans (congrArg some (by kernel_rfl))⟩,
 f10:=⟨Tryz.f133.name,by decide,Tryz.func133.trans (congrArg some (by kernel_rfl))⟩,
 t0:=Tryz.underlying0,
 a0:=Tryz.isAgg0,
 z0:=Tryz.sizeOf0,
 v0:=Tryz.zeroValue0,
 t4:=Tryz.underlying4,
 a4:=Tryz.isAgg4,
 z4:=Tryz.sizeOf4,
 v4:=Tryz.zeroValue4,
 t23:=Tryz.underlying112,
 a23:=Tryz.isAgg112,
 z23:=Tryz.sizeOf112,
 v23:=Tryz.zeroValue112,
 t26:=Tryz.underlying3,
 a26:=Tryz.isAgg3,
 z26:=Tryz.sizeOf3,
 v26:=Tryz.zeroValue3,
 t27:=Tryz.underlying151,
 a27:=Tryz.isAgg151,
 z27:=Tryz.sizeOf151,
 v27:=Tryz.zeroValue151,
 t28:=Tryz.underlying152,
 a28:=Tryz.isAgg152,
 z28:=Tryz.sizeOf152,
 v28:=Tryz.zeroValue152,
 t33:=Tryz.underlying183,
 a33:=Tryz.isAgg183,
 z33:=Tryz.sizeOf183,
 v33:=Tryz.zeroValue183 }
def collInt_ren : Go.Shelf.Ren:=⟨fun | 8 => 81 | 11 => 132 | n => n,fun | 26 => 3 | 28 => 152 | 24 => 22 | 0 => 0 | 33 => 183 | 4 => 4 | n => n,fun | n => n⟩
theorem collInt : Go.Proofs.SlLaysZI.n8 Tryz.prog collInt_ren:={
 mixed:=by kernel_rfl,
 f8:=⟨Tryz.f81.name,by decide,Tryz.func81.trans (congrArg some (by kernel_rfl))⟩,
 f11:=⟨Tryz.f132.name,by decide,Tryz.func132.trans (congrArg some (by kernel_rfl))⟩,
 t0:=Tryz.underlying0,
 a0:=Tryz.isAgg0,
 z0:=Tryz.sizeOf0,
 v0:=Tryz.zeroValue0,
 t24:=Tryz.underlying22,
 a24:=Tryz.isAgg22,
 z24:=Tryz.sizeOf22,
 v24:=Tryz.zeroValue22,
 t26:=Tryz.underlying3,
 a26:=Tryz.isAgg3,
 z26:=Tryz.sizeOf3,
 v26:=Tryz.zeroValue3,
 t28:=Tryz.underlying152,
 a28:=Tryz.isAgg152,
 z28:=Tryz.sizeOf152,
 v28:=Tryz.zeroValue152,
 i26:=by kernel_rfl }
def noElem (_ : Value) : Option (DataW Unit × List MemPlace):=some (.nil,[])
def intV (v : Value) : Int:=match v with
 | .int _ a => a
 | _ => 0
theorem MapAt.owns {w : World} {b : Nat} {l : List (Nat × Nat)} (h : MapAt Tryz.prog 3 w b (l.map colPr)) (hl : l.length ≤ maxLen) :
  ∃ D : DataW Unit,w.ownsMap Tryz.prog 3 noElem b l.length D ∧ (Go.intKeys D).Perm (l.map fun x => (x.1 : Int)) ∧ Maps.size D = l.length:=by
 obtain ⟨es,clock,hb,hk⟩:=h
 have hsz : es.size = l.length:=by
  have:=congrArg List.length hk.prs
  simpa [prs] using this
 have hrg : ∀ x ∈ es.toList,Go.intOf (WideElems.rg Tryz.prog 3 noElem x).1 = intV x.key:=by
  intro x hx
  obtain ⟨kl,hkl⟩:=hk.keys x hx
  obtain ⟨z,h1,h2,-⟩:=Maps.keyOf_i64 Tryz.underlying3 hkl
  rw [WideElems.rg_of (WideElems.rd_mk (born:=x.born) hkl rfl),h2,h1]
  rfl
 refine ⟨_,⟨es,clock,hb,⟨by omega,hk.st,fun x hx => ?_⟩,by omega,rfl⟩,?_,?_⟩
 ·obtain ⟨kl,hkl⟩:=hk.keys x hx
  exact ⟨_,WideElems.rd_mk (born:=x.born) hkl rfl⟩
 ·show (((es.toList.map (WideElems.rg Tryz.prog 3 noElem)).foldr DataW.insert []).map fun p => Go.intOf p.1).Perm _
  refine ((WideShapes.sorted_perm _).map _).trans ?_
  generalize WideElems.rg Tryz.prog 3 noElem = f at hrg ⊢
  rw [List.map_map]
  have e1 : es.toList.map ((fun p => Go.intOf p.1) ∘ f) = (es.toList.map (fun e => (e.key,e.val))).map (fun p => intV p.1):=by
   rw [List.map_map]
   exact List.map_congr_left fun x hx => hrg x hx
  have e2 : es.toList.map (fun e => (e.key,e.val)) = l.map colPr:=hk.prs
  rw [e1,e2,List.map_map]
  exact .refl _
 ·show ((es.toList.map (WideElems.rg Tryz.prog 3 noElem)).foldr DataW.insert []).length = l.length
  rw [(WideShapes.sorted_perm _).length_eq,List.length_map]
  simpa using hsz
def KeysPost (B : Nat) (l : List (Nat × Nat)) (w : World) (e : Ending) (w' : World) : Prop :=
 ∃ (v : Value) (ss : List Int),e = .returned v ∧ ss.Perm (l.map fun x => (x.1 : Int)) ∧ w'.ownsRow B 3 1 v ss.length (ints ss) ∧ Below w.heap.size w w'
section
variable {w : World} {b : Nat} {l : List (Nat × Nat)}
set_option maxRecDepth 100000 in
theorem keys_any (w : World) (b : Nat) : Calls Tryz.prog 82 #[.map (some b)] w fun e w' => e = .returned (.func (.func 133) #[] #[.pointer (some ⟨w.heap.size,0,none⟩)]) ∧ w' = w.alloc (.cells #[.map (some b)] 112) :=
 (callsIn_wide (n:=5)).1 (AnyZI.keys_in keysTab Fence.wide 5 trivial rfl (some b) w)
set_option maxRecDepth 100000 in
theorem coll_any (h : MapAt Tryz.prog 3 w b (l.map colPr)) (hl : l.length ≤ 1000) :
  Calls Tryz.prog 81 #[.func (.func 133) #[] #[.pointer (some ⟨w.heap.size,0,none⟩)]] (w.alloc (.cells #[.map (some b)] 112)) (KeysPost w.heap.size l (w.alloc (.cells #[.map (some b)] 112))):=by
 obtain ⟨D,hD,hp,hs⟩:=h.owns (by unfold maxLen;omega)
 have hbl:=hD.lt
 have hseq : SeqGives Fence.wide 4 Tryz.prog 133 #[.pointer (some ⟨w.heap.size,0,none⟩)] encZ (fun ss => ss.Perm (Go.intKeys D)) (Maps.size D) (w.alloc (.cells #[.map (some b)] 112)) :=
  AnyZI.keys_gives (ρ:=keysTab_ren) { keysTab with } Fence.wide _ trivial rfl (by omega) w.heap.size b l.length D _ (by simp) (by simp) (by
   obtain ⟨es,clock,hb,Ft,hs,hD⟩:=hD
   exact ⟨es,clock,(Below.heap_alloc _ _ b hbl).trans hb,Ft,hs,hD⟩)
 have hc:=AnyZI.collect_in collInt Fence.wide 6 trivial trivial rfl (by omega) 133 #[.pointer (some ⟨w.heap.size,0,none⟩)] trivial (enters_of Tryz.func133 (by kernel_rfl) rfl) _ _ (by rw [hs];unfold maxLen;omega) (by rw [hs];omega) _ hseq
 refine ((callsIn_wide (n:=6)).1 hc).mono ?_
 rintro e w' ⟨v,ss,rfl,hS,hrow,-,hb⟩
 exact ⟨v,ss,rfl,hS.trans hp,ownsRow_base_a hrow (by simp),hb⟩
end
end Go.Proofs.YtfdillpofciicaaGreatDoor
namespace Go.Proofs.YtfdillpofciicaaGreatDoor
open Go Go.RowKit
def rowsK (rw : Nat → List Rw) (n t a : Int) (ks : List Int) : List Rw:=ks.flatMap (fun k => if matchesB k n t a = true then rw k.toNat else [])
theorem rowsK_snoc (rw : Nat → List Rw) (n t a : Int) (ks : List Int) (k : Int) : rowsK rw n t a (ks ++ [k]) = rowsK rw n t a ks ++ (if matchesB k n t a = true then rw k.toNat else []):=by
 unfold rowsK;rw [List.flatMap_append];simp
theorem rowsK_len {rw : Nat → List Rw} {n t a : Int} : ∀ {ks : List Int},(∀ k ∈ ks,(rw k.toNat).length ≤ 60) → (rowsK rw n t a ks).length ≤ 60 * ks.length
 | [],_ => by simp [rowsK]
 | k :: ks,h => by
  have ih:=rowsK_len (n:=n) (t:=t) (a:=a) (fun x hx => h x (List.mem_cons_of_mem _ hx))
  have h1:=h k (by simp)
  unfold rowsK at ih ⊢
  rw [List.flatMap_cons,List.length_append,List.length_cons,Nat.mul_add]
  have h2 : (if matchesB k n t a = true then rw k.toNat else []).length ≤ 60:=by
   split
   ·exact h1
   ·simp
  omega
section
variable {sl : Sl} {L : List Rw} {tb : List (Nat × Nat)} {rw : Nat → List Rw} {pl : List Pl}
theorem WCore.tabs (hc : WCore (· ∈ L) (tb.map (·.1)) rw pl) (hO : WOk sl L) : (∀ k ∈ tb.map (·.1),k < 256 ∧ (rw k).length ≤ 60) ∧ tb.length ≤ 256:=by
 have h1 : ∀ k ∈ tb.map (·.1),k < 256 ∧ (rw k).length ≤ 60:=by
  intro k hk
  have hl:=hc.len (fun _ h => h) hk
  have:=hO.len
  refine ⟨?_,by omega⟩
  have hne:=hc.ne k hk
  cases hr : rw k with
  | nil => exact absurd hr hne
  | cons x r =>
   obtain ⟨h2,h3,-⟩:=hc.row k hk 0 x (by rw [hr];rfl)
   exact (beastZ_good (hO.be x h2) h3).2
 refine ⟨h1,?_⟩
 have h2 : (tb.map (·.1)).length ≤ (List.range 256).length:=List.Nodup.length_le_of_subset hc.tn (fun k hk => List.mem_range.2 (h1 k hk).1)
 simpa using h2
theorem rowsK_mem (hc : WCore (· ∈ L) (tb.map (·.1)) rw pl) {ks : List Int} (hp : ks.Perm (tb.map fun x => (x.1 : Int))) (n t a : Int) (y : Rw) : y ∈ rowsK rw n t a ks ↔ y ∈ rowsM L n t a:=by
 unfold rowsK rowsM
 rw [List.mem_flatMap,List.mem_filter]
 constructor
 ·rintro ⟨k,hk,hy⟩
  split at hy
  ·next hm =>
   obtain ⟨x,hx,rfl⟩:=List.mem_map.1 (hp.mem_iff.1 hk)
   rw [Int.toNat_natCast] at hy
   obtain ⟨i,hi⟩:=List.mem_iff_getElem?.1 hy
   obtain ⟨h2,h3,-⟩:=hc.row x.1 (List.mem_map.2 ⟨x,hx,rfl⟩) i y hi
   exact ⟨h2,by rw [h3];exact hm⟩
  ·simp at hy
 ·rintro ⟨hy,hm⟩
  obtain ⟨s,k,i,h1,h2,h3⟩:=hc.has y hy
  obtain ⟨hk,-⟩:=hc.pla s k i h2
  obtain ⟨-,h5,-⟩:=hc.row k hk i y h3
  obtain ⟨x,hx,rfl⟩:=List.mem_map.1 hk
  refine ⟨(x.1 : Int),hp.mem_iff.2 (List.mem_map.2 ⟨x,hx,rfl⟩),?_⟩
  rw [h5] at hm
  rw [if_pos hm,Int.toNat_natCast]
  exact List.mem_of_getElem? h3
theorem rowsK_nodup (hc : WCore (· ∈ L) (tb.map (·.1)) rw pl) {ks : List Int} (hp : ks.Perm (tb.map fun x => (x.1 : Int))) (n t a : Int) : (rowsK rw n t a ks).Nodup:=by
 have hin : ∀ k ∈ ks,∃ x ∈ tb,k = (x.1 : Int):=fun k hk => by
  obtain ⟨x,hx,e⟩:=List.mem_map.1 (hp.mem_iff.1 hk)
  exact ⟨x,hx,e.symm⟩
 have hkn : ks.Nodup:=by
  refine List.Nodup.perm ?_ hp.symm
  have:=hc.tn
  unfold List.Nodup at this ⊢
  rw [List.pairwise_map] at this ⊢
  exact this.imp (fun h e => h (by omega))
 unfold rowsK List.Nodup
 rw [List.pairwise_flatMap]
 refine ⟨fun k hk => ?_,?_⟩
 ·split
  ·obtain ⟨x,hx,rfl⟩:=hin k hk
   rw [Int.toNat_natCast]
   refine List.pairwise_iff_getElem.2 fun i j hi hj hij e => ?_
   have hkt : x.1 ∈ tb.map (·.1):=List.mem_map.2 ⟨x,hx,rfl⟩
   obtain ⟨-,-,s,q1,q2⟩:=hc.row x.1 hkt i _ (List.getElem?_eq_getElem hi)
   obtain ⟨-,-,s',q3,q4⟩:=hc.row x.1 hkt j _ (List.getElem?_eq_getElem hj)
   rw [e] at q1
   have : s = s':=by omega
   subst this
   have:=key_one hc.pn q2 q4
   simp only [Prod.mk.injEq] at this
   omega
  ·exact .nil
 ·refine List.Pairwise.imp_of_mem ?_ hkn
  intro k1 k2 hk1 hk2 hne x hx y hy e
  subst e
  split at hx
  ·split at hy
   ·obtain ⟨x1,hx1,rfl⟩:=hin k1 hk1
    obtain ⟨x2,hx2,rfl⟩:=hin k2 hk2
    rw [Int.toNat_natCast] at hx hy
    obtain ⟨i,hi⟩:=List.mem_iff_getElem?.1 hx
    obtain ⟨j,hj⟩:=List.mem_iff_getElem?.1 hy
    obtain ⟨-,h3,-⟩:=hc.row x1.1 (List.mem_map.2 ⟨x1,hx1,rfl⟩) i _ hi
    obtain ⟨-,h4,-⟩:=hc.row x2.1 (List.mem_map.2 ⟨x2,hx2,rfl⟩) j _ hj
    exact hne (by omega)
   ·simp at hy
  ·simp at hx
end
end Go.Proofs.YtfdillpofciicaaGreatDoor
namespace Go.Proofs.YtfdillpofciicaaGreatDoor
open Go Go.RowKit Go.Shelf Go.Sort
attribute [local go_sem] AllFrom.cons_eq AllFrom.nil_eq putF_nil putF_cons wantedL_none wantedL_some OpGoalT OpGoalV OpGoalQ OpGoalA OpGoalK YieldsR preF_nil preF_cons
section
variable {sl : Sl} {L : List Rw} {tb : List (Nat × Nat)} {rw : Nat → List Rw} {pl : List Pl}
theorem ltRow_eq (x y : Rw) : ltOf (fun x y : Rw => Lib.compareInt x.1.1 y.1.1) x y = decide (x.1.1 < y.1.1):=by
 unfold ltOf Lib.compareInt
 by_cases h1 : x.1.1 < y.1.1
 ·simp [h1]
 ·by_cases h2 : y.1.1 < x.1.1 <;> simp [h1,h2]
theorem swoRow : SWO (ltOf fun x y : Rw => Lib.compareInt x.1.1 y.1.1) where
 irrefl x:=by rw [ltRow_eq];simp
 trans x y z h1 h2:=by rw [ltRow_eq] at *;simp at *;omega
 ntrans x y z h1 h2:=by rw [ltRow_eq] at *;simp at *;omega
theorem rows_sorted (hc : WCore (· ∈ L) (tb.map (·.1)) rw pl) (hO : WOk sl L) {ks : List Int} (hp : ks.Perm (tb.map fun x => (x.1 : Int))) (n t a : Int) {l' : List Rw} (h1 : l'.Perm (rowsK rw n t a ks)) (h2 : l'.Pairwise (fun x y => ltOf (fun x y : Rw => Lib.compareInt x.1.1 y.1.1) y x = false)) : l' = rowsM L n t a:=by
 have hs : (rowsM L n t a).Pairwise (fun x y => x.1.1 < y.1.1):=List.Pairwise.sublist List.filter_sublist hO.sorted
 have hn : (rowsM L n t a).Nodup:=hs.imp (fun h e => by rw [e] at h;omega)
 have h3 : l'.Perm (rowsM L n t a):=h1.trans ((List.perm_ext_iff_of_nodup (rowsK_nodup hc hp n t a) hn).2 (rowsK_mem hc hp n t a))
 refine List.Perm.eq_of_pairwise (le:=fun x y : Rw => x.1.1 ≤ y.1.1) (fun x y hx hy e1 e2 => ?_) (h2.imp (fun h => by rw [ltRow_eq] at h;simpa using h)) (hs.imp (fun h => by omega)) h3
 have hx2:=(List.mem_filter.1 (h3.mem_iff.1 hx)).1
 have hy2:=(List.mem_filter.1 hy).1
 exact hO.one hx2 hy2 (by omega)
end
set_option maxRecDepth 20000 in
theorem compare_any (x y : Int) (w : World) : Calls Tryz.prog 88 #[.int .i64 x,.int .i64 y] w fun e w' => e = .returned (.int .i64 (Lib.compareInt x y)) ∧ w = w':=by
 unfold Lib.compareInt
 by_cases h1 : x < y
 ·rw [if_pos h1]
  go_enter Tryz.func88,Tryz.ntmps88
  go_wp2
  go_ret
  exact ⟨rfl,rfl⟩
 ·rw [if_neg h1]
  by_cases h2 : y < x
  ·rw [if_pos h2]
   go_enter Tryz.func88,Tryz.ntmps88
   go_wp2
   go_ret
   exact ⟨rfl,rfl⟩
  ·rw [if_neg h2]
   go_enter Tryz.func88,Tryz.ntmps88
   go_wp2
   go_ret
   exact ⟨rfl,rfl⟩
set_option maxRecDepth 20000 in
set_option maxHeartbeats 2000000 in
theorem cmpRow_any (x y : Rw) (W : World) : Calls Tryz.prog 87 #[.agg (rwC x).toArray,.agg (rwC y).toArray] W fun e w' => e = .returned (.int .i64 (Lib.compareInt x.1.1 y.1.1)) ∧ ∃ q os,w' = grow (W.drewN q) os:=by
 obtain ⟨⟨s1,g1⟩,K1,a0,a1,a2,a3,a4,a5,a6,a7⟩:=x
 obtain ⟨⟨s2,g2⟩,K2,c0,c1,c2,c3,c4,c5,c6,c7⟩:=y
 have hcon:=compare_any s1 s2
 simp only
 generalize Lib.compareInt s1 s2 = r at hcon ⊢
 show Calls Tryz.prog 87 #[.agg #[.int .i64 s1,.int .i64 g1,.int .i64 K1,.int .i64 a0,.int .i64 a1,.int .i64 a2,.int .i64 a3,.int .i64 a4,.int .i64 a5,.int .i64 a6,.int .i64 a7],.agg #[.int .i64 s2,.int .i64 g2,.int .i64 K2,.int .i64 c0,.int .i64 c1,.int .i64 c2,.int .i64 c3,.int .i64 c4,.int .i64 c5,.int .i64 c6,.int .i64 c7]] W _
 have HC:=Lib.hid hcon
 clear hcon
 go_enter Tryz.func87,Tryz.ntmps87
 go_wp2_with fail
 refine (HC.out _).mono ?_
 rintro e w' ⟨rfl,rfl⟩
 go_wp2
 go_ret
 exact ⟨rfl,0,_,by rw [alloc_eq_grow,alloc_eq_grow,grow_grow];rfl⟩
def sortRowL_ren : Go.Shelf.Ren:=⟨fun | 6 => 86 | 15 => 137 | 14 => 136 | 28 => 183 | 29 => 184 | 20 => 175 | 21 => 176 | 22 => 177 | 23 => 178 | 24 => 179 | 25 => 180 | 26 => 181 | 27 => 182 | 46 => 215 | 47 => 216 | 48 => 217 | 49 => 218 | 50 => 219 | 57 => 243 | n => n,fun | 22 => 23 | 24 => 56 | 25 => 57 | 3 => 3 | 39 => 225 | 0 => 0 | 53 => 260 | 55 => 239 | 4 => 4 | 46 => 254 | 45 => 253 | 50 => 92 | 5 => 5 | 9 => 9 | 66 => 292 | 70 => 296 | 76 => 319 | 77 => 320 | n => n,fun | n => n⟩
theorem sortRowL : Go.Proofs.SlLaysF0.n6 Tryz.prog sortRowL_ren:={
 mixed:=by kernel_rfl,
 f6:=⟨Tryz.f86.name,by decide,Tryz.func86.trans (congrArg some (by kernel_rfl))⟩,
 f14:=⟨Tryz.f136.name,by decide,Tryz.func136.trans (congrArg some (by kernel_rfl))⟩,
 f15:=Tryz.func137.trans (congrArg some (by kernel_rfl)),
 f20:=⟨Tryz.f175.name,by decide,Tryz.func175.trans (congrArg some (by kernel_rfl))⟩,
 f21:=⟨Tryz.f176.name,by decide,Tryz.func176.trans (congrArg some (by kernel_rfl))⟩,
 f22:=⟨Tryz.f177.name,by decide,Tryz.func177.trans (congrArg some (by kernel_rfl))⟩,
 f23:=⟨Tryz.f178.name,by decide,Tryz.func178.trans (congrArg some (by kernel_rfl))⟩,
 f24:=⟨Tryz.f179.name,by decide,Tryz.func179.trans (congrArg some (by kernel_rfl))⟩,
 f25:=⟨Tryz.f180.name,by decide,Tryz.func180.trans (congrArg some (by kernel_rfl))⟩,
 f26:=⟨Tryz.f181.name,by decide,Tryz.func181.trans (congrArg some (by kernel_rfl))⟩,
 f27:=⟨Tryz.f182.name,by decide,Tryz.func182.trans (congrArg some (by kernel_rfl))⟩,
 f28:=Tryz.func183.trans (congrArg some (by kernel_rfl)),
 f29:=Tryz.func184.trans (congrArg some (by kernel_rfl)),
 f46:=⟨Tryz.f215.name,by decide,Tryz.func215.trans (congrArg some (by kernel_rfl))⟩,
 f47:=Tryz.func216.trans (congrArg some (by kernel_rfl)),
 f48:=Tryz.func217.trans (congrArg some (by kernel_rfl)),
 f49:=⟨Tryz.f218.name,by decide,Tryz.func218.trans (congrArg some (by kernel_rfl))⟩,
 f50:=⟨Tryz.f219.name,by decide,Tryz.func219.trans (congrArg some (by kernel_rfl))⟩,
 f57:=⟨Tryz.f243.name,by decide,Tryz.func243.trans (congrArg some (by kernel_rfl))⟩,
 t0:=Tryz.underlying0,
 a0:=Tryz.isAgg0,
 z0:=Tryz.sizeOf0,
 v0:=Tryz.zeroValue0,
 t3:=Tryz.underlying3,
 a3:=Tryz.isAgg3,
 z3:=Tryz.sizeOf3,
 v3:=Tryz.zeroValue3,
 t4:=Tryz.underlying4,
 a4:=Tryz.isAgg4,
 z4:=Tryz.sizeOf4,
 v4:=Tryz.zeroValue4,
 t5:=Tryz.underlying5,
 a5:=Tryz.isAgg5,
 z5:=Tryz.sizeOf5,
 v5:=Tryz.zeroValue5,
 t9:=Tryz.underlying9,
 a9:=Tryz.isAgg9,
 z9:=Tryz.sizeOf9,
 v9:=Tryz.zeroValue9,
 t22:=Tryz.underlying23,
 a22:=Tryz.isAgg23,
 z22:=Tryz.sizeOf23,
 v22:=Tryz.zeroValue23,
 t25:=Tryz.underlying57,
 a25:=Tryz.isAgg57,
 z25:=Tryz.sizeOf57,
 v25:=Tryz.zeroValue57,
 t39:=Tryz.underlying225,
 a39:=Tryz.isAgg225,
 z39:=Tryz.sizeOf225,
 v39:=Tryz.zeroValue225,
 t45:=Tryz.underlying253,
 a45:=Tryz.isAgg253,
 z45:=Tryz.sizeOf253,
 v45:=Tryz.zeroValue253,
 t46:=Tryz.underlying254,
 a46:=Tryz.isAgg254,
 z46:=Tryz.sizeOf254,
 v46:=Tryz.zeroValue254,
 t50:=Tryz.underlying92,
 a50:=Tryz.isAgg92,
 z50:=Tryz.sizeOf92,
 v50:=Tryz.zeroValue92,
 t53:=Tryz.underlying260,
 a53:=Tryz.isAgg260,
 z53:=Tryz.sizeOf260,
 v53:=Tryz.zeroValue260,
 t55:=Tryz.underlying239,
 a55:=Tryz.isAgg239,
 z55:=Tryz.sizeOf239,
 v55:=Tryz.zeroValue239,
 t66:=Tryz.underlying292,
 a66:=Tryz.isAgg292,
 z66:=Tryz.sizeOf292,
 v66:=Tryz.zeroValue292,
 t70:=Tryz.underlying296,
 a70:=Tryz.isAgg296,
 z70:=Tryz.sizeOf296,
 v70:=Tryz.zeroValue296,
 t76:=Tryz.underlying319,
 a76:=Tryz.isAgg319,
 z76:=Tryz.sizeOf319,
 v76:=Tryz.zeroValue319,
 t77:=Tryz.underlying320,
 a77:=Tryz.isAgg320,
 z77:=Tryz.sizeOf320,
 v77:=Tryz.zeroValue320 }
theorem sortRows_any {w : World} {B : Nat} {v : Value} {l : List Rw} (hown : w.ownsRow B 56 11 v l.length (l.flatMap rwC)) (hl : l.length < 1200000000000) :
  Calls Tryz.prog 86 #[v,.func (.func 87) #[] #[]] w (SortedRow rwC 11 B 56 (ltOf fun x y : Rw => Lib.compareInt x.1.1 y.1.1) l v w) :=
 sort_own sortRowL Tryz.isAgg56 Tryz.sizeOf56 rwC_len rwC_one _ swoRow 87 (enters_of Tryz.func87 (by kernel_rfl) rfl) cmpRow_any hown (by omega)
end Go.Proofs.YtfdillpofciicaaGreatDoor
namespace Go.Proofs.YtfdillpofciicaaGreatDoor
open Go Go.RowKit
attribute [local go_sem] AllFrom.cons_eq AllFrom.nil_eq putF_nil putF_cons wantedL_none wantedL_some OpGoalT OpGoalV OpGoalQ OpGoalA OpGoalK YieldsR preF_nil preF_cons
set_option maxRecDepth 20000 in
set_option maxHeartbeats 4000000 in
theorem wrows_any {w : World} {p : Nat} {sl : Sl} {L : List Rw} {F : List Nat} (h : RepW w p sl L F) (n t a : Int) :
  Calls Tryz.prog 44 #[.pointer (some ⟨p,0,none⟩),.agg #[.int .i64 n,.int .i64 t,.int .i64 a]] w (RowsPost w.heap.size L n t a w):=by
 obtain ⟨w0,hw0,hb0,hz0,hs0⟩:=box1 w (.cells #[.int .i64 n,.int .i64 t,.int .i64 a] 100)
 have H1:=Lib.hid (checkQuery_any n t a)
 have h0:=h.below hb0
 obtain ⟨r0,r1,r2,rl⟩:=cells3 hz0
 unfold RowsPost
 cases hz : qcheck n t a == 0 with
 | false =>
  have he : qcheck n t a ≠ 0:=by simpa using hz
  rw [if_neg he]
  have hq : (qcheck n t a != 0) = true:=by simpa using he
  generalize qcheck n t a = z at *
  obtain ⟨Hb0,Hs0⟩:=hid2 hb0 hs0
  clear hb0 hs0
  clear hz0 h0 he h
  go_enter Tryz.func44,Tryz.ntmps44
  go_wp2_with fail
  clear hw0
  refine (H1.out _).mono ?_
  rintro e w1 ⟨rfl,hb1⟩
  have hB:=Hb0.out.trans (hb1.mono Hb0.out.size)
  have HB:=Lib.hid hB
  clear hB
  clear hb1
  go_wp2
  go_ret2
  exact ⟨_,rfl,⟨rfl,.inl ⟨rfl,rfl⟩⟩,HB.out⟩
 | true =>
  have he : qcheck n t a = 0:=by simpa using hz
  rw [if_pos he]
  simp only [he] at H1
  rw [he]
  obtain ⟨ps,mt,mp,tb,rw,pl,FS,Fs,c,hW,hC,hO,-⟩:=h0
  obtain ⟨Hb0,Hs0,HW0,HC,HO,Hz0⟩:=hid6 hb0 hs0 hW hC hO hz0
  clear hb0 hs0 hW hC hO hz0
  clear h hz he
  go_enter Tryz.func44,Tryz.ntmps44
  go_wp2_with fail
  clear hw0
  refine (H1.out _).mono ?_
  rintro e w1 ⟨rfl,hb1⟩
  have hB:=Hb0.out.trans (hb1.mono Hb0.out.size)
  have hz1:=(Mod.ofBelow hb1).keep Hz0.out (by simp)
  have hW1:=HW0.out.below hb1
  have e0:=blk_cell hW1.blk 1
  simp only [eA,eZ,eS] at e0
  have hpl:=blk_lt hW1.blk
  have H2:=Lib.hid (coll_any hW1.tm (by have:=(HC.out.tabs HO.out).2;omega))
  obtain ⟨HB,Hz1,HW1⟩:=hid3 hB hz1 hW1
  clear hB hz1 hW1
  clear hb1 r0 r1 r2 rl
  go_wp2_with fail
  refine (keys_any _ _).mono ?_
  rintro e w2 ⟨rfl,rfl⟩
  go_wp2_with fail
  refine H2.out.mono ?_
  rintro e w3 ⟨vk,ss,rfl,hp,hks,hb3⟩
  have hb13 : Below w1.heap.size w1 w3:=((Below.refl w1.heap.size w1).alloc (Nat.le_refl _) _).trans (hb3.mono (by simp))
  obtain ⟨Ak,ck,hvk,hck,hck2⟩:=row_slice hks
  subst hvk
  have hlk : ss.length ≤ 256:=by
   have h1:=hp.length_eq
   rw [List.length_map] at h1
   have:=(HC.out.tabs HO.out).2
   omega
  have hz3:=(Mod.ofBelow hb13).keep Hz1.out (by simp)
  have hW3:=HW1.out.below hb13
  have hB3:=HB.out.trans (hb13.mono HB.out.size)
  obtain ⟨HP,HKS,Hz3,HW3,HB3⟩:=hid5 hp hks hz3 hW3 hB3
  clear hp hks hz3 hW3 hB3
  clear hb13 hb3 e0 hpl hck hck2
  go_wp2_with fail
  go_loopw [7,26] (fun v i wr => ∃ m : Nat,m ≤ ss.length ∧ i = .int .i64 m ∧ wr.ownsRow w3.heap.size 56 11 v (rowsK rw n t a (ss.take m)).length ((rowsK rw n t a (ss.take m)).flatMap rwC) ∧ Below w3.heap.size w3 wr) (fun _ i _ => ss.length - (Go.RowKit.intOf i).toNat)
  case atStart => exact ⟨0,by omega,rfl,⟨rfl,.inl ⟨rfl,rfl⟩⟩,Below.refl _ _⟩
  case round =>
   obtain ⟨m,hm,rfl,hown,hbel⟩:=hrel
   have hzr:=(Mod.ofBelow hbel).keep Hz3.out (by simp)
   have hWr:=HW3.out.below hbel
   have hBr:=HB3.out.trans (hbel.mono HB3.out.size)
   by_cases hlt : m < ss.length
   ·have hkr:=row_mod HKS.out (Mod.ofBelow hbel) (by simp)
    obtain ⟨gk,ck2,-,hv,-,-,-⟩:=row_some hkr (by omega)
    cases hv
    have hcell:=row_cell hkr (i:=m) (u:=.int .i64 ss[m]) (by unfold ints;rw [List.getElem?_map,List.getElem?_eq_getElem hlt];rfl)
    have hgk:=row_lt hkr gk rfl
    obtain ⟨⟨kn,b⟩,hx,hxe⟩:=List.mem_map.1 (HP.out.mem_iff.1 (List.getElem_mem hlt))
    simp only at hxe
    rw [← hxe] at hcell
    have hkt : kn ∈ tb.map (·.1):=List.mem_map.2 ⟨_,hx,rfl⟩
    obtain ⟨hkn,hl60⟩:=(HC.out.tabs HO.out).1 kn hkt
    have hsn : rowsK rw n t a (ss.take (m + 1)) = rowsK rw n t a (ss.take m) ++ (if matchesB (kn : Int) n t a = true then rw kn else []):=by
     rw [take_succ_get ss m hlt,rowsK_snoc,← hxe,Int.toNat_natCast]
    have hlen : (rowsK rw n t a (ss.take m)).length ≤ 60 * m:=by
     have h1:=rowsK_len (rw:=rw) (n:=n) (t:=t) (a:=a) (ks:=ss.take m) (fun k hk => by
      obtain ⟨x,hx,rfl⟩:=List.mem_map.1 (HP.out.mem_iff.1 (List.mem_of_mem_take hk))
      rw [Int.toNat_natCast]
      exact ((HC.out.tabs HO.out).1 x.1 (List.mem_map.2 ⟨x,hx,rfl⟩)).2)
     rw [List.length_take,Nat.min_eq_left hm] at h1
     exact h1
    generalize rowsK rw n t a (ss.take m) = M at *
    have hmi : (m : Int) < (ss.length : Int):=by omega
    have H8:=Lib.hid (matches_any (kn : Int) n t a)
    obtain ⟨r0,r1,r2,rl⟩:=cells3 hzr
    generalize hmz : matchesB (kn : Int) n t a = z at *
    obtain ⟨HWr,HBr,Hkr,Hown,Hbel,Hsn,Hlen,Hxe,Hx,Hkt,Hkn,Hl60,Hzr,Hmz⟩:=hid14 hWr hBr hkr hown hbel hsn hlen hxe hx hkt hkn hl60 hzr hmz
    clear hWr hBr hkr hown hbel hsn hlen hxe hx hkt hkn hl60 hzr hmz
    cases z with
    | false =>
     go_wp2_with fail
     refine (H8.out _).mono ?_
     rintro e w4 ⟨rfl,hb4⟩
     have ho4:=row_mod Hown.out (Mod.ofBelow hb4) (by simp)
     have hB4:=Hbel.out.trans (hb4.mono Hbel.out.size)
     have hsn:=Hsn.out
     rw [if_neg (by simp),List.append_nil] at hsn
     obtain ⟨Ho4,HB4,Hsn2⟩:=hid3 ho4 hB4 hsn
     clear ho4 hB4 hsn
     clear hb4
     go_wp2
     go_roundw
     case rel => exact ⟨m + 1,by omega,by go_num,by rw [Hsn2.out];exact Ho4.out,HB4.out⟩
     case measure => simp [Go.RowKit.intOf];omega
    | true =>
     go_wp2_with fail
     refine (H8.out _).mono ?_
     rintro e w4 ⟨rfl,hb4⟩
     have ho4:=row_mod Hown.out (Mod.ofBelow hb4) (by simp)
     have hW4:=HWr.out.below hb4
     have hB4:=Hbel.out.trans (hb4.mono Hbel.out.size)
     have e0:=blk_cell hW4.blk 1
     simp only [eA,eZ,eS] at e0
     have hpl:=blk_lt hW4.blk
     have hlk:=mi_in colPr_keys Tryz.underlying112 hW4.tm Hkn.out Hx.out false
     simp only [colPr,Bool.false_eq_true,if_false] at hlk
     have H10:=Lib.hid (rt_handles (hW4.tab _ Hx.out) (by have:=Hl60.out;simp only;omega))
     have hsn:=Hsn.out
     rw [if_pos (by simp)] at hsn
     obtain ⟨Ho4,HB4,Hsn2,HW4⟩:=hid4 ho4 hB4 hsn hW4
     clear ho4 hB4 hsn hW4
     clear hb4 r0 r1 r2 rl hcell hgk
     go_wp2_with fail
     refine H10.out.mono ?_
     rintro e w5 ⟨vh,rfl,hvh,hb5⟩
     obtain ⟨Ah,ch,hve,-,-⟩:=row_slice hvh
     subst hve
     have ho5:=row_mod Ho4.out (Mod.ofBelow hb5) (by simp)
     have hB5:=HB4.out.trans (hb5.mono HB4.out.size)
     have hl:=Hl60.out
     obtain ⟨Ho5,HB5⟩:=hid2 ho5 hB5
     clear ho5 hB5
     clear hvh hb5 e0 hpl hlk
     go_wp2_with fail
     go_loopw [7,43] (fun v j wu => ∃ u : Nat,u ≤ (rw kn).length ∧ j = .int .i64 u ∧ wu.ownsRow w3.heap.size 56 11 v (M ++ (rw kn).take u).length ((M ++ (rw kn).take u).flatMap rwC) ∧ Below w3.heap.size w3 wu) (fun _ j _ => (rw kn).length - (Go.RowKit.intOf j).toNat)
     case atStart => exact ⟨0,by omega,rfl,by simpa using Ho5.out,HB5.out⟩
     case round =>
      obtain ⟨u,hu,rfl,hou,hbu⟩:=hrel
      have hWu:=HW3.out.below hbu
      by_cases hul : u < (rw kn).length
      ·have hxu : (rw kn)[u]? = some (rw kn)[u]:=List.getElem?_eq_getElem hul
       obtain ⟨x,hxx⟩ : ∃ x,(rw kn)[u] = x:=⟨_,rfl⟩
       rw [hxx] at hxu
       obtain ⟨hxL,hxk,-⟩:=HC.out.row kn Hkt.out u x hxu
       have hgood:=(beastZ_good (HO.out.be x hxL) hxk).1
       have h13:=rt_row (hWu.tab _ Hx.out) hxu hgood (by simp only;omega)
       have hst : M ++ (rw kn).take (u + 1) = (M ++ (rw kn).take u) ++ [x]:=by
        rw [take_succ_get _ u hul,hxx,List.append_assoc]
       have hlm : (M ++ (rw kn).take u).length < 1200000000000:=by
        rw [List.length_append,List.length_take];have:=Hlen.out;omega
       generalize M ++ (rw kn).take u = M2 at *
       obtain ⟨⟨s1,g1⟩,K1,a0,a1,a2,a3,a4,a5,a6,a7⟩:=x
       simp only at hxk
       subst hxk
       have hui : (u : Int) < ((rw kn).length : Int):=by omega
       rw [show (rwC ((s1,g1),(kn : Int),a0,a1,a2,a3,a4,a5,a6,a7)).toArray = #[.int .i64 s1,.int .i64 g1,.int .i64 (kn : Int),.int .i64 a0,.int .i64 a1,.int .i64 a2,.int .i64 a3,.int .i64 a4,.int .i64 a5,.int .i64 a6,.int .i64 a7] from rfl] at h13
       obtain ⟨HWu,Hou,Hst,Hbu,Hlm,H13⟩:=hid6 hWu hou hst hbu hlm h13
       clear hWu hou hst hbu hlm h13
       clear hxu hxL hgood hxx
       go_wp2_with fail
       refine H13.out.mono ?_
       rintro e w6 ⟨rfl,hb6⟩
       obtain ⟨w7,hw7⟩ : ∃ w7,w6.alloc (.cells #[.int .i64 s1,.int .i64 g1,.int .i64 (kn : Int),.int .i64 a0,.int .i64 a1,.int .i64 a2,.int .i64 a3,.int .i64 a4,.int .i64 a5,.int .i64 a6,.int .i64 a7] 56) = w7:=⟨_,rfl⟩
       have hb7 : Below w6.heap.size w6 w7:=by rw [← hw7];exact (Below.refl _ _).alloc (Nat.le_refl _) _
       have hz7 : w7.heap[w6.heap.size]? = some (.cells #[.int .i64 s1,.int .i64 g1,.int .i64 (kn : Int),.int .i64 a0,.int .i64 a1,.int .i64 a2,.int .i64 a3,.int .i64 a4,.int .i64 a5,.int .i64 a6,.int .i64 a7] 56 (0,0)):=by rw [← hw7];exact heap_alloc_new w6 _
       have hb67:=hb6.trans (hb7.mono hb6.size)
       have hou7:=row_mod Hou.out (Mod.ofBelow hb67) (by simp)
       have hbu7:=Hbu.out.trans (hb67.mono Hbu.out.size)
       obtain ⟨x0,x1,x2,x3,x4,x5,x6,x7,x8,x9,x10,xl⟩:=cells11 hz7
       obtain ⟨Hou7,Hbu7⟩:=hid2 hou7 hbu7
       clear hou7 hbu7
       clear hb6 hb7 hz7 hb67
       go_wp2_with (at_builtin;(refine app_row rfl _ _ rfl w3.heap.size _ M2 ((s1,g1),(kn : Int),a0,a1,a2,a3,a4,a5,a6,a7) ⟨w7.heap.size,0,none⟩ 1 rfl (Hou7.out.alloc _) rfl (new_rec (by simp) rfl) Hlm.out (by have:=Hbu7.out.size;simp;omega) ?_);intro v' w8 hown8 hb8)
       go_roundw
       case rel => exact ⟨u + 1,by omega,by go_num,by rw [Hst.out];exact hown8,(Hbu7.out.alloc Hbu7.out.size _).trans hb8⟩
       case measure => simp [Go.RowKit.intOf];omega
      ·obtain rfl : u = (rw kn).length:=by omega
       rw [List.take_length] at hou
       obtain ⟨Hou,HBu⟩:=hid2 hou hbu
       clear hou hbu
       clear hWu
       go_wp2
       go_roundw
       case rel => exact ⟨m + 1,by omega,by go_num,by rw [Hsn2.out];exact Hou.out,HBu.out⟩
       case measure => simp [Go.RowKit.intOf];omega
   ·obtain rfl : m = ss.length:=by omega
    rw [List.take_length] at hown
    have hlen : (rowsK rw n t a ss).length ≤ 60 * ss.length:=rowsK_len (fun k hk => by
      obtain ⟨x,hx,rfl⟩:=List.mem_map.1 (HP.out.mem_iff.1 hk)
      rw [Int.toNat_natCast]
      exact ((HC.out.tabs HO.out).1 x.1 (List.mem_map.2 ⟨x,hx,rfl⟩)).2)
    have H17:=Lib.hid (sortRows_any hown (by omega))
    obtain ⟨HBr,Hown⟩:=hid2 hBr hown
    clear hBr hown
    clear hzr hWr hbel hlen
    go_wp2_with fail
    refine H17.out.mono ?_
    rintro e w9 ⟨rfl,l',hl1,hl2,hown9,hm9⟩
    have hl':=rows_sorted HC.out HO.out HP.out n t a hl1 hl2
    subst hl'
    have hB9 : Below w.heap.size w w9:=HBr.out.trans (hm9.toBelow (fun y hy => Nat.le_trans HB3.out.size (Hown.out.lt y (by simpa using hy)).1) HBr.out.size)
    have hown9:=row_base hown9 (B':=w.heap.size) (fun k hk => Nat.le_trans HB3.out.size (hown9.lt k hk).1)
    obtain ⟨Hown9,HB9⟩:=hid2 hown9 hB9
    clear hown9 hB9
    clear hl1 hl2 hm9
    go_wp2
    go_ret2
    exact ⟨_,rfl,Hown9.out,HB9.out⟩
end Go.Proofs.YtfdillpofciicaaGreatDoor
