import Derived.Test.YtfdillpofciicaaGreatDoorTextPrintsJ20
/- A part of the proof that TextPrints returns true. -/
namespace Go.Proofs.YtfdillpofciicaaGreatDoor
open Go Go.RowKit
def ownHl (w : World) (B : Nat) (v : Value) (l : List Hd) : Prop:=w.ownsRow B 47 2 v l.length (l.flatMap handleC)
theorem sz_Hdl (x : Hd) : (Tryz.prog.info? 47).map (·.size) = some (handleC x).length:=by rw [handleC_len];kernel_rfl
theorem ownHl_set {w : World} {B g cap n : Nat} {l : List Hd} (hn : l.length = n) (h : w.ownsRow B 47 2 (.slice (some ⟨g,0,none⟩) n cap) n (l.flatMap handleC)) {k : Nat} (hk : k < n) (y : Hd) :
  (w.setCells g (k * 2) (handleC y)).ownsRow B 47 2 (.slice (some ⟨g,0,none⟩) n cap) n ((l.set k y).flatMap handleC) ∧ w.there g (k * 2) (handleC y).length:=by
 subst hn
 have hlen:=flatV_length handleC_len l
 have hb : (k + 1) * 2 ≤ l.length * 2:=Nat.mul_le_mul_right _ hk
 refine ⟨?_,row_there h (by rw [hlen];show k * 2 + 2 ≤ _;omega)⟩
 have h2:=row_setCells (w:=w) (handleC y) (k * 2) w _ h
 rw [show k * 2 = k * 2 + 0 from rfl,setL_flat handleC_len l k hk 0 (handleC y) y (by rw [handleC_len];omega) (setL_all _ _ (by rw [handleC_len,handleC_len]))] at h2
 exact h2
theorem ownHl_load {w : World} {B g cap n : Nat} {l : List Hd} (hn : l.length = n) (h : w.ownsRow B 47 2 (.slice (some ⟨g,0,none⟩) n cap) n (l.flatMap handleC)) {k : Nat} (hk : k < n) (x : Hd) (hx : l[k]'(by omega) = x) : ∀ j u,(handleC x)[j]? = some u → w.cell? ((⟨g,k * 2,none⟩ : Addr).add j) = some u:=by
 subst hn;subst hx
 exact row_piece handleC_len h hk 0 (handleC l[k]) (fun j u hu => by rw [Nat.zero_add];exact hu)
attribute [local go_sem] AllFrom.cons_eq AllFrom.nil_eq putF_nil putF_cons wantedL_none wantedL_some OpGoalQ YieldsR preF_nil preF_cons
set_option maxRecDepth 20000 in
set_option maxHeartbeats 2000000 in
theorem reverseH_any (B : Nat) (v : Value) (l : List Hd) (w : World) (hl : l.length ≤ 9223372036854775807) (h : ownHl w B v l) :
  Calls Tryz.prog 98 #[v] w fun e w' => e = .returned (.tuple #[]) ∧ ownHl w' B v l.reverse ∧ Mod v.ownBlock.toList w w':=by
 obtain ⟨A,cap,rfl,-,-⟩:=row_slice h
 have H:=Lib.hid h
 have H0:=Lib.hid (revK_zero l)
 clear h
 go_enter Tryz.func98,Tryz.ntmps98
 go_wp2
 go_loopw [2,3] (fun i j wr => ∃ k : Nat,k ≤ l.length ∧ i = .int .i64 k ∧ j = .int .i64 ((l.length : Int) - 1 - k) ∧ ownHl wr B (.slice A l.length cap) (revK l k) ∧ Mod (Value.slice A l.length cap).ownBlock.toList w wr) (fun i _ _ => l.length - (Go.RowKit.intOf i).toNat)
 case atStart => exact ⟨0,by omega,rfl,by go_num,by rw [H0.out];exact H.out,Mod.refl _ _⟩
 case round =>
  obtain ⟨k,hk,rfl,rfl,hown,hmod⟩:=hrel
  by_cases hlt : 2 * k + 1 < l.length
  ·obtain ⟨m,hm⟩ : ∃ m : Nat,l.length - 1 - k = m:=⟨_,rfl⟩
   have hmi : (l.length : Int) - 1 - k = (m : Int):=by omega
   rw [hmi]
   have hstep:=revK_at l k m (by omega) (by omega)
   have hlr:=revK_length l k
   obtain ⟨L,hL⟩ : ∃ L,L = revK l k:=⟨_,rfl⟩
   have hgk : L[k]'(by rw [hL,hlr];omega) = l[k]:=by subst hL;rw [revK_get l k k (by omega),if_neg (by omega)]
   have hgm : L[m]'(by rw [hL,hlr];omega) = l[m]:=by subst hL;rw [revK_get l k m (by omega),if_neg (by omega)]
   rw [← hL] at hown hstep hlr
   have hown : wr.ownsRow B 47 2 (.slice A l.length cap) l.length (L.flatMap handleC):=by unfold ownHl at hown;rw [hlr] at hown;exact hown
   obtain ⟨g0,cap0,cur0,he,-,-,-⟩:=row_some hown (by omega)
   cases he
   have hld1:=ownHl_load (w:=wr.drew) hlr hown (k:=k) (by omega) l[k] hgk
   have hld2:=ownHl_load (w:=wr.drew) hlr hown (k:=m) (by omega) l[m] hgm
   obtain ⟨hs1,ht1⟩:=ownHl_set (w:=wr.drew) hlr hown (k:=k) (by omega) l[m]
   obtain ⟨hs2,ht2⟩:=ownHl_set ((List.length_set ..).trans hlr) hs1 (k:=m) (by omega) l[k]
   rw [hstep] at hs2
   have hs3 : ownHl ((wr.drew.setCells g0 (k * 2) (handleC l[m])).setCells g0 (m * 2) (handleC l[k])) B (.slice (some ⟨g0,0,none⟩) l.length cap) (revK l (k + 1)):=by unfold ownHl;rw [revK_length];exact hs2
   generalize l[m] = y at *
   generalize l[k] = x at *
   have hk1 : (k : Int) < (l.length : Int):=by omega
   have hm1 : (m : Int) < (l.length : Int):=by omega
   have hkm : (k : Int) < (m : Int):=by omega
   have hmod2:=mod_setCells (g:=g0) (F:=(Value.slice (some ⟨g0,0,none⟩) l.length cap).ownBlock.toList) (.inl (by simp [Value.ownBlock])) (handleC x) (m * 2) _ (mod_setCells (g:=g0) (.inl (by simp [Value.ownBlock])) (handleC y) (k * 2) _ hmod.drew)
   have Hkm:=Lib.hid (show k + m + 1 = l.length by omega)
   obtain ⟨H1,H2,H3,H4,H5,H6⟩:=hid6 hld1 hld2 hs3 ht1 ht2 hmod2
   have O1:=Lib.hid (handleC_one x);have O2:=Lib.hid (handleC_one y)
   clear hld1 hld2 hs1 hs2 hs3 ht1 ht2 hmod2 hmod hown hstep hgk hgm hL hlr hm hmi H
   go_wp2
   refine wp_planR 13 [0,1,2,3,4,5,8,9] [some 14,some 15,some 16,some 17,some 18,some 19,some 20,some 21,some 22,some 23,some 24,some 25,some 26,none,some 27,none] [[],[],[],[],[],[],[4,5],[4,5,6],[],[],[8,9],[8,9,10],[0,1,4,5,6,7,8,9,10,11],[0,1,4,5,6,7,8,9,10,11,12],[0,1,2,3,4,5,6,7,8,9,10,11,12,13],[0,1,2,3,4,5,6,7,8,9,10,11,12,13,14]] [0,1,2,3,4,5,6,7,8,9,10,11,12] mixed rfl (by kernel_rfl) (by decide) (by decide) rfl ?_
   iterate 13 apply Exists.intro
   refine ⟨rfl,?_,?_⟩
   ·simp only [tS,List.take_zero,AllFrom.cons_eq,AllFrom.nil_eq,OpGoalQ]
    refine ⟨?_,?_,?_,?_,?_,?_,?_,?_,?_,?_,?_,?_,?_,trivial⟩
    all_goals (intro σ hp;(try simp only [gZ,gS,mC,mN,preF_cons,preF_nil,isV,and_true] at hp);(first | (have hq : True:=hp;clear hq hp) | skip))
    iterate 7 · (go_simp;exact ⟨rfl,rfl⟩)
    ·(simp only [wantedL_none,↓reduceIte,gZ,gS];refine yr_load 47 (.tmp 20) (by rfl) ⟨g0,m * 2,none⟩ ?_ (handleC y) _ Tryz.underlying47 rfl (sz_Hdl _) H2.out ?_;(· go_simp);(· exact ⟨rfl,rfl⟩))
    iterate 3 · (go_simp;exact ⟨rfl,rfl⟩)
    ·(simp only [wantedL_none,↓reduceIte,gZ,gS];refine yr_load 47 (.tmp 24) (by rfl) ⟨g0,k * 2,none⟩ ?_ (handleC x) _ Tryz.underlying47 rfl (sz_Hdl _) H1.out ?_;(· go_simp);(· exact ⟨rfl,rfl⟩))
    ·(go_simp;exact ⟨rfl,rfl⟩)
   intro σ hp
   simp only [gZ,gS,mC,mN,preF_cons,preF_nil,isV,and_true] at hp
   simp only [dS,List.drop_zero]
   go_simp
   clear hp
   refine wpList_store_at rfl 47 (.tmp 26) (.tmp 21) rfl g0 (k * 2) (handleC y) rfl rfl H4.out (sz_Hdl _) O2.out ?_
   generalize wr.drew.setCells g0 (k * 2) (handleC y) = W1 at *
   go_wp2_with (refine wpList_store_at rfl 47 (.tmp 27) (.tmp 25) rfl g0 (m * 2) (handleC x) rfl rfl H5.out (sz_Hdl _) O1.out ?_;generalize W1.setCells g0 (m * 2) (handleC x) = W2 at *)
   refine ⟨rfl,?_⟩
   go_wp2
   go_roundw
   case rel => exact ⟨k + 1,by omega,by go_num,by rw [show (m : Int) - 1 = (l.length : Int) - 1 - ((k + 1 : Nat) : Int) by have:=Hkm.out;omega],H3.out,H6.out⟩
   case measure => simp [Go.RowKit.intOf];omega
  ·obtain he:=revK_end l k (by omega) hk
   rw [he] at hown
   have hge : ¬ ((k : Int) < (l.length : Int) - 1 - k):=by omega
   have Hown:=Lib.hid hown
   clear hown he H
   go_wp2
   exact bodyPost_end (v:=.tuple #[]) (by unfold results;try go_simp) rfl ⟨rfl,Hown.out,hmod⟩
end Go.Proofs.YtfdillpofciicaaGreatDoor
namespace Go.Proofs.YtfdillpofciicaaGreatDoor
open Go Go.RowKit
attribute [local go_sem] AllFrom.cons_eq AllFrom.nil_eq putF_nil putF_cons wantedL_none wantedL_some OpGoalT OpGoalV OpGoalQ OpGoalA OpGoalK YieldsR preF_nil preF_cons
structure ITurn (a : Nat) (w0 : World) (F : List Nat) (A' : World → List Nat → Prop) (L : Nat → Bool) (σ : Nat → Value) (V : World) : Prop where
 s0 : L a = false → Below w0.heap.size w0 V
 s1 : L a = true → OwnPost A' F w0 V
section
variable {a : Nat} {w0 V V' : World} {F : List Nat} {A' : World → List Nat → Prop} {L : Nat → Bool} {σ : Nat → Value}
theorem ITurn.start (h : Below w0.heap.size w0 V) : ITurn a w0 F A' (fun _ => false) σ V:=⟨fun _ => h,fun e => (by cases e)⟩
theorem ITurn.read (h : ITurn a w0 F A' L σ V) {i : Nat} (hi : a ≠ i) (v : Value) : ITurn a w0 F A' (upd L i) (updv σ i v) V:=by
 have e : upd L i a = L a:=by unfold upd;simp [hi]
 exact ⟨fun h1 => h.s0 (e ▸ h1),fun h1 => h.s1 (e ▸ h1)⟩
theorem ITurn.turn (h : ITurn a w0 F A' L σ V) (ha : L a = false) (hp : OwnPost A' F V V') (v : Value) : ITurn a w0 F A' (upd L a) (updv σ a v) V' :=
 ⟨fun e => by simp [upd] at e,fun _ => OwnPost.after (h.s0 ha) hp⟩
theorem ITurn.k (h : ITurn a w0 F A' L σ V) : Mod F w0 V:=by
 cases e : L a with
 | false => exact (Mod.ofBelow (h.s0 e)).mono (by simp)
 | true => exact (h.s1 e).mod
end
structure IRow (m : Nat) (w0 : World) (E n : Nat) (xs : List Value) (k : Nat) (L : Nat → Bool) (σ : Nat → Value) (V : World) : Prop where
 b : Below w0.heap.size w0 V
 r : L m = true → V.ownsRow w0.heap.size E n (σ m) k xs
section
variable {m : Nat} {w0 V V' : World} {E n k : Nat} {xs : List Value} {L : Nat → Bool} {σ : Nat → Value}
theorem IRow.start (h : Below w0.heap.size w0 V) : IRow m w0 E n xs k (fun _ => false) σ V:=⟨h,fun e => (by cases e)⟩
end
section
variable {z p f : Nat} {sl sl' : Sl} {L L' : List Rw} {B B' : List Bd} {w w' : World} {F G : List Nat}
theorem v_liveA (h : RepV z p f sl L B w F) : ∃ ps,∀ V,Below w.heap.size w V → V.cell? ⟨z,0,none⟩ = some (.pointer (some ⟨p,0,none⟩)) ∧ V.cell? ⟨z,1,none⟩ = some (.pointer (some ⟨f,0,none⟩)) ∧ z < V.heap.size ∧ V.cell? ⟨p,0,none⟩ = some (.pointer (some ⟨ps,0,none⟩)) ∧ p < V.heap.size ∧ ∀ s g,Calls Tryz.prog 92 #[.pointer (some ⟨ps,0,none⟩),.agg #[.int .i64 s,.int .i64 g]] V fun e w' => e = .returned (.bool (liveB sl s g)) ∧ Below V.heap.size V w':=by
 obtain ⟨ps,FS,h1,h2,h3⟩:=h.slots
 refine ⟨ps,fun V hV => ?_⟩
 have hc:=(h.below hV).cells
 exact ⟨hc.1,hc.2.1,hc.2.2,(hV.cell (p:=⟨p,0,none⟩) h2).trans h1,Nat.lt_of_lt_of_le h2 hV.size,fun s g => live_any ps sl FS s g V (h3.mod (Mod.ofBelow hV) (by simp))⟩
set_option maxRecDepth 20000 in
set_option maxHeartbeats 4000000 in
theorem vkill_any (h : RepV z p f sl L B w F) (hO : ZOk sl L B) (s g : Int) :
  Calls Tryz.prog 53 #[.pointer (some ⟨z,0,none⟩),.agg #[.int .i64 s,.int .i64 g]] w (fun e w' => (liveB sl s g = false ∧ VRet z p f sl L B F w (.int .i64 7) e w') ∨
   (liveB sl s g = true ∧ VRet z p f (killsZ (sl,L,B) (underB B (s,g) ++ [(s,g)])).1 (killsZ (sl,L,B) (underB B (s,g) ++ [(s,g)])).2.1 (killsZ (sl,L,B) (underB B (s,g) ++ [(s,g)])).2.2 F w (.int .i64 0) e w')):=by
 obtain ⟨w0,hw0,hb0,hz0,hs0⟩:=box1 w (.cells #[.int .i64 s,.int .i64 g] 47)
 have h0:=h.below hb0
 obtain ⟨ps,hA⟩:=v_liveA h0
 have hlt:=h.lt
 have hN : w.heap.size ∉ F:=fun e => by have:=hlt _ e;omega
 obtain ⟨H0,HA,Hb0,Hz0,Hs0,HO,HN,H⟩:=hid8 h0 hA hb0 hz0 hs0 hO hN h
 clear h0 hA hb0 hz0 hs0 hO hN h
 clear hlt
 go_enter Tryz.func53,Tryz.ntmps53
 go_wp2_with fail
 clear hw0
 refine wp_planK [] 10 [0] [some 8,some 9,some 10,some 11,some 12,some 13,some 14,some 15,some 16,some 17] [[],[0],[0,1],[0,1,2],[0,1,2,3],[0,1,2,3,4],[0,1,2,3,4,5],[],[0,1,2,3,4,5,6,7],[0,1,2,3,4,5,6,7,8]] [0,1,2,3,4,5,6,7,8,9] (fun Lf σ V => Below w0.heap.size w0 V) mixed rfl (by kernel_rfl) (by decide) (by decide) (by decide) below_drew rfl ?_
 iterate 10 apply Exists.intro
 refine ⟨rfl,?_,?_⟩
 ·simp only [tS,List.take_zero,AllFrom.cons_eq,AllFrom.nil_eq,OpGoalK]
  refine ⟨?_,?_,?_,?_,?_,?_,?_,?_,?_,?_,trivial⟩
  all_goals (intro L' σ V h1 h2 h3 hI hp;have HA1:=Lib.hid h1;have HA2:=Lib.hid h2;have HA3:=Lib.hid h3;clear h1 h2 h3;(try simp only [gZ,gS,preK_cons,preK_nil] at hp);(try simp only [List.not_mem_nil,false_or,and_true] at hp);(first | (have hq : True:=hp;clear hq hp) | skip);have HI:=Lib.hid hI;clear hI)
  all_goals (
   have hA:=HA.out V HI.out
   have hc0:=hA.1;have hc1:=hA.2.1;have hzl:=hA.2.2.1;have hp0:=hA.2.2.2.1;have hpl:=hA.2.2.2.2.1
   have HLv:=Lib.hid hA.2.2.2.2.2
   have hzV:=(Mod.ofBelow HI.out).keep Hz0.out (by simp)
   have q0:=blk_cell hzV 0
   have q1:=blk_cell hzV 1
   simp only [eA,eZ,eS] at q0 q1
   have ql:=blk_lt hzV
   clear hA hzV)
  iterate 8 · (go_simp;exact ⟨.inr rfl,HI.out⟩)
  ·(go_simp;refine (HLv.out s g).mono ?_;rintro e V2 ⟨rfl,hb⟩;exact ⟨_,rfl,.inr rfl,HI.out.trans (hb.mono HI.out.size)⟩)
  ·(go_simp;exact ⟨.inr rfl,HI.out⟩)
 ·intro L' σ V h1 hI hp
  clear h1
  simp only [preK_cons,preK_nil,gZ,gS] at hp;simp only [List.not_mem_nil,false_or,and_true] at hp
  have HI:=Lib.hid hI
  clear hI
  simp only [dS,List.drop_zero]
  go_simp
  clear hp
  cases hl : liveB sl s g with
  | false =>
   have hfin : VRet z p f sl L B F w (.int .i64 7) (.returned (.int .i64 7)) V:=⟨rfl,OwnPost.ofBelow (own_V _ _ _ _ _ _) H.out (Hb0.out.trans (HI.out.mono Hb0.out.size))⟩
   have Hfin:=Lib.hid hfin
   clear hfin
   go_wp2_with fail
   refine ⟨rfl,?_⟩
   go_wp2
   refine bodyPost_ret (v:=.int .i64 7) (by unfold results;try go_simp) rfl ?_
   exact .inl ⟨by first | rfl | trivial,Hfin.out⟩
  | true =>
   have hV:=H0.out.below HI.out
   have HU:=Lib.hid (fun V2 (hb : Below V.heap.size V V2) => v_under (hV.below hb) HO.out.len s g)
   have HC:=Lib.hid (fun V2 (hb : Below V.heap.size V V2) => HA.out V2 (HI.out.trans (hb.mono HI.out.size)))
   have HZ:=Lib.hid ((Mod.ofBelow HI.out).keep Hz0.out (by simp))
   have hbV:=Hb0.out.trans (HI.out.mono Hb0.out.size)
   obtain ⟨HV,HbV⟩:=hid2 hV hbV
   clear hV hbV
   go_wp2_with fail
   refine ⟨rfl,?_⟩
   go_wp2_with fail
   refine wp_planK [5] 6 [0] [some 18,some 19,some 20,some 21,some 22,some 23,some 5] [[],[0],[0,1],[0,1,2],[],[0,1,2,3,4],[0,1,2,3,4,5]] [0,1,2,3,4,5] (fun Lf σ V2 => IRow 5 V 47 2 ((underB B (s,g)).flatMap handleC) (underB B (s,g)).length Lf σ V2) mixed rfl (by kernel_rfl) (by decide) (by decide) (by decide) (IRow.start below_drew) rfl ?_
   iterate 6 apply Exists.intro
   refine ⟨rfl,?_,?_⟩
   ·simp only [tS,List.take_zero,AllFrom.cons_eq,AllFrom.nil_eq,OpGoalK]
    refine ⟨?_,?_,?_,?_,?_,?_,trivial⟩
    all_goals (intro L' σ V h1 h2 h3 hI hp;have HA1:=Lib.hid h1;have HA2:=Lib.hid h2;have HA3:=Lib.hid h3;clear h1 h2 h3;(try simp only [gZ,gS,preK_cons,preK_nil] at hp);(try simp only [List.mem_cons,List.not_mem_nil,or_false,eq_self,Nat.reduceEqDiff,Nat.reduceAdd,Nat.zero_add,false_or,true_or,true_and,and_true] at hp);(first | (have hq : True:=hp;clear hq hp) | skip);have HI:=Lib.hid hI;clear hI)
    all_goals (
     have hA:=HC.out V HI.out.b
     have hc0:=hA.1;have hc1:=hA.2.1;have hzl:=hA.2.2.1
     have hzV:=(Mod.ofBelow HI.out.b).keep HZ.out (by simp)
     have q0:=blk_cell hzV 0
     have q1:=blk_cell hzV 1
     simp only [eA,eZ,eS] at q0 q1
     have ql:=blk_lt hzV
     clear hA hzV)
    iterate 5 · (go_simp;exact ⟨.inr rfl,HI.out.read (by decide) _⟩)
    ·go_simp
     refine (HU.out _ HI.out.b).mono ?_
     rintro e V' ⟨v,rfl,hv,hb⟩
     exact ⟨_,rfl,PostK.mk (c:=undef) (.inl (by decide)) (HI.out.got hb hv)⟩
   ·intro L' σ V1 h1 hI hp
    have hr:=hI.r (h1 5 (by decide))
    have hb1:=hI.b
    have hul:=under_len HO.out.f (s,g)
    have hol:=HO.out.len
    have hmk : (killsZ (sl,L,B) (underB B (s,g) ++ [(s,g)])) = killsZ (sl,L,B) ((underB B (s,g)).reverse ++ [(s,g)]):=(killsZ_rev _ _ _).symm
    generalize hus : underB B (s,g) = us at *
    obtain ⟨Hus,Hl⟩:=hid2 hus hl
    clear hus
    have hzV:=(Mod.ofBelow hb1).keep HZ.out (by simp)
    have hV1:=HV.out.below hb1
    have hbV1:=HbV.out.trans (hb1.mono HbV.out.size)
    have HRv:=Lib.hid (reverseH_any V.heap.size (σ 5) us V1 (by omega) hr)
    clear h1 hI
    simp only [preK_cons,preK_nil,gZ,gS] at hp;simp only [List.mem_cons,List.not_mem_nil,or_false,eq_self,Nat.reduceEqDiff,false_or,true_or,true_and,and_true] at hp
    obtain ⟨Hb1,Hul,Hol,Hmk,HzV,HV1,HbV1,Hr⟩:=hid8 hb1 hul hol hmk hzV hV1 hbV1 hr
    clear hb1 hul hol hmk hzV hV1 hbV1 hr
    clear hl HU
    simp only [dS,List.drop_zero]
    go_simp
    clear hp
    generalize σ 5 = v5 at *
    go_wp2_with fail
    refine ⟨rfl,?_⟩
    go_wp2_with fail
    refine HRv.out.mono ?_
    rintro e V2 ⟨rfl,hr2,hm2⟩
    have hb12 : Below V.heap.size V1 V2:=hm2.toBelow (by intro j hj;exact own_ge Hr.out j (by simpa using hj)) Hb1.out.size
    have hb2:=Hb1.out.trans hb12
    have hz2:=(Mod.ofBelow hb2).keep HZ.out (by simp)
    have hV2:=HV.out.below hb2
    have hbV2:=HbV.out.trans (hb2.mono HbV.out.size)
    have hr2 : V2.ownsRow V.heap.size 47 2 v5 us.reverse.length (us.reverse.flatMap handleC):=hr2
    obtain ⟨q0,q1,ql⟩:=cells2 hz2
    obtain ⟨Hb2,Hz2,HV2,HbV2,Hr2⟩:=hid5 hb2 hz2 hV2 hbV2 hr2
    clear hb2 hz2 hV2 hbV2 hr2
    clear hb12 hm2
    obtain ⟨hs,hhs⟩ : ∃ hs,us.reverse ++ [(s,g)] = hs:=⟨_,rfl⟩
    have hmk:=Hmk.out
    rw [hhs] at hmk
    have hhl : hs.length ≤ 61:=by rw [← hhs,List.length_append,List.length_reverse,List.length_singleton];have:=Hul.out;have:=Hol.out;omega
    obtain ⟨Hhs,HMk⟩:=hid2 hhs hmk
    clear hhs hmk
    go_wp2_with (at_builtin;refine app_handleG rfl _ _ rfl V.heap.size v5 us.reverse (s,g) ⟨V2.heap.size,0,none⟩ 1 rfl (Hr2.out.alloc _) rfl (new_rec (by simp) rfl) (by have:=Hul.out;have:=Hol.out;rw [List.length_reverse];omega) (by have:=Hb2.out.size;simp;omega) ?_;intro v6 V3 hr3 hg3;rw [Hhs.out] at hr3;obtain ⟨A6,c6,rfl,-,-⟩:=row_slice hr3)
    have hb3 : Below V.heap.size V V3:=(Hb2.out.alloc Hb2.out.size _).grown hg3 (by have:=Hb2.out.size;simp;omega) (own_ge Hr2.out)
    have hV3:=HV.out.below hb3
    have hbV3:=HbV.out.trans (hb3.mono HbV.out.size)
    have hrF : ∀ j,(Value.slice A6 hs.length c6).ownBlock = some j → j ∉ F:=fun j hj e => by
     have h1:=own_ge hr3 j hj
     have h2:=HV.out.lt j e
     omega
    obtain ⟨Hb3,HV3,HbV3,Hr3,HrF,Hhl⟩:=hid6 hb3 hV3 hbV3 hr3 hrF hhl
    clear hb3 hV3 hbV3 hr3 hrF hhl
    clear hg3 q0 q1 ql
    go_loopw [31] (fun i wr => ∃ k : Nat,k ≤ hs.length ∧ i = .int .i64 k ∧ OwnPost (RepV z p f (killsZ (sl,L,B) (hs.take k)).1 (killsZ (sl,L,B) (hs.take k)).2.1 (killsZ (sl,L,B) (hs.take k)).2.2) F V3 wr) (fun i _ => hs.length - (Go.RowKit.intOf i).toNat)
    case atStart => exact ⟨0,by omega,rfl,OwnPost.ofBelow (own_V _ _ _ _ _ _) HV3.out (Below.refl _ _)⟩
    case round =>
     obtain ⟨k,hk,rfl,hOP⟩:=hrel
     have hrow:=row_mod Hr3.out hOP.mod HrF.out
     have hsz:=hOP.mod.size
     have hl61:=Hhl.out
     by_cases hlt : k < hs.length
     ·obtain ⟨A7,c7,e7,-,hL7⟩:=row_lies hrow
      cases e7
      obtain ⟨ab,ao,rfl,hal,hc⟩:=hL7.rec_at handleC_len (by omega) hlt
      have hki : (k : Int) < (hs.length : Int):=by omega
      have hst : killsZ (sl,L,B) (hs.take (k + 1)) = killZ (killsZ (sl,L,B) (hs.take k)) hs[k]:=by rw [take_succ_get hs k hlt,killsZ_snoc]
      generalize killsZ (sl,L,B) (hs.take k) = st at *
      generalize hs[k] = x at *
      obtain ⟨sl1,L1,B1⟩:=st
      obtain ⟨s1,g1⟩:=x
      simp only at hOP
      obtain ⟨F1,hR,hT⟩:=hOP
      obtain ⟨w3,hw3,hb4,hz4,hs4⟩:=box1 wr (.cells #[.int .i64 s1,.int .i64 g1] 47)
      have hR4:=hR.below hb4
      have hN1 : wr.heap.size ∉ F1:=fun e => by have:=hR.lt _ e;omega
      have hq : ∀ j u,(handleC (s1,g1))[j]? = some u → wr.cell? ((⟨ab,ao + k * 2,none⟩ : Addr).add j) = some u:=fun j u hu => by first | exact hc j u hu | (have:=hc j u hu;rw [Addr.add_mid];exact this)
      obtain ⟨HR,HR4,HN1,Hb4,Hz4,Hs4,Hw3,HQ,Hst,HT,Hlt⟩:=hid11 hR hR4 hN1 hb4 hz4 hs4 hw3 hq hst hT hlt
      clear hR hR4 hN1 hb4 hz4 hs4 hw3 hq hst hT hlt
      clear hc hrow hL7
      go_wp2_with (first | (refine wpList_load_flat rfl 47 (.tmp 33) rfl _ rfl [.int .i64 s1,.int .i64 g1] _ Tryz.underlying47 rfl (by kernel_rfl) HQ.out ?_) | fail)
      rw [Hw3.out]
      refine wp_planK [] 6 [0] [some 35,some 36,some 37,some 38,some 39,some 40] [[],[0],[0,1],[0,1,2],[],[0,1,2,3,4]] [0,1,2,3,4,5] (fun Lf σ W => ITurn 5 w3 F1 (RepV z p f (freeL sl1 s1 g1) (killL L1 (s1,g1)) B1) Lf σ W) mixed rfl (by kernel_rfl) (by decide) (by decide) (by decide) (ITurn.start below_drew) rfl ?_
      iterate 6 apply Exists.intro
      refine ⟨rfl,?_,?_⟩
      ·simp only [tS,List.take_zero,AllFrom.cons_eq,AllFrom.nil_eq,OpGoalK]
       refine ⟨?_,?_,?_,?_,?_,?_,trivial⟩
       all_goals (intro L' σ V h1 h2 h3 hI hp;have HA1:=Lib.hid h1;have HA2:=Lib.hid h2;have HA3:=Lib.hid h3;clear h1 h2 h3;(try simp only [gZ,gS,preK_cons,preK_nil] at hp);(try simp only [List.not_mem_nil,false_or,and_true] at hp);(first | (have hq : True:=hp;clear hq hp) | skip);have HI:=Lib.hid hI;clear hI)
       all_goals (
        have hb:=HI.out.s0 (by first | exact HA3.out 5 (by decide) | exact HA1.out)
        have hR5:=HR4.out.below hb
        have hA:=hR5.cells
        have hc0:=hA.1;have hc1:=hA.2.1;have hzl:=hA.2.2
        have hzV:=(Mod.ofBelow hb).keep Hz4.out (by simp)
        have q0:=blk_cell hzV 0
        have q1:=blk_cell hzV 1
        simp only [eA,eZ,eS] at q0 q1
        have ql:=blk_lt hzV
        have HR5:=Lib.hid hR5
        clear hA hzV hb hR5)
       iterate 5 · (go_simp;exact ⟨.inr rfl,HI.out.read (by decide) _⟩)
       ·go_simp
        refine (v_kill HR5.out s1 g1).mono ?_
        rintro e V' ⟨rfl,hp⟩
        exact ⟨_,rfl,.inr rfl,HI.out.turn HA1.out hp _⟩
      ·intro L' σ V h1 hI hp
       have hP:=hI.s1 (h1 5 (by decide))
       clear h1 hI
       simp only [preK_cons,preK_nil,gZ,gS] at hp;simp only [List.not_mem_nil,false_or,and_true] at hp
       have hzV:=hP.mod.keep Hz4.out HN1.out
       obtain ⟨F2,hR6,hT6⟩:=hP
       have hN2 : wr.heap.size ∉ F2:=fun e => by
        rcases hT6.new _ e with e | e
        ·exact HN1.out e
        ·have:=Hs4.out;omega
       obtain ⟨HR6,HT6,HN2,HzV⟩:=hid4 hR6 hT6 hN2 hzV
       clear hR6 hT6 hN2 hzV
       simp only [dS,List.drop_zero]
       go_simp
       clear hp
       go_wp2_with fail
       refine ⟨rfl,?_⟩
       go_wp2_with fail
       refine wp_planK [] 6 [0] [some 41,some 42,some 43,some 44,some 45,some 46] [[],[0],[0,1],[0,1,2],[],[0,1,2,3,4]] [0,1,2,3,4,5] (fun Lf σ W => ITurn 5 V F2 (RepV z p f (freeL sl1 s1 g1) (killL L1 (s1,g1)) (goneB B1 (s1,g1))) Lf σ W) mixed rfl (by kernel_rfl) (by decide) (by decide) (by decide) (ITurn.start below_drew) rfl ?_
       iterate 6 apply Exists.intro
       refine ⟨rfl,?_,?_⟩
       ·simp only [tS,List.take_zero,AllFrom.cons_eq,AllFrom.nil_eq,OpGoalK]
        refine ⟨?_,?_,?_,?_,?_,?_,trivial⟩
        all_goals (intro L' σ V h1 h2 h3 hI hp;have HA1:=Lib.hid h1;have HA2:=Lib.hid h2;have HA3:=Lib.hid h3;clear h1 h2 h3;(try simp only [gZ,gS,preK_cons,preK_nil] at hp);(try simp only [List.not_mem_nil,false_or,and_true] at hp);(first | (have hq : True:=hp;clear hq hp) | skip);have HI:=Lib.hid hI;clear hI)
        all_goals (
         have hb:=HI.out.s0 (by first | exact HA3.out 5 (by decide) | exact HA1.out)
         have hR5:=HR6.out.below hb
         have hA:=hR5.cells
         have hc0:=hA.1;have hc1:=hA.2.1;have hzl:=hA.2.2
         have hzV:=(Mod.ofBelow hb).keep HzV.out (by simp)
         have q0:=blk_cell hzV 0
         have q1:=blk_cell hzV 1
         simp only [eA,eZ,eS] at q0 q1
         have ql:=blk_lt hzV
         have HR5:=Lib.hid hR5
         clear hA hzV hb hR5)
        iterate 5 · (go_simp;exact ⟨.inr rfl,HI.out.read (by decide) _⟩)
        ·go_simp
         refine (v_gone HR5.out s1 g1).mono ?_
         rintro e V' ⟨rfl,hp⟩
         exact ⟨_,rfl,.inr rfl,HI.out.turn HA1.out hp _⟩
       ·intro L' σ V5 h1 hI hp
        have hP:=hI.s1 (h1 5 (by decide))
        clear h1 hI
        simp only [preK_cons,preK_nil,gZ,gS] at hp;simp only [List.not_mem_nil,false_or,and_true] at hp
        have hT7:=(HT.out.below Hb4.out).trans HT6.out
        have hfin : OwnPost (RepV z p f (killsZ (sl,L,B) (hs.take (k + 1))).1 (killsZ (sl,L,B) (hs.take (k + 1))).2.1 (killsZ (sl,L,B) (hs.take (k + 1))).2.2) F V3 V5:=by
         rw [Hst.out]
         obtain ⟨F3,h3,h4⟩:=hP
         exact ⟨F3,h3,hT7.trans h4⟩
        have Hfin:=Lib.hid hfin
        clear hfin
        clear hP hT7
        have hlt:=Hlt.out
        simp only [dS,List.drop_zero]
        go_simp
        clear hp
        go_wp2_with fail
        refine ⟨rfl,?_⟩
        go_wp2
        go_roundw
        case rel => exact ⟨k + 1,by omega,by go_num,Hfin.out⟩
        case measure => simp [Go.RowKit.intOf];omega
     ·obtain rfl : k = hs.length:=by omega
      rw [List.take_length,← HMk.out] at hOP
      have hfin:=OwnPost.after HbV3.out hOP
      have Hfin:=Lib.hid hfin
      clear hfin
      clear hOP hrow hlt
      go_wp2_with fail
      refine bodyPost_ret (v:=.int .i64 0) (by unfold results;try go_simp) rfl ?_
      exact .inr ⟨Hl.out,rfl,by rw [Hus.out];exact Hfin.out⟩
def liveZ (sl : Sl) (hs : List Hd) : Bool:=hs.all (fun h => liveB sl h.1 h.2)
def liveE (sl : Sl) (hs : List Hd) : Int:=if liveZ sl hs = true then 0 else 7
theorem liveE_ok {sl : Sl} {hs : List Hd} (h : liveZ sl hs = true) : liveE sl hs = 0:=by unfold liveE;rw [if_pos h]
theorem liveE_no {sl : Sl} {hs : List Hd} (h : liveZ sl hs = false) : liveE sl hs = 7:=by unfold liveE;rw [if_neg (by rw [h];simp)]
set_option maxRecDepth 20000 in
set_option maxHeartbeats 4000000 in
theorem vlive_any (h : RepV z p f sl L B w F) (A : Option Addr) (c : Nat) (hs : List Hd) (hl : hs.length ≤ 60) (hA : Lies w w.heap.size A (hs.flatMap handleC)) :
  Calls Tryz.prog 49 #[.pointer (some ⟨z,0,none⟩),.slice A hs.length c] w fun e w' => e = .returned (.int .i64 (liveE sl hs)) ∧ Below w.heap.size w w':=by
 obtain ⟨ps,hV⟩:=v_liveA h
 obtain ⟨HV,HA⟩:=hid2 hV hA
 clear hV hA
 clear h
 go_enter Tryz.func49,Tryz.ntmps49
 go_wp2_with fail
 go_loopw [9] (fun i wr => ∃ k : Nat,k ≤ hs.length ∧ i = .int .i64 k ∧ liveZ sl (hs.take k) = true ∧ Below w.heap.size w wr) (fun i _ => hs.length - (Go.RowKit.intOf i).toNat)
 case atStart => exact ⟨0,by omega,rfl,rfl,Below.refl _ _⟩
 case round =>
  obtain ⟨k,hk,rfl,hno,hbel⟩:=hrel
  have hsz:=hbel.size
  by_cases hlt : k < hs.length
  ·obtain ⟨ab,ao,rfl,hal,hc⟩:=HA.out.rec_at handleC_len (by omega) hlt
   have hki : (k : Int) < (hs.length : Int):=by omega
   have hq : ∀ j u,(handleC hs[k])[j]? = some u → wr.cell? ((⟨ab,ao + k * 2,none⟩ : Addr).add j) = some u:=fun j u hu => (hbel.cell (p:=(⟨ab,ao + k * 2,none⟩ : Addr).add j) (by rw [add_block];exact hal)).trans (by first | exact hc j u hu | (have:=hc j u hu;rw [Addr.add_mid];exact this))
   have hst : liveZ sl (hs.take (k + 1)) = liveB sl hs[k].1 hs[k].2:=by
    have h1:=hno
    unfold liveZ at h1 ⊢
    rw [take_succ_get hs k hlt,List.all_append,h1];simp
   have hall : liveB sl hs[k].1 hs[k].2 = false → liveZ sl hs = false:=fun e => by
    unfold liveZ
    rw [List.all_eq_false]
    exact ⟨hs[k],List.getElem_mem hlt,by rw [e];simp⟩
   generalize hs[k] = x at *
   obtain ⟨s,g⟩:=x
   obtain ⟨w3,hw3,hb3,hz3,hs3⟩:=box1 wr (.cells #[.int .i64 s,.int .i64 g] 47)
   have hb03:=hbel.trans (hb3.mono hsz)
   have hL:=fun V (hb : Below w3.heap.size w3 V) => HV.out V (hb03.trans (hb.mono hb03.size))
   simp only at hst hall
   obtain ⟨HQ,Hst,Hall,Hb03,HL,Hz3,Hs3,Hw3⟩:=hid8 hq hst hall hb03 hL hz3 hs3 hw3
   clear hq hst hall hb03 hL hz3 hs3 hw3
   clear hc hb3 hno hbel
   go_wp2_with (first | (refine wpList_load_flat rfl 47 (.tmp 11) rfl _ rfl [.int .i64 s,.int .i64 g] _ Tryz.underlying47 rfl (by kernel_rfl) HQ.out ?_) | fail)
   rw [Hw3.out]
   refine wp_planK [] 10 [0] [some 13,some 14,some 15,some 16,some 17,some 18,some 19,some 20,some 21,some 22] [[],[0],[0,1],[0,1,2],[0,1,2,3],[0,1,2,3,4],[0,1,2,3,4,5],[],[0,1,2,3,4,5,6,7],[0,1,2,3,4,5,6,7,8]] [0,1,2,3,4,5,6,7,8,9] (fun Lf σ V => Below w3.heap.size w3 V) mixed rfl (by kernel_rfl) (by decide) (by decide) (by decide) below_drew rfl ?_
   iterate 10 apply Exists.intro
   refine ⟨rfl,?_,?_⟩
   ·simp only [tS,List.take_zero,AllFrom.cons_eq,AllFrom.nil_eq,OpGoalK]
    refine ⟨?_,?_,?_,?_,?_,?_,?_,?_,?_,?_,trivial⟩
    all_goals (intro L' σ V h1 h2 h3 hI hp;have HA1:=Lib.hid h1;have HA2:=Lib.hid h2;have HA3:=Lib.hid h3;clear h1 h2 h3;(try simp only [gZ,gS,preK_cons,preK_nil] at hp);(try simp only [List.not_mem_nil,false_or,and_true] at hp);(first | (have hq : True:=hp;clear hq hp) | skip);have HI:=Lib.hid hI;clear hI)
    all_goals (
     have hA:=HL.out V HI.out
     have hc0:=hA.1;have hzl:=hA.2.2.1;have hp0:=hA.2.2.2.1;have hpl:=hA.2.2.2.2.1
     have HLv:=Lib.hid hA.2.2.2.2.2
     have hzV:=(Mod.ofBelow HI.out).keep Hz3.out (by simp)
     have q0:=blk_cell hzV 0
     have q1:=blk_cell hzV 1
     simp only [eA,eZ,eS] at q0 q1
     have ql:=blk_lt hzV
     clear hA hzV)
    iterate 8 · (go_simp;exact ⟨.inr rfl,HI.out⟩)
    ·(go_simp;refine (HLv.out s g).mono ?_;rintro e V2 ⟨rfl,hb⟩;exact ⟨_,rfl,.inr rfl,HI.out.trans (hb.mono HI.out.size)⟩)
    ·(go_simp;exact ⟨.inr rfl,HI.out⟩)
   ·intro L' σ V h1 hI hp
    clear h1
    simp only [preK_cons,preK_nil,gZ,gS] at hp;simp only [List.not_mem_nil,false_or,and_true] at hp
    have hbV:=Hb03.out.trans (hI.mono Hb03.out.size)
    have HbV:=Lib.hid hbV
    clear hbV
    clear hI
    simp only [dS,List.drop_zero]
    go_simp
    clear hp
    cases hlv : liveB sl s g with
    | false =>
     have hf:=Hall.out hlv
     have Hf:=Lib.hid hf
     clear hf
     clear hlv
     go_wp2_with fail
     refine ⟨rfl,?_⟩
     go_wp2
     refine bodyPost_ret (v:=.int .i64 7) (by unfold results;try go_simp) rfl ?_
     exact ⟨by rw [liveE_no Hf.out],HbV.out⟩
    | true =>
     have hs2:=Hst.out.trans hlv
     have Hs2:=Lib.hid hs2
     clear hs2
     clear hlv
     go_wp2_with fail
     refine ⟨rfl,?_⟩
     go_wp2
     go_roundw
     case rel => exact ⟨k + 1,by omega,by go_num,Hs2.out,HbV.out⟩
     case measure => simp [Go.RowKit.intOf];omega
  ·obtain rfl : k = hs.length:=by omega
   rw [List.take_length] at hno
   obtain ⟨Hno,HB⟩:=hid2 hno hbel
   clear hno hbel
   go_wp2
   refine bodyPost_ret (v:=.int .i64 0) (by unfold results;try go_simp) rfl ?_
   exact ⟨by rw [liveE_ok Hno.out],HB.out⟩
end
end Go.Proofs.YtfdillpofciicaaGreatDoor
namespace Go.Proofs.YtfdillpofciicaaGreatDoor
open Go.RowKit
def badN (x : Int) : Bool:=decide (x < 0) || decide (1000000 < x)
def badK (n : Nat) (x : Int) : Bool:=decide (x < 0) || decide ((n : Int) ≤ x)
def anyP (p : Int → Bool) (l : List Int) : Bool:=(l.findIdx? p).isSome
theorem badN_lo {x : Int} (h : x < 0) : badN x = true:=by simp [badN,h]
theorem badN_hi {x : Int} (h : 1000000 < x) : badN x = true:=by simp [badN,h]
theorem badN_in {x : Int} (h : 0 ≤ x) (h' : x ≤ 1000000) : badN x = false:=by simp [badN];omega
theorem badK_lo {n : Nat} {x : Int} (h : x < 0) : badK n x = true:=by simp [badK,h]
theorem badK_hi {n : Nat} {x : Int} (h : (n : Int) ≤ x) : badK n x = true:=by simp [badK,h]
theorem badK_in {n : Nat} {x : Int} (h : 0 ≤ x) (h' : x < n) : badK n x = false:=by simp [badK];omega
theorem load1_any (x : Int) (w : World) : Calls Tryz.prog 141 #[.int .i64 x] w fun e w' => e = .returned (.bool (badN x)) ∧ w = w':=by
 by_cases h0 : x < 0
 ·have H:=Lib.hid (badN_lo h0)
  go_enter Tryz.func141,Tryz.ntmps141
  go_wp2
  go_ret
  exact ⟨by rw [H.out];rfl,rfl⟩
 ·by_cases h1 : 1000000 < x
  ·have H:=Lib.hid (badN_hi h1)
   go_enter Tryz.func141,Tryz.ntmps141
   go_wp2
   go_ret
   exact ⟨by rw [H.out];rfl,rfl⟩
  ·have H:=Lib.hid (badN_in (x:=x) (by omega) (by omega))
   go_enter Tryz.func141,Tryz.ntmps141
   go_wp2
   go_ret
   exact ⟨by rw [H.out];rfl,rfl⟩
theorem load2_any (x : Int) (b : Nat) (A : Option Addr) (n c : Nat) (w : World) (hb : w.cell? ⟨b,0,none⟩ = some (.slice A n c)) (hn : n ≤ 9223372036854775807) :
  Calls Tryz.prog 142 #[.int .i64 x,.pointer (some ⟨b,0,none⟩)] w fun e w' => e = .returned (.bool (badK n x)) ∧ w = w':=by
 by_cases h0 : x < 0
 ·have H:=Lib.hid (badK_lo (n:=n) h0)
  go_enter Tryz.func142,Tryz.ntmps142
  go_wp2
  go_ret
  exact ⟨by rw [H.out];rfl,rfl⟩
 ·by_cases h1 : (n : Int) ≤ x
  ·have H:=Lib.hid (badK_hi h1)
   go_enter Tryz.func142,Tryz.ntmps142
   go_wp2
   go_ret
   exact ⟨by rw [H.out];rfl,rfl⟩
  ·have H:=Lib.hid (badK_in (n:=n) (x:=x) (by omega) (by omega))
   go_enter Tryz.func142,Tryz.ntmps142
   go_wp2
   go_ret
   exact ⟨by rw [H.out];rfl,rfl⟩
theorem anyP_cases (p : Int → Bool) (l : List Int) : (anyP p l = true ∧ ∃ k : Nat,firstI p l = k) ∨ (anyP p l = false ∧ firstI p l = -1):=by
 unfold anyP firstI
 cases h : l.findIdx? p with
 | some k => exact .inl ⟨rfl,k,rfl⟩
 | none => exact .inr ⟨rfl,rfl⟩
theorem anyP_false {p : Int → Bool} {l : List Int} (h : anyP p l = false) {k : Nat} (hk : k < l.length) : p l[k] = false:=by
 unfold anyP at h
 rw [Option.isSome_eq_false_iff,Option.isNone_iff_eq_none,List.findIdx?_eq_none_iff] at h
 exact h _ (List.getElem_mem hk)
theorem anyP_of {p : Int → Bool} {l : List Int} {k : Nat} (hk : k < l.length) (h : p l[k] = true) : anyP p l = true:=by
 cases e : anyP p l with
 | true => rfl
 | false => rw [anyP_false e hk] at h;cases h
theorem anyP_none {p : Int → Bool} {l : List Int} (h : ∀ k (hk : k < l.length),p l[k] = false) : anyP p l = false:=by
 unfold anyP
 rw [fi_none h];rfl
set_option maxHeartbeats 1000000 in
theorem indexN_any (A : Option Addr) (c : Nat) (l : List Int) (B : Nat) (w : World) (hl : l.length ≤ 9223372036854775807) (hA : Lies w B A (ints l)) :
  Calls Tryz.prog 193 #[.slice A l.length c,.func (.func 141) #[] #[]] w fun e w' => e = .returned (.int .i64 (firstI badN l)) ∧ w = w':=by
 go_enter Tryz.func193,Tryz.ntmps193
 go_wp2
 go_loop [8] (fun i => ∃ k : Nat,k ≤ l.length ∧ i = .int .i64 k ∧ (∀ j (h : j < k) (h' : j < l.length),badN l[j] = false)) (fun i => l.length - (Go.RowKit.intOf i).toNat)
 case atStart => exact ⟨0,by omega,rfl,fun j h => by omega⟩
 case round =>
  obtain ⟨k,hk,rfl,hno⟩:=hrel
  by_cases hlt : k < l.length
  ·obtain ⟨a,rfl,hb,hc⟩:=hA.int hlt
   have hyes : badN l[k] = true → firstI badN l = k:=fun h => firstI_some (fi_some hlt h fun j hj => hno j hj (by omega))
   have hno2 : badN l[k] = false → ∀ j (h : j < k + 1) (h' : j < l.length),badN l[j] = false:=by
    intro hf j h h'
    by_cases e : j = k
    ·subst e;exact hf
    ·exact hno j (by omega) h'
   have ht:=load1_any l[k] w
   generalize hf : badN l[k] = r at *
   generalize l[k] = x at *
   obtain ⟨Hno2,Hyes,Ht⟩:=hid3 hno2 hyes ht
   clear hno hno2 hyes ht hf hA
   cases r with
   | true =>
    have H:=Lib.hid (Hyes.out rfl)
    go_wp2_with (go_at_call 141;refine (Ht.out).mono ?_;rintro e w1 ⟨rfl,rfl⟩)
    go_ret
    exact ⟨by rw [H.out];rfl,rfl⟩
   | false =>
    go_wp2_with (go_at_call 141;refine (Ht.out).mono ?_;rintro e w1 ⟨rfl,rfl⟩)
    go_round
    case rel => exact ⟨k + 1,by omega,by go_num,Hno2.out trivial⟩
    case measure => simp [Go.RowKit.intOf];omega
  ·have hf : firstI badN l = -1:=firstI_none (fi_none fun j hj => hno j (by omega) hj)
   have H:=Lib.hid hf
   clear hf hno
   go_wp2
   go_ret
   exact ⟨by rw [H.out];rfl,rfl⟩
theorem containsN_any (A : Option Addr) (c : Nat) (l : List Int) (B : Nat) (w : World) (hl : l.length ≤ 9223372036854775807) (hA : Lies w B A (ints l)) :
  Calls Tryz.prog 140 #[.slice A l.length c,.func (.func 141) #[] #[]] w fun e w' => e = .returned (.bool (anyP badN l)) ∧ w = w':=by
 have hi:=indexN_any A c l B w hl hA
 rcases anyP_cases badN l with ⟨h1,k,h2⟩ | ⟨h1,h2⟩
 ·rw [h2] at hi
  obtain ⟨Hi,H⟩:=hid2 hi h1
  have hp : decide ((0 : Int) ≤ (k : Int)) = true:=by simp
  clear hi hA h1 h2
  go_enter Tryz.func140,Tryz.ntmps140
  go_wp2_with fail
  refine (Hi.out).mono ?_
  rintro e w1 ⟨rfl,rfl⟩
  go_wp2
  go_ret
  exact ⟨by rw [H.out];rfl,rfl⟩
 ·rw [h2] at hi
  obtain ⟨Hi,H⟩:=hid2 hi h1
  clear hi hA h1 h2
  go_enter Tryz.func140,Tryz.ntmps140
  go_wp2_with fail
  refine (Hi.out).mono ?_
  rintro e w1 ⟨rfl,rfl⟩
  go_wp2
  go_ret
  exact ⟨by rw [H.out];rfl,rfl⟩
set_option maxHeartbeats 1000000 in
theorem indexK_any (b : Nat) (A1 : Option Addr) (n c1 : Nat) (A : Option Addr) (c : Nat) (l : List Int) (B : Nat) (w : World) (hl : l.length ≤ 9223372036854775807) (hA : Lies w B A (ints l)) (hbx : w.cell? ⟨b,0,none⟩ = some (.slice A1 n c1)) (hn : n ≤ 9223372036854775807) :
  Calls Tryz.prog 193 #[.slice A l.length c,.func (.func 142) #[] #[.pointer (some ⟨b,0,none⟩)]] w fun e w' => e = .returned (.int .i64 (firstI (badK n) l)) ∧ w = w':=by
 go_enter Tryz.func193,Tryz.ntmps193
 go_wp2
 go_loop [8] (fun i => ∃ k : Nat,k ≤ l.length ∧ i = .int .i64 k ∧ (∀ j (h : j < k) (h' : j < l.length),(badK n) l[j] = false)) (fun i => l.length - (Go.RowKit.intOf i).toNat)
 case atStart => exact ⟨0,by omega,rfl,fun j h => by omega⟩
 case round =>
  obtain ⟨k,hk,rfl,hno⟩:=hrel
  by_cases hlt : k < l.length
  ·obtain ⟨a,rfl,hb,hc⟩:=hA.int hlt
   have hyes : (badK n) l[k] = true → firstI (badK n) l = k:=fun h => firstI_some (fi_some hlt h fun j hj => hno j hj (by omega))
   have hno2 : (badK n) l[k] = false → ∀ j (h : j < k + 1) (h' : j < l.length),(badK n) l[j] = false:=by
    intro hf j h h'
    by_cases e : j = k
    ·subst e;exact hf
    ·exact hno j (by omega) h'
   have ht:=load2_any l[k] b A1 n c1 w hbx hn
   generalize hf : (badK n) l[k] = r at *
   generalize l[k] = x at *
   obtain ⟨Hno2,Hyes,Ht⟩:=hid3 hno2 hyes ht
   clear hno hno2 hyes ht hf hA
   cases r with
   | true =>
    have H:=Lib.hid (Hyes.out rfl)
    go_wp2_with (go_at_call 142;refine (Ht.out).mono ?_;rintro e w1 ⟨rfl,rfl⟩)
    go_ret
    exact ⟨by rw [H.out];rfl,rfl⟩
   | false =>
    go_wp2_with (go_at_call 142;refine (Ht.out).mono ?_;rintro e w1 ⟨rfl,rfl⟩)
    go_round
    case rel => exact ⟨k + 1,by omega,by go_num,Hno2.out trivial⟩
    case measure => simp [Go.RowKit.intOf];omega
  ·have hf : firstI (badK n) l = -1:=firstI_none (fi_none fun j hj => hno j (by omega) hj)
   have H:=Lib.hid hf
   clear hf hno
   go_wp2
   go_ret
   exact ⟨by rw [H.out];rfl,rfl⟩
theorem containsK_any (b : Nat) (A1 : Option Addr) (n c1 : Nat) (A : Option Addr) (c : Nat) (l : List Int) (B : Nat) (w : World) (hl : l.length ≤ 9223372036854775807) (hA : Lies w B A (ints l)) (hbx : w.cell? ⟨b,0,none⟩ = some (.slice A1 n c1)) (hn : n ≤ 9223372036854775807) :
  Calls Tryz.prog 140 #[.slice A l.length c,.func (.func 142) #[] #[.pointer (some ⟨b,0,none⟩)]] w fun e w' => e = .returned (.bool (anyP (badK n) l)) ∧ w = w':=by
 have hi:=indexK_any b A1 n c1 A c l B w hl hA hbx hn
 rcases anyP_cases (badK n) l with ⟨h1,k,h2⟩ | ⟨h1,h2⟩
 ·rw [h2] at hi
  obtain ⟨Hi,H⟩:=hid2 hi h1
  have hp : decide ((0 : Int) ≤ (k : Int)) = true:=by simp
  clear hi hA h1 h2
  go_enter Tryz.func140,Tryz.ntmps140
  go_wp2_with fail
  refine (Hi.out).mono ?_
  rintro e w1 ⟨rfl,rfl⟩
  go_wp2
  go_ret
  exact ⟨by rw [H.out];rfl,rfl⟩
 ·rw [h2] at hi
  obtain ⟨Hi,H⟩:=hid2 hi h1
  clear hi hA h1 h2
  go_enter Tryz.func140,Tryz.ntmps140
  go_wp2_with fail
  refine (Hi.out).mono ?_
  rintro e w1 ⟨rfl,rfl⟩
  go_wp2
  go_ret
  exact ⟨by rw [H.out];rfl,rfl⟩
end Go.Proofs.YtfdillpofciicaaGreatDoor
