import Derived.Test.YtfdillpofciicaaGreatDoorTopSavedJ25
import Derived.Test.YtfdillpofciicaaGreatDoorRows
set_option linter.unusedVariables false
set_option linter.unusedSimpArgs false
/- A part of the proof that TopSaved returns true. -/
namespace Go.Proofs.YtfdillpofciicaaGreatDoor
open Go.RowKit
theorem push_fin {p : Nat} {l : Sl} {F : List Nat} {w1 w2 : World} {v v' : Value} {o : Obj} {y : Int × Bool} (hR : RepS w1 p l F) (hp1 : w1.heap[p]? = some (.cells #[v] 164 (0,0))) (hF : F = p :: v.ownBlock.toList)
  (hown : w2.ownsRow 0 166 2 v' (l ++ [y]).length ((l ++ [y]).flatMap slotC)) (hg : (w1.alloc o).grownBy w2 v.ownBlock) (hloc : v'.ownBlock = v.ownBlock ∨ v'.ownBlock = some (w1.alloc o).heap.size) :
  ∃ g' cap',v' = .slice (some ⟨g',0,none⟩) (l.length + 1) cap' ∧ p < w2.heap.size ∧ w2.cell? ⟨p,0,none⟩ = some v ∧ w2.frozen? ⟨p,0,none⟩ = false ∧ Hid (RepS (w2.setCell ⟨p,0,none⟩ v') p (l ++ [y]) (p :: v'.ownBlock.toList)) ∧ Hid (Mod F w1 w2) ∧ Hid (∀ k ∈ v'.ownBlock.toList,k ∈ F ∨ w1.heap.size ≤ k):=by
 have hlt:=hR.lt
 have hpw:=hlt p (by rw [hF];simp)
 have hnp : F.Nodup:=by obtain ⟨_,_,_,_,h⟩:=hR;exact h
 have hvp : ∀ k,v.ownBlock = some k → k ∈ F ∧ k ≠ p:=by
  intro k hk
  refine ⟨by rw [hF];simp [hk],?_⟩
  rintro rfl
  rw [hF,hk] at hnp
  simp at hnp
 have hm : Mod F w1 w2:=((Mod.refl F w1).alloc o).grown hg (fun k hk => .inl (hvp k hk).1)
 have hp2 : w2.heap[p]? = some (.cells #[v] 164 (0,0)):=(hg.block p (by simp;omega) (fun e => (hvp p e.symm).2 rfl)).trans (blk_alloc hp1 o)
 have hgp : ∀ k,v'.ownBlock = some k → k ≠ p:=by
  intro k hk
  rcases hloc with h | h
  ·exact (hvp k (h.symm.trans hk)).2
  ·rw [h] at hk;simp at hk;omega
 obtain ⟨g',cap',cur',he,-,-,-⟩:=row_some hown (by simp)
 refine ⟨g',cap',by rw [he];simp,blk_lt hp2,by rw [blk_cell hp2];rfl,blk_free hp2 0,⟨v',by rw [blk_set hp2];rfl,row_mod hown ((Mod.refl [p] _).setCell (.inl (by simp)) _) (fun k hk => by simpa using hgp k hk),rfl,?_⟩,hm,?_⟩
 ·cases h : v'.ownBlock with
  | none => simp
  | some k => simpa using fun e => hgp k h e.symm
 ·intro k hk
  have hk' : v'.ownBlock = some k:=by simpa using hk
  rcases hloc with h | h
  ·exact .inl (hvp k (h.symm.trans hk')).1
  ·rw [h] at hk';simp at hk';right;omega
def LoadPost (gs ks : List Int) (w : World) (e : Ending) (w' : World) : Prop :=
 Below w.heap.size w w' ∧ ((loadE gs ks ≠ 0 ∧ e = .returned (.tuple #[.pointer none,.int .i64 (loadE gs ks)])) ∨
  (loadE gs ks = 0 ∧ ∃ p F,e = .returned (.tuple #[.pointer (some ⟨p,0,none⟩),.int .i64 0]) ∧ RepS w' p (loadL gs ks) F ∧ (∀ k ∈ F,w.heap.size ≤ k) ∧ SlOk (loadL gs ks)))
set_option maxHeartbeats 1000000 in
theorem load_long (A : Option Addr) (c : Nat) (gs : List Int) (A' : Option Addr) (c' : Nat) (ks : List Int) (w : World) (hl : gs.length ≤ 9223372036854775807) (h60 : 60 < gs.length) :
  Calls Tryz.prog 91 #[.slice A gs.length c,.slice A' ks.length c'] w (LoadPost gs ks w):=by
 have H:=Lib.hid (loadE_long (ks:=ks) h60)
 have hin : (60 : Int) < (gs.length : Int):=by omega
 go_enter Tryz.func91,Tryz.ntmps91
 go_wp2
 refine bodyPost_ret (v:=.tuple #[.pointer none,.int .i64 2]) (by unfold results;try go_simp) rfl ?_
 exact ⟨(Below.refl _ _).alloc (Nat.le_refl _) _,.inl ⟨by rw [H.out];omega,by rw [H.out]⟩⟩
set_option maxHeartbeats 1000000 in
theorem load_gen (A : Option Addr) (c : Nat) (gs : List Int) (A' : Option Addr) (c' : Nat) (ks : List Int) (w : World) (h60 : gs.length ≤ 60) (hA : Lies w w.heap.size A (ints gs)) (hb : anyP badN gs = true) :
  Calls Tryz.prog 91 #[.slice A gs.length c,.slice A' ks.length c'] w (LoadPost gs ks w):=by
 have hE:=loadE_gen (ks:=ks) h60 hb
 have h1:=containsN_any A c gs w.heap.size _ (by omega) (hA.below ((Below.refl w.heap.size w).alloc (Nat.le_refl _) (.cells #[.slice A gs.length c] 22)))
 rw [hb] at h1
 obtain ⟨H,H1⟩:=hid2 hE h1
 have hin : (gs.length : Int) ≤ (60 : Int):=by omega
 clear hE h1 hb hA
 go_enter Tryz.func91,Tryz.ntmps91
 go_wp2_with fail
 refine H1.out.mono ?_
 rintro e w1 ⟨rfl,rfl⟩
 go_wp2
 refine bodyPost_ret (v:=.tuple #[.pointer none,.int .i64 1]) (by unfold results;try go_simp) rfl ?_
 exact ⟨(Below.refl _ _).alloc (Nat.le_refl _) _,.inl ⟨by rw [H.out];omega,by rw [H.out]⟩⟩
set_option maxHeartbeats 1000000 in
theorem load_key (A : Option Addr) (c : Nat) (gs : List Int) (A' : Option Addr) (c' : Nat) (ks : List Int) (w : World) (h60 : gs.length ≤ 60) (hk : ks.length ≤ 9223372036854775807) (hA : Lies w w.heap.size A (ints gs)) (hA' : Lies w w.heap.size A' (ints ks))
  (hb : anyP badN gs = false) (hb2 : anyP (badK gs.length) ks = true) :
  Calls Tryz.prog 91 #[.slice A gs.length c,.slice A' ks.length c'] w (LoadPost gs ks w):=by
 have hE:=loadE_key h60 hb hb2
 have hm:=(Below.refl w.heap.size w).alloc (Nat.le_refl _) (.cells #[.slice A gs.length c] 22)
 have h1:=containsN_any A c gs w.heap.size _ (by omega) (hA.below hm)
 have h2:=containsK_any w.heap.size A gs.length c A' c' ks w.heap.size _ hk (hA'.below hm) (by simp) (by omega)
 rw [hb] at h1
 rw [hb2] at h2
 obtain ⟨H,H1,H2⟩:=hid3 hE h1 h2
 have hin : (gs.length : Int) ≤ (60 : Int):=by omega
 clear hE h1 h2 hb hb2 hA hA' hm
 go_enter Tryz.func91,Tryz.ntmps91
 go_wp2_with fail
 refine H1.out.mono ?_
 rintro e w1 ⟨rfl,rfl⟩
 go_wp2_with fail
 refine H2.out.mono ?_
 rintro e w1 ⟨rfl,rfl⟩
 go_wp2
 refine bodyPost_ret (v:=.tuple #[.pointer none,.int .i64 5]) (by unfold results;try go_simp) rfl ?_
 exact ⟨(Below.refl _ _).alloc (Nat.le_refl _) _,.inl ⟨by rw [H.out];omega,by rw [H.out]⟩⟩
theorem Lies.int_at {w : World} {B : Nat} {A : Option Addr} {zs : List Int} (h : Lies w B A (ints zs)) {k : Nat} (hk : k < zs.length) :
  ∃ b o,A = some ⟨b,o,none⟩ ∧ b < B ∧ w.cell? ⟨b,o + k,none⟩ = some (.int .i64 zs[k]):=by
 have h1 : Lies w B A (zs.flatMap intC):=by rw [← ints_flat];exact h
 obtain ⟨b,o,e,hb,hc⟩:=h1.rec_at (n:=1) (fun _ => rfl) (by omega) hk
 have:=hc 0 _ rfl
 rw [Nat.mul_one,Nat.add_zero] at this
 exact ⟨b,o,e,hb,this⟩
theorem RepS.open_ {w : World} {p : Nat} {l : Sl} {F : List Nat} (h : RepS w p l F) : ∃ A cap,w.heap[p]? = some (.cells #[.slice A l.length cap] 164 (0,0)) ∧ w.ownsRow 0 166 2 (.slice A l.length cap) l.length (l.flatMap slotC) ∧ F = p :: (Value.slice A l.length cap).ownBlock.toList:=by
 obtain ⟨v,h1,h2,h3,-⟩:=h
 obtain ⟨A,cap,rfl,-,-⟩:=row_slice h2
 exact ⟨A,cap,h1,h2,h3⟩
set_option maxHeartbeats 4000000 in
theorem load_in (A : Option Addr) (c : Nat) (gs : List Int) (A' : Option Addr) (c' : Nat) (ks : List Int) (w : World) (hk : ks.length ≤ 9223372036854775807) (hA : Lies w w.heap.size A (ints gs)) (hA' : Lies w w.heap.size A' (ints ks)) (hi : LoadIn gs ks) :
  Calls Tryz.prog 91 #[.slice A gs.length c,.slice A' ks.length c'] w (LoadPost gs ks w):=by
 have hm:=(Below.refl w.heap.size w).alloc (Nat.le_refl _) (.cells #[.slice A gs.length c] 22)
 have h1:=containsN_any A c gs w.heap.size _ (by have:=hi.len;omega) (hA.below hm)
 have h2:=containsK_any w.heap.size A gs.length c A' c' ks w.heap.size _ hk (hA'.below hm) (by simp) (by have:=hi.len;omega)
 rw [hi.bad.1] at h1
 rw [hi.bad.2] at h2
 obtain ⟨H1,H2,HA,HA',HI,HM⟩:=hid6 h1 h2 hA hA' hi hm
 have h60:=hi.len
 have hin : (gs.length : Int) ≤ (60 : Int):=by omega
 clear h1 h2 hA hA' hi hm
 go_enter Tryz.func91,Tryz.ntmps91
 go_wp2_with fail
 refine H1.out.mono ?_
 rintro e w1 ⟨rfl,rfl⟩
 go_wp2_with fail
 refine H2.out.mono ?_
 rintro e w1 ⟨rfl,rfl⟩
 go_wp2_with fail
 refine (slotsNew_any _).mono ?_
 rintro e w1 ⟨p,rfl,hb1,hs1,hp1⟩
 have d0 : w1.cell? ⟨w.heap.size,0,none⟩ = some (.slice A gs.length c):=(hb1.cell (p:=⟨w.heap.size,0,none⟩) (by simp)).trans (by simp)
 have hsz1:=hb1.size
 have hb2:=HM.out.trans (hb1.mono (by simp))
 simp only [World.size_alloc] at hsz1 hp1
 obtain ⟨HS1,HB1⟩:=hid2 hs1 hb2
 have hpw : w.heap.size ≤ p:=by omega
 clear hs1 hb1 H1 H2 HM hb2 hin hsz1 hp1
 go_wp2
 clear d0
 go_loopw [25] (fun i wr => ∃ (k : Nat) (F : List Nat),k ≤ gs.length ∧ i = .int .i64 k ∧ RepS wr p ((gs.take k).map (·,false)) F ∧ (∀ b ∈ F,w.heap.size ≤ b) ∧ Below w.heap.size w wr) (fun i _ => gs.length - (Go.RowKit.intOf i).toNat)
 case atStart => exact ⟨0,_,by omega,rfl,HS1.out,by simpa using hpw,HB1.out⟩
 case round =>
  obtain ⟨k,F,hkl,rfl,hs,hF,hbel⟩:=hrel
  have hsz:=hbel.size
  by_cases hlt : k < gs.length
  ·obtain ⟨ab,ao,rfl,hab,hcell⟩:=HA.out.int_at hlt
   have c0:=(hbel.cell (p:=⟨ab,ao + k,none⟩) hab).trans hcell
   have hab2 : ab < wr.heap.size:=by omega
   have hs2 : (gs.take (k + 1)).map (·,false) = (gs.take k).map (·,false) ++ [(gs[k],false)]:=by rw [take_succ_get gs k hlt,List.map_append];rfl
   have hlen : ((gs.take k).map (·,false)).length ≤ 60:=by simp;omega
   generalize ((gs.take k).map (·,false)) = L at *
   obtain ⟨B,cap,hp,hrow,hFe⟩:=hs.open_
   have c1:=blk_cell hp 0
   simp at c1
   have hpl:=blk_lt hp
   obtain ⟨HS,HP,HR,HFe,HF,HBel⟩:=hid6 hs hp hrow hFe hF hbel
   generalize gs[k] = x at *
   have Hs2:=Lib.hid hs2
   clear hcell hs2 hs hp hrow hFe hF hbel HS1 HB1
   go_wp2_with (at_builtin;refine app_slot rfl _ _ rfl 0 _ L (x,false) ⟨wr.heap.size,0,none⟩ 1 rfl (row_mod HR.out ((Mod.refl [] wr).alloc _) (by simp)) rfl (new_rec rfl rfl) (by omega) (by omega) ?_;intro v' w2 hown2 hg1 hloc;obtain ⟨g',cap',rfl,n1,n2,n3,KR,KM,KF⟩:=push_fin HS.out HP.out HFe.out hown2 hg1 hloc;clear hown2 hg1 hloc)
   go_roundw
   case rel =>
    refine ⟨k + 1,_,by omega,by go_num,by rw [Hs2.out];exact KR.out,?_,?_⟩
    ·intro b hb
     rcases List.mem_cons.1 hb with rfl | hb
     ·exact hpw
     ·rcases KF.out b hb with h | h
      ·exact HF.out b h
      ·omega
    ·have hpF : p ∈ F:=by rw [HFe.out];simp
     exact HBel.out.trans ((KM.out.setCell (.inl hpF) _).toBelow HF.out hsz)
   case measure => simp [Go.RowKit.intOf];omega
  ·obtain rfl : k = gs.length:=by omega
   rw [List.take_length,← loadL_nil] at hs
   obtain ⟨HS,HF,HBel⟩:=hid3 hs hF hbel
   clear hs hF hbel HS1 HB1
   go_wp2
   go_loopw [43] (fun i wr => ∃ n : Nat,n ≤ ks.length ∧ i = .int .i64 n ∧ RepS wr p (loadL gs (ks.take n)) F ∧ (∀ j (h : j < n) (h' : j < ks.length),hasB (ks.take j) ks[j] = false) ∧ Below w.heap.size w wr) (fun i _ => ks.length - (Go.RowKit.intOf i).toNat)
   case atStart => exact ⟨0,by omega,rfl,HS.out,fun j h => by omega,HBel.out⟩
   case round =>
    obtain ⟨n,hn,rfl,hs,hno,hbel⟩:=hrel
    have hsz:=hbel.size
    have hlL:=loadL_len gs (ks.take n)
    by_cases hlt : n < ks.length
    ·obtain ⟨ab,ao,rfl,hab,hcell⟩:=HA'.out.int_at hlt
     have c0:=(hbel.cell (p:=⟨ab,ao + n,none⟩) hab).trans hcell
     obtain ⟨hz0,hz1⟩:=HI.out.keys n hlt
     obtain ⟨m,hm⟩:=Int.eq_ofNat_of_zero_le hz0
     rw [hm] at c0 hz1
     have hmL : m < (loadL gs (ks.take n)).length:=by rw [hlL];omega
     have hmi : (m : Int) < ((loadL gs (ks.take n)).length : Int):=by omega
     obtain ⟨g0,cap,hp,hgF,hgl,e0,e1,hfz,-,hset⟩:=hs.at_ hmL
     have hset':=hset true
     rw [loadL_set gs (ks.take n) hmL,← hm,← take_succ_get ks n hlt] at hset'
     rw [loadL_get gs (ks.take n) hmL] at e0 e1
     simp only at e0 e1
     have c1:=blk_cell hp 0
     simp only [eA,eZ] at c1
     have hpl:=blk_lt hp
     have f1:=hfz (m * 2 + 1)
     have hdup : hasB (ks.take n) (m : Int) = true → loadE gs ks = 6:=fun h => HI.out.dup (dupB_of hlt (by rw [hm];exact h))
     have hno2 : hasB (ks.take n) (m : Int) = false → ∀ j (h : j < n + 1) (h' : j < ks.length),hasB (ks.take j) ks[j] = false:=by
      intro hf j h h'
      by_cases e : j = n
      ·subst e;rw [hm];exact hf
      ·exact hno j (by omega) h'
     have hab2 : ab < wr.heap.size:=by omega
     clear hset
     generalize hasB (ks.take n) (m : Int) = r at *
     generalize gs[m]'(by omega) = x at *
     generalize loadL gs (ks.take n) = L at *
     obtain ⟨HS2,HSet,HBel2,Hdup,Hno2,HG,HP⟩:=hid7 hs hset' hbel hdup hno2 hgF hp
     clear hs hset' hbel hdup hno2 hno hcell hm hfz hgF hp HS HBel
     cases r with
     | true =>
      have H:=Lib.hid (Hdup.out rfl)
      go_wp2
      refine bodyPost_ret (v:=.tuple #[.pointer none,.int .i64 6]) (by unfold results;try go_simp) rfl ?_
      exact ⟨HBel2.out,.inl ⟨by rw [H.out];omega,by rw [H.out]⟩⟩
     | false =>
      go_wp2
      go_roundw
      case rel => exact ⟨n + 1,by omega,by go_num,HSet.out,Hno2.out rfl,HBel2.out.trans (((Mod.refl F wr).setCell (p:=⟨g0,m * 2 + 1,none⟩) (.inl HG.out) _).toBelow HF.out hsz)⟩
      case measure => simp [Go.RowKit.intOf];omega
    ·obtain rfl : n = ks.length:=by omega
     rw [List.take_length] at hs hlL
     have hd : dupB ks = false:=dupB_none fun j hj => hno j hj hj
     obtain ⟨B,cap,hp,hrow,hFe⟩:=hs.open_
     have c1:=blk_cell hp 0
     simp only [eA,eZ] at c1
     have hpl:=blk_lt hp
     have hcs:=containsSlot_any _ _ 1000000 true wr hrow (by rw [hlL];omega)
     obtain ⟨HCs,HS2,HBel2,HD⟩:=hid4 hcs hs hbel hd
     clear hcs hs hbel hd hno hrow hp hFe HS HBel hlt
     generalize (loadL gs ks).length = NL at *
     subst hlL
     go_wp2_with fail
     refine HCs.out.mono ?_
     rintro e w4 ⟨rfl,hb4⟩
     have HB4:=Lib.hid (HBel2.out.trans (hb4.mono hsz))
     have HS4:=Lib.hid (HS2.out.mod (Mod.ofBelow hb4) (by simp))
     clear hb4 HCs
     cases hany : anyS (1000000,true) (loadL gs ks) with
     | true =>
      have H:=Lib.hid (HI.out.full HD.out hany)
      clear hany
      go_wp2
      refine bodyPost_ret (v:=.tuple #[.pointer none,.int .i64 1]) (by unfold results;try go_simp) rfl ?_
      exact ⟨HB4.out,.inl ⟨by rw [H.out];omega,by rw [H.out]⟩⟩
     | false =>
      have H:=Lib.hid (HI.out.good HD.out hany)
      have HO:=Lib.hid (HI.out.ok hany)
      clear hany
      go_wp2
      refine bodyPost_ret (v:=.tuple #[.pointer (some ⟨p,0,none⟩),.int .i64 0]) (by unfold results;try go_simp) rfl ?_
      exact ⟨HB4.out,.inr ⟨H.out,p,F,rfl,HS4.out,HF.out,HO.out⟩⟩
theorem load_any (A : Option Addr) (c : Nat) (gs : List Int) (A' : Option Addr) (c' : Nat) (ks : List Int) (w : World) (hg : gs.length ≤ 9223372036854775807) (hk : ks.length ≤ 9223372036854775807) (hA : Lies w w.heap.size A (ints gs)) (hA' : Lies w w.heap.size A' (ints ks)) :
  Calls Tryz.prog 91 #[.slice A gs.length c,.slice A' ks.length c'] w (LoadPost gs ks w):=by
 by_cases h60 : 60 < gs.length
 ·exact load_long A c gs A' c' ks w hg h60
 ·cases h1 : anyP badN gs with
  | true => exact load_gen A c gs A' c' ks w (by omega) hA h1
  | false =>
   cases h2 : anyP (badK gs.length) ks with
   | true => exact load_key A c gs A' c' ks w (by omega) hk hA hA' h1 h2
   | false => exact load_in A c gs A' c' ks w hk hA hA' (loadIn_of (by omega) h1 h2)
end Go.Proofs.YtfdillpofciicaaGreatDoor
namespace Go.Proofs.YtfdillpofciicaaGreatDoor
open Go Go.RowKit
end Go.Proofs.YtfdillpofciicaaGreatDoor
namespace Go.Proofs.YtfdillpofciicaaGreatDoor
open Go Go.ChangeShapes Go.WideShapes Go.RowKit
end Go.Proofs.YtfdillpofciicaaGreatDoor
namespace Go.Proofs.YtfdillpofciicaaGreatDoor
open Go Go.RowKit
attribute [local go_sem] AllFrom.cons_eq AllFrom.nil_eq putF_nil putF_cons wantedL_none wantedL_some OpGoalT OpGoalS OpGoalP OpGoalV YieldsR preF_nil preF_cons
end Go.Proofs.YtfdillpofciicaaGreatDoor
namespace Go.Proofs.YtfdillpofciicaaGreatDoor
open Go Go.RowKit
end Go.Proofs.YtfdillpofciicaaGreatDoor
namespace Go.Proofs.YtfdillpofciicaaGreatDoor
open Go.ChangeShapes Go.WideShapes Go.ChangeAt Go.RowKit
attribute [local go_sem] AllFrom.cons_eq AllFrom.nil_eq putF_nil putF_cons wantedL_none wantedL_some OpGoalT OpGoalS OpGoalP OpGoalV YieldsR preF_nil preF_cons
theorem load_err (A : Option Addr) (c : Nat) (gs : List Int) (A' : Option Addr) (c' : Nat) (ks : List Int) (w : World) (hg : gs.length ≤ 9223372036854775807) (hk : ks.length ≤ 9223372036854775807) (hA : Lies w w.heap.size A (ints gs)) (hA' : Lies w w.heap.size A' (ints ks)) (hE : loadE gs ks ≠ 0) :
  Calls Tryz.prog 91 #[.slice A gs.length c,.slice A' ks.length c'] w fun e w' => e = .returned (.tuple #[.pointer none,.int .i64 (loadE gs ks)]) ∧ Below w.heap.size w w' :=
 (load_any A c gs A' c' ks w hg hk hA hA').mono fun e w' ⟨hb,h⟩ => by
  rcases h with ⟨_,h⟩ | ⟨h,_⟩
  ·exact ⟨h,hb⟩
  ·exact absurd h hE
theorem load_ok (A : Option Addr) (c : Nat) (gs : List Int) (A' : Option Addr) (c' : Nat) (ks : List Int) (w : World) (hg : gs.length ≤ 9223372036854775807) (hk : ks.length ≤ 9223372036854775807) (hA : Lies w w.heap.size A (ints gs)) (hA' : Lies w w.heap.size A' (ints ks)) (hE : loadE gs ks = 0) :
  Calls Tryz.prog 91 #[.slice A gs.length c,.slice A' ks.length c'] w fun e w' => ∃ p F,e = .returned (.tuple #[.pointer (some ⟨p,0,none⟩),.int .i64 0]) ∧ RepS w' p (loadL gs ks) F ∧ (∀ k ∈ F,w.heap.size ≤ k) ∧ SlOk (loadL gs ks) ∧ Below w.heap.size w w' :=
 (load_any A c gs A' c' ks w hg hk hA hA').mono fun e w' ⟨hb,h⟩ => by
  rcases h with ⟨h,_⟩ | ⟨_,p,F,h1,h2,h3,h4⟩
  ·exact absurd hE h
  ·exact ⟨p,F,h1,h2,h3,h4,hb⟩
end Go.Proofs.YtfdillpofciicaaGreatDoor
namespace Go.Proofs.YtfdillpofciicaaGreatDoor
open Go Go.RowKit
def slotsOf (rows : List Rw) : List Int:=rows.map (fun r => r.1.1)
def rowsErr (sl : Sl) : List Rw → Int
 | [] => 0
 | r :: rs => if liveB sl r.1.1 r.1.2 = false then 7 else if beastZ r.2 ≠ 0 then beastZ r.2 else rowsErr sl rs
def wlS (gs : List Int) (rows : List Rw) : Sl:=loadL gs (slotsOf rows)
def wlE (gs : List Int) (rows : List Rw) : Int:=if 60 < rows.length then 2 else if loadE gs (slotsOf rows) ≠ 0 then loadE gs (slotsOf rows) else rowsErr (wlS gs rows) rows
def wlL (gs : List Int) (rows : List Rw) : List Rw:=(List.range gs.length).flatMap (fun (k : Nat) => rows.filter (fun r => decide (r.1.1 = (k : Int))))
theorem rowsErr_ok {sl : Sl} : ∀ {rows : List Rw},rowsErr sl rows = 0 ↔ ∀ r ∈ rows,liveB sl r.1.1 r.1.2 = true ∧ beastZ r.2 = 0
 | [] => by simp [rowsErr]
 | r :: rs => by
  have ih:=rowsErr_ok (sl:=sl) (rows:=rs)
  rw [rowsErr]
  constructor
  ·intro h
   by_cases h1 : liveB sl r.1.1 r.1.2 = false
   ·rw [if_pos h1] at h;simp at h
   ·rw [if_neg h1] at h
    by_cases h2 : beastZ r.2 ≠ 0
    ·rw [if_pos h2] at h;exact absurd h h2
    ·rw [if_neg h2] at h
     intro x hx
     rcases List.mem_cons.1 hx with rfl | hx
     ·exact ⟨by simpa using h1,Decidable.not_not.1 h2⟩
     ·exact ih.1 h x hx
  ·intro h
   have h0:=h r (by simp)
   rw [if_neg (by rw [h0.1];simp),if_neg (by rw [h0.2];simp)]
   exact ih.2 fun x hx => h x (List.mem_cons_of_mem _ hx)
theorem loadE_zero {gs ks : List Int} (h : loadE gs ks = 0) : LoadIn gs ks ∧ dupB ks = false ∧ anyS (1000000,true) (loadL gs ks) = false:=by
 unfold loadE at h
 by_cases h1 : 60 < gs.length
 ·rw [if_pos h1] at h;simp at h
 ·rw [if_neg h1] at h
  by_cases h2 : anyP badN gs = true
  ·rw [if_pos h2] at h;simp at h
  ·rw [if_neg h2] at h
   by_cases h3 : anyP (badK gs.length) ks = true
   ·rw [if_pos h3] at h;simp at h
   ·rw [if_neg h3] at h
    by_cases h4 : dupB ks = true
    ·rw [if_pos h4] at h;simp at h
    ·rw [if_neg h4] at h
     by_cases h5 : anyS (1000000,true) (loadL gs ks) = true
     ·rw [if_pos h5] at h;simp at h
     ·exact ⟨loadIn_of (by omega) (by simpa using h2) (by simpa using h3),by simpa using h4,by simpa using h5⟩
theorem nodup_of_dupB {ks : List Int} (h : dupB ks = false) : ks.Nodup:=by
 refine List.pairwise_iff_getElem.2 fun i j hi hj hij e => ?_
 have:=dupB_of (ks:=ks) hj (by
  rw [hasB_iff,← e]
  refine List.mem_iff_getElem.2 ⟨i,by rw [List.length_take];omega,by rw [List.getElem_take]⟩)
 rw [h] at this;cases this
section
variable {gs : List Int} {rows : List Rw}
structure WLok (gs : List Int) (rows : List Rw) : Prop where
 i : LoadIn gs (slotsOf rows)
 nd : rows.Pairwise (fun a b => a.1.1 ≠ b.1.1)
 ok : SlOk (wlS gs rows)
 live : ∀ r ∈ rows,liveB (wlS gs rows) r.1.1 r.1.2 = true
 be : ∀ r ∈ rows,beastZ r.2 = 0
 len : rows.length ≤ 60
theorem wlok_of (h : wlE gs rows = 0) : WLok gs rows:=by
 unfold wlE at h
 by_cases h1 : 60 < rows.length
 ·rw [if_pos h1] at h;simp at h
 ·rw [if_neg h1] at h
  by_cases h2 : loadE gs (slotsOf rows) ≠ 0
  ·rw [if_pos h2] at h;exact absurd h h2
  ·rw [if_neg h2] at h
   obtain ⟨a,b,c⟩:=loadE_zero (Decidable.not_not.1 h2)
   have hr:=rowsErr_ok.1 h
   refine ⟨a,?_,a.ok c,fun r hr' => (hr r hr').1,fun r hr' => (hr r hr').2,by omega⟩
   have:=nodup_of_dupB b
   unfold slotsOf List.Nodup at this
   rw [List.pairwise_map] at this
   exact this
theorem WLok.slot (h : WLok gs rows) {r : Rw} (hr : r ∈ rows) : ∃ s : Nat,r.1.1 = (s : Int) ∧ s < gs.length ∧ s < 60:=by
 obtain ⟨i,hi,he⟩:=List.mem_iff_getElem.1 (show r.1.1 ∈ slotsOf rows from List.mem_map.2 ⟨r,hr,rfl⟩)
 have h1:=h.i.keys i hi
 rw [he] at h1
 have:=h.i.len
 exact ⟨r.1.1.toNat,by omega,by omega,by omega⟩
theorem WLok.mem (h : WLok gs rows) (y : Rw) : y ∈ wlL gs rows ↔ y ∈ rows:=by
 unfold wlL
 rw [List.mem_flatMap]
 constructor
 ·rintro ⟨k,-,hy⟩;exact (List.mem_filter.1 hy).1
 ·intro hy
  obtain ⟨s,h1,h2,-⟩:=h.slot hy
  exact ⟨s,List.mem_range.2 h2,List.mem_filter.2 ⟨hy,by simpa using h1⟩⟩
theorem WLok.sorted (h : WLok gs rows) : (wlL gs rows).Pairwise (fun a b => a.1.1 < b.1.1):=by
 unfold wlL
 rw [List.pairwise_flatMap]
 refine ⟨fun k _ => ?_,?_⟩
 ·refine List.Pairwise.imp_of_mem ?_ (h.nd.sublist (List.filter_sublist (p:=fun r : Rw => decide (r.1.1 = (k : Int)))))
  intro a b ha hb hne
  have e1:=(List.mem_filter.1 ha).2
  have e2:=(List.mem_filter.1 hb).2
  simp only [decide_eq_true_eq] at e1 e2
  exact absurd (e1.trans e2.symm) hne
 ·refine List.Pairwise.imp ?_ List.pairwise_lt_range
  intro a b hab x hx y hy
  have e1:=(List.mem_filter.1 hx).2
  have e2:=(List.mem_filter.1 hy).2
  simp only [decide_eq_true_eq] at e1 e2
  omega
theorem WLok.wok (h : WLok gs rows) : WOk (wlS gs rows) (wlL gs rows):=by
 refine ⟨h.ok,?_,fun x hx => h.be x ((h.mem x).1 hx)⟩
 have hs1 : ((wlL gs rows).map (·.1)).Pairwise (fun a b => a.1 < b.1):=by rw [List.pairwise_map];exact h.sorted
 have hs2 : (allS (wlS gs rows)).Pairwise (fun a b => a.1 < b.1):=allFrom_sorted _ 0
 have n1 : ((wlL gs rows).map (·.1)).Nodup:=hs1.imp (fun h e => by rw [e] at h;omega)
 have n2 : (allS (wlS gs rows)).Nodup:=hs2.imp (fun h e => by rw [e] at h;omega)
 have hp : ((wlL gs rows).map (·.1)).Perm (allS (wlS gs rows)):=by
  refine (List.perm_ext_iff_of_nodup n1 n2).2 fun x => ?_
  obtain ⟨s,g⟩:=x
  rw [← liveB_iff,List.mem_map]
  constructor
  ·rintro ⟨r,hr,e⟩
   have:=h.live r ((h.mem r).1 hr)
   rw [e] at this
   exact this
  ·intro hl
   obtain ⟨h0,hlt,he⟩:=liveB_lt hl
   obtain ⟨k,rfl⟩:=Int.eq_ofNat_of_zero_le h0
   simp only [Int.toNat_natCast] at hlt he
   have hk:=loadL_get gs (slotsOf rows) (n:=k) (by exact hlt)
   have he2 : (loadL gs (slotsOf rows))[k]'hlt = (g,true):=he
   rw [hk] at he2
   simp only [Prod.mk.injEq] at he2
   obtain ⟨r,hr,e1⟩:=List.mem_map.1 ((hasB_iff _ _).1 he2.2)
   refine ⟨r,(h.mem r).2 hr,?_⟩
   have hlr:=h.live r hr
   rw [e1] at hlr
   obtain ⟨-,h5,h6⟩:=liveB_lt hlr
   simp only [Int.toNat_natCast] at h5 h6
   have h7 : (loadL gs (slotsOf rows))[k]'hlt = (r.1.2,true):=h6
   rw [hk] at h7
   simp only [Prod.mk.injEq] at h7
   exact Prod.ext_iff.2 ⟨e1,h7.1.symm.trans he2.1⟩
 refine List.Perm.eq_of_pairwise (le:=fun a b : Hd => a.1 ≤ b.1) (fun a b ha hb e1 e2 => ?_) (hs1.imp (fun h => by omega)) (hs2.imp (fun h => by omega)) hp
 have ha2:=hp.mem_iff.1 ha
 obtain ⟨i,hi,rfl⟩:=List.mem_iff_getElem.1 ha2
 obtain ⟨j,hj,rfl⟩:=List.mem_iff_getElem.1 hb
 have hpp:=List.pairwise_iff_getElem.1 hs2
 rcases Nat.lt_trichotomy i j with h1 | h1 | h1
 ·have:=hpp i j hi hj h1;omega
 ·subst h1;rfl
 ·have:=hpp j i hj hi h1;omega
end
noncomputable def loadB (sl : Sl) : List Bd → List Bd → List Bd × Int
 | B,[] => (B,0)
 | B,x :: r => if liveZ sl [x.1,x.2] = true then (if (parB B x.1).isSome = true then (B,6) else if adoE B x.1 x.2 = 0 then loadB sl (adoB B x.1 x.2) r else (B,adoE B x.1 x.2)) else (B,7)
section
variable {sl : Sl} {B : List Bd} {x : Bd} {r : List Bd}
theorem loadB_dead (h : liveZ sl [x.1,x.2] = false) : loadB sl B (x :: r) = (B,7):=by unfold loadB;rw [if_neg (by rw [h];simp)]
theorem loadB_twice (h : liveZ sl [x.1,x.2] = true) (h2 : (parB B x.1).isSome = true) : loadB sl B (x :: r) = (B,6):=by unfold loadB;rw [if_pos h,if_pos h2]
theorem loadB_loop (h : liveZ sl [x.1,x.2] = true) (h2 : (parB B x.1).isSome = false) (h3 : adoE B x.1 x.2 ≠ 0) : loadB sl B (x :: r) = (B,adoE B x.1 x.2):=by unfold loadB;rw [if_pos h,if_neg (by rw [h2];simp),if_neg h3]
theorem loadB_go (h : liveZ sl [x.1,x.2] = true) (h2 : (parB B x.1).isSome = false) (h3 : adoE B x.1 x.2 = 0) : loadB sl B (x :: r) = loadB sl (adoB B x.1 x.2) r:=by conv => { lhs;unfold loadB };rw [if_pos h,if_neg (by rw [h2];simp),if_pos h3]
theorem adoE_cases (B : List Bd) (a b : Hd) : adoE B a b = 0 ∨ adoE B a b = 8:=by unfold adoE;split <;> simp
theorem adoB_fam (h : FamOk B) (a b : Hd) : FamOk (adoB B a b):=by
 unfold adoB
 split
 ·exact h
 ·exact insB_ok h (by assumption)
theorem adoB_live (h : ∀ b ∈ B,b.1 ∈ allS sl) {a b : Hd} (ha : a ∈ allS sl) : ∀ y ∈ adoB B a b,y.1 ∈ allS sl:=by
 intro y hy
 unfold adoB at hy
 split at hy
 ·exact h y hy
 ·rcases mem_insB.1 hy with rfl | ⟨hy,-⟩
  ·exact ha
  ·exact h y hy
theorem liveZ_two {a b : Hd} : liveZ sl [a,b] = (liveB sl a.1 a.2 && liveB sl b.1 b.2):=by unfold liveZ;simp
end
noncomputable def zlE (gs : List Int) (rows : List Rw) (bs : List Bd) : Int:=if wlE gs rows = 0 then (loadB (wlS gs rows) [] bs).2 else wlE gs rows
noncomputable def zlB (gs : List Int) (rows : List Rw) (bs : List Bd) : List Bd:=(loadB (wlS gs rows) [] bs).1
theorem zlE_bad {gs : List Int} {rows : List Rw} {bs : List Bd} (h : wlE gs rows ≠ 0) : zlE gs rows bs = wlE gs rows:=by unfold zlE;rw [if_neg h]
theorem zlE_run {gs : List Int} {rows : List Rw} {bs B : List Bd} {z : Int} (h : wlE gs rows = 0) (h2 : loadB (wlS gs rows) [] bs = (B,z)) : zlE gs rows bs = z ∧ zlB gs rows bs = B:=by unfold zlE zlB;rw [if_pos h,h2];exact ⟨rfl,rfl⟩
theorem spawnS_sub {sl : Sl} (h : SlOk sl) (b : Bt) {x : Hd} (hx : x ∈ allS sl) : x ∈ allS (spawnS sl b):=by
 unfold spawnS
 split
 ·exact hx
 ·by_cases e : takeE sl = 0
  ·obtain ⟨k,-,-,-,ha⟩:=take_spec h e
   rw [ha]
   unfold insH
   rw [← List.takeWhile_append_dropWhile (p:=fun y : Hd => decide (y.1 < ((k : Int),takeG sl).1) ) (l:=allS sl)] at hx
   rcases List.mem_append.1 hx with hx | hx
   ·exact List.mem_append.2 (.inl hx)
   ·exact List.mem_append.2 (.inr (List.mem_cons_of_mem _ hx))
  ·have e2 : takeL sl = sl:=by
    unfold takeE at e
    unfold takeL
    cases hf : sl.findIdx? freeB with
    | some k => rw [hf] at e;exact absurd rfl e
    | none =>
     rw [hf] at e
     simp only at e ⊢
     by_cases h60 : sl.length = 60
     ·rw [if_pos h60]
     ·rw [if_neg h60] at e;exact absurd rfl e
   rw [e2];exact hx
theorem kills_par : ∀ {sl : Sl} {L : List Rw} {B : List Bd} (_ : ∀ b ∈ B,b.2 ∈ allS sl) (l : List Hd),∀ b ∈ (killsZ (sl,L,B) l).2.2,b.2 ∈ allS (killsZ (sl,L,B) l).1
 | _,_,_,h,[] => h
 | sl,L,B,h,x :: l => kills_par (sl:=freeL sl x.1 x.2) (L:=killL L x) (B:=goneB B x) (fun b hb => by
  obtain ⟨h1,-,h3⟩:=mem_goneB.1 hb
  exact mem_free.2 ⟨h b h1,h3⟩) l
structure DoAt (sl : Sl) (L : List Rw) (B : List Bd) (d K a0 a1 a2 a3 a4 a5 a6 a7 s g ts tg k n : Int) (sl' : Sl) (L' : List Rw) (B' : List Bd) (r0 r1 e : Int) : Prop where
 c : ∀ b ∈ B',b.1 ∈ allS sl'
 ok : ZOk sl L B → ZOk sl' L' B'
 par : (∀ b ∈ B,b.2 ∈ allS sl) → ∀ b ∈ B',b.2 ∈ allS sl'
 pl : DoPl sl d sl' r0 r1 e
 v : ∀ {z p f : Nat} {w : World} {F : List Nat},RepV z p f sl L B w F → Calls Tryz.prog 15 #[.pointer (some ⟨z,0,none⟩),.agg #[.int .i64 d,.int .i64 K,.int .i64 a0,.int .i64 a1,.int .i64 a2,.int .i64 a3,.int .i64 a4,.int .i64 a5,.int .i64 a6,.int .i64 a7,.int .i64 s,.int .i64 g,.int .i64 ts,.int .i64 tg,.int .i64 k,.int .i64 n]] w (VRet z p f sl' L' B' F w (.tuple #[.agg #[.int .i64 r0,.int .i64 r1],.int .i64 e]))
theorem live2 {sl : Sl} {s g t u : Int} : liveZ sl [(s,g),(t,u)] = (liveB sl s g && liveB sl t u):=by unfold liveZ;simp
theorem live1 {sl : Sl} {s g : Int} : liveZ sl [(s,g)] = liveB sl s g:=by unfold liveZ;simp
theorem doAt_spawn {sl : Sl} {L : List Rw} {B : List Bd} (hO : ZOk sl L B) (K a0 a1 a2 a3 a4 a5 a6 a7 s g ts tg k n : Int) :
  DoAt sl L B 1 K a0 a1 a2 a3 a4 a5 a6 a7 s g ts tg k n (spawnS sl (K,a0,a1,a2,a3,a4,a5,a6,a7)) (spawnL sl L (K,a0,a1,a2,a3,a4,a5,a6,a7)) B (spawnH sl (K,a0,a1,a2,a3,a4,a5,a6,a7)).1 (spawnH sl (K,a0,a1,a2,a3,a4,a5,a6,a7)).2 (spawnE sl (K,a0,a1,a2,a3,a4,a5,a6,a7)) :=
 ⟨fun b hb => spawnS_sub hO.w.ok _ (hO.c b hb),fun hO => ⟨hO.w.spawnA _,hO.f,fun b hb => spawnS_sub hO.w.ok _ (hO.c b hb)⟩,fun hq b hb => spawnS_sub hO.w.ok _ (hq b hb),doPl_spawn hO.w.ok _,fun h => vdo_spawn h K a0 a1 a2 a3 a4 a5 a6 a7 s g ts tg k n⟩
theorem do_any {sl : Sl} {L : List Rw} {B : List Bd} (hO : ZOk sl L B) (d K a0 a1 a2 a3 a4 a5 a6 a7 s g ts tg k n : Int) (hc : HdR (s,g)) (hp : HdR (ts,tg)) :
  ∃ sl' L' B' r0 r1 e,DoAt sl L B d K a0 a1 a2 a3 a4 a5 a6 a7 s g ts tg k n sl' L' B' r0 r1 e:=by
 by_cases h1 : d = 1
 ·subst h1
  exact ⟨_,_,_,_,_,_,fun b hb => spawnS_sub hO.w.ok _ (hO.c b hb),fun hO => ⟨hO.w.spawnA _,hO.f,fun b hb => spawnS_sub hO.w.ok _ (hO.c b hb)⟩,fun hq b hb => spawnS_sub hO.w.ok _ (hq b hb),doPl_spawn hO.w.ok _,fun h => vdo_spawn h K a0 a1 a2 a3 a4 a5 a6 a7 s g ts tg k n⟩
 by_cases h2 : d = 2
 ·subst h2
  cases hl : liveB sl s g with
  | true => exact ⟨_,_,_,_,_,_,(hO.kills _).c,fun hO => hO.kills _,fun hq => kills_par hq _,doPl_kills _ (by decide),fun h => vdo_kill h K a0 a1 a2 a3 a4 a5 a6 a7 s g ts tg k n hO hl⟩
  | false => exact ⟨_,_,_,_,_,_,hO.c,id,id,doPl_same (fun h => absurd h (by decide)),fun h => vdo_killno h K a0 a1 a2 a3 a4 a5 a6 a7 s g ts tg k n hO hl⟩
 by_cases h3 : d = 3
 ·subst h3
  exact ⟨_,_,_,_,_,_,hO.c,fun hO => ⟨hO.w.putA _ _ _,hO.f,hO.c⟩,id,doPl_same (fun h => absurd h (by decide)),fun h => vdo_put h K a0 a1 a2 a3 a4 a5 a6 a7 s g ts tg k n⟩
 by_cases h4 : d = 4
 ·subst h4
  exact ⟨_,_,_,_,_,_,hO.c,fun hO => ⟨hO.w.dropA _ _,hO.f,hO.c⟩,id,doPl_same (fun h => absurd h (by decide)),fun h => vdo_drop h K a0 a1 a2 a3 a4 a5 a6 a7 s g ts tg k n⟩
 by_cases h5 : d = 5
 ·subst h5
  cases hl : liveB sl s g with
  | false => exact ⟨_,_,_,_,_,_,hO.c,id,id,doPl_same (fun h => absurd h (by decide)),fun h => vdo_adoptno h K a0 a1 a2 a3 a4 a5 a6 a7 s g ts tg k n (by rw [live2,hl];rfl)⟩
  | true =>
   cases ht : liveB sl ts tg with
   | false => exact ⟨_,_,_,_,_,_,hO.c,id,id,doPl_same (fun h => absurd h (by decide)),fun h => vdo_adoptno h K a0 a1 a2 a3 a4 a5 a6 a7 s g ts tg k n (by rw [live2,hl,ht];rfl)⟩
   | true =>
    refine ⟨_,_,_,_,_,_,fun b hb => ?_,fun hO2 => ⟨hO2.w,adoB_fam hO2.f _ _,?_⟩,fun hq b hb => ?_,doPl_same (fun h => absurd h (by decide)),fun h => vdo_adopt h K a0 a1 a2 a3 a4 a5 a6 a7 s g ts tg k n hc hp (by rw [live2,hl,ht];rfl)⟩
    ·unfold adoB at hb
     split at hb
     ·exact hO.c b hb
     ·rcases mem_insB.1 hb with rfl | ⟨hb,-⟩
      ·exact (liveB_iff sl s g).1 hl
      ·exact hO.c b hb
    ·exact adoB_live hO2.c ((liveB_iff sl s g).1 hl)
    ·unfold adoB at hb
     split at hb
     ·exact hq b hb
     ·rcases mem_insB.1 hb with rfl | ⟨hb,-⟩
      ·exact (liveB_iff sl ts tg).1 ht
      ·exact hq b hb
 by_cases h6 : d = 6
 ·subst h6
  cases hl : liveB sl s g with
  | true => exact ⟨_,_,_,_,_,_,fun b hb => hO.c b (List.mem_filter.1 hb).1,fun hO => ⟨hO.w,hO.f.sub List.filter_sublist,fun b hb => hO.c b (List.mem_filter.1 hb).1⟩,fun hq b hb => hq b (List.mem_filter.1 hb).1,doPl_same (fun h => absurd h (by decide)),fun h => vdo_loosen h K a0 a1 a2 a3 a4 a5 a6 a7 s g ts tg k n hc (by rw [live1,hl])⟩
  | false => exact ⟨_,_,_,_,_,_,hO.c,id,id,doPl_same (fun h => absurd h (by decide)),fun h => vdo_loosenno h K a0 a1 a2 a3 a4 a5 a6 a7 s g ts tg k n (by rw [live1,hl])⟩
 exact ⟨_,_,_,_,_,_,hO.c,id,id,doPl_same (fun h => absurd h h1),fun h => vdo_other h K a0 a1 a2 a3 a4 a5 a6 a7 s g ts tg k n d h1 h2 h3 h4 h5 h6⟩
def meanH (sp : List Hd) (h : Hd) (is : Bool) : Hd × Bool :=
 if is = false ∨ 0 ≤ h.1 then (h,true) else match sp[(-h.1 - 1).toNat]? with
  | some x => (x,true)
  | none => (h,false)
theorem meanH_no (sp : List Hd) (h : Hd) (hn : h.1 < -(sp.length : Int)) : meanH sp h true = (h,false):=by
 unfold meanH
 rw [if_neg (by simp;omega),List.getElem?_eq_none (by omega)]
theorem meanH_in (sp : List Hd) (h : Hd) (h0 : h.1 < 0) (hn : -(sp.length : Int) ≤ h.1) : meanH sp h true = (sp[(-h.1 - 1).toNat]'(by omega),true):=by
 unfold meanH
 rw [if_neg (by simp;omega),List.getElem?_eq_getElem (by omega)]
theorem meanH_self (sp : List Hd) (h : Hd) (is : Bool) (h0 : is = false ∨ 0 ≤ h.1) : meanH sp h is = (h,true):=by
 unfold meanH
 rw [if_pos h0]
end Go.Proofs.YtfdillpofciicaaGreatDoor
namespace Go.Proofs.YtfdillpofciicaaGreatDoor
open Go Go.RowKit Go.ChangeShapes Go.WideShapes Go.ChangeAt
abbrev Ov:=Int × Bt × Hd × Hd × Int × Int
def opI (x : Ov) : List Int:=[x.1] ++ (btI x.2.1 ++ (hdI x.2.2.1 ++ (hdI x.2.2.2.1 ++ [x.2.2.2.2.1,x.2.2.2.2.2])))
def opC (x : Ov) : List Value:=ints (opI x)
theorem opC_len (x : Ov) : (opC x).length = 16:=rfl
theorem opC_one (x : Ov) : ∀ u ∈ opC x,u.oneCell' = true:=ints_one _
theorem sz_Op (x : Ov) : (Tryz.prog.info? 49).map (·.size) = some (opC x).length:=by rw [opC_len];kernel_rfl
theorem opI_mk (zs : List Int) (h : zs.length = 16) : ∃ x,opI x = zs:=by
 match zs,h with
 | [d,K,a0,a1,a2,a3,a4,a5,a6,a7,s,g,ts,tg,kd,n],_ => exact ⟨(d,(K,a0,a1,a2,a3,a4,a5,a6,a7),(s,g),(ts,tg),kd,n),rfl⟩
theorem intCells_Op : IntCells Tryz.prog 49:=IntCells.struct Tryz.underlying49 (by kernel_rfl) (by
 intro f hf
 simp only [List.mem_toArray,List.mem_cons,List.not_mem_nil,or_false] at hf
 rcases hf with rfl | rfl | rfl | rfl | rfl | rfl
 ·exact intCells_int
 ·exact intCells_Beast
 ·exact intCells_Handle
 ·exact intCells_Handle
 ·exact intCells_int
 ·exact intCells_int)
section
variable {vB : Value} {Lo : Nat} {Z : List Nat} {p q : Nat} {sl sl' : Sl} {L L' : List Rw} {w : World}
end
end Go.Proofs.YtfdillpofciicaaGreatDoor
namespace Go.Proofs.YtfdillpofciicaaGreatDoor
open Go Go.RowKit
def lkA (d : Int) : Bool:=decide (2 ≤ d) && decide (d ≤ 6)
def lkT (d : Int) : Bool:=decide (d = 5)
def meanO (sp : List Hd) : Ov → Ov | (d,b,h,t,k,n) => (d,b,(meanH sp h (lkA d)).1,(meanH sp t (lkT d)).1,k,n)
def meanOk (sp : List Hd) : Ov → Bool | (d,_,h,t,_,_) => (meanH sp h (lkA d)).2 && (meanH sp t (lkT d)).2
def DoO (sl : Sl) (L : List Rw) (B : List Bd) : Ov → Sl → List Rw → List Bd → Hd → Int → Prop
 | (d,(K,a0,a1,a2,a3,a4,a5,a6,a7),(s,g),(ts,tg),k,n),sl',L',B',h,e => DoAt sl L B d K a0 a1 a2 a3 a4 a5 a6 a7 s g ts tg k n sl' L' B' h.1 h.2 e
def spawnP (sp : List Hd) (d : Int) (h : Hd) : List Hd:=if d = 1 then sp ++ [h] else sp
def AllAt : Sl → List Rw → List Bd → List Hd → Int → List Ov → Int → Int → Sl → List Rw → List Bd → Prop
 | sl,L,B,_,k,[],n,e,sl',L',B' => n = k ∧ e = 0 ∧ sl' = sl ∧ L' = L ∧ B' = B
 | sl,L,B,sp,k,x :: r,n,e,sl',L',B' => (meanOk sp x = false ∧ n = k ∧ e = 5) ∨
   (meanOk sp x = true ∧ ∃ sl1 L1 B1 h e1,DoO sl L B (meanO sp x) sl1 L1 B1 h e1 ∧ ((e1 ≠ 0 ∧ n = k ∧ e = e1) ∨ (e1 = 0 ∧ AllAt sl1 L1 B1 (spawnP sp x.1 h) (k + 1) r n e sl' L' B')))
theorem DoO.at_ {sl : Sl} {L : List Rw} {B : List Bd} {x : Ov} {sl' : Sl} {L' : List Rw} {B' : List Bd} {h : Hd} {e : Int} (H : DoO sl L B x sl' L' B' h e) : DoAt sl L B x.1 x.2.1.1 x.2.1.2.1 x.2.1.2.2.1 x.2.1.2.2.2.1 x.2.1.2.2.2.2.1 x.2.1.2.2.2.2.2.1 x.2.1.2.2.2.2.2.2.1 x.2.1.2.2.2.2.2.2.2.1 x.2.1.2.2.2.2.2.2.2.2 x.2.2.1.1 x.2.2.1.2 x.2.2.2.1.1 x.2.2.2.1.2 x.2.2.2.2.1 x.2.2.2.2.2 sl' L' B' h.1 h.2 e:=H
theorem doO_any {sl : Sl} {L : List Rw} {B : List Bd} (hO : ZOk sl L B) (x : Ov) (h1 : HdR x.2.2.1) (h2 : HdR x.2.2.2.1) : ∃ sl' L' B' h e,DoO sl L B x sl' L' B' h e:=by
 obtain ⟨d,⟨K,a0,a1,a2,a3,a4,a5,a6,a7⟩,⟨s,g⟩,⟨ts,tg⟩,k,n⟩:=x
 obtain ⟨sl',L',B',r0,r1,e,hD⟩:=do_any hO d K a0 a1 a2 a3 a4 a5 a6 a7 s g ts tg k n h1 h2
 exact ⟨sl',L',B',(r0,r1),e,hD⟩
theorem allAt_zok : ∀ {l : List Ov} {sl : Sl} {L : List Rw} {B : List Bd} {sp : List Hd} {k n : Int} {sl' : Sl} {L' : List Rw} {B' : List Bd},AllAt sl L B sp k l n 0 sl' L' B' → ZOk sl L B → (∀ b ∈ B,b.2 ∈ allS sl) → ZOk sl' L' B' ∧ ∀ b ∈ B',b.2 ∈ allS sl'
 | [],_,_,_,_,_,_,_,_,_,⟨_,_,e1,e2,e3⟩,hO,hq => by subst e1 e2 e3;exact ⟨hO,hq⟩
 | x :: r,sl,L,B,sp,k,n,sl',L',B',h,hO,hq => by
  rcases h with ⟨-,-,h⟩ | ⟨-,sl1,L1,B1,y,e1,hD,h | ⟨-,h⟩⟩
  ·omega
  ·exact absurd h.2.2.symm h.1
  ·exact allAt_zok h (hD.at_.ok hO) (hD.at_.par hq)
def AllO (sl : Sl) (L : List Rw) (B : List Bd) (l : List Ov) (n e : Int) (sl' : Sl) (L' : List Rw) (B' : List Bd) : Prop :=
 (80 < l.length ∧ n = 0 ∧ e = 2 ∧ sl' = sl ∧ L' = L ∧ B' = B) ∨ (l.length ≤ 80 ∧ ∃ s1 L1 B1,AllAt sl L B [] 0 l n e s1 L1 B1 ∧ ((e = 0 ∧ sl' = s1 ∧ L' = L1 ∧ B' = B1) ∨ (e ≠ 0 ∧ sl' = sl ∧ L' = L ∧ B' = B)))
theorem AllO.ok {sl : Sl} {L : List Rw} {B : List Bd} {l : List Ov} {n e : Int} {sl' : Sl} {L' : List Rw} {B' : List Bd} (h : AllO sl L B l n e sl' L' B') (hO : ZOk sl L B) (hq : ∀ b ∈ B,b.2 ∈ allS sl) : ZOk sl' L' B' ∧ ∀ b ∈ B',b.2 ∈ allS sl':=by
 rcases h with ⟨-,-,-,rfl,rfl,rfl⟩ | ⟨-,s1,L1,B1,hA,⟨rfl,rfl,rfl,rfl⟩ | ⟨-,rfl,rfl,rfl⟩⟩
 ·exact ⟨hO,hq⟩
 ·exact allAt_zok hA hO hq
 ·exact ⟨hO,hq⟩
end Go.Proofs.YtfdillpofciicaaGreatDoor
