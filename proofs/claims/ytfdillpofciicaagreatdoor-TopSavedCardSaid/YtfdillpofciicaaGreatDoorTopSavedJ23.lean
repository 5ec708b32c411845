import Derived.Test.YtfdillpofciicaaGreatDoorTopSavedJ22
set_option linter.unusedVariables false
set_option linter.unusedSimpArgs false
/- A part of the proof that TopSaved returns true. -/
namespace Go.Proofs.YtfdillpofciicaaGreatDoor
open Go Go.RowKit
def RepV (z p f : Nat) (sl : Sl) (L : List Rw) (B : List Bd) (w : World) (F : List Nat) : Prop :=
 w.heap[z]? = some (.cells #[.pointer (some ⟨p,0,none⟩),.pointer (some ⟨f,0,none⟩)] 109 (0,0)) ∧
  ∃ FW FF,RepW w p sl L FW ∧ RepF w f B FF ∧ F = z :: (FW ++ FF) ∧ z ∉ FW ∧ z ∉ FF ∧ ∀ y ∈ FW,y ∉ FF
section
variable {z p f : Nat} {sl sl' : Sl} {L L' : List Rw} {B B' : List Bd} {w w' : World} {F G : List Nat}
theorem RepV.mod (h : RepV z p f sl L B w F) (hm : Mod G w w') (hd : ∀ y ∈ F,y ∉ G) : RepV z p f sl L B w' F:=by
 obtain ⟨h1,FW,FF,h2,h3,rfl,h4,h5,h6⟩:=h
 exact ⟨hm.keep h1 (hd z (by simp)),FW,FF,h2.mod hm (fun y hy => hd y (by simp [hy])),h3.mod hm (fun y hy => hd y (by simp [hy])),rfl,h4,h5,h6⟩
theorem RepV.below (h : RepV z p f sl L B w F) (hb : Below w.heap.size w w') : RepV z p f sl L B w' F:=h.mod (Mod.ofBelow hb) (by simp)
theorem RepV.lt (h : RepV z p f sl L B w F) : ∀ y ∈ F,y < w.heap.size:=by
 obtain ⟨h1,FW,FF,h2,h3,rfl,-⟩:=h
 intro y hy
 rcases List.mem_cons.1 hy with rfl | hy
 ·exact blk_lt h1
 ·rcases List.mem_append.1 hy with hy | hy
  ·exact h2.lt y hy
  ·exact h3.lt y hy
theorem own_V (z p f : Nat) (sl : Sl) (L : List Rw) (B : List Bd) : Own (RepV z p f sl L B):=⟨fun h hm hd => h.mod hm hd,fun h => h.lt⟩
theorem RepV.okW (h : RepV z p f sl L B w F) : WOk sl L:=by obtain ⟨-,FW,FF,h2,-⟩:=h;exact h2.ok
theorem RepV.okF (h : RepV z p f sl L B w F) : FamOk B:=by obtain ⟨-,FW,FF,-,h3,-⟩:=h;exact h3.ok
theorem RepV.w_ (h : RepV z p f sl L B w F) : ∃ FW,RepW w p sl L FW:=by obtain ⟨-,FW,FF,h2,-⟩:=h;exact ⟨FW,h2⟩
theorem RepV.f_ (h : RepV z p f sl L B w F) : ∃ FF,RepF w f B FF:=by obtain ⟨-,FW,FF,-,h3,-⟩:=h;exact ⟨FF,h3⟩
theorem RepV.slots (h : RepV z p f sl L B w F) : ∃ ps FS,w.cell? ⟨p,0,none⟩ = some (.pointer (some ⟨ps,0,none⟩)) ∧ p < w.heap.size ∧ RepS w ps sl FS:=by
 obtain ⟨FW,h2⟩:=h.w_
 obtain ⟨ps,mt,mp,tb,rw_,pl,FS,Fs,c,h3,-,-,-⟩:=h2
 have e:=blk_cell h3.blk 0
 simp only [eA,eZ] at e
 exact ⟨ps,FS,e,blk_lt h3.blk,h3.sl⟩
theorem RepV.cells (h : RepV z p f sl L B w F) : w.cell? ⟨z,0,none⟩ = some (.pointer (some ⟨p,0,none⟩)) ∧ w.cell? ⟨z,1,none⟩ = some (.pointer (some ⟨f,0,none⟩)) ∧ z < w.heap.size:=by
 refine ⟨?_,?_,blk_lt h.1⟩
 ·rw [blk_cell h.1];rfl
 ·rw [blk_cell h.1];rfl
def VRet (z p f : Nat) (sl : Sl) (L : List Rw) (B : List Bd) (F : List Nat) (w : World) (r : Value) (e : Ending) (w' : World) : Prop:=e = .returned r ∧ OwnPost (RepV z p f sl L B) F w w'
theorem RepV.turnW (h : RepV z p f sl L B w F) : ∃ FW,RepW w p sl L FW ∧ ∀ w' sl' L' F',RepW w' p sl' L' F' → Turns w FW F' w' → OwnPost (RepV z p f sl' L' B) F w w':=by
 have hlt:=h.lt
 obtain ⟨h1,FW,FF,h2,h3,rfl,h4,h5,h6⟩:=h
 refine ⟨FW,h2,fun w' sl' L' F' a b => ⟨z :: (F' ++ FF),⟨b.mod.keep h1 h4,F',FF,a,h3.mod b.mod (fun y hy e => h6 y e hy),rfl,?_,h5,?_⟩,b.mod.mono (by intro y hy;simp [hy]),?_⟩⟩
 ·intro e
  rcases b.new z e with e | e
  ·exact h4 e
  ·have:=hlt z (by simp);omega
 ·intro y hy e
  rcases b.new y hy with e2 | e2
  ·exact h6 y e2 e
  ·have:=hlt y (by simp [e]);omega
 ·intro y hy
  rcases List.mem_cons.1 hy with rfl | hy
  ·exact .inl (by simp)
  ·rcases List.mem_append.1 hy with hy | hy
   ·rcases b.new y hy with e2 | e2
    ·exact .inl (by simp [e2])
    ·exact .inr e2
   ·exact .inl (by simp [hy])
theorem RepV.turnF (h : RepV z p f sl L B w F) : ∃ FF,RepF w f B FF ∧ ∀ w' B' F',RepF w' f B' F' → Turns w FF F' w' → OwnPost (RepV z p f sl L B') F w w':=by
 have hlt:=h.lt
 obtain ⟨h1,FW,FF,h2,h3,rfl,h4,h5,h6⟩:=h
 refine ⟨FF,h3,fun w' B' F' a b => ⟨z :: (FW ++ F'),⟨b.mod.keep h1 h5,FW,F',h2.mod b.mod (fun y hy => h6 y hy),a,rfl,h4,?_,?_⟩,b.mod.mono (by intro y hy;simp [hy]),?_⟩⟩
 ·intro e
  rcases b.new z e with e | e
  ·exact h5 e
  ·have:=hlt z (by simp);omega
 ·intro y hy e
  rcases b.new y e with e2 | e2
  ·exact h6 y hy e2
  ·have:=hlt y (by simp [hy]);omega
 ·intro y hy
  rcases List.mem_cons.1 hy with rfl | hy
  ·exact .inl (by simp)
  ·rcases List.mem_append.1 hy with hy | hy
   ·exact .inl (by simp [hy])
   ·rcases b.new y hy with e2 | e2
    ·exact .inl (by simp [e2])
    ·exact .inr e2
theorem OwnPost.ofBelow {A : World → List Nat → Prop} (hA : Own A) {F : List Nat} {w w' : World} (h : A w F) (hb : Below w.heap.size w w') : OwnPost A F w w':=⟨F,hA.mod h (Mod.ofBelow hb) (by simp),Turns.ofBelow hb⟩
theorem OwnPost.after {A : World → List Nat → Prop} {F : List Nat} {w w' w'' : World} (hb : Below w.heap.size w w') (h : OwnPost A F w' w'') : OwnPost A F w w'':=by
 obtain ⟨F',h1,h2⟩:=h
 exact ⟨F',h1,Turns.after hb h2⟩
theorem OwnPost.mod {A : World → List Nat → Prop} {F : List Nat} {w w' : World} (h : OwnPost A F w w') : Mod F w w':=by obtain ⟨F',-,h2⟩:=h;exact h2.mod
theorem v_spawn (h : RepV z p f sl L B w F) (K a0 a1 a2 a3 a4 a5 a6 a7 : Int) :
  Calls Tryz.prog 52 #[.pointer (some ⟨p,0,none⟩),.agg #[.int .i64 K,.int .i64 a0,.int .i64 a1,.int .i64 a2,.int .i64 a3,.int .i64 a4,.int .i64 a5,.int .i64 a6,.int .i64 a7]] w
   (VRet z p f (spawnS sl (K,a0,a1,a2,a3,a4,a5,a6,a7)) (spawnL sl L (K,a0,a1,a2,a3,a4,a5,a6,a7)) B F w (.tuple #[.agg #[.int .i64 (spawnH sl (K,a0,a1,a2,a3,a4,a5,a6,a7)).1,.int .i64 (spawnH sl (K,a0,a1,a2,a3,a4,a5,a6,a7)).2],.int .i64 (spawnE sl (K,a0,a1,a2,a3,a4,a5,a6,a7))])):=by
 obtain ⟨FW,h1,h2⟩:=h.turnW
 exact (spawn_any h1 K a0 a1 a2 a3 a4 a5 a6 a7).mono fun e w' ⟨he,F',a,b⟩ => ⟨he,h2 _ _ _ _ a b⟩
theorem v_kill (h : RepV z p f sl L B w F) (s g : Int) :
  Calls Tryz.prog 99 #[.pointer (some ⟨p,0,none⟩),.agg #[.int .i64 s,.int .i64 g]] w (VRet z p f (freeL sl s g) (killL L (s,g)) B F w (.int .i64 (killE L (s,g)))):=by
 obtain ⟨FW,h1,h2⟩:=h.turnW
 exact (wkill_any h1 s g).mono fun e w' ⟨he,F',a,b⟩ => ⟨he,h2 _ _ _ _ a b⟩
theorem v_put (h : RepV z p f sl L B w F) (s g k n : Int) :
  Calls Tryz.prog 54 #[.pointer (some ⟨p,0,none⟩),.agg #[.int .i64 s,.int .i64 g],.int .i64 k,.int .i64 n] w (VRet z p f sl (putW L (s,g) k n) B F w (.int .i64 (putE L (s,g) k n))):=by
 obtain ⟨FW,h1,h2⟩:=h.turnW
 exact (wput_any h1 s g k n).mono fun e w' ⟨he,F',a,b⟩ => ⟨he,h2 _ _ _ _ a b⟩
theorem v_drop (h : RepV z p f sl L B w F) (s g k : Int) :
  Calls Tryz.prog 55 #[.pointer (some ⟨p,0,none⟩),.agg #[.int .i64 s,.int .i64 g],.int .i64 k] w (VRet z p f sl (dropL L (s,g) k) B F w (.int .i64 (dropE L (s,g) k))):=by
 obtain ⟨FW,h1,h2⟩:=h.turnW
 exact (wdrop_any h1 s g k).mono fun e w' ⟨he,F',a,b⟩ => ⟨he,h2 _ _ _ _ a b⟩
theorem v_adopt (h : RepV z p f sl L B w F) (s g t u : Int) (hc : HdR (s,g)) (hp : HdR (t,u)) :
  Calls Tryz.prog 51 #[.pointer (some ⟨f,0,none⟩),.agg #[.int .i64 s,.int .i64 g],.agg #[.int .i64 t,.int .i64 u]] w (VRet z p f sl L (adoB B (s,g) (t,u)) F w (.int .i64 (adoE B (s,g) (t,u)))):=by
 obtain ⟨FF,h1,h2⟩:=h.turnF
 exact (adopt_any h1 s g t u hc hp).mono fun e w' ⟨he,a,b⟩ => ⟨he,h2 _ _ _ a ⟨b,fun _ h => .inl h⟩⟩
theorem v_loosen (h : RepV z p f sl L B w F) (s g : Int) (hc : HdR (s,g)) :
  Calls Tryz.prog 56 #[.pointer (some ⟨f,0,none⟩),.agg #[.int .i64 s,.int .i64 g]] w (VRet z p f sl L (outB B (s,g)) F w (.int .i64 (looE (parB B (s,g))))):=by
 obtain ⟨FF,h1,h2⟩:=h.turnF
 exact (loosen_any h1 s g hc).mono fun e w' ⟨he,a,b⟩ => ⟨he,h2 _ _ _ a ⟨b,fun _ h => .inl h⟩⟩
theorem v_gone (h : RepV z p f sl L B w F) (s g : Int) :
  Calls Tryz.prog 100 #[.pointer (some ⟨f,0,none⟩),.agg #[.int .i64 s,.int .i64 g]] w (VRet z p f sl L (goneB B (s,g)) F w (.tuple #[])):=by
 obtain ⟨FF,h1,h2⟩:=h.turnF
 exact (gone_any h1 s g).mono fun e w' ⟨he,a,b⟩ => ⟨he,h2 _ _ _ a ⟨b,fun _ h => .inl h⟩⟩
theorem v_under (h : RepV z p f sl L B w F) (hl : B.length ≤ 60) (s g : Int) :
  Calls Tryz.prog 97 #[.pointer (some ⟨f,0,none⟩),.agg #[.int .i64 s,.int .i64 g]] w (MadeRecs 47 2 handleC (underB B (s,g)) w):=by
 obtain ⟨FF,h1⟩:=h.f_
 exact funder_any (by omega) (lowN B) s g w (lowN_spec h.okF.ac _) h1
end
section
variable {q : Nat} {sl sl' : Sl} {L L' : List Rw} {B B' : List Bd} {w w' : World} {F G : List Nat}
end
def revK {α : Type} (l : List α) (k : Nat) : List α:=l.mapIdx fun i x => if i < k ∨ l.length - k ≤ i then l.getD (l.length - 1 - i) x else x
theorem revK_length {α : Type} (l : List α) (k : Nat) : (revK l k).length = l.length:=by simp [revK]
theorem revK_zero {α : Type} (l : List α) : revK l 0 = l:=by
 unfold revK
 apply List.ext_getElem (by simp)
 intro i h1 h2
 simp only [List.getElem_mapIdx]
 rw [if_neg (by simp at h1 ⊢;omega)]
theorem revK_get {α : Type} (l : List α) (k i : Nat) (h : i < l.length) : (revK l k)[i]'(by rw [revK_length];exact h) = if i < k ∨ l.length - k ≤ i then l[l.length - 1 - i] else l[i]:=by
 unfold revK
 simp only [List.getElem_mapIdx]
 split
 ·rw [List.getD_eq_getElem?_getD,List.getElem?_eq_getElem (by omega)];rfl
 ·rfl
theorem revK_end {α : Type} (l : List α) (k : Nat) (h : l.length ≤ 2 * k + 1) (hk : k ≤ l.length) : revK l k = l.reverse:=by
 apply List.ext_getElem (by rw [revK_length,List.length_reverse])
 intro i h1 h2
 rw [revK_length] at h1
 rw [revK_get l k i h1,List.getElem_reverse]
 split
 ·rfl
 ·congr 1;omega
theorem revK_step {α : Type} (l : List α) (k : Nat) (h : 2 * k + 1 < l.length) : ((revK l k).set k (l[l.length - 1 - k])).set (l.length - 1 - k) l[k] = revK l (k + 1):=by
 apply List.ext_getElem (by simp [revK_length])
 intro i h1 h2
 rw [revK_length] at h2
 rw [revK_get l (k + 1) i h2]
 by_cases e : i = l.length - 1 - k
 ·subst e
  rw [List.getElem_set_self,if_pos (by omega)]
  congr 1;omega
 ·rw [List.getElem_set_ne (Ne.symm e)]
  by_cases e2 : i = k
  ·subst e2
   rw [List.getElem_set_self,if_pos (by omega)]
  ·rw [List.getElem_set_ne (Ne.symm e2),revK_get l k i h2]
   by_cases h3 : i < k ∨ l.length - k ≤ i
   ·rw [if_pos h3,if_pos (by omega)]
   ·rw [if_neg h3,if_neg (by omega)]
theorem revK_at {α : Type} (l : List α) (k m : Nat) (h : k + m + 1 = l.length) (hkm : k < m) : ((revK l k).set k (l[m])).set m (l[k]) = revK l (k + 1):=by
 have:=revK_step l k (by omega)
 have e : l.length - 1 - k = m:=by omega
 simpa only [e] using this
attribute [local go_sem] AllFrom.cons_eq AllFrom.nil_eq putF_nil putF_cons wantedL_none wantedL_some OpGoalQ YieldsR preF_nil preF_cons
def ownHl (w : World) (B : Nat) (v : Value) (l : List Hd) : Prop:=w.ownsRow B 47 2 v l.length (l.flatMap handleC)
theorem sz_Hdl (x : Hd) : (Tryz.prog.info? 47).map (·.size) = some (handleC x).length:=by rw [handleC_len];kernel_rfl
theorem ownHl_set {w : World} {B g cap n : Nat} {l : List Hd} (hn : l.length = n) (h : w.ownsRow B 47 2 (.slice (some ⟨g,0,none⟩) n cap) n (l.flatMap handleC)) {k : Nat} (hk : k < n) (y : Hd) :
  (w.setCells g (k * 2) (handleC y)).ownsRow B 47 2 (.slice (some ⟨g,0,none⟩) n cap) n ((l.set k y).flatMap handleC) ∧ w.there g (k * 2) (handleC y).length:=by
 subst hn
 have hlen:=flatV_length handleC_len l
 have hb : (k + 1) * 2 ≤ l.length * 2:=Nat.mul_le_mul_right _ hk
 refine ⟨?_,row_there h (by rw [hlen];show k * 2 + 2 ≤ _;omega)⟩
 have h2:=row_setCells (w:=w) (handleC y) (k * 2) w _ h
 rw [show k * 2 = k * 2 + 0 from rfl,setL_flat handleC_len l k hk 0 (handleC y) y (by rw [handleC_len];omega) (setL_all _ _ (by rw [handleC_len,handleC_len]))] at h2
 exact h2
theorem ownHl_load {w : World} {B g cap n : Nat} {l : List Hd} (hn : l.length = n) (h : w.ownsRow B 47 2 (.slice (some ⟨g,0,none⟩) n cap) n (l.flatMap handleC)) {k : Nat} (hk : k < n) (x : Hd) (hx : l[k]'(by omega) = x) : ∀ j u,(handleC x)[j]? = some u → w.cell? ((⟨g,k * 2,none⟩ : Addr).add j) = some u:=by
 subst hn;subst hx
 exact row_piece handleC_len h hk 0 (handleC l[k]) (fun j u hu => by rw [Nat.zero_add];exact hu)
attribute [local go_sem] AllFrom.cons_eq AllFrom.nil_eq putF_nil putF_cons wantedL_none wantedL_some OpGoalQ YieldsR preF_nil preF_cons
set_option maxRecDepth 20000 in
set_option maxHeartbeats 2000000 in
theorem reverseH_any (B : Nat) (v : Value) (l : List Hd) (w : World) (hl : l.length ≤ 9223372036854775807) (h : ownHl w B v l) :
  Calls Tryz.prog 98 #[v] w fun e w' => e = .returned (.tuple #[]) ∧ ownHl w' B v l.reverse ∧ Mod v.ownBlock.toList w w':=by
 obtain ⟨A,cap,rfl,-,-⟩:=row_slice h
 have H:=Lib.hid h
 have H0:=Lib.hid (revK_zero l)
 clear h
 go_enter Tryz.func98,Tryz.ntmps98
 go_wp2
 go_loopw [2,3] (fun i j wr => ∃ k : Nat,k ≤ l.length ∧ i = .int .i64 k ∧ j = .int .i64 ((l.length : Int) - 1 - k) ∧ ownHl wr B (.slice A l.length cap) (revK l k) ∧ Mod (Value.slice A l.length cap).ownBlock.toList w wr) (fun i _ _ => l.length - (Go.RowKit.intOf i).toNat)
 case atStart => exact ⟨0,by omega,rfl,by go_num,by rw [H0.out];exact H.out,Mod.refl _ _⟩
 case round =>
  obtain ⟨k,hk,rfl,rfl,hown,hmod⟩:=hrel
  by_cases hlt : 2 * k + 1 < l.length
  ·obtain ⟨m,hm⟩ : ∃ m : Nat,l.length - 1 - k = m:=⟨_,rfl⟩
   have hmi : (l.length : Int) - 1 - k = (m : Int):=by omega
   rw [hmi]
   have hstep:=revK_at l k m (by omega) (by omega)
   have hlr:=revK_length l k
   obtain ⟨L,hL⟩ : ∃ L,L = revK l k:=⟨_,rfl⟩
   have hgk : L[k]'(by rw [hL,hlr];omega) = l[k]:=by subst hL;rw [revK_get l k k (by omega),if_neg (by omega)]
   have hgm : L[m]'(by rw [hL,hlr];omega) = l[m]:=by subst hL;rw [revK_get l k m (by omega),if_neg (by omega)]
   rw [← hL] at hown hstep hlr
   have hown : wr.ownsRow B 47 2 (.slice A l.length cap) l.length (L.flatMap handleC):=by unfold ownHl at hown;rw [hlr] at hown;exact hown
   obtain ⟨g0,cap0,cur0,he,-,-,-⟩:=row_some hown (by omega)
   cases he
   have hld1:=ownHl_load (w:=wr.drew) hlr hown (k:=k) (by omega) l[k] hgk
   have hld2:=ownHl_load (w:=wr.drew) hlr hown (k:=m) (by omega) l[m] hgm
   obtain ⟨hs1,ht1⟩:=ownHl_set (w:=wr.drew) hlr hown (k:=k) (by omega) l[m]
   obtain ⟨hs2,ht2⟩:=ownHl_set ((List.length_set ..).trans hlr) hs1 (k:=m) (by omega) l[k]
   rw [hstep] at hs2
   have hs3 : ownHl ((wr.drew.setCells g0 (k * 2) (handleC l[m])).setCells g0 (m * 2) (handleC l[k])) B (.slice (some ⟨g0,0,none⟩) l.length cap) (revK l (k + 1)):=by unfold ownHl;rw [revK_length];exact hs2
   generalize l[m] = y at *
   generalize l[k] = x at *
   have hk1 : (k : Int) < (l.length : Int):=by omega
   have hm1 : (m : Int) < (l.length : Int):=by omega
   have hkm : (k : Int) < (m : Int):=by omega
   have hmod2:=mod_setCells (g:=g0) (F:=(Value.slice (some ⟨g0,0,none⟩) l.length cap).ownBlock.toList) (.inl (by simp [Value.ownBlock])) (handleC x) (m * 2) _ (mod_setCells (g:=g0) (.inl (by simp [Value.ownBlock])) (handleC y) (k * 2) _ hmod.drew)
   have Hkm:=Lib.hid (show k + m + 1 = l.length by omega)
   obtain ⟨H1,H2,H3,H4,H5,H6⟩:=hid6 hld1 hld2 hs3 ht1 ht2 hmod2
   have O1:=Lib.hid (handleC_one x);have O2:=Lib.hid (handleC_one y)
   clear hld1 hld2 hs1 hs2 hs3 ht1 ht2 hmod2 hmod hown hstep hgk hgm hL hlr hm hmi H
   go_wp2
   refine wp_planR 13 [0,1,2,3,4,5,8,9] [some 14,some 15,some 16,some 17,some 18,some 19,some 20,some 21,some 22,some 23,some 24,some 25,some 26,none,some 27,none] [[],[],[],[],[],[],[4,5],[4,5,6],[],[],[8,9],[8,9,10],[0,1,4,5,6,7,8,9,10,11],[0,1,4,5,6,7,8,9,10,11,12],[0,1,2,3,4,5,6,7,8,9,10,11,12,13],[0,1,2,3,4,5,6,7,8,9,10,11,12,13,14]] [0,1,2,3,4,5,6,7,8,9,10,11,12] mixed rfl (by kernel_rfl) (by decide) (by decide) rfl ?_
   iterate 13 apply Exists.intro
   refine ⟨rfl,?_,?_⟩
   ·simp only [tS,List.take_zero,AllFrom.cons_eq,AllFrom.nil_eq,OpGoalQ]
    refine ⟨?_,?_,?_,?_,?_,?_,?_,?_,?_,?_,?_,?_,?_,trivial⟩
    all_goals (intro σ hp;(try simp only [gZ,gS,mC,mN,preF_cons,preF_nil,isV,and_true] at hp);(first | (have hq : True:=hp;clear hq hp) | skip))
    iterate 7 · (go_simp;exact ⟨rfl,rfl⟩)
    ·(simp only [wantedL_none,↓reduceIte,gZ,gS];refine yr_load 47 (.tmp 20) (by rfl) ⟨g0,m * 2,none⟩ ?_ (handleC y) _ Tryz.underlying47 rfl (sz_Hdl _) H2.out ?_;(· go_simp);(· exact ⟨rfl,rfl⟩))
    iterate 3 · (go_simp;exact ⟨rfl,rfl⟩)
    ·(simp only [wantedL_none,↓reduceIte,gZ,gS];refine yr_load 47 (.tmp 24) (by rfl) ⟨g0,k * 2,none⟩ ?_ (handleC x) _ Tryz.underlying47 rfl (sz_Hdl _) H1.out ?_;(· go_simp);(· exact ⟨rfl,rfl⟩))
    ·(go_simp;exact ⟨rfl,rfl⟩)
   intro σ hp
   simp only [gZ,gS,mC,mN,preF_cons,preF_nil,isV,and_true] at hp
   simp only [dS,List.drop_zero]
   go_simp
   clear hp
   refine wpList_store_at rfl 47 (.tmp 26) (.tmp 21) rfl g0 (k * 2) (handleC y) rfl rfl H4.out (sz_Hdl _) O2.out ?_
   generalize wr.drew.setCells g0 (k * 2) (handleC y) = W1 at *
   go_wp2_with (refine wpList_store_at rfl 47 (.tmp 27) (.tmp 25) rfl g0 (m * 2) (handleC x) rfl rfl H5.out (sz_Hdl _) O1.out ?_;generalize W1.setCells g0 (m * 2) (handleC x) = W2 at *)
   refine ⟨rfl,?_⟩
   go_wp2
   go_roundw
   case rel => exact ⟨k + 1,by omega,by go_num,by rw [show (m : Int) - 1 = (l.length : Int) - 1 - ((k + 1 : Nat) : Int) by have:=Hkm.out;omega],H3.out,H6.out⟩
   case measure => simp [Go.RowKit.intOf];omega
  ·obtain he:=revK_end l k (by omega) hk
   rw [he] at hown
   have hge : ¬ ((k : Int) < (l.length : Int) - 1 - k):=by omega
   have Hown:=Lib.hid hown
   clear hown he H
   go_wp2
   exact bodyPost_end (v:=.tuple #[]) (by unfold results;try go_simp) rfl ⟨rfl,Hown.out,hmod⟩
end Go.Proofs.YtfdillpofciicaaGreatDoor
namespace Go.Proofs.YtfdillpofciicaaGreatDoor
open Go Go.RowKit
attribute [local go_sem] AllFrom.cons_eq AllFrom.nil_eq putF_nil putF_cons wantedL_none wantedL_some OpGoalT OpGoalV OpGoalQ OpGoalA OpGoalK YieldsR preF_nil preF_cons
structure ITurn (a : Nat) (w0 : World) (F : List Nat) (A' : World → List Nat → Prop) (L : Nat → Bool) (σ : Nat → Value) (V : World) : Prop where
 s0 : L a = false → Below w0.heap.size w0 V
 s1 : L a = true → OwnPost A' F w0 V
section
variable {a : Nat} {w0 V V' : World} {F : List Nat} {A' : World → List Nat → Prop} {L : Nat → Bool} {σ : Nat → Value}
theorem ITurn.start (h : Below w0.heap.size w0 V) : ITurn a w0 F A' (fun _ => false) σ V:=⟨fun _ => h,fun e => (by cases e)⟩
theorem ITurn.read (h : ITurn a w0 F A' L σ V) {i : Nat} (hi : a ≠ i) (v : Value) : ITurn a w0 F A' (upd L i) (updv σ i v) V:=by
 have e : upd L i a = L a:=by unfold upd;simp [hi]
 exact ⟨fun h1 => h.s0 (e ▸ h1),fun h1 => h.s1 (e ▸ h1)⟩
theorem ITurn.turn (h : ITurn a w0 F A' L σ V) (ha : L a = false) (hp : OwnPost A' F V V') (v : Value) : ITurn a w0 F A' (upd L a) (updv σ a v) V' :=
 ⟨fun e => by simp [upd] at e,fun _ => OwnPost.after (h.s0 ha) hp⟩
theorem ITurn.k (h : ITurn a w0 F A' L σ V) : Mod F w0 V:=by
 cases e : L a with
 | false => exact (Mod.ofBelow (h.s0 e)).mono (by simp)
 | true => exact (h.s1 e).mod
end
structure IRow (m : Nat) (w0 : World) (E n : Nat) (xs : List Value) (k : Nat) (L : Nat → Bool) (σ : Nat → Value) (V : World) : Prop where
 b : Below w0.heap.size w0 V
 r : L m = true → V.ownsRow w0.heap.size E n (σ m) k xs
section
variable {m : Nat} {w0 V V' : World} {E n k : Nat} {xs : List Value} {L : Nat → Bool} {σ : Nat → Value}
theorem IRow.start (h : Below w0.heap.size w0 V) : IRow m w0 E n xs k (fun _ => false) σ V:=⟨h,fun e => (by cases e)⟩
theorem IRow.read (h : IRow m w0 E n xs k L σ V) {i : Nat} (hi : m ≠ i) (v : Value) : IRow m w0 E n xs k (upd L i) (updv σ i v) V:=by
 have e : upd L i m = L m:=by unfold upd;simp [hi]
 have e2 : updv σ i v m = σ m:=by unfold updv;rw [if_neg hi]
 exact ⟨h.b,by rw [e,e2];exact h.r⟩
theorem IRow.got (h : IRow m w0 E n xs k L σ V) (hb : Below V.heap.size V V') {v : Value} (hv : V'.ownsRow V.heap.size E n v k xs) : IRow m w0 E n xs k (upd L m) (updv σ m v) V':=by
 have e : updv σ m v m = v:=by unfold updv;simp
 refine ⟨h.b.trans (hb.mono h.b.size),fun _ => ?_⟩
 rw [e]
 exact row_base hv (fun j hj => Nat.le_trans h.b.size (own_ge hv j hj))
end
section
variable {z p f : Nat} {sl sl' : Sl} {L L' : List Rw} {B B' : List Bd} {w w' : World} {F G : List Nat}
theorem v_liveA (h : RepV z p f sl L B w F) : ∃ ps,∀ V,Below w.heap.size w V → V.cell? ⟨z,0,none⟩ = some (.pointer (some ⟨p,0,none⟩)) ∧ V.cell? ⟨z,1,none⟩ = some (.pointer (some ⟨f,0,none⟩)) ∧ z < V.heap.size ∧ V.cell? ⟨p,0,none⟩ = some (.pointer (some ⟨ps,0,none⟩)) ∧ p < V.heap.size ∧ ∀ s g,Calls Tryz.prog 92 #[.pointer (some ⟨ps,0,none⟩),.agg #[.int .i64 s,.int .i64 g]] V fun e w' => e = .returned (.bool (liveB sl s g)) ∧ Below V.heap.size V w':=by
 obtain ⟨ps,FS,h1,h2,h3⟩:=h.slots
 refine ⟨ps,fun V hV => ?_⟩
 have hc:=(h.below hV).cells
 exact ⟨hc.1,hc.2.1,hc.2.2,(hV.cell (p:=⟨p,0,none⟩) h2).trans h1,Nat.lt_of_lt_of_le h2 hV.size,fun s g => live_any ps sl FS s g V (h3.mod (Mod.ofBelow hV) (by simp))⟩
set_option maxRecDepth 20000 in
set_option maxHeartbeats 4000000 in
theorem vkill_any (h : RepV z p f sl L B w F) (hO : ZOk sl L B) (s g : Int) :
  Calls Tryz.prog 53 #[.pointer (some ⟨z,0,none⟩),.agg #[.int .i64 s,.int .i64 g]] w (fun e w' => (liveB sl s g = false ∧ VRet z p f sl L B F w (.int .i64 7) e w') ∨
   (liveB sl s g = true ∧ VRet z p f (killsZ (sl,L,B) (underB B (s,g) ++ [(s,g)])).1 (killsZ (sl,L,B) (underB B (s,g) ++ [(s,g)])).2.1 (killsZ (sl,L,B) (underB B (s,g) ++ [(s,g)])).2.2 F w (.int .i64 0) e w')):=by
 obtain ⟨w0,hw0,hb0,hz0,hs0⟩:=box1 w (.cells #[.int .i64 s,.int .i64 g] 47)
 have h0:=h.below hb0
 obtain ⟨ps,hA⟩:=v_liveA h0
 have hlt:=h.lt
 have hN : w.heap.size ∉ F:=fun e => by have:=hlt _ e;omega
 obtain ⟨H0,HA,Hb0,Hz0,Hs0,HO,HN,H⟩:=hid8 h0 hA hb0 hz0 hs0 hO hN h
 clear h0 hA hb0 hz0 hs0 hO hN h
 clear hlt
 go_enter Tryz.func53,Tryz.ntmps53
 go_wp2_with fail
 clear hw0
 refine wp_planK [] 10 [0] [some 8,some 9,some 10,some 11,some 12,some 13,some 14,some 15,some 16,some 17] [[],[0],[0,1],[0,1,2],[0,1,2,3],[0,1,2,3,4],[0,1,2,3,4,5],[],[0,1,2,3,4,5,6,7],[0,1,2,3,4,5,6,7,8]] [0,1,2,3,4,5,6,7,8,9] (fun Lf σ V => Below w0.heap.size w0 V) mixed rfl (by kernel_rfl) (by decide) (by decide) (by decide) below_drew rfl ?_
 iterate 10 apply Exists.intro
 refine ⟨rfl,?_,?_⟩
 ·simp only [tS,List.take_zero,AllFrom.cons_eq,AllFrom.nil_eq,OpGoalK]
  refine ⟨?_,?_,?_,?_,?_,?_,?_,?_,?_,?_,trivial⟩
  all_goals (intro L' σ V h1 h2 h3 hI hp;have HA1:=Lib.hid h1;have HA2:=Lib.hid h2;have HA3:=Lib.hid h3;clear h1 h2 h3;(try simp only [gZ,gS,preK_cons,preK_nil] at hp);(try simp only [List.not_mem_nil,false_or,and_true] at hp);(first | (have hq : True:=hp;clear hq hp) | skip);have HI:=Lib.hid hI;clear hI)
  all_goals (
   have hA:=HA.out V HI.out
   have hc0:=hA.1;have hc1:=hA.2.1;have hzl:=hA.2.2.1;have hp0:=hA.2.2.2.1;have hpl:=hA.2.2.2.2.1
   have HLv:=Lib.hid hA.2.2.2.2.2
   have hzV:=(Mod.ofBelow HI.out).keep Hz0.out (by simp)
   have q0:=blk_cell hzV 0
   have q1:=blk_cell hzV 1
   simp only [eA,eZ,eS] at q0 q1
   have ql:=blk_lt hzV
   clear hA hzV)
  iterate 8 · (go_simp;exact ⟨.inr rfl,HI.out⟩)
  ·(go_simp;refine (HLv.out s g).mono ?_;rintro e V2 ⟨rfl,hb⟩;exact ⟨_,rfl,.inr rfl,HI.out.trans (hb.mono HI.out.size)⟩)
  ·(go_simp;exact ⟨.inr rfl,HI.out⟩)
 ·intro L' σ V h1 hI hp
  clear h1
  simp only [preK_cons,preK_nil,gZ,gS] at hp;simp only [List.not_mem_nil,false_or,and_true] at hp
  have HI:=Lib.hid hI
  clear hI
  simp only [dS,List.drop_zero]
  go_simp
  clear hp
  cases hl : liveB sl s g with
  | false =>
   have hfin : VRet z p f sl L B F w (.int .i64 7) (.returned (.int .i64 7)) V:=⟨rfl,OwnPost.ofBelow (own_V _ _ _ _ _ _) H.out (Hb0.out.trans (HI.out.mono Hb0.out.size))⟩
   have Hfin:=Lib.hid hfin
   clear hfin
   go_wp2_with fail
   refine ⟨rfl,?_⟩
   go_wp2
   refine bodyPost_ret (v:=.int .i64 7) (by unfold results;try go_simp) rfl ?_
   exact .inl ⟨by first | rfl | trivial,Hfin.out⟩
  | true =>
   have hV:=H0.out.below HI.out
   have HU:=Lib.hid (fun V2 (hb : Below V.heap.size V V2) => v_under (hV.below hb) HO.out.len s g)
   have HC:=Lib.hid (fun V2 (hb : Below V.heap.size V V2) => HA.out V2 (HI.out.trans (hb.mono HI.out.size)))
   have HZ:=Lib.hid ((Mod.ofBelow HI.out).keep Hz0.out (by simp))
   have hbV:=Hb0.out.trans (HI.out.mono Hb0.out.size)
   obtain ⟨HV,HbV⟩:=hid2 hV hbV
   clear hV hbV
   go_wp2_with fail
   refine ⟨rfl,?_⟩
   go_wp2_with fail
   refine wp_planK [5] 6 [0] [some 18,some 19,some 20,some 21,some 22,some 23,some 5] [[],[0],[0,1],[0,1,2],[],[0,1,2,3,4],[0,1,2,3,4,5]] [0,1,2,3,4,5] (fun Lf σ V2 => IRow 5 V 47 2 ((underB B (s,g)).flatMap handleC) (underB B (s,g)).length Lf σ V2) mixed rfl (by kernel_rfl) (by decide) (by decide) (by decide) (IRow.start below_drew) rfl ?_
   iterate 6 apply Exists.intro
   refine ⟨rfl,?_,?_⟩
   ·simp only [tS,List.take_zero,AllFrom.cons_eq,AllFrom.nil_eq,OpGoalK]
    refine ⟨?_,?_,?_,?_,?_,?_,trivial⟩
    all_goals (intro L' σ V h1 h2 h3 hI hp;have HA1:=Lib.hid h1;have HA2:=Lib.hid h2;have HA3:=Lib.hid h3;clear h1 h2 h3;(try simp only [gZ,gS,preK_cons,preK_nil] at hp);(try simp only [List.mem_cons,List.not_mem_nil,or_false,eq_self,Nat.reduceEqDiff,Nat.reduceAdd,Nat.zero_add,false_or,true_or,true_and,and_true] at hp);(first | (have hq : True:=hp;clear hq hp) | skip);have HI:=Lib.hid hI;clear hI)
    all_goals (
     have hA:=HC.out V HI.out.b
     have hc0:=hA.1;have hc1:=hA.2.1;have hzl:=hA.2.2.1
     have hzV:=(Mod.ofBelow HI.out.b).keep HZ.out (by simp)
     have q0:=blk_cell hzV 0
     have q1:=blk_cell hzV 1
     simp only [eA,eZ,eS] at q0 q1
     have ql:=blk_lt hzV
     clear hA hzV)
    iterate 5 · (go_simp;exact ⟨.inr rfl,HI.out.read (by decide) _⟩)
    ·go_simp
     refine (HU.out _ HI.out.b).mono ?_
     rintro e V' ⟨v,rfl,hv,hb⟩
     exact ⟨_,rfl,PostK.mk (c:=undef) (.inl (by decide)) (HI.out.got hb hv)⟩
   ·intro L' σ V1 h1 hI hp
    have hr:=hI.r (h1 5 (by decide))
    have hb1:=hI.b
    have hul:=under_len HO.out.f (s,g)
    have hol:=HO.out.len
    have hmk : (killsZ (sl,L,B) (underB B (s,g) ++ [(s,g)])) = killsZ (sl,L,B) ((underB B (s,g)).reverse ++ [(s,g)]):=(killsZ_rev _ _ _).symm
    generalize hus : underB B (s,g) = us at *
    obtain ⟨Hus,Hl⟩:=hid2 hus hl
    clear hus
    have hzV:=(Mod.ofBelow hb1).keep HZ.out (by simp)
    have hV1:=HV.out.below hb1
    have hbV1:=HbV.out.trans (hb1.mono HbV.out.size)
    have HRv:=Lib.hid (reverseH_any V.heap.size (σ 5) us V1 (by omega) hr)
    clear h1 hI
    simp only [preK_cons,preK_nil,gZ,gS] at hp;simp only [List.mem_cons,List.not_mem_nil,or_false,eq_self,Nat.reduceEqDiff,false_or,true_or,true_and,and_true] at hp
    obtain ⟨Hb1,Hul,Hol,Hmk,HzV,HV1,HbV1,Hr⟩:=hid8 hb1 hul hol hmk hzV hV1 hbV1 hr
    clear hb1 hul hol hmk hzV hV1 hbV1 hr
    clear hl HU
    simp only [dS,List.drop_zero]
    go_simp
    clear hp
    generalize σ 5 = v5 at *
    go_wp2_with fail
    refine ⟨rfl,?_⟩
    go_wp2_with fail
    refine HRv.out.mono ?_
    rintro e V2 ⟨rfl,hr2,hm2⟩
    have hb12 : Below V.heap.size V1 V2:=hm2.toBelow (by intro j hj;exact own_ge Hr.out j (by simpa using hj)) Hb1.out.size
    have hb2:=Hb1.out.trans hb12
    have hz2:=(Mod.ofBelow hb2).keep HZ.out (by simp)
    have hV2:=HV.out.below hb2
    have hbV2:=HbV.out.trans (hb2.mono HbV.out.size)
    have hr2 : V2.ownsRow V.heap.size 47 2 v5 us.reverse.length (us.reverse.flatMap handleC):=hr2
    obtain ⟨q0,q1,ql⟩:=cells2 hz2
    obtain ⟨Hb2,Hz2,HV2,HbV2,Hr2⟩:=hid5 hb2 hz2 hV2 hbV2 hr2
    clear hb2 hz2 hV2 hbV2 hr2
    clear hb12 hm2
    obtain ⟨hs,hhs⟩ : ∃ hs,us.reverse ++ [(s,g)] = hs:=⟨_,rfl⟩
    have hmk:=Hmk.out
    rw [hhs] at hmk
    have hhl : hs.length ≤ 61:=by rw [← hhs,List.length_append,List.length_reverse,List.length_singleton];have:=Hul.out;have:=Hol.out;omega
    obtain ⟨Hhs,HMk⟩:=hid2 hhs hmk
    clear hhs hmk
    go_wp2_with (at_builtin;refine app_handleG rfl _ _ rfl V.heap.size v5 us.reverse (s,g) ⟨V2.heap.size,0,none⟩ 1 rfl (Hr2.out.alloc _) rfl (new_rec (by simp) rfl) (by have:=Hul.out;have:=Hol.out;rw [List.length_reverse];omega) (by have:=Hb2.out.size;simp;omega) ?_;intro v6 V3 hr3 hg3;rw [Hhs.out] at hr3;obtain ⟨A6,c6,rfl,-,-⟩:=row_slice hr3)
    have hb3 : Below V.heap.size V V3:=(Hb2.out.alloc Hb2.out.size _).grown hg3 (by have:=Hb2.out.size;simp;omega) (own_ge Hr2.out)
    have hV3:=HV.out.below hb3
    have hbV3:=HbV.out.trans (hb3.mono HbV.out.size)
    have hrF : ∀ j,(Value.slice A6 hs.length c6).ownBlock = some j → j ∉ F:=fun j hj e => by
     have h1:=own_ge hr3 j hj
     have h2:=HV.out.lt j e
     omega
    obtain ⟨Hb3,HV3,HbV3,Hr3,HrF,Hhl⟩:=hid6 hb3 hV3 hbV3 hr3 hrF hhl
    clear hb3 hV3 hbV3 hr3 hrF hhl
    clear hg3 q0 q1 ql
    go_loopw [31] (fun i wr => ∃ k : Nat,k ≤ hs.length ∧ i = .int .i64 k ∧ OwnPost (RepV z p f (killsZ (sl,L,B) (hs.take k)).1 (killsZ (sl,L,B) (hs.take k)).2.1 (killsZ (sl,L,B) (hs.take k)).2.2) F V3 wr) (fun i _ => hs.length - (Go.RowKit.intOf i).toNat)
    case atStart => exact ⟨0,by omega,rfl,OwnPost.ofBelow (own_V _ _ _ _ _ _) HV3.out (Below.refl _ _)⟩
    case round =>
     obtain ⟨k,hk,rfl,hOP⟩:=hrel
     have hrow:=row_mod Hr3.out hOP.mod HrF.out
     have hsz:=hOP.mod.size
     have hl61:=Hhl.out
     by_cases hlt : k < hs.length
     ·obtain ⟨A7,c7,e7,-,hL7⟩:=row_lies hrow
      cases e7
      obtain ⟨ab,ao,rfl,hal,hc⟩:=hL7.rec_at handleC_len (by omega) hlt
      have hki : (k : Int) < (hs.length : Int):=by omega
      have hst : killsZ (sl,L,B) (hs.take (k + 1)) = killZ (killsZ (sl,L,B) (hs.take k)) hs[k]:=by rw [take_succ_get hs k hlt,killsZ_snoc]
      generalize killsZ (sl,L,B) (hs.take k) = st at *
      generalize hs[k] = x at *
      obtain ⟨sl1,L1,B1⟩:=st
      obtain ⟨s1,g1⟩:=x
      simp only at hOP
      obtain ⟨F1,hR,hT⟩:=hOP
      obtain ⟨w3,hw3,hb4,hz4,hs4⟩:=box1 wr (.cells #[.int .i64 s1,.int .i64 g1] 47)
      have hR4:=hR.below hb4
      have hN1 : wr.heap.size ∉ F1:=fun e => by have:=hR.lt _ e;omega
      have hq : ∀ j u,(handleC (s1,g1))[j]? = some u → wr.cell? ((⟨ab,ao + k * 2,none⟩ : Addr).add j) = some u:=fun j u hu => by first | exact hc j u hu | (have:=hc j u hu;rw [Addr.add_mid];exact this)
      obtain ⟨HR,HR4,HN1,Hb4,Hz4,Hs4,Hw3,HQ,Hst,HT,Hlt⟩:=hid11 hR hR4 hN1 hb4 hz4 hs4 hw3 hq hst hT hlt
      clear hR hR4 hN1 hb4 hz4 hs4 hw3 hq hst hT hlt
      clear hc hrow hL7
      go_wp2_with (first | (refine wpList_load_flat rfl 47 (.tmp 33) rfl _ rfl [.int .i64 s1,.int .i64 g1] _ Tryz.underlying47 rfl (by kernel_rfl) HQ.out ?_) | fail)
      rw [Hw3.out]
      refine wp_planK [] 6 [0] [some 35,some 36,some 37,some 38,some 39,some 40] [[],[0],[0,1],[0,1,2],[],[0,1,2,3,4]] [0,1,2,3,4,5] (fun Lf σ W => ITurn 5 w3 F1 (RepV z p f (freeL sl1 s1 g1) (killL L1 (s1,g1)) B1) Lf σ W) mixed rfl (by kernel_rfl) (by decide) (by decide) (by decide) (ITurn.start below_drew) rfl ?_
      iterate 6 apply Exists.intro
      refine ⟨rfl,?_,?_⟩
      ·simp only [tS,List.take_zero,AllFrom.cons_eq,AllFrom.nil_eq,OpGoalK]
       refine ⟨?_,?_,?_,?_,?_,?_,trivial⟩
       all_goals (intro L' σ V h1 h2 h3 hI hp;have HA1:=Lib.hid h1;have HA2:=Lib.hid h2;have HA3:=Lib.hid h3;clear h1 h2 h3;(try simp only [gZ,gS,preK_cons,preK_nil] at hp);(try simp only [List.not_mem_nil,false_or,and_true] at hp);(first | (have hq : True:=hp;clear hq hp) | skip);have HI:=Lib.hid hI;clear hI)
       all_goals (
        have hb:=HI.out.s0 (by first | exact HA3.out 5 (by decide) | exact HA1.out)
        have hR5:=HR4.out.below hb
        have hA:=hR5.cells
        have hc0:=hA.1;have hc1:=hA.2.1;have hzl:=hA.2.2
        have hzV:=(Mod.ofBelow hb).keep Hz4.out (by simp)
        have q0:=blk_cell hzV 0
        have q1:=blk_cell hzV 1
        simp only [eA,eZ,eS] at q0 q1
        have ql:=blk_lt hzV
        have HR5:=Lib.hid hR5
        clear hA hzV hb hR5)
       iterate 5 · (go_simp;exact ⟨.inr rfl,HI.out.read (by decide) _⟩)
       ·go_simp
        refine (v_kill HR5.out s1 g1).mono ?_
        rintro e V' ⟨rfl,hp⟩
        exact ⟨_,rfl,.inr rfl,HI.out.turn HA1.out hp _⟩
      ·intro L' σ V h1 hI hp
       have hP:=hI.s1 (h1 5 (by decide))
       clear h1 hI
       simp only [preK_cons,preK_nil,gZ,gS] at hp;simp only [List.not_mem_nil,false_or,and_true] at hp
       have hzV:=hP.mod.keep Hz4.out HN1.out
       obtain ⟨F2,hR6,hT6⟩:=hP
       have hN2 : wr.heap.size ∉ F2:=fun e => by
        rcases hT6.new _ e with e | e
        ·exact HN1.out e
        ·have:=Hs4.out;omega
       obtain ⟨HR6,HT6,HN2,HzV⟩:=hid4 hR6 hT6 hN2 hzV
       clear hR6 hT6 hN2 hzV
       simp only [dS,List.drop_zero]
       go_simp
       clear hp
       go_wp2_with fail
       refine ⟨rfl,?_⟩
       go_wp2_with fail
       refine wp_planK [] 6 [0] [some 41,some 42,some 43,some 44,some 45,some 46] [[],[0],[0,1],[0,1,2],[],[0,1,2,3,4]] [0,1,2,3,4,5] (fun Lf σ W => ITurn 5 V F2 (RepV z p f (freeL sl1 s1 g1) (killL L1 (s1,g1)) (goneB B1 (s1,g1))) Lf σ W) mixed rfl (by kernel_rfl) (by decide) (by decide) (by decide) (ITurn.start below_drew) rfl ?_
       iterate 6 apply Exists.intro
       refine ⟨rfl,?_,?_⟩
       ·simp only [tS,List.take_zero,AllFrom.cons_eq,AllFrom.nil_eq,OpGoalK]
        refine ⟨?_,?_,?_,?_,?_,?_,trivial⟩
        all_goals (intro L' σ V h1 h2 h3 hI hp;have HA1:=Lib.hid h1;have HA2:=Lib.hid h2;have HA3:=Lib.hid h3;clear h1 h2 h3;(try simp only [gZ,gS,preK_cons,preK_nil] at hp);(try simp only [List.not_mem_nil,false_or,and_true] at hp);(first | (have hq : True:=hp;clear hq hp) | skip);have HI:=Lib.hid hI;clear hI)
        all_goals (
         have hb:=HI.out.s0 (by first | exact HA3.out 5 (by decide) | exact HA1.out)
         have hR5:=HR6.out.below hb
         have hA:=hR5.cells
         have hc0:=hA.1;have hc1:=hA.2.1;have hzl:=hA.2.2
         have hzV:=(Mod.ofBelow hb).keep HzV.out (by simp)
         have q0:=blk_cell hzV 0
         have q1:=blk_cell hzV 1
         simp only [eA,eZ,eS] at q0 q1
         have ql:=blk_lt hzV
         have HR5:=Lib.hid hR5
         clear hA hzV hb hR5)
        iterate 5 · (go_simp;exact ⟨.inr rfl,HI.out.read (by decide) _⟩)
        ·go_simp
         refine (v_gone HR5.out s1 g1).mono ?_
         rintro e V' ⟨rfl,hp⟩
         exact ⟨_,rfl,.inr rfl,HI.out.turn HA1.out hp _⟩
       ·intro L' σ V5 h1 hI hp
        have hP:=hI.s1 (h1 5 (by decide))
        clear h1 hI
        simp only [preK_cons,preK_nil,gZ,gS] at hp;simp only [List.not_mem_nil,false_or,and_true] at hp
        have hT7:=(HT.out.below Hb4.out).trans HT6.out
        have hfin : OwnPost (RepV z p f (killsZ (sl,L,B) (hs.take (k + 1))).1 (killsZ (sl,L,B) (hs.take (k + 1))).2.1 (killsZ (sl,L,B) (hs.take (k + 1))).2.2) F V3 V5:=by
         rw [Hst.out]
         obtain ⟨F3,h3,h4⟩:=hP
         exact ⟨F3,h3,hT7.trans h4⟩
        have Hfin:=Lib.hid hfin
        clear hfin
        clear hP hT7
        have hlt:=Hlt.out
        simp only [dS,List.drop_zero]
        go_simp
        clear hp
        go_wp2_with fail
        refine ⟨rfl,?_⟩
        go_wp2
        go_roundw
        case rel => exact ⟨k + 1,by omega,by go_num,Hfin.out⟩
        case measure => simp [Go.RowKit.intOf];omega
     ·obtain rfl : k = hs.length:=by omega
      rw [List.take_length,← HMk.out] at hOP
      have hfin:=OwnPost.after HbV3.out hOP
      have Hfin:=Lib.hid hfin
      clear hfin
      clear hOP hrow hlt
      go_wp2_with fail
      refine bodyPost_ret (v:=.int .i64 0) (by unfold results;try go_simp) rfl ?_
      exact .inr ⟨Hl.out,rfl,by rw [Hus.out];exact Hfin.out⟩
def liveZ (sl : Sl) (hs : List Hd) : Bool:=hs.all (fun h => liveB sl h.1 h.2)
def liveE (sl : Sl) (hs : List Hd) : Int:=if liveZ sl hs = true then 0 else 7
theorem liveE_ok {sl : Sl} {hs : List Hd} (h : liveZ sl hs = true) : liveE sl hs = 0:=by unfold liveE;rw [if_pos h]
theorem liveE_no {sl : Sl} {hs : List Hd} (h : liveZ sl hs = false) : liveE sl hs = 7:=by unfold liveE;rw [if_neg (by rw [h];simp)]
set_option maxRecDepth 20000 in
set_option maxHeartbeats 4000000 in
theorem vlive_any (h : RepV z p f sl L B w F) (A : Option Addr) (c : Nat) (hs : List Hd) (hl : hs.length ≤ 60) (hA : Lies w w.heap.size A (hs.flatMap handleC)) :
  Calls Tryz.prog 49 #[.pointer (some ⟨z,0,none⟩),.slice A hs.length c] w fun e w' => e = .returned (.int .i64 (liveE sl hs)) ∧ Below w.heap.size w w':=by
 obtain ⟨ps,hV⟩:=v_liveA h
 obtain ⟨HV,HA⟩:=hid2 hV hA
 clear hV hA
 clear h
 go_enter Tryz.func49,Tryz.ntmps49
 go_wp2_with fail
 go_loopw [9] (fun i wr => ∃ k : Nat,k ≤ hs.length ∧ i = .int .i64 k ∧ liveZ sl (hs.take k) = true ∧ Below w.heap.size w wr) (fun i _ => hs.length - (Go.RowKit.intOf i).toNat)
 case atStart => exact ⟨0,by omega,rfl,rfl,Below.refl _ _⟩
 case round =>
  obtain ⟨k,hk,rfl,hno,hbel⟩:=hrel
  have hsz:=hbel.size
  by_cases hlt : k < hs.length
  ·obtain ⟨ab,ao,rfl,hal,hc⟩:=HA.out.rec_at handleC_len (by omega) hlt
   have hki : (k : Int) < (hs.length : Int):=by omega
   have hq : ∀ j u,(handleC hs[k])[j]? = some u → wr.cell? ((⟨ab,ao + k * 2,none⟩ : Addr).add j) = some u:=fun j u hu => (hbel.cell (p:=(⟨ab,ao + k * 2,none⟩ : Addr).add j) (by rw [add_block];exact hal)).trans (by first | exact hc j u hu | (have:=hc j u hu;rw [Addr.add_mid];exact this))
   have hst : liveZ sl (hs.take (k + 1)) = liveB sl hs[k].1 hs[k].2:=by
    have h1:=hno
    unfold liveZ at h1 ⊢
    rw [take_succ_get hs k hlt,List.all_append,h1];simp
   have hall : liveB sl hs[k].1 hs[k].2 = false → liveZ sl hs = false:=fun e => by
    unfold liveZ
    rw [List.all_eq_false]
    exact ⟨hs[k],List.getElem_mem hlt,by rw [e];simp⟩
   generalize hs[k] = x at *
   obtain ⟨s,g⟩:=x
   obtain ⟨w3,hw3,hb3,hz3,hs3⟩:=box1 wr (.cells #[.int .i64 s,.int .i64 g] 47)
   have hb03:=hbel.trans (hb3.mono hsz)
   have hL:=fun V (hb : Below w3.heap.size w3 V) => HV.out V (hb03.trans (hb.mono hb03.size))
   simp only at hst hall
   obtain ⟨HQ,Hst,Hall,Hb03,HL,Hz3,Hs3,Hw3⟩:=hid8 hq hst hall hb03 hL hz3 hs3 hw3
   clear hq hst hall hb03 hL hz3 hs3 hw3
   clear hc hb3 hno hbel
   go_wp2_with (first | (refine wpList_load_flat rfl 47 (.tmp 11) rfl _ rfl [.int .i64 s,.int .i64 g] _ Tryz.underlying47 rfl (by kernel_rfl) HQ.out ?_) | fail)
   rw [Hw3.out]
   refine wp_planK [] 10 [0] [some 13,some 14,some 15,some 16,some 17,some 18,some 19,some 20,some 21,some 22] [[],[0],[0,1],[0,1,2],[0,1,2,3],[0,1,2,3,4],[0,1,2,3,4,5],[],[0,1,2,3,4,5,6,7],[0,1,2,3,4,5,6,7,8]] [0,1,2,3,4,5,6,7,8,9] (fun Lf σ V => Below w3.heap.size w3 V) mixed rfl (by kernel_rfl) (by decide) (by decide) (by decide) below_drew rfl ?_
   iterate 10 apply Exists.intro
   refine ⟨rfl,?_,?_⟩
   ·simp only [tS,List.take_zero,AllFrom.cons_eq,AllFrom.nil_eq,OpGoalK]
    refine ⟨?_,?_,?_,?_,?_,?_,?_,?_,?_,?_,trivial⟩
    all_goals (intro L' σ V h1 h2 h3 hI hp;have HA1:=Lib.hid h1;have HA2:=Lib.hid h2;have HA3:=Lib.hid h3;clear h1 h2 h3;(try simp only [gZ,gS,preK_cons,preK_nil] at hp);(try simp only [List.not_mem_nil,false_or,and_true] at hp);(first | (have hq : True:=hp;clear hq hp) | skip);have HI:=Lib.hid hI;clear hI)
    all_goals (
     have hA:=HL.out V HI.out
     have hc0:=hA.1;have hzl:=hA.2.2.1;have hp0:=hA.2.2.2.1;have hpl:=hA.2.2.2.2.1
     have HLv:=Lib.hid hA.2.2.2.2.2
     have hzV:=(Mod.ofBelow HI.out).keep Hz3.out (by simp)
     have q0:=blk_cell hzV 0
     have q1:=blk_cell hzV 1
     simp only [eA,eZ,eS] at q0 q1
     have ql:=blk_lt hzV
     clear hA hzV)
    iterate 8 · (go_simp;exact ⟨.inr rfl,HI.out⟩)
    ·(go_simp;refine (HLv.out s g).mono ?_;rintro e V2 ⟨rfl,hb⟩;exact ⟨_,rfl,.inr rfl,HI.out.trans (hb.mono HI.out.size)⟩)
    ·(go_simp;exact ⟨.inr rfl,HI.out⟩)
   ·intro L' σ V h1 hI hp
    clear h1
    simp only [preK_cons,preK_nil,gZ,gS] at hp;simp only [List.not_mem_nil,false_or,and_true] at hp
    have hbV:=Hb03.out.trans (hI.mono Hb03.out.size)
    have HbV:=Lib.hid hbV
    clear hbV
    clear hI
    simp only [dS,List.drop_zero]
    go_simp
    clear hp
    cases hlv : liveB sl s g with
    | false =>
     have hf:=Hall.out hlv
     have Hf:=Lib.hid hf
     clear hf
     clear hlv
     go_wp2_with fail
     refine ⟨rfl,?_⟩
     go_wp2
     refine bodyPost_ret (v:=.int .i64 7) (by unfold results;try go_simp) rfl ?_
     exact ⟨by rw [liveE_no Hf.out],HbV.out⟩
    | true =>
     have hs2:=Hst.out.trans hlv
     have Hs2:=Lib.hid hs2
     clear hs2
     clear hlv
     go_wp2_with fail
     refine ⟨rfl,?_⟩
     go_wp2
     go_roundw
     case rel => exact ⟨k + 1,by omega,by go_num,Hs2.out,HbV.out⟩
     case measure => simp [Go.RowKit.intOf];omega
  ·obtain rfl : k = hs.length:=by omega
   rw [List.take_length] at hno
   obtain ⟨Hno,HB⟩:=hid2 hno hbel
   clear hno hbel
   go_wp2
   refine bodyPost_ret (v:=.int .i64 0) (by unfold results;try go_simp) rfl ?_
   exact ⟨by rw [liveE_ok Hno.out],HB.out⟩
end
end Go.Proofs.YtfdillpofciicaaGreatDoor
