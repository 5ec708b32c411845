import Derived.Test.YtehjfmjibiafdaaGreatRunSerialsJ34
/- A part of the proof that RunSerials returns true. -/
namespace Go.Proofs.YtehjfmjibiafdaaGreat
open Go Go.RowKit
def RepV (z p f : Nat) (sl : Sl) (L : List Rw) (B : List Bd) (w : World) (F : List Nat) : Prop :=
 w.heap[z]? = some (.cells #[.pointer (some ⟨p,0,none⟩),.pointer (some ⟨f,0,none⟩)] 62 (0,0)) ∧
  ∃ FW FF,RepW w p sl L FW ∧ RepF w f B FF ∧ F = z :: (FW ++ FF) ∧ z ∉ FW ∧ z ∉ FF ∧ ∀ y ∈ FW,y ∉ FF
section
variable {z p f : Nat} {sl sl' : Sl} {L L' : List Rw} {B B' : List Bd} {w w' : World} {F G : List Nat}
theorem RepV.mod (h : RepV z p f sl L B w F) (hm : Mod G w w') (hd : ∀ y ∈ F,y ∉ G) : RepV z p f sl L B w' F:=by
 obtain ⟨h1,FW,FF,h2,h3,rfl,h4,h5,h6⟩:=h
 exact ⟨hm.keep h1 (hd z (by simp)),FW,FF,h2.mod hm (fun y hy => hd y (by simp [hy])),h3.mod hm (fun y hy => hd y (by simp [hy])),rfl,h4,h5,h6⟩
theorem RepV.below (h : RepV z p f sl L B w F) (hb : Below w.heap.size w w') : RepV z p f sl L B w' F:=h.mod (Mod.ofBelow hb) (by simp)
theorem RepV.lt (h : RepV z p f sl L B w F) : ∀ y ∈ F,y < w.heap.size:=by
 obtain ⟨h1,FW,FF,h2,h3,rfl,-⟩:=h
 intro y hy
 rcases List.mem_cons.1 hy with rfl | hy
 ·exact blk_lt h1
 ·rcases List.mem_append.1 hy with hy | hy
  ·exact h2.lt y hy
  ·exact h3.lt y hy
theorem own_V (z p f : Nat) (sl : Sl) (L : List Rw) (B : List Bd) : Own (RepV z p f sl L B):=⟨fun h hm hd => h.mod hm hd,fun h => h.lt⟩
theorem RepV.okW (h : RepV z p f sl L B w F) : WOk sl L:=by obtain ⟨-,FW,FF,h2,-⟩:=h;exact h2.ok
theorem RepV.okF (h : RepV z p f sl L B w F) : FamOk B:=by obtain ⟨-,FW,FF,-,h3,-⟩:=h;exact h3.ok
theorem RepV.w_ (h : RepV z p f sl L B w F) : ∃ FW,RepW w p sl L FW:=by obtain ⟨-,FW,FF,h2,-⟩:=h;exact ⟨FW,h2⟩
theorem RepV.f_ (h : RepV z p f sl L B w F) : ∃ FF,RepF w f B FF:=by obtain ⟨-,FW,FF,-,h3,-⟩:=h;exact ⟨FF,h3⟩
theorem RepV.slots (h : RepV z p f sl L B w F) : ∃ ps FS,w.cell? ⟨p,0,none⟩ = some (.pointer (some ⟨ps,0,none⟩)) ∧ p < w.heap.size ∧ RepS w ps sl FS:=by
 obtain ⟨FW,h2⟩:=h.w_
 obtain ⟨ps,mt,mp,tb,rw_,pl,FS,Fs,c,h3,-,-,-⟩:=h2
 have e:=blk_cell h3.blk 0
 simp only [eA,eZ] at e
 exact ⟨ps,FS,e,blk_lt h3.blk,h3.sl⟩
theorem RepV.cells (h : RepV z p f sl L B w F) : w.cell? ⟨z,0,none⟩ = some (.pointer (some ⟨p,0,none⟩)) ∧ w.cell? ⟨z,1,none⟩ = some (.pointer (some ⟨f,0,none⟩)) ∧ z < w.heap.size:=by
 refine ⟨?_,?_,blk_lt h.1⟩
 ·rw [blk_cell h.1];rfl
 ·rw [blk_cell h.1];rfl
def VRet (z p f : Nat) (sl : Sl) (L : List Rw) (B : List Bd) (F : List Nat) (w : World) (r : Value) (e : Ending) (w' : World) : Prop:=e = .returned r ∧ OwnPost (RepV z p f sl L B) F w w'
theorem RepV.turnW (h : RepV z p f sl L B w F) : ∃ FW,RepW w p sl L FW ∧ ∀ w' sl' L' F',RepW w' p sl' L' F' → Turns w FW F' w' → OwnPost (RepV z p f sl' L' B) F w w':=by
 have hlt:=h.lt
 obtain ⟨h1,FW,FF,h2,h3,rfl,h4,h5,h6⟩:=h
 refine ⟨FW,h2,fun w' sl' L' F' a b => ⟨z :: (F' ++ FF),⟨b.mod.keep h1 h4,F',FF,a,h3.mod b.mod (fun y hy e => h6 y e hy),rfl,?_,h5,?_⟩,b.mod.mono (by intro y hy;simp [hy]),?_⟩⟩
 ·intro e
  rcases b.new z e with e | e
  ·exact h4 e
  ·have:=hlt z (by simp);omega
 ·intro y hy e
  rcases b.new y hy with e2 | e2
  ·exact h6 y e2 e
  ·have:=hlt y (by simp [e]);omega
 ·intro y hy
  rcases List.mem_cons.1 hy with rfl | hy
  ·exact .inl (by simp)
  ·rcases List.mem_append.1 hy with hy | hy
   ·rcases b.new y hy with e2 | e2
    ·exact .inl (by simp [e2])
    ·exact .inr e2
   ·exact .inl (by simp [hy])
theorem RepV.turnF (h : RepV z p f sl L B w F) : ∃ FF,RepF w f B FF ∧ ∀ w' B' F',RepF w' f B' F' → Turns w FF F' w' → OwnPost (RepV z p f sl L B') F w w':=by
 have hlt:=h.lt
 obtain ⟨h1,FW,FF,h2,h3,rfl,h4,h5,h6⟩:=h
 refine ⟨FF,h3,fun w' B' F' a b => ⟨z :: (FW ++ F'),⟨b.mod.keep h1 h5,FW,F',h2.mod b.mod (fun y hy => h6 y hy),a,rfl,h4,?_,?_⟩,b.mod.mono (by intro y hy;simp [hy]),?_⟩⟩
 ·intro e
  rcases b.new z e with e | e
  ·exact h5 e
  ·have:=hlt z (by simp);omega
 ·intro y hy e
  rcases b.new y e with e2 | e2
  ·exact h6 y hy e2
  ·have:=hlt y (by simp [hy]);omega
 ·intro y hy
  rcases List.mem_cons.1 hy with rfl | hy
  ·exact .inl (by simp)
  ·rcases List.mem_append.1 hy with hy | hy
   ·exact .inl (by simp [hy])
   ·rcases b.new y hy with e2 | e2
    ·exact .inl (by simp [e2])
    ·exact .inr e2
theorem OwnPost.ofBelow {A : World → List Nat → Prop} (hA : Own A) {F : List Nat} {w w' : World} (h : A w F) (hb : Below w.heap.size w w') : OwnPost A F w w':=⟨F,hA.mod h (Mod.ofBelow hb) (by simp),Turns.ofBelow hb⟩
theorem OwnPost.after {A : World → List Nat → Prop} {F : List Nat} {w w' w'' : World} (hb : Below w.heap.size w w') (h : OwnPost A F w' w'') : OwnPost A F w w'':=by
 obtain ⟨F',h1,h2⟩:=h
 exact ⟨F',h1,Turns.after hb h2⟩
theorem OwnPost.mod {A : World → List Nat → Prop} {F : List Nat} {w w' : World} (h : OwnPost A F w w') : Mod F w w':=by obtain ⟨F',-,h2⟩:=h;exact h2.mod
theorem v_spawn (h : RepV z p f sl L B w F) (K a0 a1 a2 a3 a4 a5 a6 a7 : Int) :
  Calls Tryz.prog 43 #[.pointer (some ⟨p,0,none⟩),.agg #[.int .i64 K,.int .i64 a0,.int .i64 a1,.int .i64 a2,.int .i64 a3,.int .i64 a4,.int .i64 a5,.int .i64 a6,.int .i64 a7]] w
   (VRet z p f (spawnS sl (K,a0,a1,a2,a3,a4,a5,a6,a7)) (spawnL sl L (K,a0,a1,a2,a3,a4,a5,a6,a7)) B F w (.tuple #[.agg #[.int .i64 (spawnH sl (K,a0,a1,a2,a3,a4,a5,a6,a7)).1,.int .i64 (spawnH sl (K,a0,a1,a2,a3,a4,a5,a6,a7)).2],.int .i64 (spawnE sl (K,a0,a1,a2,a3,a4,a5,a6,a7))])):=by
 obtain ⟨FW,h1,h2⟩:=h.turnW
 exact (spawn_any h1 K a0 a1 a2 a3 a4 a5 a6 a7).mono fun e w' ⟨he,F',a,b⟩ => ⟨he,h2 _ _ _ _ a b⟩
theorem v_kill (h : RepV z p f sl L B w F) (s g : Int) :
  Calls Tryz.prog 95 #[.pointer (some ⟨p,0,none⟩),.agg #[.int .i64 s,.int .i64 g]] w (VRet z p f (freeL sl s g) (killL L (s,g)) B F w (.int .i64 (killE L (s,g)))):=by
 obtain ⟨FW,h1,h2⟩:=h.turnW
 exact (wkill_any h1 s g).mono fun e w' ⟨he,F',a,b⟩ => ⟨he,h2 _ _ _ _ a b⟩
theorem v_put (h : RepV z p f sl L B w F) (s g k n : Int) :
  Calls Tryz.prog 45 #[.pointer (some ⟨p,0,none⟩),.agg #[.int .i64 s,.int .i64 g],.int .i64 k,.int .i64 n] w (VRet z p f sl (putW L (s,g) k n) B F w (.int .i64 (putE L (s,g) k n))):=by
 obtain ⟨FW,h1,h2⟩:=h.turnW
 exact (wput_any h1 s g k n).mono fun e w' ⟨he,F',a,b⟩ => ⟨he,h2 _ _ _ _ a b⟩
theorem v_drop (h : RepV z p f sl L B w F) (s g k : Int) :
  Calls Tryz.prog 46 #[.pointer (some ⟨p,0,none⟩),.agg #[.int .i64 s,.int .i64 g],.int .i64 k] w (VRet z p f sl (dropL L (s,g) k) B F w (.int .i64 (dropE L (s,g) k))):=by
 obtain ⟨FW,h1,h2⟩:=h.turnW
 exact (wdrop_any h1 s g k).mono fun e w' ⟨he,F',a,b⟩ => ⟨he,h2 _ _ _ _ a b⟩
theorem v_adopt (h : RepV z p f sl L B w F) (s g t u : Int) (hc : HdR (s,g)) (hp : HdR (t,u)) :
  Calls Tryz.prog 31 #[.pointer (some ⟨f,0,none⟩),.agg #[.int .i64 s,.int .i64 g],.agg #[.int .i64 t,.int .i64 u]] w (VRet z p f sl L (adoB B (s,g) (t,u)) F w (.int .i64 (adoE B (s,g) (t,u)))):=by
 obtain ⟨FF,h1,h2⟩:=h.turnF
 exact (adopt_any h1 s g t u hc hp).mono fun e w' ⟨he,a,b⟩ => ⟨he,h2 _ _ _ a ⟨b,fun _ h => .inl h⟩⟩
theorem v_loosen (h : RepV z p f sl L B w F) (s g : Int) (hc : HdR (s,g)) :
  Calls Tryz.prog 47 #[.pointer (some ⟨f,0,none⟩),.agg #[.int .i64 s,.int .i64 g]] w (VRet z p f sl L (outB B (s,g)) F w (.int .i64 (looE (parB B (s,g))))):=by
 obtain ⟨FF,h1,h2⟩:=h.turnF
 exact (loosen_any h1 s g hc).mono fun e w' ⟨he,a,b⟩ => ⟨he,h2 _ _ _ a ⟨b,fun _ h => .inl h⟩⟩
theorem v_gone (h : RepV z p f sl L B w F) (s g : Int) :
  Calls Tryz.prog 96 #[.pointer (some ⟨f,0,none⟩),.agg #[.int .i64 s,.int .i64 g]] w (VRet z p f sl L (goneB B (s,g)) F w (.tuple #[])):=by
 obtain ⟨FF,h1,h2⟩:=h.turnF
 exact (gone_any h1 s g).mono fun e w' ⟨he,a,b⟩ => ⟨he,h2 _ _ _ a ⟨b,fun _ h => .inl h⟩⟩
theorem v_under (h : RepV z p f sl L B w F) (hl : B.length ≤ 60) (s g : Int) :
  Calls Tryz.prog 93 #[.pointer (some ⟨f,0,none⟩),.agg #[.int .i64 s,.int .i64 g]] w (MadeRecs 41 2 handleC (underB B (s,g)) w):=by
 obtain ⟨FF,h1⟩:=h.f_
 exact funder_any (by omega) (lowN B) s g w (lowN_spec h.okF.ac _) h1
end
def RepQ (q : Nat) (sl : Sl) (L : List Rw) (B : List Bd) (w : World) (F : List Nat) : Prop :=
 ∃ vB FZ,RepZ vB w q sl L FZ ∧ w.ownsRow 0 84 4 vB B.length (B.flatMap bdC) ∧ F = FZ ++ vB.ownBlock.toList ∧ ∀ y ∈ FZ,y ∉ vB.ownBlock.toList
section
variable {q : Nat} {sl sl' : Sl} {L L' : List Rw} {B B' : List Bd} {w w' : World} {F G : List Nat}
theorem RepQ.mod (h : RepQ q sl L B w F) (hm : Mod G w w') (hd : ∀ y ∈ F,y ∉ G) : RepQ q sl L B w' F:=by
 obtain ⟨vB,FZ,h1,h2,rfl,h3⟩:=h
 exact ⟨vB,FZ,h1.mod hm (fun y hy => hd y (by simp [hy])),row_mod h2 hm (fun k hk => hd k (by simp [hk])),rfl,h3⟩
theorem RepQ.lt (h : RepQ q sl L B w F) : ∀ y ∈ F,y < w.heap.size:=by
 obtain ⟨vB,FZ,h1,h2,rfl,h3⟩:=h
 intro y hy
 rcases List.mem_append.1 hy with hy | hy
 ·exact h1.lt y hy
 ·exact row_lt h2 y (by simpa using hy)
theorem RepQ.below (h : RepQ q sl L B w F) (hb : Below w.heap.size w w') : RepQ q sl L B w' F:=h.mod (Mod.ofBelow hb) (by simp)
theorem own_Q (q : Nat) (sl : Sl) (L : List Rw) (B : List Bd) : Own (RepQ q sl L B):=⟨fun h hm hd => h.mod hm hd,fun h => h.lt⟩
def QRet (q : Nat) (sl : Sl) (L : List Rw) (B : List Bd) (F : List Nat) (w : World) (r : Value) (e : Ending) (w' : World) : Prop:=e = .returned r ∧ OwnPost (RepQ q sl L B) F w w'
theorem RepQ.turnZ (h : RepQ q sl L B w F) : ∃ vB FZ,RepZ vB w q sl L FZ ∧ ∀ w' sl' L' F',RepZ vB w' q sl' L' F' → Turns w FZ F' w' → OwnPost (RepQ q sl' L' B) F w w':=by
 have hlt:=h.lt
 obtain ⟨vB,FZ,h1,h2,rfl,h3⟩:=h
 refine ⟨vB,FZ,h1,fun w' sl' L' F' a b => ⟨F' ++ vB.ownBlock.toList,⟨vB,F',a,row_mod h2 b.mod (fun k hk e => h3 k e (by simp [hk])),rfl,?_⟩,b.mod.mono (by intro y hy;simp [hy]),?_⟩⟩
 ·intro y hy e
  rcases b.new y hy with e2 | e2
  ·exact h3 y e2 e
  ·have:=hlt y (List.mem_append.2 (.inr e));omega
 ·intro y hy
  rcases List.mem_append.1 hy with hy | hy
  ·rcases b.new y hy with e2 | e2
   ·exact .inl (List.mem_append.2 (.inl e2))
   ·exact .inr e2
  ·exact .inl (List.mem_append.2 (.inr hy))
theorem RepQ.turnB (h : RepQ q sl L B w F) : ∃ vg vl vr FB,RepB vg vl vr w q B FB ∧ ∀ w' B' F',RepB vg vl vr w' q B' F' → Turns w FB F' w' → OwnPost (RepQ q sl L B') F w w':=by
 have hlt:=h.lt
 obtain ⟨vB,FZ,⟨vL,FS,⟨vg,vl,g1,g2,g3,rfl,g4⟩,g5,rfl,g6⟩,h2,rfl,h3⟩:=h
 have hq : q ∉ vB.ownBlock.toList:=h3 q (by simp)
 refine ⟨vg,vl,vL,q :: vB.ownBlock.toList,⟨vB,g1,h2,rfl,hq⟩,fun w' B' F' a b => ?_⟩
 obtain ⟨vB',k1,k2,rfl,k4⟩:=a
 have hn : ∀ y,y ≠ q → (y ∈ (q :: (vg.ownBlock.toList ++ vl.ownBlock.toList)) ++ vL.ownBlock.toList) → y ∉ q :: vB.ownBlock.toList:=fun y hy hm e => by
  rcases List.mem_cons.1 e with e | e
  ·exact hy e
  ·exact h3 y hm e
 have hnd:=List.nodup_append.1 g6
 have hqg : q ∉ vg.ownBlock.toList ++ vl.ownBlock.toList:=(List.nodup_cons.1 g4).1
 refine ⟨((q :: (vg.ownBlock.toList ++ vl.ownBlock.toList)) ++ vL.ownBlock.toList) ++ vB'.ownBlock.toList,⟨vB',_,⟨vL,_,⟨vg,vl,k1,row_mod g2 b.mod (fun k hk => ?_),row_mod g3 b.mod (fun k hk => ?_),rfl,g4⟩,row_mod g5 b.mod (fun k hk => ?_),rfl,g6⟩,k2,rfl,?_⟩,b.mod.mono (by
  intro y hy
  rcases List.mem_cons.1 hy with rfl | hy
  ·exact .inl (by simp)
  ·exact .inl (List.mem_append.2 (.inr hy))),?_⟩
 ·refine hn k ?_ (by simp [hk])
  rintro rfl
  exact hqg (by simp [hk])
 ·refine hn k ?_ (by simp [hk])
  rintro rfl
  exact hqg (by simp [hk])
 ·refine hn k ?_ (by simp [hk])
  rintro rfl
  exact (hnd.2.2 k (by simp) k (by simp [hk])) rfl
 ·intro y hy e
  by_cases ey : y = q
  ·subst ey;exact k4 e
  ·rcases b.new y (List.mem_cons_of_mem _ e) with e2 | e2
   ·exact hn y ey hy e2
   ·have:=hlt y (List.mem_append.2 (.inl hy));omega
 ·intro y hy
  rcases List.mem_append.1 hy with hy | hy
  ·exact .inl (List.mem_append.2 (.inl hy))
  ·rcases b.new y (List.mem_cons_of_mem _ hy) with e2 | e2
   ·rcases List.mem_cons.1 e2 with rfl | e2
    ·exact .inl (by simp)
    ·exact .inl (List.mem_append.2 (.inr e2))
   ·exact .inr e2
theorem RepQ.z_ (h : RepQ q sl L B w F) : ∃ vB FZ,RepZ vB w q sl L FZ:=by obtain ⟨vB,FZ,h1,-⟩:=h;exact ⟨vB,FZ,h1⟩
theorem RepQ.b_ (h : RepQ q sl L B w F) : ∃ vg vl vr FB,RepB vg vl vr w q B FB:=by obtain ⟨vg,vl,vr,FB,h1,-⟩:=h.turnB;exact ⟨vg,vl,vr,FB,h1⟩
theorem q_spawn (h : RepQ q sl L B w F) (hO : WOk sl L) (K a0 a1 a2 a3 a4 a5 a6 a7 : Int) :
  Calls Tryz.prog 48 #[.pointer (some ⟨q,0,none⟩),.agg #[.int .i64 K,.int .i64 a0,.int .i64 a1,.int .i64 a2,.int .i64 a3,.int .i64 a4,.int .i64 a5,.int .i64 a6,.int .i64 a7]] w
   (QRet q (spawnS sl (K,a0,a1,a2,a3,a4,a5,a6,a7)) (spawnL sl L (K,a0,a1,a2,a3,a4,a5,a6,a7)) B F w (.tuple #[.agg #[.int .i64 (spawnH sl (K,a0,a1,a2,a3,a4,a5,a6,a7)).1,.int .i64 (spawnH sl (K,a0,a1,a2,a3,a4,a5,a6,a7)).2],.int .i64 (spawnE sl (K,a0,a1,a2,a3,a4,a5,a6,a7))])):=by
 obtain ⟨vB,FZ,h1,h2⟩:=h.turnZ
 exact (zspawn_any h1 hO K a0 a1 a2 a3 a4 a5 a6 a7).mono fun e w' ⟨he,F',a,b⟩ => ⟨he,h2 _ _ _ _ a b⟩
theorem q_kill (h : RepQ q sl L B w F) (hO : WOk sl L) (s g : Int) :
  Calls Tryz.prog 53 #[.pointer (some ⟨q,0,none⟩),.agg #[.int .i64 s,.int .i64 g]] w (QRet q (freeL sl s g) (killL L (s,g)) B F w (.int .i64 (killE L (s,g)))):=by
 obtain ⟨vB,FZ,h1,h2⟩:=h.turnZ
 exact (zkill_any h1 hO s g).mono fun e w' ⟨he,F',a,b⟩ => ⟨he,h2 _ _ _ _ a b⟩
theorem q_put (h : RepQ q sl L B w F) (hO : WOk sl L) (s g k n : Int) :
  Calls Tryz.prog 49 #[.pointer (some ⟨q,0,none⟩),.agg #[.int .i64 s,.int .i64 g],.int .i64 k,.int .i64 n] w (QRet q sl (putW L (s,g) k n) B F w (.int .i64 (putE L (s,g) k n))):=by
 obtain ⟨vB,FZ,h1,h2⟩:=h.turnZ
 exact (zput_any h1 hO s g k n).mono fun e w' ⟨he,F',a,b⟩ => ⟨he,h2 _ _ _ _ a b⟩
theorem q_drop (h : RepQ q sl L B w F) (hO : WOk sl L) (s g k : Int) :
  Calls Tryz.prog 50 #[.pointer (some ⟨q,0,none⟩),.agg #[.int .i64 s,.int .i64 g],.int .i64 k] w (QRet q sl (dropL L (s,g) k) B F w (.int .i64 (dropE L (s,g) k))):=by
 obtain ⟨vB,FZ,h1,h2⟩:=h.turnZ
 exact (zdrop_any h1 hO s g k).mono fun e w' ⟨he,F',a,b⟩ => ⟨he,h2 _ _ _ _ a b⟩
theorem q_adopt (h : RepQ q sl L B w F) (hO : FamOk B) (hl : B.length ≤ 60) (s g t u : Int) :
  Calls Tryz.prog 34 #[.pointer (some ⟨q,0,none⟩),.agg #[.int .i64 s,.int .i64 g],.agg #[.int .i64 t,.int .i64 u]] w (QRet q sl L (adoB B (s,g) (t,u)) F w (.int .i64 (adoE B (s,g) (t,u)))):=by
 obtain ⟨vg,vl,vr,FB,h1,h2⟩:=h.turnB
 exact (radopt_any hO (by omega) h1 s g t u).mono fun e w' ⟨he,F',a,b⟩ => ⟨he,h2 _ _ _ a b⟩
theorem q_loosen (h : RepQ q sl L B w F) (hl : B.length ≤ 60) (s g : Int) :
  Calls Tryz.prog 51 #[.pointer (some ⟨q,0,none⟩),.agg #[.int .i64 s,.int .i64 g]] w (QRet q sl L (outB B (s,g)) F w (.int .i64 (looE (parB B (s,g))))):=by
 obtain ⟨vg,vl,vr,FB,h1,h2⟩:=h.turnB
 exact (rloosen_any h1 (by omega) s g).mono fun e w' ⟨he,F',a,b⟩ => ⟨he,h2 _ _ _ a b⟩
theorem q_gone (h : RepQ q sl L B w F) (hl : B.length ≤ 60) (s g : Int) :
  Calls Tryz.prog 54 #[.pointer (some ⟨q,0,none⟩),.agg #[.int .i64 s,.int .i64 g]] w (QRet q sl L (goneB B (s,g)) F w (.tuple #[])):=by
 obtain ⟨vg,vl,vr,FB,h1,h2⟩:=h.turnB
 exact (rgone_any h1 (by omega) s g).mono fun e w' ⟨he,F',a,b⟩ => ⟨he,h2 _ _ _ a b⟩
theorem q_under (h : RepQ q sl L B w F) (hO : FamOk B) (hl : B.length ≤ 60) (s g : Int) :
  Calls Tryz.prog 52 #[.pointer (some ⟨q,0,none⟩),.agg #[.int .i64 s,.int .i64 g]] w (MadeRecs 41 2 handleC (underB B (s,g)) w):=by
 obtain ⟨vg,vl,vr,FB,h1⟩:=h.b_
 exact runder_any hO (by omega) (lowN B) s g w (lowN_spec hO.ac _) h1
theorem q_at (h : RepQ q sl L B w F) (hO : WOk sl L) (s g : Int) :
  Calls Tryz.prog 33 #[.pointer (some ⟨q,0,none⟩),.agg #[.int .i64 s,.int .i64 g]] w (fun e w' => e = .returned (.int .i64 (atI L (s,g))) ∧ Below w.heap.size w w'):=by
 obtain ⟨vB,FZ,h1⟩:=h.z_
 exact at_any h1 hO.len s g
end
def revK {α : Type} (l : List α) (k : Nat) : List α:=l.mapIdx fun i x => if i < k ∨ l.length - k ≤ i then l.getD (l.length - 1 - i) x else x
theorem revK_length {α : Type} (l : List α) (k : Nat) : (revK l k).length = l.length:=by simp [revK]
theorem revK_zero {α : Type} (l : List α) : revK l 0 = l:=by
 unfold revK
 apply List.ext_getElem (by simp)
 intro i h1 h2
 simp only [List.getElem_mapIdx]
 rw [if_neg (by simp at h1 ⊢;omega)]
theorem revK_get {α : Type} (l : List α) (k i : Nat) (h : i < l.length) : (revK l k)[i]'(by rw [revK_length];exact h) = if i < k ∨ l.length - k ≤ i then l[l.length - 1 - i] else l[i]:=by
 unfold revK
 simp only [List.getElem_mapIdx]
 split
 ·rw [List.getD_eq_getElem?_getD,List.getElem?_eq_getElem (by omega)];rfl
 ·rfl
theorem revK_end {α : Type} (l : List α) (k : Nat) (h : l.length ≤ 2 * k + 1) (hk : k ≤ l.length) : revK l k = l.reverse:=by
 apply List.ext_getElem (by rw [revK_length,List.length_reverse])
 intro i h1 h2
 rw [revK_length] at h1
 rw [revK_get l k i h1,List.getElem_reverse]
 split
 ·rfl
 ·congr 1;omega
theorem revK_step {α : Type} (l : List α) (k : Nat) (h : 2 * k + 1 < l.length) : ((revK l k).set k (l[l.length - 1 - k])).set (l.length - 1 - k) l[k] = revK l (k + 1):=by
 apply List.ext_getElem (by simp [revK_length])
 intro i h1 h2
 rw [revK_length] at h2
 rw [revK_get l (k + 1) i h2]
 by_cases e : i = l.length - 1 - k
 ·subst e
  rw [List.getElem_set_self,if_pos (by omega)]
  congr 1;omega
 ·rw [List.getElem_set_ne (Ne.symm e)]
  by_cases e2 : i = k
  ·subst e2
   rw [List.getElem_set_self,if_pos (by omega)]
  ·rw [List.getElem_set_ne (Ne.symm e2),revK_get l k i h2]
   by_cases h3 : i < k ∨ l.length - k ≤ i
   ·rw [if_pos h3,if_pos (by omega)]
   ·rw [if_neg h3,if_neg (by omega)]
theorem revK_at {α : Type} (l : List α) (k m : Nat) (h : k + m + 1 = l.length) (hkm : k < m) : ((revK l k).set k (l[m])).set m (l[k]) = revK l (k + 1):=by
 have:=revK_step l k (by omega)
 have e : l.length - 1 - k = m:=by omega
 simpa only [e] using this
attribute [local go_sem] AllFrom.cons_eq AllFrom.nil_eq putF_nil putF_cons wantedL_none wantedL_some OpGoalQ YieldsR preF_nil preF_cons
def ownHl (w : World) (B : Nat) (v : Value) (l : List Hd) : Prop:=w.ownsRow B 41 2 v l.length (l.flatMap handleC)
theorem sz_Hdl (x : Hd) : (Tryz.prog.info? 41).map (·.size) = some (handleC x).length:=by rw [handleC_len];kernel_rfl
theorem ownHl_set {w : World} {B g cap n : Nat} {l : List Hd} (hn : l.length = n) (h : w.ownsRow B 41 2 (.slice (some ⟨g,0,none⟩) n cap) n (l.flatMap handleC)) {k : Nat} (hk : k < n) (y : Hd) :
  (w.setCells g (k * 2) (handleC y)).ownsRow B 41 2 (.slice (some ⟨g,0,none⟩) n cap) n ((l.set k y).flatMap handleC) ∧ w.there g (k * 2) (handleC y).length:=by
 subst hn
 have hlen:=flatV_length handleC_len l
 have hb : (k + 1) * 2 ≤ l.length * 2:=Nat.mul_le_mul_right _ hk
 refine ⟨?_,row_there h (by rw [hlen];show k * 2 + 2 ≤ _;omega)⟩
 have h2:=row_setCells (w:=w) (handleC y) (k * 2) w _ h
 rw [show k * 2 = k * 2 + 0 from rfl,setL_flat handleC_len l k hk 0 (handleC y) y (by rw [handleC_len];omega) (setL_all _ _ (by rw [handleC_len,handleC_len]))] at h2
 exact h2
theorem ownHl_load {w : World} {B g cap n : Nat} {l : List Hd} (hn : l.length = n) (h : w.ownsRow B 41 2 (.slice (some ⟨g,0,none⟩) n cap) n (l.flatMap handleC)) {k : Nat} (hk : k < n) (x : Hd) (hx : l[k]'(by omega) = x) : ∀ j u,(handleC x)[j]? = some u → w.cell? ((⟨g,k * 2,none⟩ : Addr).add j) = some u:=by
 subst hn;subst hx
 exact row_piece handleC_len h hk 0 (handleC l[k]) (fun j u hu => by rw [Nat.zero_add];exact hu)
attribute [local go_sem] AllFrom.cons_eq AllFrom.nil_eq putF_nil putF_cons wantedL_none wantedL_some OpGoalQ YieldsR preF_nil preF_cons
set_option maxRecDepth 20000 in
set_option maxHeartbeats 2000000 in
theorem reverseH_any (B : Nat) (v : Value) (l : List Hd) (w : World) (hl : l.length ≤ 9223372036854775807) (h : ownHl w B v l) :
  Calls Tryz.prog 94 #[v] w fun e w' => e = .returned (.tuple #[]) ∧ ownHl w' B v l.reverse ∧ Mod v.ownBlock.toList w w':=by
 obtain ⟨A,cap,rfl,-,-⟩:=row_slice h
 have H:=Lib.hid h
 have H0:=Lib.hid (revK_zero l)
 clear h
 go_enter Tryz.func94,Tryz.ntmps94
 go_wp2
 go_loopw [2,3] (fun i j wr => ∃ k : Nat,k ≤ l.length ∧ i = .int .i64 k ∧ j = .int .i64 ((l.length : Int) - 1 - k) ∧ ownHl wr B (.slice A l.length cap) (revK l k) ∧ Mod (Value.slice A l.length cap).ownBlock.toList w wr) (fun i _ _ => l.length - (Go.RowKit.intOf i).toNat)
 case atStart => exact ⟨0,by omega,rfl,by go_num,by rw [H0.out];exact H.out,Mod.refl _ _⟩
 case round =>
  obtain ⟨k,hk,rfl,rfl,hown,hmod⟩:=hrel
  by_cases hlt : 2 * k + 1 < l.length
  ·obtain ⟨m,hm⟩ : ∃ m : Nat,l.length - 1 - k = m:=⟨_,rfl⟩
   have hmi : (l.length : Int) - 1 - k = (m : Int):=by omega
   rw [hmi]
   have hstep:=revK_at l k m (by omega) (by omega)
   have hlr:=revK_length l k
   obtain ⟨L,hL⟩ : ∃ L,L = revK l k:=⟨_,rfl⟩
   have hgk : L[k]'(by rw [hL,hlr];omega) = l[k]:=by subst hL;rw [revK_get l k k (by omega),if_neg (by omega)]
   have hgm : L[m]'(by rw [hL,hlr];omega) = l[m]:=by subst hL;rw [revK_get l k m (by omega),if_neg (by omega)]
   rw [← hL] at hown hstep hlr
   have hown : wr.ownsRow B 41 2 (.slice A l.length cap) l.length (L.flatMap handleC):=by unfold ownHl at hown;rw [hlr] at hown;exact hown
   obtain ⟨g0,cap0,cur0,he,-,-,-⟩:=row_some hown (by omega)
   cases he
   have hld1:=ownHl_load (w:=wr.drew) hlr hown (k:=k) (by omega) l[k] hgk
   have hld2:=ownHl_load (w:=wr.drew) hlr hown (k:=m) (by omega) l[m] hgm
   obtain ⟨hs1,ht1⟩:=ownHl_set (w:=wr.drew) hlr hown (k:=k) (by omega) l[m]
   obtain ⟨hs2,ht2⟩:=ownHl_set ((List.length_set ..).trans hlr) hs1 (k:=m) (by omega) l[k]
   rw [hstep] at hs2
   have hs3 : ownHl ((wr.drew.setCells g0 (k * 2) (handleC l[m])).setCells g0 (m * 2) (handleC l[k])) B (.slice (some ⟨g0,0,none⟩) l.length cap) (revK l (k + 1)):=by unfold ownHl;rw [revK_length];exact hs2
   generalize l[m] = y at *
   generalize l[k] = x at *
   have hk1 : (k : Int) < (l.length : Int):=by omega
   have hm1 : (m : Int) < (l.length : Int):=by omega
   have hkm : (k : Int) < (m : Int):=by omega
   have hmod2:=mod_setCells (g:=g0) (F:=(Value.slice (some ⟨g0,0,none⟩) l.length cap).ownBlock.toList) (.inl (by simp [Value.ownBlock])) (handleC x) (m * 2) _ (mod_setCells (g:=g0) (.inl (by simp [Value.ownBlock])) (handleC y) (k * 2) _ hmod.drew)
   have Hkm:=Lib.hid (show k + m + 1 = l.length by omega)
   obtain ⟨H1,H2,H3,H4,H5,H6⟩:=hid6 hld1 hld2 hs3 ht1 ht2 hmod2
   have O1:=Lib.hid (handleC_one x);have O2:=Lib.hid (handleC_one y)
   clear hld1 hld2 hs1 hs2 hs3 ht1 ht2 hmod2 hmod hown hstep hgk hgm hL hlr hm hmi H
   go_wp2
   refine wp_planR 13 [0,1,2,3,4,5,8,9] [some 14,some 15,some 16,some 17,some 18,some 19,some 20,some 21,some 22,some 23,some 24,some 25,some 26,none,some 27,none] [[],[],[],[],[],[],[4,5],[4,5,6],[],[],[8,9],[8,9,10],[0,1,4,5,6,7,8,9,10,11],[0,1,4,5,6,7,8,9,10,11,12],[0,1,2,3,4,5,6,7,8,9,10,11,12,13],[0,1,2,3,4,5,6,7,8,9,10,11,12,13,14]] [0,1,2,3,4,5,6,7,8,9,10,11,12] mixed rfl (by kernel_rfl) (by decide) (by decide) rfl ?_
   iterate 13 apply Exists.intro
   refine ⟨rfl,?_,?_⟩
   ·simp only [tS,List.take_zero,AllFrom.cons_eq,AllFrom.nil_eq,OpGoalQ]
    refine ⟨?_,?_,?_,?_,?_,?_,?_,?_,?_,?_,?_,?_,?_,trivial⟩
    all_goals (intro σ hp;(try simp only [gZ,gS,mC,mN,preF_cons,preF_nil,isV,and_true] at hp);(first | (have hq : True:=hp;clear hq hp) | skip))
    iterate 7 · (go_simp;exact ⟨rfl,rfl⟩)
    ·(simp only [wantedL_none,↓reduceIte,gZ,gS];refine yr_load 41 (.tmp 20) (by rfl) ⟨g0,m * 2,none⟩ ?_ (handleC y) _ Tryz.underlying41 rfl (sz_Hdl _) H2.out ?_;(· go_simp);(· exact ⟨rfl,rfl⟩))
    iterate 3 · (go_simp;exact ⟨rfl,rfl⟩)
    ·(simp only [wantedL_none,↓reduceIte,gZ,gS];refine yr_load 41 (.tmp 24) (by rfl) ⟨g0,k * 2,none⟩ ?_ (handleC x) _ Tryz.underlying41 rfl (sz_Hdl _) H1.out ?_;(· go_simp);(· exact ⟨rfl,rfl⟩))
    ·(go_simp;exact ⟨rfl,rfl⟩)
   intro σ hp
   simp only [gZ,gS,mC,mN,preF_cons,preF_nil,isV,and_true] at hp
   simp only [dS,List.drop_zero]
   go_simp
   clear hp
   refine wpList_store_at rfl 41 (.tmp 26) (.tmp 21) rfl g0 (k * 2) (handleC y) rfl rfl H4.out (sz_Hdl _) O2.out ?_
   generalize wr.drew.setCells g0 (k * 2) (handleC y) = W1 at *
   go_wp2_with (refine wpList_store_at rfl 41 (.tmp 27) (.tmp 25) rfl g0 (m * 2) (handleC x) rfl rfl H5.out (sz_Hdl _) O1.out ?_;generalize W1.setCells g0 (m * 2) (handleC x) = W2 at *)
   refine ⟨rfl,?_⟩
   go_wp2
   go_roundw
   case rel => exact ⟨k + 1,by omega,by go_num,by rw [show (m : Int) - 1 = (l.length : Int) - 1 - ((k + 1 : Nat) : Int) by have:=Hkm.out;omega],H3.out,H6.out⟩
   case measure => simp [Go.RowKit.intOf];omega
  ·obtain he:=revK_end l k (by omega) hk
   rw [he] at hown
   have hge : ¬ ((k : Int) < (l.length : Int) - 1 - k):=by omega
   have Hown:=Lib.hid hown
   clear hown he H
   go_wp2
   exact bodyPost_end (v:=.tuple #[]) (by unfold results;try go_simp) rfl ⟨rfl,Hown.out,hmod⟩
end Go.Proofs.YtehjfmjibiafdaaGreat
