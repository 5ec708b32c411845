import Derived.Test.YtoheblfpjinmnaaGreatDoorTextParsesJ0
import Derived.Test.YtoheblfpjinmnaaGreatDoorChecked
import Derived.ProofKit
import Derived.JoinedOf
import Derived.KernelRfl
import Derived.Below
import Derived.Carry
import Derived.SizedLaws
import Derived.Deep.Slices
import Derived.WalkKit
import Derived.OpenShut
import Derived.Test.YtoheblfpjinmnaaGreatDoorProg
import Derived.Lib.ItoaNum
import Derived.Lib.AtoiAll
import Derived.Lib.AtoiAllCases
import Derived.Lib.Strings
import Derived.Lib.IndexMore
import Derived.Lib.IndexLaws
import Derived.Lib.SplitLaws
import Derived.Orders
import Derived.WalkSpells
import Derived.Lib.Hide
import Derived.WalkLawsBesides
set_option linter.unusedVariables false
set_option linter.unusedSimpArgs false
/- A part of the proof that TextParses returns true. -/
namespace Go.Proofs.YtoheblfpjinmnaaGreatDoor
open Go
theorem own_ : ownKnob Tryz.prog.godebug = none:=by kernel_rfl
theorem laid_ : laidOutB Tryz.prog = true:=by kernel_rfl
theorem mapsRowed_ : mapsRowed Tryz.prog = true:=by kernel_rfl
theorem stops_ : (Tryz.prog.stops == []) = true:=by kernel_rfl
theorem stopKnobs_ : (Tryz.prog.stopKnobs == []) = true:=by kernel_rfl
theorem plainKeys_ : (false == Tryz.prog.plainKeys) = true:=by kernel_rfl
theorem stopsHeard_ : Tryz.prog.stopsHeard = true:=by kernel_rfl
theorem mayEnter_ : Tryz.prog.mayEnter = true:=by kernel_rfl
theorem liftsFinal_ : (false == Tryz.prog.liftsFinal) = true:=by kernel_rfl
theorem make_ : (Tryz.prog.make == some .cut) = true:=by kernel_rfl
theorem and_intro {a b : Bool} (ha : a = true) (hb : b = true) : (a && b) = true:=by rw [ha,hb];rfl
end Go.Proofs.YtoheblfpjinmnaaGreatDoor
namespace Go.Proofs.YtoheblfpjinmnaaGreatDoor
open Go Go.ChangeShapes Go.WideShapes Go.ChangeAt Go.RowKit
theorem trodAll_stays {H : Type} {enc : TypeId × Value → H} {P : Program} (hl : laidOutB P = true) {W W' : World} (hB : Below W.heap.size W W') :
  ∀ (ts : List TypeId) (vs : List Value) (ds : List (DataW H)) (ps : List MemPlace),(∀ t ∈ ts,P.readableRec t = true ∧ t < P.types.size) → (∀ p ∈ ps,p.block < W.heap.size) →
   DataW.TrodAll enc P W 0 (fun _ => true) true ts vs ds ps → DataW.TrodAll enc P W' 0 (fun b => decide (b < W.heap.size)) true ts vs ds ps:=by
 intro ts
 induction ts with
 | nil =>
  intro vs ds ps _ _ h
  cases vs <;> cases ds <;> first | exact h | exact h.elim
 | cons t ts ih =>
  intro vs ds ps hr hlt h
  cases vs with
  | nil => cases ds <;> exact h.elim
  | cons v vs =>
   cases ds with
   | nil => exact h.elim
   | cons d ds =>
    obtain ⟨p,q,h1,h2,rfl⟩:=h
    have ht:=hr t (by simp)
    exact ⟨p,q,Below.trod hl ht.1 ht.2 h1 hB (fun x hx => hlt x (by simp [hx])),
     ih vs ds q (fun t' ht' => hr t' (by simp [ht'])) (fun x hx => hlt x (by simp [hx])) h2,rfl⟩
theorem trodAll_length {H : Type} {enc : TypeId × Value → H} {P : Program} {W : World} {b : Nat} {sp : Nat → Bool} {hd : Bool} :
  ∀ (ts : List TypeId) (vs : List Value) (ds : List (DataW H)) (ps : List MemPlace),DataW.TrodAll enc P W b sp hd ts vs ds ps → ds.length = ts.length:=by
 intro ts
 induction ts with
 | nil => intro vs ds ps h;cases vs <;> cases ds <;> first | rfl | exact h.elim
 | cons t ts ih =>
  intro vs ds ps h
  cases vs with
  | nil => cases ds <;> exact h.elim
  | cons v vs =>
   cases ds with
   | nil => exact h.elim
   | cons d ds =>
    obtain ⟨p,q,_,h2,_⟩:=h
    simp [ih vs ds q h2]
theorem law_post {H : Type} {enc : TypeId × Value → H} {P : Program} {fn : Func} {s : ChangeSpec} {W W' : World} {args : Array Value} {ds gs : List (DataW H)} {before : List MemPlace} {tb : TypeId}
  (hl : laidOutB P = true) (hr : ∀ t ∈ fn.params.toList,P.readableRec t = true ∧ t < P.types.size) (hv : s.vars = []) (hres : fn.resultTypes = #[tb]) (hb : P.underlying tb = some .bool)
  (hspec : ∀ (ds : List (DataW H)),ds.length = fn.params.toList.length → s.fn H ds = { results:=[.lit (.bool true)],args:=ds })
  (hW : DataW.Whole enc P fn.params.toList s.vars false W args.toList ds gs before) (hB : Below W.heap.size W W') :
  s.post enc P fn false true false false W args (.bool true) W':=by
 have hlt:=hW.lt
 have hW':=hW
 obtain ⟨p,q,hA,hV,rfl,_,_⟩:=hW
 rw [hv] at hV
 obtain ⟨rfl,rfl⟩:=trodVars_none hV
 have he : s.fn H (ds ++ []) = { results:=[.lit (.bool true)],args:=ds }:=by
  rw [List.append_nil];exact hspec ds (trodAll_length _ _ _ _ hA)
 refine ⟨ds,[],p ++ [],[],p,[],hW',?_,?_,?_,hB.frame _,fun h => by cases h⟩
 ·rw [he,hres]
  exact trodAll_mk1 (shut_bool hb true)
 ·rw [he]
  exact trodAll_stays hl hB _ _ _ _ hr (fun x hx => hlt x (by simp [hx])) hA
 ·rw [he,hv]
  exact rfl
theorem law_lifted {H : Type} {enc : TypeId × Value → H} {C : Checked} {os : Os} (started : os.Started) {f : FuncId} {fn : Func} {s : ChangeSpec} {tb : TypeId}
  (own : ownKnob C.prog.godebug = none) (hl : laidOutB C.prog = true) (hno : C.prog.inits.idxOf? f = none) (hfn : C.prog.funcs[f]? = some fn)
  (hr : ∀ t ∈ fn.params.toList,C.prog.readableRec t = true ∧ t < C.prog.types.size) (hv : s.vars = []) (hres : fn.resultTypes = #[tb]) (hb : C.prog.underlying tb = some .bool)
  (hspec : ∀ (ds : List (DataW H)),ds.length = fn.params.toList.length → s.fn H ds = { results:=[.lit (.bool true)],args:=ds })
  (witness : ∃ (w : World) (tape : Tape) (i : Input),w.os = os ∧ (w.forCall tape i).Shaped C.prog ∧ i.vars = [] ∧ Input.okWide C.prog (w.forCall tape i) .any w.heap.size f i ∧
   s.pre6 enc C.prog fn [] false (w.forCall tape i).memory i.args ∧ Assume.holds {} C.prog (lone (Frame.enter C.prog f i.args .normal) [] (w.forCall tape i)))
  (hc : ∀ (W : World) (base : Nat) (args : Array Value) (ds : List (DataW H)) (ps : List MemPlace),
   (∀ (j : Nat) t v,fn.params[j]? = some t → args[j]? = some v → Value.okWide C.prog W .any base t v) →
   DataW.TrodAll enc C.prog W 0 (fun _ => true) true fn.params.toList args.toList ds ps → (∀ p ∈ ps,p.block < W.heap.size) →
   Calls C.prog f args W fun e W' => e = .returned (.bool true) ∧ Below W.heap.size W W') :
  ReturnsInHanded {} C os f .any (s.pre6 enc C.prog fn [] false) (s.post enc C.prog fn false true false false):=by
 refine returnsInHanded_of_change own started hno hfn witness ?_
 intro W base args ds gs before hval hW _ _
 have hlt:=hW.lt
 have hW':=hW
 obtain ⟨p,q,hA,_,rfl,_,_⟩:=hW
 refine (hc W base args ds p hval hA (fun x hx => hlt x (by simp [hx]))).mono ?_
 rintro e W' ⟨rfl,hB⟩
 exact ⟨_,rfl,law_post hl hr hv hres hb hspec hW' hB⟩
#print axioms law_lifted
end Go.Proofs.YtoheblfpjinmnaaGreatDoor
namespace Go.Proofs.YtoheblfpjinmnaaGreatDoor
open Go Go.RowKit
theorem add_block (a : Addr) (n : Nat) : (a.add n).block = a.block:=by unfold Addr.add;split <;> rfl
theorem add_zero (a : Addr) : a.add 0 = a:=rfl
theorem add_add_ (a : Addr) (i j : Nat) : (a.add i).add j = a.add (i + j):=by
 unfold Addr.add
 by_cases hi : i = 0 <;> by_cases hj : j = 0 <;> simp [hi,hj,Nat.add_assoc]
def Lies (w : World) (B : Nat) (A : Option Addr) (xs : List Value) : Prop :=
 ∀ k u,xs[k]? = some u → ∃ a,A = some a ∧ a.block < B ∧ w.cell? (a.add k) = some u
section
variable {w w' : World} {B : Nat} {A : Option Addr} {xs : List Value}
theorem Lies.nil (w : World) (B : Nat) (A : Option Addr) : Lies w B A []:=fun k u h => by simp at h
theorem Lies.at_ (h : Lies w B A xs) {k : Nat} (hk : k < xs.length) : ∃ a,A = some a ∧ a.block < B ∧ w.cell? (a.add k) = some xs[k] :=
 h k _ (List.getElem?_eq_getElem hk)
theorem Lies.keep (h : Lies w B A xs) (hk : ∀ p : Addr,p.block < B → w'.cell? p = w.cell? p) : Lies w' B A xs:=fun k u hu => by
 obtain ⟨a,e,hb,hc⟩:=h k u hu
 exact ⟨a,e,hb,(hk _ (by rw [add_block];exact hb)).trans hc⟩
theorem Lies.below (h : Lies w B A xs) (hb : Below B w w') : Lies w' B A xs:=h.keep fun _ hp => hb.cell hp
theorem Lies.mono (h : Lies w B A xs) {B' : Nat} (hB : B ≤ B') : Lies w B' A xs:=fun k u hu => by
 obtain ⟨a,e,hb,hc⟩:=h k u hu
 exact ⟨a,e,by omega,hc⟩
theorem Lies.take (h : Lies w B A xs) (n : Nat) : Lies w B A (xs.take n):=fun k u hu => by
 rw [List.getElem?_take] at hu
 split at hu
 ·exact h k u hu
 ·cases hu
end
def ints (zs : List Int) : List Value:=zs.map (.int .i64 ·)
theorem ints_length (zs : List Int) : (ints zs).length = zs.length:=by simp [ints]
theorem ints_at (zs : List Int) (k : Nat) (h : k < zs.length) : (ints zs)[k]? = some (.int .i64 zs[k]):=by simp [ints,h]
theorem ints_take (zs : List Int) (k : Nat) : (ints zs).take k = ints (zs.take k):=by simp [ints,List.map_take]
theorem Lies.int {w : World} {B : Nat} {A : Option Addr} {zs : List Int} (h : Lies w B A (ints zs)) {k : Nat} (hk : k < zs.length) :
  ∃ a,A = some a ∧ a.block < B ∧ w.cell? (a.add k) = some (.int .i64 zs[k]):=h k _ (ints_at zs k hk)
def hasB {α : Type} [DecidableEq α] (l : List α) (x : α) : Bool:=decide (x ∈ l)
theorem hasB_iff {α : Type} [DecidableEq α] (l : List α) (x : α) : hasB l x = true ↔ x ∈ l:=by simp [hasB]
theorem hasB_nil {α : Type} [DecidableEq α] (x : α) : hasB [] x = false:=by simp [hasB]
theorem hasB_snoc {α : Type} [DecidableEq α] (l : List α) (y x : α) : hasB (l ++ [y]) x = (hasB l x || decide (x = y)):=by simp [hasB]
theorem take_succ_get {α : Type} (l : List α) (k : Nat) (h : k < l.length) : l.take (k + 1) = l.take k ++ [l[k]]:=List.take_succ_eq_append_getElem h
end Go.Proofs.YtoheblfpjinmnaaGreatDoor
namespace Go.Proofs.YtoheblfpjinmnaaGreatDoor
open Go
def InR (m : Int) : Prop:=-9223372036854775808 ≤ m ∧ m ≤ 9223372036854775807
def U (m : Int) : Nat:=(BitVec.ofInt 64 m).toNat
def bt (m : Int) (k : Nat) : Bool:=(BitVec.ofInt 64 m).getLsbD k
end Go.Proofs.YtoheblfpjinmnaaGreatDoor
namespace Go.Proofs.YtoheblfpjinmnaaGreatDoor
open Go Go.ChangeShapes Go.WideShapes Go.RowKit
section
variable {P : Program} {t e : TypeId}
end
end Go.Proofs.YtoheblfpjinmnaaGreatDoor
namespace Go.Proofs.YtoheblfpjinmnaaGreatDoor
open Go
end Go.Proofs.YtoheblfpjinmnaaGreatDoor
namespace Go.Proofs.YtoheblfpjinmnaaGreatDoor
open Go Go.ChangeShapes Go.WideShapes Go.ChangeAt Go.RowKit
section
variable {P : Program} {t e : TypeId}
end
end Go.Proofs.YtoheblfpjinmnaaGreatDoor
namespace Go.Proofs.YtoheblfpjinmnaaGreatDoor
open Go
abbrev Bs:=List UInt8
def spl (c : UInt8) : Bs → List Bs
 | [] => [[]]
 | b :: l => if b = c then [] :: spl c l else ((b :: (spl c l).headD []) :: (spl c l).tail)
theorem spl_ne (c : UInt8) (l : Bs) : ∃ x r,spl c l = x :: r:=by
 cases l with
 | nil => exact ⟨_,_,rfl⟩
 | cons b l => unfold spl;split <;> exact ⟨_,_,rfl⟩
theorem spl_none {c : UInt8} : ∀ {l : Bs},c ∉ l → spl c l = [l]
 | [],_ => rfl
 | b :: l,h => by
  have h1 : b ≠ c:=fun e => h (by simp [e])
  rw [spl,if_neg h1,spl_none (fun e => h (by simp [e]))];rfl
theorem spl_app {c : UInt8} {r : Bs} : ∀ {a : Bs},c ∉ a → spl c (a ++ c :: r) = a :: spl c r
 | [],_ => by rw [List.nil_append,spl,if_pos rfl]
 | b :: l,h => by
  have h1 : b ≠ c:=fun e => h (by simp [e])
  rw [List.cons_append,spl,if_neg h1,spl_app (fun e => h (by simp [e]))];rfl
def glue (c : UInt8) : List Bs → Bs
 | [] => []
 | [x] => x
 | x :: y :: r => x ++ c :: glue c (y :: r)
theorem glue_spl (c : UInt8) : ∀ l : Bs,glue c (spl c l) = l
 | [] => rfl
 | b :: l => by
  have ih:=glue_spl c l
  obtain ⟨x,r,e⟩:=spl_ne c l
  rw [e] at ih
  rw [spl]
  split
  ·rename_i hb;subst hb;rw [e,glue,ih];rfl
  ·rw [e]
   cases r with
   | nil => simp only [List.headD_cons,List.tail_cons,glue] at ih ⊢;rw [ih]
   | cons y r => simp only [List.headD_cons,List.tail_cons,glue] at ih ⊢;rw [← ih];rfl
theorem spl_glue {c : UInt8} : ∀ {xs : List Bs},xs ≠ [] → (∀ x ∈ xs,c ∉ x) → spl c (glue c xs) = xs
 | [],h,_ => absurd rfl h
 | [x],_,h => by rw [glue,spl_none (h x (by simp))]
 | x :: y :: r,_,h => by rw [glue,spl_app (h x (by simp)),spl_glue (by simp) (fun z hz => h z (by simp only [List.mem_cons] at hz ⊢;exact .inr hz))]
theorem index_one (c : UInt8) : ∀ l : Bs,Lib.index l [c] = Lib.indexByte l c
 | [] => rfl
 | b :: l => by
  rw [Lib.index,Lib.indexByte,index_one c l]
  by_cases h : b = c
  ·subst h;simp [List.isPrefixOf]
  ·have h1 : ([c] : Bs).isPrefixOf (b :: l) = false:=by simp [List.isPrefixOf,Ne.symm h]
   rw [h1]
   simp [h]
theorem indexByte_none {c : UInt8} : ∀ {l : Bs},c ∉ l → Lib.indexByte l c = -1
 | [],_ => rfl
 | b :: l,h => by
  have h1 : b ≠ c:=fun e => h (by simp [e])
  rw [Lib.indexByte,indexByte_none (fun e => h (by simp [e]))];simp [h1]
theorem indexByte_app {c : UInt8} {r : Bs} : ∀ {a : Bs},c ∉ a → Lib.indexByte (a ++ c :: r) c = (a.length : Int)
 | [],_ => by rw [List.nil_append,Lib.indexByte];simp
 | b :: l,h => by
  have h1 : b ≠ c:=fun e => h (by simp [e])
  rw [List.cons_append,Lib.indexByte,indexByte_app (fun e => h (by simp [e]))]
  have : ¬ ((l.length : Int) = -1):=by omega
  simp [h1,this]
theorem mem_app {c : UInt8} : ∀ {l : Bs},c ∈ l → ∃ a r,l = a ++ c :: r ∧ c ∉ a
 | [],h => by simp at h
 | b :: l,h => by
  by_cases hb : b = c
  ·subst hb;exact ⟨[],l,rfl,by simp⟩
  ·obtain ⟨a,r,rfl,h2⟩:=mem_app (l:=l) (by rcases List.mem_cons.1 h with e | e;exact absurd e.symm hb;exact e)
   exact ⟨b :: a,r,rfl,by intro e;rcases List.mem_cons.1 e with e | e;exact hb e.symm;exact h2 e⟩
theorem splitK_spl (c : UInt8) : ∀ (k : Nat) (l : Bs),l.count c = k → Lib.splitK [c] 0 k l = spl c l
 | 0,l,h => by
  have : c ∉ l:=List.count_eq_zero.1 h
  rw [Lib.splitK,spl_none this]
 | k + 1,l,h => by
  obtain ⟨a,r,rfl,ha⟩:=mem_app (c:=c) (l:=l) (List.count_pos_iff.1 (by omega))
  have h0 : a.count c = 0:=List.count_eq_zero.2 ha
  rw [Lib.splitK,index_one,indexByte_app ha,spl_app ha]
  rw [if_neg (by simp)]
  simp only [Int.toNat_natCast,Nat.add_zero,List.length_singleton]
  rw [List.take_left',show (a ++ c :: r).drop (a.length + 1) = r by rw [List.drop_append];simp,splitK_spl c k r (by simp [List.count_append,h0] at h;omega)]
  rfl
theorem splitB_spl (s : ByteArray) (c : UInt8) : (Lib.splitB ⟨#[c]⟩ 0 (Lib.countB s ⟨#[c]⟩) s).map (fun x => x.data.toList) = spl c s.data.toList:=by
 rw [Lib.splitB_data]
 refine splitK_spl c _ _ ?_
 exact (Lib.count_one c s.data.toList).symm
theorem cut_app {c : UInt8} {a r : Bs} (h : c ∉ a) : Lib.cut (a ++ c :: r) [c] = (a,r,true):=by
 unfold Lib.cut
 rw [index_one,indexByte_app h,if_pos (by omega)]
 simp only [Int.toNat_natCast,List.length_singleton,Prod.mk.injEq,and_true]
 exact ⟨List.take_left' rfl,by rw [List.drop_append];simp⟩
theorem cut_none {c : UInt8} {a : Bs} (h : c ∉ a) : Lib.cut a [c] = (a,[],false):=by
 unfold Lib.cut
 rw [index_one,indexByte_none h,if_neg (by omega)]
theorem cut_true {c : UInt8} {s a r : Bs} (h : Lib.cut s [c] = (a,r,true)) : s = a ++ c :: r ∧ c ∉ a:=by
 by_cases hc : c ∈ s
 ·obtain ⟨a2,r2,rfl,h2⟩:=mem_app hc
  rw [cut_app h2] at h
  obtain ⟨rfl,rfl,-⟩:=(by simpa using h : a2 = a ∧ r2 = r)
  exact ⟨rfl,h2⟩
 ·rw [cut_none hc] at h;simp at h
theorem trim_app (a : Bs) : Lib.trimSuffix (a ++ [10]) [10] = a:=by
 unfold Lib.trimSuffix Lib.hasSuffix
 have : ([10] : Bs).isSuffixOf (a ++ [10]) = true:=by rw [List.isSuffixOf_iff_suffix];exact List.suffix_append _ _
 rw [if_pos this];simp
def lns (l : Bs) : List Bs :=
 match l with
 | [] => []
 | b :: r => if 0 ≤ Lib.indexByte (b :: r) 10 then (b :: r).take ((Lib.indexByte (b :: r) 10).toNat + 1) :: lns ((b :: r).drop ((Lib.indexByte (b :: r) 10).toNat + 1)) else [b :: r]
termination_by l.length
decreasing_by rw [List.length_drop];simp only [List.length_cons];omega
theorem lns_nil : lns [] = []:=by rw [lns]
theorem lns_cut {l : Bs} {i : Nat} (h : Lib.indexByte l 10 = (i : Int)) (hl : l ≠ []) : lns l = l.take (i + 1) :: lns (l.drop (i + 1)):=by
 cases l with
 | nil => exact absurd rfl hl
 | cons b r => rw [lns,if_pos (by omega),h];rfl
theorem lns_last {l : Bs} (h : Lib.indexByte l 10 = -1) (hl : l ≠ []) : lns l = [l]:=by
 cases l with
 | nil => exact absurd rfl hl
 | cons b r => rw [lns,if_neg (by omega)]
theorem lns_app {a r : Bs} (h : (10 : UInt8) ∉ a) : lns (a ++ 10 :: r) = (a ++ [10]) :: lns r:=by
 rw [lns_cut (indexByte_app h) (by simp)]
 congr 1
 ·rw [show a ++ 10 :: r = (a ++ [10]) ++ r by simp]
  exact List.take_left' (by simp)
 ·congr 1;rw [List.drop_append];simp
theorem lns_all : ∀ {xs : List Bs},(∀ x ∈ xs,(10 : UInt8) ∉ x) → lns (xs.flatMap (fun x => x ++ [10])) = xs.map (fun x => x ++ [10])
 | [],_ => lns_nil
 | x :: xs,h => by
  rw [List.flatMap_cons,List.append_assoc,List.map_cons]
  rw [show ([10] : Bs) ++ xs.flatMap (fun x => x ++ [10]) = 10 :: xs.flatMap (fun x => x ++ [10]) from rfl,lns_app (h x (by simp)),lns_all (fun y hy => h y (by simp [hy]))]
theorem glue_lines : ∀ {xs : List Bs},xs ≠ [] → glue 10 xs ++ [10] = xs.flatMap (fun x => x ++ [10])
 | [],h => absurd rfl h
 | [x],_ => by simp [glue]
 | x :: y :: r,_ => by rw [glue,List.append_assoc,List.cons_append,glue_lines (by simp)];simp [List.flatMap_cons]
def isDg (c : UInt8) : Prop:=48 ≤ c.toNat ∧ c.toNat ≤ 57
instance (c : UInt8) : Decidable (isDg c):=by unfold isDg;exact inferInstance
theorem dg_toNat {u : Nat} (h : u < 10) : (UInt8.ofNat (48 + u)).toNat = 48 + u:=by
 rw [UInt8.toNat_ofNat'];omega
theorem decDigits_dg : ∀ (n u : Nat),u < n → ∀ c ∈ Lib.decDigits u,isDg c
 | 0,u,h => by omega
 | n + 1,u,h => by
  intro c hc
  rw [Lib.decDigits] at hc
  split at hc
  ·rename_i h1
   rw [List.mem_singleton] at hc
   subst hc
   unfold isDg;rw [dg_toNat h1];omega
  ·rename_i h1
   rcases List.mem_append.1 hc with hc | hc
   ·exact decDigits_dg n (u / 10) (by omega) c hc
   ·rw [List.mem_singleton] at hc
    subst hc
    unfold isDg;rw [dg_toNat (Nat.mod_lt _ (by omega))];omega
theorem itoa_char {n : Int} {c : UInt8} (h : c ∈ Lib.itoa n) : isDg c ∨ c = 45:=by
 unfold Lib.itoa at h
 split at h
 ·rcases List.mem_cons.1 h with rfl | h
  ·exact .inr rfl
  ·exact .inl (decDigits_dg _ _ (Nat.lt_succ_self _) c h)
 ·exact .inl (decDigits_dg _ _ (Nat.lt_succ_self _) c h)
theorem itoa_not {n : Int} {c : UInt8} (h : c = 32 ∨ c = 10 ∨ c = 61) : c ∉ Lib.itoa n:=by
 intro hc
 rcases itoa_char hc with h1 | rfl
 ·unfold isDg at h1
  rcases h with rfl | rfl | rfl
  ·exact absurd h1.1 (by decide)
  ·exact absurd h1.1 (by decide)
  ·exact absurd h1.2 (by decide)
 ·rcases h with h | h | h <;> exact absurd h (by decide)
def decV (acc : Nat) (l : Bs) : Nat:=l.foldl (fun a c => a * 10 + (c.toNat - 48)) acc
theorem decV_nil (acc : Nat) : decV acc [] = acc:=rfl
theorem decV_cons (acc : Nat) (c : UInt8) (r : Bs) : decV acc (c :: r) = decV (acc * 10 + (c.toNat - 48)) r:=by unfold decV;rw [List.foldl_cons]
theorem decV_app (a : Bs) (acc : Nat) (c : UInt8) : decV acc (a ++ [c]) = decV acc a * 10 + (c.toNat - 48):=by unfold decV;rw [List.foldl_append];rfl
theorem decV_digits : ∀ (n u : Nat),u < n → decV 0 (Lib.decDigits u) = u
 | 0,u,h => by omega
 | n + 1,u,h => by
  rw [Lib.decDigits]
  split
  ·rename_i h1
   rw [decV_cons,decV_nil,dg_toNat h1];omega
  ·rename_i h1
   rw [decV_app,decV_digits n (u / 10) (by omega),dg_toNat (Nat.mod_lt _ (by omega))];omega
theorem decV_mono : ∀ (l : Bs) (acc : Nat),acc ≤ decV acc l
 | [],_ => Nat.le_refl _
 | c :: r,acc => by rw [decV_cons];have:=decV_mono r (acc * 10 + (c.toNat - 48));omega
theorem parseUint_ok : ∀ (l : Bs) (acc : Nat),(∀ c ∈ l,isDg c) → decV acc l < 1844674407370955162 → Lib.parseUint10 acc l = .ok (decV acc l)
 | [],_,_,_ => rfl
 | c :: r,acc,h,hb => by
  have hc:=h c (by simp)
  unfold isDg at hc
  have h1:=decV_mono r (acc * 10 + (c.toNat - 48))
  rw [decV_cons] at hb
  rw [Lib.parseUint10,if_pos hc,if_neg (by omega),if_neg (by omega),parseUint_ok r _ (fun x hx => h x (by simp [hx])) hb,decV_cons]
theorem decDigits_ne (u : Nat) : ∃ c r,Lib.decDigits u = c :: r:=by
 cases h : Lib.decDigits u with
 | nil => have:=Lib.decDigits_length u;rw [h] at this;have:=Lib.nDigits_pos u;simp at *;omega
 | cons c r => exact ⟨c,r,rfl⟩
theorem parseMag_digits {u : Nat} (h : u < 1844674407370955162) : Lib.parseMag (Lib.decDigits u) = .ok u:=by
 obtain ⟨c,r,e⟩:=decDigits_ne u
 have h2:=parseUint_ok (Lib.decDigits u) 0 (decDigits_dg _ _ (Nat.lt_succ_self _)) (by rw [decV_digits _ _ (Nat.lt_succ_self _)];exact h)
 rw [decV_digits _ _ (Nat.lt_succ_self _)] at h2
 unfold Lib.parseMag
 rw [e] at h2 ⊢
 simpa using h2
theorem atoi_itoa {n : Int} (h : n.natAbs < 1844674407370955162) : Lib.atoiAll (Lib.itoa n) = .ok n:=by
 unfold Lib.itoa
 split
 ·rw [Lib.atoiAll_minus,parseMag_digits h]
  unfold Lib.signed
  simp only
  rw [if_neg (by omega)]
  congr 1;omega
 ·have e : n.toNat < 1844674407370955162:=by omega
  obtain ⟨c,r,e2⟩:=decDigits_ne n.toNat
  have hd:=decDigits_dg _ _ (Nat.lt_succ_self n.toNat) c (by rw [e2];simp)
  unfold isDg at hd
  rw [e2,Lib.atoiAll_plain c r (by omega) (by omega),← e2,parseMag_digits e]
  unfold Lib.signless
  simp only
  rw [if_neg (by omega)]
  congr 1;omega
def num0 (l : Bs) : Int:=match Lib.atoiAll l with | .ok v => v | .range => Lib.atoiSat l | _ => 0
theorem num0_itoa {n : Int} (h : n.natAbs < 1844674407370955162) : num0 (Lib.itoa n) = n:=by unfold num0;rw [atoi_itoa h]
theorem num0_bounds (l : Bs) : -9223372036854775808 ≤ num0 l ∧ num0 l ≤ 9223372036854775807:=by
 unfold num0
 split
 ·exact Lib.atoiAll_bounds (by assumption)
 ·exact Lib.atoiSat_bounds l
 ·omega
def nums (l : List Int) : Bs:=l.flatMap fun n => 32 :: Lib.itoa n
def YieldsJ (P : Program) (o : Oper) (ρ : Operand → Value) (w : World) (v : Value) (J : World → Prop) : Prop :=
 match (execOp ρ o).run P w with
 | .ok (.value u) w' => u = v ∧ J w'
 | .ok .skip w' => undef = v ∧ J w'
 | .ok (.enter f args) w' => Calls P f args w' fun e w'' => e = .returned v ∧ J w''
 | _ => False
def planOk (ops : Array Oper) (pre : List (List Nat)) : Bool :=
  pre.length == ops.size && ops.toList.zipIdx.all fun (o,i) =>
    (match o.op with | .select .. => false | _ => true) &&
    o.after.toList.all (fun e => !Region.binds .any e || decide (e.on < i)) &&
    (pre.getD i []).all (fun j => decide (j < i) && o.after.toList.any (fun e => Region.binds .any e && (e.on == j || (pre.getD e.on []).contains j))) &&
    (ops.toList.zipIdx.all fun (o',j) =>
      (match o'.dst with
       | none => true
       | some t =>
         (o.dst != some t || i == j) &&
         (!(o.looksAt ops).contains t || i == j || (pre.getD i []).contains j || (pre.getD j []).contains i)))
theorem planOk_spec {ops : Array Oper} {pre : List (List Nat)} (h : planOk ops pre = true) {i : Nat} {o : Oper} (ho : ops[i]? = some o) :
  (∀ cs b,o.op ≠ .select cs b) ∧ (∀ e ∈ o.after.toList,Region.binds .any e = true → e.on < i) ∧
  (∀ j ∈ pre.getD i [],j < i ∧ ∃ e ∈ o.after.toList,Region.binds .any e = true ∧ (e.on = j ∨ j ∈ pre.getD e.on [])) ∧
  (∀ j o' t,ops[j]? = some o' → o'.dst = some t → (o.dst = some t → i = j) ∧ (t ∈ o.looksAt ops → i = j ∨ j ∈ pre.getD i [] ∨ i ∈ pre.getD j [])):=by
 unfold planOk at h
 rw [Bool.and_eq_true] at h
 have h:=h.2
 rw [List.all_eq_true] at h
 have hi : (o,i) ∈ ops.toList.zipIdx:=by
  rw [List.mk_mem_zipIdx_iff_getElem?];simpa using ho
 have h1:=h _ hi
 simp only [Bool.and_eq_true] at h1
 obtain ⟨⟨⟨h1,h2⟩,h3⟩,h4⟩:=h1
 refine ⟨?_,?_,?_,?_⟩
 ·intro cs b hs;rw [hs] at h1;cases h1
 ·intro e he hb
  have:=List.all_eq_true.1 h2 e he
  simpa [hb] using this
 ·intro j hj
  have:=List.all_eq_true.1 h3 j hj
  simp only [Bool.and_eq_true,decide_eq_true_eq,List.any_eq_true,Bool.or_eq_true,beq_iff_eq,List.contains_iff_mem] at this
  exact ⟨this.1,this.2⟩
 ·intro j o' t hj hd
  have hm : (o',j) ∈ ops.toList.zipIdx:=by rw [List.mk_mem_zipIdx_iff_getElem?];simpa using hj
  have:=List.all_eq_true.1 h4 _ hm
  simp only [hd,Bool.and_eq_true,Bool.or_eq_true,bne_iff_ne,beq_iff_eq,List.contains_iff_mem,Bool.not_eq_true',] at this
  obtain ⟨a,b⟩:=this
  refine ⟨fun he => a.resolve_left (by simp [he]),fun ht => ?_⟩
  rcases b with ((b | b) | b) | b
  ·have hc : (o.looksAt ops).contains t = true:=by simpa using ht
   rw [hc] at b;cases b
  ·exact .inl b
  ·exact .inr (.inl b)
  ·exact .inr (.inr b)
structure AtPlan (ops : Array Oper) (vals : Nat → Value) (a0 a : Act) (L : Nat → Bool) : Prop where
 defers : a.defers = a0.defers
 size : a.tmps.size = a0.tmps.size
 new : ∀ i o t,ops[i]? = some o → o.dst = some t → L i = true → t < a.tmps.size → a.tmps[t]? = some (vals i)
 old : ∀ t,(∀ i o,ops[i]? = some o → o.dst = some t → L i = false) → a.tmps[t]? = a0.tmps[t]?
theorem AtPlan.same {ops : Array Oper} {vals : Nat → Value} {a0 a a' : Act} {L : Nat → Bool} (h : AtPlan ops vals a0 a L) (h' : AtPlan ops vals a0 a' L) : a = a':=by
 have ht : a.tmps = a'.tmps:=by
  apply Array.ext_getElem?
  intro t
  by_cases hw : ∃ i o,ops[i]? = some o ∧ o.dst = some t ∧ L i = true
  ·obtain ⟨i,o,h1,h2,h3⟩:=hw
   by_cases hs : t < a.tmps.size
   ·rw [h.new i o t h1 h2 h3 hs,h'.new i o t h1 h2 h3 (by rw [h'.size,← h.size];exact hs)]
   ·rw [Array.getElem?_eq_none (by omega),Array.getElem?_eq_none (by rw [h'.size,← h.size];omega)]
  ·have : ∀ i o,ops[i]? = some o → o.dst = some t → L i = false:=by
    intro i o h1 h2
    cases h3 : L i with
    | false => rfl
    | true => exact (hw ⟨i,o,h1,h2,h3⟩).elim
   rw [h.old t this,h'.old t this]
 cases a;cases a'
 simp only [Act.mk.injEq]
 exact ⟨ht,h.defers.trans h'.defers.symm⟩
def upd (L : Nat → Bool) (i : Nat) : Nat → Bool:=fun j => j == i || L j
theorem AtPlan.put {ops : Array Oper} {vals : Nat → Value} {a0 a : Act} {L : Nat → Bool} (h : AtPlan ops vals a0 a L) {i : Nat} {o : Oper} (ho : ops[i]? = some o)
  (hd : ∀ j o' t,ops[j]? = some o' → o'.dst = some t → o.dst = some t → i = j) : AtPlan ops vals a0 (a.put o.dst (vals i)) (upd L i):=by
 cases hdst : o.dst with
 | none =>
  simp only [Act.put]
  refine ⟨h.defers,h.size,fun j o' t hj ht hl hs => ?_,fun t ht => h.old t fun j o' hj hd' => ?_⟩
  ·by_cases hji : j = i
   ·subst hji;rw [ho] at hj;cases hj;rw [hdst] at ht;cases ht
   ·exact h.new j o' t hj ht (by simpa [upd,hji] using hl) hs
  ·have:=ht j o' hj hd'
   simp [upd] at this;exact this.2
 | some d =>
  simp only [Act.put]
  refine ⟨h.defers,by simpa using h.size,fun j o' t hj ht hl hs => ?_,fun t ht => ?_⟩
  ·by_cases hji : j = i
   ·subst hji;rw [ho] at hj;cases hj;rw [hdst] at ht;cases ht
    simp at hs
    simp [hs]
   ·have hne : d ≠ t:=fun e => hji (hd j o' t hj ht (by rw [hdst,e])).symm
    rw [Array.getElem?_setIfInBounds_ne hne]
    exact h.new j o' t hj ht (by simpa [upd,hji] using hl) (by simpa using hs)
  ·have hne : d ≠ t:=fun e => by
    have:=ht i o ho (by rw [hdst,e]);simp [upd] at this
   rw [Array.getElem?_setIfInBounds_ne hne]
   refine h.old t fun j o' hj hd' => ?_
   have:=ht j o' hj hd'
   simp [upd] at this;exact this.2
theorem AtPlan.start (ops : Array Oper) (vals : Nat → Value) (a0 : Act) : AtPlan ops vals a0 a0 (fun _ => false) :=
 ⟨rfl,rfl,fun _ _ _ _ _ h => by simp at h,fun _ _ => rfl⟩
def putAll (ops : Array Oper) (vals : Nat → Value) : List Nat → Act → Act
 | [],a => a
 | j :: l,a => putAll ops vals l (match ops[j]? with | some o => a.put o.dst (vals j) | none => a)
theorem atPlan_putAll {ops : Array Oper} {vals : Nat → Value} {pre : List (List Nat)} (hc : planOk ops pre = true) {a0 : Act} : ∀ (l : List Nat) (a : Act) (L : Nat → Bool),AtPlan ops vals a0 a L →
  (∀ j ∈ l,j < ops.size) → AtPlan ops vals a0 (putAll ops vals l a) (fun j => l.contains j || L j):=by
 intro l
 induction l with
 | nil => intro a L h _;simpa [putAll] using h
 | cons j l ih =>
  intro a L h hl
  have hj : j < ops.size:=hl j (by simp)
  have ho : ops[j]? = some ops[j]:=Array.getElem?_eq_getElem hj
  have h1:=ih _ _ (h.put ho (fun j' o' t h1 h2 h3 => ((planOk_spec hc ho).2.2.2 j' o' t h1 h2).1 h3)) (fun k hk => hl k (by simp [hk]))
  simp only [putAll,ho]
  have he : (fun k => l.contains k || upd L j k) = fun k => (j :: l).contains k || L k:=by
   funext k
   simp only [upd,List.contains_cons]
   rw [← Bool.or_assoc,Bool.or_comm (l.contains k)]
  rw [he] at h1;exact h1
section
variable {P : Program} {ops : Array Oper} {Q : Exit → Act → World → Prop}
def seesOf (ops : Array Oper) (vals : Nat → Value) (pre : List (List Nat)) (a0 : Act) (i : Nat) : Act:=putAll ops vals (pre.getD i []) a0
end
def AllFrom (p : Nat → Oper → Prop) : Nat → List Oper → Prop
 | _,[] => True
 | k,o :: l => p k o ∧ AllFrom p (k + 1) l
theorem AllFrom.get {p : Nat → Oper → Prop} : ∀ (l : List Oper) (k : Nat),AllFrom p k l → ∀ (i : Nat) (o : Oper),l[i]? = some o → p (k + i) o
 | [],_,_,i,o,h => by simp at h
 | o' :: l,k,h,0,o,ho => by
  simp at ho;subst ho;exact h.1
 | o' :: l,k,h,i + 1,o,ho => by
  have:=AllFrom.get l (k + 1) h.2 i o (by simpa using ho)
  rw [show k + (i + 1) = k + 1 + i by omega];exact this
def putL (dsts : List (Option Tmp)) (vals : List Value) : List Nat → Act → Act
 | [],a => a
 | j :: l,a => putL dsts vals l (a.put (dsts.getD j none) (vals.getD j undef))
def wantedL (dsts : List (Option Tmp)) (a : Act) (g : Option (Nat × Bool)) : Bool :=
 match g with
 | none => true
 | some (j,want) => (match dsts.getD j none with | some t => (match a.tmps.getD t undef with | .bool b => some b | _ => none) | none => none) == some want
theorem wanted_eq_wantedL {l : List Oper} {dsts : List (Option Tmp)} (hd : l.map (·.dst) = dsts) (o : Oper) (a : Act) :
  Region.wanted o (yielded l.toArray a.tmps) = wantedL dsts a o.guard:=by
 subst hd
 unfold Region.wanted wantedL
 cases o.guard with
 | none => rfl
 | some gw =>
  obtain ⟨j,want⟩:=gw
  simp only [yielded,eA,List.getD_eq_getElem?_getD,List.getElem?_map]
  cases hj : l[j]? with
  | none => simp
  | some o =>
   simp only [Option.bind_some,Option.map_some,Option.getD_some]
   cases ht : o.dst with
   | none => simp
   | some t =>
    simp only [Option.bind_some,Array.getD_eq_getD_getElem?]
    cases hv : a.tmps[t]? with
    | none => simp [undef]
    | some v => cases v <;> simp
section
variable {P : Program} {o : Oper} {ρ : Operand → Value} {w : World} {v : Value} {J : World → Prop}
end
section
variable {P : Program} {dsts : List (Option Tmp)} {vals : List Value} {pre : List (List Nat)} {I : (Nat → Bool) → World → Prop} {a0 : Act} {i : Nat} {o : Oper}
end
def OpGoalM (P : Program) (dsts : List (Option Tmp)) (vals : List Value) (pre : List (List Nat)) (I : World → Prop) (a0 : Act) (i : Nat) (o : Oper) : Prop :=
 ∀ (w : World),I w → if wantedL dsts (putL dsts vals (pre.getD i []) a0) o.guard = true then YieldsJ P o (putL dsts vals (pre.getD i []) a0).eval w (vals.getD i undef) I
  else undef = vals.getD i undef
theorem AllFrom.cons_eq {p : Nat → Oper → Prop} {k : Nat} {o : Oper} {l : List Oper} : AllFrom p k (o :: l) = (p k o ∧ AllFrom p (k + 1) l):=rfl
theorem AllFrom.nil_eq {p : Nat → Oper → Prop} {k : Nat} : AllFrom p k [] = True:=rfl
theorem putL_nil (dsts : List (Option Tmp)) (vals : List Value) (a : Act) : putL dsts vals [] a = a:=rfl
theorem putL_cons (dsts : List (Option Tmp)) (vals : List Value) (j : Nat) (l : List Nat) (a : Act) : putL dsts vals (j :: l) a = putL dsts vals l (a.put (dsts.getD j none) (vals.getD j undef)):=rfl
theorem wantedL_none (dsts : List (Option Tmp)) (a : Act) : wantedL dsts a none = true:=rfl
theorem wantedL_some (dsts : List (Option Tmp)) (a : Act) (j : Nat) (b : Bool) : wantedL dsts a (some (j,b)) =
 ((match dsts.getD j none with | some t => (match a.tmps.getD t undef with | .bool b => some b | _ => none) | none => none) == some b):=rfl
end Go.Proofs.YtoheblfpjinmnaaGreatDoor
namespace Go.Proofs.YtoheblfpjinmnaaGreatDoor
open Go.RowKit
theorem mixed : Tryz.prog.follows .mixedOrders = true:=by kernel_rfl
def isSetB (m : Int) : Bool:=decide (0 ≤ m) && decide (m ≤ 255)
theorem isSetB_t (m : Int) (h0 : 0 ≤ m) (h1 : m ≤ 255) : isSetB m = true:=by simp [isSetB,h0,h1]
theorem isSetB_f1 (m : Int) (h0 : m < 0) : isSetB m = false:=by simp [isSetB];omega
theorem isSetB_f2 (m : Int) (h0 : 255 < m) : isSetB m = false:=by simp [isSetB];omega
def outsideB (n low high : Int) : Bool:=decide (n < low) || decide (high < n)
theorem outsideB_set (a : Int) : outsideB a 0 255 = !isSetB a:=by
 simp only [outsideB,isSetB,Bool.not_and]
 congr 1 <;> (rw [← decide_not];congr 1;simp)
set_option maxHeartbeats 400000 in
theorem isSet_any (m : Int) (w : World) :
  Calls Tryz.prog 103 #[.int .i64 m] w fun e w' => e = .returned (.bool (isSetB m)) ∧ w = w':=by
 by_cases h0 : 0 ≤ m
 ·by_cases h1 : m ≤ 255
  ·have hs:=Lib.hid (isSetB_t m h0 h1)
   go_enter Tryz.func103,Tryz.ntmps103
   go_wp2
   go_ret
   exact ⟨by rw [hs.out];rfl,rfl⟩
  ·have hs:=Lib.hid (isSetB_f2 m (by omega))
   go_enter Tryz.func103,Tryz.ntmps103
   go_wp2
   go_ret
   exact ⟨by rw [hs.out];rfl,rfl⟩
 ·have hs:=Lib.hid (isSetB_f1 m (by omega))
  go_enter Tryz.func103,Tryz.ntmps103
  go_wp2
  go_ret
  exact ⟨by rw [hs.out];rfl,rfl⟩
set_option maxHeartbeats 400000 in
theorem outside_any (n l h : Int) (w : World) :
  Calls Tryz.prog 15 #[.int .i64 n,.int .i64 l,.int .i64 h] w fun e w' => e = .returned (.bool (outsideB n l h)) ∧ w = w':=by
 by_cases h0 : n < l
 ·have hs : outsideB n l h = true:=by simp [outsideB,h0]
  have H:=Lib.hid hs;clear hs
  go_enter Tryz.func15,Tryz.ntmps15
  go_wp2
  go_ret
  exact ⟨by rw [H.out];rfl,rfl⟩
 ·have hs : outsideB n l h = decide (h < n):=by simp [outsideB];omega
  have H:=Lib.hid hs;clear hs
  go_enter Tryz.func15,Tryz.ntmps15
  go_wp2
  go_ret
  exact ⟨by rw [H.out];rfl,rfl⟩
attribute [local go_sem] AllFrom.cons_eq AllFrom.nil_eq putL_nil putL_cons wantedL_none wantedL_some OpGoalM YieldsJ

set_option maxHeartbeats 400000 in
theorem hasInt_any (A : Option Addr) (c : Nat) (zs : List Int) (x : Int) (B : Nat) (w : World) (hl : zs.length ≤ 9223372036854775807) (hA : Lies w B A (ints zs)) :
  Calls Tryz.prog 115 #[.slice A zs.length c,.int .i64 x] w fun e w' => e = .returned (.bool (hasB zs x)) ∧ w = w':=by
 go_enter Tryz.func115,Tryz.ntmps115
 go_wp2
 go_loop [9] (fun i => ∃ k : Nat,k ≤ zs.length ∧ i = .int .i64 k ∧ hasB (zs.take k) x = false) (fun i => zs.length - (Go.RowKit.intOf i).toNat)
 case atStart => exact ⟨0,by omega,rfl,hasB_nil x⟩
 case round =>
  obtain ⟨k,hk,rfl,hno⟩:=hrel
  have Hno:=Lib.hid hno;clear hno
  by_cases hlt : k < zs.length
  ·obtain ⟨a,rfl,hb,hc⟩:=hA.int hlt
   have hs : hasB (zs.take (k + 1)) x = decide (x = zs[k]):=by rw [take_succ_get zs k hlt,hasB_snoc,Hno.out,Bool.false_or]
   have hin : zs[k] ∈ zs:=List.getElem_mem hlt
   generalize zs[k] = y at *
   by_cases hx : x = y
   ·subst hx
    have hf : hasB zs x = true:=(hasB_iff _ _).2 hin
    have Hf:=Lib.hid hf
    have Hs:=Lib.hid hs
    clear hs hf hin
    go_wp2
    go_ret
    exact ⟨by rw [Hf.out];rfl,rfl⟩
   ·have hxy : decide (x = y) = false:=by simpa using hx
    have Hxy:=Lib.hid hxy
    clear hxy
    have Hs:=Lib.hid hs
    clear hs hin
    go_wp2
    go_round
    case rel => exact ⟨k + 1,by omega,by go_num,by rw [Hs.out,Hxy.out]⟩
    case measure => simp [Go.RowKit.intOf];omega
  ·have e : hasB zs x = false:=by rw [← Hno.out,List.take_of_length_le (by omega)]
   have He:=Lib.hid e
   clear e
   go_wp2
   go_ret
   exact ⟨by rw [He.out];rfl,rfl⟩
def pw (k : Nat) : Int:=((2 ^ k : Nat) : Int)
theorem pw_zero : pw 0 = 1:=rfl
theorem pw_succ (k : Nat) : pw (k + 1) = pw k * 2:=by simp [pw,Int.pow_succ]
theorem pw_pos (k : Nat) : 1 ≤ pw k:=by
 have : 0 < 2 ^ k:=Nat.pos_of_ne_zero (by simp)
 unfold pw;omega
theorem pw_lt {k : Nat} (h : k < 62) : pw k < 4611686018427387904:=by
 have : (2 : Nat) ^ k < 2 ^ 62:=Nat.pow_lt_pow_right (by omega) h
 unfold pw;omega
set_option maxHeartbeats 400000 in
theorem power_any (k : Nat) (hk : k < 62) (w : World) :
  Calls Tryz.prog 17 #[.int .i64 k] w fun e w' => e = .returned (.int .i64 (pw k)) ∧ w = w':=by
 go_enter Tryz.func17,Tryz.ntmps17
 go_wp2
 go_loop [3,5] (fun n i => ∃ j : Nat,j ≤ k ∧ i = .int .i64 j ∧ n = .int .i64 (pw j)) (fun _ i => k - (Go.RowKit.intOf i).toNat)
 case atStart => exact ⟨0,by omega,rfl,by rw [pw_zero]⟩
 case round =>
  obtain ⟨j,hj,rfl,rfl⟩:=hrel
  have hp:=pw_lt (k:=j) (by omega)
  have hp0:=pw_pos j
  have Hs:=Lib.hid (pw_succ j)
  by_cases hlt : j < k
  ·generalize pw j = q at *
   go_wp2
   go_round
   case rel => exact ⟨j + 1,by omega,by go_num,by rw [Hs.out]⟩
   case measure => simp [Go.RowKit.intOf];omega
  ·obtain rfl : j = k:=by omega
   go_wp2
   go_ret
   exact ⟨rfl,rfl⟩
end Go.Proofs.YtoheblfpjinmnaaGreatDoor
