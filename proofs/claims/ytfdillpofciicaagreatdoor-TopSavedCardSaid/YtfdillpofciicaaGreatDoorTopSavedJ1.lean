import Derived.Test.YtfdillpofciicaaGreatDoorTopSavedJ0
import Derived.Test.YtfdillpofciicaaGreatDoorChecked
import Derived.ProofKit
import Derived.JoinedOf
import Derived.KernelRfl
import Derived.Below
import Derived.Carry
import Derived.SizedLaws
import Derived.Deep.Slices
import Derived.WalkKit
import Derived.OpenShut
import Derived.Test.YtfdillpofciicaaGreatDoorProg
set_option linter.unusedVariables false
set_option linter.unusedSimpArgs false
/- A part of the proof that TopSaved returns true. -/
namespace Go.Proofs.YtfdillpofciicaaGreatDoor
open Go
theorem own_ : ownKnob Tryz.prog.godebug = none:=by kernel_rfl
theorem laid_ : laidOutB Tryz.prog = true:=by kernel_rfl
theorem mapsRowed_ : mapsRowed Tryz.prog = true:=by kernel_rfl
theorem stops_ : (Tryz.prog.stops == []) = true:=by kernel_rfl
theorem stopKnobs_ : (Tryz.prog.stopKnobs == []) = true:=by kernel_rfl
theorem plainKeys_ : (false == Tryz.prog.plainKeys) = true:=by kernel_rfl
theorem stopsHeard_ : Tryz.prog.stopsHeard = true:=by kernel_rfl
theorem mayEnter_ : Tryz.prog.mayEnter = true:=by kernel_rfl
theorem liftsFinal_ : (false == Tryz.prog.liftsFinal) = true:=by kernel_rfl
theorem make_ : (Tryz.prog.make == some .cut) = true:=by kernel_rfl
theorem and_intro {a b : Bool} (ha : a = true) (hb : b = true) : (a && b) = true:=by rw [ha,hb];rfl
end Go.Proofs.YtfdillpofciicaaGreatDoor
namespace Go.Proofs.YtfdillpofciicaaGreatDoor
open Go Go.ChangeShapes Go.WideShapes Go.ChangeAt Go.RowKit
theorem trodAll_stays {H : Type} {enc : TypeId × Value → H} {P : Program} (hl : laidOutB P = true) {W W' : World} (hB : Below W.heap.size W W') :
  ∀ (ts : List TypeId) (vs : List Value) (ds : List (DataW H)) (ps : List MemPlace),(∀ t ∈ ts,P.readableRec t = true ∧ t < P.types.size) → (∀ p ∈ ps,p.block < W.heap.size) →
   DataW.TrodAll enc P W 0 (fun _ => true) true ts vs ds ps → DataW.TrodAll enc P W' 0 (fun b => decide (b < W.heap.size)) true ts vs ds ps:=by
 intro ts
 induction ts with
 | nil =>
  intro vs ds ps _ _ h
  cases vs <;> cases ds <;> first | exact h | exact h.elim
 | cons t ts ih =>
  intro vs ds ps hr hlt h
  cases vs with
  | nil => cases ds <;> exact h.elim
  | cons v vs =>
   cases ds with
   | nil => exact h.elim
   | cons d ds =>
    obtain ⟨p,q,h1,h2,rfl⟩:=h
    have ht:=hr t (by simp)
    exact ⟨p,q,Below.trod hl ht.1 ht.2 h1 hB (fun x hx => hlt x (by simp [hx])),
     ih vs ds q (fun t' ht' => hr t' (by simp [ht'])) (fun x hx => hlt x (by simp [hx])) h2,rfl⟩
theorem trodAll_length {H : Type} {enc : TypeId × Value → H} {P : Program} {W : World} {b : Nat} {sp : Nat → Bool} {hd : Bool} :
  ∀ (ts : List TypeId) (vs : List Value) (ds : List (DataW H)) (ps : List MemPlace),DataW.TrodAll enc P W b sp hd ts vs ds ps → ds.length = ts.length:=by
 intro ts
 induction ts with
 | nil => intro vs ds ps h;cases vs <;> cases ds <;> first | rfl | exact h.elim
 | cons t ts ih =>
  intro vs ds ps h
  cases vs with
  | nil => cases ds <;> exact h.elim
  | cons v vs =>
   cases ds with
   | nil => exact h.elim
   | cons d ds =>
    obtain ⟨p,q,_,h2,_⟩:=h
    simp [ih vs ds q h2]
theorem law_post {H : Type} {enc : TypeId × Value → H} {P : Program} {fn : Func} {s : ChangeSpec} {W W' : World} {args : Array Value} {ds gs : List (DataW H)} {before : List MemPlace} {tb : TypeId}
  (hl : laidOutB P = true) (hr : ∀ t ∈ fn.params.toList,P.readableRec t = true ∧ t < P.types.size) (hv : s.vars = []) (hres : fn.resultTypes = #[tb]) (hb : P.underlying tb = some .bool)
  (hspec : ∀ (ds : List (DataW H)),ds.length = fn.params.toList.length → s.fn H ds = { results:=[.lit (.bool true)],args:=ds })
  (hW : DataW.Whole enc P fn.params.toList s.vars false W args.toList ds gs before) (hB : Below W.heap.size W W') :
  s.post enc P fn false true false false W args (.bool true) W':=by
 have hlt:=hW.lt
 have hW':=hW
 obtain ⟨p,q,hA,hV,rfl,_,_⟩:=hW
 rw [hv] at hV
 obtain ⟨rfl,rfl⟩:=trodVars_none hV
 have he : s.fn H (ds ++ []) = { results:=[.lit (.bool true)],args:=ds }:=by
  rw [List.append_nil];exact hspec ds (trodAll_length _ _ _ _ hA)
 refine ⟨ds,[],p ++ [],[],p,[],hW',?_,?_,?_,hB.frame _,fun h => by cases h⟩
 ·rw [he,hres]
  exact trodAll_mk1 (shut_bool hb true)
 ·rw [he]
  exact trodAll_stays hl hB _ _ _ _ hr (fun x hx => hlt x (by simp [hx])) hA
 ·rw [he,hv]
  exact rfl
theorem law_lifted {H : Type} {enc : TypeId × Value → H} {C : Checked} {os : Os} (started : os.Started) {f : FuncId} {fn : Func} {s : ChangeSpec} {tb : TypeId}
  (own : ownKnob C.prog.godebug = none) (hl : laidOutB C.prog = true) (hno : C.prog.inits.idxOf? f = none) (hfn : C.prog.funcs[f]? = some fn)
  (hr : ∀ t ∈ fn.params.toList,C.prog.readableRec t = true ∧ t < C.prog.types.size) (hv : s.vars = []) (hres : fn.resultTypes = #[tb]) (hb : C.prog.underlying tb = some .bool)
  (hspec : ∀ (ds : List (DataW H)),ds.length = fn.params.toList.length → s.fn H ds = { results:=[.lit (.bool true)],args:=ds })
  (witness : ∃ (w : World) (tape : Tape) (i : Input),w.os = os ∧ (w.forCall tape i).Shaped C.prog ∧ i.vars = [] ∧ Input.okWide C.prog (w.forCall tape i) .any w.heap.size f i ∧
   s.pre6 enc C.prog fn [] false (w.forCall tape i).memory i.args ∧ Assume.holds {} C.prog (lone (Frame.enter C.prog f i.args .normal) [] (w.forCall tape i)))
  (hc : ∀ (W : World) (base : Nat) (args : Array Value) (ds : List (DataW H)) (ps : List MemPlace),
   (∀ (j : Nat) t v,fn.params[j]? = some t → args[j]? = some v → Value.okWide C.prog W .any base t v) →
   DataW.TrodAll enc C.prog W 0 (fun _ => true) true fn.params.toList args.toList ds ps → (∀ p ∈ ps,p.block < W.heap.size) →
   Calls C.prog f args W fun e W' => e = .returned (.bool true) ∧ Below W.heap.size W W') :
  ReturnsInHanded {} C os f .any (s.pre6 enc C.prog fn [] false) (s.post enc C.prog fn false true false false):=by
 refine returnsInHanded_of_change own started hno hfn witness ?_
 intro W base args ds gs before hval hW _ _
 have hlt:=hW.lt
 have hW':=hW
 obtain ⟨p,q,hA,_,rfl,_,_⟩:=hW
 refine (hc W base args ds p hval hA (fun x hx => hlt x (by simp [hx]))).mono ?_
 rintro e W' ⟨rfl,hB⟩
 exact ⟨_,rfl,law_post hl hr hv hres hb hspec hW' hB⟩
#print axioms law_lifted
theorem slice_size {H : Type} {enc : TypeId × Value → H} {P : Program} {t e : TypeId} {W : World} {A : Option Addr} {n c : Nat} {d : DataW H} {ps : List MemPlace} (ht : P.underlying t = some (.slice e))
  (h : DataW.Trod enc P W 0 (fun _ => true) true t (.slice A n c) d ps) (hw : ∀ m ∈ d.weights P t,m ≤ reachBytes) : n * P.bytesOf e ≤ reachBytes:=by
 obtain ⟨fuel,hf⟩:=h
 rcases Go.Deep.open_slice ht hf with ⟨hcs,_⟩ | ⟨a,len,cap,m,n',D,Pl,hcs,_,hl,hm,hmm,hx,hi⟩
 ·have : n = 0:=by
   have : A = none ∧ n = 0 ∧ c = 0:=by simpa [Value.cells] using hcs
   exact this.2.1
  subst this
  simp
 ·have : A = some a ∧ n = len ∧ c = cap:=by simpa [Value.cells] using hcs
  obtain ⟨rfl,rfl,rfl⟩:=this
  have hd:=(Prod.mk.inj hx).1
  have h1:=hw ((n + (m - n)) * P.bytesOf e) (by rw [hd];simp [DataW.weights,ht])
  exact Nat.le_trans (Nat.mul_le_mul_right _ (by omega)) h1
theorem reach_val : reachBytes = 140737488351232:=by decide
end Go.Proofs.YtfdillpofciicaaGreatDoor
namespace Go.Proofs.YtfdillpofciicaaGreatDoor
open Go Go.RowKit
theorem add_block (a : Addr) (n : Nat) : (a.add n).block = a.block:=by unfold Addr.add;split <;> rfl
theorem add_zero (a : Addr) : a.add 0 = a:=rfl
theorem add_add_ (a : Addr) (i j : Nat) : (a.add i).add j = a.add (i + j):=by
 unfold Addr.add
 by_cases hi : i = 0 <;> by_cases hj : j = 0 <;> simp [hi,hj,Nat.add_assoc]
def Lies (w : World) (B : Nat) (A : Option Addr) (xs : List Value) : Prop :=
 ∀ k u,xs[k]? = some u → ∃ a,A = some a ∧ a.block < B ∧ w.cell? (a.add k) = some u
section
variable {w w' : World} {B : Nat} {A : Option Addr} {xs : List Value}
theorem Lies.nil (w : World) (B : Nat) (A : Option Addr) : Lies w B A []:=fun k u h => by simp at h
theorem Lies.at_ (h : Lies w B A xs) {k : Nat} (hk : k < xs.length) : ∃ a,A = some a ∧ a.block < B ∧ w.cell? (a.add k) = some xs[k] :=
 h k _ (List.getElem?_eq_getElem hk)
theorem Lies.keep (h : Lies w B A xs) (hk : ∀ p : Addr,p.block < B → w'.cell? p = w.cell? p) : Lies w' B A xs:=fun k u hu => by
 obtain ⟨a,e,hb,hc⟩:=h k u hu
 exact ⟨a,e,hb,(hk _ (by rw [add_block];exact hb)).trans hc⟩
theorem Lies.below (h : Lies w B A xs) (hb : Below B w w') : Lies w' B A xs:=h.keep fun _ hp => hb.cell hp
theorem Lies.mono (h : Lies w B A xs) {B' : Nat} (hB : B ≤ B') : Lies w B' A xs:=fun k u hu => by
 obtain ⟨a,e,hb,hc⟩:=h k u hu
 exact ⟨a,e,by omega,hc⟩
end
def ints (zs : List Int) : List Value:=zs.map (.int .i64 ·)
theorem ints_length (zs : List Int) : (ints zs).length = zs.length:=by simp [ints]
theorem ints_at (zs : List Int) (k : Nat) (h : k < zs.length) : (ints zs)[k]? = some (.int .i64 zs[k]):=by simp [ints,h]
theorem Lies.int {w : World} {B : Nat} {A : Option Addr} {zs : List Int} (h : Lies w B A (ints zs)) {k : Nat} (hk : k < zs.length) :
  ∃ a,A = some a ∧ a.block < B ∧ w.cell? (a.add k) = some (.int .i64 zs[k]):=h k _ (ints_at zs k hk)
def hasB {α : Type} [DecidableEq α] (l : List α) (x : α) : Bool:=decide (x ∈ l)
theorem hasB_iff {α : Type} [DecidableEq α] (l : List α) (x : α) : hasB l x = true ↔ x ∈ l:=by simp [hasB]
theorem hasB_nil {α : Type} [DecidableEq α] (x : α) : hasB [] x = false:=by simp [hasB]
theorem hasB_snoc {α : Type} [DecidableEq α] (l : List α) (y x : α) : hasB (l ++ [y]) x = (hasB l x || decide (x = y)):=by simp [hasB]
theorem take_succ_get {α : Type} (l : List α) (k : Nat) (h : k < l.length) : l.take (k + 1) = l.take k ++ [l[k]]:=List.take_succ_eq_append_getElem h
end Go.Proofs.YtfdillpofciicaaGreatDoor
namespace Go.Proofs.YtfdillpofciicaaGreatDoor
open Go
def InR (m : Int) : Prop:=-9223372036854775808 ≤ m ∧ m ≤ 9223372036854775807
def U (m : Int) : Nat:=(BitVec.ofInt 64 m).toNat
def bt (m : Int) (k : Nat) : Bool:=(BitVec.ofInt 64 m).getLsbD k
theorem wrap_toNat (x : BitVec 64) : IntKind.i64.wrap (x.toNat : Int) = x.toInt:=by
 have h:=x.isLt
 rw [BitVec.toInt_eq_toNat_cond]
 have e : (x.toNat : Int) % 2 ^ 64 = x.toNat:=by omega
 simp only [IntKind.wrap,IntKind.bits,IntKind.signed,e,Bool.true_and,decide_eq_true_eq]
 by_cases h2 : 2 * x.toNat < 2 ^ 64
 ·rw [if_neg (by omega),if_pos h2]
 ·rw [if_pos (by omega),if_neg h2]
  norm_cast
theorem ofInt_inj {m n : Int} (hm : InR m) (hn : InR n) (h : BitVec.ofInt 64 m = BitVec.ofInt 64 n) : m = n:=by
 have:=congrArg BitVec.toInt h
 rw [BitVec.toInt_ofInt,BitVec.toInt_ofInt] at this
 unfold InR at *
 rw [Int.bmod_def,Int.bmod_def] at this
 split at this <;> split at this <;> omega
theorem toInt_inR (x : BitVec 64) : InR x.toInt:=by
 have h1:=BitVec.toInt_lt (x:=x)
 have h2:=BitVec.le_toInt (x:=x)
 unfold InR
 simp at h1 h2
 omega
theorem bits_and (m n : Int) : bits .and .i64 m n = (BitVec.ofInt 64 m &&& BitVec.ofInt 64 n).toInt:=wrap_toNat _
theorem bits_and_inR (m n : Int) : InR (bits .and .i64 m n):=by rw [bits_and];exact toInt_inR _
theorem bt_toInt (x : BitVec 64) (k : Nat) : bt x.toInt k = x.getLsbD k:=by unfold bt;rw [BitVec.ofInt_toInt]
theorem bt_and (m n : Int) (k : Nat) : bt (bits .and .i64 m n) k = (bt m k && bt n k):=by
 rw [bits_and,bt_toInt,BitVec.getLsbD_and];rfl
theorem bt_ext {m n : Int} (hm : InR m) (hn : InR n) (h : ∀ k,k < 64 → bt m k = bt n k) : m = n :=
 ofInt_inj hm hn (BitVec.eq_of_getLsbD_eq h)
theorem bt_zero (k : Nat) : bt 0 k = false:=by
 unfold bt
 have : BitVec.ofInt 64 0 = 0#64:=rfl
 rw [this]
 simp
theorem and_eq_iff {m n : Int} (hn : InR n) : bits .and .i64 m n = n ↔ ∀ k,k < 64 → bt n k = true → bt m k = true:=by
 constructor
 ·intro h k _ hk
  have:=bt_and m n k
  rw [h,hk] at this
  simpa using this.symm
 ·intro h
  refine bt_ext (bits_and_inR _ _) hn fun k hk => ?_
  rw [bt_and]
  cases hb : bt n k with
  | false => simp
  | true => simp [h k hk hb]
theorem and_zero_iff {m n : Int} : bits .and .i64 m n = 0 ↔ ∀ k,k < 64 → (bt m k && bt n k) = false:=by
 constructor
 ·intro h k _
  rw [← bt_and,h,bt_zero]
 ·intro h
  refine bt_ext (bits_and_inR _ _) (by unfold InR;omega) fun k hk => ?_
  rw [bt_and,h k hk,bt_zero]
def matchesB (m n t a : Int) : Bool:=(bits .and .i64 m n == n) && (bits .and .i64 m t == 0) && (a == 0 || bits .and .i64 m a != 0)
def okTo (m n t : Int) (k : Nat) : Bool:=(List.range k).all fun j => !((bt n j && !bt m j) || (bt t j && bt m j))
def anyTo (m a : Int) (k : Nat) : Bool:=(a == 0) || (List.range k).any fun j => bt a j && bt m j
theorem matches_eq {m n t a : Int} (hn : InR n) : matchesB m n t a = (okTo m n t 64 && anyTo m a 64):=by
 rw [Bool.eq_iff_iff]
 simp only [matchesB,okTo,anyTo,Bool.and_eq_true,Bool.or_eq_true,beq_iff_eq,bne_iff_ne,List.all_eq_true,List.mem_range,List.any_eq_true]
 rw [and_eq_iff hn,and_zero_iff,Ne,and_zero_iff]
 constructor
 ·rintro ⟨⟨h1,h2⟩,h3⟩
  refine ⟨fun k hk => ?_,?_⟩
  ·have a1:=h1 k hk
   have a2:=h2 k hk
   cases hb : bt n k <;> cases hc : bt m k <;> cases hd : bt t k <;> simp_all
  ·refine h3.imp id fun h => ?_
   apply Classical.byContradiction
   intro hno
   apply h
   intro k hk
   cases hb : bt m k <;> cases hc : bt a k <;> try rfl
   exact absurd ⟨k,hk,hc,hb⟩ hno
 ·rintro ⟨h1,h3⟩
  refine ⟨⟨fun k hk hb => ?_,fun k hk => ?_⟩,?_⟩
  ·have:=h1 k hk
   cases hc : bt m k
   ·simp [hb,hc] at this
   ·rfl
  ·have:=h1 k hk
   cases hc : bt m k <;> cases hd : bt t k <;> simp_all
  ·refine h3.imp id fun h => ?_
   obtain ⟨k,hk,hc,hb⟩:=h
   intro hno
   have:=hno k hk
   simp [hb,hc] at this
end Go.Proofs.YtfdillpofciicaaGreatDoor
namespace Go.Proofs.YtfdillpofciicaaGreatDoor
open Go Go.ChangeShapes Go.WideShapes Go.RowKit
def IntCells (P : Program) (t : TypeId) : Prop :=
 ∀ {H : Type} {enc : TypeId × Value → H} {w : World} {base : Nat} {sp : Nat → Bool} {held : Bool} {fuel : Nat} {cs : List Value} {x : DataW H × List MemPlace},
  DataW.trod enc P w base sp held fuel t cs = some x → cs.length = P.cellsOf t ∧ ∀ u ∈ cs,∃ z,u = .int .i64 z ∧ InR z
theorem inR_of_wf {z : Int} (h : (Lit.int .i64 z).wf = true) : InR z:=by
 simp [Lit.wf,IntKind.min,IntKind.max,IntKind.bits,IntKind.signed] at h
 unfold InR
 omega
section
variable {P : Program} {t e : TypeId}
theorem IntCells.int (ht : P.underlying t = some (.int .i64)) (hC : P.cellsOf t = 1) : IntCells P t:=by
 intro H enc w base sp held fuel cs x h
 obtain ⟨n,rfl,_,hw⟩:=DataW.trod_int ht h
 refine ⟨by rw [hC];rfl,fun u hu => ?_⟩
 simp at hu
 exact ⟨n,hu,inR_of_wf hw⟩
theorem IntCells.struct {fs : Array Field} (ht : P.underlying t = some (.struct fs))
  (hc : ((List.range (P.cellsOf t)).all fun c => fs.any fun f => decide (f.offset ≤ c) && decide (c < f.offset + P.cellsOf f.type)) = true)
  (hf : ∀ f ∈ fs,IntCells P f.type) : IntCells P t:=by
 intro H enc w base sp held fuel cs x h
 obtain ⟨xs,n,_,_,hlen,hxs,hg⟩:=DataW.trod_struct ht h
 refine ⟨hlen,fun u hu => ?_⟩
 obtain ⟨c,hcl,rfl⟩:=List.mem_iff_getElem.1 hu
 have:=List.all_eq_true.1 hc c (by simp;omega)
 rw [Array.any_eq_true] at this
 obtain ⟨i,hi,hi2⟩:=this
 simp only [Bool.and_eq_true,decide_eq_true_eq] at hi2
 have h1:=hg i fs[i] (Array.getElem?_eq_getElem hi)
 have h2 : xs[i]? = some (xs[i]'(by omega)):=List.getElem?_eq_getElem (by omega)
 rw [h2] at h1
 refine ((hf fs[i] (Array.getElem_mem hi)) h1).2 _ ?_
 rw [List.mem_iff_getElem?]
 refine ⟨c - fs[i].offset,?_⟩
 rw [List.getElem?_take,if_pos (by omega),List.getElem?_drop,show fs[i].offset + (c - fs[i].offset) = c by omega]
 exact List.getElem?_eq_getElem hcl
theorem IntCells.array {n : Nat} (ht : P.underlying t = some (.array n e)) (hC : P.cellsOf t = n * P.cellsOf e) (hpos : 0 < P.cellsOf e) (he : IntCells P e) : IntCells P t:=by
 intro H enc w base sp held fuel cs x h
 obtain ⟨xs,m,_,_,hlen,hxs,hg⟩:=DataW.trod_array ht h
 refine ⟨hlen,fun u hu => ?_⟩
 obtain ⟨c,hcl,rfl⟩:=List.mem_iff_getElem.1 hu
 have hi : c / P.cellsOf e < n:=by
  rw [Nat.div_lt_iff_lt_mul hpos];omega
 have h1:=hg (c / P.cellsOf e) hi
 have h2 : xs[c / P.cellsOf e]? = some (xs[c / P.cellsOf e]'(by omega)):=List.getElem?_eq_getElem (by omega)
 rw [h2] at h1
 refine (he h1).2 _ ?_
 rw [List.mem_iff_getElem?]
 refine ⟨c % P.cellsOf e,?_⟩
 rw [List.getElem?_take,if_pos (Nat.mod_lt _ hpos),List.getElem?_drop,Nat.mul_comm,Nat.div_add_mod]
 exact List.getElem?_eq_getElem hcl
theorem open_slice_flat {H : Type} {enc : TypeId × Value → H} {W : World} {b : Nat} {r : Reach} {v : Value} {d : DataW H} {ps : List MemPlace} {B k : Nat} (ht : P.underlying t = some (.slice e))
  (he : IntCells P e) (hk : P.cellsOf e = k) (hpos : 0 < k) (hv : Value.okWide P W r b t v) (h : DataW.Trod enc P W 0 (fun _ => true) true t v d ps) (hlt : ∀ p ∈ ps,p.block < B) :
  ∃ (A : Option Addr) (n c : Nat) (zs : List Int),v = .slice A n c ∧ n ≤ c ∧ c ≤ 9223372036854775807 ∧ zs.length = n * k ∧ (∀ z ∈ zs,InR z) ∧ Lies W B A (ints zs):=by
 obtain ⟨a0,n0,c0,rfl⟩:=okWide_slice ht hv
 obtain ⟨fuel,hf⟩:=h
 rcases Go.Deep.open_slice ht hf with ⟨hcs,_⟩ | ⟨a,len,cap,m,n,D,Pl,hcs,_,hl,hm,hmm,hx,hi⟩
 ·have : a0 = none ∧ n0 = 0 ∧ c0 = 0:=by simpa [Value.cells] using hcs
  obtain ⟨rfl,rfl,rfl⟩:=this
  exact ⟨none,0,0,[],rfl,by omega,by omega,by simp,by simp,Lies.nil _ _ _⟩
 ·have : a0 = some a ∧ n0 = len ∧ c0 = cap:=by simpa [Value.cells] using hcs
  obtain ⟨rfl,rfl,rfl⟩:=this
  simp only [if_true] at hmm
  subst hmm
  have hcell : ∀ j,j < n0 * k → ∃ z,W.cell? (a.add j) = some (.int .i64 z) ∧ InR z:=by
   intro j hj
   have hij : j / k < n0:=by rw [Nat.div_lt_iff_lt_mul hpos];omega
   obtain ⟨cs',hc',ht'⟩:=hi (j / k) (by omega)
   obtain ⟨_,hl',hat⟩:=World.cells?_some hc'
   obtain ⟨_,hz⟩:=he ht'
   rw [hk] at hat hl'
   have hjk : j % k < k:=Nat.mod_lt _ hpos
   have h1:=hat (j % k) hjk
   rw [add_add_,Nat.mul_comm,Nat.div_add_mod] at h1
   have h2 : cs'[j % k]? = some (cs'[j % k]'(by omega)):=List.getElem?_eq_getElem (by omega)
   obtain ⟨z,hz1,hz2⟩:=hz _ (List.getElem_mem (by omega : j % k < cs'.length))
   rw [h2,hz1] at h1
   exact ⟨z,h1,hz2⟩
  have hblk : n0 * k ≠ 0 → a.block < B:=by
   intro hne
   have hpos' : 0 < m * k:=by
    have : 0 < n0:=Nat.pos_of_ne_zero fun e => hne (by simp [e])
    exact Nat.mul_pos (by omega) hpos
   have hmem : (MemPlace.cell a.block (a.off + 0)) ∈ ps:=by
    have : ps = MemPlace.row a (m * P.cellsOf e) ++ (List.range m).flatMap Pl:=(Prod.mk.inj hx).2
    rw [this,hk]
    refine List.mem_append.2 (.inl ?_)
    unfold MemPlace.row
    rw [List.mem_map]
    exact ⟨0,by simpa using hpos',rfl⟩
   exact hlt _ hmem
  let f : Nat → Int:=fun j => match W.cell? (a.add j) with | some (.int .i64 z) => z | _ => 0
  have hf' : ∀ j,j < n0 * k → W.cell? (a.add j) = some (.int .i64 (f j)) ∧ InR (f j):=by
   intro j hj
   obtain ⟨z,h1,h2⟩:=hcell j hj
   have : f j = z:=by simp only [f,h1]
   rw [this];exact ⟨h1,h2⟩
  refine ⟨some a,n0,_,(List.range (n0 * k)).map f,rfl,hl,by simpa [maxLen] using hm,by simp,?_,?_⟩
  ·intro z hz
   simp only [List.mem_map,List.mem_range] at hz
   obtain ⟨j,hj,rfl⟩:=hz
   exact (hf' j hj).2
  ·intro j u hu
   simp only [ints,List.map_map,List.getElem?_map] at hu
   have hj : j < n0 * k:=by
    rcases Nat.lt_or_ge j (n0 * k) with h | h
    ·exact h
    ·rw [List.getElem?_eq_none (by simpa using h)] at hu;cases hu
   rw [List.getElem?_range hj] at hu
   simp at hu
   subst hu
   exact ⟨a,rfl,hblk (by omega),(hf' j hj).1⟩
end
end Go.Proofs.YtfdillpofciicaaGreatDoor
namespace Go.Proofs.YtfdillpofciicaaGreatDoor
open Go
theorem intCells_int : IntCells Tryz.prog 3:=IntCells.int Tryz.underlying3 (by kernel_rfl)
theorem intCells_arr : IntCells Tryz.prog 43:=IntCells.array Tryz.underlying43 (by kernel_rfl) (of_decide_eq_true (by kernel_rfl)) intCells_int
theorem intCells_Query : IntCells Tryz.prog 100:=IntCells.struct Tryz.underlying100 (by kernel_rfl) (by
 intro f hf
 simp only [List.mem_toArray,List.mem_cons,List.not_mem_nil,or_false] at hf
 rcases hf with rfl | rfl | rfl <;> exact intCells_int)
theorem intCells_Beast : IntCells Tryz.prog 45:=IntCells.struct Tryz.underlying45 (by kernel_rfl) (by
 intro f hf
 simp only [List.mem_toArray,List.mem_cons,List.not_mem_nil,or_false] at hf
 rcases hf with rfl | rfl
 ·exact intCells_int
 ·exact intCells_arr)
theorem intCells_System : IntCells Tryz.prog 102:=IntCells.struct Tryz.underlying102 (by kernel_rfl) (by
 intro f hf
 simp only [List.mem_toArray,List.mem_cons,List.not_mem_nil,or_false] at hf
 rcases hf with rfl | rfl | rfl | rfl | rfl
 ·exact intCells_Query
 all_goals exact intCells_int)
theorem intCells_Handle : IntCells Tryz.prog 47:=IntCells.struct Tryz.underlying47 (by kernel_rfl) (by
 intro f hf
 simp only [List.mem_toArray,List.mem_cons,List.not_mem_nil,or_false] at hf
 rcases hf with rfl | rfl <;> exact intCells_int)
end Go.Proofs.YtfdillpofciicaaGreatDoor
