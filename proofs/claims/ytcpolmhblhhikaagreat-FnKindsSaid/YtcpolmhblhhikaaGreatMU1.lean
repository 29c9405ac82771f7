import Derived.WalkKit
import Derived.Orders
import Derived.Deep.LoopGhost
import Derived.Below
import Derived.Deep.Draws
import Derived.Laws.OwnMore
import Derived.Laws.Rows
/- The evaluator of the loaded code over plain data (definitions alone; nothing is claimed here). -/
namespace Go.Proofs.QV
open Go
open _root_.List renaming length_append → jj, length_cons → jb, cons_append → jh, append_assoc → jD, nil_append → jg, eq_nil_of_length_eq_zero → jm
open _root_.Nat renaming lt_or_ge → jA
open _root_.Option.some renaming injEq → j8
inductive DC where
 | b (x:Bool)
 | i (n:Int)
 | s (l:List UInt8)
 | sl (l:List (List DC))
instance:Inhabited DC:=⟨.b false⟩
def DC.bb:DC → Bool
 | .b x=>x
 | _=>false
def DC.ii:DC → Int
 | .i n=>n
 | _=>0
def DC.ss:DC → List UInt8
 | .s l=>l
 | _=>[]
def DC.ll:DC → List (List DC)
 | .sl l=>l
 | _=>[]
def d0:DC:=.b false
def qL (v:List DC) (n:Nat):DC:=.sl ((v.getD n d0).ll)
def qI (v:List DC) (n:Nat):DC:=.i ((v.getD n d0).ii)
def qS (v:List DC) (n:Nat):DC:=.s ((v.getD n d0).ss)
def qB (v:List DC) (n:Nat):DC:=.b ((v.getD n d0).bb)
inductive CT where
 | b
 | i (k:IntKind)
 | s
 | sl (e:Nat)
def CT.same:CT → CT → Bool
 | .b,.b=>true
 | .i k,.i k'=>decide (k=k')
 | .s,.s=>true
 | .sl e,.sl e'=>Nat.beq e e'
 | _,_=>false
def CT.sameL:List CT → List CT → Bool
 | [],[]=>true
 | x :: l,y :: m=>CT.same x y && CT.sameL l m
 | _,_=>false
def CT.flat:CT → Bool
 | .sl _=>false
 | _=>true
def up (e:Nat):Nat:=e + 1000
def dp (e:Nat):Bool:=Nat.ble 1000 e
def hq (e:Nat):Bool:=Nat.ble 4000 e
def pq (e:Nat):Bool:=match hq e with | true=>false | false=>Nat.ble 2000 e
def yz (e:Nat):Nat:=match dp e with | true=>(match hq e with | true=>e - 4000 | false=>e - 1000) | false=>e
def upE (base e:Nat):Nat:=match Nat.beq (base % 2) 1 with | true=>up e | false=>e
inductive S where
 | undef
 | nil
 | bool (b:Bool)
 | int (k:IntKind) (n:Int)
 | str (l:List UInt8)
 | sl (e:Nat) (l:List (List DC))
 | own (id:Nat)
 | ptr (id off:Nat)
 | fn (f:Nat) (caps:List Nat)
inductive C where
 | one (s:S)
 | agg (l:List S)
 | tup (l:List (Bool × List S))
 | elS (e:Nat) (x:List DC) (off:Nat)
 | elO (e id ix off:Nat)
inductive Obj' where
 | var (t:Nat) (cs:List S)
 | row (e:Nat) (l:List (List DC))
 | fz (e:Nat) (l:List (List DC))
 | pt (e:Nat) (l:List (List DC))
 | hl (e:Nat) (l:List (List DC)) (ix:Nat)
inductive HS where
 | free
 | dead
 | live (o:Obj')
structure St where
 tm:List C
 H:List HS
inductive TK where
 | bool
 | int (k:IntKind)
 | str
 | slice (e:Nat)
 | struct
 | other
structure TI where
 kd:TK
 cts:List CT
 bytes:Nat
 flds:List (Nat × Nat × Bool)
 eq:Bool
inductive K1 where
 | u
 | b
 | i (k:IntKind)
 | s
 | sl (e:Nat)
 | own (e id:Nat)
 | ptr (id off:Nat)
 | fn (f:Nat) (caps:List Nat)
 | nil
inductive KC where
 | one (k:K1)
 | agg (l:List K1)
inductive KO where
 | u
 | var (t:Nat) (l:List K1)
structure Hint where
 tm:List KC
 ob:List KO
inductive AC where
 | skip
 | region (id:Nat) (ops:Array Oper) (draw:Bool) (ids:List Nat) (h:Option Hint)
 | rcut (id:Nat) (ops:Array Oper) (ids:List Nat) (segs:List (Nat × Hint))
 | seq (a b:AC)
 | cond (c:Operand) (x y:AC) (h:Option Hint)
 | block (id:Nat) (body:AC) (h:Hint)
 | loop (body:AC) (h:Hint)
 | exit (id:Nat)
 | ret
def AC.code:AC → Code
 | .skip=>.skip
 | .region id ops draw _ _=>.region id ops draw
 | .rcut id ops _ _=>.region id ops false
 | .seq a b=>.seq a.code b.code
 | .cond c x y _=>.cond c x.code y.code
 | .block id body _=>.block id body.code
 | .loop body _=>.loop body.code
 | .exit id=>.exit id
 | .ret=>.ret
inductive PK where
 | ct (c:CT)
 | ag (cs:List CT)
 | mv (e:Nat)
 | ptr
 | fn
inductive RK where
 | ct (c:CT)
 | new (e:Nat)
def PK.plain:PK → Bool
 | .ct _=>true
 | .ag _=>true
 | _=>false
structure MK where
 agg:Bool
 n:Nat
 parts:List (Nat × Nat)
 run:List (List (List DC)) → Int → Option (List (List (List DC)) × Int)
structure FI where
 ntmps:Nat
 nobj:Nat
 pk:List PK
 rk:List (Bool × List RK)
 res:List ResultVar
 body:Hint → AC
 prim:Option (Hint → List DC → Option (List DC))
 mark:Option MK
 stf:Option (Nat → List HS → List C → Option (Nat × List HS × C))
structure Cfg where
 ty:Nat → Option TI
 fn:Nat → Option FI
inductive Out where
 | norm (v:List DC)
 | ex (id:Nat) (v:List DC)
 | ret (v:List DC)
 | fail
def Out.andThen (o:Out) (K:List DC → Out):Out :=
 match o with
 | .norm v=>K v
 | .ex id v=>.ex id v
 | .ret v=>.ret v
 | .fail=>.fail
def Out.andThenB (o:Out) (id:Nat) (K:List DC → Out):Out :=
 match o with
 | .norm v=>K v
 | .ex id' v=>if id'=id then K v else .ex id' v
 | .ret v=>.ret v
 | .fail=>.fail
def kS (e:Nat) (l:List (List DC)):Obj':=match pq e with | true=>.pt (e - 2000) l | false=>.row e l
def jp (H:List HS) (id:Nat):HS:=H.getD id .dead
def jB (H:List HS) (id:Nat) (x:HS):List HS:=H.set id x
def za (H:List HS):S → Option (Nat × List (List DC))
 | .sl e l=>some (e,l)
 | .own id =>
  match jp H id with
  | .live (.row e l)=>(match dp e with | false=>some (e,l) | true=>none)
  | .live (.fz e l)=>some (e,l)
  | _=>none
 | _=>none
def Vt (H:List HS):CT → S → Option (DC × List HS)
 | .b,.bool x=>some (.b x,H)
 | .i k,.int k' n=>if k'=k then some (.i n,H) else none
 | .s,.str l=>some (.s l,H)
 | .sl e,.sl e' l=>if e'=e then some (.sl l,H) else none
 | .sl _,.nil=>some (.sl [],H)
 | .sl e,.own id =>
  match jp H id with
  | .live (.row e2 l)=>if yz e2=e ∧ hq e2=false then some (.sl l,jB H id (.live (.fz e l))) else none
  | .live (.fz e2 l)=>if e2=e then some (.sl l,H) else none
  | .live (.pt e2 l)=>if e2=e then some (.sl l,jB H id (.live (.fz e l))) else none
  | _=>none
 | _,_=>none
def yZ (H:List HS):List CT → List S → Option (List DC × List HS)
 | [],[]=>some ([],H)
 | t :: ts,s :: ss =>
  match Vt H t s with
  | some (d,H1) =>
   match yZ H1 ts ss with
   | some (ds,H2)=>some (d :: ds,H2)
   | none=>none
  | none=>none
 | _,_=>none
def Xw (ty:Nat → Option TI) (e:Nat):Bool :=
 match ty e with
 | some ti=>ti.cts.all CT.flat
 | none=>false
def j1c (ty:Nat → Option TI) (H:List HS):CT → S → Option (DC × List HS)
 | .b,.bool x=>some (.b x,H)
 | .i k,.int k' n=>if k'=k then some (.i n,H) else none
 | .s,.str l=>some (.s l,H)
 | .sl _,.nil=>some (.sl [],H)
 | .sl e,.own id =>
  match jp H id with
  | .live (.row e2 l)=>if yz e2=e ∧ hq e2=false ∧ (dp e2 || Xw ty e2)=true then some (.sl l,jB H id .dead) else none
  | .live (.pt e2 l)=>if e2=e then some (.sl l,jB H id .dead) else none
  | _=>none
 | _,_=>none
def ze (ty:Nat → Option TI) (H:List HS):List CT → List S → Option (List DC × List HS)
 | [],[]=>some ([],H)
 | t :: ts,s :: ss =>
  match j1c ty H t s with
  | some (d,H1) =>
   match ze ty H1 ts ss with
   | some (ds,H2)=>some (d :: ds,H2)
   | none=>none
  | none=>none
 | _,_=>none
def QE (ty:Nat → Option TI) (d:Bool) (H:List HS) (ts:List CT) (ss:List S):Option (List DC × List HS) :=
 match d with
 | false=>yZ H ts ss
 | true=>ze ty H ts ss
def j8s:CT → DC → S
 | .b,d=>.bool d.bb
 | .i k,d=>.int k d.ii
 | .s,d=>.str d.ss
 | .sl e,d=>.sl e d.ll
def j4d:List CT → List DC → Nat → List S
 | [],_,_=>[]
 | t :: ts,x,j=>j8s t (x.getD j d0) :: j4d ts x (j + 1)
def j5q:CT → S
 | .b=>.bool false
 | .i k=>.int k 0
 | .s=>.str []
 | .sl _=>.nil
def j3S:CT → DC
 | .b=>.b false
 | .i _=>.i 0
 | .s=>.s []
 | .sl _=>.sl []
def S.isDef:S → Bool
 | .undef=>false
 | _=>true
def C.cells:C → Option (List S)
 | .one s=>if s.isDef then some [s] else none
 | .agg l=>if l.all S.isDef then some l else none
 | _=>none
def mkC (isAgg:Bool) (l:List S):C :=
 if isAgg then .agg l else .one (l.headD .undef)
def ofConst:Value → C
 | .bool b=>.one (.bool b)
 | .int k n=>.one (.int k n)
 | .string s=>.one (.str s.data.toList)
 | .slice none 0 0=>.one .nil
 | _=>.one .undef
noncomputable def jaW (l:List C):Nat → C:=List.rec (motive:=fun _=>Nat → C) (fun _=>.one .undef) (fun x _ ih i=>Nat.rec (motive:=fun _=>C) x (fun i' _=>ih i') i) l
noncomputable def j8n (v:C) (l:List C):Nat → List C:=List.rec (motive:=fun _=>Nat → List C) (fun _=>[]) (fun x xs ih i=>Nat.rec (motive:=fun _=>List C) (v :: xs) (fun i' _=>x :: ih i') i) l
noncomputable def frc {σ:Type} (l:List C):(List C → σ) → σ:=List.rec (motive:=fun _=>(List C → σ) → σ) (fun k=>k []) (fun x _ ih k=>ih fun l'=>k (x :: l')) l
theorem YV:∀ (l:List C) (i:Nat),jaW l i=l.getD i (.one .undef)
 | [],_=>rfl
 | _ :: _,0=>rfl
 | _ :: l,i + 1=>YV l i
theorem V2 (v:C):∀ (l:List C) (i:Nat),j8n v l i=l.set i v
 | [],_=>rfl
 | _ :: _,0=>rfl
 | x :: l,i + 1=>congrArg (x :: ·) (V2 v l i)
theorem j9Z {σ:Type}:∀ (l:List C) (k:List C → σ),frc l k=k l
 | [],_=>rfl
 | x :: l,k=>j9Z l fun l'=>k (x :: l')
noncomputable section
def opd (tm:List C):Operand → C
 | .tmp t=>jaW tm t
 | .const v=>ofConst v
 | .func f=>.one (.fn f [])
 | .global _=>.one .undef
def yE (tm:List C):List Operand → List C
 | []=>[]
 | x :: l=>opd tm x :: yE tm l
def j5a (op:BinOp) (k:IntKind) (a b:Int):Option S :=
 match op with
 | .add=>some (.int k (k.wrap (a + b)))
 | .sub=>some (.int k (k.wrap (a - b)))
 | .mul=>some (.int k (k.wrap (a * b)))
 | .and=>some (.int k (k.wrap (BitVec.ofInt k.bits a &&& BitVec.ofInt k.bits b).toNat))
 | .or=>some (.int k (k.wrap (BitVec.ofInt k.bits a ||| BitVec.ofInt k.bits b).toNat))
 | .xor=>some (.int k (k.wrap (BitVec.ofInt k.bits a ^^^ BitVec.ofInt k.bits b).toNat))
 | .eql=>some (.bool (a == b))
 | .neq=>some (.bool (a != b))
 | .lss=>some (.bool (decide (a < b)))
 | .leq=>some (.bool (decide (a ≤ b)))
 | .gtr=>some (.bool (decide (a > b)))
 | .geq=>some (.bool (decide (a ≥ b)))
 | _=>none
def j4L (op:BinOp) (a b:List UInt8):Option S :=
 match op with
 | .eql=>some (.bool (a == b))
 | .neq=>some (.bool (!(a == b)))
 | .lss=>some (.bool (Op.bytesLess a b))
 | .leq=>some (.bool (Op.bytesLess a b || a == b))
 | .gtr=>some (.bool (!(Op.bytesLess a b || a == b)))
 | .geq=>some (.bool (!(Op.bytesLess a b)))
 | _=>none
def zO:List S → List S → Option Bool
 | [],[]=>some true
 | .int k a :: l,.int k' b :: m=>if k'=k then (zO l m).map fun r=>(a == b) && r else none
 | .str a :: l,.str b :: m=>(zO l m).map fun r=>(a == b) && r
 | .bool a :: l,.bool b :: m=>(zO l m).map fun r=>(a == b) && r
 | _,_=>none
def zU:List CT → List S → Bool
 | [],[]=>true
 | .b :: cs,.bool _ :: l=>zU cs l
 | .i k :: cs,.int k' _ :: l=>decide (k'=k) && zU cs l
 | .s :: cs,.str _ :: l=>zU cs l
 | _,_=>false
def j9A (c:Bool):S → S → Option S
 | .bool a,.bool b=>some (.bool (if c then a else b))
 | .int k a,.int k' b=>if k'=k then some (.int k (if c then a else b)) else none
 | .str a,.str b=>some (.str (if c then a else b))
 | _,_=>none
inductive Cls where
 | t
 | r
 | w
 | n
 | rv (id:Nat)
 | st (id:Nat)
 | wl (l:List Nat)
 | nb (id:Nat)
def jT:Nat:=1073741824
def yi (ty:Nat → Option TI) (dd:Bool) (H:List HS) (ts:List CT):Nat → List (Nat × C) → Option (List (List DC) × List HS)
 | _,[]=>some ([],H)
 | j,(i,c) :: l =>
  if i=j then
   match c.cells with
   | some ss =>
    match QE ty dd H ts ss with
    | some (x,H1) =>
     match yi ty dd H1 ts (j + 1) l with
     | some (xs,H2)=>some (x :: xs,H2)
     | none=>none
    | none=>none
   | none=>none
  else none
def XV (l:List S) (off:Nat) (xs:List S):List S:=l.take off ++ (xs ++ l.drop (off + xs.length))
def j03 (l:List DC) (off:Nat) (xs:List DC):List DC:=l.take off ++ (xs ++ l.drop (off + xs.length))
def j1w (flds:List (Nat × Nat × Bool)) (z:List S):List (Nat × C) → Option (List S)
 | []=>some z
 | (j,c) :: l =>
  match flds[j]?,c.cells with
  | some (off,n,_),some ss =>
   if ss.length=n then j1w flds (XV z off ss) l else none
  | _,_=>none
def JW (l:List UInt8):List (List DC):=l.map fun c=>[DC.i c.toNat]
def KH (l:List (List DC)):List UInt8:=l.map fun x=>UInt8.ofNat (x.getD 0 d0).ii.toNat
def RK.flat (ty:Nat → Option TI):RK → Bool
 | .ct (.sl _)=>false
 | .ct _=>true
 | .new e=>dp e || Xw ty e
end
noncomputable section
def ka (tm:List C) (dst:Option Tmp) (c:C):List C :=
 match dst with
 | some d=>j8n c tm d
 | none=>tm
def Jc (ti:Option TI):Option Nat :=
 match ti with
 | some ti=>match ti.kd with
  | .slice e=>some e
  | _=>none
 | none=>none
def jQ (ti:Option TI):Bool :=
 match ti with
 | some ti=>match ti.kd with
  | .struct=>true
  | _=>false
 | none=>false
def zF (ty:Nat → Option TI) (H:List HS):K1 → S → Option (List DC × List HS)
 | .u,_=>some ([],H)
 | .b,.bool x=>some ([.b x],H)
 | .i k,.int k' n=>if k'=k then some ([.i n],H) else none
 | .s,.str l=>some ([.s l],H)
 | .sl e,s =>
  match Vt H (.sl e) s with
  | some (d,H1)=>some ([d],H1)
  | none=>none
 | .own e _,.own id =>
  match jp H id with
  | .live (.row e' l) =>
   if e'=e ∧ pq e=false then some ([.sl l],jB H id .dead)
   else if e=e' + 3000 ∧ dp e'=true ∧ hq e'=false ∧ pq e'=false then some ([.sl l],jB H id .dead) else none
  | .live (.pt e' l)=>if e=e' + 2000 ∧ dp e'=false then some ([.sl l],jB H id .dead) else none
  | _=>none
 | .own e _,.nil =>
  match pq e with
  | true=>some ([.sl []],H)
  | false =>
  match ty (yz e) with
  | some ti=>if 0 < ti.cts.length then some ([.sl []],H) else none
  | none=>none
 | .ptr id off,.ptr id' off'=>if id'=id ∧ off'=off then some ([],H) else none
 | .fn f caps,.fn f' caps'=>if f'=f ∧ caps'=caps then some ([],H) else none
 | .nil,.nil=>some ([],H)
 | _,_=>none
def pT (ty:Nat → Option TI) (H:List HS):List K1 → List S → Option (List DC × List HS)
 | [],[]=>some ([],H)
 | k :: ks,s :: ss =>
  match zF ty H k s with
  | some (d,H1) =>
   match pT ty H1 ks ss with
   | some (ds,H2)=>some (d ++ ds,H2)
   | none=>none
  | none=>none
 | _,_=>none
def K1.ids:K1 → List Nat
 | .own _ id=>[id]
 | _=>[]
def K1.pids:K1 → List Nat
 | .ptr id _=>[id]
 | .fn _ caps=>caps
 | _=>[]
def KC.kinds:KC → List K1
 | .one k=>[k]
 | .agg l=>l
def KO.kinds:KO → List K1
 | .u=>[]
 | .var _ l=>l
def KO.isU:KO → Bool
 | .u=>true
 | _=>false
def Hint.kinds (h:Hint):List K1:=h.tm.flatMap KC.kinds ++ h.ob.flatMap KO.kinds
def y6:List Nat → Bool
 | []=>true
 | a :: l=>!(l.contains a) && y6 l
def Hint.ids (h:Hint):List Nat:=h.kinds.flatMap K1.ids
def Hint.pids (h:Hint):List Nat:=h.kinds.flatMap K1.pids
def Hint.ok (h:Hint):Bool:=y6 h.ids && (h.ids.all fun id=>match h.ob[id]? with | some k=>k.isU | none=>false) &&
 h.pids.all fun id=>match h.ob[id]? with | some k=>!k.isU | none=>false
def Hint.okM (mm:Nat) (h:Hint):Bool:=h.ok && (List.range mm).all fun j=>match h.ob[j]? with | some k=>!k.isU | none=>false
def Jz:List KC → List C → Option (List S)
 | [],[]=>some []
 | .one .u :: ks,_ :: cs =>
  match Jz ks cs with
  | some r=>some (.undef :: r)
  | none=>none
 | .one _ :: ks,.one s :: cs =>
  match Jz ks cs with
  | some r=>some (s :: r)
  | none=>none
 | .agg l :: ks,.agg ss :: cs =>
  if ss.length=l.length then
   match Jz ks cs with
   | some r=>some (ss ++ r)
   | none=>none
  else none
 | _,_=>none
def j02 (H:List HS):Nat → List KO → Option (List S)
 | _,[]=>some []
 | id,.u :: ks=>j02 H (id + 1) ks
 | id,.var t l :: ks =>
  match jp H id with
  | .live (.var t' cs) =>
   if t'=t ∧ cs.length=l.length then
    match j02 H (id + 1) ks with
    | some r=>some (cs ++ r)
    | none=>none
   else none
  | _=>none
def j0d (ty:Nat → Option TI) (mm:Nat) (h:Hint) (st:St):Option (List DC) :=
 match h.okM mm with
 | true =>
  match Jz h.tm st.tm,j02 st.H 0 h.ob with
  | some p,some q =>
   match pT ty st.H h.kinds (p ++ q) with
   | some (v,_)=>some v
   | none=>none
  | _,_=>none
 | false=>none
def K1.cnt:K1 → Nat
 | .b | .i _ | .s | .sl _ | .own _ _=>1
 | _=>0
def VB:List K1 → Nat
 | []=>0
 | k :: ks=>k.cnt + VB ks
def K1.mk (v:List DC) (n:Nat):K1 → S
 | .u=>.undef
 | .b=>.bool (v.getD n d0).bb
 | .i k=>.int k (v.getD n d0).ii
 | .s=>.str (v.getD n d0).ss
 | .sl e=>.sl e (v.getD n d0).ll
 | .own _ id=>.own id
 | .ptr id off=>.ptr id off
 | .fn f caps=>.fn f caps
 | .nil=>.nil
def mkL (v:List DC):Nat → List K1 → List S
 | _,[]=>[]
 | n,k :: ks=>k.mk v n :: mkL v (n + k.cnt) ks
def mkT (v:List DC):Nat → List KC → List C
 | _,[]=>[]
 | n,.one k :: ks=>.one (k.mk v n) :: mkT v (n + k.cnt) ks
 | n,.agg l :: ks=>.agg (mkL v n l) :: mkT v (n + VB l) ks
def zC (v:List DC) (id:Nat):Nat → List K1 → HS
 | _,[]=>.free
 | n,.own e i :: ks=>if i=id then .live (kS e (v.getD n d0).ll) else zC v id (n + 1) ks
 | n,k :: ks=>zC v id (n + k.cnt) ks
def mkO (v:List DC) (ks0:List K1):Nat → Nat → List KO → List HS
 | _,_,[]=>[]
 | n,id,.u :: ks=>zC v id 0 ks0 :: mkO v ks0 n (id + 1) ks
 | n,id,.var t l :: ks=>.live (.var t (mkL v n l)) :: mkO v ks0 (n + VB l) (id + 1) ks
def KJ (h:Hint) (v:List DC):St :=
 { tm:=mkT v 0 h.tm,H:=mkO v h.kinds (VB (h.tm.flatMap KC.kinds)) 0 h.ob }
def CT.k1:CT → K1
 | .b=>.b
 | .i k=>.i k
 | .s=>.s
 | .sl e=>.sl e
def pV:List PK → List C → List Nat
 | .ptr :: ps,.one (.ptr id _) :: cs=>id :: pV ps cs
 | .fn :: ps,.one (.fn _ caps) :: cs=>caps ++ pV ps cs
 | _ :: ps,_ :: cs=>pV ps cs
 | _,_=>[]
def yX:Nat → Nat → List PK → List C → Option (List KC)
 | _,_,[],[]=>some []
 | n,r,.ct c :: ps,_ :: cs=>(match yX n r ps cs with | some l=>some (.one c.k1 :: l) | none=>none)
 | n,r,.ag ts :: ps,_ :: cs=>(match yX n r ps cs with | some l=>some (.agg (ts.map CT.k1) :: l) | none=>none)
 | n,r,.mv e :: ps,_ :: cs=>(match yX n (r + 1) ps cs with | some l=>some (.one (.own e r) :: l) | none=>none)
 | n,r,.ptr :: ps,.one (.ptr _ 0) :: cs=>(match yX (n + 1) r ps cs with | some l=>some (.one (.ptr n 0) :: l) | none=>none)
 | n,r,.fn :: ps,.one (.fn f caps) :: cs=>(match yX (n + caps.length) r ps cs with | some l=>some (.one (.fn f (List.range' n caps.length)) :: l) | none=>none)
 | _,_,_,_=>none
def PK.isMv:PK → Bool
 | .mv _=>true
 | _=>false
def j59 (H:List HS) (id:Nat):Bool :=
 match jp H id with
 | .live (.var _ _)=>true
 | _=>false
def j1X (ty:Nat → Option TI) (H:List HS):List Nat → Option (List KO)
 | []=>some []
 | id :: ids =>
  match jp H id with
  | .live (.var t _) =>
   match ty t,j1X ty H ids with
   | some ti,some l=>some (.var t (ti.cts.map CT.k1) :: l)
   | _,_=>none
  | _=>none
def K1.data:K1 → K1
 | .ptr _ _=>.u
 | .fn _ _=>.u
 | k=>k
def KC.data:KC → KC
 | .one k=>.one k.data
 | .agg l=>.agg (l.map K1.data)
def Vu (H:List HS):List Nat → List KO → Option (List S)
 | [],[]=>some []
 | id :: ids,.var t l :: ks =>
  match jp H id with
  | .live (.var t' cs) =>
   if t'=t ∧ cs.length=l.length then
    match Vu H ids ks with
    | some r=>some (cs ++ r)
    | none=>none
   else none
  | _=>none
 | _,_=>none
def KO.vars:List KO → List KO
 | .var t l :: ks=>.var t l :: KO.vars ks
 | _=>[]
def RK.k1 (id:Nat):RK → K1
 | .ct c=>c.k1
 | .new e=>.own e id
def RK.nx (id:Nat):RK → Nat
 | .ct _=>id
 | .new _=>id + 1
def rkK (id:Nat):List RK → List K1
 | []=>[]
 | r :: l=>r.k1 id :: rkK (r.nx id) l
def rkN (id:Nat):List RK → Nat
 | []=>id
 | r :: l=>rkN (r.nx id) l
def j3E (v:List DC):Nat → Nat → List (Bool × List RK) → List (Bool × List S)
 | _,_,[]=>[]
 | n,id,(a,l) :: rs=>(a,mkL v n (rkK id l)) :: j3E v (n + l.length) (rkN id l) rs
def j71 (v:List DC) (id:Nat) (rs:List (Bool × List RK)):C :=
 match rs with
 | [(a,l)]=>mkC a (mkL v 0 (rkK id l))
 | rs=>.tup (j3E v 0 id rs)
def pY (v:List DC):Nat → List K1 → List HS → Option (List HS)
 | _,[],H=>some H
 | n,.own e id :: ks,H =>
  match jp H id with
  | .free=>pY v (n + 1) ks (jB H id (.live (kS e (v.getD n d0).ll)))
  | _=>none
 | n,k :: ks,H=>pY v (n + k.cnt) ks H
def qU (v:List DC):Nat → List Nat → List KO → List HS → List HS
 | n,id :: ids,.var t l :: ks,H=>qU v (n + VB l) ids ks (jB H id (.live (.var t (mkL v n l))))
 | _,_,_,H=>H
def RK.isCt:RK → Bool
 | .ct _=>true
 | .new _=>false
def S.touch:S → List Nat
 | .own id=>[id]
 | _=>[]
def C.touch:C → List Nat
 | .one s=>s.touch
 | .agg l=>l.flatMap S.touch
 | _=>[]
def S.noOwn:S → Bool
 | .own _=>false
 | _=>true
def C.noOwn:C → Bool
 | .one s=>s.noOwn
 | .agg l=>l.all S.noOwn
 | _=>true
def zT (id:Nat) (rs:List (Bool × List RK)):List K1:=rkK id (rs.flatMap Prod.snd)
section
variable {ρ:Type} (ty:Nat → Option TI) (fn:Nat → Option FI) (cl:Nat → Hint → List DC → Out) (fail:ρ)
def JS (t:Nat) (st:St) (a:C) (K:Cls → C → ρ):ρ :=
 match ty t with
 | none=>fail
 | some ti =>
  match a with
  | .one (.ptr id off) =>
   match jp st.H id with
   | .live (.var _ cs)=>if off + ti.cts.length ≤ cs.length then K (.rv id) (mkC (jQ (some ti)) ((cs.drop off).take ti.cts.length)) else fail
   | _=>fail
  | .elS e x off =>
   match ty e with
   | some te=>if CT.sameL ((te.cts.drop off).take ti.cts.length) ti.cts then K .t (mkC (jQ (some ti)) (j4d ti.cts x off)) else fail
   | none=>fail
  | .elO e id ix off =>
   match ty (yz e),jp st.H id with
   | some te,.live (.row e' l)=>if e'=e ∧ hq e=false ∧ CT.sameL ((te.cts.drop off).take ti.cts.length) ti.cts ∧ (!(dp e) || ti.cts.all CT.flat)=true then K (.rv id) (mkC (jQ (some ti)) (j4d ti.cts (l.getD ix []) off)) else fail
   | some te,.live (.fz e' l)=>if e'=e ∧ dp e=false ∧ CT.sameL ((te.cts.drop off).take ti.cts.length) ti.cts then K (.rv id) (mkC (jQ (some ti)) (j4d ti.cts (l.getD ix []) off)) else fail
   | _,_=>fail
  | _=>fail
def yB:List CT → List DC → Nat → Nat → List HS → Option (List S × List HS)
 | [],_,_,_,H=>some ([],H)
 | .sl e :: ts,x,j,p,H =>
  match jp H p with
  | .free =>
   match yB ts x (j + 1) (p + 1) (jB H p (.live (.pt e (x.getD j d0).ll))) with
   | some (ss,H2)=>some (.own p :: ss,H2)
   | none=>none
  | _=>none
 | t :: ts,x,j,p,H =>
  match yB ts x (j + 1) p H with
  | some (ss,H2)=>some (j8s t (x.getD j d0) :: ss,H2)
  | none=>none
def slN:List CT → Nat
 | []=>0
 | .sl _ :: ts=>slN ts + 1
 | _ :: ts=>slN ts
def j1g (t:Nat) (a:C):Bool :=
 match a,ty t with
 | .elO e _ _ _,some ti=>dp e && !(ti.cts.all CT.flat)
 | _,_=>false
def V1 (t base:Nat) (H:List HS) (a:C) (K:Cls → List HS → C → ρ):ρ :=
 match ty t,a with
 | some ti,.elO e id ix 0 =>
  match ty (yz e),jp H id with
  | some te,.live (.row e' l) =>
   if e'=e ∧ dp e=true ∧ CT.sameL te.cts ti.cts=true ∧ jQ (some ti)=true then
    match hq e with
    | false =>
     match yB ti.cts (l.getD ix []) 0 base (jB H id (.live (.hl e' l ix))) with
     | some (ss,H1)=>K (.wl (id :: List.range' base (slN ti.cts))) H1 (.agg ss)
     | none=>fail
    | true =>
     if 0 < (l.getD ix []).length then
      match yB ti.cts (l.getD ix []) 0 base (jB H id (.live (.row e' (l.set ix [])))) with
      | some (ss,H1)=>K (.wl (id :: List.range' base (slN ti.cts))) H1 (.agg ss)
      | none=>fail
     else fail
   else fail
  | _,_=>fail
 | _,_=>fail
def yC (t:Nat) (st:St) (a v:C) (K:List HS → ρ):ρ :=
 match ty t,v.cells with
 | some ti,some ss =>
  if ss.length=ti.cts.length ∧ 0 < ss.length then
   match a with
   | .one (.ptr id off) =>
    match jp st.H id with
    | .live (.var t' cs)=>if off + ss.length ≤ cs.length then K (jB st.H id (.live (.var t' (XV cs off ss)))) else fail
    | _=>fail
   | .elO e id ix off =>
    match ty (yz e),QE ty (dp e) st.H ti.cts ss with
    | some te,some (ds,H1) =>
     if CT.sameL ((te.cts.drop off).take ti.cts.length) ti.cts then
      match jp H1 id with
      | .live (.row e' l)=>if e'=e ∧ hq e'=false then K (jB H1 id (.live (.row e' (l.set ix (j03 (l.getD ix []) off ds))))) else fail
      | .live (.hl e' l ix')=>if e'=e ∧ ix'=ix ∧ off=0 ∧ te.cts.length=ti.cts.length then K (jB H1 id (.live (.row e' (l.set ix ds)))) else fail
      | _=>fail
     else fail
    | _,_=>fail
   | _=>fail
  else fail
 | _,_=>fail
def Yn (op:BinOp) (t:Nat) (x y:C) (K:C → ρ):ρ :=
 match x,y with
 | .one (.int k a),.one (.int k' b) =>
  match op with
  | .shl=>if b < 0 then fail else K (.one (.int k (k.wrap (a * 2 ^ (min b.toNat k.bits)))))
  | .shr=>if b < 0 then fail else K (.one (.int k (a.fdiv (2 ^ (min b.toNat k.bits)))))
  | .quo=>if k'=k then (if b=0 then fail else K (.one (.int k (k.wrap (a.tdiv b))))) else fail
  | .rem=>if k'=k then (if b=0 then fail else K (.one (.int k (a.tmod b)))) else fail
  | op=>if k'=k then (match j5a op k a b with | some s=>K (.one s) | none=>fail) else fail
 | .one (.str a),.one (.str b) =>
  match op with
  | .add=>if a.length + b.length < jT then K (.one (.str (a ++ b))) else fail
  | op=>(match j4L op a b with | some s=>K (.one s) | none=>fail)
 | .one (.bool a),.one (.bool b) =>
  match ty t,op with
  | some { kd:=.bool,.. },.eql=>K (.one (.bool (a == b)))
  | some { kd:=.bool,.. },.neq=>K (.one (.bool (!(a == b))))
  | _,_=>fail
 | .agg l,.agg m =>
  match op,zO l m,ty t with
  | .eql,some r,some ti=>if ti.eq=true ∧ l.length=ti.cts.length ∧ m.length=ti.cts.length ∧ zU ti.cts l=true ∧ zU ti.cts m=true then K (.one (.bool r)) else fail
  | .neq,some r,some ti=>if ti.eq=true ∧ l.length=ti.cts.length ∧ m.length=ti.cts.length ∧ zU ti.cts l=true ∧ zU ti.cts m=true then K (.one (.bool (!r))) else fail
  | _,_,_=>fail
 | _,_=>fail
def K3 (src dst:Nat) (st:St) (x:C) (K:Cls → List HS → C → ρ):ρ :=
 match ty src,ty dst with
 | some a,some b =>
  match a.kd,b.kd,x with
  | .int _,.int k,.one (.int _ n)=>K .t st.H (.one (.int k (k.wrap n)))
  | .str,.str,.one (.str l)=>K .t st.H (.one (.str l))
  | .slice e,.str,.one s =>
   match ty e,za st.H s with
   | some { kd:=.int .u8,.. },some (e',l)=>if e'=e then K .r st.H (.one (.str (KH l))) else fail
   | some { kd:=.int .u8,.. },none=>(match s with | .nil=>K .t st.H (.one (.str [])) | _=>fail)
   | _,_=>fail
  | _,_,_=>fail
 | _,_=>fail
def Yi {α:Type} (lo hi:Option C) (l:List α) (k:List α → ρ):ρ :=
 match lo,hi with
 | none,none=>k l
 | some (.one (.int _ a)),none=>if 0 ≤ a ∧ a ≤ (l.length:Int) then k (l.drop a.toNat) else fail
 | none,some (.one (.int _ b))=>if 0 ≤ b ∧ b ≤ (l.length:Int) then k (l.take b.toNat) else fail
 | some (.one (.int _ a)),some (.one (.int _ b))=>if 0 ≤ a ∧ a ≤ b ∧ b ≤ (l.length:Int) then k ((l.take b.toNat).drop a.toNat) else fail
 | _,_=>fail
def zo (t:Nat) (st:St) (x:C) (lo hi:Option C) (K:Cls → List HS → C → ρ):ρ :=
 match ty t with
 | some ti =>
  match ti.kd,x with
  | .str,.one (.str l)=>Yi fail lo hi l fun l'=>K .t st.H (.one (.str l'))
  | .slice e,.one (.sl e' l)=>if e'=e ∧ (ty e).isSome=true then Yi fail lo hi l fun l'=>K .t st.H (.one (.sl e l')) else fail
  | .slice e,.one (.own id) =>
   match jp st.H id with
   | .live (.row e' l)=>if yz e'=e ∧ hq e'=false ∧ (ty e).isSome=true then Yi fail lo hi l fun l'=>K .w (jB st.H id (.live (.fz e l))) (.one (.sl e l')) else fail
   | .live (.fz e' l)=>if e'=e ∧ (ty e).isSome=true then Yi fail lo hi l fun l'=>K (.rv id) st.H (.one (.sl e' l')) else fail
   | _=>fail
  | _,_=>fail
 | none=>fail
def yH (e0:Nat) (st:St) (x i:C) (K:Cls → C → ρ):ρ :=
 match i with
 | .one (.int _ n) =>
  match x with
  | .one (.sl e l)=>if e=e0 ∧ 0 ≤ n ∧ n < (l.length:Int) then K .t (.elS e (l.getD n.toNat []) 0) else fail
  | .one (.own id) =>
   match jp st.H id with
   | .live (.row e l)=>if yz e=e0 ∧ 0 ≤ n ∧ n < (l.length:Int) then K (.rv id) (.elO e id n.toNat 0) else fail
   | .live (.fz e l)=>if e=e0 ∧ 0 ≤ n ∧ n < (l.length:Int) then K (.rv id) (.elS e (l.getD n.toNat []) 0) else fail
   | .live (.hl e l _)=>if yz e=e0 ∧ 0 ≤ n ∧ n < (l.length:Int) then K (.rv id) (.elO e id n.toNat 0) else fail
   | _=>fail
  | _=>fail
 | _=>fail
def Jq (st:St) (x:C) (K:Cls → C → ρ):ρ :=
 match x with
 | .one (.str l)=>K .t (.one (.int .i64 (l.length:Int)))
 | .one .nil=>K .t (.one (.int .i64 0))
 | .one (.sl _ l)=>K .t (.one (.int .i64 (l.length:Int)))
 | .one (.own id) =>
  match jp st.H id with
  | .live (.row _ l)=>K (.rv id) (.one (.int .i64 (l.length:Int)))
  | .live (.fz _ l)=>K (.rv id) (.one (.int .i64 (l.length:Int)))
  | _=>fail
 | _=>fail
def JR (H:List HS) (e:Nat):C → Option (List (List DC) × List HS)
 | .one .nil=>some ([],H)
 | .one (.own id) =>
  match jp H id with
  | .live (.row e' l)=>if e'=e ∧ hq e'=false then some (l,jB H id .dead) else none
  | _=>none
 | _=>none
def j0e (ty:Nat → Option TI) (H:List HS) (t u e:Nat) (te:TI):C → Option (List (List DC))
 | .one .nil=>if u=t then some [] else none
 | .one (.str l) =>
  match te.kd,ty u with
  | .int .u8,some { kd:=.str,.. }=>if te.bytes=1 then some (JW l) else none
  | _,_=>none
 | .one s =>
  match za H s with
  | some (e'',l)=>if u=t ∧ e''=e then some l else none
  | none=>none
 | _=>none
def j9V (H:List HS):C → Bool
 | .one (.own id) =>
  match jp H id with
  | .live (.row e _)=>dp e
  | _=>false
 | _=>false
def px (t u:Nat) (base:Nat) (st:St) (x y:C) (K:List HS → C → ρ):ρ :=
 match Jc (ty t) with
 | none=>fail
 | some e =>
  match ty e with
  | none=>fail
  | some te =>
   if te.bytes ≤ 1024 ∧ 0 < te.cts.length ∧ dp e=false then
    match j9V st.H x || j9V st.H y with
    | false =>
     match JR st.H e x,j0e ty st.H t u e te y with
     | some (l,H1),some m =>
      match jp H1 base with
      | .free=>if l.length + m.length < jT then K (jB H1 base (.live (.row e (l ++ m)))) (.one (.own base)) else fail
      | _=>fail
     | _,_=>fail
    | true =>
     match JR st.H (up e) x with
     | some (l,H1) =>
      match JR H1 (up e) y with
      | some (m,H2) =>
       match jp H2 base with
       | .free=>if l.length + m.length < jT ∧ u=t then K (jB H2 base (.live (.row (up e) (l ++ m)))) (.one (.own base)) else fail
       | _=>fail
      | none=>fail
     | none=>fail
   else fail
def yM (H:List HS) (ss:List S):List (Nat × Nat) → Option (List (Option (Nat × Nat) × List (List DC)))
 | []=>some []
 | (off,e) :: ps =>
  match ss.getD off .undef with
  | .own id =>
   match jp H id with
   | .live (.row e' l) =>
    if yz e'=e ∧ pq e'=false ∧ hq e'=false ∧ (dp e' || Xw ty e)=true then
     match yM H ss ps with
     | some r=>some ((some (id,e'),l) :: r)
     | none=>none
    else none
   | .live (.pt e' l) =>
    if e'=e ∧ dp e'=false then
     match yM H ss ps with
     | some r=>some ((some (id,e' + 2000),l) :: r)
     | none=>none
    else none
   | _=>none
  | .nil =>
   match yM H ss ps with
   | some r=>some ((none,[]) :: r)
   | none=>none
  | _=>none
def yQ:List (Option (Nat × Nat)) → List (List (List DC)) → List HS → List HS
 | some (id,e) :: rs,l :: ls,H=>yQ rs ls (jB H id (.live (kS e l)))
 | none :: rs,_ :: ls,H=>yQ rs ls H
 | _,_,H=>H
def zG:List (Option (Nat × Nat)) → List Nat
 | some (id,_) :: rs=>id :: zG rs
 | none :: rs=>zG rs
 | []=>[]
def j57 (agg:Bool) (n:Nat):C → Option (List S)
 | .one s=>if agg=false ∧ n=1 ∧ s.isDef=true then some [s] else none
 | .agg l=>if agg=true ∧ l.length=n ∧ l.all S.isDef=true then some l else none
 | _=>none
def j7O (H:List HS) (m:MK) (args:List C):Option (List HS × C) :=
 match args with
 | [x,.one (.int .i64 k)] =>
  match j57 m.agg m.n x with
  | some ss =>
   match yM ty H ss m.parts with
   | some rows =>
    match y6 (zG (rows.map Prod.fst)),m.run (rows.map Prod.snd) k with
    | true,some (ls,k')=>if ls.length=rows.length then some (yQ (rows.map Prod.fst) ls H,.one (.int .i64 k')) else none
    | _,_=>none
   | none=>none
  | none=>none
 | _=>none
def j4z (ls:List (List (List DC))):Nat → List (Option (Nat × Nat)) → List HS → List HS
 | _,[],H=>H
 | j,some (id,e) :: rs,H=>j4z ls (j + 1) rs (jB H id (.live (kS e (ls.getD j []))))
 | j,none :: rs,H=>j4z ls (j + 1) rs H
def j9P (o:Option (List (List (List DC)) × Int)) (n:Nat) (K:List (List (List DC)) → Int → ρ):ρ :=
 match o with
 | some (ls,k')=>if ls.length=n then K ls k' else fail
 | none=>fail
def j4n (H:List HS) (m:MK) (args:List C) (K:List HS → C → ρ):ρ :=
 match args with
 | [x,.one (.int .i64 k)] =>
  match j57 m.agg m.n x with
  | some ss =>
   match yM ty H ss m.parts with
   | some rows =>
    match y6 (zG (rows.map Prod.fst)) with
    | true=>j9P fail (m.run (rows.map Prod.snd) k) rows.length fun ls k'=>K (j4z ls 0 (rows.map Prod.fst) H) (.one (.int .i64 k'))
    | false=>fail
   | none=>fail
  | none=>fail
 | _=>fail
def qG (base:Nat) (st:St) (f:Nat) (caps:List Nat) (args:List C) (K:List HS → C → ρ):ρ :=
 match fn f with
 | none=>fail
 | some fi =>
  match fi.stf with
  | some q=>(match caps with | []=>(match q base st.H args with | some r=>if r.1 < jT then K r.2.1 r.2.2 else fail | none=>fail) | _=>fail)
  | none =>
  match fi.mark with
  | some m=>(match caps with | []=>j4n ty fail st.H m args K | _=>fail)
  | none =>
  let as:=args ++ caps.map (fun id=>C.one (.ptr id 0))
  let ids:=pV fi.pk as
  match yX 0 ids.length fi.pk as,j1X ty st.H ids with
  | some kcs,some kos =>
   match Jz (kcs.map KC.data) as,Vu st.H ids kos with
   | some p,some q =>
    match pT ty st.H (kcs.flatMap (fun k=>k.data.kinds) ++ kos.flatMap KO.kinds) (p ++ q) with
    | some (v,H1) =>
     if (y6 ids && caps.all (j59 st.H) && ({ tm:=kcs,ob:=kos ++ List.replicate (fi.pk.filter PK.isMv).length .u }:Hint).ok)=true then
      match cl f { tm:=kcs,ob:=kos ++ List.replicate (fi.pk.filter PK.isMv).length .u } v with
      | .ret r =>
       match fi.rk.all (fun r=>r.2.all (RK.flat ty)) && fi.pk.all PK.plain with
       | true =>
        (match pY r 0 (zT base fi.rk) st.H with
        | some H2=>K H2 (j71 r base fi.rk)
        | none=>fail)
       | false =>
        (match pY r 0 (zT base fi.rk) (qU r (VB (zT base fi.rk)) ids kos H1) with
        | some H2=>K H2 (j71 r base fi.rk)
        | none=>fail)
      | _=>fail
     else fail
    | none=>fail
   | _,_=>fail
  | _,_=>fail
def JX (base:Nat) (ps:List (Nat × C)):Cls :=
 match ps.all fun p=>p.2.noOwn with
 | true=>.nb base
 | false=>.wl (base :: ps.flatMap fun p=>p.2.touch)
@[simp] theorem jdP (b:Nat) (ps:List (Nat × C)):(JX b ps = .t)=False:=by unfold JX; split <;> simp
@[simp] theorem jdQ (b:Nat) (ps:List (Nat × C)):(JX b ps = .r)=False:=by unfold JX; split <;> simp
@[simp] theorem jdO (b:Nat) (ps:List (Nat × C)):(JX b ps = .w)=False:=by unfold JX; split <;> simp
@[simp] theorem jdR (b:Nat) (ps:List (Nat × C)):(JX b ps = .n)=False:=by unfold JX; split <;> simp
@[simp] theorem jdC (b i:Nat) (ps:List (Nat × C)):(JX b ps = .rv i)=False:=by unfold JX; split <;> simp
@[simp] theorem jdB (b i:Nat) (ps:List (Nat × C)):(JX b ps = .st i)=False:=by unfold JX; split <;> simp
theorem j6z {b:Nat} {ps:List (Nat × C)} {l:List Nat} (h:JX b ps = .wl l):l=b :: ps.flatMap fun p=>p.2.touch:=by
 unfold JX at h
 split at h <;> simp at h
 exact h.symm
theorem jaf {b i:Nat} {ps:List (Nat × C)} (h:JX b ps = .nb i):i=b ∧ ps.all (fun p=>p.2.noOwn)=true:=by
 unfold JX at h
 split at h <;> simp at h
 rename_i hx
 exact ⟨h.symm,hx⟩
def XT:C → Cls
 | .one (.ptr id _)=>.st id
 | _=>.w
def X6 (H:List HS) (ids:List Nat):Bool :=
 ids.all fun id=>match jp H id with
  | .live (.var _ cs)=>cs.all S.noOwn
  | _=>false
def pQ (base f:Nat) (caps:List Nat) (args:List C) (H:List HS):Cls :=
 match fn f with
 | none=>.w
 | some fi =>
  match fi.stf with
  | some _=>.w
  | none =>
  match fi.mark with
  | some _=>.w
  | none =>
  match caps,pV fi.pk args,args.all C.noOwn,fi.rk.all (fun r=>r.2.all RK.isCt) with
  | [],[],true,true=>.t
  | [],[],_,_=>.wl (args.flatMap C.touch ++ (zT base fi.rk).flatMap K1.ids)
  | [],ids,_,_ =>
   (match X6 H ids with
   | true=>.wl (args.flatMap C.touch ++ ((zT base fi.rk).flatMap K1.ids ++ ids))
   | false=>.w)
  | _,_,_,_=>.w
def stepV (base:Nat) (o:Oper) (tm:List C) (H:List HS) (K:Cls → List HS → C → ρ):ρ :=
 match o.op with
 | .move x=>K .t H (opd tm x)
 | .assign x=>K .t H (opd tm x)
 | .pick c a b =>
  match opd tm c with
  | .one (.bool c) =>
   (match opd tm a,opd tm b with
   | .one a,.one b =>
    (match j9A c a b with
    | some s=>K .t H (.one s)
    | none=>if c=true then K .t H (.one a) else K .t H (.one b))
   | x,y=>if c=true then K .t H x else K .t H y)
  | _=>fail
 | .alloc t =>
  match ty t,jp H base with
  | some ti,.free=>K (.nb base) (jB H base (.live (.var t (ti.cts.map j5q)))) (.one (.ptr base 0))
  | _,_=>fail
 | .box t x =>
  match ty t,(opd tm x).cells,jp H base with
  | some ti,some ss,.free=>if ss.length=ti.cts.length then K (.nb base) (jB H base (.live (.var t ss))) (.one (.ptr base 0)) else fail
  | _,_,_=>fail
 | .build t parts =>
  match ty t with
  | some ti =>
   match j1w ti.flds (ti.cts.map j5q) (parts.toList.map fun p=>(p.1,opd tm p.2)) with
   | some ss=>if jQ (some ti) then K .t H (.agg ss) else fail
   | none=>fail
  | none=>fail
 | .buildSlice t n parts =>
  match Jc (ty t) with
  | some e =>
   match ty e with
   | some te =>
    match yi ty (Nat.beq (base % 2) 1) H te.cts 0 (parts.toList.map fun p=>(p.1,opd tm p.2)) with
    | some (l,H1) =>
     match jp H1 base with
     | .free=>if l.length=n ∧ n ≤ 10000 ∧ 0 < te.cts.length ∧ te.cts.length ≤ 1024 ∧ dp e=false then K (JX base (parts.toList.map fun p=>(p.1,opd tm p.2))) (jB H1 base (.live (.row (upE base e) l))) (.one (.own base)) else fail
     | _=>fail
    | none=>fail
   | none=>fail
  | none=>fail
 | .load t a =>
  match j1g ty t (opd tm a) with
  | true=>V1 ty fail t base H (opd tm a) K
  | false=>JS ty fail t ⟨tm,H⟩ (opd tm a) fun c v=>K c H v
 | .store t a v =>
  match o.dst with
  | none=>yC ty fail t ⟨tm,H⟩ (opd tm a) (opd tm v) fun H=>K (XT (opd tm a)) H (.one .undef)
  | some _=>fail
 | .nilCheck x =>
  match opd tm x with
  | .one (.ptr id off)=>(match jp H id with | .live (.var _ _)=>K (.rv id) H (.one (.ptr id off)) | _=>fail)
  | _=>fail
 | .binOp op t x y _=>Yn ty fail op t (opd tm x) (opd tm y) fun v=>K .t H v
 | .unOp op _ x =>
  match op,opd tm x with
  | .not,.one (.bool b)=>K .t H (.one (.bool (!b)))
  | .neg,.one (.int k n)=>K .t H (.one (.int k (k.wrap (0 - n))))
  | _,_=>fail
 | .convert src dst x=>K3 ty fail src dst ⟨tm,H⟩ (opd tm x) K
 | .makeFunc fn' first captured =>
  match fn',first.toList with
  | .func f,[] =>
   match (yE tm captured.toList).mapM (fun c=>match c with | C.one (.ptr id 0)=>some id | _=>none) with
   | some ids=>K .t H (.one (.fn f ids))
   | none=>fail
  | _,_=>fail
 | .makeSlice t n m =>
  match Jc (ty t),opd tm n,opd tm m with
  | some e,.one (.int .i64 a),.one (.int .i64 b) =>
   match ty e,jp H base with
   | some te,.free=>if 0 ≤ a ∧ a < (jT:Int) ∧ b=a ∧ te.bytes ≤ 1024 ∧ 0 < te.cts.length ∧ dp e=false then K .w (jB H base (.live (.row (upE base e) (List.replicate a.toNat (te.cts.map j3S))))) (.one (.own base)) else fail
   | _,_=>fail
  | _,_,_=>fail
 | .slice t x lo hi mx =>
  match mx with
  | none=>zo ty fail t ⟨tm,H⟩ (opd tm x) (lo.map (opd tm)) (hi.map (opd tm)) K
  | some _=>fail
 | .fieldAddr t x j =>
  match ty t with
  | some ti =>
   match ti.flds[j]? with
   | some (off,n,_) =>
    if 0 < n ∧ jQ (some ti)=true then
     match opd tm x with
     | .one (.ptr id o')=>(match jp H id with | .live (.var _ _)=>K (.rv id) H (.one (.ptr id (o' + off))) | _=>fail)
     | .elS e y o'=>K .t H (.elS e y (o' + off))
     | .elO e id ix o'=>(match jp H id with | .live (.row _ _)=>K (.rv id) H (.elO e id ix (o' + off)) | _=>fail)
     | _=>fail
    else fail
   | none=>fail
  | none=>fail
 | .field t x j =>
  match ty t,opd tm x with
  | some ti,.agg l =>
   match ti.flds[j]? with
   | some (off,n,a)=>if off + n ≤ l.length ∧ 0 < n ∧ jQ (some ti)=true then K .t H (mkC a ((l.drop off).take n)) else fail
   | none=>fail
  | _,_=>fail
 | .indexAddr t x i =>
  match Jc (ty t) with
  | some e=>yH fail e ⟨tm,H⟩ (opd tm x) (opd tm i) fun c v=>K c H v
  | none=>fail
 | .index t x i =>
  match ty t,opd tm x,opd tm i with
  | some { kd:=.str,.. },.one (.str l),.one (.int _ n)=>if 0 ≤ n ∧ n < (l.length:Int) then K .t H (.one (.int .u8 ((l.getD n.toNat 0).toNat:Int))) else fail
  | _,_,_=>fail
 | .extract x j =>
  match opd tm x with
  | .tup l =>
   match l[j]? with
   | some (a,ss)=>K .t H (mkC a ss)
   | none=>fail
  | _=>fail
 | .call c =>
  match c.callee with
  | .value f =>
   match opd tm f with
   | .one (.fn f caps)=>qG ty fn cl fail base ⟨tm,H⟩ f caps (yE tm c.args.toList) fun H' v=>K (pQ fn base f caps (yE tm c.args.toList) H) H' v
   | _=>fail
  | .builtin b =>
   match b,yE tm c.args.toList with
   | .len,[x] =>
    (match c.argTypes.toList with
    | [t]=>(match ty t with
     | some { kd:=.str,.. }=>(match x with | .one (.str _)=>Jq fail ⟨tm,H⟩ x fun cl v=>K cl H v | _=>fail)
     | some { kd:=.slice _,.. }=>(match x with | .one (.str _)=>fail | _=>Jq fail ⟨tm,H⟩ x fun cl v=>K cl H v)
     | _=>fail)
    | _=>fail)
   | .min,[.one (.int k x),.one (.int _ y)]=>K .t H (.one (.int k (if y < x then y else x)))
   | .max,[.one (.int k x),.one (.int _ y)]=>K .t H (.one (.int k (if x < y then y else x)))
   | .append,[x,y] =>
    (match c.argTypes.toList with
    | [t,u]=>px ty fail t u base ⟨tm,H⟩ x y fun H v=>K (.wl (base :: (x.touch ++ y.touch))) H v
    | _=>fail)
   | _,_=>fail
  | _=>fail
 | _=>fail
def Z8 (base:Nat) (o:Oper) (st:St) (K:Cls → St → ρ):ρ :=
 stepV ty fn cl fail base o st.tm st.H fun c H v=>K c { tm:=ka st.tm o.dst v,H:=H }
def opR (all:Array Oper) (base:Nat) (o:Oper) (st:St) (K:Cls → St → ρ):ρ :=
 match o.guard with
 | none=>Z8 ty fn cl fail base o st K
 | some (j,want) =>
  match (all[j]?).bind (·.dst) with
  | none=>fail
  | some d =>
   match jaW st.tm d with
   | .one (.bool b) =>
    if b=true then
     (match want with
     | true=>Z8 ty fn cl fail base o { tm:=j8n (.one (.bool true)) st.tm d,H:=st.H } K
     | false=>K .t { tm:=ka (j8n (.one (.bool true)) st.tm d) o.dst (.tup []),H:=st.H })
    else
     (match want with
     | false=>Z8 ty fn cl fail base o { tm:=j8n (.one (.bool false)) st.tm d,H:=st.H } K
     | true=>K .t { tm:=ka (j8n (.one (.bool false)) st.tm d) o.dst (.tup []),H:=st.H })
   | .tup []=>K .t { tm:=ka st.tm o.dst (.tup []),H:=st.H }
   | _=>fail
def runR (all:Array Oper):List (Oper × Nat) → List Cls → St → (List Cls → St → ρ) → ρ
 | [],acc,st,K=>K acc.reverse st
 | (o,base) :: rest,acc,st,K=>opR ty fn cl fail all base o st fun c st'=>frc st'.tm fun tm=>runR all rest (c :: acc) ⟨tm,st'.H⟩ K
end
def KB:List Oper → List Nat → List (Oper × Nat)
 | [],_=>[]
 | o :: l,ids=>(o,ids.headD 0) :: KB l (ids.drop 1)
def Cls.free:Cls → Cls → Bool
 | .t,_=>true
 | _,.t=>true
 | .r,.r=>true
 | .r,.n=>true
 | .r,.nb _=>true
 | .n,.n=>true
 | .r,.rv _=>true
 | .rv _,.r=>true
 | .rv _,.rv _=>true
 | .rv _,.n=>true
 | .rv i,.st j=>!(Nat.beq i j)
 | .st i,.rv j=>!(Nat.beq i j)
 | .st i,.st j=>!(Nat.beq i j)
 | .rv j,.wl l=>!(l.any (Nat.beq j))
 | .wl l,.rv j=>!(l.any (Nat.beq j))
 | .nb i,.nb j=>!(Nat.beq i j)
 | .rv j,.nb i=>!(Nat.beq i j)
 | .nb i,.rv j=>!(Nat.beq i j)
 | .wl l,.nb i=>!(l.any (Nat.beq i))
 | .nb i,.wl l=>!(l.any (Nat.beq i))
 | .nb i,.st j=>!(Nat.beq i j)
 | .st i,.nb j=>!(Nat.beq i j)
 | _,_=>false
def j2z (ops:Array Oper):List (Nat × Nat) :=
 (List.range ops.size).flatMap fun j=>((List.range j).filter fun i=>!(((Region.before ops).getD j 0).testBit i)).map fun i=>(i,j)
def j6m (ops:Array Oper):Bool :=
 ((List.range ops.size).all fun j=>(ops.getD j default).after.toList.all fun e=>!Region.binds .any e || Nat.blt e.on j) && (j2z ops).all fun p=>Oper.apart ops (ops.getD p.1 default) (ops.getD p.2 default)
def KW (ops:Array Oper) (cls:List Cls):Bool :=
 j6m ops && (j2z ops).all fun p=>Cls.free (cls.getD p.1 .w) (cls.getD p.2 .w)
def qh (ty:Nat → Option TI) (mm:Nat) (h:Hint) (st:St):Out :=
 match j0d ty mm h st with
 | some v=>.norm v
 | none=>.fail
def pU (F:List DC → Out):Nat → List DC → Out
 | 0,_=>.fail
 | n + 1,v=>(F v).andThen (pU F n)
def segR (ty:Nat → Option TI) (fn:Nat → Option FI) (cl:Nat → Hint → List DC → Out) (mm:Nat) (ops:Array Oper):List (Nat × Hint) → List (Oper × Nat) → St → (St → Out) → Out
 | [],l,st,K=>runR ty fn cl Out.fail ops l [] st fun _ st'=>K st'
 | (n,h) :: segs,l,st,K=>(runR ty fn cl Out.fail ops (l.take n) [] st fun _ st'=>qh ty mm h st').andThen fun v=>segR ty fn cl mm ops segs (l.drop n) (KJ h v) K
section
variable (ty:Nat → Option TI) (fn:Nat → Option FI) (cl:Nat → Hint → List DC → Out) (mm lf:Nat) (rt:St → Out)
def exec:AC → (Nat → Option Hint) → St → (St → Out) → Out
 | .skip,_,st,K=>K st
 | .region _ ops draw ids none,_,st,K =>
  runR ty fn cl Out.fail ops (KB ops.toList ids) [] st fun cs st' =>
   match draw && !(KW ops cs) with
   | true=>.fail
   | false=>K st'
 | .region _ ops draw ids (some h),_,st,K =>
  (runR ty fn cl Out.fail ops (KB ops.toList ids) [] st fun cs st' =>
   match draw && !(KW ops cs) with
   | true=>.fail
   | false=>qh ty mm h st').andThen fun v=>K (KJ h v)
 | .rcut _ ops ids segs,_,st,K=>segR ty fn cl mm ops segs (KB ops.toList ids) st K
 | .seq a b,Γ,st,K=>exec a Γ st fun st'=>exec b Γ st' K
 | .cond c x y none,Γ,st,K =>
  match opd st.tm c with
  | .one (.bool b)=>if b=true then exec x Γ st K else exec y Γ st K
  | _=>.fail
 | .cond c x y (some h),Γ,st,K =>
  match opd st.tm c with
  | .one (.bool b)=>(if b=true then exec x Γ st (qh ty mm h) else exec y Γ st (qh ty mm h)).andThen fun v=>K (KJ h v)
  | _=>.fail
 | .block id body h,Γ,st,K =>
  (exec body (fun j=>if j=id then some h else Γ j) st (qh ty mm h)).andThenB id fun v=>K (KJ h v)
 | .loop body h,Γ,st,_ =>
  match j0d ty mm h st with
  | some v=>pU (fun v=>exec body Γ (KJ h v) (qh ty mm h)) lf v
  | none=>.fail
 | .exit id,Γ,st,_ =>
  match Γ id with
  | some h =>
   (match j0d ty mm h st with
   | some v=>.ex id v
   | none=>.fail)
  | none=>.fail
 | .ret,_,st,_=>rt st
end
def yD (fi:FI) (h:Hint) (v:List DC):St :=
 let s:=KJ h v
 { tm:=s.tm ++ List.replicate (fi.ntmps - s.tm.length) (.one .undef),H:=s.H ++ List.replicate (fi.nobj - s.H.length) .free }
def Vv (ty:Nat → Option TI) (st:St):List ResultVar → List (Bool × List RK) → Option (List S)
 | [],[]=>some []
 | .tmp t :: rs,(a,ks) :: kss =>
  match st.tm.getD t (.one .undef),a,Vv ty st rs kss with
  | .one s,false,some l=>if ks.length=1 then some (s :: l) else none
  | .agg ss,true,some l=>if ss.length=ks.length then some (ss ++ l) else none
  | _,_,_=>none
 | .cell p t :: rs,(a,ks) :: kss =>
  match st.tm.getD p (.one .undef),ty t,Vv ty st rs kss with
  | .one (.ptr id 0),some ti,some l =>
   (match jp st.H id with
   | .live (.var _ cs)=>if cs.length=ti.cts.length ∧ cs.length=ks.length ∧ jQ (some ti)=a then some (cs ++ l) else none
   | _=>none)
  | _,_,_=>none
 | _,_=>none
def JF (ty:Nat → Option TI) (fi:FI) (h:Hint) (st:St):Out :=
 match Vv ty st fi.res fi.rk,j02 st.H 0 (KO.vars h.ob) with
 | some p,some q =>
  match pT ty st.H (zT 0 fi.rk ++ (KO.vars h.ob).flatMap KO.kinds) (p ++ q) with
  | some (v,_)=>.ret v
  | none=>.fail
 | _,_=>.fail
def zg (cfg:Cfg):Nat → Nat → Hint → List DC → Out
 | 0,_,_,_=>.fail
 | k + 1,f,h,v =>
  match cfg.fn f with
  | none=>.fail
  | some fi =>
   match fi.prim with
   | some p=>(match p h v with | some r=>.ret r | none=>.fail)
   | none=>exec cfg.ty cfg.fn (zg cfg k) (KO.vars h.ob).length k (JF cfg.ty fi h) (fi.body h) (fun _=>none) (yD fi h v) (JF cfg.ty fi h)
end
section
variable (ty:Nat → Option TI)
mutual
inductive RdC (w:World):CT → DC → Value → List Nat → Prop
 | b (x:Bool):RdC w .b (.b x) (.bool x) []
 | i (k:IntKind) (n:Int):RdC w (.i k) (.i n) (.int k n) []
 | s (l:List UInt8):RdC w .s (.s l) (.string ⟨l.toArray⟩) []
 | nil (e:Nat) (a:Option Addr) (c:Nat):RdC w (.sl e) (.sl []) (.slice a 0 c) []
 | sl (e:Nat) (ti:TI) (b off n cap:Nat) (l:List (List DC)) (vs:List Value) (F:List Nat):ty e=some ti → 0 < ti.cts.length → n=l.length → l ≠ [] → n ≤ cap →
   (∀ (j:Nat) (v:Value),vs[j]? = some v → w.cell? ⟨b,off + j,none⟩=some v) → RdV w ti.cts l vs F →
   RdC w (.sl e) (.sl l) (.slice (some ⟨b,off,none⟩) n cap) (b :: F)
inductive RdL (w:World):List CT → List DC → List Value → List Nat → Prop
 | nil:RdL w [] [] [] []
 | cons (t:CT) (ts:List CT) (x:DC) (xs:List DC) (v:Value) (vs:List Value) (F G:List Nat):RdC w t x v F → RdL w ts xs vs G → RdL w (t :: ts) (x :: xs) (v :: vs) (F ++ G)
inductive RdV (w:World):List CT → List (List DC) → List Value → List Nat → Prop
 | nil (ts:List CT):RdV w ts [] [] []
 | cons (ts:List CT) (x:List DC) (l:List (List DC)) (v vs:List Value) (F G:List Nat):RdL w ts x v F → RdV w ts l vs G → RdV w ts (x :: l) (v ++ vs) (F ++ G)
end
variable {ty}
mutual
theorem RdC.frame {w w':World}:∀ {t:CT} {d:DC} {v:Value} {F:List Nat},RdC ty w t d v F → (∀ b ∈ F,w'.heap[b]? = w.heap[b]?) → RdC ty w' t d v F
 | _,_,_,_,.b x,_=>.b x
 | _,_,_,_,.i k n,_=>.i k n
 | _,_,_,_,.s l,_=>.s l
 | _,_,_,_,.nil e a c,_=>.nil e a c
 | _,_,_,_,.sl e ti b off n cap l vs F h1 h0 h2 h3 h4 h5 h6,h =>
  .sl e ti b off n cap l vs F h1 h0 h2 h3 h4 (fun j v hv=>by rw [World.cell?_of_block (w:=w) (h b (by simp))]; exact h5 j v hv) (RdV.frame h6 fun c hc=>h c (by simp [hc]))
theorem RdL.frame {w w':World}:∀ {t:List CT} {d:List DC} {v:List Value} {F:List Nat},RdL ty w t d v F → (∀ b ∈ F,w'.heap[b]? = w.heap[b]?) → RdL ty w' t d v F
 | _,_,_,_,.nil,_=>.nil
 | _,_,_,_,.cons t ts x xs v vs F G h1 h2,h=>.cons t ts x xs v vs F G (RdC.frame h1 fun b hb=>h b (by simp [hb])) (RdL.frame h2 fun b hb=>h b (by simp [hb]))
theorem RdV.frame {w w':World}:∀ {t:List CT} {d:List (List DC)} {v:List Value} {F:List Nat},RdV ty w t d v F → (∀ b ∈ F,w'.heap[b]? = w.heap[b]?) → RdV ty w' t d v F
 | _,_,_,_,.nil ts,_=>.nil ts
 | _,_,_,_,.cons ts x l v vs F G h1 h2,h=>.cons ts x l v vs F G (RdL.frame h1 fun b hb=>h b (by simp [hb])) (RdV.frame h2 fun b hb=>h b (by simp [hb]))
end
theorem RdL.length {w:World}:∀ {ts:List CT} {x:List DC} {v:List Value} {F:List Nat},RdL ty w ts x v F → v.length=ts.length ∧ x.length=ts.length
 | _,_,_,_,.nil=>⟨rfl,rfl⟩
 | _,_,_,_,.cons _ _ _ _ _ _ _ _ _ h=>by have:=RdL.length h; simp [this.1,this.2]
theorem RdV.length {w:World}:∀ {ts:List CT} {l:List (List DC)} {v:List Value} {F:List Nat},RdV ty w ts l v F → v.length=l.length * ts.length
 | _,_,_,_,.nil ts=>by simp
 | _,_,_,_,.cons ts x l v vs F G h1 h2=>by
  have a:=(RdL.length h1).1
  have b:=RdV.length h2
  simp only [jj,jb,Nat.succ_mul,a,b]
  omega
theorem RdC.one {w:World} {t:CT} {d:DC} {v:Value} {F:List Nat} (h:RdC ty w t d v F):v.oneCell'=true:=by
 cases h <;> rfl
theorem RdC.cells {w:World} {t:CT} {d:DC} {v:Value} {F:List Nat} (h:RdC ty w t d v F):v.cells = #[v]:=by
 cases h <;> rfl
theorem RdL.one {w:World}:∀ {ts:List CT} {x:List DC} {v:List Value} {F:List Nat},RdL ty w ts x v F → ∀ u ∈ v,u.oneCell'=true
 | _,_,_,_,.nil=>fun _ h=>by cases h
 | _,_,_,_,.cons _ _ _ _ _ _ _ _ h1 h2=>fun u hu=>by
  rcases List.mem_cons.1 hu with rfl | hu
  ·exact h1.one
  ·exact RdL.one h2 u hu
theorem RdV.one {w:World}:∀ {ts:List CT} {l:List (List DC)} {v:List Value} {F:List Nat},RdV ty w ts l v F → ∀ u ∈ v,u.oneCell'=true
 | _,_,_,_,.nil _=>fun _ h=>by cases h
 | _,_,_,_,.cons _ _ _ _ _ _ _ h1 h2=>fun u hu=>by
  rcases List.mem_append.1 hu with hu | hu
  ·exact RdL.one h1 u hu
  ·exact RdV.one h2 u hu
theorem RdL.append {w:World}:∀ {ts:List CT} {x:List DC} {v:List Value} {F:List Nat} {ts':List CT} {x':List DC} {v':List Value} {F':List Nat},
  RdL ty w ts x v F → RdL ty w ts' x' v' F' → RdL ty w (ts ++ ts') (x ++ x') (v ++ v') (F ++ F')
 | _,_,_,_,_,_,_,_,.nil,h=>h
 | _,_,_,_,_,_,_,_,.cons t ts x xs v vs F G h1 h2,h=>by
  simp only [jh,jD]
  exact .cons _ _ _ _ _ _ _ _ h1 (RdL.append h2 h)
theorem RdV.append {w:World} {ts:List CT}:∀ {l:List (List DC)} {v:List Value} {F:List Nat} {l':List (List DC)} {v':List Value} {F':List Nat},
  RdV ty w ts l v F → RdV ty w ts l' v' F' → RdV ty w ts (l ++ l') (v ++ v') (F ++ F')
 | _,_,_,_,_,_,.nil _,h=>h
 | _,_,_,_,_,_,.cons _ x l v vs F G h1 h2,h=>by
  simp only [jh,jD]
  exact .cons _ _ _ _ _ _ _ h1 (RdV.append h2 h)
theorem RdV.at {w:World} {ts:List CT}:∀ {l:List (List DC)} {v:List Value} {F:List Nat},RdV ty w ts l v F → ∀ (j:Nat),j < l.length →
  ∃ (u:List Value) (G:List Nat),RdL ty w ts (l.getD j []) u G ∧ (∀ b ∈ G,b ∈ F) ∧ (∀ (i:Nat),i < ts.length → v[j * ts.length + i]? = u[i]?)
 | _,_,_,.nil _,j,h=>by simp at h
 | _,_,_,.cons _ x l v vs F G h1 h2,0,_=>⟨v,F,by simpa using h1,fun b hb=>by simp [hb],fun i hi=>by
   have:=(RdL.length h1).1
   rw [List.getElem?_append_left (by omega)]
   simp⟩
 | _,_,_,.cons _ x l v vs F G h1 h2,j + 1,h=>by
  obtain ⟨u,G',a,b,c⟩:=RdV.at h2 j (by simpa using h)
  have hl:=(RdL.length h1).1
  refine ⟨u,G',by simpa using a,fun k hk=>by simp [b k hk],fun i hi=>?_⟩
  rw [← c i hi,List.getElem?_append_right (by rw [hl,Nat.succ_mul]; omega)]
  congr 1
  rw [hl,Nat.succ_mul]
  omega
theorem RdV.set {w:World} {ts:List CT}:∀ {l:List (List DC)} {v:List Value} {F:List Nat},RdV ty w ts l v F → ∀ (j:Nat) (x:List DC) (u:List Value) (G:List Nat),RdL ty w ts x u G →
  j < l.length → ∃ F',RdV ty w ts (l.set j x) (v.take (j * ts.length) ++ (u ++ v.drop (j * ts.length + ts.length))) F' ∧ ∀ b ∈ F',b ∈ F ∨ b ∈ G
 | _,_,_,.nil _,j,_,_,_,_,h=>by simp at h
 | _,_,_,.cons _ x0 l v vs F G0 h1 h2,0,x,u,G,hx,_=>by
  have hl:=(RdL.length h1).1
  refine ⟨G ++ G0,?_,fun b hb=>?_⟩
  ·simp only [List.set_cons_zero,Nat.zero_mul,List.take_zero,jg,Nat.zero_add]
   rw [← hl,List.drop_left]
   exact .cons _ _ _ _ _ _ _ hx h2
  ·rcases List.mem_append.1 hb with hb | hb
   ·exact .inr hb
   ·exact .inl (by simp [hb])
 | _,_,_,.cons _ x0 l v vs F G0 h1 h2,j + 1,x,u,G,hx,h=>by
  obtain ⟨F',a,b⟩:=RdV.set h2 j x u G hx (by simpa using h)
  have hl:=(RdL.length h1).1
  refine ⟨F ++ F',?_,fun k hk=>?_⟩
  ·simp only [List.set_cons_succ]
   have e1:(v ++ vs).take ((j + 1) * ts.length)=v ++ vs.take (j * ts.length):=by
    rw [List.take_append,hl,List.take_of_length_le (by rw [hl,Nat.succ_mul]; omega)]
    congr 2
    rw [Nat.succ_mul]; omega
   have e2:(v ++ vs).drop ((j + 1) * ts.length + ts.length)=vs.drop (j * ts.length + ts.length):=by
    rw [List.drop_append,hl,List.drop_of_length_le (by rw [hl,Nat.succ_mul]; omega),jg]
    congr 1
    rw [Nat.succ_mul]; omega
   rw [e1,e2,jD]
   exact .cons _ _ _ _ _ _ _ h1 a
  ·rcases List.mem_append.1 hk with hk | hk
   ·exact .inl (by simp [hk])
   ·rcases b k hk with hb | hb
    ·exact .inl (by simp [hb])
    ·exact .inr hb
theorem RdV.take {w:World} {ts:List CT}:∀ {l:List (List DC)} {v:List Value} {F:List Nat},RdV ty w ts l v F → ∀ (j:Nat),
  ∃ F',RdV ty w ts (l.take j) (v.take (j * ts.length)) F' ∧ ∀ b ∈ F',b ∈ F
 | _,_,_,.nil _,j=>⟨[],by simp; exact .nil _,fun _ h=>by cases h⟩
 | _,_,_,.cons _ x0 l v vs F G0 h1 h2,0=>⟨[],by simp; exact .nil _,fun _ h=>by cases h⟩
 | _,_,_,.cons _ x0 l v vs F G0 h1 h2,j + 1=>by
  obtain ⟨F',a,b⟩:=RdV.take h2 j
  have hl:=(RdL.length h1).1
  refine ⟨F ++ F',?_,fun k hk=>?_⟩
  ·have e1:(v ++ vs).take ((j + 1) * ts.length)=v ++ vs.take (j * ts.length):=by
    rw [List.take_append,hl,List.take_of_length_le (by rw [hl,Nat.succ_mul]; omega)]
    congr 2
    rw [Nat.succ_mul]; omega
   rw [e1]
   exact .cons _ _ _ _ _ _ _ h1 a
  ·rcases List.mem_append.1 hk with hk | hk
   ·simp [hk]
   ·simp [b k hk]
theorem RdV.drop {w:World} {ts:List CT}:∀ {l:List (List DC)} {v:List Value} {F:List Nat},RdV ty w ts l v F → ∀ (j:Nat),
  ∃ F',RdV ty w ts (l.drop j) (v.drop (j * ts.length)) F' ∧ ∀ b ∈ F',b ∈ F
 | _,_,_,.nil _,j=>⟨[],by simp; exact .nil _,fun _ h=>by cases h⟩
 | _,_,_,.cons _ x0 l v vs F G0 h1 h2,0=>⟨F ++ G0,by simp; exact .cons _ _ _ _ _ _ _ h1 h2,fun _ h=>h⟩
 | _,_,_,.cons _ x0 l v vs F G0 h1 h2,j + 1=>by
  obtain ⟨F',a,b⟩:=RdV.drop h2 j
  have hl:=(RdL.length h1).1
  refine ⟨F',?_,fun k hk=>by simp [b k hk]⟩
  have e2:(v ++ vs).drop ((j + 1) * ts.length)=vs.drop (j * ts.length):=by
   rw [List.drop_append,hl,List.drop_of_length_le (by rw [hl,Nat.succ_mul]; omega),jg]
   congr 1
   rw [Nat.succ_mul]; omega
  rw [List.drop_succ_cons,e2]
  exact a
end
inductive RdH (ty:Nat → Option TI) (w:World) (ts:List CT):List (List DC) → List Value → List Nat → Prop
 | nil:RdH ty w ts [] [] []
 | gone (l:List (List DC)) (v vs:List Value) (G:List Nat):v.length=ts.length → RdH ty w ts l vs G → RdH ty w ts ([] :: l) (v ++ vs) G
 | cons (x:List DC) (l:List (List DC)) (v vs:List Value) (F G:List Nat):RdL ty w ts x v F → RdH ty w ts l vs G → RdH ty w ts (x :: l) (v ++ vs) (F ++ G)
section
variable {ty:Nat → Option TI}
theorem RdH.frame {w w':World} {t:List CT} {d:List (List DC)} {v:List Value} {F:List Nat} (h:RdH ty w t d v F) (hb:∀ b ∈ F,w'.heap[b]? = w.heap[b]?):RdH ty w' t d v F:=by
 induction h with
 | nil=>exact .nil
 | gone l v vs G h1 _ ih=>exact .gone l v vs G h1 (ih hb)
 | cons x l v vs F G h1 _ ih=>exact .cons x l v vs F G (h1.frame fun b k=>hb b (by simp [k])) (ih fun b k=>hb b (by simp [k]))
theorem RdH.length {w:World} {t:List CT} {d:List (List DC)} {v:List Value} {F:List Nat} (h:RdH ty w t d v F):v.length=d.length * t.length:=by
 induction h with
 | nil=>simp
 | gone l v vs G h1 _ ih=>simp only [jj,jb,Nat.succ_mul,h1,ih]; omega
 | cons x l v vs F G h1 _ ih=>simp only [jj,jb,Nat.succ_mul,(RdL.length h1).1,ih]; omega
theorem RdV.holes {w:World} {ts:List CT}:∀ {l:List (List DC)} {v:List Value} {F:List Nat},RdV ty w ts l v F → RdH ty w ts l v F
 | _,_,_,.nil ts=>.nil
 | _,_,_,.cons ts x l v vs F G h1 h2=>.cons x l v vs F G h1 (RdV.holes h2)
def RdR (ty:Nat → Option TI) (w:World) (e:Nat) (ts:List CT) (l:List (List DC)) (v:List Value) (F:List Nat):Prop :=
 match hq e with
 | false=>RdV ty w ts l v F
 | true=>RdH ty w ts l v F
theorem RdR.v {w:World} {e:Nat} {ts:List CT} {l:List (List DC)} {v:List Value} {F:List Nat} (h:RdR ty w e ts l v F) (hh:hq e=false):RdV ty w ts l v F:=by
 unfold RdR at h; rw [hh] at h; exact h
theorem RdR.h {w:World} {e:Nat} {ts:List CT} {l:List (List DC)} {v:List Value} {F:List Nat} (h:RdR ty w e ts l v F):RdH ty w ts l v F:=by
 unfold RdR at h
 split at h
 ·exact h.holes
 ·exact h
theorem RdR.of {w:World} {e:Nat} {ts:List CT} {l:List (List DC)} {v:List Value} {F:List Nat} (h:RdV ty w ts l v F):RdR ty w e ts l v F:=by
 unfold RdR
 split
 ·exact h
 ·exact h.holes
theorem RdR.ofH {w:World} {e:Nat} {ts:List CT} {l:List (List DC)} {v:List Value} {F:List Nat} (hh:hq e=true) (h:RdH ty w ts l v F):RdR ty w e ts l v F:=by
 unfold RdR; rw [hh]; exact h
theorem RdR.frame {w w':World} {e:Nat} {ts:List CT} {l:List (List DC)} {v:List Value} {F:List Nat} (h:RdR ty w e ts l v F) (hb:∀ b ∈ F,w'.heap[b]? = w.heap[b]?):RdR ty w' e ts l v F:=by
 unfold RdR at h ⊢
 split at h
 ·exact RdV.frame h hb
 ·exact h.frame hb
theorem Xn {e:Nat} (h:dp e=false):hq e=false:=by
 unfold dp at h
 unfold hq
 rw [Bool.eq_false_iff] at h ⊢
 intro k
 rw [Ne,Nat.ble_eq] at h
 rw [Nat.ble_eq] at k
 exact h (Nat.le_trans (by decide) k)
end
structure Gh where
 I:Nat → Prop
 blk:Nat → Nat
 val:Nat → Value
 dom:Nat → Nat → Prop
structure Own (w:World) (F:List Nat):Prop where
 nodup:F.Nodup
 open':∀ b ∈ F,∃ cs t,w.heap[b]? = some (.cells cs t (0,0))
def yY (I D:Nat → Prop) (v:Value) (w:World) (e:Nat) (F:List Nat):Prop :=
 match dp e with
 | false=>∀ b ∈ F,I b
 | true=>Own w F ∧ (∀ b,D b ↔ b ∈ F) ∧ ∀ b ∈ F,v.ownBlock ≠ some b
def kz (g:Gh) (w:World) (id e:Nat) (F:List Nat):Prop:=yY g.I (g.dom id) (g.val id) w e F
def j7D (D:Nat → Prop) (v:Value) (e b:Nat):Prop:=v.ownBlock=some b ∨ (dp e=true ∧ D b)
def zq (g:Gh) (id e b:Nat):Prop:=j7D (g.dom id) (g.val id) e b
def nf (H:List HS) (id:Nat):Prop :=
 match jp H id with
 | .free=>False
 | _=>True
def kN (H:List HS) (id:Nat):Prop:=∃ t cs,jp H id = .live (.var t cs)
def Xv (H:List HS) (id:Nat):Prop:=∃ e l,jp H id = .live (.row e l) ∨ jp H id = .live (.fz e l) ∨ jp H id = .live (.pt e l) ∨ ∃ ix,jp H id = .live (.hl e l ix)
section
variable (ty:Nat → Option TI) (g:Gh) (H:List HS) (w:World)
def SR:S → Value → Prop
 | .undef,_=>True
 | .nil,v=>v = .slice none 0 0
 | .bool b,v=>v = .bool b
 | .int k n,v=>v = .int k n
 | .str l,v=>v = .string ⟨l.toArray⟩
 | .sl e l,v=>∃ F,RdC ty w (.sl e) (.sl l) v F ∧ ∀ b ∈ F,g.I b
 | .own id,v=>nf H id ∧ v.oneCell'=true ∧ (Xv H id → v=g.val id)
 | .ptr id off,v=>nf H id ∧ v.oneCell'=true ∧ (kN H id → v = .pointer (some ⟨g.blk id,off,none⟩))
 | .fn f caps,v=>∃ vs:Array Value,v = .func (.func f) #[] vs ∧ vs.size=caps.length ∧ ∀ (i id:Nat),caps[i]? = some id → nf H id ∧ (kN H id → vs[i]? = some (.pointer (some ⟨g.blk id,0,none⟩)))
def qr:List S → List Value → Prop
 | [],[]=>True
 | s :: ss,v :: vs=>SR ty g H w s v ∧ qr ss vs
 | _,_=>False
def CR:C → Value → Prop
 | .one s,v=>SR ty g H w s v
 | .agg l,v=>∃ vs:List Value,v = .agg vs.toArray ∧ qr ty g H w l vs
 | .tup l,v=>∃ vs:List Value,v = .tuple vs.toArray ∧ vs.length=l.length ∧ ∀ (i:Nat) (a:Bool) (ss:List S) (u:Value),l[i]? = some (a,ss) → vs[i]? = some u →
   (a=true → ∃ us:List Value,u = .agg us.toArray ∧ qr ty g H w ss us) ∧ (a=false → SR ty g H w (ss.headD .undef) u)
 | .elS e x off,v=>∃ (ti:TI) (b o:Nat) (vs:List Value) (F:List Nat),ty e=some ti ∧ v = .pointer (some ⟨b,o + off,none⟩) ∧ (∀ (j:Nat) (u:Value),vs[j]? = some u → w.cell? ⟨b,o + j,none⟩=some u) ∧
   RdL ty w ti.cts x vs F ∧ (∀ c ∈ F,g.I c) ∧ g.I b
 | .elO e id ix off,v=>nf H id ∧ (Xv H id → ∃ (ti:TI) (b len cap:Nat),ty (yz e)=some ti ∧ g.val id = .slice (some ⟨b,0,none⟩) len cap ∧ ix < len ∧ v = .pointer (some ⟨b,ix * ti.cts.length + off,none⟩))
def OR (id:Nat):Obj' → Prop
 | .var t cs=>∃ vs:List Value,w.heap[g.blk id]? = some (.cells vs.toArray t (0,0)) ∧ qr ty g H w cs vs ∧ ¬ g.I (g.blk id) ∧ ∀ u ∈ vs,u.oneCell'=true
 | .row e l=>∃ (ti:TI) (vs:List Value) (F:List Nat),ty (yz e)=some ti ∧ 0 < ti.cts.length ∧ w.ownsRow 0 (yz e) ti.cts.length (g.val id) l.length vs ∧ RdR ty w e ti.cts l vs F ∧ kz g w id e F ∧
   ∀ b,zq g id e b → ¬ g.I b
 | .fz e l=>∃ F,RdC ty w (.sl e) (.sl l) (g.val id) F ∧ ∀ b ∈ F,g.I b
 | .pt e l=>∃ F,RdC ty w (.sl e) (.sl l) (g.val id) F ∧ Own w F ∧ (∀ b,g.dom id b ↔ b ∈ F) ∧ ∀ b,g.dom id b → ¬ g.I b
 | .hl e l ix=>dp e=true ∧ ix < l.length ∧ ∃ (ti:TI) (vs:List Value) (F1 F2:List Nat),ty (yz e)=some ti ∧ 0 < ti.cts.length ∧ w.ownsRow 0 (yz e) ti.cts.length (g.val id) l.length vs ∧ vs.length=l.length * ti.cts.length ∧
   (∀ (w':World) (x':List DC) (v':List Value) (Fr':List Nat),(∀ b ∈ F1 ++ F2,w'.heap[b]? = w.heap[b]?) → RdL ty w' ti.cts x' v' Fr' →
    RdV ty w' ti.cts (l.set ix x') (vs.take (ix * ti.cts.length) ++ (v' ++ vs.drop (ix * ti.cts.length + ti.cts.length))) (F1 ++ (Fr' ++ F2))) ∧
   Own w (F1 ++ F2) ∧ (∀ b,g.dom id b ↔ b ∈ F1 ++ F2) ∧ (∀ b ∈ F1 ++ F2,(g.val id).ownBlock ≠ some b) ∧ ∀ b,zq g id e b → ¬ g.I b
def jM (id:Nat):Obj' → Nat → Prop
 | .var _ _,b=>g.blk id=b
 | .row e _,b=>zq g id e b
 | .fz _ _,_=>False
 | .pt _ _,b=>g.dom id b
 | .hl e _ _,b=>zq g id e b
end
structure An where
 w0:World
 I0:Nat → Prop
 Pv:Nat → Prop
 Pm:Nat → Prop
 m:Nat
 pb:Nat → Nat
structure Keep (A:An) (w:World):Prop where
 os:w.os=A.w0.os
 tape:w.tape=A.w0.tape
 output:w.output=A.w0.output
 size:A.w0.heap.size ≤ w.heap.size
 block:∀ b,b < A.w0.heap.size → ¬ A.Pv b → ¬ A.Pm b → w.heap[b]? = A.w0.heap[b]?
def j19 (A:An) (b:Nat):Obj' → Prop
 | .var _ _=>A.w0.heap.size ≤ b ∨ A.Pv b
 | _=>A.w0.heap.size ≤ b ∨ A.Pm b
structure Rel (ty:Nat → Option TI) (A:An) (g:Gh) (st:St) (a:Act) (w:World):Prop where
 len:st.tm.length=a.tmps.size
 tm:∀ (i:Nat) (c:C) (v:Value),st.tm[i]? = some c → a.tmps[i]? = some v → CR ty g st.H w c v
 ob:∀ (id:Nat) (o:Obj'),jp st.H id = .live o → OR ty g st.H w id o
 sep:∀ (i j:Nat) (o p:Obj') (b:Nat),i ≠ j → jp st.H i = .live o → jp st.H j = .live p → jM g i o b → ¬ jM g j p b
 lt:∀ b,g.I b → b < w.heap.size
 inI:∀ b,g.I b → A.I0 b ∨ A.w0.heap.size ≤ b ∨ A.Pm b
 ow:∀ (id:Nat) (o:Obj') (b:Nat),jp st.H id = .live o → jM g id o b → j19 A b o
 nfm:∀ j,j < A.m → nf st.H j
 pb:∀ j,j < A.m → kN st.H j → g.blk j=A.pb j
 keep:Keep A w
 df:a.defers=[]
theorem jt {H:List HS} {id:Nat} (x:HS) (h:id < H.length):jp (jB H id x) id=x:=by
 simp [jp,jB,List.getD_eq_getElem?_getD,h]
theorem jo {H:List HS} {i j:Nat} (x:HS) (h:i ≠ j):jp (jB H i x) j=jp H j:=by
 simp [jp,jB,List.getD_eq_getElem?_getD,List.getElem?_set_ne h]
theorem jF {H:List HS} {id:Nat} {o:Obj'} (h:jp H id = .live o):id < H.length:=by
 rcases jA id H.length with h' | h'
 ·exact h'
 ·simp [jp,List.getD_eq_getElem?_getD,List.getElem?_eq_none h'] at h
theorem kM {H:List HS} {id:Nat} (h:jp H id = .free):id < H.length:=by
 rcases jA id H.length with h' | h'
 ·exact h'
 ·simp [jp,List.getD_eq_getElem?_getD,List.getElem?_eq_none h'] at h
theorem qj {H:List HS} {id:Nat} {o:Obj'} (h:jp H id = .live o):nf H id:=by simp [nf,h]
theorem kx {H:List HS} {id:Nat} (h:jp H id = .free):¬ nf H id:=by simp [nf,h]
structure Ch (g g':Gh) (H H':List HS) (w w':World):Prop where
 I:∀ b,g.I b → g'.I b
 Iw:∀ b,g.I b → w'.heap[b]? = w.heap[b]?
 nf:∀ id,nf H id → nf H' id
 row:∀ id,Go.Proofs.QV.nf H id → Xv H' id → Xv H id ∧ g'.val id=g.val id
 var:∀ id,Go.Proofs.QV.nf H id → kN H' id → kN H id ∧ g'.blk id=g.blk id
theorem Ch.refl (g:Gh) (H:List HS) (w:World):Ch g g H H w w:=⟨fun _ h=>h,fun _ _=>rfl,fun _ h=>h,fun _ _ h=>⟨h,rfl⟩,fun _ _ h=>⟨h,rfl⟩⟩
theorem Ch.trans {g g' g'':Gh} {H H' H'':List HS} {w w' w'':World} (h:Ch g g' H H' w w') (k:Ch g' g'' H' H'' w' w''):Ch g g'' H H'' w w'' where
 I b hb:=k.I b (h.I b hb)
 Iw b hb:=(k.Iw b (h.I b hb)).trans (h.Iw b hb)
 nf id hi:=k.nf id (h.nf id hi)
 row id hi hr:=by
  obtain ⟨a,b⟩:=k.row id (h.nf id hi) hr
  obtain ⟨c,d⟩:=h.row id hi a
  exact ⟨c,b.trans d⟩
 var id hi hr:=by
  obtain ⟨a,b⟩:=k.var id (h.nf id hi) hr
  obtain ⟨c,d⟩:=h.var id hi a
  exact ⟨c,b.trans d⟩
section
variable {ty:Nat → Option TI} {g g':Gh} {H H':List HS} {w w':World}
theorem SR.mono (c:Ch g g' H H' w w'):∀ {s:S} {v:Value},SR ty g H w s v → SR ty g' H' w' s v
 | .undef,_,_=>trivial
 | .nil,_,h=>h
 | .bool _,_,h=>h
 | .int _ _,_,h=>h
 | .str _,_,h=>h
 | .sl e l,v,⟨F,h1,h2⟩=>⟨F,h1.frame fun b hb=>c.Iw b (h2 b hb),fun b hb=>c.I b (h2 b hb)⟩
 | .own id,v,⟨h1,h0,h2⟩=>⟨c.nf id h1,h0,fun hr=>by
   obtain ⟨a,b⟩:=c.row id h1 hr
   rw [b]; exact h2 a⟩
 | .ptr id off,v,⟨h1,h0,h2⟩=>⟨c.nf id h1,h0,fun hr=>by
   obtain ⟨a,b⟩:=c.var id h1 hr
   rw [b]; exact h2 a⟩
 | .fn f caps,v,⟨vs,h1,h2,h3⟩=>⟨vs,h1,h2,fun i id hi=>by
   obtain ⟨h4,h5⟩:=h3 i id hi
   refine ⟨c.nf id h4,fun hr=>?_⟩
   obtain ⟨a,b⟩:=c.var id h4 hr
   rw [b]; exact h5 a⟩
theorem qr.mono (c:Ch g g' H H' w w'):∀ {s:List S} {v:List Value},qr ty g H w s v → qr ty g' H' w' s v
 | [],[],_=>trivial
 | _ :: _,_ :: _,⟨a,b⟩=>⟨a.mono c,qr.mono c b⟩
 | [],_ :: _,h=>h.elim
 | _ :: _,[],h=>h.elim
theorem CR.mono (c:Ch g g' H H' w w'):∀ {x:C} {v:Value},CR ty g H w x v → CR ty g' H' w' x v
 | .one _,_,h=>SR.mono c h
 | .agg _,_,⟨vs,a,b⟩=>⟨vs,a,b.mono c⟩
 | .tup l,_,⟨vs,a,b,d⟩=>⟨vs,a,b,fun i x ss u h1 h2=>by
   obtain ⟨e,f⟩:=d i x ss u h1 h2
   exact ⟨fun hx=>let ⟨us,p,q⟩:=e hx; ⟨us,p,q.mono c⟩,fun hx=>(f hx).mono c⟩⟩
 | .elS e x off,v,⟨ti,b,o,vs,F,h1,h2,h3,h4,h5,h6⟩ =>
  ⟨ti,b,o,vs,F,h1,h2,fun j u hu=>by rw [World.cell?_of_block (w:=w) (c.Iw b h6)]; exact h3 j u hu,h4.frame fun k hk=>c.Iw k (h5 k hk),fun k hk=>c.I k (h5 k hk),c.I b h6⟩
 | .elO e id ix off,v,⟨h1,h2⟩=>⟨c.nf id h1,fun hr=>by
   obtain ⟨a,b⟩:=c.row id h1 hr
   obtain ⟨ti,k,len,cap,h3,h4,h5,h6⟩:=h2 a
   exact ⟨ti,k,len,cap,h3,by rw [b]; exact h4,h5,h6⟩⟩
theorem qr.length:∀ {s:List S} {v:List Value},qr ty g H w s v → v.length=s.length
 | [],[],_=>rfl
 | _ :: _,_ :: _,⟨_,b⟩=>by simp [qr.length b]
 | [],_ :: _,h=>h.elim
 | _ :: _,[],h=>h.elim
theorem Zd {w w':World} {base e size:Nat} {v:Value} {n:Nat} {xs:List Value} (h:w.ownsRow base e size v n xs) (hb:∀ b,v.ownBlock=some b → w'.heap[b]? = w.heap[b]?) :
  w'.ownsRow base e size v n xs:=by
 refine ⟨h.1,?_⟩
 rcases h.2 with h | ⟨k,cap,cur,rfl,h1,h2,h3⟩
 ·exact .inl h
 ·exact .inr ⟨k,cap,cur,rfl,h1,by rw [hb k rfl]; exact h2,h3⟩
theorem kz.shallow {id e:Nat} {F:List Nat} (h:dp e=false):kz g w id e F ↔ ∀ b ∈ F,g.I b:=by unfold kz yY; rw [h]
theorem kz.deep {id e:Nat} {F:List Nat} (h:dp e=true):kz g w id e F ↔ (Own w F ∧ (∀ b,g.dom id b ↔ b ∈ F) ∧ ∀ b ∈ F,(g.val id).ownBlock ≠ some b):=by unfold kz yY; rw [h]
theorem kz.nil {id e:Nat} (hd:dp e=true → ∀ b,¬ g.dom id b):kz g w id e []:=by
 cases h:dp e with
 | false=>exact (kz.shallow h).2 fun b hb=>by cases hb
 | true=>exact (kz.deep h).2 ⟨⟨List.nodup_nil,fun b hb=>by cases hb⟩,fun b=>⟨fun k=>absurd k (hd h b),fun hb=>by cases hb⟩,fun b hb=>by cases hb⟩
theorem Own.frame {F:List Nat} (h:Own w F) (hb:∀ b ∈ F,w'.heap[b]? = w.heap[b]?):Own w' F :=
 ⟨h.nodup,fun b k=>by rw [hb b k]; exact h.open' b k⟩
theorem kz.mono (c:Ch g g' H H' w w') {id e:Nat} {F:List Nat} (hv:g'.val id=g.val id) (hd:g'.dom id=g.dom id)
  (hb:∀ b,zq g id e b → w'.heap[b]? = w.heap[b]?) (h:kz g w id e F):kz g' w' id e F ∧ ∀ b ∈ F,w'.heap[b]? = w.heap[b]?:=by
 cases he:dp e with
 | false =>
  rw [kz.shallow he] at h ⊢
  exact ⟨fun b k=>c.I b (h b k),fun b k=>c.Iw b (h b k)⟩
 | true =>
  rw [kz.deep he] at h ⊢
  have hh:∀ b ∈ F,w'.heap[b]? = w.heap[b]?:=fun b k=>hb b (.inr ⟨he,(h.2.1 b).2 k⟩)
  exact ⟨⟨h.1.frame hh,fun b=>by rw [hd]; exact h.2.1 b,by rw [hv]; exact h.2.2⟩,hh⟩
theorem Ku {id e:Nat} (hv:g'.val id=g.val id) (hd:g'.dom id=g.dom id) (b:Nat):zq g' id e b=zq g id e b:=by unfold zq; rw [hv,hd]
theorem ku {e:Nat} (h:dp e=false):yz e=e:=by unfold yz; rw [h]
theorem kz.all {id e:Nat} {F:List Nat} (k:kz g w id e F):∀ b ∈ F,g.I b ∨ zq g id e b:=by
 intro b hb
 cases he:dp e with
 | false=>exact .inl ((kz.shallow he).1 k b hb)
 | true=>exact .inr (.inr ⟨he,(((kz.deep he).1 k).2.1 b).2 hb⟩)
theorem OR.mono (c:Ch g g' H H' w w') {id:Nat} {o:Obj'} (hv:g'.val id=g.val id) (hk:g'.blk id=g.blk id) (hd:g'.dom id=g.dom id)
  (hb:∀ b,jM g id o b → w'.heap[b]? = w.heap[b]? ∧ ¬ g'.I b) (h:OR ty g H w id o):OR ty g' H' w' id o:=by
 cases o with
 | var t cs =>
  obtain ⟨vs,h1,h2,h3,h4⟩:=h
  obtain ⟨b1,b2⟩:=hb (g.blk id) rfl
  exact ⟨vs,by rw [hk,b1]; exact h1,h2.mono c,by rw [hk]; exact b2,h4⟩
 | row e l =>
  obtain ⟨ti,vs,F,h1,h0,h2,h3,h4,h5⟩:=h
  obtain ⟨k1,k2⟩:=h4.mono c hv hd fun b hb'=>(hb b hb').1
  exact ⟨ti,vs,F,h1,h0,by rw [hv]; exact Zd h2 fun b hb'=>(hb b (.inl hb')).1,h3.frame k2,k1,
   fun b hb'=>(hb b (by rw [Ku hv hd] at hb'; exact hb')).2⟩
 | fz e l =>
  obtain ⟨F,h1,h2⟩:=h
  exact ⟨F,by rw [hv]; exact h1.frame fun b hb'=>c.Iw b (h2 b hb'),fun b hb'=>c.I b (h2 b hb')⟩
 | pt e l =>
  obtain ⟨F,h1,h2,h3,h4⟩:=h
  have hh:∀ b ∈ F,w'.heap[b]? = w.heap[b]?:=fun b k=>(hb b ((h3 b).2 k)).1
  exact ⟨F,by rw [hv]; exact h1.frame hh,h2.frame hh,by rw [hd]; exact h3,fun b k=>(hb b (by rw [hd] at k; exact k)).2⟩
 | hl e l ix =>
  obtain ⟨h1,h2,ti,vs,F1,F2,h3,h4,h5,h5',h6,h7,h8,h9,h10⟩:=h
  have hh:∀ b ∈ F1 ++ F2,w'.heap[b]? = w.heap[b]?:=fun b k=>(hb b (.inr ⟨h1,(h8 b).2 k⟩)).1
  exact ⟨h1,h2,ti,vs,F1,F2,h3,h4,by rw [hv]; exact Zd h5 fun b hb'=>(hb b (.inl hb')).1,h5',fun w2 x' v' Fr' k1 k2=>h6 w2 x' v' Fr' (fun b kb=>(k1 b kb).trans (hh b kb)) k2,h7.frame hh,by rw [hd]; exact h8,by rw [hv]; exact h9,
   fun b hb'=>(hb b (by rw [Ku hv hd] at hb'; exact hb')).2⟩
end
section
variable {ty:Nat → Option TI} {A:An} {g:Gh} {tm:List C} {H:List HS} {a:Act} {w:World}
theorem Rel.ch {g':Gh} {H':List HS} {w':World} (h:Rel ty A g ⟨tm,H⟩ a w) (c:Ch g g' H H' w w')
  (ob:∀ (id:Nat) (o:Obj'),jp H' id = .live o → OR ty g' H' w' id o)
  (sep:∀ (i j:Nat) (o p:Obj') (b:Nat),i ≠ j → jp H' i = .live o → jp H' j = .live p → jM g' i o b → ¬ jM g' j p b)
  (lt:∀ b,g'.I b → b < w'.heap.size) (inI:∀ b,g'.I b → A.I0 b ∨ A.w0.heap.size ≤ b ∨ A.Pm b)
  (ow:∀ (id:Nat) (o:Obj') (b:Nat),jp H' id = .live o → jM g' id o b → j19 A b o)
  (pb:∀ j,j < A.m → kN H' j → g'.blk j=A.pb j) (keep:Keep A w'):Rel ty A g' ⟨tm,H'⟩ a w' where
 len:=h.len
 tm i x v h1 h2:=(h.tm i x v h1 h2).mono c
 ob:=ob
 sep:=sep
 lt:=lt
 inI:=inI
 ow:=ow
 nfm j hj:=c.nf j (h.nfm j hj)
 pb:=pb
 keep:=keep
 df:=h.df
theorem Rel.put (h:Rel ty A g ⟨tm,H⟩ a w) (dst:Option Tmp) {c:C} {v:Value} (hc:CR ty g H w c v):Rel ty A g ⟨ka tm dst c,H⟩ (a.put dst v) w:=by
 cases dst with
 | none=>exact h
 | some d =>
  refine ⟨by simpa [ka,V2,Act.put] using h.len,fun i x u h1 h2=>?_,h.ob,h.sep,h.lt,h.inI,h.ow,h.nfm,h.pb,h.keep,h.df⟩
  simp only [ka,V2,Act.put] at h1 h2
  by_cases hd:d=i
  ·subst hd
   rw [List.getElem?_set] at h1
   rw [Array.getElem?_setIfInBounds] at h2
   by_cases hl:d < tm.length
   ·have hl':d < a.tmps.size:=(show tm.length=a.tmps.size from h.len) ▸ hl
    simp [hl] at h1
    simp [hl'] at h2
    subst h1
    subst h2
    exact hc
   ·simp [hl] at h1
  ·rw [List.getElem?_set_ne hd] at h1
   rw [Array.getElem?_setIfInBounds_ne hd] at h2
   exact h.tm i x u h1 h2
theorem CR.undef {g:Gh} {H:List HS} {w:World} (v:Value):CR ty g H w (.one .undef) v:=trivial
theorem Rel.getD (h:Rel ty A g ⟨tm,H⟩ a w) (t:Nat):CR ty g H w (tm.getD t (.one .undef)) (a.tmps.getD t undef):=by
 rw [List.getD_eq_getElem?_getD,Array.getD_eq_getD_getElem?]
 cases h1:tm[t]? with
 | none=>exact CR.undef _
 | some c =>
  have hl:t < a.tmps.size:=by
   have h3:tm.length=a.tmps.size:=h.len
   have h2:t < tm.length:=by
    rcases jA t tm.length with h' | h'
    ·exact h'
    ·simp [List.getElem?_eq_none h'] at h1
   omega
  have h2:a.tmps[t]? = some a.tmps[t]:=Array.getElem?_eq_getElem hl
  rw [h2]
  exact h.tm t c _ h1 h2
theorem CR.ofConst (v:Value):CR ty g H w (ofConst v) v:=by
 unfold Go.Proofs.QV.ofConst
 split
 ·exact rfl
 ·exact rfl
 ·simp [CR,SR]
 ·exact rfl
 ·trivial
theorem Rel.opd (h:Rel ty A g ⟨tm,H⟩ a w) (x:Operand):CR ty g H w (opd tm x) (a.eval x):=by
 cases x with
 | tmp t =>
  show CR ty g H w (jaW tm t) _
  rw [YV]
  exact h.getD t
 | const v=>exact CR.ofConst v
 | global g'=>trivial
 | func f=>exact ⟨#[],rfl,rfl,fun i id hi=>by simp at hi⟩
theorem J4 {x:Obj} {w:World} {k:Nat} (hg:w.heap[k]? = some x):k < w.heap.size:=by
 rcases jA k w.heap.size with h' | h'
 ·exact h'
 ·simp [Array.getElem?_eq_none h'] at hg
theorem Rel.oblk_lt (h:Rel ty A g ⟨tm,H⟩ a w) {id b:Nat} {o:Obj'} (hi:jp H id = .live o) (hb:jM g id o b):b < w.heap.size:=by
 cases o with
 | var t cs =>
  obtain ⟨vs,h1,_⟩:=h.ob id _ hi
  have hb:g.blk id=b:=hb
  subst hb
  exact J4 h1
 | row e l =>
  obtain ⟨ti,vs,F,_,_,h2,_,h4,_⟩:=h.ob id _ hi
  rcases hb with hb | ⟨he,hb⟩
  case inr =>
   obtain ⟨k1,k2,_⟩:=(kz.deep he).1 h4
   obtain ⟨cs,t,hc⟩:=k1.open' b ((k2 b).1 hb)
   exact J4 hc
  rcases h2.2 with ⟨hv,hn⟩ | ⟨k,cap,cur,hv,hk,hg,_⟩
  ·rw [hv] at hb; simp [Value.ownBlock] at hb
  ·rw [hv] at hb
   simp only [Value.ownBlock,j8] at hb
   subst hb
   exact J4 hg
 | fz e l=>simp [jM] at hb
 | pt e l =>
  obtain ⟨F,_,k1,k2,_⟩:=h.ob id _ hi
  obtain ⟨cs,t,hc⟩:=k1.open' b ((k2 b).1 hb)
  exact J4 hc
 | hl e l ix =>
  obtain ⟨h1,h2,ti,vs,F1,F2,h3,h4,h5,h5',h6,h7,h8,h9,h10⟩:=h.ob id _ hi
  rcases hb with hb | ⟨he,hb⟩
  ·rcases h5.2 with ⟨hv,hn⟩ | ⟨k,cap,cur,hv,hk,hg,_⟩
   ·rw [hv] at hb; simp [Value.ownBlock] at hb
   ·rw [hv] at hb
    simp only [Value.ownBlock,j8] at hb
    subst hb
    exact J4 hg
  ·obtain ⟨cs,t,hc⟩:=h7.open' b ((h8 b).1 hb)
   exact J4 hc
theorem Rel.freeze2 (h:Rel ty A g ⟨tm,H⟩ a w) {id e:Nat} {l:List (List DC)} (hr:jp H id = .live (.row e l)) (hh:hq e=false) :
  ∃ g',Rel ty A g' ⟨tm,jB H id (.live (.fz (yz e) l))⟩ a w ∧ Ch g g' H (jB H id (.live (.fz (yz e) l))) w w ∧
   (∃ F,RdC ty w (.sl (yz e)) (.sl l) (g'.val id) F ∧ ∀ b ∈ F,g'.I b) ∧ g'.blk=g.blk ∧ g'.val=g.val ∧ (∀ b,g'.I b → g.I b ∨ zq g id e b) ∧ g'.dom=g.dom:=by
 have hlt:=jF hr
 obtain ⟨ti,vs,F,h1,h0,h2,h3,h4,h5⟩:=h.ob id _ hr
 have h3:=h3.v hh
 let g':Gh:={ g with I:=fun b=>g.I b ∨ zq g id e b }
 have hrd:∃ F,RdC ty w (.sl (yz e)) (.sl l) (g.val id) F ∧ ∀ b ∈ F,g'.I b:=by
  rcases h2.2 with ⟨hv,hn⟩ | ⟨k,cap,cur,hv,hk,hg,hnc,hcm,hcs,htake⟩
  ·have:l=[]:=jm hn
   subst this
   exact ⟨[],by rw [hv]; exact .nil (yz e) none 0,fun _ h=>by cases h⟩
  ·by_cases hl:l=[]
   ·subst hl
    refine ⟨[],?_,fun _ h=>by cases h⟩
    rw [hv]
    exact RdC.nil (yz e) _ cap
   ·refine ⟨k :: F,?_,fun b hb=>?_⟩
    ·rw [hv]
     refine .sl (yz e) ti k 0 _ cap l vs F h1 h0 rfl hl hnc (fun j v hj=>?_) h3
     have hjl:j < vs.length:=by
      rcases jA j vs.length with h' | h'
      ·exact h'
      ·simp [List.getElem?_eq_none h'] at hj
     have:=World.ownsRow.cellAt (w:=w) (g:=k) (n:=l.length) (cap:=cap) (xs:=vs) (base:=0) (e:=yz e) (size:=ti.cts.length) (by rw [← hv]; exact h2) j (by have:=h2.1; omega)
     rw [Nat.zero_add,this]
     exact hj
    ·rcases List.mem_cons.1 hb with rfl | hb
     ·exact .inr (.inl (by rw [hv]; rfl))
     ·exact h4.all b hb
 have hch:Ch g g' H (jB H id (.live (.fz (yz e) l))) w w:=by
  refine ⟨fun b hb=>.inl hb,fun _ _=>rfl,fun i hi=>?_,fun i _ hi=>⟨?_,rfl⟩,fun i _ hi=>⟨?_,rfl⟩⟩
  ·by_cases e:id=i
   ·subst e; simp [nf,jt _ hlt]
   ·simpa [nf,jo _ e] using hi
  ·by_cases e:id=i
   ·subst e; exact ⟨_,_,.inl hr⟩
   ·simpa [Xv,jo _ e] using hi
  ·by_cases e:id=i
   ·subst e; obtain ⟨t,cs,hc⟩:=hi; rw [jt _ hlt] at hc; simp at hc
   ·simpa [kN,jo _ e] using hi
 have hlive:∀ i o,jp (jB H id (.live (.fz (yz e) l))) i = .live o → (i=id ∧ o = .fz (yz e) l) ∨ (i ≠ id ∧ jp H i = .live o):=by
  intro i o hi
  by_cases e:id=i
  ·subst e; rw [jt _ hlt] at hi; exact .inl ⟨rfl,by simpa using hi.symm⟩
  ·rw [jo _ e] at hi; exact .inr ⟨fun h=>e h.symm,hi⟩
 refine ⟨g',h.ch hch ?_ ?_ ?_ ?_ ?_ ?_ h.keep,hch,hrd,rfl,rfl,fun b hb=>hb,rfl⟩
 ·intro i o hi
  rcases hlive i o hi with ⟨rfl,rfl⟩ | ⟨hne,hi⟩
  ·exact hrd
  ·refine OR.mono hch rfl rfl rfl (fun b hb=>⟨rfl,fun hI=>?_⟩) (h.ob i o hi)
   rcases hI with hI | hI
   ·cases o with
    | var t cs=>obtain ⟨_,_,_,k,_⟩:=h.ob i _ hi; have hb:g.blk i=b:=hb; subst hb; exact k hI
    | row e l=>obtain ⟨_,_,_,_,_,_,_,_,k⟩:=h.ob i _ hi; exact k b hb hI
    | fz e l=>simp [jM] at hb
    | pt e l=>obtain ⟨_,_,_,_,k⟩:=h.ob i _ hi; exact k b hb hI
    | hl e l ix=>obtain ⟨_,_,_,_,_,_,_,_,_,_,_,_,_,_,k⟩:=h.ob i _ hi; exact k b hb hI
   ·exact h.sep i id o _ b hne hi hr hb hI
 ·intro i j o p b hij hi hj hb
  rcases hlive i o hi with ⟨rfl,rfl⟩ | ⟨hne,hi⟩
  ·simp [jM] at hb
  ·rcases hlive j p hj with ⟨rfl,rfl⟩ | ⟨hne',hj⟩
   ·simp [jM]
   ·exact h.sep i j o p b hij hi hj hb
 ·intro b hb
  rcases hb with hb | hb
  ·exact h.lt b hb
  ·exact h.oblk_lt hr hb
 ·intro b hb
  rcases hb with hb | hb
  ·exact h.inI b hb
  ·exact .inr (h.ow id _ b hr hb)
 ·intro i o b hi hb
  rcases hlive i o hi with ⟨rfl,rfl⟩ | ⟨hne,hi⟩
  ·simp [jM] at hb
  ·exact h.ow i o b hi hb
 ·intro j hj hv
  exact h.pb j hj (hch.var j (h.nfm j hj) hv).1
theorem Rel.freezeP (h:Rel ty A g ⟨tm,H⟩ a w) {id e:Nat} {l:List (List DC)} (hr:jp H id = .live (.pt e l)) :
  ∃ g',Rel ty A g' ⟨tm,jB H id (.live (.fz e l))⟩ a w ∧ Ch g g' H (jB H id (.live (.fz e l))) w w ∧
   (∃ F,RdC ty w (.sl e) (.sl l) (g'.val id) F ∧ ∀ b ∈ F,g'.I b) ∧ g'.blk=g.blk ∧ g'.val=g.val ∧ (∀ b,g'.I b → g.I b ∨ g.dom id b) ∧ g'.dom=g.dom:=by
 have hlt:=jF hr
 obtain ⟨F,h1,h2,h3,h4⟩:=h.ob id _ hr
 let g':Gh:={ g with I:=fun b=>g.I b ∨ g.dom id b }
 have hrd:∃ F,RdC ty w (.sl e) (.sl l) (g.val id) F ∧ ∀ b ∈ F,g'.I b:=⟨F,h1,fun b hb=>.inr ((h3 b).2 hb)⟩
 have hch:Ch g g' H (jB H id (.live (.fz e l))) w w:=by
  refine ⟨fun b hb=>.inl hb,fun _ _=>rfl,fun i hi=>?_,fun i _ hi=>⟨?_,rfl⟩,fun i _ hi=>⟨?_,rfl⟩⟩
  ·by_cases e:id=i
   ·subst e; simp [nf,jt _ hlt]
   ·simpa [nf,jo _ e] using hi
  ·by_cases e:id=i
   ·subst e; exact ⟨_,_,.inr (.inr (.inl hr))⟩
   ·simpa [Xv,jo _ e] using hi
  ·by_cases e:id=i
   ·subst e; obtain ⟨t,cs,hc⟩:=hi; rw [jt _ hlt] at hc; simp at hc
   ·simpa [kN,jo _ e] using hi
 have hlive:∀ i o,jp (jB H id (.live (.fz e l))) i = .live o → (i=id ∧ o = .fz e l) ∨ (i ≠ id ∧ jp H i = .live o):=by
  intro i o hi
  by_cases e:id=i
  ·subst e; rw [jt _ hlt] at hi; exact .inl ⟨rfl,by simpa using hi.symm⟩
  ·rw [jo _ e] at hi; exact .inr ⟨fun h=>e h.symm,hi⟩
 refine ⟨g',h.ch hch ?_ ?_ ?_ ?_ ?_ ?_ h.keep,hch,hrd,rfl,rfl,fun b hb=>hb,rfl⟩
 ·intro i o hi
  rcases hlive i o hi with ⟨rfl,rfl⟩ | ⟨hne,hi⟩
  ·exact hrd
  ·refine OR.mono hch rfl rfl rfl (fun b hb=>⟨rfl,fun hI=>?_⟩) (h.ob i o hi)
   rcases hI with hI | hI
   ·cases o with
    | var t cs=>obtain ⟨_,_,_,k,_⟩:=h.ob i _ hi; have hb:g.blk i=b:=hb; subst hb; exact k hI
    | row e l=>obtain ⟨_,_,_,_,_,_,_,_,k⟩:=h.ob i _ hi; exact k b hb hI
    | fz e l=>simp [jM] at hb
    | pt e l=>obtain ⟨_,_,_,_,k⟩:=h.ob i _ hi; exact k b hb hI
    | hl e l ix=>obtain ⟨_,_,_,_,_,_,_,_,_,_,_,_,_,_,k⟩:=h.ob i _ hi; exact k b hb hI
   ·exact h.sep i id o _ b hne hi hr hb hI
 ·intro i j o p b hij hi hj hb
  rcases hlive i o hi with ⟨rfl,rfl⟩ | ⟨hne,hi⟩
  ·simp [jM] at hb
  ·rcases hlive j p hj with ⟨rfl,rfl⟩ | ⟨hne',hj⟩
   ·simp [jM]
   ·exact h.sep i j o p b hij hi hj hb
 ·intro b hb
  rcases hb with hb | hb
  ·exact h.lt b hb
  ·exact h.oblk_lt hr hb
 ·intro b hb
  rcases hb with hb | hb
  ·exact h.inI b hb
  ·exact .inr (h.ow id _ b hr hb)
 ·intro i o b hi hb
  rcases hlive i o hi with ⟨rfl,rfl⟩ | ⟨hne,hi⟩
  ·simp [jM] at hb
  ·exact h.ow i o b hi hb
 ·intro j hj hv
  exact h.pb j hj (hch.var j (h.nfm j hj) hv).1
theorem Rel.freeze (h:Rel ty A g ⟨tm,H⟩ a w) {id e:Nat} {l:List (List DC)} (hr:jp H id = .live (.row e l)) (hh:hq e=false) :
  ∃ g',Rel ty A g' ⟨tm,jB H id (.live (.fz (yz e) l))⟩ a w ∧ Ch g g' H (jB H id (.live (.fz (yz e) l))) w w ∧
   ∃ F,RdC ty w (.sl (yz e)) (.sl l) (g'.val id) F ∧ ∀ b ∈ F,g'.I b:=by
 obtain ⟨g',h1,h2,h3,_⟩:=h.freeze2 hr hh
 exact ⟨g',h1,h2,h3⟩
theorem Rel.upd (h:Rel ty A g ⟨tm,H⟩ a w) {id:Nat} {x:HS} {g':Gh} {w':World} (hlt:id < H.length) (hx:x ≠ .free)
  (hI:g'.I=g.I) (hvo:∀ i,i ≠ id → g'.val i=g.val i ∧ g'.blk i=g.blk i ∧ g'.dom i=g.dom i)
  (hrow:nf H id → Xv (jB H id x) id → Xv H id ∧ g'.val id=g.val id)
  (hvar:nf H id → kN (jB H id x) id → kN H id ∧ g'.blk id=g.blk id)
  (hw:∀ b,(g.I b ∨ ∃ i o,i ≠ id ∧ jp H i = .live o ∧ jM g i o b) → w'.heap[b]? = w.heap[b]?)
  (hsz:w.heap.size ≤ w'.heap.size)
  (hob:Ch g g' H (jB H id x) w w' → ∀ o,x = .live o → OR ty g' (jB H id x) w' id o ∧
   ∀ b,jM g' id o b → ¬ g.I b ∧ j19 A b o ∧ ∀ i p,i ≠ id → jp H i = .live p → ¬ jM g i p b)
  (hpb:id < A.m → kN (jB H id x) id → g'.blk id=A.pb id) (hk:Keep A w') :
  Rel ty A g' ⟨tm,jB H id x⟩ a w' ∧ Ch g g' H (jB H id x) w w':=by
 have hch:Ch g g' H (jB H id x) w w':=by
  refine ⟨fun b hb=>by rw [hI]; exact hb,fun b hb=>hw b (.inl hb),fun i hi=>?_,fun i hn hi=>?_,fun i hn hi=>?_⟩
  ·by_cases e:id=i
   ·subst e
    unfold nf
    rw [jt _ hlt]
    cases x with
    | free=>exact absurd rfl hx
    | dead=>trivial
    | live o=>trivial
   ·simpa [nf,jo _ e] using hi
  ·by_cases e:id=i
   ·subst e; exact hrow hn hi
   ·exact ⟨by simpa [Xv,jo _ e] using hi,(hvo i (fun k=>e k.symm)).1⟩
  ·by_cases e:id=i
   ·subst e; exact hvar hn hi
   ·exact ⟨by simpa [kN,jo _ e] using hi,(hvo i (fun k=>e k.symm)).2.1⟩
 have hlive:∀ i o,jp (jB H id x) i = .live o → (i=id ∧ x = .live o) ∨ (i ≠ id ∧ jp H i = .live o):=by
  intro i o hi
  by_cases e:id=i
  ·subst e; rw [jt _ hlt] at hi; exact .inl ⟨rfl,hi⟩
  ·rw [jo _ e] at hi; exact .inr ⟨fun h=>e h.symm,hi⟩
 have hblk:∀ i o,i ≠ id → jM g' i o=jM g i o:=by
  intro i o hne
  cases o with
  | var t cs=>funext b; simp only [jM,(hvo i hne).2.1]
  | row e l=>funext b; exact Ku (hvo i hne).1 (hvo i hne).2.2 b
  | fz e l=>rfl
  | pt e l=>funext b; simp only [jM,(hvo i hne).2.2]
  | hl e l ix=>funext b; exact Ku (hvo i hne).1 (hvo i hne).2.2 b
 refine ⟨h.ch hch ?_ ?_ ?_ ?_ ?_ ?_ hk,hch⟩
 ·intro i o hi
  rcases hlive i o hi with ⟨rfl,hxo⟩ | ⟨hne,hi'⟩
  ·exact (hob hch o hxo).1
  ·refine OR.mono hch (hvo i hne).1 (hvo i hne).2.1 (hvo i hne).2.2 (fun b hb=>⟨hw b (.inr ⟨i,o,hne,hi',hb⟩),fun hIb=>?_⟩) (h.ob i o hi')
   rw [hI] at hIb
   cases o with
   | var t cs=>obtain ⟨_,_,_,k,_⟩:=h.ob i _ hi'; have hb:g.blk i=b:=hb; subst hb; exact k hIb
   | row e l=>obtain ⟨_,_,_,_,_,_,_,_,k⟩:=h.ob i _ hi'; exact k b hb hIb
   | fz e l=>simp [jM] at hb
   | pt e l=>obtain ⟨_,_,_,_,k⟩:=h.ob i _ hi'; exact k b hb hIb
   | hl e l ix=>obtain ⟨_,_,_,_,_,_,_,_,_,_,_,_,_,_,k⟩:=h.ob i _ hi'; exact k b hb hIb
 ·intro i j o p b hij hi hj hb hb'
  rcases hlive i o hi with ⟨rfl,hxo⟩ | ⟨hne,hi'⟩
  ·rcases hlive j p hj with ⟨rfl,hxp⟩ | ⟨hne',hj'⟩
   ·exact hij rfl
   ·rw [hblk j p hne'] at hb'
    exact ((hob hch o hxo).2 b hb).2.2 j p hne' hj' hb'
  ·rcases hlive j p hj with ⟨rfl,hxp⟩ | ⟨hne',hj'⟩
   ·rw [hblk i o hne] at hb
    exact ((hob hch p hxp).2 b hb').2.2 i o hne hi' hb
   ·rw [hblk i o hne] at hb
    rw [hblk j p hne'] at hb'
    exact h.sep i j o p b hij hi' hj' hb hb'
 ·intro b hb
  rw [hI] at hb
  exact Nat.lt_of_lt_of_le (h.lt b hb) hsz
 ·intro b hb
  rw [hI] at hb
  exact h.inI b hb
 ·intro i o b hi hb
  rcases hlive i o hi with ⟨rfl,hxo⟩ | ⟨hne,hi'⟩
  ·exact ((hob hch o hxo).2 b hb).2.1
  ·rw [hblk i o hne] at hb
   exact h.ow i o b hi' hb
 ·intro j hj hv
  by_cases e:id=j
  ·subst e; exact hpb hj hv
  ·have hne:j ≠ id:=fun k=>e k.symm
   rw [(hvo j hne).2.1]
   exact h.pb j hj (by simpa [kN,jo _ e] using hv)
theorem Rel.kill (h:Rel ty A g ⟨tm,H⟩ a w) {id:Nat} {o:Obj'} (hr:jp H id = .live o) :
  Rel ty A g ⟨tm,jB H id .dead⟩ a w ∧ Ch g g H (jB H id .dead) w w:=by
 have hlt:=jF hr
 refine h.upd hlt (by simp) rfl (fun _ _=>⟨rfl,rfl,rfl⟩) (fun _ hi=>?_) (fun _ hi=>?_) (fun _ _=>rfl) (Nat.le_refl _) (fun _ o ho=>by simp at ho) (fun _ hi=>?_) h.keep
 ·obtain ⟨e,l,hi⟩:=hi; simp [jt _ hlt] at hi
 ·obtain ⟨e,l,hi⟩:=hi; simp [jt _ hlt] at hi
 ·obtain ⟨e,l,hi⟩:=hi; simp [jt _ hlt] at hi
theorem Keep.trans {w':World} (h:Keep A w) (ho:w'.os=w.os) (ht:w'.tape=w.tape) (hp:w'.output=w.output) (hs:w.heap.size ≤ w'.heap.size)
  (hb:∀ b,b < A.w0.heap.size → ¬ A.Pv b → ¬ A.Pm b → w'.heap[b]? = w.heap[b]?):Keep A w' :=
 ⟨ho.trans h.os,ht.trans h.tape,hp.trans h.output,Nat.le_trans h.size hs,fun b h1 h2 h3=>(hb b h1 h2 h3).trans (h.block b h1 h2 h3)⟩
theorem VN (w:World) (o:Obj) {b:Nat} (h:b < w.heap.size):(w.alloc o).heap[b]? = w.heap[b]?:=heap_alloc_old w o h
theorem Rel.new (h:Rel ty A g ⟨tm,H⟩ a w) {base:Nat} {o:Obj'} {obj:Obj} (hf:jp H base = .free) (v:Value)
  (hob:∀ g':Gh,g'.val base=v → g'.blk base=w.heap.size → g'.I=g.I → Ch g g' H (jB H base (.live o)) w (w.alloc obj) → OR ty g' (jB H base (.live o)) (w.alloc obj) base o ∧ ∀ b,jM g' base o b → b=w.heap.size) :
  ∃ g',Rel ty A g' ⟨tm,jB H base (.live o)⟩ a (w.alloc obj) ∧ Ch g g' H (jB H base (.live o)) w (w.alloc obj) ∧ g'.val base=v ∧ g'.blk base=w.heap.size ∧ g'.I=g.I:=by
 have hlt:=kM hf
 let g':Gh:={ I:=g.I,blk:=fun i=>if i=base then w.heap.size else g.blk i,val:=fun i=>if i=base then v else g.val i,dom:=fun i=>if i=base then fun _=>False else g.dom i }
 have hv:g'.val base=v:=by simp [g']
 have hb:g'.blk base=w.heap.size:=by simp [g']
 have r:=h.upd (id:=base) (x:=.live o) (g':=g') (w':=w.alloc obj) hlt (by simp) rfl (fun i hi=>by simp [g',hi]) (fun hn=>absurd hn (kx hf)) (fun hn=>absurd hn (kx hf))
  (fun b hb=>VN w obj (by
   rcases hb with hb | ⟨i,p,_,hi,hb⟩
   ·exact h.lt b hb
   ·exact h.oblk_lt hi hb)) (by simp)
  (fun hch p hp=>by
   obtain rfl:o=p:=by simpa using hp
   obtain ⟨h1,h2⟩:=hob g' hv hb rfl hch
   refine ⟨h1,fun b hb'=>?_⟩
   have:=h2 b hb'
   subst this
   refine ⟨fun hI=>absurd (h.lt _ hI) (Nat.lt_irrefl _),?_,fun i p _ hi hp'=>absurd (h.oblk_lt hi hp') (Nat.lt_irrefl _)⟩
   cases o with
   | var t cs=>exact .inl h.keep.size
   | row e l=>exact .inl h.keep.size
   | fz e l=>exact .inl h.keep.size
   | pt e l=>exact .inl h.keep.size
   | hl e l ix=>exact .inl h.keep.size)
  (fun hm _=>absurd (h.nfm base hm) (kx hf))
  (h.keep.trans rfl rfl rfl (by simp) fun b hb _ _=>VN w obj (Nat.lt_of_lt_of_le hb h.keep.size))
 exact ⟨g',r.1,r.2,hv,hb,rfl⟩
end
end Go.Proofs.QV
