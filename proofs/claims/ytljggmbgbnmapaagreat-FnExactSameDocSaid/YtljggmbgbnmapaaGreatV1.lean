/- The evaluator of the loaded code over plain data: one operation, a region, code, a call (definitions alone). -/
import Derived.Test.YtljggmbgbnmapaaGreatV0
namespace Go.Proofs.YtljggmbgbnmapaaGreatV
open Go

def putC (tm : List C) (dst : Option Tmp) (c : C) : List C :=
  match dst with
  | some d => tm.set d c
  | none => tm

def isSlice (ti : Option TI) : Option Nat :=
  match ti with
  | some ti => match ti.kd with
    | .slice e => some e
    | _ => none
  | none => none

def isStruct (ti : Option TI) : Bool :=
  match ti with
  | some ti => match ti.kd with
    | .struct => true
    | _ => false
  | none => false

/-! ### Normal forms -/

def normK1 (ty : Nat → Option TI) (H : List HS) : K1 → S → Option (List DC × List HS)
  | .u, _ => some ([], H)
  | .b, .bool x => some ([.b x], H)
  | .i k, .int k' n => if k' = k then some ([.i n], H) else none
  | .s, .str l => some ([.s l], H)
  | .sl e, s =>
    match toDC H (.sl e) s with
    | some (d, H1) => some ([d], H1)
    | none => none
  | .own e _, .own id =>
    match getH H id with
    | .live (.row e' l) => if e' = e then some ([.sl l], setH H id .dead) else none
    | _ => none
  | .own e _, .nil =>
    match ty e with
    | some ti => if 0 < ti.cts.length then some ([.sl []], H) else none
    | none => none
  | .ptr id off, .ptr id' off' => if id' = id ∧ off' = off then some ([], H) else none
  | .fn f caps, .fn f' caps' => if f' = f ∧ caps' = caps then some ([], H) else none
  | .nil, .nil => some ([], H)
  | _, _ => none

def normL (ty : Nat → Option TI) (H : List HS) : List K1 → List S → Option (List DC × List HS)
  | [], [] => some ([], H)
  | k :: ks, s :: ss =>
    match normK1 ty H k s with
    | some (d, H1) =>
      match normL ty H1 ks ss with
      | some (ds, H2) => some (d ++ ds, H2)
      | none => none
    | none => none
  | _, _ => none

def K1.ids : K1 → List Nat
  | .own _ id => [id]
  | _ => []
def K1.pids : K1 → List Nat
  | .ptr id _ => [id]
  | .fn _ caps => caps
  | _ => []
/-- The kinds, in a row. -/
def KC.kinds : KC → List K1
  | .one k => [k]
  | .agg l => l
def KO.kinds : KO → List K1
  | .u => []
  | .var _ l => l
def KO.isU : KO → Bool
  | .u => true
  | _ => false
def Hint.kinds (h : Hint) : List K1 := h.tm.flatMap KC.kinds ++ h.ob.flatMap KO.kinds
def nodupB : List Nat → Bool
  | [] => true
  | a :: l => !(l.contains a) && nodupB l
def Hint.ids (h : Hint) : List Nat := h.kinds.flatMap K1.ids
def Hint.pids (h : Hint) : List Nat := h.kinds.flatMap K1.pids
def Hint.ok (h : Hint) : Bool := nodupB h.ids && (h.ids.all fun id => match h.ob[id]? with | some k => k.isU | none => false) &&
  h.pids.all fun id => match h.ob[id]? with | some k => !k.isU | none => false

/-- The variables that were handed over stay. -/
def Hint.okM (mm : Nat) (h : Hint) : Bool := h.ok && (List.range mm).all fun j => match h.ob[j]? with | some k => !k.isU | none => false

/-- The cells that stand at them. -/
def srcT : List KC → List C → Option (List S)
  | [], [] => some []
  | .one .u :: ks, _ :: cs =>
    match srcT ks cs with
    | some r => some (.undef :: r)
    | none => none
  | .one _ :: ks, .one s :: cs =>
    match srcT ks cs with
    | some r => some (s :: r)
    | none => none
  | .agg l :: ks, .agg ss :: cs =>
    if ss.length = l.length then
      match srcT ks cs with
      | some r => some (ss ++ r)
      | none => none
    else none
  | _, _ => none

def srcO (H : List HS) : Nat → List KO → Option (List S)
  | _, [] => some []
  | id, .u :: ks => srcO H (id + 1) ks
  | id, .var t l :: ks =>
    match getH H id with
    | .live (.var t' cs) =>
      if t' = t ∧ cs.length = l.length then
        match srcO H (id + 1) ks with
        | some r => some (cs ++ r)
        | none => none
      else none
    | _ => none

def normS (ty : Nat → Option TI) (mm : Nat) (h : Hint) (st : St) : Option (List DC) :=
  match h.okM mm with
  | true =>
    match srcT h.tm st.tm, srcO st.H 0 h.ob with
    | some p, some q =>
      match normL ty st.H h.kinds (p ++ q) with
      | some (v, _) => some v
      | none => none
    | _, _ => none
  | false => none

def K1.cnt : K1 → Nat
  | .b | .i _ | .s | .sl _ | .own _ _ => 1
  | _ => 0
def cntL : List K1 → Nat
  | [] => 0
  | k :: ks => k.cnt + cntL ks
def K1.mk (v : List DC) (n : Nat) : K1 → S
  | .u => .undef
  | .b => .bool (v.getD n d0).bb
  | .i k => .int k (v.getD n d0).ii
  | .s => .str (v.getD n d0).ss
  | .sl e => .sl e (v.getD n d0).ll
  | .own _ id => .own id
  | .ptr id off => .ptr id off
  | .fn f caps => .fn f caps
  | .nil => .nil
/-- The cells of kinds, from the n-th datum on. -/
def mkL (v : List DC) : Nat → List K1 → List S
  | _, [] => []
  | n, k :: ks => k.mk v n :: mkL v (n + k.cnt) ks
def mkT (v : List DC) : Nat → List KC → List C
  | _, [] => []
  | n, .one k :: ks => .one (k.mk v n) :: mkT v (n + k.cnt) ks
  | n, .agg l :: ks => .agg (mkL v n l) :: mkT v (n + cntL l) ks
/-- The row of the call's own at a place. -/
def ownAt (v : List DC) (id : Nat) : Nat → List K1 → HS
  | _, [] => .free
  | n, .own e i :: ks => if i = id then .live (.row e (v.getD n d0).ll) else ownAt v id (n + 1) ks
  | n, k :: ks => ownAt v id (n + k.cnt) ks
def mkO (v : List DC) (ks0 : List K1) : Nat → Nat → List KO → List HS
  | _, _, [] => []
  | n, id, .u :: ks => ownAt v id 0 ks0 :: mkO v ks0 n (id + 1) ks
  | n, id, .var t l :: ks => .live (.var t (mkL v n l)) :: mkO v ks0 (n + cntL l) (id + 1) ks
def mkSt (h : Hint) (v : List DC) : St :=
  { tm := mkT v 0 h.tm, H := mkO v h.kinds (cntL (h.tm.flatMap KC.kinds)) 0 h.ob }

/-! ### What is handed to a call -/

def CT.k1 : CT → K1
  | .b => .b
  | .i k => .i k
  | .s => .s
  | .sl e => .sl e
/-- The variables that a call is handed. -/
def argIds : List PK → List C → List Nat
  | .ptr :: ps, .one (.ptr id _) :: cs => id :: argIds ps cs
  | .fn :: ps, .one (.fn _ caps) :: cs => caps ++ argIds ps cs
  | _ :: ps, _ :: cs => argIds ps cs
  | _, _ => []
/-- The kinds of the arguments as the callee has them: n: the next variable; r: the next row. -/
def argK : Nat → Nat → List PK → List C → Option (List KC)
  | _, _, [], [] => some []
  | n, r, .ct c :: ps, _ :: cs => (match argK n r ps cs with | some l => some (.one c.k1 :: l) | none => none)
  | n, r, .ag ts :: ps, _ :: cs => (match argK n r ps cs with | some l => some (.agg (ts.map CT.k1) :: l) | none => none)
  | n, r, .mv e :: ps, _ :: cs => (match argK n (r + 1) ps cs with | some l => some (.one (.own e r) :: l) | none => none)
  | n, r, .ptr :: ps, .one (.ptr _ 0) :: cs => (match argK (n + 1) r ps cs with | some l => some (.one (.ptr n 0) :: l) | none => none)
  | n, r, .fn :: ps, .one (.fn f caps) :: cs => (match argK (n + caps.length) r ps cs with | some l => some (.one (.fn f (List.range' n caps.length)) :: l) | none => none)
  | _, _, _, _ => none
def PK.isMv : PK → Bool
  | .mv _ => true
  | _ => false
def isVarB (H : List HS) (id : Nat) : Bool :=
  match getH H id with
  | .live (.var _ _) => true
  | _ => false
/-- The variables' kinds. -/
def objK (ty : Nat → Option TI) (H : List HS) : List Nat → Option (List KO)
  | [] => some []
  | id :: ids =>
    match getH H id with
    | .live (.var t _) =>
      match ty t, objK ty H ids with
      | some ti, some l => some (.var t (ti.cts.map CT.k1) :: l)
      | _, _ => none
    | _ => none
/-- Addresses and functions lead no data. -/
def K1.data : K1 → K1
  | .ptr _ _ => .u
  | .fn _ _ => .u
  | k => k
def KC.data : KC → KC
  | .one k => .one k.data
  | .agg l => .agg (l.map K1.data)
/-- The variables' cells. -/
def srcV (H : List HS) : List Nat → List KO → Option (List S)
  | [], [] => some []
  | id :: ids, .var t l :: ks =>
    match getH H id with
    | .live (.var t' cs) =>
      if t' = t ∧ cs.length = l.length then
        match srcV H ids ks with
        | some r => some (cs ++ r)
        | none => none
      else none
    | _ => none
  | _, _ => none
/-- The variables that a call was handed: the first of the objects. -/
def KO.vars : List KO → List KO
  | .var t l :: ks => .var t l :: KO.vars ks
  | _ => []

def RK.k1 (id : Nat) : RK → K1
  | .ct c => c.k1
  | .new e => .own e id
def RK.nx (id : Nat) : RK → Nat
  | .ct _ => id
  | .new _ => id + 1
/-- The kinds of what comes back; new rows take their places from id on. -/
def rkK (id : Nat) : List RK → List K1
  | [] => []
  | r :: l => r.k1 id :: rkK (r.nx id) l
def rkN (id : Nat) : List RK → Nat
  | [] => id
  | r :: l => rkN (r.nx id) l
/-- What came back, as slots. -/
def resT (v : List DC) : Nat → Nat → List (Bool × List RK) → List (Bool × List S)
  | _, _, [] => []
  | n, id, (a, l) :: rs => (a, mkL v n (rkK id l)) :: resT v (n + l.length) (rkN id l) rs
def resC (v : List DC) (id : Nat) (rs : List (Bool × List RK)) : C :=
  match rs with
  | [(a, l)] => mkC a (mkL v 0 (rkK id l))
  | rs => .tup (resT v 0 id rs)
/-- The new rows are put in their places. -/
def putRows (v : List DC) : Nat → List K1 → List HS → Option (List HS)
  | _, [], H => some H
  | n, .own e id :: ks, H =>
    match getH H id with
    | .free => putRows v (n + 1) ks (setH H id (.live (.row e (v.getD n d0).ll)))
    | _ => none
  | n, k :: ks, H => putRows v (n + k.cnt) ks H
/-- The variables that were handed over, as they came back. -/
def putVars (v : List DC) : Nat → List Nat → List KO → List HS → List HS
  | n, id :: ids, .var t l :: ks, H => putVars v (n + cntL l) ids ks (setH H id (.live (.var t (mkL v n l))))
  | _, _, _, H => H
def RK.isCt : RK → Bool
  | .ct _ => true
  | .new _ => false
def S.noOwn : S → Bool
  | .own _ => false
  | _ => true
def C.noOwn : C → Bool
  | .one s => s.noOwn
  | .agg l => l.all S.noOwn
  | _ => true
def rkAll (id : Nat) (rs : List (Bool × List RK)) : List K1 := rkK id (rs.flatMap Prod.snd)

section
variable {ρ : Type} (ty : Nat → Option TI) (fn : Nat → Option FI) (cl : Nat → Hint → List DC → Out) (fail : ρ)

/-- A load from what an address leads to. -/
def loadR (t : Nat) (st : St) (a : C) (K : Cls → C → ρ) : ρ :=
  match ty t with
  | none => fail
  | some ti =>
    match a with
    | .one (.ptr id off) =>
      match getH st.H id with
      | .live (.var _ cs) => if off + ti.cts.length ≤ cs.length then K (.rv id) (mkC (isStruct (some ti)) ((cs.drop off).take ti.cts.length)) else fail
      | _ => fail
    | .elS e x off =>
      match ty e with
      | some te => if CT.sameL ((te.cts.drop off).take ti.cts.length) ti.cts then K .t (mkC (isStruct (some ti)) (ofDCs ti.cts x off)) else fail
      | none => fail
    | .elO e id ix off =>
      match ty e, getH st.H id with
      | some te, .live (.row e' l) => if e' = e ∧ CT.sameL ((te.cts.drop off).take ti.cts.length) ti.cts then K (.rv id) (mkC (isStruct (some ti)) (ofDCs ti.cts (l.getD ix []) off)) else fail
      | some te, .live (.fz e' l) => if e' = e ∧ CT.sameL ((te.cts.drop off).take ti.cts.length) ti.cts then K (.rv id) (mkC (isStruct (some ti)) (ofDCs ti.cts (l.getD ix []) off)) else fail
      | _, _ => fail
    | _ => fail

def storeR (t : Nat) (st : St) (a v : C) (K : List HS → ρ) : ρ :=
  match ty t, v.cells with
  | some ti, some ss =>
    if ss.length = ti.cts.length ∧ 0 < ss.length then
      match a with
      | .one (.ptr id off) =>
        match getH st.H id with
        | .live (.var t' cs) => if off + ss.length ≤ cs.length then K (setH st.H id (.live (.var t' (setRun cs off ss)))) else fail
        | _ => fail
      | .elO e id ix off =>
        match ty e, toDCs st.H ti.cts ss with
        | some te, some (ds, H1) =>
          if CT.sameL ((te.cts.drop off).take ti.cts.length) ti.cts then
            match getH H1 id with
            | .live (.row e' l) => if e' = e then K (setH H1 id (.live (.row e' (l.set ix (setRunD (l.getD ix []) off ds))))) else fail
            | _ => fail
          else fail
        | _, _ => fail
      | _ => fail
    else fail
  | _, _ => fail

def binR (op : BinOp) (t : Nat) (x y : C) (K : C → ρ) : ρ :=
  match x, y with
  | .one (.int k a), .one (.int k' b) =>
    match op with
    | .shl => if b < 0 then fail else K (.one (.int k (k.wrap (a * 2 ^ (min b.toNat k.bits)))))
    | .shr => if b < 0 then fail else K (.one (.int k (a.fdiv (2 ^ (min b.toNat k.bits)))))
    | .quo => if k' = k then (if b = 0 then fail else K (.one (.int k (k.wrap (a.tdiv b))))) else fail
    | .rem => if k' = k then (if b = 0 then fail else K (.one (.int k (a.tmod b)))) else fail
    | op => if k' = k then (match intBin op k a b with | some s => K (.one s) | none => fail) else fail
  | .one (.str a), .one (.str b) =>
    match op with
    | .add => if a.length + b.length < LIM then K (.one (.str (a ++ b))) else fail
    | op => (match strBin op a b with | some s => K (.one s) | none => fail)
  | .one (.bool a), .one (.bool b) =>
    match ty t, op with
    | some { kd := .bool, .. }, .eql => K (.one (.bool (a == b)))
    | some { kd := .bool, .. }, .neq => K (.one (.bool (!(a == b))))
    | _, _ => fail
  | .agg l, .agg m =>
    match op, eqCells l m, ty t with
    | .eql, some r, some ti => if ti.eq = true ∧ l.length = ti.cts.length ∧ m.length = ti.cts.length ∧ fitsL ti.cts l = true ∧ fitsL ti.cts m = true then K (.one (.bool r)) else fail
    | .neq, some r, some ti => if ti.eq = true ∧ l.length = ti.cts.length ∧ m.length = ti.cts.length ∧ fitsL ti.cts l = true ∧ fitsL ti.cts m = true then K (.one (.bool (!r))) else fail
    | _, _, _ => fail
  | _, _ => fail

def convR (src dst : Nat) (st : St) (x : C) (K : Cls → List HS → C → ρ) : ρ :=
  match ty src, ty dst with
  | some a, some b =>
    match a.kd, b.kd, x with
    | .int _, .int k, .one (.int _ n) => K .t st.H (.one (.int k (k.wrap n)))
    | .str, .str, .one (.str l) => K .t st.H (.one (.str l))
    | .slice e, .str, .one s =>
      match ty e, sliceOf st.H s with
      | some { kd := .int .u8, .. }, some (e', l) => if e' = e then K .r st.H (.one (.str (rowBytes l))) else fail
      | some { kd := .int .u8, .. }, none => (match s with | .nil => K .t st.H (.one (.str [])) | _ => fail)
      | _, _ => fail
    | _, _, _ => fail
  | _, _ => fail

def cutR {α : Type} (lo hi : Option C) (l : List α) (k : List α → ρ) : ρ :=
  match lo, hi with
  | none, none => k l
  | some (.one (.int _ a)), none => if 0 ≤ a ∧ a ≤ (l.length : Int) then k (l.drop a.toNat) else fail
  | none, some (.one (.int _ b)) => if 0 ≤ b ∧ b ≤ (l.length : Int) then k (l.take b.toNat) else fail
  | some (.one (.int _ a)), some (.one (.int _ b)) => if 0 ≤ a ∧ a ≤ b ∧ b ≤ (l.length : Int) then k ((l.take b.toNat).drop a.toNat) else fail
  | _, _ => fail

/-- A cut of a slice or a string. -/
def sliceR (t : Nat) (st : St) (x : C) (lo hi : Option C) (K : Cls → List HS → C → ρ) : ρ :=
  match ty t with
  | some ti =>
    match ti.kd, x with
    | .str, .one (.str l) => cutR fail lo hi l fun l' => K .t st.H (.one (.str l'))
    | .slice e, .one (.sl e' l) => if e' = e ∧ (ty e).isSome = true then cutR fail lo hi l fun l' => K .t st.H (.one (.sl e l')) else fail
    | .slice e, .one (.own id) =>
      match getH st.H id with
      | .live (.row e' l) => if e' = e ∧ (ty e).isSome = true then cutR fail lo hi l fun l' => K .w (setH st.H id (.live (.fz e' l))) (.one (.sl e' l')) else fail
      | .live (.fz e' l) => if e' = e ∧ (ty e).isSome = true then cutR fail lo hi l fun l' => K (.rv id) st.H (.one (.sl e' l')) else fail
      | _ => fail
    | _, _ => fail
  | none => fail

def indexR (e0 : Nat) (st : St) (x i : C) (K : Cls → C → ρ) : ρ :=
  match i with
  | .one (.int _ n) =>
    match x with
    | .one (.sl e l) => if e = e0 ∧ 0 ≤ n ∧ n < (l.length : Int) then K .t (.elS e (l.getD n.toNat []) 0) else fail
    | .one (.own id) =>
      match getH st.H id with
      | .live (.row e l) => if e = e0 ∧ 0 ≤ n ∧ n < (l.length : Int) then K (.rv id) (.elO e id n.toNat 0) else fail
      | .live (.fz e l) => if e = e0 ∧ 0 ≤ n ∧ n < (l.length : Int) then K (.rv id) (.elS e (l.getD n.toNat []) 0) else fail
      | _ => fail
    | _ => fail
  | _ => fail

def lenR (st : St) (x : C) (K : Cls → C → ρ) : ρ :=
  match x with
  | .one (.str l) => K .t (.one (.int .i64 (l.length : Int)))
  | .one .nil => K .t (.one (.int .i64 0))
  | .one (.sl _ l) => K .t (.one (.int .i64 (l.length : Int)))
  | .one (.own id) =>
    match sliceOf st.H (.own id) with
    | some (_, l) => K (.rv id) (.one (.int .i64 (l.length : Int)))
    | none => fail
  | _ => fail

/-- What is appended to: a row of the call's own, or nil. -/
def oldRow (H : List HS) (e : Nat) : C → Option (List (List DC) × List HS)
  | .one .nil => some ([], H)
  | .one (.own id) =>
    match getH H id with
    | .live (.row e' l) => if e' = e then some (l, setH H id .dead) else none
    | _ => none
  | _ => none

/-- What is appended. -/
def newRows (ty : Nat → Option TI) (H : List HS) (t u e : Nat) (te : TI) : C → Option (List (List DC))
  | .one .nil => if u = t then some [] else none
  | .one (.str l) =>
    match te.kd, ty u with
    | .int .u8, some { kd := .str, .. } => if te.bytes = 1 then some (bytesRow l) else none
    | _, _ => none
  | .one s =>
    match sliceOf H s with
    | some (e'', l) => if u = t ∧ e'' = e then some l else none
    | none => none
  | _ => none

/-- 'append(x, y...)' to a row of the call's own. -/
def appendR (t u : Nat) (base : Nat) (st : St) (x y : C) (K : List HS → C → ρ) : ρ :=
  match isSlice (ty t) with
  | none => fail
  | some e =>
    match ty e with
    | none => fail
    | some te =>
      if te.bytes ≤ 1024 ∧ 0 < te.cts.length then
        match oldRow st.H e x, newRows ty st.H t u e te y with
        | some (l, H1), some m =>
          match getH H1 base with
          | .free => if l.length + m.length < LIM then K (setH H1 base (.live (.row e (l ++ m)))) (.one (.own base)) else fail
          | _ => fail
        | _, _ => fail
      else fail

def callR (base : Nat) (st : St) (f : Nat) (caps : List Nat) (args : List C) (K : List HS → C → ρ) : ρ :=
  match fn f with
  | none => fail
  | some fi =>
    let as := args ++ caps.map (fun id => C.one (.ptr id 0))
    let ids := argIds fi.pk as
    match argK 0 ids.length fi.pk as, objK ty st.H ids with
    | some kcs, some kos =>
      match srcT (kcs.map KC.data) as, srcV st.H ids kos with
      | some p, some q =>
        match normL ty st.H (kcs.flatMap (fun k => k.data.kinds) ++ kos.flatMap KO.kinds) (p ++ q) with
        | some (v, H1) =>
          if (nodupB ids && caps.all (isVarB st.H) && ({ tm := kcs, ob := kos ++ List.replicate (fi.pk.filter PK.isMv).length .u } : Hint).ok) = true then
            match cl f { tm := kcs, ob := kos ++ List.replicate (fi.pk.filter PK.isMv).length .u } v with
            | .ret r =>
              match fi.rk.all (fun r => r.2.all (RK.flat ty)) && fi.pk.all PK.plain with
              | true =>
                (match putRows r 0 (rkAll base fi.rk) st.H with
                | some H2 => K H2 (resC r base fi.rk)
                | none => fail)
              | false =>
                (match putRows r 0 (rkAll base fi.rk) (putVars r (cntL (rkAll base fi.rk)) ids kos H1) with
                | some H2 => K H2 (resC r base fi.rk)
                | none => fail)
            | _ => fail
          else fail
        | none => fail
      | _, _ => fail
    | _, _ => fail

/-- What a store bears on. -/
def stCls : C → Cls
  | .one (.ptr id _) => .st id
  | _ => .w

/-- Does a call leave the objects as they are? -/
def callCls (f : Nat) (caps : List Nat) (args : List C) : Cls :=
  match fn f with
  | none => .w
  | some fi =>
    match caps, argIds fi.pk args, args.all C.noOwn, fi.rk.all (fun r => r.2.all RK.isCt) with
    | [], [], true, true => .t
    | _, _, _, _ => .w

/-- What one operation yields. -/
def stepV (base : Nat) (o : Oper) (tm : List C) (H : List HS) (K : Cls → List HS → C → ρ) : ρ :=
  match o.op with
  | .move x => K .t H (opd tm x)
  | .assign x => K .t H (opd tm x)
  | .pick c a b =>
    match opd tm c with
    | .one (.bool c) =>
      (match opd tm a, opd tm b with
      | .one a, .one b =>
        (match pickS c a b with
        | some s => K .t H (.one s)
        | none => if c = true then K .t H (.one a) else K .t H (.one b))
      | x, y => if c = true then K .t H x else K .t H y)
    | _ => fail
  | .alloc t =>
    match ty t, getH H base with
    | some ti, .free => K .n (setH H base (.live (.var t (ti.cts.map zeroS)))) (.one (.ptr base 0))
    | _, _ => fail
  | .box t x =>
    match ty t, (opd tm x).cells, getH H base with
    | some ti, some ss, .free => if ss.length = ti.cts.length then K .n (setH H base (.live (.var t ss))) (.one (.ptr base 0)) else fail
    | _, _, _ => fail
  | .build t parts =>
    match ty t with
    | some ti =>
      match buildC ti.flds (ti.cts.map zeroS) (parts.toList.map fun p => (p.1, opd tm p.2)) with
      | some ss => if isStruct (some ti) then K .t H (.agg ss) else fail
      | none => fail
    | none => fail
  | .buildSlice t n parts =>
    match isSlice (ty t) with
    | some e =>
      match ty e with
      | some te =>
        match rowsOf H te.cts 0 (parts.toList.map fun p => (p.1, opd tm p.2)) with
        | some (l, H1) =>
          match getH H1 base with
          | .free => if l.length = n ∧ n ≤ 10000 ∧ 0 < te.cts.length ∧ te.cts.length ≤ 1024 then K .w (setH H1 base (.live (.row e l))) (.one (.own base)) else fail
          | _ => fail
        | none => fail
      | none => fail
    | none => fail
  | .load t a => loadR ty fail t ⟨tm, H⟩ (opd tm a) fun c v => K c H v
  | .store t a v =>
    match o.dst with
    | none => storeR ty fail t ⟨tm, H⟩ (opd tm a) (opd tm v) fun H => K (stCls (opd tm a)) H (.one .undef)
    | some _ => fail
  | .nilCheck x =>
    match opd tm x with
    | .one (.ptr id off) => (match getH H id with | .live (.var _ _) => K (.rv id) H (.one (.ptr id off)) | _ => fail)
    | _ => fail
  | .binOp op t x y _ => binR ty fail op t (opd tm x) (opd tm y) fun v => K .t H v
  | .unOp op _ x =>
    match op, opd tm x with
    | .not, .one (.bool b) => K .t H (.one (.bool (!b)))
    | .neg, .one (.int k n) => K .t H (.one (.int k (k.wrap (0 - n))))
    | _, _ => fail
  | .convert src dst x => convR ty fail src dst ⟨tm, H⟩ (opd tm x) K
  | .makeFunc fn' first captured =>
    match fn', first.toList with
    | .func f, [] =>
      match (opds tm captured.toList).mapM (fun c => match c with | C.one (.ptr id 0) => some id | _ => none) with
      | some ids => K .t H (.one (.fn f ids))
      | none => fail
    | _, _ => fail
  | .makeSlice t n m =>
    match isSlice (ty t), opd tm n, opd tm m with
    | some e, .one (.int .i64 a), .one (.int .i64 b) =>
      match ty e, getH H base with
      | some te, .free => if 0 ≤ a ∧ a < (LIM : Int) ∧ b = a ∧ te.bytes ≤ 1024 ∧ 0 < te.cts.length then K .w (setH H base (.live (.row e (List.replicate a.toNat (te.cts.map zeroD))))) (.one (.own base)) else fail
      | _, _ => fail
    | _, _, _ => fail
  | .slice t x lo hi mx =>
    match mx with
    | none => sliceR ty fail t ⟨tm, H⟩ (opd tm x) (lo.map (opd tm)) (hi.map (opd tm)) K
    | some _ => fail
  | .fieldAddr t x j =>
    match ty t with
    | some ti =>
      match ti.flds[j]? with
      | some (off, n, _) =>
        if 0 < n ∧ isStruct (some ti) = true then
          match opd tm x with
          | .one (.ptr id o') => (match getH H id with | .live (.var _ _) => K (.rv id) H (.one (.ptr id (o' + off))) | _ => fail)
          | .elS e y o' => K .t H (.elS e y (o' + off))
          | .elO e id ix o' => (match getH H id with | .live (.row _ _) => K (.rv id) H (.elO e id ix (o' + off)) | _ => fail)
          | _ => fail
        else fail
      | none => fail
    | none => fail
  | .field t x j =>
    match ty t, opd tm x with
    | some ti, .agg l =>
      match ti.flds[j]? with
      | some (off, n, a) => if off + n ≤ l.length ∧ 0 < n ∧ isStruct (some ti) = true then K .t H (mkC a ((l.drop off).take n)) else fail
      | none => fail
    | _, _ => fail
  | .indexAddr t x i =>
    match isSlice (ty t) with
    | some e => indexR fail e ⟨tm, H⟩ (opd tm x) (opd tm i) fun c v => K c H v
    | none => fail
  | .index t x i =>
    match ty t, opd tm x, opd tm i with
    | some { kd := .str, .. }, .one (.str l), .one (.int _ n) => if 0 ≤ n ∧ n < (l.length : Int) then K .t H (.one (.int .u8 ((l.getD n.toNat 0).toNat : Int))) else fail
    | _, _, _ => fail
  | .extract x j =>
    match opd tm x with
    | .tup l =>
      match l[j]? with
      | some (a, ss) => K .t H (mkC a ss)
      | none => fail
    | _ => fail
  | .call c =>
    match c.callee with
    | .value f =>
      match opd tm f with
      | .one (.fn f caps) => callR ty fn cl fail base ⟨tm, H⟩ f caps (opds tm c.args.toList) fun H v => K (callCls fn f caps (opds tm c.args.toList)) H v
      | _ => fail
    | .builtin b =>
      match b, opds tm c.args.toList with
      | .len, [x] =>
        (match c.argTypes.toList with
        | [t] => (match ty t with
          | some { kd := .str, .. } => (match x with | .one (.str _) => lenR fail ⟨tm, H⟩ x fun cl v => K cl H v | _ => fail)
          | some { kd := .slice _, .. } => (match x with | .one (.str _) => fail | _ => lenR fail ⟨tm, H⟩ x fun cl v => K cl H v)
          | _ => fail)
        | _ => fail)
      | .min, [.one (.int k x), .one (.int _ y)] => K .t H (.one (.int k (if y < x then y else x)))
      | .max, [.one (.int k x), .one (.int _ y)] => K .t H (.one (.int k (if x < y then y else x)))
      | .append, [x, y] =>
        (match c.argTypes.toList with
        | [t, u] => appendR ty fail t u base ⟨tm, H⟩ x y fun H v => K .w H v
        | _ => fail)
      | _, _ => fail
    | _ => fail
  | _ => fail

/-- One operation. -/
def stepR (base : Nat) (o : Oper) (st : St) (K : Cls → St → ρ) : ρ :=
  stepV ty fn cl fail base o st.tm st.H fun c H v => K c { tm := putC st.tm o.dst v, H := H }

/-- One operation of a region, if its guard is met. -/
def opR (all : Array Oper) (base : Nat) (o : Oper) (st : St) (K : Cls → St → ρ) : ρ :=
  match o.guard with
  | none => stepR ty fn cl fail base o st K
  | some (j, want) =>
    match (all[j]?).bind (·.dst) with
    | none => fail
    | some d =>
      match st.tm.getD d (.one .undef) with
      | .one (.bool b) =>
        if b = true then
          (match want with
          | true => stepR ty fn cl fail base o { tm := st.tm.set d (.one (.bool true)), H := st.H } K
          | false => K .t { tm := putC (st.tm.set d (.one (.bool true))) o.dst (.tup []), H := st.H })
        else
          (match want with
          | false => stepR ty fn cl fail base o { tm := st.tm.set d (.one (.bool false)), H := st.H } K
          | true => K .t { tm := putC (st.tm.set d (.one (.bool false))) o.dst (.tup []), H := st.H })
      | .tup [] => K .t { tm := putC st.tm o.dst (.tup []), H := st.H }
      | _ => fail

def runR (all : Array Oper) : List (Oper × Nat) → List Cls → St → (List Cls → St → ρ) → ρ
  | [], acc, st, K => K acc.reverse st
  | (o, base) :: rest, acc, st, K => opR ty fn cl fail all base o st fun c st' => runR all rest (c :: acc) st' K
end

/-- The operations with the places that they may fill. -/
def zipI : List Oper → List Nat → List (Oper × Nat)
  | [], _ => []
  | o :: l, ids => (o, ids.headD 0) :: zipI l (ids.drop 1)

def Cls.free : Cls → Cls → Bool
  | .t, _ => true
  | _, .t => true
  | .r, .r => true
  | .r, .n => true
  | .n, .n => true
  | .r, .rv _ => true
  | .rv _, .r => true
  | .rv _, .rv _ => true
  | .rv _, .n => true
  | .rv i, .st j => !(Nat.beq i j)
  | .st i, .rv j => !(Nat.beq i j)
  | .st i, .st j => !(Nat.beq i j)
  | _, _ => false

/-- In a region that draws: two operations that may come in either order don't bear on each other. -/
def drawOk (ops : Array Oper) (cls : List Cls) : Bool :=
  let b := Region.before ops
  (List.range cls.length).all fun j => ((ops.getD j default).after.toList.all fun e => !Region.binds .any e || Nat.blt e.on j) && (List.range j).all fun i =>
    (b.getD j 0).testBit i || (Cls.free (cls.getD i .w) (cls.getD j .w) && Oper.apart ops (ops.getD i default) (ops.getD j default))

def toNorm (ty : Nat → Option TI) (mm : Nat) (h : Hint) (st : St) : Out :=
  match normS ty mm h st with
  | some v => .norm v
  | none => .fail

/-! ### Code -/

def loopF (F : List DC → Out) : Nat → List DC → Out
  | 0, _ => .fail
  | n + 1, v => (F v).andThen (loopF F n)

section
variable (ty : Nat → Option TI) (fn : Nat → Option FI) (cl : Nat → Hint → List DC → Out) (mm lf : Nat) (rt : St → Out)

def exec : AC → (Nat → Option Hint) → St → (St → Out) → Out
  | .skip, _, st, K => K st
  | .region _ ops draw ids none, _, st, K =>
    runR ty fn cl Out.fail ops (zipI ops.toList ids) [] st fun cs st' =>
      match draw && !(drawOk ops cs) with
      | true => .fail
      | false => K st'
  | .region _ ops draw ids (some h), _, st, K =>
    (runR ty fn cl Out.fail ops (zipI ops.toList ids) [] st fun cs st' =>
      match draw && !(drawOk ops cs) with
      | true => .fail
      | false => toNorm ty mm h st').andThen fun v => K (mkSt h v)
  | .seq a b, Γ, st, K => exec a Γ st fun st' => exec b Γ st' K
  | .cond c x y none, Γ, st, K =>
    match opd st.tm c with
    | .one (.bool b) => if b = true then exec x Γ st K else exec y Γ st K
    | _ => .fail
  | .cond c x y (some h), Γ, st, K =>
    match opd st.tm c with
    | .one (.bool b) => (if b = true then exec x Γ st (toNorm ty mm h) else exec y Γ st (toNorm ty mm h)).andThen fun v => K (mkSt h v)
    | _ => .fail
  | .block id body h, Γ, st, K =>
    (exec body (fun j => if j = id then some h else Γ j) st (toNorm ty mm h)).andThenB id fun v => K (mkSt h v)
  | .loop body h, Γ, st, _ =>
    match normS ty mm h st with
    | some v => loopF (fun v => exec body Γ (mkSt h v) (toNorm ty mm h)) lf v
    | none => .fail
  | .exit id, Γ, st, _ =>
    match Γ id with
    | some h =>
      (match normS ty mm h st with
      | some v => .ex id v
      | none => .fail)
    | none => .fail
  | .ret, _, st, _ => rt st
end

/-! ### A call -/

/-- The state at a function's begin. -/
def startSt (fi : FI) (h : Hint) (v : List DC) : St :=
  let s := mkSt h v
  { tm := s.tm ++ List.replicate (fi.ntmps - s.tm.length) (.one .undef), H := s.H ++ List.replicate (fi.nobj - s.H.length) .free }

/-- The results' cells. -/
def resSrc (ty : Nat → Option TI) (st : St) : List ResultVar → List (Bool × List RK) → Option (List S)
  | [], [] => some []
  | .tmp t :: rs, (a, ks) :: kss =>
    match st.tm.getD t (.one .undef), a, resSrc ty st rs kss with
    | .one s, false, some l => if ks.length = 1 then some (s :: l) else none
    | .agg ss, true, some l => if ss.length = ks.length then some (ss ++ l) else none
    | _, _, _ => none
  | .cell p t :: rs, (a, ks) :: kss =>
    match st.tm.getD p (.one .undef), ty t, resSrc ty st rs kss with
    | .one (.ptr id 0), some ti, some l =>
      (match getH st.H id with
      | .live (.var _ cs) => if cs.length = ti.cts.length ∧ cs.length = ks.length ∧ isStruct (some ti) = a then some (cs ++ l) else none
      | _ => none)
    | _, _, _ => none
  | _, _ => none

def retOut (ty : Nat → Option TI) (fi : FI) (h : Hint) (st : St) : Out :=
  match resSrc ty st fi.res fi.rk, srcO st.H 0 (KO.vars h.ob) with
  | some p, some q =>
    match normL ty st.H (rkAll 0 fi.rk ++ (KO.vars h.ob).flatMap KO.kinds) (p ++ q) with
    | some (v, _) => .ret v
    | none => .fail
  | _, _ => .fail

def callF (cfg : Cfg) : Nat → Nat → Hint → List DC → Out
  | 0, _, _, _ => .fail
  | k + 1, f, h, v =>
    match cfg.fn f with
    | none => .fail
    | some fi =>
      match fi.prim with
      | some p => (match p h v with | some r => .ret r | none => .fail)
      | none => exec cfg.ty cfg.fn (callF cfg k) (KO.vars h.ob).length k (retOut cfg.ty fi h) (fi.body h) (fun _ => none) (startSt fi h v) (retOut cfg.ty fi h)

end Go.Proofs.YtljggmbgbnmapaaGreatV
