/- The program's data as Lean's own records, and their cells. -/
import Derived.Test.YtljggmbgbnmapaaGreatV33
namespace Go.Proofs.YtljggmbgbnmapaaGreatV
open Go
set_option linter.unusedVariables false
set_option linter.unusedSimpArgs false

def S1 (s : List UInt8) : List DC := [.s s]
def I1 (n : Int) : List DC := [.i n]

/-! How much data there is: the bytes of strings and the elements of slices. -/
mutual
def DC.wt : DC → Nat
  | .s l => l.length
  | .sl l => l.length + wtV l
  | _ => 0
def wtL : List DC → Nat
  | [] => 0
  | c :: cs => c.wt + wtL cs
def wtV : List (List DC) → Nat
  | [] => 0
  | x :: xs => wtL x + wtV xs
end

/-! No length is beyond what a length may be. -/
mutual
def DC.ok : DC → Prop
  | .s l => l.length ≤ 9223372036854775807
  | .sl l => l.length ≤ 9223372036854775807 ∧ okV l
  | _ => True
def okL : List DC → Prop
  | [] => True
  | c :: cs => c.ok ∧ okL cs
def okV : List (List DC) → Prop
  | [] => True
  | x :: xs => okL x ∧ okV xs
end

theorem okV_mem : ∀ {l : List (List DC)}, okV l → ∀ x ∈ l, okL x
  | [], _, _, h => by cases h
  | y :: l, h, x, hx => by
    rw [okV] at h
    rcases List.mem_cons.1 hx with rfl | hx
    · exact h.1
    · exact okV_mem h.2 x hx
theorem wtV_mem : ∀ {l : List (List DC)} {x : List DC}, x ∈ l → wtL x ≤ wtV l
  | [], _, h => by cases h
  | y :: l, x, hx => by
    rw [wtV]
    rcases List.mem_cons.1 hx with rfl | hx
    · omega
    · have := wtV_mem hx; omega
theorem wtV_append : ∀ (l m : List (List DC)), wtV (l ++ m) = wtV l + wtV m
  | [], m => by simp [wtV]
  | x :: l, m => by rw [List.cons_append, wtV, wtV, wtV_append l m]; omega
theorem wtL_append : ∀ (l m : List DC), wtL (l ++ m) = wtL l + wtL m
  | [], m => by simp [wtL]
  | x :: l, m => by rw [List.cons_append, wtL, wtL, wtL_append l m]; omega

structure TToken where
  kind : Int
  text : List UInt8
  at' : Int

def TToken.enc (v : TToken) : List DC := [.i v.kind, .s v.text, .i v.at']
theorem TToken.enc_eq (v : TToken) : v.enc = [.i v.kind, .s v.text, .i v.at'] := rfl

structure TFault where
  code : Int
  at' : Int

def TFault.enc (v : TFault) : List DC := [.i v.code, .i v.at']
theorem TFault.enc_eq (v : TFault) : v.enc = [.i v.code, .i v.at'] := rfl

structure TValue where
  kind : Int
  text : List UInt8
  items : List TValue
  names : List (List UInt8)

theorem TValue.lt {v x : TValue} (h : x ∈ v.items) : SizeOf.sizeOf x < SizeOf.sizeOf v := by
  have h2 := List.sizeOf_lt_of_mem h
  cases v
  simp only [TValue.mk.sizeOf_spec]
  dsimp only at h2
  omega
def TValue.enc (v : TValue) : List DC := [.i v.kind, .s v.text, .sl (v.items.attach.map fun x => TValue.enc x.1), .sl (v.names.map S1)]
termination_by SizeOf.sizeOf v
decreasing_by exact TValue.lt x.2
theorem TValue.enc_eq (v : TValue) : v.enc = [.i v.kind, .s v.text, .sl (v.items.map TValue.enc), .sl (v.names.map S1)] := by
  rw [TValue.enc]
  simp
theorem TValue.ind {P : TValue → Prop} (h : ∀ v : TValue, (∀ x ∈ v.items, P x) → P v) (v : TValue) : P v := h v fun x hx => TValue.ind h x
termination_by SizeOf.sizeOf v
decreasing_by exact TValue.lt hx

structure TType where
  name : List UInt8
  wraps : List UInt8

def TType.enc (v : TType) : List DC := [.s v.name, .s v.wraps]
theorem TType.enc_eq (v : TType) : v.enc = [.s v.name, .s v.wraps] := rfl

structure TArg where
  name : List UInt8
  value : TValue

def TArg.enc (v : TArg) : List DC := [.s v.name, .i v.value.kind, .s v.value.text, .sl (v.value.items.map TValue.enc), .sl (v.value.names.map S1)]
theorem TArg.enc_eq (v : TArg) : v.enc = [.s v.name, .i v.value.kind, .s v.value.text, .sl (v.value.items.map TValue.enc), .sl (v.value.names.map S1)] := rfl

structure TDir where
  name : List UInt8
  args : List TArg

def TDir.enc (v : TDir) : List DC := [.s v.name, .sl (v.args.map TArg.enc)]
theorem TDir.enc_eq (v : TDir) : v.enc = [.s v.name, .sl (v.args.map TArg.enc)] := rfl

structure TSel where
  kind : Int
  alias : List UInt8
  name : List UInt8
  on' : List UInt8
  args : List TArg
  dirs : List TDir
  sels : List TSel

theorem TSel.lt {v x : TSel} (h : x ∈ v.sels) : SizeOf.sizeOf x < SizeOf.sizeOf v := by
  have h2 := List.sizeOf_lt_of_mem h
  cases v
  simp only [TSel.mk.sizeOf_spec]
  dsimp only at h2
  omega
def TSel.enc (v : TSel) : List DC := [.i v.kind, .s v.alias, .s v.name, .s v.on', .sl (v.args.map TArg.enc), .sl (v.dirs.map TDir.enc), .sl (v.sels.attach.map fun x => TSel.enc x.1)]
termination_by SizeOf.sizeOf v
decreasing_by exact TSel.lt x.2
theorem TSel.enc_eq (v : TSel) : v.enc = [.i v.kind, .s v.alias, .s v.name, .s v.on', .sl (v.args.map TArg.enc), .sl (v.dirs.map TDir.enc), .sl (v.sels.map TSel.enc)] := by
  rw [TSel.enc]
  simp
theorem TSel.ind {P : TSel → Prop} (h : ∀ v : TSel, (∀ x ∈ v.sels, P x) → P v) (v : TSel) : P v := h v fun x hx => TSel.ind h x
termination_by SizeOf.sizeOf v
decreasing_by exact TSel.lt hx

structure TVarDef where
  name : List UInt8
  type' : TType
  has' : Bool
  default' : TValue
  dirs : List TDir

def TVarDef.enc (v : TVarDef) : List DC := [.s v.name, .s v.type'.name, .s v.type'.wraps, .b v.has', .i v.default'.kind, .s v.default'.text, .sl (v.default'.items.map TValue.enc), .sl (v.default'.names.map S1), .sl (v.dirs.map TDir.enc)]
theorem TVarDef.enc_eq (v : TVarDef) : v.enc = [.s v.name, .s v.type'.name, .s v.type'.wraps, .b v.has', .i v.default'.kind, .s v.default'.text, .sl (v.default'.items.map TValue.enc), .sl (v.default'.names.map S1), .sl (v.dirs.map TDir.enc)] := rfl

structure TOp where
  kind : Int
  name : List UInt8
  vars : List TVarDef
  dirs : List TDir
  sels : List TSel

def TOp.enc (v : TOp) : List DC := [.i v.kind, .s v.name, .sl (v.vars.map TVarDef.enc), .sl (v.dirs.map TDir.enc), .sl (v.sels.map TSel.enc)]
theorem TOp.enc_eq (v : TOp) : v.enc = [.i v.kind, .s v.name, .sl (v.vars.map TVarDef.enc), .sl (v.dirs.map TDir.enc), .sl (v.sels.map TSel.enc)] := rfl

structure TFrag where
  name : List UInt8
  on' : List UInt8
  dirs : List TDir
  sels : List TSel

def TFrag.enc (v : TFrag) : List DC := [.s v.name, .s v.on', .sl (v.dirs.map TDir.enc), .sl (v.sels.map TSel.enc)]
theorem TFrag.enc_eq (v : TFrag) : v.enc = [.s v.name, .s v.on', .sl (v.dirs.map TDir.enc), .sl (v.sels.map TSel.enc)] := rfl

structure TInDef where
  name : List UInt8
  desc : List UInt8
  type' : TType
  has' : Bool
  default' : TValue
  dirs : List TDir

def TInDef.enc (v : TInDef) : List DC := [.s v.name, .s v.desc, .s v.type'.name, .s v.type'.wraps, .b v.has', .i v.default'.kind, .s v.default'.text, .sl (v.default'.items.map TValue.enc), .sl (v.default'.names.map S1), .sl (v.dirs.map TDir.enc)]
theorem TInDef.enc_eq (v : TInDef) : v.enc = [.s v.name, .s v.desc, .s v.type'.name, .s v.type'.wraps, .b v.has', .i v.default'.kind, .s v.default'.text, .sl (v.default'.items.map TValue.enc), .sl (v.default'.names.map S1), .sl (v.dirs.map TDir.enc)] := rfl

structure TFieldDef where
  name : List UInt8
  desc : List UInt8
  args : List TInDef
  type' : TType
  dirs : List TDir

def TFieldDef.enc (v : TFieldDef) : List DC := [.s v.name, .s v.desc, .sl (v.args.map TInDef.enc), .s v.type'.name, .s v.type'.wraps, .sl (v.dirs.map TDir.enc)]
theorem TFieldDef.enc_eq (v : TFieldDef) : v.enc = [.s v.name, .s v.desc, .sl (v.args.map TInDef.enc), .s v.type'.name, .s v.type'.wraps, .sl (v.dirs.map TDir.enc)] := rfl

structure TEnumDef where
  name : List UInt8
  desc : List UInt8
  dirs : List TDir

def TEnumDef.enc (v : TEnumDef) : List DC := [.s v.name, .s v.desc, .sl (v.dirs.map TDir.enc)]
theorem TEnumDef.enc_eq (v : TEnumDef) : v.enc = [.s v.name, .s v.desc, .sl (v.dirs.map TDir.enc)] := rfl

structure TRoot where
  kind : Int
  type' : List UInt8

def TRoot.enc (v : TRoot) : List DC := [.i v.kind, .s v.type']
theorem TRoot.enc_eq (v : TRoot) : v.enc = [.i v.kind, .s v.type'] := rfl

structure TDef where
  kind : Int
  ext : Bool
  desc : List UInt8
  name : List UInt8
  faces : List (List UInt8)
  fields : List TFieldDef
  inputs : List TInDef
  values : List TEnumDef
  roots : List TRoot
  repeat' : Bool
  dirs : List TDir

def TDef.enc (v : TDef) : List DC := [.i v.kind, .b v.ext, .s v.desc, .s v.name, .sl (v.faces.map S1), .sl (v.fields.map TFieldDef.enc), .sl (v.inputs.map TInDef.enc), .sl (v.values.map TEnumDef.enc), .sl (v.roots.map TRoot.enc), .b v.repeat', .sl (v.dirs.map TDir.enc)]
theorem TDef.enc_eq (v : TDef) : v.enc = [.i v.kind, .b v.ext, .s v.desc, .s v.name, .sl (v.faces.map S1), .sl (v.fields.map TFieldDef.enc), .sl (v.inputs.map TInDef.enc), .sl (v.values.map TEnumDef.enc), .sl (v.roots.map TRoot.enc), .b v.repeat', .sl (v.dirs.map TDir.enc)] := rfl

structure TItem where
  kind : Int
  op : TOp
  frag : TFrag
  def' : TDef

def TItem.enc (v : TItem) : List DC := [.i v.kind, .i v.op.kind, .s v.op.name, .sl (v.op.vars.map TVarDef.enc), .sl (v.op.dirs.map TDir.enc), .sl (v.op.sels.map TSel.enc), .s v.frag.name, .s v.frag.on', .sl (v.frag.dirs.map TDir.enc), .sl (v.frag.sels.map TSel.enc), .i v.def'.kind, .b v.def'.ext, .s v.def'.desc, .s v.def'.name, .sl (v.def'.faces.map S1), .sl (v.def'.fields.map TFieldDef.enc), .sl (v.def'.inputs.map TInDef.enc), .sl (v.def'.values.map TEnumDef.enc), .sl (v.def'.roots.map TRoot.enc), .b v.def'.repeat', .sl (v.def'.dirs.map TDir.enc)]
theorem TItem.enc_eq (v : TItem) : v.enc = [.i v.kind, .i v.op.kind, .s v.op.name, .sl (v.op.vars.map TVarDef.enc), .sl (v.op.dirs.map TDir.enc), .sl (v.op.sels.map TSel.enc), .s v.frag.name, .s v.frag.on', .sl (v.frag.dirs.map TDir.enc), .sl (v.frag.sels.map TSel.enc), .i v.def'.kind, .b v.def'.ext, .s v.def'.desc, .s v.def'.name, .sl (v.def'.faces.map S1), .sl (v.def'.fields.map TFieldDef.enc), .sl (v.def'.inputs.map TInDef.enc), .sl (v.def'.values.map TEnumDef.enc), .sl (v.def'.roots.map TRoot.enc), .b v.def'.repeat', .sl (v.def'.dirs.map TDir.enc)] := rfl

structure TDoc where
  items : List TItem

def TDoc.enc (v : TDoc) : List DC := [.sl (v.items.map TItem.enc)]
theorem TDoc.enc_eq (v : TDoc) : v.enc = [.sl (v.items.map TItem.enc)] := rfl

structure TSchema where
  types : List TDef
  dirs : List TDef
  roots : List TRoot

def TSchema.enc (v : TSchema) : List DC := [.sl (v.types.map TDef.enc), .sl (v.dirs.map TDef.enc), .sl (v.roots.map TRoot.enc)]
theorem TSchema.enc_eq (v : TSchema) : v.enc = [.sl (v.types.map TDef.enc), .sl (v.dirs.map TDef.enc), .sl (v.roots.map TRoot.enc)] := rfl

structure TJson where
  kind : Int
  text : List UInt8
  items : List TJson
  names : List (List UInt8)

theorem TJson.lt {v x : TJson} (h : x ∈ v.items) : SizeOf.sizeOf x < SizeOf.sizeOf v := by
  have h2 := List.sizeOf_lt_of_mem h
  cases v
  simp only [TJson.mk.sizeOf_spec]
  dsimp only at h2
  omega
def TJson.enc (v : TJson) : List DC := [.i v.kind, .s v.text, .sl (v.items.attach.map fun x => TJson.enc x.1), .sl (v.names.map S1)]
termination_by SizeOf.sizeOf v
decreasing_by exact TJson.lt x.2
theorem TJson.enc_eq (v : TJson) : v.enc = [.i v.kind, .s v.text, .sl (v.items.map TJson.enc), .sl (v.names.map S1)] := by
  rw [TJson.enc]
  simp
theorem TJson.ind {P : TJson → Prop} (h : ∀ v : TJson, (∀ x ∈ v.items, P x) → P v) (v : TJson) : P v := h v fun x hx => TJson.ind h x
termination_by SizeOf.sizeOf v
decreasing_by exact TJson.lt hx

structure TUse where
  name : List UInt8
  type' : TType
  has' : Bool
  free : Bool

def TUse.enc (v : TUse) : List DC := [.s v.name, .s v.type'.name, .s v.type'.wraps, .b v.has', .b v.free]
theorem TUse.enc_eq (v : TUse) : v.enc = [.s v.name, .s v.type'.name, .s v.type'.wraps, .b v.has', .b v.free] := rfl

structure TChange where
  code : Int
  name : List UInt8
  part : List UInt8

def TChange.enc (v : TChange) : List DC := [.i v.code, .s v.name, .s v.part]
theorem TChange.enc_eq (v : TChange) : v.enc = [.i v.code, .s v.name, .s v.part] := rfl

structure TProblem where
  code : Int
  name : List UInt8
  part : List UInt8

def TProblem.enc (v : TProblem) : List DC := [.i v.code, .s v.name, .s v.part]
theorem TProblem.enc_eq (v : TProblem) : v.enc = [.i v.code, .s v.name, .s v.part] := rfl

structure TPlace where
  line : Int
  col : Int

def TPlace.enc (v : TPlace) : List DC := [.i v.line, .i v.col]
theorem TPlace.enc_eq (v : TPlace) : v.enc = [.i v.line, .i v.col] := rfl

end Go.Proofs.YtljggmbgbnmapaaGreatV
