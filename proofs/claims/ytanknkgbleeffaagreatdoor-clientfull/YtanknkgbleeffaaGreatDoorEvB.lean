/- A context out of a loaded program and tables. -/
import Derived.Test.YtanknkgbleeffaaGreatDoorEvA
set_option linter.all false
namespace Go.Proofs.Ev
open Go
noncomputable section

def shpD (P : Program) : TypeDesc → Shp
  | .bool => .bool
  | .int k => .int k
  | .string => .str
  | .pointer _ => .ptr
  | .slice e => .sl e
  | .array n e => .arr n e
  | .struct fs => .strct (fs.toList.map fun f => (f.offset, P.cellsOf f.type))
  | .func .. => .fn
  | .interface _ => .ifc
  | .tuple _ => .tup
  | _ => .other

def fldsOk (P : Program) : TypeDesc → Bool
  | .struct fs => fs.toList.all fun f => (P.info? f.type).isSome
  | _ => true

def tyOf (P : Program) (t : TypeId) : R Ty :=
  match P.info? t, P.underlying t with
  | some i, some d => match i.zero with
    | none => .no 202
    | some z => if fldsOk P d = true ∧ (cellsOf (ofV z)).length = i.size then .ok { size := i.size, bytes := i.bytes, shp := shpD P d, zero := cellsOf (ofV z) } else .no 203
  | _, _ => .no 201

def funcOf (P : Program) (f : FuncId) : R (Nat × List ResultVar × Code) :=
  match P.funcs[f]? with
  | none => .no 203
  | some fn => match fn.body with
    | none => .no 204
    | some b => .ok (fn.ntmps, fn.results.toList, b)

/-- a table as a trie -/
def mkTr {α : Type} (f : Nat → α) : Nat → Nat → Nat → Tr α
  | 0, _, _ => .leaf
  | d + 1, a, b => .node (some (f b)) (mkTr f d (2 * a) (a + b)) (mkTr f d (2 * a) (2 * a + b))

def byTr {α : Type} (t : Tr (R α)) (k : Nat) : R α :=
  match t.get (path k) with
  | some x => x
  | none => .no 205

def inTab (l : List (Nat × List Nat)) (f t : Nat) : Bool :=
  match l with
  | [] => false
  | (g, ts) :: r => if Nat.beq f g then ts.any (Nat.beq t) else inTab r f t

def byTr' {α : Type} (t : Tr α) (k : Nat) : R α :=
  match t.get (path k) with
  | some x => .ok x
  | none => .no 206

def cxOf (P : Program) (tys : Tr Ty) (esc grows : List (Nat × List Nat)) (quiet : Tr Unit) : Cx :=
  { ty := byTr' tys, func := byTr (mkTr (funcOf P) 10 1 0), esc := inTab esc, grows := inTab grows, quiet := fun f => (quiet.get (path f)).isSome, fork := fun _ => false, ext := fun _ _ => none, glob := fun _ => .no 207, cmp := fun _ => none, sy := fun _ _ _ _ => .no 208, oqLen := fun _ => .no 161, oqAt := fun _ _ _ => .no 162 }

end
end Go.Proofs.Ev
