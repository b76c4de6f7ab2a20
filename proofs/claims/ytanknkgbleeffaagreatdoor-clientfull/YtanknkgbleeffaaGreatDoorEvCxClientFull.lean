/- ClientFull: contexts of the runs. -/
import Derived.Test.YtanknkgbleeffaaGreatDoorEvTbClientFull
set_option linter.all false
namespace Go.Proofs.YtanknkgbleeffaaGreatDoor
open Go Go.Proofs.Ev Go.RowKit
noncomputable section

def lookT (l : List (Nat × List Nat)) (t : Nat) : Option (List Nat) :=
  match l with
  | [] => none
  | (u, ks) :: r => if Nat.beq u t then some ks else lookT r t

/-- three types, as the reference has them; what schema.New answers of them -/
def tyV : AV := (.sl .exact [[(.str [65]), (.sl .exact [[(.str [120]), (.int .i64 1)], [(.str [115]), (.int .i64 2)]])], [(.str [66]), (.sl .exact [[(.str [120]), (.int .i64 1)], [(.str [115]), (.int .i64 2)]])], [(.str [67]), (.sl .exact [[(.str [115]), (.int .i64 2)], [(.str [120]), (.int .i64 1)], [(.str [98]), (.int .i64 3)]])]])
def schP : AV := (.iptr [(.sl .non [[(.str [65]), (.sl .non [[(.str [120]), (.int .i64 1)], [(.str [115]), (.int .i64 2)]])], [(.str [66]), (.sl .non [[(.str [120]), (.int .i64 1)], [(.str [115]), (.int .i64 2)]])], [(.str [67]), (.sl .non [[(.str [115]), (.int .i64 2)], [(.str [120]), (.int .i64 1)], [(.str [98]), (.int .i64 3)]])]])] 0)
def schV : AV := .tup [schP, .int .i64 0]
def loI : Int := -9223372036854775808
def hiI : Int := 9223372036854775807

def isTrue : R (Ret × Heap) → Bool
  | .ok (.val (.bool true), _) => true
  | _ => false

theorem isTrue_ok {x : R (Ret × Heap)} (h : isTrue x = true) : ∃ H', x = .ok (.val (.bool true), H') := by
  unfold isTrue at h
  split at h
  · exact ⟨_, rfl⟩
  · cases h

/-- cells alike, a struct's too -/
def eqA : AV → AV → Bool
  | .agg xs, .agg ys => sameAVs xs ys
  | .tup xs, .tup ys => sameAVs xs ys
  | x, y => sameAV x y

theorem eqA_eq {x y : AV} (h : eqA x y = true) : x = y := by
  letI : Sg := ⟨fun _ => 0, fun _ => .nilFunc⟩
  unfold eqA at h
  split at h
  · rw [sameAVs_eq h]
  · rw [sameAVs_eq h]
  · exact sameAV_eq h

def isVal (v : AV) : R (Ret × Heap) → Bool
  | .ok (.val x, _) => eqA x v
  | _ => false

theorem isVal_ok {v : AV} {x : R (Ret × Heap)} (h : isVal v x = true) : ∃ H', x = .ok (.val v, H') := by
  unfold isVal at h
  split at h
  · rw [← eqA_eq h]; exact ⟨_, rfl⟩
  · cases h

/-- a context with what is given -/
def mk (ext : FuncId → List AV → Option (R AV)) (sy : BinOp → IntKind → Nat → Int → R AV) (oqLen : Nat → R (Bool × AV)) (oqAt : Nat → Nat → Nat → R AV) : Cx :=
  { cxOf Tryz.prog tyTab escTab growTab quietTab with fork := fun f => forkTab.any (Nat.beq f), cmp := lookT cmpTab, ext := ext, sy := sy, oqLen := oqLen, oqAt := oqAt }

def ext0 : FuncId → List AV → Option (R AV) := fun _ _ => none
def sy0 : BinOp → IntKind → Nat → Int → R AV := fun _ _ _ _ => .no 311
def oqLen0 : Nat → R (Bool × AV) := fun _ => .no 312
def oqAt0 : Nat → Nat → Nat → R AV := fun _ _ _ => .no 313

def extS (f : FuncId) (args : List AV) : Option (R AV) :=
  match Nat.beq f 20, args with
  | true, [x] => if sameAV x tyV then some (.ok schV) else none
  | _, _ => none

/-- the reference's event, by cases: its type (k), its key, its truth (b), whether there is a first value, and which truth it has (hv) -/
def syE (k key : Nat) (b : Bool) (op : BinOp) (kd : IntKind) (s : Nat) (m : Int) : R AV :=
  match op, kd, s with
  | .and, .i64, 0 => if ieq m 64 then .ok (.int .i64 (if b then 64 else 0)) else if ieq m 15 then .ok (.sym .i64 3 0 15) else .no 310
  | .and, .i64, 1 => if ieq m 255 then .ok (.sym .i64 4 0 255) else .no 310
  | .and, .i64, 5 => if ieq m 3 then .ok (.sym .i64 6 0 3) else .no 310
  | .rem, .i64, 4 => if ieq m 3 then .ok (.int .i64 (.ofNat k)) else .no 310
  | .rem, .i64, 7 => if ieq m 3 then .ok (.int .i64 (.ofNat key)) else .no 310
  | _, _, _ => .no 311
def oqLenE (hv s : Nat) : R (Bool × AV) :=
  match s with
  | 1 => .ok (true, .sym .i64 7 0 hiI)
  | 2 => match hv with
    | 0 => .ok (false, .int .i64 0)
    | _ => .ok (false, .sym .i64 8 1 hiI)
  | _ => .no 312
def oqAtE (hv s i : Nat) (sz : Nat) : R AV :=
  match hv, s, i with
  | 1, 2, 0 => if Nat.beq sz 4 then .ok (.iptr [.sym .i64 9 loI hiI, .sym .i64 5 loI hiI, .opq 3, .bool true] 0) else .no 313
  | 2, 2, 0 => if Nat.beq sz 4 then .ok (.iptr [.sym .i64 9 loI hiI, .sym .i64 5 loI hiI, .opq 3, .bool false] 0) else .no 313
  | _, _, _ => .no 313
def argE : AV := .agg [.opq 0, .opq 1, .sym .i64 0 loI hiI, .sym .i64 1 loI hiI, .opq 2]

/-- the event that comes of it, plainly -/
def evV (k key s : Nat) (b : Bool) (t : Tok) (nv : AV) : AV :=
  .agg [.str [65 + k], .str [107 + key], .sym .i64 3 0 15, .int .i64 0, .sl t (match k with
    | 2 => [[.int .i64 2, .int .i64 0, .str [s], .bool false], [.int .i64 1, nv, .str [], .bool false], [.int .i64 3, .int .i64 0, .str [], .bool b]]
    | _ => [[.int .i64 1, nv, .str [], .bool false], [.int .i64 2, .int .i64 0, .str [s], .bool false]])]
/-- the same, by names alone -/
def evO (three : Bool) (t : Tok) : AV :=
  .agg [.opq 13, .opq 12, .sym .i64 3 0 15, .int .i64 0, .sl t (match three with
    | true => [[.int .i64 2, .int .i64 0, .opq 10, .bool false], [.int .i64 1, .sym .i64 6 0 3, .str [], .bool false], [.int .i64 3, .int .i64 0, .str [], .opq 11]]
    | false => [[.int .i64 1, .sym .i64 6 0 3, .str [], .bool false], [.int .i64 2, .int .i64 0, .opq 10, .bool false]])]

def eqE : AV → AV → Bool
  | .agg [a, b, c, d, .sl _ xs], .agg [a', b', c', d', .sl _ ys] => sameAVs [a, b, c, d] [a', b', c', d'] && sameAVss xs ys
  | _, _ => false

def extM (three : Bool) (f : FuncId) (args : List AV) : Option (R AV) :=
  match f, args with
  | 6, [x] => if eqA x argE then some (.ok (evO three .exact)) else none
  | 9, [] => some (.ok (.bool true))
  | 66, [x, y] => if sameAV x (.opq 12) && sameAV y (.int .i64 1) then some (.ok (.int .i64 0)) else none
  | 81, [x, y] => if sameAV x schP && eqE y (evO three .exact) then some (.ok (.int .i64 0)) else none
  | f, args => extS f args
def syM (room : Nat) (op : BinOp) (kd : IntKind) (s : Nat) (m : Int) : R AV :=
  match op, kd, s with
  | .and, .i64, 2 => if ieq m 3 then .ok (.int .i64 (.ofNat room)) else .no 310
  | _, _, _ => .no 311

def cxP : Cx := mk ext0 sy0 oqLen0 oqAt0
def cxS : Cx := mk extS sy0 oqLen0 oqAt0
def cxE (k key hv : Nat) (b : Bool) : Cx := mk ext0 (syE k key b) (oqLenE hv) (oqAtE hv)
def cxM (three : Bool) (room hv : Nat) : Cx := mk (extM three) (syM room) (oqLenE hv) (oqAtE hv)

set_option maxRecDepth 100000 in
theorem types_ok : trAll (tyIs Tryz.prog) tyTab 1 0 = true := by kernel_rfl
set_option maxRecDepth 100000 in
theorem code_fits : Tryz.prog.funcs.toList.all fnB' = true := by kernel_rfl
set_option maxRecDepth 100000 in
theorem mixed : Tryz.prog.follows .mixedOrders = true := by kernel_rfl
set_option maxRecDepth 100000 in
theorem cmps_ok : cmpTab.all (fun p => cmpIs Tryz.prog p.1 p.2) = true := by kernel_rfl

theorem lookT_mem {l : List (Nat × List Nat)} {t : Nat} {ks : List Nat} (h : lookT l t = some ks) : (t, ks) ∈ l := by
  induction l with
  | nil => cases h
  | cons p r ih =>
    obtain ⟨u, js⟩ := p
    simp only [lookT] at h
    split at h
    · rename_i hu
      simp only [Option.some.injEq] at h
      subst h
      rw [Nat.eq_of_beq_eq_true hu]
      exact List.mem_cons_self ..
    · exact List.mem_cons_of_mem _ (ih h)

section
variable [Sg]
theorem good_mk {ext : FuncId → List AV → Option (R AV)} {sy : BinOp → IntKind → Nat → Int → R AV} {oqLen : Nat → R (Bool × AV)} {oqAt : Nat → Nat → Nat → R AV}
    (h1 : ∀ s b z, oqLen s = .ok (b, z) → match b with
      | true => ∃ l : ByteArray, Sg.ω s = .string l ∧ ∀ (E : Env) (W : View), V E W z (.int .i64 l.size)
      | false => ∃ base n cap, Sg.ω s = .slice base n cap ∧ ∀ (E : Env) (W : View), V E W z (.int .i64 n))
    (h2 : ∀ op k s b z, sy op k s b = .ok z → ∀ t, ∃ z0, binC (mk ext sy oqLen oqAt) op t (.int k (Sg.σ s)) (.int k b) = .ok z0 ∧ ∀ (E : Env) (W : View) v, V E W z0 v → V E W z v) : Good Tryz.prog (mk ext sy oqLen oqAt) where
  ty _ _ h := tyTab_ok types_ok h
  func _ _ h := byTr_mk h
  cmp t ks h E W xs ys us vs r w x y hx hy kx ky he := by
    have hm := lookT_mem h
    have := List.all_eq_true.1 cmps_ok _ hm
    exact cmp_ok this E W xs ys us vs r w x y hx hy kx ky he
  oqLen := h1
  sy := h2
end

end
end Go.Proofs.YtanknkgbleeffaaGreatDoor
