/- A seat's tables, held against the loaded program; what a run at no memory of one's own comes to. -/
import Derived.Test.YtefdjbndjgnbiaaGreatEvDo
import Derived.RowKit3
set_option linter.all false
namespace Go.Proofs.Ev
open Go Go.RowKit
variable [Sg]

/-! ### tries with numbers as keys -/
def valP : List Bool → Nat
  | [] => 0
  | false :: p => 1 + 2 * valP p
  | true :: p => 2 + 2 * valP p

theorem val_pathN : ∀ (d k : Nat), k < 2 ^ d - 1 → valP (pathN d k) = k
  | 0, k, h => by simp at h
  | d + 1, 0, _ => rfl
  | d + 1, k + 1, h => by
    have hp : 2 ^ (d + 1) = 2 * 2 ^ d := by rw [Nat.pow_succ]; omega
    have ek := Nat.mod_two_eq_zero_or_one k
    have ih := val_pathN d (k / 2) (by omega)
    simp only [pathN]
    rcases ek with ek | ek <;> rw [ek] <;> simp only [valP, ih] <;> omega

theorem val_path (k : Nat) : valP (path k) = k := val_pathN (k + 1) k (lt_two_pow_succ k)

theorem get_mkTr {α : Type} (f : Nat → α) : ∀ (p : List Bool) (d a b : Nat) (y : α), Tr.get p (mkTr f d a b) = some y → y = f (b + a * valP p)
  | p, 0, a, b, y, h => by rw [mkTr, Tr.get_leaf] at h; cases h
  | [], d + 1, a, b, y, h => by
    rw [mkTr, Tr.get_nil] at h
    simp only [Option.some.injEq] at h
    rw [← h]
    simp [valP]
  | false :: p, d + 1, a, b, y, h => by
    rw [mkTr, Tr.get_f] at h
    rw [get_mkTr f p d _ _ y h]
    congr 1
    simp only [valP]
    grind
  | true :: p, d + 1, a, b, y, h => by
    rw [mkTr, Tr.get_t] at h
    rw [get_mkTr f p d _ _ y h]
    congr 1
    simp only [valP]
    grind

theorem byTr_mk {α : Type} {f : Nat → R α} {d k : Nat} {x : α} (h : byTr (mkTr f d 1 0) k = .ok x) : f k = .ok x := by
  unfold byTr at h
  split at h
  · rename_i y hy
    have := get_mkTr f _ _ _ _ _ hy
    rw [val_path] at this
    rw [show k = 0 + 1 * k by omega, ← this]
    exact h
  · cases h

/-- a test of each entry -/
def trAll {α : Type} (p : Nat → α → Bool) : Tr α → Nat → Nat → Bool
  | .leaf, _, _ => true
  | .node v l r, a, b => (match v with
    | some y => p b y
    | none => true) && (trAll p l (2 * a) (a + b) && trAll p r (2 * a) (2 * a + b))

theorem get_trAll {α : Type} {p : Nat → α → Bool} : ∀ {q : List Bool} {t : Tr α} {a b : Nat} {y : α}, trAll p t a b = true → Tr.get q t = some y → p (b + a * valP q) y = true
  | q, .leaf, a, b, y, _, hg => by rw [Tr.get_leaf] at hg; cases hg
  | [], .node v l r, a, b, y, h, hg => by
    rw [Tr.get_nil] at hg
    subst hg
    simp only [trAll, Bool.and_eq_true] at h
    simpa [valP] using h.1
  | false :: q, .node v l r, a, b, y, h, hg => by
    rw [Tr.get_f] at hg
    simp only [trAll, Bool.and_eq_true] at h
    have := get_trAll h.2.1 hg
    rw [show b + a * valP (false :: q) = a + b + 2 * a * valP q by simp only [valP]; grind]
    exact this
  | true :: q, .node v l r, a, b, y, h, hg => by
    rw [Tr.get_t] at hg
    simp only [trAll, Bool.and_eq_true] at h
    have := get_trAll h.2.2 hg
    rw [show b + a * valP (true :: q) = 2 * a + b + 2 * a * valP q by simp only [valP]; grind]
    exact this

theorem byTr'_all {α : Type} {p : Nat → α → Bool} {t : Tr α} {k : Nat} {y : α} (h : trAll p t 1 0 = true) (hg : byTr' t k = .ok y) : p k y = true := by
  unfold byTr' at hg
  split at hg
  · rename_i x hx
    simp only [R.ok.injEq] at hg
    subst hg
    have := get_trAll h hx
    rw [val_path] at this
    rwa [show 0 + 1 * k = k by omega] at this
  · cases hg

/-! ### types -/
def sameOffs : List (Nat × Nat) → List (Nat × Nat) → Bool
  | [], [] => true
  | (a, b) :: r, (c, d) :: s => Nat.beq a c && Nat.beq b d && sameOffs r s
  | _, _ => false
def sameShp : Shp → Shp → Bool
  | .bool, .bool | .str, .str | .ptr, .ptr | .fn, .fn | .ifc, .ifc => true
  | .int k, .int k' => decide (k = k')
  | .sl e, .sl e' => Nat.beq e e'
  | .arr n e, .arr n' e' => Nat.beq n n' && Nat.beq e e'
  | .strct l, .strct l' => sameOffs l l'
  | _, _ => false
def sameTy (x y : Ty) : Bool := Nat.beq x.size y.size && Nat.beq x.bytes y.bytes && sameShp x.shp y.shp && sameAVs x.zero y.zero

theorem sameOffs_eq : ∀ {a b : List (Nat × Nat)}, sameOffs a b = true → a = b
  | [], b, h => by cases b <;> simp_all [sameOffs]
  | (x, y) :: r, b, h => by
    cases b with
    | nil => simp [sameOffs] at h
    | cons z s =>
      obtain ⟨u, v⟩ := z
      simp only [sameOffs, Bool.and_eq_true] at h
      rw [Nat.eq_of_beq_eq_true h.1.1, Nat.eq_of_beq_eq_true h.1.2, sameOffs_eq h.2]

theorem sameShp_eq {a b : Shp} (h : sameShp a b = true) : a = b := by
  cases a <;> cases b <;> simp only [sameShp, Bool.false_eq_true, Bool.and_eq_true, decide_eq_true_eq] at h <;> first
    | rfl
    | (rw [h])
    | (rw [Nat.eq_of_beq_eq_true h])
    | (rw [Nat.eq_of_beq_eq_true h.1, Nat.eq_of_beq_eq_true h.2])
    | (rw [sameOffs_eq h])

theorem sameTy_eq {a b : Ty} (h : sameTy a b = true) : a = b := by
  obtain ⟨a1, a2, a3, a4⟩ := a
  obtain ⟨b1, b2, b3, b4⟩ := b
  simp only [sameTy, Bool.and_eq_true] at h
  obtain ⟨⟨⟨h1, h2⟩, h3⟩, h4⟩ := h
  rw [Nat.eq_of_beq_eq_true h1, Nat.eq_of_beq_eq_true h2, sameShp_eq h3, sameAVs_eq h4]

def tyIs (P : Program) (k : Nat) (y : Ty) : Bool :=
  match tyOf P k with
  | .ok x => sameTy x y
  | .no _ => false

theorem tyTab_ok {P : Program} {tab : Tr Ty} (h : trAll (tyIs P) tab 1 0 = true) {t : TypeId} {y : Ty} (hg : byTr' tab t = .ok y) : tyOf P t = .ok y := by
  have := byTr'_all h hg
  unfold tyIs at this
  split at this
  · rename_i x hx
    rw [hx, sameTy_eq this]
  · cases this

/-! ### code -/
def edgesB (i : Nat) (o : Oper) : Bool := o.after.toList.all fun e => !Region.binds .any e || Nat.blt e.on i
def clashB (ops : Array Oper) (bef : Array Nat) (j : Nat) (oj : Oper) : List Oper → Nat → Bool
  | [], _ => true
  | oi :: r, i => (!Nat.blt i j || oi.apart ops oj || (bef.getD j 0).testBit i) && clashB ops bef j oj r (i + 1)
def regB (ops : Array Oper) (bef : Array Nat) : List Oper → Nat → Bool
  | [], _ => true
  | o :: r, i => edgesB i o && clashB ops bef i o ops.toList 0 && regB ops bef r (i + 1)
def dstB (N : Nat) (o : Oper) : Bool :=
  match o.dst with
  | some d => Nat.blt d N
  | none => true
def fitB (N : Nat) : Code → Bool
  | .region _ ops draw => ops.toList.all (dstB N) && (!draw || regB ops (Region.before ops) ops.toList 0)
  | .seq a b | .cond _ a b => fitB N a && fitB N b
  | .block _ c | .loop c | .scope c => fitB N c
  | .rangeFunc _ ps a c => ps.toList.all (fun t => Nat.blt t N) && (fitB N a && fitB N c)
  | _ => true

theorem clashB_ok {ops : Array Oper} {bef : Array Nat} {j : Nat} {oj : Oper} : ∀ {l : List Oper} {k : Nat}, clashB ops bef j oj l k = true → ∀ i oi, l[i]? = some oi → k + i < j → oi.apart ops oj = true ∨ (bef.getD j 0).testBit (k + i) = true
  | [], k, _, i, oi, hi, _ => by simp at hi
  | o :: r, k, h, i, oi, hi, hlt => by
    simp only [clashB, Bool.and_eq_true] at h
    cases i with
    | zero =>
      simp only [List.getElem?_cons_zero, Option.some.injEq] at hi
      subst hi
      have h1 := h.1
      simp only [Bool.or_eq_true, Bool.not_eq_true'] at h1
      rcases h1 with (h1 | h1) | h1
      · have : Nat.blt k j = true := by rw [Nat.blt_eq]; omega
        rw [this] at h1; cases h1
      · exact .inl h1
      · exact .inr h1
    | succ i =>
      simp only [List.getElem?_cons_succ] at hi
      have := clashB_ok h.2 i oi hi (by omega)
      rw [show k + (i + 1) = k + 1 + i by omega]
      exact this

theorem regB_ok {ops : Array Oper} {bef : Array Nat} : ∀ {l : List Oper} {k : Nat}, regB ops bef l k = true → ∀ j o, l[j]? = some o → edgesB (k + j) o = true ∧ clashB ops bef (k + j) o ops.toList 0 = true
  | [], k, _, i, oi, hi => by simp at hi
  | o :: r, k, h, j, oj, hj => by
    simp only [regB, Bool.and_eq_true] at h
    cases j with
    | zero =>
      simp only [List.getElem?_cons_zero, Option.some.injEq] at hj
      subst hj
      exact h.1
    | succ j =>
      simp only [List.getElem?_cons_succ] at hj
      have := regB_ok h.2 j oj hj
      rw [show k + (j + 1) = k + 1 + j by omega]
      exact this

theorem regOk_of {ops : Array Oper} (h : regB ops (Region.before ops) ops.toList 0 = true) : RegOk ops where
  edges i o ho e he hb := by
    obtain ⟨h1, _⟩ := regB_ok h i o (by simpa using ho)
    unfold edgesB at h1
    rw [List.all_eq_true] at h1
    have := h1 e he
    simp only [hb, Bool.not_true, Bool.false_or, Nat.blt_eq] at this
    omega
  clash i j oi oj hij hi hj := by
    obtain ⟨_, h2⟩ := regB_ok h j oj (by simpa using hj)
    rw [Nat.zero_add] at h2
    have := clashB_ok h2 i oi (by simpa using hi) (by omega)
    rw [Nat.zero_add] at this
    exact this

theorem fit_of {N : Nat} : ∀ {x : Code}, fitB N x = true → Fit N x := by
  intro x
  induction x with
  | region rid ops draw =>
    intro h
    simp only [fitB, Bool.and_eq_true, List.all_eq_true] at h
    refine ⟨fun o ho d hd => ?_, fun hdr => ?_⟩
    · have := h.1 o ho
      unfold dstB at this
      rw [hd] at this
      simpa using this
    · subst hdr
      have := h.2
      simp only [Bool.not_true, Bool.false_or] at this
      exact regOk_of this
  | seq a b iha ihb => intro h; simp only [fitB, Bool.and_eq_true] at h; exact ⟨iha h.1, ihb h.2⟩
  | cond c a b iha ihb => intro h; simp only [fitB, Bool.and_eq_true] at h; exact ⟨iha h.1, ihb h.2⟩
  | block id c ih => intro h; exact ih h
  | loop c ih => intro h; exact ih h
  | scope c ih => intro h; exact ih h
  | rangeFunc g ps a c iha ihc =>
    intro h
    simp only [fitB, Bool.and_eq_true, List.all_eq_true] at h
    exact ⟨fun t ht => by simpa using h.1 t ht, iha h.2.1, ihc h.2.2⟩
  | _ => intro _; trivial

def fnB' (fn : Func) : Bool :=
  !(fn.name == "runtime.NumGoroutine") && (match fn.body with
    | some b => fitB fn.ntmps b
    | none => true)

theorem fitP_of {P : Program} (h : P.funcs.toList.all fnB' = true) : FitP P where
  fit f fn body hf hb := by
    have hm : fn ∈ P.funcs.toList := by have := Array.mem_of_getElem? hf; simpa using this
    have := List.all_eq_true.1 h fn hm
    simp only [fnB', Bool.and_eq_true, hb] at this
    exact fit_of this.2
  nm f fn hf := by
    have hm : fn ∈ P.funcs.toList := by have := Array.mem_of_getElem? hf; simpa using this
    have := List.all_eq_true.1 h fn hm
    simp only [fnB', Bool.and_eq_true, Bool.not_eq_true'] at this
    exact this.1

/-! ### a run of a law -/
def E0 : Env := ⟨fun _ _ => none, fun _ => none, fun _ _ => none, fun _ => none⟩
def H0 : Heap := ⟨[], [], []⟩

theorem pre0 {cx : Cx} (hg : ∀ n, ∃ e, cx.glob n = .no e) (w : World) : Pre cx [] E0 (fun _ => .other) H0 w where
  inv := ⟨fun _ _ _ h => (by cases h), fun _ _ h => (by cases h), fun _ _ _ _ h => (by cases h), fun _ _ h => (by cases h), fun _ _ _ h => (by cases h), fun _ _ h => (by cases h), fun _ _ => rfl, fun _ _ _ h => (by cases h)⟩
  glb g cs h := by obtain ⟨e, he⟩ := hg g; rw [he] at h; cases h
  msk _ := rfl
  fO _ _ _ h := by cases h
  fL _ _ h := by cases h
  lim := rfl

theorem grown_of {Q : Name} {E : Env} {own' : Nat → Tag} {w w' : World} (h : Grow Q (fun _ => .other) own' E0 E w w') : Grown w w' := by
  refine ⟨⟨h.outer.1, h.outer.2.1, fun i hi => ?_⟩, h.outer.2.2, h.size⟩
  have := h.keep i hi rfl
  rw [this]
  cases hx : w.heap[i]? with
  | none => rfl
  | some x => cases x <;> simp

/-- what the evaluator answers of a law is what the machine answers -/
theorem law_calls {P : Program} {cx : Cx} (g : Good P cx) (fp : FitP P) (hext : ∀ f args, cx.ext f args = none) (hglob : ∀ n, ∃ e, cx.glob n = .no e) (hm : P.follows .mixedOrders = true) {n : Nat} {f : FuncId} {args : List AV} {H' : Heap} {b : Bool}
    (h : callA cx n (.fn f) [] args H0 = .ok (.val (.bool b), H')) {vals : List Value} (hv : Vs E0 .nil args vals) (w : World) : Calls P f ⟨vals⟩ w fun e w' => e = .returned (.bool b) ∧ Grown w w' := by
  have ex : ExtOk P cx := fun f args v hx => by rw [hext] at hx; cases hx
  have co := callA_ok g fp ex (fun n co => draw_ok g co (callA_quiet cx n) hm) n
  obtain ⟨_, hall⟩ := co.fn f [] args H0 _ H' h E0 (fun _ => .other) w vals (pre0 hglob w) hv
  intro cs
  obtain ⟨E', own', w', fx, val, hp, hfx, hst, hret, hlv⟩ := hall cs
  have hb : val = .bool b := by simpa only [V] using hret.1
  subst hb
  exact ⟨.returned (.bool b), w', fx, ⟨rfl, grown_of hp.grow⟩, hst, hfx, hlv⟩

end Go.Proofs.Ev
