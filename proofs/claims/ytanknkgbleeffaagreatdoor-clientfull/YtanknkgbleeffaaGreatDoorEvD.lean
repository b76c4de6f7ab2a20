/- Tries, lists by names, what a table says of a program; the invariants of a run. -/
import Derived.Test.YtanknkgbleeffaaGreatDoorEvB
import Derived.Test.YtanknkgbleeffaaGreatDoorEvC
import Derived.CallsIn
import Derived.Orders
set_option linter.all false
namespace Go.Proofs.Ev
open Go
variable [Sg]

/-! ### tries -/
theorem Tr.get_leaf {α : Type} (p : List Bool) : Tr.get p (.leaf : Tr α) = none := by cases p <;> rfl
theorem Tr.get_nil {α : Type} (v : Option α) (l r : Tr α) : Tr.get [] (.node v l r) = v := rfl
theorem Tr.get_f {α : Type} (p : List Bool) (v : Option α) (l r : Tr α) : Tr.get (false :: p) (.node v l r) = Tr.get p l := rfl
theorem Tr.get_t {α : Type} (p : List Bool) (v : Option α) (l r : Tr α) : Tr.get (true :: p) (.node v l r) = Tr.get p r := rfl

theorem Tr.get_set {α : Type} (x : α) : ∀ (q p : List Bool) (t : Tr α), Tr.get p (Tr.set q x t) = if p = q then some x else Tr.get p t
  | [], p, .leaf => by cases p with
    | nil => rfl
    | cons b p => cases b <;> simp [Tr.get_leaf, Tr.get_f, Tr.get_t, show Tr.set [] x Tr.leaf = Tr.node (some x) .leaf .leaf from rfl]
  | [], p, .node v l r => by cases p with
    | nil => rfl
    | cons b p => cases b <;> simp [Tr.get_f, Tr.get_t, show Tr.set [] x (Tr.node v l r) = Tr.node (some x) l r from rfl]
  | false :: q, p, .leaf => by
    rw [show Tr.set (false :: q) x Tr.leaf = Tr.node none (Tr.set q x .leaf) .leaf from rfl]
    cases p with
    | nil => simp [Tr.get_nil, Tr.get_leaf]
    | cons b p => cases b <;> simp [Tr.get_f, Tr.get_t, Tr.get_leaf, Tr.get_set x q]
  | true :: q, p, .leaf => by
    rw [show Tr.set (true :: q) x Tr.leaf = Tr.node none .leaf (Tr.set q x .leaf) from rfl]
    cases p with
    | nil => simp [Tr.get_nil, Tr.get_leaf]
    | cons b p => cases b <;> simp [Tr.get_f, Tr.get_t, Tr.get_leaf, Tr.get_set x q]
  | false :: q, p, .node v l r => by
    rw [show Tr.set (false :: q) x (Tr.node v l r) = Tr.node v (Tr.set q x l) r from rfl]
    cases p with
    | nil => simp [Tr.get_nil]
    | cons b p => cases b <;> simp [Tr.get_f, Tr.get_t, Tr.get_set x q]
  | true :: q, p, .node v l r => by
    rw [show Tr.set (true :: q) x (Tr.node v l r) = Tr.node v l (Tr.set q x r) from rfl]
    cases p with
    | nil => simp [Tr.get_nil]
    | cons b p => cases b <;> simp [Tr.get_f, Tr.get_t, Tr.get_set x q]

theorem pathN_inj : ∀ (d k j : Nat), k < 2 ^ d - 1 → j < 2 ^ d - 1 → pathN d k = pathN d j → k = j
  | 0, k, j, hk, _, _ => by simp at hk
  | d + 1, 0, 0, _, _, _ => rfl
  | d + 1, 0, j + 1, _, _, h => by
    simp only [pathN] at h
    split at h <;> simp at h
  | d + 1, k + 1, 0, _, _, h => by
    simp only [pathN] at h
    split at h <;> simp at h
  | d + 1, k + 1, j + 1, hk, hj, h => by
    have hp : 2 ^ (d + 1) = 2 * 2 ^ d := by rw [Nat.pow_succ]; omega
    have ek := Nat.mod_two_eq_zero_or_one k
    have ej := Nat.mod_two_eq_zero_or_one j
    simp only [pathN] at h
    rcases ek with ek | ek <;> rcases ej with ej | ej <;> simp only [ek, ej, List.cons.injEq, true_and, Bool.false_eq_true, false_and, reduceCtorEq] at h
    · have := pathN_inj d (k / 2) (j / 2) (by omega) (by omega) h; omega
    · have := pathN_inj d (k / 2) (j / 2) (by omega) (by omega) h; omega

theorem pathN_fuel : ∀ (d e k : Nat), k < 2 ^ d - 1 → d ≤ e → pathN e k = pathN d k
  | 0, e, k, hk, _ => by simp at hk
  | d + 1, 0, k, _, h => by omega
  | d + 1, e + 1, 0, _, _ => rfl
  | d + 1, e + 1, k + 1, hk, h => by
    have hp : 2 ^ (d + 1) = 2 * 2 ^ d := by rw [Nat.pow_succ]; omega
    simp only [pathN]
    rw [pathN_fuel d e (k / 2) (by omega) (by omega)]

theorem lt_two_pow_succ (k : Nat) : k < 2 ^ (k + 1) - 1 := by
  induction k with
  | zero => simp
  | succ k ih => have : 2 ^ (k + 1 + 1) = 2 * 2 ^ (k + 1) := by rw [Nat.pow_succ]; omega
                 omega

theorem path_inj {k j : Nat} (h : path k = path j) : k = j := by
  unfold path at h
  have hk := lt_two_pow_succ k
  have hj := lt_two_pow_succ j
  have hm : ∀ a b : Nat, a ≤ b → 2 ^ (a + 1) ≤ 2 ^ (b + 1) := fun a b hab => Nat.pow_le_pow_right (by omega) (by omega)
  rcases Nat.le_total k j with hkj | hkj
  · rw [← pathN_fuel (k + 1) (j + 1) k hk (by omega)] at h
    exact pathN_inj (j + 1) k j (by have := hm k j hkj; omega) hj h
  · rw [← pathN_fuel (j + 1) (k + 1) j hj (by omega)] at h
    exact pathN_inj (k + 1) k j hk (by have := hm j k hkj; omega) h

theorem Tr.get_set_path {α : Type} (x : α) (t : Tr α) (k j : Nat) :
    Tr.get (path k) (Tr.set (path j) x t) = if k = j then some x else Tr.get (path k) t := by
  rw [Tr.get_set]
  by_cases h : k = j
  · simp [h]
  · rw [if_neg (fun e => h (path_inj e)), if_neg h]

theorem Tr.get_map {α β : Type} (g : α → β) : ∀ (p : List Bool) (t : Tr α), Tr.get p (mapTr g t) = (Tr.get p t).map g
  | p, .leaf => by simp [mapTr, Tr.get_leaf]
  | [], .node v l r => by cases v <;> rfl
  | false :: p, .node v l r => by cases v <;> simp [mapTr, Tr.get_f, Tr.get_map g p]
  | true :: p, .node v l r => by cases v <;> simp [mapTr, Tr.get_t, Tr.get_map g p]

/-! ### names -/
theorem sameName_iff : ∀ {a b : Name}, sameName a b = true ↔ a = b
  | [], [] => by simp [sameName]
  | [], _ :: _ => by simp [sameName]
  | _ :: _, [] => by simp [sameName]
  | a :: r, b :: s => by
    simp only [sameName, List.cons.injEq]
    by_cases h : Nat.beq a b = true
    · rw [if_pos h, sameName_iff]
      simp [Nat.eq_of_beq_eq_true h]
    · rw [if_neg h]
      constructor
      · intro x; cases x
      · rintro ⟨rfl, _⟩; exact absurd (Nat.beq_refl a) h

theorem look_put_same {α : Type} : ∀ (l : List (Name × α)) (k : Name) (x : α), look (put l k x) k = some x
  | [], k, x => by simp [put, look, sameName_iff]
  | (n, y) :: r, k, x => by
    simp only [put]
    by_cases h : sameName n k = true
    · rw [if_pos h]; simp [look, h]
    · rw [if_neg h]; simp [look, h, look_put_same r k x]

theorem look_put_other {α : Type} : ∀ (l : List (Name × α)) (k j : Name) (x : α), j ≠ k → look (put l k x) j = look l j
  | [], k, j, x, h => by
    have : sameName k j = false := by
      cases e : sameName k j
      · rfl
      · exact absurd (sameName_iff.1 e).symm h
    simp [put, look, this]
  | (n, y) :: r, k, j, x, h => by
    simp only [put]
    by_cases hn : sameName n k = true
    · rw [if_pos hn]
      have : sameName n j = false := by
        cases e : sameName n j
        · rfl
        · exact absurd ((sameName_iff.1 e).symm.trans (sameName_iff.1 hn)) h
      simp [look, this]
    · rw [if_neg hn]
      simp only [look]
      rw [look_put_other r k j x h]

theorem look_cons {α : Type} (l : List (Name × α)) (k j : Name) (x : α) : look ((k, x) :: l) j = if k = j then some x else look l j := by
  simp only [look]
  by_cases h : k = j
  · simp [h, sameName_iff]
  · have : sameName k j = false := by
      cases e : sameName k j
      · rfl
      · exact absurd (sameName_iff.1 e) h
    simp [h, this]

theorem under_iff : ∀ {P n : Name}, under P n = true ↔ ∃ l, n = l ++ P
  | P, [] => by
    cases P with
    | nil => simp [under]
    | cons a r => simp [under]
  | P, a :: r => by
    simp only [under, Bool.or_eq_true, sameName_iff, under_iff (P := P) (n := r)]
    constructor
    · rintro (rfl | ⟨l, rfl⟩)
      · exact ⟨[], rfl⟩
      · exact ⟨a :: l, rfl⟩
    · rintro ⟨l, h⟩
      cases l with
      | nil => exact .inl h
      | cons b l => simp only [List.cons_append, List.cons.injEq] at h; exact .inr ⟨l, h.2⟩

/-! ### what a context says of a program -/
structure Good (P : Program) (c : Cx) : Prop where
  ty : ∀ t y, c.ty t = .ok y → tyOf P t = .ok y
  func : ∀ f x, c.func f = .ok x → funcOf P f = .ok x
  cmp : ∀ t ks, c.cmp t = some ks → ∀ (E : Env) (W : View) xs ys us vs r w (x y : Operand), Vs E W xs us → Vs E W ys vs → kindsOk ks xs = true → kindsOk ks ys = true → eqCells xs ys = .ok r →
    (eqGuard .eql t x y (.agg ⟨us⟩) (.agg ⟨vs⟩)).run P w = .ok () w ∧ (eqGuard .neq t x y (.agg ⟨us⟩) (.agg ⟨vs⟩)).run P w = .ok () w ∧
    (Op.equal t (.agg ⟨us⟩) (.agg ⟨vs⟩)).run P w = .ok r w
  oqLen : ∀ s b z, c.oqLen s = .ok (b, z) → match b with
    | true => ∃ l : ByteArray, Sg.ω s = .string l ∧ ∀ (E : Env) (W : View), V E W z (.int .i64 l.size)
    | false => ∃ base n cap, Sg.ω s = .slice base n cap ∧ ∀ (E : Env) (W : View), V E W z (.int .i64 n)
  sy : ∀ op k s b z, c.sy op k s b = .ok z → ∀ t, ∃ z0, binC c op t (.int k (Sg.σ s)) (.int k b) = .ok z0 ∧ ∀ (E : Env) (W : View) v, V E W z0 v → V E W z v

theorem tyOf_ok {P : Program} {t : TypeId} {y : Ty} (h : tyOf P t = .ok y) :
    ∃ i d z, P.info? t = some i ∧ P.underlying t = some d ∧ i.zero = some z ∧ i.size = y.size ∧ i.bytes = y.bytes ∧ y.shp = shpD P d ∧ y.zero = cellsOf (ofV z) := by
  simp only [tyOf] at h
  split at h
  · rename_i i d hi hd
    cases hz : i.zero with
    | none => simp [hz] at h
    | some z =>
      simp only [hz] at h
      split at h
      · simp only [R.ok.injEq] at h
        subst h
        exact ⟨i, d, z, hi, hd, hz, rfl, rfl, rfl, rfl⟩
      · cases h
  · cases h

theorem tyOf_flds {P : Program} {t : TypeId} {y : Ty} {d : TypeDesc} (h : tyOf P t = .ok y) (hd : P.underlying t = some d) : fldsOk P d = true := by
  simp only [tyOf, hd] at h
  split at h
  · rename_i i d' hi hd'
    cases hd'
    cases hz : i.zero with
    | none => simp [hz] at h
    | some z =>
      simp only [hz] at h
      split at h
      · rename_i hh; exact hh.1
      · cases h
  · cases h

theorem tyOf_zero {P : Program} {t : TypeId} {y : Ty} (h : tyOf P t = .ok y) : y.zero.length = y.size := by
  simp only [tyOf] at h
  split at h
  · rename_i i d hi hd
    cases hz : i.zero with
    | none => simp [hz] at h
    | some z =>
      simp only [hz] at h
      split at h
      · rename_i hh
        simp only [R.ok.injEq] at h
        subst h
        exact hh.2
      · cases h
  · cases h

/-! ### who has a block -/
inductive Tag where
  | other
  | obj (o : Name)
  | loop (l : Name)
  | var (t : Nat)
  | tok (t : Nat)
  | mark
deriving DecidableEq

def Tag.shared : Tag → Bool
  | .obj _ | .loop _ => true
  | _ => false

/-- a frame's view of others' blocks -/
def Tag.mask : Tag → Tag
  | .var _ | .tok _ | .mark => .other
  | t => t

/-- blocks that an activation's operations let be -/
def Tag.still : Tag → Bool
  | .other | .mark => true
  | _ => false

/-- a block of cells of which nothing is frozen -/
def blk (w : World) (b : Nat) : Option (Array Value × TypeId) :=
  match w.heap[b]? with
  | some (.cells c ty (0, 0)) => some (c, ty)
  | _ => none

def stOf : Nat → LoopState
  | 0 => .ready
  | 1 => .busy
  | 2 => .done
  | _ => .exhausted

/-- what the loaded program keeps of a region that draws its order -/
structure RegOk (ops : Array Oper) : Prop where
  edges : ∀ (i : Nat) (o : Oper), ops[i]? = some o → ∀ e ∈ o.after.toList, Region.binds .any e = true → e.on < i
  clash : ∀ (i j : Nat) (oi oj : Oper), i < j → ops[i]? = some oi → ops[j]? = some oj → oi.apart ops oj = true ∨ ((Region.before ops).getD j 0).testBit i = true

/-- what is known of a code -/
def Fit (N : Nat) : Code → Prop
  | .region _ ops draw => (∀ o ∈ ops.toList, ∀ d, o.dst = some d → d < N) ∧ (draw = true → RegOk ops)
  | .seq a b | .cond _ a b => Fit N a ∧ Fit N b
  | .block _ c | .loop c | .scope c => Fit N c
  | .rangeFunc _ ps a c => (∀ t ∈ ps.toList, t < N) ∧ Fit N a ∧ Fit N c
  | _ => True

structure LoopRel (E : Env) (r : LoopRec) (L : Loop) : Prop where
  fn : L.fn = r.f
  ps : L.params.toList = r.params
  assign : L.assign = r.assign
  body : L.body = r.body
  st : L.state = stOf r.st
  pend : L.pending = r.pending
  tm : ∀ t, V E .nil ((Tr.get (path t) r.tm).getD undefA) (L.tmps.getD t undef)
  fit : (∀ t ∈ L.params.toList, t < L.tmps.size) ∧ Fit L.tmps.size L.assign ∧ Fit L.tmps.size L.body

structure Inv (E : Env) (own : Nat → Tag) (H : Heap) (w : World) : Prop where
  frz : ∀ b i v, E.M b i = some v → w.cell? ⟨b, i, none⟩ = some v
  siz : ∀ b n, E.S b = some n → ∃ c ty fz, w.heap[b]? = some (.cells c ty fz) ∧ c.size = n
  bnd : ∀ o n b d, E.O o n = some (b, d) → b < w.heap.size
  lbnd : ∀ l b, E.L l = some b → b < w.heap.size
  obj : ∀ o n cs, look H.ob o = some (n, cs) → ∃ b d c ty, E.O o n = some (b, d) ∧ own b = .obj o ∧ blk w b = some (c, ty) ∧ d + cs.length ≤ c.size ∧
    (∀ (i : Nat) a, cs[i]? = some a → ∃ v, c[d + i]? = some v ∧ V E .nil a v) ∧ ∀ i, E.M b i = none
  lop : ∀ l r, look H.lp l = some r → ∃ b L, E.L l = some b ∧ own b = .loop l ∧ w.heap[b]? = some (.loop L) ∧ LoopRel E r L
  big : ∀ b, w.heap.size ≤ b → own b = .other
  ver : ∀ o n cs, look H.ob o = some (n, cs) → ∀ n', n < n' → E.O o n' = none

/-- what a run may do to what was there ahead of it -/
structure Grow (Q : Name) (own own' : Nat → Tag) (E E' : Env) (w w' : World) : Prop where
  env : E.le E'
  size : w.heap.size ≤ w'.heap.size
  keep : ∀ b, b < w.heap.size → (own b).still = true → w'.heap[b]? = w.heap[b]?
  tags : ∀ b, b < w.heap.size → own' b = own b
  frz : ∀ b i v, E'.M b i = some v → b < w.heap.size → (own b).still = true → E.M b i = some v
  names : ∀ o n p, E'.O o n = some p → (∃ n' p', E.O o n' = some p') ∨ under Q o = true
  lnames : ∀ l b, E'.L l = some b → E.L l = some b ∨ under Q l = true
  outer : w'.os = w.os ∧ w'.output = w.output ∧ ∀ a, w'.frozen? a = w.frozen? a

theorem Grow.refl (Q : Name) (own : Nat → Tag) (E : Env) (w : World) : Grow Q own own E E w w :=
  ⟨.refl E, Nat.le_refl _, fun _ _ _ => rfl, fun _ _ => rfl, fun _ _ _ h _ _ => h, fun _ _ _ h => .inl ⟨_, _, h⟩, fun _ _ h => .inl h, rfl, rfl, fun _ => rfl⟩

theorem Grow.trans {Q : Name} {o1 o2 o3 : Nat → Tag} {E1 E2 E3 : Env} {w1 w2 w3 : World} (h : Grow Q o1 o2 E1 E2 w1 w2) (h' : Grow Q o2 o3 E2 E3 w2 w3) : Grow Q o1 o3 E1 E3 w1 w3 where
  env := h.env.trans h'.env
  size := Nat.le_trans h.size h'.size
  keep b hb ho := (h'.keep b (Nat.lt_of_lt_of_le hb h.size) (by rw [h.tags b hb]; exact ho)).trans (h.keep b hb ho)
  tags b hb := (h'.tags b (Nat.lt_of_lt_of_le hb h.size)).trans (h.tags b hb)
  frz b i v hv hb ho := h.frz b i v (h'.frz b i v hv (Nat.lt_of_lt_of_le hb h.size) (by rw [h.tags b hb]; exact ho)) hb ho
  names o n p hp := by
    rcases h'.names o n p hp with ⟨n', p', h1⟩ | h1
    · exact h.names o n' p' h1
    · exact .inr h1
  lnames l b hp := by
    rcases h'.lnames l b hp with h1 | h1
    · exact h.lnames l b h1
    · exact .inr h1
  outer := ⟨h'.outer.1.trans h.outer.1, h'.outer.2.1.trans h.outer.2.1, fun a => (h'.outer.2.2 a).trans (h.outer.2.2 a)⟩

theorem Grow.under {Q Q' : Name} {own own' : Nat → Tag} {E E' : Env} {w w' : World} (h : Grow Q own own' E E' w w') (hq : under Q' Q = true) : Grow Q' own own' E E' w w' :=
  { h with
    names := fun o n p hp => (h.names o n p hp).imp id fun hu => by
      obtain ⟨l, rfl⟩ := under_iff.1 hu; obtain ⟨m, rfl⟩ := under_iff.1 hq; exact under_iff.2 ⟨l ++ m, by simp⟩
    lnames := fun o p hp => (h.lnames o p hp).imp id fun hu => by
      obtain ⟨l, rfl⟩ := under_iff.1 hu; obtain ⟨m, rfl⟩ := under_iff.1 hq; exact under_iff.2 ⟨l ++ m, by simp⟩ }

/-! ### a frame -/
/-- a frame's variables' blocks; where its tokens' rows lie, with their room and the size of an element -/
structure Mine where
  X : Nat → Option Nat
  K : Nat → Nat → Option (Addr × Nat × Nat)

noncomputable def viewOf (m : Mine) (fl : Tr (Nat × Nat)) : View :=
  { X := m.X
    T := fun t k len sz base cap => (m.K t k).isSome = true ∧ ∀ n, Tr.get (path t) fl = some (k, n) → len ≤ n ∧ (len = n → ∃ a, base = some a ∧ m.K t k = some (a, cap, sz)) }

/-- temporaries -/
noncomputable def tmOf (fr : Fr) (t : Nat) : AV := (Tr.get (path t) fr.tm).getD undefA

structure FrI (E : Env) (own : Nat → Tag) (m : Mine) (N : Nat) (fr : Fr) (tmps : Array Value) (w : World) : Prop where
  size : tmps.size = N
  tms : ∀ t, V E (viewOf m fr.fl) (tmOf fr t) (tmps.getD t undef)
  lcs : ∀ t k cs, Tr.get (path t) fr.lc = some (k, cs) → ∃ b c ty, m.X k = some b ∧ own b = .var t ∧ blk w b = some (c, ty) ∧ Vs E (viewOf m fr.fl) cs c.toList ∧ ∀ i, E.M b i = none
  fls : ∀ t k n, Tr.get (path t) fr.fl = some (k, n) → 0 < n ∧ ∃ ad cap c ty sz, m.K t k = some (ad, cap, sz) ∧ ad.spot = none ∧ own ad.block = .tok t ∧ blk w ad.block = some (c, ty) ∧
    0 < sz ∧ n ≤ cap ∧ ad.off + cap * sz ≤ c.size ∧ ∀ i, ad.off + n * sz ≤ i → E.M ad.block i = none

/-- numbers that no name, no variable and no token bears yet -/
structure Fresh (E : Env) (m : Mine) (Q : Name) (S : Nat → Prop) : Prop where
  X : ∀ i, S i → m.X i = none
  K : ∀ i, S i → ∀ t, m.K t i = none
  O : ∀ i, S i → ∀ o n p, E.O o n = some p → under (i :: Q) o = false
  L : ∀ i, S i → ∀ l b, E.L l = some b → under (i :: Q) l = false

/-- the package variables that are read as plain data -/
structure GlobOk (c : Cx) (E : Env) : Prop where
  g : ∀ g cs, c.glob g = .ok cs → ∃ vs, Fz E g 0 vs ∧ Vs E .nil cs vs
  oqAt : ∀ s i sz z, c.oqAt s i sz = .ok z → ∃ b d n cap, Sg.ω s = .slice (some ⟨b, d, none⟩) n cap ∧ i < n ∧ V E .nil z (.pointer (some ⟨b, d + i * sz, none⟩))

theorem GlobOk.mono {c : Cx} {E E' : Env} (h : E.le E') (g : GlobOk c E) : GlobOk c E' where
  g i cs hc := let ⟨vs, h1, h2⟩ := g.g i cs hc; ⟨vs, h1.mono h, Vs.mono h h2⟩
  oqAt s i sz z hz := let ⟨b, d, n, cap, h1, h2, h3⟩ := g.oqAt s i sz z hz; ⟨b, d, n, cap, h1, h2, V.mono h h3⟩

/-- a frame's deferred calls: the machine's list bears marks of loops between them -/
inductive DfI (E : Env) (own : Nat → Tag) (w : World) : Nat → List (FuncId × List AV) → List Deferred → Prop where
  | nil {k : Nat} : DfI E own w k [] []
  | call {k : Nat} {g : FuncId} {l : List AV} {vs : List Value} {r : List (FuncId × List AV)} {ds : List Deferred} : Vs E .nil l vs → DfI E own w k r ds →
      DfI E own w k ((g, l) :: r) ({ target := .fn (.func g) #[], args := ⟨vs⟩ } :: ds)
  | mark {k b : Nat} {r : List (FuncId × List AV)} {ds : List Deferred} : b < k → own b = .mark → w.heap[b]? = some (.deferred (some [])) → DfI E own w b r ds →
      DfI E own w k r ({ target := .collected b, args := #[] } :: ds)

/-- where a run stands -/
structure St (c : Cx) (Q : Name) (N : Nat) (S : Nat → Prop) (E : Env) (own : Nat → Tag) (H : Heap) (m : Mine) (fr : Fr) (a : Act) (w : World) : Prop where
  inv : Inv E own H w
  frm : FrI E own m N fr a.tmps w
  glb : GlobOk c E
  fresh : Fresh E m Q S
  df : DfI E own w w.heap.size fr.df a.defers
  lim : under H.lim Q = true

/-- what lies outside the limit is as it was -/
structure SameH (E E' : Env) (H H' : Heap) : Prop where
  lim : H'.lim = H.lim
  ob : ∀ o, under H.lim o = false → look H'.ob o = look H.ob o
  lp : ∀ o, under H.lim o = false → look H'.lp o = look H.lp o
  nm : ∀ o n p, under H.lim o = false → E'.O o n = some p → E.O o n = some p

theorem SameH.refl (E : Env) (H : Heap) : SameH E E H H := ⟨rfl, fun _ _ => rfl, fun _ _ => rfl, fun _ _ _ _ h => h⟩
theorem SameH.trans {E1 E2 E3 : Env} {H1 H2 H3 : Heap} (h : SameH E1 E2 H1 H2) (h' : SameH E2 E3 H2 H3) : SameH E1 E3 H1 H3 where
  lim := h'.lim.trans h.lim
  ob o ho := (h'.ob o (by rw [h.lim]; exact ho)).trans (h.ob o ho)
  lp o ho := (h'.lp o (by rw [h.lim]; exact ho)).trans (h.lp o ho)
  nm o n p ho hp := h.nm o n p ho (h'.nm o n p (by rw [h.lim]; exact ho) hp)

theorem frozen_set {w : World} {b : Nat} {x y : Obj} (hw : w.heap[b]? = some x) (hx : ∀ c e z, x ≠ .cells c e z) (hy : ∀ c e z, y ≠ .cells c e z) (a : Addr) :
    ({ w with heap := w.heap.setIfInBounds b y } : World).frozen? a = w.frozen? a := by
  have hlt : b < w.heap.size := (Array.getElem?_eq_some_iff.1 hw).1
  by_cases e : b = a.block
  · subst e
    have h1 : (w.heap.setIfInBounds a.block y)[a.block]? = some y := by simp [hlt]
    simp only [World.frozen?, h1, hw]
    cases x <;> cases y <;> first | rfl | (exact absurd rfl (hx _ _ _)) | (exact absurd rfl (hy _ _ _))
  · simp [World.frozen?, Array.getElem?_setIfInBounds, e]

theorem frozen_push {w : World} {x : Obj} (hx : ∀ c e z, x ≠ .cells c e z) (a : Addr) : ({ w with heap := w.heap.push x } : World).frozen? a = w.frozen? a := by
  by_cases e : a.block = w.heap.size
  · have h1 : (w.heap.push x)[a.block]? = some x := by rw [e]; simp
    have h2 : w.heap[a.block]? = none := by rw [e]; simp
    simp only [World.frozen?, h1, h2]
    cases x <;> first | rfl | exact absurd rfl (hx _ _ _)
  · simp [World.frozen?, Array.getElem?_push, e]

end Go.Proofs.Ev
