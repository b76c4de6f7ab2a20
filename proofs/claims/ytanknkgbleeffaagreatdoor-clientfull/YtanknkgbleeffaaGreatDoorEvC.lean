/- What an abstract value says of a value; what abstract memory says of memory. -/
import Derived.Test.YtanknkgbleeffaaGreatDoorEvA
set_option linter.all false
namespace Go.Proofs.Ev
open Go

/-- numbers that are not known; one-cell values that are not known -/
class Sg where
  σ : Nat → Int
  ω : Nat → Value

variable [Sg]

/-- where abstract things lie: plain data (cells that nobody writes any more), how many cells blocks have, objects (by name and version), loops' records -/
structure Env where
  M : Nat → Nat → Option Value
  S : Nat → Option Nat
  O : Name → Nat → Option (Nat × Nat)
  L : Name → Option Nat

structure Env.le (E E' : Env) : Prop where
  S : ∀ b n, E.S b = some n → E'.S b = some n
  M : ∀ b i v, E.M b i = some v → E'.M b i = some v
  O : ∀ o n p, E.O o n = some p → E'.O o n = some p
  L : ∀ l b, E.L l = some b → E'.L l = some b

theorem Env.le.refl (E : Env) : E.le E := ⟨fun _ _ h => h, fun _ _ _ h => h, fun _ _ _ h => h, fun _ _ h => h⟩
theorem Env.le.trans {A B C : Env} (h : A.le B) (h' : B.le C) : A.le C :=
  ⟨fun _ _ x => h'.S _ _ (h.S _ _ x), fun _ _ _ x => h'.M _ _ _ (h.M _ _ _ x), fun _ _ _ x => h'.O _ _ _ (h.O _ _ _ x), fun _ _ x => h'.L _ _ (h.L _ _ x)⟩

/-- plain data at a place -/
def Fz (E : Env) (b d : Nat) (vs : List Value) : Prop := ∀ i v, vs[i]? = some v → E.M b (d + i) = some v

theorem Fz.mono {E E' : Env} (h : E.le E') {b d : Nat} {vs : List Value} (f : Fz E b d vs) : Fz E' b d vs := fun i v hv => h.M _ _ _ (f i v hv)

/-- a frame's own view: its variables' blocks, and what is known of its tokens -/
structure View where
  X : Nat → Option Nat
  T : Nat → Nat → Nat → Nat → Option Addr → Nat → Prop

/-- nobody's view: what holds here, holds of whoever looks -/
def View.nil : View := ⟨fun _ => none, fun _ _ _ _ _ _ => False⟩

def tokRel (W : View) (t : Tok) (n sz : Nat) (base : Option Addr) (cap : Nat) : Prop :=
  match t with
  | .non => True
  | .own => True
  | .exact => cap = n
  | .nil => base = none
  | .som => base.isSome = true
  | .loc t k => W.T t k n sz base cap

def atBase (E : Env) (base : Option Addr) (cap : Nat) (vs : List Value) : Prop :=
  match base with
  | none => cap = 0
  | some a => a.spot = none ∧ Fz E a.block a.off vs

mutual
def V (E : Env) (W : View) : AV → Value → Prop
  | .bool b, v => v = .bool b
  | .int k n, v => v = .int k n
  | .str s, v => ∃ l : List UInt8, v = .string ⟨⟨l⟩⟩ ∧ l.map UInt8.toNat = s
  | .nilp, v => v = .pointer none
  | .ptr o ver off, v => ∃ b d, E.O o ver = some (b, d) ∧ v = .pointer (some ⟨b, d + off, none⟩)
  | .lptr _ k off, v => ∃ b, W.X k = some b ∧ v = .pointer (some ⟨b, off, none⟩)
  | .iptr cs off, v => ∃ b d vs, v = .pointer (some ⟨b, d + off, none⟩) ∧ Fz E b d vs ∧ Vs E .nil cs vs
  | .sl t xs, v => ∃ base cap vs sz, v = .slice base xs.length cap ∧ xs.length ≤ cap ∧ (∀ x ∈ xs, x.length = sz) ∧ Vss E .nil xs vs ∧ atBase E base cap vs ∧ tokRel W t xs.length sz base cap
  | .ml o ver off len sz, v => ∃ b d cap n e, E.O o ver = some (b, d) ∧ E.S b = some n ∧ v = .slice (some ⟨b, e, none⟩) len cap ∧ len ≤ cap ∧ 0 < sz ∧ (0 < cap → e = d + off ∧ d + off + cap * sz ≤ n)
  | .fn f cap, v => ∃ vs, v = .func (.func f) #[] ⟨vs⟩ ∧ Vs E .nil cap vs
  | .nilf, v => v = .nilFunc
  | .yld l, v => ∃ b, E.L l = some b ∧ v = .func (.yield b) #[] #[]
  | .ifc t x, v => ∃ y, v = .iface t y ∧ V E .nil x y
  | .nili, v => v = .nilIface
  | .junk, _ => True
  | .sym k s lo hi, v => v = .int k (Sg.σ s) ∧ lo ≤ Sg.σ s ∧ Sg.σ s ≤ hi
  | .opq s, v => v = Sg.ω s ∧ (match Sg.ω s with | .agg _ | .tuple _ => false | _ => true) = true
  | .agg cs, v => ∃ vs, v = .agg ⟨vs⟩ ∧ Vs E W cs vs
  | .tup cs, v => ∃ vs, v = .tuple ⟨vs⟩ ∧ Vs E W cs vs
def Vs (E : Env) (W : View) : List AV → List Value → Prop
  | [], l => l = []
  | a :: r, l => ∃ v s, l = v :: s ∧ V E W a v ∧ Vs E W r s
def Vss (E : Env) (W : View) : List (List AV) → List Value → Prop
  | [], l => l = []
  | a :: r, l => ∃ v s, l = v ++ s ∧ Vs E W a v ∧ Vss E W r s
end

theorem Vs.length {E : Env} {W : View} : ∀ {cs : List AV} {vs : List Value}, Vs E W cs vs → cs.length = vs.length
  | [], vs, h => by simp [Vs] at h; simp [h]
  | a :: r, vs, h => by
    simp only [Vs] at h
    obtain ⟨v, s, rfl, _, h⟩ := h
    simp [Vs.length h]

theorem Vs.get {E : Env} {W : View} : ∀ {cs : List AV} {vs : List Value}, Vs E W cs vs → ∀ (i : Nat) (a : AV), cs[i]? = some a → ∃ v, vs[i]? = some v ∧ V E W a v
  | [], vs, _, i, a, hi => by simp at hi
  | b :: r, vs, h, i, a, hi => by
    simp only [Vs] at h
    obtain ⟨v, s, rfl, hv, h⟩ := h
    cases i with
    | zero => simp at hi; subst hi; exact ⟨v, by simp, hv⟩
    | succ i => simp at hi; obtain ⟨x, hx, hx'⟩ := Vs.get h i a hi; exact ⟨x, by simpa using hx, hx'⟩

theorem Vs.of_get {E : Env} {W : View} : ∀ {cs : List AV} {vs : List Value}, cs.length = vs.length → (∀ (i : Nat) a v, cs[i]? = some a → vs[i]? = some v → V E W a v) → Vs E W cs vs
  | [], [], _, _ => by simp [Vs]
  | a :: r, v :: s, hl, h => by
    simp only [Vs]
    exact ⟨v, s, rfl, h 0 a v (by simp) (by simp), Vs.of_get (by simpa using hl) fun i x y hx hy => h (i + 1) x y (by simpa using hx) (by simpa using hy)⟩

theorem Vs.append {E : Env} {W : View} : ∀ {as bs : List AV} {us vs : List Value}, Vs E W as us → Vs E W bs vs → Vs E W (as ++ bs) (us ++ vs)
  | [], bs, us, vs, h, h' => by simp [Vs] at h; subst h; simpa using h'
  | a :: r, bs, us, vs, h, h' => by
    simp only [Vs] at h
    obtain ⟨v, s, rfl, hv, h⟩ := h
    simp only [List.cons_append, Vs]
    exact ⟨v, s ++ vs, rfl, hv, Vs.append h h'⟩

theorem Vs.take {E : Env} {W : View} (n : Nat) {as : List AV} {us : List Value} (h : Vs E W as us) : Vs E W (as.take n) (us.take n) := by
  induction n generalizing as us with
  | zero => simp [Vs]
  | succ n ih =>
    cases as with
    | nil => simp [Vs] at h; subst h; simp [Vs]
    | cons a r =>
      simp only [Vs] at h
      obtain ⟨v, s, rfl, hv, h⟩ := h
      simp only [List.take_succ_cons, Vs]
      exact ⟨v, _, rfl, hv, ih h⟩

theorem Vs.drop {E : Env} {W : View} (n : Nat) {as : List AV} {us : List Value} (h : Vs E W as us) : Vs E W (as.drop n) (us.drop n) := by
  induction n generalizing as us with
  | zero => simpa using h
  | succ n ih =>
    cases as with
    | nil => simp [Vs] at h; subst h; simp [Vs]
    | cons a r =>
      simp only [Vs] at h
      obtain ⟨v, s, rfl, hv, h⟩ := h
      simpa using ih h

theorem Vss.flat {E : Env} {W : View} : ∀ {xs : List (List AV)} {vs : List Value}, Vss E W xs vs ↔ Vs E W xs.flatten vs
  | [], vs => by simp [Vss, Vs]
  | x :: r, vs => by
    simp only [Vss, List.flatten_cons]
    constructor
    · rintro ⟨v, s, rfl, hv, h⟩; exact hv.append (Vss.flat.1 h)
    · intro h
      have hl := h.length
      refine ⟨vs.take x.length, vs.drop x.length, (List.take_append_drop _ _).symm, ?_, Vss.flat.2 ?_⟩
      · have := h.take x.length; simpa using this
      · have := h.drop x.length; simpa using this

/-! ### growing -/
mutual
theorem V.mono {E E' : Env} {W : View} (h : E.le E') : ∀ {a : AV} {v : Value}, V E W a v → V E' W a v
  | .bool _, _, x | .int _ _, _, x | .str _, _, x | .nilp, _, x | .nilf, _, x | .nili, _, x | .junk, _, x | .sym _ _ _ _, _, x | .opq _, _, x | .lptr _ _ _, _, x => by simpa only [V] using x
  | .ptr _ _ _, _, x => by simp only [V] at x ⊢; obtain ⟨b, d, h1, h2⟩ := x; exact ⟨b, d, h.O _ _ _ h1, h2⟩
  | .iptr _ _, _, x => by simp only [V] at x ⊢; obtain ⟨b, d, vs, h1, h2, h3⟩ := x; exact ⟨b, d, vs, h1, h2.mono h, Vs.mono h h3⟩
  | .sl _ xs, _, x => by
    simp only [V] at x ⊢
    obtain ⟨base, cap, vs, sz, h1, h2, h3, h4, h5, h6⟩ := x
    refine ⟨base, cap, vs, sz, h1, h2, h3, Vss.mono h h4, ?_, h6⟩
    cases base with
    | none => exact h5
    | some a => exact ⟨h5.1, h5.2.mono h⟩
  | .ml _ _ _ _ _, _, x => by simp only [V] at x ⊢; obtain ⟨b, d, cap, n, e, h1, h2, h3⟩ := x; exact ⟨b, d, cap, n, e, h.O _ _ _ h1, h.S _ _ h2, h3⟩
  | .fn _ _, _, x => by simp only [V] at x ⊢; obtain ⟨vs, h1, h2⟩ := x; exact ⟨vs, h1, Vs.mono h h2⟩
  | .yld _, _, x => by simp only [V] at x ⊢; obtain ⟨b, h1, h2⟩ := x; exact ⟨b, h.L _ _ h1, h2⟩
  | .ifc _ y, _, x => by simp only [V] at x ⊢; obtain ⟨z, h1, h2⟩ := x; exact ⟨z, h1, V.mono h h2⟩
  | .agg _, _, x => by simp only [V] at x ⊢; obtain ⟨vs, h1, h2⟩ := x; exact ⟨vs, h1, Vs.mono h h2⟩
  | .tup _, _, x => by simp only [V] at x ⊢; obtain ⟨vs, h1, h2⟩ := x; exact ⟨vs, h1, Vs.mono h h2⟩
theorem Vs.mono {E E' : Env} {W : View} (h : E.le E') : ∀ {a : List AV} {v : List Value}, Vs E W a v → Vs E' W a v
  | [], _, x => by simpa only [Vs] using x
  | _ :: _, _, x => by simp only [Vs] at x ⊢; obtain ⟨v, s, h1, h2, h3⟩ := x; exact ⟨v, s, h1, V.mono h h2, Vs.mono h h3⟩
theorem Vss.mono {E E' : Env} {W : View} (h : E.le E') : ∀ {a : List (List AV)} {v : List Value}, Vss E W a v → Vss E' W a v
  | [], _, x => by simpa only [Vss] using x
  | _ :: _, _, x => by simp only [Vss] at x ⊢; obtain ⟨v, s, h1, h2, h3⟩ := x; exact ⟨v, s, h1, Vs.mono h h2, Vss.mono h h3⟩
end

/-- a view that knows as much -/
structure View.le (W W' : View) : Prop where
  X : ∀ k b, W.X k = some b → W'.X k = some b
  T : ∀ t k n sz base cap, W.T t k n sz base cap → W'.T t k n sz base cap

mutual
theorem V.view {E : Env} {W W' : View} (h : W.le W') : ∀ {a : AV} {v : Value}, V E W a v → V E W' a v
  | .bool _, _, x | .int _ _, _, x | .str _, _, x | .nilp, _, x | .nilf, _, x | .nili, _, x | .junk, _, x | .sym _ _ _ _, _, x | .opq _, _, x | .ptr _ _ _, _, x | .ml _ _ _ _ _, _, x | .yld _, _, x | .iptr _ _, _, x | .fn _ _, _, x | .ifc _ _, _, x => by simpa only [V] using x
  | .lptr _ _ _, _, x => by simp only [V] at x ⊢; obtain ⟨b, h1, h2⟩ := x; exact ⟨b, h.X _ _ h1, h2⟩
  | .sl t xs, _, x => by
    simp only [V] at x ⊢
    obtain ⟨base, cap, vs, sz, h1, h2, h3, h4, h5, h6⟩ := x
    refine ⟨base, cap, vs, sz, h1, h2, h3, h4, h5, ?_⟩
    cases t with
    | loc t k => exact h.T _ _ _ _ _ _ h6
    | _ => exact h6
  | .agg _, _, x => by simp only [V] at x ⊢; obtain ⟨vs, h1, h2⟩ := x; exact ⟨vs, h1, Vs.view h h2⟩
  | .tup _, _, x => by simp only [V] at x ⊢; obtain ⟨vs, h1, h2⟩ := x; exact ⟨vs, h1, Vs.view h h2⟩
theorem Vs.view {E : Env} {W W' : View} (h : W.le W') : ∀ {a : List AV} {v : List Value}, Vs E W a v → Vs E W' a v
  | [], _, x => by simpa only [Vs] using x
  | _ :: _, _, x => by simp only [Vs] at x ⊢; obtain ⟨v, s, h1, h2, h3⟩ := x; exact ⟨v, s, h1, V.view h h2, Vs.view h h3⟩
end

mutual
/-- a cleaned value is whoever's -/
theorem V.clean {E : Env} {W : View} : ∀ {a a' : AV} {v : Value}, Ev.clean a = .ok a' → V E W a v → V E .nil a' v
  | .bool _, _, _, hc, x | .int _ _, _, _, hc, x | .sym _ _ _ _, _, _, hc, x | .opq _, _, _, hc, x | .str _, _, _, hc, x | .nilp, _, _, hc, x | .nilf, _, _, hc, x | .nili, _, _, hc, x | .ptr _ _ _, _, _, hc, x | .ml _ _ _ _ _, _, _, hc, x | .yld _, _, _, hc, x | .iptr _ _, _, _, hc, x | .fn _ _, _, _, hc, x | .ifc _ _, _, _, hc, x => by
    simp only [Ev.clean, R.ok.injEq] at hc
    subst hc
    simpa only [V] using x
  | .lptr _ _ _, _, _, hc, _ => by simp [Ev.clean] at hc
  | .junk, _, _, hc, _ => by simp [Ev.clean] at hc
  | .sl t xs, _, _, hc, x => by
    simp only [V] at x
    obtain ⟨base, cap, vs, sz, h1, h2, h3, h4, h5, h6⟩ := x
    cases t <;> simp only [Ev.clean, R.ok.injEq] at hc <;> subst hc <;> simp only [V] <;>
      exact ⟨base, cap, vs, sz, h1, h2, h3, h4, h5, by first | trivial | exact h6⟩
  | .agg cs, a', v, hc, x => by
    simp only [Ev.clean] at hc
    cases hcs : Ev.cleans cs with
    | no e => simp [hcs] at hc
    | ok cs' =>
      simp only [hcs, R.ok.injEq] at hc
      subst hc
      simp only [V] at x ⊢
      obtain ⟨vs, h1, h2⟩ := x
      exact ⟨vs, h1, Vs.clean hcs h2⟩
  | .tup cs, a', v, hc, x => by
    simp only [Ev.clean] at hc
    cases hcs : Ev.cleans cs with
    | no e => simp [hcs] at hc
    | ok cs' =>
      simp only [hcs, R.ok.injEq] at hc
      subst hc
      simp only [V] at x ⊢
      obtain ⟨vs, h1, h2⟩ := x
      exact ⟨vs, h1, Vs.clean hcs h2⟩
theorem Vs.clean {E : Env} {W : View} : ∀ {a a' : List AV} {v : List Value}, Ev.cleans a = .ok a' → Vs E W a v → Vs E .nil a' v
  | [], _, _, hc, x => by simp only [Ev.cleans, R.ok.injEq] at hc; subst hc; simpa only [Vs] using x
  | a :: r, a', v, hc, x => by
    simp only [Ev.cleans] at hc
    cases h1 : Ev.clean a with
    | no e => simp [h1] at hc
    | ok b =>
      cases h2 : Ev.cleans r with
      | no e => simp [h1, h2] at hc
      | ok r' =>
        simp only [h1, h2, R.ok.injEq] at hc
        subst hc
        simp only [Vs] at x ⊢
        obtain ⟨u, s, e, hu, hs⟩ := x
        exact ⟨u, s, e, V.clean h1 hu, Vs.clean h2 hs⟩
end

theorem View.nil_le (W : View) : View.nil.le W := ⟨fun _ _ h => (by cases h), fun _ _ _ _ _ _ h => h.elim⟩

end Go.Proofs.Ev
