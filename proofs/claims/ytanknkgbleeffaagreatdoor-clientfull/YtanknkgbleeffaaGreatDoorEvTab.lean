/- A seat's tables, held against the loaded program; what a run at no memory of one's own comes to. -/
import Derived.Test.YtanknkgbleeffaaGreatDoorEvDo
import Derived.RowKit3
set_option linter.all false
namespace Go.Proofs.Ev
open Go Go.RowKit
variable [Sg]

/-! ### tries with numbers as keys -/
def valP : List Bool → Nat
  | [] => 0
  | false :: p => 1 + 2 * valP p
  | true :: p => 2 + 2 * valP p

theorem val_pathN : ∀ (d k : Nat), k < 2 ^ d - 1 → valP (pathN d k) = k
  | 0, k, h => by simp at h
  | d + 1, 0, _ => rfl
  | d + 1, k + 1, h => by
    have hp : 2 ^ (d + 1) = 2 * 2 ^ d := by rw [Nat.pow_succ]; omega
    have ek := Nat.mod_two_eq_zero_or_one k
    have ih := val_pathN d (k / 2) (by omega)
    simp only [pathN]
    rcases ek with ek | ek <;> rw [ek] <;> simp only [valP, ih] <;> omega

theorem val_path (k : Nat) : valP (path k) = k := val_pathN (k + 1) k (lt_two_pow_succ k)

theorem get_mkTr {α : Type} (f : Nat → α) : ∀ (p : List Bool) (d a b : Nat) (y : α), Tr.get p (mkTr f d a b) = some y → y = f (b + a * valP p)
  | p, 0, a, b, y, h => by rw [mkTr, Tr.get_leaf] at h; cases h
  | [], d + 1, a, b, y, h => by
    rw [mkTr, Tr.get_nil] at h
    simp only [Option.some.injEq] at h
    rw [← h]
    simp [valP]
  | false :: p, d + 1, a, b, y, h => by
    rw [mkTr, Tr.get_f] at h
    rw [get_mkTr f p d _ _ y h]
    congr 1
    simp only [valP]
    grind
  | true :: p, d + 1, a, b, y, h => by
    rw [mkTr, Tr.get_t] at h
    rw [get_mkTr f p d _ _ y h]
    congr 1
    simp only [valP]
    grind

theorem byTr_mk {α : Type} {f : Nat → R α} {d k : Nat} {x : α} (h : byTr (mkTr f d 1 0) k = .ok x) : f k = .ok x := by
  unfold byTr at h
  split at h
  · rename_i y hy
    have := get_mkTr f _ _ _ _ _ hy
    rw [val_path] at this
    rw [show k = 0 + 1 * k by omega, ← this]
    exact h
  · cases h

/-- a test of each entry -/
def trAll {α : Type} (p : Nat → α → Bool) : Tr α → Nat → Nat → Bool
  | .leaf, _, _ => true
  | .node v l r, a, b => (match v with
    | some y => p b y
    | none => true) && (trAll p l (2 * a) (a + b) && trAll p r (2 * a) (2 * a + b))

theorem get_trAll {α : Type} {p : Nat → α → Bool} : ∀ {q : List Bool} {t : Tr α} {a b : Nat} {y : α}, trAll p t a b = true → Tr.get q t = some y → p (b + a * valP q) y = true
  | q, .leaf, a, b, y, _, hg => by rw [Tr.get_leaf] at hg; cases hg
  | [], .node v l r, a, b, y, h, hg => by
    rw [Tr.get_nil] at hg
    subst hg
    simp only [trAll, Bool.and_eq_true] at h
    simpa [valP] using h.1
  | false :: q, .node v l r, a, b, y, h, hg => by
    rw [Tr.get_f] at hg
    simp only [trAll, Bool.and_eq_true] at h
    have := get_trAll h.2.1 hg
    rw [show b + a * valP (false :: q) = a + b + 2 * a * valP q by simp only [valP]; grind]
    exact this
  | true :: q, .node v l r, a, b, y, h, hg => by
    rw [Tr.get_t] at hg
    simp only [trAll, Bool.and_eq_true] at h
    have := get_trAll h.2.2 hg
    rw [show b + a * valP (true :: q) = 2 * a + b + 2 * a * valP q by simp only [valP]; grind]
    exact this

theorem byTr'_all {α : Type} {p : Nat → α → Bool} {t : Tr α} {k : Nat} {y : α} (h : trAll p t 1 0 = true) (hg : byTr' t k = .ok y) : p k y = true := by
  unfold byTr' at hg
  split at hg
  · rename_i x hx
    simp only [R.ok.injEq] at hg
    subst hg
    have := get_trAll h hx
    rw [val_path] at this
    rwa [show 0 + 1 * k = k by omega] at this
  · cases hg

/-! ### types -/
def sameOffs : List (Nat × Nat) → List (Nat × Nat) → Bool
  | [], [] => true
  | (a, b) :: r, (c, d) :: s => Nat.beq a c && Nat.beq b d && sameOffs r s
  | _, _ => false
def sameShp : Shp → Shp → Bool
  | .bool, .bool | .str, .str | .ptr, .ptr | .fn, .fn | .ifc, .ifc => true
  | .int k, .int k' => decide (k = k')
  | .sl e, .sl e' => Nat.beq e e'
  | .arr n e, .arr n' e' => Nat.beq n n' && Nat.beq e e'
  | .strct l, .strct l' => sameOffs l l'
  | _, _ => false
def sameTy (x y : Ty) : Bool := Nat.beq x.size y.size && Nat.beq x.bytes y.bytes && sameShp x.shp y.shp && sameAVs x.zero y.zero

theorem sameOffs_eq : ∀ {a b : List (Nat × Nat)}, sameOffs a b = true → a = b
  | [], b, h => by cases b <;> simp_all [sameOffs]
  | (x, y) :: r, b, h => by
    cases b with
    | nil => simp [sameOffs] at h
    | cons z s =>
      obtain ⟨u, v⟩ := z
      simp only [sameOffs, Bool.and_eq_true] at h
      rw [Nat.eq_of_beq_eq_true h.1.1, Nat.eq_of_beq_eq_true h.1.2, sameOffs_eq h.2]

theorem sameShp_eq {a b : Shp} (h : sameShp a b = true) : a = b := by
  cases a <;> cases b <;> simp only [sameShp, Bool.false_eq_true, Bool.and_eq_true, decide_eq_true_eq] at h <;> first
    | rfl
    | (rw [h])
    | (rw [Nat.eq_of_beq_eq_true h])
    | (rw [Nat.eq_of_beq_eq_true h.1, Nat.eq_of_beq_eq_true h.2])
    | (rw [sameOffs_eq h])

theorem sameTy_eq {a b : Ty} (h : sameTy a b = true) : a = b := by
  obtain ⟨a1, a2, a3, a4⟩ := a
  obtain ⟨b1, b2, b3, b4⟩ := b
  simp only [sameTy, Bool.and_eq_true] at h
  obtain ⟨⟨⟨h1, h2⟩, h3⟩, h4⟩ := h
  rw [Nat.eq_of_beq_eq_true h1, Nat.eq_of_beq_eq_true h2, sameShp_eq h3, sameAVs_eq h4]

def tyIs (P : Program) (k : Nat) (y : Ty) : Bool :=
  match tyOf P k with
  | .ok x => sameTy x y
  | .no _ => false

theorem tyTab_ok {P : Program} {tab : Tr Ty} (h : trAll (tyIs P) tab 1 0 = true) {t : TypeId} {y : Ty} (hg : byTr' tab t = .ok y) : tyOf P t = .ok y := by
  have := byTr'_all h hg
  unfold tyIs at this
  split at this
  · rename_i x hx
    rw [hx, sameTy_eq this]
  · cases this

/-! ### code -/
def edgesB (i : Nat) (o : Oper) : Bool := o.after.toList.all fun e => !Region.binds .any e || Nat.blt e.on i
def clashB (ops : Array Oper) (bef : Array Nat) (j : Nat) (oj : Oper) : List Oper → Nat → Bool
  | [], _ => true
  | oi :: r, i => (!Nat.blt i j || oi.apart ops oj || (bef.getD j 0).testBit i) && clashB ops bef j oj r (i + 1)
def regB (ops : Array Oper) (bef : Array Nat) : List Oper → Nat → Bool
  | [], _ => true
  | o :: r, i => edgesB i o && clashB ops bef i o ops.toList 0 && regB ops bef r (i + 1)
def dstB (N : Nat) (o : Oper) : Bool :=
  match o.dst with
  | some d => Nat.blt d N
  | none => true
def fitB (N : Nat) : Code → Bool
  | .region _ ops draw => ops.toList.all (dstB N) && (!draw || regB ops (Region.before ops) ops.toList 0)
  | .seq a b | .cond _ a b => fitB N a && fitB N b
  | .block _ c | .loop c | .scope c => fitB N c
  | .rangeFunc _ ps a c => ps.toList.all (fun t => Nat.blt t N) && (fitB N a && fitB N c)
  | _ => true

theorem clashB_ok {ops : Array Oper} {bef : Array Nat} {j : Nat} {oj : Oper} : ∀ {l : List Oper} {k : Nat}, clashB ops bef j oj l k = true → ∀ i oi, l[i]? = some oi → k + i < j → oi.apart ops oj = true ∨ (bef.getD j 0).testBit (k + i) = true
  | [], k, _, i, oi, hi, _ => by simp at hi
  | o :: r, k, h, i, oi, hi, hlt => by
    simp only [clashB, Bool.and_eq_true] at h
    cases i with
    | zero =>
      simp only [List.getElem?_cons_zero, Option.some.injEq] at hi
      subst hi
      have h1 := h.1
      simp only [Bool.or_eq_true, Bool.not_eq_true'] at h1
      rcases h1 with (h1 | h1) | h1
      · have : Nat.blt k j = true := by rw [Nat.blt_eq]; omega
        rw [this] at h1; cases h1
      · exact .inl h1
      · exact .inr h1
    | succ i =>
      simp only [List.getElem?_cons_succ] at hi
      have := clashB_ok h.2 i oi hi (by omega)
      rw [show k + (i + 1) = k + 1 + i by omega]
      exact this

theorem regB_ok {ops : Array Oper} {bef : Array Nat} : ∀ {l : List Oper} {k : Nat}, regB ops bef l k = true → ∀ j o, l[j]? = some o → edgesB (k + j) o = true ∧ clashB ops bef (k + j) o ops.toList 0 = true
  | [], k, _, i, oi, hi => by simp at hi
  | o :: r, k, h, j, oj, hj => by
    simp only [regB, Bool.and_eq_true] at h
    cases j with
    | zero =>
      simp only [List.getElem?_cons_zero, Option.some.injEq] at hj
      subst hj
      exact h.1
    | succ j =>
      simp only [List.getElem?_cons_succ] at hj
      have := regB_ok h.2 j oj hj
      rw [show k + (j + 1) = k + 1 + j by omega]
      exact this

theorem regOk_of {ops : Array Oper} (h : regB ops (Region.before ops) ops.toList 0 = true) : RegOk ops where
  edges i o ho e he hb := by
    obtain ⟨h1, _⟩ := regB_ok h i o (by simpa using ho)
    unfold edgesB at h1
    rw [List.all_eq_true] at h1
    have := h1 e he
    simp only [hb, Bool.not_true, Bool.false_or, Nat.blt_eq] at this
    omega
  clash i j oi oj hij hi hj := by
    obtain ⟨_, h2⟩ := regB_ok h j oj (by simpa using hj)
    rw [Nat.zero_add] at h2
    have := clashB_ok h2 i oi (by simpa using hi) (by omega)
    rw [Nat.zero_add] at this
    exact this

theorem fit_of {N : Nat} : ∀ {x : Code}, fitB N x = true → Fit N x := by
  intro x
  induction x with
  | region rid ops draw =>
    intro h
    simp only [fitB, Bool.and_eq_true, List.all_eq_true] at h
    refine ⟨fun o ho d hd => ?_, fun hdr => ?_⟩
    · have := h.1 o ho
      unfold dstB at this
      rw [hd] at this
      simpa using this
    · subst hdr
      have := h.2
      simp only [Bool.not_true, Bool.false_or] at this
      exact regOk_of this
  | seq a b iha ihb => intro h; simp only [fitB, Bool.and_eq_true] at h; exact ⟨iha h.1, ihb h.2⟩
  | cond c a b iha ihb => intro h; simp only [fitB, Bool.and_eq_true] at h; exact ⟨iha h.1, ihb h.2⟩
  | block id c ih => intro h; exact ih h
  | loop c ih => intro h; exact ih h
  | scope c ih => intro h; exact ih h
  | rangeFunc g ps a c iha ihc =>
    intro h
    simp only [fitB, Bool.and_eq_true, List.all_eq_true] at h
    exact ⟨fun t ht => by simpa using h.1 t ht, iha h.2.1, ihc h.2.2⟩
  | _ => intro _; trivial

def fnB' (fn : Func) : Bool :=
  !(fn.name == "runtime.NumGoroutine") && (match fn.body with
    | some b => fitB fn.ntmps b
    | none => true)

theorem fitP_of {P : Program} (h : P.funcs.toList.all fnB' = true) : FitP P where
  fit f fn body hf hb := by
    have hm : fn ∈ P.funcs.toList := by have := Array.mem_of_getElem? hf; simpa using this
    have := List.all_eq_true.1 h fn hm
    simp only [fnB', Bool.and_eq_true, hb] at this
    exact fit_of this.2
  nm f fn hf := by
    have hm : fn ∈ P.funcs.toList := by have := Array.mem_of_getElem? hf; simpa using this
    have := List.all_eq_true.1 h fn hm
    simp only [fnB', Bool.and_eq_true, Bool.not_eq_true'] at this
    exact this.1

/-! ### a run of a law -/
/-- an environment that knows plain data alone -/
def E1 (M : Nat → Nat → Option Value) : Env := ⟨M, fun _ => none, fun _ _ => none, fun _ => none⟩
def E0 : Env := E1 fun _ _ => none
def H0 : Heap := ⟨[], [], []⟩

theorem pre1 {cx : Cx} {M : Nat → Nat → Option Value} {w : World} (hM : ∀ b i v, M b i = some v → w.cell? ⟨b, i, none⟩ = some v) (hg : GlobOk cx (E1 M)) : Pre cx [] (E1 M) (fun _ => .other) H0 w where
  inv := ⟨hM, fun _ _ h => (by cases h), fun _ _ _ _ h => (by cases h), fun _ _ h => (by cases h), fun _ _ _ h => (by cases h), fun _ _ h => (by cases h), fun _ _ => rfl, fun _ _ _ h => (by cases h)⟩
  glb := hg
  msk _ := rfl
  fO _ _ _ h := by cases h
  fL _ _ h := by cases h
  lim := rfl

theorem grown_of {Q : Name} {E E' : Env} {own' : Nat → Tag} {w w' : World} (h : Grow Q (fun _ => .other) own' E E' w w') : Grown w w' := by
  refine ⟨⟨h.outer.1, h.outer.2.1, fun i hi => ?_⟩, h.outer.2.2, h.size⟩
  have := h.keep i hi rfl
  rw [this]
  cases hx : w.heap[i]? with
  | none => rfl
  | some x => cases x <;> simp

theorem calls_ok {P : Program} {cx : Cx} (g : Good P cx) (fp : FitP P) (ex : ExtOk P cx) (hm : P.follows .mixedOrders = true) (n : Nat) : CallOk P cx (callA cx n) :=
  callA_ok g fp ex (fun n co => draw_ok g co (callA_quiet cx n) hm) n

/-- what the evaluator answers of a law is what the machine answers -/
theorem law_calls {P : Program} {cx : Cx} (g : Good P cx) (fp : FitP P) (ex : ExtOk P cx) (hm : P.follows .mixedOrders = true) {M : Nat → Nat → Option Value} {w : World} (hM : ∀ b i v, M b i = some v → w.cell? ⟨b, i, none⟩ = some v) (hg : GlobOk cx (E1 M))
    {n : Nat} {f : FuncId} {args : List AV} {H' : Heap} {b : Bool} (h : callA cx n (.fn f) [] args H0 = .ok (.val (.bool b), H')) {vals : List Value} (hv : Vs (E1 M) .nil args vals) : Calls P f ⟨vals⟩ w fun e w' => e = .returned (.bool b) ∧ Grown w w' := by
  have co := calls_ok g fp ex hm n
  obtain ⟨_, hall⟩ := co.fn f [] args H0 _ H' h (E1 M) (fun _ => .other) w vals (pre1 hM hg) hv
  intro cs
  obtain ⟨E', own', w', fx, val, hp, hfx, hst, hret, hlv⟩ := hall cs
  have hb : val = .bool b := by simpa only [V] using hret.1
  subst hb
  exact ⟨.returned (.bool b), w', fx, ⟨rfl, grown_of hp.grow⟩, hst, hfx, hlv⟩

/-! ### a function's run, used in another one -/
section
variable {E E' : Env} (hM : ∀ b i u, E.M b i = some u → E'.M b i = some u)
include hM

theorem Fz.of {b d : Nat} {vs : List Value} (h : Fz E b d vs) : Fz E' b d vs := fun i v hv => hM _ _ _ (h i v hv)

mutual
theorem V.plain : ∀ {a : AV} {v : Value}, plainAV a = true → V E .nil a v → V E' .nil a v
  | .bool _, _, _, x | .int _ _, _, _, x | .str _, _, _, x | .nilp, _, _, x | .nilf, _, _, x | .nili, _, _, x | .sym _ _ _ _, _, _, x | .opq _, _, _, x => by simpa only [V] using x
  | .iptr _ _, _, h, x => by
    simp only [V] at x ⊢
    obtain ⟨b, d, vs, h1, h2, h3⟩ := x
    exact ⟨b, d, vs, h1, h2.of hM, Vs.plain h h3⟩
  | .sl t xs, _, h, x => by
    have hx : plainAVss xs = true := by cases t <;> simp_all [plainAV]
    simp only [V] at x ⊢
    obtain ⟨base, cap, vs, sz, h1, h2, h3, h4, h5, h6⟩ := x
    refine ⟨base, cap, vs, sz, h1, h2, h3, Vss.plain hx h4, ?_, h6⟩
    cases base with
    | none => exact h5
    | some a => exact ⟨h5.1, h5.2.of hM⟩
  | .fn _ _, _, h, x => by simp only [V] at x ⊢; obtain ⟨vs, h1, h2⟩ := x; exact ⟨vs, h1, Vs.plain h h2⟩
  | .ifc _ y, _, h, x => by simp only [V] at x ⊢; obtain ⟨z, h1, h2⟩ := x; exact ⟨z, h1, V.plain h h2⟩
  | .agg _, _, h, x => by simp only [V] at x ⊢; obtain ⟨vs, h1, h2⟩ := x; exact ⟨vs, h1, Vs.plain h h2⟩
  | .tup _, _, h, x => by simp only [V] at x ⊢; obtain ⟨vs, h1, h2⟩ := x; exact ⟨vs, h1, Vs.plain h h2⟩
  | .ptr _ _ _, _, h, _ | .lptr _ _ _, _, h, _ | .ml _ _ _ _ _, _, h, _ | .yld _, _, h, _ | .junk, _, h, _ => by simp [plainAV] at h
theorem Vs.plain : ∀ {a : List AV} {v : List Value}, plainAVs a = true → Vs E .nil a v → Vs E' .nil a v
  | [], _, _, x => by simpa only [Vs] using x
  | _ :: _, _, h, x => by
    simp only [plainAVs, Bool.and_eq_true] at h
    simp only [Vs] at x ⊢
    obtain ⟨v, s, h1, h2, h3⟩ := x
    exact ⟨v, s, h1, V.plain h.1 h2, Vs.plain h.2 h3⟩
theorem Vss.plain : ∀ {a : List (List AV)} {v : List Value}, plainAVss a = true → Vss E .nil a v → Vss E' .nil a v
  | [], _, _, x => by simpa only [Vss] using x
  | _ :: _, _, h, x => by
    simp only [plainAVss, Bool.and_eq_true] at h
    simp only [Vss] at x ⊢
    obtain ⟨v, s, h1, h2, h3⟩ := x
    exact ⟨v, s, h1, Vs.plain h.1 h2, Vss.plain h.2 h3⟩
end
end

theorem plain_noown {v : AV} (h : plainAV v = true) : ∀ xs, v ≠ .sl .own xs := by
  rintro xs rfl
  simp [plainAV] at h

/-- a run at no memory of one's own holds wherever the function is called -/
theorem lift_fn {P : Program} {cx1 cx2 : Cx} {n : Nat} (co : CallOk P cx1 (callA cx1 n)) {f : FuncId} {args : List AV} {v : AV} {H' : Heap} (h : callA cx1 n (.fn f) [] args H0 = .ok (.val v, H')) (hpl : plainAV v = true)
    {Q : Name} {E : Env} {own : Nat → Tag} {H : Heap} {w : World} {vals : List Value} (hp : Pre cx2 Q E own H w) (hgl : GlobOk cx1 (E1 E.M)) (hv : Vs (E1 E.M) .nil args vals) :
    Enters P f ∧ ∀ cs, ∃ E' own' w' fx val, Post Q E E' own own' H H w w' ∧ fx.fn = f ∧ Steps P (lone (Frame.enter P f ⟨vals⟩ .normal) cs w) (lone fx cs w') ∧ RetV E' own' w' v val ∧ fx.leaving P w' (.returned val) := by
  obtain ⟨hent, hall⟩ := co.fn f [] args H0 _ H' h (E1 E.M) (fun _ => .other) w vals (pre1 hp.inv.frz hgl) hv
  refine ⟨hent, fun cs => ?_⟩
  obtain ⟨F, own1, w', fx, val, hpost, hfx, hst, hret, hlv⟩ := hall cs
  have hkeep : ∀ b, b < w.heap.size → w'.heap[b]? = w.heap[b]? := fun b hb => hpost.grow.keep b hb rfl
  have hnew : ∀ b i u, F.M b i = some u → b < w.heap.size → E.M b i = some u := fun b i u hu hb => hpost.grow.frz b i u hu hb rfl
  have hle : E.le { E with M := F.M } := ⟨fun _ _ h => h, fun b i u hu => hpost.grow.env.M b i u hu, fun _ _ _ h => h, fun _ _ h => h⟩
  have hblk : ∀ b c ty, blk w b = some (c, ty) → blk w' b = some (c, ty) := fun b c ty hb => by
    unfold blk at hb ⊢
    rw [hkeep b (blk_lt hb)]
    exact hb
  refine ⟨{ E with M := F.M }, fun b => if b < w.heap.size then own b else .other, w', fx, val, ⟨⟨hpost.inv.frz, ?_, ?_, ?_, ?_, ?_, ?_, hp.inv.ver⟩, ⟨hle, hpost.grow.size, fun b hb _ => hkeep b hb, fun b hb => if_pos hb, fun b i u hu hb _ => hnew b i u hu hb, fun _ _ _ h => .inl ⟨_, _, h⟩, fun _ _ h => .inl h, hpost.grow.outer⟩, ⟨rfl, fun _ _ => rfl, fun _ _ => rfl, fun _ _ _ _ h => h⟩⟩, hfx, hst, ⟨?_, fun xs e => absurd e (plain_noown hpl xs)⟩, hlv⟩
  · intro b n' hn
    obtain ⟨c, ty, fz, h1, h2⟩ := hp.inv.siz b n' hn
    exact ⟨c, ty, fz, (hkeep b (Array.getElem?_eq_some_iff.1 h1).1).trans h1, h2⟩
  · intro o n' b d hO; exact Nat.lt_of_lt_of_le (hp.inv.bnd o n' b d hO) hpost.grow.size
  · intro l b hb; exact Nat.lt_of_lt_of_le (hp.inv.lbnd l b hb) hpost.grow.size
  · intro o n' cs' hl
    obtain ⟨b, d, c, ty, h1, h2, h3, h4, h5, h6⟩ := hp.inv.obj o n' cs' hl
    refine ⟨b, d, c, ty, h1, by rw [if_pos (blk_lt h3)]; exact h2, hblk _ _ _ h3, h4, fun i x hx => let ⟨y, h7, h8⟩ := h5 i x hx; ⟨y, h7, V.mono hle h8⟩, fun i => ?_⟩
    cases hx : F.M b i with
    | none => rfl
    | some u => have := hnew b i u hx (blk_lt h3); rw [h6 i] at this; cases this
  · intro l r hl
    obtain ⟨b, L, h1, h2, h3, h4⟩ := hp.inv.lop l r hl
    have hlt := (Array.getElem?_eq_some_iff.1 h3).1
    exact ⟨b, L, h1, by rw [if_pos hlt]; exact h2, (hkeep b hlt).trans h3, h4.mono hle⟩
  · intro b hb
    rw [if_neg (by have := hpost.grow.size; omega)]
  · exact V.plain (E := F) (E' := { E with M := F.M }) (fun _ _ _ h => h) hpl hret.1

end Go.Proofs.Ev
