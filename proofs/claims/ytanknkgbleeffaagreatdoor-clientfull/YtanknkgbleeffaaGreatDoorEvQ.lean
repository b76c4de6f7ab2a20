/- Equality, conversions, and what is reckoned of places. -/
import Derived.Test.YtanknkgbleeffaaGreatDoorEvP
set_option linter.all false
namespace Go.Proofs.Ev
open Go
variable [Sg]

theorem V_ptr_some {E : Env} {W : View} {x : AV} {v : Value} (hx : V E W x v) (h : (∃ o n k, x = .ptr o n k) ∨ (∃ t k i, x = .lptr t k i) ∨ (∃ cs i, x = .iptr cs i)) : ∃ a, v = .pointer (some a) := by
  rcases h with ⟨o, n, k, rfl⟩ | ⟨t, k, i, rfl⟩ | ⟨cs, i, rfl⟩
  · simp only [V] at hx; obtain ⟨b, d, _, rfl⟩ := hx; exact ⟨_, rfl⟩
  · simp only [V] at hx; obtain ⟨b, _, rfl⟩ := hx; exact ⟨_, rfl⟩
  · simp only [V] at hx; obtain ⟨b, d, vs, rfl, _⟩ := hx; exact ⟨_, rfl⟩

theorem underlying_shp {P : Program} {c : Cx} (g : Good P c) {t : TypeId} {ty : Ty} (h : c.ty t = .ok ty) : ∃ d, P.underlying t = some d ∧ ty.shp = shpD P d := by
  obtain ⟨i, d, z, _, hd, _, _, _, hs, _⟩ := tyOf_ok (g.ty _ _ h)
  exact ⟨d, hd, hs⟩

theorem shpD_bool {P : Program} {d : TypeDesc} (h : shpD P d = .bool) : d = .bool := by cases d <;> simp [shpD] at h ⊢
theorem shpD_ptr {P : Program} {d : TypeDesc} (h : shpD P d = .ptr) : ∃ e, d = .pointer e := by cases d <;> simp [shpD] at h ⊢
theorem shpD_fn {P : Program} {d : TypeDesc} (h : shpD P d = .fn) : ∃ a b e, d = .func a b e := by cases d <;> simp [shpD] at h ⊢
theorem shpD_ifc {P : Program} {d : TypeDesc} (h : shpD P d = .ifc) : ∃ e, d = .interface e := by cases d <;> simp [shpD] at h ⊢
theorem shpD_int {P : Program} {d : TypeDesc} {k : IntKind} (h : shpD P d = .int k) : d = .int k := by cases d <;> simp [shpD] at h ⊢; exact h
theorem shpD_str {P : Program} {d : TypeDesc} (h : shpD P d = .str) : d = .string := by cases d <;> simp [shpD] at h ⊢
theorem shpD_sl {P : Program} {d : TypeDesc} {e : TypeId} (h : shpD P d = .sl e) : d = .slice e := by cases d <;> simp [shpD] at h ⊢; exact h
theorem shpD_arr {P : Program} {d : TypeDesc} {n : Nat} {e : TypeId} (h : shpD P d = .arr n e) : d = .array n e := by cases d <;> simp [shpD] at h ⊢; exact h
theorem shpD_strct {P : Program} {d : TypeDesc} {l : List (Nat × Nat)} (h : shpD P d = .strct l) : ∃ fs, d = .struct fs ∧ l = fs.toList.map fun f => (f.offset, P.cellsOf f.type) := by
  cases d <;> simp [shpD] at h ⊢; exact h.symm

/-- the guard ahead of '==' lets by whatever is not two nil interface values, nor two aggregates -/
theorem guard_by {P : Program} (op : BinOp) (ho : op = .eql ∨ op = .neq) (t : TypeId) (x y : Operand) (a b : Value) (w : World) (h : ¬ (a = .nilIface ∧ b = .nilIface)) (h2 : ∀ us vs, ¬ (a = .agg us ∧ b = .agg vs)) :
    (eqGuard op t x y a b).run P w = .ok () w := by
  rcases ho with rfl | rfl <;> simp only [eqGuard, Bool.not_true, Bool.false_eq_true, if_false] <;> split
  all_goals first
    | exact absurd ⟨rfl, rfl⟩ h
    | exact absurd ⟨rfl, rfl⟩ (h2 _ _)
    | rfl

theorem equal_of {P : Program} {t : TypeId} {a b : Value} {w : World} {r : Bool} (h : ∀ n, (Op.equalIn (n + 1) t a b).run P w = .ok r w) : (Op.equal t a b).run P w = .ok r w := h 9999

section
variable {P : Program} {t : TypeId} (w : World)
theorem eq_bool (h : P.underlying t = some .bool) (a b : Bool) (n : Nat) : (Op.equalIn (n + 1) t (.bool a) (.bool b)).run P w = .ok (a == b) w := by simp [Op.equalIn, run_underlying h]
theorem eq_nil_nil {e : TypeId} (h : P.underlying t = some (.pointer e)) (n : Nat) : (Op.equalIn (n + 1) t (.pointer none) (.pointer none)).run P w = .ok true w := by simp [Op.equalIn, run_underlying h]
theorem eq_nil_some {e : TypeId} (h : P.underlying t = some (.pointer e)) (a : Addr) (n : Nat) : (Op.equalIn (n + 1) t (.pointer none) (.pointer (some a))).run P w = .ok false w := by simp [Op.equalIn, run_underlying h]
theorem eq_some_nil {e : TypeId} (h : P.underlying t = some (.pointer e)) (a : Addr) (n : Nat) : (Op.equalIn (n + 1) t (.pointer (some a)) (.pointer none)).run P w = .ok false w := by simp [Op.equalIn, run_underlying h]
theorem eq_nilf {x : Array TypeId} {y : Array TypeId} {z : Bool} (h : P.underlying t = some (.func x y z)) (n : Nat) : (Op.equalIn (n + 1) t .nilFunc .nilFunc).run P w = .ok true w := by simp [Op.equalIn, run_underlying h]
theorem eq_fn_nil {x : Array TypeId} {y : Array TypeId} {z : Bool} (h : P.underlying t = some (.func x y z)) (f : Fn) (a b : Array Value) (n : Nat) : (Op.equalIn (n + 1) t (.func f a b) .nilFunc).run P w = .ok false w := by simp [Op.equalIn, run_underlying h]
theorem eq_nil_fn {x : Array TypeId} {y : Array TypeId} {z : Bool} (h : P.underlying t = some (.func x y z)) (f : Fn) (a b : Array Value) (n : Nat) : (Op.equalIn (n + 1) t .nilFunc (.func f a b)).run P w = .ok false w := by simp [Op.equalIn, run_underlying h]
theorem eq_ifc_nil {m : Array (String × TypeId)} (h : P.underlying t = some (.interface m)) (u : TypeId) (v : Value) (n : Nat) : (Op.equalIn (n + 1) t (.iface u v) .nilIface).run P w = .ok false w := by simp [Op.equalIn, run_underlying h]
theorem eq_nil_ifc {m : Array (String × TypeId)} (h : P.underlying t = some (.interface m)) (u : TypeId) (v : Value) (n : Nat) : (Op.equalIn (n + 1) t .nilIface (.iface u v)).run P w = .ok false w := by simp [Op.equalIn, run_underlying h]
end

theorem eq_nils {P : Program} {t : TypeId} (w : World) {e : TypeId} (h : P.underlying t = some (.slice e)) (n1 c1 : Nat) (b : Option Addr) (n2 c2 : Nat) (n : Nat) : (Op.equalIn (n + 1) t (.slice none n1 c1) (.slice b n2 c2)).run P w = .ok b.isNone w := by simp [Op.equalIn, run_underlying h]
theorem eq_some_nils {P : Program} {t : TypeId} (w : World) {e : TypeId} (h : P.underlying t = some (.slice e)) (a : Addr) (n1 c1 n2 c2 : Nat) (n : Nat) : (Op.equalIn (n + 1) t (.slice (some a) n1 c1) (.slice none n2 c2)).run P w = .ok false w := by simp [Op.equalIn, run_underlying h]

theorem nilOf_ok {E : Env} {W : View} {x : AV} {b : Bool} {v : Value} (h : nilOf x = .ok b) (hx : V E W x v) : ∃ base n cap, v = .slice base n cap ∧ (b = true → base = none) ∧ (b = false → base.isSome = true) := by
  unfold nilOf at h
  split at h
  · simp only [R.ok.injEq] at h
    subst h
    simp only [V] at hx
    obtain ⟨base, cap, vs, sz, rfl, _, _, _, _, h6⟩ := hx
    exact ⟨_, _, _, rfl, fun _ => h6, fun e => (by cases e)⟩
  · simp only [R.ok.injEq] at h
    subst h
    simp only [V] at hx
    obtain ⟨base, cap, vs, sz, rfl, _, _, _, _, h6⟩ := hx
    exact ⟨_, _, _, rfl, fun e => (by cases e), fun _ => h6⟩
  · simp only [R.ok.injEq] at h
    subst h
    simp only [V] at hx
    obtain ⟨base, cap, vs, sz, rfl, h2, _, _, h5, _⟩ := hx
    refine ⟨_, _, _, rfl, fun e => (by cases e), fun _ => ?_⟩
    cases base with
    | none => simp only [atBase] at h5; simp only [List.length_cons] at h2; omega
    | some a => rfl
  · simp only [R.ok.injEq] at h
    subst h
    simp only [V] at hx
    obtain ⟨b', d, cap, n, e, _, _, rfl, _⟩ := hx
    exact ⟨_, _, _, rfl, fun e => (by cases e), fun _ => rfl⟩
  · cases h

theorem eqOp_run {P : Program} {t : TypeId} {a b : Value} {w : World} {r : Bool} (x y : Operand) (neg : Bool) (hg : ∀ op, op = .eql ∨ op = .neq → (eqGuard op t x y a b).run P w = .ok () w)
    (he : (Op.equal t a b).run P w = .ok r w) (hab : ∀ k n, a ≠ .int k n) (hs : ∀ s, a ≠ .string s) (hf : ∀ k n, a ≠ .float k n) (hc : ∀ k n m, a ≠ .complex k n m) :
    (do eqGuard (if neg then .neq else .eql) t x y a b; binOp (if neg then .neq else .eql) t a b : Sem Value).run P w = .ok (.bool (if neg then !r else r)) w := by
  cases neg with
  | false =>
    simp only [Bool.false_eq_true, if_false, Sem.run_bind, hg .eql (.inl rfl), Result.andThen_ok]
    unfold binOp
    split <;> simp_all
  | true =>
    simp only [if_true, Sem.run_bind, hg .neq (.inr rfl), Result.andThen_ok]
    unfold binOp
    split <;> simp_all

theorem eqOp_ok {P : Program} {c : Cx} (g : Good P c) {E : Env} {W : View} {neg : Bool} {t : TypeId} {x y z : AV} {a b : Value} (h : eqOp c neg t x y = .ok z) (hx : V E W x a) (hy : V E W y b)
    (p q : Operand) (w : World) :
    ∃ v, (do eqGuard (if neg then .neq else .eql) t p q a b; binOp (if neg then .neq else .eql) t a b : Sem Value).run P w = .ok v w ∧ V E W z v := by
  unfold eqOp at h
  cases ht : c.ty t with
  | no e => simp [ht] at h
  | ok ty =>
    obtain ⟨d, hd, hsh⟩ := underlying_shp g ht
    simp only [ht] at h
    cases hr : eqv (c.cmp t) ty.shp x y with
    | no e => simp [hr] at h
    | ok r =>
      simp only [hr, R.ok.injEq] at h
      subst h
      refine ⟨.bool (if neg then !r else r), ?_, by simp [V]⟩
      rw [hsh] at hr
      generalize hS : shpD P d = S at hr
      unfold eqv at hr
      split at hr
      case h_1 =>
        have := shpD_bool hS
        subst this
        simp only [V] at hx hy
        subst hx; subst hy
        simp only [R.ok.injEq] at hr
        subst hr
        exact eqOp_run p q neg (fun op ho => guard_by _ ho _ _ _ _ _ _ (by simp) (by simp)) (equal_of (eq_bool w hd _ _)) (by simp) (by simp) (by simp) (by simp)
      case h_2 =>
        obtain ⟨e, rfl⟩ := shpD_ptr hS
        simp only [V] at hx hy
        subst hx; subst hy
        simp only [R.ok.injEq] at hr
        subst hr
        exact eqOp_run p q neg (fun op ho => guard_by _ ho _ _ _ _ _ _ (by simp) (by simp)) (equal_of (eq_nil_nil w hd)) (by simp) (by simp) (by simp) (by simp)
      case h_3 | h_4 | h_5 =>
        obtain ⟨e, rfl⟩ := shpD_ptr hS
        obtain ⟨ad, rfl⟩ := V_ptr_some hy (by simp)
        simp only [V] at hx
        subst hx
        simp only [R.ok.injEq] at hr
        subst hr
        exact eqOp_run p q neg (fun op ho => guard_by _ ho _ _ _ _ _ _ (by simp) (by simp)) (equal_of (eq_nil_some w hd _)) (by simp) (by simp) (by simp) (by simp)
      case h_6 | h_7 | h_8 =>
        obtain ⟨e, rfl⟩ := shpD_ptr hS
        obtain ⟨ad, rfl⟩ := V_ptr_some hx (by simp)
        simp only [V] at hy
        subst hy
        simp only [R.ok.injEq] at hr
        subst hr
        exact eqOp_run p q neg (fun op ho => guard_by _ ho _ _ _ _ _ _ (by simp) (by simp)) (equal_of (eq_some_nil w hd _)) (by simp) (by simp) (by simp) (by simp)
      case h_9 =>
        obtain ⟨a1, a2, a3, rfl⟩ := shpD_fn hS
        simp only [V] at hx hy
        subst hx; subst hy
        simp only [R.ok.injEq] at hr
        subst hr
        exact eqOp_run p q neg (fun op ho => guard_by _ ho _ _ _ _ _ _ (by simp) (by simp)) (equal_of (eq_nilf w hd)) (by simp) (by simp) (by simp) (by simp)
      case h_10 =>
        obtain ⟨a1, a2, a3, rfl⟩ := shpD_fn hS
        simp only [V] at hx hy
        obtain ⟨vs, rfl, _⟩ := hx
        subst hy
        simp only [R.ok.injEq] at hr
        subst hr
        exact eqOp_run p q neg (fun op ho => guard_by _ ho _ _ _ _ _ _ (by simp) (by simp)) (equal_of (eq_fn_nil w hd _ _ _)) (by simp) (by simp) (by simp) (by simp)
      case h_11 =>
        obtain ⟨a1, a2, a3, rfl⟩ := shpD_fn hS
        simp only [V] at hx hy
        obtain ⟨vs, rfl, _⟩ := hy
        subst hx
        simp only [R.ok.injEq] at hr
        subst hr
        exact eqOp_run p q neg (fun op ho => guard_by _ ho _ _ _ _ _ _ (by simp) (by simp)) (equal_of (eq_nil_fn w hd _ _ _)) (by simp) (by simp) (by simp) (by simp)
      case h_12 =>
        obtain ⟨a1, a2, a3, rfl⟩ := shpD_fn hS
        simp only [V] at hx hy
        obtain ⟨vs, _, rfl⟩ := hx
        subst hy
        simp only [R.ok.injEq] at hr
        subst hr
        exact eqOp_run p q neg (fun op ho => guard_by _ ho _ _ _ _ _ _ (by simp) (by simp)) (equal_of (eq_fn_nil w hd _ _ _)) (by simp) (by simp) (by simp) (by simp)
      case h_13 =>
        obtain ⟨a1, rfl⟩ := shpD_ifc hS
        simp only [V] at hx hy
        obtain ⟨vs, rfl, _⟩ := hx
        subst hy
        simp only [R.ok.injEq] at hr
        subst hr
        exact eqOp_run p q neg (fun op ho => guard_by _ ho _ _ _ _ _ _ (by simp) (by simp)) (equal_of (eq_ifc_nil w hd _ _)) (by simp) (by simp) (by simp) (by simp)
      case h_14 =>
        obtain ⟨a1, rfl⟩ := shpD_ifc hS
        simp only [V] at hx hy
        obtain ⟨vs, rfl, _⟩ := hy
        subst hx
        simp only [R.ok.injEq] at hr
        subst hr
        exact eqOp_run p q neg (fun op ho => guard_by _ ho _ _ _ _ _ _ (by simp) (by simp)) (equal_of (eq_nil_ifc w hd _ _)) (by simp) (by simp) (by simp) (by simp)
      case h_15 | h_16 =>
        unfold eqAgg at hr
        split at hr
        · rename_i ks hc
          split at hr
          · rename_i hk
            simp only [Bool.and_eq_true] at hk
            simp only [V] at hx hy
            obtain ⟨us, rfl, hus⟩ := hx
            obtain ⟨vs, rfl, hvs⟩ := hy
            have h3 := g.cmp t ks hc E W _ _ us vs r w p q hus hvs hk.1 hk.2 hr
            have hg : ∀ op, op = .eql ∨ op = .neq → (eqGuard op t p q (.agg ⟨us⟩) (.agg ⟨vs⟩)).run P w = .ok () w := by
              rintro op (rfl | rfl)
              · exact h3.1
              · exact h3.2.1
            exact eqOp_run p q neg hg h3.2.2 (by simp) (by simp) (by simp) (by simp)
          · cases hr
        · cases hr
      case h_17 =>
        have := shpD_sl hS
        subst this
        unfold nilEq at hr
        split at hr
        · rename_i b' hn1 hn2
          simp only [R.ok.injEq] at hr
          subst hr
          obtain ⟨b1, n1, c1, rfl, k1, _⟩ := nilOf_ok hn1 hx
          obtain ⟨b2, n2, c2, rfl, k2, k3⟩ := nilOf_ok hn2 hy
          rw [k1 rfl]
          have hb : b2.isNone = b' := by
            cases b' with
            | true => rw [k2 rfl]; rfl
            | false => have := k3 rfl; cases b2 <;> simp_all
          exact eqOp_run p q neg (fun op ho => guard_by _ ho _ _ _ _ _ _ (by simp) (by simp)) (equal_of fun n => by rw [eq_nils w hd, hb]) (by simp) (by simp) (by simp) (by simp)
        · rename_i hn1 hn2
          simp only [R.ok.injEq] at hr
          subst hr
          obtain ⟨b1, n1, c1, rfl, _, k1⟩ := nilOf_ok hn1 hx
          obtain ⟨b2, n2, c2, rfl, k2, k3⟩ := nilOf_ok hn2 hy
          rw [k2 rfl]
          have := k1 rfl
          cases b1 with
          | none => cases this
          | some ad => exact eqOp_run p q neg (fun op ho => guard_by _ ho _ _ _ _ _ _ (by simp) (by simp)) (equal_of (eq_some_nils w hd _ _ _ _ _)) (by simp) (by simp) (by simp) (by simp)
        · cases hr
      case h_18 => cases hr

theorem binC_ok {P : Program} {c : Cx} (g : Good P c) {E : Env} {W : View} {op : BinOp} {t : TypeId} {x y z : AV} {a b : Value} (h : binC c op t x y = .ok z) (hx : V E W x a) (hy : V E W y b)
    (p q : Operand) (w : World) :
    ∃ v, (do eqGuard op t p q a b; binOp op t a b : Sem Value).run P w = .ok v w ∧ V E W z v := by
  have ints : ∀ k n, (eqGuard op t p q (.int k n) b).run P w = .ok () w := fun k n => by
    by_cases ho : op = .eql ∨ op = .neq
    · exact guard_by op ho t p q _ _ w (by simp) (by simp)
    · unfold eqGuard; cases op <;> simp_all
  have strs : ∀ s, (eqGuard op t p q (.string s) b).run P w = .ok () w := fun s => by
    by_cases ho : op = .eql ∨ op = .neq
    · exact guard_by op ho t p q _ _ w (by simp) (by simp)
    · unfold eqGuard; cases op <;> simp_all
  unfold binC at h
  split at h
  · simp only [V] at hx hy
    subst hx; subst hy
    obtain ⟨v, hv, hV⟩ := shiftOp_ok (P := P) (E := E) (W := W) h t w (.inl rfl)
    exact ⟨v, by simp only [Sem.run_bind, ints, Result.andThen_ok]; exact hv, hV⟩
  · simp only [V] at hx hy
    subst hx; subst hy
    obtain ⟨v, hv, hV⟩ := shiftOp_ok (P := P) (E := E) (W := W) h t w (.inr rfl)
    exact ⟨v, by simp only [Sem.run_bind, ints, Result.andThen_ok]; exact hv, hV⟩
  · rename_i k a' k' b' h1 h2
    split at h
    · rename_i hk
      subst hk
      simp only [V] at hx hy
      subst hx; subst hy
      obtain ⟨v, hv, hV⟩ := intOp_ok (P := P) (E := E) (W := W) h t w ⟨by rintro rfl; simp_all, by rintro rfl; simp_all⟩
      exact ⟨v, by simp only [Sem.run_bind, ints, Result.andThen_ok]; exact hv, hV⟩
    · cases h
  · simp only [V] at hx hy
    obtain ⟨l, rfl, rfl⟩ := hx
    obtain ⟨l', rfl, rfl⟩ := hy
    obtain ⟨v, hv, hV⟩ := strOp_ok (P := P) (E := E) (W := W) h t w
    exact ⟨v, by simp only [Sem.run_bind, strs, Result.andThen_ok]; exact hv, hV⟩
  · exact eqOp_ok g h hx hy p q w
  · exact eqOp_ok g h hx hy p q w
  · cases h

theorem eqIv_ok {same : Bool} {lo hi lo' hi' a b : Int} {r : Bool} (h : eqIv same lo hi lo' hi' = .ok r) (ha : lo ≤ a ∧ a ≤ hi) (hb : lo' ≤ b ∧ b ≤ hi') (hs : same = true → a = b) : (a == b) = r := by
  unfold eqIv at h
  split at h
  · rename_i e
    simp only [R.ok.injEq] at h
    subst h
    rw [hs e]; simp
  · split at h
    · rename_i e
      simp only [R.ok.injEq] at h
      subst h
      simp only [ilt_eq, Bool.or_eq_true, decide_eq_true_eq] at e
      rw [beq_eq_false_iff_ne]
      omega
    · cases h

theorem lessIv_ok {same : Bool} {lo hi lo' hi' a b : Int} {r : Bool} (h : lessIv same lo hi lo' hi' = .ok r) (ha : lo ≤ a ∧ a ≤ hi) (hb : lo' ≤ b ∧ b ≤ hi') (hs : same = true → a = b) : decide (a < b) = r := by
  unfold lessIv at h
  split at h
  · rename_i e
    simp only [R.ok.injEq] at h
    subst h
    simp only [ilt_eq, decide_eq_true_eq] at e
    simp only [decide_eq_true_eq]
    omega
  · split at h
    · rename_i e
      simp only [R.ok.injEq] at h
      subst h
      simp only [ile_eq, Bool.or_eq_true, decide_eq_true_eq] at e
      simp only [decide_eq_false_iff_not]
      rcases e with e | e
      · have := hs e; omega
      · omega
    · cases h

theorem boolR_ok {x : R Bool} {z : AV} (h : boolR x = .ok z) : ∃ b, x = .ok b ∧ z = .bool b := by
  cases x with
  | no c => cases h
  | ok b => simp only [boolR, R.ok.injEq] at h; exact ⟨b, rfl, h.symm⟩

theorem notR_ok {x : R Bool} {b : Bool} (h : notR x = .ok b) : x = .ok !b := by
  cases x with
  | no c => cases h
  | ok b' => simp only [notR, R.ok.injEq] at h; rw [← h, Bool.not_not]

theorem cmpIv_ok {op : BinOp} {k : IntKind} {same : Bool} {lo hi lo' hi' a b : Int} {z : AV} (h : cmpIv op same lo hi lo' hi' = .ok z) (ha : lo ≤ a ∧ a ≤ hi) (hb : lo' ≤ b ∧ b ≤ hi') (hs : same = true → a = b) : intOp op k a b = .ok z := by
  have hs' : same = true → b = a := fun e => (hs e).symm
  unfold cmpIv at h
  cases op <;> simp only at h <;> first
    | (cases h; done)
    | (obtain ⟨r, hr, rfl⟩ := boolR_ok h
       first
         | (have := eqIv_ok hr ha hb hs; simp only [intOp, ieq_eq, this])
         | (have := eqIv_ok (notR_ok hr) ha hb hs; simp only [intOp, ieq_eq, this, Bool.not_not])
         | (have := lessIv_ok hr ha hb hs; simp only [intOp, ilt_eq, this])
         | (have := lessIv_ok hr hb ha hs'; simp only [intOp, ilt_eq, this])
         | (have := lessIv_ok (notR_ok hr) ha hb hs; simp only [intOp, ile_eq]; congr 2; rw [Bool.eq_iff_iff]; rw [Bool.eq_iff_iff] at this; simp only [decide_eq_true_eq, Bool.not_eq_true'] at this ⊢; revert this; cases r <;> simp <;> omega)
         | (have := lessIv_ok (notR_ok hr) hb ha hs'; simp only [intOp, ile_eq]; congr 2; rw [Bool.eq_iff_iff]; rw [Bool.eq_iff_iff] at this; simp only [decide_eq_true_eq, Bool.not_eq_true'] at this ⊢; revert this; cases r <;> simp <;> omega))

theorem binC_int {c : Cx} {op : BinOp} {t : TypeId} {k : IntKind} {a b : Int} {z : AV} (ho : op ≠ .shl ∧ op ≠ .shr) (h : intOp op k a b = .ok z) : binC c op t (.int k a) (.int k b) = .ok z := by
  unfold binC
  cases op <;> simp_all

theorem cmpIv_op {op : BinOp} {same : Bool} {lo hi lo' hi' : Int} {z : AV} (h : cmpIv op same lo hi lo' hi' = .ok z) : op ≠ .shl ∧ op ≠ .shr := by
  unfold cmpIv at h
  cases op <;> simp at h ⊢

theorem bin_ok {P : Program} {c : Cx} (g : Good P c) {E : Env} {W : View} {op : BinOp} {t : TypeId} {x y z : AV} {a b : Value} (h : bin c op t x y = .ok z) (hx : V E W x a) (hy : V E W y b)
    (p q : Operand) (w : World) :
    ∃ v, (do eqGuard op t p q a b; binOp op t a b : Sem Value).run P w = .ok v w ∧ V E W z v := by
  unfold bin at h
  split at h
  · split at h
    rotate_left
    · cases h
    rename_i k s lo hi k' b' hk
    subst hk
    simp only [V] at hx hy
    obtain ⟨rfl, hx1, hx2⟩ := hx
    subst hy
    have hcmp : ∀ z, cmpIv op false lo hi b' b' = .ok z → ∃ v, (do eqGuard op t p q (.int k (Sg.σ s)) (.int k b'); binOp op t (.int k (Sg.σ s)) (.int k b') : Sem Value).run P w = .ok v w ∧ V E W z v := fun z h => by
      have h1 := cmpIv_ok (k := k) h ⟨hx1, hx2⟩ ⟨Int.le_refl b', Int.le_refl b'⟩ (fun e => by cases e)
      exact binC_ok g (binC_int (cmpIv_op h) h1) (by simp only [V]) (by simp only [V]) p q w
    unfold symInt at h
    split at h
    all_goals first
      | exact hcmp z h
      | (obtain ⟨z0, h1, h2⟩ := g.sy _ _ _ _ _ h t
         obtain ⟨v, hv, hV⟩ := binC_ok (E := E) (W := W) (a := .int k (Sg.σ s)) (b := .int k b') g h1 (by simp only [V]) (by simp only [V]) p q w
         exact ⟨v, hv, h2 _ _ _ hV⟩)
  · split at h
    rotate_left
    · cases h
    rename_i k a' k' s lo hi hk
    subst hk
    simp only [V] at hx hy
    obtain ⟨rfl, hy1, hy2⟩ := hy
    subst hx
    have h1 := cmpIv_ok (k := k) h ⟨Int.le_refl a', Int.le_refl a'⟩ ⟨hy1, hy2⟩ (fun e => by cases e)
    exact binC_ok g (binC_int (cmpIv_op h) h1) (by simp only [V]) (by simp only [V]) p q w
  · split at h
    rotate_left
    · cases h
    rename_i k s lo hi k' s' lo' hi' hk
    subst hk
    simp only [V] at hx hy
    obtain ⟨rfl, hy1, hy2⟩ := hy
    obtain ⟨rfl, hx1, hx2⟩ := hx
    have h1 := cmpIv_ok (k := k) h ⟨hx1, hx2⟩ ⟨hy1, hy2⟩ (fun e => by rw [Nat.eq_of_beq_eq_true e])
    exact binC_ok g (binC_int (cmpIv_op h) h1) (by simp only [V]) (by simp only [V]) p q w
  · exact binC_ok g h hx hy p q w

end Go.Proofs.Ev
