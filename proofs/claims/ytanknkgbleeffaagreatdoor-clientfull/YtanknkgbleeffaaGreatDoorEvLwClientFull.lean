/- ClientFull: the law, whatever comes in. -/
import Derived.Test.YtanknkgbleeffaaGreatDoorEvRm0ClientFull
import Derived.Test.YtanknkgbleeffaaGreatDoorEvRm1ClientFull
set_option linter.all false
namespace Go.Proofs.YtanknkgbleeffaaGreatDoor
open Go Go.Proofs.Ev Go.RowKit
noncomputable section

/-! ### what says as much -/
section
variable [Sg]
def Le (x y : AV) : Prop := ∀ (E : Env) (v : Value), V E .nil x v → V E .nil y v
def Les : List AV → List AV → Prop
  | [], [] => True
  | x :: xs, y :: ys => Le x y ∧ Les xs ys
  | _, _ => False
def Less : List (List AV) → List (List AV) → Prop
  | [], [] => True
  | x :: xs, y :: ys => Les x y ∧ Less xs ys
  | _, _ => False

theorem Le.refl (x : AV) : Le x x := fun _ _ h => h

theorem Les.length : ∀ {xs ys : List AV}, Les xs ys → ys.length = xs.length
  | [], [], _ => rfl
  | _ :: _, _ :: _, h => by simp [Les.length h.2]

theorem Les.vs : ∀ {xs ys : List AV}, Les xs ys → ∀ (E : Env) (v : List Value), Vs E .nil xs v → Vs E .nil ys v
  | [], [], _, _, _, h => h
  | _ :: _, _ :: _, hl, E, v, h => by
    simp only [Vs] at h ⊢
    obtain ⟨u, s, rfl, h1, h2⟩ := h
    exact ⟨u, s, rfl, hl.1 E u h1, Les.vs hl.2 E s h2⟩

theorem Less.vss : ∀ {xs ys : List (List AV)}, Less xs ys → ∀ (E : Env) (v : List Value), Vss E .nil xs v → Vss E .nil ys v
  | [], [], _, _, _, h => h
  | _ :: _, _ :: _, hl, E, v, h => by
    simp only [Vss] at h ⊢
    obtain ⟨u, s, rfl, h1, h2⟩ := h
    exact ⟨u, s, rfl, Les.vs hl.1 E u h1, Less.vss hl.2 E s h2⟩

theorem Less.length : ∀ {xs ys : List (List AV)}, Less xs ys → ys.length = xs.length
  | [], [], _ => rfl
  | _ :: _, _ :: _, h => by simp [Less.length h.2]

theorem Less.sz : ∀ {xs ys : List (List AV)} {n : Nat}, Less xs ys → (∀ x ∈ xs, x.length = n) → ∀ y ∈ ys, y.length = n
  | [], [], _, _, _, y, hy => by cases hy
  | x :: xs, y :: ys, n, hl, h, z, hz => by
    rcases List.mem_cons.1 hz with rfl | hz
    · rw [hl.1.length]; exact h x (List.mem_cons_self ..)
    · exact Less.sz hl.2 (fun a ha => h a (List.mem_cons_of_mem _ ha)) z hz

theorem le_agg {xs ys : List AV} (h : Les xs ys) : Le (.agg xs) (.agg ys) := fun E v hv => by
  simp only [V] at hv ⊢
  obtain ⟨vs, rfl, h1⟩ := hv
  exact ⟨vs, rfl, h.vs E vs h1⟩

theorem le_sl {t u : Tok} (htu : u = t ∨ u = .non) {xs ys : List (List AV)} (h : Less xs ys) : Le (.sl t xs) (.sl u ys) := fun E v hv => by
  simp only [V] at hv ⊢
  obtain ⟨base, cap, vs, sz, rfl, h2, h3, h4, h5, h6⟩ := hv
  refine ⟨base, cap, vs, sz, by rw [h.length], by rw [h.length]; exact h2, h.sz h3, h.vss E vs h4, h5, ?_⟩
  rw [h.length]
  rcases htu with rfl | rfl
  · exact h6
  · trivial

theorem le_opq_str {s : Nat} {l : List Nat} {u : List UInt8} (h : Sg.ω s = .string ⟨⟨u⟩⟩) (hl : u.map UInt8.toNat = l) : Le (.opq s) (.str l) ∧ Le (.str l) (.opq s) := by
  refine ⟨fun E v hv => ?_, fun E v hv => ?_⟩
  · simp only [V] at hv ⊢
    rw [h] at hv
    exact ⟨u, hv.1, hl⟩
  · simp only [V] at hv ⊢
    obtain ⟨l', rfl, hl'⟩ := hv
    have : l' = u := by
      rw [← hl] at hl'
      have hinj : ∀ (a b : List UInt8), a.map UInt8.toNat = b.map UInt8.toNat → a = b := by
        intro a
        induction a with
        | nil => intro b hb; cases b with
          | nil => rfl
          | cons y s => simp at hb
        | cons x r ih => intro b hb; cases b with
          | nil => simp at hb
          | cons y s =>
            simp only [List.map_cons, List.cons.injEq] at hb
            rw [UInt8.toNat_inj.1 hb.1, ih s hb.2]
      exact hinj _ _ hl'
    subst this
    rw [h]
    exact ⟨rfl, rfl⟩

theorem le_opq_bool {s : Nat} {b : Bool} (h : Sg.ω s = .bool b) : Le (.opq s) (.bool b) ∧ Le (.bool b) (.opq s) := by
  refine ⟨fun E v hv => ?_, fun E v hv => ?_⟩
  · simp only [V] at hv ⊢
    rw [h] at hv
    exact hv.1
  · simp only [V] at hv ⊢
    rw [h]
    exact ⟨hv, rfl⟩
end

/-! ### numbers -/
def andN (a : Int) (m : Nat) : Int := Int.ofNat (Nat.land (a % 2 ^ 64).toNat m)

theorem andN_le (a : Int) (m : Nat) : 0 ≤ andN a m ∧ andN a m ≤ m := by
  have : Nat.land (a % 2 ^ 64).toNat m ≤ m := Nat.and_le_right
  unfold andN
  rw [Int.ofNat_eq_natCast]
  omega

theorem andN_eq (a : Int) (m : Nat) (hm : m < 2 ^ 63) : bitsN .i64 Nat.land a (.ofNat m) = andN a m := by
  letI : Sg := ⟨fun _ => 0, fun _ => .nilFunc⟩
  rw [bitsN_eq .i64 _ land_lt]
  have h := andN_le a m
  have hb : ((Int.ofNat m) % 2 ^ 64).toNat = m := by
    rw [Int.ofNat_eq_natCast]
    omega
  unfold Ev.bits
  show IntKind.wrap .i64 (Int.ofNat (Nat.land (a % 2 ^ 64).toNat ((Int.ofNat m) % 2 ^ 64).toNat)) = _
  rw [hb]
  exact wrap_id (k := .i64) (by show -(2 ^ 63 : Int) ≤ _; exact Int.le_trans (by decide) h.1) (by show _ ≤ (2 ^ 63 - 1 : Int); exact Int.le_trans h.2 (by omega))

/-- what comes in -/
structure Inp where
  ty : ByteArray
  ky : ByteArray
  S : ByteArray
  tm : Int
  sq : Int
  nn : Int
  I : Int
  kd : Int
  vals : Value
  n : Nat
  B : Bool

def Inp.hv (i : Inp) : Nat := if i.n = 0 then 0 else if i.B then 1 else 2
def Inp.k (i : Inp) : Nat := Nat.land (i.sq % 2 ^ 64).toNat 255 % 3
def Inp.key (i : Inp) : Nat := i.ky.size % 3
def Inp.b (i : Inp) : Bool := (i.tm % 2 ^ 64).toNat.testBit 6
def Inp.room (i : Inp) : Nat := Nat.land (i.nn % 2 ^ 64).toNat 3

@[instance_reducible] def sgI (i : Inp) : Sg where
  σ := fun
    | 0 => i.tm
    | 1 => i.sq
    | 2 => i.nn
    | 3 => andN i.tm 15
    | 4 => andN i.sq 255
    | 5 => i.I
    | 6 => andN i.I 3
    | 7 => i.ky.size
    | 8 => i.n
    | 9 => i.kd
    | _ => 0
  ω := fun
    | 0 => .string i.ty
    | 1 => .string i.ky
    | 2 => i.vals
    | 3 => .string i.S
    | 10 => .string ⟨⟨[UInt8.ofNat (evS i.hv)]⟩⟩
    | 11 => .bool i.b
    | 12 => .string ⟨⟨[UInt8.ofNat (107 + i.key)]⟩⟩
    | 13 => .string ⟨⟨[UInt8.ofNat (65 + i.k)]⟩⟩
    | _ => .nilFunc

def inI (x : Int) : Prop := loI ≤ x ∧ x ≤ hiI

structure Inp.Ok (i : Inp) (M : Nat → Nat → Option Value) : Prop where
  tm : inI i.tm
  sq : inI i.sq
  nn : inI i.nn
  I : inI i.I
  kd : inI i.kd
  ky : (i.ky.size : Int) ≤ hiI
  zero : i.n = 0 → i.I = 0 ∧ ∃ base cap, i.vals = .slice base 0 cap
  more : i.n ≠ 0 → (i.n : Int) ≤ hiI ∧ ∃ b d cap, i.vals = .slice (some ⟨b, d, none⟩) i.n cap ∧ M b d = some (.int .i64 i.kd) ∧ M b (d + 1) = some (.int .i64 i.I) ∧ M b (d + 2) = some (.string i.S) ∧ M b (d + 3) = some (.bool i.B)

section
variable (i : Inp) {M : Nat → Nat → Option Value}

theorem k_lt : i.k < 3 := Nat.mod_lt _ (by decide)
theorem key_lt : i.key < 3 := Nat.mod_lt _ (by decide)
theorem hv_lt : i.hv < 3 := by unfold Inp.hv; split <;> (try split) <;> decide
theorem room_lt : i.room < 4 := by
  have : Nat.land (i.nn % 2 ^ 64).toNat 3 ≤ 3 := Nat.and_le_right
  unfold Inp.room
  omega

theorem oqLen_ok (h : i.Ok M) : letI := sgI i; ∀ s b z, oqLenE i.hv s = .ok (b, z) → match b with
      | true => ∃ l : ByteArray, Sg.ω s = .string l ∧ ∀ (E : Env) (W : View), V E W z (.int .i64 l.size)
      | false => ∃ base n cap, Sg.ω s = .slice base n cap ∧ ∀ (E : Env) (W : View), V E W z (.int .i64 n) := by
  letI := sgI i
  intro s b z hz
  unfold oqLenE at hz
  split at hz
  · simp only [R.ok.injEq, Prod.mk.injEq] at hz
    obtain ⟨rfl, rfl⟩ := hz
    refine ⟨i.ky, rfl, fun E W => ?_⟩
    simp only [V]
    exact ⟨rfl, by show (0 : Int) ≤ i.ky.size; omega, h.ky⟩
  · split at hz
    · rename_i hhv
      simp only [R.ok.injEq, Prod.mk.injEq] at hz
      obtain ⟨rfl, rfl⟩ := hz
      have hn : i.n = 0 := by unfold Inp.hv at hhv; split at hhv <;> (try split at hhv) <;> simp_all
      obtain ⟨_, base, cap, hb⟩ := h.zero hn
      refine ⟨base, 0, cap, hb, fun E W => ?_⟩
      simp only [V]
      rfl
    · rename_i hhv
      simp only [R.ok.injEq, Prod.mk.injEq] at hz
      obtain ⟨rfl, rfl⟩ := hz
      have hn : i.n ≠ 0 := fun e => hhv (by unfold Inp.hv; rw [if_pos e])
      obtain ⟨hle, b, d, cap, hb, _⟩ := h.more hn
      refine ⟨some ⟨b, d, none⟩, i.n, cap, hb, fun E W => ?_⟩
      simp only [V]
      exact ⟨rfl, by show (1 : Int) ≤ i.n; omega, hle⟩
  · cases hz

theorem glob_ok {ext : FuncId → List AV → Option (R AV)} {sy : BinOp → IntKind → Nat → Int → R AV} (h : i.Ok M) {E : Env} (hM : ∀ b j v, M b j = some v → E.M b j = some v) : letI := sgI i; GlobOk (mk ext sy (oqLenE i.hv) (oqAtE i.hv)) E := by
  letI := sgI i
  refine ⟨fun g cs hg => (by cases hg), fun s j sz z hz => ?_⟩
  replace hz : oqAtE i.hv s j sz = .ok z := hz
  have key : i.n ≠ 0 → ∃ b d cap, i.vals = .slice (some ⟨b, d, none⟩) i.n cap ∧ E.M b d = some (.int .i64 i.kd) ∧ E.M b (d + 1) = some (.int .i64 i.I) ∧ E.M b (d + 2) = some (.string i.S) ∧ E.M b (d + 3) = some (.bool i.B) := fun hn => by
    obtain ⟨_, b, d, cap, h1, h2, h3, h4, h5⟩ := h.more hn
    exact ⟨b, d, cap, h1, hM _ _ _ h2, hM _ _ _ h3, hM _ _ _ h4, hM _ _ _ h5⟩
  have fin : i.n ≠ 0 → ∃ b d n cap, Sg.ω 2 = .slice (some ⟨b, d, none⟩) n cap ∧ 0 < n ∧ V E .nil (.iptr [.sym .i64 9 loI hiI, .sym .i64 5 loI hiI, .opq 3, .bool i.B] 0) (.pointer (some ⟨b, d + 0 * sz, none⟩)) := fun hn => by
    obtain ⟨b, d, cap, h1, h2, h3, h4, h5⟩ := key hn
    refine ⟨b, d, i.n, cap, h1, by omega, ?_⟩
    simp only [V]
    refine ⟨b, d, [.int .i64 i.kd, .int .i64 i.I, .string i.S, .bool i.B], by simp, ?_, ?_⟩
    · intro j v hj
      match j, hj with
      | 0, hj => simp only [List.getElem?_cons_zero, Option.some.injEq] at hj; subst hj; exact h2
      | 1, hj => simp only [List.getElem?_cons_succ, List.getElem?_cons_zero, Option.some.injEq] at hj; subst hj; exact h3
      | 2, hj => simp only [List.getElem?_cons_succ, List.getElem?_cons_zero, Option.some.injEq] at hj; subst hj; exact h4
      | 3, hj => simp only [List.getElem?_cons_succ, List.getElem?_cons_zero, Option.some.injEq] at hj; subst hj; exact h5
      | j + 4, hj => simp at hj
    · simp only [Vs, V]
      exact ⟨_, _, rfl, ⟨rfl, h.kd⟩, _, _, rfl, ⟨rfl, h.I⟩, _, _, rfl, ⟨rfl, rfl⟩, _, _, rfl, rfl, rfl⟩
  unfold oqAtE at hz
  split at hz
  · rename_i hhv
    split at hz
    rotate_left
    · cases hz
    simp only [R.ok.injEq] at hz
    subst hz
    have hn : i.n ≠ 0 := fun e => by unfold Inp.hv at hhv; rw [if_pos e] at hhv; cases hhv
    have hB : i.B = true := by unfold Inp.hv at hhv; rw [if_neg hn] at hhv; split at hhv <;> simp_all
    rw [← hB]
    exact fin hn
  · rename_i hhv
    split at hz
    rotate_left
    · cases hz
    simp only [R.ok.injEq] at hz
    subst hz
    have hn : i.n ≠ 0 := fun e => by unfold Inp.hv at hhv; rw [if_pos e] at hhv; cases hhv
    have hB : i.B = false := by unfold Inp.hv at hhv; rw [if_neg hn] at hhv; split at hhv <;> simp_all
    rw [← hB]
    exact fin hn
  · cases hz

theorem and_step {c : Cx} {t : TypeId} {a : Int} {m : Nat} (hm : m < 2 ^ 63) : binC c .and t (.int .i64 a) (.int .i64 (.ofNat m)) = .ok (.int .i64 (andN a m)) := by
  rw [← andN_eq a m hm]
  rfl

theorem ieq_iff {a b : Int} (h : ieq a b = true) : a = b := by
  letI : Sg := ⟨fun _ => 0, fun _ => .nilFunc⟩
  rw [ieq_eq] at h
  exact beq_iff_eq.1 h

theorem and64 (a : Int) : andN a 64 = if (a % 2 ^ 64).toNat.testBit 6 then 64 else 0 := by
  unfold andN
  generalize (a % 2 ^ 64).toNat = x
  have : Nat.land x 64 = if x.testBit 6 then 64 else 0 := by
    apply Nat.eq_of_testBit_eq
    intro j
    show (x &&& 2 ^ 6).testBit j = _
    rw [Nat.testBit_and, Nat.testBit_two_pow]
    by_cases hj : 6 = j
    · subst hj
      cases x.testBit 6 <;> rfl
    · have h6 : (64 : Nat).testBit j = false := by
        rw [show (64 : Nat) = 2 ^ 6 from rfl, Nat.testBit_two_pow]
        simp [hj]
      simp only [hj, decide_false, Bool.and_false]
      split
      · exact h6.symm
      · simp
  rw [this]
  cases x.testBit 6 <;> rfl

theorem goodE (h : i.Ok M) : letI := sgI i; Good Tryz.prog (cxE i.k i.key i.hv i.b) := by
  letI := sgI i
  refine good_mk (oqLen_ok i h) ?_
  intro op kd s m z hz t
  replace hz : syE i.k i.key i.b op kd s m = .ok z := hz
  unfold syE at hz
  split at hz
  · split at hz
    · rename_i hm0
      have hm := ieq_iff hm0
      subst hm
      simp only [R.ok.injEq] at hz
      subst hz
      refine ⟨_, and_step (m := 64) (by decide), fun E W v hv => ?_⟩
      simp only [V] at hv ⊢
      rw [hv]
      show Value.int .i64 (andN i.tm 64) = _
      rw [and64]
      rfl
    · split at hz
      rotate_left
      · cases hz
      rename_i hm0
      have hm := ieq_iff hm0
      subst hm
      simp only [R.ok.injEq] at hz
      subst hz
      refine ⟨_, and_step (m := 15) (by decide), fun E W v hv => ?_⟩
      simp only [V] at hv ⊢
      exact ⟨hv, andN_le i.tm 15⟩
  · split at hz
    rotate_left
    · cases hz
    rename_i hm0
    have hm := ieq_iff hm0
    subst hm
    simp only [R.ok.injEq] at hz
    subst hz
    refine ⟨_, and_step (m := 255) (by decide), fun E W v hv => ?_⟩
    simp only [V] at hv ⊢
    exact ⟨hv, andN_le i.sq 255⟩
  · split at hz
    rotate_left
    · cases hz
    rename_i hm0
    have hm := ieq_iff hm0
    subst hm
    simp only [R.ok.injEq] at hz
    subst hz
    refine ⟨_, and_step (m := 3) (by decide), fun E W v hv => ?_⟩
    simp only [V] at hv ⊢
    exact ⟨hv, andN_le i.I 3⟩
  · split at hz
    rotate_left
    · cases hz
    rename_i hm0
    have hm := ieq_iff hm0
    subst hm
    simp only [R.ok.injEq] at hz
    subst hz
    exact ⟨.int .i64 (.ofNat i.k), rfl, fun E W v hv => hv⟩
  · split at hz
    rotate_left
    · cases hz
    rename_i hm0
    have hm := ieq_iff hm0
    subst hm
    simp only [R.ok.injEq] at hz
    subst hz
    exact ⟨.int .i64 (.ofNat i.key), rfl, fun E W v hv => hv⟩
  · cases hz

theorem goodM (h : i.Ok M) : letI := sgI i; Good Tryz.prog (cxM (i.k == 2) i.room i.hv) := by
  letI := sgI i
  refine good_mk (oqLen_ok i h) ?_
  intro op kd s m z hz t
  replace hz : syM i.room op kd s m = .ok z := hz
  unfold syM at hz
  split at hz
  · split at hz
    rotate_left
    · cases hz
    rename_i hm0
    have hm := ieq_iff hm0
    subst hm
    simp only [R.ok.injEq] at hz
    subst hz
    exact ⟨_, and_step (m := 3) (by decide), fun E W v hv => hv⟩
  · cases hz

theorem good0 {ext : FuncId → List AV → Option (R AV)} : letI := sgI i; Good Tryz.prog (mk ext sy0 oqLen0 oqAt0) := by
  letI := sgI i
  exact good_mk (fun s b z hz => by cases hz) (fun op k s b z hz => by cases hz)

theorem glob0 {ext : FuncId → List AV → Option (R AV)} (E : Env) : letI := sgI i; GlobOk (mk ext sy0 oqLen0 oqAt0) E := by
  letI := sgI i
  exact ⟨fun g cs hg => (by cases hg), fun s j sz z hz => (by cases hz)⟩

end

/-! ### the functions that are taken as run -/
section
variable (i : Inp) {M : Nat → Nat → Option Value}

theorem fits : FitP Tryz.prog := by
  letI : Sg := ⟨fun _ => 0, fun _ => .nilFunc⟩
  exact fitP_of code_fits

theorem callsP : letI := sgI i; CallOk Tryz.prog cxP (callA cxP 300) := by
  letI := sgI i
  exact calls_ok (good0 i) fits (fun f args v hx => by cases hx) mixed 300

theorem tyV_plain : plainAVs [tyV] = true := by decide +kernel
theorem schV_plain : plainAV schV = true := by decide +kernel

theorem ext_schema {cx2 : Cx} {args : List AV} {v : AV} {f : FuncId} (hx : extS f args = some (.ok v)) : letI := sgI i; ∀ Q E own H w (vals : List Value), Pre cx2 Q E own H w → Vs E .nil args vals → Enters Tryz.prog f ∧ ∀ cs, ∃ E' own' w' fx val, Post Q E E' own own' H H w w' ∧ fx.fn = f ∧
    Steps Tryz.prog (lone (Frame.enter Tryz.prog f ⟨vals⟩ .normal) cs w) (lone fx cs w') ∧ RetV E' own' w' v val ∧ fx.leaving Tryz.prog w' (.returned val) := by
  letI := sgI i
  intro Q E own H w vals hp hv
  unfold extS at hx
  split at hx
  rotate_left
  · cases hx
  rename_i x hf0
  have hf := Nat.eq_of_beq_eq_true hf0
  subst hf
  split at hx
  rotate_left
  · cases hx
  rename_i hs
  have hs := sameAV_eq hs
  subst hs
  simp only [Option.some.injEq, R.ok.injEq] at hx
  subst hx
  obtain ⟨H', h⟩ := isVal_ok run_schema
  exact lift_fn (cx2 := cx2) (callsP i) h schV_plain hp (glob0 i _) (Vs.plain (fun _ _ _ h => h) tyV_plain hv)

theorem callsS : letI := sgI i; CallOk Tryz.prog cxS (callA cxS 300) := by
  letI := sgI i
  exact calls_ok (good0 i) fits (fun f args v hx Q E own H w vals hp hv => ext_schema i hx Q E own H w vals hp hv) mixed 300

theorem callsE (h : i.Ok M) : letI := sgI i; CallOk Tryz.prog (cxE i.k i.key i.hv i.b) (callA (cxE i.k i.key i.hv i.b) 300) := by
  letI := sgI i
  exact calls_ok (goodE i h) fits (fun f args v hx => by cases hx) mixed 300

theorem byte_one {n : Nat} (h : n < 256) : [UInt8.ofNat n].map UInt8.toNat = [n] := by
  simp only [List.map_cons, List.map_nil]
  rw [UInt8.toNat_ofNat']
  congr 1
  omega

theorem leS : letI := sgI i; Le (.opq 10) (.str [evS i.hv]) ∧ Le (.str [evS i.hv]) (.opq 10) := by
  letI := sgI i
  exact le_opq_str rfl (byte_one (by unfold evS; split <;> decide))
theorem leKey : letI := sgI i; Le (.opq 12) (.str [107 + i.key]) ∧ Le (.str [107 + i.key]) (.opq 12) := by
  letI := sgI i
  exact le_opq_str rfl (byte_one (by have := key_lt i; omega))
theorem leTy : letI := sgI i; Le (.opq 13) (.str [65 + i.k]) ∧ Le (.str [65 + i.k]) (.opq 13) := by
  letI := sgI i
  exact le_opq_str rfl (byte_one (by have := k_lt i; omega))
theorem leB : letI := sgI i; Le (.opq 11) (.bool i.b) ∧ Le (.bool i.b) (.opq 11) := by
  letI := sgI i
  exact le_opq_bool rfl
theorem leN (h : i.Ok M) : letI := sgI i; Le (evN i.hv) (.sym .i64 6 0 3) := by
  letI := sgI i
  intro E v hv
  unfold evN at hv
  split at hv
  · rename_i hhv
    have hn : i.n = 0 := by unfold Inp.hv at hhv; split at hhv <;> (try split at hhv) <;> simp_all
    obtain ⟨hI, _⟩ := h.zero hn
    simp only [V] at hv ⊢
    refine ⟨?_, andN_le i.I 3⟩
    rw [hv]
    show Value.int .i64 0 = .int .i64 (andN i.I 3)
    rw [hI]
    rfl
  · exact hv

theorem leVO (h : i.Ok M) (t : Tok) : letI := sgI i; Le (evV i.k i.key (evS i.hv) i.b t (evN i.hv)) (evO (i.k == 2) t) := by
  letI := sgI i
  have hk := k_lt i
  unfold evV evO
  refine le_agg ⟨(leTy i).2, (leKey i).2, Le.refl _, Le.refl _, le_sl (.inl rfl) ?_, trivial⟩
  have h3 : i.k = 0 ∨ i.k = 1 ∨ i.k = 2 := by omega
  rcases h3 with h3 | h3 | h3
  · rw [h3]
    exact ⟨⟨Le.refl _, leN i h, Le.refl _, Le.refl _, trivial⟩, ⟨Le.refl _, Le.refl _, (leS i).2, Le.refl _, trivial⟩, trivial⟩
  · rw [h3]
    exact ⟨⟨Le.refl _, leN i h, Le.refl _, Le.refl _, trivial⟩, ⟨Le.refl _, Le.refl _, (leS i).2, Le.refl _, trivial⟩, trivial⟩
  · rw [h3]
    exact ⟨⟨Le.refl _, Le.refl _, (leS i).2, Le.refl _, trivial⟩, ⟨Le.refl _, leN i h, Le.refl _, Le.refl _, trivial⟩, ⟨Le.refl _, Le.refl _, Le.refl _, (leB i).2, trivial⟩, trivial⟩

theorem leOV (t : Tok) : letI := sgI i; Le (evO (i.k == 2) t) (evV i.k i.key (evS i.hv) i.b .non (.sym .i64 6 0 3)) := by
  letI := sgI i
  have hk := k_lt i
  unfold evV evO
  refine le_agg ⟨(leTy i).1, (leKey i).1, Le.refl _, Le.refl _, le_sl (.inr rfl) ?_, trivial⟩
  have h3 : i.k = 0 ∨ i.k = 1 ∨ i.k = 2 := by omega
  rcases h3 with h3 | h3 | h3
  · rw [h3]
    exact ⟨⟨Le.refl _, Le.refl _, Le.refl _, Le.refl _, trivial⟩, ⟨Le.refl _, Le.refl _, (leS i).1, Le.refl _, trivial⟩, trivial⟩
  · rw [h3]
    exact ⟨⟨Le.refl _, Le.refl _, Le.refl _, Le.refl _, trivial⟩, ⟨Le.refl _, Le.refl _, (leS i).1, Le.refl _, trivial⟩, trivial⟩
  · rw [h3]
    exact ⟨⟨Le.refl _, Le.refl _, (leS i).1, Le.refl _, trivial⟩, ⟨Le.refl _, Le.refl _, Le.refl _, Le.refl _, trivial⟩, ⟨Le.refl _, Le.refl _, Le.refl _, (leB i).1, trivial⟩, trivial⟩

theorem eqE_ok {y : AV} {three : Bool} (h : eqE y (evO three .exact) = true) : ∃ t, y = evO three t := by
  letI : Sg := ⟨fun _ => 0, fun _ => .nilFunc⟩
  unfold evO at h ⊢
  unfold eqE at h
  split at h
  · rename_i heq
    simp only [AV.agg.injEq, List.cons.injEq, AV.sl.injEq, and_true] at heq
    simp only [Bool.and_eq_true] at h
    obtain ⟨h1, h2⟩ := h
    have h1 := sameAVs_eq h1
    have h2 := sameAVss_eq h2
    rename_i t _ _ _ _ _ _ _
    simp only [List.cons.injEq, and_true] at h1
    obtain ⟨e1, e2, e3, e4, _, e5⟩ := heq
    obtain ⟨g1, g2, g3, g4⟩ := h1
    exact ⟨_, by rw [g1, g2, g3, g4, h2, ← e1, ← e2, ← e3, ← e4, ← e5]⟩
  · cases h

theorem argE_plain : plainAVs [argE] = true := by decide +kernel
theorem schP_plain : plainAV schP = true := by decide +kernel

theorem vs_one {E : Env} {x y : AV} {vals : List Value} [Sg] (hl : ∀ v, V E .nil x v → V E .nil y v) (h : Vs E .nil [x] vals) : Vs E .nil [y] vals := by
  simp only [Vs] at h ⊢
  obtain ⟨v, s, rfl, h1, h2⟩ := h
  exact ⟨v, s, rfl, hl v h1, h2⟩

theorem vs_two {E E' : Env} {x x' y y' : AV} {vals : List Value} [Sg] (hx : ∀ v, V E .nil x v → V E' .nil x' v) (hy : ∀ v, V E .nil y v → V E' .nil y' v) (h : Vs E .nil [x, y] vals) : Vs E' .nil [x', y'] vals := by
  simp only [Vs] at h ⊢
  obtain ⟨v, s, rfl, h1, u, s', rfl, h2, h3⟩ := h
  exact ⟨v, _, rfl, hx v h1, u, _, rfl, hy u h2, h3⟩

theorem evV_plain {k key s : Nat} {b : Bool} {t : Tok} {nv : AV} (ht : t = .exact ∨ t = .non) (hn : plainAV nv = true) : plainAV (evV k key s b t nv) = true := by
  unfold evV
  rcases ht with rfl | rfl <;> (split <;> simp [plainAV, plainAVs, plainAVss, hn])

theorem evN_plain (hv : Nat) : plainAV (evN hv) = true := by unfold evN; split <;> rfl

theorem ext_ok (h : i.Ok M) : letI := sgI i; ExtOk Tryz.prog (cxM (i.k == 2) i.room i.hv) := by
  letI := sgI i
  intro f args v hx Q E own H w vals hp hv
  have hx : extM (i.k == 2) f args = some (.ok v) := hx
  have hgl := hp.glb
  unfold extM at hx
  split at hx
  · -- the reference's event
    split at hx
    rotate_left
    · cases hx
    rename_i x he
    have he := eqA_eq he
    subst he
    simp only [Option.some.injEq, R.ok.injEq] at hx
    subst hx
    have hr := allB_ok (all3_ok (all3_ok (all3_ok run_event _ (k_lt i)) _ (key_lt i)) _ (hv_lt i)) i.b
    obtain ⟨H', hr⟩ := isVal_ok hr
    have hge : GlobOk (cxE i.k i.key i.hv i.b) (E1 E.M) := ⟨fun g cs hg => (by cases hg), fun s j sz z hz => by
      obtain ⟨b, d, n, cap, h1, h2, h3⟩ := hgl.oqAt s j sz z hz
      refine ⟨b, d, n, cap, h1, h2, V.plain (E := E) (E' := E1 E.M) (fun _ _ _ h => h) ?_ h3⟩
      replace hz : oqAtE i.hv s j sz = .ok z := hz
      unfold oqAtE at hz
      split at hz <;> (try split at hz) <;> first
        | (cases hz; done)
        | (simp only [R.ok.injEq] at hz; subst hz; rfl)⟩
    obtain ⟨hent, hall⟩ := lift_fn (callsE i h) hr (evV_plain (.inl rfl) (evN_plain _)) hp hge (Vs.plain (E := E) (E' := E1 E.M) (fun _ _ _ h => h) argE_plain hv)
    refine ⟨hent, fun cs => ?_⟩
    obtain ⟨E', own', w', fx, val, k1, k2, k3, k4, k5⟩ := hall cs
    refine ⟨E', own', w', fx, val, k1, k2, k3, ⟨leVO i h .exact E' val k4.1, fun xs e => ?_⟩, k5⟩
    unfold evO at e
    cases e
  · -- what is awake
    simp only [Option.some.injEq, R.ok.injEq] at hx
    subst hx
    obtain ⟨H', hr⟩ := isTrue_ok run_awake
    exact lift_fn (callsS i) hr rfl hp (glob0 i _) (by simpa only [Vs] using hv)
  · -- a key's part of one
    split at hx
    rotate_left
    · cases hx
    rename_i x y he
    simp only [Bool.and_eq_true] at he
    have he1 := sameAV_eq he.1
    have he2 := sameAV_eq he.2
    subst he1
    subst he2
    simp only [Option.some.injEq, R.ok.injEq] at hx
    subst hx
    obtain ⟨H', hr⟩ := isVal_ok (all3_ok run_part _ (key_lt i))
    exact lift_fn (callsP i) hr rfl hp (glob0 i _) (vs_two (E := E) (E' := E1 E.M) (fun v hv => V.plain (E := E) (E' := E1 E.M) (fun _ _ _ h => h) rfl ((leKey i).1 E v hv)) (fun v hv => V.plain (E := E) (E' := E1 E.M) (fun _ _ _ h => h) rfl hv) hv)
  · -- the event is one of the schema's
    split at hx
    rotate_left
    · cases hx
    rename_i x y he
    simp only [Bool.and_eq_true] at he
    have he1 := sameAV_eq he.1
    subst he1
    obtain ⟨t, rfl⟩ := eqE_ok he.2
    simp only [Option.some.injEq, R.ok.injEq] at hx
    subst hx
    have hr := allB_ok (allB_ok (all3_ok (all3_ok run_check _ (k_lt i)) _ (key_lt i)) i.b) (Nat.beq i.hv 1)
    have hu : (if Nat.beq i.hv 1 = true then 118 else 117) = evS i.hv := by
      have := hv_lt i
      have h3 : i.hv = 0 ∨ i.hv = 1 ∨ i.hv = 2 := by omega
      rcases h3 with h3 | h3 | h3 <;> rw [h3] <;> rfl
    rw [hu] at hr
    obtain ⟨H', hr⟩ := isVal_ok hr
    exact lift_fn (callsP i) hr rfl hp (glob0 i _) (vs_two (E := E) (E' := E1 E.M) (fun v hv => V.plain (E := E) (E' := E1 E.M) (fun _ _ _ h => h) schP_plain hv) (fun v hv => V.plain (E := E) (E' := E1 E.M) (fun _ _ _ h => h) (evV_plain (.inr rfl) rfl) (leOV i t E v hv)) hv)
  · exact ext_schema i hx Q E own H w vals hp hv

/-- the law's run, of whatever comes in -/
theorem law_run (h : i.Ok M) {w : World} (hM : ∀ b j v, M b j = some v → w.cell? ⟨b, j, none⟩ = some v) (wait : Bool) (hvo : (match i.vals with
      | .agg _ => false
      | .tuple _ => false
      | _ => true) = true) :
    Calls Tryz.prog 3 ⟨[.agg ⟨[.string i.ty, .string i.ky, .int .i64 i.tm, .int .i64 i.sq, i.vals]⟩, .bool wait, .int .i64 i.nn]⟩ w fun e w' => e = .returned (.bool true) ∧ Grown w w' := by
  letI := sgI i
  have hrun : isTrue (callA (cxM (i.k == 2) i.room i.hv) 300 (.fn 3) [] [argE, .bool wait, nA] H0) = true := by
    cases wait
    · exact all4_ok (allB_ok (run_main0 i.hv) (i.k == 2)) _ (room_lt i)
    · exact all4_ok (allB_ok (run_main1 i.hv) (i.k == 2)) _ (room_lt i)
  obtain ⟨H', hr⟩ := isTrue_ok hrun
  refine law_calls (M := M) (goodM i h) fits (ext_ok i h) mixed hM (glob_ok i h fun _ _ _ h => h) hr ?_
  have hargs : V (E1 M) .nil argE (.agg ⟨[.string i.ty, .string i.ky, .int .i64 i.tm, .int .i64 i.sq, i.vals]⟩) := by
    unfold argE
    simp only [V, Vs]
    exact ⟨_, rfl, _, _, rfl, ⟨rfl, rfl⟩, _, _, rfl, ⟨rfl, rfl⟩, _, _, rfl, ⟨rfl, h.tm⟩, _, _, rfl, ⟨rfl, h.sq⟩, _, _, rfl, ⟨rfl, hvo⟩, rfl⟩
  simp only [Vs]
  refine ⟨_, _, rfl, hargs, _, _, rfl, by simp only [V], _, _, rfl, ?_, rfl⟩
  unfold nA
  simp only [V]
  exact ⟨rfl, h.nn⟩

end
end
end Go.Proofs.YtanknkgbleeffaaGreatDoor
