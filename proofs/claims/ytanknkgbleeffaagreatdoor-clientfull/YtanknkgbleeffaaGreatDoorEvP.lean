/- Arithmetic, comparisons, and the operations on values alone. -/
import Derived.Test.YtanknkgbleeffaaGreatDoorEvO
set_option linter.all false
namespace Go.Proofs.Ev
open Go
variable [Sg]

/-! ### numbers -/
theorem ieq_eq (a b : Int) : ieq a b = (a == b) := by
  cases a <;> cases b <;> simp [ieq, Bool.beq_eq_decide_eq, Int.ofNat_inj, Nat.beq_eq] <;> (rw [Bool.eq_iff_iff]; simp [Nat.beq_eq])

theorem ile_eq (a b : Int) : ile a b = decide (a ≤ b) := by
  rw [Bool.eq_iff_iff]
  cases a <;> cases b <;> simp [ile, Nat.ble_eq] <;> omega

theorem ilt_eq (a b : Int) : ilt a b = decide (a < b) := by
  rw [ilt, ile_eq, Bool.eq_iff_iff]
  simp

theorem iadd_eq (a b : Int) : iadd a b = a + b := by
  cases a <;> cases b <;> rfl

theorem isub_eq (a b : Int) : isub a b = a - b := by
  cases a <;> cases b <;> simp only [isub]
  split
  · rename_i h
    have := Nat.le_of_ble_eq_true h
    simp only [Int.ofNat_eq_natCast]
    omega
  · rfl

theorem wrap_small_i64 {n : Int} (h1 : -9223372036854775808 ≤ n) (h2 : n ≤ 9223372036854775807) : IntKind.i64.wrap n = n := by
  simp only [IntKind.wrap, IntKind.bits, IntKind.signed, show ((2 : Int) ^ 64) = 18446744073709551616 from rfl, show ((2 : Int) ^ (64 - 1)) = 9223372036854775808 from rfl, Bool.true_and, decide_eq_true_eq]
  split <;> omega

theorem wrap_small_u64 {n : Int} (h1 : 0 ≤ n) (h2 : n ≤ 18446744073709551615) : IntKind.u64.wrap n = n := by
  simp only [IntKind.wrap, IntKind.bits, IntKind.signed, show ((2 : Int) ^ 64) = 18446744073709551616 from rfl, Bool.false_and, Bool.false_eq_true, if_false]
  omega

theorem fit_eq (k : IntKind) (n : Int) : fit k n = k.wrap n := by
  unfold fit
  split
  · split
    · rename_i h
      have := Nat.le_of_ble_eq_true h
      exact (wrap_small_i64 (by simp only [Int.ofNat_eq_natCast]; omega) (by simp only [Int.ofNat_eq_natCast]; omega)).symm
    · rfl
  · split
    · rename_i h
      have := Nat.le_of_ble_eq_true h
      exact (wrap_small_u64 (by simp only [Int.ofNat_eq_natCast]; omega) (by simp only [Int.ofNat_eq_natCast]; omega)).symm
    · rfl
  · split
    · rename_i h
      have := Nat.le_of_ble_eq_true h
      exact (wrap_small_i64 (by omega) (by omega)).symm
    · rfl
  · rename_i m
    simp only [IntKind.wrap, IntKind.bits, IntKind.signed, show ((2 : Int) ^ 8) = 256 from rfl, Bool.false_and, Bool.false_eq_true, if_false, Int.ofNat_eq_natCast]
    omega
  · rfl

/-- the bit operators: on what is left of two numbers -/
theorem toNat_ofInt (n : Nat) (a : Int) : (BitVec.ofInt n a).toNat = (a % 2 ^ n).toNat := by
  simp [BitVec.toNat_ofInt]

theorem bits_and (k : IntKind) (a b : Int) : bits k Nat.land a b = k.wrap ((BitVec.ofInt k.bits a &&& BitVec.ofInt k.bits b).toNat) := by
  simp only [bits, BitVec.toNat_and, toNat_ofInt, Int.ofNat_eq_natCast]; rfl
theorem bits_or (k : IntKind) (a b : Int) : bits k Nat.lor a b = k.wrap ((BitVec.ofInt k.bits a ||| BitVec.ofInt k.bits b).toNat) := by
  simp only [bits, BitVec.toNat_or, toNat_ofInt, Int.ofNat_eq_natCast]; rfl
theorem bits_xor (k : IntKind) (a b : Int) : bits k Nat.xor a b = k.wrap ((BitVec.ofInt k.bits a ^^^ BitVec.ofInt k.bits b).toNat) := by
  simp only [bits, BitVec.toNat_xor, toNat_ofInt, Int.ofNat_eq_natCast]; rfl

theorem bitsN_eq (k : IntKind) (f : Nat → Nat → Nat) (hf : ∀ x y, x < 2 ^ 63 → y < 2 ^ 63 → f x y < 2 ^ 63) (a b : Int) : bitsN k f a b = bits k f a b := by
  unfold bitsN
  split
  · rename_i x y
    split
    · rename_i h
      simp only [Bool.and_eq_true] at h
      have hx := Nat.le_of_ble_eq_true h.1
      have hy := Nat.le_of_ble_eq_true h.2
      have hxy := hf x y (by omega) (by omega)
      have e1 : (((x : Int)) % 2 ^ 64).toNat = x := by rw [show ((2 : Int) ^ 64) = 18446744073709551616 from rfl]; omega
      have e2 : (((y : Int)) % 2 ^ 64).toNat = y := by rw [show ((2 : Int) ^ 64) = 18446744073709551616 from rfl]; omega
      simp only [bits, IntKind.bits, Int.ofNat_eq_natCast, e1, e2]
      exact (wrap_small_i64 (by omega) (by omega)).symm
    · rfl
  · rfl

theorem land_lt (x y : Nat) (hx : x < 2 ^ 63) (_ : y < 2 ^ 63) : Nat.land x y < 2 ^ 63 := Nat.lt_of_le_of_lt (Nat.and_le_left (n := x) (m := y)) hx
theorem lor_lt (x y : Nat) (hx : x < 2 ^ 63) (hy : y < 2 ^ 63) : Nat.lor x y < 2 ^ 63 := Nat.or_lt_two_pow hx hy
theorem xor_lt (x y : Nat) (hx : x < 2 ^ 63) (hy : y < 2 ^ 63) : Nat.xor x y < 2 ^ 63 := Nat.xor_lt_two_pow hx hy

/-! ### strings -/
theorem sameStr_iff : ∀ {a b : List Nat}, sameStr a b = true ↔ a = b
  | [], [] => by simp [sameStr]
  | [], _ :: _ => by simp [sameStr]
  | _ :: _, [] => by simp [sameStr]
  | a :: r, b :: s => by
    simp only [sameStr, List.cons.injEq]
    by_cases h : Nat.beq a b = true
    · rw [if_pos h, sameStr_iff]
      simp [Nat.eq_of_beq_eq_true h]
    · rw [if_neg h]
      constructor
      · intro x; cases x
      · rintro ⟨rfl, _⟩; exact absurd (Nat.beq_refl a) h

theorem map_toNat_inj {a b : List UInt8} (h : a.map UInt8.toNat = b.map UInt8.toNat) : a = b := by
  induction a generalizing b with
  | nil => cases b with
    | nil => rfl
    | cons _ _ => simp at h
  | cons x r ih => cases b with
    | nil => simp at h
    | cons y s => simp only [List.map_cons, List.cons.injEq] at h; rw [UInt8.toNat_inj.1 h.1, ih h.2]

theorem sameStr_bytes (a b : List UInt8) : sameStr (a.map UInt8.toNat) (b.map UInt8.toNat) = (a == b) := by
  rw [Bool.eq_iff_iff, sameStr_iff, beq_iff_eq]
  exact ⟨map_toNat_inj, fun h => h ▸ rfl⟩

theorem lessStr_bytes : ∀ a b : List UInt8, lessStr (a.map UInt8.toNat) (b.map UInt8.toNat) = Op.bytesLess a b
  | [], [] => rfl
  | _ :: _, [] => rfl
  | [], _ :: _ => rfl
  | x :: r, y :: s => by
    simp only [List.map_cons, lessStr, Op.bytesLess, lessStr_bytes r s]
    by_cases h : Nat.ble (x.toNat + 1) y.toNat = true
    · have h' := Nat.le_of_ble_eq_true h
      have : x < y := by rw [UInt8.lt_iff_toNat_lt]; omega
      simp [h, this]
    · have h2 : ¬ x < y := by
        rw [UInt8.lt_iff_toNat_lt]
        intro hl
        exact h (by rw [Nat.ble_eq]; exact hl)
      rw [if_neg h]
      by_cases e : Nat.beq x.toNat y.toNat = true
      · have : x = y := UInt8.toNat_inj.1 (Nat.eq_of_beq_eq_true e)
        simp [this]
      · have : x ≠ y := fun he => e (by rw [he]; exact Nat.beq_refl _)
        simp [e, h2, this]

/-! ### the operators -/
theorem ieq_zero {b : Int} (h : ¬ ieq b 0 = true) : b ≠ 0 := by
  rw [ieq_eq] at h
  simpa using h

theorem intOp_ok {P : Program} {E : Env} {W : View} {op : BinOp} {k : IntKind} {a b : Int} {x : AV} (h : intOp op k a b = .ok x) (t : TypeId) (w : World) (hs : op ≠ .shl ∧ op ≠ .shr) :
    ∃ v, (binOp op t (.int k a) (.int k b)).run P w = .ok v w ∧ V E W x v := by
  cases op <;> simp only [intOp, R.ok.injEq] at h
  case add => subst h; exact ⟨.int k (k.wrap (a + b)), by simp [binOp, Op.intArith], by simp [V, fit_eq, iadd_eq]⟩
  case sub => subst h; exact ⟨.int k (k.wrap (a - b)), by simp [binOp, Op.intArith], by simp [V, fit_eq, isub_eq]⟩
  case mul => subst h; exact ⟨.int k (k.wrap (a * b)), by simp [binOp, Op.intArith], by simp [V, fit_eq]⟩
  case quo =>
    split at h
    · cases h
    · rename_i hb
      simp only [R.ok.injEq] at h
      subst h
      exact ⟨.int k (k.wrap (a.tdiv b)), by simp [binOp, Op.intDiv, ieq_zero hb], by simp [V, fit_eq]⟩
  case rem =>
    split at h
    · cases h
    · rename_i hb
      simp only [R.ok.injEq] at h
      subst h
      exact ⟨.int k (a.tmod b), by simp [binOp, Op.intDiv, ieq_zero hb], by simp [V]⟩
  case and => subst h; exact ⟨.int k (k.wrap ((BitVec.ofInt k.bits a &&& BitVec.ofInt k.bits b).toNat)), by simp only [binOp, ne_eq, not_true_eq_false, if_false, Op.intBits]; rfl, by simp only [V]; rw [bitsN_eq k _ land_lt, bits_and]⟩
  case or => subst h; exact ⟨.int k (k.wrap ((BitVec.ofInt k.bits a ||| BitVec.ofInt k.bits b).toNat)), by simp only [binOp, ne_eq, not_true_eq_false, if_false, Op.intBits]; rfl, by simp only [V]; rw [bitsN_eq k _ lor_lt, bits_or]⟩
  case xor => subst h; exact ⟨.int k (k.wrap ((BitVec.ofInt k.bits a ^^^ BitVec.ofInt k.bits b).toNat)), by simp only [binOp, ne_eq, not_true_eq_false, if_false, Op.intBits]; rfl, by simp only [V]; rw [bitsN_eq k _ xor_lt, bits_xor]⟩
  case andNot => cases h
  case shl => exact absurd rfl hs.1
  case shr => exact absurd rfl hs.2
  case eql => subst h; exact ⟨.bool (a == b), by simp [binOp, Op.intCmp], by simp [V, ieq_eq]⟩
  case neq => subst h; exact ⟨.bool (a != b), by simp [binOp, Op.intCmp], by simp [V, ieq_eq, bne]⟩
  case lss => subst h; exact ⟨.bool (decide (a < b)), by simp [binOp, Op.intCmp], by simp [V, ilt_eq]⟩
  case leq => subst h; exact ⟨.bool (decide (a ≤ b)), by simp [binOp, Op.intCmp], by simp [V, ile_eq]⟩
  case gtr => subst h; exact ⟨.bool (decide (a > b)), by simp [binOp, Op.intCmp], by simp [V, ilt_eq]⟩
  case geq => subst h; exact ⟨.bool (decide (a ≥ b)), by simp [binOp, Op.intCmp], by simp [V, ile_eq]⟩

theorem shiftOp_ok {P : Program} {E : Env} {W : View} {op : BinOp} {k k' : IntKind} {a b : Int} {x : AV} (h : shiftOp op k a b = .ok x) (t : TypeId) (w : World) (hs : op = .shl ∨ op = .shr) :
    ∃ v, (binOp op t (.int k a) (.int k' b)).run P w = .ok v w ∧ V E W x v := by
  unfold shiftOp at h
  split at h
  · cases h
  · rename_i hb
    rw [ilt_eq] at hb
    have hb' : ¬ b < 0 := by simpa using hb
    rcases hs with rfl | rfl <;> simp only [R.ok.injEq] at h <;> subst h
    · exact ⟨.int k (k.wrap (a * 2 ^ min b.toNat k.bits)), by simp [binOp, Op.shift, hb'], by simp [V, fit_eq]⟩
    · exact ⟨.int k (a.fdiv (2 ^ min b.toNat k.bits)), by simp [binOp, Op.shift, hb'], by simp [V]⟩

theorem bytes_append (a b : List UInt8) : (⟨⟨a⟩⟩ : ByteArray) ++ ⟨⟨b⟩⟩ = ⟨⟨a ++ b⟩⟩ := by
  apply ByteArray.ext
  simp [ByteArray.data_append]

theorem bytes_size (a : List UInt8) : (⟨⟨a⟩⟩ : ByteArray).size = a.length := by simp [ByteArray.size]

theorem strOp_ok {P : Program} {E : Env} {W : View} {op : BinOp} {a b : List UInt8} {x : AV} (h : strOp op (a.map UInt8.toNat) (b.map UInt8.toNat) = .ok x) (t : TypeId) (w : World) :
    ∃ v, (binOp op t (.string ⟨⟨a⟩⟩) (.string ⟨⟨b⟩⟩)).run P w = .ok v w ∧ V E W x v := by
  cases op <;> simp only [strOp, R.ok.injEq, sameStr_bytes, lessStr_bytes, reduceCtorEq] at h
  case add =>
    split at h
    · rename_i hl
      simp only [R.ok.injEq] at h
      subst h
      have hl := Nat.le_of_ble_eq_true hl
      simp only [List.length_map] at hl
      refine ⟨.string ⟨⟨a ++ b⟩⟩, ?_, by simp [V]⟩
      have : ¬ ((a.length + b.length : Nat) : Int) > IntKind.i64.max := by
        simp only [IntKind.max, IntKind.signed, IntKind.bits, if_true, show ((2 : Int) ^ (64 - 1)) = 9223372036854775808 from rfl]
        omega
      have h2 : ¬ ((a.length : Int) + (b.length : Int)) > IntKind.i64.max := by simpa using this
      simp only [binOp, Op.stringOp, bytes_size, bytes_append]
      rw [if_neg this]
      rfl
    · cases h
  all_goals first
    | (cases h; done)
    | (subst h
       refine ⟨_, ?_, (by simp only [V]; exact rfl)⟩
       simp only [binOp, Op.stringOp, ByteArray.toList_eq, Sem.run_pure])

end Go.Proofs.Ev
