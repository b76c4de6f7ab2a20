/- WorkerEnds: the law's run, whatever number comes in. -/
import Derived.Test.YtefdjbndjgnbiaaGreatEvTbWorkerEnds
set_option linter.all false
namespace Go.Proofs.YtefdjbndjgnbiaaGreat
open Go Go.Proofs.Ev Go.RowKit
noncomputable section

def syF (op : BinOp) (k : IntKind) (s : Nat) (b : Int) : R AV :=
  match op, k, s with
  | .and, .i64, 0 => if ieq b 255 then .ok (.sym .i64 1 0 255) else .no 300
  | .add, .i64, 1 => if ieq b 1 then .ok (.sym .i64 2 1 256) else .no 302
  | .sub, .i64, 2 => if ieq b 1 then .ok (.sym .i64 1 0 255) else .no 302
  | _, _, _ => .no 301

def cx : Cx := { cxOf Tryz.prog tyTab escTab growTab quietTab with fork := fun f => forkTab.any (Nat.beq f), sy := syF }

def isTrue : R (Ret × Heap) → Bool
  | .ok (.val (.bool true), _) => true
  | _ => false

theorem isTrue_ok {x : R (Ret × Heap)} (h : isTrue x = true) : ∃ H', x = .ok (.val (.bool true), H') := by
  unfold isTrue at h
  split at h
  · exact ⟨_, rfl⟩
  · cases h

set_option maxRecDepth 100000 in
theorem types_ok : trAll (tyIs Tryz.prog) tyTab 1 0 = true := by kernel_rfl
set_option maxRecDepth 100000 in
theorem code_fits : Tryz.prog.funcs.toList.all fnB' = true := by kernel_rfl
set_option maxRecDepth 100000 in
theorem mixed : Tryz.prog.follows .mixedOrders = true := by kernel_rfl
set_option maxRecDepth 100000 in
theorem run : isTrue (callA cx 300 (.fn 3) [] [.sym .i64 0 (-9223372036854775808) 9223372036854775807] H0) = true := by kernel_rfl

/-- the number's lowest byte -/
def low (a : Int) : Int := Int.ofNat (Nat.land (a % 2 ^ 64).toNat 255)

theorem low_le (a : Int) : 0 ≤ low a ∧ low a ≤ 255 := by
  have : Nat.land (a % 2 ^ 64).toNat 255 ≤ 255 := Nat.and_le_right
  unfold low
  rw [Int.ofNat_eq_natCast]
  omega

theorem low_eq (a : Int) : bitsN .i64 Nat.land a 255 = low a := by
  letI : Sg := ⟨fun _ => 0⟩
  rw [bitsN_eq .i64 _ land_lt]
  have h := low_le a
  unfold low at h ⊢
  show IntKind.wrap .i64 (Int.ofNat (Nat.land (a % 2 ^ 64).toNat 255)) = _
  exact wrap_id (k := .i64) (by show -(2 ^ 63 : Int) ≤ _; omega) (by show _ ≤ (2 ^ 63 - 1 : Int); omega)

def sg (a : Int) : Nat → Int
  | 0 => a
  | 1 => low a
  | 2 => low a + 1
  | _ => 0

theorem good (a : Int) : @Good ⟨sg a⟩ Tryz.prog cx := by
  letI : Sg := ⟨sg a⟩
  have hl := low_le a
  refine ⟨fun t y h => tyTab_ok types_ok h, fun f x h => byTr_mk h, fun t h => (by cases h), ?_⟩
  intro op k s b z h t
  replace h : syF op k s b = .ok z := h
  unfold syF at h
  split at h
  · split at h
    rotate_left
    · cases h
    rename_i hb0
    have hb : b = 255 := by rw [ieq_eq] at hb0; exact beq_iff_eq.1 hb0
    subst hb
    simp only [R.ok.injEq] at h
    subst h
    refine ⟨.int .i64 (low a), ?_, fun E W v hv => ?_⟩
    · show R.ok (AV.int .i64 (bitsN .i64 Nat.land a 255)) = _
      rw [low_eq]
    · exact ⟨hv, hl⟩
  · split at h
    rotate_left
    · cases h
    rename_i hb0
    have hb : b = 1 := by rw [ieq_eq] at hb0; exact beq_iff_eq.1 hb0
    subst hb
    simp only [R.ok.injEq] at h
    subst h
    refine ⟨.int .i64 (low a + 1), ?_, fun E W v hv => ?_⟩
    · show R.ok (AV.int .i64 (fit .i64 (iadd (low a) 1))) = _
      rw [fit_eq, iadd_eq]
      rw [wrap_id (k := .i64) (by show -(2 ^ 63 : Int) ≤ _; omega) (by show _ ≤ (2 ^ 63 - 1 : Int); omega)]
    · exact ⟨hv, by show 1 ≤ low a + 1; omega, by show low a + 1 ≤ 256; omega⟩
  · split at h
    rotate_left
    · cases h
    rename_i hb0
    have hb : b = 1 := by rw [ieq_eq] at hb0; exact beq_iff_eq.1 hb0
    subst hb
    simp only [R.ok.injEq] at h
    subst h
    refine ⟨.int .i64 (low a), ?_, fun E W v hv => ?_⟩
    · show R.ok (AV.int .i64 (fit .i64 (isub (low a + 1) 1))) = _
      rw [fit_eq, isub_eq, show low a + 1 - 1 = low a by omega]
      rw [wrap_id (k := .i64) (by show -(2 ^ 63 : Int) ≤ _; omega) (by show _ ≤ (2 ^ 63 - 1 : Int); omega)]
    · exact ⟨hv, hl⟩
  · cases h

theorem walkE (a0 : Int) (w0 : (Lit.int .i64 a0).wf = true) (w : World) : Calls Tryz.prog 3 #[.int .i64 a0] w fun e w' => e = .returned (.bool true) ∧ Grown w w' := by
  letI : Sg := ⟨sg a0⟩
  obtain ⟨H', h⟩ := isTrue_ok run
  refine law_calls (vals := [.int .i64 a0]) (good a0) (fitP_of code_fits) (fun _ _ => rfl) (fun _ => ⟨_, rfl⟩) mixed h ?_ w
  simp only [Vs, V]
  refine ⟨_, _, rfl, ⟨rfl, ?_⟩, rfl⟩
  have hw : -9223372036854775808 ≤ a0 ∧ a0 ≤ 9223372036854775807 := by
    simpa [Lit.wf, IntKind.min, IntKind.max, IntKind.signed, IntKind.bits] using w0
  exact hw

end
end Go.Proofs.YtefdjbndjgnbiaaGreat
