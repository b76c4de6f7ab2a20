/- ClientFull: the runs, by the kernel. -/
import Derived.Test.YtanknkgbleeffaaGreatDoorEvCxClientFull
set_option linter.all false
namespace Go.Proofs.YtanknkgbleeffaaGreatDoor
open Go Go.Proofs.Ev
noncomputable section
set_option maxRecDepth 100000

def nA : AV := .sym .i64 2 loI hiI
def evS (hv : Nat) : Nat := match hv with
  | 1 => 118
  | _ => 117
def evN (hv : Nat) : AV := match hv with
  | 0 => .int .i64 0
  | _ => .sym .i64 6 0 3

theorem run_schema : isVal schV (callA cxP 300 (.fn 20) [] [tyV] H0) = true := by kernel_rfl
theorem run_awake : isTrue (callA cxS 300 (.fn 9) [] [] H0) = true := by kernel_rfl

def allB (p : Bool → Bool) : Bool := p true && p false
theorem allB_ok {p : Bool → Bool} (h : allB p = true) : ∀ b, p b = true := by
  intro b
  simp only [allB, Bool.and_eq_true] at h
  cases b
  · exact h.2
  · exact h.1
def all3 (p : Nat → Bool) : Bool := p 0 && (p 1 && p 2)
theorem all3_ok {p : Nat → Bool} (h : all3 p = true) : ∀ k, k < 3 → p k = true := by
  intro k hk
  simp only [all3, Bool.and_eq_true] at h
  match k, hk with
  | 0, _ => exact h.1
  | 1, _ => exact h.2.1
  | 2, _ => exact h.2.2
def all4 (p : Nat → Bool) : Bool := p 0 && (p 1 && (p 2 && p 3))
theorem all4_ok {p : Nat → Bool} (h : all4 p = true) : ∀ k, k < 4 → p k = true := by
  intro k hk
  simp only [all4, Bool.and_eq_true] at h
  match k, hk with
  | 0, _ => exact h.1
  | 1, _ => exact h.2.1
  | 2, _ => exact h.2.2.1
  | 3, _ => exact h.2.2.2

theorem run_event : all3 (fun k => all3 fun key => all3 fun hv => allB fun b => isVal (evV k key (evS hv) b .exact (evN hv)) (callA (cxE k key hv b) 300 (.fn 6) [] [argE] H0)) = true := by kernel_rfl
theorem run_check : all3 (fun k => all3 fun key => allB fun b => allB fun u => isVal (.int .i64 0) (callA cxP 300 (.fn 81) [] [schP, evV k key (if u then 118 else 117) b .non (.sym .i64 6 0 3)] H0)) = true := by kernel_rfl
theorem run_part : all3 (fun key => isVal (.int .i64 0) (callA cxP 300 (.fn 66) [] [.str [107 + key], .int .i64 1] H0)) = true := by kernel_rfl

end
end Go.Proofs.YtanknkgbleeffaaGreatDoor
