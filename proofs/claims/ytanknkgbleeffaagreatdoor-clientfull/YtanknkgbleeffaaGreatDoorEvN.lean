/- Regions in the order of the text; what the loaded program is known to keep. -/
import Derived.Test.YtanknkgbleeffaaGreatDoorEvM
set_option linter.all false
namespace Go.Proofs.Ev
open Go
variable [Sg]

/-- where a run of a code has come to -/
def Arr (P : Program) (M : Machine) (b : Frame) (k : List Item) (cs : List Frame) (ex : Ex) (E : Env) (a : Act) (w : World) : Prop :=
  match ex with
  | .normal => Steps P M (lone (b.atR a k) cs w)
  | .exit id => ∃ k₁, exitTo id k₁ = exitTo id k ∧ Steps P M (lone (b.atR a (.code (.exit id) :: k₁)) cs w)
  | .ret => ∃ k₁, Steps P M (lone (b.atR a (.code .ret :: k₁)) cs w)
  | .pan v => ∃ k₁ val, V E .nil v val ∧ Steps P M (lone { b.atR a k₁ with mode := .panicking [{ v := val, recovered := false }] } cs w)

theorem Arr.of_steps {P : Program} {M M' : Machine} {b : Frame} {k : List Item} {cs : List Frame} {ex : Ex} {E : Env} {a : Act} {w : World} (h : Steps P M M') (h' : Arr P M' b k cs ex E a w) : Arr P M b k cs ex E a w := by
  cases ex with
  | normal => exact Steps.trans h h'
  | exit id => obtain ⟨k1, h1, h2⟩ := h'; exact ⟨k1, h1, Steps.trans h h2⟩
  | ret => obtain ⟨k1, h2⟩ := h'; exact ⟨k1, Steps.trans h h2⟩
  | pan v => obtain ⟨k1, val, hv, h2⟩ := h'; exact ⟨k1, val, hv, Steps.trans h h2⟩

section
variable {P : Program} {cx : Cx} {Q : Name} {N : Nat} {S : Nat → Prop} {E : Env} {own : Nat → Tag} {H H' : Heap} {m : Mine} {fr fr' : Fr} {a : Act} {w : World} {id : Nat} {v : AV} {b : Frame} {stk : Bool → List Frame} {o : Oper} {call : Caller} {ops : Array Oper} {i : Nat} {rest : List Nat} {k : List Item}
  {f : FuncId}

/-- a run of a code, seen from both sides -/
def Sim (P : Program) (cx : Cx) (Q : Name) (N : Nat) (E : Env) (own : Nat → Tag) (H : Heap) (fr : Fr) (w : World) (b : Frame) (stk : Bool → List Frame) (M : Machine) (k : List Item) (ex : Ex) (fr' : Fr) (H' : Heap) : Prop :=
  ∃ E' own' m' a' w', St cx Q N (fun j => fr'.ct ≤ j) E' own' H' m' fr' a' w' ∧ Grow Q own own' E E' w w' ∧ SameH E E' H H' ∧ RecI E' b stk fr' ∧ fr.ct ≤ fr'.ct ∧ Arr P M b k (stk fr'.rd) ex E' a' w'

theorem Sim.of_steps {M M' : Machine} {ex : Ex} (h : Steps P M M') (h' : Sim P cx Q N E own H fr w b stk M' k ex fr' H') : Sim P cx Q N E own H fr w b stk M k ex fr' H' := by
  obtain ⟨E', own', m', a', w', h1, h2, h3, h4, h5, h6⟩ := h'
  exact ⟨E', own', m', a', w', h1, h2, h3, h4, h5, h6.of_steps h⟩

/-- a run on top of another -/
theorem Sim.after {E1 : Env} {own1 : Nat → Tag} {H1 : Heap} {fr1 : Fr} {w1 : World} {M : Machine} {ex : Ex} (hg : Grow Q own own1 E E1 w w1) (hh : SameH E E1 H H1) (hc : fr.ct ≤ fr1.ct) (h : Sim P cx Q N E1 own1 H1 fr1 w1 b stk M k ex fr' H') : Sim P cx Q N E own H fr w b stk M k ex fr' H' := by
  obtain ⟨E', own', m', a', w', h1, h2, h3, h4, h5, h6⟩ := h
  exact ⟨E', own', m', a', w', h1, hg.trans h2, hh.trans h3, h4, Nat.le_trans hc h5, h6⟩

theorem tmOf_put {d t : Nat} {x : AV} : tmOf (fr.put (some d) x) t = if t = d then x else tmOf fr t := by
  unfold tmOf Fr.put
  simp only [Tr.get_set_path]
  split <;> simp_all

theorem put_rc (d : Option Tmp) (x : AV) : (fr.put d x).rc = fr.rc := by cases d <;> rfl
theorem put_rd (d : Option Tmp) (x : AV) : (fr.put d x).rd = fr.rd := by cases d <;> rfl
theorem put_ct (d : Option Tmp) (x : AV) : (fr.put d x).ct = fr.ct := by cases d <;> rfl
theorem put_fl (d : Option Tmp) (x : AV) : (fr.put d x).fl = fr.fl := by cases d <;> rfl
theorem put_lc (d : Option Tmp) (x : AV) : (fr.put d x).lc = fr.lc := by cases d <;> rfl
theorem put_df (d : Option Tmp) (x : AV) : (fr.put d x).df = fr.df := by cases d <;> rfl

theorem St.put (hs : St cx Q N S E own H m fr a w) {d : Option Tmp} {x : AV} {val : Value} (hx : V E (viewOf m fr.fl) x val) (hd : ∀ t, d = some t → t < N) : St cx Q N S E own H m (fr.put d x) (a.put d val) w := by
  cases d with
  | none => exact hs
  | some t =>
    have ht := hd t rfl
    refine ⟨hs.inv, ⟨by simpa [Act.put] using hs.frm.size, fun t' => ?_, hs.frm.lcs, hs.frm.fls⟩, hs.glb, hs.fresh, hs.df, hs.lim⟩
    rw [tmOf_put]
    simp only [Act.put]
    split
    · rename_i e
      subst e
      have : (a.tmps.setIfInBounds t' val).getD t' undef = val := by
        simp [Array.getD_eq_getD_getElem?, hs.frm.size, ht]
      rw [this]
      exact hx
    · rename_i e
      have : (a.tmps.setIfInBounds t val).getD t' undef = a.tmps.getD t' undef := by
        simp [Array.getD_eq_getD_getElem?, Ne.symm e]
      rw [this]
      exact hs.frm.tms t'

theorem RecI.put {d : Option Tmp} {x : AV} (h : RecI E b stk fr) : RecI E b stk (fr.put d x) := by
  have := RecI.mono (fr' := fr.put d x) (.refl E) (put_rc d x) (put_rd d x) h
  exact this

theorem yieldedA_ok (hs : St cx Q N S E own H m fr a w) (hN : ∀ o ∈ ops.toList, ∀ d, o.dst = some d → d < N) {j : Nat} :
    (∀ x, yieldedA ops fr j = .ok x → yielded ops a.tmps j = some x) ∧ (∀ e, yieldedA ops fr j = .no e → e = 1001 → yielded ops a.tmps j = none) := by
  unfold yieldedA yielded
  cases ho : ops[j]? with
  | none => exact ⟨fun x h => by simp at h, fun e h he => by simp at h; omega⟩
  | some o =>
    obtain ⟨dst, op, type, pos, after, guard⟩ := o
    cases dst with
    | none => exact ⟨fun x h => by simp at h, fun e h he => by simp at h; omega⟩
    | some t =>
      have hmem : (⟨some t, op, type, pos, after, guard⟩ : Oper) ∈ ops.toList := by
        have := Array.mem_of_getElem? ho
        simpa using this
      have ht := hN _ hmem t rfl
      have hv := hs.frm.tms t
      unfold tmOf at hv
      have htm : a.tmps[t]? = some (a.tmps.getD t undef) := by
        have : t < a.tmps.size := by rw [hs.frm.size]; exact ht
        simp [Array.getD_eq_getD_getElem?, this]
      simp only [Option.bind_some, htm]
      refine ⟨fun x h => ?_, fun e h he => ?_⟩
      · split at h
        · rename_i y hg
          simp only [R.ok.injEq] at h
          subst h
          rw [hg] at hv
          simp only [Option.getD_some, V] at hv
          rw [hv]
        · cases h
        · cases h
      · split at h
        · cases h
        · rename_i hg
          rw [hg] at hv
          simp only [Option.getD_some, V, Vs] at hv
          obtain ⟨_, hv, rfl⟩ := hv
          rw [hv]
        · cases h; cases he

theorem guardO_ok (hs : St cx Q N S E own H m fr a w) (hN : ∀ o ∈ ops.toList, ∀ d, o.dst = some d → d < N) {x : Bool} (h : guardO ops o.guard fr = .ok x) : Region.wanted o (yielded ops a.tmps) = x := by
  unfold guardO at h
  unfold Region.wanted
  split at h
  · rename_i e
    simp only [R.ok.injEq] at h
    subst h
    rw [e]
  · rename_i j want e
    rw [e]
    obtain ⟨h1, h2⟩ := yieldedA_ok (j := j) hs hN
    split at h
    · rename_i y hy
      simp only [R.ok.injEq] at h
      subst h
      simp [h1 _ hy]
    · rename_i e' he
      split at h
      · rename_i hb
        simp only [R.ok.injEq] at h
        subst h
        have := h2 _ he (Nat.eq_of_beq_eq_true hb)
        simp [this]
      · cases h

theorem opsA_ok (g : Good P cx) (co : CallOk P cx call) (hN : ∀ o ∈ ops.toList, ∀ d, o.dst = some d → d < N) (base : Nat) : ∀ (l : List Oper) (i : Nat) (fr : Fr) (H : Heap) (ex : Ex) (fr' : Fr) (H' : Heap), opsA cx call f Q ops base l i fr H = .ok (ex, fr', H') → l = ops.toList.drop i → i ≤ ops.size →
    ∀ (E : Env) (own : Nat → Tag) (m : Mine) (a : Act) (w : World), St cx Q N (fun j => base + i ≤ j) E own H m fr a w → fr.ct = base + ops.size → RecI E b stk fr →
    Sim P cx Q N E own H fr w b stk (lone (b.atR a (.inRegion ops (List.range' i (ops.size - i)) :: k)) (stk fr.rd) w) k ex fr' H'
  | [], i, fr, H, ex, fr', H', h, hl, hile, E, own, m, a, w, hs, hct, hr => by
    have h : (R.ok (Ex.normal, fr, H) : R (Ex × Fr × Heap)) = .ok (ex, fr', H') := h
    simp only [R.ok.injEq, Prod.mk.injEq] at h
    obtain ⟨rfl, rfl, rfl⟩ := h
    have hsz : ops.size ≤ i := by
      have := congrArg List.length hl
      simp at this
      omega
    have : ops.size - i = 0 := by omega
    rw [this]
    refine ⟨E, own, m, a, w, hs.mono fun j hj => by omega, .refl _ _ _ _, .refl _ _, hr, Nat.le_refl _, .one stepR_region_end⟩
  | o :: l, i, fr, H, ex, fr', H', h, hl, hile, E, own, m, a, w, hs, hct, hr => by
    have h : (match guardO ops o.guard fr with
      | .ok true => stepO cx call f Q (base + i) o fr H (opsA cx call f Q ops base l (i + 1))
      | .ok false => opsA cx call f Q ops base l (i + 1) (fr.put o.dst undefA) H
      | .no e => .no e) = .ok (ex, fr', H') := h
    have hi : i < ops.size := by
      have := congrArg List.length hl
      simp at this
      omega
    have ho : ops[i]? = some o := by
      have : (ops.toList.drop i)[0]? = some o := by rw [← hl]; rfl
      simpa using this
    have hl' : l = ops.toList.drop (i + 1) := by
      have : (ops.toList.drop i).tail = l := by rw [← hl]; rfl
      rw [← this, List.tail_drop]
    have hrange : List.range' i (ops.size - i) = i :: List.range' (i + 1) (ops.size - (i + 1)) := by
      obtain ⟨j, hj⟩ : ∃ j, ops.size - i = j + 1 := ⟨ops.size - i - 1, by omega⟩
      rw [hj, List.range'_succ]
      congr 2
      omega
    have hdst : ∀ t, o.dst = some t → t < N := fun t ht => hN o (by have := Array.mem_of_getElem? ho; simpa using this) t ht
    rw [hrange]
    split at h
    · rename_i hg
      have hw := guardO_ok hs hN hg
      unfold stepO at h
      split at h
      · rename_i v fr1 H1 hop
        obtain ⟨E1, own1, m1, df1, w1, val, h1, h2, h3, h4, h5, h6, h7, h8⟩ := opA_val (b := b) (stk := stk) (rest := List.range' (i + 1) (ops.size - (i + 1))) (k := k) g co ho hw hop hs (Nat.le_refl _) hr
        have hs1 := (h1.put h2 hdst).mono (S' := fun j => base + (i + 1) ≤ j) (fun j hj => ⟨by omega, by omega⟩)
        have hct1 : (fr1.put o.dst v).ct = base + ops.size := by rw [put_ct, h6, hct]
        have := opsA_ok g co hN base l (i + 1) _ _ ex fr' H' h hl' hi E1 own1 m1 _ w1 hs1 hct1 h5.put
        refine Sim.of_steps h8 (Sim.after (fr1 := fr1.put o.dst v) h3 h4 (by rw [put_ct, h6]; exact Nat.le_refl _) ?_)
        rw [put_rd] at this
        exact this
      · rename_i v H1 hop
        simp only [R.ok.injEq, Prod.mk.injEq] at h
        obtain ⟨rfl, rfl, rfl⟩ := h
        obtain ⟨E1, own1, m1, w1, val, h1, h2, h3, h4, h5, h6⟩ := opA_pan (b := b) (stk := stk) (rest := List.range' (i + 1) (ops.size - (i + 1))) (k := k) co ho hw hop hs (Nat.le_refl _) hr
        exact ⟨E1, own1, m1, a, w1, h1.mono (fun j hj => ⟨by omega, by omega⟩), h3, h4, h5, Nat.le_refl _, ⟨_, val, h2, h6⟩⟩
      · cases h
    · rename_i hg
      have hw := guardO_ok hs hN hg
      have hs1 := (hs.put (x := undefA) (val := undef) (d := o.dst) (by simp [V, undefA, undef, Vs]) hdst).mono (S' := fun j => base + (i + 1) ≤ j) (fun j hj => by omega)
      have hct1 : (fr.put o.dst undefA).ct = base + ops.size := by rw [put_ct, hct]
      have := opsA_ok g co hN base l (i + 1) _ _ ex fr' H' h hl' hi E own m _ w hs1 hct1 hr.put
      have hst := stepR_op_skip (P := P) (b := b) (a := a) (k := k) (cs := stk fr.rd) (w := w) (ops := ops) (i := i) (rest := List.range' (i + 1) (ops.size - (i + 1))) (by simp [ho, hw])
      rw [ho] at hst
      refine Sim.of_steps (.one hst) (Sim.after (fr1 := fr.put o.dst undefA) (.refl _ _ _ _) (.refl _ _) (by rw [put_ct]; exact Nat.le_refl _) ?_)
      rw [put_rd] at this
      exact this
    · cases h

end
end Go.Proofs.Ev
