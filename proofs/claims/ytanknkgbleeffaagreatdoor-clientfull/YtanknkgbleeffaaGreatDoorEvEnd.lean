/- Results; a function's end. -/
import Derived.Test.YtanknkgbleeffaaGreatDoorEvV
set_option linter.all false
namespace Go.Proofs.Ev
open Go
variable [Sg]

section
variable {P : Program} {cx : Cx} {Q : Name} {N : Nat} {S : Nat → Prop} {E E' : Env} {own own' : Nat → Tag} {H H' : Heap} {m : Mine} {fr fr' : Fr} {a : Act} {w w' : World} {id : Nat} {v : AV} {b : Frame} {stk : Bool → List Frame} {call : Caller} {f : FuncId} {n : Nat}

/-- one result, as the machine reads it -/
def resSem (tmps : Array Value) : ResultVar → Sem Value
  | .tmp t => pure (tmps.getD t undef)
  | .cell a t => do loadVar t (← asAddr (tmps.getD a undef))

theorem resultA_ok (g : Good P cx) (hs : St cx Q N S E own H m fr a w) {r : ResultVar} (h : resultA cx fr H r = .ok v) : ∃ val, (resSem a.tmps r).run P w = .ok val w ∧ V E (viewOf m fr.fl) v val := by
  cases r with
  | tmp t =>
    simp only [resultA, R.ok.injEq] at h
    subst h
    exact ⟨_, rfl, hs.ev (.tmp t)⟩
  | cell x t =>
    simp only [resultA] at h
    have hl : loadOp cx fr H t (fr.ev cx (.tmp x)) = .ok v := by unfold loadOp; exact h
    obtain ⟨val, hrun, hV⟩ := loadOp_ok g hs.inv hs.frm hl (hs.ev (.tmp x))
    refine ⟨val, ?_, hV⟩
    have he : a.eval (.tmp x) = a.tmps.getD x undef := by simp [Act.eval]
    rw [he] at hrun
    simp only [resSem, Sem.run_bind]
    simp only [Instr.loadAt, Sem.run_bind] at hrun
    cases hx : a.tmps.getD x undef with
    | pointer p =>
      rw [hx] at hrun
      cases p with
      | none => simp [Instr.sureAddr, stuck, Sem.run] at hrun
      | some ad => simpa [Instr.sureAddr, asAddr] using hrun
    | _ => rw [hx] at hrun; simp [Instr.sureAddr, stuck, Sem.run] at hrun

theorem resultsA_ok (g : Good P cx) (hs : St cx Q N S E own H m fr a w) : ∀ {rs : List ResultVar} {l : List AV}, resultsA cx fr H rs = .ok l → ∃ vals, (rs.mapM (resSem a.tmps)).run P w = .ok vals w ∧ Vs E (viewOf m fr.fl) l vals
  | [], l, h => by
    simp only [resultsA, R.ok.injEq] at h
    subst h
    exact ⟨[], rfl, by simp [Vs]⟩
  | r :: rs, l, h => by
    simp only [resultsA] at h
    cases hr : resultA cx fr H r with
    | no e => simp [hr] at h
    | ok x =>
      cases hl : resultsA cx fr H rs with
      | no e => simp [hr, hl] at h
      | ok l' =>
        simp only [hr, hl, R.ok.injEq] at h
        subst h
        obtain ⟨val, h1, h2⟩ := resultA_ok g hs hr
        obtain ⟨vals, h3, h4⟩ := resultsA_ok g hs hl
        refine ⟨val :: vals, ?_, by simp only [Vs]; exact ⟨_, _, rfl, h2, h4⟩⟩
        simp only [List.mapM_cons, Sem.run_bind, h1, Result.andThen_ok, h3, Sem.run_pure]

theorem clean_noown : ∀ {x y : AV}, clean x = .ok y → ∀ xs, y ≠ .sl .own xs
  | .bool _, _, h, _ | .sym _ _ _ _, _, h, _ | .opq _, _, h, _ | .int _ _, _, h, _ | .str _, _, h, _ | .nilp, _, h, _ | .nilf, _, h, _ | .nili, _, h, _ | .ptr _ _ _, _, h, _ | .ml _ _ _ _ _, _, h, _ | .yld _, _, h, _ | .iptr _ _, _, h, _ | .fn _ _, _, h, _ | .ifc _ _, _, h, _ => by
    simp only [clean, R.ok.injEq] at h; subst h; simp
  | .lptr _ _ _, _, h, _ => by simp [clean] at h
  | .junk, _, h, _ => by simp [clean] at h
  | .sl t xs, y, h, zs => by
    cases t <;> simp only [clean, R.ok.injEq] at h <;> subst h <;> simp
  | .agg cs, y, h, zs => by
    simp only [clean] at h
    split at h
    · simp only [R.ok.injEq] at h; subst h; simp
    · cases h
  | .tup cs, y, h, zs => by
    simp only [clean] at h
    split at h
    · simp only [R.ok.injEq] at h; subst h; simp
    · cases h

theorem hand1_ok (hs : St cx Q N S E own H m fr a w) {x y : AV} {val : Value} (h : hand1 fr x = .ok y) (hx : V E (viewOf m fr.fl) x val) : RetV E own w y val := by
  have hnon : ∀ {t : Tok} {xs : List (List AV)}, V E (viewOf m fr.fl) (.sl t xs) val → RetV E own w (.sl .non xs) val := by
    intro t xs hx
    refine ⟨?_, by simp⟩
    simp only [V] at hx ⊢
    obtain ⟨base, cap, vs, sz, h1, h2, h3, h4, h5, _⟩ := hx
    exact ⟨base, cap, vs, sz, h1, h2, h3, h4, h5, trivial⟩
  unfold hand1 at h
  split at h
  · rename_i t k xs
    split at h
    · rename_i k' n hfl
      split at h
      · rename_i hk
        obtain ⟨rfl, rfl⟩ := hk
        simp only [R.ok.injEq] at h
        subst h
        obtain ⟨h0, ad, cap, c, ty, sz, hK, hsp, hown, hb, hz, hn, hc, hM⟩ := hs.frm.fls _ _ _ hfl
        simp only [V] at hx
        obtain ⟨base, cap', vs, sz', h1, h2, h3, h4, h5, htk⟩ := hx
        obtain ⟨_, htk2⟩ := htk
        obtain ⟨_, htk3⟩ := htk2 _ hfl
        obtain ⟨ad', rfl, hK'⟩ := htk3 rfl
        rw [hK] at hK'
        simp only [Option.some.injEq, Prod.mk.injEq] at hK'
        obtain ⟨rfl, rfl, rfl⟩ := hK'
        refine ⟨by simp only [V]; exact ⟨some ad, cap, vs, sz, h1, h2, h3, h4, h5, trivial⟩, fun xs' e => ?_⟩
        simp only [AV.sl.injEq, true_and] at e
        subst e
        exact ⟨ad, cap, sz, c, ty, t, vs, h1, h0, hsp, hown, hb, hz, hn, hc, hM, h3, h4, h5.2⟩
      · simp only [R.ok.injEq] at h
        subst h
        exact hnon hx
    · simp only [R.ok.injEq] at h
      subst h
      exact hnon hx
  · exact ⟨V.clean h hx, fun xs e => (clean_noown h xs e).elim⟩

theorem cleans_ok1 {l l' : List AV} (h : cleans l = .ok l') : l'.length = l.length := by
  induction l generalizing l' with
  | nil => simp only [cleans, R.ok.injEq] at h; subst h; rfl
  | cons x r ih =>
    simp only [cleans] at h
    split at h
    · cases h
    · split at h
      · cases h
      · rename_i h2
        simp only [R.ok.injEq] at h
        subst h
        simp [ih h2]

theorem retA_ok (g : Good P cx) (hs : St cx Q N S E own H m fr a w) {fn : Func} (h : retA cx fr H fn.results.toList = .ok v) : ∃ val, (results fn a.tmps).run P w = .ok val w ∧ RetV E own w v val := by
  unfold retA at h
  split at h
  · cases h
  · rename_i x hr
    obtain ⟨vals, h1, h2⟩ := resultsA_ok g hs hr
    simp only [Vs] at h2
    obtain ⟨val, s, rfl, hx, rfl⟩ := h2
    refine ⟨val, ?_, hand1_ok hs h hx⟩
    have : (fn.results.mapM (resSem a.tmps)).run P w = .ok #[val] w := by
      rw [show fn.results = ⟨fn.results.toList⟩ by simp, List.mapM_toArray]
      simp only [Sem.run_map, h1, Result.andThen_ok]
    unfold results
    simp only [Sem.run_bind]
    have he : (fn.results.mapM fun | .tmp t => pure (a.tmps.getD t undef) | .cell x t => do loadVar t (← asAddr (a.tmps.getD x undef)) : Sem (Array Value)) = fn.results.mapM (resSem a.tmps) := by
      congr 1
    first
      | (rw [he, this]; simp)
      | (erw [this]; simp)
  · rename_i l hne hr
    split at h
    · rename_i l' hcl
      simp only [R.ok.injEq] at h
      subst h
      obtain ⟨vals, h1, h2⟩ := resultsA_ok g hs hr
      have hc := Vs.clean hcl h2
      refine ⟨.tuple ⟨vals⟩, ?_, by simp only [V]; exact ⟨vals, rfl, hc⟩, by simp⟩
      have hlen : vals.length ≠ 1 := by
        rw [← h2.length]
        intro e
        cases l with
        | nil => simp at e
        | cons x r => cases r with
          | nil => exact hne x rfl
          | cons _ _ => simp at e
      have : (fn.results.mapM (resSem a.tmps)).run P w = .ok ⟨vals⟩ w := by
        rw [show fn.results = ⟨fn.results.toList⟩ by simp, List.mapM_toArray]
        simp only [Sem.run_map, h1, Result.andThen_ok]
      unfold results
      simp only [Sem.run_bind]
      have he : (fn.results.mapM fun | .tmp t => pure (a.tmps.getD t undef) | .cell x t => do loadVar t (← asAddr (a.tmps.getD x undef)) : Sem (Array Value)) = fn.results.mapM (resSem a.tmps) := by
        congr 1
      first
        | (rw [he, this]; simp [hlen])
        | (erw [this]; simp [hlen])
    · cases h

end
end Go.Proofs.Ev
