/- Values that are built. -/
import Derived.Test.YtanknkgbleeffaaGreatDoorEvU
set_option linter.all false
namespace Go.Proofs.Ev
open Go
variable [Sg]

theorem cellsR_ok {E : Env} {W : View} {x : AV} {l : List AV} {v : Value} (h : cellsR x = .ok l) (hx : V E W x v) : Vs E W l v.cells.toList := by
  unfold cellsR at h
  split at h
  · rename_i cs
    split at h
    · simp only [R.ok.injEq] at h
      subst h
      simp only [V] at hx
      obtain ⟨vs, rfl, hvs⟩ := hx
      exact hvs
    · cases h
  · cases h
  · cases h
  · rename_i h1 h2 h3
    simp only [R.ok.injEq] at h
    subst h
    have : v.cells = #[v] := by
      cases x <;> simp only [V] at hx <;> first
        | (exact absurd rfl (h1 _))
        | (exact absurd rfl (h2 _))
        | (exact absurd rfl h3)
        | (subst hx; rfl)
        | (rw [hx.1]; rfl)
        | (rw [hx.1]; have hy := hx.2; revert hy; cases Sg.ω _ <;> intro hy <;> first | rfl | cases hy)
        | (obtain ⟨_, rfl⟩ := hx; rfl)
        | (obtain ⟨_, rfl, _⟩ := hx; rfl)
        | (obtain ⟨_, _, rfl⟩ := hx; rfl)
        | (obtain ⟨_, _, _, rfl⟩ := hx; rfl)
        | (obtain ⟨_, _, _, rfl, _⟩ := hx; rfl)
        | (obtain ⟨_, _, _, _, rfl, _⟩ := hx; rfl)
        | (obtain ⟨_, _, _, _, _, _, _, rfl, _⟩ := hx; rfl)
    rw [this]
    simp only [Vs]
    exact ⟨v, [], rfl, hx, rfl⟩

theorem one_ok {E : Env} {W : View} {x : AV} {v : Value} (h1 : ∀ cs, x ≠ .agg cs) (h2 : ∀ cs, x ≠ .tup cs) (h3 : x ≠ .junk) (hx : V E W x v) : v.oneCell' = true := by
  cases x <;> simp only [V] at hx <;> first
    | (exact absurd rfl (h1 _))
    | (exact absurd rfl (h2 _))
    | (exact absurd rfl h3)
    | (subst hx; rfl)
    | (rw [hx.1]; rfl)
    | (rw [hx.1]; have hy := hx.2; revert hy; cases Sg.ω _ <;> intro hy <;> first | rfl | cases hy)
    | (obtain ⟨_, rfl⟩ := hx; rfl)
    | (obtain ⟨_, rfl, _⟩ := hx; rfl)
    | (obtain ⟨_, _, rfl⟩ := hx; rfl)
    | (obtain ⟨_, _, _, rfl⟩ := hx; rfl)
    | (obtain ⟨_, _, _, rfl, _⟩ := hx; rfl)
    | (obtain ⟨_, _, _, _, rfl, _⟩ := hx; rfl)
    | (obtain ⟨_, _, _, _, _, _, _, rfl, _⟩ := hx; rfl)

theorem ones_ok {E : Env} {W : View} : ∀ {l : List AV} {vs : List Value}, ones l = true → Vs E W l vs → ∀ v ∈ vs, v.oneCell' = true
  | [], vs, _, hv => by simp [Vs] at hv; subst hv; simp
  | x :: r, vs, h, hv => by
    simp only [Vs] at hv
    obtain ⟨v, s, rfl, hx, hs⟩ := hv
    unfold ones at h
    split at h
    · rename_i e; cases e
    · cases h
    · cases h
    · cases h
    · rename_i y r' n1 n2 n3 e
      cases e
      intro u hu
      rcases List.mem_cons.1 hu with rfl | hu
      · exact one_ok (fun cs e => n1 cs e) (fun cs e => n2 cs e) (fun e => n3 e) hx
      · exact ones_ok h hs u hu

/-- each cell is one cell's value -/
theorem cellsR_one {E : Env} {W : View} {x : AV} {l : List AV} {v : Value} (h : cellsR x = .ok l) (hx : V E W x v) : ∀ u ∈ v.cells.toList, u.oneCell' = true := by
  have hl := cellsR_ok h hx
  refine ones_ok ?_ hl
  unfold cellsR at h
  split at h
  · split at h
    · simp only [R.ok.injEq] at h; subst h; assumption
    · cases h
  · cases h
  · cases h
  · rename_i n1 n2 n3
    simp only [R.ok.injEq] at h
    subst h
    unfold ones
    split
    · rfl
    · rename_i e; cases e; exact absurd rfl (n1 _)
    · rename_i e; cases e; exact absurd rfl (n2 _)
    · rename_i e; cases e; exact absurd rfl n3
    · rename_i e; cases e; rfl

theorem putN_ok {l x r : List AV} {off : Nat} (h : putN l off x = .ok r) : off + x.length ≤ l.length ∧ r = l.take off ++ x ++ l.drop (off + x.length) := by
  unfold putN at h
  split at h
  · rename_i hle
    simp only [R.ok.injEq] at h
    exact ⟨hle, h.symm⟩
  · cases h

theorem foldl_set (off : Nat) : ∀ (xs : List Value) (k : Nat) (arr : Array Value), off + k + xs.length ≤ arr.size →
    ((xs.zipIdx k).foldl (fun cs (p : Value × Nat) => cs.setIfInBounds (off + p.2) p.1) arr).toList = arr.toList.take (off + k) ++ xs ++ arr.toList.drop (off + k + xs.length)
  | [], k, arr, _ => by simp
  | x :: r, k, arr, h => by
    simp only [List.length_cons] at h
    simp only [List.zipIdx_cons, List.foldl_cons]
    rw [foldl_set off r (k + 1) _ (by simp; omega)]
    simp only [Array.toList_setIfInBounds, List.length_cons]
    have e1 : (arr.toList.set (off + k) x).take (off + (k + 1)) = arr.toList.take (off + k) ++ [x] := by
      rw [show off + (k + 1) = (off + k) + 1 by omega, List.take_succ_eq_append_getElem (by simp; omega)]
      simp only [List.getElem_set_self, List.append_cancel_right_eq]
      apply List.ext_getElem?
      intro i
      simp only [List.getElem?_take, List.getElem?_set]
      split
      · rw [if_neg (by omega)]
      · rfl
    have e2 : (arr.toList.set (off + k) x).drop (off + (k + 1) + r.length) = arr.toList.drop (off + k + (r.length + 1)) := by
      rw [List.drop_set_of_lt (by omega)]
      congr 1
      omega
    rw [e1, e2]
    simp

/-- parts, as they are evaluated -/
inductive Parts (E : Env) (W : View) : List (Nat × AV) → List (Nat × Value) → Prop where
  | nil : Parts E W [] []
  | cons {i : Nat} {x : AV} {v : Value} {r : List (Nat × AV)} {s : List (Nat × Value)} : V E W x v → Parts E W r s → Parts E W ((i, x) :: r) ((i, v) :: s)

theorem evParts_ok {c : Cx} {E : Env} {W : View} {fr : Fr} {a : Act} (hg : GlobOk c E) (ht : ∀ t, V E W (tmOf fr t) (a.tmps.getD t undef)) : ∀ l : List (Nat × Operand), Parts E W (evParts c fr l) (l.map fun p => (p.1, a.eval p.2))
  | [] => .nil
  | (i, x) :: r => .cons (ev_ok hg ht x) (evParts_ok hg ht r)

theorem cleanParts_ok {E : Env} {W : View} : ∀ {l l' : List (Nat × AV)} {s : List (Nat × Value)}, cleanParts l = .ok l' → Parts E W l s → Parts E .nil l' s
  | [], l', s, h, hp => by simp only [cleanParts, R.ok.injEq] at h; subst h; cases hp; exact .nil
  | (i, x) :: r, l', s, h, hp => by
    cases hp with
    | cons hv hr =>
      simp only [cleanParts] at h
      cases h1 : clean x with
      | no e => simp [h1] at h
      | ok x' =>
        cases h2 : cleanParts r with
        | no e => simp [h1, h2] at h
        | ok r' =>
          simp only [h1, h2, R.ok.injEq] at h
          subst h
          exact .cons (V.clean h1 hv) (cleanParts_ok h2 hr)

theorem fill_step {E : Env} {W : View} {cs x r : List AV} {off : Nat} {arr vx : Array Value} (h : putN cs off x = .ok r) (hc : Vs E W cs arr.toList) (hx : Vs E W x vx.toList) :
    off + vx.size ≤ arr.size ∧ Vs E W r (vx.zipIdx.foldl (fun cs (p : Value × Nat) => cs.setIfInBounds (off + p.2) p.1) arr).toList := by
  obtain ⟨hle, rfl⟩ := putN_ok h
  have h1 := hc.length
  have h2 := hx.length
  simp only [Array.length_toList] at h1 h2
  refine ⟨by omega, ?_⟩
  have e : vx.zipIdx.foldl (fun cs (p : Value × Nat) => cs.setIfInBounds (off + p.2) p.1) arr = (vx.toList.zipIdx 0).foldl (fun cs (p : Value × Nat) => cs.setIfInBounds (off + p.2) p.1) arr := by
    rw [← Array.foldl_toList, Array.toList_zipIdx]
  rw [e, foldl_set off vx.toList 0 arr (by simp; omega)]
  simp only [Nat.add_zero, Array.length_toList]
  have h3 := ((hc.take off).append hx).append (hc.drop (off + x.length))
  rw [h2]
  rw [h2] at h3
  exact h3

theorem fillA_ok {E : Env} {W : View} {place : Nat → R (Nat × Nat)} {place' : Nat → Option (Nat × Nat)} (hp : ∀ i p, place i = .ok p → place' i = some p) :
    ∀ {ps : List (Nat × AV)} {vps : List (Nat × Value)} {cs r : List AV} {arr : Array Value}, fillA place cs ps = .ok r → Parts E W ps vps → Vs E W cs arr.toList →
      ∃ a', Instr.fill place' arr vps = some a' ∧ Vs E W r a'.toList
  | [], vps, cs, r, arr, h, hps, hc => by
    cases hps
    simp only [fillA, R.ok.injEq] at h
    subst h
    exact ⟨arr, rfl, hc⟩
  | (i, x) :: ps, vps, cs, r, arr, h, hps, hc => by
    cases hps with
    | cons hv hr =>
      rename_i v s
      simp only [fillA] at h
      cases hpl : place i with
      | no e => simp [hpl] at h
      | ok p =>
        obtain ⟨off, size⟩ := p
        simp only [hpl] at h
        cases hcr : cellsR x with
        | no e => simp [hcr] at h
        | ok l =>
          simp only [hcr] at h
          split at h
          · rename_i hl
            have hl := Nat.eq_of_beq_eq_true hl
            cases hput : putN cs off l with
            | no e => simp [hput] at h
            | ok cs' =>
              simp only [hput] at h
              have hcells := cellsR_ok hcr hv
              obtain ⟨hsz, hstep⟩ := fill_step hput hc hcells
              obtain ⟨a', ha, hV⟩ := fillA_ok hp h hr hstep
              refine ⟨a', ?_, hV⟩
              have hvl := hcells.length
              simp only [Array.length_toList] at hvl
              simp only [Instr.fill, hp _ _ hpl]
              have hc1 : ¬ ((v.cells.size != size) || decide (off + v.cells.size > arr.size)) = true := by
                simp only [Bool.or_eq_true, bne_iff_ne, ne_eq, decide_eq_true_eq, not_or, Decidable.not_not]
                omega
              have hc2 : ¬ ((decide (v.cells.size ≠ size)) || decide (off + v.cells.size > arr.size)) = true := by
                simp only [Bool.or_eq_true, ne_eq, decide_not, Bool.not_eq_true', decide_eq_false_iff_not, decide_eq_true_eq, not_or, Decidable.not_not]
                omega
              first
                | (rw [if_neg hc2]; exact ha)
                | (rw [if_neg hc1]; exact ha)
          · cases h

theorem zeroCells_ok (E : Env) (W : View) (z : Value) : Vs E W (cellsOf (ofV z)) z.cells.toList := by
  have h := ofV_ok E W z
  by_cases hz : ∃ cs, ofV z = .agg cs
  · obtain ⟨cs, hcs⟩ := hz
    rw [hcs] at h ⊢
    simp only [V] at h
    obtain ⟨vs, rfl, hvs⟩ := h
    exact hvs
  · have e1 : cellsOf (ofV z) = [ofV z] := by
      cases hx : ofV z <;> first
        | rfl
        | exact absurd ⟨_, hx⟩ hz
    have e2 : z.cells = #[z] := by
      cases z <;> first
        | rfl
        | (rename_i cs; exact absurd ⟨ofVs cs.toList, by cases cs; simp [ofV]⟩ hz)
    rw [e1, e2]
    simp only [Vs]
    exact ⟨z, [], rfl, h, rfl⟩

theorem aggR_ok {x : R (List AV)} {z : AV} (h : aggR x = .ok z) : ∃ cs, x = .ok cs ∧ z = .agg cs := by
  unfold aggR at h
  cases x with
  | no e => cases h
  | ok cs => simp only [R.ok.injEq] at h; exact ⟨cs, rfl, h.symm⟩

theorem run_places {P : Program} {w : World} (fs : Array Field) (h : ∀ f ∈ fs.toList, (P.info? f.type).isSome = true) :
    (fs.mapM fun f => do pure (f.offset, ← sizeOf f.type) : Sem (Array (Nat × Nat))).run P w = .ok (fs.map fun f => (f.offset, P.cellsOf f.type)) w := by
  obtain ⟨l⟩ := fs
  have key : ∀ (l : List Field), (∀ f ∈ l, (P.info? f.type).isSome = true) →
      (l.mapM fun f => do pure (f.offset, ← sizeOf f.type) : Sem (List (Nat × Nat))).run P w = .ok (l.map fun f => (f.offset, P.cellsOf f.type)) w := by
    intro l
    induction l with
    | nil => intro _; rfl
    | cons f r ih =>
      intro hl
      have h1 := hl f (by simp)
      cases hi : P.info? f.type with
      | none => simp [hi] at h1
      | some i =>
        simp only [List.mapM_cons, Sem.run_bind, run_sizeOf' w hi, Result.andThen_ok, Sem.run_pure, ih fun g hg => hl g (by simp [hg]), List.map_cons]
        simp [Program.cellsOf, hi]
  have := key l h
  rw [List.mapM_toArray]
  simp only [Sem.run_map, this, Result.andThen_ok, List.map_toArray]

theorem buildOp_ok {P : Program} {c : Cx} (g : Good P c) {E : Env} {W : View} {fr : Fr} {a : Act} (hg : GlobOk c E) (ht : ∀ t, V E W (tmOf fr t) (a.tmps.getD t undef)) {t : TypeId} {parts : Array (Nat × Operand)} {x : AV}
    (h : buildOp c fr t parts.toList = .ok x) (w : World) :
    ∃ v, (Instr.build t (parts.map fun (i, x) => (i, a.eval x))).run P w = .ok v w ∧ V E W x v := by
  unfold buildOp at h
  cases hty : c.ty t with
  | no e => simp [hty] at h
  | ok ty =>
    obtain ⟨i, d, z, hinf, hd, hz, _, _, hshp, hzero⟩ := tyOf_ok (g.ty _ _ hty)
    have hfl := tyOf_flds (g.ty _ _ hty) hd
    simp only [hty] at h
    have hparts := evParts_ok (E := E) (W := W) hg ht parts.toList
    have hpm : (parts.map fun (i, x) => (i, a.eval x)).toList = parts.toList.map fun p => (p.1, a.eval p.2) := by simp
    rw [← hpm] at hparts
    have hzc := zeroCells_ok E W z
    rw [← hzero] at hzc
    split at h
    · rename_i offs ho
      rw [ho] at hshp
      obtain ⟨fs, rfl, rfl⟩ := shpD_strct hshp.symm
      obtain ⟨cs, hcs, rfl⟩ := aggR_ok h
      have hp : ∀ j p, nthField (fs.toList.map fun f => (f.offset, P.cellsOf f.type)) j = .ok p → ((fs.map fun f => (f.offset, P.cellsOf f.type))[j]?) = some p := by
        intro j p hj
        unfold nthField at hj
        split at hj
        · rename_i q hq
          simp only [R.ok.injEq] at hj
          subst hj
          simpa using hq
        · cases hj
      obtain ⟨a', ha, hV⟩ := fillA_ok hp hcs hparts hzc
      have hfl' : ∀ f ∈ fs.toList, (P.info? f.type).isSome = true := by
        simp only [fldsOk, List.all_eq_true] at hfl; exact hfl
      refine ⟨.agg a', ?_, ?_⟩
      · simp only [Instr.build, Sem.run_bind, run_zeroValue w hinf hz, Result.andThen_ok, run_underlying hd]
        rw [run_places fs hfl']
        simp only [Result.andThen_ok, ha, Sem.run_pure]
      · simp only [V]
        exact ⟨a'.toList, by simp, hV⟩
    · rename_i n e ho
      rw [ho] at hshp
      have := shpD_arr hshp.symm; subst this
      cases hety : c.ty e with
      | no e' => simp [hety] at h
      | ok ety =>
        obtain ⟨einf, de, _, heinf, hde, _, hsz, _⟩ := tyOf_ok (g.ty _ _ hety)
        simp only [hety] at h
        obtain ⟨cs, hcs, rfl⟩ := aggR_ok h
        obtain ⟨a', ha, hV⟩ := fillA_ok (place' := fun i => some (i * einf.size, einf.size)) (fun j p hj => by simp only [R.ok.injEq] at hj; rw [← hj, hsz]) hcs hparts hzc
        refine ⟨.agg a', ?_, ?_⟩
        · simp only [Instr.build, Sem.run_bind, run_zeroValue w hinf hz, Result.andThen_ok, run_underlying hd, run_sizeOf' w heinf, ha, Sem.run_pure]
        · simp only [V]
          exact ⟨a'.toList, by simp, hV⟩
    · cases h

theorem lenOp_ok {P : Program} {c : Cx} (g : Good P c) {E : Env} {W : View} {t : TypeId} {x z : AV} {v : Value} {ats : Array TypeId} {args : Array Value} (h : lenOp c t x = .ok z) (h0 : ats[0]? = some t) (h1 : args[0]? = some v) (hx : V E W x v) (ty : TypeId) (w : World) :
    ∃ u, (Builtin.len_ ats ty args).run P w = .ok u w ∧ V E W z u := by
  unfold lenOp at h
  cases hty : c.ty t with
  | no e => simp [hty] at h
  | ok y =>
    obtain ⟨d, hd, es⟩ := underlying_shp g hty
    simp only [hty] at h
    unfold lenX at h
    split at h
    · rename_i s
      unfold oqLenAs at h
      simp only [V] at hx
      obtain ⟨rfl, _⟩ := hx
      split at h
      · rename_i z' hs hz'
        simp only [R.ok.injEq] at h
        subst h
        rw [hs] at es
        have := shpD_str es.symm; subst this
        obtain ⟨l, hl, hV⟩ := g.oqLen s true _ hz'
        rw [hl] at h1
        exact ⟨_, by simp only [Builtin.len_, h0, h1, Sem.run_bind, run_underlying hd, Result.andThen_ok]; rfl, hV E W⟩
      · rename_i e z' hs hz'
        simp only [R.ok.injEq] at h
        subst h
        rw [hs] at es
        have := shpD_sl es.symm; subst this
        obtain ⟨base, n, cap, hl, hV⟩ := g.oqLen s false _ hz'
        rw [hl] at h1
        exact ⟨_, by simp only [Builtin.len_, h0, h1, Sem.run_bind, run_underlying hd, Result.andThen_ok]; rfl, hV E W⟩
      · cases h
    rename_i hno
    clear hno
    unfold lenAs at h
    split at h
    · rename_i s hs
      simp only [R.ok.injEq] at h
      subst h
      rw [hs] at es
      have := shpD_str es.symm; subst this
      simp only [V] at hx
      obtain ⟨l, rfl, rfl⟩ := hx
      refine ⟨_, by simp only [Builtin.len_, h0, h1, Sem.run_bind, run_underlying hd, Result.andThen_ok]; rfl, ?_⟩
      simp [V, goInt, ByteArray.size]
    · rename_i e tk xs hs
      simp only [R.ok.injEq] at h
      subst h
      rw [hs] at es
      have := shpD_sl es.symm; subst this
      simp only [V] at hx
      obtain ⟨_, _, _, _, rfl, _⟩ := hx
      refine ⟨_, by simp only [Builtin.len_, h0, h1, Sem.run_bind, run_underlying hd, Result.andThen_ok]; rfl, ?_⟩
      simp [V, goInt]
    · rename_i e o ver off n sz hs
      simp only [R.ok.injEq] at h
      subst h
      rw [hs] at es
      have := shpD_sl es.symm; subst this
      simp only [V] at hx
      obtain ⟨_, _, _, _, _, _, _, rfl, _⟩ := hx
      refine ⟨_, by simp only [Builtin.len_, h0, h1, Sem.run_bind, run_underlying hd, Result.andThen_ok]; rfl, ?_⟩
      simp [V, goInt]
    · cases h

end Go.Proofs.Ev
