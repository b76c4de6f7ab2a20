/- One operation: the evaluator's answer and the machine's step. -/
import Derived.Test.YtanknkgbleeffaaGreatDoorEvK
set_option linter.all false
namespace Go.Proofs.Ev
open Go
variable [Sg]

/-- what operations leave alone in a frame -/
structure Kin (fr fr' : Fr) : Prop where
  tm : fr'.tm = fr.tm
  ct : fr'.ct = fr.ct
  rc : fr'.rc = fr.rc
  rd : fr'.rd = fr.rd
  df : fr'.df = fr.df

theorem Kin.refl (fr : Fr) : Kin fr fr := ⟨rfl, rfl, rfl, rfl, rfl⟩

section kin
variable {cx : Cx} {f : FuncId} {Q : Name} {id : Nat} {d : Option Tmp} {fr fr' : Fr} {H H' : Heap} {v : AV}

theorem newVar_kin {cs : List AV} (h : newVar cx f Q d id cs fr H = .ok (.val v fr' H')) : Kin fr fr' := by
  unfold newVar at h
  repeat' split at h
  all_goals first
    | (cases h; done)
    | (simp only [R.ok.injEq, Out.val.injEq] at h; obtain ⟨_, rfl, _⟩ := h; exact ⟨rfl, rfl, rfl, rfl, rfl⟩)

theorem storeN_kin {p : AV} {x : List AV} (h : storeN fr H p x = .ok (.val v fr' H')) : Kin fr fr' := by
  unfold storeN at h
  repeat' split at h
  all_goals first
    | (cases h; done)
    | (simp only [R.ok.injEq, Out.val.injEq] at h; obtain ⟨_, rfl, _⟩ := h; exact ⟨rfl, rfl, rfl, rfl, rfl⟩)

theorem storeOp_kin {t : TypeId} {p x : AV} (h : storeOp cx fr H t p x = .ok (.val v fr' H')) : Kin fr fr' := by
  unfold storeOp at h
  repeat' split at h
  all_goals first
    | (cases h; done)
    | exact storeN_kin h

theorem growOp_kin {t sz : Nat} {tk : Tok} {xs ys : List (List AV)} (h : growOp cx f Q id t sz tk xs ys fr H = .ok (.val v fr' H')) : Kin fr fr' := by
  unfold growOp at h
  repeat' split at h
  all_goals first
    | (cases h; done)
    | (simp only [R.ok.injEq, Out.val.injEq] at h; obtain ⟨_, rfl, _⟩ := h; exact ⟨rfl, rfl, rfl, rfl, rfl⟩)

theorem appendOp_kin {t : TypeId} {s x : AV} (h : appendOp cx f Q id d t s x fr H = .ok (.val v fr' H')) : Kin fr fr' := by
  unfold appendOp at h
  repeat' split at h
  all_goals first
    | (cases h; done)
    | exact growOp_kin h
    | (simp only [R.ok.injEq, Out.val.injEq] at h; obtain ⟨_, rfl, _⟩ := h; exact ⟨rfl, rfl, rfl, rfl, rfl⟩)

theorem copyOp_kin {t : TypeId} {s x : AV} (h : copyOp cx t s x fr H = .ok (.val v fr' H')) : Kin fr fr' := by
  unfold copyOp at h
  repeat' split at h
  all_goals first
    | (cases h; done)
    | (simp only [R.ok.injEq, Out.val.injEq] at h; obtain ⟨_, rfl, _⟩ := h; exact ⟨rfl, rfl, rfl, rfl, rfl⟩)

theorem clearOp_kin {t : TypeId} {x : AV} (h : clearOp cx t x fr H = .ok (.val v fr' H')) : Kin fr fr' := by
  unfold clearOp at h
  repeat' split at h
  all_goals first
    | (cases h; done)
    | (simp only [R.ok.injEq, Out.val.injEq] at h; obtain ⟨_, rfl, _⟩ := h; exact ⟨rfl, rfl, rfl, rfl, rfl⟩)

theorem makeOp_kin {t : TypeId} {l k : AV} (h : makeOp cx f Q id d t l k fr H = .ok (.val v fr' H')) : Kin fr fr' := by
  unfold makeOp at h
  repeat' split at h
  all_goals first
    | (cases h; done)
    | (simp only [R.ok.injEq, Out.val.injEq] at h; obtain ⟨_, rfl, _⟩ := h; exact ⟨rfl, rfl, rfl, rfl, rfl⟩)

theorem buildSliceOp_kin {t : TypeId} {len : Nat} {parts : List (Nat × Operand)} (h : buildSliceOp cx f Q id d fr H t len parts = .ok (.val v fr' H')) : Kin fr fr' := by
  unfold buildSliceOp at h
  repeat' split at h
  all_goals first
    | (cases h; done)
    | (simp only [R.ok.injEq, Out.val.injEq] at h; obtain ⟨_, rfl, _⟩ := h; exact ⟨rfl, rfl, rfl, rfl, rfl⟩)

theorem handed_kin {x : AV} (h : handed d id x fr H = .ok (.val v fr' H')) : Kin fr fr' := by
  unfold handed at h
  repeat' split at h
  all_goals first
    | (cases h; done)
    | (simp only [R.ok.injEq, Out.val.injEq] at h; obtain ⟨_, rfl, _⟩ := h; exact ⟨rfl, rfl, rfl, rfl, rfl⟩)

theorem outV_ok {x : R AV} (h : outV fr H x = .ok (.val v fr' H')) : x = .ok v ∧ fr' = fr ∧ H' = H := by
  unfold outV at h
  split at h
  · simp only [R.ok.injEq, Out.val.injEq] at h
    obtain ⟨rfl, rfl, rfl⟩ := h
    exact ⟨rfl, rfl, rfl⟩
  · cases h

theorem outV_pan {x : R AV} (h : outV fr H x = .ok (.pan v H')) : False := by
  unfold outV at h
  split at h <;> cases h
end kin

/-- what a frame may recover, and what its callers are then -/
def RecI (E : Env) (b : Frame) (stk : Bool → List Frame) (fr : Fr) : Prop :=
  fr.rd = false → b.roundOf = none ∧ (match fr.rc with
    | none => ∀ fr0 : Frame, fr0.kind = b.kind → tryRecover fr0 (stk false) = none
    | some x => ∃ v, V E .nil x v ∧ ∀ fr0 : Frame, fr0.kind = b.kind → tryRecover fr0 (stk false) = some (v, stk true))

theorem RecI.mono {E E' : Env} (h : E.le E') {b : Frame} {stk : Bool → List Frame} {fr fr' : Fr} (hk : fr'.rc = fr.rc) (hd : fr'.rd = fr.rd) (hr : RecI E b stk fr) : RecI E' b stk fr' := by
  intro hrd
  rw [hd] at hrd
  obtain ⟨h1, h2⟩ := hr hrd
  refine ⟨h1, ?_⟩
  rw [hk]
  cases hrc : fr.rc with
  | none => rw [hrc] at h2; exact h2
  | some x => rw [hrc] at h2; obtain ⟨v, hv, h3⟩ := h2; exact ⟨v, V.mono h hv, h3⟩

section
variable {P : Program} {cx : Cx} {Q : Name} {N : Nat} {S : Nat → Prop} {E : Env} {own : Nat → Tag} {H H' : Heap} {m : Mine} {fr fr' : Fr} {a : Act} {w : World} {id : Nat} {v : AV} {b : Frame} {stk : Bool → List Frame} {o : Oper} {call : Caller} {ops : Array Oper} {i : Nat} {rest : List Nat} {k : List Item}

/-- an operation's outcome: a value -/
def StepV (P : Program) (cx : Cx) (Q : Name) (N : Nat) (S : Nat → Prop) (E : Env) (own : Nat → Tag) (H : Heap) (fr : Fr) (a : Act) (w : World) (b : Frame) (stk : Bool → List Frame) (ops : Array Oper) (i : Nat) (rest : List Nat) (k : List Item) (o : Oper) (v : AV) (fr' : Fr) (H' : Heap) : Prop :=
  ∃ E' own' m' df' w' val, St cx Q N S E' own' H' m' fr' { a with defers := df' } w' ∧ V E' (viewOf m' fr'.fl) v val ∧ Grow Q own own' E E' w w' ∧ SameH E E' H H' ∧ RecI E' b stk fr' ∧ fr'.ct = fr.ct ∧ fr'.tm = fr.tm ∧
    Steps P (lone (b.atR a (.inRegion ops (i :: rest) :: k)) (stk fr.rd) w) (lone (b.atR (({ a with defers := df' } : Act).put o.dst val) (.inRegion ops rest :: k)) (stk fr'.rd) w')

/-- an operation's outcome: a panic -/
def StepP (P : Program) (cx : Cx) (Q : Name) (N : Nat) (S : Nat → Prop) (E : Env) (own : Nat → Tag) (H : Heap) (fr : Fr) (a : Act) (w : World) (b : Frame) (stk : Bool → List Frame) (ops : Array Oper) (i : Nat) (rest : List Nat) (k : List Item) (v : AV) (H' : Heap) : Prop :=
  ∃ E' own' m' w' val, St cx Q N S E' own' H' m' fr a w' ∧ V E' .nil v val ∧ Grow Q own own' E E' w w' ∧ SameH E E' H H' ∧ RecI E' b stk fr ∧
    Steps P (lone (b.atR a (.inRegion ops (i :: rest) :: k)) (stk fr.rd) w) (lone { b.atR a (.inRegion ops (i :: rest) :: k) with mode := .panicking [{ v := val, recovered := false }] } (stk fr.rd) w')

theorem StepV.of_next (ho : ops[i]? = some o) (hw : Region.wanted o (yielded ops a.tmps) = true) {E' : Env} {m' : Mine} {w' : World} {val : Value} (hn : Next cx Q N S E own H a w w' E' m' fr' H') (hv : V E' (viewOf m' fr'.fl) v val) (hk : Kin fr fr') (hr : RecI E b stk fr) (hd : ∀ c, o.op ≠ .defer c)
    (he : (execOp a.eval o).run P w = .ok (.value val) w' ∨ ((execOp a.eval o).run P w = .ok .skip w' ∧ val = undef)) : StepV P cx Q N S E own H fr a w b stk ops i rest k o v fr' H' := by
  obtain ⟨own', h1, h2, h3⟩ := hn
  refine ⟨E', own', m', a.defers, w', val, h1, hv, h2, h3, hr.mono h2.env hk.rc hk.rd, hk.ct, hk.tm, ?_⟩
  rw [hk.rd]
  refine .one (step_lone_go ?_)
  rw [stepGR_op ho hw, Oper.semAt_eq _ _ _ hd]
  have hfin : (b.atR a (.inRegion ops (i :: rest) :: k)).finish val = b.atR (({ a with defers := a.defers } : Act).put o.dst val) (.inRegion ops rest :: k) := by
    rw [Frame.finish_atR, ho]; rfl
  rcases he with he | ⟨he, rfl⟩
  · rw [← hfin]; simp [stepG.apply, he]
  · rw [← hfin]; simp [stepG.apply, he]

theorem StepV.of_quiet (ho : ops[i]? = some o) (hw : Region.wanted o (yielded ops a.tmps) = true) {val : Value} (hs : St cx Q N S E own H m fr a w) (hv : V E (viewOf m fr.fl) v val) (hr : RecI E b stk fr) (hd : ∀ c, o.op ≠ .defer c)
    (he : (execOp a.eval o).run P w = .ok (.value val) w) : StepV P cx Q N S E own H fr a w b stk ops i rest k o v fr H :=
  StepV.of_next ho hw (Next.quiet hs fun _ h => h) hv (Kin.refl _) hr hd (.inl he)

theorem run_v {s : Sem Value} {w' : World} {u : Value} (h : s.run P w = .ok u w') : (do pure (Go.Next.value (← s)) : Sem Go.Next).run P w = .ok (.value u) w' := by
  simp [h]

theorem St.ev (hs : St cx Q N S E own H m fr a w) (x : Operand) : V E (viewOf m fr.fl) (fr.ev cx x) (a.eval x) := ev_ok hs.glb hs.frm.tms x

theorem callFunc_ok {f : FuncId} (h : Enters P f) (args : Array Value) : (callFunc f args).run P w = .ok (.enter f args) w := by
  obtain ⟨fn, h1, h2, h3⟩ := h
  have hp : (program).run P w = .ok P w := rfl
  simp only [callFunc, Sem.run_bind, hp, Result.andThen_ok, h1]
  simp [h2, h3]

theorem handed_ok {d : Option Tmp} {E' : Env} {own' : Nat → Tag} {w' : World} {x : AV} {val : Value} {H1 : Heap} (hh : handed d id x fr H1 = .ok (.val v fr' H')) (hs : St cx Q N S E own H m fr a w) (hid : S id) (hp : Post (id :: Q) E E' (fun b => (own b).mask) own' H H1 w w') (hv : RetV E' own' w' x val) :
    ∃ m', Next cx Q N (fun i => S i ∧ i ≠ id) E own H a w w' E' m' fr' H' ∧ V E' (viewOf m' fr'.fl) v val := by
  obtain ⟨h1, h2, h3⟩ := hs.after hp
  unfold handed at hh
  split at hh
  · rename_i xs
    obtain ⟨ad, cap, sz, c, ty, t0, vs, rfl, h0, hsp, hown, hblk, hz, hle, hcap, hM, hl, hvs, hfz⟩ := hv.2 xs rfl
    split at hh
    · rename_i t
      simp only [R.ok.injEq, Out.val.injEq] at hh
      obtain ⟨rfl, rfl, rfl⟩ := hh
      have hge : w.heap.size ≤ ad.block := by
        rcases Nat.lt_or_ge ad.block w.heap.size with hlt | hge
        · have := hp.grow.tags _ hlt
          rw [hown] at this
          cases hx : own ad.block <;> simp [hx, Tag.mask] at this
        · exact hge
      have hco : comb own own' w ad.block = .other := by
        unfold comb; rw [if_neg (by omega), hown]; rfl
      have h4 := h1.handTok (t := t) (k := id) (n := xs.length) (cap := cap) (sz := sz) (hs.fresh.K id hid) hco hblk hsp h0 hz hle hcap hM
      refine ⟨_, ⟨_, h4.mono (fun i hi => ⟨hi, hi.2⟩), ⟨h2.env, h2.size, h2.keep, fun b' hb' => (at1_other _ _ (by omega)).trans (h2.tags b' hb'), h2.frz, h2.names, h2.lnames, h2.outer⟩, h3⟩, ?_⟩
      exact tok_val (by rw [Tr.get_set_path]; simp) (by simp) hsp hle hl hvs hfz
    · simp only [R.ok.injEq, Out.val.injEq] at hh
      obtain ⟨rfl, rfl, rfl⟩ := hh
      refine ⟨m, ⟨_, h1, h2, h3⟩, ?_⟩
      have := hv.1
      simp only [V] at this ⊢
      obtain ⟨base, cap', vs', sz', e1, e2, e3, e4, e5, _⟩ := this
      exact ⟨base, cap', vs', sz', e1, e2, e3, e4, e5, trivial⟩
  · simp only [R.ok.injEq, Out.val.injEq] at hh
    obtain ⟨rfl, rfl, rfl⟩ := hh
    exact ⟨m, ⟨_, h1, h2, h3⟩, V.view (View.nil_le _) hv.1⟩

theorem getLoop_run {l : Nat} {L : Loop} (h : w.heap[l]? = some (.loop L)) : (Instr.getLoop l).run P w = .ok L w := by
  simp [Instr.getLoop, getObj, Sem.run, h, Bind.bind, Sem.bind]

theorem doCall_val (co : CallOk P cx call) (ho : ops[i]? = some o) (hw : Region.wanted o (yielded ops a.tmps) = true) {gv : AV} {gval : Value} {args : List AV} {vals : List Value} (h : doCall call Q id o.dst gv args fr H = .ok (.val v fr' H')) (hs : St cx Q N S E own H m fr a w) (hid : S id) (hr : RecI E b stk fr)
    (hg : V E (viewOf m fr.fl) gv gval) (ha : Vs E (viewOf m fr.fl) args vals) (hd : ∀ c, o.op ≠ .defer c)
    (he : (execOp a.eval o).run P w = (do let d ← Deferred.ofValue gval ⟨vals⟩; invoke d.target d.args : Sem Go.Next).run P w) : StepV P cx Q N (fun i => S i ∧ i ≠ id) E own H fr a w b stk ops i rest k o v fr' H' := by
  unfold doCall at h
  split at h
  · cases h
  rename_i args' hcl
  have ha' := Vs.clean hcl ha
  split at h
  · cases h
  rename_i who cap hwho
  split at h
  · cases h
  · rename_i x H1 hcall
    have hfin : ∀ (val : Value), (b.atR a (.inRegion ops (i :: rest) :: k)).finish val = b.atR (({ a with defers := a.defers } : Act).put o.dst val) (.inRegion ops rest :: k) := by
      intro val
      rw [Frame.finish_atR, ho]; rfl
    unfold whoOf at hwho
    split at hwho
    · rename_i g cap'
      simp only [R.ok.injEq, Prod.mk.injEq] at hwho
      obtain ⟨rfl, rfl⟩ := hwho
      simp only [V] at hg
      obtain ⟨cvs, rfl, hcv⟩ := hg
      have hargs : Vs E .nil (args' ++ cap') (vals ++ cvs) := ha'.append hcv
      obtain ⟨hent, hall⟩ := co.fn g _ _ _ _ _ hcall E (fun b => (own b).mask) w (vals ++ cvs) (hs.pre hid) hargs
      have hrun : (execOp a.eval o).run P w = .ok (.enter g ⟨vals ++ cvs⟩) w := by
        rw [he]
        simp only [Deferred.ofValue, Sem.run_bind, Sem.run_pure, Result.andThen_ok, invoke]
        rw [callFunc_ok hent]
        simp
      obtain ⟨E', own', w', fx, val, hp, hfx, hst, hret, hlv⟩ := hall (b.atR a (.inRegion ops (i :: rest) :: k) :: stk fr.rd)
      have hkin := handed_kin h
      obtain ⟨m', hn, hv⟩ := handed_ok h hs hid hp hret
      obtain ⟨own2, h1, h2, h3⟩ := hn
      refine ⟨E', own2, m', a.defers, w', val, h1, hv, h2, h3, hr.mono h2.env hkin.rc hkin.rd, hkin.ct, hkin.tm, ?_⟩
      have henter : step P (lone (b.atR a (.inRegion ops (i :: rest) :: k)) (stk fr.rd) w) = .next (lone (Frame.enter P g ⟨vals ++ cvs⟩ .normal) (b.atR a (.inRegion ops (i :: rest) :: k) :: stk fr.rd) w) :=
        step_lone_go (by rw [stepGR_op ho hw, Oper.semAt_eq _ _ _ hd]; simp [stepG.apply, hrun, Frame.atR])
      rw [hkin.rd, ← hfin]
      exact .head henter (Steps.trans hst (.one (step_leave_returned hlv)))
    · rename_i l
      simp only [R.ok.injEq, Prod.mk.injEq] at hwho
      obtain ⟨rfl, rfl⟩ := hwho
      simp only [V] at hg
      obtain ⟨bl, hbl, rfl⟩ := hg
      simp only [List.append_nil] at hcall
      obtain ⟨L, hL, hlen, hall⟩ := co.yld l _ _ _ _ _ hcall E (fun b => (own b).mask) w vals bl (hs.pre hid) hbl ha'
      have hrun : (execOp a.eval o).run P w = .ok (.round bl L.fn ((L.params.zip ⟨vals⟩).foldl (fun tmps (t, a) => tmps.setIfInBounds t a) L.tmps) L.assign L.body) w := by
        rw [he]
        simp only [Deferred.ofValue, Sem.run_bind, Sem.run_pure, Result.andThen_ok, invoke, Instr.yield, getLoop_run hL]
        rw [if_neg (by simp [hlen])]
        simp
      obtain ⟨E', own', w', v', val, hrv, hp, hV, hno, hst⟩ := hall (b.atR a (.inRegion ops (i :: rest) :: k)) (stk fr.rd)
      cases hrv
      have hkin := handed_kin h
      obtain ⟨m', hn, hv⟩ := handed_ok h hs hid hp ⟨hV, fun xs e => absurd e (hno xs)⟩
      obtain ⟨own2, h1, h2, h3⟩ := hn
      refine ⟨E', own2, m', a.defers, w', val, h1, hv, h2, h3, hr.mono h2.env hkin.rc hkin.rd, hkin.ct, hkin.tm, ?_⟩
      have henter : step P (lone (b.atR a (.inRegion ops (i :: rest) :: k)) (stk fr.rd) w) = .next (lone (Frame.round bl L.fn ((L.params.zip ⟨vals⟩).foldl (fun tmps (t, a) => tmps.setIfInBounds t a) L.tmps) L.assign L.body .normal) (b.atR a (.inRegion ops (i :: rest) :: k) :: stk fr.rd) w) :=
        step_lone_go (by rw [stepGR_op ho hw, Oper.semAt_eq _ _ _ hd]; simp [stepG.apply, hrun, Frame.atR])
      rw [hkin.rd, ← hfin]
      exact .head henter hst
    · cases hwho
  · cases h

theorem doCall_pan (co : CallOk P cx call) (ho : ops[i]? = some o) (hw : Region.wanted o (yielded ops a.tmps) = true) {gv : AV} {gval : Value} {args : List AV} {vals : List Value} (h : doCall call Q id o.dst gv args fr H = .ok (.pan v H')) (hs : St cx Q N S E own H m fr a w) (hid : S id) (hr : RecI E b stk fr)
    (hg : V E (viewOf m fr.fl) gv gval) (ha : Vs E (viewOf m fr.fl) args vals) (hd : ∀ c, o.op ≠ .defer c)
    (he : (execOp a.eval o).run P w = (do let d ← Deferred.ofValue gval ⟨vals⟩; invoke d.target d.args : Sem Go.Next).run P w) : StepP P cx Q N (fun i => S i ∧ i ≠ id) E own H fr a w b stk ops i rest k v H' := by
  unfold doCall at h
  split at h
  · cases h
  rename_i args' hcl
  have ha' := Vs.clean hcl ha
  split at h
  · cases h
  rename_i who cap hwho
  split at h
  · cases h
  · rename_i x H1 hcall
    unfold handed at h
    repeat' split at h
    all_goals cases h
  · rename_i x H1 hcall
    simp only [R.ok.injEq, Out.pan.injEq] at h
    obtain ⟨rfl, rfl⟩ := h
    unfold whoOf at hwho
    split at hwho
    · rename_i g cap'
      simp only [R.ok.injEq, Prod.mk.injEq] at hwho
      obtain ⟨rfl, rfl⟩ := hwho
      simp only [V] at hg
      obtain ⟨cvs, rfl, hcv⟩ := hg
      have hargs : Vs E .nil (args' ++ cap') (vals ++ cvs) := ha'.append hcv
      obtain ⟨hent, hall⟩ := co.fn g _ _ _ _ _ hcall E (fun b => (own b).mask) w (vals ++ cvs) (hs.pre hid) hargs
      have hrun : (execOp a.eval o).run P w = .ok (.enter g ⟨vals ++ cvs⟩) w := by
        rw [he]
        simp only [Deferred.ofValue, Sem.run_bind, Sem.run_pure, Result.andThen_ok, invoke]
        rw [callFunc_ok hent]
        simp
      obtain ⟨E', own', w', fx, val, hp, hfx, hst, hret, hlv⟩ := hall (b.atR a (.inRegion ops (i :: rest) :: k) :: stk fr.rd)
      obtain ⟨h1, h2, h3⟩ := hs.after hp
      refine ⟨E', _, m, w', val, h1, hret, h2, h3, hr.mono h2.env rfl rfl, ?_⟩
      have henter : step P (lone (b.atR a (.inRegion ops (i :: rest) :: k)) (stk fr.rd) w) = .next (lone (Frame.enter P g ⟨vals ++ cvs⟩ .normal) (b.atR a (.inRegion ops (i :: rest) :: k) :: stk fr.rd) w) :=
        step_lone_go (by rw [stepGR_op ho hw, Oper.semAt_eq _ _ _ hd]; simp [stepG.apply, hrun, Frame.atR])
      refine .head henter (Steps.trans hst (.one ?_))
      rw [← Frame.raise_atR]
      exact step_leave_panicked hlv
    · rename_i l
      simp only [R.ok.injEq, Prod.mk.injEq] at hwho
      obtain ⟨rfl, rfl⟩ := hwho
      simp only [V] at hg
      obtain ⟨bl, hbl, rfl⟩ := hg
      simp only [List.append_nil] at hcall
      obtain ⟨L, hL, hlen, hall⟩ := co.yld l _ _ _ _ _ hcall E (fun b => (own b).mask) w vals bl (hs.pre hid) hbl ha'
      obtain ⟨E', own', w', v', val, hrv, _⟩ := hall (b.atR a (.inRegion ops (i :: rest) :: k)) (stk fr.rd)
      cases hrv
    · cases hwho

end
end Go.Proofs.Ev
