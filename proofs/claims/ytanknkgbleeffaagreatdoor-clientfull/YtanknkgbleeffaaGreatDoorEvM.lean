/- Every operation: the evaluator's answer and the machine's step. -/
import Derived.Test.YtanknkgbleeffaaGreatDoorEvL
set_option linter.all false
namespace Go.Proofs.Ev
open Go
variable [Sg]

section nopan
variable {cx : Cx} {f : FuncId} {Q : Name} {id : Nat} {d : Option Tmp} {fr fr' : Fr} {H H' : Heap} {v : AV}

theorem newVar_np {cs : List AV} (h : newVar cx f Q d id cs fr H = .ok (.pan v H')) : False := by
  unfold newVar at h
  repeat' split at h
  all_goals cases h
theorem storeOp_np {t : TypeId} {p x : AV} (h : storeOp cx fr H t p x = .ok (.pan v H')) : False := by
  unfold storeOp storeN at h
  repeat' split at h
  all_goals cases h
theorem appendOp_np {t : TypeId} {s x : AV} (h : appendOp cx f Q id d t s x fr H = .ok (.pan v H')) : False := by
  unfold appendOp growOp at h
  repeat' split at h
  all_goals cases h
theorem copyOp_np {t : TypeId} {s x : AV} (h : copyOp cx t s x fr H = .ok (.pan v H')) : False := by
  unfold copyOp at h
  repeat' split at h
  all_goals cases h
theorem clearOp_np {t : TypeId} {x : AV} (h : clearOp cx t x fr H = .ok (.pan v H')) : False := by
  unfold clearOp at h
  repeat' split at h
  all_goals cases h
theorem makeOp_np {t : TypeId} {l k : AV} (h : makeOp cx f Q id d t l k fr H = .ok (.pan v H')) : False := by
  unfold makeOp at h
  repeat' split at h
  all_goals cases h
theorem buildSliceOp_np {t : TypeId} {len : Nat} {parts : List (Nat × Operand)} (h : buildSliceOp cx f Q id d fr H t len parts = .ok (.pan v H')) : False := by
  unfold buildSliceOp at h
  repeat' split at h
  all_goals cases h
end nopan

section
variable {P : Program} {cx : Cx} {Q : Name} {N : Nat} {S : Nat → Prop} {E : Env} {own : Nat → Tag} {H H' : Heap} {m : Mine} {fr fr' : Fr} {a : Act} {w : World} {id : Nat} {v : AV} {b : Frame} {stk : Bool → List Frame} {o : Oper} {call : Caller} {ops : Array Oper} {i : Nat} {rest : List Nat} {k : List Item}
  {f : FuncId}

theorem StepV.sub {S' : Nat → Prop} (h : StepV P cx Q N S E own H fr a w b stk ops i rest k o v fr' H') (hs : ∀ i, S' i → S i) : StepV P cx Q N S' E own H fr a w b stk ops i rest k o v fr' H' := by
  obtain ⟨E', own', m', df', w', val, h1, h2⟩ := h
  exact ⟨E', own', m', df', w', val, h1.mono hs, h2⟩

theorem evOpt_rel (hs : St cx Q N S E own H m fr a w) (x : Option Operand) : BRel E (viewOf m fr.fl) (evOpt cx fr x) (x.map a.eval) := by
  cases x with
  | none => exact .none
  | some x => exact .some (hs.ev x)

theorem evAll_St (hs : St cx Q N S E own H m fr a w) (l : List Operand) : Vs E (viewOf m fr.fl) (evAll cx fr l) (l.map a.eval) := evAll_ok hs.glb hs.frm.tms l

theorem mkFn_ok {g : FuncId} {first captured : Array Operand} {z : AV} (h : funcOp g first.size (evAll cx fr captured.toList) = .ok z) (hs : St cx Q N S E own H m fr a w) :
    ∃ u, (Instr.makeFunc (.func g) (first.map a.eval) (captured.map a.eval)).run P w = .ok u w ∧ V E (viewOf m fr.fl) z u := by
  have : (first.map a.eval).size = first.size := by simp
  rw [← this] at h
  exact funcOp_ok h (by simpa using evAll_St hs captured.toList) w

theorem nilCheck_run {z : AV} {x : Operand} (h : nilOp (fr.ev cx x) = .ok z) (hs : St cx Q N S E own H m fr a w) (hop : o.op = .nilCheck x) : (execOp a.eval o).run P w = .ok (.value (a.eval x)) w ∧ z = fr.ev cx x := by
  obtain ⟨h1, h2, h3, h4, h5⟩ := nilOp_ok h (hs.ev x)
  refine ⟨?_, h1⟩
  unfold execOp
  rw [hop]
  simp only
  rfl

theorem builtin_val (g : Good P cx) (ho : ops[i]? = some o) (hw : Region.wanted o (yielded ops a.tmps) = true) {bi : Builtin} {args : Array Operand} {ats : Array TypeId} (hop : o.op = .call { callee := .builtin bi, args := args, argTypes := ats })
    (h : builtinOp cx f Q id o.dst bi ats.toList (evAll cx fr args.toList) fr H = .ok (.val v fr' H')) (hs : St cx Q N S E own H m fr a w) (hid : S id) (hr : RecI E b stk fr) : StepV P cx Q N (fun i => S i ∧ i ≠ id) E own H fr a w b stk ops i rest k o v fr' H' := by
  have hd : ∀ c, o.op ≠ .defer c := fun c e => by rw [hop] at e; cases e
  have hargs := evAll_St hs args.toList
  have hlen := hargs.length
  have hexec : execOp a.eval o = builtin bi ats o.type (args.map fun | .const _ => true | _ => false) (args.map a.eval) := by
    unfold execOp
    rw [hop]
    rfl
  generalize hev : evAll cx fr args.toList = ev at h hargs
  have hal : args.map a.eval = ⟨args.toList.map a.eval⟩ := by cases args; simp
  rw [hal] at hexec
  generalize args.toList.map a.eval = vals at hargs hexec
  unfold builtinOp at h
  split at h
  · -- len
    rename_i x t r hats
    obtain ⟨hz, rfl, rfl⟩ := outV_ok h
    simp only [Vs] at hargs
    obtain ⟨xv, s, rfl, hx, rfl⟩ := hargs
    have ha0 : ats[0]? = some t := by
      have : ats.toList[0]? = some t := by rw [hats]; rfl
      simpa using this
    obtain ⟨u, hu, hV⟩ := lenOp_ok (P := P) g hz ha0 (args := #[xv]) rfl hx o.type w
    exact (StepV.of_quiet ho hw hs hV hr hd (by rw [hexec]; exact run_v hu)).sub fun i hi => hi.1
  · -- append
    rename_i s x t u hats
    split at h
    rotate_left
    · cases h
    rename_i uy huy
    split at h
    rotate_left
    · cases h
    rename_i hlen'
    simp only [Vs] at hargs
    obtain ⟨sv, r, rfl, hsv, xv, r', rfl, hxv, rfl⟩ := hargs
    have hats' : ats = #[t, u] := by cases ats; simp at hats; simp [hats]
    obtain ⟨E', m', w', r, hrun, hn, hV⟩ := appendOp_ok (P := P) (ty := o.type) g huy hlen' h hs hid hsv hxv
    exact StepV.of_next ho hw hn hV (appendOp_kin h) hr hd (.inl (by rw [hexec, hats']; exact run_v hrun))
  · -- copy
    rename_i s x t r hats
    simp only [Vs] at hargs
    obtain ⟨sv, r', rfl, hsv, xv, r'', rfl, hxv, rfl⟩ := hargs
    have ha0 : ats[0]? = some t := by
      have : ats.toList[0]? = some t := by rw [hats]; rfl
      simpa using this
    obtain ⟨E', w', r, hrun, hn, hV⟩ := copyOp_ok (P := P) (ty := o.type) g ha0 h hs hsv hxv
    exact (StepV.of_next ho hw hn hV (copyOp_kin h) hr hd (.inl (by rw [hexec]; exact run_v hrun))).sub fun i hi => hi.1
  · -- clear
    rename_i x t r hats
    simp only [Vs] at hargs
    obtain ⟨xv, r', rfl, hxv, rfl⟩ := hargs
    have ha0 : ats[0]? = some t := by
      have : ats.toList[0]? = some t := by rw [hats]; rfl
      simpa using this
    obtain ⟨E', w', r, hrun, hn, hV⟩ := clearOp_ok (P := P) (ty := o.type) g ha0 h hs hxv
    exact (StepV.of_next ho hw hn hV (clearOp_kin h) hr hd (.inl (by rw [hexec]; exact run_v hrun))).sub fun i hi => hi.1
  · -- min
    rename_i x r hats
    obtain ⟨hz, rfl, rfl⟩ := outV_ok h
    simp only [Vs] at hargs
    obtain ⟨xv, s, rfl, hx, hr'⟩ := hargs
    obtain ⟨u, hu, hV⟩ := foldMinmax_ok (P := P) hz hx hr' w
    exact (StepV.of_quiet ho hw hs hV hr hd (by rw [hexec]; exact run_v (by simpa [Builtin.min_] using hu))).sub fun i hi => hi.1
  · -- max
    rename_i x r hats
    obtain ⟨hz, rfl, rfl⟩ := outV_ok h
    simp only [Vs] at hargs
    obtain ⟨xv, s, rfl, hx, hr'⟩ := hargs
    obtain ⟨u, hu, hV⟩ := foldMinmax_ok (P := P) hz hx hr' w
    exact (StepV.of_quiet ho hw hs hV hr hd (by rw [hexec]; exact run_v (by simpa [Builtin.max_] using hu))).sub fun i hi => hi.1
  · -- recover
    simp only [Vs] at hargs
    subst hargs
    split at h
    · cases h
    rename_i hrd
    obtain ⟨hro, hrec⟩ := hr hrd
    have hrun : (execOp a.eval o).run P w = .ok .recover w := by rw [hexec]; rfl
    have hfin : ∀ (val : Value), (b.atR a (.inRegion ops (i :: rest) :: k)).finish val = b.atR (({ a with defers := a.defers } : Act).put o.dst val) (.inRegion ops rest :: k) := by
      intro val
      rw [Frame.finish_atR, ho]; rfl
    split at h
    · rename_i x hrc
      simp only [R.ok.injEq, Out.val.injEq] at h
      obtain ⟨rfl, rfl, rfl⟩ := h
      rw [hrc] at hrec
      obtain ⟨val, hV, htr⟩ := hrec
      have htr' := htr (b.atR a (.inRegion ops (i :: rest) :: k)) rfl
      refine ⟨E, own, m, a.defers, w, val, ⟨hs.inv, ⟨hs.frm.size, hs.frm.tms, hs.frm.lcs, hs.frm.fls⟩, hs.glb, hs.fresh.mono fun i hi => hi.1, hs.df, hs.lim⟩, V.view (View.nil_le _) hV, .refl _ _ _ _, .refl _ _, fun e => (by cases e), rfl, rfl, .one (step_lone_go ?_)⟩
      rw [stepGR_op ho hw, Oper.semAt_eq _ _ _ hd, ← hfin]
      rw [hrd]
      have hro' : (b.atR a (.inRegion ops (i :: rest) :: k)).roundOf = none := hro
      simp only [stepG.apply, Sem.runT_eq, if_true, hrun, hro', htr', GStep.bare_after, GStep.bare_go]
    · rename_i hrc
      simp only [R.ok.injEq, Out.val.injEq] at h
      obtain ⟨rfl, rfl, rfl⟩ := h
      rw [hrc] at hrec
      have htr' := hrec (b.atR a (.inRegion ops (i :: rest) :: k)) rfl
      refine ⟨E, own, m, a.defers, w, .nilIface, hs.mono fun i hi => hi.1, by simp [V], .refl _ _ _ _, .refl _ _, hr, rfl, rfl, .one (step_lone_go ?_)⟩
      rw [stepGR_op ho hw, Oper.semAt_eq _ _ _ hd, ← hfin]
      rw [hrd]
      have hro' : (b.atR a (.inRegion ops (i :: rest) :: k)).roundOf = none := hro
      simp only [stepG.apply, Sem.runT_eq, if_true, hrun, hro', htr', GStep.bare_after, GStep.bare_go]
  · cases h

theorem defer_val (ho : ops[i]? = some o) (hw : Region.wanted o (yielded ops a.tmps) = true) {cl : Callee} {args : Array Operand} {ats : Array TypeId} (hop : o.op = .defer { callee := cl, args := args, argTypes := ats })
    (h : deferOp cx cl args.toList fr H = .ok (.val v fr' H')) (hs : St cx Q N S E own H m fr a w) (hr : RecI E b stk fr) : StepV P cx Q N (fun i => S i ∧ i ≠ id) E own H fr a w b stk ops i rest k o v fr' H' := by
  unfold deferOp at h
  split at h
  rotate_left
  · cases h
  rename_i gop
  split at h
  rotate_left
  · cases h
  rename_i g l hg hl
  split at h
  · cases h
  rename_i hrd
  have hrd : fr.rd = false := by cases hx : fr.rd <;> simp_all
  simp only [R.ok.injEq, Out.val.injEq] at h
  obtain ⟨rfl, rfl, rfl⟩ := h
  obtain ⟨hro, hrec⟩ := hr hrd
  have hgv := hs.ev gop
  rw [hg] at hgv
  simp only [V] at hgv
  obtain ⟨cvs, hgv, hcv⟩ := hgv
  simp only [Vs] at hcv
  subst hcv
  have hargs := Vs.clean hl (evAll_St hs args.toList)
  have hal : args.map a.eval = ⟨args.toList.map a.eval⟩ := by cases args; simp
  have hrun : (execOp a.eval o).run P w = .ok (.defer { target := .fn (.func g) #[], args := ⟨args.toList.map a.eval⟩ }) w := by
    unfold execOp
    rw [hop]
    simp only [resolve, hgv, Deferred.ofValue, Sem.run_bind, Sem.run_pure, Result.andThen_ok, hal]
    simp
  refine ⟨E, own, m, { target := .fn (.func g) #[], args := ⟨args.toList.map a.eval⟩ } :: a.defers, w, undef, ⟨hs.inv, ⟨hs.frm.size, hs.frm.tms, hs.frm.lcs, hs.frm.fls⟩, hs.glb, hs.fresh.mono fun i hi => hi.1, .call hargs hs.df, hs.lim⟩, by simp [V, undefA, undef, Vs], .refl _ _ _ _, .refl _ _, fun _ => ⟨hro, hrec⟩, rfl, rfl, .one (step_lone_go ?_)⟩
  rw [stepGR_op ho hw]
  have hse : o.semAt b.roundOf a.eval = execOp a.eval o := by rw [hro]; rfl
  rw [hse]
  have hfin := Frame.finish_atR b { a with defers := { target := .fn (.func g) #[], args := ⟨args.toList.map a.eval⟩ } :: a.defers } ops i rest k undef
  rw [ho] at hfin
  simp only [stepG.apply, Sem.runT_eq, if_true, hrun, GStep.bare_after, GStep.bare_go]
  exact congrArg (fun fr => GStep.go { frame := fr, callers := _, status := .running, dying := none } w) hfin

theorem opA_val (g : Good P cx) (co : CallOk P cx call) (ho : ops[i]? = some o) (hw : Region.wanted o (yielded ops a.tmps) = true) (h : opA cx call f Q id o.dst o.op fr H = .ok (.val v fr' H')) (hs : St cx Q N S E own H m fr a w) (hid : S id) (hr : RecI E b stk fr) :
    StepV P cx Q N (fun i => S i ∧ i ≠ id) E own H fr a w b stk ops i rest k o v fr' H' := by
  have hsub : ∀ {v fr' H'}, StepV P cx Q N S E own H fr a w b stk ops i rest k o v fr' H' → StepV P cx Q N (fun i => S i ∧ i ≠ id) E own H fr a w b stk ops i rest k o v fr' H' := fun h => h.sub fun i hi => hi.1
  by_cases hdf : ∃ c, o.op = .defer c
  · obtain ⟨⟨cl, args, ats⟩, hop⟩ := hdf
    rw [hop] at h
    exact defer_val ho hw hop h hs hr
  have hd : ∀ c, o.op ≠ .defer c := fun c e => hdf ⟨c, e⟩
  have hquiet : ∀ {z : AV} {s : Sem Value}, (∃ u, s.run P w = .ok u w ∧ V E (viewOf m fr.fl) z u) → execOp a.eval o = (do pure (Go.Next.value (← s))) → StepV P cx Q N (fun i => S i ∧ i ≠ id) E own H fr a w b stk ops i rest k o z fr H := by
    rintro z s ⟨u, hu, hV⟩ he
    exact hsub (StepV.of_quiet ho hw hs hV hr hd (by rw [he]; exact run_v hu))
  cases hop : o.op <;> rw [hop] at h <;> simp only [opA] at h <;> try (cases h; done)
  case move x =>
    simp only [R.ok.injEq, Out.val.injEq] at h
    obtain ⟨rfl, rfl, rfl⟩ := h
    exact hsub (StepV.of_quiet ho hw hs (hs.ev x) hr hd (by unfold execOp; rw [hop]; rfl))
  case assign x =>
    simp only [R.ok.injEq, Out.val.injEq] at h
    obtain ⟨rfl, rfl, rfl⟩ := h
    exact hsub (StepV.of_quiet ho hw hs (hs.ev x) hr hd (by unfold execOp; rw [hop]; rfl))
  case pick x y z =>
    obtain ⟨hz, rfl, rfl⟩ := outV_ok h
    obtain ⟨bb, hb, hV⟩ := pickOp_ok hz (hs.ev x) (hs.ev y) (hs.ev z)
    exact hsub (StepV.of_quiet ho hw hs hV hr hd (by unfold execOp; rw [hop]; simp only [hb, asBool, Sem.run_bind, Sem.run_pure, Result.andThen_ok]))
  case alloc e =>
    unfold allocOp at h
    split at h
    rotate_left
    · cases h
    rename_i ty hty
    obtain ⟨ti, d, z, hinf, hdd, hz, _, _, _, hzero⟩ := tyOf_ok (g.ty _ _ hty)
    have hzc := zeroCells_ok E (viewOf m fr.fl) z
    rw [← hzero] at hzc
    obtain ⟨E', m', hn, hV⟩ := newVar_ok (e := e) h hs hid hzc
    refine StepV.of_next ho hw hn hV (newVar_kin h) hr hd (.inl ?_)
    unfold execOp
    rw [hop]
    refine run_v ?_
    simp only [Instr.alloc, Sem.run_bind, run_zeroValue w hinf hz, Result.andThen_ok, Sem.run_pure]
    rfl
  case box e x =>
    unfold boxOp at h
    split at h
    rotate_left
    · cases h
    rename_i cs hcs
    obtain ⟨E', m', hn, hV⟩ := newVar_ok (e := e) h hs hid (cellsR_ok hcs (hs.ev x))
    refine StepV.of_next ho hw hn hV (newVar_kin h) hr hd (.inl ?_)
    unfold execOp
    rw [hop]
    refine run_v ?_
    simp only [Instr.box, Sem.run_bind, Sem.run_pure]
    rfl
  case build t parts =>
    obtain ⟨hz, rfl, rfl⟩ := outV_ok h
    exact hquiet (buildOp_ok g hs.glb hs.frm.tms hz w) (by unfold execOp; rw [hop])
  case buildSlice t len parts =>
    obtain ⟨E', m', w', u, hu, hn, hV⟩ := buildSliceOp_ok (P := P) g h hs hid
    exact StepV.of_next ho hw hn hV (buildSliceOp_kin h) hr hd (.inl (by unfold execOp; rw [hop]; exact run_v hu))
  case load t x =>
    obtain ⟨hz, rfl, rfl⟩ := outV_ok h
    exact hquiet (loadOp_ok g hs.inv hs.frm hz (hs.ev x)) (by unfold execOp; rw [hop])
  case store t x y =>
    obtain ⟨w', E', hu, hn, rfl⟩ := storeOp_ok (P := P) g h hs (hs.ev x) (hs.ev y)
    exact hsub (StepV.of_next ho hw hn (val := undef) (by simp [V, undefA, undef, Vs]) (storeOp_kin h) hr hd (.inr ⟨by unfold execOp; rw [hop]; simp [hu], rfl⟩))
  case nilCheck x =>
    obtain ⟨hz, rfl, rfl⟩ := outV_ok h
    obtain ⟨h1, h2⟩ := nilCheck_run (P := P) hz hs hop
    exact hsub (StepV.of_quiet ho hw hs (by rw [h2]; exact hs.ev x) hr hd h1)
  case binOp op t x y ty =>
    obtain ⟨hz, rfl, rfl⟩ := outV_ok h
    exact hquiet (bin_ok g hz (hs.ev x) (hs.ev y) x y w) (by unfold execOp; rw [hop])
  case unOp op t x =>
    obtain ⟨hz, rfl, rfl⟩ := outV_ok h
    exact hquiet (un_ok hz (hs.ev x) w) (by unfold execOp; rw [hop])
  case convert s d x =>
    obtain ⟨hz, rfl, rfl⟩ := outV_ok h
    exact hquiet (conv_ok g hs.inv hz (hs.ev x)) (by unfold execOp; rw [hop])
  case makeInterface t x =>
    obtain ⟨hz, rfl, rfl⟩ := outV_ok h
    exact hquiet (ifaceOp_ok g hz (hs.ev x) w) (by unfold execOp; rw [hop])
  case makeFunc fn first captured =>
    cases fn <;> simp only at h <;> try (cases h; done)
    obtain ⟨hz, rfl, rfl⟩ := outV_ok h
    exact hquiet (mkFn_ok hz hs) (by unfold execOp; rw [hop])
  case makeSlice t l c =>
    obtain ⟨E', m', w', u, hu, hn, hV⟩ := makeOp_ok (P := P) g h hs hid (hs.ev l) (hs.ev c)
    exact StepV.of_next ho hw hn hV (makeOp_kin h) hr hd (.inl (by unfold execOp; rw [hop]; exact run_v hu))
  case slice t x lo hi mx =>
    obtain ⟨hz, rfl, rfl⟩ := outV_ok h
    unfold sliceOp3 at hz
    split at hz
    · cases hz
    rename_i hmx
    refine hquiet (sliceOp_ok g hz (hs.ev x) (evOpt_rel hs lo) (evOpt_rel hs hi) (evOpt_rel hs mx) (fun h1 h2 => ?_) w) (by unfold execOp; rw [hop])
    apply hmx
    rw [h2, Bool.and_eq_true]
    exact ⟨Option.isSome_iff_ne_none.2 h1, rfl⟩
  case fieldAddr t x j =>
    obtain ⟨hz, rfl, rfl⟩ := outV_ok h
    exact hquiet (fieldOp_ok g hz (hs.ev x) w) (by unfold execOp; rw [hop])
  case indexAddr t x ix =>
    obtain ⟨hz, rfl, rfl⟩ := outV_ok h
    exact hquiet (iaddrOp_ok g hs.glb hz (hs.ev x) (hs.ev ix) w) (by unfold execOp; rw [hop])
  case index t x ix =>
    obtain ⟨hz, rfl, rfl⟩ := outV_ok h
    exact hquiet (indexOp_ok g hz (hs.ev x) (hs.ev ix) w) (by unfold execOp; rw [hop])
  case typeAssert x xt t c =>
    obtain ⟨hz, rfl, rfl⟩ := outV_ok h
    exact hquiet (assertOp_ok g hz (hs.ev x) w) (by unfold execOp; rw [hop])
  case extract x j =>
    obtain ⟨hz, rfl, rfl⟩ := outV_ok h
    exact hquiet (extractOp_ok hz (hs.ev x) w) (by unfold execOp; rw [hop])
  case panic x =>
    unfold panicOp at h
    split at h <;> cases h
  case call c =>
    obtain ⟨cl, args, ats⟩ := c
    cases cl with
    | value gop =>
      simp only [callOp] at h
      have hal : args.map a.eval = ⟨args.toList.map a.eval⟩ := by cases args; simp
      exact doCall_val co ho hw h hs hid hr (hs.ev gop) (evAll_St hs args.toList) hd (by
        unfold execOp
        rw [hop]
        simp only [resolve, hal])
    | invoke r n => cases h
    | builtin bi => exact builtin_val g ho hw hop h hs hid hr
  case defer c => exact absurd hop (hd c)

theorem opA_pan (co : CallOk P cx call) (ho : ops[i]? = some o) (hw : Region.wanted o (yielded ops a.tmps) = true) (h : opA cx call f Q id o.dst o.op fr H = .ok (.pan v H')) (hs : St cx Q N S E own H m fr a w) (hid : S id) (hr : RecI E b stk fr) :
    StepP P cx Q N (fun i => S i ∧ i ≠ id) E own H fr a w b stk ops i rest k v H' := by
  cases hop : o.op <;> rw [hop] at h <;> simp only [opA] at h <;> try (first | (cases h; done) | exact (outV_pan h).elim)
  case alloc e =>
    unfold allocOp at h
    split at h
    · exact (newVar_np h).elim
    · cases h
  case box e x =>
    unfold boxOp at h
    split at h
    · exact (newVar_np h).elim
    · cases h
  case buildSlice t len parts => exact (buildSliceOp_np h).elim
  case store t x y => exact (storeOp_np h).elim
  case makeFunc fn first captured =>
    cases fn <;> simp only at h <;> first | (cases h; done) | exact (outV_pan h).elim
  case makeSlice t l c => exact (makeOp_np h).elim
  case panic x =>
    unfold panicOp at h
    split at h
    rotate_left
    · cases h
    rename_i t y hx
    simp only [R.ok.injEq, Out.pan.injEq] at h
    obtain ⟨rfl, rfl⟩ := h
    have hv := hs.ev x
    rw [hx] at hv
    have hv' : V E .nil (.ifc t y) (a.eval x) := by simpa only [V] using hv
    simp only [V] at hv
    obtain ⟨u, hu, _⟩ := hv
    refine ⟨E, own, m, w, a.eval x, hs.mono fun i hi => hi.1, hv', .refl _ _ _ _, .refl _ _, hr, .one (step_lone_go ?_)⟩
    have hd : ∀ c, o.op ≠ .defer c := fun c e => by rw [hop] at e; cases e
    have hrun : (execOp a.eval o).run P w = .halt (.panic (a.eval x)) w := by
      unfold execOp
      rw [hop]
      simp [hu, Instr.panic, goPanic, Sem.run]
    rw [stepGR_op ho hw, Oper.semAt_eq _ _ _ hd, ← Frame.raise_atR]
    simp [stepG.apply, hrun]
  case call c =>
    obtain ⟨cl, args, ats⟩ := c
    cases cl with
    | value gop =>
      simp only [callOp] at h
      have hal : args.map a.eval = ⟨args.toList.map a.eval⟩ := by cases args; simp
      have hd : ∀ c, o.op ≠ .defer c := fun c e => by rw [hop] at e; cases e
      exact doCall_pan co ho hw h hs hid hr (hs.ev gop) (evAll_St hs args.toList) hd (by
        unfold execOp
        rw [hop]
        simp only [resolve, hal])
    | invoke r n => cases h
    | builtin bi =>
      simp only [callOp] at h
      unfold builtinOp at h
      repeat' split at h
      all_goals first
        | (cases h; done)
        | exact (outV_pan h).elim
        | exact (appendOp_np h).elim
        | exact (copyOp_np h).elim
        | exact (clearOp_np h).elim
  case defer c =>
    obtain ⟨cl, args, ats⟩ := c
    simp only at h
    unfold deferOp at h
    repeat' split at h
    all_goals cases h

end
end Go.Proofs.Ev
