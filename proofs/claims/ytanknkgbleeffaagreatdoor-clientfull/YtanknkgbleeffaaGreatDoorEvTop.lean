/- Functions, rounds, deferred calls. -/
import Derived.Test.YtanknkgbleeffaaGreatDoorEvEnd
set_option linter.all false
namespace Go.Proofs.Ev
open Go
variable [Sg]

section
variable {P : Program} {cx : Cx} {Q : Name} {N : Nat} {S : Nat → Prop} {E E' : Env} {own own' : Nat → Tag} {H H' : Heap} {m : Mine} {fr fr' : Fr} {a : Act} {w w' : World} {id : Nat} {v : AV} {b : Frame} {stk : Bool → List Frame} {call : Caller} {f : FuncId} {n : Nat}

theorem args0_get : ∀ (l : List AV) (i : Nat) (tr : Tr AV) (t : Nat), Tr.get (path t) (args0 l i tr) = if i ≤ t ∧ t < i + l.length then l[t - i]? else Tr.get (path t) tr
  | [], i, tr, t => by
    rw [if_neg (by simp)]
    rfl
  | v :: r, i, tr, t => by
    simp only [args0, args0_get r (i + 1), List.length_cons]
    by_cases h1 : i + 1 ≤ t ∧ t < i + 1 + r.length
    · rw [if_pos h1, if_pos (by omega)]
      have : t - i = (t - (i + 1)) + 1 := by omega
      rw [this, List.getElem?_cons_succ]
    · rw [if_neg h1, Tr.get_set_path]
      by_cases h2 : t = i
      · subst h2
        rw [if_pos rfl, if_pos (by omega)]
        simp
      · rw [if_neg h2, if_neg (by omega)]

def mine0 : Mine := ⟨fun _ => none, fun _ _ => none⟩

theorem start_ok {rc : Option AV} {args : List AV} {vals : List Value} {nt : Nat} (hp : Pre cx Q E own H w) (hv : Vs E .nil args vals) (hn : args.length ≤ nt) :
    St cx Q nt (fun j => 0 ≤ j) E own H mine0 (frame0 args rc) { tmps := (⟨vals⟩ : Array Value) ++ Array.replicate (nt - (⟨vals⟩ : Array Value).size) undef, defers := [] } w := by
  have hl := hv.length
  refine ⟨hp.inv, ⟨by simp; omega, fun t => ?_, fun t k cs h => ?_, fun t k n h => ?_⟩, hp.glb, ⟨fun _ _ => rfl, fun _ _ _ => rfl, fun i _ o n p h => under_no (hp.fO o n p h), fun i _ l b h => under_no (hp.fL l b h)⟩, .nil, hp.lim⟩
  · unfold tmOf frame0
    simp only [args0_get, Nat.zero_le, true_and, Nat.zero_add, Nat.sub_zero, Tr.get_leaf]
    split
    · rename_i ht
      have hx : args[t]? = some args[t] := List.getElem?_eq_getElem ht
      obtain ⟨u, hu, hV⟩ := hv.get t _ hx
      rw [hx]
      have : (((⟨vals⟩ : Array Value) ++ Array.replicate (nt - (⟨vals⟩ : Array Value).size) undef).getD t undef) = u := by
        rw [Array.getD_eq_getD_getElem?, Array.getElem?_append_left (by simp; omega)]
        simp [hu]
      rw [this]
      exact V.view (View.nil_le _) hV
    · rename_i ht
      have : (((⟨vals⟩ : Array Value) ++ Array.replicate (nt - (⟨vals⟩ : Array Value).size) undef).getD t undef) = undef := by
        rw [Array.getD_eq_getD_getElem?, Array.getElem?_append_right (by simp; omega)]
        simp only [Array.getElem?_replicate]
        split <;> rfl
      rw [this]
      simp [V, undefA, undef, Vs]
  · simp [frame0, Tr.get_leaf] at h
  · simp [frame0, Tr.get_leaf] at h

theorem body_ok (g : Good P cx) (co : CallOk P cx call) (hdr : DrawOk P cx call) {fn : Func} {body : Code} (hfn : P.funcs[f]? = some fn) (hbody : fn.body = some body) (hfit : Fit fn.ntmps body) {kind : CallKind} {rc : Option AV} {args : List AV} {vals : List Value} {r : Ret}
    (h : endA cx call Q fn.results.toList (codeA cx call f Q n body (frame0 args rc) H) = .ok (r, fr', H')) (hp : Pre cx Q E own H w) (hv : Vs E .nil args vals) (hn : args.length ≤ fn.ntmps)
    (hr : RecI E { (default : Frame) with fn := f, kind := kind, roundOf := none } stk (frame0 args rc)) :
    ∃ E' own' w' fx val, Inv E' own' H' w' ∧ GrowO Q own own' E E' w w' ∧ SameH E E' H H' ∧ fx.fn = f ∧ fx.kind = kind ∧ fx.defers = [] ∧ Steps P (lone (Frame.enter P f ⟨vals⟩ kind) (stk false) w) (lone fx (stk fr'.rd) w') ∧
      (match r with
       | .val v => RetV E' own' w' v val ∧ fx.mode = .returning ∧ (results fn fx.tmps).run P w' = .ok val w'
       | .pan v => V E' .nil v val ∧ fx.mode = .panicking [{ v := val, recovered := false }]) := by
  have hs := start_ok (rc := rc) hp hv hn
  have hbr : ({ (default : Frame) with fn := f, kind := kind, roundOf := none } : Frame).roundOf = none := rfl
  generalize hb : ({ (default : Frame) with fn := f, kind := kind, roundOf := none } : Frame) = b at hr hbr
  have hbf : b.fn = f := by rw [← hb]
  have hbk : b.kind = kind := by rw [← hb]
  have henter : Frame.enter P f ⟨vals⟩ kind = b.atR { tmps := (⟨vals⟩ : Array Value) ++ Array.replicate (fn.ntmps - (⟨vals⟩ : Array Value).size) undef, defers := [] } [.code body] := by
    simp [Frame.enter, Frame.atR, hfn, hbody, ← hb]
  unfold endA at h
  split at h
  · cases h
  · cases h
  rename_i ex fr1 H1 hnex hcode
  obtain ⟨E1, own1, m1, a1, w1, s1, g1, e1, r1, c1, ar⟩ := code_ok (N := fn.ntmps) g co hdr body hfit (frame0 args rc) H ex fr1 H1 hcode E own mine0 _ w b stk [] hbf hs hr
  rw [show (frame0 args rc).rd = false from rfl] at ar
  -- the frame on its way out
  have hout : ∃ frx : Frame, frx.fn = f ∧ frx.kind = kind ∧ frx.tmps = a1.tmps ∧ frx.defers = a1.defers ∧ ModeOf E1 (exPan ex) frx.mode ∧ Steps P (lone (Frame.enter P f ⟨vals⟩ kind) (stk false) w) (lone frx (stk fr1.rd) w1) := by
    rw [henter]
    cases ex with
    | normal => exact ⟨{ b.atR a1 [] with mode := .returning }, hbf, hbk, rfl, rfl, rfl, Steps.trans ar (.one (stepR_end hbr))⟩
    | ret =>
      obtain ⟨k1, ar⟩ := ar
      exact ⟨{ b.atR a1 (.code .ret :: k1) with mode := .returning }, hbf, hbk, rfl, rfl, rfl, Steps.trans ar (.one (stepR_ret hbr))⟩
    | pan v =>
      obtain ⟨k1, val, hV, ar⟩ := ar
      exact ⟨{ b.atR a1 k1 with mode := .panicking [{ v := val, recovered := false }] }, hbf, hbk, rfl, rfl, ⟨val, hV, rfl⟩, ar⟩
    | exit id => exact (hnex id rfl).elim
  obtain ⟨frx, hf1, hk1, ht1, hd1, hm1, hst1⟩ := hout
  split at h
  · cases h
  rename_i p H2 hdf
  obtain ⟨E2, own2, w2, u, hst2, s2, hm2, g2, e2⟩ := unwind_ok co a1.defers fr1.df fr1.ct _ H1 p H2 hdf E1 own1 fr1 a1 w1 frx (stk fr1.rd) s1 rfl rfl hm1 hd1
  unfold finA at h
  split at h
  · rename_i x
    simp only [R.ok.injEq, Prod.mk.injEq] at h
    obtain ⟨rfl, rfl, rfl⟩ := h
    obtain ⟨val, hV, hu⟩ := hm2
    exact ⟨E2, own2, w2, { frx with defers := [], mode := u }, val, s2.inv, g1.toO.trans g2, e1.trans e2, hf1, hk1, rfl, Steps.trans hst1 hst2, hV, hu⟩
  · split at h
    · cases h
    rename_i v' hret
    simp only [R.ok.injEq, Prod.mk.injEq] at h
    obtain ⟨rfl, rfl, rfl⟩ := h
    have hret' : retA cx { fr1 with df := [] } H2 fn.results.toList = .ok v' := by
      have hre : ∀ rs, resultsA cx { fr1 with df := [] } H2 rs = resultsA cx fr1 H2 rs := by
        intro rs
        induction rs with
        | nil => rfl
        | cons x r ih =>
          have hx : resultA cx { fr1 with df := [] } H2 x = resultA cx fr1 H2 x := by cases x <;> rfl
          simp only [resultsA, hx, ih]
      unfold retA at hret ⊢
      rw [hre]
      exact hret
    obtain ⟨val, hrun, hV⟩ := retA_ok g s2 hret'
    exact ⟨E2, own2, w2, { frx with defers := [], mode := u }, val, s2.inv, g1.toO.trans g2, e1.trans e2, hf1, hk1, rfl, Steps.trans hst1 hst2, hV, hm2, by
      show (results fn frx.tmps).run P w2 = _
      rw [ht1]; exact hrun⟩

/-- what a loaded program keeps -/
structure FitP (P : Program) : Prop where
  fit : ∀ (f : FuncId) (fn : Func) (body : Code), P.funcs[f]? = some fn → fn.body = some body → Fit fn.ntmps body
  nm : ∀ (f : FuncId) (fn : Func), P.funcs[f]? = some fn → (fn.name == "runtime.NumGoroutine") = false

theorem func_ok (g : Good P cx) {x : Nat × List ResultVar × Code} (h : cx.func f = .ok x) : ∃ fn, P.funcs[f]? = some fn ∧ fn.body = some x.2.2 ∧ fn.ntmps = x.1 ∧ fn.results.toList = x.2.1 := by
  have := g.func f x h
  unfold funcOf at this
  split at this
  · cases this
  rename_i fn hfn
  split at this
  · cases this
  rename_i bd hb
  simp only [R.ok.injEq] at this
  subst this
  exact ⟨fn, hfn, hb, rfl, rfl⟩

theorem dfr_ok (g : Good P cx) (fp : FitP P) (co : CallOk P cx call) (hdr : DrawOk P cx call) {rc : Option AV} {args : List AV} {r : Ret} (h : dfrA cx call n f rc Q args H = .ok (r, H')) {vals : List Value} (hp : Pre cx Q E own H w) (hv : Vs E .nil args vals) :
    Enters P f ∧ ∀ (c0 : Frame) cs, ModeOf E rc c0.mode → ∃ E' own' w' bb u, r = .val (.bool bb) ∧ Post Q E E' own own' H H' w w' ∧
    ModeOf E' (if bb then none else rc) u ∧ Steps P (lone (Frame.enter P f ⟨vals⟩ .deferred) (c0 :: cs) w) (lone { c0 with mode := u } cs w') := by
  unfold dfrA at h
  split at h
  · cases h
  rename_i nt rs body hfunc
  obtain ⟨fn, hfn, hbody, hnt, hrs⟩ := func_ok g hfunc
  simp only at hbody hnt hrs
  split at h
  rotate_left
  · cases h
  rename_i hle
  have hle := Nat.le_of_ble_eq_true hle
  refine ⟨⟨fn, hfn, fp.nm f fn hfn, by rw [hbody]; rfl⟩, fun c0 cs hm => ?_⟩
  unfold dfrEnd at h
  split at h
  · rename_i v fr1 H1 hend
    simp only [R.ok.injEq, Prod.mk.injEq] at h
    obtain ⟨rfl, rfl⟩ := h
    let c1 : Frame := { c0 with mode := match c0.mode with | .panicking [{ v, recovered := false, goexit := false }] => .panicking [{ v, recovered := true }] | u => u }
    have hr : RecI E { (default : Frame) with fn := f, kind := .deferred, roundOf := none } (fun rd => (if rd then c1 else c0) :: cs) (frame0 args rc) := by
      intro _
      refine ⟨rfl, ?_⟩
      cases rc with
      | none =>
        intro fr0 hk
        have hk : fr0.kind = .deferred := hk
        have : c0.mode = .returning := hm
        unfold tryRecover
        rw [hk]
        simp [this]
      | some x =>
        obtain ⟨v, hV, hu⟩ := hm
        refine ⟨v, hV, fun fr0 hk => ?_⟩
        have hk : fr0.kind = .deferred := hk
        unfold tryRecover
        rw [hk]
        simp [hu, c1]
    rw [← hrs] at hend
    obtain ⟨E', own', w', fx, val, hi, hg, hh, h1, h2, h3, hst, hret, hmode, hrun⟩ := body_ok (kind := .deferred) g co hdr hfn hbody (fp.fit f fn body hfn hbody) hend hp hv (by omega) hr
    have hgo : fx.going P w' (.returned val) := ⟨hmode, h3, fn, by rw [h1]; exact hfn, hrun⟩
    refine ⟨E', own', w', fr1.rd, settle (if fr1.rd then c1 else c0).mode, rfl, ⟨hi, hg.full hp.msk, hh⟩, ?_, ?_⟩
    · cases hrd : fr1.rd with
      | false =>
        simp only [Bool.false_eq_true, if_false]
        have hm' := ModeOf.mono hg.env hm
        cases rc with
        | none => have : c0.mode = .returning := hm; simp [this, settle, ModeOf]
        | some x => obtain ⟨v, hV, hu⟩ := hm'; simp only [hu, settle]; exact ⟨v, hV, rfl⟩
      | true =>
        simp only [if_true]
        show settle c1.mode = .returning
        cases rc with
        | none => have : c0.mode = .returning := hm; simp [c1, this, settle]
        | some x => obtain ⟨v, hV, hu⟩ := hm; simp [c1, hu, settle]
    · have hs2 := step_going_returned (c := if fr1.rd then c1 else c0) (cs := cs) h2 hgo
      have he : ({ (if fr1.rd then c1 else c0) with mode := settle (if fr1.rd then c1 else c0).mode } : Frame) = { c0 with mode := settle (if fr1.rd then c1 else c0).mode } := by
        cases fr1.rd <;> simp [c1]
      rw [he] at hs2
      exact Steps.trans hst (.one hs2)
  · cases h
  · cases h

/-- a function that is no quiet one -/
theorem plain_ok (g : Good P cx) (fp : FitP P) (co : CallOk P cx call) (hdr : DrawOk P cx call) {nt : Nat} {rs : List ResultVar} {body : Code} (hfunc : cx.func f = .ok (nt, rs, body)) {args : List AV} {r : Ret}
    (h : endA cx call Q rs (codeA cx call f Q n body (frame0 args none) H) = .ok (r, fr', H')) {vals : List Value} (hp : Pre cx Q E own H w) (hv : Vs E .nil args vals) (hn : args.length ≤ nt) :
    Enters P f ∧ ∀ cs, ∃ E' own' w' fx val, Post Q E E' own own' H H' w w' ∧ fx.fn = f ∧ Steps P (lone (Frame.enter P f ⟨vals⟩ .normal) cs w) (lone fx cs w') ∧
    (match r with
     | .val v => RetV E' own' w' v val ∧ fx.leaving P w' (.returned val)
     | .pan v => V E' .nil v val ∧ fx.leaving P w' (.panicked [{ v := val, recovered := false }])) := by
  obtain ⟨fn, hfn, hbody, hnt, hrs⟩ := func_ok g hfunc
  simp only at hbody hnt hrs
  refine ⟨⟨fn, hfn, fp.nm f fn hfn, by rw [hbody]; rfl⟩, fun cs => ?_⟩
  have hr : RecI E { (default : Frame) with fn := f, kind := .normal, roundOf := none } (fun _ => cs) (frame0 args none) := by
    intro _
    refine ⟨rfl, fun fr0 hk => ?_⟩
    have hk : fr0.kind = .normal := hk
    unfold tryRecover
    rw [hk]
  rw [← hrs] at h
  obtain ⟨E', own', w', fx, val, hi, hg, hh, h1, h2, h3, hst, hret⟩ := body_ok (kind := .normal) g co hdr hfn hbody (fp.fit f fn body hfn hbody) h hp hv (by omega) hr
  refine ⟨E', own', w', fx, val, ⟨hi, hg.full hp.msk, hh⟩, h1, hst, ?_⟩
  cases r with
  | val v => exact ⟨hret.1, hret.2.1, h3, h2, fn, by rw [h1]; exact hfn, hret.2.2⟩
  | pan v => exact ⟨hret.1, hret.2, h3, fn, by rw [h1]; exact hfn⟩

end
end Go.Proofs.Ev
