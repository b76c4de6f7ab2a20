/- Code. -/
import Derived.Test.YtanknkgbleeffaaGreatDoorEvE
set_option linter.all false
namespace Go.Proofs.Ev
open Go
variable [Sg]

/-- regions that draw their order -/
def DrawOk (P : Program) (cx : Cx) (call : Caller) : Prop :=
  ∀ (f : FuncId) (Q : Name) (N : Nat) (ops : Array Oper) (rid : Nat) (fr : Fr) (H : Heap) (ex : Ex) (fr' : Fr) (H' : Heap), (∀ o ∈ ops.toList, ∀ d, o.dst = some d → d < N) → RegOk ops →
    regionA cx call f Q ops true fr H = .ok (ex, fr', H') → ∀ (E : Env) (own : Nat → Tag) (m : Mine) (a : Act) (w : World) (b : Frame) (stk : Bool → List Frame) (k : List Item), St cx Q N (fun j => fr.ct ≤ j) E own H m fr a w → RecI E b stk fr →
    Sim P cx Q N E own H fr w b stk (lone (b.atR a (.code (.region rid ops true) :: k)) (stk fr.rd) w) k ex fr' H'

section
variable {P : Program} {cx : Cx} {Q : Name} {N : Nat} {S : Nat → Prop} {E : Env} {own : Nat → Tag} {H H' : Heap} {m : Mine} {fr fr' : Fr} {a : Act} {w : World} {id : Nat} {v : AV} {b : Frame} {stk : Bool → List Frame} {o : Oper} {call : Caller} {ops : Array Oper} {i : Nat} {rest : List Nat} {k : List Item}
  {f : FuncId} {n : Nat}

theorem St.ct (hs : St cx Q N S E own H m fr a w) {x : Nat} : St cx Q N S E own H m { fr with ct := x } a w :=
  ⟨hs.inv, ⟨hs.frm.size, hs.frm.tms, hs.frm.lcs, hs.frm.fls⟩, hs.glb, hs.fresh, hs.df, hs.lim⟩

theorem Sim.ct {x : Nat} {M : Machine} {ex : Ex} (hx : fr.ct ≤ x) (h : Sim P cx Q N E own H { fr with ct := x } w b stk M k ex fr' H') : Sim P cx Q N E own H fr w b stk M k ex fr' H' := by
  obtain ⟨E', own', m', a', w', h1, h2, h3, h4, h5, h6⟩ := h
  exact ⟨E', own', m', a', w', h1, h2, h3, h4, Nat.le_trans hx h5, h6⟩

theorem Sim.weak {M : Machine} {ex : Ex} {k' : List Item} (h : Sim P cx Q N E own H fr w b stk M k ex fr' H') (hw : ∀ E' a' w', Arr P M b k (stk fr'.rd) ex E' a' w' → Arr P M b k' (stk fr'.rd) ex E' a' w') : Sim P cx Q N E own H fr w b stk M k' ex fr' H' := by
  obtain ⟨E', own', m', a', w', h1, h2, h3, h4, h5, h6⟩ := h
  exact ⟨E', own', m', a', w', h1, h2, h3, h4, h5, hw _ _ _ h6⟩

/-- what is to be shown of a code -/
def CodeSim (P : Program) (cx : Cx) (call : Caller) (f : FuncId) (Q : Name) (N n : Nat) (x : Code) : Prop :=
  ∀ (fr : Fr) (H : Heap) (ex : Ex) (fr' : Fr) (H' : Heap), codeA cx call f Q n x fr H = .ok (ex, fr', H') → ∀ (E : Env) (own : Nat → Tag) (m : Mine) (a : Act) (w : World) (b : Frame) (stk : Bool → List Frame) (k : List Item), b.fn = f →
    St cx Q N (fun j => fr.ct ≤ j) E own H m fr a w → RecI E b stk fr → Sim P cx Q N E own H fr w b stk (lone (b.atR a (.code x :: k)) (stk fr.rd) w) k ex fr' H'

theorem loop_sim {c : Code} (ih : CodeSim P cx call f Q N n c) : ∀ (j : Nat) (fr : Fr) (H : Heap) (ex : Ex) (fr' : Fr) (H' : Heap), loopA (codeA cx call f Q n c) j fr H = .ok (ex, fr', H') → ∀ (E : Env) (own : Nat → Tag) (m : Mine) (a : Act) (w : World) (b : Frame) (stk : Bool → List Frame) (k : List Item), b.fn = f →
    St cx Q N (fun j => fr.ct ≤ j) E own H m fr a w → RecI E b stk fr → Sim P cx Q N E own H fr w b stk (lone (b.atR a (.code c :: .inLoop c :: k)) (stk fr.rd) w) k ex fr' H'
  | 0, fr, H, ex, fr', H', h, E, own, m, a, w, b, stk, k, hb, hs, hr => by
    have h : (R.no 94 : R (Ex × Fr × Heap)) = .ok (ex, fr', H') := h
    cases h
  | j + 1, fr, H, ex, fr', H', h, E, own, m, a, w, b, stk, k, hb, hs, hr => by
    have h : (match codeA cx call f Q n c fr H with
      | .ok (.normal, fr, H) => loopA (codeA cx call f Q n c) j fr H
      | r => r) = .ok (ex, fr', H') := h
    split at h
    · rename_i fr1 H1 h1
      obtain ⟨E1, own1, m1, a1, w1, s1, g1, e1, r1, c1, ar⟩ := ih fr H _ _ _ h1 E own m a w b stk (.inLoop c :: k) hb hs hr
      have h2 := loop_sim ih j fr1 H1 ex fr' H' h E1 own1 m1 a1 w1 b stk k hb s1 r1
      exact Sim.of_steps (Steps.trans ar (.one stepR_inLoop)) (Sim.after g1 e1 c1 h2)
    · rename_i hne
      have h2 := ih fr H ex fr' H' h E own m a w b stk (.inLoop c :: k) hb hs hr
      refine h2.weak fun E' a' w' har => ?_
      cases ex with
      | normal => exact absurd h (by intro e; exact hne _ _ e)
      | exit id => obtain ⟨k1, hk, hst⟩ := har; exact ⟨k1, by rw [hk]; exact exitTo_plain rfl id k, hst⟩
      | ret => exact har
      | pan v => exact har

theorem setObj_run {l : Nat} {L : Loop} {x : Obj} (h : w.heap[l]? = some (.loop L)) : (setObj l x).run P w = .ok () { w with heap := w.heap.setIfInBounds l x } := by
  simp [setObj, Sem.run, h]

theorem range_sim (co : CallOk P cx call) {ex : Ex} {gop : Operand} {ps : Array Tmp} {assign body : Code} (h : rangeA cx call f Q gop ps.toList assign body fr H = .ok (ex, fr', H')) (hb : b.fn = f) (hfit : (∀ t ∈ ps.toList, t < N) ∧ Fit N assign ∧ Fit N body) (hs : St cx Q N (fun j => fr.ct ≤ j) E own H m fr a w) (hr : RecI E b stk fr) :
    Sim P cx Q N E own H fr w b stk (lone (b.atR a (.code (.rangeFunc gop ps assign body) :: k)) (stk fr.rd) w) k ex fr' H' := by
  unfold rangeA at h
  split at h
  · cases h
  rename_i hrd
  have hrd : fr.rd = false := by cases hx : fr.rd <;> simp_all
  obtain ⟨hro, _⟩ := hr hrd
  split at h
  rotate_left
  · cases h
  rename_i g cap hg
  split at h
  · cases h
  · cases h
  rename_i rv H2 hcall
  have hgv := hs.ev gop
  rw [hg] at hgv
  simp only [V] at hgv
  obtain ⟨cvs, hgv, hcv⟩ := hgv
  obtain ⟨E1, own1, s1, g1, e1, hL1, hO1, hLs⟩ := enter_turn (id := fr.ct) hs (Nat.le_refl _) (f := f) (ps := ps) (assign := assign) (body := body) rfl hfit
  have hpre : Pre cx (0 :: fr.ct :: Q) E1 (fun b => (own1 b).mask) (enterA Q f ps.toList assign body fr H) { w with heap := (w.heap.push (.deferred (some []))).push (.loop { state := .ready, pending := none, fn := f, tmps := a.tmps, params := ps, assign := assign, body := body, defers := w.heap.size }) } :=
    { inv := s1.inv.mask
      glb := s1.glb
      msk := fun b => Tag.mask_mask _
      fO := fun o n p h => under_no (hs.fresh.O fr.ct (Nat.le_refl _) o n p (hO1 o n p h))
      fL := fun l b h => by
        rcases hLs l b h with h1 | rfl
        · exact under_no (hs.fresh.L fr.ct (Nat.le_refl _) l b h1)
        · cases hx : under (0 :: fr.ct :: Q) (fr.ct :: Q) with
          | false => rfl
          | true =>
            obtain ⟨l, hl⟩ := under_iff.1 hx
            have := congrArg List.length hl
            simp at this
            omega
      lim := under_trans (under_trans hs.lim (under_self _ _)) (under_self _ _) }
  have hargs : Vs E1 .nil (.yld (fr.ct :: Q) :: cap) (.func (.yield (w.heap.size + 1)) #[] #[] :: cvs) := by
    simp only [Vs, V]
    exact ⟨_, _, rfl, ⟨_, hL1, rfl⟩, Vs.mono g1.env hcv⟩
  obtain ⟨hent, hall⟩ := co.fn g _ _ _ _ _ hcall E1 (fun b => (own1 b).mask) _ _ hpre hargs
  obtain ⟨E2, own2, w2, fx, val, hp, hfx, hst, hret, hlv⟩ := hall (b.atR { a with defers := [{ target := .collected w.heap.size, args := #[] }] ++ a.defers } (.inRangeFunc (w.heap.size + 1) :: k) :: stk fr.rd)
  obtain ⟨s2, g2, e2⟩ := s1.after (hp.under (under_self _ _))
  -- the machine's way in
  have hin : (Instr.enterLoop b.fn a.tmps ps assign body b.roundOf).run P w = .ok (w.heap.size + 1, [{ target := .collected w.heap.size, args := #[] }]) { w with heap := (w.heap.push (.deferred (some []))).push (.loop { state := .ready, pending := none, fn := f, tmps := a.tmps, params := ps, assign := assign, body := body, defers := w.heap.size }) } := by
    rw [hro, hb]
    have h1 : ∀ (w : World) o, (newObj o).run P w = .ok w.heap.size { w with heap := w.heap.push o } := fun _ _ => rfl
    simp only [Instr.enterLoop, Sem.run_bind, Sem.run_pure, h1, Result.andThen_ok, Array.size_push]
  have hres : (resolve a.eval (rangeCall gop (w.heap.size + 1)) 0).run P { w with heap := (w.heap.push (.deferred (some []))).push (.loop { state := .ready, pending := none, fn := f, tmps := a.tmps, params := ps, assign := assign, body := body, defers := w.heap.size }) } = .ok { target := .fn (.func g) ⟨cvs⟩, args := #[.func (.yield (w.heap.size + 1)) #[] #[]] } { w with heap := (w.heap.push (.deferred (some []))).push (.loop { state := .ready, pending := none, fn := f, tmps := a.tmps, params := ps, assign := assign, body := body, defers := w.heap.size }) } := by
    simp only [resolve, rangeCall, hgv, Deferred.ofValue, Sem.run_pure]
    simp [Act.eval]
  have hinv : ∀ w0 : World, (invoke (.fn (.func g) ⟨cvs⟩) #[.func (.yield (w.heap.size + 1)) #[] #[]]).run P w0 = .ok (.enter g ⟨.func (.yield (w.heap.size + 1)) #[] #[] :: cvs⟩) w0 := by
    intro w0
    simp only [invoke]
    rw [callFunc_ok hent]
    simp
  have henter := stepR_rangeFunc (P := P) (b := b) (a := a) (k := k) (cs := stk fr.rd) (w := w) hin hres (hinv _)
  have hback : step P (lone fx (b.atR { a with defers := [{ target := .collected w.heap.size, args := #[] }] ++ a.defers } (.inRangeFunc (w.heap.size + 1) :: k) :: stk fr.rd) w2) = .next (lone (b.atR { a with defers := [{ target := .collected w.heap.size, args := #[] }] ++ a.defers } (.endRangeFunc (w.heap.size + 1) :: k)) (stk fr.rd) w2) := by
    rw [← finish_atR_inRangeFunc (w.heap.size + 1) val]
    exact step_leave_returned hlv
  unfold pendA at h
  split at h
  · cases h
  rename_i r hlr
  split at h
  · cases h
  rename_i hst1
  obtain ⟨bl, L, hbl, hown, hwl, hrel⟩ := s2.inv.lop _ _ hlr
  have hble : bl = w.heap.size + 1 := by
    have := hp.grow.env.L _ _ hL1
    rw [this] at hbl
    exact (Option.some.inj hbl).symm
  subst hble
  have hnb : L.state ≠ .busy := by
    rw [hrel.st]
    intro e
    apply hst1
    unfold stOf at e
    split at e
    · cases e
    · rename_i heq; rw [heq]; rfl
    · cases e
    · cases e
  have hend : (Instr.endLoop (w.heap.size + 1)).run P w2 = .ok r.pending { w2 with heap := w2.heap.setIfInBounds (w.heap.size + 1) (.loop { L with state := .exhausted }) } := by
    rw [← hrel.pend]
    simp [Instr.endLoop, getLoop_run hwl, hnb, setObj_run hwl]
  have hrel' : LoopRel E2 { r with st := 3 } { L with state := .exhausted } := { hrel with st := rfl }
  obtain ⟨s3, g3, e3⟩ := loop_turn s2 hlr hbl hwl hown hrel' (by rw [e2.lim]; exact under_trans hs.lim (under_self _ _))
  have hsteps : Steps P (lone (b.atR a (.code (.rangeFunc gop ps assign body) :: k)) (stk fr.rd) w) (lone (b.atR { a with defers := [{ target := .collected w.heap.size, args := #[] }] ++ a.defers } ((r.pending.map Item.code).toList ++ k)) (stk fr.rd) { w2 with heap := w2.heap.setIfInBounds (w.heap.size + 1) (.loop { L with state := .exhausted }) }) :=
    .head henter (Steps.trans hst (.head hback (.one (stepR_endRangeFunc hend))))
  have hgrow := (g1.trans g2).trans g3
  have hsame := (e1.trans e2).trans e3
  have hfin : St cx Q N (fun j => fr.ct + 1 ≤ j) E2 (comb own1 own2 _) (setRec H2 (fr.ct :: Q) { r with st := 3 }) m { fr with ct := fr.ct + 1 } { a with defers := [{ target := .collected w.heap.size, args := #[] }] ++ a.defers } { w2 with heap := w2.heap.setIfInBounds (w.heap.size + 1) (.loop { L with state := .exhausted }) } :=
    (s3.mono (fun j hj => ⟨⟨by omega, by omega⟩, by omega⟩)).ct
  have hrec : RecI E2 b stk { fr with ct := fr.ct + 1 } := RecI.mono hgrow.env (fr' := { fr with ct := fr.ct + 1 }) rfl rfl hr
  split at h
  · rename_i hpn
    simp only [R.ok.injEq, Prod.mk.injEq] at h
    obtain ⟨rfl, rfl, rfl⟩ := h
    rw [hpn] at hsteps
    exact ⟨E2, _, m, _, _, hfin, hgrow, hsame, hrec, Nat.le_succ _, hsteps⟩
  · rename_i hpn
    simp only [R.ok.injEq, Prod.mk.injEq] at h
    obtain ⟨rfl, rfl, rfl⟩ := h
    rw [hpn] at hsteps
    exact ⟨E2, _, m, _, _, hfin, hgrow, hsame, hrec, Nat.le_succ _, ⟨k, hsteps⟩⟩
  · rename_i xid hpn
    simp only [R.ok.injEq, Prod.mk.injEq] at h
    obtain ⟨rfl, rfl, rfl⟩ := h
    rw [hpn] at hsteps
    exact ⟨E2, _, m, _, _, hfin, hgrow, hsame, hrec, Nat.le_succ _, ⟨k, rfl, hsteps⟩⟩
  · cases h

theorem code_ok (g : Good P cx) (co : CallOk P cx call) (hdr : DrawOk P cx call) : ∀ x : Code, Fit N x → CodeSim P cx call f Q N n x := by
  intro x
  induction x with
  | skip =>
    intro _ fr H ex fr' H' h E own m a w b stk k hb hs hr
    have h : (R.ok (Ex.normal, fr, H) : R (Ex × Fr × Heap)) = .ok (ex, fr', H') := h
    simp only [R.ok.injEq, Prod.mk.injEq] at h
    obtain ⟨rfl, rfl, rfl⟩ := h
    exact ⟨E, own, m, a, w, hs, .refl _ _ _ _, .refl _ _, hr, Nat.le_refl _, .one stepR_skip⟩
  | region rid ops draw =>
    intro hfit fr H ex fr' H' h E own m a w b stk k hb hs hr
    have h : regionA cx call f Q ops draw fr H = .ok (ex, fr', H') := h
    cases draw with
    | false =>
      have h : opsA cx call f Q ops fr.ct ops.toList 0 { fr with ct := fr.ct + ops.size } H = .ok (ex, fr', H') := h
      have h2 := opsA_ok (b := b) (stk := stk) (k := k) (N := N) g co hfit.1 fr.ct ops.toList 0 { fr with ct := fr.ct + ops.size } H ex fr' H' h rfl (Nat.zero_le _) E own m a w hs.ct rfl hr
      rw [Nat.sub_zero, ← List.range_eq_range'] at h2
      exact Sim.ct (Nat.le_add_right _ _) (Sim.of_steps (.one stepR_region) h2)
    | true => exact hdr f Q N ops rid fr H ex fr' H' hfit.1 (hfit.2 rfl) h E own m a w b stk k hs hr
  | seq x y ihx ihy =>
    intro hfit fr H ex fr' H' h E own m a w b stk k hb hs hr
    have h : thenA (codeA cx call f Q n x fr H) (codeA cx call f Q n y) = .ok (ex, fr', H') := h
    unfold thenA at h
    split at h
    · rename_i fr1 H1 h1
      obtain ⟨E1, own1, m1, a1, w1, s1, g1, e1, r1, c1, ar⟩ := ihx hfit.1 fr H _ _ _ h1 E own m a w b stk (.code y :: k) hb hs hr
      have h2 := ihy hfit.2 fr1 H1 ex fr' H' h E1 own1 m1 a1 w1 b stk k hb s1 r1
      exact Sim.of_steps (.head stepR_seq ar) (Sim.after g1 e1 c1 h2)
    · rename_i hne
      have h2 := ihx hfit.1 fr H ex fr' H' h E own m a w b stk (.code y :: k) hb hs hr
      refine Sim.of_steps (.one stepR_seq) (h2.weak fun E' a' w' har => ?_)
      cases ex with
      | normal => exact absurd h (by intro e; exact hne _ _ e)
      | exit id => obtain ⟨k1, hk, hst⟩ := har; exact ⟨k1, by rw [hk]; exact exitTo_plain rfl id k, hst⟩
      | ret => exact har
      | pan v => exact har
  | cond c x y ihx ihy =>
    intro hfit fr H ex fr' H' h E own m a w b stk k hb hs hr
    have h : condA (fr.ev cx c) (codeA cx call f Q n x fr H) (codeA cx call f Q n y fr H) = .ok (ex, fr', H') := h
    unfold condA at h
    have hv := hs.ev c
    split at h
    · rename_i e
      rw [e] at hv
      simp only [V] at hv
      exact Sim.of_steps (.one (stepR_cond (t := true) hv)) (ihx hfit.1 fr H ex fr' H' h E own m a w b stk k hb hs hr)
    · rename_i e
      rw [e] at hv
      simp only [V] at hv
      exact Sim.of_steps (.one (stepR_cond (t := false) hv)) (ihy hfit.2 fr H ex fr' H' h E own m a w b stk k hb hs hr)
    · cases h
  | block bid x ih =>
    intro hfit fr H ex fr' H' h E own m a w b stk k hb hs hr
    have h0 : blockA bid (codeA cx call f Q n x fr H) = .ok (ex, fr', H') := h
    replace h := h0
    clear h0
    unfold blockA at h
    split at h
    · rename_i xid fr1 H1 h1
      obtain ⟨E1, own1, m1, a1, w1, s1, g1, e1, r1, c1, k1, hk, ar⟩ := ih hfit fr H _ _ _ h1 E own m a w b stk (.inBlock bid :: k) hb hs hr
      split at h
      · rename_i he
        have he := Nat.eq_of_beq_eq_true he
        subst he
        simp only [R.ok.injEq, Prod.mk.injEq] at h
        obtain ⟨rfl, rfl, rfl⟩ := h
        have hx : exitTo xid k1 = some k := by rw [hk]; simp [exitTo]
        exact ⟨E1, own1, m1, a1, w1, s1, g1, e1, r1, c1, .head stepR_block (Steps.trans ar (.one (stepR_exit hx)))⟩
      · rename_i he
        simp only [R.ok.injEq, Prod.mk.injEq] at h
        obtain ⟨rfl, rfl, rfl⟩ := h
        have hne : (bid == xid) = false := by
          rw [beq_eq_false_iff_ne]
          rintro rfl
          exact he (Nat.beq_refl _)
        exact ⟨E1, own1, m1, a1, w1, s1, g1, e1, r1, c1, k1, by rw [hk]; simp [exitTo, hne], .head stepR_block ar⟩
    · rename_i hne
      have h2 := ih hfit fr H ex fr' H' h E own m a w b stk (.inBlock bid :: k) hb hs hr
      obtain ⟨E1, own1, m1, a1, w1, s1, g1, e1, r1, c1, ar⟩ := h2
      refine ⟨E1, own1, m1, a1, w1, s1, g1, e1, r1, c1, ?_⟩
      cases ex with
      | normal => exact .head stepR_block (Steps.trans ar (.one stepR_inBlock))
      | exit id => exact absurd h (by intro e; exact hne _ _ _ e)
      | ret => exact Arr.of_steps (.one stepR_block) ar
      | pan v => exact Arr.of_steps (.one stepR_block) ar
  | loop x ih =>
    intro hfit fr H ex fr' H' h E own m a w b stk k hb hs hr
    have h : loopA (codeA cx call f Q n x) n fr H = .ok (ex, fr', H') := h
    exact Sim.of_steps (.one stepR_loop) (loop_sim (ih hfit) n fr H ex fr' H' h E own m a w b stk k hb hs hr)
  | rangeFunc gop ps assign body _ _ =>
    intro hfit fr H ex fr' H' h E own m a w b stk k hb hs hr
    have h : rangeA cx call f Q gop ps.toList assign body fr H = .ok (ex, fr', H') := h
    exact range_sim co h hb hfit hs hr
  | exit xid =>
    intro hfit fr H ex fr' H' h E own m a w b stk k hb hs hr
    have h : (R.ok (Ex.exit xid, fr, H) : R (Ex × Fr × Heap)) = .ok (ex, fr', H') := h
    simp only [R.ok.injEq, Prod.mk.injEq] at h
    obtain ⟨rfl, rfl, rfl⟩ := h
    exact ⟨E, own, m, a, w, hs, .refl _ _ _ _, .refl _ _, hr, Nat.le_refl _, k, rfl, Steps.refl P _⟩
  | ret =>
    intro hfit fr H ex fr' H' h E own m a w b stk k hb hs hr
    have h : (R.ok (Ex.ret, fr, H) : R (Ex × Fr × Heap)) = .ok (ex, fr', H') := h
    simp only [R.ok.injEq, Prod.mk.injEq] at h
    obtain ⟨rfl, rfl, rfl⟩ := h
    exact ⟨E, own, m, a, w, hs, .refl _ _ _ _, .refl _ _, hr, Nat.le_refl _, k, Steps.refl P _⟩
  | scope x _ => intro _ fr H ex fr' H' h; have h : (R.no 96 : R (Ex × Fr × Heap)) = .ok (ex, fr', H') := h; cases h
  | label l => intro _ fr H ex fr' H' h; have h : (R.no 96 : R (Ex × Fr × Heap)) = .ok (ex, fr', H') := h; cases h
  | goto l => intro _ fr H ex fr' H' h; have h : (R.no 96 : R (Ex × Fr × Heap)) = .ok (ex, fr', H') := h; cases h
  | refuse l => intro _ fr H ex fr' H' h; have h : (R.no 96 : R (Ex × Fr × Heap)) = .ok (ex, fr', H') := h; cases h

end
end Go.Proofs.Ev
