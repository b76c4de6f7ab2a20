/- Quiet functions; every call. -/
import Derived.Test.YtanknkgbleeffaaGreatDoorEvRound
set_option linter.all false
namespace Go.Proofs.Ev
open Go
variable [Sg]

section
variable {P : Program} {cx : Cx} {Q : Name} {N : Nat} {S : Nat → Prop} {E E' : Env} {own own' : Nat → Tag} {H H' : Heap} {m : Mine} {fr fr' : Fr} {a : Act} {w w' : World} {id : Nat} {v : AV} {b : Frame} {stk : Bool → List Frame} {call : Caller} {f : FuncId} {n : Nat}

/-- blocks of what was made below a name -/
def Below (Q : Name) (E : Env) (H : Heap) (b : Nat) : Prop := ∃ o n cs d, under Q o = true ∧ look H.ob o = some (n, cs) ∧ E.O o n = some (b, d)

open Classical in
noncomputable def froz (Q : Name) (E : Env) (H : Heap) (w : World) : Env := { E with M := fun b i => if Below Q E H b then w.cell? ⟨b, i, none⟩ else E.M b i }

theorem Below.tag (hi : Inv E own H w) {b : Nat} (h : Below Q E H b) : ∃ o, own b = .obj o ∧ under Q o = true ∧ ∀ i, E.M b i = none := by
  obtain ⟨o, n, cs, d, h1, h2, h3⟩ := h
  obtain ⟨b', d', c, ty, h4, h5, _, _, _, h6⟩ := hi.obj o n cs h2
  rw [h3] at h4
  simp only [Option.some.injEq, Prod.mk.injEq] at h4
  obtain ⟨rfl, rfl⟩ := h4
  exact ⟨o, h5, h1, h6⟩

theorem froz_in {b i : Nat} (h : Below Q E H b) : (froz Q E H w).M b i = w.cell? ⟨b, i, none⟩ := by
  unfold froz
  simp only
  rw [if_pos h]

theorem froz_out {b i : Nat} (h : ¬ Below Q E H b) : (froz Q E H w).M b i = E.M b i := by
  unfold froz
  simp only
  rw [if_neg h]

theorem froz_le (hi : Inv E own H w) : E.le (froz Q E H w) :=
  ⟨fun _ _ h => h, fun b i v hv => (by
    by_cases hb : Below Q E H b
    · obtain ⟨_, _, _, h⟩ := hb.tag hi
      rw [h] at hv; cases hv
    · rw [froz_out hb]; exact hv), fun _ _ _ h => h, fun _ _ h => h⟩

theorem mapR_ok {E E' : Env} {g : AV → R AV} (hg : ∀ x y val, g x = .ok y → V E .nil x val → V E' .nil y val) : ∀ {l l' : List AV} {vals : List Value}, mapR g l = .ok l' → Vs E .nil l vals → Vs E' .nil l' vals
  | [], l', vals, h, hv => by simp only [mapR, R.ok.injEq] at h; subst h; simpa only [Vs] using hv
  | x :: r, l', vals, h, hv => by
    simp only [Vs] at hv
    obtain ⟨u, s, rfl, hx, hs⟩ := hv
    simp only [mapR] at h
    split at h
    · cases h
    rename_i y hy
    split at h
    rotate_left
    · cases h
    rename_i r' hr
    simp only [R.ok.injEq] at h
    subst h
    simp only [Vs]
    exact ⟨u, s, rfl, hg _ _ _ hy hx, mapR_ok hg hr hs⟩

theorem Rmap_ok {α β : Type} {g : α → β} {x : R α} {y : β} (h : x.map g = .ok y) : ∃ z, x = .ok z ∧ y = g z := by
  cases x with
  | no e => simp [R.map] at h
  | ok z => simp only [R.map, R.ok.injEq] at h; exact ⟨z, rfl, h.symm⟩

theorem freeze_ok (hi : Inv E own H w) : ∀ (d : Nat) {x y : AV} {val : Value}, freeze Q H d x = .ok y → V E .nil x val → V (froz Q E H w) .nil y val
  | 0, x, y, val, h, _ => by simp [freeze] at h
  | d + 1, x, y, val, h, hx => by
    have ih : ∀ x y val, freeze Q H d x = .ok y → V E .nil x val → V (froz Q E H w) .nil y val := fun x y val h hx => freeze_ok hi d h hx
    have hle := froz_le (Q := Q) hi
    unfold freeze at h
    split at h
    · rename_i o ver off
      split at h
      · rename_i hu
        split at h
        rotate_left
        · cases h
        rename_i vv cs hg
        split at h
        rotate_left
        · cases h
        rename_i hver
        subst hver
        obtain ⟨cs', hm, rfl⟩ := Rmap_ok h
        unfold Heap.get at hg
        split at hg
        rotate_left
        · cases hg
        rename_i z hl
        simp only [R.ok.injEq] at hg
        subst hg
        simp only [V] at hx
        obtain ⟨b, d0, hO, rfl⟩ := hx
        obtain ⟨vs, hvl, hlies, hVs⟩ := obj_lies hi hl hO
        simp only [V]
        refine ⟨b, d0, vs, rfl, fun i u hu' => ?_, mapR_ok ih hm hVs⟩
        rw [froz_in ⟨o, vv, cs, d0, hu, hl, hO⟩]
        exact hlies i u hu'
      · simp only [R.ok.injEq] at h
        subst h
        exact V.mono hle hx
    · rename_i o ver off len sz
      split at h
      · rename_i hu
        split at h
        rotate_left
        · cases h
        rename_i vv cs hg
        split at h
        rotate_left
        · cases h
        rename_i hver
        subst hver
        split at h
        rotate_left
        · cases h
        rename_i cs' hm
        unfold mlElems at h
        split at h
        rotate_left
        · cases h
        rename_i l htk
        simp only [R.ok.injEq] at h
        subst h
        obtain ⟨rfl, hlen⟩ := takeN_ok htk
        unfold Heap.get at hg
        split at hg
        rotate_left
        · cases hg
        rename_i z hl
        simp only [R.ok.injEq] at hg
        subst hg
        simp only [V] at hx
        obtain ⟨b, d0, cap, nb, e, hO, hS, rfl, hle', hz, he⟩ := hx
        obtain ⟨vs, hvl, hlies, hVs⟩ := obj_lies hi hl hO
        obtain ⟨p1, p2, p3⟩ := pieces_flat sz len _ hlen
        simp only [V]
        refine ⟨some ⟨b, e, none⟩, cap, (vs.drop off).take (len * sz), sz, by rw [p2], by rw [p2]; exact hle', p3, ?_, ⟨rfl, fun i u hu' => ?_⟩, trivial⟩
        · rw [Vss.flat, p1]
          exact ((mapR_ok ih hm hVs).drop off).take _
        · rw [froz_in ⟨o, vv, cs, d0, hu, hl, hO⟩]
          by_cases hc : 0 < cap
          · obtain ⟨rfl, _⟩ := he hc
            exact hlies.sub off _ i u hu'
          · have : len = 0 := by omega
            subst this
            simp at hu'
      · simp only [R.ok.injEq] at h
        subst h
        exact V.mono hle hx
    · obtain ⟨cs', hm, rfl⟩ := Rmap_ok h
      simp only [V] at hx ⊢
      obtain ⟨vs, rfl, hvs⟩ := hx
      exact ⟨vs, rfl, mapR_ok ih hm hvs⟩
    · obtain ⟨cs', hm, rfl⟩ := Rmap_ok h
      simp only [V] at hx ⊢
      obtain ⟨vs, rfl, hvs⟩ := hx
      exact ⟨vs, rfl, mapR_ok ih hm hvs⟩
    · obtain ⟨cs', hm, rfl⟩ := Rmap_ok h
      simp only [V] at hx ⊢
      obtain ⟨vs, rfl, hvs⟩ := hx
      exact ⟨vs, rfl, mapR_ok ih hm hvs⟩
    · obtain ⟨z, hm, rfl⟩ := Rmap_ok h
      simp only [V] at hx ⊢
      obtain ⟨u, rfl, hu⟩ := hx
      exact ⟨u, rfl, ih _ _ _ hm hu⟩
    · simp only [R.ok.injEq] at h
      subst h
      exact V.mono hle hx

theorem quiet_post (hp : Pre cx Q E own H w) {H1 : Heap} (h : Post Q E E' own own' { H with lim := Q } H1 w w') : Post Q E (froz Q E' H1 w') own own' H H w w' := by
  have hle := froz_le (Q := Q) h.inv
  have hob : ∀ o n cs, look H.ob o = some (n, cs) → under Q o = false := fun o n cs hl => by
    obtain ⟨b, d, c, ty, hO, _⟩ := hp.inv.obj o n cs hl
    exact hp.fO o n _ hO
  have hlp : ∀ l r, look H.lp l = some r → under Q l = false := fun l r hl => by
    obtain ⟨b, L, hL, _⟩ := hp.inv.lop l r hl
    exact hp.fL l _ hL
  have hlim : ∀ o, under H.lim o = false → under Q o = false := fun o ho => by
    cases hx : under Q o with
    | false => rfl
    | true => rw [under_trans hp.lim hx] at ho; cases ho
  refine ⟨⟨?_, h.inv.siz, h.inv.bnd, h.inv.lbnd, ?_, ?_, h.inv.big, ?_⟩, ⟨h.grow.env.trans hle, h.grow.size, h.grow.keep, h.grow.tags, ?_, h.grow.names, h.grow.lnames, h.grow.outer⟩, ⟨rfl, fun _ _ => rfl, fun _ _ => rfl, fun o n p ho hO => h.same.nm o n p (hlim o ho) hO⟩⟩
  · intro b i v hv
    by_cases hb : Below Q E' H1 b
    · rw [froz_in hb] at hv; exact hv
    · rw [froz_out hb] at hv; exact h.inv.frz _ _ _ hv
  · intro o n cs hl
    have hu := hob o n cs hl
    have hl1 : look H1.ob o = some (n, cs) := (h.same.ob o hu).trans hl
    obtain ⟨b, d, c, ty, h1, h2, h3, h4, h5, h6⟩ := h.inv.obj o n cs hl1
    refine ⟨b, d, c, ty, h1, h2, h3, h4, fun i x hx => let ⟨v, h7, h8⟩ := h5 i x hx; ⟨v, h7, V.mono hle h8⟩, fun i => ?_⟩
    rw [froz_out, h6 i]
    intro hb
    obtain ⟨o', h7, h8, _⟩ := hb.tag h.inv
    rw [h2] at h7
    cases h7
    rw [hu] at h8
    cases h8
  · intro l r hl
    have hl1 : look H1.lp l = some r := (h.same.lp l (hlp l r hl)).trans hl
    obtain ⟨b, L, h1, h2, h3, h4⟩ := h.inv.lop l r hl1
    exact ⟨b, L, h1, h2, h3, h4.mono hle⟩
  · intro o n cs hl n' hn
    have hl1 : look H1.ob o = some (n, cs) := (h.same.ob o (hob o n cs hl)).trans hl
    exact h.inv.ver o n cs hl1 n' hn
  · intro b i v hv hb ho
    by_cases hbe : Below Q E' H1 b
    · obtain ⟨o', h7, _, _⟩ := hbe.tag h.inv
      rw [h.grow.tags b hb] at h7
      rw [h7] at ho
      cases ho
    · rw [froz_out hbe] at hv
      exact h.grow.frz b i v hv hb ho

/-- functions that are given as laws -/
def ExtOk (P : Program) (cx : Cx) : Prop := ∀ f args v, cx.ext f args = some (.ok v) → ∀ Q E own H w (vals : List Value), Pre cx Q E own H w → Vs E .nil args vals → Enters P f ∧ ∀ cs, ∃ E' own' w' fx val, Post Q E E' own own' H H w w' ∧ fx.fn = f ∧
    Steps P (lone (Frame.enter P f ⟨vals⟩ .normal) cs w) (lone fx cs w') ∧ RetV E' own' w' v val ∧ fx.leaving P w' (.returned val)

theorem freeze_own {H : Heap} {d : Nat} {x : AV} {xs : List (List AV)} (h : freeze Q H d x = .ok (.sl .own xs)) : x = .sl .own xs := by
  cases d with
  | zero => simp [freeze] at h
  | succ d =>
    unfold freeze at h
    repeat' split at h
    all_goals first
      | (cases h; done)
      | (obtain ⟨_, _, e⟩ := Rmap_ok h; cases e; done)
      | (simp only [R.ok.injEq] at h; exact h)
      | (unfold mlElems at h; split at h <;> simp at h)

theorem fnB_ok (g : Good P cx) (fp : FitP P) (co : CallOk P cx call) (hdr : DrawOk P cx call) {args : List AV} {r : Ret} (h : fnB cx call n f Q args H = .ok (r, H')) {vals : List Value} (hp : Pre cx Q E own H w) (hv : Vs E .nil args vals) :
    Enters P f ∧ ∀ cs, ∃ E' own' w' fx val, Post Q E E' own own' H H' w w' ∧ fx.fn = f ∧ Steps P (lone (Frame.enter P f ⟨vals⟩ .normal) cs w) (lone fx cs w') ∧
    (match r with
     | .val v => RetV E' own' w' v val ∧ fx.leaving P w' (.returned val)
     | .pan v => V E' .nil v val ∧ fx.leaving P w' (.panicked [{ v := val, recovered := false }])) := by
  unfold fnB at h
  split at h
  · cases h
  rename_i nt rs body hfunc
  split at h
  rotate_left
  · cases h
  rename_i hle
  have hle := Nat.le_of_ble_eq_true hle
  split at h
  · unfold retOnly at h
    split at h
    rotate_left
    · cases h
    rename_i r' fr1 H1 hend
    simp only [R.ok.injEq, Prod.mk.injEq] at h
    obtain ⟨rfl, rfl⟩ := h
    exact plain_ok g fp co hdr hfunc hend hp hv hle
  · have hpq : Pre cx Q E own { H with lim := Q } w :=
      ⟨⟨hp.inv.frz, hp.inv.siz, hp.inv.bnd, hp.inv.lbnd, hp.inv.obj, hp.inv.lop, hp.inv.big, hp.inv.ver⟩, hp.glb, hp.msk, hp.fO, hp.fL, under_refl Q⟩
    unfold quietEnd at h
    split at h
    · rename_i v fr1 H1 hend
      split at h
      rotate_left
      · cases h
      rename_i v' hfz
      simp only [R.ok.injEq, Prod.mk.injEq] at h
      obtain ⟨rfl, rfl⟩ := h
      obtain ⟨hent, hall⟩ := plain_ok g fp co hdr hfunc hend hpq hv hle
      refine ⟨hent, fun cs => ?_⟩
      obtain ⟨E', own', w', fx, val, hpost, hfx, hst, hret, hlv⟩ := hall cs
      refine ⟨_, own', w', fx, val, quiet_post hp hpost, hfx, hst, ⟨freeze_ok hpost.inv 60 hfz hret.1, fun xs e => ?_⟩, hlv⟩
      subst e
      have := freeze_own hfz
      subst this
      obtain ⟨ad, cap, sz, c, ty, t, vs, h1, h2, h3, h4, h5, h6, h7, h8, h9, h10, h11, h12⟩ := hret.2 xs rfl
      have hle' := froz_le (Q := Q) hpost.inv
      refine ⟨ad, cap, sz, c, ty, t, vs, h1, h2, h3, h4, h5, h6, h7, h8, fun i hi => ?_, h10, Vss.mono hle' h11, h12.mono hle'⟩
      rw [froz_out, h9 i hi]
      intro hb
      obtain ⟨o', h13, _⟩ := hb.tag hpost.inv
      rw [h4] at h13
      cases h13
    · rename_i v fr1 H1 hend
      simp only [R.ok.injEq, Prod.mk.injEq] at h
      obtain ⟨rfl, rfl⟩ := h
      obtain ⟨hent, hall⟩ := plain_ok g fp co hdr hfunc hend hpq hv hle
      refine ⟨hent, fun cs => ?_⟩
      obtain ⟨E', own', w', fx, val, hpost, hfx, hst, hret, hlv⟩ := hall cs
      exact ⟨_, own', w', fx, val, quiet_post hp hpost, hfx, hst, V.mono (froz_le hpost.inv) hret, hlv⟩
    · cases h

theorem fnB_quiet {args : List AV} {r : Ret} (hq : cx.quiet f = true) (h : fnB cx call n f Q args H = .ok (r, H')) : H' = H := by
  unfold fnB at h
  split at h
  · cases h
  split at h
  rotate_left
  · cases h
  rw [hq] at h
  simp only [quietEnd] at h
  split at h
  · split at h
    · simp only [R.ok.injEq, Prod.mk.injEq] at h; exact h.2.symm
    · cases h
  · simp only [R.ok.injEq, Prod.mk.injEq] at h; exact h.2.symm
  · cases h

theorem forkOf_ok {args : List AV} (h : forkOf cx f args = true) : cx.quiet f = true ∧ ∃ t, args = [.sl t []] := by
  unfold forkOf at h
  split at h
  · cases h
  · cases h
  · simp only [Bool.and_eq_true] at h
    exact ⟨h.2, _, rfl⟩
  · cases h

theorem joinF_ok {x y : R (Ret × Heap)} {r : Ret} (h : joinF H x y = .ok (r, H')) : ∃ t1 t2 H1 H2, x = .ok (.val (.sl t1 []), H1) ∧ y = .ok (.val (.sl t2 []), H2) ∧ r = .val (.sl .non []) ∧ H' = H := by
  unfold joinF at h
  split at h
  · cases h
  · cases h
  · simp only [R.ok.injEq, Prod.mk.injEq] at h
    exact ⟨_, _, _, _, rfl, rfl, h.1.symm, h.2.symm⟩
  · cases h
  · cases h
  · cases h

theorem RetV.empty {t : Tok} {val : Value} (h : RetV E own w (.sl t []) val) : RetV E own w (.sl .non []) val := by
  refine ⟨?_, fun xs e => by cases e⟩
  have := h.1
  simp only [V] at this ⊢
  obtain ⟨base, cap, vs, sz, h1, h2, h3, h4, h5, _⟩ := this
  exact ⟨base, cap, vs, sz, h1, h2, h3, h4, h5, trivial⟩

theorem fn_ok (g : Good P cx) (fp : FitP P) (ex : ExtOk P cx) (co : CallOk P cx call) (hdr : DrawOk P cx call) {args : List AV} {r : Ret} (h : fnA cx call n f Q args H = .ok (r, H')) {vals : List Value} (hp : Pre cx Q E own H w) (hv : Vs E .nil args vals) :
    Enters P f ∧ ∀ cs, ∃ E' own' w' fx val, Post Q E E' own own' H H' w w' ∧ fx.fn = f ∧ Steps P (lone (Frame.enter P f ⟨vals⟩ .normal) cs w) (lone fx cs w') ∧
    (match r with
     | .val v => RetV E' own' w' v val ∧ fx.leaving P w' (.returned val)
     | .pan v => V E' .nil v val ∧ fx.leaving P w' (.panicked [{ v := val, recovered := false }])) := by
  unfold fnA at h
  split at h
  · rename_i v hx
    simp only [R.ok.injEq, Prod.mk.injEq] at h
    obtain ⟨rfl, rfl⟩ := h
    exact ex f args v hx Q E own H w vals hp hv
  · cases h
  split at h
  · rename_i hfk
    obtain ⟨hq, t, rfl⟩ := forkOf_ok hfk
    obtain ⟨t1, t2, H1, H2, hx, hy, rfl, rfl⟩ := joinF_ok h
    simp only [Vs, V] at hv
    obtain ⟨v, s, rfl, ⟨base, cap, vs, sz, rfl, h2, h3, h4, h5, _⟩, rfl⟩ := hv
    cases base with
    | none =>
      have := fnB_quiet hq hx
      subst this
      obtain ⟨hent, hall⟩ := fnB_ok g fp co hdr hx (vals := [.slice none 0 cap]) hp (by
        simp only [Vs, V]
        exact ⟨_, _, rfl, ⟨none, cap, vs, sz, rfl, h2, h3, h4, h5, rfl⟩, rfl⟩)
      refine ⟨hent, fun cs => ?_⟩
      obtain ⟨E', own', w', fx, val, k1, k2, k3, k4, k5⟩ := hall cs
      exact ⟨E', own', w', fx, val, k1, k2, k3, k4.empty, k5⟩
    | some ad =>
      have := fnB_quiet hq hy
      subst this
      obtain ⟨hent, hall⟩ := fnB_ok g fp co hdr hy (vals := [.slice (some ad) 0 cap]) hp (by
        simp only [Vs, V]
        exact ⟨_, _, rfl, ⟨some ad, cap, vs, sz, rfl, h2, h3, h4, h5, rfl⟩, rfl⟩)
      refine ⟨hent, fun cs => ?_⟩
      obtain ⟨E', own', w', fx, val, k1, k2, k3, k4, k5⟩ := hall cs
      exact ⟨E', own', w', fx, val, k1, k2, k3, k4.empty, k5⟩
  · exact fnB_ok g fp co hdr h hp hv

/-- every call that the evaluator answers is the machine's -/
theorem callA_ok (g : Good P cx) (fp : FitP P) (ex : ExtOk P cx) (hdr : ∀ n, CallOk P cx (callA cx n) → DrawOk P cx (callA cx n)) : ∀ n, CallOk P cx (callA cx n)
  | 0 => by
    have hno : ∀ w Q args H, callA cx 0 w Q args H = .no 99 := fun _ _ _ _ => rfl
    refine ⟨?_, ?_, ?_⟩ <;> intros <;> simp_all
  | n + 1 => by
    have co := callA_ok g fp ex hdr n
    refine ⟨?_, ?_, ?_⟩
    · intro f Q args H r H' h E own w vals hp hv
      have h : fnA cx (callA cx n) n f Q args H = .ok (r, H') := h
      obtain ⟨hent, hall⟩ := fn_ok g fp ex co (hdr _ co) h hp hv
      refine ⟨hent, fun cs => ?_⟩
      obtain ⟨E', own', w', fx, val, h1, h2, h3, h4⟩ := hall cs
      refine ⟨E', own', w', fx, val, h1, h2, h3, ?_⟩
      cases r <;> exact h4
    · intro l Q args H r H' h E own w vals bl hp hbl hv
      have h : roundA cx (callA cx n) n l Q args H = .ok (r, H') := h
      exact round_ok g co (hdr _ co) h hp hbl hv
    · intro f rc Q args H r H' h E own w vals hp hv
      have h : dfrA cx (callA cx n) n f rc Q args H = .ok (r, H') := h
      exact dfr_ok g fp co (hdr _ co) h hp hv

end
end Go.Proofs.Ev
