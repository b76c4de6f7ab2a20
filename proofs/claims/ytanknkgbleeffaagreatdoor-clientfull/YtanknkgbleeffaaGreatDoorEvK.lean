/- Calls: what a callee may do, and what its caller knows after it. -/
import Derived.Test.YtanknkgbleeffaaGreatDoorEvJ
import Derived.Defers
import Derived.RangeFuncIn
set_option linter.all false
namespace Go.Proofs.Ev
open Go
variable [Sg]

structure Pre (cx : Cx) (Q : Name) (E : Env) (own : Nat → Tag) (H : Heap) (w : World) : Prop where
  inv : Inv E own H w
  glb : GlobOk cx E
  msk : ∀ b, (own b).mask = own b
  fO : ∀ o n p, E.O o n = some p → under Q o = false
  fL : ∀ l b, E.L l = some b → under Q l = false
  lim : under H.lim Q = true

structure Post (Q : Name) (E E' : Env) (own own' : Nat → Tag) (H H' : Heap) (w w' : World) : Prop where
  inv : Inv E' own' H' w'
  grow : Grow Q own own' E E' w w'
  same : SameH E E' H H'

theorem Tag.mask_mask (t : Tag) : t.mask.mask = t.mask := by cases t <;> rfl
theorem Tag.mask_obj {t : Tag} {o : Name} (h : t.mask = .obj o) : t = .obj o := by cases t <;> simp_all [Tag.mask]
theorem Tag.mask_loop {t : Tag} {o : Name} (h : t.mask = .loop o) : t = .loop o := by cases t <;> simp_all [Tag.mask]
theorem Tag.mask_still {t : Tag} (h : t.still = true) : t.mask.still = true := by cases t <;> simp_all [Tag.mask, Tag.still]
theorem Tag.mask_hid {t : Tag} (h : t.mask ≠ t) : t.mask = .other := by cases t <;> simp_all [Tag.mask]

/-- a value that is handed back -/
def RetV (E : Env) (own : Nat → Tag) (w : World) (v : AV) (val : Value) : Prop :=
  V E .nil v val ∧ ∀ xs, v = .sl .own xs → ∃ ad cap sz c ty t vs, val = .slice (some ad) xs.length cap ∧ 0 < xs.length ∧ ad.spot = none ∧ own ad.block = .tok t ∧ blk w ad.block = some (c, ty) ∧ 0 < sz ∧ xs.length ≤ cap ∧ ad.off + cap * sz ≤ c.size ∧
    (∀ i, ad.off + xs.length * sz ≤ i → E.M ad.block i = none) ∧ (∀ x ∈ xs, x.length = sz) ∧ Vss E .nil xs vs ∧ Fz E ad.block ad.off vs

def Enters (P : Program) (f : FuncId) : Prop := ∃ fn, P.funcs[f]? = some fn ∧ (fn.name == "runtime.NumGoroutine") = false ∧ fn.body.isNone = false

/-- a frame's way out, by what is still panicking -/
def ModeOf (E : Env) (p : Option AV) (u : FrameMode) : Prop :=
  match p with
  | none => u = .returning
  | some x => ∃ v, V E .nil x v ∧ u = .panicking [{ v, recovered := false }]

structure CallOk (P : Program) (cx : Cx) (call : Caller) : Prop where
  fn : ∀ f Q args H r H', call (.fn f) Q args H = .ok (r, H') → ∀ E own w (vals : List Value), Pre cx Q E own H w → Vs E .nil args vals → Enters P f ∧ ∀ cs, ∃ E' own' w' fx val, Post Q E E' own own' H H' w w' ∧ fx.fn = f ∧
    Steps P (lone (Frame.enter P f ⟨vals⟩ .normal) cs w) (lone fx cs w') ∧
    (match r with
     | .val v => RetV E' own' w' v val ∧ fx.leaving P w' (.returned val)
     | .pan v => V E' .nil v val ∧ fx.leaving P w' (.panicked [{ v := val, recovered := false }]))
  yld : ∀ l Q args H r H', call (.yld l) Q args H = .ok (r, H') → ∀ E own w (vals : List Value) bl, Pre cx Q E own H w → E.L l = some bl → Vs E .nil args vals → ∃ L, w.heap[bl]? = some (.loop L) ∧ vals.length = L.params.size ∧
    ∀ (c0 : Frame) cs, ∃ E' own' w' v val, r = .val v ∧ Post Q E E' own own' H H' w w' ∧ V E' .nil v val ∧ (∀ xs, v ≠ .sl .own xs) ∧
      Steps P (lone (Frame.round bl L.fn ((L.params.zip ⟨vals⟩).foldl (fun tmps (t, a) => tmps.setIfInBounds t a) L.tmps) L.assign L.body .normal) (c0 :: cs) w) (lone (c0.finish val) cs w')
  dfr : ∀ g rc Q args H r H', call (.dfr g rc) Q args H = .ok (r, H') → ∀ E own w (vals : List Value), Pre cx Q E own H w → Vs E .nil args vals → Enters P g ∧ ∀ (c0 : Frame) cs, ModeOf E rc c0.mode → ∃ E' own' w' bb u, r = .val (.bool bb) ∧ Post Q E E' own own' H H' w w' ∧
    ModeOf E' (if bb then none else rc) u ∧ Steps P (lone (Frame.enter P g ⟨vals⟩ .deferred) (c0 :: cs) w) (lone { c0 with mode := u } cs w')

section
variable {P : Program} {cx : Cx} {Q : Name} {N : Nat} {S : Nat → Prop} {E E' : Env} {own own' : Nat → Tag} {H H' : Heap} {m : Mine} {fr : Fr} {a : Act} {w w' : World} {id : Nat}

theorem Inv.mask (hi : Inv E own H w) : Inv E (fun b => (own b).mask) H w where
  frz := hi.frz
  siz := hi.siz
  bnd := hi.bnd
  lbnd := hi.lbnd
  obj o n cs hl := by
    obtain ⟨b, d, c, ty, h1, h2, h3⟩ := hi.obj _ _ _ hl
    exact ⟨b, d, c, ty, h1, by simp only [h2]; rfl, h3⟩
  lop l r hl := by
    obtain ⟨b, L, h1, h2, h3⟩ := hi.lop _ _ hl
    exact ⟨b, L, h1, by simp only [h2]; rfl, h3⟩
  big b hb := by simp only [hi.big b hb]; rfl
  ver := hi.ver

theorem Post.under {Q Q' : Name} {E E' : Env} {own own' : Nat → Tag} {H H' : Heap} {w w' : World} (h : Post Q' E E' own own' H H' w w') (hq : Ev.under Q Q' = true) : Post Q E E' own own' H H' w w' where
  inv := h.inv
  same := h.same
  grow := { h.grow with
    names := fun o n p hp => (h.grow.names o n p hp).imp (fun x => x) (fun x => under_trans hq x)
    lnames := fun l b hp => (h.grow.lnames l b hp).imp (fun x => x) (fun x => under_trans hq x) }

theorem under_no {i : Nat} {Q o : Name} (h : under Q o = false) : under (i :: Q) o = false := by
  cases hx : under (i :: Q) o with
  | false => rfl
  | true => rw [under_trans (under_self i Q) hx] at h; cases h

theorem St.pre (hs : St cx Q N S E own H m fr a w) (hid : S id) : Pre cx (id :: Q) E (fun b => (own b).mask) H w where
  inv := hs.inv.mask
  glb := hs.glb
  msk b := Tag.mask_mask _
  fO := hs.fresh.O id hid
  fL := hs.fresh.L id hid
  lim := under_trans hs.lim (under_self _ _)

/-- whose the blocks are after a call -/
noncomputable def comb (own own' : Nat → Tag) (w : World) : Nat → Tag := fun b => if b < w.heap.size then own b else (own' b).mask

theorem under_both {i j : Nat} {Q o : Name} (h : under (i :: Q) o = true) (h' : under (j :: Q) o = true) : i = j := by
  obtain ⟨l, rfl⟩ := under_iff.1 h
  obtain ⟨k, hk⟩ := under_iff.1 h'
  have hlen := congrArg List.length hk
  simp only [List.length_append, List.length_cons] at hlen
  have : l.length = k.length := by omega
  have := (List.append_inj hk this).2
  simpa using this

theorem Grow.blk_keep (hg : Grow Q own own' E E' w w') {b : Nat} {c : Array Value} {ty : TypeId} (hb : blk w b = some (c, ty)) (h : (own b).still = true) : blk w' b = some (c, ty) := by
  unfold blk at hb ⊢
  rw [hg.keep b (blk_lt hb) h]
  exact hb

theorem St.after (hs : St cx Q N S E own H m fr a w) (hp : Post (id :: Q) E E' (fun b => (own b).mask) own' H H' w w') :
    St cx Q N (fun i => S i ∧ i ≠ id) E' (comb own own' w) H' m fr a w' ∧ Grow Q own (comb own own' w) E E' w w' ∧ SameH E E' H H' := by
  have hle := hp.grow.env
  have hold : ∀ b, b < w.heap.size → comb own own' w b = own b := fun b hb => by simp [comb, hb]
  have hst : ∀ b, own b ≠ (own b).mask → ((own b).mask).still = true := fun b h => by rw [Tag.mask_hid (Ne.symm h)]; rfl
  refine ⟨⟨⟨hp.inv.frz, hp.inv.siz, hp.inv.bnd, hp.inv.lbnd, ?_, ?_, ?_, hp.inv.ver⟩, ⟨hs.frm.size, ?_, ?_, ?_⟩, hs.glb.mono hle, ⟨fun i hi => hs.fresh.X i hi.1, fun i hi => hs.fresh.K i hi.1, ?_, ?_⟩, ?_, ?_⟩, ⟨hle, hp.grow.size, ?_, hold, ?_, ?_, ?_, hp.grow.outer⟩, hp.same⟩
  · intro o n cs hl
    obtain ⟨b, d, c, ty, h1, h2, h3⟩ := hp.inv.obj _ _ _ hl
    refine ⟨b, d, c, ty, h1, ?_, h3⟩
    unfold comb
    split
    · rename_i hb
      have := hp.grow.tags b hb
      rw [h2] at this
      exact Tag.mask_obj this.symm
    · rw [h2]; rfl
  · intro l r hl
    obtain ⟨b, L, h1, h2, h3⟩ := hp.inv.lop _ _ hl
    refine ⟨b, L, h1, ?_, h3⟩
    unfold comb
    split
    · rename_i hb
      have := hp.grow.tags b hb
      rw [h2] at this
      exact Tag.mask_loop this.symm
    · rw [h2]; rfl
  · intro b hb
    unfold comb
    rw [if_neg (by have := hp.grow.size; omega), hp.inv.big b hb]
    rfl
  · intro t
    exact V.mono hle (hs.frm.tms t)
  · intro t k cs hl
    obtain ⟨b, c, ty, hX, ho, hb, hv, hM⟩ := hs.frm.lcs _ _ _ hl
    have hmk : ((own b).mask).still = true := by rw [ho]; rfl
    refine ⟨b, c, ty, hX, (hold b (blk_lt hb)).trans ho, hp.grow.blk_keep hb hmk, Vs.mono hle hv, fun i => ?_⟩
    cases hx : E'.M b i with
    | none => rfl
    | some v => have := hp.grow.frz b i v hx (blk_lt hb) hmk; rw [hM i] at this; cases this
  · intro t k n hl
    obtain ⟨h0, ad, cap, c, ty, sz, hK, hsp, ho, hb, hz, hn, hc, hM⟩ := hs.frm.fls _ _ _ hl
    have hmk : ((own ad.block).mask).still = true := by rw [ho]; rfl
    refine ⟨h0, ad, cap, c, ty, sz, hK, hsp, (hold _ (blk_lt hb)).trans ho, hp.grow.blk_keep hb hmk, hz, hn, hc, fun i hi => ?_⟩
    cases hx : E'.M ad.block i with
    | none => rfl
    | some v => have := hp.grow.frz _ i v hx (blk_lt hb) hmk; rw [hM i hi] at this; cases this
  · intro i hi o n p hO
    rcases hp.grow.names o n p hO with ⟨n', p', h1⟩ | h1
    · exact hs.fresh.O i hi.1 _ _ _ h1
    · cases hx : under (i :: Q) o with
      | false => rfl
      | true => exact absurd (under_both hx h1) hi.2
  · intro i hi l b hL
    rcases hp.grow.lnames l b hL with h1 | h1
    · exact hs.fresh.L i hi.1 _ _ h1
    · cases hx : under (i :: Q) l with
      | false => rfl
      | true => exact absurd (under_both hx h1) hi.2
  · refine DfI.step hle (fun b hb hlt => ⟨(hold b hlt).trans hb, hp.grow.keep b hlt (by simp only [hb]; rfl)⟩) hp.grow.size hs.df
  · rw [hp.same.lim]; exact hs.lim
  · intro b hb ho
    exact hp.grow.keep b hb (Tag.mask_still ho)
  · intro b i v hv hb ho
    exact hp.grow.frz b i v hv hb (Tag.mask_still ho)
  · intro o n p hO
    rcases hp.grow.names o n p hO with h1 | h1
    · exact .inl h1
    · exact .inr (under_trans (under_self _ _) h1)
  · intro l b hL
    rcases hp.grow.lnames l b hL with h1 | h1
    · exact .inl h1
    · exact .inr (under_trans (under_self _ _) h1)

/-- a row that a callee filled is the caller's now -/
theorem St.handTok (hs : St cx Q N S E own H m fr a w) {t k n cap sz : Nat} {ad : Addr} {c : Array Value} {ty : TypeId} (hk : ∀ t, m.K t k = none) (ho : own ad.block = .other) (hb : blk w ad.block = some (c, ty)) (hsp : ad.spot = none) (h0 : 0 < n) (hz : 0 < sz) (hn : n ≤ cap) (hc : ad.off + cap * sz ≤ c.size)
    (hM : ∀ i, ad.off + n * sz ≤ i → E.M ad.block i = none) :
    St cx Q N (fun i => S i ∧ i ≠ k) E (at1 own ad.block (.tok t)) H { m with K := fun t' k' => if t' = t ∧ k' = k then some (ad, cap, sz) else m.K t' k' } { fr with fl := Tr.set (path t) (k, n) fr.fl } a w := by
  have hne : ∀ b, own b ≠ .other → at1 own ad.block (.tok t) b = own b := fun b h => at1_other _ _ (fun e => h (e ▸ ho))
  have hv : (viewOf m fr.fl).le (viewOf { m with K := fun t' k' => if t' = t ∧ k' = k then some (ad, cap, sz) else m.K t' k' } (Tr.set (path t) (k, n) fr.fl)) := by
    refine ⟨fun _ _ h => h, fun t' k' len sz' base cap' h => ?_⟩
    obtain ⟨h1, h2⟩ := h
    refine ⟨?_, fun n' hn' => ?_⟩
    · show (if t' = t ∧ k' = k then _ else _ : Option _).isSome = true
      split
      · rfl
      · exact h1
    · rw [Tr.get_set_path] at hn'
      split at hn'
      · rename_i e
        subst e
        simp only [Option.some.injEq, Prod.mk.injEq] at hn'
        obtain ⟨rfl, rfl⟩ := hn'
        rw [hk] at h1; cases h1
      · rename_i e
        obtain ⟨h3, h4⟩ := h2 _ hn'
        refine ⟨h3, fun e' => ?_⟩
        obtain ⟨a', ha, hK⟩ := h4 e'
        refine ⟨a', ha, ?_⟩
        show (if t' = t ∧ k' = k then _ else _) = _
        rw [if_neg (fun x => e x.1)]
        exact hK
  refine ⟨⟨hs.inv.frz, hs.inv.siz, hs.inv.bnd, hs.inv.lbnd, ?_, ?_, ?_, hs.inv.ver⟩, ⟨hs.frm.size, ?_, ?_, ?_⟩, hs.glb, ⟨fun i hi => hs.fresh.X i hi.1, ?_, fun i hi => hs.fresh.O i hi.1, fun i hi => hs.fresh.L i hi.1⟩, ?_, hs.lim⟩
  · intro o n cs hl
    obtain ⟨b, d, c, ty, h1, h2, h3⟩ := hs.inv.obj _ _ _ hl
    exact ⟨b, d, c, ty, h1, (hne b (by rw [h2]; simp)).trans h2, h3⟩
  · intro l r hl
    obtain ⟨b, L, h1, h2, h3⟩ := hs.inv.lop _ _ hl
    exact ⟨b, L, h1, (hne b (by rw [h2]; simp)).trans h2, h3⟩
  · intro b hb'
    rw [at1_other _ _ (by have := blk_lt hb; omega)]
    exact hs.inv.big b hb'
  · intro t'
    exact V.view hv (hs.frm.tms t')
  · intro t' k' cs hl
    obtain ⟨b, c, ty, hX, ho', hb, hv', hM⟩ := hs.frm.lcs _ _ _ hl
    exact ⟨b, c, ty, hX, (hne b (by rw [ho']; simp)).trans ho', hb, Vs.view hv hv', hM⟩
  · intro t' k' n' hl
    simp only [Tr.get_set_path] at hl
    split at hl
    · rename_i e
      subst e
      simp only [Option.some.injEq, Prod.mk.injEq] at hl
      obtain ⟨rfl, rfl⟩ := hl
      exact ⟨h0, ad, cap, c, ty, sz, by simp, hsp, at1_same _ _ _, hb, hz, hn, hc, hM⟩
    · rename_i e
      obtain ⟨h0, ad', cap', c', ty', sz', hK, hsp', ho', hb', hz', hn', hc', hM'⟩ := hs.frm.fls _ _ _ hl
      exact ⟨h0, ad', cap', c', ty', sz', by simp [e, hK], hsp', (hne _ (by rw [ho']; simp)).trans ho', hb', hz', hn', hc', hM'⟩
  · intro i hi t'
    show (if t' = t ∧ i = k then _ else _) = none
    rw [if_neg (fun x => hi.2 x.2)]
    exact hs.fresh.K i hi.1 t'
  · exact DfI.step (.refl E) (fun b hb _ => ⟨(hne b (by rw [hb]; simp)).trans hb, rfl⟩) (Nat.le_refl _) hs.df

end
end Go.Proofs.Ev
