/- How frames end. -/
import Derived.Test.YtanknkgbleeffaaGreatDoorEvF
set_option linter.all false
namespace Go.Proofs.Ev
open Go
variable [Sg]

/-- as Grow, of blocks that are others' only -/
structure GrowO (Q : Name) (own own' : Nat → Tag) (E E' : Env) (w w' : World) : Prop where
  env : E.le E'
  size : w.heap.size ≤ w'.heap.size
  keep : ∀ b, b < w.heap.size → own b = .other → w'.heap[b]? = w.heap[b]?
  tags : ∀ b, b < w.heap.size → own' b = own b
  frz : ∀ b i v, E'.M b i = some v → b < w.heap.size → own b = .other → E.M b i = some v
  names : ∀ o n p, E'.O o n = some p → (∃ n' p', E.O o n' = some p') ∨ under Q o = true
  lnames : ∀ l b, E'.L l = some b → E.L l = some b ∨ under Q l = true
  outer : w'.os = w.os ∧ w'.output = w.output ∧ ∀ a, w'.frozen? a = w.frozen? a

section
variable {P : Program} {cx : Cx} {Q : Name} {N : Nat} {S : Nat → Prop} {E E' : Env} {own own' : Nat → Tag} {H H' : Heap} {m : Mine} {fr fr' : Fr} {a : Act} {w w' : World} {id : Nat} {v : AV} {b : Frame} {stk : Bool → List Frame} {call : Caller} {f : FuncId} {n : Nat}

theorem Grow.toO (h : Grow Q own own' E E' w w') : GrowO Q own own' E E' w w' :=
  ⟨h.env, h.size, fun b hb ho => h.keep b hb (by rw [ho]; rfl), h.tags, fun b i v hv hb ho => h.frz b i v hv hb (by rw [ho]; rfl), h.names, h.lnames, h.outer⟩

theorem GrowO.trans {o1 o2 o3 : Nat → Tag} {E1 E2 E3 : Env} {w1 w2 w3 : World} (h : GrowO Q o1 o2 E1 E2 w1 w2) (h' : GrowO Q o2 o3 E2 E3 w2 w3) : GrowO Q o1 o3 E1 E3 w1 w3 where
  env := h.env.trans h'.env
  size := Nat.le_trans h.size h'.size
  keep b hb ho := (h'.keep b (Nat.lt_of_lt_of_le hb h.size) (by rw [h.tags b hb]; exact ho)).trans (h.keep b hb ho)
  tags b hb := (h'.tags b (Nat.lt_of_lt_of_le hb h.size)).trans (h.tags b hb)
  frz b i v hv hb ho := h.frz b i v (h'.frz b i v hv (Nat.lt_of_lt_of_le hb h.size) (by rw [h.tags b hb]; exact ho)) hb ho
  names o n p hp := by
    rcases h'.names o n p hp with ⟨n', p', h1⟩ | h1
    · exact h.names o n' p' h1
    · exact .inr h1
  lnames l b hp := by
    rcases h'.lnames l b hp with h1 | h1
    · exact h.lnames l b h1
    · exact .inr h1
  outer := ⟨h'.outer.1.trans h.outer.1, h'.outer.2.1.trans h.outer.2.1, fun a => (h'.outer.2.2 a).trans (h.outer.2.2 a)⟩

theorem GrowO.full (h : GrowO Q own own' E E' w w') (hm : ∀ b, (own b).mask = own b) : Grow Q own own' E E' w w' := by
  have ho : ∀ b, (own b).still = true → own b = .other := fun b hs => by
    have := hm b
    cases hx : own b <;> simp_all [Tag.mask, Tag.still]
  exact ⟨h.env, h.size, fun b hb hs => h.keep b hb (ho b hs), h.tags, fun b i v hv hb hs => h.frz b i v hv hb (ho b hs), h.names, h.lnames, h.outer⟩

/-- a mark's block is emptied -/
theorem mark_turn {r : Nat} {d : List (FuncId × List AV)} {ds : List Deferred} (hs : St cx Q N S E own H m fr a w) (ho : own r = .mark) (hw : w.heap[r]? = some (.deferred (some []))) (hd : DfI E own w r d ds) :
    St cx Q N S E own H m { fr with df := d } { a with defers := ds } { w with heap := w.heap.setIfInBounds r (.deferred none) } ∧ GrowO Q own own E E w { w with heap := w.heap.setIfInBounds r (.deferred none) } := by
  have hlt : r < w.heap.size := (Array.getElem?_eq_some_iff.1 hw).1
  have hoff : ∀ b, b ≠ r → ({ w with heap := w.heap.setIfInBounds r (.deferred none) } : World).heap[b]? = w.heap[b]? := fun b hb => by simp [Array.getElem?_setIfInBounds, Ne.symm hb]
  have hsz : ({ w with heap := w.heap.setIfInBounds r (.deferred none) } : World).heap.size = w.heap.size := by simp
  have hblk : ∀ b, b ≠ r → blk { w with heap := w.heap.setIfInBounds r (.deferred none) } b = blk w b := fun b hb => by simp only [blk, hoff b hb]
  have hx : ∀ c e z, Obj.deferred (some []) ≠ .cells c e z := fun _ _ _ h => by cases h
  refine ⟨⟨⟨?_, ?_, ?_, ?_, ?_, ?_, ?_, hs.inv.ver⟩, ⟨hs.frm.size, hs.frm.tms, ?_, ?_⟩, hs.glb, hs.fresh, ?_, hs.lim⟩, ⟨.refl E, by rw [hsz]; exact Nat.le_refl _, ?_, fun _ _ => rfl, fun _ _ _ h _ _ => h, fun _ _ _ h => .inl ⟨_, _, h⟩, fun _ _ h => .inl h, rfl, rfl, frozen_set hw hx (fun _ _ _ h => by cases h)⟩⟩
  · intro b i v hv
    have hb := hs.inv.noloop_M hw hx hv
    have := hs.inv.frz _ _ _ hv
    unfold World.cell? at this ⊢
    simp only [hoff b hb] at this ⊢
    exact this
  · intro b n hn
    obtain ⟨c, ty, fz, h1, h2⟩ := hs.inv.siz _ _ hn
    have hb : b ≠ r := by rintro rfl; rw [hw] at h1; cases h1
    exact ⟨c, ty, fz, (hoff b hb).trans h1, h2⟩
  · intro o n b d hO; rw [hsz]; exact hs.inv.bnd o n b d hO
  · intro x b hb; rw [hsz]; exact hs.inv.lbnd x b hb
  · intro o n cs hl
    obtain ⟨b, d, c, ty, h1, h2, h3, h4⟩ := hs.inv.obj o n cs hl
    exact ⟨b, d, c, ty, h1, h2, (hblk b (blk_no hw hx h3)).trans h3, h4⟩
  · intro x rx hl
    obtain ⟨b, L, h1, h2, h3, h4⟩ := hs.inv.lop x rx hl
    have hb : b ≠ r := by rintro rfl; rw [ho] at h2; cases h2
    exact ⟨b, L, h1, h2, (hoff b hb).trans h3, h4⟩
  · intro b hb; rw [hsz] at hb; exact hs.inv.big b hb
  · intro t kk cs ht
    obtain ⟨b, c, ty, h1, h2, h3, h4⟩ := hs.frm.lcs t kk cs ht
    exact ⟨b, c, ty, h1, h2, (hblk b (blk_no hw hx h3)).trans h3, h4⟩
  · intro t kk n ht
    obtain ⟨h0, ad, cap, c, ty, sz, h1, h2, h3, h4, h5⟩ := hs.frm.fls t kk n ht
    exact ⟨h0, ad, cap, c, ty, sz, h1, h2, h3, (hblk _ (blk_no hw hx h4)).trans h4, h5⟩
  · rw [hsz]
    clear hs
    have key : ∀ {k' : Nat} {d : List (FuncId × List AV)} {ds : List Deferred}, k' ≤ r → DfI E own w k' d ds → DfI E own { w with heap := w.heap.setIfInBounds r (.deferred none) } k' d ds := by
      intro k' d ds hk hd
      induction hd with
      | nil => exact .nil
      | call hv _ ih => exact .call hv (ih hk)
      | mark hb ho' hw' _ ih => exact .mark hb ho' ((hoff _ (by omega)).trans hw') (ih (by omega))
    have h1 := key (Nat.le_refl _) hd
    exact DfI.step (.refl E) (fun _ hb _ => ⟨hb, rfl⟩) (Nat.le_of_lt hlt) h1
  · intro b hb ho'
    refine hoff b ?_
    rintro rfl; rw [ho] at ho'; cases ho'

theorem ModeOf.mono {E E' : Env} (h : E.le E') {p : Option AV} {u : FrameMode} (hm : ModeOf E p u) : ModeOf E' p u := by
  cases p with
  | none => exact hm
  | some x => obtain ⟨v, hv, e⟩ := hm; exact ⟨v, V.mono h hv, e⟩

theorem ModeOf.ne {E : Env} {p : Option AV} {u : FrameMode} (hm : ModeOf E p u) : u ≠ .run := by
  cases p with
  | none => rw [show u = .returning from hm]; simp
  | some x => obtain ⟨v, hv, e⟩ := hm; rw [e]; simp

theorem step_collected {frx : Frame} {cs : List Frame} {r : Nat} {ds : List Deferred} (hm : frx.mode ≠ .run) (hd : frx.defers = { target := .collected r, args := #[] } :: ds) (hw : w.heap[r]? = some (.deferred (some []))) :
    step P (lone frx cs w) = .next (lone { frx with defers := ds } cs { w with heap := w.heap.setIfInBounds r (.deferred none) }) := by
  have hrun : (Instr.takeDeferred r).run P w = .ok [] { w with heap := w.heap.setIfInBounds r (.deferred none) } := by
    simp [Instr.takeDeferred, getObj, setObj, Sem.run, hw, Bind.bind, Sem.bind]
  refine step_lone_go ?_
  cases hmode : frx.mode with
  | run => exact absurd hmode hm
  | returning => simp [stepG, unwind, hmode, hd, Sem.runT_eq, hrun]
  | panicking chain => simp [stepG, unwind, hmode, hd, Sem.runT_eq, hrun]

theorem unwind_ok (co : CallOk P cx call) : ∀ (ds : List Deferred) (df : List (FuncId × List AV)) (i : Nat) (p : Option AV) (H : Heap) (p' : Option AV) (H' : Heap), runDf call Q df i p H = .ok (p', H') →
    ∀ (E : Env) (own : Nat → Tag) (fr : Fr) (a : Act) (w : World) (frx : Frame) (cs : List Frame), St cx Q N (fun j => i ≤ j) E own H m fr a w → fr.df = df → a.defers = ds → ModeOf E p frx.mode → frx.defers = ds →
    ∃ E' own' w' u, Steps P (lone frx cs w) (lone { frx with defers := [], mode := u } cs w') ∧ St cx Q N (fun _ => False) E' own' H' m { fr with df := [] } { a with defers := [] } w' ∧ ModeOf E' p' u ∧ GrowO Q own own' E E' w w' ∧ SameH E E' H H'
  | [], df, i, p, H, p', H', h, E, own, fr, a, w, frx, cs, hs, hdf, hds, hm, hfd => by
    have hd := hs.df
    rw [hdf, hds] at hd
    cases hd
    simp only [runDf, R.ok.injEq, Prod.mk.injEq] at h
    obtain ⟨rfl, rfl⟩ := h
    refine ⟨E, own, w, frx.mode, ?_, ⟨hs.inv, ⟨hs.frm.size, hs.frm.tms, hs.frm.lcs, hs.frm.fls⟩, hs.glb, hs.fresh.mono fun _ h => h.elim, .nil, hs.lim⟩, hm, (Grow.refl _ _ _ _).toO, .refl _ _⟩
    have : ({ frx with defers := [], mode := frx.mode } : Frame) = frx := by cases frx; simp_all
    rw [this]
    exact Steps.refl P _
  | d :: ds, df, i, p, H, p', H', h, E, own, fr, a, w, frx, cs, hs, hdf, hds, hm, hfd => by
    have hd := hs.df
    rw [hdf, hds] at hd
    cases hd with
    | call hv hr =>
      rename_i g l vs r
      simp only [runDf] at h
      split at h
      · rename_i bb H1 hcall
        have hpre := hs.pre (id := i) (Nat.le_refl _)
        obtain ⟨hent, hall⟩ := co.dfr g p (i :: Q) l H _ H1 hcall E (fun b => (own b).mask) w vs hpre hv
        obtain ⟨E1, own1, w1, bb', u, e, hp, hmu, hst⟩ := hall { frx with defers := ds } cs hm
        simp only [Ret.val.injEq, AV.bool.injEq] at e
        subst e
        obtain ⟨s1, g1, e1⟩ := hs.after hp
        have s1' : St cx Q N (fun j => i + 1 ≤ j) E1 (comb own own1 w) H1 m { fr with df := r } { a with defers := ds } w1 :=
          ⟨s1.inv, ⟨s1.frm.size, s1.frm.tms, s1.frm.lcs, s1.frm.fls⟩, s1.glb, s1.fresh.mono fun j hj => ⟨by omega, by omega⟩, by
            have := s1.df
            rw [hdf, hds] at this
            cases this with
            | call _ h => exact h, s1.lim⟩
        obtain ⟨E2, own2, w2, u2, h1, h2, h3, h4, h5⟩ := unwind_ok co ds r (i + 1) (if bb then none else p) H1 p' H' h E1 _ { fr with df := r } { a with defers := ds } w1 { frx with defers := ds, mode := u } cs s1' rfl rfl hmu rfl
        have hinv : (invoke (.fn (.func g) #[]) ⟨vs⟩).run P w = .ok (.enter g ⟨vs⟩) w := by
          simp only [invoke]
          rw [callFunc_ok hent]
          simp
        exact ⟨E2, own2, w2, u2, .head (step_defer (ModeOf.ne hm) hfd rfl hinv) (Steps.trans hst h1), h2, h3, g1.toO.trans h4, e1.trans h5⟩
      · cases h
      · cases h
    | mark hb ho hw hr =>
      rename_i r
      obtain ⟨s1, g1⟩ := mark_turn hs ho hw hr
      obtain ⟨E2, own2, w2, u2, h1, h2, h3, h4, h5⟩ := unwind_ok co ds df i p H p' H' h E own { fr with df := df } { a with defers := ds } _ { frx with defers := ds } cs s1 rfl rfl hm rfl
      exact ⟨E2, own2, w2, u2, .head (step_collected (ModeOf.ne hm) hfd hw) h1, h2, h3, g1.trans h4, h5⟩

end
end Go.Proofs.Ev
