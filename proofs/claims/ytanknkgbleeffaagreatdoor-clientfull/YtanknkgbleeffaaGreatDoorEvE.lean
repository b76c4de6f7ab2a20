/- Loops' records; code. -/
import Derived.Test.YtanknkgbleeffaaGreatDoorEvN
set_option linter.all false
namespace Go.Proofs.Ev
open Go
variable [Sg]

section
variable {P : Program} {cx : Cx} {Q : Name} {N : Nat} {S : Nat → Prop} {E : Env} {own : Nat → Tag} {H H' : Heap} {m : Mine} {fr fr' : Fr} {a : Act} {w : World} {id : Nat} {v : AV} {b : Frame} {stk : Bool → List Frame} {o : Oper} {call : Caller} {ops : Array Oper} {i : Nat} {rest : List Nat} {k : List Item}
  {f : FuncId}

theorem Inv.noloop_M (hi : Inv E own H w) {bl : Nat} {x : Obj} (hw : w.heap[bl]? = some x) (hx : ∀ c e z, x ≠ .cells c e z) {b i : Nat} {v : Value} (h : E.M b i = some v) : b ≠ bl := by
  rintro rfl
  have := hi.frz _ _ _ h
  unfold World.cell? at this
  simp only [hw] at this
  cases x <;> first | (exact absurd rfl (hx _ _ _)) | (cases this)

theorem blk_no {bl : Nat} {x : Obj} (hw : w.heap[bl]? = some x) (hx : ∀ c e z, x ≠ .cells c e z) {c : Array Value} {ty : TypeId} {b : Nat} (h : blk w b = some (c, ty)) : b ≠ bl := by
  rintro rfl
  rw [cell_of_blk h] at hw
  cases hw
  exact hx _ _ _ rfl

/-- a loop's record is turned -/
theorem loop_turn (hs : St cx Q N S E own H m fr a w) {l : Name} {bl : Nat} {r r' : LoopRec} {L L' : Loop} (hl : look H.lp l = some r) (hL : E.L l = some bl) (hw : w.heap[bl]? = some (.loop L)) (hown : own bl = .loop l) (hrel : LoopRel E r' L') (hlim : under H.lim l = true) :
    St cx Q N S E own (setRec H l r') m fr a { w with heap := w.heap.setIfInBounds bl (.loop L') } ∧ Grow Q own own E E w { w with heap := w.heap.setIfInBounds bl (.loop L') } ∧ SameH E E H (setRec H l r') := by
  have hlt : bl < w.heap.size := (Array.getElem?_eq_some_iff.1 hw).1
  have hoff : ∀ b, b ≠ bl → ({ w with heap := w.heap.setIfInBounds bl (.loop L') } : World).heap[b]? = w.heap[b]? := fun b hb => by simp [Array.getElem?_setIfInBounds, Ne.symm hb]
  have hhere : ({ w with heap := w.heap.setIfInBounds bl (.loop L') } : World).heap[bl]? = some (.loop L') := by simp [hlt]
  have hsz : ({ w with heap := w.heap.setIfInBounds bl (.loop L') } : World).heap.size = w.heap.size := by simp
  have hcell : ∀ b i, b ≠ bl → ({ w with heap := w.heap.setIfInBounds bl (.loop L') } : World).cell? ⟨b, i, none⟩ = w.cell? ⟨b, i, none⟩ := fun b i hb => by simp only [World.cell?, hoff b hb]
  have hblk : ∀ b, b ≠ bl → blk { w with heap := w.heap.setIfInBounds bl (.loop L') } b = blk w b := fun b hb => by simp only [blk, hoff b hb]
  have hx : ∀ c e z, Obj.loop L ≠ .cells c e z := fun _ _ _ h => by cases h
  refine ⟨⟨⟨?_, ?_, ?_, ?_, ?_, ?_, ?_, hs.inv.ver⟩, ⟨hs.frm.size, hs.frm.tms, ?_, ?_⟩, hs.glb, hs.fresh, ?_, hs.lim⟩, ⟨.refl E, by rw [hsz]; exact Nat.le_refl _, ?_, fun _ _ => rfl, fun _ _ _ h _ _ => h, fun _ _ _ h => .inl ⟨_, _, h⟩, fun _ _ h => .inl h, rfl, rfl, frozen_set hw hx (fun _ _ _ h => by cases h)⟩, ⟨rfl, fun _ _ => rfl, ?_, fun _ _ _ _ h => h⟩⟩
  · intro b i v hv
    rw [hcell b i (hs.inv.noloop_M hw hx hv)]
    exact hs.inv.frz _ _ _ hv
  · intro b n hn
    obtain ⟨c, ty, fz, h1, h2⟩ := hs.inv.siz _ _ hn
    have hb : b ≠ bl := by rintro rfl; rw [hw] at h1; cases h1
    exact ⟨c, ty, fz, (hoff b hb).trans h1, h2⟩
  · intro o n b d hO; rw [hsz]; exact hs.inv.bnd o n b d hO
  · intro x b hb; rw [hsz]; exact hs.inv.lbnd x b hb
  · intro o n cs ho
    obtain ⟨b, d, c, ty, h1, h2, h3, h4⟩ := hs.inv.obj o n cs ho
    exact ⟨b, d, c, ty, h1, h2, (hblk b (blk_no hw hx h3)).trans h3, h4⟩
  · intro x rx hx'
    by_cases e : x = l
    · subst e
      simp only [setRec, look_put_same, Option.some.injEq] at hx'
      subst hx'
      exact ⟨bl, L', hL, hown, hhere, hrel⟩
    · simp only [setRec, look_put_other _ _ _ _ e] at hx'
      obtain ⟨b, Lx, h1, h2, h3, h4⟩ := hs.inv.lop x rx hx'
      have hb : b ≠ bl := by rintro rfl; rw [hown] at h2; cases h2; exact e rfl
      exact ⟨b, Lx, h1, h2, (hoff b hb).trans h3, h4⟩
  · intro b hb; rw [hsz] at hb; exact hs.inv.big b hb
  · intro t kk cs ht
    obtain ⟨b, c, ty, h1, h2, h3, h4⟩ := hs.frm.lcs t kk cs ht
    exact ⟨b, c, ty, h1, h2, (hblk b (blk_no hw hx h3)).trans h3, h4⟩
  · intro t kk n ht
    obtain ⟨h0, ad, cap, c, ty, sz, h1, h2, h3, h4, h5⟩ := hs.frm.fls t kk n ht
    exact ⟨h0, ad, cap, c, ty, sz, h1, h2, h3, (hblk _ (blk_no hw hx h4)).trans h4, h5⟩
  · refine DfI.step (.refl E) (fun b hb _ => ⟨hb, hoff b ?_⟩) (by rw [hsz]; exact Nat.le_refl _) hs.df
    rintro rfl; rw [hown] at hb; cases hb
  · intro b hb ho
    refine hoff b ?_
    rintro rfl; rw [hown] at ho; cases ho
  · intro x hx'
    have e : x ≠ l := by rintro rfl; rw [hlim] at hx'; cases hx'
    simp only [setRec, look_put_other _ _ _ _ e]

theorem bare_ok {W : View} {x : AV} {val : Value} (h : V E W x val) : V E .nil (bare x) val := by
  unfold bare
  split
  · rename_i y hy; exact V.clean hy h
  · simp [V]

/-- a range over a function is entered -/
theorem enter_turn (hs : St cx Q N S E own H m fr a w) (hid : S id) {f : FuncId} {ps : Array Tmp} {assign body : Code} {ct : Nat} (hct : ct = id) (hfit : (∀ t ∈ ps.toList, t < N) ∧ Fit N assign ∧ Fit N body) :
    ∃ E1 own1, St cx Q N (fun j => S j ∧ j ≠ id) E1 own1 { H with lp := (id :: Q, ⟨f, mapTr bare fr.tm, ps.toList, assign, body, 0, none⟩) :: H.lp } m fr { a with defers := [{ target := .collected w.heap.size, args := #[] }] ++ a.defers }
        { w with heap := (w.heap.push (.deferred (some []))).push (.loop { state := .ready, pending := none, fn := f, tmps := a.tmps, params := ps, assign := assign, body := body, defers := w.heap.size }) } ∧
      Grow Q own own1 E E1 w { w with heap := (w.heap.push (.deferred (some []))).push (.loop { state := .ready, pending := none, fn := f, tmps := a.tmps, params := ps, assign := assign, body := body, defers := w.heap.size }) } ∧
      SameH E E1 H { H with lp := (id :: Q, ⟨f, mapTr bare fr.tm, ps.toList, assign, body, 0, none⟩) :: H.lp } ∧ E1.L (id :: Q) = some (w.heap.size + 1) ∧ (∀ o n p, E1.O o n = some p → E.O o n = some p) ∧ (∀ l b, E1.L l = some b → E.L l = some b ∨ l = id :: Q) := by
  subst hct
  let L0 : Loop := { state := .ready, pending := none, fn := f, tmps := a.tmps, params := ps, assign := assign, body := body, defers := w.heap.size }
  have hLn : E.L (ct :: Q) = none := by
    cases hx : E.L (ct :: Q) with
    | none => rfl
    | some b => have := hs.fresh.L ct hid _ _ hx; rw [under_refl] at this; cases this
  have hle : E.le { E with L := at1 E.L (ct :: Q) (some (w.heap.size + 1)) } := ⟨fun _ _ h => h, fun _ _ _ h => h, fun _ _ _ h => h, fun l b h => (by
    show at1 E.L _ _ l = some b
    rw [at1_other _ _ (by rintro rfl; rw [hLn] at h; cases h)]; exact h)⟩
  have hget : ∀ j, ((w.heap.push (.deferred (some []))).push (.loop L0))[j]? = if j = w.heap.size + 1 then some (.loop L0) else if j = w.heap.size then some (.deferred (some [])) else w.heap[j]? := by
    intro j
    simp only [Array.getElem?_push, Array.size_push]
  have hlow : ∀ j, j < w.heap.size → ((w.heap.push (.deferred (some []))).push (.loop L0))[j]? = w.heap[j]? := fun j hj => by
    rw [hget, if_neg (by omega), if_neg (by omega)]
  have hown : ∀ j, j < w.heap.size → at1 (at1 own w.heap.size .mark) (w.heap.size + 1) (.loop (ct :: Q)) j = own j := fun j hj => by
    rw [at1_other _ _ (by omega), at1_other _ _ (by omega)]
  have hblk : ∀ {b : Nat} {c : Array Value} {ty : TypeId}, blk w b = some (c, ty) → blk { w with heap := (w.heap.push (.deferred (some []))).push (.loop L0) } b = some (c, ty) := fun h => by
    unfold blk at h ⊢
    rw [show ({ w with heap := (w.heap.push (.deferred (some []))).push (.loop L0) } : World).heap = (w.heap.push (.deferred (some []))).push (.loop L0) from rfl, hlow _ (blk_lt h)]
    exact h
  refine ⟨{ E with L := at1 E.L (ct :: Q) (some (w.heap.size + 1)) }, at1 (at1 own w.heap.size .mark) (w.heap.size + 1) (.loop (ct :: Q)), ⟨⟨?_, ?_, ?_, ?_, ?_, ?_, ?_, ?_⟩, ⟨hs.frm.size, fun t => V.mono hle (hs.frm.tms t), ?_, ?_⟩, hs.glb.mono hle, ⟨fun i hi => hs.fresh.X i hi.1, fun i hi => hs.fresh.K i hi.1, fun i hi => hs.fresh.O i hi.1, ?_⟩, ?_, hs.lim⟩, ⟨hle, by simp; omega, fun b hb _ => hlow b hb, fun b hb => hown b hb, fun _ _ _ h _ _ => h, fun _ _ _ h => .inl ⟨_, _, h⟩, ?_, rfl, rfl, fun a => ((frozen_push (w := { w with heap := w.heap.push (.deferred (some [])) }) (fun _ _ _ h => by cases h) a).trans (frozen_push (fun _ _ _ h => by cases h) a))⟩, ⟨rfl, fun _ _ => rfl, ?_, fun _ _ _ _ h => h⟩, at1_same _ _ _, fun _ _ _ h => h, ?_⟩
  · intro b i v hv
    have := hs.inv.frz b i v hv
    have hlt := hs.inv.M_lt hv
    unfold World.cell? at this ⊢
    simp only at this ⊢
    rw [hlow b hlt]; exact this
  · intro b n hn
    obtain ⟨c, ty, fz, h1, h2⟩ := hs.inv.siz b n hn
    exact ⟨c, ty, fz, (hlow b (hs.inv.S_lt hn)).trans h1, h2⟩
  · intro o n b d hO
    have := hs.inv.bnd o n b d hO
    simp; omega
  · intro l b hb
    by_cases e : l = ct :: Q
    · subst e
      simp only [at1_same, Option.some.injEq] at hb
      simp; omega
    · simp only [at1_other _ _ e] at hb
      have := hs.inv.lbnd l b hb
      simp; omega
  · intro o n cs hl
    obtain ⟨b, d, c, ty, h1, h2, h3, h4, h5, h6⟩ := hs.inv.obj o n cs hl
    exact ⟨b, d, c, ty, h1, (hown b (blk_lt h3)).trans h2, hblk h3, h4, fun i x hx => let ⟨v, h7, h8⟩ := h5 i x hx; ⟨v, h7, V.mono hle h8⟩, h6⟩
  · intro l r hl
    simp only [look_cons] at hl
    split at hl
    · rename_i e
      subst e
      simp only [Option.some.injEq] at hl
      subst hl
      refine ⟨w.heap.size + 1, L0, at1_same _ _ _, at1_same _ _ _, by rw [show ({ w with heap := (w.heap.push (.deferred (some []))).push (.loop L0) } : World).heap = (w.heap.push (.deferred (some []))).push (.loop L0) from rfl, hget, if_pos rfl], ⟨rfl, rfl, rfl, rfl, rfl, rfl, fun t => ?_, by have := hs.frm.size; show (∀ t ∈ ps.toList, t < a.tmps.size) ∧ Fit a.tmps.size assign ∧ Fit a.tmps.size body; rw [this]; exact hfit⟩⟩
      rw [Tr.get_map]
      have h1 := V.mono hle (hs.frm.tms t)
      unfold tmOf at h1
      cases hg : Tr.get (path t) fr.tm with
      | none =>
        rw [hg] at h1
        simp only [Option.getD_none, Option.map_none] at h1 ⊢
        simpa only [undefA, V, Vs] using h1
      | some x =>
        rw [hg] at h1
        simp only [Option.getD_some, Option.map_some] at h1 ⊢
        exact bare_ok h1
    · rename_i e
      obtain ⟨b, L, h1, h2, h3, h4⟩ := hs.inv.lop l r hl
      have hlt : b < w.heap.size := (Array.getElem?_eq_some_iff.1 h3).1
      exact ⟨b, L, hle.L _ _ h1, (hown b hlt).trans h2, (hlow b hlt).trans h3, h4.mono hle⟩
  · intro b hb
    simp at hb
    rw [at1_other _ _ (by omega), at1_other _ _ (by omega)]
    exact hs.inv.big b (by omega)
  · exact hs.inv.ver
  · intro t kk cs ht
    obtain ⟨b, c, ty, h1, h2, h3, h4, h5⟩ := hs.frm.lcs t kk cs ht
    exact ⟨b, c, ty, h1, (hown b (blk_lt h3)).trans h2, hblk h3, Vs.mono hle h4, h5⟩
  · intro t kk n ht
    obtain ⟨h0, ad, cap, c, ty, sz, h1, h2, h3, h4, h5⟩ := hs.frm.fls t kk n ht
    exact ⟨h0, ad, cap, c, ty, sz, h1, h2, (hown _ (blk_lt h4)).trans h3, hblk h4, h5⟩
  · intro i hi l b hb
    by_cases e : l = ct :: Q
    · subst e
      cases hx : under (i :: Q) (ct :: Q) with
      | false => rfl
      | true => exact absurd (under_cons hx) hi.2
    · simp only [at1_other _ _ e] at hb
      exact hs.fresh.L i hi.1 l b hb
  · refine .mark (b := w.heap.size) (by simp; omega) (by rw [at1_other _ _ (by omega)]; exact at1_same _ _ _) (by rw [show ({ w with heap := (w.heap.push (.deferred (some []))).push (.loop L0) } : World).heap = (w.heap.push (.deferred (some []))).push (.loop L0) from rfl, hget, if_neg (by omega), if_pos rfl]) ?_
    exact DfI.step hle (fun b hb hlt => ⟨(hown b hlt).trans hb, hlow b hlt⟩) (Nat.le_refl _) hs.df
  · intro l b hb
    by_cases e : l = ct :: Q
    · subst e; exact .inr (under_self _ _)
    · simp only [at1_other _ _ e] at hb; exact .inl hb
  · intro x hx
    simp only [look_cons]
    rw [if_neg]
    rintro rfl
    rw [under_trans hs.lim (under_self _ _)] at hx
    cases hx
  · intro l b hb
    by_cases e : l = ct :: Q
    · exact .inr e
    · simp only [at1_other _ _ e] at hb; exact .inl hb

end
end Go.Proofs.Ev
