/- What changes memory: one block at a time. -/
import Derived.Test.YtanknkgbleeffaaGreatDoorEvW
import Derived.Laws.CopyRow
import Derived.Laws.AppendOwn
import Derived.Laws.MakeOwn
set_option linter.all false
namespace Go.Proofs.Ev
open Go
variable [Sg]

/-- one block is written, or is new -/
structure Upd (w w' : World) (b : Nat) (c : Array Value) (ty : TypeId) : Prop where
  off : ∀ b', b' ≠ b → w'.heap[b']? = w.heap[b']?
  here : w'.heap[b]? = some (.cells c ty (0, 0))
  out : w'.os = w.os ∧ w'.output = w.output
  was : ∀ a : Addr, a.block = b → w.frozen? a = false

theorem Upd.frozen {w w' : World} {b : Nat} {c : Array Value} {ty : TypeId} (h : Upd w w' b c ty) (a : Addr) : w'.frozen? a = w.frozen? a := by
  by_cases e : a.block = b
  · rw [h.was a e]
    simp [World.frozen?, e, h.here]
  · simp only [World.frozen?, h.off _ e]

theorem Upd.size {w w' : World} {b : Nat} {c : Array Value} {ty : TypeId} (h : Upd w w' b c ty) : w.heap.size ≤ w'.heap.size := by
  rcases Nat.lt_or_ge w'.heap.size w.heap.size with hlt | hge
  · by_cases hb : w'.heap.size = b
    · have := h.here
      rw [← hb] at this
      simp at this
    · have := h.off _ hb
      rw [Array.getElem?_eq_none (Nat.le_refl _), Array.getElem?_eq_getElem hlt] at this
      cases this
  · exact hge

theorem Upd.lt {w w' : World} {b : Nat} {c : Array Value} {ty : TypeId} (h : Upd w w' b c ty) : b < w'.heap.size := by
  rcases Nat.lt_or_ge b w'.heap.size with hlt | hge
  · exact hlt
  · have := h.here; rw [Array.getElem?_eq_none hge] at this; cases this

theorem Upd.big {w w' : World} {b b' : Nat} {c : Array Value} {ty : TypeId} (h : Upd w w' b c ty) (hb : w'.heap.size ≤ b') : b' ≠ b ∧ w.heap.size ≤ b' :=
  ⟨fun e => by have := h.lt; omega, Nat.le_trans h.size hb⟩

theorem Upd.cell_off {w w' : World} {b : Nat} {c : Array Value} {ty : TypeId} (h : Upd w w' b c ty) {b' i : Nat} (hb : b' ≠ b) : w'.cell? ⟨b', i, none⟩ = w.cell? ⟨b', i, none⟩ := by
  simp only [World.cell?, h.off b' hb]

theorem Upd.cell_here {w w' : World} {b : Nat} {c : Array Value} {ty : TypeId} (h : Upd w w' b c ty) {i : Nat} : w'.cell? ⟨b, i, none⟩ = c[i]? := by
  simp [World.cell?, h.here]

theorem Upd.blk_off {w w' : World} {b : Nat} {c : Array Value} {ty : TypeId} (h : Upd w w' b c ty) {b' : Nat} (hb : b' ≠ b) : blk w' b' = blk w b' := by
  simp only [blk, h.off b' hb]

theorem Upd.blk_here {w w' : World} {b : Nat} {c : Array Value} {ty : TypeId} (h : Upd w w' b c ty) : blk w' b = some (c, ty) := by
  simp [blk, h.here]

theorem Upd.push {w w' : World} {c : Array Value} {ty : TypeId} (h : w'.heap = w.heap.push (.cells c ty) ∧ w'.os = w.os ∧ w'.output = w.output) : Upd w w' w.heap.size c ty where
  out := h.2
  was a ha := by simp [World.frozen?, ha]
  off b' hb := by
    rw [h.1, Array.getElem?_push]
    split
    · exact absurd (by assumption) hb
    · rfl
  here := by rw [h.1, Array.getElem?_push]; simp

theorem Upd.set {w : World} {b : Nat} {c d : Array Value} {ty : TypeId} (h : w.heap[b]? = some (.cells c ty (0, 0))) : Upd w (w.setRow b d) b d ty where
  out := ⟨rfl, rfl⟩
  was a ha := by simp [World.frozen?, ha, h]
  off b' hb := by
    unfold World.setRow
    simp only [Array.getElem?_modify]
    rw [if_neg (fun e => hb e.symm)]
  here := by
    unfold World.setRow
    simp only [Array.getElem?_modify, if_true, h, Option.map_some]

theorem cell_of_blk {w : World} {b : Nat} {c : Array Value} {ty : TypeId} (h : blk w b = some (c, ty)) : w.heap[b]? = some (.cells c ty (0, 0)) := by
  unfold blk at h
  split at h
  · rename_i c' ty' hb
    simp only [Option.some.injEq, Prod.mk.injEq] at h
    obtain ⟨rfl, rfl⟩ := h
    exact hb
  · cases h

theorem LoopRel.mono {E E' : Env} (h : E.le E') {r : LoopRec} {L : Loop} (x : LoopRel E r L) : LoopRel E' r L :=
  { x with tm := fun t => V.mono h (x.tm t) }

/-- what a turn of one block must keep -/
structure Turn (Q : Name) (E E' : Env) (own own' : Nat → Tag) (H H' : Heap) (m m' : Mine) (fr fr' : Fr) (w : World) (b : Nat) (c : Array Value) : Prop where
  le : E.le E'
  M : ∀ b' i v, E'.M b' i = some v → (b' ≠ b ∧ E.M b' i = some v) ∨ (b' = b ∧ c[i]? = some v)
  S : ∀ b' n, E'.S b' = some n → (b' ≠ b ∧ E.S b' = some n) ∨ (b' = b ∧ c.size = n)
  O : ∀ o n b' d, E'.O o n = some (b', d) → E.O o n = some (b', d) ∨ (b' = b ∧ ∃ cs, look H'.ob o = some (n, cs) ∧ under H.lim o = true ∧ ((∃ n' p', E.O o n' = some p') ∨ under Q o = true))
  L : E'.L = E.L
  off : ∀ b', b' ≠ b → own' b' = own b'
  ownb : b < w.heap.size → own' b = own b ∧ (own b).still = false
  nol : ∀ l, own b ≠ .loop l
  nom : own b ≠ .mark
  lp : H'.lp = H.lp
  lm : H'.lim = H.lim
  ob : ∀ o n cs, look H'.ob o = some (n, cs) → (look H.ob o = some (n, cs) ∧ own b ≠ .obj o) ∨ ∃ d, E'.O o n = some (b, d) ∧ own' b = .obj o ∧ d + cs.length ≤ c.size ∧
    (∀ (i : Nat) a, cs[i]? = some a → ∃ v, c[d + i]? = some v ∧ V E' .nil a v) ∧ (∀ i, E'.M b i = none) ∧ ∀ n', n < n' → E.O o n' = none
  obs : ∀ o, under H.lim o = false → look H'.ob o = look H.ob o
  view : (viewOf m fr.fl).le (viewOf m' fr'.fl)
  tm : fr'.tm = fr.tm
  lc : ∀ t k cs, Tr.get (path t) fr'.lc = some (k, cs) → (Tr.get (path t) fr.lc = some (k, cs) ∧ own b ≠ .var t) ∨
    (m'.X k = some b ∧ own' b = .var t ∧ Vs E' (viewOf m' fr'.fl) cs c.toList ∧ ∀ i, E'.M b i = none)
  fl : ∀ t k n, Tr.get (path t) fr'.fl = some (k, n) → (Tr.get (path t) fr.fl = some (k, n) ∧ own b ≠ .tok t ∧ m'.K t k = m.K t k) ∨
    (0 < n ∧ ∃ ad cap sz, m'.K t k = some (ad, cap, sz) ∧ ad.spot = none ∧ ad.block = b ∧ own' b = .tok t ∧ 0 < sz ∧ n ≤ cap ∧ ad.off + cap * sz ≤ c.size ∧ ∀ i, ad.off + n * sz ≤ i → E'.M b i = none)
  df : fr'.df = fr.df

section
variable {Q : Name} {E E' : Env} {own own' : Nat → Tag} {H H' : Heap} {m m' : Mine} {fr fr' : Fr} {w w' : World} {b : Nat} {c : Array Value} {ty : TypeId}

theorem Turn.Mn (h : Turn Q E E' own own' H H' m m' fr fr' w b c) {b' : Nat} (hb : b' ≠ b) {i : Nat} (hn : E.M b' i = none) : E'.M b' i = none := by
  cases hx : E'.M b' i with
  | none => rfl
  | some v =>
    rcases h.M _ _ _ hx with ⟨_, h1⟩ | ⟨h1, _⟩
    · rw [hn] at h1; cases h1
    · exact absurd h1 hb

theorem Turn.inv (h : Turn Q E E' own own' H H' m m' fr fr' w b c) (hu : Upd w w' b c ty) (hi : Inv E own H w) : Inv E' own' H' w' where
  frz b' i v hv := by
    rcases h.M _ _ _ hv with ⟨hb, h1⟩ | ⟨rfl, h1⟩
    · rw [hu.cell_off hb]; exact hi.frz _ _ _ h1
    · rw [hu.cell_here]; exact h1
  siz b' n hn := by
    rcases h.S _ _ hn with ⟨hb, h1⟩ | ⟨rfl, h1⟩
    · rw [hu.off _ hb]; exact hi.siz _ _ h1
    · exact ⟨_, _, _, hu.here, h1⟩
  bnd o n b' d hO := by
    rcases h.O _ _ _ _ hO with h1 | ⟨rfl, _⟩
    · exact Nat.lt_of_lt_of_le (hi.bnd _ _ _ _ h1) hu.size
    · exact hu.lt
  lbnd l b' hl := Nat.lt_of_lt_of_le (hi.lbnd l b' (by have := h.L; rw [this] at hl; exact hl)) hu.size
  obj o n cs hl := by
    rcases h.ob _ _ _ hl with ⟨h1, h2⟩ | ⟨d, h1, h2, h3, h4, h5, _⟩
    · obtain ⟨b0, d, c0, ty0, hO, hown, hb, hsz, hcs, hM⟩ := hi.obj _ _ _ h1
      have hne : b0 ≠ b := fun e => h2 (e ▸ hown)
      refine ⟨b0, d, c0, ty0, h.le.O _ _ _ hO, (h.off _ hne).trans hown, (hu.blk_off hne).trans hb, hsz, fun i a ha => ?_, fun i => h.Mn hne (hM i)⟩
      obtain ⟨v, hv, hV⟩ := hcs i a ha
      exact ⟨v, hv, V.mono h.le hV⟩
    · exact ⟨b, d, c, ty, h1, h2, hu.blk_here, h3, h4, h5⟩
  lop l r hl := by
    rw [h.lp] at hl
    obtain ⟨b0, L, hL, hown, hb, hr⟩ := hi.lop _ _ hl
    have hne : b0 ≠ b := fun e => h.nol l (e ▸ hown)
    exact ⟨b0, L, h.le.L _ _ hL, (h.off _ hne).trans hown, (hu.off _ hne).trans hb, hr.mono h.le⟩
  big b' hb := by
    obtain ⟨h1, h2⟩ := hu.big hb
    exact (h.off _ h1).trans (hi.big _ h2)
  ver o n cs hl n' hn := by
    cases hx : E'.O o n' with
    | none => rfl
    | some p =>
      obtain ⟨b', d⟩ := p
      rcases h.O _ _ _ _ hx with h1 | ⟨_, cs', h1, _⟩
      · rcases h.ob _ _ _ hl with ⟨h2, _⟩ | ⟨_, _, _, _, _, _, h2⟩
        · rw [hi.ver _ _ _ h2 _ hn] at h1; cases h1
        · rw [h2 _ hn] at h1; cases h1
      · rw [hl] at h1
        simp only [Option.some.injEq, Prod.mk.injEq] at h1
        omega

theorem Turn.frm (h : Turn Q E E' own own' H H' m m' fr fr' w b c) (hu : Upd w w' b c ty) {N : Nat} {tmps : Array Value} (hf : FrI E own m N fr tmps w) : FrI E' own' m' N fr' tmps w' where
  size := hf.size
  tms t := by
    have := V.view h.view (V.mono h.le (hf.tms t))
    unfold tmOf at this ⊢
    rw [h.tm]
    exact this
  lcs t k cs hl := by
    rcases h.lc _ _ _ hl with ⟨h1, h2⟩ | ⟨h1, h2, h3, h4⟩
    · obtain ⟨b0, c0, ty0, hX, hown, hb, hvs, hM⟩ := hf.lcs _ _ _ h1
      have hne : b0 ≠ b := fun e => h2 (e ▸ hown)
      exact ⟨b0, c0, ty0, h.view.X _ _ hX, (h.off _ hne).trans hown, (hu.blk_off hne).trans hb, Vs.view h.view (Vs.mono h.le hvs), fun i => h.Mn hne (hM i)⟩
    · exact ⟨b, c, ty, h1, h2, hu.blk_here, h3, h4⟩
  fls t k n hl := by
    rcases h.fl _ _ _ hl with ⟨h1, h2, hKK⟩ | ⟨h0, ad, cap, sz, h1, h2, h3, h4, h5, h6, h7, h8⟩
    · obtain ⟨h0, ad, cap, c0, ty0, sz, hK, hsp, hown, hb, hz, hn, hc, hM⟩ := hf.fls _ _ _ h1
      have hne : ad.block ≠ b := fun e => h2 (e ▸ hown)
      exact ⟨h0, ad, cap, c0, ty0, sz, hKK.trans hK, hsp, (h.off _ hne).trans hown, (hu.blk_off hne).trans hb, hz, hn, hc, fun i hi => h.Mn hne (hM i hi)⟩
    · subst h3
      exact ⟨h0, ad, cap, c, ty, sz, h1, h2, h4, hu.blk_here, h5, h6, h7, h8⟩

theorem DfI.step {k k' : Nat} {d : List (FuncId × List AV)} {ds : List Deferred} (hle : E.le E') (hm : ∀ b, own b = .mark → b < w.heap.size → own' b = .mark ∧ w'.heap[b]? = w.heap[b]?) (hk : k ≤ k') (hd : DfI E own w k d ds) : DfI E' own' w' k' d ds := by
  induction hd generalizing k' with
  | nil => exact .nil
  | call hv _ ih => exact .call (Vs.mono hle hv) (ih hk)
  | mark hb ho hw _ ih =>
    have hlt : _ < w.heap.size := (Array.getElem?_eq_some_iff.1 hw).1
    obtain ⟨h1, h2⟩ := hm _ ho hlt
    exact .mark (Nat.lt_of_lt_of_le hb hk) h1 (h2.trans hw) (ih (Nat.le_refl _))

theorem Turn.st {cx : Cx} {N : Nat} {S S' : Nat → Prop} {a : Act} (h : Turn Q E E' own own' H H' m m' fr fr' w b c) (hu : Upd w w' b c ty) (hs : St cx Q N S E own H m fr a w) (hf : Fresh E' m' Q S') : St cx Q N S' E' own' H' m' fr' a w' where
  inv := h.inv hu hs.inv
  frm := h.frm hu hs.frm
  glb := hs.glb.mono h.le
  fresh := hf
  df := by
    rw [h.df]
    refine DfI.step h.le (fun b' hb _ => ?_) hu.size hs.df
    have hne : b' ≠ b := fun e => h.nom (e ▸ hb)
    exact ⟨(h.off _ hne).trans hb, hu.off _ hne⟩
  lim := by rw [h.lm]; exact hs.lim

theorem Turn.grow (h : Turn Q E E' own own' H H' m m' fr fr' w b c) (hu : Upd w w' b c ty) : Grow Q own own' E E' w w' where
  env := h.le
  size := hu.size
  keep b' hb ho := hu.off _ (fun e => by subst e; rw [(h.ownb hb).2] at ho; cases ho)
  tags b' hb := by
    by_cases e : b' = b
    · subst e; exact (h.ownb hb).1
    · exact h.off _ e
  frz b' i v hv hb ho := by
    rcases h.M _ _ _ hv with ⟨_, h1⟩ | ⟨rfl, _⟩
    · exact h1
    · rw [(h.ownb hb).2] at ho; cases ho
  names o n p hp := by
    obtain ⟨b', d⟩ := p
    rcases h.O _ _ _ _ hp with h1 | ⟨_, _, _, _, h1⟩
    · exact .inl ⟨_, _, h1⟩
    · exact h1
  lnames l b' hl := .inl (by have := h.L; rw [this] at hl; exact hl)
  outer := ⟨hu.out.1, hu.out.2, hu.frozen⟩

theorem Turn.same (h : Turn Q E E' own own' H H' m m' fr fr' w b c) : SameH E E' H H' where
  lim := h.lm
  ob := h.obs
  lp o _ := by rw [h.lp]
  nm o n p ho hp := by
    obtain ⟨b', d⟩ := p
    rcases h.O _ _ _ _ hp with h1 | ⟨_, _, _, h1, _⟩
    · exact h1
    · rw [ho] at h1; cases h1
end

/-- an operation has been done -/
def Done (P : Program) (cx : Cx) (Q : Name) (N : Nat) (S : Nat → Prop) (E : Env) (own : Nat → Tag) (H : Heap) (fr : Fr) (a : Act) (w : World) {α : Type} (s : Sem α) (R : Env → View → α → Prop) (fr' : Fr) (H' : Heap) : Prop :=
  ∃ E' own' m' w' val, s.run P w = .ok val w' ∧ St cx Q N S E' own' H' m' fr' a w' ∧ R E' (viewOf m' fr'.fl) val ∧ Grow Q own own' E E' w w' ∧ SameH E E' H H'

theorem Fresh.mono {E : Env} {m : Mine} {Q : Name} {S S' : Nat → Prop} (h : Fresh E m Q S) (hs : ∀ i, S' i → S i) : Fresh E m Q S' :=
  ⟨fun i hi => h.X i (hs i hi), fun i hi => h.K i (hs i hi), fun i hi => h.O i (hs i hi), fun i hi => h.L i (hs i hi)⟩

theorem St.mono {cx : Cx} {Q : Name} {N : Nat} {S S' : Nat → Prop} {E : Env} {own : Nat → Tag} {H : Heap} {m : Mine} {fr : Fr} {a : Act} {w : World} (h : St cx Q N S E own H m fr a w) (hs : ∀ i, S' i → S i) : St cx Q N S' E own H m fr a w :=
  { h with fresh := h.fresh.mono hs }

theorem under_cons {i j : Nat} {Q : Name} (h : under (i :: Q) (j :: Q) = true) : i = j := by
  obtain ⟨l, hl⟩ := under_iff.1 h
  have := congrArg List.length hl
  simp at this
  have : l = [] := by cases l with | nil => rfl | cons a r => simp at this
  subst this
  simpa using hl.symm

end Go.Proofs.Ev
