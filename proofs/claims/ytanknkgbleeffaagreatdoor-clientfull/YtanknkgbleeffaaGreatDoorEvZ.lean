/- The turns that operations make: writes. -/
import Derived.Test.YtanknkgbleeffaaGreatDoorEvY
set_option linter.all false
namespace Go.Proofs.Ev
open Go
variable [Sg]

section
variable {cx : Cx} {Q : Name} {N : Nat} {S : Nat → Prop} {E : Env} {own : Nat → Tag} {H : Heap} {m : Mine} {fr : Fr} {a : Act} {w w' : World} {c c0 : Array Value} {ty : TypeId} {b : Nat}

theorem Inv.size_at (hi : Inv E own H w) (hb : blk w b = some (c0, ty)) (hsz : c.size = c0.size) {n : Nat} (h : E.S b = some n) : c.size = n := by
  obtain ⟨c1, ty1, fz, h1, h2⟩ := hi.siz _ _ h
  rw [cell_of_blk hb] at h1
  simp only [Option.some.injEq, Obj.cells.injEq] at h1
  rw [hsz, h1.1]; exact h2

theorem blk_lt (hb : blk w b = some (c0, ty)) : b < w.heap.size := (Array.getElem?_eq_some_iff.1 (cell_of_blk hb)).1

theorem setLocal (hs : St cx Q N S E own H m fr a w) (hu : Upd w w' b c ty) (hb : blk w b = some (c0, ty)) (hsz : c.size = c0.size) {t k : Nat} {cs : List AV} (hX : m.X k = some b) (ho : own b = .var t) (hM : ∀ i, E.M b i = none)
    (hc : Vs E (viewOf m fr.fl) cs c.toList) : Next cx Q N S E own H a w w' E m { fr with lc := Tr.set (path t) (k, cs) fr.lc } H := by
  have T : Turn Q E E own own H H m m fr { fr with lc := Tr.set (path t) (k, cs) fr.lc } w b c :=
    { le := .refl E
      M := fun b' i v h => .inl ⟨fun e => (by subst e; rw [hM] at h; cases h), h⟩
      S := fun b' n h => by
        by_cases e : b' = b
        · subst e; exact .inr ⟨rfl, hs.inv.size_at hb hsz h⟩
        · exact .inl ⟨e, h⟩
      O := fun _ _ _ _ h => .inl h
      L := rfl
      off := fun _ _ => rfl
      ownb := fun _ => ⟨rfl, by rw [ho]; rfl⟩
      nol := fun l h => by rw [ho] at h; cases h
      nom := fun h => by rw [ho] at h; cases h
      lp := rfl
      lm := rfl
      ob := fun o n cs h => .inl ⟨h, fun h => by rw [ho] at h; cases h⟩
      obs := fun _ _ => rfl
      view := ⟨fun _ _ h => h, fun _ _ _ _ _ _ h => h⟩
      tm := rfl
      lc := fun t' k' cs' h => by
        simp only [Tr.get_set_path] at h
        split at h
        · rename_i e
          subst e
          simp only [Option.some.injEq, Prod.mk.injEq] at h
          obtain ⟨rfl, rfl⟩ := h
          exact .inr ⟨hX, ho, hc, hM⟩
        · rename_i e
          exact .inl ⟨h, fun h => by rw [ho] at h; cases h; exact e rfl⟩
      fl := fun t' k n h => .inl ⟨h, fun h => (by rw [ho] at h; cases h), rfl⟩
      df := rfl }
  exact ⟨_, T.st hu hs ⟨hs.fresh.X, hs.fresh.K, hs.fresh.O, hs.fresh.L⟩, T.grow hu, T.same⟩

/-- an object is written, or filled on in its place -/
theorem setObj_turn (hs : St cx Q N S E own H m fr a w) (hu : Upd w w' b c ty) (hb : blk w b = some (c0, ty)) (hsz : c.size = c0.size) {o : Name} {n n' d d' : Nat} {cs cs' : List AV}
    (hl : look H.ob o = some (n, cs)) (hO : E.O o n = some (b, d)) (ho : own b = .obj o) (hM : ∀ i, E.M b i = none) (hlim : under H.lim o = true) (hn : (n' = n ∧ d' = d) ∨ n < n')
    (hfit : d' + cs'.length ≤ c.size) (hc : ∀ (i : Nat) x, cs'[i]? = some x → ∃ v, c[d' + i]? = some v ∧ V E .nil x v) :
    Next cx Q N S E own H a w w' { E with O := fun x k => if x = o ∧ k = n' then some (b, d') else E.O x k } m fr (H.set o (n', cs')) := by
  have hle : E.le { E with O := fun x k => if x = o ∧ k = n' then some (b, d') else E.O x k } :=
    ⟨fun _ _ h => h, fun _ _ _ h => h, fun x k p h => (by
      show (if x = o ∧ k = n' then _ else _) = some p
      split
      · rename_i e
        obtain ⟨rfl, rfl⟩ := e
        rcases hn with ⟨rfl, rfl⟩ | hn
        · rw [hO] at h; exact h
        · rw [hs.inv.ver _ _ _ hl _ hn] at h; cases h
      · exact h), fun _ _ h => h⟩
  have T : Turn Q E { E with O := fun x k => if x = o ∧ k = n' then some (b, d') else E.O x k } own own H (H.set o (n', cs')) m m fr fr w b c :=
    { le := hle
      M := fun b' i v h => .inl ⟨fun e => (by subst e; have := hM i; simp only [this] at h; cases h), h⟩
      S := fun b' k h => by
        by_cases e : b' = b
        · subst e; exact .inr ⟨rfl, hs.inv.size_at hb hsz h⟩
        · exact .inl ⟨e, h⟩
      O := fun x k b' d2 h => by
        simp only at h
        split at h
        · rename_i e
          obtain ⟨rfl, rfl⟩ := e
          simp only [Option.some.injEq, Prod.mk.injEq] at h
          exact .inr ⟨h.1.symm, cs', by simp [Heap.set, look_put_same], hlim, .inl ⟨_, _, hO⟩⟩
        · exact .inl h
      L := rfl
      off := fun _ _ => rfl
      ownb := fun _ => ⟨rfl, by rw [ho]; rfl⟩
      nol := fun l h => by rw [ho] at h; cases h
      nom := fun h => by rw [ho] at h; cases h
      lp := rfl
      lm := rfl
      ob := fun x k cs2 h => by
        by_cases e : x = o
        · subst e
          simp only [Heap.set, look_put_same, Option.some.injEq, Prod.mk.injEq] at h
          obtain ⟨rfl, rfl⟩ := h
          refine .inr ⟨d', by simp, ho, hfit, fun i x hx => ?_, hM, fun n2 h2 => hs.inv.ver _ _ _ hl _ (by omega)⟩
          obtain ⟨v, h1, h2⟩ := hc i x hx
          exact ⟨v, h1, V.mono hle h2⟩
        · simp only [Heap.set, look_put_other _ _ _ _ e] at h
          exact .inl ⟨h, fun h => by rw [ho] at h; cases h; exact e rfl⟩
      obs := fun x h => by
        by_cases e : x = o
        · subst e; rw [hlim] at h; cases h
        · simp only [Heap.set, look_put_other _ _ _ _ e]
      view := ⟨fun _ _ h => h, fun _ _ _ _ _ _ h => h⟩
      tm := rfl
      lc := fun t' k cs' h => .inl ⟨h, fun h => by rw [ho] at h; cases h⟩
      fl := fun t' k n h => .inl ⟨h, fun h => (by rw [ho] at h; cases h), rfl⟩
      df := rfl }
  refine ⟨_, T.st hu hs ⟨hs.fresh.X, hs.fresh.K, fun i hi x k p h => ?_, hs.fresh.L⟩, T.grow hu, T.same⟩
  simp only at h
  split at h
  · rename_i e
    obtain ⟨rfl, _⟩ := e
    exact hs.fresh.O i hi _ _ _ hO
  · exact hs.fresh.O i hi _ _ _ h

/-- an object that was filled on in a new place -/
theorem moveObj_turn (hs : St cx Q N S E own H m fr a w) (hw : w'.heap = w.heap.push (.cells c ty) ∧ w'.os = w.os ∧ w'.output = w.output) {o : Name} {n : Nat} {b0 d0 : Nat} {cs cs' : List AV}
    (hl : look H.ob o = some (n, cs)) (hO : E.O o n = some (b0, d0)) (hlim : under H.lim o = true)
    (hfit : cs'.length ≤ c.size) (hc : Vs E .nil cs' (c.toList.take cs'.length)) :
    Next cx Q N S E own H a w w' { E with S := at1 E.S w.heap.size (some c.size), O := fun x k => if x = o ∧ k = n + 1 then some (w.heap.size, 0) else E.O x k } m fr (H.set o (n + 1, cs')) := by
  have hu := Upd.push hw
  have ho := hs.inv.fresh_own
  have hM : ∀ i, E.M w.heap.size i = none := fun i => by
    cases hx : E.M w.heap.size i with
    | none => rfl
    | some v => have := hs.inv.M_lt hx; omega
  have hle : E.le { E with S := at1 E.S w.heap.size (some c.size), O := fun x k => if x = o ∧ k = n + 1 then some (w.heap.size, 0) else E.O x k } :=
    ⟨fun b n h => by
      have := hs.inv.S_lt h
      show at1 E.S _ _ b = some n
      rw [at1_other _ _ (by omega)]; exact h, fun _ _ _ h => h, fun x k p h => (by
      show (if x = o ∧ k = n + 1 then _ else _) = some p
      split
      · rename_i e
        obtain ⟨rfl, rfl⟩ := e
        rw [hs.inv.ver _ _ _ hl _ (Nat.lt_succ_self _)] at h; cases h
      · exact h), fun _ _ h => h⟩
  have T : Turn Q E { E with S := at1 E.S w.heap.size (some c.size), O := fun x k => if x = o ∧ k = n + 1 then some (w.heap.size, 0) else E.O x k } own (at1 own w.heap.size (.obj o)) H (H.set o (n + 1, cs')) m m fr fr w w.heap.size c :=
    { le := hle
      M := fun b' i v h => .inl ⟨fun e => by have := hs.inv.M_lt h; omega, h⟩
      S := fun b' n h => by
        by_cases e : b' = w.heap.size
        · subst e
          simp only [at1_same, Option.some.injEq] at h
          exact .inr ⟨rfl, h⟩
        · simp only [at1_other _ _ e] at h
          exact .inl ⟨e, h⟩
      O := fun x k b' d2 h => by
        simp only at h
        split at h
        · rename_i e
          obtain ⟨rfl, rfl⟩ := e
          simp only [Option.some.injEq, Prod.mk.injEq] at h
          exact .inr ⟨h.1.symm, cs', by simp [Heap.set, look_put_same], hlim, .inl ⟨_, _, hO⟩⟩
        · exact .inl h
      L := rfl
      off := fun b' h => at1_other _ _ h
      ownb := fun h => absurd h (Nat.lt_irrefl _)
      nol := fun l h => by rw [ho] at h; cases h
      nom := fun h => by rw [ho] at h; cases h
      lp := rfl
      lm := rfl
      ob := fun x k cs2 h => by
        by_cases e : x = o
        · subst e
          simp only [Heap.set, look_put_same, Option.some.injEq, Prod.mk.injEq] at h
          obtain ⟨rfl, rfl⟩ := h
          refine .inr ⟨0, by simp, at1_same _ _ _, by omega, fun i x hx => ?_, hM, fun n2 h2 => hs.inv.ver _ _ _ hl _ (by omega)⟩
          obtain ⟨v, hv, hV⟩ := hc.get i x hx
          rw [List.getElem?_take] at hv
          split at hv
          · exact ⟨v, by simpa using hv, V.mono hle hV⟩
          · cases hv
        · simp only [Heap.set, look_put_other _ _ _ _ e] at h
          exact .inl ⟨h, fun h => by rw [ho] at h; cases h⟩
      obs := fun x h => by
        by_cases e : x = o
        · subst e; rw [hlim] at h; cases h
        · simp only [Heap.set, look_put_other _ _ _ _ e]
      view := ⟨fun _ _ h => h, fun _ _ _ _ _ _ h => h⟩
      tm := rfl
      lc := fun t' k cs' h => .inl ⟨h, fun h => by rw [ho] at h; cases h⟩
      fl := fun t' k n h => .inl ⟨h, fun h => (by rw [ho] at h; cases h), rfl⟩
      df := rfl }
  refine ⟨_, T.st hu hs ⟨hs.fresh.X, hs.fresh.K, fun i hi x k p h => ?_, hs.fresh.L⟩, T.grow hu, T.same⟩
  simp only at h
  split at h
  · rename_i e
    obtain ⟨rfl, _⟩ := e
    exact hs.fresh.O i hi _ _ _ hO
  · exact hs.fresh.O i hi _ _ _ h

/-- a token's row is filled on in its place -/
theorem fillTok (hs : St cx Q N S E own H m fr a w) {t k n n' cap sz : Nat} {ad : Addr} (hfl : Tr.get (path t) fr.fl = some (k, n)) (hK : m.K t k = some (ad, cap, sz)) (hu : Upd w w' ad.block c ty) (hb : blk w ad.block = some (c0, ty)) (hsz : c.size = c0.size)
    (hsp : ad.spot = none) (ho : own ad.block = .tok t) (hz : 0 < sz) (hM : ∀ i, ad.off + n * sz ≤ i → E.M ad.block i = none) (hlt : n < n') (hn : n' ≤ cap) (hcap : ad.off + cap * sz ≤ c.size)
    (hkeep : ∀ (i : Nat), i < ad.off + n * sz → c[i]? = c0[i]?) :
    Next cx Q N S E own H a w w' (frz E ad.block (ad.off + n * sz) (ad.off + n' * sz) c) m { fr with fl := Tr.set (path t) (k, n') fr.fl } H := by
  have hle : E.le (frz E ad.block (ad.off + n * sz) (ad.off + n' * sz) c) := frz_le fun i v h h1 _ => by rw [hM i h1] at h; cases h
  have hv : (viewOf m fr.fl).le (viewOf m (Tr.set (path t) (k, n') fr.fl)) := by
    refine ⟨fun _ _ h => h, fun t' k' len sz' base cap' h => ?_⟩
    obtain ⟨h1, h2⟩ := h
    refine ⟨h1, fun n2 hn2 => ?_⟩
    rw [Tr.get_set_path] at hn2
    split at hn2
    · rename_i e
      subst e
      simp only [Option.some.injEq, Prod.mk.injEq] at hn2
      obtain ⟨rfl, rfl⟩ := hn2
      obtain ⟨h3, _⟩ := h2 _ hfl
      exact ⟨by omega, fun e => by omega⟩
    · exact h2 _ hn2
  have T : Turn Q E (frz E ad.block (ad.off + n * sz) (ad.off + n' * sz) c) own own H H m m fr { fr with fl := Tr.set (path t) (k, n') fr.fl } w ad.block c :=
    { le := hle
      M := fun b' i v h => by
        simp only [frz] at h
        split at h
        · rename_i e; exact .inr ⟨e.1, h⟩
        · rename_i e
          by_cases e' : b' = ad.block
          · subst e'
            have hi : i < ad.off + n * sz := by
              rcases Nat.lt_or_ge i (ad.off + n * sz) with h1 | h1
              · exact h1
              · rw [hM i h1] at h; cases h
            refine .inr ⟨rfl, ?_⟩
            rw [hkeep i hi, ← blk_cell hb]
            exact hs.inv.frz _ _ _ h
          · exact .inl ⟨e', h⟩
      S := fun b' n h => by
        by_cases e : b' = ad.block
        · subst e; exact .inr ⟨rfl, hs.inv.size_at hb hsz h⟩
        · exact .inl ⟨e, h⟩
      O := fun _ _ _ _ h => .inl h
      L := rfl
      off := fun _ _ => rfl
      ownb := fun _ => ⟨rfl, by rw [ho]; rfl⟩
      nol := fun l h => by rw [ho] at h; cases h
      nom := fun h => by rw [ho] at h; cases h
      lp := rfl
      lm := rfl
      ob := fun o n cs h => .inl ⟨h, fun h => by rw [ho] at h; cases h⟩
      obs := fun _ _ => rfl
      view := hv
      tm := rfl
      lc := fun t' k cs' h => .inl ⟨h, fun h => by rw [ho] at h; cases h⟩
      fl := fun t' k' n2 h => by
        simp only [Tr.get_set_path] at h
        split at h
        · rename_i e
          subst e
          simp only [Option.some.injEq, Prod.mk.injEq] at h
          obtain ⟨rfl, rfl⟩ := h
          refine .inr ⟨by omega, ad, cap, sz, hK, hsp, rfl, ho, hz, hn, hcap, fun i hi => ?_⟩
          simp only [frz]
          rw [if_neg (by omega)]
          exact hM i (Nat.le_trans (Nat.add_le_add_left (Nat.mul_le_mul_right _ (Nat.le_of_lt hlt)) _) hi)
        · rename_i e
          exact .inl ⟨h, fun h => (by rw [ho] at h; cases h; exact e rfl), rfl⟩
      df := rfl }
  exact ⟨_, T.st hu hs ⟨hs.fresh.X, hs.fresh.K, hs.fresh.O, hs.fresh.L⟩, T.grow hu, T.same⟩

end
end Go.Proofs.Ev
