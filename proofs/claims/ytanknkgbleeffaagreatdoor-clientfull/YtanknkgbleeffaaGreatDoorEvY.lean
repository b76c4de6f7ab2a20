/- The turns that operations make. -/
import Derived.Test.YtanknkgbleeffaaGreatDoorEvX
set_option linter.all false
namespace Go.Proofs.Ev
open Go
variable [Sg]

theorem under_trans {P Q R : Name} (h : under P Q = true) (h' : under Q R = true) : under P R = true := by
  obtain ⟨l, rfl⟩ := under_iff.1 h
  obtain ⟨k, rfl⟩ := under_iff.1 h'
  exact under_iff.2 ⟨k ++ l, by simp⟩
theorem under_self (i : Nat) (Q : Name) : under Q (i :: Q) = true := under_iff.2 ⟨[i], rfl⟩
theorem under_refl (Q : Name) : under Q Q = true := under_iff.2 ⟨[], rfl⟩

open Classical in
/-- a function changed at one place -/
noncomputable def at1 {α β : Type} (f : α → β) (x : α) (y : β) : α → β := fun z => if z = x then y else f z
theorem at1_same {α β : Type} (f : α → β) (x : α) (y : β) : at1 f x y x = y := by simp [at1]
theorem at1_other {α β : Type} (f : α → β) {x z : α} (y : β) (h : z ≠ x) : at1 f x y z = f z := by simp [at1, h]

section
variable {cx : Cx} {Q : Name} {N : Nat} {S : Nat → Prop} {E : Env} {own : Nat → Tag} {H : Heap} {m : Mine} {fr : Fr} {a : Act} {w w' : World} {c : Array Value} {ty : TypeId} {id : Nat}

theorem Inv.M_lt (hi : Inv E own H w) {b i : Nat} {v : Value} (h : E.M b i = some v) : b < w.heap.size := by
  have := hi.frz _ _ _ h
  unfold World.cell? at this
  split at this
  · rename_i hb; exact (Array.getElem?_eq_some_iff.1 hb).1
  · cases this

theorem Inv.S_lt (hi : Inv E own H w) {b n : Nat} (h : E.S b = some n) : b < w.heap.size := by
  obtain ⟨_, _, _, hb, _⟩ := hi.siz _ _ h
  exact (Array.getElem?_eq_some_iff.1 hb).1

theorem Inv.fresh_own (hi : Inv E own H w) : own w.heap.size = .other := hi.big _ (Nat.le_refl _)

/-- what a state is after one turn -/
def Next (cx : Cx) (Q : Name) (N : Nat) (S : Nat → Prop) (E : Env) (own : Nat → Tag) (H : Heap) (a : Act) (w w' : World) (E' : Env) (m' : Mine) (fr' : Fr) (H' : Heap) : Prop :=
  ∃ own', St cx Q N S E' own' H' m' fr' a w' ∧ Grow Q own own' E E' w w' ∧ SameH E E' H H'

/-- a variable of the activation's own -/
theorem newLocal (hs : St cx Q N S E own H m fr a w) (hw : w'.heap = w.heap.push (.cells c ty) ∧ w'.os = w.os ∧ w'.output = w.output) (hid : S id) {t : Nat} {cs : List AV} (hc : Vs E (viewOf m fr.fl) cs c.toList) :
    Next cx Q N (fun i => S i ∧ i ≠ id) E own H a w w' E { m with X := at1 m.X id (some w.heap.size) } { fr with lc := Tr.set (path t) (id, cs) fr.lc } H := by
  have hu := Upd.push hw
  have ho := hs.inv.fresh_own
  have hv : (viewOf m fr.fl).le (viewOf { m with X := at1 m.X id (some w.heap.size) } fr.fl) :=
    ⟨fun k b h => by
      by_cases e : k = id
      · subst e; have := hs.fresh.X _ hid; simp [viewOf, this] at h
      · simpa [viewOf, at1_other _ _ e] using h, fun _ _ _ _ _ _ h => h⟩
  have T : Turn Q E E own (at1 own w.heap.size (.var t)) H H m { m with X := at1 m.X id (some w.heap.size) } fr { fr with lc := Tr.set (path t) (id, cs) fr.lc } w w.heap.size c :=
    { le := .refl E
      M := fun b' i v h => .inl ⟨fun e => by have := hs.inv.M_lt h; omega, h⟩
      S := fun b' n h => .inl ⟨fun e => by have := hs.inv.S_lt h; omega, h⟩
      O := fun _ _ _ _ h => .inl h
      L := rfl
      off := fun b' h => at1_other _ _ h
      ownb := fun h => absurd h (Nat.lt_irrefl _)
      nol := fun l h => by rw [ho] at h; cases h
      nom := fun h => by rw [ho] at h; cases h
      lp := rfl
      lm := rfl
      ob := fun o n cs h => .inl ⟨h, fun h => by rw [ho] at h; cases h⟩
      obs := fun _ _ => rfl
      view := hv
      tm := rfl
      lc := fun t' k cs' h => by
        simp only [Tr.get_set_path] at h
        split at h
        · rename_i e
          subst e
          simp only [Option.some.injEq, Prod.mk.injEq] at h
          obtain ⟨rfl, rfl⟩ := h
          exact .inr ⟨at1_same _ _ _, at1_same _ _ _, Vs.view hv hc, fun i => by
            cases hx : E.M w.heap.size i with
            | none => rfl
            | some v => have := hs.inv.M_lt hx; omega⟩
        · exact .inl ⟨h, fun h => by rw [ho] at h; cases h⟩
      fl := fun t' k n h => .inl ⟨h, fun h => (by rw [ho] at h; cases h), rfl⟩
      df := rfl }
  refine ⟨_, T.st hu hs ⟨fun i hi => ?_, fun i hi => hs.fresh.K i hi.1, fun i hi => hs.fresh.O i hi.1, fun i hi => hs.fresh.L i hi.1⟩, T.grow hu, T.same⟩
  show at1 m.X id _ i = none
  rw [at1_other _ _ hi.2]
  exact hs.fresh.X i hi.1

/-- an object that others may see -/
theorem newObj_turn (hs : St cx Q N S E own H m fr a w) (hw : w'.heap = w.heap.push (.cells c ty) ∧ w'.os = w.os ∧ w'.output = w.output) (hid : S id) {cs : List AV} (hl : cs.length ≤ c.size) (hc : Vs E .nil cs (c.toList.take cs.length)) :
    Next cx Q N (fun i => S i ∧ i ≠ id) E own H a w w' { E with S := at1 E.S w.heap.size (some c.size), O := fun o n => if o = id :: Q ∧ n = 0 then some (w.heap.size, 0) else E.O o n } m fr (H.new (id :: Q) (0, cs)) := by
  have hu := Upd.push hw
  have ho := hs.inv.fresh_own
  have hfO : ∀ n, E.O (id :: Q) n = none := fun n => by
    cases hx : E.O (id :: Q) n with
    | none => rfl
    | some p => have := hs.fresh.O id hid _ _ _ hx; rw [under_refl] at this; cases this
  have hM : ∀ i, E.M w.heap.size i = none := fun i => by
    cases hx : E.M w.heap.size i with
    | none => rfl
    | some v => have := hs.inv.M_lt hx; omega
  have hle : E.le { E with S := at1 E.S w.heap.size (some c.size), O := fun o n => if o = id :: Q ∧ n = 0 then some (w.heap.size, 0) else E.O o n } :=
    ⟨fun b n h => by
      have := hs.inv.S_lt h
      show at1 E.S _ _ b = some n
      rw [at1_other _ _ (by omega)]; exact h, fun _ _ _ h => h, fun o n p h => (by
      show (if o = id :: Q ∧ n = 0 then _ else _) = some p
      rw [if_neg]
      · exact h
      · rintro ⟨rfl, _⟩; rw [hfO] at h; cases h), fun _ _ h => h⟩
  have T : Turn Q E { E with S := at1 E.S w.heap.size (some c.size), O := fun o n => if o = id :: Q ∧ n = 0 then some (w.heap.size, 0) else E.O o n } own (at1 own w.heap.size (.obj (id :: Q))) H (H.new (id :: Q) (0, cs)) m m fr fr w w.heap.size c :=
    { le := hle
      M := fun b' i v h => .inl ⟨fun e => by have := hs.inv.M_lt h; omega, h⟩
      S := fun b' n h => by
        by_cases e : b' = w.heap.size
        · subst e
          simp only [at1_same, Option.some.injEq] at h
          exact .inr ⟨rfl, h⟩
        · simp only [at1_other _ _ e] at h
          exact .inl ⟨e, h⟩
      O := fun o n b' d h => by
        simp only at h
        split at h
        · rename_i e
          obtain ⟨rfl, rfl⟩ := e
          simp only [Option.some.injEq, Prod.mk.injEq] at h
          exact .inr ⟨h.1.symm, cs, by simp [Heap.new, look_cons], under_trans hs.lim (under_self _ _), .inr (under_self _ _)⟩
        · exact .inl h
      L := rfl
      off := fun b' h => at1_other _ _ h
      ownb := fun h => absurd h (Nat.lt_irrefl _)
      nol := fun l h => by rw [ho] at h; cases h
      nom := fun h => by rw [ho] at h; cases h
      lp := rfl
      lm := rfl
      ob := fun o n cs' h => by
        simp only [Heap.new, look_cons] at h
        split at h
        · rename_i e
          subst e
          simp only [Option.some.injEq, Prod.mk.injEq] at h
          obtain ⟨rfl, rfl⟩ := h
          refine .inr ⟨0, by simp, at1_same _ _ _, by omega, fun i x hx => ?_, hM, fun n' _ => hfO n'⟩
          obtain ⟨v, hv, hV⟩ := hc.get i x hx
          rw [List.getElem?_take] at hv
          split at hv
          · exact ⟨v, by simpa using hv, V.mono hle hV⟩
          · cases hv
        · exact .inl ⟨h, fun h => by rw [ho] at h; cases h⟩
      obs := fun o h => by
        simp only [Heap.new, look_cons]
        rw [if_neg]
        rintro rfl
        rw [under_trans hs.lim (under_self _ _)] at h
        cases h
      view := ⟨fun _ _ h => h, fun _ _ _ _ _ _ h => h⟩
      tm := rfl
      lc := fun t' k cs' h => .inl ⟨h, fun h => by rw [ho] at h; cases h⟩
      fl := fun t' k n h => .inl ⟨h, fun h => (by rw [ho] at h; cases h), rfl⟩
      df := rfl }
  refine ⟨_, T.st hu hs ⟨fun i hi => hs.fresh.X i hi.1, fun i hi => hs.fresh.K i hi.1, fun i hi o n p h => ?_, fun i hi => hs.fresh.L i hi.1⟩, T.grow hu, T.same⟩
  simp only at h
  split at h
  · rename_i e
    obtain ⟨rfl, _⟩ := e
    cases hx : under (i :: Q) (id :: Q) with
    | false => rfl
    | true => exact absurd (under_cons hx) hi.2
  · exact hs.fresh.O i hi.1 _ _ _ h

open Classical in
/-- plain data, new -/
noncomputable def frz (E : Env) (b lo hi : Nat) (c : Array Value) : Env := { E with M := fun b' i => if b' = b ∧ lo ≤ i ∧ i < hi then c[i]? else E.M b' i }

theorem frz_le {b lo hi : Nat} (h : ∀ i v, E.M b i = some v → lo ≤ i → i < hi → c[i]? = some v) : E.le (frz E b lo hi c) :=
  ⟨fun _ _ h => h, fun b' i v hv => by
    show (if _ then _ else _) = _
    split
    · rename_i e; obtain ⟨rfl, h1, h2⟩ := e; exact h i v hv h1 h2
    · exact hv, fun _ _ _ h => h, fun _ _ h => h⟩

theorem newPlain (hs : St cx Q N S E own H m fr a w) (hw : w'.heap = w.heap.push (.cells c ty) ∧ w'.os = w.os ∧ w'.output = w.output) : Next cx Q N S E own H a w w' (frz E w.heap.size 0 c.size c) m fr H := by
  have hu := Upd.push hw
  have ho := hs.inv.fresh_own
  have hle : E.le (frz E w.heap.size 0 c.size c) := frz_le fun i v h _ _ => by have := hs.inv.M_lt h; omega
  have T : Turn Q E (frz E w.heap.size 0 c.size c) own own H H m m fr fr w w.heap.size c :=
    { le := hle
      M := fun b' i v h => by
        simp only [frz] at h
        split at h
        · rename_i e; exact .inr ⟨e.1, h⟩
        · exact .inl ⟨fun e => by have := hs.inv.M_lt h; omega, h⟩
      S := fun b' n h => .inl ⟨fun e => by have := hs.inv.S_lt h; omega, h⟩
      O := fun _ _ _ _ h => .inl h
      L := rfl
      off := fun _ _ => rfl
      ownb := fun h => absurd h (Nat.lt_irrefl _)
      nol := fun l h => by rw [ho] at h; cases h
      nom := fun h => by rw [ho] at h; cases h
      lp := rfl
      lm := rfl
      ob := fun o n cs h => .inl ⟨h, fun h => by rw [ho] at h; cases h⟩
      obs := fun _ _ => rfl
      view := ⟨fun _ _ h => h, fun _ _ _ _ _ _ h => h⟩
      tm := rfl
      lc := fun t' k cs' h => .inl ⟨h, fun h => by rw [ho] at h; cases h⟩
      fl := fun t' k n h => .inl ⟨h, fun h => (by rw [ho] at h; cases h), rfl⟩
      df := rfl }
  exact ⟨_, T.st hu hs ⟨hs.fresh.X, hs.fresh.K, hs.fresh.O, hs.fresh.L⟩, T.grow hu, T.same⟩

/-- a row that is filled: a token of the activation's own, new or moved -/
theorem newTok (hs : St cx Q N S E own H m fr a w) (hw : w'.heap = w.heap.push (.cells c ty) ∧ w'.os = w.os ∧ w'.output = w.output) {t k n cap sz : Nat} (hk : S k ∨ ∃ n0, Tr.get (path t) fr.fl = some (k, n0) ∧ n0 < n) (h0 : 0 < n) (hz : 0 < sz) (hn : n ≤ cap) (hcap : cap * sz ≤ c.size) :
    Next cx Q N (fun i => S i ∧ i ≠ k) E own H a w w' (frz E w.heap.size 0 (n * sz) c) { m with K := fun t' k' => if t' = t ∧ k' = k then some (⟨w.heap.size, 0, none⟩, cap, sz) else m.K t' k' } { fr with fl := Tr.set (path t) (k, n) fr.fl } H := by
  have hu := Upd.push hw
  have ho := hs.inv.fresh_own
  have hnc : n * sz ≤ c.size := Nat.le_trans (Nat.mul_le_mul_right _ hn) hcap
  have hle : E.le (frz E w.heap.size 0 (n * sz) c) := frz_le fun i v h _ _ => by have := hs.inv.M_lt h; omega
  have hv : (viewOf m fr.fl).le (viewOf { m with K := fun t' k' => if t' = t ∧ k' = k then some (⟨w.heap.size, 0, none⟩, cap, sz) else m.K t' k' } (Tr.set (path t) (k, n) fr.fl)) := by
    refine ⟨fun _ _ h => h, fun t' k' len sz' base cap' h => ?_⟩
    obtain ⟨h1, h2⟩ := h
    refine ⟨?_, fun n' hn' => ?_⟩
    · show (if t' = t ∧ k' = k then _ else _ : Option _).isSome = true
      split
      · rfl
      · exact h1
    · rw [Tr.get_set_path] at hn'
      split at hn'
      · rename_i e
        subst e
        simp only [Option.some.injEq, Prod.mk.injEq] at hn'
        obtain ⟨rfl, rfl⟩ := hn'
        rcases hk with hk | ⟨n0, hk, hlt⟩
        · rw [hs.fresh.K _ hk] at h1; cases h1
        · obtain ⟨h3, _⟩ := h2 _ hk
          exact ⟨by omega, fun e => by omega⟩
      · rename_i e
        obtain ⟨h3, h4⟩ := h2 _ hn'
        refine ⟨h3, fun e' => ?_⟩
        obtain ⟨a', ha, hK⟩ := h4 e'
        refine ⟨a', ha, ?_⟩
        show (if t' = t ∧ k' = k then _ else _) = _
        rw [if_neg (fun x => e x.1)]
        exact hK
  have T : Turn Q E (frz E w.heap.size 0 (n * sz) c) own (at1 own w.heap.size (.tok t)) H H m { m with K := fun t' k' => if t' = t ∧ k' = k then some (⟨w.heap.size, 0, none⟩, cap, sz) else m.K t' k' } fr { fr with fl := Tr.set (path t) (k, n) fr.fl } w w.heap.size c :=
    { le := hle
      M := fun b' i v h => by
        simp only [frz] at h
        split at h
        · rename_i e; exact .inr ⟨e.1, h⟩
        · exact .inl ⟨fun e => by have := hs.inv.M_lt h; omega, h⟩
      S := fun b' n h => .inl ⟨fun e => by have := hs.inv.S_lt h; omega, h⟩
      O := fun _ _ _ _ h => .inl h
      L := rfl
      off := fun b' h => at1_other _ _ h
      ownb := fun h => absurd h (Nat.lt_irrefl _)
      nol := fun l h => by rw [ho] at h; cases h
      nom := fun h => by rw [ho] at h; cases h
      lp := rfl
      lm := rfl
      ob := fun o n cs h => .inl ⟨h, fun h => by rw [ho] at h; cases h⟩
      obs := fun _ _ => rfl
      view := hv
      tm := rfl
      lc := fun t' k cs' h => .inl ⟨h, fun h => by rw [ho] at h; cases h⟩
      fl := fun t' k' n' h => by
        simp only [Tr.get_set_path] at h
        split at h
        · rename_i e
          subst e
          simp only [Option.some.injEq, Prod.mk.injEq] at h
          obtain ⟨rfl, rfl⟩ := h
          refine .inr ⟨h0, ⟨w.heap.size, 0, none⟩, cap, sz, by simp, rfl, rfl, at1_same _ _ _, hz, hn, by simpa using hcap, fun i hi => ?_⟩
          simp only [frz]
          rw [if_neg (by simp only [Nat.zero_add] at hi; omega)]
          cases hx : E.M w.heap.size i with
          | none => rfl
          | some v => have := hs.inv.M_lt hx; omega
        · rename_i e
          exact .inl ⟨h, fun h => (by rw [ho] at h; cases h), by simp [e]⟩
      df := rfl }
  refine ⟨_, T.st hu hs ⟨fun i hi => hs.fresh.X i hi.1, fun i hi t' => ?_, fun i hi => hs.fresh.O i hi.1, fun i hi => hs.fresh.L i hi.1⟩, T.grow hu, T.same⟩
  show (if t' = t ∧ i = k then _ else _) = none
  rw [if_neg (fun x => hi.2 x.2)]
  exact hs.fresh.K i hi.1 t'

end
end Go.Proofs.Ev
