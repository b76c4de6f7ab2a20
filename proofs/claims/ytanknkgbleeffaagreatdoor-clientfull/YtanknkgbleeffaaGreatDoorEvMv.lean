/- What an operation reads and turns: at states that are alike in what it reads, it answers alike. -/
import Derived.Test.YtanknkgbleeffaaGreatDoorEvCall
import Derived.Orders
set_option linter.all false
namespace Go.Proofs.Ev
open Go
variable [Sg]

/-- parts of a state: a variable of one's own, a row's fill, memory with the deferred calls -/
inductive Key where
  | lc (t : Nat)
  | fl (t : Nat)
  | hp

def Same (k : Key) (fr : Fr) (H : Heap) (fr2 : Fr) (H2 : Heap) : Prop :=
  match k with
  | .lc t => Tr.get (path t) fr2.lc = Tr.get (path t) fr.lc
  | .fl t => Tr.get (path t) fr2.fl = Tr.get (path t) fr.fl
  | .hp => H2 = H ∧ fr2.df = fr.df ∧ fr2.rc = fr.rc ∧ fr2.rd = fr.rd

def Writes (d : Option Tmp) : Eff → Key → Prop
  | .lstore t, .lc u => u = t
  | .app, .fl _ => True
  | .heap _ _, .fl _ => True
  | .heap _ _, .hp => True
  | .hread, .fl t => d = some t
  | _, _ => False

def Reads (d : Option Tmp) : Eff → Key → Prop
  | .lload t, .lc u => u = t
  | .lstore t, .lc u => u = t
  | .app, .fl _ => True
  | .heap _ _, .fl _ => True
  | .heap _ _, .hp => True
  | .hread, .hp => True
  | .hread, .fl t => d = some t
  | _, _ => False

theorem Same.refl (k : Key) (fr : Fr) (H : Heap) : Same k fr H fr H := by
  cases k <;> simp [Same]

theorem Same.trans {k : Key} {f1 f2 f3 : Fr} {H1 H2 H3 : Heap} (h : Same k f1 H1 f2 H2) (h' : Same k f2 H2 f3 H3) : Same k f1 H1 f3 H3 := by
  cases k <;> simp only [Same] at *
  · exact h'.trans h
  · exact h'.trans h
  · exact ⟨h'.1.trans h.1, h'.2.1.trans h.2.1, h'.2.2.1.trans h.2.2.1, h'.2.2.2.trans h.2.2.2⟩

theorem Same.symm {k : Key} {f1 f2 : Fr} {H1 H2 : Heap} (h : Same k f1 H1 f2 H2) : Same k f2 H2 f1 H1 := by
  cases k <;> simp only [Same] at *
  · exact h.symm
  · exact h.symm
  · exact ⟨h.1.symm, h.2.1.symm, h.2.2.1.symm, h.2.2.2.symm⟩

/-- quiet functions let memory be -/
def QuietOk (c : Cx) (call : Caller) : Prop := ∀ g Q args H r H', c.quiet g = true → call (.fn g) Q args H = .ok (r, H') → H' = H

theorem callA_quiet (c : Cx) : ∀ n, QuietOk c (callA c n)
  | 0 => by intro g Q args H r H' _ h; have h : (R.no 99 : R (Ret × Heap)) = .ok (r, H') := h; cases h
  | n + 1 => by
    intro g Q args H r H' hq h
    have h : fnA c (callA c n) n g Q args H = .ok (r, H') := h
    unfold fnA at h
    split at h
    · simp only [R.ok.injEq, Prod.mk.injEq] at h; exact h.2.symm
    · cases h
    split at h
    · obtain ⟨_, _, _, _, _, _, _, h⟩ := joinF_ok h; exact h
    · exact fnB_quiet hq h

section
variable {c : Cx} {call : Caller} {f : FuncId} {Q : Name} {id : Nat} {d : Option Tmp} {op : Op} {fr fr' fr2 : Fr} {H H' H2 : Heap} {v : AV} {e : Eff}

/-- what an operation lets be -/
def Keeps (d : Option Tmp) (e : Eff) (fr : Fr) (H : Heap) (fr' : Fr) (H' : Heap) : Prop :=
  fr'.tm = fr.tm ∧ fr'.ct = fr.ct ∧ ∀ k, ¬ Writes d e k → Same k fr H fr' H'

theorem Keeps.refl : Keeps d e fr H fr H := ⟨rfl, rfl, fun k _ => .refl k fr H⟩

/-- alike answers at alike states -/
def Moves (d : Option Tmp) (e : Eff) (fr' : Fr) (H' : Heap) (v : AV) (x : R Out) : Prop :=
  ∃ fr2' H2', x = .ok (.val v fr2' H2') ∧ ∀ k, Writes d e k → Same k fr' H' fr2' H2'

/-- what is to be alike -/
def Alike (d : Option Tmp) (e : Eff) (fr : Fr) (H : Heap) (fr2 : Fr) (H2 : Heap) : Prop :=
  (∀ k, Reads d e k → Same k fr H fr2 H2) ∧ ∀ p n, e = .hload p n → loadN fr2 H2 p n = loadN fr H p n

theorem outV_keep {x : R AV} (h : outV fr H x = .ok (.val v fr' H')) : Keeps d e fr H fr' H' := by
  obtain ⟨_, rfl, rfl⟩ := outV_ok h
  exact .refl

theorem outV_move {x y : R AV} (h : outV fr H x = .ok (.val v fr' H')) (he : y = x) (hw : ∀ k, Writes d e k → Same k fr H fr2 H2) : Moves d e fr' H' v (outV fr2 H2 y) := by
  obtain ⟨hx, rfl, rfl⟩ := outV_ok h
  subst he
  rw [hx]
  exact ⟨fr2, H2, rfl, hw⟩

theorem newVar_keep {cs : List AV} (h : newVar c f Q d id cs fr H = .ok (.val v fr' H')) (he0 : ∀ t, d = some t → e = if c.esc f t then .heap H H' else .lstore t) : Keeps d e fr H fr' H' := by
  unfold newVar at h
  split at h
  · cases h
  rename_i t
  have he := he0 t rfl
  clear he0
  split at h
  · rename_i hesc
    rw [if_pos hesc] at he
    split at h
    · simp only [R.ok.injEq, Out.val.injEq] at h
      obtain ⟨_, rfl, rfl⟩ := h
      subst he
      refine ⟨rfl, rfl, fun k hk => ?_⟩
      cases k <;> first | rfl | exact absurd trivial hk
    · cases h
  · rename_i hesc
    rw [if_neg hesc] at he
    simp only [R.ok.injEq, Out.val.injEq] at h
    obtain ⟨_, rfl, rfl⟩ := h
    subst he
    refine ⟨rfl, rfl, fun k hk => ?_⟩
    cases k with
    | lc u => simp only [Same, Tr.get_set_path]; exact if_neg (fun e => hk e)
    | fl u => rfl
    | hp => exact ⟨rfl, rfl, rfl, rfl⟩

theorem newVar_move {cs : List AV} (h : newVar c f Q d id cs fr H = .ok (.val v fr' H')) (he0 : ∀ t, d = some t → e = if c.esc f t then .heap H H' else .lstore t) (ha : Alike d e fr H fr2 H2) :
    Moves d e fr' H' v (newVar c f Q d id cs fr2 H2) := by
  unfold newVar at h
  split at h
  · cases h
  rename_i t
  have he := he0 t rfl
  clear he0
  split at h
  · rename_i hesc
    rw [if_pos hesc] at he
    split at h
    · rename_i cs' hcl
      simp only [R.ok.injEq, Out.val.injEq] at h
      obtain ⟨rfl, rfl, rfl⟩ := h
      subst he
      have h1 := ha.1 .hp trivial
      have h2 := fun t => ha.1 (.fl t) trivial
      obtain ⟨rfl, h1⟩ := h1
      refine ⟨_, _, by simp only [newVar, hesc, hcl, if_true]; rfl, fun k hk => ?_⟩
      cases k with
      | lc u => cases hk
      | fl u => exact h2 u
      | hp => exact ⟨rfl, h1⟩
    · cases h
  · rename_i hesc
    rw [if_neg hesc] at he
    simp only [R.ok.injEq, Out.val.injEq] at h
    obtain ⟨rfl, rfl, rfl⟩ := h
    subst he
    refine ⟨_, _, by simp only [newVar, hesc]; rfl, fun k hk => ?_⟩
    cases k with
    | lc u => cases hk; simp only [Same, Tr.get_set_path, if_true]
    | fl u => cases hk
    | hp => cases hk

/-! loads, stores -/
theorem loadOp_move {t : TypeId} {p : AV} (ha : Alike d (memEff c false t p H H) fr H fr2 H2) : loadOp c fr2 H2 t p = loadOp c fr H t p := by
  unfold loadOp
  cases hty : c.ty t with
  | no e => rfl
  | ok ty =>
    have : loadN fr2 H2 p ty.size = loadN fr H p ty.size := by
      cases p with
      | lptr t' k off =>
        have h1 := ha.1 (.lc t') rfl
        simp only [Same] at h1
        simp only [loadN, h1]
      | ptr o ver off =>
        refine ha.2 _ _ ?_
        simp only [memEff, hty]
        rfl
      | iptr cs off => rfl
      | _ => rfl
    simp only [this]

theorem storeOp_keep {t : TypeId} {p x : AV} (h : storeOp c fr H t p x = .ok (.val v fr' H')) : Keeps d (memEff c true t p H H') fr H fr' H' := by
  unfold storeOp at h
  split at h
  · cases h
  rename_i ty hty
  split at h
  rotate_left
  · cases h
  split at h
  rotate_left
  · cases h
  unfold storeN at h
  split at h
  · rename_i t' k off
    repeat' split at h
    all_goals first
      | (cases h; done)
      | (simp only [R.ok.injEq, Out.val.injEq] at h
         obtain ⟨_, rfl, rfl⟩ := h
         refine ⟨rfl, rfl, fun k hk => ?_⟩
         cases k with
         | lc u => simp only [Same, Tr.get_set_path]; exact if_neg (fun e => hk e)
         | fl u => rfl
         | hp => exact ⟨rfl, rfl, rfl, rfl⟩)
  · rename_i o ver off
    have he : ∀ H', memEff c true t (.ptr o ver off) H H' = .heap H H' := fun H' => by simp only [memEff, hty]; rfl
    rw [he]
    repeat' split at h
    all_goals first
      | (cases h; done)
      | (simp only [R.ok.injEq, Out.val.injEq] at h
         obtain ⟨_, rfl, rfl⟩ := h
         refine ⟨rfl, rfl, fun k hk => ?_⟩
         cases k <;> first | rfl | exact absurd trivial hk)
  · cases h

theorem storeOp_move {t : TypeId} {p x : AV} (h : storeOp c fr H t p x = .ok (.val v fr' H')) (ha : Alike d (memEff c true t p H H') fr H fr2 H2) : Moves d (memEff c true t p H H') fr' H' v (storeOp c fr2 H2 t p x) := by
  unfold storeOp at h
  split at h
  · cases h
  rename_i ty hty
  split at h
  rotate_left
  · cases h
  rename_i cs hcs
  split at h
  rotate_left
  · cases h
  rename_i hsz
  have hun : storeOp c fr2 H2 t p x = storeN fr2 H2 p cs := by simp only [storeOp, hty, hcs, hsz, if_true]
  rw [hun]
  unfold storeN at h
  split at h
  · rename_i t' k off
    have h1 := ha.1 (.lc t') rfl
    simp only [Same] at h1
    split at h
    rotate_left
    · cases h
    rename_i k' cs' hg
    split at h
    rotate_left
    · cases h
    rename_i hk
    split at h
    rotate_left
    · cases h
    rename_i cs2 hput
    simp only [R.ok.injEq, Out.val.injEq] at h
    obtain ⟨rfl, rfl, rfl⟩ := h
    subst hk
    refine ⟨_, _, by simp only [storeN, h1, hg, hput, if_true]; rfl, fun k hk => ?_⟩
    cases k with
    | lc u => cases hk; simp only [Same, Tr.get_set_path, if_true]
    | fl u => cases hk
    | hp => cases hk
  · rename_i o ver off
    have he : memEff c true t (.ptr o ver off) H H' = .heap H H' := by simp only [memEff, hty]; rfl
    rw [he] at ha ⊢
    have h1 := ha.1 .hp trivial
    have h2 := fun t => ha.1 (.fl t) trivial
    obtain ⟨rfl, h1⟩ := h1
    split at h
    · cases h
    rename_i v' cs' hg
    split at h
    rotate_left
    · cases h
    rename_i hc
    split at h
    · cases h
    rename_i x' hcl
    split at h
    rotate_left
    · cases h
    rename_i cs2 hput
    simp only [R.ok.injEq, Out.val.injEq] at h
    obtain ⟨rfl, rfl, rfl⟩ := h
    refine ⟨_, _, by simp only [storeN, hg, if_pos hc, hcl, hput]; rfl, fun k hk => ?_⟩
    cases k with
    | lc u => cases hk
    | fl u => exact h2 u
    | hp => exact ⟨rfl, h1⟩
  · cases h

/-! rows -/
theorem elems_noMl {x : AV} (hx : isMl x = false) (n : Nat) : elems H2 n x = elems H n x := by
  cases x <;> simp_all [elems, isMl]

theorem conv_noMl {s t : TypeId} {x : AV} (hx : isMl x = false) : conv c H2 s t x = conv c H s t x := by
  have h1 : ∀ e, convStr c H2 e x = convStr c H e x := fun e => by
    unfold convStr
    simp only [elems_noMl (H := H) (H2 := H2) hx]
  unfold conv
  cases c.ty s with
  | no e => rfl
  | ok sy =>
    cases c.ty t with
    | no e => rfl
    | ok ty =>
      obtain ⟨_, _, ssh, _⟩ := sy
      obtain ⟨_, _, tsh, _⟩ := ty
      cases ssh <;> cases tsh <;> first | rfl | (cases x <;> first | rfl | simp only [h1])

theorem growOp_keep {t sz : Nat} {tk : Tok} {xs ys : List (List AV)} (h : growOp c f Q id t sz tk xs ys fr H = .ok (.val v fr' H')) (he : e = .heap H H' ∨ (e = .app ∧ c.grows f t = false)) : Keeps d e fr H fr' H' := by
  unfold growOp at h
  repeat' split at h
  all_goals first
    | (cases h; done)
    | (simp only [R.ok.injEq, Out.val.injEq] at h
       obtain ⟨_, rfl, rfl⟩ := h
       refine ⟨rfl, rfl, fun k hk => ?_⟩
       rcases he with rfl | ⟨rfl, he⟩ <;> cases k <;> simp_all [Same, Writes])

theorem growOp_move {t sz : Nat} {tk : Tok} {xs ys : List (List AV)} (h : growOp c f Q id t sz tk xs ys fr H = .ok (.val v fr' H')) (he : e = .heap H H' ∨ (e = .app ∧ c.grows f t = false)) (ha : Alike d e fr H fr2 H2) :
    Moves d e fr' H' v (growOp c f Q id t sz tk xs ys fr2 H2) := by
  have h2 : ∀ t, Tr.get (path t) fr2.fl = Tr.get (path t) fr.fl := fun t => by
    have := ha.1 (.fl t) (by rcases he with rfl | ⟨rfl, _⟩ <;> trivial)
    exact this
  have hH : c.grows f t = true → H2 = H ∧ fr2.df = fr.df ∧ fr2.rc = fr.rc ∧ fr2.rd = fr.rd := fun hg => by
    rcases he with rfl | ⟨rfl, he⟩
    · exact ha.1 .hp trivial
    · rw [hg] at he; cases he
  have hh : (∃ b a, e = .heap b a) → H2 = H ∧ fr2.df = fr.df ∧ fr2.rc = fr.rc ∧ fr2.rd = fr.rd := fun ⟨b, a, e'⟩ => by
    subst e'; exact ha.1 .hp trivial
  have hnl : ∀ u, ¬ Writes d e (.lc u) := fun u hk => by rcases he with rfl | ⟨rfl, _⟩ <;> cases hk
  have hwp : Writes d e .hp → ∃ b a, e = .heap b a := fun hk => by
    rcases he with rfl | ⟨rfl, _⟩
    · exact ⟨_, _, rfl⟩
    · cases hk
  unfold growOp at h
  split at h
  · rename_i hg
    obtain ⟨rfl, hd⟩ := hH hg
    split at h
    · simp only [R.ok.injEq, Out.val.injEq] at h
      obtain ⟨rfl, rfl, rfl⟩ := h
      refine ⟨_, _, by simp only [growOp, if_pos hg]; rfl, fun k hk => ?_⟩
      cases k with
      | lc u => exact absurd hk (hnl u)
      | fl u => exact h2 u
      | hp => exact ⟨rfl, hd⟩
    · cases h
  · rename_i hg
    split at h
    · simp only [R.ok.injEq, Out.val.injEq] at h
      obtain ⟨rfl, rfl, rfl⟩ := h
      refine ⟨_, _, by simp only [growOp, if_neg hg]; rfl, fun k hk => ?_⟩
      cases k with
      | lc u => exact absurd hk (hnl u)
      | fl t => simp only [Same, Tr.get_set_path, h2]
      | hp => exact hh (hwp hk)
    · rename_i a k
      split at h
      rotate_left
      · cases h
      rename_i k' n hgt
      split at h
      rotate_left
      · cases h
      rename_i hc
      simp only [R.ok.injEq, Out.val.injEq] at h
      obtain ⟨rfl, rfl, rfl⟩ := h
      refine ⟨_, _, by simp only [growOp, if_neg hg, h2, hgt, if_pos hc]; rfl, fun k hk => ?_⟩
      cases k with
      | lc u => exact absurd hk (hnl u)
      | fl t => simp only [Same, Tr.get_set_path, h2]
      | hp => exact hh (hwp hk)
    · cases h

theorem copyOp_fr {t : TypeId} {s x : AV} (h : copyOp c t s x fr H = .ok (.val v fr' H')) : fr' = fr ∧ copyOp c t s x fr2 H = .ok (.val v fr2 H') := by
  unfold copyOp at h
  repeat' split at h
  all_goals first
    | (cases h; done)
    | (simp only [R.ok.injEq, Out.val.injEq] at h
       obtain ⟨rfl, rfl, rfl⟩ := h
       refine ⟨rfl, ?_⟩
       simp only [copyOp, *]
       first | done | rfl | simp_all)

theorem clearOp_fr {t : TypeId} {x : AV} (h : clearOp c t x fr H = .ok (.val v fr' H')) : fr' = fr ∧ clearOp c t x fr2 H = .ok (.val v fr2 H') := by
  unfold clearOp at h
  repeat' split at h
  all_goals first
    | (cases h; done)
    | (simp only [R.ok.injEq, Out.val.injEq] at h
       obtain ⟨rfl, rfl, rfl⟩ := h
       refine ⟨rfl, ?_⟩
       simp only [clearOp, *]
       first | done | rfl | simp_all)

theorem heap_same (ha : Alike d (.heap H H') fr H fr2 H2) : H2 = H ∧ ∀ H1 k, Writes d (.heap H H') k → Same k fr H1 fr2 H1 := by
  have h1 := ha.1 .hp trivial
  refine ⟨h1.1, fun H1 k hk => ?_⟩
  cases k with
  | lc t => cases hk
  | fl t => exact ha.1 (.fl t) trivial
  | hp => exact ⟨rfl, h1.2⟩

theorem keeps_heap {Ha Hb : Heap} : Keeps d (.heap Ha Hb) fr H fr H' := ⟨rfl, rfl, fun k hk => by cases k <;> first | rfl | exact absurd trivial hk⟩

theorem appendOp_keep {st : TypeId} {s x : AV} (h : appendOp c f Q id d st s x fr H = .ok (.val v fr' H')) (he : e = if isMl s || (isMl x || false) || growsAt c f d then .heap H H' else .app) : Keeps d e fr H fr' H' := by
  unfold appendOp at h
  split at h
  · cases h
  split at h
  rotate_left
  · cases h
  split at h
  · cases h
  split at h
  · cases h
  · split at h
    · simp only [R.ok.injEq, Out.val.injEq] at h
      obtain ⟨_, rfl, rfl⟩ := h
      exact .refl
    · cases h
  split at h
  rotate_left
  · cases h
  split at h
  · split at h
    rotate_left
    · cases h
    split at h
    · cases h
    rename_i t
    refine growOp_keep h ?_
    split at he
    · exact .inl he
    · rename_i hc
      refine .inr ⟨he, ?_⟩
      simp only [growsAt, Bool.or_eq_true, not_or, Bool.not_eq_true] at hc
      exact hc.2
  · simp only [isMl, Bool.true_or, if_true] at he
    subst he
    repeat' split at h
    all_goals first
      | (cases h; done)
      | (simp only [R.ok.injEq, Out.val.injEq] at h
         obtain ⟨_, rfl, rfl⟩ := h
         exact keeps_heap)
  · cases h

theorem appendOp_move {st : TypeId} {s x : AV} (h : appendOp c f Q id d st s x fr H = .ok (.val v fr' H')) (he : e = if isMl s || (isMl x || false) || growsAt c f d then .heap H H' else .app) (ha : Alike d e fr H fr2 H2) :
    Moves d e fr' H' v (appendOp c f Q id d st s x fr2 H2) := by
  have hel : ∀ n, elems H2 n x = elems H n x := fun n => by
    split at he
    · subst he; rw [(heap_same ha).1]
    · rename_i hc
      simp only [Bool.or_eq_true, not_or, Bool.not_eq_true] at hc
      exact elems_noMl hc.1.2.1 n
  have hself : ∀ k, Writes d e k → Same k fr H fr2 H2 := fun k hk => by
    refine ha.1 k ?_
    split at he <;> subst he <;> cases k <;> first | exact hk | trivial
  unfold appendOp at h
  split at h
  · cases h
  rename_i ty hty
  split at h
  rotate_left
  · cases h
  rename_i et hshp
  split at h
  · cases h
  rename_i ety hety
  split at h
  · cases h
  · rename_i hx
    split at h
    · rename_i hr
      simp only [R.ok.injEq, Out.val.injEq] at h
      obtain ⟨rfl, rfl, rfl⟩ := h
      exact ⟨_, _, by simp only [appendOp, hty, hshp, hety, hel, hx, if_pos hr], hself⟩
    · cases h
  rename_i y ys hx
  split at h
  rotate_left
  · cases h
  rename_i hone
  split at h
  · rename_i tk xs
    split at h
    rotate_left
    · cases h
    rename_i hc
    split at h
    · cases h
    rename_i t
    have hun : appendOp c f Q id (some t) st (.sl tk xs) x fr2 H2 = growOp c f Q id t ety.size (exTok tk) xs (y :: ys) fr2 H2 := by
      simp only [appendOp, hty, hshp, hety, hel, hx, if_pos hone, if_pos hc]
    rw [hun]
    refine growOp_move h ?_ ha
    split at he
    · exact .inl he
    · rename_i hc
      refine .inr ⟨he, ?_⟩
      simp only [growsAt, Bool.or_eq_true, not_or, Bool.not_eq_true] at hc
      exact hc.2
  · rename_i o ver off len sz
    simp only [isMl, Bool.true_or, if_true] at he
    subst he
    obtain ⟨rfl, h1⟩ := heap_same ha
    split at h
    · cases h
    rename_i v' cs hg
    split at h
    rotate_left
    · cases h
    rename_i hc
    split at h
    rotate_left
    · cases h
    rename_i old htk
    simp only [R.ok.injEq, Out.val.injEq] at h
    obtain ⟨rfl, rfl, rfl⟩ := h
    exact ⟨_, _, by simp only [appendOp, hty, hshp, hety, hel, hx, if_pos hone, hg, if_pos hc, htk], fun k hk => h1 _ k hk⟩
  · cases h

/-! calls -/
theorem handed_keep {x : AV} {H1 : Heap} (h : handed d id x fr H1 = .ok (.val v fr' H')) : H' = H1 ∧ fr'.tm = fr.tm ∧ fr'.ct = fr.ct ∧ fr'.lc = fr.lc ∧ fr'.df = fr.df ∧ fr'.rc = fr.rc ∧ fr'.rd = fr.rd ∧ ∀ t, d ≠ some t → Tr.get (path t) fr'.fl = Tr.get (path t) fr.fl := by
  unfold handed at h
  repeat' split at h
  all_goals
    simp only [R.ok.injEq, Out.val.injEq] at h
    obtain ⟨_, rfl, rfl⟩ := h
    refine ⟨rfl, rfl, rfl, rfl, rfl, rfl, rfl, fun t ht => ?_⟩
    first
      | rfl
      | (simp only [Tr.get_set_path]
         split
         · rename_i e; subst e; exact absurd rfl ht
         · rfl)

theorem handed_move {x : AV} {H1 : Heap} (h : handed d id x fr H1 = .ok (.val v fr' H')) : ∃ fr2', handed d id x fr2 H1 = .ok (.val v fr2' H1) ∧ ∀ t, (Tr.get (path t) fr2.fl = Tr.get (path t) fr.fl) → Tr.get (path t) fr2'.fl = Tr.get (path t) fr'.fl := by
  unfold handed at h
  repeat' split at h
  all_goals
    simp only [R.ok.injEq, Out.val.injEq] at h
    obtain ⟨rfl, rfl, rfl⟩ := h
    refine ⟨_, by first | rfl | (simp only [handed]; rfl), fun t ht => ?_⟩
    first
      | exact ht
      | (simp only [Tr.get_set_path, ht])

def callEffV (c : Cx) (g : AV) (H H' : Heap) : Eff :=
  match g with
  | .fn g _ => if c.quiet g then .hread else .heap H H'
  | _ => .heap H H'

theorem callEffV_or (c : Cx) (g : AV) (H H' : Heap) : callEffV c g H H' = .heap H H' ∨ (callEffV c g H H' = .hread ∧ ∃ g' cap, g = .fn g' cap ∧ c.quiet g' = true) := by
  unfold callEffV
  split
  · rename_i g' cap
    split
    · rename_i h; exact .inr ⟨rfl, g', cap, rfl, h⟩
    · exact .inl rfl
  · exact .inl rfl

theorem doCall_keep (hq : QuietOk c call) {g : AV} {args : List AV} (h : doCall call Q id d g args fr H = .ok (.val v fr' H')) : Keeps d (callEffV c g H H') fr H fr' H' := by
  unfold doCall at h
  split at h
  · cases h
  split at h
  · cases h
  rename_i who cap hwho
  split at h
  · cases h
  rotate_left
  · cases h
  rename_i x H1 hcall
  obtain ⟨rfl, h1, h2, h3, h4, h5, h6, h7⟩ := handed_keep h
  refine ⟨h1, h2, fun k hk => ?_⟩
  rcases callEffV_or c g H H' with he | ⟨he, g', cap', rfl, hqq⟩
  · rw [he] at hk
    cases k with
    | lc t => simp only [Same, h3]
    | fl t => exact absurd trivial hk
    | hp => exact absurd trivial hk
  · rw [he] at hk
    simp only [whoOf, R.ok.injEq, Prod.mk.injEq] at hwho
    obtain ⟨rfl, rfl⟩ := hwho
    have := hq _ _ _ _ _ _ hqq hcall
    cases k with
    | lc t => simp only [Same, h3]
    | fl t => exact h7 t hk
    | hp => exact ⟨this, h4, h5, h6⟩

theorem doCall_move (hq : QuietOk c call) {g : AV} {args : List AV} (h : doCall call Q id d g args fr H = .ok (.val v fr' H')) (ha : Alike d (callEffV c g H H') fr H fr2 H2) : Moves d (callEffV c g H H') fr' H' v (doCall call Q id d g args fr2 H2) := by
  have hH : H2 = H := by
    have := ha.1 .hp (by rcases callEffV_or c g H H' with he | ⟨he, _⟩ <;> rw [he] <;> trivial)
    exact this.1
  subst hH
  unfold doCall at h
  split at h
  · cases h
  rename_i args' hcl
  split at h
  · cases h
  rename_i who cap hwho
  split at h
  · cases h
  rotate_left
  · cases h
  rename_i x H1 hcall
  obtain ⟨rfl, h1, h2, h3, h4, h5, h6, h7⟩ := handed_keep h
  obtain ⟨fr2', hm, hfl⟩ := handed_move (fr2 := fr2) h
  obtain ⟨_, g1, g2, g3, g4, g5, g6, g7⟩ := handed_keep hm
  refine ⟨fr2', H', by simp only [doCall, hcl, hwho, hcall, hm], fun k hk => ?_⟩
  rcases callEffV_or c g H2 H' with he | ⟨he, _⟩
  · rw [he] at hk ha
    cases k with
    | lc t => cases hk
    | fl t => exact hfl t (ha.1 (.fl t) trivial)
    | hp =>
      have := ha.1 .hp trivial
      exact ⟨rfl, by rw [g4, h4]; exact this.2.1, by rw [g5, h5]; exact this.2.2.1, by rw [g6, h6]; exact this.2.2.2⟩
  · rw [he] at hk ha
    cases k with
    | lc t => cases hk
    | fl t => exact hfl t (ha.1 (.fl t) hk)
    | hp => cases hk

theorem deferOp_fr {k : Callee} {args : List Operand} (h : deferOp c k args fr H = .ok (.val v fr' H')) : H' = H ∧ ∃ g l, fr' = { fr with df := (g, l) :: fr.df } ∧
    ((∀ x, (match k with | .value g => x = g | _ => False) ∨ x ∈ args → fr2.ev c x = fr.ev c x) → fr2.rd = fr.rd → evAll c fr2 args = evAll c fr args → ∀ H2, deferOp c k args fr2 H2 = .ok (.val v { fr2 with df := (g, l) :: fr2.df } H2)) := by
  unfold deferOp at h
  split at h
  rotate_left
  · cases h
  rename_i g
  split at h
  rotate_left
  · cases h
  rename_i g' l hg hl
  split at h
  · cases h
  rename_i hrd
  simp only [R.ok.injEq, Out.val.injEq] at h
  obtain ⟨rfl, rfl, rfl⟩ := h
  refine ⟨rfl, g', l, rfl, fun hx hrd' hall H2 => ?_⟩
  unfold deferOp
  simp only
  rw [hx g (.inl rfl), hall, hg, hl]
  simp only
  rw [hrd', if_neg hrd]


/-! one operation -/
theorem any_append (s x : AV) : ([s, x].any isMl || growsAt c f d) = (isMl s || (isMl x || false) || growsAt c f d) := by simp [List.any]

theorem builtin_keep {b : Builtin} {args : List AV} {ats : List TypeId} (h : builtinOp c f Q id d b ats args fr H = .ok (.val v fr' H')) : Keeps d (callEff c f d (.builtin b) args fr H H') fr H fr' H' := by
  unfold builtinOp at h
  split at h
  · exact outV_keep h
  · split at h
    rotate_left
    · cases h
    split at h
    rotate_left
    · cases h
    exact appendOp_keep h rfl
  · exact (copyOp_fr (fr2 := fr) h).1 ▸ keeps_heap
  · exact (clearOp_fr (fr2 := fr) h).1 ▸ keeps_heap
  · exact outV_keep h
  · exact outV_keep h
  · split at h
    · cases h
    · split at h
      all_goals
        simp only [R.ok.injEq, Out.val.injEq] at h
        obtain ⟨_, rfl, rfl⟩ := h
        refine ⟨rfl, rfl, fun k hk => ?_⟩
        cases k with
        | lc t => rfl
        | fl t => exact absurd trivial hk
        | hp => exact absurd trivial hk
  · cases h

theorem builtin_move {b : Builtin} {args : List AV} {ats : List TypeId} (h : builtinOp c f Q id d b ats args fr H = .ok (.val v fr' H')) (ha : Alike d (callEff c f d (.builtin b) args fr H H') fr H fr2 H2) :
    Moves d (callEff c f d (.builtin b) args fr H H') fr' H' v (builtinOp c f Q id d b ats args fr2 H2) := by
  unfold builtinOp at h
  split at h
  · exact outV_move h rfl fun k hk => by cases k <;> cases hk
  · split at h
    rotate_left
    · cases h
    rename_i hu
    split at h
    rotate_left
    · cases h
    rename_i hl
    simp only [builtinOp, hu, if_pos hl]
    exact appendOp_move h rfl ha
  · obtain ⟨rfl, h1⟩ := heap_same ha
    obtain ⟨rfl, h2⟩ := copyOp_fr (fr2 := fr2) h
    exact ⟨_, _, h2, fun k hk => h1 _ k hk⟩
  · obtain ⟨rfl, h1⟩ := heap_same ha
    obtain ⟨rfl, h2⟩ := clearOp_fr (fr2 := fr2) h
    exact ⟨_, _, h2, fun k hk => h1 _ k hk⟩
  · exact outV_move h rfl fun k hk => by cases k <;> cases hk
  · exact outV_move h rfl fun k hk => by cases k <;> cases hk
  · obtain ⟨rfl, h1⟩ := heap_same ha
    have h2 := ha.1 .hp trivial
    simp only [Same] at h2
    obtain ⟨_, hdf, hrc, hrd⟩ := h2
    split at h
    · cases h
    · rename_i hr
      split at h
      · rename_i x hx
        simp only [R.ok.injEq, Out.val.injEq] at h
        obtain ⟨rfl, rfl, rfl⟩ := h
        refine ⟨_, _, by simp only [builtinOp, hrd, hr, hrc, hx]; rfl, fun k hk => ?_⟩
        cases k with
        | lc t => cases hk
        | fl t => exact h1 H2 (.fl t) trivial
        | hp => exact ⟨rfl, hdf, rfl, rfl⟩
      · rename_i hx
        simp only [R.ok.injEq, Out.val.injEq] at h
        obtain ⟨rfl, rfl, rfl⟩ := h
        exact ⟨_, _, by simp only [builtinOp, hrd, hr, hrc, hx], fun k hk => h1 H2 k hk⟩
  · cases h

theorem makeOp_keep {t : TypeId} {l k : AV} (h : makeOp c f Q id d t l k fr H = .ok (.val v fr' H')) : Keeps d (if growsAt c f d then .heap H H' else .non) fr H fr' H' := by
  unfold makeOp at h
  split at h
  rotate_left
  · cases h
  split at h
  rotate_left
  · cases h
  split at h
  · rename_i hg
    rw [if_pos (show growsAt c f (some _) = true from hg)]
    simp only [R.ok.injEq, Out.val.injEq] at h
    obtain ⟨_, rfl, rfl⟩ := h
    exact keeps_heap
  · split at h
    · simp only [R.ok.injEq, Out.val.injEq] at h
      obtain ⟨_, rfl, rfl⟩ := h
      exact .refl
    · cases h

theorem makeOp_move {t : TypeId} {l k : AV} (h : makeOp c f Q id d t l k fr H = .ok (.val v fr' H')) (ha : Alike d (if growsAt c f d then .heap H H' else .non) fr H fr2 H2) : Moves d (if growsAt c f d then .heap H H' else .non) fr' H' v (makeOp c f Q id d t l k fr2 H2) := by
  unfold makeOp at h
  split at h
  rotate_left
  · cases h
  rename_i hety hn hm
  split at h
  rotate_left
  · cases h
  rename_i hc
  split at h
  · rename_i hg
    rw [if_pos (show growsAt c f (some _) = true from hg)] at ha ⊢
    obtain ⟨rfl, h1⟩ := heap_same ha
    simp only [R.ok.injEq, Out.val.injEq] at h
    obtain ⟨rfl, rfl, rfl⟩ := h
    exact ⟨_, _, by simp only [makeOp, hety, hn, hm, if_pos hc, if_pos hg], fun k hk => h1 _ k hk⟩
  · rename_i hg
    rw [if_neg (show ¬ growsAt c f (some _) = true from hg)]
    split at h
    · rename_i he
      simp only [R.ok.injEq, Out.val.injEq] at h
      obtain ⟨rfl, rfl, rfl⟩ := h
      exact ⟨_, _, by simp only [makeOp, hety, hn, hm, if_pos hc, if_neg hg, if_pos he]; rfl, fun k hk => by cases k <;> cases hk⟩
    · cases h

theorem evParts_congr {l : List (Nat × Operand)} (h : ∀ p ∈ l, fr2.ev c p.2 = fr.ev c p.2) : evParts c fr2 l = evParts c fr l := by
  induction l with
  | nil => rfl
  | cons p r ih =>
    obtain ⟨i, x⟩ := p
    simp only [evParts]
    rw [h (i, x) (by simp), ih fun q hq => h q (by simp [hq])]

theorem evAll_congr {l : List Operand} (h : ∀ x ∈ l, fr2.ev c x = fr.ev c x) : evAll c fr2 l = evAll c fr l := by
  induction l with
  | nil => rfl
  | cons x r ih =>
    simp only [evAll]
    rw [h x (by simp), ih fun y hy => h y (by simp [hy])]

theorem evOpt_congr {x : Option Operand} (h : ∀ y, x = some y → fr2.ev c y = fr.ev c y) : evOpt c fr2 x = evOpt c fr x := by
  cases x with
  | none => rfl
  | some y => simp only [evOpt, h y rfl]

theorem buildSliceXs_congr {t : TypeId} {len : Nat} {parts : List (Nat × Operand)} (h : ∀ p ∈ parts, fr2.ev c p.2 = fr.ev c p.2) : buildSliceXs c fr2 t len parts = buildSliceXs c fr t len parts := by
  unfold buildSliceXs
  rw [evParts_congr h]

theorem buildSliceOp_keep {t : TypeId} {len : Nat} {parts : List (Nat × Operand)} (h : buildSliceOp c f Q id d fr H t len parts = .ok (.val v fr' H')) : Keeps d (if growsAt c f d then .heap H H' else .non) fr H fr' H' := by
  unfold buildSliceOp at h
  split at h
  · split at h
    · rename_i hg
      rw [if_pos hg]
      split at h
      · cases h
      · simp only [R.ok.injEq, Out.val.injEq] at h
        obtain ⟨_, rfl, rfl⟩ := h
        exact keeps_heap
    · simp only [R.ok.injEq, Out.val.injEq] at h
      obtain ⟨_, rfl, rfl⟩ := h
      exact .refl
  · cases h
  · cases h

theorem buildSliceOp_move {t : TypeId} {len : Nat} {parts : List (Nat × Operand)} (h : buildSliceOp c f Q id d fr H t len parts = .ok (.val v fr' H')) (hx : ∀ p ∈ parts, fr2.ev c p.2 = fr.ev c p.2) (ha : Alike d (if growsAt c f d then .heap H H' else .non) fr H fr2 H2) :
    Moves d (if growsAt c f d then .heap H H' else .non) fr' H' v (buildSliceOp c f Q id d fr2 H2 t len parts) := by
  unfold buildSliceOp at h
  split at h
  · rename_i h1 h2
    split at h
    · rename_i hg
      rw [if_pos hg] at ha ⊢
      obtain ⟨rfl, hs⟩ := heap_same ha
      split at h
      · cases h
      · rename_i hz
        simp only [R.ok.injEq, Out.val.injEq] at h
        obtain ⟨rfl, rfl, rfl⟩ := h
        exact ⟨_, _, by simp only [buildSliceOp, buildSliceXs_congr hx, h1, h2, if_pos hg, if_neg hz], fun k hk => hs _ k hk⟩
    · rename_i hg
      rw [if_neg hg]
      simp only [R.ok.injEq, Out.val.injEq] at h
      obtain ⟨rfl, rfl, rfl⟩ := h
      exact ⟨_, _, by simp only [buildSliceOp, buildSliceXs_congr hx, h1, h2, if_neg hg]; rfl, fun k hk => by cases k <;> cases hk⟩
  · cases h
  · cases h

theorem newVar_eff (H' : Heap) : ∀ t, d = some t → (match d with
    | some d => if c.esc f d then Eff.heap H H' else .lstore d
    | none => .non) = if c.esc f t then .heap H H' else .lstore t := by
  rintro t rfl
  rfl

theorem opA_keep (hq : QuietOk c call) (h : opA c call f Q id d op fr H = .ok (.val v fr' H')) : Keeps d (effOf c f d op fr H H') fr H fr' H' := by
  cases op with
  | move x => simp only [opA, R.ok.injEq, Out.val.injEq] at h; obtain ⟨_, rfl, rfl⟩ := h; exact .refl
  | assign x => simp only [opA, R.ok.injEq, Out.val.injEq] at h; obtain ⟨_, rfl, rfl⟩ := h; exact .refl
  | alloc t =>
    simp only [opA, allocOp] at h
    split at h
    · exact newVar_keep h (newVar_eff H')
    · cases h
  | box t x =>
    simp only [opA, boxOp] at h
    split at h
    · exact newVar_keep h (newVar_eff H')
    · cases h
  | buildSlice t n ps => exact buildSliceOp_keep h
  | store t p x => exact storeOp_keep h
  | makeFunc g first cap => cases g with
    | func g => exact outV_keep h
    | _ => simp [opA] at h
  | makeSlice t l k => exact makeOp_keep h
  | panic x =>
    simp only [opA, panicOp] at h
    split at h
    · simp only [R.ok.injEq] at h; cases h
    · cases h
  | call cl =>
    obtain ⟨k, args, ats⟩ := cl
    cases k with
    | builtin b => exact builtin_keep h
    | value g => exact doCall_keep hq h
    | invoke r m => simp [opA, callOp] at h
  | defer cl =>
    obtain ⟨k, args, ats⟩ := cl
    obtain ⟨rfl, g, l, rfl, _⟩ := deferOp_fr (fr2 := fr) h
    exact ⟨rfl, rfl, fun k hk => by cases k <;> first | rfl | exact absurd trivial hk⟩
  | _ => first
    | exact outV_keep h
    | (simp [opA] at h; done)

theorem effOf_congr {op : Op} (ho : ∀ x ∈ op.operands.toList, fr2.ev c x = fr.ev c x) (Ha Hb : Heap) : effOf c f d op fr2 Ha Hb = effOf c f d op fr Ha Hb := by
  unfold effOf
  split
  · rw [ho _ (by simp [Op.operands])]
  · rename_i t a x
    rw [ho a (by simp [Op.operands])]
  · rename_i k args ats
    have hall : evAll c fr2 args.toList = evAll c fr args.toList := evAll_congr fun x hx => ho x (by simp [Op.operands, Call.operands]; exact .inr (by simpa using hx))
    rw [hall]
    unfold callEff
    cases k with
    | value g => simp only [ho g (by simp [Op.operands, Call.operands])]
    | builtin b => cases b <;> rfl
    | invoke r m => rfl
  · rw [ho _ (by simp [Op.operands])]
  all_goals rfl

theorem opA_move (hq : QuietOk c call) (h : opA c call f Q id d op fr H = .ok (.val v fr' H')) (ho : ∀ x ∈ op.operands.toList, fr2.ev c x = fr.ev c x) (ha : Alike d (effOf c f d op fr H H') fr H fr2 H2) :
    Moves d (effOf c f d op fr H H') fr' H' v (opA c call f Q id d op fr2 H2) := by
  have hn : ∀ k, Writes d .non k → Same k fr H fr2 H2 := fun k hk => by cases k <;> cases hk
  cases op with
  | move x =>
    simp only [opA, R.ok.injEq, Out.val.injEq] at h ⊢
    obtain ⟨rfl, rfl, rfl⟩ := h
    exact ⟨_, _, by rw [ho x (by simp [Op.operands])], hn⟩
  | assign x =>
    simp only [opA, R.ok.injEq, Out.val.injEq] at h ⊢
    obtain ⟨rfl, rfl, rfl⟩ := h
    exact ⟨_, _, by rw [ho x (by simp [Op.operands])], hn⟩
  | pick x a b =>
    refine outV_move h ?_ hn
    simp only [pickOp, ho x (by simp [Op.operands]), ho a (by simp [Op.operands]), ho b (by simp [Op.operands])]
  | alloc t =>
    simp only [opA, allocOp] at h
    split at h
    · rename_i ht
      simp only [opA, allocOp, ht]
      exact newVar_move h (newVar_eff H') ha
    · cases h
  | box t x =>
    simp only [opA, boxOp] at h
    split at h
    · rename_i ht
      simp only [opA, boxOp, ho x (by simp [Op.operands]), ht]
      exact newVar_move h (newVar_eff H') ha
    · cases h
  | build t ps =>
    refine outV_move h ?_ hn
    simp only [buildOp]
    rw [evParts_congr (fr := fr) fun p hp => ho p.2 (by simp [Op.operands]; exact ⟨p.1, by simpa using hp⟩)]
  | buildSlice t n ps =>
    exact buildSliceOp_move h (fun p hp => ho p.2 (by simp [Op.operands]; exact ⟨p.1, by simpa using hp⟩)) ha
  | load t a =>
    have h0 := h
    simp only [opA] at h0
    obtain ⟨h1, rfl, rfl⟩ := outV_ok h0
    refine outV_move h ?_ ?_
    · rw [ho a (by simp [Op.operands])]
      exact loadOp_move ha
    · intro k hk
      simp only [effOf] at hk ha
      unfold memEff at hk ha
      refine ha.1 k ?_
      revert hk
      repeat' split
      all_goals (cases k <;> simp_all [Writes, Reads])
  | store t p x =>
    simp only [opA] at h ⊢
    rw [ho p (by simp [Op.operands]), ho x (by simp [Op.operands])]
    exact storeOp_move h ha
  | nilCheck x => exact outV_move h (by rw [ho x (by simp [Op.operands])]) hn
  | binOp o t x y yt => exact outV_move h (by rw [ho x (by simp [Op.operands]), ho y (by simp [Op.operands])]) hn
  | unOp o t x => exact outV_move h (by rw [ho x (by simp [Op.operands])]) hn
  | convert s t x =>
    have he : fr2.ev c x = fr.ev c x := ho x (by simp [Op.operands])
    simp only [effOf] at ha ⊢
    by_cases hm : isMl (fr.ev c x) = true
    · rw [if_pos hm] at ha ⊢
      have := (ha.1 .hp trivial).1
      subst this
      refine outV_move h (by rw [he]) fun k hk => ha.1 k ?_
      cases k <;> first | exact hk | trivial
    · rw [if_neg hm] at ha ⊢
      refine outV_move h ?_ hn
      rw [he]
      exact conv_noMl (by simpa using hm)
  | makeInterface t x => exact outV_move h (by rw [ho x (by simp [Op.operands])]) hn
  | makeFunc g first cap => cases g with
    | func g => exact outV_move h (by rw [evAll_congr (fr := fr) fun x hx => ho x (by simp [Op.operands]; exact .inr (by simpa using hx))]) hn
    | _ => simp [opA] at h
  | makeSlice t l k =>
    simp only [opA] at h ⊢
    rw [ho l (by simp [Op.operands]), ho k (by simp [Op.operands])]
    exact makeOp_move h ha
  | slice t x lo hi mx =>
    refine outV_move h ?_ hn
    rw [ho x (by simp [Op.operands]), evOpt_congr (fr := fr) (x := lo) (fun y hy => ho y (by subst hy; simp [Op.operands])), evOpt_congr (fr := fr) (x := hi) (fun y hy => ho y (by subst hy; simp [Op.operands])), evOpt_congr (fr := fr) (x := mx) (fun y hy => ho y (by subst hy; simp [Op.operands]))]
  | fieldAddr s x i => exact outV_move h (by rw [ho x (by simp [Op.operands])]) hn
  | indexAddr t x ix => exact outV_move h (by rw [ho x (by simp [Op.operands]), ho ix (by simp [Op.operands])]) hn
  | index t x ix => exact outV_move h (by rw [ho x (by simp [Op.operands]), ho ix (by simp [Op.operands])]) hn
  | typeAssert x t u ok => exact outV_move h (by rw [ho x (by simp [Op.operands])]) hn
  | extract x i => exact outV_move h (by rw [ho x (by simp [Op.operands])]) hn
  | panic x =>
    simp only [opA, panicOp] at h
    split at h
    · simp only [R.ok.injEq] at h; cases h
    · cases h
  | call cl =>
    obtain ⟨k, args, ats⟩ := cl
    have hall : evAll c fr2 args.toList = evAll c fr args.toList := evAll_congr fun x hx => ho x (by simp [Op.operands, Call.operands]; exact .inr (by simpa using hx))
    cases k with
    | builtin b =>
      simp only [opA, callOp] at h ⊢
      rw [hall]
      exact builtin_move h ha
    | value g =>
      simp only [opA, callOp] at h ⊢
      rw [hall, ho g (by simp [Op.operands, Call.operands])]
      exact doCall_move hq h ha
    | invoke r m => simp [opA, callOp] at h
  | defer cl =>
    obtain ⟨k, args, ats⟩ := cl
    have hall : evAll c fr2 args.toList = evAll c fr args.toList := evAll_congr fun x hx => ho x (by simp [Op.operands, Call.operands]; exact .inr (by simpa using hx))
    obtain ⟨rfl, h1⟩ := heap_same ha
    have h2 := ha.1 .hp trivial
    simp only [Same] at h2
    obtain ⟨rfl, g, l, rfl, h3⟩ := deferOp_fr (fr2 := fr2) h
    refine ⟨_, _, h3 ?_ h2.2.2.2 hall _, fun k hk => ?_⟩
    · intro x hx
      rcases hx with hx | hx
      · cases k with
        | value g => simp only at hx; subst hx; exact ho _ (by simp [Op.operands, Call.operands])
        | _ => cases hx
      · exact ho x (by simp [Op.operands, Call.operands]; exact .inr (by simpa using hx))
    · cases k with
      | lc t => cases hk
      | fl t => exact h1 H' (.fl t) trivial
      | hp => exact ⟨rfl, by simp only [h2.2.1], h2.2.2.1, h2.2.2.2⟩
  | _ => simp [opA] at h; done

end
end Go.Proofs.Ev
