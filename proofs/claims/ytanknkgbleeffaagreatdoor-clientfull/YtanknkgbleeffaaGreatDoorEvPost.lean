/- From a law's run to its row: the arguments read as they did. -/
import Derived.Test.YtanknkgbleeffaaGreatDoorEvEq
import Derived.ChangeSame
import Derived.WideKeyArgs
import Derived.OpenShut
import Derived.ProofKit
set_option linter.all false
namespace Go.Proofs.Ev
open Go Go.ChangeShapes Go.WideShapes Go.ChangeAt Go.RowKit

theorem grown_at {W W' : World} (h : Grown W W') {b : Nat} (hb : b < W.heap.size) : W'.heap[b]? = W.heap[b]? := by
  have this := h.1.2.2 b hb
  obtain ⟨x, hx⟩ : ∃ x, W.heap[b]? = some x := ⟨W.heap[b], by simp [hb]⟩
  rw [hx] at this ⊢
  cases hy : W'.heap[b]? with
  | none =>
    rw [hy] at this
    cases x <;> simp at this
  | some y =>
    rw [hy] at this
    cases x with
    | cells c t fr =>
      cases y with
      | cells c' t' fr' =>
        obtain ⟨rfl, rfl, _, h4⟩ := this
        have : c' = c := Array.ext_getElem? fun j => h4 j (fun e => e)
        rw [this]
      | _ => exact absurd this (by simp)
    | map es clock =>
      cases y with
      | map es' clock' =>
        rcases this with e | ⟨rfl, rfl⟩
        · exact e.elim
        · rfl
      | _ => exact absurd this (by simp)
    | _ => cases y <;> exact this

theorem grown_place {W W' : World} (h : Grown W W') {p : MemPlace} (hb : p.block < W.heap.size) : W.sameAt W' p := by
  cases p with
  | cell b off =>
    have := grown_at h (b := b) hb
    show W'.cell? ⟨b, off, none⟩ = W.cell? ⟨b, off, none⟩
    simp only [World.cell?, this]
  | map b => exact grown_at h hb

section
variable {H : Type} {enc : TypeId × Value → H} {P : Program}

theorem trods_stay (hl : laidOutB P = true) {W W' : World} (h : Grown W W') {sp : Nat → Bool} : ∀ {ts : List TypeId} {vs : List Value} {ds : List (DataW H)} {ps : List MemPlace}, (∀ t ∈ ts, P.readableRec t = true ∧ t < P.types.size) →
    DataW.TrodAll enc P W 0 (fun _ => true) true ts vs ds ps → (∀ p ∈ ps, p.block < W.heap.size) → (∀ p ∈ ps, sp p.block = true) → DataW.TrodAll enc P W' 0 sp true ts vs ds ps
  | [], [], [], _, _, hA, _, _ => hA
  | _ :: _, _ :: _, _ :: _, _, ht, ⟨p, q, h1, h2, e⟩, hb, hs => by
    refine ⟨p, q, ?_, trods_stay hl h (fun t hm => ht t (List.mem_cons_of_mem _ hm)) h2 (fun x hx => hb x (by rw [e]; exact List.mem_append_right _ hx)) (fun x hx => hs x (by rw [e]; exact List.mem_append_right _ hx)), e⟩
    have := ht _ (List.mem_cons_self ..)
    exact WideElems.Trod_stays hl this.1 this.2 h1 (fun x hx => grown_place h (hb x (by rw [e]; exact List.mem_append_left _ hx))) (fun x hx => hs x (by rw [e]; exact List.mem_append_left _ hx))

/-- a law that answers true, and lets memory be, does what its row says -/
theorem law_post (hl : laidOutB P = true) {f : Func} {s : ChangeSpec} {apart fresh handsOn again : Bool} {W W' : World} {args : Array Value} {ds gs : List (DataW H)} {before : List MemPlace}
    (hts : ∀ t ∈ f.params.toList, P.readableRec t = true ∧ t < P.types.size)
    (hW : DataW.Whole enc P f.params.toList s.vars apart W args.toList ds gs before) (hg : Grown W W') (hsv : s.vars = [])
    (hfn : s.fn H (ds ++ gs) = { results := [.lit (.bool true)], args := ds }) {bt : TypeId} (hrt : f.resultTypes = #[bt]) (hbt : P.underlying bt = some .bool) (hb2 : bt < P.types.size) :
    s.post enc P f apart fresh handsOn again W args (.bool true) W' := by
  have hW' := hW
  obtain ⟨p, q, hA, hV, rfl, hfz, hnd⟩ := hW
  rw [hsv] at hV
  obtain ⟨rfl, rfl⟩ := trodVars_none hV
  refine post_of_same (pa := p) (pv := []) hW' (fun b sp hd => ?_) (fun sp hs => ?_) (fun sp hs => ?_) rfl (hg.frame _) hg.2.1 ?_
  · rw [hfn, hrt]
    exact trodAll_cons_mk (shut_bool hbt true) trodAll_mk0
  · rw [hfn]
    exact trods_stay hl hg hts hA (fun x hx => hW'.lt x (by simpa using hx)) (fun x hx => hs x (by simpa using hx))
  · rw [hfn, hsv]
    rfl
  · intro j t r ht hr
    rw [hrt] at ht
    have hj : j = 0 := by
      have := (Array.getElem?_eq_some_iff.1 ht).1
      simp at this
      exact this
    subst hj
    simp only [List.getElem?_toArray, List.getElem?_cons_zero, Option.some.injEq] at ht
    subst ht
    rw [hrt] at hr
    simp [Value.resultList] at hr
    subst hr
    exact okWide_bool_mk hbt _
end

end Go.Proofs.Ev
