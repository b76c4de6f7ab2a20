/- Rounds of a range over a function. -/
import Derived.Test.YtanknkgbleeffaaGreatDoorEvTop
set_option linter.all false
namespace Go.Proofs.Ev
open Go
variable [Sg]

section
variable {P : Program} {cx : Cx} {Q : Name} {N : Nat} {S : Nat → Prop} {E E' : Env} {own own' : Nat → Tag} {H H' : Heap} {m : Mine} {fr fr' : Fr} {a : Act} {w w' : World} {id : Nat} {v : AV} {b : Frame} {stk : Bool → List Frame} {call : Caller} {f : FuncId} {n : Nat}

theorem setArgs_ok {W : View} : ∀ {ps : List Tmp} {vs : List AV} {vals : List Value} {tr tr' : Tr AV} {tmps : Array Value}, setArgs ps vs tr = .ok tr' → Vs E W vs vals → (∀ p ∈ ps, p < tmps.size) → (∀ t, V E W ((Tr.get (path t) tr).getD undefA) (tmps.getD t undef)) →
    ps.length = vals.length ∧ ((ps.zip vals).foldl (fun tmps (p : Tmp × Value) => tmps.setIfInBounds p.1 p.2) tmps).size = tmps.size ∧ ∀ t, V E W ((Tr.get (path t) tr').getD undefA) (((ps.zip vals).foldl (fun tmps (p : Tmp × Value) => tmps.setIfInBounds p.1 p.2) tmps).getD t undef)
  | [], [], vals, tr, tr', tmps, h, hv, _, ht => by
    simp only [setArgs, R.ok.injEq] at h
    subst h
    simp only [Vs] at hv
    subst hv
    exact ⟨rfl, rfl, ht⟩
  | [], _ :: _, _, _, _, _, h, _, _, _ => by simp [setArgs] at h
  | _ :: _, [], _, _, _, _, h, _, _, _ => by simp [setArgs] at h
  | p :: ps, x :: vs, vals, tr, tr', tmps, h, hv, hp, ht => by
    simp only [Vs] at hv
    obtain ⟨u, s, rfl, hx, hs⟩ := hv
    simp only [setArgs] at h
    have hps := hp p (by simp)
    have := setArgs_ok (tmps := tmps.setIfInBounds p u) h hs (by intro q hq; simpa using hp q (by simp [hq])) (fun t => by
      rw [Tr.get_set_path]
      split
      · rename_i e
        subst e
        have : (tmps.setIfInBounds t u).getD t undef = u := by simp [Array.getD_eq_getD_getElem?, hps]
        rw [this]
        exact hx
      · rename_i e
        have : (tmps.setIfInBounds p u).getD t undef = tmps.getD t undef := by simp [Array.getD_eq_getD_getElem?, Ne.symm e]
        rw [this]
        exact ht t)
    obtain ⟨h1, h2, h3⟩ := this
    refine ⟨by simp [h1], ?_, ?_⟩
    · simp only [List.zip_cons_cons, List.foldl_cons]
      rw [h2]; simp
    · simpa only [List.zip_cons_cons, List.foldl_cons] using h3

theorem endRound_run {l : Nat} {L : Loop} {j : Option Code} (h : w.heap[l]? = some (.loop L)) : (Instr.endRound l j).run P w = .ok (.bool j.isNone) { w with heap := w.heap.setIfInBounds l (.loop { L with state := if j.isNone then .ready else .done, pending := j }) } := by
  simp [Instr.endRound, getLoop_run h, setObj_run h]

theorem leave_ok {l : Name} {bl : Nat} {j : Option Code} {r : Ret} {H1 : Heap} (h : leaveRound l j H = .ok (r, H1)) (hs : St cx Q N S E own H m fr a w) (hbl : E.L l = some bl) (hlim : under H.lim l = true) :
    ∃ w', r = .val (.bool j.isNone) ∧ (Instr.endRound bl j).run P w = .ok (.bool j.isNone) w' ∧ St cx Q N S E own H1 m fr a w' ∧ Grow Q own own E E w w' ∧ SameH E E H H1 := by
  unfold leaveRound at h
  split at h
  · cases h
  rename_i rr hl
  simp only [R.ok.injEq, Prod.mk.injEq] at h
  obtain ⟨rfl, rfl⟩ := h
  obtain ⟨bl', L, hL, hown, hw, hrel⟩ := hs.inv.lop _ _ hl
  rw [hbl] at hL
  cases hL
  have hrel' : LoopRel E { rr with st := if j.isNone then 0 else 2, pending := j } { L with state := if j.isNone then .ready else .done, pending := j } := { hrel with st := by cases j <;> rfl, pend := rfl }
  obtain ⟨s1, g1, e1⟩ := loop_turn hs hl hbl hw hown hrel' hlim
  exact ⟨_, rfl, endRound_run hw, s1, g1, e1⟩

theorem round_ok (g : Good P cx) (co : CallOk P cx call) (hdr : DrawOk P cx call) {l : Name} {args : List AV} {r : Ret} (h : roundA cx call n l Q args H = .ok (r, H')) {vals : List Value} {bl : Nat} (hp : Pre cx Q E own H w) (hbl : E.L l = some bl) (hv : Vs E .nil args vals) :
    ∃ L, w.heap[bl]? = some (.loop L) ∧ vals.length = L.params.size ∧
    ∀ (c0 : Frame) cs, ∃ E' own' w' v val, r = .val v ∧ Post Q E E' own own' H H' w w' ∧ V E' .nil v val ∧ (∀ xs, v ≠ .sl .own xs) ∧
      Steps P (lone (Frame.round bl L.fn ((L.params.zip ⟨vals⟩).foldl (fun tmps (t, a) => tmps.setIfInBounds t a) L.tmps) L.assign L.body .normal) (c0 :: cs) w) (lone (c0.finish val) cs w') := by
  unfold roundA at h
  split at h
  · cases h
  rename_i rr hl
  split at h
  · cases h
  rename_i tr hset
  obtain ⟨bl', L, hL, hown, hw, hrel⟩ := hp.inv.lop _ _ hl
  rw [hbl] at hL
  cases hL
  rw [← hrel.ps] at hset
  obtain ⟨hlen, hsz, htm⟩ := setArgs_ok hset hv hrel.fit.1 hrel.tm
  refine ⟨L, hw, by rw [← hlen]; simp, fun c0 cs => ?_⟩
  have hfold : (L.params.zip ⟨vals⟩).foldl (fun tmps (t, a) => tmps.setIfInBounds t a) L.tmps = ((L.params.toList.zip vals).foldl (fun tmps (p : Tmp × Value) => tmps.setIfInBounds p.1 p.2) L.tmps) := by
    rw [← Array.foldl_toList]
    simp
  rw [hfold]
  generalize ((L.params.toList.zip vals).foldl (fun tmps (p : Tmp × Value) => tmps.setIfInBounds p.1 p.2) L.tmps) = tmps at hsz htm
  have hs : St cx Q L.tmps.size (fun j => 0 ≤ j) E own H mine0 { frame0 [] none with tm := tr, rd := true } { tmps := tmps, defers := [] } w := by
    refine ⟨hp.inv, ⟨hsz, fun t => V.view (View.nil_le _) (htm t), fun t k cs h => ?_, fun t k n h => ?_⟩, hp.glb, ⟨fun _ _ => rfl, fun _ _ _ => rfl, fun i _ o n p h => under_no (hp.fO o n p h), fun i _ l b h => under_no (hp.fL l b h)⟩, .nil, hp.lim⟩
    · simp [frame0, Tr.get_leaf] at h
    · simp [frame0, Tr.get_leaf] at h
  let b : Frame := { (default : Frame) with fn := L.fn, kind := .normal, roundOf := some bl }
  have hround : Frame.round bl L.fn tmps L.assign L.body .normal = b.atR { tmps := tmps, defers := [] } [.code L.assign, .beginRound, .code L.body] := by
    simp [Frame.round, Frame.atR, b]
  have hbf : b.fn = rr.f := hrel.fn
  have hr0 : RecI E b (fun _ => c0 :: cs) { frame0 [] none with tm := tr, rd := true } := fun e => by cases e
  split at h
  rotate_left
  · cases h
  · cases h
  rename_i fr1 H1 hca
  rw [← hrel.assign] at hca
  obtain ⟨E1, own1, m1, a1, w1, s1, g1, e1, r1, c1, ar1⟩ := code_ok (N := L.tmps.size) g co hdr L.assign hrel.fit.2.1 _ H _ fr1 H1 hca E own mine0 _ w b (fun _ => c0 :: cs) [.beginRound, .code L.body] hbf hs hr0
  split at h
  · cases h
  rename_i H2 hbeg
  unfold beginRound at hbeg
  split at hbeg
  · cases hbeg
  rename_i rb hlb
  split at hbeg
  rotate_left
  · cases hbeg
  rename_i hcond
  simp only [Bool.and_eq_true] at hcond
  obtain ⟨hst0, hlim⟩ := hcond
  have hst0 := Nat.eq_of_beq_eq_true hst0
  simp only [R.ok.injEq] at hbeg
  subst hbeg
  have hbl1 := g1.env.L _ _ hbl
  obtain ⟨bl', L1, hL1, hown1, hw1, hrel1⟩ := s1.inv.lop _ _ hlb
  rw [hbl1] at hL1
  cases hL1
  have hrelb : LoopRel E1 { rb with st := 1 } { L1 with state := .busy } := { hrel1 with st := rfl }
  obtain ⟨s2, g2, e2⟩ := loop_turn s1 hlb hbl1 hw1 hown1 hrelb hlim
  have hready : L1.state = .ready := by rw [hrel1.st, hst0]; rfl
  have hbrun : (Instr.beginRound bl).run P w1 = .ok () { w1 with heap := w1.heap.setIfInBounds bl (.loop { L1 with state := .busy }) } := by
    simp [Instr.beginRound, getLoop_run hw1, setObj_run hw1, hready]
  have hstep1 : Steps P (lone (Frame.round bl L.fn tmps L.assign L.body .normal) (c0 :: cs) w) (lone (b.atR a1 [.code L.body]) (c0 :: cs) { w1 with heap := w1.heap.setIfInBounds bl (.loop { L1 with state := .busy }) }) := by
    rw [hround]
    exact Steps.trans ar1 (.one (stepR_beginRound rfl hbrun))
  rw [← hrel.body] at h
  unfold roundEnd at h
  have hbody : ∀ {ex : Ex} {fr2 : Fr} {H3 : Heap}, codeA cx call rr.f Q n L.body fr1 (setRec H1 l { rb with st := 1 }) = .ok (ex, fr2, H3) → ∀ {j : Option Code}, leaveRound l j H3 = .ok (r, H') → (∀ (E' : Env) (a' : Act) (w3 w4 : World), Arr P (lone (b.atR a1 [.code L.body]) (c0 :: cs) { w1 with heap := w1.heap.setIfInBounds bl (.loop { L1 with state := .busy }) }) b [] (c0 :: cs) ex E' a' w3 →
      (Instr.endRound bl j).run P w3 = .ok (.bool j.isNone) w4 → Steps P (lone (b.atR a1 [.code L.body]) (c0 :: cs) { w1 with heap := w1.heap.setIfInBounds bl (.loop { L1 with state := .busy }) }) (lone (c0.finish (.bool j.isNone)) cs w4)) →
      ∃ E' own' w' v val, r = .val v ∧ Post Q E E' own own' H H' w w' ∧ V E' .nil v val ∧ (∀ xs, v ≠ .sl .own xs) ∧ Steps P (lone (Frame.round bl L.fn tmps L.assign L.body .normal) (c0 :: cs) w) (lone (c0.finish val) cs w') := by
    intro ex fr2 H3 hcb j hlv hfin
    obtain ⟨E3, own3, m3, a3, w3, s3, g3, e3, r3, c3, ar3⟩ := code_ok (N := L.tmps.size) g co hdr L.body hrel.fit.2.2 fr1 _ ex fr2 H3 hcb E1 own1 m1 a1 _ b (fun _ => c0 :: cs) [] hbf s2 r1
    have hbl3 := g3.env.L _ _ hbl1
    obtain ⟨w4, hr4, hrun4, s4, g4, e4⟩ := leave_ok (P := P) hlv s3 hbl3 (by rw [e3.lim]; exact hlim)
    refine ⟨E3, own3, w4, _, .bool j.isNone, hr4, ⟨s4.inv, ((g1.trans g2).trans g3).trans g4, ((e1.trans e2).trans e3).trans e4⟩, by simp [V], by simp, Steps.trans hstep1 (hfin _ _ _ _ ar3 hrun4)⟩
  split at h
  · rename_i fr2 H3 hcb
    exact hbody hcb h fun E' a' w3 w4 har hrun => Steps.trans har (.one (stepR_round_end rfl rfl hrun))
  · rename_i fr2 H3 hcb
    refine hbody hcb h fun E' a' w3 w4 har hrun => ?_
    obtain ⟨k1, har⟩ := har
    exact Steps.trans har (.one (stepR_round_ret rfl rfl hrun))
  · rename_i xid fr2 H3 hcb
    refine hbody hcb h fun E' a' w3 w4 har hrun => ?_
    obtain ⟨k1, hk, har⟩ := har
    exact Steps.trans har (.one (stepR_round_exit rfl rfl (by rw [hk]; rfl) hrun))
  · cases h
  · cases h

end
end Go.Proofs.Ev
