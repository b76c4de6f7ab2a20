/- Regions that draw their order: whatever order is drawn, each operation answers as it does in the order of the text, and the end is the same. -/
import Derived.Test.YtanknkgbleeffaaGreatDoorEvMv
set_option linter.all false
namespace Go.Proofs.Ev
open Go
variable [Sg]

/-! ### which operations are bound -/
/-- bit by bit: is one of a region's operations behind another? -/
def bitB (ops : Array Oper) (j i : Nat) : Bool := ((Region.before ops).getD j 0).testBit i

theorem before_inv (ops : Array Oper) : ∀ j, j < ops.size → ∀ i, bitB ops j i = true → ∃ o e, ops[j]? = some o ∧ e ∈ o.after ∧ Region.binds .any e = true ∧ (i = e.on ∨ (e.on < j ∧ bitB ops e.on i = true)) := by
  have key : (fun (m : Nat) (acc : Array Nat) => acc.size = m ∧ ∀ j, j < m → ∀ i, (acc.getD j 0).testBit i = true → ∃ o e, ops[j]? = some o ∧ e ∈ o.after ∧ Region.binds .any e = true ∧ (i = e.on ∨ (e.on < j ∧ (acc.getD e.on 0).testBit i = true))) ops.size (Region.before ops) := by
    unfold Region.before
    refine Array.foldl_induction (motive := fun (m : Nat) (acc : Array Nat) => acc.size = m ∧ ∀ j, j < m → ∀ i, (acc.getD j 0).testBit i = true → ∃ o e, ops[j]? = some o ∧ e ∈ o.after ∧ Region.binds .any e = true ∧ (i = e.on ∨ (e.on < j ∧ (acc.getD e.on 0).testBit i = true))) ⟨rfl, fun j hj => absurd hj (Nat.not_lt_zero _)⟩ ?_
    rintro ⟨m, hm⟩ acc ⟨hsz, hacc⟩
    simp only at hsz hacc ⊢
    refine ⟨by simp [hsz], fun j hj i hb => ?_⟩
    have hold : ∀ (x : Nat) (l : Nat), l < m → (acc.push x).getD l 0 = acc.getD l 0 := fun x l hl => by
      simp only [Array.getD_eq_getD_getElem?, Array.getElem?_push, hsz]
      rw [if_neg (by omega)]
    rcases Nat.lt_or_ge j m with hlt | hge
    · rw [hold _ _ hlt] at hb
      obtain ⟨o, e, h1, h2, h3, h4⟩ := hacc j hlt i hb
      refine ⟨o, e, h1, h2, h3, h4.imp id fun h => ⟨h.1, ?_⟩⟩
      rw [hold _ _ (by omega)]
      exact h.2
    · have hj' : j = m := by omega
      subst hj'
      have hnew : ∀ x : Nat, (acc.push x).getD j 0 = x := fun x => by
        simp only [Array.getD_eq_getD_getElem?, Array.getElem?_push, hsz]
        simp
      rw [hnew] at hb
      have hfold : ∀ i, Nat.testBit (ops[j].after.foldl (fun s e => if Region.binds .any e = true then s ||| 2 ^ e.on ||| acc.getD e.on 0 else s) 0) i = true → ∃ e, e ∈ ops[j].after ∧ Region.binds .any e = true ∧ (i = e.on ∨ (acc.getD e.on 0).testBit i = true) := by
        refine Array.foldl_induction (motive := fun (_ : Nat) (s : Nat) => ∀ i, s.testBit i = true → ∃ e, e ∈ ops[j].after ∧ Region.binds .any e = true ∧ (i = e.on ∨ (acc.getD e.on 0).testBit i = true)) (fun i h => by simp at h) ?_
        intro k s ih i h
        split at h
        · rename_i hbind
          rw [Nat.testBit_or, Nat.testBit_or, Nat.testBit_two_pow] at h
          simp only [Bool.or_eq_true, decide_eq_true_eq] at h
          rcases h with (h | h) | h
          · exact ih i h
          · exact ⟨_, by simp, hbind, .inl h.symm⟩
          · exact ⟨_, by simp, hbind, .inr h⟩
        · exact ih i h
      obtain ⟨e, h1, h2, h3⟩ := hfold i hb
      refine ⟨ops[j], e, by simp [hm], h1, h2, ?_⟩
      rcases h3 with h3 | h3
      · exact .inl h3
      · refine .inr ?_
        have hlt : e.on < j := by
          rcases Nat.lt_or_ge e.on acc.size with hl | hg
          · omega
          · rw [Array.getD_eq_getD_getElem?, Array.getElem?_eq_none hg] at h3
            simp at h3
        exact ⟨hlt, by rw [hold _ _ hlt]; exact h3⟩
  intro j hj i hb
  obtain ⟨_, h⟩ := key
  exact h j hj i hb

/-- what is done is done with all that is ahead of it -/
theorem before_closed {ops : Array Oper} {D : Nat → Prop} (hD : ∀ j o, ops[j]? = some o → D j → ∀ e ∈ o.after, Region.binds .any e = true → D e.on) :
    ∀ j o, ops[j]? = some o → (∀ e ∈ o.after, Region.binds .any e = true → D e.on) → ∀ i, bitB ops j i = true → D i := by
  intro j
  induction j using Nat.strongRecOn with
  | ind j ih =>
    intro o ho hall i hb
    have hj : j < ops.size := (Array.getElem?_eq_some_iff.1 ho).1
    obtain ⟨o', e, h1, h2, h3, h4⟩ := before_inv ops j hj i hb
    rw [ho] at h1
    cases h1
    rcases h4 with rfl | ⟨hlt, h5⟩
    · exact hall e h2 h3
    · have hd := hall e h2 h3
      have hso : ∃ o2, ops[e.on]? = some o2 := ⟨ops[e.on]'(by omega), by simp [show e.on < ops.size by omega]⟩
      obtain ⟨o2, ho2⟩ := hso
      exact ih e.on hlt o2 ho2 (hD e.on o2 ho2 hd) i h5

/-! ### effects -/
section
variable {c : Cx} {call : Caller} {f : FuncId} {Q : Name} {ops : Array Oper} {base : Nat} {s0 : Fr × Heap}

theorem fits_non_right (fr0 : Fr) (e : Eff) : fits fr0 e .non = true := by cases e <;> rfl
theorem fits_non_left (fr0 : Fr) (e : Eff) : fits fr0 .non e = true := by cases e <;> rfl

theorem conflict_of {d d' : Option Tmp} {e e' : Eff} {x : Key} (hr : Reads d e x) (hw : Writes d' e' x) : (∀ fr0, fits fr0 e e' = false ∧ fits fr0 e' e = false) ∨ ∃ t, d = some t ∧ d' = some t := by
  cases x with
  | lc t =>
    cases e <;> simp only [Reads] at hr <;> cases e' <;> simp only [Writes] at hw <;> subst hr <;> subst hw <;> exact .inl fun fr0 => by simp [fits]
  | fl t =>
    cases e <;> simp only [Reads] at hr <;> cases e' <;> simp only [Writes] at hw <;>
      first
        | exact .inl fun fr0 => ⟨rfl, rfl⟩
        | exact .inr ⟨t, hr, hw⟩
  | hp =>
    cases e <;> simp only [Reads] at hr <;> cases e' <;> simp only [Writes] at hw <;> exact .inl fun fr0 => ⟨rfl, rfl⟩

theorem Writes.reads {d : Option Tmp} {e : Eff} {x : Key} (h : Writes d e x) : Reads d e x := by
  cases e <;> cases x <;> simp_all [Writes, Reads]

theorem effOf_heap {d : Option Tmp} {op : Op} {fr : Fr} {H H' b a : Heap} (h : effOf c f d op fr H H' = .heap b a) : b = H ∧ a = H' := by
  unfold effOf at h
  split at h
  · unfold memEff at h
    repeat' split at h
    all_goals first
      | (cases h; done)
      | (cases h; exact ⟨rfl, rfl⟩)
  · unfold memEff at h
    repeat' split at h
    all_goals first
      | (cases h; done)
      | (cases h; exact ⟨rfl, rfl⟩)
  · unfold callEff at h
    repeat' split at h
    all_goals first
      | (cases h; done)
      | (cases h; exact ⟨rfl, rfl⟩)
  all_goals
    repeat' split at h
    all_goals first
      | (cases h; done)
      | (cases h; exact ⟨rfl, rfl⟩)

theorem effOf_hload {d : Option Tmp} {op : Op} {fr : Fr} {H H' : Heap} {p : AV} {n : Nat} (h : effOf c f d op fr H H' = .hload p n) : ∃ o v i, p = .ptr o v i := by
  unfold effOf at h
  split at h
  · unfold memEff at h
    repeat' split at h
    all_goals first
      | (cases h; done)
      | (cases h; exact ⟨_, _, _, by assumption⟩)
      | (rename_i hp _; cases h; exact ⟨_, _, _, rfl⟩)
      | (cases h; exact ⟨_, _, _, rfl⟩)
  · unfold memEff at h
    repeat' split at h
    all_goals first
      | (cases h; done)
      | (rename_i hst _ _ _; cases hst; done)
      | simp_all
  · unfold callEff at h
    repeat' split at h
    all_goals (cases h; done)
  all_goals
    repeat' split at h
    all_goals (cases h; done)

theorem writes_heaps {d : Option Tmp} {op : Op} {fr : Fr} {Ha Hb Hc Hd : Heap} {x : Key} (h : Writes d (effOf c f d op fr Ha Hb) x) : Writes d (effOf c f d op fr Hc Hd) x := by
  unfold effOf at h ⊢
  split at h
  · unfold memEff at h ⊢
    revert h
    repeat' split
    all_goals (intro h; cases x <;> simp_all [Writes])
  · unfold memEff at h ⊢
    revert h
    repeat' split
    all_goals (intro h; cases x <;> simp_all [Writes])
  · unfold callEff at h ⊢
    revert h
    repeat' split
    all_goals (intro h; cases x <;> simp_all [Writes])
  all_goals
    revert h
    repeat' split
    all_goals (intro h; cases x <;> simp_all [Writes])

mutual
theorem sameAV_eq : ∀ {x y : AV}, sameAV x y = true → x = y
  | .bool a, y, h => by cases y <;> simp_all [sameAV]
  | .int k a, y, h => by
    cases y <;> simp only [sameAV, Bool.and_eq_true, decide_eq_true_eq, Bool.false_eq_true] at h
    obtain ⟨rfl, h⟩ := h
    rw [beq_iff_eq.1 ((ieq_eq _ _).symm.trans h)]
  | .str a, y, h => by
    cases y <;> simp only [sameAV, Bool.false_eq_true] at h
    rw [sameStr_iff.1 h]
  | .nilp, y, h => by cases y <;> simp_all [sameAV]
  | .ptr o v i, y, h => by
    cases y <;> simp only [sameAV, Bool.and_eq_true, Bool.false_eq_true] at h
    obtain ⟨⟨h1, h2⟩, h3⟩ := h
    rw [sameName_iff.1 h1, Nat.eq_of_beq_eq_true h2, Nat.eq_of_beq_eq_true h3]
  | .lptr .., y, h => by cases y <;> simp [sameAV] at h
  | .iptr a i, y, h => by
    cases y <;> simp only [sameAV, Bool.and_eq_true, Bool.false_eq_true] at h
    rw [sameAVs_eq h.1, Nat.eq_of_beq_eq_true h.2]
  | .sl t xs, y, h => by
    cases y <;> simp only [sameAV, Bool.and_eq_true, decide_eq_true_eq, Bool.false_eq_true] at h
    rw [h.1, sameAVss_eq h.2]
  | .ml o v i n z, y, h => by
    cases y <;> simp only [sameAV, Bool.and_eq_true, Bool.false_eq_true] at h
    obtain ⟨⟨⟨⟨h1, h2⟩, h3⟩, h4⟩, h5⟩ := h
    rw [sameName_iff.1 h1, Nat.eq_of_beq_eq_true h2, Nat.eq_of_beq_eq_true h3, Nat.eq_of_beq_eq_true h4, Nat.eq_of_beq_eq_true h5]
  | .fn g a, y, h => by
    cases y <;> simp only [sameAV, Bool.and_eq_true, Bool.false_eq_true] at h
    rw [Nat.eq_of_beq_eq_true h.1, sameAVs_eq h.2]
  | .nilf, y, h => by cases y <;> simp_all [sameAV]
  | .yld _, y, h => by cases y <;> simp [sameAV] at h
  | .ifc t v, y, h => by
    cases y <;> simp only [sameAV, Bool.and_eq_true, Bool.false_eq_true] at h
    rw [Nat.eq_of_beq_eq_true h.1, sameAV_eq h.2]
  | .nili, y, h => by cases y <;> simp_all [sameAV]
  | .agg _, y, h => by cases y <;> simp [sameAV] at h
  | .tup _, y, h => by cases y <;> simp [sameAV] at h
  | .junk, y, h => by cases y <;> simp [sameAV] at h
  | .opq s, y, h => by
    cases y <;> simp only [sameAV, Bool.false_eq_true] at h
    rw [Nat.eq_of_beq_eq_true h]
  | .sym k s lo hi, y, h => by
    cases y <;> simp only [sameAV, Bool.and_eq_true, decide_eq_true_eq, Bool.false_eq_true] at h
    obtain ⟨⟨⟨rfl, h2⟩, h3⟩, h4⟩ := h
    rw [Nat.eq_of_beq_eq_true h2, beq_iff_eq.1 ((ieq_eq _ _).symm.trans h3), beq_iff_eq.1 ((ieq_eq _ _).symm.trans h4)]
theorem sameAVs_eq : ∀ {x y : List AV}, sameAVs x y = true → x = y
  | [], y, h => by cases y <;> simp_all [sameAVs]
  | a :: r, y, h => by
    cases y with
    | nil => simp [sameAVs] at h
    | cons b s =>
      simp only [sameAVs, Bool.and_eq_true] at h
      rw [sameAV_eq h.1, sameAVs_eq h.2]
theorem sameAVss_eq : ∀ {x y : List (List AV)}, sameAVss x y = true → x = y
  | [], y, h => by cases y <;> simp_all [sameAVss]
  | a :: r, y, h => by
    cases y with
    | nil => simp [sameAVss] at h
    | cons b s =>
      simp only [sameAVss, Bool.and_eq_true] at h
      rw [sameAVs_eq h.1, sameAVss_eq h.2]
end

theorem loadN_ptr {fr fr2 : Fr} {H : Heap} {o : Name} {v i n : Nat} : loadN fr H (.ptr o v i) n = loadN fr2 H (.ptr o v i) n := rfl

theorem sameLoad_eq {fr0 : Fr} {b a : Heap} {p : AV} {n : Nat} (h : sameLoad fr0 b a p n = true) : loadN fr0 b p n = loadN fr0 a p n := by
  unfold sameLoad at h
  split at h
  · rename_i x y hx hy
    rw [hx, hy, sameAVs_eq h]
  · cases h

/-! ### the run in the order of the text -/
noncomputable def stepT (c : Cx) (call : Caller) (f : FuncId) (Q : Name) (ops : Array Oper) (base : Nat) (j : Nat) (s : Fr × Heap) : Eff × (Fr × Heap) :=
  match ops[j]? with
  | none => (.non, s)
  | some o => match guardO ops o.guard s.1 with
    | .ok true => match opA c call f Q (base + j) o.dst o.op s.1 s.2 with
      | .ok (.val v fr H) => (effOf c f o.dst o.op s.1 s.2 H, (fr.put o.dst v, H))
      | _ => (.non, s)
    | _ => (.non, (s.1.put o.dst undefA, s.2))

noncomputable def runT (c : Cx) (call : Caller) (f : FuncId) (Q : Name) (ops : Array Oper) (base : Nat) (s0 : Fr × Heap) : Nat → Fr × Heap
  | 0 => s0
  | j + 1 => (stepT c call f Q ops base j (runT c call f Q ops base s0 j)).2

noncomputable def effT (c : Cx) (call : Caller) (f : FuncId) (Q : Name) (ops : Array Oper) (base : Nat) (s0 : Fr × Heap) (j : Nat) : Eff :=
  (stepT c call f Q ops base j (runT c call f Q ops base s0 j)).1

def GoodT (c : Cx) (call : Caller) (f : FuncId) (Q : Name) (ops : Array Oper) (base : Nat) (T : Nat → Fr × Heap) (eff : Nat → Eff) (j : Nat) : Prop :=
  ∃ o, ops[j]? = some o ∧
    ((guardO ops o.guard (T j).1 = .ok true ∧ ∃ v fr H, opA c call f Q (base + j) o.dst o.op (T j).1 (T j).2 = .ok (.val v fr H) ∧ T (j + 1) = (fr.put o.dst v, H) ∧ eff j = effOf c f o.dst o.op (T j).1 (T j).2 H) ∨
     (guardO ops o.guard (T j).1 = .ok false ∧ T (j + 1) = ((T j).1.put o.dst undefA, (T j).2) ∧ eff j = .non))

theorem fitsAll_ok {fr0 : Fr} {bef : Nat} {e : Eff} : ∀ {log : List (Nat × Eff)}, fitsAll fr0 bef e log = true → ∀ k e', (k, e') ∈ log → bef.testBit k = true ∨ fits fr0 e' e = true
  | [], _, k, e', hm => by cases hm
  | (i, x) :: r, h, k, e', hm => by
    simp only [fitsAll] at h
    split at h
    · rename_i hc
      rcases List.mem_cons.1 hm with hm | hm
      · cases hm
        simpa using hc
      · exact fitsAll_ok h k e' hm
    · cases h

theorem logO_ok {i : Nat} {o : Oper} {fr : Fr} {H H' : Heap} {log log' : List (Nat × Eff)} (h : logO c f ops i o fr H H' log = .ok log') :
    (∀ k e', (k, e') ∈ log → bitB ops i k = true ∨ fits fr e' (effOf c f o.dst o.op fr H H') = true) ∧ (∀ x ∈ log, x ∈ log') ∧ (effOf c f o.dst o.op fr H H' = .non ∨ (i, effOf c f o.dst o.op fr H H') ∈ log') := by
  unfold logO at h
  split at h
  · rename_i he
    simp only [R.ok.injEq] at h
    subst h
    rw [he]
    exact ⟨fun k e' _ => .inr (fits_non_right _ _), fun x hx => hx, .inl rfl⟩
  · split at h
    · rename_i hf
      simp only [R.ok.injEq] at h
      subst h
      exact ⟨fun k e' hm => fitsAll_ok hf k e' hm, fun x hx => List.mem_cons_of_mem _ hx, .inr (List.mem_cons_self ..)⟩
    · cases h

theorem opsD_run : ∀ (l : List Oper) (i : Nat) (log : List (Nat × Eff)) (ex : Ex) (fr' : Fr) (H' : Heap), opsD c call f Q ops base l i (runT c call f Q ops base s0 i).1 (runT c call f Q ops base s0 i).2 log = .ok (ex, fr', H') →
    l = ops.toList.drop i → i ≤ ops.size → (∀ k, k < i → effT c call f Q ops base s0 k = .non ∨ (k, effT c call f Q ops base s0 k) ∈ log) →
    ex = .normal ∧ (fr', H') = runT c call f Q ops base s0 ops.size ∧ ∀ j, i ≤ j → j < ops.size → GoodT c call f Q ops base (runT c call f Q ops base s0) (effT c call f Q ops base s0) j ∧
      ∀ k, k < j → bitB ops j k = true ∨ ∃ fr0, fits fr0 (effT c call f Q ops base s0 k) (effT c call f Q ops base s0 j) = true
  | [], i, log, ex, fr', H', h, hl, hi, hlog => by
    have h : (R.ok (Ex.normal, (runT c call f Q ops base s0 i).1, (runT c call f Q ops base s0 i).2) : R (Ex × Fr × Heap)) = .ok (ex, fr', H') := h
    simp only [R.ok.injEq, Prod.mk.injEq] at h
    obtain ⟨rfl, rfl, rfl⟩ := h
    have hsz : ops.size = i := by
      have := congrArg List.length hl
      simp at this
      omega
    rw [hsz]
    exact ⟨rfl, rfl, fun j h1 h2 => by omega⟩
  | o :: l, i, log, ex, fr', H', h, hl, hi, hlog => by
    have hlt : i < ops.size := by
      have := congrArg List.length hl
      simp at this
      omega
    have ho : ops[i]? = some o := by
      have : (ops.toList.drop i)[0]? = some o := by rw [← hl]; rfl
      simpa using this
    have hl' : l = ops.toList.drop (i + 1) := by
      have : (ops.toList.drop i).tail = l := by rw [← hl]; rfl
      rw [← this, List.tail_drop]
    have ih := fun log ex fr' H' => opsD_run l (i + 1) log ex fr' H'
    generalize hT : runT c call f Q ops base s0 = T at *
    generalize hE : effT c call f Q ops base s0 = eff at *
    have hTs : T (i + 1) = (stepT c call f Q ops base i (T i)).2 := by rw [← hT]; rfl
    have hEs : eff i = (stepT c call f Q ops base i (T i)).1 := by rw [← hT, ← hE]; rfl
    have h : (match guardO ops o.guard (T i).1 with
      | .ok true => stepD c call f Q ops i (base + i) o (T i).1 (T i).2 log (opsD c call f Q ops base l (i + 1))
      | .ok false => opsD c call f Q ops base l (i + 1) ((T i).1.put o.dst undefA) (T i).2 log
      | .no e => .no e) = .ok (ex, fr', H') := h
    split at h
    · rename_i hg
      unfold stepD at h
      split at h
      · rename_i v fr1 H1 hop
        split at h
        rotate_left
        · cases h
        rename_i log' hlg
        have hst : stepT c call f Q ops base i (T i) = (effOf c f o.dst o.op (T i).1 (T i).2 H1, (fr1.put o.dst v, H1)) := by
          simp only [stepT, ho, hg, hop]
        rw [hst] at hTs hEs
        obtain ⟨h1, h2, h3⟩ := logO_ok hlg
        have := ih log' ex fr' H' (by rw [hTs]; exact h) hl' hlt (fun k hk => by
          rcases Nat.lt_or_ge k i with hk' | hk'
          · exact (hlog k hk').imp id fun h => h2 _ h
          · have : k = i := by omega
            subst this
            rw [hEs]
            exact h3)
        obtain ⟨g1, g2, g3⟩ := this
        refine ⟨g1, g2, fun j hj1 hj2 => ?_⟩
        rcases Nat.lt_or_ge i j with hij | hij
        · exact g3 j hij hj2
        · have : j = i := by omega
          subst this
          refine ⟨⟨o, ho, .inl ⟨hg, v, fr1, H1, hop, hTs, hEs⟩⟩, fun k hk => ?_⟩
          rcases hlog k hk with hn | hm
          · rw [hn]; exact .inr ⟨(T j).1, fits_non_left _ _⟩
          · rw [hEs]
            exact (h1 k _ hm).imp id fun h => ⟨_, h⟩
      · cases h
      · cases h
    · rename_i hg
      have hst : stepT c call f Q ops base i (T i) = (.non, ((T i).1.put o.dst undefA, (T i).2)) := by
        simp only [stepT, ho, hg]
      rw [hst] at hTs hEs
      have := ih log ex fr' H' (by rw [hTs]; exact h) hl' hlt (fun k hk => by
          rcases Nat.lt_or_ge k i with hk' | hk'
          · exact hlog k hk'
          · have : k = i := by omega
            subst this
            exact .inl hEs)
      obtain ⟨g1, g2, g3⟩ := this
      refine ⟨g1, g2, fun j hj1 hj2 => ?_⟩
      rcases Nat.lt_or_ge i j with hij | hij
      · exact g3 j hij hj2
      · have : j = i := by omega
        subst this
        refine ⟨⟨o, ho, .inr ⟨hg, hTs, hEs⟩⟩, fun k hk => ?_⟩
        rw [hEs]
        exact .inr ⟨(T j).1, fits_non_right _ _⟩
    · cases h

end
end Go.Proofs.Ev
