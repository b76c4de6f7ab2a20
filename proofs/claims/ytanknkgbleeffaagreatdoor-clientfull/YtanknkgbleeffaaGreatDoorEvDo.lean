/- Regions that draw their order: the machine. -/
import Derived.Test.YtanknkgbleeffaaGreatDoorEvDs
set_option linter.all false
namespace Go.Proofs.Ev
open Go
variable [Sg]

section
variable {P : Program} {cx : Cx} {Q : Name} {N : Nat} {S : Nat → Prop} {E : Env} {own : Nat → Tag} {H H' : Heap} {m : Mine} {fr fr' : Fr} {a : Act} {w : World} {b : Frame} {stk : Bool → List Frame} {call : Caller} {ops : Array Oper} {k : List Item} {f : FuncId}
  {base : Nat} {T : Nat → Fr × Heap} {eff : Nat → Eff}

theorem viewOf_congr {m : Mine} {fl fl' : Tr (Nat × Nat)} (h : ∀ t, Tr.get (path t) fl' = Tr.get (path t) fl) : viewOf m fl' = viewOf m fl := by
  unfold viewOf
  simp only [h]

theorem St.congr (hs : St cx Q N S E own H m fr a w) (h1 : ∀ t, Tr.get (path t) fr'.tm = Tr.get (path t) fr.tm) (h2 : ∀ t, Tr.get (path t) fr'.lc = Tr.get (path t) fr.lc) (h3 : ∀ t, Tr.get (path t) fr'.fl = Tr.get (path t) fr.fl) (h4 : fr'.df = fr.df) :
    St cx Q N S E own H m fr' a w := by
  have hv := viewOf_congr (m := m) h3
  refine ⟨hs.inv, ⟨hs.frm.size, fun t => ?_, fun t kk cs hl => ?_, fun t kk n hl => ?_⟩, hs.glb, hs.fresh, by rw [h4]; exact hs.df, hs.lim⟩
  · rw [hv]
    have := hs.frm.tms t
    unfold tmOf at this ⊢
    rw [h1]
    exact this
  · rw [hv]
    rw [h2] at hl
    exact hs.frm.lcs t kk cs hl
  · rw [h3] at hl
    exact hs.frm.fls t kk n hl

theorem St.drawn (hs : St cx Q N S E own H m fr a w) {d : Nat} : St cx Q N S E own H m fr a { w with drawn := d } := by
  refine ⟨⟨hs.inv.frz, hs.inv.siz, hs.inv.bnd, hs.inv.lbnd, hs.inv.obj, hs.inv.lop, hs.inv.big, hs.inv.ver⟩, ⟨hs.frm.size, hs.frm.tms, hs.frm.lcs, hs.frm.fls⟩, hs.glb, hs.fresh, ?_, hs.lim⟩
  exact DfI.step (w := w) (.refl E) (fun b hb _ => ⟨hb, rfl⟩) (Nat.le_refl w.heap.size) hs.df

theorem Sim.drawn {d : Nat} {M : Machine} {ex : Ex} (h : Sim P cx Q N E own H fr { w with drawn := d } b stk M k ex fr' H') : Sim P cx Q N E own H fr w b stk M k ex fr' H' := by
  obtain ⟨E', own', m', a', w', g1, g2, g3, g4, g5, g6⟩ := h
  exact ⟨E', own', m', a', w', g1, ⟨g2.env, g2.size, g2.keep, g2.tags, g2.frz, g2.names, g2.lnames, g2.outer⟩, g3, g4, g5, g6⟩

/-- which operations are done -/
def Listed (listed : Array Bool) (j : Nat) : Prop := listed.getD j false = true

theorem listed_set {listed : Array Bool} {i : Nat} (hi : i < listed.size) : Listed (listed.setIfInBounds i true) = fun j => Listed listed j ∨ j = i := by
  funext j
  apply propext
  unfold Listed
  by_cases h : j = i
  · subst h; simp [hi]
  · simp [Array.getElem?_setIfInBounds, Ne.symm h, h]

theorem getD_two {listed : Array Bool} {j : Nat} (hj : j < listed.size) (x y : Bool) : listed.getD j x = listed.getD j y := by
  simp [hj]

theorem filter_dec {p q : Nat → Bool} : ∀ {l : List Nat} {i : Nat}, (∀ x, q x = true → p x = true) → i ∈ l → p i = true → q i = false → (l.filter q).length < (l.filter p).length
  | [], _, _, h, _, _ => by cases h
  | x :: l, i, hqp, hm, hp, hq => by
    have hle : ∀ l : List Nat, (l.filter q).length ≤ (l.filter p).length := fun l => by
      induction l with
      | nil => simp
      | cons y l ih =>
        simp only [List.filter_cons]
        cases hy : q y
        · cases hpy : p y <;> simp <;> omega
        · rw [hqp y hy]; simp; exact ih
    rcases List.mem_cons.1 hm with rfl | hm
    · simp only [List.filter_cons, hp, hq, if_true, Bool.false_eq_true, if_false, List.length_cons]
      have := hle l
      omega
    · have ih := filter_dec (l := l) hqp hm hp hq
      simp only [List.filter_cons]
      cases hy : q x
      · cases hpy : p x <;> simp <;> omega
      · rw [hqp x hy]; simp; exact ih

theorem all_listed (hr : RegOk ops) {listed : Array Bool} (hsz : listed.size = ops.size) (h : Region.ready .any ops listed = []) : ∀ j, j < ops.size → Listed listed j := by
  intro j
  induction j using Nat.strongRecOn with
  | ind j ih =>
    intro hj
    cases hx : listed.getD j false with
    | true => exact hx
    | false =>
      have : j ∈ Region.ready .any ops listed := by
        refine mem_ready.2 ⟨by rw [getD_two (by omega) true false]; exact hx, ops[j], by simp [hj], fun e he hb => ?_⟩
        have hlt := hr.edges j ops[j] (by simp [hj]) e (by simpa using he) hb
        exact ih e.on hlt (by omega)
      rw [h] at this
      cases this

theorem Agree.last {D : Nat → Prop} (hA : Agree ops T eff D fr H) (hD : ∀ j, j < ops.size → D j) : (∀ t, Tr.get (path t) (T ops.size).1.tm = Tr.get (path t) fr.tm) ∧ ∀ x, Same x fr H (T ops.size).1 (T ops.size).2 := by
  have hcut : ∀ W, Cut ops.size D W ops.size := fun W j hj _ => ⟨fun _ => hj, fun _ => hD j hj⟩
  exact ⟨fun t => (hA.tm t _ (Nat.le_refl _) (hcut _)).symm, fun x => (hA.key x _ (Nat.le_refl _) (hcut _)).symm⟩

theorem go_end (hA : Agree ops T eff (fun _ => True) fr H) (hTc : (T ops.size).1.ct = base + ops.size) (hct : fr.ct = base + ops.size) (hs : St cx Q N (fun x => base + ops.size ≤ x) E own H m fr a w) (hrec : RecI E b stk fr) :
    Sim P cx Q N E own H fr w b stk (lone (b.atR a (.inRegion ops [] :: k)) (stk fr.rd) w) k .normal (T ops.size).1 (T ops.size).2 := by
  obtain ⟨h1, h2⟩ := hA.last fun _ _ => trivial
  obtain ⟨hH, hdf, hrc, hrd⟩ := h2 .hp
  have hst := hs.congr (fr' := (T ops.size).1) h1 (fun t => h2 (.lc t)) (fun t => h2 (.fl t)) hdf
  rw [hH]
  refine ⟨E, own, m, a, w, ?_, .refl _ _ _ _, .refl _ _, RecI.mono (.refl E) hrc hrd hrec, by rw [hTc, hct]; exact Nat.le_refl _, ?_⟩
  · rw [hTc]; exact hst
  · rw [hrd]; exact .one stepR_region_end

theorem go_ok (g : Good P cx) (co : CallOk P cx call) (hq : QuietOk cx call) (hN : ∀ o ∈ ops.toList, ∀ d, o.dst = some d → d < N) (hr : RegOk ops) (hg : ∀ j, j < ops.size → GoodT cx call f Q ops base T eff j)
    (hf : ∀ j, j < ops.size → ∀ k, k < j → bitB ops j k = true ∨ ∃ fr0, fits fr0 (eff k) (eff j) = true) (hT0 : (T 0).1.ct = base + ops.size) (hTc : (T ops.size).1.ct = base + ops.size) :
    ∀ (fuel t : Nat) (listed : Array Bool) (fr : Fr) (H : Heap) (E : Env) (own : Nat → Tag) (m : Mine) (a : Act) (w : World), listed.size = ops.size → ((List.range ops.size).filter fun j => !listed.getD j false).length ≤ fuel →
      (∀ j o, ops[j]? = some o → Listed listed j → ∀ e ∈ o.after, Region.binds .any e = true → Listed listed e.on) → Agree ops T eff (Listed listed) fr H →
      St cx Q N (fun x => base + ops.size ≤ x ∨ ∃ j, j < ops.size ∧ x = base + j ∧ ¬ Listed listed j) E own H m fr a w → RecI E b stk fr →
      Sim P cx Q N E own H fr w b stk (lone (b.atR a (.inRegion ops (Region.linearise.go .any ops fuel t listed []) :: k)) (stk fr.rd) w) k .normal (T ops.size).1 (T ops.size).2 := by
  -- when all are done
  have done : ∀ (listed : Array Bool) (fr : Fr) (H : Heap) (E : Env) (own : Nat → Tag) (m : Mine) (a : Act) (w : World), (∀ j, j < ops.size → Listed listed j) → Agree ops T eff (Listed listed) fr H →
      St cx Q N (fun x => base + ops.size ≤ x ∨ ∃ j, j < ops.size ∧ x = base + j ∧ ¬ Listed listed j) E own H m fr a w → RecI E b stk fr →
      Sim P cx Q N E own H fr w b stk (lone (b.atR a (.inRegion ops [] :: k)) (stk fr.rd) w) k .normal (T ops.size).1 (T ops.size).2 := by
    intro listed fr H E own m a w hall hA hs hrec
    refine go_end (base := base) (eff := eff) ⟨fun t kk hk hc => hA.tm t kk hk fun j hj hw => ⟨fun _ => (hc j hj hw).1 trivial, fun _ => hall j hj⟩, fun x kk hk hc => hA.key x kk hk fun j hj hw => ⟨fun _ => (hc j hj hw).1 trivial, fun _ => hall j hj⟩, hA.ct⟩ hTc (hA.ct.trans hT0) (hs.mono fun x hx => .inl hx) hrec
  intro fuel
  induction fuel with
  | zero =>
    intro t listed fr H E own m a w hsz hlen hE hA hs hrec
    refine done listed fr H E own m a w (fun j hj => ?_) hA hs hrec
    cases hx : listed.getD j false with
    | true => exact hx
    | false =>
      have : j ∈ (List.range ops.size).filter fun j => !listed.getD j false := List.mem_filter.2 ⟨List.mem_range.2 hj, by rw [hx]; rfl⟩
      rw [List.length_eq_zero_iff.1 (Nat.le_zero.1 hlen)] at this
      cases this
  | succ fuel ih =>
    intro t listed fr H E own m a w hsz hlen hE hA hs hrec
    simp only [Region.linearise.go]
    show Sim P cx Q N E own H fr w b stk (lone (b.atR a (.inRegion ops (match (Region.ready .any ops listed)[t % (Region.ready .any ops listed).length]? with
      | some i => Region.linearise.go .any ops fuel (t / (Region.ready .any ops listed).length) (listed.setIfInBounds i true) [i]
      | none => [].reverse) :: k)) (stk fr.rd) w) k .normal (T ops.size).1 (T ops.size).2
    cases hi : (Region.ready .any ops listed)[t % (Region.ready .any ops listed).length]? with
    | none =>
      have hnil : Region.ready .any ops listed = [] := by
        cases hr' : Region.ready .any ops listed with
        | nil => rfl
        | cons x xs =>
          rw [hr'] at hi
          have hlt : t % (x :: xs).length < (x :: xs).length := Nat.mod_lt _ (by simp)
          simp at hi
          simp at hlt
          omega
      exact done listed fr H E own m a w (all_listed hr hsz hnil) hA hs hrec
    | some i =>
      simp only []
      rw [linearise_go_acc, List.reverse_singleton, List.singleton_append]
      obtain ⟨rest, hrest⟩ : ∃ r, r = Region.linearise.go .any ops fuel (t / (Region.ready .any ops listed).length) (listed.setIfInBounds i true) [] := ⟨_, rfl⟩
      rw [← hrest]
      obtain ⟨hnew, o, ho, hall⟩ := mem_ready.1 (List.mem_of_getElem? hi)
      have hlt : i < ops.size := (Array.getElem?_eq_some_iff.1 ho).1
      have hnl : ¬ Listed listed i := by
        unfold Listed
        rw [getD_two (by omega) false true, hnew]
        simp
      have hshut : Shut ops (Listed listed) := ⟨fun j hj hD x hb => before_closed hE j ops[j] (by simp [hj]) (hE j ops[j] (by simp [hj]) hD) x hb⟩
      have hah : Ahead ops (Listed listed) i o := ⟨ho, hnl, fun j hb => before_closed hE i o ho hall j hb⟩
      have hdst : ∀ t, o.dst = some t → t < N := fun t ht => hN o (by have := Array.mem_of_getElem? ho; simpa using this) t ht
      have hset := listed_set (listed := listed) (i := i) (by omega)
      have hsz' : (listed.setIfInBounds i true).size = ops.size := by simp [hsz]
      have hlen' : ((List.range ops.size).filter fun j => !(listed.setIfInBounds i true).getD j false).length ≤ fuel := by
        have := filter_dec (l := List.range ops.size) (i := i) (p := fun j => !listed.getD j false) (q := fun j => !(listed.setIfInBounds i true).getD j false) (fun x hx => by
          by_cases hxi : x = i
          · subst hxi
            have : (listed.setIfInBounds x true).getD x false = true := by simp [show x < listed.size by omega]
            simp only [this] at hx
            cases hx
          · simpa only [getD_set_ne false (Ne.symm hxi)] using hx) (List.mem_range.2 hlt) (by
            have : listed.getD i false = false := by rw [getD_two (by omega) false true]; exact hnew
            simp only [this]; rfl) (by
            have : (listed.setIfInBounds i true).getD i false = true := by simp [show i < listed.size by omega]
            simp only [this]; rfl)
        omega
      have hE' : ∀ j o, ops[j]? = some o → Listed (listed.setIfInBounds i true) j → ∀ e ∈ o.after, Region.binds .any e = true → Listed (listed.setIfInBounds i true) e.on := by
        intro j oj hoj hL e he hb
        rw [hset] at hL ⊢
        rcases hL with hL | rfl
        · exact .inl (hE j oj hoj hL e he hb)
        · rw [ho] at hoj
          cases hoj
          exact .inl (hall e he hb)
      have hS : ∀ x, (base + ops.size ≤ x ∨ ∃ j, j < ops.size ∧ x = base + j ∧ ¬ Listed (listed.setIfInBounds i true) j) → (base + ops.size ≤ x ∨ ∃ j, j < ops.size ∧ x = base + j ∧ ¬ Listed listed j) ∧ x ≠ base + i := by
        intro x hx
        rw [hset] at hx
        rcases hx with hx | ⟨j, hj, rfl, hn⟩
        · exact ⟨.inl hx, by omega⟩
        · exact ⟨.inr ⟨j, hj, rfl, fun h => hn (.inl h)⟩, fun h => hn (.inr (by omega))⟩
      have hctT : ∀ {fr : Fr} {H : Heap} {D : Nat → Prop}, Agree ops T eff D fr H → fr.ct = base + ops.size := fun h => h.ct.trans hT0
      rcases hA.next hq hr hg hf hshut hah with ⟨hgu, v, fr1, H1, hop, hA'⟩ | ⟨hgu, hA'⟩
      · have hw := guardO_ok hs hN hgu
        obtain ⟨E1, own1, m1, df1, w1, val, h1, h2, h3, h4, h5, h6, h7, h8⟩ := opA_val (b := b) (stk := stk) (rest := rest) (k := k) g co ho hw hop hs (.inr ⟨i, hlt, rfl, hnl⟩) hrec
        rw [← hset] at hA'
        have hs1 := (h1.put h2 hdst).mono hS
        have := ih (t / (Region.ready .any ops listed).length) (listed.setIfInBounds i true) _ H1 E1 own1 m1 _ w1 hsz' hlen' hE' hA' hs1 h5.put
        refine Sim.of_steps h8 (Sim.after (fr1 := fr1.put o.dst v) h3 h4 (by rw [put_ct, h6]; exact Nat.le_refl _) ?_)
        rw [put_rd] at this
        rw [← hrest] at this
        exact this
      · have hw := guardO_ok hs hN hgu
        rw [← hset] at hA'
        have hs1 := (hs.put (x := undefA) (val := undef) (d := o.dst) (by simp [V, undefA, undef, Vs]) hdst).mono fun x hx => (hS x hx).1
        have := ih (t / (Region.ready .any ops listed).length) (listed.setIfInBounds i true) _ H E own m _ w hsz' hlen' hE' hA' hs1 hrec.put
        have hst := stepR_op_skip (P := P) (b := b) (a := a) (k := k) (cs := stk fr.rd) (w := w) (ops := ops) (i := i) (rest := rest) (by simp [ho, hw])
        rw [ho] at hst
        refine Sim.of_steps (.one hst) (Sim.after (fr1 := fr.put o.dst undefA) (.refl _ _ _ _) (.refl _ _) (by rw [put_ct]; exact Nat.le_refl _) ?_)
        rw [put_rd] at this
        rw [← hrest] at this
        exact this

theorem ct_run (hq : QuietOk cx call) (hg : ∀ j, j < ops.size → GoodT cx call f Q ops base T eff j) : ∀ j, j ≤ ops.size → (T j).1.ct = (T 0).1.ct
  | 0, _ => rfl
  | j + 1, hj => ((hg j (by omega)).step hq).2.1.trans (ct_run hq hg j (by omega))

/-- regions that draw their order are the machine's -/
theorem draw_ok (g : Good P cx) (co : CallOk P cx call) (hq : QuietOk cx call) (hm : P.follows .mixedOrders = true) : DrawOk P cx call := by
  intro f Q N ops rid fr H ex fr' H' hN hr h E own m a w b stk k hs hrec
  have h : opsD cx call f Q ops fr.ct ops.toList 0 { fr with ct := fr.ct + ops.size } H [] = .ok (ex, fr', H') := h
  obtain ⟨rfl, hend, hrun⟩ := opsD_run (s0 := ({ fr with ct := fr.ct + ops.size }, H)) ops.toList 0 [] ex fr' H' h rfl (Nat.zero_le _) (fun k hk => absurd hk (Nat.not_lt_zero _))
  generalize hT : runT cx call f Q ops fr.ct ({ fr with ct := fr.ct + ops.size }, H) = T at *
  generalize effT cx call f Q ops fr.ct ({ fr with ct := fr.ct + ops.size }, H) = eff at *
  have hT0 : T 0 = ({ fr with ct := fr.ct + ops.size }, H) := by rw [← hT]; rfl
  have hg : ∀ j, j < ops.size → GoodT cx call f Q ops fr.ct T eff j := fun j hj => (hrun j (Nat.zero_le _) hj).1
  have hf : ∀ j, j < ops.size → ∀ k, k < j → bitB ops j k = true ∨ ∃ fr0, fits fr0 (eff k) (eff j) = true := fun j hj => (hrun j (Nat.zero_le _) hj).2
  have hT0c : (T 0).1.ct = fr.ct + ops.size := by rw [hT0]
  have hTc : (T ops.size).1.ct = fr.ct + ops.size := (ct_run hq hg _ (Nat.le_refl _)).trans hT0c
  have hA : Agree ops T eff (fun _ => False) (T 0).1 (T 0).2 := Agree.start hq hg
  have hL0 : Listed (Array.replicate ops.size false) = fun _ => False := by
    funext j
    apply propext
    unfold Listed
    by_cases hj : j < ops.size <;> simp [hj]
  rw [← hL0, hT0] at hA
  have hs0 : St cx Q N (fun x => fr.ct + ops.size ≤ x ∨ ∃ j, j < ops.size ∧ x = fr.ct + j ∧ ¬ Listed (Array.replicate ops.size false) j) E own H m { fr with ct := fr.ct + ops.size } a { w with drawn := w.drawn + 1 } :=
    (hs.ct.drawn).mono fun x hx => by
      rcases hx with hx | ⟨j, _, rfl, _⟩
      · exact Nat.le_trans (Nat.le_add_right _ _) hx
      · exact Nat.le_add_right _ _
  have hgo := go_ok (b := b) (stk := stk) (k := k) g co hq hN hr hg hf hT0c hTc ops.size (w.tape w.drawn (.order b.fn rid)) (Array.replicate ops.size false) { fr with ct := fr.ct + ops.size } H E own m a { w with drawn := w.drawn + 1 } (by simp)
    (by have := List.length_filter_le (fun j => !(Array.replicate ops.size false).getD j false) (List.range ops.size); simpa using this) (fun j o _ hL => by rw [hL0] at hL; exact hL.elim) hA hs0 hrec
  rw [← hend] at hgo
  have hstep := stepR_region_draw (P := P) (b := b) (a := a) (k := k) (cs := stk fr.rd) (w := w) (ops := ops) (id := rid)
  have hsch : Region.schedule (P.follows .mixedOrders) ops (w.tape w.drawn (.order b.fn rid)) = Region.linearise.go .any ops ops.size (w.tape w.drawn (.order b.fn rid)) (Array.replicate ops.size false) [] := by
    simp only [Region.schedule, hm, Bool.true_or, if_true]
    rfl
  rw [hsch] at hstep
  exact Sim.ct (Nat.le_add_right _ _) (Sim.of_steps (.one hstep) hgo.drawn)

end
end Go.Proofs.Ev
