/- Regions that draw their order: the proof. -/
import Derived.Test.YtanknkgbleeffaaGreatDoorEvDr
set_option linter.all false
namespace Go.Proofs.Ev
open Go
variable [Sg]

/-- of the operations that turn something, the first k are done, and no others -/
def Cut (n : Nat) (D W : Nat → Prop) (k : Nat) : Prop := ∀ j, j < n → W j → (D j ↔ j < k)

def dstAt (ops : Array Oper) (j : Nat) : Option Tmp := (ops[j]?).bind (·.dst)

section
variable {c : Cx} {call : Caller} {f : FuncId} {Q : Name} {ops : Array Oper} {base : Nat} {T : Nat → Fr × Heap} {eff : Nat → Eff}

theorem Same.put {k : Key} {fr : Fr} {H : Heap} {d : Option Tmp} {x : AV} : Same k fr H (fr.put d x) H := by
  cases d <;> cases k <;> simp [Same, Fr.put]

theorem Same.putR {k : Key} {fr0 fr : Fr} {H0 H : Heap} {d : Option Tmp} {x : AV} (h : Same k fr0 H0 fr H) : Same k fr0 H0 (fr.put d x) H := h.trans Same.put
theorem Same.putL {k : Key} {fr0 fr : Fr} {H0 H : Heap} {d : Option Tmp} {x : AV} (h : Same k fr0 H0 fr H) : Same k (fr0.put d x) H0 fr H := Same.put.symm.trans h

theorem get_put {d : Option Tmp} {x : AV} {fr : Fr} {t : Nat} : Tr.get (path t) (fr.put d x).tm = if d = some t then some x else Tr.get (path t) fr.tm := by
  cases d with
  | none => simp [Fr.put]
  | some u =>
    simp only [Fr.put, Tr.get_set_path, Option.some.injEq]
    by_cases h : t = u
    · subst h; simp
    · rw [if_neg h, if_neg (fun e => h e.symm)]

/-- one step of the text: what it turns -/
theorem GoodT.step (hq : QuietOk c call) {j : Nat} (h : GoodT c call f Q ops base T eff j) :
    (∀ t, dstAt ops j ≠ some t → Tr.get (path t) (T (j + 1)).1.tm = Tr.get (path t) (T j).1.tm) ∧ (T (j + 1)).1.ct = (T j).1.ct ∧
    (∀ k, ¬ Writes (dstAt ops j) (eff j) k → Same k (T j).1 (T j).2 (T (j + 1)).1 (T (j + 1)).2) ∧ (∀ b a, eff j = .heap b a → b = (T j).2 ∧ a = (T (j + 1)).2) := by
  obtain ⟨o, ho, h | h⟩ := h
  · obtain ⟨_, v, fr, H, hop, hT, he⟩ := h
    have hd : dstAt ops j = o.dst := by simp [dstAt, ho]
    obtain ⟨k1, k2, k3⟩ := opA_keep hq hop
    rw [← he, ← hd] at k3
    refine ⟨fun t ht => ?_, ?_, fun k hk => ?_, fun b a hba => ?_⟩
    · rw [hT, get_put, if_neg (by rw [← hd]; exact ht), k1]
    · rw [hT]; simp only [put_ct]; exact k2
    · rw [hT]; exact (k3 k hk).putR
    · rw [he] at hba; rw [hT]; exact effOf_heap hba
  · obtain ⟨_, hT, he⟩ := h
    have hd : dstAt ops j = o.dst := by simp [dstAt, ho]
    refine ⟨fun t ht => ?_, ?_, fun k _ => ?_, fun b a hba => ?_⟩
    · rw [hT, get_put, if_neg (by rw [← hd]; exact ht)]
    · rw [hT]; simp only [put_ct]
    · rw [hT]; exact Same.put
    · rw [he] at hba; cases hba

theorem stable_tm (hq : QuietOk c call) {n : Nat} (hg : ∀ j, j < n → GoodT c call f Q ops base T eff j) {t a : Nat} : ∀ b, a ≤ b → b ≤ n → (∀ j, a ≤ j → j < b → dstAt ops j ≠ some t) → Tr.get (path t) (T b).1.tm = Tr.get (path t) (T a).1.tm
  | 0, hab, _, _ => by have : a = 0 := by omega
                       subst this; rfl
  | b + 1, hab, hbn, h => by
    rcases Nat.lt_or_ge a (b + 1) with hlt | hge
    · rw [(hg b (by omega)).step hq |>.1 t (h b (by omega) (by omega))]
      exact stable_tm hq hg b (by omega) (by omega) fun j h1 h2 => h j h1 (by omega)
    · have : a = b + 1 := by omega
      subst this; rfl

theorem stable_key (hq : QuietOk c call) {n : Nat} (hg : ∀ j, j < n → GoodT c call f Q ops base T eff j) {x : Key} {a : Nat} : ∀ b, a ≤ b → b ≤ n → (∀ j, a ≤ j → j < b → ¬ Writes (dstAt ops j) (eff j) x) → Same x (T a).1 (T a).2 (T b).1 (T b).2
  | 0, hab, _, _ => by have : a = 0 := by omega
                       subst this; exact Same.refl _ _ _
  | b + 1, hab, hbn, h => by
    rcases Nat.lt_or_ge a (b + 1) with hlt | hge
    · exact (stable_key hq hg b (by omega) (by omega) fun j h1 h2 => h j h1 (by omega)).trans ((hg b (by omega)).step hq |>.2.2.1 x (h b (by omega) (by omega)))
    · have : a = b + 1 := by omega
      subst this; exact Same.refl _ _ _

/-- a state that some of the operations have come to -/
structure Agree (ops : Array Oper) (T : Nat → Fr × Heap) (eff : Nat → Eff) (D : Nat → Prop) (fr : Fr) (H : Heap) : Prop where
  tm : ∀ t k, k ≤ ops.size → Cut ops.size D (fun j => dstAt ops j = some t) k → Tr.get (path t) fr.tm = Tr.get (path t) (T k).1.tm
  key : ∀ x k, k ≤ ops.size → Cut ops.size D (fun j => Writes (dstAt ops j) (eff j) x) k → Same x (T k).1 (T k).2 fr H
  ct : fr.ct = (T 0).1.ct

theorem Agree.start (hq : QuietOk c call) (hg : ∀ j, j < ops.size → GoodT c call f Q ops base T eff j) : Agree ops T eff (fun _ => False) (T 0).1 (T 0).2 where
  tm t k hk hc := (stable_tm hq hg k (Nat.zero_le _) hk fun j _ h2 hd => ((hc j (by omega) hd).2 h2).elim).symm
  key x k hk hc := (stable_key hq hg k (Nat.zero_le _) hk fun j _ h2 hd => ((hc j (by omega) hd).2 h2).elim).symm
  ct := rfl

/-- the operations that are done are done with what is ahead of them -/
structure Shut (ops : Array Oper) (D : Nat → Prop) : Prop where
  shut : ∀ j, j < ops.size → D j → ∀ i, bitB ops j i = true → D i

structure Ahead (ops : Array Oper) (D : Nat → Prop) (i : Nat) (o : Oper) : Prop where
  at_ : ops[i]? = some o
  new : ¬ D i
  all : ∀ j, bitB ops i j = true → D j

theorem apart_no {x y : Oper} {t : Tmp} (h : (x.dst = some t ∧ (t ∈ y.looksAt ops ∨ y.dst = some t)) ∨ (y.dst = some t ∧ t ∈ x.looksAt ops)) : ¬ x.apart ops y = true := by
  intro ha
  obtain ⟨h1, h2, h3⟩ := Oper.apart_spec ha
  rcases h with ⟨hd, h | h⟩ | ⟨hd, h⟩
  · exact h1 t hd h
  · exact h2 t hd h
  · exact h3 t hd h

/-- whoever writes what an operation names is bound to it -/
theorem Ahead.cut_tm {D : Nat → Prop} {i : Nat} {o : Oper} (hr : RegOk ops) (hs : Shut ops D) (ha : Ahead ops D i o) {t : Tmp} (ht : t ∈ o.looksAt ops ∨ o.dst = some t) : Cut ops.size D (fun j => dstAt ops j = some t) i := by
  intro j hj hd
  have hi : i < ops.size := (Array.getElem?_eq_some_iff.1 ha.at_).1
  have hoj : ∃ oj, ops[j]? = some oj := ⟨ops[j], by simp [hj]⟩
  obtain ⟨oj, hoj⟩ := hoj
  have hdj : oj.dst = some t := by simpa [dstAt, hoj] using hd
  rcases Nat.lt_trichotomy j i with h | h | h
  · refine ⟨fun _ => h, fun _ => ?_⟩
    rcases hr.clash j i oj o h hoj ha.at_ with hap | hb
    · exact absurd hap (apart_no (.inl ⟨hdj, ht⟩))
    · exact ha.all j hb
  · subst h
    exact ⟨fun hD => absurd hD ha.new, fun hlt => absurd hlt (Nat.lt_irrefl _)⟩
  · refine ⟨fun hD => ?_, fun hlt => by omega⟩
    rcases hr.clash i j o oj h ha.at_ hoj with hap | hb
    · rcases ht with ht | ht
      · exact absurd hap (apart_no (.inr ⟨hdj, ht⟩))
      · exact absurd hap (apart_no (.inl ⟨ht, .inr hdj⟩))
    · exact absurd (hs.shut j hj hD i hb) ha.new

theorem Ahead.cut_key {D : Nat → Prop} {i : Nat} {o : Oper} (hr : RegOk ops) (hf : ∀ j, j < ops.size → ∀ k, k < j → bitB ops j k = true ∨ ∃ fr0, fits fr0 (eff k) (eff j) = true) (hs : Shut ops D) (ha : Ahead ops D i o) {x : Key} (hx : Reads (dstAt ops i) (eff i) x) :
    Cut ops.size D (fun j => Writes (dstAt ops j) (eff j) x) i := by
  intro j hj hw
  have hi : i < ops.size := (Array.getElem?_eq_some_iff.1 ha.at_).1
  have hdi : dstAt ops i = o.dst := by simp [dstAt, ha.at_]
  rcases conflict_of hx hw with hc | ⟨t, h1, h2⟩
  · rcases Nat.lt_trichotomy j i with h | h | h
    · refine ⟨fun _ => h, fun _ => ?_⟩
      rcases hf i hi j h with hb | ⟨fr0, hfit⟩
      · exact ha.all j hb
      · rw [(hc fr0).2] at hfit; cases hfit
    · subst h
      exact ⟨fun hD => absurd hD ha.new, fun hlt => absurd hlt (Nat.lt_irrefl _)⟩
    · refine ⟨fun hD => ?_, fun hlt => by omega⟩
      rcases hf j hj i h with hb | ⟨fr0, hfit⟩
      · exact absurd (hs.shut j hj hD i hb) ha.new
      · rw [(hc fr0).1] at hfit; cases hfit
  · exact ha.cut_tm hr hs (.inr (by rw [← hdi]; exact h1)) j hj h2

/-- memory's writers are done in their order -/
theorem heap_cut {D : Nat → Prop} (hf : ∀ j, j < ops.size → ∀ k, k < j → bitB ops j k = true ∨ ∃ fr0, fits fr0 (eff k) (eff j) = true) (hs : Shut ops D) : ∀ m, m ≤ ops.size → ∃ k, k ≤ m ∧ ∀ j, j < m → (∃ b a, eff j = .heap b a) → (D j ↔ j < k)
  | 0, _ => ⟨0, Nat.le_refl _, fun j hj => absurd hj (Nat.not_lt_zero _)⟩
  | m + 1, hm => by
    obtain ⟨k, hk, h⟩ := heap_cut hf hs m (by omega)
    by_cases hw : ∃ b a, eff m = .heap b a
    · by_cases hD : D m
      · refine ⟨m + 1, Nat.le_refl _, fun j hj hwj => ⟨fun _ => hj, fun _ => ?_⟩⟩
        rcases Nat.lt_or_ge j m with hlt | hge
        · rcases hf m (by omega) j hlt with hb | ⟨fr0, hfit⟩
          · exact hs.shut m (by omega) hD j hb
          · obtain ⟨b, a, h1⟩ := hw
            obtain ⟨b', a', h2⟩ := hwj
            rw [h1, h2] at hfit
            cases hfit
        · have : j = m := by omega
          subst this; exact hD
      · refine ⟨k, by omega, fun j hj hwj => ?_⟩
        rcases Nat.lt_or_ge j m with hlt | hge
        · exact h j hlt hwj
        · have : j = m := by omega
          subst this
          exact ⟨fun h => absurd h hD, fun h => by omega⟩
    · refine ⟨k, by omega, fun j hj hwj => ?_⟩
      rcases Nat.lt_or_ge j m with hlt | hge
      · exact h j hlt hwj
      · have : j = m := by omega
        subst this
        exact absurd hwj hw

theorem writes_hp {d : Option Tmp} {e : Eff} : Writes d e .hp ↔ ∃ b a, e = .heap b a := by
  cases e <;> simp [Writes]

/-- a load is the same wherever memory's writers may stand -/
theorem load_between (hq : QuietOk c call) (hg : ∀ j, j < ops.size → GoodT c call f Q ops base T eff j) {p : AV} {m a : Nat} (hp : ∃ o v i, p = .ptr o v i) : ∀ b, a ≤ b → b ≤ ops.size →
    (∀ j, a ≤ j → j < b → ∀ H1 H2, eff j = .heap H1 H2 → ∃ fr0, sameLoad fr0 H1 H2 p m = true) → ∀ fr1 fr2, loadN fr1 (T b).2 p m = loadN fr2 (T a).2 p m
  | 0, hab, _, _, fr1, fr2 => by
    have : a = 0 := by omega
    subst this
    obtain ⟨o, v, i, rfl⟩ := hp
    exact loadN_ptr
  | b + 1, hab, hbn, h, fr1, fr2 => by
    rcases Nat.lt_or_ge a (b + 1) with hlt | hge
    · have ih := load_between hq hg hp b (by omega) (by omega) (fun j h1 h2 => h j h1 (by omega)) fr1 fr2
      obtain ⟨_, _, s3, s4⟩ := (hg b (by omega)).step hq
      by_cases hw : ∃ x y, eff b = .heap x y
      · obtain ⟨x, y, he⟩ := hw
        obtain ⟨fr0, hsl⟩ := h b (by omega) (by omega) x y he
        obtain ⟨rfl, rfl⟩ := s4 x y he
        have := sameLoad_eq hsl
        obtain ⟨o, v, i, rfl⟩ := hp
        rw [← ih]
        exact this.symm
      · have := s3 .hp (fun hh => hw (writes_hp.1 hh))
        rw [this.1]
        exact ih
    · have : a = b + 1 := by omega
      subst this
      obtain ⟨o, v, i, rfl⟩ := hp
      exact loadN_ptr

theorem ev_eq {fr2 fr : Fr} {x : Operand} (h : ∀ t, x = .tmp t → Tr.get (path t) fr2.tm = Tr.get (path t) fr.tm) : fr2.ev c x = fr.ev c x := by
  cases x with
  | tmp t => simp only [Fr.ev, h t rfl]
  | _ => rfl

theorem guardO_congr {g : Option (Nat × Bool)} {fr2 fr : Fr} (h : ∀ j x t, g = some (j, x) → dstAt ops j = some t → Tr.get (path t) fr2.tm = Tr.get (path t) fr.tm) : guardO ops g fr2 = guardO ops g fr := by
  unfold guardO
  cases g with
  | none => rfl
  | some jx =>
    obtain ⟨j, x⟩ := jx
    have : yieldedA ops fr2 j = yieldedA ops fr j := by
      unfold yieldedA
      cases ho : ops[j]? with
      | none => rfl
      | some o =>
        obtain ⟨dst, op, type, pos, after, guard⟩ := o
        cases dst with
        | none => rfl
        | some t => simp only [h j x t rfl (by simp [dstAt, ho])]
    simp only [this]

/-- an operation that is ahead answers as it does in the text, and what it comes to agrees -/
theorem Agree.next (hq : QuietOk c call) (hr : RegOk ops) (hg : ∀ j, j < ops.size → GoodT c call f Q ops base T eff j) (hf : ∀ j, j < ops.size → ∀ k, k < j → bitB ops j k = true ∨ ∃ fr0, fits fr0 (eff k) (eff j) = true)
    {D : Nat → Prop} {i : Nat} {o : Oper} {fr : Fr} {H : Heap} (hs : Shut ops D) (ha : Ahead ops D i o) (hA : Agree ops T eff D fr H) :
    (guardO ops o.guard fr = .ok true ∧ ∃ v fr' H', opA c call f Q (base + i) o.dst o.op fr H = .ok (.val v fr' H') ∧ Agree ops T eff (fun j => D j ∨ j = i) (fr'.put o.dst v) H') ∨
    (guardO ops o.guard fr = .ok false ∧ Agree ops T eff (fun j => D j ∨ j = i) (fr.put o.dst undefA) H) := by
  have hi : i < ops.size := (Array.getElem?_eq_some_iff.1 ha.at_).1
  have hdi : dstAt ops i = o.dst := by simp [dstAt, ha.at_]
  have htm : ∀ t, t ∈ o.looksAt ops → Tr.get (path t) fr.tm = Tr.get (path t) (T i).1.tm := fun t ht => hA.tm t i (by omega) (ha.cut_tm hr hs (.inl ht))
  have hev : ∀ x ∈ o.op.operands.toList, fr.ev c x = (T i).1.ev c x := fun x hx => ev_eq fun t ht => htm t (by
    subst ht
    exact List.mem_append_left _ (List.mem_filterMap.2 ⟨.tmp t, hx, rfl⟩))
  have hgu : guardO ops o.guard fr = guardO ops o.guard (T i).1 := guardO_congr fun j x t hjx hd => htm t (by
    refine List.mem_append_right _ ?_
    rw [hjx]
    simp only [Option.mem_toList]
    simpa [dstAt] using hd)
  -- what the new state agrees with
  have fin : ∀ (fr' : Fr) (H' : Heap) (v : AV), Tr.get (path 0) fr'.tm = Tr.get (path 0) fr'.tm → (∀ t, Tr.get (path t) fr'.tm = Tr.get (path t) fr.tm) → fr'.ct = fr.ct → (∀ x, Writes (dstAt ops i) (eff i) x → Same x (T (i + 1)).1 (T (i + 1)).2 fr' H') → (∀ x, ¬ Writes (dstAt ops i) (eff i) x → Same x fr H fr' H') →
      (∀ t, o.dst = some t → Tr.get (path t) (T (i + 1)).1.tm = some v) → Agree ops T eff (fun j => D j ∨ j = i) (fr'.put o.dst v) H' := by
    intro fr' H' v _ h1 h2 h3 h4 h5
    refine ⟨fun t k hk hc => ?_, fun x k hk hc => ?_, by rw [put_ct, h2]; exact hA.ct⟩
    · rw [get_put]
      by_cases hd : o.dst = some t
      · rw [if_pos hd]
        have hik : i < k := (hc i hi (hdi.trans hd)).1 (.inr rfl)
        rw [stable_tm hq hg k (a := i + 1) (by omega) hk, h5 t hd]
        intro j hj1 hj2 hdj
        have hDj : D j := ((hc j (by omega) hdj).2 hj2).resolve_right (by omega)
        have := (ha.cut_tm hr hs (.inr hd)) j (by omega) hdj
        have := this.1 hDj
        omega
      · rw [if_neg hd, h1]
        refine hA.tm t k hk fun j hj hdj => ?_
        have hne : j ≠ i := by rintro rfl; exact hd (hdi.symm.trans hdj)
        have := hc j hj hdj
        exact ⟨fun h => this.1 (.inl h), fun h => (this.2 h).resolve_right hne⟩
    · refine Same.putR ?_
      by_cases hw : Writes (dstAt ops i) (eff i) x
      · have hik : i < k := (hc i hi hw).1 (.inr rfl)
        have hst := stable_key hq hg k (a := i + 1) (x := x) (by omega) hk (by
          intro j hj1 hj2 hdj
          have hDj : D j := ((hc j (by omega) hdj).2 hj2).resolve_right (by omega)
          have := (ha.cut_key hr hf hs hw.reads) j (by omega) hdj
          have := this.1 hDj
          omega)
        exact hst.symm.trans (h3 x hw)
      · have := hA.key x k hk fun j hj hdj => ?_
        · exact this.trans (h4 x hw)
        · have hne : j ≠ i := by rintro rfl; exact hw hdj
          have := hc j hj hdj
          exact ⟨fun h => this.1 (.inl h), fun h => (this.2 h).resolve_right hne⟩
  obtain ⟨o', ho', h | h⟩ := hg i hi
  · rw [ha.at_] at ho'
    cases ho'
    obtain ⟨g1, v, fr1, H1, hop, hT, he⟩ := h
    refine .inl ⟨hgu.trans g1, ?_⟩
    have hal : Alike o.dst (effOf c f o.dst o.op (T i).1 (T i).2 H1) (T i).1 (T i).2 fr H := by
      rw [← he, ← hdi]
      refine ⟨fun x hx => hA.key x i (by omega) (ha.cut_key hr hf hs hx), fun p m hpm => ?_⟩
      obtain ⟨k, hk, hcut⟩ := heap_cut hf hs ops.size (Nat.le_refl _)
      have hH : H = (T k).2 := (hA.key .hp k hk fun j hj hw => hcut j hj (writes_hp.1 hw)).1
      have hptr : ∃ o v i, p = .ptr o v i := by rw [he] at hpm; exact effOf_hload hpm
      rw [hH]
      rcases Nat.le_total k i with hki | hik
      · have := load_between (m := m) hq hg hptr i hki (by omega) (fun j h1 h2 Ha Hb hj => by
          have hnD : ¬ D j := fun hD => by have := (hcut j (by omega) ⟨_, _, hj⟩).1 hD; omega
          rcases hf i hi j h2 with hb | ⟨fr0, hfit⟩
          · exact absurd (ha.all j hb) hnD
          · rw [hj, hpm] at hfit; exact ⟨fr0, hfit⟩) (T i).1 fr
        exact this.symm
      · exact load_between (m := m) hq hg hptr k hik hk (fun j h1 h2 Ha Hb hj => by
          have hD : D j := (hcut j (by omega) ⟨_, _, hj⟩).2 h2
          have hne : j ≠ i := by rintro rfl; exact ha.new hD
          rcases hf j (by omega) i (by omega) with hb | ⟨fr0, hfit⟩
          · exact absurd (hs.shut j (by omega) hD i hb) ha.new
          · rw [hj, hpm] at hfit; exact ⟨fr0, hfit⟩) fr (T i).1
    obtain ⟨fr2', H2', hop2, hw⟩ := opA_move hq hop hev hal
    obtain ⟨k1, k2, k3⟩ := opA_keep hq hop2
    refine ⟨v, fr2', H2', hop2, fin fr2' H2' v rfl (fun t => by rw [k1]) k2 (fun x hx => ?_) (fun x hx => k3 x fun hw2 => hx ?_) (fun t ht => ?_)⟩
    · rw [hT]
      rw [hdi, he] at hx
      exact (hw x hx).putL
    · rw [hdi, he]
      rw [effOf_congr hev] at hw2
      exact writes_heaps hw2
    · rw [hT, get_put, if_pos ht]
  · rw [ha.at_] at ho'
    cases ho'
    obtain ⟨g1, hT, he⟩ := h
    refine .inr ⟨hgu.trans g1, fin fr H undefA rfl (fun _ => rfl) rfl (fun x hx => ?_) (fun x _ => .refl _ _ _) (fun t ht => by rw [hT, get_put, if_pos ht])⟩
    rw [he] at hx
    cases x <;> cases hx

end
end Go.Proofs.Ev
