/- Structs and arrays of truths, numbers and texts: what '==' answers of them. -/
import Derived.Test.YtanknkgbleeffaaGreatDoorEvTab
import Derived.Laws.StructEq
import Derived.ChangeKeysEq
set_option linter.all false
namespace Go.Proofs.Ev
open Go
variable [Sg]

/-- values of given kinds -/
def conf : List Nat → List Value → Prop
  | [], [] => True
  | 0 :: ks, .bool _ :: r => conf ks r
  | 1 :: ks, .int _ _ :: r => conf ks r
  | 2 :: ks, .string _ :: r => conf ks r
  | _, _ => False

/-- are values alike? -/
def eqVals : List Value → List Value → Option Bool
  | [], [] => some true
  | .bool a :: r, .bool b :: s => if a == b then eqVals r s else some false
  | .int k a :: r, .int k' b :: s => if k = k' then (if a == b then eqVals r s else some false) else none
  | .string a :: r, .string b :: s => if a == b then eqVals r s else some false
  | _, _ => none

theorem conf.length : ∀ {ks : List Nat} {us : List Value}, conf ks us → us.length = ks.length
  | [], [], _ => rfl
  | [], _ :: _, h => by simp [conf] at h
  | k :: ks, [], h => by match k, h with
    | 0, h => simp [conf] at h
    | 1, h => simp [conf] at h
    | 2, h => simp [conf] at h
    | _ + 3, h => simp [conf] at h
  | k :: ks, u :: us, h => by
    match k, u, h with
    | 0, .bool _, h => simp only [conf] at h; simp [h.length]
    | 1, .int _ _, h => simp only [conf] at h; simp [h.length]
    | 2, .string _, h => simp only [conf] at h; simp [h.length]

theorem conf.split : ∀ {ks ls : List Nat} {us : List Value}, conf (ks ++ ls) us → conf ks (us.take ks.length) ∧ conf ls (us.drop ks.length)
  | [], ls, us, h => by simp [conf]; exact h
  | k :: ks, ls, [], h => by match k, h with
    | 0, h => simp [conf] at h
    | 1, h => simp [conf] at h
    | 2, h => simp [conf] at h
    | _ + 3, h => simp [conf] at h
  | k :: ks, ls, u :: us, h => by
    match k, u, h with
    | 0, .bool _, h => simp only [List.cons_append, conf] at h; simpa [conf] using h.split
    | 1, .int _ _, h => simp only [List.cons_append, conf] at h; simpa [conf] using h.split
    | 2, .string _, h => simp only [List.cons_append, conf] at h; simpa [conf] using h.split

theorem eqVals_split : ∀ {ks ls : List Nat} {us vs : List Value} {r : Bool}, conf (ks ++ ls) us → conf (ks ++ ls) vs → eqVals us vs = some r →
    (eqVals (us.take ks.length) (vs.take ks.length) = some false ∧ r = false) ∨ (eqVals (us.take ks.length) (vs.take ks.length) = some true ∧ eqVals (us.drop ks.length) (vs.drop ks.length) = some r)
  | [], ls, us, vs, r, _, _, h => by simp [eqVals, h]
  | k :: ks, ls, us, vs, r, hu, hv, h => by
    match k, us, vs, hu, hv, h with
    | 0, .bool a :: us, .bool b :: vs, hu, hv, h =>
      simp only [List.cons_append, conf] at hu hv
      cases hab : (a == b) with
      | true =>
        simp only [eqVals, hab, if_true] at h
        simp only [List.length_cons, List.take_succ_cons, List.drop_succ_cons, eqVals, hab, if_true]
        exact eqVals_split hu hv h
      | false =>
        simp only [eqVals, hab, Bool.false_eq_true, if_false, Option.some.injEq] at h
        simp only [List.length_cons, List.take_succ_cons, List.drop_succ_cons, eqVals, hab, Bool.false_eq_true, if_false]
        exact .inl ⟨trivial, h.symm⟩
    | 1, .int k a :: us, .int k' b :: vs, hu, hv, h =>
      simp only [List.cons_append, conf] at hu hv
      by_cases hk : k = k'
      · cases hab : (a == b) with
        | true =>
          simp only [eqVals, hk, hab, if_true] at h
          simp only [List.length_cons, List.take_succ_cons, List.drop_succ_cons, eqVals, hk, hab, if_true]
          exact eqVals_split hu hv h
        | false =>
          simp only [eqVals, hk, hab, if_true, Bool.false_eq_true, if_false, Option.some.injEq] at h
          simp only [List.length_cons, List.take_succ_cons, List.drop_succ_cons, eqVals, hk, hab, if_true, Bool.false_eq_true, if_false]
          exact .inl ⟨trivial, h.symm⟩
      · simp only [eqVals, hk, if_false] at h
        cases h
    | 2, .string a :: us, .string b :: vs, hu, hv, h =>
      simp only [List.cons_append, conf] at hu hv
      cases hab : (a == b) with
      | true =>
        simp only [eqVals, hab, if_true] at h
        simp only [List.length_cons, List.take_succ_cons, List.drop_succ_cons, eqVals, hab, if_true]
        exact eqVals_split hu hv h
      | false =>
        simp only [eqVals, hab, Bool.false_eq_true, if_false, Option.some.injEq] at h
        simp only [List.length_cons, List.take_succ_cons, List.drop_succ_cons, eqVals, hab, Bool.false_eq_true, if_false]
        exact .inl ⟨trivial, h.symm⟩

/-- the kinds of a type's cells -/
def fieldsK (P : Program) (rec : TypeId → Option (List Nat)) : List Field → Nat → Option (List Nat)
  | [], _ => some []
  | f :: fs, off => if f.name ≠ "_" ∧ f.offset = off then (match rec f.type with
      | some ks => if ks.length = P.cellsOf f.type ∧ (P.info? f.type).isSome = true then (match fieldsK P rec fs (off + ks.length) with
          | some ls => some (ks ++ ls)
          | none => none) else none
      | none => none) else none

def kindsT (P : Program) : Nat → TypeId → Option (List Nat)
  | 0, _ => none
  | d + 1, t => match P.underlying t with
    | some .bool => some [0]
    | some (.int _) => some [1]
    | some .string => some [2]
    | some (.array n e) => match kindsT P d e with
      | some ks => if ks.length = P.cellsOf e ∧ (P.info? e).isSome = true then some (List.replicate n ks).flatten else none
      | none => none
    | some (.struct fs) => if P.stoodInHeld t = false then fieldsK P (kindsT P d) fs.toList 0 else none
    | _ => none

/-- a type's value of given cells -/
def wrapT (P : Program) (t : TypeId) (us : List Value) : Value :=
  match P.underlying t with
  | some (.array _ _) | some (.struct _) => .agg ⟨us⟩
  | _ => us.headD undef

section
variable {P : Program}

/-- what is to be shown of a type -/
def EqT (P : Program) (d : Nat) (t : TypeId) (ks : List Nat) : Prop :=
  ∀ (w : World) (us vs : List Value) (r : Bool), conf ks us → conf ks vs → eqVals us vs = some r → (Op.equalIn d t (wrapT P t us) (wrapT P t vs)).run P w = .ok r w

theorem conf_one {us : List Value} : (conf [0] us → ∃ b, us = [.bool b]) ∧ (conf [1] us → ∃ k n, us = [.int k n]) ∧ (conf [2] us → ∃ s, us = [.string s]) := by
  refine ⟨fun h => ?_, fun h => ?_, fun h => ?_⟩
  · match us, h with
    | .bool b :: [], _ => exact ⟨b, rfl⟩
  · match us, h with
    | .int k n :: [], _ => exact ⟨k, n, rfl⟩
  · match us, h with
    | .string s :: [], _ => exact ⟨s, rfl⟩

theorem part_ok {e : TypeId} {info : TypeInfo} {d : TypeDesc} (hi : P.info? e = some info) (hd : P.underlying e = some d) {us : List Value} {off : Nat} {ks : List Nat} (hk : ks.length = P.cellsOf e) (hle : off + ks.length ≤ us.length) (hne : (shpD P d).isAgg = false → ks.length = 1) (w : World) :
    (part e ⟨us⟩ off).run P w = .ok (wrapT P e ((us.drop off).take ks.length)) w := by
  have hsz : P.cellsOf e = info.size := by simp [Program.cellsOf, hi]
  unfold part wrapT
  simp only [Sem.run_bind, run_isAgg w hd, Result.andThen_ok, hd]
  cases ha : (shpD P d).isAgg with
  | true =>
    simp only [if_true, Sem.run_bind, run_sizeOf' w hi, Result.andThen_ok, Sem.run_pure]
    have : (Array.extract ⟨us⟩ off (off + info.size) : Array Value) = ⟨(us.drop off).take ks.length⟩ := by
      rw [hk, hsz]
      simp [List.extract_eq_take_drop]
    rw [this]
    cases d <;> first | rfl | (simp [shpD, Shp.isAgg] at ha)
  | false =>
    have h1 := hne ha
    rw [h1] at hle ⊢
    have hlt : off < us.length := by omega
    have : (⟨us⟩ : Array Value)[off]? = some us[off] := by simp [hlt]
    simp only [Bool.false_eq_true, if_false, this, Sem.run_pure]
    have e2 : ((us.drop off).take 1).headD undef = us[off] := by
      rw [List.drop_eq_getElem_cons hlt]; rfl
    cases d <;> first | (simp [shpD, Shp.isAgg] at ha; done) | (simp only [e2])

theorem kinds_agg {d : Nat} {t : TypeId} {ks : List Nat} {td : TypeDesc} (h : kindsT P d t = some ks) (hd : P.underlying t = some td) (ha : (shpD P td).isAgg = false) : ks.length = 1 := by
  cases d with
  | zero => simp [kindsT] at h
  | succ d =>
    simp only [kindsT, hd] at h
    cases td <;> first
      | (simp [shpD, Shp.isAgg] at ha; done)
      | (simp only [Option.some.injEq] at h; subst h; rfl)
      | (cases h; done)

theorem fields_ok {d : Nat} (IH : ∀ t ks, kindsT P d t = some ks → EqT P d t ks) (us0 vs0 : List Value) : ∀ (fs : List Field) (off : Nat) (ks : List Nat), fieldsK P (kindsT P d) fs off = some ks → off ≤ us0.length → off ≤ vs0.length →
    ∀ (w : World) (r : Bool), conf ks (us0.drop off) → conf ks (vs0.drop off) → eqVals (us0.drop off) (vs0.drop off) = some r → (Op.eqFields d ⟨us0⟩ ⟨vs0⟩ fs).run P w = .ok r w
  | [], off, ks, h, _, _, w, r, hu, hv, he => by
    simp only [fieldsK, Option.some.injEq] at h
    subst h
    have h1 : us0.drop off = [] := List.eq_nil_of_length_eq_zero hu.length
    have h2 : vs0.drop off = [] := List.eq_nil_of_length_eq_zero hv.length
    rw [h1, h2] at he
    simp only [eqVals, Option.some.injEq] at he
    subst he
    simp [Op.eqFields]
  | f :: fs, off, ks, h, hou, hov, w, r, hu, hv, he => by
    simp only [fieldsK] at h
    split at h
    rotate_left
    · cases h
    rename_i hn
    obtain ⟨hn, rfl⟩ := hn
    split at h
    rotate_left
    · cases h
    rename_i ls hls
    split at h
    rotate_left
    · cases h
    rename_i hc
    obtain ⟨hlen, hinf⟩ := hc
    split at h
    rotate_left
    · cases h
    rename_i ms hms
    simp only [Option.some.injEq] at h
    subst h
    obtain ⟨info, hinfo⟩ := Option.isSome_iff_exists.1 hinf
    have hud := conf.length hu
    have hvd := conf.length hv
    simp only [List.length_append, List.length_drop] at hud hvd
    obtain ⟨hu1, hu2⟩ := hu.split
    obtain ⟨hv1, hv2⟩ := hv.split
    have hdn : ∃ td, P.underlying f.type = some td := by
      cases hx : P.underlying f.type with
      | some td => exact ⟨td, rfl⟩
      | none =>
        cases d with
        | zero => simp [kindsT] at hls
        | succ d => simp [kindsT, hx] at hls
    obtain ⟨td, htd⟩ := hdn
    have p1 := part_ok (us := us0) (off := f.offset) hinfo htd hlen (by omega) (kinds_agg hls htd) w
    have p2 := part_ok (us := vs0) (off := f.offset) hinfo htd hlen (by omega) (kinds_agg hls htd) w
    simp only [List.drop_drop] at hu2 hv2
    rcases eqVals_split hu hv he with ⟨h1, rfl⟩ | ⟨h1, h2⟩
    · have h3 := IH f.type ls hls w _ _ _ hu1 hv1 h1
      simp only [Op.eqFields, hn, ne_eq, not_false_eq_true, if_true, Sem.run_bind, p1, p2, h3, Result.andThen_ok]
      simp
    · have h3 := IH f.type ls hls w _ _ _ hu1 hv1 h1
      simp only [List.drop_drop] at h2
      have h4 := fields_ok IH us0 vs0 fs (f.offset + ls.length) ms hms (by omega) (by omega) w r hu2 hv2 h2
      simp only [Op.eqFields, hn, ne_eq, not_false_eq_true, if_true, Sem.run_bind, p1, p2, h3, Result.andThen_ok]
      simpa using h4

theorem items_ok {d n : Nat} {e : TypeId} {ks : List Nat} {info : TypeInfo} {td : TypeDesc} (IH : EqT P d e ks) (hk : kindsT P d e = some ks) (hinfo : P.info? e = some info) (htd : P.underlying e = some td) (hlen : ks.length = P.cellsOf e) (us0 vs0 : List Value) : ∀ (m i : Nat), i + m = n →
    i * ks.length ≤ us0.length → i * ks.length ≤ vs0.length → ∀ (w : World) (r : Bool), conf (List.replicate m ks).flatten (us0.drop (i * ks.length)) → conf (List.replicate m ks).flatten (vs0.drop (i * ks.length)) → eqVals (us0.drop (i * ks.length)) (vs0.drop (i * ks.length)) = some r →
    (Op.eqItems d e (P.cellsOf e) ⟨us0⟩ ⟨vs0⟩ (List.range' i m)).run P w = .ok r w
  | 0, i, _, _, _, w, r, hu, hv, he => by
    have h1 : us0.drop (i * ks.length) = [] := List.eq_nil_of_length_eq_zero hu.length
    have h2 : vs0.drop (i * ks.length) = [] := List.eq_nil_of_length_eq_zero hv.length
    rw [h1, h2] at he
    simp only [eqVals, Option.some.injEq] at he
    subst he
    simp [Op.eqItems]
  | m + 1, i, him, hou, hov, w, r, hu, hv, he => by
    rw [List.replicate_succ, List.flatten_cons] at hu hv
    have hud := conf.length hu
    have hvd := conf.length hv
    have hnext : i * ks.length + ks.length = (i + 1) * ks.length := by rw [Nat.add_mul, Nat.one_mul]
    obtain ⟨hu1, hu2⟩ := hu.split
    obtain ⟨hv1, hv2⟩ := hv.split
    simp only [List.length_append, List.length_drop] at hud hvd
    simp only [List.drop_drop, hnext] at hu2 hv2
    have hou2 : i * ks.length + ks.length ≤ us0.length := by
      generalize i * ks.length = off at *
      omega
    have hov2 : i * ks.length + ks.length ≤ vs0.length := by
      generalize i * ks.length = off at *
      omega
    have p1 := part_ok (us := us0) (off := i * ks.length) hinfo htd hlen hou2 (kinds_agg hk htd) w
    have p2 := part_ok (us := vs0) (off := i * ks.length) hinfo htd hlen hov2 (kinds_agg hk htd) w
    rw [List.range'_succ]
    rcases eqVals_split hu hv he with ⟨h1, rfl⟩ | ⟨h1, h2⟩
    · have h3 := IH w _ _ _ hu1 hv1 h1
      simp only [Op.eqItems, Sem.run_bind, ← hlen, p1, p2, h3, Result.andThen_ok]
      simp
    · have h3 := IH w _ _ _ hu1 hv1 h1
      simp only [List.drop_drop, hnext] at h2
      rw [hnext] at hou2 hov2
      have h4 := items_ok (n := n) IH hk hinfo htd hlen us0 vs0 m (i + 1) (by omega) hou2 hov2 w r hu2 hv2 h2
      rw [← hlen] at h4
      simp only [Op.eqItems, Sem.run_bind, ← hlen, p1, p2, h3, Result.andThen_ok]
      simpa using h4

theorem kinds_ok : ∀ (d : Nat) (t : TypeId) (ks : List Nat), kindsT P d t = some ks → EqT P d t ks
  | 0, t, ks, h => by simp [kindsT] at h
  | d + 1, t, ks, h => by
    intro w us vs r hu hv he
    simp only [kindsT] at h
    split at h
    · rename_i hd
      simp only [Option.some.injEq] at h
      subst h
      obtain ⟨a, rfl⟩ := conf_one.1 hu
      obtain ⟨b, rfl⟩ := conf_one.1 hv
      simp only [wrapT, hd, List.headD_cons]
      have : (a == b) = r := by simp only [eqVals] at he; cases a <;> cases b <;> simp_all
      rw [← this]
      simp [Op.equalIn, run_underlying hd]
    · rename_i k0 hd
      simp only [Option.some.injEq] at h
      subst h
      obtain ⟨k, a, rfl⟩ := conf_one.2.1 hu
      obtain ⟨k', b, rfl⟩ := conf_one.2.1 hv
      simp only [wrapT, hd, List.headD_cons]
      simp only [eqVals] at he
      split at he
      · rename_i hk
        subst hk
        have : (a == b) = r := by
          split at he
          · rename_i hab; simp only [Option.some.injEq] at he; rw [hab, he]
          · rename_i hab; simp only [Option.some.injEq] at he; rw [← he]; simpa using hab
        rw [← this]
        simp [Op.equalIn, run_underlying hd]
      · cases he
    · rename_i hd
      simp only [Option.some.injEq] at h
      subst h
      obtain ⟨a, rfl⟩ := conf_one.2.2 hu
      obtain ⟨b, rfl⟩ := conf_one.2.2 hv
      simp only [wrapT, hd, List.headD_cons]
      simp only [eqVals] at he
      have : (a == b) = r := by
        split at he
        · rename_i hab; simp only [Option.some.injEq] at he; rw [hab, he]
        · rename_i hab; simp only [Option.some.injEq] at he; rw [← he]; simpa using hab
      rw [← this]
      simp [Op.equalIn, run_underlying hd]
    · rename_i n e hd
      split at h
      rotate_left
      · cases h
      rename_i ks1 hk1
      split at h
      rotate_left
      · cases h
      rename_i hc
      obtain ⟨hlen, hinf⟩ := hc
      simp only [Option.some.injEq] at h
      subst h
      obtain ⟨info, hinfo⟩ := Option.isSome_iff_exists.1 hinf
      have hdn : ∃ td, P.underlying e = some td := by
        cases hx : P.underlying e with
        | some td => exact ⟨td, rfl⟩
        | none =>
          cases d with
          | zero => simp [kindsT] at hk1
          | succ d => simp [kindsT, hx] at hk1
      obtain ⟨td, htd⟩ := hdn
      simp only [wrapT, hd]
      rw [run_equalIn_array w d ⟨us⟩ ⟨vs⟩ hd hinfo, List.range_eq_range']
      exact items_ok (n := n) (kinds_ok d e ks1 hk1) hk1 hinfo htd hlen us vs n 0 (by omega) (by simp) (by simp) w r (by simpa using hu) (by simpa using hv) (by simpa using he)
    · rename_i fs hd
      split at h
      rotate_left
      · cases h
      rename_i hst
      have hfs : P.fieldsOf t = fs := by simp [Program.fieldsOf, hd]
      simp only [wrapT, hd]
      rw [run_equalIn_struct w d t ⟨us⟩ ⟨vs⟩ (by rw [hfs]; exact hd) hst, hfs]
      exact fields_ok (fun t ks h => kinds_ok d t ks h) us vs fs.toList 0 ks h (by simp) (by simp) w r (by simpa using hu) (by simpa using hv) (by simpa using he)
    · cases h

theorem vals_of {E : Env} {W : View} : ∀ {ks : List Nat} {xs : List AV} {us : List Value}, kindsOk ks xs = true → Vs E W xs us → conf ks us
  | [], [], us, _, h => by simp only [Vs] at h; subst h; trivial
  | [], _ :: _, us, hk, _ => by simp [kindsOk] at hk
  | k :: ks, [], us, hk, _ => by match k, hk with
    | 0, hk => simp [kindsOk] at hk
    | 1, hk => simp [kindsOk] at hk
    | 2, hk => simp [kindsOk] at hk
    | _ + 3, hk => simp [kindsOk] at hk
  | k :: ks, x :: xs, us, hk, h => by
    simp only [Vs] at h
    obtain ⟨v, s, rfl, hv, hs⟩ := h
    match k, x, hk with
    | 0, .bool b, hk => simp only [kindsOk] at hk; simp only [V] at hv; subst hv; show conf ks s; exact vals_of hk hs
    | 1, .int k n, hk => simp only [kindsOk] at hk; simp only [V] at hv; subst hv; show conf ks s; exact vals_of hk hs
    | 1, .sym k t lo hi, hk => simp only [kindsOk] at hk; simp only [V] at hv; obtain ⟨rfl, _⟩ := hv; show conf ks s; exact vals_of hk hs
    | 2, .str b, hk => simp only [kindsOk] at hk; simp only [V] at hv; obtain ⟨l, rfl, _⟩ := hv; show conf ks s; exact vals_of hk hs

theorem eqCell_ok {E : Env} {W : View} {x y : AV} {u v : Value} {b : Bool} (h : eqCell x y = .ok b) (hx : V E W x u) (hy : V E W y v) (us vs : List Value) : eqVals (u :: us) (v :: vs) = if b then eqVals us vs else some false := by
  unfold eqCell at h
  split at h
  · split at h
    rotate_left
    · cases h
    rename_i hk
    subst hk
    simp only [V] at hx hy
    obtain ⟨rfl, hx1, hx2⟩ := hx
    subst hy
    have := eqIv_ok h ⟨hx1, hx2⟩ ⟨Int.le_refl _, Int.le_refl _⟩ (fun e => by cases e)
    simp only [eqVals, if_true, this]
  · split at h
    rotate_left
    · cases h
    rename_i hk
    subst hk
    simp only [V] at hx hy
    obtain ⟨rfl, hy1, hy2⟩ := hy
    subst hx
    have := eqIv_ok h ⟨Int.le_refl _, Int.le_refl _⟩ ⟨hy1, hy2⟩ (fun e => by cases e)
    simp only [eqVals, if_true, this]
  · split at h
    rotate_left
    · cases h
    rename_i hk
    subst hk
    simp only [V] at hx hy
    obtain ⟨rfl, hx1, hx2⟩ := hx
    obtain ⟨rfl, hy1, hy2⟩ := hy
    have := eqIv_ok h ⟨hx1, hx2⟩ ⟨hy1, hy2⟩ (fun e => by rw [Nat.eq_of_beq_eq_true e])
    simp only [eqVals, if_true, this]
  · simp only [V] at hx hy
    subst hx; subst hy
    simp only [R.ok.injEq] at h
    simp only [eqVals, h]
  · split at h
    rotate_left
    · cases h
    rename_i hk
    subst hk
    simp only [V] at hx hy
    subst hx; subst hy
    simp only [R.ok.injEq, ieq_eq] at h
    simp only [eqVals, if_true, h]
  · simp only [V] at hx hy
    obtain ⟨l, rfl, rfl⟩ := hx
    obtain ⟨l', rfl, rfl⟩ := hy
    simp only [R.ok.injEq] at h
    have hb : ((⟨⟨l⟩⟩ : ByteArray) == ⟨⟨l'⟩⟩) = b := by
      rw [← h, sameStr_bytes, Bool.eq_iff_iff]
      show ((⟨l⟩ : Array UInt8) == ⟨l'⟩) = true ↔ (l == l') = true
      simp
    simp only [eqVals, hb]
  · cases h

theorem eqCells_ok {E : Env} {W : View} : ∀ {xs ys : List AV} {us vs : List Value} {r : Bool}, eqCells xs ys = .ok r → Vs E W xs us → Vs E W ys vs → eqVals us vs = some r
  | [], [], us, vs, r, h, hx, hy => by
    simp only [Vs] at hx hy
    subst hx; subst hy
    simp only [eqCells, R.ok.injEq] at h
    subst h
    rfl
  | [], _ :: _, us, vs, r, h, _, _ => by simp [eqCells] at h
  | _ :: _, [], us, vs, r, h, _, _ => by simp [eqCells] at h
  | x :: xs, y :: ys, us, vs, r, h, hx, hy => by
    simp only [Vs] at hx hy
    obtain ⟨u, us, rfl, hu, hus⟩ := hx
    obtain ⟨v, vs, rfl, hv, hvs⟩ := hy
    simp only [eqCells] at h
    split at h
    · rename_i hc
      rw [eqCell_ok hc hu hv]
      exact eqCells_ok h hus hvs
    · rename_i hc
      simp only [R.ok.injEq] at h
      subst h
      rw [eqCell_ok hc hu hv]
      rfl
    · cases h

/-- what a type of the table is to be: comparable, no nil to be told apart -/
def cmpIs (P : Program) (t : TypeId) (ks : List Nat) : Bool :=
  (match kindsT P 10000 t with
  | some ls => decide (ls = ks)
  | none => false) && !P.eqGuardType P.depth t && (match P.underlying t with
  | some (.array _ _) | some (.struct _) => true
  | _ => false)

theorem cmp_ok {t : TypeId} {ks : List Nat} (h : cmpIs P t ks = true) (E : Env) (W : View) (xs ys : List AV) (us vs : List Value) (r : Bool) (w : World) (x y : Operand) (hx : Vs E W xs us) (hy : Vs E W ys vs) (kx : kindsOk ks xs = true) (ky : kindsOk ks ys = true) (he : eqCells xs ys = .ok r) :
    (eqGuard .eql t x y (.agg ⟨us⟩) (.agg ⟨vs⟩)).run P w = .ok () w ∧ (eqGuard .neq t x y (.agg ⟨us⟩) (.agg ⟨vs⟩)).run P w = .ok () w ∧ (Op.equal t (.agg ⟨us⟩) (.agg ⟨vs⟩)).run P w = .ok r w := by
  unfold cmpIs at h
  simp only [Bool.and_eq_true, Bool.not_eq_true'] at h
  obtain ⟨⟨h1, h2⟩, h3⟩ := h
  refine ⟨run_eqGuard_agg w .eql t x y _ _ h2, run_eqGuard_agg w .neq t x y _ _ h2, ?_⟩
  split at h1
  rotate_left
  · cases h1
  rename_i ls hls
  have hlk : ls = ks := of_decide_eq_true h1
  subst hlk
  have := kinds_ok 10000 t ls hls w us vs r (vals_of kx hx) (vals_of ky hy) (eqCells_ok he hx hy)
  have hw : ∀ us, wrapT P t us = .agg ⟨us⟩ := fun us => by
    unfold wrapT
    split at h3 <;> first | rfl | cases h3
    all_goals (rename_i hd; rw [hd])
  rw [hw, hw] at this
  exact this

end
end Go.Proofs.Ev
