/- Operations that change nothing: what the evaluator tells is what the model does. -/
import Derived.Test.YtanknkgbleeffaaGreatDoorEvD
import Derived.ChangeKeysEq
import Derived.Laws.Cells
set_option linter.all false
namespace Go.Proofs.Ev
open Go
variable [Sg]

/-! ### constants, operands -/
mutual
theorem ofV_ok (E : Env) (W : View) : ∀ v : Value, V E W (ofV v) v
  | .bool _ => by simp [ofV, V]
  | .int _ _ => by simp [ofV, V]
  | .string ⟨⟨l⟩⟩ => by simp [ofV, V]
  | .pointer none => by simp [ofV, V]
  | .pointer (some _) => by simp [ofV, V]
  | .slice none 0 0 => by simp only [ofV, V]; exact ⟨none, 0, [], 0, rfl, Nat.le_refl _, by simp, by simp [Vss], by simp [atBase], rfl⟩
  | .slice none 0 (_ + 1) => by simp [ofV, V]
  | .slice none (_ + 1) _ => by simp [ofV, V]
  | .slice (some _) _ _ => by simp [ofV, V]
  | .nilFunc => by simp [ofV, V]
  | .nilIface => by simp [ofV, V]
  | .func (.func f) ⟨[]⟩ ⟨[]⟩ => by simp [ofV, V, Vs]
  | .func (.func f) ⟨_ :: _⟩ _ => by simp [ofV, V]
  | .func (.func f) ⟨[]⟩ ⟨_ :: _⟩ => by simp [ofV, V]
  | .func (.method _) _ _ => by simp [ofV, V]
  | .func (.methodOf _ _) _ _ => by simp [ofV, V]
  | .func (.via _ _ _ _) _ _ => by simp [ofV, V]
  | .func (.yield _) _ _ => by simp [ofV, V]
  | .agg ⟨cs⟩ => by simp only [ofV, V]; exact ⟨cs, rfl, ofVs_ok E W cs⟩
  | .tuple ⟨[]⟩ => by simp [ofV, V, Vs]
  | .tuple ⟨_ :: _⟩ => by simp [ofV, V]
  | .float _ _ => by simp [ofV, V]
  | .complex _ _ _ => by simp [ofV, V]
  | .map _ => by simp [ofV, V]
  | .chan _ => by simp [ofV, V]
  | .iface _ _ => by simp [ofV, V]
theorem ofVs_ok (E : Env) (W : View) : ∀ l : List Value, Vs E W (ofVs l) l
  | [] => by simp [ofVs, Vs]
  | v :: r => by simp only [ofVs, Vs]; exact ⟨v, r, rfl, ofV_ok E W v, ofVs_ok E W r⟩
end

theorem ev_ok {c : Cx} {E : Env} {W : View} {fr : Fr} {a : Act} (hg : GlobOk c E) (ht : ∀ t, V E W (tmOf fr t) (a.tmps.getD t undef)) (x : Operand) : V E W (fr.ev c x) (a.eval x) := by
  cases x with
  | tmp t =>
    have h := ht t
    simp only [Fr.ev, Act.eval]
    unfold tmOf at h
    cases hx : Tr.get (path t) fr.tm with
    | none => simpa [hx] using h
    | some v => simpa [hx] using h
  | const v => exact ofV_ok E W v
  | global g =>
    simp only [Fr.ev, Act.eval]
    cases hx : c.glob g with
    | no e => simp [V]
    | ok cs =>
      obtain ⟨vs, h1, h2⟩ := hg.g g cs hx
      simp only [V]
      exact ⟨g, 0, vs, rfl, h1, h2⟩
  | func f => simp [Fr.ev, Act.eval, V, Vs]

theorem evAll_ok {c : Cx} {E : Env} {W : View} {fr : Fr} {a : Act} (hg : GlobOk c E) (ht : ∀ t, V E W (tmOf fr t) (a.tmps.getD t undef)) : ∀ l : List Operand, Vs E W (evAll c fr l) (l.map a.eval)
  | [] => by simp [evAll, Vs]
  | x :: r => by simp only [evAll, List.map_cons, Vs]; exact ⟨_, _, rfl, ev_ok hg ht x, evAll_ok hg ht r⟩

/-! ### loads -/
theorem takeN_ok {n off : Nat} {l x : List AV} (h : takeN n l off = .ok x) : x = (l.drop off).take n ∧ x.length = n := by
  simp only [takeN] at h
  split at h
  · rename_i hl
    simp only [R.ok.injEq] at h
    subst h
    exact ⟨rfl, hl⟩
  · cases h

theorem addr_add (b i n : Nat) : (⟨b, i, none⟩ : Addr).add n = ⟨b, i + n, none⟩ := by
  unfold Addr.add; split <;> simp_all

/-- the cells at an address, as they lie -/
def Lies (w : World) (b i : Nat) (vs : List Value) : Prop := ∀ (j : Nat) v, vs[j]? = some v → w.cell? ⟨b, i + j, none⟩ = some v

theorem blk_cell {w : World} {b i : Nat} {c : Array Value} {ty : TypeId} (h : blk w b = some (c, ty)) : w.cell? ⟨b, i, none⟩ = c[i]? := by
  unfold blk at h
  unfold World.cell?
  split at h
  · rename_i c' ty' hb
    simp only [Option.some.injEq, Prod.mk.injEq] at h
    obtain ⟨rfl, rfl⟩ := h
    simp [hb]
  · cases h

theorem loadN_ok {E : Env} {own : Nat → Tag} {H : Heap} {w : World} {m : Mine} {N : Nat} {fr : Fr} {tmps : Array Value} (hi : Inv E own H w) (hf : FrI E own m N fr tmps w)
    {p : AV} {n : Nat} {cs : List AV} {pv : Value} (h : loadN fr H p n = .ok cs) (hp : V E (viewOf m fr.fl) p pv) :
    ∃ b i vs, pv = .pointer (some ⟨b, i, none⟩) ∧ vs.length = n ∧ Lies w b i vs ∧ Vs E (viewOf m fr.fl) cs vs := by
  cases p with
  | lptr t k off =>
    simp only [loadN] at h
    split at h
    · rename_i k' cs' hl
      split at h
      · rename_i hk
        subst hk
        obtain ⟨rfl, hlen⟩ := takeN_ok h
        obtain ⟨b, c, ty, hX, _, hb, hvs, _⟩ := hf.lcs _ _ _ hl
        simp only [V] at hp
        obtain ⟨b', hX', rfl⟩ := hp
        have : b' = b := by
          have h2 : m.X k = some b' := hX'
          rw [hX] at h2
          exact (Option.some.inj h2).symm
        subst this
        have hv2 := (hvs.drop off).take n
        refine ⟨b', off, (c.toList.drop off).take n, rfl, ?_, ?_, hv2⟩
        · rw [← hv2.length]; exact hlen
        · intro j v hj
          rw [blk_cell hb]
          rw [List.getElem?_take] at hj
          split at hj
          · rw [List.getElem?_drop] at hj
            simpa using hj
          · cases hj
      · cases h
    · cases h
  | iptr cs' off =>
    simp only [loadN] at h
    obtain ⟨rfl, hlen⟩ := takeN_ok h
    simp only [V] at hp
    obtain ⟨b, d, vs, rfl, hz, hvs⟩ := hp
    have hv2 := (hvs.drop off).take n
    refine ⟨b, d + off, (vs.drop off).take n, rfl, ?_, ?_, Vs.view (View.nil_le _) hv2⟩
    · rw [← hv2.length]; exact hlen
    · intro j v hj
      rw [List.getElem?_take] at hj
      split at hj
      · rw [List.getElem?_drop] at hj
        have := hi.frz _ _ _ (hz _ _ hj)
        rw [Nat.add_assoc]; exact this
      · cases hj
  | ptr o ver off =>
    simp only [loadN, Heap.get] at h
    cases hl : look H.ob o with
    | none => simp [hl] at h
    | some x =>
      obtain ⟨v, cs'⟩ := x
      simp only [hl] at h
      split at h
      · rename_i hver
        subst hver
        obtain ⟨rfl, hlen⟩ := takeN_ok h
        obtain ⟨b, d, c, ty, hO, _, hb, hsz, hcs, _⟩ := hi.obj _ _ _ hl
        simp only [V] at hp
        obtain ⟨b', d', hO', rfl⟩ := hp
        rw [hO] at hO'
        simp only [Option.some.injEq, Prod.mk.injEq] at hO'
        obtain ⟨rfl, rfl⟩ := hO'
        have hall : Vs E .nil cs' ((c.toList.drop d).take cs'.length) := by
          refine Vs.of_get ?_ ?_
          · simp; omega
          · intro i a v ha hv
            obtain ⟨v', hv', hV⟩ := hcs i a ha
            rw [List.getElem?_take] at hv
            split at hv
            · rw [List.getElem?_drop] at hv
              have : c[d + i]? = some v := by simpa using hv
              rw [hv'] at this
              cases this
              exact hV
            · cases hv
        have hv2 := (hall.drop off).take n
        refine ⟨b, d + off, _, rfl, ?_, ?_, Vs.view (View.nil_le _) hv2⟩
        · rw [← hv2.length]; exact hlen
        · intro j v hj
          rw [List.getElem?_take] at hj
          split at hj
          · rw [List.getElem?_drop, List.getElem?_take] at hj
            split at hj
            · rw [List.getElem?_drop] at hj
              rw [blk_cell hb, Nat.add_assoc]
              simpa using hj
            · cases hj
          · cases hj
      · cases h
  | _ => simp [loadN] at h

theorem shut_ok {E : Env} {W : View} {agg : Bool} {cs : List AV} {vs : List Value} {x : AV} (h : shut agg cs = .ok x) (hv : Vs E W cs vs) :
    (agg = true → V E W x (.agg ⟨vs⟩)) ∧ (agg = false → ∃ v, vs = [v] ∧ V E W x v) := by
  unfold shut at h
  cases agg with
  | true => simp at h; subst h; exact ⟨fun _ => (by simp only [V]; exact ⟨vs, rfl, hv⟩), fun e => (by cases e)⟩
  | false =>
    refine ⟨fun e => (by cases e), fun _ => ?_⟩
    simp only [Bool.false_eq_true, if_false] at h
    split at h
    · rename_i v
      simp only [R.ok.injEq] at h
      subst h
      simp only [Vs] at hv
      obtain ⟨u, s, rfl, hu, rfl⟩ := hv
      exact ⟨u, rfl, hu⟩
    · cases h

theorem run_isAgg {P : Program} {t : TypeId} {d : TypeDesc} (w : World) (hd : P.underlying t = some d) : (isAgg t).run P w = .ok (shpD P d).isAgg w := by
  simp only [isAgg, Sem.run_bind, run_underlying hd, Result.andThen_ok]
  cases d <;> rfl

theorem run_sizeOf' {P : Program} {t : TypeId} {i : TypeInfo} (w : World) (h : P.info? t = some i) : (sizeOf t).run P w = .ok i.size w := by
  simp [sizeOf, run_typeInfo w h]

theorem run_zeroValue {P : Program} {t : TypeId} {i : TypeInfo} {z : Value} (w : World) (h : P.info? t = some i) (hz : i.zero = some z) : (zeroValue t).run P w = .ok z w := by
  simp [zeroValue, run_typeInfo w h, hz]

theorem run_loadVar {P : Program} {t : TypeId} {i : TypeInfo} {d : TypeDesc} {w : World} {b k : Nat} {vs : List Value} (hi : P.info? t = some i) (hd : P.underlying t = some d)
    (hl : vs.length = i.size) (hw : Lies w b k vs) :
    ((shpD P d).isAgg = true → (loadVar t ⟨b, k, none⟩).run P w = .ok (.agg ⟨vs⟩) w) ∧
    ((shpD P d).isAgg = false → ∀ v, vs = [v] → (loadVar t ⟨b, k, none⟩).run P w = .ok v w) := by
  constructor
  · intro ha
    simp only [loadVar, Sem.run_bind, run_isAgg w hd, Result.andThen_ok, ha, if_true, run_sizeOf' w hi]
    rw [← hl, run_loadCells_list w ⟨b, k, none⟩ vs (fun j v hj => by rw [addr_add]; exact hw j v hj)]
    rfl
  · intro ha v hv
    subst hv
    have := hw 0 v (by simp)
    simp only [Nat.add_zero] at this
    simp [loadVar, run_isAgg w hd, ha, this]

theorem loadOp_ok {P : Program} {c : Cx} (g : Good P c) {E : Env} {own : Nat → Tag} {H : Heap} {w : World} {m : Mine} {N : Nat} {fr : Fr} {tmps : Array Value} (hi : Inv E own H w) (hf : FrI E own m N fr tmps w)
    {p x : AV} {t : TypeId} {pv : Value} (h : loadOp c fr H t p = .ok x) (hp : V E (viewOf m fr.fl) p pv) :
    ∃ v, (Instr.loadAt t pv).run P w = .ok v w ∧ V E (viewOf m fr.fl) x v := by
  simp only [loadOp] at h
  cases ht : c.ty t with
  | no e => simp [ht] at h
  | ok ty =>
    obtain ⟨i, d, z, hinf, hd, _, hsz, _, hshp, _⟩ := tyOf_ok (g.ty _ _ ht)
    simp only [ht] at h
    cases hl : loadN fr H p ty.size with
    | no e => simp [hl] at h
    | ok cs =>
      simp only [hl] at h
      obtain ⟨b, k, vs, rfl, hlen, hlies, hvs⟩ := loadN_ok hi hf hl hp
      obtain ⟨h1, h2⟩ := run_loadVar (P := P) hinf hd (hlen.trans hsz.symm) hlies
      obtain ⟨s1, s2⟩ := shut_ok h hvs
      rw [hshp] at s1 s2
      cases ha : (shpD P d).isAgg with
      | true => exact ⟨_, by simpa [Instr.loadAt, Instr.sureAddr] using h1 ha, s1 ha⟩
      | false =>
        obtain ⟨v, hv, hV⟩ := s2 ha
        exact ⟨v, by simpa [Instr.loadAt, Instr.sureAddr] using h2 ha v hv, hV⟩

end Go.Proofs.Ev
