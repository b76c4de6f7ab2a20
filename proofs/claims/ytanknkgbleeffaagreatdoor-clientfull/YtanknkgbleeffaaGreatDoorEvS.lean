/- Addresses, slices, and the other operations that change nothing. -/
import Derived.Test.YtanknkgbleeffaaGreatDoorEvR
set_option linter.all false
namespace Go.Proofs.Ev
open Go
variable [Sg]

theorem addOff_ok {E : Env} {W : View} {p q : AV} {n : Nat} {v : Value} (h : addOff p n = .ok q) (hp : V E W p v) : ∃ b i, v = .pointer (some ⟨b, i, none⟩) ∧ V E W q (.pointer (some ⟨b, i + n, none⟩)) := by
  unfold addOff at h
  split at h
  · simp only [R.ok.injEq] at h
    subst h
    simp only [V] at hp ⊢
    obtain ⟨b, d, h1, rfl⟩ := hp
    exact ⟨b, _, rfl, b, d, h1, by rw [Nat.add_assoc]⟩
  · simp only [R.ok.injEq] at h
    subst h
    simp only [V] at hp ⊢
    obtain ⟨b, h1, rfl⟩ := hp
    exact ⟨b, _, rfl, b, h1, rfl⟩
  · simp only [R.ok.injEq] at h
    subst h
    simp only [V] at hp ⊢
    obtain ⟨b, d, vs, rfl, h1, h2⟩ := hp
    exact ⟨b, _, rfl, b, d, vs, by rw [Nat.add_assoc], h1, h2⟩
  · cases h

theorem info_of_cells {P : Program} {t : TypeId} (h : P.cellsOf t ≠ 0) : ∃ i, P.info? t = some i ∧ i.size = P.cellsOf t := by
  unfold Program.cellsOf at h ⊢
  cases hi : P.info? t with
  | none => simp [hi] at h
  | some i => exact ⟨i, rfl, by simp⟩

theorem fieldOp_ok {P : Program} {c : Cx} (g : Good P c) {E : Env} {W : View} {s : TypeId} {p z : AV} {i : Nat} {v : Value} (h : fieldOp c s p i = .ok z) (hp : V E W p v) (w : World) :
    ∃ u, (Instr.fieldAt s v i).run P w = .ok u w ∧ V E W z u := by
  unfold fieldOp at h
  cases hs : c.ty s with
  | no e => simp [hs] at h
  | ok ty =>
    obtain ⟨d, hd, es⟩ := underlying_shp g hs
    simp only [hs] at h
    split at h
    · rename_i offs ho
      rw [ho] at es
      obtain ⟨fs, rfl, rfl⟩ := shpD_strct es.symm
      unfold nthField at h
      cases hf : fs.toList[i]? with
      | none => simp [hf] at h
      | some f =>
        simp only [List.getElem?_map, hf, Option.map_some] at h
        split at h
        · cases h
        · rename_i hz
          obtain ⟨b, k, rfl, hq⟩ := addOff_ok h hp
          obtain ⟨fi, hfi, hsz⟩ := info_of_cells hz
          have hf' : fs[i]? = some f := by simpa using hf
          refine ⟨_, ?_, hq⟩
          simp only [Instr.fieldAt, Sem.run_bind, run_underlying hd, Result.andThen_ok, hf', Instr.sureAddr, Sem.run_pure, fieldPlace, run_sizeOf' w hfi]
          rw [if_neg (by rw [hsz]; exact hz), addr_add]
          rfl
    · cases h

theorem toNat_ok {E : Env} {W : View} {x : AV} {n : Nat} {v : Value} (h : toNat x = .ok n) (hx : V E W x v) : ∃ k, v = .int k n := by
  unfold toNat at h
  split at h
  · simp only [R.ok.injEq] at h
    subst h
    simp only [V] at hx
    exact ⟨_, hx⟩
  · cases h

theorem Fz.sub {E : Env} {b i : Nat} {vs : List Value} (h : Fz E b i vs) (k n : Nat) : Fz E b (i + k) ((vs.drop k).take n) := by
  intro j v hj
  rw [List.getElem?_take] at hj
  split at hj
  · rw [List.getElem?_drop] at hj
    rw [Nat.add_assoc]
    exact h _ _ hj
  · cases hj

theorem iaddrOp_ok {P : Program} {c : Cx} (g : Good P c) {E : Env} (hgl : GlobOk c E) {W : View} {t : TypeId} {x ix z : AV} {v u : Value} (h : iaddrOp c t x ix = .ok z) (hx : V E W x v) (hix : V E W ix u) (w : World) :
    ∃ r, (Instr.indexAt t v u).run P w = .ok r w ∧ V E W z r := by
  unfold iaddrOp at h
  split at h
  · rename_i i ty hi ht
    obtain ⟨k, rfl⟩ := toNat_ok hi hix
    obtain ⟨d, hd, es⟩ := underlying_shp g ht
    split at h
    · rename_i e tk xs he
      rw [he] at es
      have := shpD_sl es.symm; subst this
      split at h
      · rename_i ety cs hety hcs
        obtain ⟨einf, de, _, heinf, hde, _, hsz, _⟩ := tyOf_ok (g.ty _ _ hety)
        split at h
        · rename_i hlen
          have hlen := Nat.eq_of_beq_eq_true hlen
          simp only [R.ok.injEq] at h
          subst h
          simp only [V] at hx
          obtain ⟨base, cap, vs, sz, rfl, hle, hl, hvs, hb, _⟩ := hx
          have hilt : i < xs.length := (List.getElem?_eq_some_iff.1 hcs).1
          have hszeq : sz = ety.size := by rw [← hlen]; exact (hl cs (List.mem_of_getElem? hcs)).symm
          cases base with
          | none => simp only [atBase] at hb; omega
          | some a =>
            obtain ⟨hsp, hz⟩ := hb
            have hel := hvs.nth hl i cs hcs
            refine ⟨.pointer (some ⟨a.block, a.off + i * ety.size, none⟩), ?_, ?_⟩
            · have h1 : (0 : Int) ≤ (i : Int) ∧ (i : Int) < (xs.length : Int) := ⟨by omega, by omega⟩
              simp only [Instr.indexAt, asIntOf, Sem.run_bind, Sem.run_pure, Result.andThen_ok, run_underlying hd, h1, and_self, if_true, run_sizeOf' w heinf, hsz]
              rw [addr_eta hsp]
              simp [addr_add]
            · simp only [V]
              refine ⟨a.block, a.off + i * ety.size, _, by simp, ?_, hel⟩
              have := hz.sub (i * sz) sz
              rw [hszeq] at this ⊢
              exact this
        · cases h
      · cases h
    · rename_i e o ver off len sz' he
      rw [he] at es
      have := shpD_sl es.symm; subst this
      cases hety : c.ty e with
      | no e' => simp [hety] at h
      | ok ety =>
        obtain ⟨einf, de, _, heinf, hde, _, hsz, _⟩ := tyOf_ok (g.ty _ _ hety)
        simp only [hety] at h
        split at h
        · rename_i hilt
          simp only [R.ok.injEq] at h
          subst h
          simp only [V] at hx
          obtain ⟨b, dd, cap, n, e', hO, hS, rfl, hle, _, he'⟩ := hx
          obtain ⟨rfl, _⟩ := he' (by omega)
          refine ⟨.pointer (some ⟨b, dd + off + i * ety.size, none⟩), ?_, ?_⟩
          · have h1 : (0 : Int) ≤ (i : Int) ∧ (i : Int) < (len : Int) := ⟨by omega, by omega⟩
            simp only [Instr.indexAt, asIntOf, Sem.run_bind, Sem.run_pure, Result.andThen_ok, run_underlying hd, h1, and_self, if_true, run_sizeOf' w heinf, hsz]
            simp [addr_add]
          · simp only [V]
            exact ⟨b, dd, hO, by rw [Nat.add_assoc]⟩
        · cases h
    · rename_i e s he
      rw [he] at es
      have := shpD_sl es.symm; subst this
      cases hety : c.ty e with
      | no e' => simp [hety] at h
      | ok ety =>
        obtain ⟨einf, de, _, heinf, hde, _, hsz, _⟩ := tyOf_ok (g.ty _ _ hety)
        simp only [hety] at h
        obtain ⟨b, d', n, cap, h1, hilt, h3⟩ := hgl.oqAt _ _ _ _ h
        simp only [V] at hx
        obtain ⟨rfl, _⟩ := hx
        rw [h1]
        refine ⟨.pointer (some ⟨b, d' + i * ety.size, none⟩), ?_, V.view (View.nil_le W) h3⟩
        have h1 : (0 : Int) ≤ (i : Int) ∧ (i : Int) < (n : Int) := ⟨by omega, by omega⟩
        simp only [Instr.indexAt, asIntOf, Sem.run_bind, Sem.run_pure, Result.andThen_ok, run_underlying hd, h1, and_self, if_true, run_sizeOf' w heinf, hsz]
        simp [addr_add]
    · rename_i n e he
      rw [he] at es
      have := shpD_arr es.symm; subst this
      cases hety : c.ty e with
      | no e' => simp [hety] at h
      | ok ety =>
        obtain ⟨einf, de, _, heinf, hde, _, hsz, _⟩ := tyOf_ok (g.ty _ _ hety)
        simp only [hety] at h
        split at h
        · rename_i hilt
          obtain ⟨b, j, rfl, hq⟩ := addOff_ok h hx
          refine ⟨_, ?_, hq⟩
          have h1 : (0 : Int) ≤ (i : Int) ∧ (i : Int) < (n : Int) := ⟨by omega, by omega⟩
          simp only [Instr.indexAt, asIntOf, Sem.run_bind, Sem.run_pure, Result.andThen_ok, run_underlying hd, Instr.sureAddr, h1, and_self, if_true, run_sizeOf' w heinf, hsz]
          simp [addr_add]
        · cases h
    · cases h
  · cases h
  · cases h

theorem indexOp_ok {P : Program} {c : Cx} (g : Good P c) {E : Env} {W : View} {t : TypeId} {x ix z : AV} {v u : Value} (h : indexOp c t x ix = .ok z) (hx : V E W x v) (hix : V E W ix u) (w : World) :
    ∃ r, (Instr.index t v u).run P w = .ok r w ∧ V E W z r := by
  unfold indexOp at h
  split at h
  · rename_i i ty hi ht
    obtain ⟨k, rfl⟩ := toNat_ok hi hix
    obtain ⟨d, hd, es⟩ := underlying_shp g ht
    split at h
    · rename_i s he
      rw [he] at es
      have := shpD_str es.symm; subst this
      simp only [V] at hx
      obtain ⟨l, rfl, rfl⟩ := hx
      split at h
      · rename_i ob b hb
        simp only [R.ok.injEq] at h
        subst h
        rw [List.getElem?_map] at hb
        cases hl : l[i]? with
        | none => simp [hl] at hb
        | some b' =>
          simp only [hl, Option.map_some, Option.some.injEq] at hb
          subst hb
          have hil : i < l.length := (List.getElem?_eq_some_iff.1 hl).1
          have hget : (⟨⟨l⟩⟩ : ByteArray)[i]? = some b' := by
            have h1 : i < (⟨⟨l⟩⟩ : ByteArray).size := by rw [bytes_size]; exact hil
            rw [getElem?_pos (⟨⟨l⟩⟩ : ByteArray) i h1]
            have h2 := (List.getElem?_eq_some_iff.1 hl).2
            simp only [Option.some.injEq]
            rw [← h2]
            rfl
          refine ⟨.int .u8 b'.toNat, ?_, by simp [V]⟩
          have h0 : (0 : Int) ≤ (i : Int) := by omega
          simp [Instr.index, asIntOf, run_underlying hd, h0, hget]
      · cases h
    · rename_i n e cs he
      rw [he] at es
      have := shpD_arr es.symm; subst this
      cases hety : c.ty e with
      | no e' => simp [hety] at h
      | ok ety =>
        obtain ⟨einf, de, _, heinf, hde, _, hsz, _, hshp, _⟩ := tyOf_ok (g.ty _ _ hety)
        simp only [hety] at h
        split at h
        · rename_i hilt
          cases ht' : takeN ety.size cs (i * ety.size) with
          | no e' => simp [ht'] at h
          | ok x =>
            simp only [ht'] at h
            obtain ⟨rfl, hlen⟩ := takeN_ok ht'
            simp only [V] at hx
            obtain ⟨vs, rfl, hvs⟩ := hx
            have hv2 := (hvs.drop (i * ety.size)).take ety.size
            obtain ⟨s1, s2⟩ := shut_ok h hv2
            rw [hshp] at s1 s2
            have h1 : (0 : Int) ≤ (i : Int) ∧ (i : Int) < (n : Int) := ⟨by omega, by omega⟩
            cases ha : (shpD P de).isAgg with
            | true =>
              refine ⟨_, ?_, s1 ha⟩
              simp only [Instr.index, asIntOf, Sem.run_bind, Sem.run_pure, Result.andThen_ok, run_underlying hd, h1, and_self, if_true, run_sizeOf' w heinf, hsz, part, run_isAgg w hde, ha]
              simp [List.extract_eq_take_drop]
            | false =>
              obtain ⟨v, hv, hV⟩ := s2 ha
              refine ⟨v, ?_, hV⟩
              have hg : vs[i * ety.size]? = some v := by
                have : ((vs.drop (i * ety.size)).take ety.size)[0]? = some v := by rw [hv]; rfl
                rw [List.getElem?_take] at this
                split at this
                · simpa using this
                · cases this
              simp only [Instr.index, asIntOf, Sem.run_bind, Sem.run_pure, Result.andThen_ok, run_underlying hd, h1, and_self, if_true, run_sizeOf' w heinf, hsz, part, run_isAgg w hde, ha]
              simp [hg]
        · cases h
    · cases h
  · cases h

theorem un_ok {P : Program} {E : Env} {W : View} {op : UnOp} {x z : AV} {v : Value} (h : un op x = .ok z) (hx : V E W x v) (w : World) : ∃ u, (Op.unary op v).run P w = .ok u w ∧ V E W z u := by
  unfold un at h
  split at h
  · rename_i k n
    simp only [R.ok.injEq] at h
    subst h
    simp only [V] at hx
    subst hx
    exact ⟨.int k (k.wrap (0 - n)), by simp [Op.unary, Op.intArith], by simp [V, fit_eq]⟩
  · rename_i b
    simp only [R.ok.injEq] at h
    subst h
    simp only [V] at hx
    subst hx
    exact ⟨.bool (!b), by simp [Op.unary], by simp [V]⟩
  · cases h

theorem nilOp_ok {E : Env} {W : View} {x z : AV} {v : Value} (h : nilOp x = .ok z) (hx : V E W x v) : z = x ∧ v ≠ .pointer none ∧ v ≠ .nilIface ∧ v ≠ .nilFunc ∧ ∀ n a b, v ≠ .func (.method n) a b := by
  unfold nilOp at h
  split at h <;> first
    | (cases h; done)
    | skip
  rename_i h1 h2 h3 h4
  simp only [R.ok.injEq] at h
  subst h
  refine ⟨rfl, ?_⟩
  cases x <;> simp only [V] at hx <;> first
    | (exact absurd rfl (by assumption))
    | (subst hx; simp; done)
    | (obtain ⟨_, rfl⟩ := hx; simp; done)
    | (obtain ⟨_, rfl, _⟩ := hx; simp; done)
    | (obtain ⟨_, _, rfl⟩ := hx; simp; done)
    | (obtain ⟨_, _, _, rfl⟩ := hx; simp; done)
    | (obtain ⟨_, _, _, rfl, _⟩ := hx; simp; done)
    | (obtain ⟨_, _, _, _, rfl, _⟩ := hx; simp; done)
    | (obtain ⟨_, _, _, _, _, _, _, rfl, _⟩ := hx; simp; done)
    | simp_all

theorem pickOp_ok {c : Cx} {E : Env} {W : View} {fr : Fr} {a : Act} {x y z : Operand} {r : AV} (h : pickOp c fr x y z = .ok r) (hx : V E W (fr.ev c x) (a.eval x)) (hy : V E W (fr.ev c y) (a.eval y)) (hz : V E W (fr.ev c z) (a.eval z)) :
    ∃ b, a.eval x = .bool b ∧ V E W r (if b then a.eval y else a.eval z) := by
  unfold pickOp at h
  split at h
  · rename_i e
    simp only [R.ok.injEq] at h
    subst h
    rw [e] at hx
    simp only [V] at hx
    exact ⟨true, hx, by simpa using hy⟩
  · rename_i e
    simp only [R.ok.injEq] at h
    subst h
    rw [e] at hx
    simp only [V] at hx
    exact ⟨false, hx, by simpa using hz⟩
  · cases h

theorem plainTy_ok {P : Program} {c : Cx} (g : Good P c) {t : TypeId} (h : plainTy c t = true) : ∃ d, P.underlying t = some d ∧ ∀ m, d ≠ .interface m := by
  unfold plainTy at h
  cases hty : c.ty t with
  | no e => simp [hty] at h
  | ok ty =>
    obtain ⟨d, hd, es⟩ := underlying_shp g hty
    refine ⟨d, hd, ?_⟩
    rintro m rfl
    simp [hty, es, shpD] at h

theorem ifaceOp_ok {P : Program} {c : Cx} (g : Good P c) {E : Env} {W : View} {t : TypeId} {x z : AV} {v : Value} (h : ifaceOp c t x = .ok z) (hx : V E W x v) (w : World) :
    ∃ u, (Instr.makeInterface t v).run P w = .ok u w ∧ V E W z u := by
  unfold ifaceOp at h
  split at h
  · rename_i x' hc
    split at h
    rotate_left
    · cases h
    rename_i hpl
    simp only [R.ok.injEq] at h
    subst h
    obtain ⟨d, hd, hn⟩ := plainTy_ok g hpl
    refine ⟨.iface t v, ?_, by simp only [V]; exact ⟨v, rfl, V.clean hc hx⟩⟩
    simp only [Instr.makeInterface, Sem.run_bind, run_underlying hd, Result.andThen_ok]
    cases d <;> first | exact absurd rfl (hn _) | rfl
  · cases h

theorem assertOp_ok {P : Program} {c : Cx} (g : Good P c) {E : Env} {W : View} {t xt : TypeId} {ok : Bool} {x z : AV} {v : Value} (h : assertOp c t ok x = .ok z) (hx : V E W x v) (w : World) :
    ∃ u, (Instr.typeAssert v xt t ok).run P w = .ok u w ∧ V E W z u := by
  unfold assertOp at h
  split at h
  · rename_i t' y
    split at h
    · rename_i ht
      simp only [Bool.and_eq_true] at ht
      obtain ⟨ht, hpl⟩ := ht
      have ht := Nat.eq_of_beq_eq_true ht
      subst ht
      simp only [R.ok.injEq] at h
      subst h
      simp only [V] at hx
      obtain ⟨u, rfl, hu⟩ := hx
      obtain ⟨d, hd, hn⟩ := plainTy_ok g hpl
      have hu' := V.view (View.nil_le W) hu
      refine ⟨if ok then .tuple #[u, .bool true] else u, ?_, ?_⟩
      · cases d <;> first
          | exact absurd rfl (hn _)
          | simp [Instr.typeAssert, run_underlying hd]
      · cases ok
        · simpa using hu'
        · simp [V, Vs, hu']
    · cases h
  · cases h

theorem extractOp_ok {P : Program} {E : Env} {W : View} {i : Nat} {x z : AV} {v : Value} (h : extractOp x i = .ok z) (hx : V E W x v) (w : World) :
    ∃ u, (Instr.extract v i).run P w = .ok u w ∧ V E W z u := by
  unfold extractOp at h
  split at h
  · rename_i vs
    split at h
    · rename_i y hy
      simp only [R.ok.injEq] at h
      subst h
      simp only [V] at hx
      obtain ⟨us, rfl, hus⟩ := hx
      obtain ⟨u, hu, hV⟩ := hus.get i _ hy
      exact ⟨u, by simp [Instr.extract, hu], hV⟩
    · cases h
  · cases h

theorem funcOp_ok {P : Program} {E : Env} {W : View} {f : FuncId} {cap : List AV} {z : AV} {first captured : Array Value} (h : funcOp f first.size cap = .ok z) (hc : Vs E W cap captured.toList) (w : World) :
    ∃ u, (Instr.makeFunc (.func f) first captured).run P w = .ok u w ∧ V E W z u := by
  unfold funcOp at h
  split at h
  · rename_i h0
    split at h
    · rename_i l hl
      simp only [R.ok.injEq] at h
      subst h
      have : first = #[] := Array.eq_empty_of_size_eq_zero h0
      subst this
      exact ⟨_, rfl, by simp only [V]; exact ⟨captured.toList, rfl, Vs.clean hl hc⟩⟩
    · cases h
  · cases h

theorem minmax_ok {P : Program} {E : Env} {W : View} {mx : Bool} {x y z : AV} {u v : Value} (h : minmax mx x y = .ok z) (hx : V E W x u) (hy : V E W y v) (w : World) :
    ∃ r, (if mx then Builtin.max2 u v else Builtin.min2 u v).run P w = .ok r w ∧ V E W z r := by
  unfold minmax at h
  split at h
  · rename_i k a k' b
    simp only [R.ok.injEq] at h
    subst h
    simp only [V] at hx hy
    subst hx; subst hy
    cases mx
    · exact ⟨.int k (if b < a then b else a), by simp [Builtin.min2], by simp [V, ilt_eq]⟩
    · exact ⟨.int k (if b > a then b else a), by simp [Builtin.max2], by simp [V, ilt_eq]⟩
  · cases h

theorem foldMinmax_ok {P : Program} {E : Env} {W : View} {mx : Bool} : ∀ {l : List AV} {x z : AV} {u : Value} {vs : List Value}, foldMinmax mx x l = .ok z → V E W x u → Vs E W l vs → ∀ (w : World),
    ∃ r, (vs.foldlM (fun a b => if mx then Builtin.max2 a b else Builtin.min2 a b) u).run P w = .ok r w ∧ V E W z r
  | [], x, z, u, vs, h, hx, hv, w => by
    simp only [foldMinmax, R.ok.injEq] at h
    simp only [Vs] at hv
    subst h; subst hv
    exact ⟨u, rfl, hx⟩
  | y :: l, x, z, u, vs, h, hx, hv, w => by
    simp only [foldMinmax] at h
    simp only [Vs] at hv
    obtain ⟨v, s, rfl, hy, hs⟩ := hv
    cases hm : minmax mx x y with
    | no e => simp [hm] at h
    | ok m =>
      simp only [hm] at h
      obtain ⟨r, hr, hV⟩ := minmax_ok (P := P) hm hx hy w
      obtain ⟨r', hr', hV'⟩ := foldMinmax_ok (P := P) h hV hs w
      exact ⟨r', by simp only [List.foldlM_cons, Sem.run_bind, hr, Result.andThen_ok]; exact hr', hV'⟩

end Go.Proofs.Ev
