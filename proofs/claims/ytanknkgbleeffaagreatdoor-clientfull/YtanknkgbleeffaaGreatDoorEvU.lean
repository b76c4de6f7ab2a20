/- Slices of slices, and values that are built. -/
import Derived.Test.YtanknkgbleeffaaGreatDoorEvS
set_option linter.all false
namespace Go.Proofs.Ev
open Go
variable [Sg]

/-- an optional bound, as the evaluator and as the model read it -/
inductive BRel (E : Env) (W : View) : Option AV → Option Value → Prop where
  | none : BRel E W none none
  | some {x : AV} {v : Value} : V E W x v → BRel E W (some x) (some v)

theorem sliceBound_ok {P : Program} {E : Env} {W : View} {x : AV} {v : Value} {n y : Nat} {code : BoundsCode} (h : toNat x = .ok n) (hx : V E W x v) (hy : n ≤ y) (w : World) : (Instr.sliceBound v y code).run P w = .ok n w := by
  obtain ⟨k, rfl⟩ := toNat_ok h hx
  have : (0 : Int) ≤ (n : Int) ∧ (n : Int) ≤ (y : Int) := ⟨by omega, by omega⟩
  simp [Instr.sliceBound, asIntOf, this]

theorem sliceBounds_ok {P : Program} {E : Env} {W : View} {lo hi : Option AV} {vlo vhi : Option Value} {n l h len cap : Nat} {isS : Bool} (hl : optNat 0 lo = .ok l) (hh : optNat n hi = .ok h)
    (rl : BRel E W lo vlo) (rh : BRel E W hi vhi) (h1 : l ≤ h) (h2 : h ≤ cap) (hn : hi = none → n = len) (w : World) :
    (Instr.sliceBounds isS len cap vlo vhi none).run P w = .ok (l, h, cap) w := by
  unfold Instr.sliceBounds
  cases rh with
  | none =>
    simp only [optNat, R.ok.injEq] at hh
    subst hh
    have := hn rfl
    subst this
    cases rl with
    | none => simp only [optNat, R.ok.injEq] at hl; subst hl; simp
    | some hv => simp [sliceBound_ok hl hv h1]
  | some hv =>
    cases rl with
    | none => simp only [optNat, R.ok.injEq] at hl; subst hl; simp [sliceBound_ok hh hv h2]
    | some hv' => simp [sliceBound_ok hh hv h2, sliceBound_ok hl hv' h1]

theorem sliceBounds3_ok {P : Program} {E : Env} {W : View} {lo hi : Option AV} {mx : AV} {vlo vhi : Option Value} {vm : Value} {n l h len cap : Nat} {isS : Bool} (hl : optNat 0 lo = .ok l) (hh : optNat n hi = .ok h)
    (rl : BRel E W lo vlo) (rh : BRel E W hi vhi) (hm : toNat mx = .ok h) (rm : V E W mx vm) (h1 : l ≤ h) (h2 : h ≤ cap) (hs : hi ≠ none) (w : World) :
    (Instr.sliceBounds isS len cap vlo vhi (some vm)).run P w = .ok (l, h, h) w := by
  unfold Instr.sliceBounds
  cases rh with
  | none => exact absurd rfl hs
  | some hv =>
    cases rl with
    | none => simp only [optNat, R.ok.injEq] at hl; subst hl; simp [sliceBound_ok hm rm h2, sliceBound_ok hh hv (Nat.le_refl _)]
    | some hv' => simp [sliceBound_ok hm rm h2, sliceBound_ok hh hv (Nat.le_refl _), sliceBound_ok hl hv' h1]

theorem bounds_ok {n : Nat} {lo hi : Option AV} {f : Nat → Nat → R AV} {z : AV} (h : bounds n lo hi f = .ok z) : ∃ l k, optNat 0 lo = .ok l ∧ optNat n hi = .ok k ∧ l ≤ k ∧ k ≤ n ∧ f l k = .ok z := by
  unfold bounds at h
  split at h
  · rename_i k l hk hl
    split at h
    · rename_i hle
      exact ⟨l, k, hl, hk, hle.1, hle.2, h⟩
    · cases h
  · cases h
  · cases h

theorem slicePart_ok {P : Program} {E : Env} {W : View} {t e : TypeId} {einf : TypeInfo} {tk : Tok} {xs : List (List AV)} {z : AV} {v : Value} {lo hi mx : Option AV} {vlo vhi vmx : Option Value} {l k size : Nat}
    (hd : P.underlying t = some (.slice e)) (heinf : P.info? e = some einf) (hsz : einf.size = size)
    (hz : slicePart size tk xs mx l k = .ok z) (hl : optNat 0 lo = .ok l) (hk : optNat xs.length hi = .ok k) (h1 : l ≤ k) (h2 : k ≤ xs.length) (hx : V E W (.sl tk xs) v)
    (rl : BRel E W lo vlo) (rh : BRel E W hi vhi) (rm : BRel E W mx vmx) (hs : mx ≠ none → hi ≠ none) (w : World) :
    ∃ u, (Instr.sliceAt t v vlo vhi vmx).run P w = .ok u w ∧ V E W z u := by
  unfold slicePart at hz
  split at hz
  · rename_i hsi
    simp only [V] at hx
    obtain ⟨base, cap, vs, sz, rfl, hle, hlen, hvs, hb, htk⟩ := hx
    have hlen' := sizeIs_all hsi hlen
    have hvl := Vss.lens hvs hlen'
    have hnew : Vss E .nil ((xs.take k).drop l) (((vs.take (k * size)).drop (l * size))) :=
      (hvs.take hlen' k).drop (fun y hy => hlen' y (List.mem_of_mem_take hy)) l
    have hnl : ∀ y ∈ (xs.take k).drop l, y.length = size := fun y hy => hlen' y (List.mem_of_mem_take (List.mem_of_mem_drop hy))
    have hnn : ((xs.take k).drop l).length = k - l := by simp; omega
    have hfz : ∀ a, base = some a → a.spot = none ∧ Fz E a.block (a.off + l * size) ((vs.take (k * size)).drop (l * size)) := by
      rintro a rfl
      refine ⟨hb.1, ?_⟩
      rw [List.drop_take]
      exact hb.2.sub _ _
    cases rm with
    | none =>
      simp only [R.ok.injEq] at hz
      subst hz
      refine ⟨.slice (if cap = l then base else base.map (·.add (l * size))) (k - l) (cap - l), ?_, ?_⟩
      · simp only [Instr.sliceAt, Sem.run_bind, run_underlying hd, Result.andThen_ok, Instr.slice,
          sliceBounds_ok (P := P) (E := E) (W := W) (isS := true) (len := xs.length) hl hk rl rh h1 (Nat.le_trans h2 hle) (fun _ => rfl) w, run_sizeOf' w heinf, hsz]
        rfl
      · simp only [V]
        refine ⟨_, cap - l, _, size, by rw [hnn], by omega, hnl, hnew, ?_, ?_⟩
        · cases base with
          | none => simp only [atBase] at hb; split <;> simp [atBase, hb]
          | some a =>
            obtain ⟨f1, f2⟩ := hfz a rfl
            split
            · rename_i hcl
              refine ⟨f1, ?_⟩
              have : (vs.take (k * size)).drop (l * size) = [] := by
                have : k = l := by omega
                subst this
                simp
              rw [this]
              intro i u hu
              simp at hu
            · simp only [Option.map_some, atBase]
              rw [addr_eta f1, addr_add]
              exact ⟨rfl, f2⟩
        · unfold keepTok
          split
          · rename_i hkx
            split
            · rename_i hl0
              obtain ⟨rfl, hpos⟩ := hl0
              have e1 : (xs.take k).drop 0 = xs := by simp [hkx]
              rw [e1]
              simp only [Nat.zero_mul, Nat.sub_zero]
              have e2 : (if cap = 0 then base else base.map fun x => x.add 0) = base := by
                split
                · rfl
                · cases base with
                  | none => rfl
                  | some a => simp [Addr.add]
              rw [e2]
              have hszz : sz = size := by
                cases xs with
                | nil => simp at hpos
                | cons y r => exact (hlen y (by simp)).symm.trans (hlen' y (by simp))
              rw [← hszz]
              exact htk
            · cases tk <;> simp only [tokRel] at htk ⊢
              rw [hnn]; omega
          · simp [tokRel]
    | some hm =>
      simp only at hz
      split at hz
      · rename_i m hm'
        split at hz
        · rename_i hmk
          subst hmk
          simp only [R.ok.injEq] at hz
          subst hz
          refine ⟨.slice (if m = l then base else base.map (·.add (l * size))) (m - l) (m - l), ?_, ?_⟩
          · simp only [Instr.sliceAt, Sem.run_bind, run_underlying hd, Result.andThen_ok, Instr.slice,
              sliceBounds3_ok (P := P) (E := E) (W := W) (isS := true) (len := xs.length) hl hk rl rh hm' hm h1 (Nat.le_trans h2 hle) (hs (by simp)) w, run_sizeOf' w heinf, hsz]
            rfl
          · simp only [V]
            refine ⟨_, m - l, _, size, by rw [hnn], by omega, hnl, hnew, ?_, by simp only [tokRel]; rw [hnn]⟩
            cases base with
            | none =>
              simp only [atBase] at hb
              have : m = 0 := by omega
              subst this
              split <;> simp [atBase]
            | some a =>
              obtain ⟨f1, f2⟩ := hfz a rfl
              split
              · rename_i hcl
                subst hcl
                refine ⟨f1, ?_⟩
                intro i u hu
                simp at hu
              · simp only [Option.map_some, atBase]
                rw [addr_eta f1, addr_add]
                exact ⟨rfl, f2⟩
        · cases hz
      · cases hz
  · cases hz

theorem sliceOp_ok {P : Program} {c : Cx} (g : Good P c) {E : Env} {W : View} {t : TypeId} {x z : AV} {v : Value} {lo hi mx : Option AV} {vlo vhi vmx : Option Value} (h : sliceOp c t x lo hi mx = .ok z) (hx : V E W x v)
    (rl : BRel E W lo vlo) (rh : BRel E W hi vhi) (rm : BRel E W mx vmx) (hs : mx ≠ none → hi ≠ none) (w : World) :
    ∃ u, (Instr.sliceAt t v vlo vhi vmx).run P w = .ok u w ∧ V E W z u := by
  unfold sliceOp at h
  cases ht : c.ty t with
  | no e => simp [ht] at h
  | ok ty =>
    obtain ⟨d, hd, es⟩ := underlying_shp g ht
    simp only [ht] at h
    generalize hS : ty.shp = S at h
    rw [hS] at es
    split at h
    · -- a string
      rename_i s
      have := shpD_str es.symm; subst this
      cases rm with
      | some _ => cases h
      | none =>
        simp only at h
        obtain ⟨l, k, hl, hk, h1, h2, hz⟩ := bounds_ok h
        simp only [R.ok.injEq] at hz
        subst hz
        simp only [V] at hx
        obtain ⟨b, rfl, rfl⟩ := hx
        simp only [List.length_map] at h2 hk
        refine ⟨.string ((⟨⟨b⟩⟩ : ByteArray).extract l k), ?_, ?_⟩
        · simp only [Instr.sliceAt, Sem.run_bind, run_underlying hd, Result.andThen_ok, Instr.slice, Option.isSome_none, Bool.false_eq_true, if_false, bytes_size,
            sliceBounds_ok (P := P) (E := E) (W := W) (isS := false) (len := b.length) hl hk rl rh h1 h2 (fun _ => rfl) w]
          rfl
        · simp only [V]
          refine ⟨(b.take k).drop l, ?_, by simp [List.map_take, List.map_drop]⟩
          congr 1
          apply ByteArray.ext
          simp [ByteArray.data_extract, List.extract_eq_take_drop, List.drop_take]
    · -- a slice
      rename_i e
      have := shpD_sl es.symm; subst this
      cases hety : c.ty e with
      | no e' => simp [hety] at h
      | ok ety =>
        obtain ⟨einf, de, _, heinf, hde, _, hsz, _⟩ := tyOf_ok (g.ty _ _ hety)
        simp only [hety] at h
        unfold sliceSl at h
        split at h
        · rename_i tk xs
          obtain ⟨l, k, hl, hk, h1, h2, hz⟩ := bounds_ok h
          exact slicePart_ok hd heinf hsz hz hl hk h1 h2 hx rl rh rm hs w
        · rename_i o ver off len sz
          obtain ⟨l, k, hl, hk, h1, h2, hz⟩ := bounds_ok h
          unfold sliceMl at hz
          cases rm with
          | some _ => cases hz
          | none =>
            simp only at hz
            split at hz
            · rename_i hss
              simp only [R.ok.injEq] at hz
              subst hz
              simp only [V] at hx
              obtain ⟨b, d, cap, n, e', hO, hS', rfl, hle, hsp, he'⟩ := hx
              refine ⟨.slice (if cap = l then some ⟨b, e', none⟩ else some ((⟨b, e', none⟩ : Addr).add (l * ety.size))) (k - l) (cap - l), ?_, ?_⟩
              · simp only [Instr.sliceAt, Sem.run_bind, run_underlying hd, Result.andThen_ok, Instr.slice,
                  sliceBounds_ok (P := P) (E := E) (W := W) (isS := true) (len := len) hl hk rl rh h1 (Nat.le_trans h2 hle) (fun _ => rfl) w, run_sizeOf' w heinf, hsz]
                rfl
              · simp only [V]
                by_cases hcl : cap = l
                · refine ⟨b, d, cap - l, n, e', hO, hS', by rw [if_pos hcl], by omega, hsp, by intro hp; omega⟩
                · obtain ⟨rfl, hn⟩ := he' (by omega)
                  refine ⟨b, d, cap - l, n, d + off + l * ety.size, hO, hS', by rw [if_neg hcl, addr_add], by omega, hsp, fun _ => ⟨by omega, ?_⟩⟩
                  rw [hss] at *
                  have : (cap - l) * sz = cap * sz - l * sz := Nat.sub_mul _ _ _
                  have h3 : l * sz ≤ cap * sz := Nat.mul_le_mul_right _ (by omega)
                  omega
            · cases hz
        · cases h
    · -- an array that is only read
      rename_i n e cs off
      have := shpD_arr es.symm; subst this
      cases hety : c.ty e with
      | no e' => simp [hety] at h
      | ok ety =>
        obtain ⟨einf, de, _, heinf, hde, _, hsz, _⟩ := tyOf_ok (g.ty _ _ hety)
        simp only [hety] at h
        unfold sliceArr at h
        cases htk : takeN (n * ety.size) cs off with
        | no e' => simp [htk] at h
        | ok xs =>
          simp only [htk] at h
          cases rm with
          | some _ => cases h
          | none =>
            simp only at h
            obtain ⟨l, k, hl, hk, h1, h2, hz⟩ := bounds_ok h
            simp only [R.ok.injEq] at hz
            subst hz
            obtain ⟨rfl, hlen⟩ := takeN_ok htk
            obtain ⟨p1, p2, p3⟩ := pieces_flat ety.size n _ hlen
            simp only [V] at hx
            obtain ⟨b, d, vs, rfl, hz, hvs⟩ := hx
            have hall : Vss E .nil (pieces ety.size n ((cs.drop off).take (n * ety.size))) ((vs.drop off).take (n * ety.size)) := by
              rw [Vss.flat, p1]; exact (hvs.drop off).take _
            refine ⟨.slice (some (if n = l then ⟨b, d + off, none⟩ else (⟨b, d + off, none⟩ : Addr).add (l * ety.size))) (k - l) (n - l), ?_, ?_⟩
            · simp only [Instr.sliceAt, Sem.run_bind, run_underlying hd, Result.andThen_ok, Instr.sureAddr, Sem.run_pure,
                sliceBounds_ok (P := P) (E := E) (W := W) (isS := false) (len := n) hl hk rl rh h1 h2 (fun _ => rfl) w, run_sizeOf' w heinf, hsz]
            · simp only [V]
              refine ⟨some (if n = l then ⟨b, d + off, none⟩ else (⟨b, d + off, none⟩ : Addr).add (l * ety.size)), n - l, ((((vs.drop off).take (n * ety.size)).take (k * ety.size)).drop (l * ety.size)), ety.size, ?_, ?_, ?_, (hall.take p3 k).drop (fun y hy => p3 y (List.mem_of_mem_take hy)) l, ?_, trivial⟩
              · congr 1
                simp [p2]; omega
              · simp [p2]; omega
              · exact fun y hy => p3 y (List.mem_of_mem_take (List.mem_of_mem_drop hy))
              · by_cases hnl : n = l
                · rw [if_pos hnl]
                  refine ⟨rfl, ?_⟩
                  have : k = l := by omega
                  subst this
                  intro i u hu
                  have : ((((vs.drop off).take (n * ety.size)).take (k * ety.size)).drop (k * ety.size)) = [] := by simp
                  rw [this] at hu
                  simp at hu
                · rw [if_neg hnl, addr_add]
                  refine ⟨rfl, ?_⟩
                  have h3 := ((hz.sub off (n * ety.size)).sub (l * ety.size) (k * ety.size - l * ety.size))
                  rw [← List.drop_take] at h3
                  exact h3
    · cases h

end Go.Proofs.Ev
