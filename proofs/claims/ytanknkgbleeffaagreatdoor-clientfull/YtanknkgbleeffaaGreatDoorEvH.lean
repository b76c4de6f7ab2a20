/- Rows: literals, make, append, copy, clear. -/
import Derived.Test.YtanknkgbleeffaaGreatDoorEvG
set_option linter.all false
namespace Go.Proofs.Ev
open Go
variable [Sg]

theorem setElem_put {size : Nat} : ∀ {xs ys : List (List AV)} {i : Nat} {x : List AV}, setElem xs i x = .ok ys → (∀ y ∈ xs, y.length = size) → x.length = size →
    putN xs.flatten (i * size) x = .ok ys.flatten ∧ (∀ y ∈ ys, y.length = size) ∧ ys.length = xs.length
  | [], _, i, x, h, _, _ => by cases i <;> simp [setElem] at h
  | y :: r, ys, 0, x, h, hl, hx => by
    simp only [setElem, R.ok.injEq] at h
    subst h
    have hy := hl y (by simp)
    refine ⟨?_, ?_, rfl⟩
    · simp only [putN, Nat.zero_mul, Nat.zero_add, List.flatten_cons, List.take_zero, List.nil_append]
      rw [if_pos (by simp; omega), hx, ← hy, List.drop_left]
    · intro z hz
      rcases List.mem_cons.1 hz with rfl | hz
      · exact hx
      · exact hl z (by simp [hz])
  | y :: r, ys, i + 1, x, h, hl, hx => by
    simp only [setElem] at h
    cases hr : setElem r i x with
    | no e => simp [hr] at h
    | ok r' =>
      simp only [hr, R.ok.injEq] at h
      subst h
      have hy := hl y (by simp)
      obtain ⟨h1, h2, h3⟩ := setElem_put hr (fun z hz => hl z (by simp [hz])) hx
      obtain ⟨hle, he⟩ := putN_ok h1
      refine ⟨?_, ?_, by simp [h3]⟩
      · have hm : (i + 1) * size = y.length + i * size := by rw [Nat.add_mul, Nat.one_mul, hy, Nat.add_comm]
        simp only [putN, List.flatten_cons, hm]
        rw [if_pos (by simp only [List.length_append]; omega), he]
        congr 1
        rw [List.take_append, List.take_of_length_le (by omega)]
        have e1 : y.length + i * size - y.length = i * size := by omega
        have e2 : (y ++ r.flatten).drop (y.length + i * size + x.length) = r.flatten.drop (i * size + x.length) := by
          rw [List.drop_append, List.drop_of_length_le (by omega), List.nil_append]
          congr 1
          omega
        rw [e1, e2]
        simp [List.append_assoc]
      · intro z hz
        rcases List.mem_cons.1 hz with rfl | hz
        · exact hy
        · exact h2 z hz

theorem fillE_ok {E : Env} {W : View} {size : Nat} : ∀ {ps : List (Nat × AV)} {vps : List (Nat × Value)} {xs ys : List (List AV)} {arr : Array Value}, fillE size xs ps = .ok ys → Parts E W ps vps → Vs E W xs.flatten arr.toList → (∀ y ∈ xs, y.length = size) →
      ∃ a', Instr.fill (fun i => some (i * size, size)) arr vps = some a' ∧ Vs E W ys.flatten a'.toList ∧ (∀ y ∈ ys, y.length = size) ∧ ys.length = xs.length
  | [], vps, xs, ys, arr, h, hps, hc, hl => by
    cases hps
    simp only [fillE, R.ok.injEq] at h
    subst h
    exact ⟨arr, rfl, hc, hl, rfl⟩
  | (i, x) :: ps, vps, xs, ys, arr, h, hps, hc, hl => by
    cases hps with
    | cons hv hr =>
      rename_i v s
      simp only [fillE] at h
      cases hcr : cellsR x with
      | no e => simp [hcr] at h
      | ok l =>
        simp only [hcr] at h
        split at h
        · rename_i hll
          have hll := Nat.eq_of_beq_eq_true hll
          cases hse : setElem xs i l with
          | no e => simp [hse] at h
          | ok xs' =>
            simp only [hse] at h
            obtain ⟨hput, hl', hxl⟩ := setElem_put hse hl hll
            have hcells := cellsR_ok hcr hv
            obtain ⟨hsz, hstep⟩ := fill_step hput hc hcells
            obtain ⟨a', ha, hV, hl2, hn⟩ := fillE_ok h hr hstep hl'
            refine ⟨a', ?_, hV, hl2, hn.trans hxl⟩
            have hvl := hcells.length
            simp only [Array.length_toList] at hvl
            simp only [Instr.fill]
            have hc1 : ¬ ((v.cells.size != size) || decide (i * size + v.cells.size > arr.size)) = true := by
              simp only [Bool.or_eq_true, bne_iff_ne, ne_eq, decide_eq_true_eq, not_or, Decidable.not_not]
              omega
            have hc2 : ¬ ((decide (v.cells.size ≠ size)) || decide (i * size + v.cells.size > arr.size)) = true := by
              simp only [Bool.or_eq_true, ne_eq, decide_not, Bool.not_eq_true', decide_eq_false_iff_not, decide_eq_true_eq, not_or, Decidable.not_not]
              omega
            first
              | (rw [if_neg hc2]; exact ha)
              | (rw [if_neg hc1]; exact ha)
        · cases h

theorem made_repl (z : Array Value) (n : Nat) : (madeCells z (n * z.size)).toList = (List.replicate n z.toList).flatten := by
  induction n with
  | zero => simp [madeCells]
  | succ n ih =>
    have e : (List.replicate (n + 1) z.toList).flatten = (List.replicate n z.toList).flatten ++ z.toList := by
      rw [List.replicate_succ']
      simp
    rw [e, ← ih]
    have hm : (n + 1) * z.size = n * z.size + z.size := by rw [Nat.add_mul, Nat.one_mul]
    apply List.ext_getElem?
    intro i
    simp only [madeCells, hm, Array.toList_map, Array.toList_range, List.getElem?_map, List.getElem?_append, List.length_map, List.length_range]
    by_cases h1 : i < n * z.size
    · rw [if_pos h1]
      simp [List.getElem?_range, h1, show i < n * z.size + z.size by omega]
    · rw [if_neg h1]
      by_cases h2 : i < n * z.size + z.size
      · have h3 : i - n * z.size < z.size := by omega
        have h4 : i % z.size = i - n * z.size := by
          have : i = z.size * n + (i - n * z.size) := by rw [Nat.mul_comm]; omega
          rw [this, Nat.mul_add_mod, Nat.mod_eq_of_lt h3]
          rw [← this]
        simp [List.getElem?_range, h2, h4, h3]
      · have h3 : ¬ i - n * z.size < z.size := by omega
        simp [List.getElem?_range, h2]
        omega

theorem Vs.repl {E : Env} {W : View} {cs : List AV} {vs : List Value} (h : Vs E W cs vs) : ∀ n, Vs E W (List.replicate n cs).flatten (List.replicate n vs).flatten
  | 0 => by simp [Vs]
  | n + 1 => by
    simp only [List.replicate_succ, List.flatten_cons]
    exact h.append (Vs.repl h n)

section
variable {P : Program} {cx : Cx} {Q : Name} {N : Nat} {S : Nat → Prop} {E : Env} {own : Nat → Tag} {H H' : Heap} {m : Mine} {fr fr' : Fr} {a : Act} {w : World} {id : Nat} {v : AV}

theorem elemTy_ok (g : Good P cx) {t : TypeId} {ety : Ty} (h : elemTy cx t = .ok ety) : ∃ e i z, P.underlying t = some (.slice e) ∧ P.info? e = some i ∧ i.zero = some z ∧ i.size = ety.size ∧ i.bytes = ety.bytes ∧ ety.zero = cellsOf (ofV z) ∧ ety.zero.length = ety.size := by
  unfold elemTy at h
  cases hty : cx.ty t with
  | no e => simp [hty] at h
  | ok ty =>
    obtain ⟨d, hd, es⟩ := underlying_shp g hty
    simp only [hty] at h
    split at h
    · rename_i e hs
      rw [hs] at es
      have := shpD_sl es.symm; subst this
      obtain ⟨i, de, z, hi, hde, hz, hsz, hby, _, hzero⟩ := tyOf_ok (g.ty _ _ h)
      exact ⟨e, i, z, hd, hi, hz, hsz, hby, hzero, tyOf_zero (g.ty _ _ h)⟩
    · cases h

theorem flat_len {size : Nat} : ∀ {xs : List (List AV)}, (∀ x ∈ xs, x.length = size) → xs.flatten.length = xs.length * size
  | [], _ => by simp
  | x :: r, h => by
    have h1 := h x (by simp)
    have h2 := flat_len (size := size) (xs := r) (fun y hy => h y (by simp [hy]))
    simp only [List.flatten_cons, List.length_append, h1, h2, List.length_cons]
    rw [Nat.add_mul, Nat.one_mul, Nat.add_comm]

/-- a new row, as plain data or as an object -/
theorem rowObj_ok {xs : List (List AV)} {sz cap : Nat} {arr : Array Value} {e : TypeId} {w' : World} (hs : St cx Q N S E own H m fr a w) (hw : w'.heap = w.heap.push (.cells arr e) ∧ w'.os = w.os ∧ w'.output = w.output) (hid : S id) (hl : ∀ x ∈ xs, x.length = sz) (hc : xs.flatten.length ≤ arr.size) (hv : Vs E .nil xs.flatten (arr.toList.take xs.flatten.length)) (hz : 0 < sz)
    (hle : xs.length ≤ cap) (hcap : cap * sz ≤ arr.size) :
    ∃ E' m', Next cx Q N (fun i => S i ∧ i ≠ id) E own H a w w' E' m' fr (H.new (id :: Q) (0, xs.flatten)) ∧ V E' (viewOf m' fr.fl) (.ml (id :: Q) 0 0 xs.length sz) (.slice (some ⟨w.heap.size, 0, none⟩) xs.length cap) := by
  refine ⟨_, m, newObj_turn hs hw hid hc hv, ?_⟩
  simp only [V]
  exact ⟨w.heap.size, 0, cap, arr.size, 0, by simp, by simp [at1_same], rfl, hle, hz, fun _ => ⟨by simp, by simpa using hcap⟩⟩

theorem rowPlain_ok {xs : List (List AV)} {sz : Nat} {arr : Array Value} {e : TypeId} {w' : World} (hs : St cx Q N S E own H m fr a w) (hw : w'.heap = w.heap.push (.cells arr e) ∧ w'.os = w.os ∧ w'.output = w.output) (hl : ∀ x ∈ xs, x.length = sz) (hv : Vs E .nil xs.flatten arr.toList) :
    ∃ E' m', Next cx Q N S E own H a w w' E' m' fr H ∧ V E' (viewOf m' fr.fl) (.sl .exact xs) (.slice (some ⟨w.heap.size, 0, none⟩) xs.length xs.length) := by
  have hn := newPlain (c := arr) hs hw
  have hle : E.le (frz E w.heap.size 0 arr.size arr) := frz_le fun i v h _ _ => by have := hs.inv.M_lt h; omega
  refine ⟨_, m, hn, ?_⟩
  simp only [V]
  refine ⟨some ⟨w.heap.size, 0, none⟩, xs.length, arr.toList, sz, rfl, Nat.le_refl _, hl, Vss.flat.2 (Vs.mono hle hv), ⟨rfl, fun i u hu => ?_⟩, rfl⟩
  have hi : i < arr.size := by
    have := (List.getElem?_eq_some_iff.1 hu).1
    simpa using this
  show (if _ then _ else _) = some u
  rw [if_pos ⟨rfl, Nat.zero_le _, by simpa using hi⟩]
  simpa using hu

theorem buildSliceOp_ok (g : Good P cx) {f : FuncId} {d : Option Tmp} {t : TypeId} {len : Nat} {parts : Array (Nat × Operand)} (h : buildSliceOp cx f Q id d fr H t len parts.toList = .ok (.val v fr' H')) (hs : St cx Q N S E own H m fr a w) (hid : S id) :
    ∃ E' m' w' u, (Instr.buildSlice t len (parts.map fun (i, x) => (i, a.eval x))).run P w = .ok u w' ∧ Next cx Q N (fun i => S i ∧ i ≠ id) E own H a w w' E' m' fr' H' ∧ V E' (viewOf m' fr'.fl) v u := by
  unfold buildSliceOp at h
  split at h
  rotate_left
  · cases h
  · cases h
  rename_i tk xs ety hxs hety
  obtain ⟨e, i, z, hd, hi, hz, hsz, hby, hzero, hzl⟩ := elemTy_ok g hety
  unfold buildSliceXs at hxs
  simp only [hety] at hxs
  split at hxs
  · cases hxs
  · rename_i ps hps
    split at hxs
    rotate_left
    · cases hxs
    rename_i hlen
    unfold slR at hxs
    split at hxs
    rotate_left
    · cases hxs
    rename_i ys hfe
    simp only [R.ok.injEq, AV.sl.injEq] at hxs
    obtain ⟨_, rfl⟩ := hxs
    have hparts := cleanParts_ok hps (evParts_ok (E := E) (W := viewOf m fr.fl) hs.glb hs.frm.tms parts.toList)
    have hpm : (parts.map fun (i, x) => (i, a.eval x)).toList = parts.toList.map fun p => (p.1, a.eval p.2) := by simp
    rw [← hpm] at hparts
    have hzc := zeroCells_ok E .nil z
    rw [← hzero] at hzc
    have hzs : z.cells.size = ety.size := by
      have := hzc.length
      simp only [Array.length_toList] at this
      omega
    have hini : Vs E .nil (List.replicate len ety.zero).flatten (madeCells (if len * i.size = 0 then #[] else z.cells) (len * i.size)).toList := by
      rw [hsz]
      split
      · rename_i h0
        rw [h0]
        have : (List.replicate len ety.zero).flatten = [] := by
          apply List.eq_nil_of_length_eq_zero
          rw [flat_len (size := ety.size)]
          · simpa using h0
          · intro x hx; rw [List.eq_of_mem_replicate hx]; exact hzl
        rw [this]
        simp [madeCells, Vs]
      · rw [← hzs, made_repl]
        exact Vs.repl hzc len
    obtain ⟨arr, harr, hV, hl2, hn⟩ := fillE_ok hfe hparts hini (by intro x hx; rw [List.eq_of_mem_replicate hx]; exact hzl)
    simp only [List.length_replicate] at hn
    have hrun : (Instr.buildSlice t len (parts.map fun (i, x) => (i, a.eval x))).run P w = .ok (.slice (some ⟨w.heap.size, 0, none⟩) len len) (w.alloc (.cells arr e)) := by
      simp only [Instr.buildSlice, Sem.run_bind, run_underlying hd, Result.andThen_ok, run_sizeOf' w hi]
      rw [if_neg (by rw [hsz]; omega)]
      rw [← hsz] at harr
      by_cases h0 : len * i.size = 0
      · rw [if_pos h0] at harr ⊢
        simp only [madeCells] at harr
        simp only [Sem.run_bind, Sem.run_pure, Result.andThen_ok, harr, run_newRow]
      · rw [if_neg h0] at harr ⊢
        simp only [madeCells] at harr
        simp only [Sem.run_bind, Sem.run_pure, Result.andThen_ok, run_zeroValue w hi hz, harr, run_newRow]
    have hvl := hV.length
    simp only [Array.length_toList] at hvl
    split at h
    · split at h
      · cases h
      rename_i h0
      simp only [R.ok.injEq, Out.val.injEq] at h
      obtain ⟨rfl, rfl, rfl⟩ := h
      have h0 : 0 < ety.size := by omega
      obtain ⟨E', m', h1, h2⟩ := rowObj_ok (w' := w.alloc (.cells arr e)) (cap := ys.length) hs ⟨rfl, rfl, rfl⟩ hid hl2 (by omega) (by rw [List.take_of_length_le (by rw [Array.length_toList]; omega)]; exact hV) h0 (Nat.le_refl _) (by rw [← flat_len hl2]; omega)
      exact ⟨E', m', _, _, hrun, h1, by rw [← hn]; exact h2⟩
    · simp only [R.ok.injEq, Out.val.injEq] at h
      obtain ⟨rfl, rfl, rfl⟩ := h
      obtain ⟨E', m', h1, h2⟩ := rowPlain_ok (w' := w.alloc (.cells arr e)) hs ⟨rfl, rfl, rfl⟩ hl2 hV
      exact ⟨E', m', _, _, hrun, h1.sub fun i hi => hi.1, by rw [← hn]; exact h2⟩

theorem makeOp_ok (g : Good P cx) {f : FuncId} {d : Option Tmp} {t : TypeId} {l k : AV} {lv kv : Value} (h : makeOp cx f Q id d t l k fr H = .ok (.val v fr' H')) (hs : St cx Q N S E own H m fr a w) (hid : S id) (hl : V E (viewOf m fr.fl) l lv) (hk : V E (viewOf m fr.fl) k kv) :
    ∃ E' m' w' u, (Instr.makeSlice t lv kv).run P w = .ok u w' ∧ Next cx Q N (fun i => S i ∧ i ≠ id) E own H a w w' E' m' fr' H' ∧ V E' (viewOf m' fr'.fl) v u := by
  unfold makeOp at h
  split at h
  rotate_left
  · cases h
  rename_i ety d n k' hety hn hk'
  obtain ⟨e, i, z, hd, hi, hz, hsz, hby, hzero, hzl⟩ := elemTy_ok g hety
  obtain ⟨kl, rfl⟩ := toNat_ok hn hl
  obtain ⟨kk, rfl⟩ := toNat_ok hk' hk
  split at h
  rotate_left
  · cases h
  rename_i hc
  obtain ⟨hnk, hk8, hbt, hs0⟩ := hc
  have hzc := zeroCells_ok E .nil z
  rw [← hzero] at hzc
  have hzs : z.cells.size = ety.size := by
    have := hzc.length
    simp only [Array.length_toList] at this
    omega
  have hb : i.bytes * k' ≤ 4096 * 100000000 := Nat.mul_le_mul (by rw [hby]; exact hbt) hk8
  have hb' : (i.bytes : Int) * (k' : Int) ≤ 281474976710656 := by
    have : ((i.bytes * k' : Nat) : Int) ≤ ((4096 * 100000000 : Nat) : Int) := Int.ofNat_le.2 hb
    rw [Int.natCast_mul] at this
    omega
  have hrun := run_make (P := P) w t e i z hd hi hz kl kk n k' (by omega) (by omega) hb' (by omega)
  simp only [Int.toNat_natCast] at hrun
  rw [hsz] at hrun
  split at h
  · simp only [R.ok.injEq, Out.val.injEq] at h
    obtain ⟨rfl, rfl, rfl⟩ := h
    have hrl : ∀ x ∈ List.replicate n ety.zero, x.length = ety.size := by intro x hx; rw [List.eq_of_mem_replicate hx]; exact hzl
    have hfl := flat_len hrl
    simp only [List.length_replicate] at hfl
    have hms : (madeCells z.cells (k' * ety.size)).size = k' * ety.size := size_madeCells _ _
    have hnm : n * ety.size ≤ k' * ety.size := Nat.mul_le_mul_right _ hnk
    obtain ⟨E', m', h1, h2⟩ := rowObj_ok (xs := List.replicate n ety.zero) (sz := ety.size) (cap := k') (w' := w.alloc (.cells (madeCells z.cells (k' * ety.size)) e)) hs ⟨rfl, rfl, rfl⟩ hid hrl (by omega) (by
      have e1 : (madeCells z.cells (k' * ety.size)).toList.take (List.replicate n ety.zero).flatten.length = (List.replicate n z.cells.toList).flatten := by
        rw [hfl, ← hzs, made_repl]
        have : k' = n + (k' - n) := by omega
        rw [this, ← List.replicate_append_replicate, List.flatten_append, List.take_append_of_le_length, List.take_of_length_le]
        · simp
        · simp
      rw [e1]
      exact Vs.repl hzc n) hs0 (by simpa using hnk) (by omega)
    simp only [List.length_replicate] at h2
    exact ⟨E', m', _, _, hrun, h1, h2⟩
  · split at h
    · rename_i hnk'
      subst hnk'
      simp only [R.ok.injEq, Out.val.injEq] at h
      obtain ⟨rfl, rfl, rfl⟩ := h
      obtain ⟨E', m', h1, h2⟩ := rowPlain_ok (xs := List.replicate n ety.zero) (sz := ety.size) (w' := w.alloc (.cells (madeCells z.cells (n * ety.size)) e)) hs ⟨rfl, rfl, rfl⟩ (by intro x hx; rw [List.eq_of_mem_replicate hx]; exact hzl) (by rw [← hzs, made_repl]; exact Vs.repl hzc n)
      simp only [List.length_replicate] at h2
      exact ⟨E', m', _, _, hrun, h1.sub fun i hi => hi.1, h2⟩
    · cases h

end
end Go.Proofs.Ev
