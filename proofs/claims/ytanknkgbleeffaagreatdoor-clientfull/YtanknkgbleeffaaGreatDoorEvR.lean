/- Slices that are read; conversions; addresses; what is built. -/
import Derived.Test.YtanknkgbleeffaaGreatDoorEvQ
import Derived.Laws.BytesString
import Derived.Laws.Slices
set_option linter.all false
namespace Go.Proofs.Ev
open Go
variable [Sg]

theorem Vss.lens {E : Env} {W : View} {sz : Nat} : ∀ {xs : List (List AV)} {vs : List Value}, Vss E W xs vs → (∀ x ∈ xs, x.length = sz) → vs.length = xs.length * sz
  | [], vs, h, _ => by simp [Vss] at h; simp [h]
  | x :: r, vs, h, hl => by
    simp only [Vss] at h
    obtain ⟨v, s, rfl, hv, h⟩ := h
    have h1 := hv.length
    have h2 := Vss.lens h (fun y hy => hl y (by simp [hy]))
    have h3 := hl x (by simp)
    simp only [List.length_append, List.length_cons, h2, ← h1, h3]
    rw [Nat.add_mul, Nat.one_mul, Nat.add_comm]

theorem Vss.append {E : Env} {W : View} {xs ys : List (List AV)} {us vs : List Value} (h : Vss E W xs us) (h' : Vss E W ys vs) : Vss E W (xs ++ ys) (us ++ vs) := by
  rw [Vss.flat] at h h' ⊢
  simpa using h.append h'

/-- one element -/
theorem Vss.nth {E : Env} {W : View} {sz : Nat} : ∀ {xs : List (List AV)} {vs : List Value}, Vss E W xs vs → (∀ x ∈ xs, x.length = sz) → ∀ (i : Nat) x, xs[i]? = some x → Vs E W x ((vs.drop (i * sz)).take sz)
  | [], vs, _, _, i, x, hi => by simp at hi
  | y :: r, vs, h, hl, i, x, hi => by
    simp only [Vss] at h
    obtain ⟨v, s, rfl, hv, h⟩ := h
    have h1 := hv.length
    have h3 := hl y (by simp)
    cases i with
    | zero =>
      simp only [List.getElem?_cons_zero, Option.some.injEq] at hi
      subst hi
      have : (v ++ s).take sz = v := by rw [List.take_append_of_le_length (by omega), List.take_of_length_le (by omega)]
      simpa [this] using hv
    | succ i =>
      simp only [List.getElem?_cons_succ] at hi
      have := Vss.nth h (fun y hy => hl y (by simp [hy])) i x hi
      have e : (v ++ s).drop ((i + 1) * sz) = s.drop (i * sz) := by
        rw [Nat.add_mul, Nat.one_mul, Nat.add_comm (i * sz) sz, ← List.drop_drop]
        congr 1
        rw [List.drop_append_of_le_length (by omega), List.drop_of_length_le (by omega), List.nil_append]
      rwa [e]

theorem Vss.take {E : Env} {W : View} {sz : Nat} {xs : List (List AV)} {vs : List Value} (h : Vss E W xs vs) (hl : ∀ x ∈ xs, x.length = sz) (n : Nat) : Vss E W (xs.take n) (vs.take (n * sz)) := by
  induction n generalizing xs vs with
  | zero => simp [Vss]
  | succ n ih =>
    cases xs with
    | nil => simp [Vss] at h; subst h; simp [Vss]
    | cons y r =>
      simp only [Vss] at h
      obtain ⟨v, s, rfl, hv, h⟩ := h
      have h1 := hv.length
      have h3 := hl y (by simp)
      have h2 := ih h (fun y hy => hl y (by simp [hy]))
      simp only [List.take_succ_cons, Vss]
      refine ⟨v, s.take (n * sz), ?_, hv, h2⟩
      rw [Nat.add_mul, Nat.one_mul, Nat.add_comm (n * sz) sz, List.take_append, List.take_of_length_le (by omega)]
      congr 2
      omega

theorem Vss.drop {E : Env} {W : View} {sz : Nat} {xs : List (List AV)} {vs : List Value} (h : Vss E W xs vs) (hl : ∀ x ∈ xs, x.length = sz) (n : Nat) : Vss E W (xs.drop n) (vs.drop (n * sz)) := by
  induction n generalizing xs vs with
  | zero => simpa using h
  | succ n ih =>
    cases xs with
    | nil => simp [Vss] at h; subst h; simp [Vss]
    | cons y r =>
      simp only [Vss] at h
      obtain ⟨v, s, rfl, hv, h⟩ := h
      have h1 := hv.length
      have h3 := hl y (by simp)
      have h2 := ih h (fun y hy => hl y (by simp [hy]))
      simp only [List.drop_succ_cons]
      have e : (v ++ s).drop ((n + 1) * sz) = s.drop (n * sz) := by
        rw [Nat.add_mul, Nat.one_mul, Nat.add_comm (n * sz) sz, ← List.drop_drop]
        congr 1
        rw [List.drop_append_of_le_length (by omega), List.drop_of_length_le (by omega), List.nil_append]
      rwa [e]

theorem pieces_flat : ∀ (n k : Nat) (l : List AV), l.length = k * n → (pieces n k l).flatten = l ∧ (pieces n k l).length = k ∧ ∀ x ∈ pieces n k l, x.length = n
  | n, 0, l, h => by simp at h; subst h; simp [pieces]
  | n, k + 1, l, h => by
    have hk : (k + 1) * n = k * n + n := by rw [Nat.add_mul, Nat.one_mul]
    obtain ⟨h1, h2, h3⟩ := pieces_flat n k (l.drop n) (by simp; omega)
    simp only [pieces, List.flatten_cons, h1, List.take_append_drop, List.length_cons, h2, List.mem_cons, true_and]
    rintro x (rfl | hx)
    · simp; omega
    · exact h3 x hx

theorem sizeIs_all {n sz : Nat} {xs : List (List AV)} (h : sizeIs n xs = true) (hl : ∀ x ∈ xs, x.length = sz) : ∀ x ∈ xs, x.length = n := by
  cases xs with
  | nil => simp
  | cons x r =>
    have h0 := Nat.eq_of_beq_eq_true h
    have h1 := hl x (by simp)
    intro y hy
    rw [hl y hy, ← h1, h0]

/-- what a slice holds, as it lies -/
structure Row (E : Env) (w : World) (size : Nat) (xs : List (List AV)) (v : Value) (base : Option Addr) (cap : Nat) (vs : List Value) : Prop where
  val : v = .slice base xs.length cap
  le : xs.length ≤ cap
  lens : ∀ x ∈ xs, x.length = size
  cells : Vss E .nil xs vs
  nil : base = none → xs = []
  lies : ∀ a, base = some a → a.spot = none ∧ Lies w a.block a.off vs

theorem obj_lies {E : Env} {own : Nat → Tag} {H : Heap} {w : World} (hi : Inv E own H w) {o : Name} {n : Nat} {cs : List AV} (hl : look H.ob o = some (n, cs)) {b d : Nat} (hO : E.O o n = some (b, d)) :
    ∃ vs, vs.length = cs.length ∧ Lies w b d vs ∧ Vs E .nil cs vs := by
  obtain ⟨b', d', c, ty, hO', _, hb, hsz, hcs, _⟩ := hi.obj _ _ _ hl
  rw [hO] at hO'
  simp only [Option.some.injEq, Prod.mk.injEq] at hO'
  obtain ⟨rfl, rfl⟩ := hO'
  refine ⟨(c.toList.drop d).take cs.length, by simp; omega, ?_, ?_⟩
  · intro j v hj
    rw [List.getElem?_take] at hj
    split at hj
    · rw [List.getElem?_drop] at hj
      rw [blk_cell hb]
      simpa using hj
    · cases hj
  · refine Vs.of_get (by simp; omega) ?_
    intro i a v ha hv
    obtain ⟨v', hv', hV⟩ := hcs i a ha
    rw [List.getElem?_take] at hv
    split at hv
    · rw [List.getElem?_drop] at hv
      have : c[d + i]? = some v := by simpa using hv
      rw [hv'] at this
      cases this
      exact hV
    · cases hv

theorem Lies.sub {w : World} {b i : Nat} {vs : List Value} (h : Lies w b i vs) (k n : Nat) : Lies w b (i + k) ((vs.drop k).take n) := by
  intro j v hj
  rw [List.getElem?_take] at hj
  split at hj
  · rw [List.getElem?_drop] at hj
    rw [Nat.add_assoc]
    exact h _ _ hj
  · cases hj

theorem elems_row {E : Env} {W : View} {own : Nat → Tag} {H : Heap} {w : World} (hi : Inv E own H w) {size : Nat} {x : AV} {xs : List (List AV)} {v : Value} (h : elems H size x = .ok xs) (hx : V E W x v) (hs : isStr x = false) :
    ∃ base cap vs, Row E w size xs v base cap vs := by
  cases x with
  | sl t ys =>
    simp only [elems] at h
    split at h
    · rename_i hz
      simp only [R.ok.injEq] at h
      subst h
      simp only [V] at hx
      obtain ⟨base, cap, vs, sz, rfl, hle, hl, hvs, hb, _⟩ := hx
      refine ⟨base, cap, vs, rfl, hle, sizeIs_all hz hl, hvs, ?_, ?_⟩
      · rintro rfl
        simp only [atBase] at hb
        cases ys with
        | nil => rfl
        | cons _ _ => simp at hle; omega
      · rintro a rfl
        exact ⟨hb.1, fun j u hj => hi.frz _ _ _ (hb.2 j u hj)⟩
    · cases h
  | ml o ver off len sz =>
    simp only [elems, Heap.get] at h
    cases hl : look H.ob o with
    | none => simp [hl] at h
    | some y =>
      obtain ⟨n, cs⟩ := y
      simp only [hl] at h
      split at h
      · rename_i hn
        subst hn
        cases ht : takeN (len * size) cs off with
        | no e => simp [ht] at h
        | ok l =>
          simp only [ht, R.ok.injEq] at h
          obtain ⟨rfl, hlen⟩ := takeN_ok ht
          obtain ⟨p1, p2, p3⟩ := pieces_flat size len _ hlen
          simp only [V] at hx
          obtain ⟨b, d, cap, nb, e, hO, hS, rfl, hle, _, he⟩ := hx
          obtain ⟨vs, hvl, hlies, hVs⟩ := obj_lies hi hl hO
          subst h
          refine ⟨_, cap, (vs.drop off).take (len * size), by rw [p2], by rw [p2]; exact hle, p3, ?_, ?_, ?_⟩
          · rw [Vss.flat, p1]
            exact (hVs.drop off).take _
          · intro e; cases e
          · rintro a ⟨⟩
            refine ⟨rfl, ?_⟩
            by_cases hc : 0 < cap
            · obtain ⟨rfl, _⟩ := he hc
              exact hlies.sub off _
            · have : len = 0 := by omega
              subst this
              intro j u hj
              simp at hj
      · cases h
  | str s => cases hs
  | _ => simp [elems] at h

theorem bytesOf_ok {E : Env} {W : View} : ∀ {xs : List (List AV)} {l : List Nat} {vs : List Value}, bytesOf xs = .ok l → Vss E W xs vs → ∃ ns : List Int, vs = ns.map (Value.int .u8) ∧ l = ns.map fun n => n.toNat % 256
  | [], l, vs, h, hv => by
    simp only [bytesOf, R.ok.injEq] at h
    simp only [Vss] at hv
    subst h; subst hv
    exact ⟨[], rfl, rfl⟩
  | x :: r, l, vs, h, hv => by
    unfold bytesOf at h
    split at h
    · rename_i heq; cases heq
    · rename_i n r' heq
      simp only [List.cons.injEq] at heq
      obtain ⟨rfl, rfl⟩ := heq
      simp only [Vss, Vs, V] at hv
      obtain ⟨v, s, rfl, ⟨u, s', rfl, rfl, rfl⟩, hr⟩ := hv
      cases hb : bytesOf r with
      | no e => simp [hb] at h
      | ok l' =>
        simp only [hb, R.ok.injEq] at h
        subst h
        obtain ⟨ns, rfl, rfl⟩ := bytesOf_ok hb hr
        exact ⟨n :: ns, rfl, rfl⟩
    · cases h

theorem fold_push (ns : List Int) : ∀ acc : List UInt8, ns.foldl (fun r n => r.push (UInt8.ofNat n.toNat)) (⟨⟨acc⟩⟩ : ByteArray) = ⟨⟨acc ++ ns.map fun n => UInt8.ofNat n.toNat⟩⟩ := by
  induction ns with
  | nil => intro acc; simp
  | cons n r ih =>
    intro acc
    have : (⟨⟨acc⟩⟩ : ByteArray).push (UInt8.ofNat n.toNat) = ⟨⟨acc ++ [UInt8.ofNat n.toNat]⟩⟩ := by
      apply ByteArray.ext
      simp [ByteArray.push]
    simp only [List.foldl_cons, this, ih, List.map_cons, List.append_assoc, List.singleton_append]

theorem lies_loadCells {P : Program} {w : World} {b i : Nat} {vs : List Value} (h : Lies w b i vs) : (loadCells ⟨b, i, none⟩ vs.length).run P w = .ok ⟨vs⟩ w :=
  run_loadCells_list w ⟨b, i, none⟩ vs (fun j v hj => by rw [addr_add]; exact h j v hj)

theorem addr_eta {a : Addr} (h : a.spot = none) : a = ⟨a.block, a.off, none⟩ := by cases a; simp_all

theorem wrap_id {k : IntKind} {n : Int} (h1 : k.min ≤ n) (h2 : n ≤ k.max) : k.wrap n = n := by
  unfold IntKind.min at h1
  unfold IntKind.max at h2
  unfold IntKind.wrap
  cases k <;> simp [IntKind.signed, IntKind.bits] at h1 h2 ⊢ <;> omega

theorem conv_ok {P : Program} {c : Cx} (g : Good P c) {E : Env} {W : View} {own : Nat → Tag} {H : Heap} {w : World} (hi : Inv E own H w) {src dst : TypeId} {x z : AV} {v : Value} (h : conv c H src dst x = .ok z) (hx : V E W x v) :
    ∃ u, (convert src dst v).run P w = .ok u w ∧ V E W z u := by
  unfold conv at h
  split at h
  · rename_i s d hs hd
    obtain ⟨ds, hds, es⟩ := underlying_shp g hs
    obtain ⟨dd, hdd, ed⟩ := underlying_shp g hd
    split at h
    · rename_i k _ n h1 h2
      rw [h1] at es; rw [h2] at ed
      have := shpD_int es.symm; subst this
      have := shpD_int ed.symm; subst this
      simp only [R.ok.injEq] at h
      subst h
      simp only [V] at hx
      subst hx
      exact ⟨.int k (k.wrap n), by simp [convert, run_underlying hds, run_underlying hdd, Conv.intToInt], by simp [V, fit_eq]⟩
    · rename_i k _ s' lo hi h1 h2
      rw [h1] at es; rw [h2] at ed
      have := shpD_int es.symm; subst this
      have := shpD_int ed.symm; subst this
      split at h
      rotate_left
      · cases h
      rename_i hb
      simp only [ile_eq, Bool.and_eq_true, decide_eq_true_eq] at hb
      simp only [R.ok.injEq] at h
      subst h
      simp only [V] at hx
      obtain ⟨rfl, hx1, hx2⟩ := hx
      have hw : k.wrap (Sg.σ s') = Sg.σ s' := wrap_id (Int.le_trans hb.1 hx1) (Int.le_trans hx2 hb.2)
      exact ⟨.int k (k.wrap (Sg.σ s')), by simp [convert, run_underlying hds, run_underlying hdd, Conv.intToInt], by simp only [V, hw]; exact ⟨trivial, hx1, hx2⟩⟩
    · rename_i s' h1 h2
      rw [h1] at es; rw [h2] at ed
      have := shpD_str es.symm; subst this
      have := shpD_str ed.symm; subst this
      simp only [R.ok.injEq] at h
      subst h
      have hx' := hx
      simp only [V] at hx
      obtain ⟨l, rfl, rfl⟩ := hx
      exact ⟨_, by simp only [convert, Sem.run_bind, run_underlying hds, run_underlying hdd, Result.andThen_ok, Sem.run_pure], hx'⟩
    · rename_i y _ _ _ e h1 h2
      rw [h1] at es; rw [h2] at ed
      have := shpD_sl es.symm; subst this
      have := shpD_str ed.symm; subst this
      split at h
      · cases h
      · rename_i hns
        unfold convStr at h
        cases he : c.ty e with
        | no e' => simp [he] at h
        | ok ety =>
          obtain ⟨de, hde, ee⟩ := underlying_shp g he
          simp only [he] at h
          split at h
          · rename_i h3
            rw [h3] at ee
            have := shpD_int ee.symm; subst this
            cases hel : elems H 1 y with
            | no e' => simp [hel] at h
            | ok xs =>
              simp only [hel] at h
              cases hb : bytesOf xs with
              | no e' => simp [hb] at h
              | ok l =>
                simp only [hb, R.ok.injEq] at h
                subst h
                obtain ⟨base, cap, vs, hrow⟩ := elems_row hi hel hx (by simpa using hns)
                obtain ⟨ns, rfl, rfl⟩ := bytesOf_ok hb hrow.cells
                have hv := hrow.val
                subst hv
                have hlen := Vss.lens hrow.cells hrow.lens
                simp only [List.length_map, Nat.mul_one] at hlen
                rw [run_convert_bytes_string w src dst e _ _ _ hds hde hdd]
                cases base with
                | none =>
                  have := hrow.nil rfl
                  subst this
                  simp only [List.length_nil] at hlen
                  have : ns = [] := List.length_eq_zero_iff.1 hlen
                  subst this
                  exact ⟨.string ⟨⟨[]⟩⟩, by rfl, by simp [V]⟩
                | some a =>
                  obtain ⟨hsp, hlies⟩ := hrow.lies a rfl
                  have hload := lies_loadCells (P := P) hlies
                  rw [← addr_eta hsp, List.length_map, hlen] at hload
                  refine ⟨.string ⟨⟨ns.map fun n => UInt8.ofNat n.toNat⟩⟩, ?_, ?_⟩
                  · rw [run_bytesToString w a xs.length cap ns (by simpa using hload)]
                    have := fold_push ns []
                    simp only [List.nil_append] at this
                    rw [show ByteArray.empty = (⟨⟨[]⟩⟩ : ByteArray) from rfl, this]
                  · simp only [V]
                    refine ⟨_, rfl, ?_⟩
                    simp [List.map_map, Function.comp_def]
          · cases h
    · cases h
  · cases h

end Go.Proofs.Ev
