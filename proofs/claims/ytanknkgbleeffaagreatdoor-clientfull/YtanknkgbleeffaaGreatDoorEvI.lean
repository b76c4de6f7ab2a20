/- append, copy, clear; what a callee hands back. -/
import Derived.Test.YtanknkgbleeffaaGreatDoorEvH
set_option linter.all false
namespace Go.Proofs.Ev
open Go
variable [Sg]

section
variable {P : Program} {cx : Cx} {Q : Name} {N : Nat} {S : Nat → Prop} {E : Env} {own : Nat → Tag} {H H' : Heap} {m : Mine} {fr fr' : Fr} {a : Act} {w : World} {id : Nat} {v : AV}

/-- a source's cells, wherever nothing but the tape has moved -/
theorem src_ok {W : View} (hi : Inv E own H w) {size : Nat} {x : AV} {xs : List (List AV)} {xv : Value} (h : elems H size x = .ok xs) (hx : V E W x xv) :
    ∃ vs, Vss E .nil xs vs ∧ (∀ y ∈ xs, y.length = size) ∧ ∀ w' : World, w'.heap = w.heap → (Builtin.lenOf xv).run P w' = .ok xs.length w' ∧
      ∀ n, n ≤ xs.length → (Builtin.firstCells size n xv).run P w' = .ok ⟨vs.take (n * size)⟩ w' := by
  cases hstr : isStr x with
  | false =>
    obtain ⟨base, cap, vs, r⟩ := elems_row hi h hx hstr
    refine ⟨vs, r.cells, r.lens, fun w' hw => ?_⟩
    rw [r.val]
    refine ⟨rfl, fun n hn => ?_⟩
    cases base with
    | none =>
      have := r.nil rfl
      subst this
      have h0 : n = 0 := by simpa using hn
      subst h0
      have := r.cells
      simp only [Vss] at this
      subst this
      simp [Builtin.firstCells]
    | some b =>
      obtain ⟨hsp, hl⟩ := r.lies b rfl
      have hvl := r.cells.lens r.lens
      have hle : n * size ≤ xs.length * size := Nat.mul_le_mul_right _ hn
      refine run_firstCells_some w' size n b xs.length cap (vs.take (n * size)) (by simp; omega) (fun j u hj => ?_)
      rw [addr_eta hsp, addr_add]
      rw [List.getElem?_take] at hj
      split at hj
      · have := hl j u hj
        unfold World.cell? at this ⊢
        rw [hw]; exact this
      · cases hj
  | true =>
    cases x <;> try cases hstr
    rename_i s
    simp only [elems] at h
    split at h
    rotate_left
    · cases h
    rename_i h1
    have h1 := Nat.eq_of_beq_eq_true h1
    subst h1
    simp only [R.ok.injEq] at h
    simp only [V] at hx
    obtain ⟨l, rfl, rfl⟩ := hx
    subst h
    refine ⟨l.map fun b => .int .u8 b.toNat, ?_, by simp, fun w' _ => ⟨?_, fun n hn => ?_⟩⟩
    · rw [Vss.flat]
      induction l with
      | nil => simp [Vs]
      | cons b r ih => simp only [List.map_cons, List.flatten_cons, List.singleton_append, Vs]; exact ⟨_, _, rfl, by simp [V], ih⟩
    · simp [Builtin.lenOf, ByteArray.size]
    · simp only [Builtin.firstCells, Nat.mul_one, Sem.run_pure]
      congr 1
      apply Array.ext'
      simp [ByteArray.data_extract, List.extract_eq_take_drop, List.map_take]

theorem grownCap_ge (w : World) (need old : Nat) (e : TypeId) : need ≤ grownCap w need old e := by
  simp only [grownCap, Question.cut]
  omega

theorem run_append_new (t u ty e : TypeId) (i : TypeInfo) (z : Value) (d : TypeDesc) (ht : P.underlying t = some (.slice e)) (hu : P.underlying u = some d) (hd : ∀ k, d ≠ .int k) (hi : P.info? e = some i) (hz : i.zero = some z)
    (base : Option Addr) (sLen sCap n : Nat) (xv : Value) (olds news : Array Value) (hl : ∀ w' : World, w'.heap = w.heap → (Builtin.lenOf xv).run P w' = .ok n w')
    (ho : ∀ w' : World, w'.heap = w.heap → (Builtin.firstCells i.size sLen (.slice base sLen sCap)).run P w' = .ok olds w') (hn : ∀ w' : World, w'.heap = w.heap → (Builtin.firstCells i.size n xv).run P w' = .ok news w')
    (hg : sCap < sLen + n) (h8 : sLen + n ≤ 100000000) (hb : i.bytes ≤ 4096) :
    (Builtin.append_ #[t, u] ty #[.slice base sLen sCap, xv]).run P w =
      .ok (.slice (some ⟨w.heap.size, 0, none⟩) (sLen + n) (grownCap w (sLen + n) sCap e)) (w.drew.alloc (.cells (olds ++ news ++ Builtin.zeroCells z.cells (grownCap w (sLen + n) sCap e - (sLen + n))) e)) := by
  have hg' : ¬ (sLen + n ≤ sCap) := by omega
  have h63 : ¬ (9223372036854775807 < ((sLen : Int) + (n : Int))) := by omega
  have hfit : Builtin.nextslicecap (sLen + n) sCap * i.bytes ≤ 281474976710656 := growslice_fits hg (by
    have : (sLen + n) * i.bytes ≤ 100000000 * 4096 := Nat.mul_le_mul h8 hb
    omega)
  have h48 : ¬ (281474976710656 < Builtin.nextslicecap (sLen + n) sCap * i.bytes) := by omega
  have e1 := hl w rfl
  have e2 := ho w.drew rfl
  have e3 := hn w.drew rfl
  have hm : (match d with | .int _ => true | _ => false) = false := by cases d <;> first | rfl | exact absurd rfl (hd _)
  simp [Builtin.append_, run_underlying ht, run_underlying hu, sizeOf, typeInfo, zeroValue, hi, hz, e1, hg', h63, h48, Question.forced, e2, e3, newRow, grownCap, hm]

theorem run_append_in (t u ty e : TypeId) (i : TypeInfo) (d : TypeDesc) (ht : P.underlying t = some (.slice e)) (hu : P.underlying u = some d) (hd : ∀ k, d ≠ .int k) (hi : P.info? e = some i)
    (b o sLen sCap n : Nat) (xv : Value) (news : Array Value) (cur : Array Value) (te : TypeId) (hc : w.heap[b]? = some (.cells cur te (0, 0))) (hl : (Builtin.lenOf xv).run P w = .ok n w)
    (hn : (Builtin.firstCells i.size n xv).run P w = .ok news w) (h1 : ∀ u ∈ news.toList, u.oneCell' = true) (hg : sLen + n ≤ sCap) (hfit : o + sLen * i.size + news.size ≤ cur.size) :
    (Builtin.append_ #[t, u] ty #[.slice (some ⟨b, o, none⟩) sLen sCap, xv]).run P w =
      .ok (.slice (some ⟨b, o, none⟩) (sLen + n) sCap) (w.setRow b (cur.toList.take (o + sLen * i.size) ++ news.toList ++ cur.toList.drop (o + sLen * i.size + news.size)).toArray) := by
  have hst := run_storeCells_at P b (o + sLen * i.size) te news.toList 0 cur w hc (by simpa using hfit) h1
  simp only [Nat.add_zero, Array.length_toList] at hst
  have hm : (match d with | .int _ => true | _ => false) = false := by cases d <;> first | rfl | exact absurd rfl (hd _)
  simp [Builtin.append_, run_underlying ht, run_underlying hu, sizeOf, typeInfo, hi, hl, hg, hn, addr_add, hst, hm]

theorem oness_flat : ∀ {xs : List (List AV)}, oness xs = true → ∀ {E : Env} {W : View} {vs : List Value}, Vss E W xs vs → ∀ u ∈ vs, u.oneCell' = true
  | [], _, E, W, vs, hv => by simp [Vss] at hv; subst hv; simp
  | x :: r, h, E, W, vs, hv => by
    simp only [oness] at h
    split at h
    rotate_left
    · cases h
    rename_i h1
    simp only [Vss] at hv
    obtain ⟨v, s, rfl, hx, hs⟩ := hv
    intro u hu
    rcases List.mem_append.1 hu with hu | hu
    · exact ones_ok h1 hx u hu
    · exact oness_flat h hs u hu

/-- a filled row's value -/
theorem tok_val {E : Env} {m : Mine} {fl : Tr (Nat × Nat)} {t k cap sz : Nat} {xs : List (List AV)} {vs : List Value} {ad : Addr} (hf : Tr.get (path t) fl = some (k, xs.length)) (hK : m.K t k = some (ad, cap, sz)) (hsp : ad.spot = none) (hle : xs.length ≤ cap)
    (hl : ∀ x ∈ xs, x.length = sz) (hv : Vss E .nil xs vs) (hz : Fz E ad.block ad.off vs) : V E (viewOf m fl) (.sl (.loc t k) xs) (.slice (some ad) xs.length cap) := by
  simp only [V]
  refine ⟨some ad, cap, vs, sz, rfl, hle, hl, hv, ⟨hsp, hz⟩, by rw [hK]; rfl, fun n hn => ?_⟩
  rw [hf] at hn
  simp only [Option.some.injEq, Prod.mk.injEq] at hn
  obtain ⟨_, rfl⟩ := hn
  exact ⟨Nat.le_refl _, fun _ => ⟨ad, rfl, hK⟩⟩

/-- a row in a new place: a token, new or moved -/
theorem tokNew_ok {xs : List (List AV)} {vs : List Value} {t k cap sz : Nat} {arr : Array Value} {e : TypeId} {w' : World} (hs : St cx Q N S E own H m fr a w) (hw : w'.heap = w.heap.push (.cells arr e) ∧ w'.os = w.os ∧ w'.output = w.output) (hk : S k ∨ ∃ n0, Tr.get (path t) fr.fl = some (k, n0) ∧ n0 < xs.length)
    (h0 : 0 < xs.length) (hz : 0 < sz) (hle : xs.length ≤ cap) (hcap : cap * sz ≤ arr.size) (hl : ∀ x ∈ xs, x.length = sz) (hv : Vss E .nil xs vs) (hvs : ∀ (i : Nat) u, vs[i]? = some u → arr[i]? = some u) :
    ∃ E' m', Next cx Q N (fun i => S i ∧ i ≠ k) E own H a w w' E' m' { fr with fl := Tr.set (path t) (k, xs.length) fr.fl } H ∧ V E' (viewOf m' (Tr.set (path t) (k, xs.length) fr.fl)) (.sl (.loc t k) xs) (.slice (some ⟨w.heap.size, 0, none⟩) xs.length cap) := by
  have hn := newTok (c := arr) (t := t) (k := k) (n := xs.length) (cap := cap) (sz := sz) hs hw hk h0 hz hle hcap
  have hle' : E.le (frz E w.heap.size 0 (xs.length * sz) arr) := frz_le fun i v h _ _ => by have := hs.inv.M_lt h; omega
  refine ⟨_, _, hn, tok_val (by rw [Tr.get_set_path]; simp) (by simp) rfl hle hl (Vss.mono hle' hv) ?_⟩
  intro i u hu
  have hvl := hv.lens hl
  have hi : i < vs.length := (List.getElem?_eq_some_iff.1 hu).1
  show (if _ then _ else _) = some u
  rw [if_pos ⟨rfl, Nat.zero_le _, by simp; omega⟩]
  simpa using hvs i u hu

/-- a token's row, filled on in its place -/
theorem tokIn_ok {xs ys : List (List AV)} {olds news : List Value} {t k cap sz : Nat} {ad : Addr} {c0 : Array Value} {ty : TypeId} (hs : St cx Q N S E own H m fr a w) (hfl : Tr.get (path t) fr.fl = some (k, xs.length)) (hK : m.K t k = some (ad, cap, sz)) (hb : blk w ad.block = some (c0, ty))
    (hsp : ad.spot = none) (ho : own ad.block = .tok t) (hz : 0 < sz) (hM : ∀ i, ad.off + xs.length * sz ≤ i → E.M ad.block i = none) (h0 : 0 < ys.length) (hn : xs.length + ys.length ≤ cap) (hcap : ad.off + cap * sz ≤ c0.size)
    (hl : ∀ x ∈ xs, x.length = sz) (hl2 : ∀ x ∈ ys, x.length = sz) (hv : Vss E .nil xs olds) (hfz : Fz E ad.block ad.off olds) (hv2 : Vss E .nil ys news) :
    ∃ E', Next cx Q N S E own H a w (w.setRow ad.block (c0.toList.take (ad.off + xs.length * sz) ++ news ++ c0.toList.drop (ad.off + xs.length * sz + news.length)).toArray) E' m { fr with fl := Tr.set (path t) (k, xs.length + ys.length) fr.fl } H ∧
      V E' (viewOf m (Tr.set (path t) (k, xs.length + ys.length) fr.fl)) (.sl (.loc t k) (xs ++ ys)) (.slice (some ad) (xs.length + ys.length) cap) := by
  have hol := hv.lens hl
  have hnl := hv2.lens hl2
  have hmul : xs.length * sz + ys.length * sz ≤ cap * sz := by rw [← Nat.add_mul]; exact Nat.mul_le_mul_right _ hn
  have hsz : (c0.toList.take (ad.off + xs.length * sz) ++ news ++ c0.toList.drop (ad.off + xs.length * sz + news.length)).toArray.size = c0.size := by
    simp; omega
  have hnx := fillTok (n' := xs.length + ys.length) (c := (c0.toList.take (ad.off + xs.length * sz) ++ news ++ c0.toList.drop (ad.off + xs.length * sz + news.length)).toArray) hs hfl hK (Upd.set (cell_of_blk hb)) hb hsz hsp ho hz hM (by omega) hn (by rw [hsz]; exact hcap) (fun i hi => by
    simp only [List.getElem?_toArray, List.getElem?_append, List.length_append, List.length_take, Array.length_toList]
    rw [if_pos (by omega), if_pos (by omega), List.getElem?_take, if_pos hi]
    simp)
  have hle' : E.le (frz E ad.block (ad.off + xs.length * sz) (ad.off + (xs.length + ys.length) * sz) (c0.toList.take (ad.off + xs.length * sz) ++ news ++ c0.toList.drop (ad.off + xs.length * sz + news.length)).toArray) := frz_le fun i v h h1 _ => by rw [hM i h1] at h; cases h
  refine ⟨_, hnx, ?_⟩
  have := tok_val (E := frz E ad.block (ad.off + xs.length * sz) (ad.off + (xs.length + ys.length) * sz) (c0.toList.take (ad.off + xs.length * sz) ++ news ++ c0.toList.drop (ad.off + xs.length * sz + news.length)).toArray) (m := m) (fl := Tr.set (path t) (k, xs.length + ys.length) fr.fl) (t := t) (k := k) (xs := xs ++ ys) (vs := olds ++ news) (by rw [Tr.get_set_path]; simp) hK hsp (by simpa using hn)
    (fun x hx => by exact (List.mem_append.1 hx).elim (hl x) (hl2 x)) (Vss.append (Vss.mono hle' hv) (Vss.mono hle' hv2)) (fun i u hu => by
      by_cases hi : i < olds.length
      · rw [List.getElem?_append_left hi] at hu
        exact hle'.M _ _ _ (hfz i u hu)
      · rw [List.getElem?_append_right (by omega)] at hu
        have hlt : i - olds.length < news.length := (List.getElem?_eq_some_iff.1 hu).1
        show (if _ then _ else _) = some u
        have hm2 : (xs.length + ys.length) * sz = xs.length * sz + ys.length * sz := Nat.add_mul _ _ _
        rw [if_pos ⟨rfl, by omega, by omega⟩]
        simp only [List.getElem?_toArray, List.getElem?_append, List.length_append, List.length_take, Array.length_toList]
        rw [if_pos (by omega), if_neg (by omega)]
        rw [← hu]
        congr 1
        omega)
  simpa using this

theorem run_append_none (t u ty e : TypeId) (i : TypeInfo) (d : TypeDesc) (ht : P.underlying t = some (.slice e)) (hu : P.underlying u = some d) (hd : ∀ k, d ≠ .int k) (hi : P.info? e = some i)
    (base : Option Addr) (sLen sCap : Nat) (xv : Value) (hl : (Builtin.lenOf xv).run P w = .ok 0 w) (hn : (Builtin.firstCells i.size 0 xv).run P w = .ok #[] w) (hg : sLen ≤ sCap) :
    (Builtin.append_ #[t, u] ty #[.slice base sLen sCap, xv]).run P w = .ok (.slice base sLen sCap) w := by
  have hm : (match d with | .int _ => true | _ => false) = false := by cases d <;> first | rfl | exact absurd rfl (hd _)
  cases base <;> simp [Builtin.append_, run_underlying ht, run_underlying hu, sizeOf, typeInfo, hi, hl, hg, hn, hm, storeCells]

theorem hasLen_ok {h : Shp} {d : TypeDesc} (hh : hasLen h = true) (e : h = shpD P d) : ∀ k, d ≠ .int k := by
  rintro k rfl
  subst e
  simp [shpD, hasLen] at hh

theorem appendOp_ok (g : Good P cx) {f : FuncId} {dst : Option Tmp} {t u ty : TypeId} {s x : AV} {sv xv : Value} {uy : Ty} (hu : cx.ty u = .ok uy) (hlen : hasLen uy.shp = true) (h : appendOp cx f Q id dst t s x fr H = .ok (.val v fr' H')) (hs : St cx Q N S E own H m fr a w) (hid : S id)
    (hsv : V E (viewOf m fr.fl) s sv) (hxv : V E (viewOf m fr.fl) x xv) :
    ∃ E' m' w' r, (Builtin.append_ #[t, u] ty #[sv, xv]).run P w = .ok r w' ∧ Next cx Q N (fun i => S i ∧ i ≠ id) E own H a w w' E' m' fr' H' ∧ V E' (viewOf m' fr'.fl) v r := by
  obtain ⟨ud, hud, hus⟩ := underlying_shp g hu
  have hdi := hasLen_ok hlen hus
  unfold appendOp at h
  cases hty : cx.ty t with
  | no e => simp [hty] at h
  | ok y =>
    obtain ⟨d, hd, es⟩ := underlying_shp g hty
    simp only [hty] at h
    split at h
    rotate_left
    · cases h
    rename_i e he
    rw [he] at es
    have := shpD_sl es.symm; subst this
    cases hety : cx.ty e with
    | no e' => simp [hety] at h
    | ok ety =>
      obtain ⟨i, de, z, hi, hde, hz, hsz, hby, _, hzero⟩ := tyOf_ok (g.ty _ _ hety)
      have hzl := tyOf_zero (g.ty _ _ hety)
      have hzs : z.cells.size = ety.size := by
        have := (zeroCells_ok E .nil z).length
        rw [← hzero] at this
        simp only [Array.length_toList] at this
        omega
      simp only [hety] at h
      cases hel : elems H ety.size x with
      | no e' => simp [hel] at h
      | ok ys0 =>
        simp only [hel] at h
        obtain ⟨nvs, hnv, hnl, hsrc⟩ := src_ok (P := P) hs.inv hel hxv
        have hnlen := hnv.lens hnl
        have hfull : ∀ w' : World, w'.heap = w.heap → (Builtin.firstCells i.size ys0.length xv).run P w' = .ok ⟨nvs⟩ w' := fun w' hw => by
          have := (hsrc w' hw).2 ys0.length (Nat.le_refl _)
          rw [hsz, this, List.take_of_length_le (by omega)]
        cases ys0 with
        | nil =>
          simp only at h
          split at h
          rotate_left
          · cases h
          rename_i hrow
          simp only [R.ok.injEq, Out.val.injEq] at h
          obtain ⟨rfl, rfl, rfl⟩ := h
          simp only [Vss] at hnv
          subst hnv
          have hq : ∃ base n cap, sv = .slice base n cap ∧ n ≤ cap := by
            cases s <;> simp only [isRow, Bool.false_eq_true] at hrow <;> simp only [V] at hsv
            · obtain ⟨b, c, _, _, rfl, hle, _⟩ := hsv; exact ⟨_, _, _, rfl, hle⟩
            · obtain ⟨_, _, _, _, _, _, _, rfl, hle, _⟩ := hsv; exact ⟨_, _, _, rfl, hle⟩
          obtain ⟨base, n, cap, rfl, hle⟩ := hq
          have hf := hfull w rfl
          exact ⟨E, m, w, _, run_append_none t u ty e i ud hd hud hdi hi base n cap xv (hsrc w rfl).1 hf hle, Next.quiet hs fun i hi => hi.1, hsv⟩
        | cons y0 yr =>
          simp only at h
          split at h
          rotate_left
          · cases h
          rename_i hone
          have hone' := oness_flat hone hnv
          generalize hys : y0 :: yr = ys at *
          have hy0 : 0 < ys.length := by rw [← hys]; simp
          split at h
          · rename_i tk xs
            split at h
            rotate_left
            · cases h
            rename_i hc
            obtain ⟨h8, hb4, hsi, hz0⟩ := hc
            split at h
            · cases h
            rename_i dt
            have hels : elems H ety.size (.sl tk xs) = .ok xs := by simp [elems, hsi]
            obtain ⟨ovs, hov, hol, hsrco⟩ := src_ok (P := P) hs.inv hels hsv
            have holen := hov.lens hol
            simp only [V] at hsv
            obtain ⟨base, cap, vs, sz, rfl, hle, hl, hvs, hbase, htok⟩ := hsv
            replace htok : tokRel (viewOf m fr.fl) (exTok tk) xs.length sz base cap := by
              cases tk <;> first
                | exact htok
                | (simp only [tokRel] at htok
                   subst htok
                   simp only [atBase] at hbase
                   subst hbase
                   simp only [exTok, tokRel]
                   omega)
            clear hels
            generalize exTok tk = tk at h htok
            have hofull : ∀ w' : World, w'.heap = w.heap → (Builtin.firstCells i.size xs.length (.slice base xs.length cap)).run P w' = .ok ⟨ovs⟩ w' := fun w' hw => by
              have := (hsrco w' hw).2 xs.length (Nat.le_refl _)
              rw [hsz, this, List.take_of_length_le (by omega)]
            have hrunNew : cap < xs.length + ys.length → (Builtin.append_ #[t, u] ty #[.slice base xs.length cap, xv]).run P w = .ok (.slice (some ⟨w.heap.size, 0, none⟩) (xs.length + ys.length) (grownCap w (xs.length + ys.length) cap e)) (w.drew.alloc (.cells (⟨ovs⟩ ++ ⟨nvs⟩ ++ Builtin.zeroCells z.cells (grownCap w (xs.length + ys.length) cap e - (xs.length + ys.length))) e)) := fun hg =>
              run_append_new t u ty e i z ud hd hud hdi hi hz base xs.length cap ys.length xv ⟨ovs⟩ ⟨nvs⟩ (fun w' hw => (hsrc w' hw).1) hofull hfull hg h8 (by rw [hby]; exact hb4)
            have hge := grownCap_ge w (xs.length + ys.length) cap e
            have hmul : xs.length * ety.size + ys.length * ety.size = (xs.length + ys.length) * ety.size := (Nat.add_mul _ _ _).symm
            have hmul2 : (xs.length + ys.length) * ety.size + (grownCap w (xs.length + ys.length) cap e - (xs.length + ys.length)) * ety.size = grownCap w (xs.length + ys.length) cap e * ety.size := by
              rw [← Nat.add_mul]; congr 1; omega
            have hasz : ((⟨ovs⟩ : Array Value) ++ ⟨nvs⟩ ++ Builtin.zeroCells z.cells (grownCap w (xs.length + ys.length) cap e - (xs.length + ys.length))).size = grownCap w (xs.length + ys.length) cap e * ety.size := by
              simp only [Array.size_append, size_zeroCells, List.size_toArray, hzs]
              omega
            have hal : ∀ x ∈ xs ++ ys, x.length = ety.size := fun x hx => (List.mem_append.1 hx).elim (hol x) (hnl x)
            have hpre : ∀ (j : Nat) q, (ovs ++ nvs)[j]? = some q → ((⟨ovs⟩ : Array Value) ++ ⟨nvs⟩ ++ Builtin.zeroCells z.cells (grownCap w (xs.length + ys.length) cap e - (xs.length + ys.length)))[j]? = some q := fun j q hj => by
              have hlt := (List.getElem?_eq_some_iff.1 hj).1
              rw [Array.getElem?_append_left (by simpa using hlt)]
              simpa using hj
            unfold growOp at h
            split at h
            · -- an object of its own
              split at h
              rotate_left
              · cases h
              rename_i hxs0
              simp only [R.ok.injEq, Out.val.injEq] at h
              obtain ⟨rfl, rfl, rfl⟩ := h
              have hcap0 : cap = 0 := by simpa [tokRel] using htok
              subst hcap0
              simp only [List.length_nil, Nat.zero_add] at *
              have : ovs = [] := by apply List.eq_nil_of_length_eq_zero; simpa using holen
              subst this
              obtain ⟨E', m', h1, h2⟩ := rowObj_ok (xs := ys) (sz := ety.size) (cap := grownCap w ys.length 0 e) (w' := w.drew.alloc _) hs ⟨rfl, rfl, rfl⟩ hid hnl (by rw [hasz, flat_len hnl]; exact Nat.mul_le_mul_right _ hge) (by
                have e1 : (((⟨[]⟩ : Array Value) ++ ⟨nvs⟩ ++ Builtin.zeroCells z.cells (grownCap w ys.length 0 e - ys.length)).toList.take ys.flatten.length) = nvs := by
                  rw [flat_len hnl]
                  simp only [Array.toList_append, List.nil_append]
                  rw [List.take_append_of_le_length (by omega), List.take_of_length_le (by omega)]
                rw [e1]
                exact Vss.flat.1 hnv) hz0 hge (by rw [hasz]; exact Nat.le_refl _)
              exact ⟨E', m', _, _, hrunNew (by omega), h1, h2⟩
            · split at h
              · -- its room is its length
                rename_i hng
                simp only [R.ok.injEq, Out.val.injEq] at h
                obtain ⟨rfl, rfl, rfl⟩ := h
                have hcap0 : cap = xs.length := by simpa [tokRel] using htok
                subst hcap0
                obtain ⟨E', m', h1, h2⟩ := tokNew_ok (xs := xs ++ ys) (vs := ovs ++ nvs) (t := dt) (k := id) (cap := grownCap w (xs.length + ys.length) xs.length e) (sz := ety.size) (w' := w.drew.alloc _) hs ⟨rfl, rfl, rfl⟩ (.inl hid) (by simp; omega) hz0 (by simpa using hge) (by rw [hasz]; exact Nat.le_refl _) hal (Vss.append hov hnv) hpre
                simp only [List.length_append] at h1 h2
                exact ⟨E', m', _, _, hrunNew (by omega), h1, h2⟩
              · rename_i ta ka
                split at h
                rotate_left
                · cases h
                rename_i k' n hfl
                split at h
                rotate_left
                · cases h
                rename_i hkn
                obtain ⟨rfl, rfl⟩ := hkn
                simp only [R.ok.injEq, Out.val.injEq] at h
                obtain ⟨rfl, rfl, rfl⟩ := h
                obtain ⟨_, htk⟩ := htok
                obtain ⟨_, htk2⟩ := htk _ hfl
                obtain ⟨ad, rfl, hK⟩ := htk2 rfl
                obtain ⟨hn0, ad', cap', c0, tb, sz', hK', hsp, hown, hblk, hsz0, hncap, hcc, hM⟩ := hs.frm.fls _ _ _ hfl
                rw [hK] at hK'
                simp only [Option.some.injEq, Prod.mk.injEq] at hK'
                obtain ⟨rfl, rfl, rfl⟩ := hK'
                have hsze : sz = ety.size := by
                  cases xs with
                  | nil => simp at hn0
                  | cons x0 xr => rw [← hl x0 (by simp), hol x0 (by simp)]
                subst hsze
                rcases Nat.lt_or_ge cap (xs.length + ys.length) with hg | hg
                · obtain ⟨E', m', h1, h2⟩ := tokNew_ok (xs := xs ++ ys) (vs := ovs ++ nvs) (t := ta) (k := ka) (cap := grownCap w (xs.length + ys.length) cap e) (sz := ety.size) (w' := w.drew.alloc (.cells _ e)) hs ⟨rfl, rfl, rfl⟩ (.inr ⟨_, hfl, by simp; omega⟩) (by simp; omega) hz0 (by simpa using hge) (by rw [hasz]; exact Nat.le_refl _) hal (Vss.append hov hnv) hpre
                  simp only [List.length_append] at h1 h2
                  exact ⟨E', m', _, _, hrunNew hg, h1.sub fun i hi => ⟨hi.1, fun e => by subst e; have := hs.fresh.K _ hi.1 ta; rw [hK] at this; cases this⟩, h2⟩
                · obtain ⟨E', h1, h2⟩ := tokIn_ok (ys := ys) (news := nvs) hs hfl hK hblk hsp hown hz0 hM hy0 hg hcc hl hnl hvs hbase.2 hnv
                  have hrun := run_append_in (P := P) (w := w) t u ty e i ud hd hud hdi hi ad.block ad.off xs.length cap ys.length xv ⟨nvs⟩ c0 tb (cell_of_blk hblk) (hsrc w rfl).1 (hfull w rfl) hone' hg (by
                    simp only [List.size_toArray, hsz]
                    have : (xs.length + ys.length) * ety.size ≤ cap * ety.size := Nat.mul_le_mul_right _ hg
                    omega)
                  rw [← addr_eta hsp] at hrun
                  simp only [List.size_toArray, hsz] at hrun
                  exact ⟨E', m, _, _, hrun, h1.sub fun i hi => hi.1, h2⟩
              · cases h
          · rename_i o ver off len sz
            cases hg : H.get o with
            | no e' => simp [hg] at h
            | ok y =>
              obtain ⟨vv, cs⟩ := y
              simp only [hg] at h
              split at h
              rotate_left
              · cases h
              rename_i hc
              obtain ⟨rfl, rfl, hlim, h8, hb4, hz0⟩ := hc
              cases htk : takeN (len * ety.size) cs off with
              | no e' => simp [htk] at h
              | ok old =>
                simp only [htk, R.ok.injEq, Out.val.injEq] at h
                obtain ⟨rfl, rfl, rfl⟩ := h
                obtain ⟨rfl, holen⟩ := takeN_ok htk
                unfold Heap.get at hg
                split at hg
                rotate_left
                · cases hg
                rename_i y' hl
                simp only [R.ok.injEq] at hg
                subst hg
                obtain ⟨b, d, c0, tb, hO, hown, hblk, hcsz, hcs, hM⟩ := hs.inv.obj _ _ _ hl
                have hels : elems H ety.size (.ml o vv off len ety.size) = .ok (pieces ety.size len ((cs.drop off).take (len * ety.size))) := by simp [elems, Heap.get, hl, htk]
                obtain ⟨p1, p2, p3⟩ := pieces_flat ety.size len _ holen
                obtain ⟨ovs, hov, hol, hsrco⟩ := src_ok (P := P) hs.inv hels hsv
                have hovl := hov.lens hol
                rw [p2] at hovl hsrco
                have hsv0 := hsv
                simp only [V] at hsv
                obtain ⟨b', d', cap, n, e0, hO', hS, rfl, hle, _, he0⟩ := hsv
                rw [hO] at hO'
                simp only [Option.some.injEq, Prod.mk.injEq] at hO'
                obtain ⟨rfl, rfl⟩ := hO'
                have hofull : ∀ w' : World, w'.heap = w.heap → (Builtin.firstCells i.size len (.slice (some ⟨b, e0, none⟩) len cap)).run P w' = .ok ⟨ovs⟩ w' := fun w' hw => by
                  have := (hsrco w' hw).2 len (Nat.le_refl _)
                  rw [hsz, this, List.take_of_length_le (by omega)]
                have hcat : Vs E .nil ((cs.drop off).take (len * ety.size) ++ ys.flatten) (ovs ++ nvs) := by
                  have h1 := Vss.flat.1 hov
                  rw [p1] at h1
                  exact h1.append (Vss.flat.1 hnv)
                have hcl := hcat.length
                have hcl2 : (ovs ++ nvs).length = (len + ys.length) * ety.size := by
                  rw [List.length_append, hovl, hnlen, Nat.add_mul]
                rcases Nat.lt_or_ge cap (len + ys.length) with hg | hg
                · have hrun := run_append_new t u ty e i z ud hd hud hdi hi hz (some ⟨b, e0, none⟩) len cap ys.length xv ⟨ovs⟩ ⟨nvs⟩ (fun w' hw => (hsrc w' hw).1) hofull hfull hg h8 (by rw [hby]; exact hb4)
                  have hge := grownCap_ge w (len + ys.length) cap e
                  have hmul2 : (len + ys.length) * ety.size + (grownCap w (len + ys.length) cap e - (len + ys.length)) * ety.size = grownCap w (len + ys.length) cap e * ety.size := by
                    rw [← Nat.add_mul]; congr 1; omega
                  have hasz : ((⟨ovs⟩ : Array Value) ++ ⟨nvs⟩ ++ Builtin.zeroCells z.cells (grownCap w (len + ys.length) cap e - (len + ys.length))).size = grownCap w (len + ys.length) cap e * ety.size := by
                    simp only [Array.size_append, size_zeroCells, List.size_toArray, hzs]
                    rw [List.length_append] at hcl2
                    omega
                  have hnx := moveObj_turn (cs' := (cs.drop off).take (len * ety.size) ++ ys.flatten) (w' := w.drew.alloc (.cells _ e)) hs ⟨rfl, rfl, rfl⟩ hl hO hlim (by rw [hasz, hcl, hcl2]; exact Nat.mul_le_mul_right _ hge) (by
                    have e1 : (((⟨ovs⟩ : Array Value) ++ ⟨nvs⟩ ++ Builtin.zeroCells z.cells (grownCap w (len + ys.length) cap e - (len + ys.length))).toList.take ((cs.drop off).take (len * ety.size) ++ ys.flatten).length) = ovs ++ nvs := by
                      rw [hcl]
                      simp only [Array.toList_append]
                      rw [List.take_append_of_le_length (Nat.le_refl _), List.take_of_length_le (Nat.le_refl _)]
                    rw [e1]
                    exact hcat)
                  refine ⟨_, m, _, _, hrun, hnx.sub fun i hi => hi.1, ?_⟩
                  simp only [V]
                  exact ⟨w.heap.size, 0, grownCap w (len + ys.length) cap e, _, 0, by simp, at1_same _ _ _, rfl, hge, hz0, fun _ => ⟨rfl, by rw [hasz]; simp⟩⟩
                · obtain ⟨rfl, hroom⟩ := he0 (by omega)
                  have hmul3 : (len + ys.length) * ety.size ≤ cap * ety.size := Nat.mul_le_mul_right _ hg
                  have hn : c0.size = n := hs.inv.size_at (c := c0) hblk rfl hS
                  rw [List.length_append] at hcl2
                  have hrun := run_append_in (P := P) (w := w) t u ty e i ud hd hud hdi hi b (d + off) len cap ys.length xv ⟨nvs⟩ c0 tb (cell_of_blk hblk) (hsrc w rfl).1 (hfull w rfl) hone' hg (by
                    simp only [List.size_toArray, hsz]
                    omega)
                  simp only [List.size_toArray, hsz] at hrun
                  have hsz2 : (c0.toList.take (d + off + len * ety.size) ++ nvs ++ c0.toList.drop (d + off + len * ety.size + nvs.length)).toArray.size = c0.size := by
                    simp only [List.size_toArray, List.length_append, List.length_take, List.length_drop, Array.length_toList]
                    omega
                  have hnx := setObj_turn (n' := vv + 1) (d' := d + off) (cs' := (cs.drop off).take (len * ety.size) ++ ys.flatten) (c := (c0.toList.take (d + off + len * ety.size) ++ nvs ++ c0.toList.drop (d + off + len * ety.size + nvs.length)).toArray) hs (Upd.set (cell_of_blk hblk)) hblk hsz2 hl hO hown hM hlim (.inr (Nat.lt_succ_self _)) (by
                    rw [hcl, List.length_append, hsz2]
                    omega) (fun j q hj => by
                    have hseg := ((obj_seg hcsz hcs).drop off).take (len * ety.size)
                    have hoo : ((c0.toList.drop d).take cs.length).length = cs.length := by simp; omega
                    have hlo : len * ety.size = 0 ∨ off + len * ety.size ≤ cs.length := by
                      have := holen
                      simp only [List.length_take, List.length_drop] at this
                      omega
                    have hall := hseg.append (Vss.flat.1 hnv)
                    obtain ⟨q', hq, hV⟩ := hall.get j q hj
                    refine ⟨q', ?_, hV⟩
                    rw [← hq]
                    simp only [List.getElem?_toArray, List.getElem?_append, List.length_append, List.length_take, List.length_drop, Array.length_toList, List.getElem?_take, List.getElem?_drop]
                    have e1 : min (d + off + len * ety.size) c0.size = d + off + len * ety.size := by omega
                    have e2 : min (len * ety.size) (min cs.length (c0.size - d) - off) = len * ety.size := by omega
                    rw [e1, e2]
                    have hjl : j < (cs.drop off |>.take (len * ety.size) |>.append ys.flatten).length := (List.getElem?_eq_some_iff.1 hj).1
                    have hjl2 : j < ovs.length + nvs.length := by
                      have : ((cs.drop off).take (len * ety.size) ++ ys.flatten).length = ovs.length + nvs.length := by rw [hcl, List.length_append]
                      have h3 : (cs.drop off |>.take (len * ety.size) |>.append ys.flatten) = ((cs.drop off).take (len * ety.size) ++ ys.flatten) := rfl
                      rw [h3, this] at hjl
                      exact hjl
                    by_cases hjj : j < len * ety.size
                    · rw [if_pos (by omega), if_pos (by omega), if_pos (by omega), if_pos hjj, if_pos hjj, if_pos (by omega)]
                      congr 1
                      omega
                    · rw [if_pos (by omega), if_neg (by omega), if_neg hjj]
                      congr 1
                      omega)
                  refine ⟨_, m, _, _, hrun, hnx.sub fun i hi => hi.1, ?_⟩
                  simp only [V]
                  exact ⟨b, d + off, cap, n, d + off, by simp, hS, rfl, hg, hz0, fun _ => ⟨rfl, by omega⟩⟩
          · cases h

end
end Go.Proofs.Ev
