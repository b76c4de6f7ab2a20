/- copy, clear. -/
import Derived.Test.YtanknkgbleeffaaGreatDoorEvI
set_option linter.all false
namespace Go.Proofs.Ev
open Go
variable [Sg]

section
variable {P : Program} {cx : Cx} {Q : Name} {N : Nat} {S : Nat → Prop} {E : Env} {own : Nat → Tag} {H H' : Heap} {m : Mine} {fr fr' : Fr} {a : Act} {w : World} {id : Nat} {v : AV}

theorem Upd.same {b : Nat} {c : Array Value} {ty : TypeId} (h : blk w b = some (c, ty)) : Upd w w b c ty := ⟨fun _ _ => rfl, cell_of_blk h, ⟨rfl, rfl⟩, fun a ha => by simp [World.frozen?, ha, cell_of_blk h]⟩

/-- cells are laid over an object -/
theorem layObj {o : Name} {n len cap off b d e0 : Nat} {cs cs' x : List AV} {vs : List Value} (hs : St cx Q N S E own H m fr a w) (hl : look H.ob o = some (n, cs)) (hlim : under H.lim o = true) (hO : E.O o n = some (b, d)) (hle : len ≤ cap) (he : 0 < cap → e0 = d + off)
    (hput : putN cs off x = .ok cs') (hx : Vs E .nil x vs) (h1 : ∀ u ∈ vs, u.oneCell' = true) (h0 : len = 0 → vs = []) :
    ∃ w' E', (storeCells ⟨b, e0, none⟩ vs).run P w = .ok () w' ∧ Next cx Q N S E own H a w w' E' m fr (H.set o (n, cs')) := by
  obtain ⟨b', d', c, ty, hO', hown, hb, hsz, hcs, hM⟩ := hs.inv.obj _ _ _ hl
  rw [hO] at hO'
  simp only [Option.some.injEq, Prod.mk.injEq] at hO'
  obtain ⟨rfl, rfl⟩ := hO'
  have hseg := obj_seg hsz hcs
  obtain ⟨hle2, hnew⟩ := putN_vs hput hseg hx
  have hlen : ((c.toList.drop d).take cs.length).length = cs.length := by simp; omega
  rw [hlen] at hle2
  have hcl' : cs'.length = cs.length := by
    have := hnew.length
    rw [this]
    simp only [List.length_append, List.length_take, List.length_drop, hlen]
    omega
  have hs2 := seg_over c.toList vs d off cs.length hle2 (by simpa using hsz)
  rw [← hs2] at hnew
  rcases Nat.eq_zero_or_pos len with hz | hz
  · have := h0 hz
    subst this
    refine ⟨w, _, rfl, setObj_turn (n' := n) (d' := d) (c := c) hs (Upd.same hb) hb rfl hl hO hown hM hlim (.inl ⟨rfl, rfl⟩) (by omega) ?_⟩
    intro i y hy
    obtain ⟨u, hu, hV⟩ := hnew.get i y hy
    simp only [List.append_nil, List.length_nil, Nat.add_zero, List.take_append_drop] at hu
    rw [List.getElem?_take] at hu
    split at hu
    · rw [List.getElem?_drop] at hu
      exact ⟨u, by simpa using hu, hV⟩
    · cases hu
  · have := he (by omega)
    subst this
    have hst := run_storeCells_at P b (d + off) ty vs 0 c w (cell_of_blk hb) (by omega) h1
    simp only [Nat.add_zero] at hst
    refine ⟨_, _, hst, setObj_turn (n' := n) (d' := d) hs (Upd.set (cell_of_blk hb)) hb ?_ hl hO hown hM hlim (.inl ⟨rfl, rfl⟩) ?_ ?_⟩
    · simp; omega
    · simp; omega
    · intro i y hy
      obtain ⟨u, hu, hV⟩ := hnew.get i y hy
      rw [List.getElem?_take] at hu
      split at hu
      · rw [List.getElem?_drop] at hu
        exact ⟨u, by simpa using hu, hV⟩
      · cases hu

theorem copyOp_ok (g : Good P cx) {t ty : TypeId} {ats : Array TypeId} {d x : AV} {dv xv : Value} (ha : ats[0]? = some t) (h : copyOp cx t d x fr H = .ok (.val v fr' H')) (hs : St cx Q N S E own H m fr a w) (hd : V E (viewOf m fr.fl) d dv) (hx : V E (viewOf m fr.fl) x xv) :
    ∃ E' w' r, (Builtin.copy_ ats ty #[dv, xv]).run P w = .ok r w' ∧ Next cx Q N S E own H a w w' E' m fr' H' ∧ V E' (viewOf m fr'.fl) v r := by
  unfold copyOp at h
  cases hety : elemTy cx t with
  | no e => simp [hety] at h
  | ok ety =>
    obtain ⟨e, i, z, hu, hi, hz, hsz, hby, hzero, hzl⟩ := elemTy_ok g hety
    simp only [hety] at h
    cases hel : elems H ety.size x with
    | no e => simp [hel] at h
    | ok ys =>
      obtain ⟨nvs, hnv, hnl, hsrc⟩ := src_ok (P := P) hs.inv hel hx
      have hnlen := hnv.lens hnl
      simp only [hel] at h
      split at h
      · rename_i o ver off len sz
        split at h
        · cases h
        rename_i vv cs hg
        split at h
        rotate_left
        · cases h
        rename_i hc
        obtain ⟨rfl, hlim, hone⟩ := hc
        split at h
        rotate_left
        · cases h
        rename_i cs' hput
        simp only [R.ok.injEq, Out.val.injEq] at h
        obtain ⟨rfl, rfl, rfl⟩ := h
        unfold Heap.get at hg
        split at hg
        rotate_left
        · cases hg
        rename_i y hl
        simp only [R.ok.injEq] at hg
        subst hg
        simp only [V] at hd
        obtain ⟨b, d', cap, n, e0, hO, hS, rfl, hle, hsp, he0⟩ := hd
        have htk := hnv.take hnl (min ys.length len)
        have hlay := layObj (P := P) (len := len) (cap := cap) hs hl hlim hO hle (fun hp => (he0 hp).1) hput (Vss.flat.1 htk) (fun u hu => oness_flat hone hnv u (List.mem_of_mem_take hu)) (by rintro rfl; simp)
        obtain ⟨w', E', hst, hn⟩ := hlay
        have hf := (hsrc w rfl).2 (min ys.length len) (Nat.min_le_left _ _)
        have hmm : ((min ys.length len : Nat) : Int) = min (ys.length : Int) len := by omega
        refine ⟨E', w', goInt (min ys.length len : Nat), ?_, hn, by simp only [V, goInt, hmm]⟩
        simp only [Builtin.copy_, ha, List.getElem?_toArray, List.getElem?_cons_zero, List.getElem?_cons_succ, Sem.run_bind, run_underlying hu, Result.andThen_ok, (hsrc w rfl).1, run_sizeOf' w hi, hsz, Nat.min_def] at hf ⊢
        simp only [hf, Result.andThen_ok, hst, Sem.run_pure, Nat.min_def] at hst ⊢
      · simp only [R.ok.injEq, Out.val.injEq] at h
        obtain ⟨rfl, rfl, rfl⟩ := h
        simp only [V, List.length_nil] at hd
        obtain ⟨base, cap, _, _, rfl, _⟩ := hd
        have hf := (hsrc w rfl).2 0 (Nat.zero_le _)
        refine ⟨E, w, goInt 0, ?_, Next.quiet hs fun _ h => h, by simp [V, goInt]⟩
        have hm : ys.length.min 0 = 0 := Nat.min_eq_right (Nat.zero_le _)
        simp only [Builtin.copy_, ha, List.getElem?_toArray, List.getElem?_cons_zero, List.getElem?_cons_succ, Sem.run_bind, run_underlying hu, Result.andThen_ok, (hsrc w rfl).1, run_sizeOf' w hi, hsz, hm]
        cases base <;> simp [hf, storeCells]
      · cases h

theorem clearOp_ok (g : Good P cx) {t ty : TypeId} {ats : Array TypeId} {x : AV} {xv : Value} (ha : ats[0]? = some t) (h : clearOp cx t x fr H = .ok (.val v fr' H')) (hs : St cx Q N S E own H m fr a w) (hx : V E (viewOf m fr.fl) x xv) :
    ∃ E' w' r, (Builtin.clear_ ats ty #[xv]).run P w = .ok r w' ∧ Next cx Q N S E own H a w w' E' m fr' H' ∧ V E' (viewOf m fr'.fl) v r := by
  unfold clearOp at h
  cases hety : elemTy cx t with
  | no e => simp [hety] at h
  | ok ety =>
    obtain ⟨e, i, z, hu, hi, hz, hsz, hby, hzero, hzl⟩ := elemTy_ok g hety
    simp only [hety] at h
    split at h
    · rename_i o ver off len sz
      split at h
      · cases h
      rename_i vv cs hg
      split at h
      rotate_left
      · cases h
      rename_i hc
      obtain ⟨rfl, hlim, hone⟩ := hc
      split at h
      rotate_left
      · cases h
      rename_i cs' hput
      simp only [R.ok.injEq, Out.val.injEq] at h
      obtain ⟨rfl, rfl, rfl⟩ := h
      unfold Heap.get at hg
      split at hg
      rotate_left
      · cases hg
      rename_i y hl
      simp only [R.ok.injEq] at hg
      subst hg
      simp only [V] at hx
      obtain ⟨b, d', cap, n, e0, hO, hS, rfl, hle, hsp, he0⟩ := hx
      have hzc := zeroCells_ok E .nil z
      rw [← hzero] at hzc
      have hvs := Vs.repl hzc len
      have hzone := ones_ok hone hzc
      have hlay := layObj (P := P) (len := len) (cap := cap) hs hl hlim hO hle (fun hp => (he0 hp).1) hput hvs (fun u hu => by
        obtain ⟨l, hl1, hl2⟩ := List.mem_flatten.1 hu
        rw [List.eq_of_mem_replicate hl1] at hl2
        exact hzone u hl2) (by rintro rfl; simp)
      obtain ⟨w', E', hst, hn⟩ := hlay
      refine ⟨E', w', .tuple #[], ?_, hn, by simp [V, undefA, Vs]⟩
      rcases Nat.eq_zero_or_pos len with hz0 | hz0
      · subst hz0
        simp only [List.replicate_zero, List.flatten_nil, storeCells, Sem.run_pure, Result.ok.injEq, true_and] at hst
        subst hst
        simp [Builtin.clear_, ha, run_underlying hu]
      · have hzz : (Builtin.zeroCells z.cells len).toList = (List.replicate len z.cells.toList).flatten := by
          rw [← made_repl]; rfl
        obtain ⟨k, rfl⟩ : ∃ k, len = k + 1 := ⟨len - 1, by omega⟩
        simp only [Builtin.clear_, ha, List.getElem?_toArray, List.getElem?_cons_zero, Sem.run_bind, run_underlying hu, Result.andThen_ok, run_zeroValue w hi hz, hzz, hst, Sem.run_pure]
    · simp only [R.ok.injEq, Out.val.injEq] at h
      obtain ⟨rfl, rfl, rfl⟩ := h
      simp only [V, List.length_nil] at hx
      obtain ⟨base, cap, _, _, rfl, _⟩ := hx
      refine ⟨E, w, .tuple #[], ?_, Next.quiet hs fun _ h => h, by simp [V, undefA, Vs]⟩
      cases base <;> simp [Builtin.clear_, ha, run_underlying hu]
    · cases h

end
end Go.Proofs.Ev
