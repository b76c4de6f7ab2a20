/- Operations that change memory: variables, stores, rows. -/
import Derived.Test.YtanknkgbleeffaaGreatDoorEvZ
set_option linter.all false
namespace Go.Proofs.Ev
open Go
variable [Sg]

theorem Next.quiet {cx : Cx} {Q : Name} {N : Nat} {S S' : Nat → Prop} {E : Env} {own : Nat → Tag} {H : Heap} {m : Mine} {fr : Fr} {a : Act} {w : World} (hs : St cx Q N S E own H m fr a w) (h : ∀ i, S' i → S i) : Next cx Q N S' E own H a w w E m fr H :=
  ⟨own, hs.mono h, .refl _ _ _ _, .refl _ _⟩

theorem Next.sub {cx : Cx} {Q : Name} {N : Nat} {S S' : Nat → Prop} {E E' : Env} {own : Nat → Tag} {H H' : Heap} {m' : Mine} {fr' : Fr} {a : Act} {w w' : World} (hs : Next cx Q N S E own H a w w' E' m' fr' H') (h : ∀ i, S' i → S i) : Next cx Q N S' E own H a w w' E' m' fr' H' :=
  let ⟨o, h1, h2, h3⟩ := hs; ⟨o, h1.mono h, h2, h3⟩

section
variable {P : Program} {cx : Cx} {Q : Name} {N : Nat} {S : Nat → Prop} {E : Env} {own : Nat → Tag} {H H' : Heap} {m : Mine} {fr fr' : Fr} {a : Act} {w : World} {id : Nat} {v : AV}

theorem run_newRow (e : TypeId) (c : Array Value) : (newRow e c).run P w = .ok ⟨w.heap.size, 0, none⟩ (w.alloc (.cells c e)) := rfl

theorem newVar_ok {f : FuncId} {d : Option Tmp} {cs : List AV} {arr : Array Value} {e : TypeId} (h : newVar cx f Q d id cs fr H = .ok (.val v fr' H')) (hs : St cx Q N S E own H m fr a w) (hid : S id) (hc : Vs E (viewOf m fr.fl) cs arr.toList) :
    ∃ E' m', Next cx Q N (fun i => S i ∧ i ≠ id) E own H a w (w.alloc (.cells arr e)) E' m' fr' H' ∧ V E' (viewOf m' fr'.fl) v (.pointer (some ⟨w.heap.size, 0, none⟩)) := by
  unfold newVar at h
  split at h
  · cases h
  · rename_i t
    split at h
    · split at h
      · rename_i cs' hcl
        simp only [R.ok.injEq, Out.val.injEq] at h
        obtain ⟨rfl, rfl, rfl⟩ := h
        have hcc := Vs.clean hcl hc
        have hlen := hcc.length
        simp only [Array.length_toList] at hlen
        refine ⟨_, m, newObj_turn (w' := w.alloc (.cells arr e)) hs ⟨rfl, rfl, rfl⟩ hid (by omega) ?_, ?_⟩
        · rw [List.take_of_length_le (by simp; omega)]; exact hcc
        · simp only [V]
          exact ⟨w.heap.size, 0, by simp, by simp⟩
      · cases h
    · simp only [R.ok.injEq, Out.val.injEq] at h
      obtain ⟨rfl, rfl, rfl⟩ := h
      refine ⟨E, _, newLocal (w' := w.alloc (.cells arr e)) hs ⟨rfl, rfl, rfl⟩ hid hc, ?_⟩
      simp only [V]
      exact ⟨w.heap.size, at1_same _ _ _, rfl⟩

theorem putN_vs {E : Env} {W : View} {cs x r : List AV} {off : Nat} {us vs : List Value} (h : putN cs off x = .ok r) (hc : Vs E W cs us) (hx : Vs E W x vs) :
    off + vs.length ≤ us.length ∧ Vs E W r (us.take off ++ vs ++ us.drop (off + vs.length)) := by
  obtain ⟨hle, rfl⟩ := putN_ok h
  have h1 := hc.length
  have h2 := hx.length
  refine ⟨by omega, ?_⟩
  have h3 := ((hc.take off).append hx).append (hc.drop (off + x.length))
  rw [h2] at h3 ⊢
  exact h3

/-- an object's cells, as a part of its block -/
theorem obj_seg {c0 : Array Value} {d : Nat} {cs : List AV} (hsz : d + cs.length ≤ c0.size) (hcs : ∀ (i : Nat) x, cs[i]? = some x → ∃ v, c0[d + i]? = some v ∧ V E .nil x v) : Vs E .nil cs ((c0.toList.drop d).take cs.length) := by
  refine Vs.of_get (by simp; omega) ?_
  intro i x v ha hv
  obtain ⟨v', hv', hV⟩ := hcs i x ha
  rw [List.getElem?_take] at hv
  split at hv
  · rw [List.getElem?_drop] at hv
    have : c0[d + i]? = some v := by simpa using hv
    rw [hv'] at this
    cases this
    exact hV
  · cases hv

/-- cells laid over a block, seen from an object's start -/
theorem seg_over (l vs : List Value) (d off n : Nat) (h : off + vs.length ≤ n) (hn : d + n ≤ l.length) :
    ((l.take (d + off) ++ vs ++ l.drop (d + off + vs.length)).drop d).take n = ((l.drop d).take n).take off ++ vs ++ ((l.drop d).take n).drop (off + vs.length) := by
  apply List.ext_getElem?
  intro i
  simp only [List.getElem?_take, List.getElem?_drop, List.getElem?_append, List.length_append, List.length_take, List.length_drop]
  have e1 : min (d + off) l.length = d + off := by omega
  have e2 : min off (min n (l.length - d)) = off := by omega
  rw [e1, e2]
  by_cases h1 : i < n
  · rw [if_pos h1]
    by_cases h2 : i < off
    · rw [if_pos (by omega), if_pos (by omega), if_pos (by omega), if_pos (by omega), if_pos (by omega), if_pos h1, if_pos h2]
    · by_cases h3 : i < off + vs.length
      · rw [if_pos (by omega), if_neg (by omega), if_pos (by omega), if_neg (by omega)]
        congr 1
        omega
      · rw [if_neg (by omega), if_neg (by omega), if_pos (by omega)]
        congr 1
        omega
  · rw [if_neg h1]
    rw [if_neg (by omega), if_neg (by omega)]

theorem storeN_ok {p : AV} {x : List AV} {pv : Value} {vs : List Value} (h : storeN fr H p x = .ok (.val v fr' H')) (hs : St cx Q N S E own H m fr a w) (hp : V E (viewOf m fr.fl) p pv) (hx : Vs E (viewOf m fr.fl) x vs) (h1 : ∀ u ∈ vs, u.oneCell' = true) :
    ∃ b i w' E', pv = .pointer (some ⟨b, i, none⟩) ∧ (storeCells ⟨b, i, none⟩ vs).run P w = .ok () w' ∧ Next cx Q N S E own H a w w' E' m fr' H' ∧ v = undefA := by
  unfold storeN at h
  split at h
  · rename_i t k off
    split at h
    · rename_i k' cs hl
      split at h
      · rename_i hk
        subst hk
        split at h
        · rename_i cs' hput
          simp only [R.ok.injEq, Out.val.injEq] at h
          obtain ⟨rfl, rfl, rfl⟩ := h
          obtain ⟨b, c, ty, hX, ho, hb, hvs, hM⟩ := hs.frm.lcs _ _ _ hl
          simp only [V] at hp
          obtain ⟨b', hX', rfl⟩ := hp
          have : b' = b := by
            have h2 : m.X k = some b' := hX'
            rw [hX] at h2
            exact (Option.some.inj h2).symm
          subst this
          obtain ⟨hle, hnew⟩ := putN_vs hput hvs hx
          simp only [Array.length_toList] at hle
          have hst := run_storeCells_at P b' off ty vs 0 c w (cell_of_blk hb) (by omega) h1
          simp only [Nat.add_zero] at hst
          refine ⟨b', off, _, E, rfl, hst, setLocal hs (Upd.set (cell_of_blk hb)) hb ?_ hX ho hM ?_, rfl⟩
          · simp; omega
          · simpa using hnew
        · cases h
      · cases h
    · cases h
  · rename_i o ver off
    split at h
    · cases h
    · rename_i vv cs hg
      split at h
      · rename_i hc
        obtain ⟨rfl, hlim⟩ := hc
        split at h
        · cases h
        · rename_i x' hcl
          split at h
          · rename_i cs' hput
            simp only [R.ok.injEq, Out.val.injEq] at h
            obtain ⟨rfl, rfl, rfl⟩ := h
            unfold Heap.get at hg
            split at hg
            rotate_left
            · cases hg
            rename_i y hl
            simp only [R.ok.injEq] at hg
            subst hg
            obtain ⟨b, d, c, ty, hO, ho, hb, hsz, hcs, hM⟩ := hs.inv.obj _ _ _ hl
            simp only [V] at hp
            obtain ⟨b', d', hO', rfl⟩ := hp
            rw [hO] at hO'
            simp only [Option.some.injEq, Prod.mk.injEq] at hO'
            obtain ⟨rfl, rfl⟩ := hO'
            have hseg := obj_seg hsz hcs
            obtain ⟨hle, hnew⟩ := putN_vs hput hseg (Vs.clean hcl hx)
            have hlen : ((c.toList.drop d).take cs.length).length = cs.length := by simp; omega
            rw [hlen] at hle
            have hst := run_storeCells_at P b (d + off) ty vs 0 c w (cell_of_blk hb) (by omega) h1
            simp only [Nat.add_zero] at hst
            have hcl' : cs'.length = cs.length := by
              have := hnew.length
              rw [this]
              simp only [List.length_append, List.length_take, List.length_drop, hlen]
              omega
            refine ⟨b, d + off, _, _, rfl, hst, setObj_turn (n' := vv) (d' := d) hs (Upd.set (cell_of_blk hb)) hb ?_ hl hO ho hM hlim (.inl ⟨rfl, rfl⟩) ?_ ?_, rfl⟩
            · simp; omega
            · simp; omega
            · intro i y hy
              have hs2 := seg_over c.toList vs d off cs.length hle (by simpa using hsz)
              rw [← hs2] at hnew
              obtain ⟨u, hu, hV⟩ := hnew.get i y hy
              rw [List.getElem?_take] at hu
              split at hu
              · rw [List.getElem?_drop] at hu
                exact ⟨u, by simpa using hu, hV⟩
              · cases hu
          · cases h
      · cases h
  · cases h

theorem storeOp_ok (g : Good P cx) {t : TypeId} {p x : AV} {pv xv : Value} (h : storeOp cx fr H t p x = .ok (.val v fr' H')) (hs : St cx Q N S E own H m fr a w) (hp : V E (viewOf m fr.fl) p pv) (hx : V E (viewOf m fr.fl) x xv) :
    ∃ w' E', (Instr.storeAt t pv xv).run P w = .ok () w' ∧ Next cx Q N S E own H a w w' E' m fr' H' ∧ v = undefA := by
  unfold storeOp at h
  cases hty : cx.ty t with
  | no e => simp [hty] at h
  | ok ty =>
    obtain ⟨i, d, z, hinf, hd, _, hsz, _⟩ := tyOf_ok (g.ty _ _ hty)
    simp only [hty] at h
    split at h
    · rename_i cs hcr
      split at h
      · rename_i hl
        have hl := Nat.eq_of_beq_eq_true hl
        have hcells := cellsR_ok hcr hx
        have hone := cellsR_one hcr hx
        obtain ⟨b, j, w', E', rfl, hst, hn, hv⟩ := storeN_ok (P := P) h hs hp hcells hone
        refine ⟨w', E', ?_, hn, hv⟩
        have hlen := hcells.length
        simp only [Array.length_toList] at hlen
        simp only [Instr.storeAt, Instr.sureAddr, Sem.run_bind, Sem.run_pure, Result.andThen_ok, storeVar, run_sizeOf' w hinf]
        rw [if_neg (by omega)]
        exact hst
      · cases h
    · cases h

end
end Go.Proofs.Ev
