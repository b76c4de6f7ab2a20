/- It is proved that lamplighterlaw44.ClientFull returns true for every event, every truth and every number, and that its arguments read behind the call as they read before. Conditions: the package variables that the row lists hold what the program's text lays in them (the card ties them to that text). -/
import Derived.Test.YtanknkgbleeffaaGreatDoorTie
import Derived.Test.YtanknkgbleeffaaGreatDoorCards
import Derived.Test.YtanknkgbleeffaaGreatDoorEvLwClientFull
import Derived.Test.YtanknkgbleeffaaGreatDoorEvPost
import Derived.WalkKit
import Derived.ProofKit
import Derived.OpenShut
import Derived.LaidMore
import Derived.LaidLaws
import Derived.SevenTiedAt
set_option linter.all false
namespace Go.Proofs.YtanknkgbleeffaaGreatDoor.clientFull
open Go.ChangeShapes Go.WideShapes Go.ChangeAt Go.RowKit Go.Proofs.Ev
set_option maxRecDepth 100000

theorem own : ownKnob Tryz.prog.godebug = none := by kernel_rfl
theorem laidOut : laidOutB Tryz.prog = true := by kernel_rfl
theorem cells24 : Tryz.prog.cellsOf 24 = 5 := by kernel_rfl
theorem cells9 : Tryz.prog.cellsOf 9 = 1 := by kernel_rfl
theorem cells2 : Tryz.prog.cellsOf 2 = 1 := by kernel_rfl
theorem cells22 : Tryz.prog.cellsOf 22 = 1 := by kernel_rfl
theorem cells75 : Tryz.prog.cellsOf 75 = 4 := by kernel_rfl
theorem cells3 : Tryz.prog.cellsOf 3 = 1 := by kernel_rfl
theorem cells4 : Tryz.prog.cellsOf 4 = 1 := by kernel_rfl

/-! ### a world in which the listed variables read as listed: the witness -/
/-- the pinned table's cells -/
def firstCells : Array Value :=
  match (Go.Pinned.utf8First : DataW Unit) with
  | .agg l => (l.map fun
    | .lit (.int k n) => Value.int k n
    | _ => undef).toArray
  | _ => #[]

noncomputable def laidWorld (os : Os) : World :=
  let w0 := World.doorLaid Tryz.prog 29 os
  { w0 with heap := w0.heap.modify ((Tryz.prog.globalNamed "unicode/utf8.first").getD 0) fun
      | .cells _ t fr => .cells firstCells t fr
      | o => o }

theorem laidWorld_met (os : Os) (args : Array Value) : laidMetH Tryz.prog Rows.clientFullRow.laid ((laidWorld os).forCall (fun _ _ => 0) ⟨#[], args, []⟩).memory :=
  (show laidMet Tryz.prog Rows.clientFullRow.laid _ from laidMet_of_run' 8 (by kernel_rfl) (by kernel_rfl))

/-! ### what comes in, opened -/
section
variable {H : Type} {enc : TypeId × Value → H} {W : World}

theorem cells_four {a : Addr} {cs : List Value} (h : W.cells? 0 a 4 = some cs) : ∃ v0 v1 v2 v3, cs = [v0, v1, v2, v3] ∧ W.cell? (a.add 0) = some v0 ∧ W.cell? (a.add 1) = some v1 ∧ W.cell? (a.add 2) = some v2 ∧ W.cell? (a.add 3) = some v3 := by
  unfold World.cells? at h
  split at h
  · simp only [List.range_succ, List.range_zero, List.nil_append, List.cons_append, List.mapM_cons, List.mapM_nil] at h
    cases h0 : W.cell? (a.add 0) with
    | none => simp [h0] at h
    | some v0 =>
    cases h1 : W.cell? (a.add 1) with
    | none => simp [h0, h1] at h
    | some v1 =>
    cases h2 : W.cell? (a.add 2) with
    | none => simp [h0, h1, h2] at h
    | some v2 =>
    cases h3 : W.cell? (a.add 3) with
    | none => simp [h0, h1, h2, h3] at h
    | some v3 =>
      simp [h0, h1, h2, h3] at h
      exact ⟨v0, v1, v2, v3, h.symm, rfl, rfl, rfl, rfl⟩
  · cases h

/-- a value's cells -/
theorem value_open {cs : List Value} {fuel : Nat} {x : DataW H × List MemPlace} (h : DataW.trod enc Tryz.prog W 0 (fun _ => true) true fuel 75 cs = some x) : ∃ kd I S B, cs = [.int .i64 kd, .int .i64 I, .string S, .bool B] ∧ inI kd ∧ inI I := by
  obtain ⟨xs, n, _, _, hlen, hxs, hf⟩ := DataW.trod_struct Tryz.underlying75 h
  rw [cells75] at hlen
  match cs, hlen with
  | [c0, c1, c2, c3], _ =>
    have f0 : DataW.trod enc Tryz.prog W 0 (fun _ => true) true n 3 (([c0, c1, c2, c3].drop 0).take (Tryz.prog.cellsOf 3)) = xs[0]? := hf 0 _ rfl
    have f1 : DataW.trod enc Tryz.prog W 0 (fun _ => true) true n 2 (([c0, c1, c2, c3].drop 1).take (Tryz.prog.cellsOf 2)) = xs[1]? := hf 1 _ rfl
    have f2 : DataW.trod enc Tryz.prog W 0 (fun _ => true) true n 9 (([c0, c1, c2, c3].drop 2).take (Tryz.prog.cellsOf 9)) = xs[2]? := hf 2 _ rfl
    have f3 : DataW.trod enc Tryz.prog W 0 (fun _ => true) true n 4 (([c0, c1, c2, c3].drop 3).take (Tryz.prog.cellsOf 4)) = xs[3]? := hf 3 _ rfl
    have g : ∀ j, j < 4 → ∃ y, xs[j]? = some y := fun j hj => ⟨xs[j]'(by rw [hxs]; exact hj), by simp⟩
    obtain ⟨y0, e0⟩ := g 0 (by decide)
    obtain ⟨y1, e1⟩ := g 1 (by decide)
    obtain ⟨y2, e2⟩ := g 2 (by decide)
    obtain ⟨y3, e3⟩ := g 3 (by decide)
    rw [e0] at f0
    rw [e1] at f1
    rw [e2] at f2
    rw [e3] at f3
    simp only [cells3, cells2, cells9, cells4] at f0 f1 f2 f3
    obtain ⟨kd, h0, _, w0⟩ := DataW.trod_int Tryz.underlying3 f0
    obtain ⟨I, h1, _, w1⟩ := DataW.trod_int Tryz.underlying2 f1
    obtain ⟨S, h2, _, _⟩ := DataW.trod_string Tryz.underlying9 f2
    obtain ⟨B, h3, _⟩ := DataW.trod_bool Tryz.underlying4 f3
    simp at h0 h1 h2 h3
    subst h0; subst h1; subst h2; subst h3
    refine ⟨kd, I, S, B, rfl, ?_, ?_⟩
    · simpa [inI, loI, hiI, Lit.wf, IntKind.min, IntKind.max, IntKind.signed, IntKind.bits] using w0
    · simpa [inI, loI, hiI, Lit.wf, IntKind.min, IntKind.max, IntKind.signed, IntKind.bits] using w1

/-- an event, its first value among it -/
theorem event_open {v : Value} {d : DataW H} {ps : List MemPlace} {base : Nat} (hok : Value.okWide Tryz.prog W .any base 24 v) (h : DataW.Trod enc Tryz.prog W 0 (fun _ => true) true 24 v d ps) (nn : Int) (hnn : inI nn) :
    ∃ (i : Inp) (M : Nat → Nat → Option Value), v = .agg ⟨[.string i.ty, .string i.ky, .int .i64 i.tm, .int .i64 i.sq, i.vals]⟩ ∧ i.nn = nn ∧ i.Ok M ∧ (∀ b j u, M b j = some u → W.cell? ⟨b, j, none⟩ = some u) ∧ (match i.vals with
      | .agg _ => false
      | .tuple _ => false
      | _ => true) = true := by
  unfold Value.okWide at hok
  rw [Tryz.underlying24] at hok
  obtain ⟨⟨cs⟩, rfl, _, _⟩ := hok
  obtain ⟨fuel, h⟩ := h
  have h : DataW.trod enc Tryz.prog W 0 (fun _ => true) true fuel 24 cs = some (d, ps) := h
  obtain ⟨xs, n, _, _, hlen, hxs, hf⟩ := DataW.trod_struct Tryz.underlying24 h
  rw [cells24] at hlen
  match cs, hlen with
  | [c0, c1, c2, c3, c4], _ =>
    have f0 : DataW.trod enc Tryz.prog W 0 (fun _ => true) true n 9 (([c0, c1, c2, c3, c4].drop 0).take (Tryz.prog.cellsOf 9)) = xs[0]? := hf 0 _ rfl
    have f1 : DataW.trod enc Tryz.prog W 0 (fun _ => true) true n 9 (([c0, c1, c2, c3, c4].drop 1).take (Tryz.prog.cellsOf 9)) = xs[1]? := hf 1 _ rfl
    have f2 : DataW.trod enc Tryz.prog W 0 (fun _ => true) true n 2 (([c0, c1, c2, c3, c4].drop 2).take (Tryz.prog.cellsOf 2)) = xs[2]? := hf 2 _ rfl
    have f3 : DataW.trod enc Tryz.prog W 0 (fun _ => true) true n 2 (([c0, c1, c2, c3, c4].drop 3).take (Tryz.prog.cellsOf 2)) = xs[3]? := hf 3 _ rfl
    have f4 : DataW.trod enc Tryz.prog W 0 (fun _ => true) true n 22 (([c0, c1, c2, c3, c4].drop 4).take (Tryz.prog.cellsOf 22)) = xs[4]? := hf 4 _ rfl
    have g : ∀ j, j < 5 → ∃ y, xs[j]? = some y := fun j hj => ⟨xs[j]'(by rw [hxs]; exact hj), by simp⟩
    obtain ⟨y0, e0⟩ := g 0 (by decide)
    obtain ⟨y1, e1⟩ := g 1 (by decide)
    obtain ⟨y2, e2⟩ := g 2 (by decide)
    obtain ⟨y3, e3⟩ := g 3 (by decide)
    obtain ⟨y4, e4⟩ := g 4 (by decide)
    rw [e0] at f0
    rw [e1] at f1
    rw [e2] at f2
    rw [e3] at f3
    rw [e4] at f4
    simp only [cells2, cells9, cells22] at f0 f1 f2 f3 f4
    obtain ⟨ty, h0, _, _⟩ := DataW.trod_string Tryz.underlying9 f0
    obtain ⟨ky, h1, _, hky⟩ := DataW.trod_string Tryz.underlying9 f1
    obtain ⟨tm, h2, _, w2⟩ := DataW.trod_int Tryz.underlying2 f2
    obtain ⟨sq, h3, _, w3⟩ := DataW.trod_int Tryz.underlying2 f3
    simp at h0 h1 h2 h3
    subst h0; subst h1; subst h2; subst h3
    have t2 : inI tm := by simpa [inI, loI, hiI, Lit.wf, IntKind.min, IntKind.max, IntKind.signed, IntKind.bits] using w2
    have t3 : inI sq := by simpa [inI, loI, hiI, Lit.wf, IntKind.min, IntKind.max, IntKind.signed, IntKind.bits] using w3
    have hk2 : (ky.size : Int) ≤ hiI := by unfold maxLen at hky; unfold hiI; omega
    have z0 : inI 0 := by unfold inI loI hiI; omega
    rcases DataW.trod_slice Tryz.underlying22 f4 with ⟨h4, _⟩ | ⟨a, len, cap, elems, rest, n4, _, h4, _, _, hlc, hcap, hel, hall, _⟩
    · simp at h4
      subst h4
      exact ⟨⟨ty, ky, ⟨⟨[]⟩⟩, tm, sq, nn, 0, 0, .slice none 0 0, 0, false⟩, fun _ _ => none, rfl, rfl, ⟨t2, t3, hnn, z0, z0, hk2, fun _ => ⟨rfl, none, 0, rfl⟩, fun e => absurd rfl e⟩, fun _ _ _ e => (by cases e), rfl⟩
    · simp at h4
      subst h4
      by_cases hz : len = 0
      · subst hz
        exact ⟨⟨ty, ky, ⟨⟨[]⟩⟩, tm, sq, nn, 0, 0, .slice (some a) 0 cap, 0, false⟩, fun _ _ => none, rfl, rfl, ⟨t2, t3, hnn, z0, z0, hk2, fun _ => ⟨rfl, some a, cap, rfl⟩, fun e => absurd rfl e⟩, fun _ _ _ e => (by cases e), rfl⟩
      · have h5 := hall 0 (by omega)
        rw [cells75, Nat.zero_mul] at h5
        obtain ⟨y, hy⟩ : ∃ y, elems[0]? = some y := ⟨elems[0]'(by omega), by simp⟩
        rw [hy] at h5
        simp only [Option.bind_eq_some_iff] at h5
        obtain ⟨c5, hc5, h5⟩ := h5
        obtain ⟨v0, v1, v2, v3, rfl, q0, q1, q2, q3⟩ := cells_four hc5
        obtain ⟨kd, I, S, B, hcs, i1, i2⟩ := value_open h5
        simp only [List.cons.injEq, and_true] at hcs
        obtain ⟨rfl, rfl, rfl, rfl⟩ := hcs
        obtain ⟨b, off, spot⟩ := a
        have hspot : spot = none := by simpa [Addr.add] using World.cell?_spot q0
        subst hspot
        simp only [Addr.add, Nat.add_zero] at q0 q1 q2 q3
        have hlen2 : (len : Int) ≤ hiI := by unfold maxLen at hcap; unfold hiI; omega
        refine ⟨⟨ty, ky, S, tm, sq, nn, I, kd, .slice (some ⟨b, off, none⟩) len cap, len, B⟩, fun b' j => W.cell? ⟨b', j, none⟩, rfl, rfl, ⟨t2, t3, hnn, i2, i1, hk2, fun e => absurd e hz, fun _ => ⟨hlen2, b, off, cap, rfl, q0, q1, q2, q3⟩⟩, fun _ _ _ e => e, rfl⟩

end

theorem lifted (os : Os) (started : os.Started) (H : Type) (enc : TypeId × Value → H) :
    ReturnsInHanded {} Tryz.checked os 3 .any (fun w args => (Rows.clientFullSpec.pre enc Tryz.prog Tryz.f3 [] false w args ∧ laidMetH Tryz.prog Rows.clientFullRow.laid w) ∧ sizedMet enc Tryz.prog Tryz.f3 (OpenSpec.ofChange Rows.clientFullSpec) false w args)
      (Rows.clientFullSpec.post enc Tryz.prog Tryz.f3 false true false false) := by
  refine returnsInHanded_of_change_and (C := Tryz.checked) (X := fun w _ => laidMetH Tryz.prog Rows.clientFullRow.laid w) (fun _ _ _ hh h => h.of_heap hh) own started (by kernel_rfl) Tryz.func3
    (ChangeSpec.witness_shaped (enc := enc) (C := Tryz.checked) (os := os) (X := fun w _ => laidMetH Tryz.prog Rows.clientFullRow.laid w) false (laidWorld os) #[.agg #[.string ⟨#[]⟩, .string ⟨#[]⟩, .int .i64 0, .int .i64 0, .slice none 0 0], .bool false, .int .i64 0] 8 rfl (World.shaped_of_RefB (by kernel_rfl) (by kernel_rfl)) (by kernel_rfl) (by kernel_rfl) (by kernel_rfl) (laidWorld_met os _)) ?_
  intro W base args ds gs before hval0 hW _ _ _ _
  have hval : ∀ (j : Nat) t v, Tryz.f3.params[j]? = some t → args[j]? = some v → Value.okWide Tryz.prog W .any base t v := hval0
  have hW' := hW
  obtain ⟨p, q, hA0, hV, rfl, hfz, hnd⟩ := hW
  have hA : DataW.TrodAll enc Tryz.prog W 0 (fun _ => true) true Tryz.f3.params.toList args.toList ds p := hA0
  rw [Tryz.params3] at hA hval
  obtain ⟨v0, vs0, d0, ds0, p0, q0, hargs, rfl, rfl, h0, r0⟩ := trodAll_cons hA
  obtain ⟨v1, vs1, d1, ds1, p1, q1, rfl, rfl, rfl, h1, r1⟩ := trodAll_cons r0
  obtain ⟨v2, vs2, d2, ds2, p2, q2, rfl, rfl, rfl, h2, r2⟩ := trodAll_cons r1
  obtain ⟨rfl, rfl, rfl⟩ := trodAll_nil r2
  obtain rfl : args = #[v0, v1, v2] := by cases args; simp_all
  obtain ⟨rfl, rfl⟩ := trodVars_none hV
  obtain ⟨wait, rfl, rfl, rfl⟩ := open_bool Tryz.underlying4 (hval 1 4 v1 rfl rfl) h1
  obtain ⟨nn, rfl, rfl, rfl, wn⟩ := open_int Tryz.underlying3 (hval 2 3 v2 rfl rfl) h2
  have hnn : inI nn := by simpa [inI, loI, hiI, Lit.wf, IntKind.min, IntKind.max, IntKind.signed, IntKind.bits] using wn
  obtain ⟨i, M, rfl, rfl, hi, hM, hvo⟩ := event_open (hval 0 24 v0 rfl rfl) h0 nn hnn
  refine (law_run i hi hM wait hvo).mono fun e W' ⟨he, hg⟩ => ?_
  subst he
  exact ⟨_, rfl, law_post laidOut (by decide +kernel) hW' hg rfl rfl (bt := 4) (by kernel_rfl) Tryz.underlying4 (by decide +kernel)⟩

theorem over : Rows.ClientFullSaid :=
  OpenClaim.holds_of_wide 3 Tryz.f3 rfl rfl rfl rfl rfl rfl rfl ⟨rfl, rfl, rfl, rfl, rfl⟩ rfl rfl rfl rfl rfl (by kernel_rfl) Tryz.func3 (by kernel_rfl)
    (of_decide_eq_true (by kernel_rfl)) (by unfold Func.isWrapper; first | (rw [if_pos (by decide +kernel)]; kernel_rfl) | (rw [if_neg (by decide +kernel)]; exact ⟨rfl, rfl⟩))
    (fun os started H enc _ => lifted os started H enc)

/-- THE CARD -/
theorem proved : Rows.ClientFullCardSaid :=
  Claim7.holds_tied_plain_at .later [] [.data, .widerDeep, .data, .pinned] true (true, "5ebd343b6d8b012627c89f33fe3ab898f9b51418061e5fd1dfe839af38d98ffa") true
    over (fun _ h => by cases h) (by kernel_rfl) (fun _ h => by cases h) clientFull_row_tie rfl ⟨rfl, rfl⟩ (by kernel_rfl) rfl
    (fun f fn hf hfn => by
      obtain rfl : f = 3 := Option.some.inj ((show Tryz.prog.funcNamed "lamplighter/lamplighterlaw44.ClientFull" = some 3 by kernel_rfl).symm.trans hf) |>.symm
      obtain rfl : fn = Tryz.f3 := (Option.some.inj (Tryz.func3.symm.trans hfn)).symm
      exact ⟨by kernel_rfl, fun j t ht => by
        rw [Tryz.params3] at ht
        have h3 : t = 24 ∨ t = 4 ∨ t = 3 := by
          rcases j with _ | _ | _ | j
          · exact .inl (by simpa using ht.symm)
          · exact .inr (.inl (by simpa using ht.symm))
          · exact .inr (.inr (by simpa using ht.symm))
          · simp at ht
        rcases h3 with rfl | rfl | rfl
        · exact (show Tryz.prog.wantsStandIn 24 = false by kernel_rfl)
        · exact (show Tryz.prog.wantsStandIn 4 = false by kernel_rfl)
        · exact (show Tryz.prog.wantsStandIn 3 = false by kernel_rfl)⟩)
    (by kernel_rfl)
#print axioms proved
end Go.Proofs.YtanknkgbleeffaaGreatDoor.clientFull
