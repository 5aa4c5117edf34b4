/- TermsCounts: how often a term stands in any posting; how two stand, and whether any lists are the same; the tied card. -/
import Derived.Test.YtfohollhdaedlaaDoorCards
import Derived.Test.YtfohollhdaedlaaDoorTie
import Derived.Test.YtfohollhdaedlaaDoorTrm31
import Derived.Test.YtfohollhdaedlaaDoorTrmLaid
import Derived.ProofKit
import Derived.OpenShut
import Derived.SizedLaws
import Derived.LaidMore
import Derived.Stop.Joined
import Derived.SevenTiedAt
import Derived.Test.YtfohollhdaedlaaDoorOpenTerms
namespace Go.Proofs.YtfohollhdaedlaaDoor.termsCounts
open Go.ChangeShapes Go.WideShapes Go.ChangeAt Go.RowKit
open Go.ChangeMaps (open_string shut_string)
set_option linter.unusedVariables false
set_option linter.unusedSimpArgs false
theorem own : ownKnob Tryd.prog.godebug = none := own_knob
theorem laidOut : laidOutB Tryd.prog = true := laid_out
set_option maxHeartbeats 4000000 in
set_option maxRecDepth 100000 in
theorem lifted (os : Os) (started : os.Started) (H : Type) (enc : TypeId × Value → H) :
    ReturnsInHanded {} Tryd.checked os 8 .any (fun w args => (Rows.termsCountsSpec.pre enc Tryd.prog Tryd.f8 Rows.termsCountsRow.domain false w args ∧ laidMetH Tryd.prog Rows.termsCountsRow.laid w) ∧ sizedMet enc Tryd.prog Tryd.f8 (OpenSpec.ofChange Rows.termsCountsSpec) false w args) (Rows.termsCountsSpec.post enc Tryd.prog Tryd.f8 false true false false) := by
  refine returnsInHanded_of_change_and (C := Tryd.checked) (X := fun w _ => laidMetH Tryd.prog Rows.termsCountsRow.laid w) (fun _ _ _ hh h => h.of_heap hh) own started (by kernel_rfl) Tryd.func8
    (ChangeSpec.witness_shaped (enc := enc) (C := Tryd.checked) (os := os) (X := fun w _ => laidMetH Tryd.prog Rows.termsCountsRow.laid w) false (World.doorLaid Tryd.prog 2000 os) #[.agg #[.int .i64 0, .slice none 0 0], .agg #[.int .i64 0, .slice none 0 0], .int .i64 0, .slice none 0 0, .slice none 0 0] 8 rfl (World.shaped_of_RefB (by kernel_rfl) (by kernel_rfl)) (by kernel_rfl) (by kernel_rfl) (by kernel_rfl) (Trm.door_met os _)) ?_
  intro W base args ds gs before hval0 hW hcnd hsz hL _
  have hval : ∀ (j : Nat) t v, Tryd.f8.params[j]? = some t → args[j]? = some v → Value.okWide Tryd.prog W .any base t v := hval0
  have hW' := hW
  obtain ⟨p, q, hA0, hV, rfl, hfz, hnd⟩ := hW
  have hA : DataW.TrodAll enc Tryd.prog W 0 (fun _ => true) true Tryd.f8.params.toList args.toList ds p := hA0
  rw [Tryd.params8] at hA hval hsz
  obtain ⟨v0, vs0, d0, ds0, p0, q0, hargs, rfl, rfl, h0, r0⟩ := trodAll_cons hA
  obtain ⟨v1, vs1, d1, ds1, p1, q1, rfl, rfl, rfl, h1, r1⟩ := trodAll_cons r0
  obtain ⟨v2, vs2, d2, ds2, p2, q2, rfl, rfl, rfl, h2, r2⟩ := trodAll_cons r1
  obtain ⟨v3, vs3, d3, ds3, p3, q3, rfl, rfl, rfl, h3, r3⟩ := trodAll_cons r2
  obtain ⟨v4, vs4, d4, ds4, p4, q4, rfl, rfl, rfl, h4, r4⟩ := trodAll_cons r3
  obtain ⟨rfl, rfl, rfl⟩ := trodAll_nil r4
  obtain rfl : args = #[v0, v1, v2, v3, v4] := by cases args; simp_all
  obtain ⟨rfl, rfl⟩ := trodVars_none hV
  have k0 := h0
  have lt0 : ∀ x ∈ p0, x.block < W.heap.size := by obtain ⟨m, hm⟩ := k0; exact DataW.trod_lt m _ _ _ hm
  have k1 := h1
  have lt1 : ∀ x ∈ p1, x.block < W.heap.size := by obtain ⟨m, hm⟩ := k1; exact DataW.trod_lt m _ _ _ hm
  have k2 := h2
  have lt2 : ∀ x ∈ p2, x.block < W.heap.size := by obtain ⟨m, hm⟩ := k2; exact DataW.trod_lt m _ _ _ hm
  have k3 := h3
  have lt3 : ∀ x ∈ p3, x.block < W.heap.size := by obtain ⟨m, hm⟩ := k3; exact DataW.trod_lt m _ _ _ hm
  have k4 := h4
  have lt4 : ∀ x ∈ p4, x.block < W.heap.size := by obtain ⟨m, hm⟩ := k4; exact DataW.trod_lt m _ _ _ hm
  obtain ⟨a2, rfl, rfl, rfl, w2⟩ := open_int Tryd.underlying3 (hval 2 3 v2 rfl rfl) h2
  have b2 := bounds_i64 w2
  obtain ⟨cs0, rfl, hc0⟩ := okWide_struct Tryd.underlying46 (hval 0 46 v0 rfl rfl)
  obtain ⟨n0, u0, l0, he0, rd0⟩ : ∃ n u l, cs0 = #[.int .i64 n, u] ∧ Trm.RSpots W u l := by
    obtain ⟨m, hm⟩ := h0
    obtain ⟨n, u, l, he, hr⟩ := Trm.open_posting (cs := cs0.toList) (by rw [Array.length_toList, hc0]; kernel_rfl) hm
    exact ⟨n, u, l, Array.ext' he, hr⟩
  subst he0
  obtain ⟨cs1, rfl, hc1⟩ := okWide_struct Tryd.underlying46 (hval 1 46 v1 rfl rfl)
  obtain ⟨n1, u1, l1, he1, rd1⟩ : ∃ n u l, cs1 = #[.int .i64 n, u] ∧ Trm.RSpots W u l := by
    obtain ⟨m, hm⟩ := h1
    obtain ⟨n, u, l, he, hr⟩ := Trm.open_posting (cs := cs1.toList) (by rw [Array.length_toList, hc1]; kernel_rfl) hm
    exact ⟨n, u, l, Array.ext' he, hr⟩
  subst he1
  obtain ⟨l3, rd3⟩ : ∃ l, Trm.RTerms W v3 l := by
    obtain ⟨A, len, cap, rfl⟩ := okWide_slice Tryd.underlying39 (hval 3 39 v3 rfl rfl)
    obtain ⟨m, hm⟩ := h3
    rw [slice_cells] at hm
    exact Trm.open_terms hm
  obtain ⟨l4, rd4⟩ : ∃ l, Trm.RTerms W v4 l := by
    obtain ⟨A, len, cap, rfl⟩ := okWide_slice Tryd.underlying39 (hval 4 39 v4 rfl rfl)
    obtain ⟨m, hm⟩ := h4
    rw [slice_cells] at hm
    exact Trm.open_terms hm
  clear hA0 hval0
  refine (Trm.counts_proof W (Trm.laid_one hL) n0 u0 l0 rd0 n1 u1 l1 rd1 a2 v3 l3 rd3 v4 l4 rd4).mono fun e W' ⟨he, bel⟩ => ?_
  subst he
  exact ⟨_, rfl, _, _, _, [], _, [], hW', trodAll_mk1 (shut_bool Tryd.underlying4 _), (trodAll_cons_mk (Below.trod laidOut (by kernel_rfl) (of_decide_eq_true (by kernel_rfl)) k0 bel lt0) (trodAll_cons_mk (Below.trod laidOut (by kernel_rfl) (of_decide_eq_true (by kernel_rfl)) k1 bel lt1) (trodAll_cons_mk (Below.trod laidOut (by kernel_rfl) (of_decide_eq_true (by kernel_rfl)) k2 bel lt2) (trodAll_cons_mk (Below.trod laidOut (by kernel_rfl) (of_decide_eq_true (by kernel_rfl)) k3 bel lt3) (trodAll_cons_mk (Below.trod laidOut (by kernel_rfl) (of_decide_eq_true (by kernel_rfl)) k4 bel lt4) trodAll_mk0))))), rfl, bel.frame _, fun h => by cases h⟩

set_option maxHeartbeats 4000000 in
theorem over : Rows.termsCountsRow.holds Tryd.pinned (OpenSpec.ofChange Rows.termsCountsSpec) :=
  OpenClaim.holds_of_wide 8 Tryd.f8 rfl rfl rfl rfl rfl rfl rfl ⟨rfl, rfl, rfl, rfl, rfl⟩ rfl rfl rfl rfl rfl (by as_aux_lemma => kernel_rfl) Tryd.func8 (by as_aux_lemma => kernel_rfl)
    (of_decide_eq_true (by as_aux_lemma => kernel_rfl)) (by as_aux_lemma => unfold Func.isWrapper; first | (rw [if_pos (by decide +kernel)]; kernel_rfl) | (rw [if_neg (by decide +kernel)]; exact ⟨rfl, rfl⟩))
    (fun os started H enc _ => lifted os started H enc)

theorem c1 : Rows.termsCountsRow.wfByText (OpenSpec.ofChange Rows.termsCountsSpec) = true := by kernel_rfl
theorem c4 : false = Rows.termsCountsRow.goesBy Tryd.pinned.checked.prog := by kernel_rfl
theorem c5 : Tryd.prog.funcNamed "scholia/scholialaw17.TermsCounts" = some 8 := by kernel_rfl
theorem c6 : ([46, 46, 3, 39, 39].all fun u => !Tryd.prog.wantsStandIn u) = true := by kernel_rfl
set_option maxHeartbeats 4000000 in
/-- THE STATEMENT: the tied card. -/
theorem proved : Rows.TermsCountsCardSaid :=
  Claim7.holds_tied_plain_at .later [] [.data, .data, .data] true Rows.termsCountsCard.stood.harness false
    over (fun _ h => by cases h) c1 (fun _ h => by cases h) termsCounts_row_tie rfl ⟨rfl, rfl⟩ main_is rfl
    (fun f fn hf hfn => by
      obtain rfl : f = 8 := Option.some.inj (c5.symm.trans hf) |>.symm
      obtain rfl : fn = Tryd.f8 := (Option.some.inj (Tryd.func8.symm.trans hfn)).symm
      exact ⟨no_looks, fun j t ht => by
        rw [Tryd.params8] at ht
        have hm : t ∈ [46, 46, 3, 39, 39] := by simpa using Array.mem_of_getElem? ht
        exact (show Tryd.prog.wantsStandIn t = false by simpa using List.all_eq_true.1 c6 t hm)⟩)
    c4
#print axioms proved
end Go.Proofs.YtfohollhdaedlaaDoor.termsCounts
