/- TermsDocs: the terms of any documents, and where they stand; the tied card of the second form: for arguments and listed tables of a bulk of at most 1048576 values and letters. -/
import Derived.Test.YtfohollhdaedlaaGreatDoorCards
import Derived.Test.YtfohollhdaedlaaGreatDoorTie
import Derived.Test.YtfohollhdaedlaaGreatDoorTrm43
import Derived.Test.YtfohollhdaedlaaGreatDoorTrmLaid
import Derived.Test.YtfohollhdaedlaaGreatDoorOpenUpto
import Derived.ProofKit
import Derived.OpenShut
import Derived.SizedLaws
import Derived.LaidMore
import Derived.Stop.Joined
import Derived.SevenTiedAt
import Derived.Deep.DeepHandedRow
namespace Go.Proofs.YtfohollhdaedlaaGreatDoor.termsDocs
open Go.ChangeShapes Go.WideShapes Go.ChangeAt Go.RowKit
set_option linter.unusedVariables false
set_option linter.unusedSimpArgs false
theorem own : ownKnob Tryz.prog.godebug = none := own_knob
theorem laidOut : laidOutB Tryz.prog = true := laid_out
theorem reads (os : Os) {H : Type} (enc : TypeId × Value → H) : DataW.whole enc Tryz.prog ((World.doorLaid Tryz.prog 2000 os).forCall (fun _ _ => 0) ⟨#[], #[.slice none 0 0, .int .i64 0], []⟩).memory Tryz.f3.params.toList Rows.termsDocsSpec.vars false #[.slice none 0 0, .int .i64 0].toList 8 = some ([.nil, .lit (.int .i64 0)], [], []) := by as_aux_lemma => kernel_rfl
set_option maxHeartbeats 4000000 in
set_option maxRecDepth 100000 in
theorem lifted (os : Os) (started : os.Started) (H : Type) (enc : TypeId × Value → H) (F : Stop.Interp) :
    ReturnsInHanded {} Tryz.checked os 3 .any ((Rows.OpenSpec.upto Rows.termsDocsSpec).preRow enc Tryz.prog Tryz.f3 Rows.termsDocsUptoRow.domain false Rows.termsDocsUptoRow.laid) (((Rows.OpenSpec.upto Rows.termsDocsSpec).at F).post enc Tryz.prog Tryz.f3 false true false false) := by
  have hok : Input.okWideB Tryz.prog ((World.doorLaid Tryz.prog 2000 os).forCall (fun _ _ => 0) ⟨#[], #[.slice none 0 0, .int .i64 0], []⟩) 3 ⟨#[], #[.slice none 0 0, .int .i64 0], []⟩ = true := by as_aux_lemma => kernel_rfl
  refine returnsInHanded_of_row (C := Tryz.checked) (s := Rows.OpenSpec.upto Rows.termsDocsSpec) own started (by kernel_rfl) Tryz.func3
    ⟨World.doorLaid Tryz.prog 2000 os, fun _ _ => 0, ⟨#[], #[.slice none 0 0, .int .i64 0], []⟩, rfl, World.shaped_of_RefB (by kernel_rfl) (by kernel_rfl), (Input.okWide_of_okWideB (base := 0) hok).1, (Input.okWide_of_okWideB hok).2,
      OpenSpec.preRow_of_cond 8 (reads os enc) (by kernel_rfl) (fun k hk => by cases hk; kernel_rfl) (by kernel_rfl) (Trm.door_met os _), by simp only [Assume.holds]; exact ⟨by simp, by simp, fun _ => Modest.zero, by simp, by simp⟩⟩ ?_
  intro W base args ds gs before hval0 hW hcnd hcond hsz hL _ _
  have hval : ∀ (j : Nat) t v, Tryz.f3.params[j]? = some t → args[j]? = some v → Value.okWide Tryz.prog W .any base t v := hval0
  have hW' := hW
  obtain ⟨p, q, hA0, hV, rfl, hfz, hnd⟩ := hW
  have hA : DataW.TrodAll enc Tryz.prog W 0 (fun _ => true) true Tryz.f3.params.toList args.toList ds p := hA0
  rw [Tryz.params3] at hA hval
  obtain ⟨v0, vs0, d0, ds0, p0, q0, hargs, rfl, rfl, h0, r0⟩ := trodAll_cons hA
  obtain ⟨v1, vs1, d1, ds1, p1, q1, rfl, rfl, rfl, h1, r1⟩ := trodAll_cons r0
  obtain ⟨rfl, rfl, rfl⟩ := trodAll_nil r1
  obtain rfl : args = #[v0, v1] := by cases args; simp_all
  obtain ⟨rfl, rfl⟩ := trodVars_none hV
  have hbulk : Rows.uptoBulkAll ([d0, d1] ++ []) ≤ 1048576 := of_decide_eq_true (hcond _ rfl)
  have k0 := h0
  have lt0 : ∀ x ∈ p0, x.block < W.heap.size := by obtain ⟨m, hm⟩ := k0; exact DataW.trod_lt m _ _ _ hm
  have hb0 : Rows.uptoBulk d0 ≤ 1048576 := Nat.le_trans (Exp.bulk_part (l := [d0, d1] ++ []) (by simp)) hbulk
  have k1 := h1
  have lt1 : ∀ x ∈ p1, x.block < W.heap.size := by obtain ⟨m, hm⟩ := k1; exact DataW.trod_lt m _ _ _ hm
  have hb1 : Rows.uptoBulk d1 ≤ 1048576 := Nat.le_trans (Exp.bulk_part (l := [d0, d1] ++ []) (by simp)) hbulk
  obtain ⟨a1, rfl, rfl, rfl, w1⟩ := open_int Tryz.underlying3 (hval 1 3 v1 rfl rfl) h1
  have b1 := bounds_i64 w1
  obtain ⟨A0, len0, cap0, rfl⟩ := okWide_slice Tryz.underlying22 (hval 0 22 v0 rfl rfl)
  obtain ⟨l0, rd0, sz0⟩ : ∃ l : List Exp.DocM, IsSl W 5 A0 len0 cap0 (Exp.dCells l) ∧ ∀ d ∈ l, ∀ i, (d.get i).size ≤ 16777216 := by
    obtain ⟨m, hm⟩ := h0
    rw [slice_cells] at hm
    obtain ⟨l, hl, hd⟩ := Exp.open_docs_upto hm
    exact ⟨l, hl, fun d hm i => by have h1 : (d.get i).size ≤ Rows.uptoBulk d0 := hd d hm i; omega⟩
  clear hA0 hval0
  refine (Trm.docs_proof W (Trm.laid_one hL) A0 len0 cap0 l0 rd0 sz0 a1 b1).mono fun e W' ⟨he, bel⟩ => ?_
  subst he
  exact ⟨_, rfl, _, _, _, [], _, [], hW', trodAll_mk1 (shut_bool Tryz.underlying4 _), (trodAll_cons_mk (Below.trod laidOut (by kernel_rfl) (of_decide_eq_true (by kernel_rfl)) k0 bel lt0) (trodAll_cons_mk (Below.trod laidOut (by kernel_rfl) (of_decide_eq_true (by kernel_rfl)) k1 bel lt1) trodAll_mk0)), rfl, bel.frame _, fun h => by cases h⟩

set_option maxHeartbeats 4000000 in
theorem over : Rows.termsDocsUptoRow.holds Tryz.pinned (Rows.OpenSpec.upto Rows.termsDocsSpec) :=
  OpenClaim.holds_of_cond 3 Tryz.f3 rfl rfl rfl rfl rfl rfl rfl ⟨rfl, rfl, rfl, rfl, rfl⟩ rfl rfl rfl rfl rfl (by as_aux_lemma => kernel_rfl) Tryz.func3 (by as_aux_lemma => kernel_rfl)
    (of_decide_eq_true (by as_aux_lemma => kernel_rfl)) (by as_aux_lemma => unfold Func.isWrapper; first | (rw [if_pos (by decide +kernel)]; kernel_rfl) | (rw [if_neg (by decide +kernel)]; exact ⟨rfl, rfl⟩))
    (fun os started H enc _ F => by rw [OpenClaim.pre_eq_preRow]; exact lifted os started H enc F)

theorem c1 : Rows.termsDocsUptoRow.wfByText (Rows.OpenSpec.upto Rows.termsDocsSpec) = true := by kernel_rfl
theorem c4 : false = Rows.termsDocsUptoRow.goesBy Tryz.pinned.checked.prog := by kernel_rfl
theorem c5 : Tryz.prog.funcNamed "scholia/scholialaw17.TermsDocs" = some 3 := by kernel_rfl
theorem c6 : ([22, 3].all fun u => !Tryz.prog.wantsStandIn u) = true := by kernel_rfl
set_option maxHeartbeats 4000000 in
/-- THE STATEMENT: the tied card, of the second form. -/
theorem proved : Rows.TermsDocsUptoCardSaid :=
  Claim7.holds_tied_plain_at .later [] [.data, .data, .data] true Rows.termsDocsUptoCard.stood.harness false
    over (fun _ h => by cases h) c1 (fun _ h => by cases h) termsDocsUpto_row_tie rfl ⟨rfl, rfl⟩ main_is rfl
    (fun f fn hf hfn => by
      obtain rfl : f = 3 := Option.some.inj (c5.symm.trans hf) |>.symm
      obtain rfl : fn = Tryz.f3 := (Option.some.inj (Tryz.func3.symm.trans hfn)).symm
      exact ⟨no_looks, fun j t ht => by
        rw [Tryz.params3] at ht
        have hm : t ∈ [22, 3] := by simpa using Array.mem_of_getElem? ht
        exact (show Tryz.prog.wantsStandIn t = false by simpa using List.all_eq_true.1 c6 t hm)⟩)
    c4
#print axioms proved
end Go.Proofs.YtfohollhdaedlaaGreatDoor.termsDocs
