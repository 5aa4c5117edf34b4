/- Export: the example. -/
import Derived.Test.YtfohollhdaedlaaDoorExp21
set_option linter.unusedVariables false
set_option linter.unusedSimpArgs false
set_option maxRecDepth 100000
namespace Go.Proofs.YtfohollhdaedlaaDoor
open Go.RowKit
namespace Exp
def exD : DocM := ⟨⟨#[97]⟩, ⟨#[114, 101, 100, 32, 102, 111, 120]⟩, ⟨#[]⟩, ⟨#[]⟩, ⟨#[]⟩⟩
theorem ok_fox : okT ⟨#[114, 101, 100, 32, 102, 111, 120]⟩ = true := by kernel_rfl
theorem ex_write : writeD okT [exD] = [100, 111, 99, 32, 97, 10, 116, 105, 116, 108, 101, 32, 114, 101, 100, 32, 102, 111, 120, 10] := by
  have h : mayD okT exD = true := by
    rw [mayD_get]
    refine ⟨fun i hi => ?_, by decide⟩
    rcases (show i = 0 ∨ i = 1 ∨ i = 2 ∨ i = 3 by omega) with rfl | rfl | rfl | rfl
    · exact ok_fox
    · exact okT_empty
    · exact okT_empty
    · exact okT_empty
  rw [writeD_all _ (fun d hd => by rw [List.mem_singleton.1 hd]; exact h)]
  rfl
set_option maxHeartbeats 4000000 in
theorem awake_calls (w : World) (hH : LaidH w) : Calls Tryd.prog 10 #[] w fun e w' => e = .returned (.bool true) ∧ Below w.heap.size w w' := by
  have hba : Below w.heap.size w (w.alloc (.cells (docC exD) 33)) := (Below.refl _ _).alloc (Nat.le_refl _) _
  have HB := Lib.hid hba
  have C := Lib.hid (write_calls (w.alloc (.cells (docC exD) 33)) (hH.below hba) (some ⟨w.heap.size, 0, none⟩) 1 1 [exD] (sl_lit2 w (docC exD) 33 5 1 rfl (by decide)) (by decide))
  rw [ex_write] at C
  have HE : Hid (((mk8 [100, 111, 99, 32, 97, 10, 116, 105, 116, 108, 101, 32, 114, 101, 100, 32, 102, 111, 120, 10]).toList == [100, 111, 99, 32, 97, 10, 116, 105, 116, 108, 101, 32, 114, 101, 100, 32, 102, 111, 120, 10]) = true) := by
    show _ = _
    rw [ByteArray.toList_eq]; rfl
  simp only [docC, exD] at HB C
  obtain ⟨x, hx⟩ : ∃ x, mk8 [100, 111, 99, 32, 97, 10, 116, 105, 116, 108, 101, 32, 114, 101, 100, 32, 102, 111, 120, 10] = x := ⟨_, rfl⟩
  rw [hx] at C HE
  clear hx hba hH
  go_enter Tryd.func10, Tryd.ntmps10
  go_wp2_with fail
  refine C.out.mono ?_
  rintro e w2 ⟨rfl, hb2⟩
  have HB2 := Lib.hid (below_next HB.out hb2)
  have he := HE.out
  clear hb2 C
  go_wp2_with fail
  go_ret
  exact ⟨rfl, HB2.out⟩
end Exp
end Go.Proofs.YtfohollhdaedlaaDoor
