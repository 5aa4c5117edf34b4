/- Export: the reader takes a document's first line in. -/
import Derived.Test.YtfohollhdaedlaaDoorExp10
set_option linter.unusedVariables false
set_option linter.unusedSimpArgs false
set_option maxRecDepth 100000
namespace Go.Proofs.YtfohollhdaedlaaDoor
open Go.RowKit
namespace Exp
set_option maxHeartbeats 8000000 in
theorem line_doc (w : World) (B b : Nat) (l : List DocM) (hR : IsR B b l w) (s : ByteArray) (hs : s.size ≤ 65536) (hl : l.length ≤ 100000) (hp : docHead.isPrefixOf (by8 s) = true) :
    Calls Tryd.prog 39 #[.pointer (some ⟨b, 0, none⟩), .string s] w fun e w' => e = .returned (.bool (nameOk ((by8 s).drop 4))) ∧ StepR B b w (l ++ [bare (mk8 ((by8 s).drop 4))]) w' := by
  obtain ⟨hB, v, hb, ho⟩ := hR
  have HO := Lib.hid ho
  have HX := Lib.hid hb
  have q0 : w.cell? ⟨b, 0, none⟩ = some v := by simp [World.cell?, hb]
  have q1 : w.cell? ⟨b, 1, none⟩ = some (.int .i64 (fldL l)) := by simp [World.cell?, hb]
  have CP := Lib.hid (cutPre s { data := #[100, 111, 99, 32] } w)
  have HP : Hid ((by8 { data := #[100, 111, 99, 32] }).isPrefixOf (by8 s) = true) := hp
  obtain ⟨id, hid⟩ : ∃ id, mk8 ((by8 s).drop 4) = id := ⟨_, rfl⟩
  have htp : mk8 (Lib.trimPrefix (by8 s) (by8 { data := #[100, 111, 99, 32] })) = id := by
    rw [← hid]; unfold Lib.trimPrefix; rw [if_pos (show Lib.hasPrefix (by8 s) (by8 { data := #[100, 111, 99, 32] }) = true from HP.out)]; rfl
  rw [HP.out, htp] at CP
  have HNI : Hid (nameOk (by8 id) = nameOk ((by8 s).drop 4)) := by show _ = _; rw [← hid]; rfl
  have CN := Lib.hid (name_calls id)
  rw [hid]
  clear ho hb hp hid htp
  go_enter Tryd.func39, Tryd.ntmps39
  go_wp2_with fail
  refine CP.out.mono ?_
  rintro e w1 ⟨rfl, rfl⟩
  clear CP
  have hbl : b < w1.heap.size := (Array.getElem?_eq_some_iff.1 HX.out).1
  have HAL : Hid (Below w1.heap.size w1 (w1.alloc (.cells #[.string id, .string { data := #[] }, .string { data := #[] }, .string { data := #[] }, .string { data := #[] }] 33))) := (Below.refl _ _).alloc (Nat.le_refl _) _
  go_wp2_with (at_builtin; go_loud (refine wpList_app_own _ rfl (.tmp 24) (.tmp 27) 23 rfl B 33 (.agg #[.string { data := #[] }, .string { data := #[] }, .string { data := #[] }, .string { data := #[] }, .string { data := #[] }]) 5 80 Tryd.underlying23 inf_doc rfl (by decide) v l.length (dCells l) rfl (own_below HO.out HAL.out) _ 1 1 [.string id, .string { data := #[] }, .string { data := #[] }, .string { data := #[] }, .string { data := #[] }] rfl (sl_lit2 _ #[.string id, .string { data := #[] }, .string { data := #[] }, .string { data := #[] }, .string { data := #[] }] 33 5 1 rfl (by decide)) (by simp [Value.oneCell']) (by unfold maxLen; omega) (by omega) (by simp; omega) ?_))
  intro v3 w3 ho3 hg3 hb3
  obtain ⟨A3, c3, rfl, _⟩ := own_form ho3
  have hst := step_doc hB HX.out HO.out hg3 ho3 hb3
  have HST := Lib.hid hst.2
  obtain ⟨z0, z1, z2⟩ := head2 hst.1
  have g0 := z2 0
  have g1 := z2 1
  clear hst ho3 hg3 hb3 q0 q1 z2
  go_wp2_with fail
  refine (CN.out _).mono ?_
  rintro e w4 ⟨rfl, hb4⟩
  have HF := Lib.hid (HST.out.next hb4 HST.out.1.size)
  clear hb4 z0 z1 g0 g1
  go_wp2_with fail
  go_ret
  exact ⟨ret_bool HNI.out, HF.out⟩
end Exp
end Go.Proofs.YtfohollhdaedlaaDoor
