/- The walks of the reference's Put and of bytes.Clone. -/
import Derived.Test.YtfohollhdaedlaaGreatDoorUtfP1
set_option linter.unusedVariables false
set_option linter.unusedSimpArgs false
namespace Go.Proofs.YtfohollhdaedlaaGreatDoor
open Go.RowKit
namespace Utf

set_option maxHeartbeats 800000 in
theorem rput_calls (A : Option Addr) (n c : Nat) (bs : List Int) (r : Int) (hr : -9223372036854775808 ≤ r ∧ r ≤ 9223372036854775807) (w : World) (hx : IsSl w 1 A n c (bs.map (.int .u8))) (hn : n ≤ 140737488351232) :
    Calls Tryz.prog 91 #[.slice A n c, .int .i64 r] w fun e w' => ∃ v, e = .returned v ∧ w'.ownsRow w.heap.size 5 1 v (bs ++ enc r).length ((bs ++ enc r).map (.int .u8)) ∧ Below w.heap.size w w' := by
  have HL := Lib.hid (show bs.length = n by simpa using hx.1)
  have HX := Lib.hid hx
  have HE := Lib.hid (enc_length r)
  clear hx
  go_enter Tryz.func91, Tryz.ntmps91
  go_wp2_with (at_builtin; refine wpList_app_own _ rfl (.tmp 6) (.tmp 7) 102 rfl w.heap.size 5 (.int .u8 0) 1 1 Tryz.underlying102 infoU8 rfl (by decide) _ 0 [] rfl (World.ownsRow_nil _ _ _ _) A n c _ rfl HX.out (ints_one _ _) (by unfold maxLen; omega) (by omega) (Nat.le_refl _) ?_)
  intro v1 w1 ho1 hg1 hb1
  have HO1 := Lib.hid ho1
  clear ho1 hg1
  go_wp2_with fail
  refine (rbytes_calls r hr _).mono ?_
  rintro e w2 ⟨v2, rfl, ho2, hb2⟩
  obtain ⟨A2, c2, rfl, hsl2⟩ := own_form ho2
  have HS2 := Lib.hid hsl2
  have HO2 := Lib.hid (own_below HO1.out hb2)
  have hsz := hb1.size
  have hsz2 := hb2.size
  clear ho2 hsl2 HO1
  go_wp2_with (at_builtin; refine wpList_app_own _ rfl (.tmp 9) (.tmp 11) 102 rfl w.heap.size 5 (.int .u8 0) 1 1 Tryz.underlying102 infoU8 rfl (by decide) _ n (bs.map (.int .u8)) rfl HO2.out A2 _ c2 _ rfl HS2.out (ints_one _ _) (by have := HE.out; unfold maxLen; omega) (by have := HE.out; omega) (by omega) ?_)
  intro v3 w3 ho3 hg3 hb3
  have HO3 := Lib.hid ho3
  clear ho3 hg3
  go_wp2_with fail
  go_ret
  refine ⟨_, rfl, ?_, (below_next hb1 hb2).trans hb3⟩
  rw [List.length_append, HL.out, List.map_append]
  exact HO3.out

end Utf
end Go.Proofs.YtfohollhdaedlaaGreatDoor
