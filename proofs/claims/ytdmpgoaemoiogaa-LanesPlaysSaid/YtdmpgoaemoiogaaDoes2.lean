/- Lanes and their reference: what 'does' does at Take and Peek, over any contracts of the two calls. Written by does2.py. -/
import Derived.Test.YtdmpgoaemoiogaaDoes1
set_option linter.unusedVariables false
set_option linter.unusedSimpArgs false
set_option maxRecDepth 100000
namespace Go.Proofs.Ytdmpgoaemoiogaa
open Go.RowKit Go.Maps
namespace Ref
open Box
theorem bytesEq_calls (w : World) (A1 A2 : Option Addr) (m c1 c2 : Nat) (bs : List Int) (h1 : IsSl w 1 A1 m c1 (bs.map (.int .u8))) (h2 : IsSl w 1 A2 m c2 (bs.map (.int .u8))) :
    Calls Try.prog 56 #[.slice A1 m c1, .slice A2 m c2] w fun e w' => e = .returned (.bool true) ∧ w' = w := by
  have e1 := run_str_of (P := Try.prog) w 64 9 5 Try.underlying64 Try.underlying5 Try.underlying9 A1 m c1 bs h1
  have e2 := run_str_of (P := Try.prog) w 64 9 5 Try.underlying64 Try.underlying5 Try.underlying9 A2 m c2 bs h2
  obtain ⟨s, hs⟩ : ∃ s, strOfNums bs = s := ⟨_, rfl⟩
  rw [hs] at e1 e2
  have e3 : (s.toList == s.toList) = true := by simp
  clear h1 h2 hs
  go_enter Try.func56, Try.ntmps56
  go_wp2_with fail
  go_ret
  exact ⟨ret_bool (by simp), rfl⟩
set_option maxHeartbeats 8000000 in
theorem does_take (w : World) (p r : Nat) (op fr tw kk at_ by_ : Int) (A : Option Addr) (bn bc mn : Nat) (hbn : bn ≤ bc) (hbc : bc ≤ 9223372036854775807) (hmn : min bn 100 = mn) (hop : (IntKind.u64.wrap op).tmod 7 = 2) (rv : Int) (m : Nat) (bs : List Int) (X : Bool → Bool → World → Prop) (Z : Option Addr → World → Prop)
    (h0 : X false false (w.alloc (doObj op fr tw kk at_ by_ A bn bc))) (hcl : ∀ a b W, X a b W → W.heap[w.heap.size]? = some (doObj op fr tw kk at_ by_ A bn bc))
    (CL : ∀ W, X false false W → Calls Try.prog 36 #[.pointer (some ⟨p, 0, none⟩), .int .i64 fr, .int .i64 tw, .int .i64 kk] W fun e W' => ∃ A1 c1, e = .returned (.tuple #[.slice A1 m c1, .int .i64 rv]) ∧ IsSl W' 1 A1 m c1 (bs.map (.int .u8)) ∧ Z A1 W' ∧ X true false W')
    (CR : ∀ W A1 c1, X true false W → IsSl W 1 A1 m c1 (bs.map (.int .u8)) → Z A1 W → Calls Try.prog 55 #[.pointer (some ⟨r, 0, none⟩), .int .i64 fr, .int .i64 tw, .int .i64 kk] W fun e W' => ∃ A2 c2, e = .returned (.tuple #[.slice A2 m c2, .int .i64 rv]) ∧ IsSl W' 1 A2 m c2 (bs.map (.int .u8)) ∧ IsSl W' 1 A1 m c1 (bs.map (.int .u8)) ∧ X true true W') :
    Calls Try.prog 39 #[.pointer (some ⟨p, 0, none⟩), .pointer (some ⟨r, 0, none⟩), .agg #[.int .i64 op, .int .i64 fr, .int .i64 tw, .int .i64 kk, .int .i64 at_, .int .u8 by_, .slice A bn bc]] w fun e w' => e = .returned (.bool true) ∧ X true true w' := by
  have H00 : Hid (X false false (w.alloc (.cells #[.int .i64 op, .int .i64 fr, .int .i64 tw, .int .i64 kk, .int .i64 at_, .int .u8 by_, .slice A bn bc] 71))) := h0
  have HC := Lib.hid hcl
  have HL := Lib.hid CL
  have HR := Lib.hid CR
  have HOP := Lib.hid hop
  have erv : (rv == rv) = true := by simp
  clear h0 hcl CL CR hop
  rcases (show (bn ≤ 100 ∧ mn = bn) ∨ (100 < bn ∧ mn = 100) by omega) with ⟨hb, rfl⟩ | ⟨hb, rfl⟩
  · clear hmn
    have hop := HOP.out
    go_enter Try.func39, Try.ntmps39
    go_wp2_with fail
    refine (HL.out _ H00.out).mono ?_
    rintro e w1 ⟨A1, c1, rfl, hs1, hz1, hx1⟩
    obtain ⟨x0, x1, x2, x3, x4, x5, x6⟩ := do_cells (HC.out _ _ _ hx1)
    have C2 := Lib.hid (HR.out _ _ _ hx1 hs1 hz1)
    clear hs1 hz1 hx1
    dsimp only
    go_wp2_with fail
    refine C2.out.mono ?_
    rintro e w2 ⟨A2, c2, rfl, hs2, hs1, hx2⟩
    have C3 := Lib.hid (bytesEq_calls w2 A1 A2 m c1 c2 bs hs1 hs2)
    have H11 := Lib.hid hx2
    clear hs1 hs2 hx2
    dsimp only
    go_wp2_with fail
    refine C3.out.mono ?_
    rintro e w3 ⟨rfl, rfl⟩
    go_wp2_with fail
    go_ret
    exact ⟨rfl, H11.out⟩
  · clear hmn
    have hop := HOP.out
    go_enter Try.func39, Try.ntmps39
    go_wp2_with fail
    refine (HL.out _ H00.out).mono ?_
    rintro e w1 ⟨A1, c1, rfl, hs1, hz1, hx1⟩
    obtain ⟨x0, x1, x2, x3, x4, x5, x6⟩ := do_cells (HC.out _ _ _ hx1)
    have C2 := Lib.hid (HR.out _ _ _ hx1 hs1 hz1)
    clear hs1 hz1 hx1
    dsimp only
    go_wp2_with fail
    refine C2.out.mono ?_
    rintro e w2 ⟨A2, c2, rfl, hs2, hs1, hx2⟩
    have C3 := Lib.hid (bytesEq_calls w2 A1 A2 m c1 c2 bs hs1 hs2)
    have H11 := Lib.hid hx2
    clear hs1 hs2 hx2
    dsimp only
    go_wp2_with fail
    refine C3.out.mono ?_
    rintro e w3 ⟨rfl, rfl⟩
    go_wp2_with fail
    go_ret
    exact ⟨rfl, H11.out⟩
set_option maxHeartbeats 8000000 in
theorem does_peek (w : World) (p r : Nat) (op fr tw kk at_ by_ : Int) (A : Option Addr) (bn bc mn : Nat) (hbn : bn ≤ bc) (hbc : bc ≤ 9223372036854775807) (hmn : min bn 100 = mn) (hop : (IntKind.u64.wrap op).tmod 7 = 6) (rv : Int) (m : Nat) (bs : List Int) (X : Bool → Bool → World → Prop) (Z : Option Addr → World → Prop)
    (h0 : X false false (w.alloc (doObj op fr tw kk at_ by_ A bn bc))) (hcl : ∀ a b W, X a b W → W.heap[w.heap.size]? = some (doObj op fr tw kk at_ by_ A bn bc))
    (CL : ∀ W, X false false W → Calls Try.prog 37 #[.pointer (some ⟨p, 0, none⟩), .int .i64 fr, .int .i64 tw, .int .i64 kk] W fun e W' => ∃ A1 c1, e = .returned (.tuple #[.slice A1 m c1, .int .i64 rv]) ∧ IsSl W' 1 A1 m c1 (bs.map (.int .u8)) ∧ Z A1 W' ∧ X true false W')
    (CR : ∀ W A1 c1, X true false W → IsSl W 1 A1 m c1 (bs.map (.int .u8)) → Z A1 W → Calls Try.prog 60 #[.pointer (some ⟨r, 0, none⟩), .int .i64 fr, .int .i64 tw, .int .i64 kk] W fun e W' => ∃ A2 c2, e = .returned (.tuple #[.slice A2 m c2, .int .i64 rv]) ∧ IsSl W' 1 A2 m c2 (bs.map (.int .u8)) ∧ IsSl W' 1 A1 m c1 (bs.map (.int .u8)) ∧ X true true W') :
    Calls Try.prog 39 #[.pointer (some ⟨p, 0, none⟩), .pointer (some ⟨r, 0, none⟩), .agg #[.int .i64 op, .int .i64 fr, .int .i64 tw, .int .i64 kk, .int .i64 at_, .int .u8 by_, .slice A bn bc]] w fun e w' => e = .returned (.bool true) ∧ X true true w' := by
  have H00 : Hid (X false false (w.alloc (.cells #[.int .i64 op, .int .i64 fr, .int .i64 tw, .int .i64 kk, .int .i64 at_, .int .u8 by_, .slice A bn bc] 71))) := h0
  have HC := Lib.hid hcl
  have HL := Lib.hid CL
  have HR := Lib.hid CR
  have HOP := Lib.hid hop
  have erv : (rv == rv) = true := by simp
  clear h0 hcl CL CR hop
  rcases (show (bn ≤ 100 ∧ mn = bn) ∨ (100 < bn ∧ mn = 100) by omega) with ⟨hb, rfl⟩ | ⟨hb, rfl⟩
  · clear hmn
    have hop := HOP.out
    go_enter Try.func39, Try.ntmps39
    go_wp2_with fail
    refine (HL.out _ H00.out).mono ?_
    rintro e w1 ⟨A1, c1, rfl, hs1, hz1, hx1⟩
    obtain ⟨x0, x1, x2, x3, x4, x5, x6⟩ := do_cells (HC.out _ _ _ hx1)
    have C2 := Lib.hid (HR.out _ _ _ hx1 hs1 hz1)
    clear hs1 hz1 hx1
    dsimp only
    go_wp2_with fail
    refine C2.out.mono ?_
    rintro e w2 ⟨A2, c2, rfl, hs2, hs1, hx2⟩
    have C3 := Lib.hid (bytesEq_calls w2 A1 A2 m c1 c2 bs hs1 hs2)
    have H11 := Lib.hid hx2
    clear hs1 hs2 hx2
    dsimp only
    go_wp2_with fail
    refine C3.out.mono ?_
    rintro e w3 ⟨rfl, rfl⟩
    go_wp2_with fail
    go_ret
    exact ⟨rfl, H11.out⟩
  · clear hmn
    have hop := HOP.out
    go_enter Try.func39, Try.ntmps39
    go_wp2_with fail
    refine (HL.out _ H00.out).mono ?_
    rintro e w1 ⟨A1, c1, rfl, hs1, hz1, hx1⟩
    obtain ⟨x0, x1, x2, x3, x4, x5, x6⟩ := do_cells (HC.out _ _ _ hx1)
    have C2 := Lib.hid (HR.out _ _ _ hx1 hs1 hz1)
    clear hs1 hz1 hx1
    dsimp only
    go_wp2_with fail
    refine C2.out.mono ?_
    rintro e w2 ⟨A2, c2, rfl, hs2, hs1, hx2⟩
    have C3 := Lib.hid (bytesEq_calls w2 A1 A2 m c1 c2 bs hs1 hs2)
    have H11 := Lib.hid hx2
    clear hs1 hs2 hx2
    dsimp only
    go_wp2_with fail
    refine C3.out.mono ?_
    rintro e w3 ⟨rfl, rfl⟩
    go_wp2_with fail
    go_ret
    exact ⟨rfl, H11.out⟩
end Ref
end Go.Proofs.Ytdmpgoaemoiogaa
