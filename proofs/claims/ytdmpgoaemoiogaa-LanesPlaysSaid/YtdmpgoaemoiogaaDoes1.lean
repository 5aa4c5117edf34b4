/- Lanes and their reference: what 'does' does, over any contracts of the two calls. Written by does1.py. -/
import Derived.Test.YtdmpgoaemoiogaaRef6
import Derived.Deep.RegionHeld3
set_option linter.unusedVariables false
set_option linter.unusedSimpArgs false
set_option maxRecDepth 100000
namespace Go.Proofs.Ytdmpgoaemoiogaa
open Go.RowKit Go.Maps
namespace Ref
open Box
def doObj (op fr tw kk at_ by_ : Int) (A : Option Addr) (bn bc : Nat) : Obj := .cells #[.int .i64 op, .int .i64 fr, .int .i64 tw, .int .i64 kk, .int .i64 at_, .int .u8 by_, .slice A bn bc] 71 (0, 0)
theorem do_cells {W : World} {n : Nat} {op fr tw kk at_ by_ : Int} {A : Option Addr} {bn bc : Nat} (h : W.heap[n]? = some (doObj op fr tw kk at_ by_ A bn bc)) :
    W.cell? ⟨n, 0, none⟩ = some (.int .i64 op) ∧ W.cell? ⟨n, 1, none⟩ = some (.int .i64 fr) ∧ W.cell? ⟨n, 2, none⟩ = some (.int .i64 tw) ∧ W.cell? ⟨n, 3, none⟩ = some (.int .i64 kk) ∧ W.cell? ⟨n, 4, none⟩ = some (.int .i64 at_) ∧ W.cell? ⟨n, 5, none⟩ = some (.int .u8 by_) ∧ W.cell? ⟨n, 6, none⟩ = some (.slice A bn bc) := by
  unfold doObj at h
  exact ⟨by simp [World.cell?, h], by simp [World.cell?, h], by simp [World.cell?, h], by simp [World.cell?, h], by simp [World.cell?, h], by simp [World.cell?, h], by simp [World.cell?, h]⟩
set_option maxHeartbeats 8000000 in
theorem does_lose (w : World) (p r : Nat) (op fr tw kk at_ by_ : Int) (A : Option Addr) (bn bc mn : Nat) (hbn : bn ≤ bc) (hbc : bc ≤ 9223372036854775807) (hmn : min bn 100 = mn) (hop : (IntKind.u64.wrap op).tmod 7 = 3) (rv : Int) (X : Bool → Bool → World → Prop)
    (h0 : X false false (w.alloc (doObj op fr tw kk at_ by_ A bn bc))) (hdr : ∀ a b W, X a b W → X a b W.drew) (hcl : ∀ a b W, X a b W → W.heap[w.heap.size]? = some (doObj op fr tw kk at_ by_ A bn bc))
    (CL : ∀ W, X false false W → Calls Try.prog 38 #[.pointer (some ⟨p, 0, none⟩), .int .i64 fr, .int .i64 tw, .int .i64 kk] W fun e W' => e = .returned (.int .i64 rv) ∧ X true false W')
    (CR : ∀ W, X true false W → Calls Try.prog 57 #[.pointer (some ⟨r, 0, none⟩), .int .i64 fr, .int .i64 tw, .int .i64 kk] W fun e W' => e = .returned (.int .i64 rv) ∧ X true true W') :
    Calls Try.prog 39 #[.pointer (some ⟨p, 0, none⟩), .pointer (some ⟨r, 0, none⟩), .agg #[.int .i64 op, .int .i64 fr, .int .i64 tw, .int .i64 kk, .int .i64 at_, .int .u8 by_, .slice A bn bc]] w fun e w' => e = .returned (.bool true) ∧ X true true w' := by
  have H00 : Hid (X false false (w.alloc (.cells #[.int .i64 op, .int .i64 fr, .int .i64 tw, .int .i64 kk, .int .i64 at_, .int .u8 by_, .slice A bn bc] 71)).drew) := hdr _ _ _ h0
  have HC := Lib.hid hcl
  have HL := Lib.hid CL
  have HR := Lib.hid CR
  have HOP := Lib.hid hop
  have erv : (rv == rv) = true := by simp
  clear h0 hdr hcl CL CR hop
  rcases (show (bn ≤ 100 ∧ mn = bn) ∨ (100 < bn ∧ mn = 100) by omega) with ⟨hb, rfl⟩ | ⟨hb, rfl⟩
  · clear hmn
    have hop := HOP.out
    go_enter Try.func39, Try.ntmps39
    go_wp2_with fail
    go_region_held3 (fun W => W.cell? ⟨w.heap.size, 1, none⟩ = some (.int .i64 fr) ∧ W.cell? ⟨w.heap.size, 2, none⟩ = some (.int .i64 tw) ∧ W.cell? ⟨w.heap.size, 3, none⟩ = some (.int .i64 kk))
      (first
        | go_keep
        | (go_split_ands; exact ⟨by assumption, by assumption, by assumption⟩))
      (first
        | (go_at_call 38
           refine (HL.out _ H00.out).mono ?_
           rintro e w1 ⟨rfl, hx1⟩
           obtain ⟨x0, x1, x2, x3, x4, x5, x6⟩ := do_cells (HC.out _ _ _ hx1)
           have H10 := Lib.hid hx1
           clear hx1)
        | (go_at_call 57
           refine (HR.out _ H10.out).mono ?_
           rintro e w2 ⟨rfl, hx2⟩
           obtain ⟨x0, x1, x2, x3, x4, x5, x6⟩ := do_cells (HC.out _ _ _ hx2)
           have H11 := Lib.hid hx2
           clear hx2))
    all_goals (
      go_wp2_with fail
      go_ret
      exact ⟨rfl, H11.out⟩)
  · clear hmn
    have hop := HOP.out
    go_enter Try.func39, Try.ntmps39
    go_wp2_with fail
    go_region_held3 (fun W => W.cell? ⟨w.heap.size, 1, none⟩ = some (.int .i64 fr) ∧ W.cell? ⟨w.heap.size, 2, none⟩ = some (.int .i64 tw) ∧ W.cell? ⟨w.heap.size, 3, none⟩ = some (.int .i64 kk))
      (first
        | go_keep
        | (go_split_ands; exact ⟨by assumption, by assumption, by assumption⟩))
      (first
        | (go_at_call 38
           refine (HL.out _ H00.out).mono ?_
           rintro e w1 ⟨rfl, hx1⟩
           obtain ⟨x0, x1, x2, x3, x4, x5, x6⟩ := do_cells (HC.out _ _ _ hx1)
           have H10 := Lib.hid hx1
           clear hx1)
        | (go_at_call 57
           refine (HR.out _ H10.out).mono ?_
           rintro e w2 ⟨rfl, hx2⟩
           obtain ⟨x0, x1, x2, x3, x4, x5, x6⟩ := do_cells (HC.out _ _ _ hx2)
           have H11 := Lib.hid hx2
           clear hx2))
    all_goals (
      go_wp2_with fail
      go_ret
      exact ⟨rfl, H11.out⟩)
set_option maxHeartbeats 8000000 in
theorem does_double (w : World) (p r : Nat) (op fr tw kk at_ by_ : Int) (A : Option Addr) (bn bc mn : Nat) (hbn : bn ≤ bc) (hbc : bc ≤ 9223372036854775807) (hmn : min bn 100 = mn) (hop : (IntKind.u64.wrap op).tmod 7 = 4) (rv : Int) (X : Bool → Bool → World → Prop)
    (h0 : X false false (w.alloc (doObj op fr tw kk at_ by_ A bn bc))) (hdr : ∀ a b W, X a b W → X a b W.drew) (hcl : ∀ a b W, X a b W → W.heap[w.heap.size]? = some (doObj op fr tw kk at_ by_ A bn bc))
    (CL : ∀ W, X false false W → Calls Try.prog 35 #[.pointer (some ⟨p, 0, none⟩), .int .i64 fr, .int .i64 tw, .int .i64 kk] W fun e W' => e = .returned (.int .i64 rv) ∧ X true false W')
    (CR : ∀ W, X true false W → Calls Try.prog 58 #[.pointer (some ⟨r, 0, none⟩), .int .i64 fr, .int .i64 tw, .int .i64 kk] W fun e W' => e = .returned (.int .i64 rv) ∧ X true true W') :
    Calls Try.prog 39 #[.pointer (some ⟨p, 0, none⟩), .pointer (some ⟨r, 0, none⟩), .agg #[.int .i64 op, .int .i64 fr, .int .i64 tw, .int .i64 kk, .int .i64 at_, .int .u8 by_, .slice A bn bc]] w fun e w' => e = .returned (.bool true) ∧ X true true w' := by
  have H00 : Hid (X false false (w.alloc (.cells #[.int .i64 op, .int .i64 fr, .int .i64 tw, .int .i64 kk, .int .i64 at_, .int .u8 by_, .slice A bn bc] 71)).drew) := hdr _ _ _ h0
  have HC := Lib.hid hcl
  have HL := Lib.hid CL
  have HR := Lib.hid CR
  have HOP := Lib.hid hop
  have erv : (rv == rv) = true := by simp
  clear h0 hdr hcl CL CR hop
  rcases (show (bn ≤ 100 ∧ mn = bn) ∨ (100 < bn ∧ mn = 100) by omega) with ⟨hb, rfl⟩ | ⟨hb, rfl⟩
  · clear hmn
    have hop := HOP.out
    go_enter Try.func39, Try.ntmps39
    go_wp2_with fail
    go_region_held3 (fun W => W.cell? ⟨w.heap.size, 1, none⟩ = some (.int .i64 fr) ∧ W.cell? ⟨w.heap.size, 2, none⟩ = some (.int .i64 tw) ∧ W.cell? ⟨w.heap.size, 3, none⟩ = some (.int .i64 kk))
      (first
        | go_keep
        | (go_split_ands; exact ⟨by assumption, by assumption, by assumption⟩))
      (first
        | (go_at_call 35
           refine (HL.out _ H00.out).mono ?_
           rintro e w1 ⟨rfl, hx1⟩
           obtain ⟨x0, x1, x2, x3, x4, x5, x6⟩ := do_cells (HC.out _ _ _ hx1)
           have H10 := Lib.hid hx1
           clear hx1)
        | (go_at_call 58
           refine (HR.out _ H10.out).mono ?_
           rintro e w2 ⟨rfl, hx2⟩
           obtain ⟨x0, x1, x2, x3, x4, x5, x6⟩ := do_cells (HC.out _ _ _ hx2)
           have H11 := Lib.hid hx2
           clear hx2))
    all_goals (
      go_wp2_with fail
      go_ret
      exact ⟨rfl, H11.out⟩)
  · clear hmn
    have hop := HOP.out
    go_enter Try.func39, Try.ntmps39
    go_wp2_with fail
    go_region_held3 (fun W => W.cell? ⟨w.heap.size, 1, none⟩ = some (.int .i64 fr) ∧ W.cell? ⟨w.heap.size, 2, none⟩ = some (.int .i64 tw) ∧ W.cell? ⟨w.heap.size, 3, none⟩ = some (.int .i64 kk))
      (first
        | go_keep
        | (go_split_ands; exact ⟨by assumption, by assumption, by assumption⟩))
      (first
        | (go_at_call 35
           refine (HL.out _ H00.out).mono ?_
           rintro e w1 ⟨rfl, hx1⟩
           obtain ⟨x0, x1, x2, x3, x4, x5, x6⟩ := do_cells (HC.out _ _ _ hx1)
           have H10 := Lib.hid hx1
           clear hx1)
        | (go_at_call 58
           refine (HR.out _ H10.out).mono ?_
           rintro e w2 ⟨rfl, hx2⟩
           obtain ⟨x0, x1, x2, x3, x4, x5, x6⟩ := do_cells (HC.out _ _ _ hx2)
           have H11 := Lib.hid hx2
           clear hx2))
    all_goals (
      go_wp2_with fail
      go_ret
      exact ⟨rfl, H11.out⟩)
set_option maxHeartbeats 8000000 in
theorem does_spoil (w : World) (p r : Nat) (op fr tw kk at_ by_ : Int) (A : Option Addr) (bn bc mn : Nat) (hbn : bn ≤ bc) (hbc : bc ≤ 9223372036854775807) (hmn : min bn 100 = mn) (hop : (IntKind.u64.wrap op).tmod 7 = 5) (rv : Int) (X : Bool → Bool → World → Prop)
    (h0 : X false false (w.alloc (doObj op fr tw kk at_ by_ A bn bc))) (hdr : ∀ a b W, X a b W → X a b W.drew) (hcl : ∀ a b W, X a b W → W.heap[w.heap.size]? = some (doObj op fr tw kk at_ by_ A bn bc))
    (CL : ∀ W, X false false W → Calls Try.prog 34 #[.pointer (some ⟨p, 0, none⟩), .int .i64 fr, .int .i64 tw, .int .i64 kk, .int .i64 at_, .int .u8 by_] W fun e W' => e = .returned (.int .i64 rv) ∧ X true false W')
    (CR : ∀ W, X true false W → Calls Try.prog 59 #[.pointer (some ⟨r, 0, none⟩), .int .i64 fr, .int .i64 tw, .int .i64 kk, .int .i64 at_, .int .u8 by_] W fun e W' => e = .returned (.int .i64 rv) ∧ X true true W') :
    Calls Try.prog 39 #[.pointer (some ⟨p, 0, none⟩), .pointer (some ⟨r, 0, none⟩), .agg #[.int .i64 op, .int .i64 fr, .int .i64 tw, .int .i64 kk, .int .i64 at_, .int .u8 by_, .slice A bn bc]] w fun e w' => e = .returned (.bool true) ∧ X true true w' := by
  have H00 : Hid (X false false (w.alloc (.cells #[.int .i64 op, .int .i64 fr, .int .i64 tw, .int .i64 kk, .int .i64 at_, .int .u8 by_, .slice A bn bc] 71)).drew) := hdr _ _ _ h0
  have HC := Lib.hid hcl
  have HL := Lib.hid CL
  have HR := Lib.hid CR
  have HOP := Lib.hid hop
  have erv : (rv == rv) = true := by simp
  clear h0 hdr hcl CL CR hop
  rcases (show (bn ≤ 100 ∧ mn = bn) ∨ (100 < bn ∧ mn = 100) by omega) with ⟨hb, rfl⟩ | ⟨hb, rfl⟩
  · clear hmn
    have hop := HOP.out
    go_enter Try.func39, Try.ntmps39
    go_wp2_with fail
    go_region_held3 (fun W => W.cell? ⟨w.heap.size, 1, none⟩ = some (.int .i64 fr) ∧ W.cell? ⟨w.heap.size, 2, none⟩ = some (.int .i64 tw) ∧ W.cell? ⟨w.heap.size, 3, none⟩ = some (.int .i64 kk) ∧ W.cell? ⟨w.heap.size, 4, none⟩ = some (.int .i64 at_) ∧ W.cell? ⟨w.heap.size, 5, none⟩ = some (.int .u8 by_))
      (first
        | go_keep
        | (go_split_ands; exact ⟨by assumption, by assumption, by assumption, by assumption, by assumption⟩))
      (first
        | (go_at_call 34
           refine (HL.out _ H00.out).mono ?_
           rintro e w1 ⟨rfl, hx1⟩
           obtain ⟨x0, x1, x2, x3, x4, x5, x6⟩ := do_cells (HC.out _ _ _ hx1)
           have H10 := Lib.hid hx1
           clear hx1)
        | (go_at_call 59
           refine (HR.out _ H10.out).mono ?_
           rintro e w2 ⟨rfl, hx2⟩
           obtain ⟨x0, x1, x2, x3, x4, x5, x6⟩ := do_cells (HC.out _ _ _ hx2)
           have H11 := Lib.hid hx2
           clear hx2))
    all_goals (
      go_wp2_with fail
      go_ret
      exact ⟨rfl, H11.out⟩)
  · clear hmn
    have hop := HOP.out
    go_enter Try.func39, Try.ntmps39
    go_wp2_with fail
    go_region_held3 (fun W => W.cell? ⟨w.heap.size, 1, none⟩ = some (.int .i64 fr) ∧ W.cell? ⟨w.heap.size, 2, none⟩ = some (.int .i64 tw) ∧ W.cell? ⟨w.heap.size, 3, none⟩ = some (.int .i64 kk) ∧ W.cell? ⟨w.heap.size, 4, none⟩ = some (.int .i64 at_) ∧ W.cell? ⟨w.heap.size, 5, none⟩ = some (.int .u8 by_))
      (first
        | go_keep
        | (go_split_ands; exact ⟨by assumption, by assumption, by assumption, by assumption, by assumption⟩))
      (first
        | (go_at_call 34
           refine (HL.out _ H00.out).mono ?_
           rintro e w1 ⟨rfl, hx1⟩
           obtain ⟨x0, x1, x2, x3, x4, x5, x6⟩ := do_cells (HC.out _ _ _ hx1)
           have H10 := Lib.hid hx1
           clear hx1)
        | (go_at_call 59
           refine (HR.out _ H10.out).mono ?_
           rintro e w2 ⟨rfl, hx2⟩
           obtain ⟨x0, x1, x2, x3, x4, x5, x6⟩ := do_cells (HC.out _ _ _ hx2)
           have H11 := Lib.hid hx2
           clear hx2))
    all_goals (
      go_wp2_with fail
      go_ret
      exact ⟨rfl, H11.out⟩)
set_option maxHeartbeats 8000000 in
theorem does_send (w : World) (p r : Nat) (op fr tw kk at_ by_ : Int) (A : Option Addr) (bn bc mn : Nat) (hbn : bn ≤ bc) (hbc : bc ≤ 9223372036854775807) (hmn : min bn 100 = mn) (hop : (IntKind.u64.wrap op).tmod 7 = 0 ∨ (IntKind.u64.wrap op).tmod 7 = 1) (rv : Int) (X : Bool → Bool → World → Prop)
    (h0 : X false false (w.alloc (doObj op fr tw kk at_ by_ A bn bc))) (hdr : ∀ a b W, X a b W → X a b W.drew) (hcl : ∀ a b W, X a b W → W.heap[w.heap.size]? = some (doObj op fr tw kk at_ by_ A bn bc))
    (CL : ∀ W, X false false W → Calls Try.prog 30 #[.pointer (some ⟨p, 0, none⟩), .int .i64 fr, .int .i64 tw, .slice A mn bc] W fun e W' => e = .returned (.int .i64 rv) ∧ X true false W')
    (CR : ∀ W, X true false W → Calls Try.prog 61 #[.pointer (some ⟨r, 0, none⟩), .int .i64 fr, .int .i64 tw, .slice A mn bc] W fun e W' => e = .returned (.int .i64 rv) ∧ X true true W') :
    Calls Try.prog 39 #[.pointer (some ⟨p, 0, none⟩), .pointer (some ⟨r, 0, none⟩), .agg #[.int .i64 op, .int .i64 fr, .int .i64 tw, .int .i64 kk, .int .i64 at_, .int .u8 by_, .slice A bn bc]] w fun e w' => e = .returned (.bool true) ∧ X true true w' := by
  have H00 : Hid (X false false (w.alloc (.cells #[.int .i64 op, .int .i64 fr, .int .i64 tw, .int .i64 kk, .int .i64 at_, .int .u8 by_, .slice A bn bc] 71)).drew) := hdr _ _ _ h0
  have HC := Lib.hid hcl
  have HL := Lib.hid CL
  have HR := Lib.hid CR
  have HOP := Lib.hid hop
  have erv : (rv == rv) = true := by simp
  clear h0 hdr hcl CL CR hop
  rcases (show (bn ≤ 100 ∧ mn = bn) ∨ (100 < bn ∧ mn = 100) by omega) with ⟨hb, rfl⟩ | ⟨hb, rfl⟩
  · clear hmn
    have hop := HOP.out
    have hn2 : ¬ (IntKind.u64.wrap op).tmod 7 = 2 := by omega
    have hn3 : ¬ (IntKind.u64.wrap op).tmod 7 = 3 := by omega
    have hn4 : ¬ (IntKind.u64.wrap op).tmod 7 = 4 := by omega
    have hn5 : ¬ (IntKind.u64.wrap op).tmod 7 = 5 := by omega
    have hn6 : ¬ (IntKind.u64.wrap op).tmod 7 = 6 := by omega
    clear hop
    go_enter Try.func39, Try.ntmps39
    go_wp2_with fail
    go_region_held3 (fun W => W.cell? ⟨w.heap.size, 1, none⟩ = some (.int .i64 fr) ∧ W.cell? ⟨w.heap.size, 2, none⟩ = some (.int .i64 tw))
      (first
        | go_keep
        | (go_split_ands; exact ⟨by assumption, by assumption⟩))
      (first
        | (go_at_call 30
           refine (HL.out _ H00.out).mono ?_
           rintro e w1 ⟨rfl, hx1⟩
           obtain ⟨x0, x1, x2, x3, x4, x5, x6⟩ := do_cells (HC.out _ _ _ hx1)
           have H10 := Lib.hid hx1
           clear hx1)
        | (go_at_call 61
           refine (HR.out _ H10.out).mono ?_
           rintro e w2 ⟨rfl, hx2⟩
           obtain ⟨x0, x1, x2, x3, x4, x5, x6⟩ := do_cells (HC.out _ _ _ hx2)
           have H11 := Lib.hid hx2
           clear hx2))
    all_goals (
      go_wp2_with fail
      go_ret
      exact ⟨rfl, H11.out⟩)
  · clear hmn
    have hop := HOP.out
    have hn2 : ¬ (IntKind.u64.wrap op).tmod 7 = 2 := by omega
    have hn3 : ¬ (IntKind.u64.wrap op).tmod 7 = 3 := by omega
    have hn4 : ¬ (IntKind.u64.wrap op).tmod 7 = 4 := by omega
    have hn5 : ¬ (IntKind.u64.wrap op).tmod 7 = 5 := by omega
    have hn6 : ¬ (IntKind.u64.wrap op).tmod 7 = 6 := by omega
    clear hop
    go_enter Try.func39, Try.ntmps39
    go_wp2_with fail
    go_region_held3 (fun W => W.cell? ⟨w.heap.size, 1, none⟩ = some (.int .i64 fr) ∧ W.cell? ⟨w.heap.size, 2, none⟩ = some (.int .i64 tw))
      (first
        | go_keep
        | (go_split_ands; exact ⟨by assumption, by assumption⟩))
      (first
        | (go_at_call 30
           refine (HL.out _ H00.out).mono ?_
           rintro e w1 ⟨rfl, hx1⟩
           obtain ⟨x0, x1, x2, x3, x4, x5, x6⟩ := do_cells (HC.out _ _ _ hx1)
           have H10 := Lib.hid hx1
           clear hx1)
        | (go_at_call 61
           refine (HR.out _ H10.out).mono ?_
           rintro e w2 ⟨rfl, hx2⟩
           obtain ⟨x0, x1, x2, x3, x4, x5, x6⟩ := do_cells (HC.out _ _ _ hx2)
           have H11 := Lib.hid hx2
           clear hx2))
    all_goals (
      go_wp2_with fail
      go_ret
      exact ⟨rfl, H11.out⟩)
end Ref
end Go.Proofs.Ytdmpgoaemoiogaa
