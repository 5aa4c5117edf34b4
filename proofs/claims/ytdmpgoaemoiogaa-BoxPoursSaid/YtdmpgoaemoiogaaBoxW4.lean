/- The walks: boxes that no call made. -/
import Derived.Test.YtdmpgoaemoiogaaBoxW3
import Derived.LaidEqlPtr
set_option linter.unusedVariables false
set_option linter.unusedSimpArgs false
set_option maxRecDepth 100000
namespace Go.Proofs.Ytdmpgoaemoiogaa
open Go.RowKit
namespace Box

/-- No call made it: nil, or the zero box. -/
def Unmade (w : World) (p : Value) : Prop := p = .pointer none ∨ ∃ b t, p = .pointer (some ⟨b, 0, none⟩) ∧ w.heap[b]? = some (.cells #[.chan none] t (0, 0))
theorem Unmade.below {w w' : World} {p : Value} (h : Unmade w p) (hb : Below w.heap.size w w') : Unmade w' p := by
  rcases h with h | ⟨b, t, h1, h2⟩
  · exact .inl h
  · exact .inr ⟨b, t, h1, by rw [hb.block _ (Array.getElem?_eq_some_iff.1 h2).1]; exact h2⟩
theorem un_made (w : World) (p : Value) (h : Unmade w p) :
    Calls Try.prog 44 #[p] w fun e w' => e = .returned (.bool false) ∧ w' = w := by
  rcases h with rfl | ⟨b, t, rfl, h⟩
  · exact made_nil_int w
  · exact made_zero_int w b (by simp [World.cell?, h])
theorem neq_same {P : Program} {tp te : TypeId} {j : TypeInfo} (a : Addr) (hp : P.underlying tp = some (.pointer te)) (hte : P.info? te = some j) (w : World) :
    (binOp .neq tp (.pointer (some a)) (.pointer (some a))).run P w = .ok (.bool false) w := by
  have h : ∀ d : Nat, (Op.equalIn (d + 1) tp (.pointer (some a)) (.pointer (some a))).run P w = .ok true w := fun d => by
    simp [Op.equalIn, run_underlying hp, sizeOf, typeInfo, hte, run_sameAddr_same]
  simp only [binOp]
  simp [Op.equal, Op.maxDepth, h 9999]
theorem neq_other {P : Program} {tp te : TypeId} {j : TypeInfo} {a b : Addr} {ca cb : Array Value} {ta tb : TypeId} (hp : P.underlying tp = some (.pointer te)) (hte : P.info? te = some j) (hsz : j.size ≠ 0) (w : World)
    (hne : a ≠ b) (ha : w.heap[a.block]? = some (.cells ca ta (0, 0))) (hb : w.heap[b.block]? = some (.cells cb tb (0, 0))) :
    (binOp .neq tp (.pointer (some a)) (.pointer (some b))).run P w = .ok (.bool true) w := by
  have h : ∀ d : Nat, (Op.equalIn (d + 1) tp (.pointer (some a)) (.pointer (some b))).run P w = .ok false w := fun d => by
    simp [Op.equalIn, run_underlying hp, sizeOf, typeInfo, hte, hsz, run_sameAddr_other w hne ha hb]
  simp only [binOp]
  simp [Op.equal, Op.maxDepth, h 9999]
theorem neq_nil {P : Program} {tp te : TypeId} {b : Addr} (hp : P.underlying tp = some (.pointer te)) (w : World) :
    (binOp .neq tp (.pointer none) (.pointer (some b))).run P w = .ok (.bool true) w := by
  have h : ∀ d : Nat, (Op.equalIn (d + 1) tp (.pointer none) (.pointer (some b))).run P w = .ok false w := fun d => by
    simp [Op.equalIn, run_underlying hp]
  simp only [binOp]
  simp [Op.equal, Op.maxDepth, h 9999]
theorem infoBox : ∃ j, Try.prog.info? 37 = some j ∧ j.size ≠ 0 := by
  have h : (Try.prog.info? 37).map (fun i => decide (i.size ≠ 0)) = some true := by kernel_rfl
  obtain ⟨i, hi, hb⟩ := Option.map_eq_some_iff.1 h
  exact ⟨i, hi, of_decide_eq_true hb⟩
set_option maxHeartbeats 400000 in
theorem un_len (w : World) (p : Value) (h : Unmade w p) :
    Calls Try.prog 19 #[p] w fun e w' => e = .returned (.int .i64 0) ∧ w' = w := by
  go_enter Try.func19, Try.ntmps19
  go_wp2_with fail
  refine (un_made w p h).mono ?_
  rintro e w1 ⟨rfl, rfl⟩
  go_wp2_with fail
  go_ret
  exact ⟨rfl, rfl⟩
set_option maxHeartbeats 400000 in
theorem un_room (w : World) (p : Value) (h : Unmade w p) :
    Calls Try.prog 15 #[p] w fun e w' => e = .returned (.int .i64 0) ∧ w' = w := by
  go_enter Try.func15, Try.ntmps15
  go_wp2_with fail
  refine (un_made w p h).mono ?_
  rintro e w1 ⟨rfl, rfl⟩
  go_wp2_with fail
  go_ret
  exact ⟨rfl, rfl⟩
set_option maxHeartbeats 400000 in
theorem un_put (w : World) (p x : Value) (h : Unmade w p) :
    Calls Try.prog 18 #[p, x] w fun e w' => e = .returned (.bool false) ∧ w' = w := by
  go_enter Try.func18, Try.ntmps18
  go_wp2_with fail
  refine (un_made w p h).mono ?_
  rintro e w1 ⟨rfl, rfl⟩
  go_wp2_with fail
  go_ret
  exact ⟨rfl, rfl⟩
set_option maxHeartbeats 400000 in
theorem un_take (w : World) (p : Value) (h : Unmade w p) :
    Calls Try.prog 16 #[p] w fun e w' => e = .returned (.tuple #[.int .i64 0, .bool false]) ∧ w' = w := by
  go_enter Try.func16, Try.ntmps16
  go_wp2_with fail
  refine (un_made w p h).mono ?_
  rintro e w1 ⟨rfl, rfl⟩
  go_wp2_with fail
  go_ret2
  exact ⟨rfl, rfl⟩
set_option maxHeartbeats 400000 in
theorem un_list (w : World) (p : Value) (h : Unmade w p) :
    Calls Try.prog 20 #[p] w fun e w' => e = .returned (.slice none 0 0) ∧ w' = w := by
  have H := Lib.hid h
  go_enter Try.func20, Try.ntmps20
  go_wp2_with fail
  refine (un_len w p H.out).mono ?_
  rintro e w1 ⟨rfl, rfl⟩
  go_wp2_with fail
  go_loopw [3, 8] (fun out ix wr => out = .slice none 0 0 ∧ ix = .int .i64 0 ∧ wr = w1) (fun _ _ _ => 0)
  case atStart => exact ⟨rfl, rfl, rfl⟩
  case round =>
    obtain ⟨rfl, rfl, rfl⟩ := hrel
    go_wp2_with fail
    go_ret
    exact ⟨rfl, rfl⟩
set_option maxHeartbeats 400000 in
theorem un_pull (w : World) (p : Value) (h : Unmade w p) (k : Int) (hk : -9223372036854775808 ≤ k ∧ k ≤ 9223372036854775807) :
    Calls Try.prog 17 #[p, .int .i64 k] w fun e w' => e = .returned (.tuple #[.int .i64 0, .bool false]) ∧ w' = w := by
  by_cases h0 : k < 0
  · go_enter Try.func17, Try.ntmps17
    go_wp2_with fail
    go_ret2
    exact ⟨rfl, rfl⟩
  · go_enter Try.func17, Try.ntmps17
    go_wp2_with fail
    refine (un_len w p h).mono ?_
    rintro e w1 ⟨rfl, rfl⟩
    go_wp2_with fail
    go_ret2
    exact ⟨rfl, rfl⟩
set_option maxHeartbeats 400000 in
theorem un_pour_to (w : World) (p q : Value) (h : Unmade w q) :
    Calls Try.prog 21 #[p, q] w fun e w' => e = .returned (.int .i64 0) ∧ w' = w := by
  have H := Lib.hid h
  go_enter Try.func21, Try.ntmps21
  go_wp2_with fail
  go_loopw [5] (fun n wr => n = .int .i64 0 ∧ wr = w) (fun _ _ => 0)
  case atStart => exact ⟨rfl, rfl⟩
  case round =>
    obtain ⟨rfl, rfl⟩ := hrel
    go_wp2_with fail
    refine (un_room wr q H.out).mono ?_
    rintro e w1 ⟨rfl, rfl⟩
    go_wp2_with fail
    go_ret
    exact ⟨rfl, rfl⟩
set_option maxHeartbeats 400000 in
theorem un_pour_from (w : World) (p : Value) (h : Unmade w p) (b c cap : Nat) (l : List Value) (hx : IsBox w b c cap l) (hne : p ≠ .pointer (some ⟨b, 0, none⟩)) (hc : l.length < cap) :
    Calls Try.prog 21 #[p, .pointer (some ⟨b, 0, none⟩)] w fun e w' => e = .returned (.int .i64 0) ∧ Below w.heap.size w w' := by
  have H := Lib.hid h
  have HX := Lib.hid hx
  have hcp := hx.room
  clear hx
  obtain ⟨j, hj, hj0⟩ := infoBox
  rcases h with rfl | ⟨b', t', rfl, _⟩
  · have hq := neq_nil (b := ⟨b, 0, none⟩) Try.underlying32
    go_enter Try.func21, Try.ntmps21
    go_wp2_with fail
    go_loopw [5] (fun n wr => n = .int .i64 0 ∧ wr = w) (fun _ _ => 0)
    case atStart => exact ⟨rfl, rfl⟩
    case round =>
      obtain ⟨rfl, rfl⟩ := hrel
      go_wp2_with fail
      refine (room_int wr b c cap l HX.out).mono ?_
      rintro e w1 ⟨rfl, hb1, hh⟩
      have H1 := Lib.hid (H.out.below hb1)
      have HB1 := Lib.hid hb1
      clear hb1 hh
      go_wp2_with fail
      refine (un_take w1 _ H1.out).mono ?_
      rintro e w2 ⟨rfl, rfl⟩
      go_wp2_with fail
      go_ret
      exact ⟨rfl, HB1.out⟩
  · have hbb : ¬ b' = b := fun e => hne (by rw [e])
    go_enter Try.func21, Try.ntmps21
    go_wp2_with fail
    go_loopw [5] (fun n wr => n = .int .i64 0 ∧ wr = w) (fun _ _ => 0)
    case atStart => exact ⟨rfl, rfl⟩
    case round =>
      obtain ⟨rfl, rfl⟩ := hrel
      go_wp2_with fail
      refine (room_int wr b c cap l HX.out).mono ?_
      rintro e w1 ⟨rfl, hb1, hh⟩
      have H1 := Lib.hid (H.out.below hb1)
      have hq : (binOp .neq 32 (.pointer (some ⟨b', 0, none⟩)) (.pointer (some ⟨b, 0, none⟩))).run Try.prog w1 = .ok (.bool true) w1 := by
        obtain ⟨_, h1⟩ | ⟨b1, t1, h1, h2⟩ := H1.out
        obtain ⟨t2, s2, r2, h3, _⟩ := HX.out
        simp only [Value.pointer.injEq, Option.some.injEq, Addr.mk.injEq, and_true] at h1
        subst h1
        exact neq_other Try.underlying32 hj hj0 w1 (by simp [hbb]) h2 (by rw [hh]; exact h3)
      have HB1 := Lib.hid hb1
      clear hb1 hh
      go_wp2_with fail
      refine (un_take w1 _ H1.out).mono ?_
      rintro e w2 ⟨rfl, rfl⟩
      go_wp2_with fail
      go_ret
      exact ⟨rfl, HB1.out⟩
end Box
end Go.Proofs.Ytdmpgoaemoiogaa
