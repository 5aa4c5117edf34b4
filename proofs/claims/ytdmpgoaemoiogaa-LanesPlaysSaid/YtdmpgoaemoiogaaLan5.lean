/- Lanes: Take, Double, Peek, Lose. -/
import Derived.Test.YtdmpgoaemoiogaaLan4
set_option linter.unusedVariables false
set_option linter.unusedSimpArgs false
set_option maxRecDepth 100000
namespace Go.Proofs.Ytdmpgoaemoiogaa
open Go.RowKit Go.Maps
namespace Box
variable {w : World} {F : Nat → Prop} {p m n nk : Nat} {s t : Int} {q : Int × Int → List Par} {f : Int × Int → Option (Nat × Nat)}
/-- A place in no list. -/
def Out (l : List Par) (k : Int) : Prop := k < 0 ∨ (l.length : Int) ≤ k
theorem LnsF.stepG {w1 w' : World} {F1 : Nat → Prop} (hf : Foot w w1 F) (hF : ∀ x, F1 x → F x ∨ w.heap.size ≤ x) (h : LnsF w1 F1 p m n nk s t q f) {k : Int × Int} {b c : Nat} (hk : f k = some (b, c)) {l : List Par} (hg : w1.grownBy w' (some c)) (hx : IsP w' b c l) :
    Step w F p n s t (upd q k l) w' :=
  (h.set hk hg hx).stepB hf hF (Foot.of_grown hg (h.box _ _ _ hk).2.2.2)
theorem Step.below {w1 w' : World} (h : Step w F p n s t q w1) (hb : Below w1.heap.size w1 w') : Step w F p n s t q w' := by
  obtain ⟨F', ⟨m, nk, f, hL⟩, hf, hF⟩ := h
  exact ⟨F', ⟨m, nk, f, hL.below hb⟩, hf.trans (Foot.of_below F' hb) hF, hF⟩
/-- All parcels are well. -/
def OkQ (q : Int × Int → List Par) : Prop := ∀ k, ∀ x ∈ q k, OkP x
theorem takeNo_calls (P : Value) (i j : Int) (C0 : Calls Try.prog 48 #[P, .int .i64 i, .int .i64 j] w fun e w' => e = .returned (.pointer none) ∧ w' = w) (k : Int) :
    Calls Try.prog 36 #[P, .int .i64 i, .int .i64 j, .int .i64 k] w fun e w' => e = .returned (.tuple #[.slice none 0 0, .int .i64 15]) ∧ w' = w := by
  have C := Lib.hid C0
  clear C0
  go_enter Try.func36, Try.ntmps36
  go_wp2_with fail
  refine C.out.mono ?_
  rintro e w' ⟨rfl, rfl⟩
  go_wp2_with fail
  go_ret2
  exact ⟨rfl, rfl⟩
set_option maxHeartbeats 1000000 in
theorem takeOut_calls (h : LnsF w F p m n nk s t q f) (i j : Int) (hk : Way n (i, j)) (k : Int) (ho : Out (q (i, j)) k) :
    Calls Try.prog 36 #[.pointer (some ⟨p, 0, none⟩), .int .i64 i, .int .i64 j, .int .i64 k] w fun e w' => e = .returned (.tuple #[.slice none 0 0, .int .i64 10]) ∧ Step w F p n s t q w' := by
  have C := Lib.hid (boxYes_calls h i j hk)
  clear hk h
  go_enter Try.func36, Try.ntmps36
  go_wp2_with fail
  refine C.out.mono ?_
  rintro e w1 ⟨b, c, F1, rfl, ⟨m1, nk1, f1, hL, hfk⟩, hft, hF⟩
  have HL := Lib.hid hL
  have HFT := Lib.hid hft
  have hpe := ptr_eq_par b
  have C2 := Lib.hid (pullNo_par w1 b c _ (hL.box _ _ _ hfk).2.1 k ho)
  clear hL hft hfk ho
  go_wp2_with fail
  refine C2.out.mono ?_
  rintro e w2 ⟨rfl, hb2⟩
  have HB2 := Lib.hid hb2
  clear hb2
  simp only [pv, zp]
  go_wp2_with fail
  go_ret2
  exact ⟨rfl, HL.out.below (HB2.out.trans ((Below.refl _ _).alloc HB2.out.size _)) |>.stepB HFT.out hF (Foot.of_below _ (HB2.out.trans ((Below.refl _ _).alloc HB2.out.size _)))⟩
/-- A message's bytes, as they come. -/
def Came (w : World) (e : Ending) (w' : World) (x : Par) : Prop := ∃ A cap, e = .returned (.tuple #[.slice A x.1.size cap, .int .i64 0]) ∧ IsSl w' 1 A x.1.size cap ((opened x).map (.int .u8)) ∧ ∀ ad, A = some ad → w.heap.size ≤ ad.block
theorem Step.size {w w' : World} {F : Nat → Prop} {p n : Nat} {s t : Int} {q : Int × Int → List Par} (h : Step w F p n s t q w') : w.heap.size ≤ w'.heap.size := by
  obtain ⟨_, _, h, _⟩ := h; exact h.2.2.2.1
set_option maxHeartbeats 1000000 in
theorem take_calls (h : LnsF w F p m n nk s t q f) (i j : Int) (hk : Way n (i, j)) (k : Nat) (x : Par) (hx : (q (i, j))[k]? = some x) (hok : OkP x) :
    Calls Try.prog 36 #[.pointer (some ⟨p, 0, none⟩), .int .i64 i, .int .i64 j, .int .i64 k] w fun e w' => Came w e w' x ∧ Step w F p n s t (upd q (i, j) ((q (i, j)).eraseIdx k)) w' := by
  have C := Lib.hid (boxYes_calls h i j hk)
  have HX := Lib.hid hx
  have C3 := Lib.hid (open_calls x hok)
  clear hk h hx hok
  go_enter Try.func36, Try.ntmps36
  go_wp2_with fail
  refine C.out.mono ?_
  rintro e w1 ⟨b, c, F1, rfl, ⟨m1, nk1, f1, hL, hfk⟩, hft, hF⟩
  have HL := Lib.hid hL
  have HFT := Lib.hid hft
  have HFK := Lib.hid hfk
  have hpe := ptr_eq_par b
  have C2 := Lib.hid (pull_par w1 b c _ (hL.box _ _ _ hfk).2.1 k x HX.out)
  clear hL hft hfk
  go_wp2_with fail
  refine C2.out.mono ?_
  rintro e w2 ⟨rfl, hx2, hg2⟩
  have HS := Lib.hid (LnsF.stepG HFT.out hF HL.out HFK.out hg2 hx2)
  have C4 := Lib.hid (C3.out (w2.alloc (.cells #[.string x.1, .int .i64 x.2.1, .int .u8 x.2.2] 97)))
  clear hx2 hg2
  obtain ⟨x1, x2, x3⟩ := x
  simp only [pv] at C4 ⊢
  go_wp2_with fail
  refine C4.out.mono ?_
  rintro e w3 ⟨A, cap, rfl, hs3, hb3, hfr⟩
  have HS3 := Lib.hid hs3
  have HB3 := Lib.hid hb3
  have HFR := Lib.hid hfr
  clear hs3 hb3 hfr
  simp only
  go_wp2_with fail
  go_ret2
  exact ⟨⟨A, cap, rfl, HS3.out, fun ad ha => by have h1 := HFR.out ad ha; have h2 := HS.out.size; simp at h1; omega⟩, HS.out.below (below_step ((Below.refl _ _).alloc (Nat.le_refl _) _) (by simp) HB3.out)⟩
end Box
end Go.Proofs.Ytdmpgoaemoiogaa
