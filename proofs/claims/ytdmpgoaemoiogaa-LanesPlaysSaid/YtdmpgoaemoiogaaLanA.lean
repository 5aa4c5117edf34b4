/- Lanes: the example. -/
import Derived.Test.YtdmpgoaemoiogaaLan8
import Derived.Lib.SlBytesConst
set_option linter.unusedVariables false
set_option linter.unusedSimpArgs false
set_option maxRecDepth 100000
namespace Go.Proofs.Ytdmpgoaemoiogaa
open Go.RowKit Go.Maps
namespace Box
def ab : Par := (strOfNums [97, 98], 0, 0)
theorem ab_size : (strOfNums [97, 98]).size = 2 := by rw [strOfNums_size]; rfl
theorem ab_ok : OkP ab := by
  refine ⟨?_, ⟨by decide, by decide⟩, by decide, by decide⟩
  show (strOfNums [97, 98]).size ≤ _
  rw [ab_size]; decide
theorem ab_opened : strOfNums (opened ab) = { data := #[97, 98] } := by
  have h : (strOfNums (opened ab)).data.toList = [97, 98] := by decide +kernel
  exact ByteArray.ext (Array.ext' h)
theorem opened_len (x : Par) : (opened x).length = x.1.size := by
  unfold opened
  split
  · rename_i h; simp [h]
  · simp [bytesOf_length]
/-- Lanes that are made of blocks from B on. -/
theorem Step.out {w w' : World} {F : Nat → Prop} {p n B : Nat} {s t : Int} {q : Int × Int → List Par} (h : Step w F p n s t q w') (hF : ∀ x, F x → B ≤ x) (hB : B ≤ w.heap.size) :
    Below B w w' ∧ ∃ F' m nk f, LnsF w' F' p m n nk s t q f ∧ ∀ x, F' x → B ≤ x := by
  obtain ⟨F', ⟨m, nk, f, hL⟩, hf, hF'⟩ := h
  exact ⟨hf.below hB hF, F', m, nk, f, hL, fun x hx => by rcases hF' x hx with h | h; exact hF x h; omega⟩
theorem way01 : Way 2 ((0 : Int), (1 : Int)) := by unfold Way; decide
/-- The cells of a literal that the lanes do not know. -/
theorem fresh_lit {N : Nat} {w : World} {F : Nat → Prop} {p m n nk : Nat} {s t : Int} {q : Int × Int → List Par} {f : Int × Int → Option (Nat × Nat)} (h : LnsF w F p m n nk s t q f) :
    ∀ ad, (some (⟨w.heap.size, 0, none⟩ : Addr)) = some ad → 0 < N → ¬ F ad.block := by
  intro ad ha _ hF
  obtain rfl := Option.some.inj ha
  have := h.fin _ hF
  simp at this
theorem sl_mark (w : World) (cs : Array Value) (e : TypeId) (n : Nat) (fr : Nat × Nat) (hn : cs.size = n) (hm : n ≤ maxLen) :
    IsSl (w.alloc (.cells cs e fr)) 1 (some ⟨w.heap.size, 0, none⟩) n n cs.toList := by
  refine ⟨by simp [hn], Nat.le_refl _, hm, fun h => (by cases h), fun ad ha j u hu => ?_⟩
  obtain rfl := Option.some.inj ha
  rw [Addr.add_lit, Nat.zero_add, cell_new]
  simpa using hu
set_option maxHeartbeats 2000000 in
theorem awake26_calls (w : World) :
    Calls Try.prog 33 #[] w fun e w' => e = .returned (.bool true) ∧ Below w.heap.size w w' := by
  have hcs := fun (w : World) (C : Array Value) (n c : Nat) => Lib.run_convert_bytes_const (P := Try.prog) w 64 5 C n c Try.underlying64 Try.underlying5
  have C1 := Lib.hid (new_calls w 2 (by decide))
  go_enter Try.func33, Try.ntmps33
  go_wp2_with fail
  refine C1.out.mono ?_
  rintro e w1 ⟨p, m, rfl, hL1, hb1, hp, hm⟩
  have hF1 : ∀ x, (x = p ∨ x = m) → w.heap.size ≤ x := fun x hx => by rcases hx with rfl | rfl <;> assumption
  have hL1' := hL1.below ((Below.refl _ w1).alloc (Nat.le_refl _) (.cells #[.int .u8 97, .int .u8 98] 5 (2, 3)))
  have HB1 := Lib.hid (hb1.alloc hb1.size (.cells #[.int .u8 97, .int .u8 98] 5 (2, 3)))
  have C2 := Lib.hid (send_calls hL1' 0 1 way01 (by decide) (by decide) (some ⟨w1.heap.size, 0, none⟩) 2 2 [97, 98] (sl_mark w1 #[.int .u8 97, .int .u8 98] 5 2 (2, 3) rfl (by decide)) (fresh_lit hL1))
  have HF1 := Lib.hid hF1
  clear hL1 hb1 hL1' hF1 hp hm
  go_wp2_with fail
  refine C2.out.mono ?_
  rintro e w2 ⟨rfl, hst⟩
  simp only [List.length_cons, List.length_nil, Nat.reduceAdd, Nat.reduceLT, if_true] at hst ⊢
  obtain ⟨hb2, F2, m2, nk2, f2, hL2, hF2⟩ := hst.out HF1.out HB1.out.size
  have HB2 := Lib.hid (HB1.out.trans hb2)
  have HF2 := Lib.hid hF2
  have C3 := Lib.hid (double_calls (q := upd (fun _ => []) (0, 1) [ab]) hL2 0 1 way01 0 ab rfl)
  clear hL2 hst hb2 hF2
  go_wp2_with fail
  refine C3.out.mono ?_
  rintro e w3 ⟨rfl, hst⟩
  simp only [upd_same, List.length_cons, List.length_nil, Nat.reduceAdd, Nat.reduceLT, if_true] at hst ⊢
  obtain ⟨hb3, F3, m3, nk3, f3, hL3, hF3⟩ := hst.out HF2.out HB2.out.size
  have HB3 := Lib.hid (HB2.out.trans hb3)
  have HF3 := Lib.hid hF3
  have C4 := Lib.hid (take_calls hL3 0 1 way01 1 ab rfl ab_ok)
  clear hL3 hst hb3 hF3
  go_wp2_with fail
  refine C4.out.mono ?_
  rintro e w4 ⟨⟨A, cap, rfl, hsl, _⟩, hst⟩
  obtain ⟨hb4, F4, m4, nk4, f4, hL4, hF4⟩ := hst.out HF3.out HB3.out.size
  have HB4 := Lib.hid (HB3.out.trans hb4)
  have HF4 := Lib.hid hF4
  have hcv := run_str_of (P := Try.prog) w4 64 9 5 Try.underlying64 Try.underlying5 Try.underlying9 A _ cap _ hsl
  rw [ab_opened] at hcv
  have C5 := Lib.hid (count_calls hL4 0 1 way01)
  clear hL4 hst hb4 hF4 hsl
  simp only
  go_wp2_with fail
  refine C5.out.mono ?_
  rintro e w5 ⟨rfl, hst⟩
  obtain ⟨hb5, _⟩ := hst.out HF4.out HB4.out.size
  have HB5 := Lib.hid (HB4.out.trans hb5)
  clear hst hb5
  simp only [upd_same, List.cons_append, List.nil_append, List.eraseIdx_cons_succ, List.eraseIdx_cons_zero, List.length_cons, List.length_nil, Nat.reduceAdd, Int.natCast_one]
  go_wp2_with fail
  go_ret
  exact ⟨rfl, HB5.out⟩
end Box
end Go.Proofs.Ytdmpgoaemoiogaa
