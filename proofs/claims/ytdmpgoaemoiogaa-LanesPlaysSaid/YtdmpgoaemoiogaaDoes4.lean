/- Lanes and their reference: each deed does the same to both. Written by does4.py. -/
import Derived.Test.YtdmpgoaemoiogaaDoes3
set_option linter.unusedVariables false
set_option linter.unusedSimpArgs false
set_option maxRecDepth 100000
namespace Go.Proofs.Ytdmpgoaemoiogaa
open Go.RowKit Go.Maps
namespace Ref
open Box
/-- What is small enough. -/
def Small (c : Nat) (a : St) (b : Rs) : Prop := (0 ≤ a.s ∧ a.s ≤ c) ∧ (0 ≤ a.t ∧ a.t ≤ c) ∧ b.L.length ≤ c
theorem nil_sl (W : World) : IsSl W 1 none 0 0 (([] : List Int).map (.int .u8)) := ⟨rfl, Nat.le_refl _, by decide, fun _ => ⟨rfl, rfl⟩, fun ad ha => by cases ha⟩
theorem opened_len (x : Par) : (opened x).length = x.1.size := by
  unfold opened
  split
  · rename_i h; rw [h]; rfl
  · rw [List.length_set, bytesOf_length]
/-- What a deed leaves. -/
def Deed (w0 : World) (p r n c : Nat) (e : Ending) (w' : World) : Prop := e = .returned (.bool true) ∧ ∃ a' b', Duo0 w' w0 p r n a' b' ∧ Agree n a' b' ∧ Small (c + 1) a' b'
theorem out_or (q : List Par) (kk : Int) : Out q kk ∨ ∃ (j : Nat) (x : Par), kk = j ∧ q[j]? = some x := by
  by_cases h : kk < 0 ∨ (q.length : Int) ≤ kk
  · exact .inl h
  · obtain ⟨j, rfl⟩ := Int.eq_ofNat_of_zero_le (show 0 ≤ kk by omega)
    exact .inr ⟨j, q[j]'(by omega), rfl, List.getElem?_eq_getElem _⟩
set_option maxHeartbeats 4000000 in
theorem deed_lose (w w0 : World) (p r n c : Nat) (hc : c ≤ 1000) (op fr tw kk at_ by_ : Int) (A : Option Addr) (bn bc mn : Nat) (hbn : bn ≤ bc) (hbc : bc ≤ 9223372036854775807) (hmn : min bn 100 = mn) (hop : (IntKind.u64.wrap op).tmod 7 = 3) (hat : I64 at_) (hby : 0 ≤ by_ ∧ by_ ≤ 255) (bs : List Int) (hsl : IsSl w0 1 A bn bc (bs.map (.int .u8)))
    (a : St) (b : Rs) (hd : Duo0 w w0 p r n a b) (hag : Agree n a b) (hsm : Small c a b) :
    Calls Try.prog 39 #[.pointer (some ⟨p, 0, none⟩), .pointer (some ⟨r, 0, none⟩), .agg #[.int .i64 op, .int .i64 fr, .int .i64 tw, .int .i64 kk, .int .i64 at_, .int .u8 by_, .slice A bn bc]] w (Deed w0 p r n c) := by
  obtain ⟨s, t, q⟩ := a
  obtain ⟨s', t', L⟩ := b
  have hag0 := hag
  obtain ⟨e1, e2, hq, hw, hok⟩ := hag
  simp only at e1 e2 hq hw
  subst e1 e2
  obtain ⟨⟨hs0, hs1⟩, ⟨ht0, ht1⟩, hL⟩ := hsm
  simp only at hs0 hs1 ht0 ht1 hL
  have hqe : q = fun k => rq L k := funext hq
  by_cases hk : Box.Way n (fr, tw)
  · rcases out_or (q (fr, tw)) kk with ho | ⟨j, x, rfl, hx⟩
    · refine (does_lose w p r op fr tw kk at_ by_ A bn bc mn hbn hbc hmn hop 10 (fun bx bz W => Duo W w0 p r n w.heap.size (doObj op fr tw kk at_ by_ A bn bc) (cond bx ⟨s, t, q⟩ ⟨s, t, q⟩) (cond bz ⟨s, t, L⟩ ⟨s, t, L⟩)) (hd.fresh _) (fun _ _ _ h => h.below ((Below.refl _ _).drew)) (fun _ _ _ h => h.at_) (fun W hX => ?_) (fun W hX => ?_)).mono fun e w' h => ⟨h.1, _, _, h.2.to0, hag0, ⟨⟨hs0, by show s ≤ _; omega⟩, ⟨ht0, by show t ≤ _; omega⟩, by show L.length ≤ _; omega⟩⟩
      · replace hX : Duo W w0 p r n w.heap.size (doObj op fr tw kk at_ by_ A bn bc) ⟨s, t, q⟩ ⟨s, t, L⟩ := hX
        obtain ⟨v, F, m, nk, f, h1, h2, h3, h4, h5, h6, h7, h8, h9⟩ := hX
        simp only at h1 h2
        exact (loseOut_calls h1 fr tw hk kk ho).mono fun e W' ⟨he, hs⟩ => ⟨he, Duo.lane h2 h3 h4 h5 h6 h7 h8 h9 hs⟩
      · have hX' := hX
        replace hX : Duo W w0 p r n w.heap.size (doObj op fr tw kk at_ by_ A bn bc) ⟨s, t, q⟩ ⟨s, t, L⟩ := hX
        obtain ⟨v, F, m, nk, f, h1, h2, h3, h4, h5, h6, h7, h8, h9⟩ := hX
        simp only at h1 h2
        exact (rloseOut_calls h2 fr tw hk kk (by rw [← hq]; exact ho)).mono fun e W' ⟨he, hb⟩ => ⟨he, hX'.below hb⟩
    · obtain ⟨idx, hf1, hLx, he1, he2, _⟩ := rfind_some L (fr, tw) j x (by rw [← hq]; exact hx)
      have hokx := hok _ _ (List.mem_of_getElem? hx)
      refine (does_lose w p r op fr tw (j : Int) at_ by_ A bn bc mn hbn hbc hmn hop 0 (fun bx bz W => Duo W w0 p r n w.heap.size (doObj op fr tw (j : Int) at_ by_ A bn bc) (cond bx ⟨s, t + 1, upd q (fr, tw) ((q (fr, tw)).eraseIdx j)⟩ ⟨s, t, q⟩) (cond bz ⟨s, t + 1, L.eraseIdx idx⟩ ⟨s, t, L⟩)) (hd.fresh _) (fun _ _ _ h => h.below ((Below.refl _ _).drew)) (fun _ _ _ h => h.at_) (fun W hX => ?_) (fun W hX => ?_)).mono fun e w' h => ⟨h.1, _, _, h.2.to0, Agree.erase hag0 he1 s (t + 1), ⟨⟨hs0, by show s ≤ _; omega⟩, ⟨by show 0 ≤ t + 1; omega, by show t + 1 ≤ _; omega⟩, by show (L.eraseIdx idx).length ≤ _; rw [List.length_eraseIdx]; split <;> omega⟩⟩
      · replace hX : Duo W w0 p r n w.heap.size (doObj op fr tw (j : Int) at_ by_ A bn bc) ⟨s, t, q⟩ ⟨s, t, L⟩ := hX
        obtain ⟨v, F, m, nk, f, h1, h2, h3, h4, h5, h6, h7, h8, h9⟩ := hX
        simp only at h1 h2
        exact (lose_calls h1 fr tw hk j x hx hokx ⟨by omega, by omega⟩).mono fun e W' ⟨he, hs⟩ => ⟨he, Duo.lane h2 h3 h4 h5 h6 h7 h8 h9 hs⟩
      · replace hX : Duo W w0 p r n w.heap.size (doObj op fr tw (j : Int) at_ by_ A bn bc) ⟨s, t + 1, upd q (fr, tw) ((q (fr, tw)).eraseIdx j)⟩ ⟨s, t, L⟩ := hX
        obtain ⟨v, F, m, nk, f, h1, h2, h3, h4, h5, h6, h7, h8, h9⟩ := hX
        simp only at h1 h2
        exact (rlose_calls h2 fr tw hk j x (by rw [← hq]; exact hx) hokx (by show L.length ≤ _; omega) h6.size ⟨by omega, by omega⟩ idx hf1 hLx).mono fun e W' ⟨he, hs⟩ => ⟨he, Duo.refe (b := ⟨s, t, L⟩) h1 h2 h3 h4 h5 h6 h7 h8 h9 hs⟩
  · refine (does_lose w p r op fr tw kk at_ by_ A bn bc mn hbn hbc hmn hop 15 (fun bx bz W => Duo W w0 p r n w.heap.size (doObj op fr tw kk at_ by_ A bn bc) (cond bx ⟨s, t, q⟩ ⟨s, t, q⟩) (cond bz ⟨s, t, L⟩ ⟨s, t, L⟩)) (hd.fresh _) (fun _ _ _ h => h.below ((Below.refl _ _).drew)) (fun _ _ _ h => h.at_) (fun W hX => ?_) (fun W hX => ?_)).mono fun e w' h => ⟨h.1, _, _, h.2.to0, hag0, ⟨⟨hs0, by show s ≤ _; omega⟩, ⟨ht0, by show t ≤ _; omega⟩, by show L.length ≤ _; omega⟩⟩
    · have hX' := hX
      replace hX : Duo W w0 p r n w.heap.size (doObj op fr tw kk at_ by_ A bn bc) ⟨s, t, q⟩ ⟨s, t, L⟩ := hX
      obtain ⟨v, F, m, nk, f, h1, h2, h3, h4, h5, h6, h7, h8, h9⟩ := hX
      simp only at h1 h2
      exact (loseNo_calls _ fr tw (boxNo_calls h1 fr tw hk) kk).mono fun e W' ⟨he, hw⟩ => ⟨he, by rw [hw]; exact hX'⟩
    · have hX' := hX
      replace hX : Duo W w0 p r n w.heap.size (doObj op fr tw kk at_ by_ A bn bc) ⟨s, t, q⟩ ⟨s, t, L⟩ := hX
      obtain ⟨v, F, m, nk, f, h1, h2, h3, h4, h5, h6, h7, h8, h9⟩ := hX
      simp only at h1 h2
      exact (rloseNo_calls h2 fr tw hk kk).mono fun e W' ⟨he, hw⟩ => ⟨he, by rw [hw]; exact hX'⟩
set_option maxHeartbeats 4000000 in
theorem deed_spoil (w w0 : World) (p r n c : Nat) (hc : c ≤ 1000) (op fr tw kk at_ by_ : Int) (A : Option Addr) (bn bc mn : Nat) (hbn : bn ≤ bc) (hbc : bc ≤ 9223372036854775807) (hmn : min bn 100 = mn) (hop : (IntKind.u64.wrap op).tmod 7 = 5) (hat : I64 at_) (hby : 0 ≤ by_ ∧ by_ ≤ 255) (bs : List Int) (hsl : IsSl w0 1 A bn bc (bs.map (.int .u8)))
    (a : St) (b : Rs) (hd : Duo0 w w0 p r n a b) (hag : Agree n a b) (hsm : Small c a b) :
    Calls Try.prog 39 #[.pointer (some ⟨p, 0, none⟩), .pointer (some ⟨r, 0, none⟩), .agg #[.int .i64 op, .int .i64 fr, .int .i64 tw, .int .i64 kk, .int .i64 at_, .int .u8 by_, .slice A bn bc]] w (Deed w0 p r n c) := by
  obtain ⟨s, t, q⟩ := a
  obtain ⟨s', t', L⟩ := b
  have hag0 := hag
  obtain ⟨e1, e2, hq, hw, hok⟩ := hag
  simp only at e1 e2 hq hw
  subst e1 e2
  obtain ⟨⟨hs0, hs1⟩, ⟨ht0, ht1⟩, hL⟩ := hsm
  simp only at hs0 hs1 ht0 ht1 hL
  have hqe : q = fun k => rq L k := funext hq
  by_cases hk : Box.Way n (fr, tw)
  · rcases out_or (q (fr, tw)) kk with ho | ⟨j, x, rfl, hx⟩
    · refine (does_spoil w p r op fr tw kk at_ by_ A bn bc mn hbn hbc hmn hop 10 (fun bx bz W => Duo W w0 p r n w.heap.size (doObj op fr tw kk at_ by_ A bn bc) (cond bx ⟨s, t, q⟩ ⟨s, t, q⟩) (cond bz ⟨s, t, L⟩ ⟨s, t, L⟩)) (hd.fresh _) (fun _ _ _ h => h.below ((Below.refl _ _).drew)) (fun _ _ _ h => h.at_) (fun W hX => ?_) (fun W hX => ?_)).mono fun e w' h => ⟨h.1, _, _, h.2.to0, hag0, ⟨⟨hs0, by show s ≤ _; omega⟩, ⟨ht0, by show t ≤ _; omega⟩, by show L.length ≤ _; omega⟩⟩
      · replace hX : Duo W w0 p r n w.heap.size (doObj op fr tw kk at_ by_ A bn bc) ⟨s, t, q⟩ ⟨s, t, L⟩ := hX
        obtain ⟨v, F, m, nk, f, h1, h2, h3, h4, h5, h6, h7, h8, h9⟩ := hX
        simp only at h1 h2
        exact (spoilOut_calls h1 fr tw hk kk ho at_ by_).mono fun e W' ⟨he, hs⟩ => ⟨he, Duo.lane h2 h3 h4 h5 h6 h7 h8 h9 hs⟩
      · have hX' := hX
        replace hX : Duo W w0 p r n w.heap.size (doObj op fr tw kk at_ by_ A bn bc) ⟨s, t, q⟩ ⟨s, t, L⟩ := hX
        obtain ⟨v, F, m, nk, f, h1, h2, h3, h4, h5, h6, h7, h8, h9⟩ := hX
        simp only at h1 h2
        exact (rspoilOut_calls h2 fr tw hk kk (by rw [← hq]; exact ho) at_ by_).mono fun e W' ⟨he, hb⟩ => ⟨he, hX'.below hb⟩
    · obtain ⟨idx, hf1, hLx, he1, he2, _⟩ := rfind_some L (fr, tw) j x (by rw [← hq]; exact hx)
      have hokx := hok _ _ (List.mem_of_getElem? hx)
      have hoks : OkP (spoiled x at_ by_) := by
        obtain ⟨a1, a2⟩ := hat
        exact ⟨hokx.1, ⟨by show 0 ≤ max at_ 0; omega, by show max at_ 0 ≤ _; omega⟩, hby.1, by show by_ < 256; omega⟩
      refine (does_spoil w p r op fr tw (j : Int) at_ by_ A bn bc mn hbn hbc hmn hop 0 (fun bx bz W => Duo W w0 p r n w.heap.size (doObj op fr tw (j : Int) at_ by_ A bn bc) (cond bx ⟨s, t, upd q (fr, tw) ((q (fr, tw)).set j (spoiled x at_ by_))⟩ ⟨s, t, q⟩) (cond bz ⟨s, t, L.set idx ((fr, tw), spoiled x at_ by_)⟩ ⟨s, t, L⟩)) (hd.fresh _) (fun _ _ _ h => h.below ((Below.refl _ _).drew)) (fun _ _ _ h => h.at_) (fun W hX => ?_) (fun W hX => ?_)).mono fun e w' h => ⟨h.1, _, _, h.2.to0, Agree.set hag0 hk hoks (he2 _) s t, ⟨⟨hs0, by show s ≤ _; omega⟩, ⟨ht0, by show t ≤ _; omega⟩, by show (L.set idx _).length ≤ _; rw [List.length_set]; omega⟩⟩
      · replace hX : Duo W w0 p r n w.heap.size (doObj op fr tw (j : Int) at_ by_ A bn bc) ⟨s, t, q⟩ ⟨s, t, L⟩ := hX
        obtain ⟨v, F, m, nk, f, h1, h2, h3, h4, h5, h6, h7, h8, h9⟩ := hX
        simp only at h1 h2
        exact (spoil_calls h1 fr tw hk j x hx at_ by_).mono fun e W' ⟨he, hs⟩ => ⟨he, Duo.lane h2 h3 h4 h5 h6 h7 h8 h9 hs⟩
      · replace hX : Duo W w0 p r n w.heap.size (doObj op fr tw (j : Int) at_ by_ A bn bc) ⟨s, t, upd q (fr, tw) ((q (fr, tw)).set j (spoiled x at_ by_))⟩ ⟨s, t, L⟩ := hX
        obtain ⟨v, F, m, nk, f, h1, h2, h3, h4, h5, h6, h7, h8, h9⟩ := hX
        simp only at h1 h2
        exact (rspoil_calls h2 fr tw hk j x (by rw [← hq]; exact hx) hokx at_ by_ idx hf1 hLx).mono fun e W' ⟨he, hs⟩ => ⟨he, Duo.refe (b := ⟨s, t, L⟩) h1 h2 h3 h4 h5 h6 h7 h8 h9 hs⟩
  · refine (does_spoil w p r op fr tw kk at_ by_ A bn bc mn hbn hbc hmn hop 15 (fun bx bz W => Duo W w0 p r n w.heap.size (doObj op fr tw kk at_ by_ A bn bc) (cond bx ⟨s, t, q⟩ ⟨s, t, q⟩) (cond bz ⟨s, t, L⟩ ⟨s, t, L⟩)) (hd.fresh _) (fun _ _ _ h => h.below ((Below.refl _ _).drew)) (fun _ _ _ h => h.at_) (fun W hX => ?_) (fun W hX => ?_)).mono fun e w' h => ⟨h.1, _, _, h.2.to0, hag0, ⟨⟨hs0, by show s ≤ _; omega⟩, ⟨ht0, by show t ≤ _; omega⟩, by show L.length ≤ _; omega⟩⟩
    · have hX' := hX
      replace hX : Duo W w0 p r n w.heap.size (doObj op fr tw kk at_ by_ A bn bc) ⟨s, t, q⟩ ⟨s, t, L⟩ := hX
      obtain ⟨v, F, m, nk, f, h1, h2, h3, h4, h5, h6, h7, h8, h9⟩ := hX
      simp only at h1 h2
      exact (spoilNo_calls _ fr tw (boxNo_calls h1 fr tw hk) kk at_ by_).mono fun e W' ⟨he, hw⟩ => ⟨he, by rw [hw]; exact hX'⟩
    · have hX' := hX
      replace hX : Duo W w0 p r n w.heap.size (doObj op fr tw kk at_ by_ A bn bc) ⟨s, t, q⟩ ⟨s, t, L⟩ := hX
      obtain ⟨v, F, m, nk, f, h1, h2, h3, h4, h5, h6, h7, h8, h9⟩ := hX
      simp only at h1 h2
      exact (rspoilNo_calls h2 fr tw hk kk at_ by_).mono fun e W' ⟨he, hw⟩ => ⟨he, by rw [hw]; exact hX'⟩
set_option maxHeartbeats 4000000 in
theorem deed_double (w w0 : World) (p r n c : Nat) (hc : c ≤ 1000) (op fr tw kk at_ by_ : Int) (A : Option Addr) (bn bc mn : Nat) (hbn : bn ≤ bc) (hbc : bc ≤ 9223372036854775807) (hmn : min bn 100 = mn) (hop : (IntKind.u64.wrap op).tmod 7 = 4) (hat : I64 at_) (hby : 0 ≤ by_ ∧ by_ ≤ 255) (bs : List Int) (hsl : IsSl w0 1 A bn bc (bs.map (.int .u8)))
    (a : St) (b : Rs) (hd : Duo0 w w0 p r n a b) (hag : Agree n a b) (hsm : Small c a b) :
    Calls Try.prog 39 #[.pointer (some ⟨p, 0, none⟩), .pointer (some ⟨r, 0, none⟩), .agg #[.int .i64 op, .int .i64 fr, .int .i64 tw, .int .i64 kk, .int .i64 at_, .int .u8 by_, .slice A bn bc]] w (Deed w0 p r n c) := by
  obtain ⟨s, t, q⟩ := a
  obtain ⟨s', t', L⟩ := b
  have hag0 := hag
  obtain ⟨e1, e2, hq, hw, hok⟩ := hag
  simp only at e1 e2 hq hw
  subst e1 e2
  obtain ⟨⟨hs0, hs1⟩, ⟨ht0, ht1⟩, hL⟩ := hsm
  simp only at hs0 hs1 ht0 ht1 hL
  have hqe : q = fun k => rq L k := funext hq
  by_cases hk : Box.Way n (fr, tw)
  · rcases out_or (q (fr, tw)) kk with ho | ⟨j, x, rfl, hx⟩
    · refine (does_double w p r op fr tw kk at_ by_ A bn bc mn hbn hbc hmn hop 10 (fun bx bz W => Duo W w0 p r n w.heap.size (doObj op fr tw kk at_ by_ A bn bc) (cond bx ⟨s, t, q⟩ ⟨s, t, q⟩) (cond bz ⟨s, t, L⟩ ⟨s, t, L⟩)) (hd.fresh _) (fun _ _ _ h => h.below ((Below.refl _ _).drew)) (fun _ _ _ h => h.at_) (fun W hX => ?_) (fun W hX => ?_)).mono fun e w' h => ⟨h.1, _, _, h.2.to0, hag0, ⟨⟨hs0, by show s ≤ _; omega⟩, ⟨ht0, by show t ≤ _; omega⟩, by show L.length ≤ _; omega⟩⟩
      · replace hX : Duo W w0 p r n w.heap.size (doObj op fr tw kk at_ by_ A bn bc) ⟨s, t, q⟩ ⟨s, t, L⟩ := hX
        obtain ⟨v, F, m, nk, f, h1, h2, h3, h4, h5, h6, h7, h8, h9⟩ := hX
        simp only at h1 h2
        exact (doubleOut_calls h1 fr tw hk kk ho).mono fun e W' ⟨he, hs⟩ => ⟨he, Duo.lane h2 h3 h4 h5 h6 h7 h8 h9 hs⟩
      · have hX' := hX
        replace hX : Duo W w0 p r n w.heap.size (doObj op fr tw kk at_ by_ A bn bc) ⟨s, t, q⟩ ⟨s, t, L⟩ := hX
        obtain ⟨v, F, m, nk, f, h1, h2, h3, h4, h5, h6, h7, h8, h9⟩ := hX
        simp only at h1 h2
        exact (rdoubleOut_calls h2 fr tw hk kk (by rw [← hq]; exact ho)).mono fun e W' ⟨he, hb⟩ => ⟨he, hX'.below hb⟩
    · obtain ⟨idx, hf1, hLx, he1, he2, _⟩ := rfind_some L (fr, tw) j x (by rw [← hq]; exact hx)
      have hokx := hok _ _ (List.mem_of_getElem? hx)
      by_cases hr : (q (fr, tw)).length < 40
      · refine (does_double w p r op fr tw (j : Int) at_ by_ A bn bc mn hbn hbc hmn hop 0 (fun bx bz W => Duo W w0 p r n w.heap.size (doObj op fr tw (j : Int) at_ by_ A bn bc) (cond bx ⟨s, t, upd q (fr, tw) (q (fr, tw) ++ [x])⟩ ⟨s, t, q⟩) (cond bz ⟨s, t, L ++ [((fr, tw), x)]⟩ ⟨s, t, L⟩)) (hd.fresh _) (fun _ _ _ h => h.below ((Below.refl _ _).drew)) (fun _ _ _ h => h.at_) (fun W hX => ?_) (fun W hX => ?_)).mono fun e w' h => ⟨h.1, _, _, h.2.to0, Agree.app hag0 hk hokx s t, ⟨⟨hs0, by show s ≤ _; omega⟩, ⟨ht0, by show t ≤ _; omega⟩, by show (L ++ [_]).length ≤ _; rw [List.length_append]; show L.length + 1 ≤ _; omega⟩⟩
        · replace hX : Duo W w0 p r n w.heap.size (doObj op fr tw (j : Int) at_ by_ A bn bc) ⟨s, t, q⟩ ⟨s, t, L⟩ := hX
          obtain ⟨v, F, m, nk, f, h1, h2, h3, h4, h5, h6, h7, h8, h9⟩ := hX
          simp only at h1 h2
          have c := double_calls h1 fr tw hk j x hx
          rw [if_pos hr, if_pos hr] at c
          exact c.mono fun e W' ⟨he, hs⟩ => ⟨he, Duo.lane h2 h3 h4 h5 h6 h7 h8 h9 hs⟩
        · replace hX : Duo W w0 p r n w.heap.size (doObj op fr tw (j : Int) at_ by_ A bn bc) ⟨s, t, upd q (fr, tw) (q (fr, tw) ++ [x])⟩ ⟨s, t, L⟩ := hX
          obtain ⟨v, F, m, nk, f, h1, h2, h3, h4, h5, h6, h7, h8, h9⟩ := hX
          simp only at h1 h2
          have c := rdouble_calls h2 fr tw hk j x (by rw [← hq]; exact hx) hokx (by show L.length ≤ _; omega) h6.size idx hf1 hLx
          have hr' : (rq L (fr, tw)).length < 40 := by rw [← hq]; exact hr
          rw [if_pos hr', if_pos hr'] at c
          exact c.mono fun e W' ⟨he, hs⟩ => ⟨he, Duo.refe (b := ⟨s, t, L⟩) h1 h2 h3 h4 h5 h6 h7 h8 h9 hs⟩
      · refine (does_double w p r op fr tw (j : Int) at_ by_ A bn bc mn hbn hbc hmn hop 8 (fun bx bz W => Duo W w0 p r n w.heap.size (doObj op fr tw (j : Int) at_ by_ A bn bc) (cond bx ⟨s, t, q⟩ ⟨s, t, q⟩) (cond bz ⟨s, t, L⟩ ⟨s, t, L⟩)) (hd.fresh _) (fun _ _ _ h => h.below ((Below.refl _ _).drew)) (fun _ _ _ h => h.at_) (fun W hX => ?_) (fun W hX => ?_)).mono fun e w' h => ⟨h.1, _, _, h.2.to0, hag0, ⟨⟨hs0, by show s ≤ _; omega⟩, ⟨ht0, by show t ≤ _; omega⟩, by show L.length ≤ _; omega⟩⟩
        · replace hX : Duo W w0 p r n w.heap.size (doObj op fr tw (j : Int) at_ by_ A bn bc) ⟨s, t, q⟩ ⟨s, t, L⟩ := hX
          obtain ⟨v, F, m, nk, f, h1, h2, h3, h4, h5, h6, h7, h8, h9⟩ := hX
          simp only at h1 h2
          have c := double_calls h1 fr tw hk j x hx
          rw [if_neg hr, if_neg hr] at c
          exact c.mono fun e W' ⟨he, hs⟩ => ⟨he, Duo.lane h2 h3 h4 h5 h6 h7 h8 h9 hs⟩
        · replace hX : Duo W w0 p r n w.heap.size (doObj op fr tw (j : Int) at_ by_ A bn bc) ⟨s, t, q⟩ ⟨s, t, L⟩ := hX
          obtain ⟨v, F, m, nk, f, h1, h2, h3, h4, h5, h6, h7, h8, h9⟩ := hX
          simp only at h1 h2
          have c := rdouble_calls h2 fr tw hk j x (by rw [← hq]; exact hx) hokx (by show L.length ≤ _; omega) h6.size idx hf1 hLx
          have hr' : ¬ (rq L (fr, tw)).length < 40 := by rw [← hq]; exact hr
          rw [if_neg hr', if_neg hr'] at c
          exact c.mono fun e W' ⟨he, hs⟩ => ⟨he, Duo.refe (b := ⟨s, t, L⟩) h1 h2 h3 h4 h5 h6 h7 h8 h9 hs⟩
  · refine (does_double w p r op fr tw kk at_ by_ A bn bc mn hbn hbc hmn hop 15 (fun bx bz W => Duo W w0 p r n w.heap.size (doObj op fr tw kk at_ by_ A bn bc) (cond bx ⟨s, t, q⟩ ⟨s, t, q⟩) (cond bz ⟨s, t, L⟩ ⟨s, t, L⟩)) (hd.fresh _) (fun _ _ _ h => h.below ((Below.refl _ _).drew)) (fun _ _ _ h => h.at_) (fun W hX => ?_) (fun W hX => ?_)).mono fun e w' h => ⟨h.1, _, _, h.2.to0, hag0, ⟨⟨hs0, by show s ≤ _; omega⟩, ⟨ht0, by show t ≤ _; omega⟩, by show L.length ≤ _; omega⟩⟩
    · have hX' := hX
      replace hX : Duo W w0 p r n w.heap.size (doObj op fr tw kk at_ by_ A bn bc) ⟨s, t, q⟩ ⟨s, t, L⟩ := hX
      obtain ⟨v, F, m, nk, f, h1, h2, h3, h4, h5, h6, h7, h8, h9⟩ := hX
      simp only at h1 h2
      exact (doubleNo_calls _ fr tw (boxNo_calls h1 fr tw hk) kk).mono fun e W' ⟨he, hw⟩ => ⟨he, by rw [hw]; exact hX'⟩
    · have hX' := hX
      replace hX : Duo W w0 p r n w.heap.size (doObj op fr tw kk at_ by_ A bn bc) ⟨s, t, q⟩ ⟨s, t, L⟩ := hX
      obtain ⟨v, F, m, nk, f, h1, h2, h3, h4, h5, h6, h7, h8, h9⟩ := hX
      simp only at h1 h2
      exact (rdoubleNo_calls h2 fr tw hk kk).mono fun e W' ⟨he, hw⟩ => ⟨he, by rw [hw]; exact hX'⟩
set_option maxHeartbeats 4000000 in
theorem deed_send (w w0 : World) (p r n c : Nat) (hc : c ≤ 1000) (op fr tw kk at_ by_ : Int) (A : Option Addr) (bn bc mn : Nat) (hbn : bn ≤ bc) (hbc : bc ≤ 9223372036854775807) (hmn : min bn 100 = mn) (hop : (IntKind.u64.wrap op).tmod 7 = 0 ∨ (IntKind.u64.wrap op).tmod 7 = 1) (hat : I64 at_) (hby : 0 ≤ by_ ∧ by_ ≤ 255) (bs : List Int) (hsl : IsSl w0 1 A bn bc (bs.map (.int .u8)))
    (a : St) (b : Rs) (hd : Duo0 w w0 p r n a b) (hag : Agree n a b) (hsm : Small c a b) :
    Calls Try.prog 39 #[.pointer (some ⟨p, 0, none⟩), .pointer (some ⟨r, 0, none⟩), .agg #[.int .i64 op, .int .i64 fr, .int .i64 tw, .int .i64 kk, .int .i64 at_, .int .u8 by_, .slice A bn bc]] w (Deed w0 p r n c) := by
  obtain ⟨s, t, q⟩ := a
  obtain ⟨s', t', L⟩ := b
  have hag0 := hag
  obtain ⟨e1, e2, hq, hw, hok⟩ := hag
  simp only at e1 e2 hq hw
  subst e1 e2
  obtain ⟨⟨hs0, hs1⟩, ⟨ht0, ht1⟩, hL⟩ := hsm
  simp only at hs0 hs1 ht0 ht1 hL
  have hqe : q = fun k => rq L k := funext hq
  have hmb : mn ≤ bn ∧ mn ≤ 100 := by omega
  have hbl : (bs.take mn).length ≤ 100 := by rw [List.length_take]; omega
  have hokx : OkP (strOfNums (bs.take mn), 0, 0) := ⟨by show (strOfNums (bs.take mn)).size ≤ _; rw [strOfNums_size]; omega, ⟨Int.le_refl _, (by decide : (0 : Int) ≤ 9223372036854775807)⟩, Int.le_refl _, (by decide : (0 : Int) < 256)⟩
  have hslW : ∀ W, Below w0.heap.size w0 W → IsSl W 1 A mn bc ((bs.take mn).map (.int .u8)) := fun W hW => by rw [List.map_take]; exact IsSl.pre (hsl.below hW) hmb.1
  have hAlt : ∀ ad, A = some ad → 0 < mn → ad.block < w0.heap.size := fun ad ha h0 => IsSl.lt hsl (by omega) ha
  by_cases hk : Box.Way n (fr, tw)
  · by_cases hr : (q (fr, tw)).length < 40
    · refine (does_send w p r op fr tw kk at_ by_ A bn bc mn hbn hbc hmn hop 0 (fun bx bz W => Duo W w0 p r n w.heap.size (doObj op fr tw kk at_ by_ A bn bc) (cond bx ⟨s + 1, t, upd q (fr, tw) (q (fr, tw) ++ [(strOfNums (bs.take mn), 0, 0)])⟩ ⟨s, t, q⟩) (cond bz ⟨s + 1, t, L ++ [((fr, tw), (strOfNums (bs.take mn), 0, 0))]⟩ ⟨s, t, L⟩)) (hd.fresh _) (fun _ _ _ h => h.below ((Below.refl _ _).drew)) (fun _ _ _ h => h.at_) (fun W hX => ?_) (fun W hX => ?_)).mono fun e w' h => ⟨h.1, _, _, h.2.to0, Agree.app hag0 hk hokx (s + 1) t, ⟨⟨by show 0 ≤ s + 1; omega, by show s + 1 ≤ _; omega⟩, ⟨ht0, by show t ≤ _; omega⟩, by show (L ++ [_]).length ≤ _; rw [List.length_append]; show L.length + 1 ≤ _; omega⟩⟩
      · replace hX : Duo W w0 p r n w.heap.size (doObj op fr tw kk at_ by_ A bn bc) ⟨s, t, q⟩ ⟨s, t, L⟩ := hX
        obtain ⟨v, F, m, nk, f, h1, h2, h3, h4, h5, h6, h7, h8, h9⟩ := hX
        simp only at h1 h2
        have c := send_calls h1 fr tw hk ⟨by omega, by omega⟩ ⟨by omega, by omega⟩ A mn bc (bs.take mn) (hslW W h6) (fun ad ha h0 hF => by have := hAlt ad ha h0; have := h4 _ hF; omega)
        rw [if_pos hr, if_pos hr, if_pos hr] at c
        exact c.mono fun e W' ⟨he, hs⟩ => ⟨he, Duo.lane h2 h3 h4 h5 h6 h7 h8 h9 hs⟩
      · replace hX : Duo W w0 p r n w.heap.size (doObj op fr tw kk at_ by_ A bn bc) ⟨s + 1, t, upd q (fr, tw) (q (fr, tw) ++ [(strOfNums (bs.take mn), 0, 0)])⟩ ⟨s, t, L⟩ := hX
        obtain ⟨v, F, m, nk, f, h1, h2, h3, h4, h5, h6, h7, h8, h9⟩ := hX
        simp only at h1 h2
        have c := rsend_calls h2 fr tw hk ⟨by omega, by omega⟩ ⟨by omega, by omega⟩ A mn bc (bs.take mn) (hslW W h6) (fun ad ha h0 hR => by have := hAlt ad ha h0; have := rfb_ge h2 h5 hR; omega) (by show L.length ≤ _; omega) h6.size
        have hr' : (rq L (fr, tw)).length < 40 := by rw [← hq]; exact hr
        rw [if_pos hr', if_pos hr', if_pos hr'] at c
        exact c.mono fun e W' ⟨he, hs⟩ => ⟨he, Duo.refe (b := ⟨s, t, L⟩) h1 h2 h3 h4 h5 h6 h7 h8 h9 hs⟩
    · refine (does_send w p r op fr tw kk at_ by_ A bn bc mn hbn hbc hmn hop 8 (fun bx bz W => Duo W w0 p r n w.heap.size (doObj op fr tw kk at_ by_ A bn bc) (cond bx ⟨s + 1, t + 1, q⟩ ⟨s, t, q⟩) (cond bz ⟨s + 1, t + 1, L⟩ ⟨s, t, L⟩)) (hd.fresh _) (fun _ _ _ h => h.below ((Below.refl _ _).drew)) (fun _ _ _ h => h.at_) (fun W hX => ?_) (fun W hX => ?_)).mono fun e w' h => ⟨h.1, _, _, h.2.to0, Agree.sums hag0 (s + 1) (t + 1), ⟨⟨by show 0 ≤ s + 1; omega, by show s + 1 ≤ _; omega⟩, ⟨by show 0 ≤ t + 1; omega, by show t + 1 ≤ _; omega⟩, by show L.length ≤ _; omega⟩⟩
      · replace hX : Duo W w0 p r n w.heap.size (doObj op fr tw kk at_ by_ A bn bc) ⟨s, t, q⟩ ⟨s, t, L⟩ := hX
        obtain ⟨v, F, m, nk, f, h1, h2, h3, h4, h5, h6, h7, h8, h9⟩ := hX
        simp only at h1 h2
        have c := send_calls h1 fr tw hk ⟨by omega, by omega⟩ ⟨by omega, by omega⟩ A mn bc (bs.take mn) (hslW W h6) (fun ad ha h0 hF => by have := hAlt ad ha h0; have := h4 _ hF; omega)
        rw [if_neg hr, if_neg hr, if_neg hr] at c
        exact c.mono fun e W' ⟨he, hs⟩ => ⟨he, Duo.lane h2 h3 h4 h5 h6 h7 h8 h9 hs⟩
      · replace hX : Duo W w0 p r n w.heap.size (doObj op fr tw kk at_ by_ A bn bc) ⟨s + 1, t + 1, q⟩ ⟨s, t, L⟩ := hX
        obtain ⟨v, F, m, nk, f, h1, h2, h3, h4, h5, h6, h7, h8, h9⟩ := hX
        simp only at h1 h2
        have c := rsend_calls h2 fr tw hk ⟨by omega, by omega⟩ ⟨by omega, by omega⟩ A mn bc (bs.take mn) (hslW W h6) (fun ad ha h0 hR => by have := hAlt ad ha h0; have := rfb_ge h2 h5 hR; omega) (by show L.length ≤ _; omega) h6.size
        have hr' : ¬ (rq L (fr, tw)).length < 40 := by rw [← hq]; exact hr
        rw [if_neg hr', if_neg hr', if_neg hr'] at c
        exact c.mono fun e W' ⟨he, hs⟩ => ⟨he, Duo.refe (b := ⟨s, t, L⟩) h1 h2 h3 h4 h5 h6 h7 h8 h9 hs⟩
  · refine (does_send w p r op fr tw kk at_ by_ A bn bc mn hbn hbc hmn hop 15 (fun bx bz W => Duo W w0 p r n w.heap.size (doObj op fr tw kk at_ by_ A bn bc) (cond bx ⟨s, t, q⟩ ⟨s, t, q⟩) (cond bz ⟨s, t, L⟩ ⟨s, t, L⟩)) (hd.fresh _) (fun _ _ _ h => h.below ((Below.refl _ _).drew)) (fun _ _ _ h => h.at_) (fun W hX => ?_) (fun W hX => ?_)).mono fun e w' h => ⟨h.1, _, _, h.2.to0, hag0, ⟨⟨hs0, by show s ≤ _; omega⟩, ⟨ht0, by show t ≤ _; omega⟩, by show L.length ≤ _; omega⟩⟩
    · have hX' := hX
      replace hX : Duo W w0 p r n w.heap.size (doObj op fr tw kk at_ by_ A bn bc) ⟨s, t, q⟩ ⟨s, t, L⟩ := hX
      obtain ⟨v, F, m, nk, f, h1, h2, h3, h4, h5, h6, h7, h8, h9⟩ := hX
      simp only at h1 h2
      exact (sendNo_calls _ fr tw (boxNo_calls h1 fr tw hk) A mn bc).mono fun e W' ⟨he, hw⟩ => ⟨he, by rw [hw]; exact hX'⟩
    · have hX' := hX
      replace hX : Duo W w0 p r n w.heap.size (doObj op fr tw kk at_ by_ A bn bc) ⟨s, t, q⟩ ⟨s, t, L⟩ := hX
      obtain ⟨v, F, m, nk, f, h1, h2, h3, h4, h5, h6, h7, h8, h9⟩ := hX
      simp only at h1 h2
      exact (rsendNo_calls h2 fr tw hk A mn bc).mono fun e W' ⟨he, hw⟩ => ⟨he, by rw [hw]; exact hX'⟩
set_option maxHeartbeats 4000000 in
theorem deed_take (w w0 : World) (p r n c : Nat) (hc : c ≤ 1000) (op fr tw kk at_ by_ : Int) (A : Option Addr) (bn bc mn : Nat) (hbn : bn ≤ bc) (hbc : bc ≤ 9223372036854775807) (hmn : min bn 100 = mn) (hop : (IntKind.u64.wrap op).tmod 7 = 2) (hat : I64 at_) (hby : 0 ≤ by_ ∧ by_ ≤ 255) (bs : List Int) (hsl : IsSl w0 1 A bn bc (bs.map (.int .u8)))
    (a : St) (b : Rs) (hd : Duo0 w w0 p r n a b) (hag : Agree n a b) (hsm : Small c a b) :
    Calls Try.prog 39 #[.pointer (some ⟨p, 0, none⟩), .pointer (some ⟨r, 0, none⟩), .agg #[.int .i64 op, .int .i64 fr, .int .i64 tw, .int .i64 kk, .int .i64 at_, .int .u8 by_, .slice A bn bc]] w (Deed w0 p r n c) := by
  obtain ⟨s, t, q⟩ := a
  obtain ⟨s', t', L⟩ := b
  have hag0 := hag
  obtain ⟨e1, e2, hq, hw, hok⟩ := hag
  simp only at e1 e2 hq hw
  subst e1 e2
  obtain ⟨⟨hs0, hs1⟩, ⟨ht0, ht1⟩, hL⟩ := hsm
  simp only at hs0 hs1 ht0 ht1 hL
  have hqe : q = fun k => rq L k := funext hq
  by_cases hk : Box.Way n (fr, tw)
  · rcases out_or (q (fr, tw)) kk with ho | ⟨j, x, rfl, hx⟩
    · refine (does_take w p r op fr tw kk at_ by_ A bn bc mn hbn hbc hmn hop 10 0 [] (fun bx bz W => Duo W w0 p r n w.heap.size (doObj op fr tw kk at_ by_ A bn bc) (cond bx ⟨s, t, q⟩ ⟨s, t, q⟩) (cond bz ⟨s, t, L⟩ ⟨s, t, L⟩)) (fun _ _ => True) (hd.fresh _) (fun _ _ _ h => h.at_) (fun W hX => ?_) (fun W A1 c1 hX hs1 hz1 => ?_)).mono fun e w' h => ⟨h.1, _, _, h.2.to0, hag0, ⟨⟨hs0, by show s ≤ _; omega⟩, ⟨ht0, by show t ≤ _; omega⟩, by show L.length ≤ _; omega⟩⟩
      · replace hX : Duo W w0 p r n w.heap.size (doObj op fr tw kk at_ by_ A bn bc) ⟨s, t, q⟩ ⟨s, t, L⟩ := hX
        obtain ⟨v, F, m, nk, f, h1, h2, h3, h4, h5, h6, h7, h8, h9⟩ := hX
        simp only at h1 h2
        exact (takeOut_calls h1 fr tw hk kk ho).mono fun e W' ⟨he, hs⟩ => ⟨none, 0, he, nil_sl _, trivial, Duo.lane h2 h3 h4 h5 h6 h7 h8 h9 hs⟩
      · have hX' := hX
        replace hX : Duo W w0 p r n w.heap.size (doObj op fr tw kk at_ by_ A bn bc) ⟨s, t, q⟩ ⟨s, t, L⟩ := hX
        obtain ⟨v, F, m, nk, f, h1, h2, h3, h4, h5, h6, h7, h8, h9⟩ := hX
        simp only at h1 h2
        exact (rtakeOut_calls h2 fr tw hk kk (by rw [← hq]; exact ho)).mono fun e W' ⟨he, hb⟩ => ⟨none, 0, he, nil_sl _, hs1.below hb, hX'.below hb⟩
    · obtain ⟨idx, hf1, hLx, he1, he2, _⟩ := rfind_some L (fr, tw) j x (by rw [← hq]; exact hx)
      have hokx := hok _ _ (List.mem_of_getElem? hx)
      refine (does_take w p r op fr tw (j : Int) at_ by_ A bn bc mn hbn hbc hmn hop 0 x.1.size (opened x) (fun bx bz W => Duo W w0 p r n w.heap.size (doObj op fr tw (j : Int) at_ by_ A bn bc) (cond bx ⟨s, t, upd q (fr, tw) ((q (fr, tw)).eraseIdx j)⟩ ⟨s, t, q⟩) (cond bz ⟨s, t, L.eraseIdx idx⟩ ⟨s, t, L⟩)) (fun A1 W => ∃ v, DuoV W w0 p r n w.heap.size (doObj op fr tw (j : Int) at_ by_ A bn bc) ⟨s, t, upd q (fr, tw) ((q (fr, tw)).eraseIdx j)⟩ ⟨s, t, L⟩ v ∧ ∀ ad, A1 = some ad → ¬ RfB r v ad.block) (hd.fresh _) (fun _ _ _ h => h.at_) (fun W hX => ?_) (fun W A1 c1 hX hs1 hz1 => ?_)).mono fun e w' h => ⟨h.1, _, _, h.2.to0, Agree.erase hag0 he1 s t, ⟨⟨hs0, by show s ≤ _; omega⟩, ⟨ht0, by show t ≤ _; omega⟩, by show (L.eraseIdx idx).length ≤ _; rw [List.length_eraseIdx]; split <;> omega⟩⟩
      · replace hX : Duo W w0 p r n w.heap.size (doObj op fr tw (j : Int) at_ by_ A bn bc) ⟨s, t, q⟩ ⟨s, t, L⟩ := hX
        obtain ⟨v, F, m, nk, f, h1, h2, h3, h4, h5, h6, h7, h8, h9⟩ := hX
        simp only at h1 h2
        exact (take_calls h1 fr tw hk j x hx hokx).mono fun e W' ⟨⟨A1, c1, he, hs1, hfr⟩, hs⟩ => ⟨A1, c1, he, hs1, ⟨v, Duo.laneV h2 h3 h4 h5 h6 h7 h8 h9 hs, fun ad ha hR => by have := hfr ad ha; have := rfb_lt h2 hR; omega⟩, Duo.lane h2 h3 h4 h5 h6 h7 h8 h9 hs⟩
      · obtain ⟨v, ⟨F, m, nk, f, h1, h2, h3, h4, h5, h6, h7, h8, h9⟩, hZ⟩ := hz1
        exact (rtake_calls h2 fr tw hk j x (by rw [← hq]; exact hx) hokx (by show L.length ≤ _; omega) h6.size idx hf1 hLx).mono fun e W' ⟨⟨A2, c2, he, hs2, _⟩, hs⟩ => ⟨A2, c2, he, hs2, IsSl.foot hs1 (fun ad ha _ => hZ ad ha) (by obtain ⟨_, _, hf, _⟩ := hs; exact hf), Duo.refe (b := ⟨s, t, L⟩) h1 h2 h3 h4 h5 h6 h7 h8 h9 hs⟩
  · refine (does_take w p r op fr tw kk at_ by_ A bn bc mn hbn hbc hmn hop 15 0 [] (fun bx bz W => Duo W w0 p r n w.heap.size (doObj op fr tw kk at_ by_ A bn bc) (cond bx ⟨s, t, q⟩ ⟨s, t, q⟩) (cond bz ⟨s, t, L⟩ ⟨s, t, L⟩)) (fun _ _ => True) (hd.fresh _) (fun _ _ _ h => h.at_) (fun W hX => ?_) (fun W A1 c1 hX hs1 hz1 => ?_)).mono fun e w' h => ⟨h.1, _, _, h.2.to0, hag0, ⟨⟨hs0, by show s ≤ _; omega⟩, ⟨ht0, by show t ≤ _; omega⟩, by show L.length ≤ _; omega⟩⟩
    · have hX' := hX
      replace hX : Duo W w0 p r n w.heap.size (doObj op fr tw kk at_ by_ A bn bc) ⟨s, t, q⟩ ⟨s, t, L⟩ := hX
      obtain ⟨v, F, m, nk, f, h1, h2, h3, h4, h5, h6, h7, h8, h9⟩ := hX
      simp only at h1 h2
      exact (takeNo_calls _ fr tw (boxNo_calls h1 fr tw hk) kk).mono fun e W' ⟨he, hw⟩ => ⟨none, 0, he, nil_sl _, trivial, by rw [hw]; exact hX'⟩
    · have hX' := hX
      replace hX : Duo W w0 p r n w.heap.size (doObj op fr tw kk at_ by_ A bn bc) ⟨s, t, q⟩ ⟨s, t, L⟩ := hX
      obtain ⟨v, F, m, nk, f, h1, h2, h3, h4, h5, h6, h7, h8, h9⟩ := hX
      simp only at h1 h2
      exact (rtakeNo_calls h2 fr tw hk kk).mono fun e W' ⟨he, hw⟩ => ⟨none, 0, he, nil_sl _, by rw [hw]; exact hs1, by rw [hw]; exact hX'⟩
set_option maxHeartbeats 4000000 in
theorem deed_peek (w w0 : World) (p r n c : Nat) (hc : c ≤ 1000) (op fr tw kk at_ by_ : Int) (A : Option Addr) (bn bc mn : Nat) (hbn : bn ≤ bc) (hbc : bc ≤ 9223372036854775807) (hmn : min bn 100 = mn) (hop : (IntKind.u64.wrap op).tmod 7 = 6) (hat : I64 at_) (hby : 0 ≤ by_ ∧ by_ ≤ 255) (bs : List Int) (hsl : IsSl w0 1 A bn bc (bs.map (.int .u8)))
    (a : St) (b : Rs) (hd : Duo0 w w0 p r n a b) (hag : Agree n a b) (hsm : Small c a b) :
    Calls Try.prog 39 #[.pointer (some ⟨p, 0, none⟩), .pointer (some ⟨r, 0, none⟩), .agg #[.int .i64 op, .int .i64 fr, .int .i64 tw, .int .i64 kk, .int .i64 at_, .int .u8 by_, .slice A bn bc]] w (Deed w0 p r n c) := by
  obtain ⟨s, t, q⟩ := a
  obtain ⟨s', t', L⟩ := b
  have hag0 := hag
  obtain ⟨e1, e2, hq, hw, hok⟩ := hag
  simp only at e1 e2 hq hw
  subst e1 e2
  obtain ⟨⟨hs0, hs1⟩, ⟨ht0, ht1⟩, hL⟩ := hsm
  simp only at hs0 hs1 ht0 ht1 hL
  have hqe : q = fun k => rq L k := funext hq
  by_cases hk : Box.Way n (fr, tw)
  · rcases out_or (q (fr, tw)) kk with ho | ⟨j, x, rfl, hx⟩
    · refine (does_peek w p r op fr tw kk at_ by_ A bn bc mn hbn hbc hmn hop 10 0 [] (fun bx bz W => Duo W w0 p r n w.heap.size (doObj op fr tw kk at_ by_ A bn bc) (cond bx ⟨s, t, q⟩ ⟨s, t, q⟩) (cond bz ⟨s, t, L⟩ ⟨s, t, L⟩)) (fun _ _ => True) (hd.fresh _) (fun _ _ _ h => h.at_) (fun W hX => ?_) (fun W A1 c1 hX hs1 hz1 => ?_)).mono fun e w' h => ⟨h.1, _, _, h.2.to0, hag0, ⟨⟨hs0, by show s ≤ _; omega⟩, ⟨ht0, by show t ≤ _; omega⟩, by show L.length ≤ _; omega⟩⟩
      · replace hX : Duo W w0 p r n w.heap.size (doObj op fr tw kk at_ by_ A bn bc) ⟨s, t, q⟩ ⟨s, t, L⟩ := hX
        obtain ⟨v, F, m, nk, f, h1, h2, h3, h4, h5, h6, h7, h8, h9⟩ := hX
        simp only at h1 h2
        exact (peekOut_calls h1 fr tw hk kk ho).mono fun e W' ⟨he, hs⟩ => ⟨none, 0, he, nil_sl _, trivial, Duo.lane h2 h3 h4 h5 h6 h7 h8 h9 hs⟩
      · have hX' := hX
        replace hX : Duo W w0 p r n w.heap.size (doObj op fr tw kk at_ by_ A bn bc) ⟨s, t, q⟩ ⟨s, t, L⟩ := hX
        obtain ⟨v, F, m, nk, f, h1, h2, h3, h4, h5, h6, h7, h8, h9⟩ := hX
        simp only at h1 h2
        exact (rpeekOut_calls h2 fr tw hk kk (by rw [← hq]; exact ho)).mono fun e W' ⟨he, hb⟩ => ⟨none, 0, he, nil_sl _, hs1.below hb, hX'.below hb⟩
    · obtain ⟨idx, hf1, hLx, he1, he2, _⟩ := rfind_some L (fr, tw) j x (by rw [← hq]; exact hx)
      have hokx := hok _ _ (List.mem_of_getElem? hx)
      refine (does_peek w p r op fr tw (j : Int) at_ by_ A bn bc mn hbn hbc hmn hop 0 x.1.size (opened x) (fun bx bz W => Duo W w0 p r n w.heap.size (doObj op fr tw (j : Int) at_ by_ A bn bc) (cond bx ⟨s, t, q⟩ ⟨s, t, q⟩) (cond bz ⟨s, t, L⟩ ⟨s, t, L⟩)) (fun A1 W => ∃ v, DuoV W w0 p r n w.heap.size (doObj op fr tw (j : Int) at_ by_ A bn bc) ⟨s, t, q⟩ ⟨s, t, L⟩ v ∧ ∀ ad, A1 = some ad → ¬ RfB r v ad.block) (hd.fresh _) (fun _ _ _ h => h.at_) (fun W hX => ?_) (fun W A1 c1 hX hs1 hz1 => ?_)).mono fun e w' h => ⟨h.1, _, _, h.2.to0, hag0, ⟨⟨hs0, by show s ≤ _; omega⟩, ⟨ht0, by show t ≤ _; omega⟩, by show L.length ≤ _; omega⟩⟩
      · replace hX : Duo W w0 p r n w.heap.size (doObj op fr tw (j : Int) at_ by_ A bn bc) ⟨s, t, q⟩ ⟨s, t, L⟩ := hX
        obtain ⟨v, F, m, nk, f, h1, h2, h3, h4, h5, h6, h7, h8, h9⟩ := hX
        simp only at h1 h2
        exact (peek_calls h1 fr tw hk j x hx hokx).mono fun e W' ⟨⟨A1, c1, he, hs1, hfr⟩, hs⟩ => ⟨A1, c1, he, hs1, ⟨v, Duo.laneV h2 h3 h4 h5 h6 h7 h8 h9 hs, fun ad ha hR => by have := hfr ad ha; have := rfb_lt h2 hR; omega⟩, Duo.lane h2 h3 h4 h5 h6 h7 h8 h9 hs⟩
      · have hX' := hX
        obtain ⟨v, ⟨F, m, nk, f, h1, h2, h3, h4, h5, h6, h7, h8, h9⟩, hZ⟩ := hz1
        exact (rpeek_calls h2 fr tw hk j x (by rw [← hq]; exact hx) hokx).mono fun e W' ⟨⟨A2, c2, he, hs2, _⟩, hb⟩ => ⟨A2, c2, he, hs2, hs1.below hb, hX'.below hb⟩
  · refine (does_peek w p r op fr tw kk at_ by_ A bn bc mn hbn hbc hmn hop 15 0 [] (fun bx bz W => Duo W w0 p r n w.heap.size (doObj op fr tw kk at_ by_ A bn bc) (cond bx ⟨s, t, q⟩ ⟨s, t, q⟩) (cond bz ⟨s, t, L⟩ ⟨s, t, L⟩)) (fun _ _ => True) (hd.fresh _) (fun _ _ _ h => h.at_) (fun W hX => ?_) (fun W A1 c1 hX hs1 hz1 => ?_)).mono fun e w' h => ⟨h.1, _, _, h.2.to0, hag0, ⟨⟨hs0, by show s ≤ _; omega⟩, ⟨ht0, by show t ≤ _; omega⟩, by show L.length ≤ _; omega⟩⟩
    · have hX' := hX
      replace hX : Duo W w0 p r n w.heap.size (doObj op fr tw kk at_ by_ A bn bc) ⟨s, t, q⟩ ⟨s, t, L⟩ := hX
      obtain ⟨v, F, m, nk, f, h1, h2, h3, h4, h5, h6, h7, h8, h9⟩ := hX
      simp only at h1 h2
      exact (peekNo_calls _ fr tw (boxNo_calls h1 fr tw hk) kk).mono fun e W' ⟨he, hw⟩ => ⟨none, 0, he, nil_sl _, trivial, by rw [hw]; exact hX'⟩
    · have hX' := hX
      replace hX : Duo W w0 p r n w.heap.size (doObj op fr tw kk at_ by_ A bn bc) ⟨s, t, q⟩ ⟨s, t, L⟩ := hX
      obtain ⟨v, F, m, nk, f, h1, h2, h3, h4, h5, h6, h7, h8, h9⟩ := hX
      simp only at h1 h2
      exact (rpeekNo_calls h2 fr tw hk kk).mono fun e W' ⟨he, hw⟩ => ⟨none, 0, he, nil_sl _, by rw [hw]; exact hs1, by rw [hw]; exact hX'⟩
end Ref
end Go.Proofs.Ytdmpgoaemoiogaa
