/- Lanes: Send, Count, Totals. -/
import Derived.Test.YtdmpgoaemoiogaaLan3
set_option linter.unusedVariables false
set_option linter.unusedSimpArgs false
set_option maxRecDepth 100000
namespace Go.Proofs.Ytdmpgoaemoiogaa
open Go.RowKit Go.Maps
namespace Box
/-- Lanes between n: how many were sent, how many lost, what is on each way. -/
def Lns (w : World) (F : Nat → Prop) (p n : Nat) (s t : Int) (q : Int × Int → List Par) : Prop := ∃ m nk f, LnsF w F p m n nk s t q f
/-- What a call has left: lanes; and what it may have changed. -/
def Step (w : World) (F : Nat → Prop) (p n : Nat) (s t : Int) (q : Int × Int → List Par) (w' : World) : Prop :=
  ∃ F', Lns w' F' p n s t q ∧ Foot w w' F ∧ ∀ x, F' x → F x ∨ w.heap.size ≤ x
theorem Step.refl {w : World} {F : Nat → Prop} {p n : Nat} {s t : Int} {q : Int × Int → List Par} (h : Lns w F p n s t q) : Step w F p n s t q w := ⟨F, h, Foot.refl _ _, fun _ h => .inl h⟩
/-- A slice apart from the lanes stays as it is. -/
theorem IsSl.foot {w w' : World} {size : Nat} {A : Option Addr} {k c : Nat} {l : List Value} {F : Nat → Prop} (h : IsSl w size A k c l) (hA : ∀ ad, A = some ad → 0 < k → ¬ F ad.block) (hf : Foot w w' F) : IsSl w' size A k c l := by
  obtain ⟨h1, h2, h3, h4, h5⟩ := h
  refine ⟨h1, h2, h3, h4, fun ad ha j u hu => ?_⟩
  have hc := h5 ad ha j u hu
  have hlt := World.block_lt_of_cell? w _ hc
  have hpos : 0 < k := by
    have hj := (List.getElem?_eq_some_iff.1 hu).1
    rcases Nat.eq_zero_or_pos k with h0 | h0
    · rw [h0] at h1; simp at h1; rw [h1] at hj; simp at hj
    · exact h0
  rw [World.cell?_of_block (hf.2.2.2.2 _ hlt (by have := hA ad ha hpos; unfold Addr.add; split <;> exact this))]
  exact hc
variable {w : World} {F : Nat → Prop} {p m n nk : Nat} {s t : Int} {q : Int × Int → List Par} {f : Int × Int → Option (Nat × Nat)}
theorem LnsF.stepB {w1 w' : World} {F1 : Nat → Prop} {s' t' : Int} {q' : Int × Int → List Par} {f' : Int × Int → Option (Nat × Nat)} (hf : Foot w w1 F) (hF : ∀ x, F1 x → F x ∨ w.heap.size ≤ x) (hf1 : Foot w1 w' F1) (h : LnsF w' F1 p m n nk s' t' q' f') : Step w F p n s' t' q' w' :=
  ⟨F1, ⟨m, nk, f', h⟩, hf.trans hf1 hF, hF⟩
theorem heap_set4 {W : World} {n i : Nat} {a b c d x : Value} {t : TypeId} (h : W.heap[n]? = some (.cells #[a, b, c, d] t (0, 0))) (cs : Array Value) (hc : cs = #[a, b, c, d].setIfInBounds i x) :
    (W.setCell ⟨n, i, none⟩ x).heap[n]? = some (.cells cs t (0, 0)) := by
  subst hc
  obtain ⟨hn, he⟩ := Array.getElem?_eq_some_iff.1 h
  simp [World.setCell, hn, he, Array.getElem_modify]
theorem grown_cell {W : World} {n i : Nat} (x : Value) : W.grownBy (W.setCell ⟨n, i, none⟩ x) (some n) :=
  ⟨rfl, rfl, rfl, by simp, fun k hk hne => Below.heap_setCell _ ⟨n, i, none⟩ x k (fun e => hne (by rw [e]))⟩
theorem LnsF.sent (h : LnsF w F p m n nk s t q f) (x : Int) : LnsF (w.setCell ⟨p, 2, none⟩ (.int .i64 x)) F p m n nk x t q f :=
  h.sums (grown_cell _) (heap_set4 h.head _ rfl)
theorem LnsF.lost (h : LnsF w F p m n nk s t q f) (x : Int) : LnsF (w.setCell ⟨p, 3, none⟩ (.int .i64 x)) F p m n nk s x q f :=
  h.sums (grown_cell _) (heap_set4 h.head _ rfl)
theorem Foot.cell {W : World} {F : Nat → Prop} {i : Nat} (hp : F p) (x : Value) : Foot W (W.setCell ⟨p, i, none⟩ x) F := Foot.of_grown (grown_cell x) hp

theorem upd_self (q : Int × Int → List Par) (k : Int × Int) : upd q k (q k) = q := by
  funext k'; unfold upd; split
  · rename_i e; rw [e]
  · rfl
theorem sendNo_calls (P : Value) (i j : Int) (C0 : Calls Try.prog 48 #[P, .int .i64 i, .int .i64 j] w fun e w' => e = .returned (.pointer none) ∧ w' = w) (A : Option Addr) (c1 c2 : Nat) :
    Calls Try.prog 30 #[P, .int .i64 i, .int .i64 j, .slice A c1 c2] w fun e w' => e = .returned (.int .i64 15) ∧ w' = w := by
  have C := Lib.hid C0
  clear C0
  go_enter Try.func30, Try.ntmps30
  go_wp2_with fail
  refine C.out.mono ?_
  rintro e w' ⟨rfl, rfl⟩
  go_wp2_with fail
  go_ret
  exact ⟨rfl, rfl⟩
set_option maxHeartbeats 1000000 in
theorem send_calls (h : LnsF w F p m n nk s t q f) (i j : Int) (hk : Way n (i, j)) (hs : -9223372036854775808 ≤ s ∧ s + 1 ≤ 9223372036854775807) (ht : -9223372036854775808 ≤ t ∧ t + 1 ≤ 9223372036854775807)
    (A : Option Addr) (c1 c2 : Nat) (bs : List Int) (hb : IsSl w 1 A c1 c2 (bs.map (.int .u8))) (hA : ∀ ad, A = some ad → 0 < c1 → ¬ F ad.block) :
    Calls Try.prog 30 #[.pointer (some ⟨p, 0, none⟩), .int .i64 i, .int .i64 j, .slice A c1 c2] w fun e w' =>
      e = .returned (.int .i64 (if (q (i, j)).length < 40 then 0 else 8)) ∧ Step w F p n (s + 1) (if (q (i, j)).length < 40 then t else t + 1) (if (q (i, j)).length < 40 then upd q (i, j) (q (i, j) ++ [(strOfNums bs, 0, 0)]) else q) w' := by
  have C := Lib.hid (boxYes_calls h i j hk)
  have HB := Lib.hid hb
  have hws : IntKind.i64.wrap (s + 1) = s + 1 := by rw [IntKind.wrap_i64]; omega
  have hwt : IntKind.i64.wrap (t + 1) = t + 1 := by rw [IntKind.wrap_i64]; omega
  have HP := Lib.hid h.inF.1
  clear hk h hb hs ht
  go_enter Try.func30, Try.ntmps30
  go_wp2_with fail
  refine C.out.mono ?_
  rintro e w1 ⟨b, c, F1, rfl, ⟨m1, nk1, f1, hL, hfk⟩, hft, hF⟩
  have HL := Lib.hid hL
  have HFK := Lib.hid hfk
  have HFT := Lib.hid hft
  have hpe := ptr_eq_par b
  have hL2 := hL.sent (s + 1)
  have HL2 := Lib.hid hL2
  have hcv := run_str_of (P := Try.prog) (w1.setCell ⟨p, 2, none⟩ (.int .i64 (s + 1))) 64 9 5 Try.underlying64 Try.underlying5 Try.underlying9 A c1 c2 bs
    (IsSl.foot HB.out hA (hft.trans (F1 := fun x => x = p) (Foot.cell (F := fun x => x = p) (show (fun x => x = p) p from rfl) _) (fun k hk => .inl (by rw [hk]; exact HP.out))))
  obtain ⟨y0, y1, y2, y3, y4⟩ := head4 hL.head
  have C2 := Lib.hid (put_par _ b c _ (strOfNums bs, 0, 0) (hL2.box _ _ _ hfk).2.1)
  clear hL hft hL2 hfk
  go_wp2_with fail
  by_cases hr : (q (i, j)).length < 40
  · have C3 := C2.out
    rw [if_pos hr, decide_eq_true hr] at C3
    refine C3.mono ?_
    rintro e w3 ⟨rfl, hx, hg⟩
    have hL3 := HL2.out.set HFK.out hg hx
    have HL3 := Lib.hid hL3
    have HG := Lib.hid hg
    clear hL3 hx hg C3
    go_wp2_with fail
    go_ret
    simp only [if_pos hr]
    exact ⟨rfl, HL3.out.stepB HFT.out hF ((Foot.cell HL3.out.inF.1 _).trans (Foot.of_grown HG.out (HL2.out.box _ _ _ HFK.out).2.2.2) (fun k hk => .inl hk))⟩
  · have C3 := C2.out
    rw [if_neg hr, decide_eq_false hr] at C3
    refine C3.mono ?_
    rintro e w3 ⟨rfl, hx, hg⟩
    have hL3 := HL2.out.set HFK.out hg hx
    rw [upd_self] at hL3
    have HL3 := Lib.hid hL3
    have HG := Lib.hid hg
    obtain ⟨z0, z1, z2, z3, z4⟩ := head4 hL3.head
    clear hL3 hx hg C3
    go_wp2_with fail
    go_ret
    simp only [if_neg hr]
    exact ⟨rfl, (HL3.out.lost (t + 1)).stepB HFT.out hF (((Foot.cell HL3.out.inF.1 _).trans (Foot.of_grown HG.out (HL2.out.box _ _ _ HFK.out).2.2.2) (fun k hk => .inl hk)).trans (Foot.cell HL3.out.inF.1 _) (fun k hk => .inl hk))⟩
theorem count_calls (h : LnsF w F p m n nk s t q f) (i j : Int) (hk : Way n (i, j)) :
    Calls Try.prog 32 #[.pointer (some ⟨p, 0, none⟩), .int .i64 i, .int .i64 j] w fun e w' => e = .returned (.int .i64 (q (i, j)).length) ∧ Step w F p n s t q w' := by
  have C := Lib.hid (boxYes_calls h i j hk)
  clear hk h
  go_enter Try.func32, Try.ntmps32
  go_wp2_with fail
  refine C.out.mono ?_
  rintro e w1 ⟨b, c, F1, rfl, ⟨m1, nk1, f1, hL, hfk⟩, hft, hF⟩
  have HL := Lib.hid hL
  have HFT := Lib.hid hft
  have C2 := Lib.hid (len_par w1 b c 40 _ (hL.box _ _ _ hfk).2.1)
  clear hL hft hfk
  go_wp2_with fail
  refine C2.out.mono ?_
  rintro e w2 ⟨rfl, rfl⟩
  go_wp2_with fail
  go_ret
  exact ⟨ret_int (by rw [pvs_length]), HL.out.stepB HFT.out hF (Foot.refl _ _)⟩
set_option maxHeartbeats 400000 in
/-- How much is in no box. -/
theorem lenNil_par (w : World) :
    Calls Try.prog 50 #[.pointer none] w fun e w' => e = .returned (.int .i64 0) ∧ w' = w := by
  go_enter Try.func50, Try.ntmps50
  go_wp2_with fail
  refine (made_nil_par w).mono ?_
  rintro e w1 ⟨rfl, rfl⟩
  go_wp2_with fail
  go_ret
  exact ⟨rfl, rfl⟩
/-- Where there is no such way, there is nothing on it. -/
theorem countNo_calls (P : Value) (i j : Int) (C0 : Calls Try.prog 48 #[P, .int .i64 i, .int .i64 j] w fun e w' => e = .returned (.pointer none) ∧ w' = w) :
    Calls Try.prog 32 #[P, .int .i64 i, .int .i64 j] w fun e w' => e = .returned (.int .i64 0) ∧ w' = w := by
  have C := Lib.hid C0
  clear C0
  go_enter Try.func32, Try.ntmps32
  go_wp2_with fail
  refine C.out.mono ?_
  rintro e w1 ⟨rfl, rfl⟩
  go_wp2_with fail
  refine (lenNil_par _).mono ?_
  rintro e w2 ⟨rfl, rfl⟩
  go_wp2_with fail
  go_ret
  exact ⟨rfl, rfl⟩
theorem totals_calls (w : World) (p : Nat) (s t : Int) (h2 : w.cell? ⟨p, 2, none⟩ = some (.int .i64 s)) (h3 : w.cell? ⟨p, 3, none⟩ = some (.int .i64 t)) :
    Calls Try.prog 31 #[.pointer (some ⟨p, 0, none⟩)] w fun e w' => e = .returned (.tuple #[.int .i64 s, .int .i64 t]) ∧ Below w.heap.size w w' ∧ w'.heap = w.heap := by
  go_enter Try.func31, Try.ntmps31
  go_wp2_with fail
  go_region
  go_wp2_with fail
  go_ret2
  exact ⟨rfl, ⟨rfl, rfl, rfl, Nat.le_refl _, fun _ _ => rfl⟩, rfl⟩
theorem totalsNil_calls (w : World) :
    Calls Try.prog 31 #[.pointer none] w fun e w' => e = .returned (.tuple #[.int .i64 0, .int .i64 0]) ∧ w' = w := by
  go_enter Try.func31, Try.ntmps31
  go_wp2_with fail
  go_ret2
  exact ⟨rfl, rfl⟩
end Box
end Go.Proofs.Ytdmpgoaemoiogaa
