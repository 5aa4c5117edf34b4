/- Lanes: New, box. -/
import Derived.Test.YtdmpgoaemoiogaaLan2
import Derived.Deep.RegionWith
set_option linter.unusedVariables false
set_option linter.unusedSimpArgs false
set_option maxRecDepth 100000
namespace Go.Proofs.Ytdmpgoaemoiogaa
open Go.RowKit Go.Maps
namespace Box
theorem newNo_calls (w : World) (n : Int) (hn : n < 2 ∨ 64 < n) :
    Calls Try.prog 29 #[.int .i64 n] w fun e w' => e = .returned (.pointer none) ∧ w' = w := by
  by_cases h : n < 2
  · go_enter Try.func29, Try.ntmps29
    go_wp2_with fail
    go_ret
    exact ⟨rfl, rfl⟩
  · have h2 : 64 < n := by omega
    go_enter Try.func29, Try.ntmps29
    go_wp2_with fail
    go_ret
    exact ⟨rfl, rfl⟩
theorem mk_map (W : World) : (Instr.makeMap 77 none).run Try.prog W = .ok (.map (some W.heap.size)) (W.alloc (.map #[] 0)) := by kernel_rfl
theorem new_calls (w : World) (n : Nat) (hn : 2 ≤ n ∧ n ≤ 64) :
    Calls Try.prog 29 #[.int .i64 n] w fun e w' => ∃ p m, e = .returned (.pointer (some ⟨p, 0, none⟩)) ∧ LnsF w' (fun x => x = p ∨ x = m) p m n 0 0 0 (fun _ => []) (fun _ => none) ∧ Below w.heap.size w w' ∧ w.heap.size ≤ p ∧ w.heap.size ≤ m := by
  obtain ⟨h1, h2⟩ := hn
  have hmk := mk_map
  go_enter Try.func29, Try.ntmps29
  go_wp2_with fail
  go_ret
  refine ⟨_, w.heap.size, rfl, ?_, ((Below.refl _ _).alloc (Nat.le_refl _) _).alloc (by simp) _, by omega, Nat.le_refl _⟩
  exact {
    head := heap_new2 _ _
    map := (LanMap.made w).same (heap_old (heap_alloc_new w _) |>.trans (heap_alloc_new w _).symm)
    box := fun k b c h => (by cases h)
    no := fun k _ => rfl
    apart := fun k k' b c b' c' h => (by cases h)
    inF := ⟨.inl rfl, .inr rfl⟩
    small := h2
    cnt := Nat.zero_le _
    fin := fun x hx => by rcases hx with rfl | rfl <;> simp <;> omega }
theorem boxNil_calls (w : World) (i j : Int) :
    Calls Try.prog 48 #[.pointer none, .int .i64 i, .int .i64 j] w fun e w' => e = .returned (.pointer none) ∧ w' = w := by
  go_enter Try.func48, Try.ntmps48
  go_wp2_with fail
  go_ret
  exact ⟨rfl, rfl⟩
theorem mapeq_nil (W : World) : (binOp BinOp.eql 77 (.map none) (.map none)).run Try.prog W = .ok (.bool true) W := by kernel_rfl
theorem mapeq_some (m : Nat) (W : World) : (binOp BinOp.eql 77 (.map (some m)) (.map none)).run Try.prog W = .ok (.bool false) W := by kernel_rfl
theorem boxZero_calls (w : World) (p : Nat) (hp : w.cell? ⟨p, 1, none⟩ = some (.map none)) (i j : Int) :
    Calls Try.prog 48 #[.pointer (some ⟨p, 0, none⟩), .int .i64 i, .int .i64 j] w fun e w' => e = .returned (.pointer none) ∧ w' = w := by
  have hm := mapeq_nil
  go_enter Try.func48, Try.ntmps48
  go_wp2_with fail
  go_ret
  exact ⟨rfl, rfl⟩
variable {w : World} {F : Nat → Prop} {p m n nk : Nat} {s t : Int} {q : Int × Int → List Par} {f : Int × Int → Option (Nat × Nat)}
theorem cell2 {w : World} {n : Nat} {x y : Value} {t : TypeId} (h : w.heap[n]? = some (.cells #[x, y] t (0, 0))) :
    w.cell? ⟨n, 0, none⟩ = some x ∧ w.cell? ⟨n, 1, none⟩ = some y ∧ ∀ i, w.frozen? ⟨n, i, none⟩ = false :=
  ⟨by simp [World.cell?, h], by simp [World.cell?, h], fun i => by simp [World.frozen?, h]⟩
theorem head4 {w : World} {p : Nat} {x y z u : Value} {t : TypeId} (h : w.heap[p]? = some (.cells #[x, y, z, u] t (0, 0))) :
    w.cell? ⟨p, 0, none⟩ = some x ∧ w.cell? ⟨p, 1, none⟩ = some y ∧ w.cell? ⟨p, 2, none⟩ = some z ∧ w.cell? ⟨p, 3, none⟩ = some u ∧ ∀ i, w.frozen? ⟨p, i, none⟩ = false :=
  ⟨by simp [World.cell?, h], by simp [World.cell?, h], by simp [World.cell?, h], by simp [World.cell?, h], fun i => by simp [World.frozen?, h]⟩
set_option maxHeartbeats 1000000 in
theorem boxNo_calls (h : LnsF w F p m n nk s t q f) (i j : Int) (hk : ¬ Way n (i, j)) :
    Calls Try.prog 48 #[.pointer (some ⟨p, 0, none⟩), .int .i64 i, .int .i64 j] w fun e w' => e = .returned (.pointer none) ∧ w' = w := by
  obtain ⟨y0, y1, y2, y3, y4⟩ := head4 h.head
  have hm := mapeq_some m
  clear h
  simp only [Way] at hk
  by_cases h1 : i < 0
  · go_enter Try.func48, Try.ntmps48
    go_wp2_with fail
    go_ret
    exact ⟨rfl, rfl⟩
  by_cases h2 : (n : Int) ≤ i
  · go_enter Try.func48, Try.ntmps48
    go_wp2_with fail
    go_ret
    exact ⟨rfl, rfl⟩
  by_cases h3 : j < 0
  · go_enter Try.func48, Try.ntmps48
    go_wp2_with fail
    go_ret
    exact ⟨rfl, rfl⟩
  by_cases h4 : (n : Int) ≤ j
  · go_enter Try.func48, Try.ntmps48
    go_wp2_with fail
    go_ret
    exact ⟨rfl, rfl⟩
  have h5 : i = j := by omega
  subst h5
  clear hk
  go_enter Try.func48, Try.ntmps48
  go_wp2_with fail
  go_ret
  exact ⟨rfl, rfl⟩
/-- The way's box, opened. -/
def At (w : World) (F : Nat → Prop) (p n : Nat) (s t : Int) (q : Int × Int → List Par) (k : Int × Int) (b c : Nat) : Prop :=
  ∃ m nk f, LnsF w F p m n nk s t q f ∧ f k = some (b, c)
/-- What a way's box is asked for by. -/
def BoxPost (w : World) (F : Nat → Prop) (p n : Nat) (s t : Int) (q : Int × Int → List Par) (k : Int × Int) (e : Ending) (w' : World) : Prop :=
  ∃ b c F', e = .returned (.pointer (some ⟨b, 0, none⟩)) ∧ At w' F' p n s t q k b c ∧ Foot w w' F ∧ ∀ x, F' x → F x ∨ w.heap.size ≤ x
theorem wayI {n : Nat} (hn : n ≤ 64) {i j : Int} (h : Way n (i, j)) : I64 i ∧ I64 j := by
  obtain ⟨h1, h2, h3, h4, _⟩ := h
  simp only at h1 h2 h3 h4
  exact ⟨⟨by omega, by omega⟩, ⟨by omega, by omega⟩⟩
set_option maxHeartbeats 2000000 in
theorem boxYes_calls (h : LnsF w F p m n nk s t q f) (i j : Int) (hk : Way n (i, j)) :
    Calls Try.prog 48 #[.pointer (some ⟨p, 0, none⟩), .int .i64 i, .int .i64 j] w (BoxPost w F p n s t q (i, j)) := by
  obtain ⟨y0, y1, y2, y3, y4⟩ := head4 h.head
  have hm := mapeq_some m
  have hmp := h.lt.1
  have hkw := Lib.hid hk
  have H := Lib.hid h
  obtain ⟨hi, hj⟩ := wayI h.small hk
  have hlook := fun (W : World) (hW : W.heap[m]? = w.heap[m]?) => (h.map.same hW).look hi hj
  obtain ⟨h1, h2, h3, h4, h5⟩ := hk
  simp only at h1 h2 h3 h4 h5
  have hij : (i == j) = false := by simpa using h5
  clear h
  cases hf : f (i, j) with
  | some bc =>
    obtain ⟨b, c⟩ := bc
    simp only [hf, Option.map, ptrV, wayV] at hlook
    have HF := Lib.hid hf
    clear hf
    have hpe := ptr_eq_par b
    have hl1 := hlook ((w.alloc (.cells #[.int .i64 i, .int .i64 j] 111)).drew) (Below.heap_alloc w _ m H.out.lt.2.1)
    have hl2 := hlook ((w.alloc (.cells #[.int .i64 i, .int .i64 j] 111)).drew.drew) (Below.heap_alloc w _ m H.out.lt.2.1)
    have hhead := heap_old (o := .cells #[.int .i64 i, .int .i64 j] 111) H.out.head
    clear hlook
    go_enter Try.func48, Try.ntmps48
    go_wp2_with fail
    go_region
    go_wp2_with fail
    go_region
    go_wp2_with fail
    go_ret
    have hlt := H.out.lt
    have hB : Below w.heap.size w ((w.alloc (.cells #[.int .i64 i, .int .i64 j] 111)).drew.drew) := (((Below.refl _ _).alloc (Nat.le_refl _) _).drew).drew
    exact ⟨b, c, F, rfl, ⟨m, nk, f, H.out.below hB, HF.out⟩, Foot.of_below _ hB, fun x hx => .inl hx⟩
  | none =>
    have HF := Lib.hid hf
    have hl1 := hlook ((w.alloc (.cells #[.int .i64 i, .int .i64 j] 111)).drew) (Below.heap_alloc w _ m H.out.lt.2.1)
    simp only [hf, Option.map, ptrV, wayV] at hl1
    clear hlook hf
    have hhead := heap_old (o := .cells #[.int .i64 i, .int .i64 j] 111) H.out.head
    have hB0 : Below w.heap.size w ((w.alloc (.cells #[.int .i64 i, .int .i64 j] 111)).drew.drew) := (((Below.refl _ _).alloc (Nat.le_refl _) _).drew).drew
    have HB0 := Lib.hid hB0
    have HX0 : Hid (((w.alloc (.cells #[.int .i64 i, .int .i64 j] 111)).drew.drew).heap[w.heap.size]? = some (.cells #[.int .i64 i, .int .i64 j] 111 (0, 0))) := heap_alloc_new _ _
    have C := Lib.hid (new_par ((w.alloc (.cells #[.int .i64 i, .int .i64 j] 111)).drew.drew) 40 (by omega))
    have hs0 : ((w.alloc (.cells #[.int .i64 i, .int .i64 j] 111)).drew.drew).heap.size = w.heap.size + 1 := by simp
    have HS0 := Lib.hid hs0
    have HIJ := Lib.hid (show I64 i ∧ I64 j from ⟨hi, hj⟩)
    clear hB0 hs0
    go_enter Try.func48, Try.ntmps48
    go_wp2_with fail
    go_region
    go_wp2_with fail
    go_region_with (first
      | (go_at_call 63
         refine (C.out).mono ?_
         rintro e w4 ⟨b, c, rfl, hx4, hb4, hbb, hcc⟩
         have HB4 := Lib.hid hb4
         have HX4 := Lib.hid hx4
         have HBC := Lib.hid (show w.heap.size + 1 ≤ b ∧ w.heap.size + 1 ≤ c from ⟨by rw [HS0.out] at hbb; exact hbb, by rw [HS0.out] at hcc; exact hcc⟩)
         have HB5 : Hid (Below w.heap.size w w4) := HB0.out.trans (hb4.mono (by rw [HS0.out]; omega))
         obtain ⟨w5, hr5, hm5, hg5⟩ := (H.out.map.same (HB5.out.block m H.out.lt.2.1)).put H.out.room HIJ.out.1 HIJ.out.2 b
         have HM5 := Lib.hid hm5
         have HG5 := Lib.hid hg5
         have hXX := (hb4.block w.heap.size (by rw [HS0.out]; omega)).trans HX0.out
         have hPP := (HB5.out.block p H.out.lt.1).trans H.out.head
         have hXX5 := (hg5.block w.heap.size (by have := hb4.size; rw [HS0.out] at this; omega) (fun e => by have := H.out.lt.2.1; have := Option.some.inj e; omega)).trans hXX
         have hPP5 := (hg5.block p (by have := HB5.out.size; have := H.out.lt.1; omega) (fun e => H.out.lt.2.2 (Option.some.inj e))).trans hPP
         have hl5 := hm5.look HIJ.out.1 HIJ.out.2
         have hl6 := (hm5.same (w' := w5.drew) rfl).look HIJ.out.1 HIJ.out.2
         rw [upd_same] at hl5 hl6
         simp only [wayV, ptrV] at hr5 hl5 hl6
         obtain ⟨z0, z1, z2, z3, z4⟩ := head4 hPP
         obtain ⟨x0, x1, x2⟩ := cell2 hXX
         obtain ⟨z0', z1', z2', z3', z4'⟩ := head4 hPP5
         obtain ⟨x0', x1', x2'⟩ := cell2 hXX5
         clear hx4 hb4 hm5 hg5 hbb hcc hXX hPP hXX5 hPP5))
    all_goals (
      go_wp2_with fail
      go_region
      go_wp2_with fail
      go_ret
      have hL := LnsF.new H.out hkw.out HF.out HB5.out (b := b) (c := c) (by have := HBC.out; omega) (by have := HBC.out; omega) (show IsP w4 b c [] from HX4.out) HM5.out HG5.out
      have hF := (Foot.of_below F HB5.out).trans (Foot.of_grown HG5.out H.out.inF.2) (fun k h => .inl h)
      have hD : Below w5.heap.size w5 w5.drew := ⟨rfl, rfl, rfl, Nat.le_refl _, fun _ _ => rfl⟩
      refine ⟨b, c, _, rfl, ⟨m, nk + 1, _, hL.below hD, upd_same _ _ _⟩, hF.trans (Foot.of_below F hD) (fun k h => .inl h), fun x hx => ?_⟩
      have := HBC.out
      rcases hx with h | rfl | rfl
      · exact .inl h
      · exact .inr (by omega)
      · exact .inr (by omega))
end Box
end Go.Proofs.Ytdmpgoaemoiogaa
