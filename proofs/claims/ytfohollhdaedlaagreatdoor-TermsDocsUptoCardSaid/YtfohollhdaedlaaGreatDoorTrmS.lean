import Derived.Test.YtfohollhdaedlaaGreatDoorTrm22
import Derived.Deep.RegionLaw
import Derived.Deep.QuietTactic
import Derived.BigQuiet
import Derived.Test.YtfohollhdaedlaaGreatDoorTrmR
/- Terms: whether rows of numbers and spots are the same; how two postings stand. -/
set_option linter.unusedVariables false
set_option linter.unusedSimpArgs false
set_option maxRecDepth 100000
namespace Go.Proofs.YtfohollhdaedlaaGreatDoor
open Go.RowKit
namespace Trm
theorem int_at {w : World} {A : Option Addr} {n c : Nat} {l : List Int} (h : IsSl w 1 A n c (l.map (.int .i64))) {i : Nat} {x : Int} (hx : l[i]? = some x) : ∃ ad, A = some ad ∧ w.cell? (ad.add i) = some (.int .i64 x) := by
  have hl := h.1
  rw [List.length_map] at hl
  have hi := (List.getElem?_eq_some_iff.1 hx).1
  obtain ⟨ad, h1, h2⟩ := h.at_ (i := i) (by omega)
  refine ⟨ad, h1, ?_⟩
  rw [h2, List.getD_eq_getElem?_getD, List.getElem?_map, hx]; rfl
set_option maxHeartbeats 2000000 in
theorem eqint_calls (w : World) (A : Option Addr) (c : Nat) (xs : List Int) (hx : IsSl w 1 A xs.length c (xs.map (.int .i64))) (B : Option Addr) (e : Nat) (ys : List Int) (hy : IsSl w 1 B ys.length e (ys.map (.int .i64))) :
    Calls Tryz.prog 37 #[.slice A xs.length c, .slice B ys.length e] w fun r w' => r = .returned (.bool (decide (xs = ys))) ∧ Below w.heap.size w w' := by
  have h1 := hx.2.1
  have h2 := hx.2.2.1
  have h3 := hy.2.1
  have h4 := hy.2.2.1
  unfold maxLen at h2 h4
  by_cases hl : xs.length = ys.length
  · have HX := Lib.hid hx
    have HY := Lib.hid hy
    have HLY : Hid (ys.length = xs.length) := hl.symm
    rw [← hl] at h3 ⊢
    obtain ⟨n, hn⟩ : ∃ n, xs.length = n := ⟨_, rfl⟩
    have HN := Lib.hid hn
    rw [hn] at h1 h3 ⊢
    rw [hn] at HX HLY
    rw [← hl, hn] at HY
    clear hn hl hx hy
    go_enter Tryz.func37, Tryz.ntmps37
    go_wp2_with fail
    go_loopw [13] (fun ix wr => ∃ i : Nat, i ≤ n ∧ ix = .int .i64 i ∧ Hid (∀ j, j < i → xs[j]? = ys[j]?) ∧ Below w.heap.size w wr) (fun ix _ => n - (intOf ix).toNat)
    case atStart => exact ⟨0, Nat.zero_le _, rfl, fun j hj => absurd hj (Nat.not_lt_zero j), Below.refl _ _⟩
    case round =>
      obtain ⟨i, hi, rfl, HV, hb⟩ := hrel
      have HB := Lib.hid hb
      clear hb
      by_cases hlt : i < n
      · obtain ⟨x, hx⟩ : ∃ x, xs[i]? = some x := ⟨_, List.getElem?_eq_getElem (by rw [HN.out]; exact hlt)⟩
        obtain ⟨y, hy⟩ : ∃ y, ys[i]? = some y := ⟨_, List.getElem?_eq_getElem (by rw [HLY.out]; exact hlt)⟩
        obtain ⟨ad, rfl, z0⟩ := int_at (HX.out.below HB.out) hx
        obtain ⟨bd, rfl, y0⟩ := int_at (HY.out.below HB.out) hy
        obtain ⟨b, hb⟩ : ∃ b, decide (x = y) = b := ⟨_, rfl⟩
        have heq : ((x : Int) != y) = !b := by rw [← hb]; by_cases e : x = y <;> simp [e, bne]
        have HXX := Lib.hid hx
        have HYY := Lib.hid hy
        have HBB := Lib.hid hb
        clear hx hy hb
        cases b
        · have HR : Hid (decide (xs = ys) = false) := by
            show _ = _
            rw [decide_eq_false_iff_not]
            rintro rfl
            have := of_decide_eq_false HBB.out
            rw [HXX.out] at HYY
            exact this (Option.some.inj HYY.out)
          go_wp2_with fail
          go_quiet (fail)
          go_wp2_with fail
          go_ret
          exact ⟨ret_bool HR.out.symm, bdrewN HB.out⟩
        · have HN1 : Hid (∀ j, j < i + 1 → xs[j]? = ys[j]?) := fun j hj => by
            by_cases e : j = i
            · rw [e, HXX.out, HYY.out, of_decide_eq_true HBB.out]
            · exact HV.out j (by omega)
          go_wp2_with fail
          go_quiet (fail)
          go_wp2_with fail
          go_roundw
          case rel => exact ⟨i + 1, by omega, by go_num, HN1, bdrewN HB.out⟩
          case measure => simp [intOf]; omega
      · have HR : Hid (decide (xs = ys) = true) := by
          show _ = _
          rw [decide_eq_true_iff]
          apply List.ext_getElem?
          intro j
          by_cases hj : j < n
          · exact HV.out j (by omega)
          · rw [List.getElem?_eq_none (by rw [HN.out]; omega), List.getElem?_eq_none (by rw [HLY.out]; omega)]
        go_wp2_with fail
        go_ret
        exact ⟨ret_bool HR.out.symm, HB.out⟩
  · have HR : Hid (decide (xs = ys) = false) := by
      show _ = _
      rw [decide_eq_false_iff_not]
      rintro rfl
      exact hl rfl
    have hne : ((xs.length : Int) != ys.length) = true := by simp; omega
    have hne2 : (xs.length != ys.length) = true := by simpa using hl
    clear hx hy hl
    generalize xs.length = n at *
    generalize ys.length = m at *
    go_enter Tryz.func37, Tryz.ntmps37
    go_wp2_with fail
    go_ret
    exact ⟨ret_bool HR.out.symm, Below.refl _ _⟩
set_option maxHeartbeats 2000000 in
theorem same_calls (w : World) (f g : Int) (u v : Value) (xs ys : List Int) (hx : RInts w u xs) (hy : RInts w v ys) :
    Calls Tryz.prog 26 #[.agg #[.int .i64 f, u], .agg #[.int .i64 g, v]] w fun r w' => r = .returned (.bool (decide (f = g ∧ xs = ys))) ∧ Below w.heap.size w w' := by
  obtain ⟨A, c, rfl, hx⟩ := hx
  obtain ⟨B, e, rfl, hy⟩ := hy
  have hal : Below w.heap.size w ((w.alloc (.cells #[.int .i64 f, .slice A xs.length c] 64)).alloc (.cells #[.int .i64 g, .slice B ys.length e] 64)) := ((Below.refl _ _).alloc (Nat.le_refl _) _).alloc (by simp) _
  have HAL := Lib.hid hal
  have C := Lib.hid (eqint_calls _ A c xs (hx.below hal) B e ys (hy.below hal))
  clear hal hx hy
  by_cases hf : f = g
  · subst hf
    have hfe : ((f : Int) == f) = true := by simp
    have HR : Hid (decide (f = f ∧ xs = ys) = decide (xs = ys)) := by show _ = _; simp
    go_enter Tryz.func26, Tryz.ntmps26
    go_wp2_with fail
    refine C.out.mono ?_
    rintro r w2 ⟨rfl, hb⟩
    have HB := Lib.hid (below_next HAL.out hb)
    clear hb C
    go_wp2_with fail
    go_ret
    exact ⟨by rw [HR.out]; rfl, HB.out⟩
  · have hfe : ((f : Int) == g) = false := by simp [hf]
    have HR : Hid (decide (f = g ∧ xs = ys) = false) := by show _ = _; simp [hf]
    clear C
    go_enter Tryz.func26, Tryz.ntmps26
    go_wp2_with fail
    go_ret
    exact ⟨by rw [HR.out]; rfl, HAL.out⟩
end Trm
end Go.Proofs.YtfohollhdaedlaaGreatDoor
/- Terms: rows of spots held against each other. -/
set_option linter.unusedVariables false
set_option linter.unusedSimpArgs false
set_option maxRecDepth 100000
namespace Go.Proofs.YtfohollhdaedlaaGreatDoor
open Go.RowKit
namespace Trm
def keyS (s : MSpot) : SpotM := (s.1, s.2.2)
set_option maxHeartbeats 4000000 in
theorem eqsp_calls (w : World) (A : Option Addr) (c : Nat) (xs : List MSpot) (hx : IsSl w 2 A xs.length c (spCells xs)) (hxi : ∀ s ∈ xs, RInts w s.2.1 s.2.2) (B : Option Addr) (e : Nat) (ys : List MSpot) (hy : IsSl w 2 B ys.length e (spCells ys)) (hyi : ∀ s ∈ ys, RInts w s.2.1 s.2.2) :
    Calls Tryz.prog 25 #[.slice A xs.length c, .slice B ys.length e, (.func (.func 26) #[] #[])] w fun r w' => r = .returned (.bool (decide (xs.map keyS = ys.map keyS))) ∧ Below w.heap.size w w' := by
  have h1 := hx.2.1
  have h2 := hx.2.2.1
  have h3 := hy.2.1
  have h4 := hy.2.2.1
  unfold maxLen at h2 h4
  have hkx : ∀ (l : List MSpot) (i : Nat), (l.map keyS)[i]? = l[i]?.map keyS := fun l i => List.getElem?_map ..
  by_cases hl : xs.length = ys.length
  · have HX := Lib.hid hx
    have HY := Lib.hid hy
    have HXI := Lib.hid hxi
    have HYI := Lib.hid hyi
    have HK := Lib.hid hkx
    have HLY : Hid (ys.length = xs.length) := hl.symm
    rw [← hl] at h3 ⊢
    obtain ⟨n, hn⟩ : ∃ n, xs.length = n := ⟨_, rfl⟩
    have HN := Lib.hid hn
    rw [hn] at h1 h3 ⊢
    rw [hn] at HX HLY
    rw [← hl, hn] at HY
    clear hn hl hx hy hxi hyi hkx
    go_enter Tryz.func25, Tryz.ntmps25
    go_wp2_with fail
    go_loopw [17] (fun ix wr => ∃ i : Nat, i ≤ n ∧ ix = .int .i64 i ∧ Hid (∀ j, j < i → (xs.map keyS)[j]? = (ys.map keyS)[j]?) ∧ Below w.heap.size w wr) (fun ix _ => n - (intOf ix).toNat)
    case atStart => exact ⟨0, Nat.zero_le _, rfl, fun j hj => absurd hj (Nat.not_lt_zero j), Below.refl _ _⟩
    case round =>
      obtain ⟨i, hi, rfl, HV, hb⟩ := hrel
      have HB := Lib.hid hb
      by_cases hlt : i < n
      · obtain ⟨x, hx⟩ : ∃ x, xs[i]? = some x := ⟨_, List.getElem?_eq_getElem (by rw [HN.out]; exact hlt)⟩
        obtain ⟨y, hy⟩ : ∃ y, ys[i]? = some y := ⟨_, List.getElem?_eq_getElem (by rw [HLY.out]; exact hlt)⟩
        obtain ⟨ab, ao, rfl, z0, z1⟩ := spot_at (HX.out.below HB.out) hx
        obtain ⟨bb, bo, rfl, y0, y1⟩ := spot_at (HY.out.below HB.out) hy
        have hal : Below wr.heap.size wr ((wr.alloc (.cells #[.int .i64 x.1, x.2.1] 64)).alloc (.cells #[.int .i64 y.1, y.2.1] 64)) := ((Below.refl _ _).alloc (Nat.le_refl _) _).alloc (by simp) _
        have y0' := cell_kept ((Below.refl wr.heap.size wr).alloc (Nat.le_refl _) (.cells #[.int .i64 x.1, x.2.1] 64)) y0
        have y1' := cell_kept ((Below.refl wr.heap.size wr).alloc (Nat.le_refl _) (.cells #[.int .i64 x.1, x.2.1] 64)) y1
        have HAL := Lib.hid (below_next hb hal)
        have C := Lib.hid (same_calls _ x.1 y.1 x.2.1 y.2.1 x.2.2 y.2.2 ((HXI.out x (List.mem_of_getElem? hx)).below HAL.out) ((HYI.out y (List.mem_of_getElem? hy)).below HAL.out))
        obtain ⟨XA, xc, hxv, _⟩ := HXI.out x (List.mem_of_getElem? hx)
        obtain ⟨YA, yc, hyv, _⟩ := HYI.out y (List.mem_of_getElem? hy)
        obtain ⟨b, hbb⟩ : ∃ b, decide (x.1 = y.1 ∧ x.2.2 = y.2.2) = b := ⟨_, rfl⟩
        rw [hbb] at C
        have HXX : Hid ((xs.map keyS)[i]? = some (keyS x)) := by show _ = _; rw [HK.out, hx]; rfl
        have HYY : Hid ((ys.map keyS)[i]? = some (keyS y)) := by show _ = _; rw [HK.out, hy]; rfl
        have HBB := Lib.hid hbb
        obtain ⟨xf, xv, xp⟩ := x
        obtain ⟨yf, yv, yp⟩ := y
        simp only at z0 z1 y0 y1 y0' y1' C HAL hxv hyv
        subst hxv hyv
        clear hx hy hbb hal hb
        go_wp2_with fail
        refine C.out.mono ?_
        rintro r w3 ⟨rfl, hb3⟩
        have HB3 := Lib.hid (below_next HAL.out hb3)
        clear hb3 C z0 z1 y0 y1 y0' y1'
        cases b
        · have HR : Hid (decide (xs.map keyS = ys.map keyS) = false) := by
            show _ = _
            rw [decide_eq_false_iff_not]
            intro h
            rw [h, HYY.out] at HXX
            have h2 := Option.some.inj HXX.out
            have h3 := of_decide_eq_false HBB.out
            simp only [keyS, Prod.mk.injEq] at h2
            exact h3 ⟨h2.1.symm, h2.2.symm⟩
          go_wp2_with fail
          go_ret
          exact ⟨by rw [HR.out]; rfl, HB3.out⟩
        · have HN1 : Hid (∀ j, j < i + 1 → (xs.map keyS)[j]? = (ys.map keyS)[j]?) := fun j hj => by
            by_cases e : j = i
            · have h3 := of_decide_eq_true HBB.out
              rw [e, HXX.out, HYY.out]
              simp only [keyS, h3.1, h3.2]
            · exact HV.out j (by omega)
          have hwi : IntKind.i64.wrap ((i : Int) + 1) = (i : Int) + 1 := by rw [IntKind.wrap_i64]; omega
          go_wp2_with fail
          go_roundw
          case rel => exact ⟨i + 1, by omega, by go_num, HN1, HB3.out⟩
          case measure => simp [intOf]; omega
      · have HR : Hid (decide (xs.map keyS = ys.map keyS) = true) := by
          show _ = _
          rw [decide_eq_true_iff]
          apply List.ext_getElem?
          intro j
          by_cases hj : j < n
          · exact HV.out j (by omega)
          · rw [List.getElem?_eq_none (by rw [List.length_map, HN.out]; omega), List.getElem?_eq_none (by rw [List.length_map, HLY.out]; omega)]
        clear hb
        go_wp2_with fail
        go_ret
        exact ⟨by rw [HR.out]; rfl, HB.out⟩
  · have HR : Hid (decide (xs.map keyS = ys.map keyS) = false) := by
      show _ = _
      rw [decide_eq_false_iff_not]
      intro h
      have := congrArg List.length h
      rw [List.length_map, List.length_map] at this
      exact hl this
    have hne : ((xs.length : Int) != ys.length) = true := by simp; omega
    have hne2 : (xs.length != ys.length) = true := by simpa using hl
    clear hx hy hl hxi hyi hkx
    generalize xs.length = n at *
    generalize ys.length = m at *
    go_enter Tryz.func25, Tryz.ntmps25
    go_wp2_with fail
    go_ret
    exact ⟨by rw [HR.out]; rfl, Below.refl _ _⟩
end Trm
end Go.Proofs.YtfohollhdaedlaaGreatDoor
/- Terms: rows of postings held against each other. Written by trm27.py. -/
set_option linter.unusedVariables false
set_option linter.unusedSimpArgs false
set_option maxRecDepth 100000
namespace Go.Proofs.YtfohollhdaedlaaGreatDoor
open Go.RowKit
namespace Trm
set_option maxHeartbeats 2000000 in
theorem samel1_calls (w : World) (f g : Int) (u v : Value) (xs ys : List SpotM) (hx : RSpots w u xs) (hy : RSpots w v ys) :
    Calls Tryz.prog 24 #[.agg #[.int .i64 f, u], .agg #[.int .i64 g, v]] w fun r w' => r = .returned (.bool (decide (f = g ∧ xs = ys))) ∧ Below w.heap.size w w' := by
  have hx0 := hx
  have hy0 := hy
  obtain ⟨A, c, vx, rfl, hsx, hix, hmx⟩ := hx
  obtain ⟨B, e, vy, rfl, hsy, hiy, hmy⟩ := hy
  have hal : Below w.heap.size w ((w.alloc (.cells #[.int .i64 f, .slice A vx.length c] 41)).alloc (.cells #[.int .i64 g, .slice B vy.length e] 41)) := ((Below.refl _ _).alloc (Nat.le_refl _) _).alloc (by simp) _
  have HAL := Lib.hid hal
  have C := Lib.hid ((by have h := eqsp_calls _ A c vx (hsx.below hal) (fun s hs => (hix s hs).below hal) B e vy (hsy.below hal) (fun s hs => (hiy s hs).below hal); rw [show vx.map keyS = xs from hmx, show vy.map keyS = ys from hmy] at h; exact h : Calls Tryz.prog 25 #[.slice A vx.length c, .slice B vy.length e, (.func (.func 26) #[] #[])] ((w.alloc (.cells #[.int .i64 f, .slice A vx.length c] 41)).alloc (.cells #[.int .i64 g, .slice B vy.length e] 41)) fun r w' => r = .returned (.bool (decide (xs = ys))) ∧ Below ((w.alloc (.cells #[.int .i64 f, .slice A vx.length c] 41)).alloc (.cells #[.int .i64 g, .slice B vy.length e] 41)).heap.size ((w.alloc (.cells #[.int .i64 f, .slice A vx.length c] 41)).alloc (.cells #[.int .i64 g, .slice B vy.length e] 41)) w'))
  clear hal hsx hsy hix hiy hx0 hy0
  by_cases hf : f = g
  · subst hf
    have hfe : ((f : Int) == f) = true := by simp
    have HR : Hid (decide (f = f ∧ xs = ys) = decide (xs = ys)) := by show _ = _; simp
    clear hmx hmy
    go_enter Tryz.func24, Tryz.ntmps24
    go_wp2_with fail
    refine C.out.mono ?_
    rintro r w2 ⟨rfl, hb⟩
    have HB := Lib.hid (below_next HAL.out hb)
    clear hb C
    go_wp2_with fail
    go_ret
    exact ⟨by rw [HR.out]; rfl, HB.out⟩
  · have hfe : ((f : Int) == g) = false := by simp [hf]
    have HR : Hid (decide (f = g ∧ xs = ys) = false) := by show _ = _; simp [hf]
    clear C hmx hmy
    go_enter Tryz.func24, Tryz.ntmps24
    go_wp2_with fail
    go_ret
    exact ⟨by rw [HR.out]; rfl, HAL.out⟩
def keyP (s : MPost) : PostM := (s.1, s.2.2)
set_option maxHeartbeats 4000000 in
theorem eqpo_calls (w : World) (A : Option Addr) (c : Nat) (xs : List MPost) (hx : IsSl w 2 A xs.length c (poCells xs)) (hxi : ∀ s ∈ xs, RSpots w s.2.1 s.2.2) (B : Option Addr) (e : Nat) (ys : List MPost) (hy : IsSl w 2 B ys.length e (poCells ys)) (hyi : ∀ s ∈ ys, RSpots w s.2.1 s.2.2) :
    Calls Tryz.prog 23 #[.slice A xs.length c, .slice B ys.length e, (.func (.func 24) #[] #[])] w fun r w' => r = .returned (.bool (decide (xs.map keyP = ys.map keyP))) ∧ Below w.heap.size w w' := by
  have h1 := hx.2.1
  have h2 := hx.2.2.1
  have h3 := hy.2.1
  have h4 := hy.2.2.1
  unfold maxLen at h2 h4
  have hkx : ∀ (l : List MPost) (i : Nat), (l.map keyP)[i]? = l[i]?.map keyP := fun l i => List.getElem?_map ..
  by_cases hl : xs.length = ys.length
  · have HX := Lib.hid hx
    have HY := Lib.hid hy
    have HXI := Lib.hid hxi
    have HYI := Lib.hid hyi
    have HK := Lib.hid hkx
    have HLY : Hid (ys.length = xs.length) := hl.symm
    rw [← hl] at h3 ⊢
    obtain ⟨n, hn⟩ : ∃ n, xs.length = n := ⟨_, rfl⟩
    have HN := Lib.hid hn
    rw [hn] at h1 h3 ⊢
    rw [hn] at HX HLY
    rw [← hl, hn] at HY
    clear hn hl hx hy hxi hyi hkx
    go_enter Tryz.func23, Tryz.ntmps23
    go_wp2_with fail
    go_loopw [17] (fun ix wr => ∃ i : Nat, i ≤ n ∧ ix = .int .i64 i ∧ Hid (∀ j, j < i → (xs.map keyP)[j]? = (ys.map keyP)[j]?) ∧ Below w.heap.size w wr) (fun ix _ => n - (intOf ix).toNat)
    case atStart => exact ⟨0, Nat.zero_le _, rfl, fun j hj => absurd hj (Nat.not_lt_zero j), Below.refl _ _⟩
    case round =>
      obtain ⟨i, hi, rfl, HV, hb⟩ := hrel
      have HB := Lib.hid hb
      by_cases hlt : i < n
      · obtain ⟨x, hx⟩ : ∃ x, xs[i]? = some x := ⟨_, List.getElem?_eq_getElem (by rw [HN.out]; exact hlt)⟩
        obtain ⟨y, hy⟩ : ∃ y, ys[i]? = some y := ⟨_, List.getElem?_eq_getElem (by rw [HLY.out]; exact hlt)⟩
        obtain ⟨ab, ao, rfl, z0, z1⟩ := post_at (HX.out.below HB.out) hx
        obtain ⟨bb, bo, rfl, y0, y1⟩ := post_at (HY.out.below HB.out) hy
        have hal : Below wr.heap.size wr ((wr.alloc (.cells #[.int .i64 x.1, x.2.1] 41)).alloc (.cells #[.int .i64 y.1, y.2.1] 41)) := ((Below.refl _ _).alloc (Nat.le_refl _) _).alloc (by simp) _
        have y0' := cell_kept ((Below.refl wr.heap.size wr).alloc (Nat.le_refl _) (.cells #[.int .i64 x.1, x.2.1] 41)) y0
        have y1' := cell_kept ((Below.refl wr.heap.size wr).alloc (Nat.le_refl _) (.cells #[.int .i64 x.1, x.2.1] 41)) y1
        have HAL := Lib.hid (below_next hb hal)
        have C := Lib.hid (samel1_calls _ x.1 y.1 x.2.1 y.2.1 x.2.2 y.2.2 ((HXI.out x (List.mem_of_getElem? hx)).below HAL.out) ((HYI.out y (List.mem_of_getElem? hy)).below HAL.out))
        obtain ⟨XA, xc, vsx, hxv, _⟩ := HXI.out x (List.mem_of_getElem? hx)
        obtain ⟨YA, yc, vsy, hyv, _⟩ := HYI.out y (List.mem_of_getElem? hy)
        obtain ⟨b, hbb⟩ : ∃ b, decide (x.1 = y.1 ∧ x.2.2 = y.2.2) = b := ⟨_, rfl⟩
        rw [hbb] at C
        have HXX : Hid ((xs.map keyP)[i]? = some (keyP x)) := by show _ = _; rw [HK.out, hx]; rfl
        have HYY : Hid ((ys.map keyP)[i]? = some (keyP y)) := by show _ = _; rw [HK.out, hy]; rfl
        have HBB := Lib.hid hbb
        obtain ⟨xf, xv, xp⟩ := x
        obtain ⟨yf, yv, yp⟩ := y
        simp only at z0 z1 y0 y1 y0' y1' C HAL hxv hyv
        subst hxv hyv
        clear hx hy hbb hal hb
        go_wp2_with fail
        refine C.out.mono ?_
        rintro r w3 ⟨rfl, hb3⟩
        have HB3 := Lib.hid (below_next HAL.out hb3)
        clear hb3 C z0 z1 y0 y1 y0' y1'
        cases b
        · have HR : Hid (decide (xs.map keyP = ys.map keyP) = false) := by
            show _ = _
            rw [decide_eq_false_iff_not]
            intro h
            rw [h, HYY.out] at HXX
            have h2 := Option.some.inj HXX.out
            have h3 := of_decide_eq_false HBB.out
            simp only [keyP, Prod.mk.injEq] at h2
            exact h3 ⟨h2.1.symm, h2.2.symm⟩
          go_wp2_with fail
          go_ret
          exact ⟨by rw [HR.out]; rfl, HB3.out⟩
        · have HN1 : Hid (∀ j, j < i + 1 → (xs.map keyP)[j]? = (ys.map keyP)[j]?) := fun j hj => by
            by_cases e : j = i
            · have h3 := of_decide_eq_true HBB.out
              rw [e, HXX.out, HYY.out]
              simp only [keyP, h3.1, h3.2]
            · exact HV.out j (by omega)
          have hwi : IntKind.i64.wrap ((i : Int) + 1) = (i : Int) + 1 := by rw [IntKind.wrap_i64]; omega
          go_wp2_with fail
          go_roundw
          case rel => exact ⟨i + 1, by omega, by go_num, HN1, HB3.out⟩
          case measure => simp [intOf]; omega
      · have HR : Hid (decide (xs.map keyP = ys.map keyP) = true) := by
          show _ = _
          rw [decide_eq_true_iff]
          apply List.ext_getElem?
          intro j
          by_cases hj : j < n
          · exact HV.out j (by omega)
          · rw [List.getElem?_eq_none (by rw [List.length_map, HN.out]; omega), List.getElem?_eq_none (by rw [List.length_map, HLY.out]; omega)]
        clear hb
        go_wp2_with fail
        go_ret
        exact ⟨by rw [HR.out]; rfl, HB.out⟩
  · have HR : Hid (decide (xs.map keyP = ys.map keyP) = false) := by
      show _ = _
      rw [decide_eq_false_iff_not]
      intro h
      have := congrArg List.length h
      rw [List.length_map, List.length_map] at this
      exact hl this
    have hne : ((xs.length : Int) != ys.length) = true := by simp; omega
    have hne2 : (xs.length != ys.length) = true := by simpa using hl
    clear hx hy hl hxi hyi hkx
    generalize xs.length = n at *
    generalize ys.length = m at *
    go_enter Tryz.func23, Tryz.ntmps23
    go_wp2_with fail
    go_ret
    exact ⟨by rw [HR.out]; rfl, Below.refl _ _⟩
end Trm
end Go.Proofs.YtfohollhdaedlaaGreatDoor
/- Terms: lists of postings and of terms held against each other. Written by trm27.py. -/
set_option linter.unusedVariables false
set_option linter.unusedSimpArgs false
set_option maxRecDepth 100000
namespace Go.Proofs.YtfohollhdaedlaaGreatDoor
open Go.RowKit
namespace Trm
set_option maxHeartbeats 2000000 in
theorem samelist_calls (w : World) (u v : Value) (xs ys : List PostM) (hx : RPosts w u xs) (hy : RPosts w v ys) :
    Calls Tryz.prog 14 #[u, v] w fun r w' => r = .returned (.bool (decide (xs = ys))) ∧ Below w.heap.size w w' := by
  obtain ⟨A, c, vx, rfl, hsx, hix, hmx⟩ := hx
  obtain ⟨B, e, vy, rfl, hsy, hiy, hmy⟩ := hy
  have h := eqpo_calls w A c vx hsx hix B e vy hsy hiy
  rw [show vx.map keyP = xs from hmx, show vy.map keyP = ys from hmy] at h
  have C := Lib.hid h
  clear h hsx hsy hix hiy hmx hmy
  go_enter Tryz.func14, Tryz.ntmps14
  go_wp2_with fail
  refine C.out.mono ?_
  rintro r w2 ⟨rfl, hb⟩
  have HB := Lib.hid hb
  clear hb C
  go_wp2_with fail
  go_ret
  exact ⟨rfl, HB.out⟩
set_option maxHeartbeats 2000000 in
theorem same1_calls (w : World) (f g : ByteArray) (u v : Value) (xs ys : List PostM) (hx : RPosts w u xs) (hy : RPosts w v ys) :
    Calls Tryz.prog 13 #[.agg #[.string f, u], .agg #[.string g, v]] w fun r w' => r = .returned (.bool (decide (f = g ∧ xs = ys))) ∧ Below w.heap.size w w' := by
  have hal : Below w.heap.size w ((w.alloc (.cells #[.string f, u] 37)).alloc (.cells #[.string g, v] 37)) := ((Below.refl _ _).alloc (Nat.le_refl _) _).alloc (by simp) _
  have HAL := Lib.hid hal
  have C := Lib.hid (samelist_calls _ u v xs ys (hx.below hal) (hy.below hal))
  obtain ⟨A, c, vx, rfl, _⟩ := hx
  obtain ⟨B, e, vy, rfl, _⟩ := hy
  clear hal
  by_cases hf : f = g
  · subst hf
    have hfe : (f.toList == f.toList) = true := by simp
    have HR : Hid (decide (f = f ∧ xs = ys) = decide (xs = ys)) := by show _ = _; simp
    go_enter Tryz.func13, Tryz.ntmps13
    go_wp2_with fail
    refine C.out.mono ?_
    rintro r w2 ⟨rfl, hb⟩
    have HB := Lib.hid (below_next HAL.out hb)
    clear hb C
    go_wp2_with fail
    go_ret
    exact ⟨by rw [HR.out]; rfl, HB.out⟩
  · have hfe : (f.toList == g.toList) = false := by rw [toList_beq]; simp [hf]
    have HR : Hid (decide (f = g ∧ xs = ys) = false) := by show _ = _; simp [hf]
    clear C
    go_enter Tryz.func13, Tryz.ntmps13
    go_wp2_with fail
    go_ret
    exact ⟨by rw [HR.out]; rfl, HAL.out⟩
def keyT (s : MTerm) : TermM := (s.1, s.2.2)
set_option maxHeartbeats 4000000 in
theorem eqte_calls (w : World) (A : Option Addr) (c : Nat) (xs : List MTerm) (hx : IsSl w 2 A xs.length c (tmCells xs)) (hxi : ∀ s ∈ xs, RPosts w s.2.1 s.2.2) (B : Option Addr) (e : Nat) (ys : List MTerm) (hy : IsSl w 2 B ys.length e (tmCells ys)) (hyi : ∀ s ∈ ys, RPosts w s.2.1 s.2.2) :
    Calls Tryz.prog 12 #[.slice A xs.length c, .slice B ys.length e, (.func (.func 13) #[] #[])] w fun r w' => r = .returned (.bool (decide (xs.map keyT = ys.map keyT))) ∧ Below w.heap.size w w' := by
  have h1 := hx.2.1
  have h2 := hx.2.2.1
  have h3 := hy.2.1
  have h4 := hy.2.2.1
  unfold maxLen at h2 h4
  have hkx : ∀ (l : List MTerm) (i : Nat), (l.map keyT)[i]? = l[i]?.map keyT := fun l i => List.getElem?_map ..
  by_cases hl : xs.length = ys.length
  · have HX := Lib.hid hx
    have HY := Lib.hid hy
    have HXI := Lib.hid hxi
    have HYI := Lib.hid hyi
    have HK := Lib.hid hkx
    have HLY : Hid (ys.length = xs.length) := hl.symm
    rw [← hl] at h3 ⊢
    obtain ⟨n, hn⟩ : ∃ n, xs.length = n := ⟨_, rfl⟩
    have HN := Lib.hid hn
    rw [hn] at h1 h3 ⊢
    rw [hn] at HX HLY
    rw [← hl, hn] at HY
    clear hn hl hx hy hxi hyi hkx
    go_enter Tryz.func12, Tryz.ntmps12
    go_wp2_with fail
    go_loopw [17] (fun ix wr => ∃ i : Nat, i ≤ n ∧ ix = .int .i64 i ∧ Hid (∀ j, j < i → (xs.map keyT)[j]? = (ys.map keyT)[j]?) ∧ Below w.heap.size w wr) (fun ix _ => n - (intOf ix).toNat)
    case atStart => exact ⟨0, Nat.zero_le _, rfl, fun j hj => absurd hj (Nat.not_lt_zero j), Below.refl _ _⟩
    case round =>
      obtain ⟨i, hi, rfl, HV, hb⟩ := hrel
      have HB := Lib.hid hb
      by_cases hlt : i < n
      · obtain ⟨x, hx⟩ : ∃ x, xs[i]? = some x := ⟨_, List.getElem?_eq_getElem (by rw [HN.out]; exact hlt)⟩
        obtain ⟨y, hy⟩ : ∃ y, ys[i]? = some y := ⟨_, List.getElem?_eq_getElem (by rw [HLY.out]; exact hlt)⟩
        obtain ⟨ab, ao, rfl, z0, z1⟩ := term_at (HX.out.below HB.out) hx
        obtain ⟨bb, bo, rfl, y0, y1⟩ := term_at (HY.out.below HB.out) hy
        have hal : Below wr.heap.size wr ((wr.alloc (.cells #[.string x.1, x.2.1] 37)).alloc (.cells #[.string y.1, y.2.1] 37)) := ((Below.refl _ _).alloc (Nat.le_refl _) _).alloc (by simp) _
        have y0' := cell_kept ((Below.refl wr.heap.size wr).alloc (Nat.le_refl _) (.cells #[.string x.1, x.2.1] 37)) y0
        have y1' := cell_kept ((Below.refl wr.heap.size wr).alloc (Nat.le_refl _) (.cells #[.string x.1, x.2.1] 37)) y1
        have HAL := Lib.hid (below_next hb hal)
        have C := Lib.hid (same1_calls _ x.1 y.1 x.2.1 y.2.1 x.2.2 y.2.2 ((HXI.out x (List.mem_of_getElem? hx)).below HAL.out) ((HYI.out y (List.mem_of_getElem? hy)).below HAL.out))
        obtain ⟨XA, xc, vsx, hxv, _⟩ := HXI.out x (List.mem_of_getElem? hx)
        obtain ⟨YA, yc, vsy, hyv, _⟩ := HYI.out y (List.mem_of_getElem? hy)
        obtain ⟨b, hbb⟩ : ∃ b, decide (x.1 = y.1 ∧ x.2.2 = y.2.2) = b := ⟨_, rfl⟩
        rw [hbb] at C
        have HXX : Hid ((xs.map keyT)[i]? = some (keyT x)) := by show _ = _; rw [HK.out, hx]; rfl
        have HYY : Hid ((ys.map keyT)[i]? = some (keyT y)) := by show _ = _; rw [HK.out, hy]; rfl
        have HBB := Lib.hid hbb
        obtain ⟨xf, xv, xp⟩ := x
        obtain ⟨yf, yv, yp⟩ := y
        simp only at z0 z1 y0 y1 y0' y1' C HAL hxv hyv
        subst hxv hyv
        clear hx hy hbb hal hb
        go_wp2_with fail
        refine C.out.mono ?_
        rintro r w3 ⟨rfl, hb3⟩
        have HB3 := Lib.hid (below_next HAL.out hb3)
        clear hb3 C z0 z1 y0 y1 y0' y1'
        cases b
        · have HR : Hid (decide (xs.map keyT = ys.map keyT) = false) := by
            show _ = _
            rw [decide_eq_false_iff_not]
            intro h
            rw [h, HYY.out] at HXX
            have h2 := Option.some.inj HXX.out
            have h3 := of_decide_eq_false HBB.out
            simp only [keyT, Prod.mk.injEq] at h2
            exact h3 ⟨h2.1.symm, h2.2.symm⟩
          go_wp2_with fail
          go_ret
          exact ⟨by rw [HR.out]; rfl, HB3.out⟩
        · have HN1 : Hid (∀ j, j < i + 1 → (xs.map keyT)[j]? = (ys.map keyT)[j]?) := fun j hj => by
            by_cases e : j = i
            · have h3 := of_decide_eq_true HBB.out
              rw [e, HXX.out, HYY.out]
              simp only [keyT, h3.1, h3.2]
            · exact HV.out j (by omega)
          have hwi : IntKind.i64.wrap ((i : Int) + 1) = (i : Int) + 1 := by rw [IntKind.wrap_i64]; omega
          go_wp2_with fail
          go_roundw
          case rel => exact ⟨i + 1, by omega, by go_num, HN1, HB3.out⟩
          case measure => simp [intOf]; omega
      · have HR : Hid (decide (xs.map keyT = ys.map keyT) = true) := by
          show _ = _
          rw [decide_eq_true_iff]
          apply List.ext_getElem?
          intro j
          by_cases hj : j < n
          · exact HV.out j (by omega)
          · rw [List.getElem?_eq_none (by rw [List.length_map, HN.out]; omega), List.getElem?_eq_none (by rw [List.length_map, HLY.out]; omega)]
        clear hb
        go_wp2_with fail
        go_ret
        exact ⟨by rw [HR.out]; rfl, HB.out⟩
  · have HR : Hid (decide (xs.map keyT = ys.map keyT) = false) := by
      show _ = _
      rw [decide_eq_false_iff_not]
      intro h
      have := congrArg List.length h
      rw [List.length_map, List.length_map] at this
      exact hl this
    have hne : ((xs.length : Int) != ys.length) = true := by simp; omega
    have hne2 : (xs.length != ys.length) = true := by simpa using hl
    clear hx hy hl hxi hyi hkx
    generalize xs.length = n at *
    generalize ys.length = m at *
    go_enter Tryz.func12, Tryz.ntmps12
    go_wp2_with fail
    go_ret
    exact ⟨by rw [HR.out]; rfl, Below.refl _ _⟩
/-- How lists of terms are read; by its rows. -/
theorem RTerms.parts {w : World} {v : Value} {l : List TermM} (h : RTerms w v l) : ∃ A c, ∃ vs : List MTerm, v = .slice A vs.length c ∧ IsSl w 2 A vs.length c (tmCells vs) ∧ (∀ s ∈ vs, RPosts w s.2.1 s.2.2) ∧ vs.map (fun s => (s.1, s.2.2)) = l := by
  obtain ⟨A, c, vs, h1, h2, h3, h4⟩ := h
  exact ⟨A, c, vs, h1, h2, h3, h4⟩
set_option maxHeartbeats 2000000 in
theorem tsame_calls (w : World) (u v : Value) (xs ys : List TermM) (hx : RTerms w u xs) (hy : RTerms w v ys) :
    Calls Tryz.prog 6 #[u, v] w fun r w' => r = .returned (.bool (decide (xs = ys))) ∧ Below w.heap.size w w' := by
  obtain ⟨A, c, vx, rfl, hsx, hix, hmx⟩ := hx.parts
  obtain ⟨B, e, vy, rfl, hsy, hiy, hmy⟩ := hy.parts
  have h := eqte_calls w A c vx hsx hix B e vy hsy hiy
  rw [show vx.map keyT = xs from hmx, show vy.map keyT = ys from hmy] at h
  have C := Lib.hid h
  clear h hsx hsy hix hiy hmx hmy
  go_enter Tryz.func6, Tryz.ntmps6
  go_wp2_with fail
  refine C.out.mono ?_
  rintro r w2 ⟨rfl, hb⟩
  have HB := Lib.hid hb
  clear hb C
  go_wp2_with fail
  go_ret
  exact ⟨rfl, HB.out⟩
end Trm
end Go.Proofs.YtfohollhdaedlaaGreatDoor
/- Terms: the document's answer on lists of postings: the walk of the reference's SameList. -/
set_option linter.unusedVariables false
set_option linter.unusedSimpArgs false
set_option maxRecDepth 100000
namespace Go.Proofs.YtfohollhdaedlaaGreatDoor
open Go.RowKit
namespace Trm
set_option maxHeartbeats 16000000 in
theorem rsamelist_calls (w : World) (A : Option Addr) (c : Nat) (xs : List MPost) (hx : IsSl w 2 A xs.length c (poCells xs)) (hxi : ∀ s ∈ xs, RSpots w s.2.1 s.2.2) (B : Option Addr) (e : Nat) (ys : List MPost) (hy : IsSl w 2 B ys.length e (poCells ys)) (hyi : ∀ s ∈ ys, RSpots w s.2.1 s.2.2) :
    Calls Tryz.prog 21 #[.slice A xs.length c, .slice B ys.length e] w fun r w' => r = .returned (.bool (decide (xs.map keyP = ys.map keyP))) ∧ Below w.heap.size w w' := by
  have h1 := hx.2.1
  have h2 := hx.2.2.1
  have h3 := hy.2.1
  have h4 := hy.2.2.1
  unfold maxLen at h2 h4
  have hkx : ∀ (l : List MPost) (i : Nat), (l.map keyP)[i]? = l[i]?.map keyP := fun l i => List.getElem?_map ..
  by_cases hl : xs.length = ys.length
  · have HX := Lib.hid hx
    have HY := Lib.hid hy
    have HXI := Lib.hid hxi
    have HYI := Lib.hid hyi
    have HK := Lib.hid hkx
    have HLY : Hid (ys.length = xs.length) := hl.symm
    rw [← hl] at h3 ⊢
    obtain ⟨n, hn⟩ : ∃ n, xs.length = n := ⟨_, rfl⟩
    have HN := Lib.hid hn
    rw [hn] at h1 h3 ⊢
    rw [hn] at HX HLY
    rw [← hl, hn] at HY
    clear hn hl hx hy hxi hyi hkx
    go_enter Tryz.func21, Tryz.ntmps21
    go_wp2_with fail
    go_loopw [20] (fun ix wr => ∃ i : Nat, i ≤ n ∧ ix = .int .i64 i ∧ Hid (∀ j, j < i → (xs.map keyP)[j]? = (ys.map keyP)[j]?) ∧ Below w.heap.size w wr) (fun ix _ => n - (intOf ix).toNat)
    case atStart => exact ⟨0, Nat.zero_le _, rfl, fun j hj => absurd hj (Nat.not_lt_zero j), Below.refl _ _⟩
    case round =>
      obtain ⟨i, hi, rfl, HV, hb⟩ := hrel
      have HB := Lib.hid hb
      by_cases hlt : i < n
      · obtain ⟨x, hx⟩ : ∃ x, xs[i]? = some x := ⟨_, List.getElem?_eq_getElem (by rw [HN.out]; exact hlt)⟩
        obtain ⟨y, hy⟩ : ∃ y, ys[i]? = some y := ⟨_, List.getElem?_eq_getElem (by rw [HLY.out]; exact hlt)⟩
        obtain ⟨ab, ao, rfl, z0, z1⟩ := post_at (HX.out.below HB.out) hx
        obtain ⟨bb, bo, rfl, y0, y1⟩ := post_at (HY.out.below HB.out) hy
        have HXX : Hid ((xs.map keyP)[i]? = some (keyP x)) := by show _ = _; rw [HK.out, hx]; rfl
        have HYY : Hid ((ys.map keyP)[i]? = some (keyP y)) := by show _ = _; rw [HK.out, hy]; rfl
        have hrx := HXI.out x (List.mem_of_getElem? hx)
        have hry := HYI.out y (List.mem_of_getElem? hy)
        obtain ⟨xf, xv, xp⟩ := x
        obtain ⟨yf, yv, yp⟩ := y
        have HD1 : Hid (¬ (xf = yf ∧ xp = yp) → decide (xs.map keyP = ys.map keyP) = false) := fun hn => by
          rw [decide_eq_false_iff_not]
          intro h
          rw [h, HYY.out] at HXX
          have h2 := Option.some.inj HXX.out
          simp only [keyP, Prod.mk.injEq] at h2
          exact hn ⟨h2.1.symm, h2.2.symm⟩
        have HE1 : Hid (xf = yf → xp = yp → (xs.map keyP)[i]? = (ys.map keyP)[i]?) := fun h1 h2 => by rw [HXX.out, HYY.out, keyP, keyP, h1, h2]
        obtain ⟨XA, xc, sx, hxv, hsx, hix, hmx⟩ := hrx
        obtain ⟨YA, yc, sy, hyv, hsy, hiy, hmy⟩ := hry
        simp only at z0 z1 y0 y1 hxv hyv hmx hmy
        subst hxv hyv
        obtain ⟨m, hm⟩ : ∃ m, sx.length = m := ⟨_, rfl⟩
        obtain ⟨m', hm'⟩ : ∃ m', sy.length = m' := ⟨_, rfl⟩
        rw [hm] at z1 hsx
        rw [hm'] at y1 hsy
        have HM := Lib.hid hm
        have HM' := Lib.hid hm'
        have HSX := Lib.hid hsx
        have HSY := Lib.hid hsy
        have HIX := Lib.hid hix
        have HIY := Lib.hid hiy
        have HMX := Lib.hid hmx
        have HMY := Lib.hid hmy
        have hb1 : Below wr.heap.size wr (wr.alloc (.cells #[.int .i64 xf, .slice XA m xc] 41)) := (Below.refl _ _).alloc (Nat.le_refl _) _
        have y0' := cell_kept hb1 y0
        have y1' := cell_kept hb1 y1
        obtain ⟨w2, hw2⟩ : ∃ w2, (wr.alloc (.cells #[.int .i64 xf, .slice XA m xc] 41)).alloc (.cells #[.int .i64 yf, .slice YA m' yc] 41) = w2 := ⟨_, rfl⟩
        have hb2 : Below wr.heap.size wr w2 := by rw [← hw2]; exact hb1.alloc (by simp) _
        have HBY : Hid (w2.cell? ⟨wr.heap.size + 1, 1, none⟩ = some (.slice YA m' yc)) := by
          show _ = _
          rw [← hw2]
          simp
        have HBL := Lib.hid (below_next hb hb2)
        have HW2 := Lib.hid hw2
        have hwi : IntKind.i64.wrap ((i : Int) + 1) = (i : Int) + 1 := by rw [IntKind.wrap_i64]; omega
        have hmc := hsx.2.1
        have hmm := hsx.2.2.1
        have hmc' := hsy.2.1
        have hmm' := hsy.2.2.1
        unfold maxLen at hmm hmm'
        clear hx hy hsx hsy hix hiy hmx hmy hb hb1 hb2 hw2 hm hm'
        by_cases hf : xf = yf
        · by_cases hls : m = m'
          · subst hf hls
            have hfe : ((xf : Int) != xf) = false := by simp
            have hlm : ((m : Int) != m) = false := by simp
            have HDP : Hid (xp ≠ yp → decide (xs.map keyP = ys.map keyP) = false) := fun h => HD1.out (fun hh => h hh.2)
            have HEP : Hid (xp = yp → (xs.map keyP)[i]? = (ys.map keyP)[i]?) := fun h => HE1.out rfl h
            clear HD1 HE1
            go_wp2_with fail
            rw [HW2.out]
            clear y0 y1 y0' y1' z0 z1
            obtain ⟨wz, hwz⟩ : ∃ wz, wz = wr := ⟨_, rfl⟩
            subst hwz
            go_loopw [46] (fun ix wr => ∃ k : Nat, k ≤ m ∧ ix = .int .i64 k ∧ Hid (∀ j, j < k → (sx.map keyS)[j]? = (sy.map keyS)[j]?) ∧ Below w2.heap.size w2 wr) (fun ix _ => m - (intOf ix).toNat)
            case atStart => exact ⟨0, Nat.zero_le _, rfl, fun j hj => absurd hj (Nat.not_lt_zero j), Below.refl _ _⟩
            case round =>
              obtain ⟨k, hk, rfl, HV2, hb⟩ := hrel
              have HB2 := Lib.hid hb
              have HBR := Lib.hid (below_next HBL.out hb)
              by_cases hkm : k < m
              · obtain ⟨s, hs⟩ : ∃ s, sx[k]? = some s := ⟨_, List.getElem?_eq_getElem (by rw [HM.out]; exact hkm)⟩
                obtain ⟨t, ht⟩ : ∃ t, sy[k]? = some t := ⟨_, List.getElem?_eq_getElem (by rw [HM'.out]; exact hkm)⟩
                obtain ⟨sb, so, rfl, p0, p1⟩ := spot_at (HSX.out.below HBR.out) hs
                obtain ⟨tb, tq, rfl, t0, t1⟩ := spot_at (HSY.out.below HBR.out) ht
                have HSS : Hid ((sx.map keyS)[k]? = some (keyS s)) := by show _ = _; rw [List.getElem?_map, hs]; rfl
                have HTT : Hid ((sy.map keyS)[k]? = some (keyS t)) := by show _ = _; rw [List.getElem?_map, ht]; rfl
                obtain ⟨SA, sc, hsv, hss⟩ := HIX.out s (List.mem_of_getElem? hs)
                obtain ⟨TA, tc, htv, hts⟩ := HIY.out t (List.mem_of_getElem? ht)
                obtain ⟨sf, sv, sl⟩ := s
                obtain ⟨tf, tv, tl⟩ := t
                simp only at p0 p1 t0 t1 hsv htv hss hts
                subst hsv htv
                have HD2 : Hid (¬ (sf = tf ∧ sl = tl) → decide (xs.map keyP = ys.map keyP) = false) := fun hn => HDP.out fun h => by
                  have h2 : sx.map keyS = sy.map keyS := HMX.out.trans (h.trans HMY.out.symm)
                  have h3 := HSS.out
                  rw [h2, HTT.out] at h3
                  have h4 := Option.some.inj h3
                  simp only [keyS, Prod.mk.injEq] at h4
                  exact hn ⟨h4.1.symm, h4.2.symm⟩
                have HE2 : Hid (sf = tf → sl = tl → (sx.map keyS)[k]? = (sy.map keyS)[k]?) := fun h1 h2 => by rw [HSS.out, HTT.out, keyS, keyS, h1, h2]
                obtain ⟨p, hp⟩ : ∃ p, sl.length = p := ⟨_, rfl⟩
                obtain ⟨p', hp'⟩ : ∃ p', tl.length = p' := ⟨_, rfl⟩
                rw [hp] at p1 hss
                rw [hp'] at t1 hts
                have HP := Lib.hid hp
                have HP' := Lib.hid hp'
                have HS3 := Lib.hid hss
                have HT3 := Lib.hid hts
                have hpc := hss.2.1
                have hpm := hss.2.2.1
                have hpc' := hts.2.1
                have hpm' := hts.2.2.1
                unfold maxLen at hpm hpm'
                have hb3 : Below wr.heap.size wr (wr.alloc (.cells #[.int .i64 sf, .slice SA p sc] 64)) := (Below.refl _ _).alloc (Nat.le_refl _) _
                have t0' := cell_kept hb3 t0
                have t1' := cell_kept hb3 t1
                have ybox := cell_kept hb3 (cell_kept hb HBY.out)
                obtain ⟨w3, hw3⟩ : ∃ w3, (wr.alloc (.cells #[.int .i64 sf, .slice SA p sc] 64)).alloc (.cells #[.int .i64 tf, .slice TA p' tc] 64) = w3 := ⟨_, rfl⟩
                have hb4 : Below wr.heap.size wr w3 := by rw [← hw3]; exact hb3.alloc (by simp) _
                have HBT : Hid (w3.cell? ⟨wr.heap.size + 1, 1, none⟩ = some (.slice TA p' tc)) := by
                  show _ = _
                  rw [← hw3]
                  simp
                have HB4 := Lib.hid (below_next HB2.out hb4)
                have HBL4 := Lib.hid (below_next HBR.out hb4)
                have HW3 := Lib.hid hw3
                have hwk : IntKind.i64.wrap ((k : Int) + 1) = (k : Int) + 1 := by rw [IntKind.wrap_i64]; omega
                clear hs ht hss hts hp hp' hb hb3 hb4 hw3
                by_cases hsf : sf = tf
                · by_cases hls2 : p = p'
                  · subst hsf hls2
                    have hse : ((sf : Int) != sf) = false := by simp
                    have hlp : ((p : Int) != p) = false := by simp
                    have HDS : Hid (sl ≠ tl → decide (xs.map keyP = ys.map keyP) = false) := fun h => HD2.out (fun hh => h hh.2)
                    have HES : Hid (sl = tl → (sx.map keyS)[k]? = (sy.map keyS)[k]?) := fun h => HE2.out rfl h
                    clear HD2 HE2
                    go_wp2_with fail
                    rw [HW3.out]
                    clear t0 t1 t0' t1' p0 p1 ybox
                    obtain ⟨wy, hwy⟩ : ∃ wy, wy = wr := ⟨_, rfl⟩
                    subst hwy
                    go_loopw [73] (fun ix wr => ∃ q : Nat, q ≤ p ∧ ix = .int .i64 q ∧ Hid (∀ j, j < q → sl[j]? = tl[j]?) ∧ Below w3.heap.size w3 wr) (fun ix _ => p - (intOf ix).toNat)
                    case atStart => exact ⟨0, Nat.zero_le _, rfl, fun j hj => absurd hj (Nat.not_lt_zero j), Below.refl _ _⟩
                    case round =>
                      obtain ⟨q, hq, rfl, HV3, hb⟩ := hrel
                      have HB5 := Lib.hid hb
                      have HBF := Lib.hid (below_next HBL4.out hb)
                      by_cases hqp : q < p
                      · obtain ⟨x1, hx1⟩ : ∃ x1, sl[q]? = some x1 := ⟨_, List.getElem?_eq_getElem (by rw [HP.out]; exact hqp)⟩
                        obtain ⟨y1, hy1⟩ : ∃ y1, tl[q]? = some y1 := ⟨_, List.getElem?_eq_getElem (by rw [HP'.out]; exact hqp)⟩
                        obtain ⟨sd, rfl, q0⟩ := int_at (HS3.out.below HBF.out) hx1
                        obtain ⟨td, rfl, q1⟩ := int_at (HT3.out.below HBF.out) hy1
                        have tbox := cell_kept hb HBT.out
                        have hwq : IntKind.i64.wrap ((q : Int) + 1) = (q : Int) + 1 := by rw [IntKind.wrap_i64]; omega
                        have HX1 := Lib.hid hx1
                        have HY1 := Lib.hid hy1
                        clear hx1 hy1 hb
                        by_cases hxy : x1 = y1
                        · subst hxy
                          have hne : ((x1 : Int) != x1) = false := by simp
                          have HN3 : Hid (∀ j, j < q + 1 → sl[j]? = tl[j]?) := fun j hj => by
                            by_cases e : j = q
                            · rw [e, HX1.out, HY1.out]
                            · exact HV3.out j (by omega)
                          go_wp2_with fail
                          go_roundw
                          case rel => exact ⟨q + 1, by omega, by go_num, HN3, HB5.out⟩
                          case measure => simp [intOf]; omega
                        · have hne : ((y1 : Int) != x1) = true := by simp; exact fun h => hxy h.symm
                          have HR := Lib.hid (HDS.out (fun h => by
                            have h3 := HX1.out
                            rw [h, HY1.out] at h3
                            exact hxy (Option.some.inj h3).symm))
                          go_wp2_with fail
                          go_ret
                          exact ⟨by rw [HR.out]; rfl, HBF.out⟩
                      · obtain rfl : q = p := by omega
                        have HSL : Hid (sl = tl) := by
                          apply List.ext_getElem?
                          intro j
                          by_cases hj : j < q
                          · exact HV3.out j hj
                          · rw [List.getElem?_eq_none (by rw [HP.out]; omega), List.getElem?_eq_none (by rw [HP'.out]; omega)]
                        have HN2 : Hid (∀ j, j < k + 1 → (sx.map keyS)[j]? = (sy.map keyS)[j]?) := fun j hj => by
                          by_cases e : j = k
                          · rw [e]; exact HES.out HSL.out
                          · exact HV2.out j (by omega)
                        have HB6 := Lib.hid (below_next HB4.out HB5.out)
                        clear hb
                        go_wp2_with fail
                        go_roundw
                        case rel => exact ⟨k + 1, by omega, by go_num, HN2, HB6.out⟩
                        case measure => simp [intOf]; omega
                  · subst hsf
                    have hse : ((sf : Int) != sf) = false := by simp
                    have hlp : ((p : Int) != p') = true := by simp; omega
                    have HR := Lib.hid (HD2.out (fun h => by
                      have h2 := congrArg List.length h.2
                      rw [HP.out, HP'.out] at h2
                      exact hls2 h2))
                    go_wp2_with fail
                    go_ret
                    exact ⟨by rw [HR.out]; rfl, by rw [HW3.out]; exact HBL4.out⟩
                · have hse : ((sf : Int) != tf) = true := by simp [hsf]
                  have HR := Lib.hid (HD2.out (fun h => hsf h.1))
                  go_wp2_with fail
                  go_ret
                  exact ⟨by rw [HR.out]; rfl, by rw [HW3.out]; exact HBL4.out⟩
              · obtain rfl : k = m := by omega
                have HXP : Hid (xp = yp) := HMX.out.symm.trans ((show sx.map keyS = sy.map keyS from by
                  apply List.ext_getElem?
                  intro j
                  by_cases hj : j < k
                  · exact HV2.out j hj
                  · rw [List.getElem?_eq_none (by rw [List.length_map, HM.out]; omega), List.getElem?_eq_none (by rw [List.length_map, HM'.out]; omega)]).trans HMY.out)
                have HN1 : Hid (∀ j, j < i + 1 → (xs.map keyP)[j]? = (ys.map keyP)[j]?) := fun j hj => by
                  by_cases e : j = i
                  · rw [e]; exact HEP.out HXP.out
                  · exact HV.out j (by omega)
                clear hb
                go_wp2_with fail
                go_roundw
                case rel => exact ⟨i + 1, by omega, by go_num, HN1, HBR.out⟩
                case measure => simp [intOf]; omega
          · have hle : ((m : Int) != m') = true := by simp; omega
            have HR := Lib.hid (HD1.out (fun h => by
              have h2 := congrArg List.length (HMX.out.trans (h.2.trans HMY.out.symm))
              rw [List.length_map, List.length_map, HM.out, HM'.out] at h2
              exact hls h2))
            subst hf
            have hfe : ((xf : Int) != xf) = false := by simp
            go_wp2_with fail
            go_ret
            exact ⟨by rw [HR.out]; rfl, by rw [HW2.out]; exact HBL.out⟩
        · have hfe : ((xf : Int) != yf) = true := by simp [hf]
          have HR := Lib.hid (HD1.out (fun h => hf h.1))
          go_wp2_with fail
          go_ret
          exact ⟨by rw [HR.out]; rfl, by rw [HW2.out]; exact HBL.out⟩
      · have HR : Hid (decide (xs.map keyP = ys.map keyP) = true) := by
          show _ = _
          rw [decide_eq_true_iff]
          apply List.ext_getElem?
          intro j
          by_cases hj : j < n
          · exact HV.out j (by omega)
          · rw [List.getElem?_eq_none (by rw [List.length_map, HN.out]; omega), List.getElem?_eq_none (by rw [List.length_map, HLY.out]; omega)]
        clear hb
        go_wp2_with fail
        go_ret
        exact ⟨by rw [HR.out]; rfl, HB.out⟩
  · have HR : Hid (decide (xs.map keyP = ys.map keyP) = false) := by
      show _ = _
      rw [decide_eq_false_iff_not]
      intro h
      have := congrArg List.length h
      rw [List.length_map, List.length_map] at this
      exact hl this
    have hne : ((xs.length : Int) != ys.length) = true := by simp; omega
    have hne2 : (xs.length != ys.length) = true := by simpa using hl
    clear hx hy hl hxi hyi hkx
    generalize xs.length = n at *
    generalize ys.length = m at *
    go_enter Tryz.func21, Tryz.ntmps21
    go_wp2_with fail
    go_ret
    exact ⟨by rw [HR.out]; rfl, Below.refl _ _⟩
end Trm
end Go.Proofs.YtfohollhdaedlaaGreatDoor
/- Terms: the document's answer on lists of terms: the walk of the reference's Same. -/
set_option linter.unusedVariables false
set_option linter.unusedSimpArgs false
set_option maxRecDepth 100000
namespace Go.Proofs.YtfohollhdaedlaaGreatDoor
open Go.RowKit
namespace Trm
theorem rsl_calls (w : World) (u v : Value) (xs ys : List PostM) (hx : RPosts w u xs) (hy : RPosts w v ys) :
    Calls Tryz.prog 21 #[u, v] w fun r w' => r = .returned (.bool (decide (xs = ys))) ∧ Below w.heap.size w w' := by
  obtain ⟨A, c, vx, rfl, hsx, hix, hmx⟩ := hx
  obtain ⟨B, e, vy, rfl, hsy, hiy, hmy⟩ := hy
  have h := rsamelist_calls w A c vx hsx hix B e vy hsy hiy
  rw [show vx.map keyP = xs from hmx, show vy.map keyP = ys from hmy] at h
  exact h
set_option maxHeartbeats 8000000 in
theorem rsamete_calls (w : World) (A : Option Addr) (c : Nat) (xs : List MTerm) (hx : IsSl w 2 A xs.length c (tmCells xs)) (hxi : ∀ s ∈ xs, RPosts w s.2.1 s.2.2) (B : Option Addr) (e : Nat) (ys : List MTerm) (hy : IsSl w 2 B ys.length e (tmCells ys)) (hyi : ∀ s ∈ ys, RPosts w s.2.1 s.2.2) :
    Calls Tryz.prog 9 #[.slice A xs.length c, .slice B ys.length e] w fun r w' => r = .returned (.bool (decide (xs.map keyT = ys.map keyT))) ∧ Below w.heap.size w w' := by
  have h1 := hx.2.1
  have h2 := hx.2.2.1
  have h3 := hy.2.1
  have h4 := hy.2.2.1
  unfold maxLen at h2 h4
  have hkx : ∀ (l : List MTerm) (i : Nat), (l.map keyT)[i]? = l[i]?.map keyT := fun l i => List.getElem?_map ..
  by_cases hl : xs.length = ys.length
  · have HX := Lib.hid hx
    have HY := Lib.hid hy
    have HXI := Lib.hid hxi
    have HYI := Lib.hid hyi
    have HK := Lib.hid hkx
    have HLY : Hid (ys.length = xs.length) := hl.symm
    rw [← hl] at h3 ⊢
    obtain ⟨n, hn⟩ : ∃ n, xs.length = n := ⟨_, rfl⟩
    have HN := Lib.hid hn
    rw [hn] at h1 h3 ⊢
    rw [hn] at HX HLY
    rw [← hl, hn] at HY
    clear hn hl hx hy hxi hyi hkx
    go_enter Tryz.func9, Tryz.ntmps9
    go_wp2_with fail
    go_loopw [14] (fun ix wr => ∃ i : Nat, i ≤ n ∧ ix = .int .i64 i ∧ Hid (∀ j, j < i → (xs.map keyT)[j]? = (ys.map keyT)[j]?) ∧ Below w.heap.size w wr) (fun ix _ => n - (intOf ix).toNat)
    case atStart => exact ⟨0, Nat.zero_le _, rfl, fun j hj => absurd hj (Nat.not_lt_zero j), Below.refl _ _⟩
    case round =>
      obtain ⟨i, hi, rfl, HV, hb⟩ := hrel
      have HB := Lib.hid hb
      by_cases hlt : i < n
      · obtain ⟨x, hx⟩ : ∃ x, xs[i]? = some x := ⟨_, List.getElem?_eq_getElem (by rw [HN.out]; exact hlt)⟩
        obtain ⟨y, hy⟩ : ∃ y, ys[i]? = some y := ⟨_, List.getElem?_eq_getElem (by rw [HLY.out]; exact hlt)⟩
        obtain ⟨ab, ao, rfl, z0, z1⟩ := term_at (HX.out.below HB.out) hx
        obtain ⟨bb, bo, rfl, y0, y1⟩ := term_at (HY.out.below HB.out) hy
        have HXX : Hid ((xs.map keyT)[i]? = some (keyT x)) := by show _ = _; rw [HK.out, hx]; rfl
        have HYY : Hid ((ys.map keyT)[i]? = some (keyT y)) := by show _ = _; rw [HK.out, hy]; rfl
        have hrx := HXI.out x (List.mem_of_getElem? hx)
        have hry := HYI.out y (List.mem_of_getElem? hy)
        obtain ⟨xf, xv, xp⟩ := x
        obtain ⟨yf, yv, yp⟩ := y
        have HD1 : Hid (¬ (xf = yf ∧ xp = yp) → decide (xs.map keyT = ys.map keyT) = false) := fun hn => by
          rw [decide_eq_false_iff_not]
          intro h
          rw [h, HYY.out] at HXX
          have h2 := Option.some.inj HXX.out
          simp only [keyT, Prod.mk.injEq] at h2
          exact hn ⟨h2.1.symm, h2.2.symm⟩
        have HE1 : Hid (xf = yf → xp = yp → (xs.map keyT)[i]? = (ys.map keyT)[i]?) := fun h1 h2 => by rw [HXX.out, HYY.out, keyT, keyT, h1, h2]
        simp only at z0 z1 y0 y1 hrx hry
        obtain ⟨b, hbb⟩ : ∃ b, decide (xp = yp) = b := ⟨_, rfl⟩
        have HBB := Lib.hid hbb
        obtain ⟨w2, hw2⟩ : ∃ w2, wr.alloc (.cells #[.string xf, xv] 37) = w2 := ⟨_, rfl⟩
        have hb2 : Below wr.heap.size wr w2 := by rw [← hw2]; exact (Below.refl _ _).alloc (Nat.le_refl _) _
        have HBL := Lib.hid (below_next hb hb2)
        have HC : Hid (∀ n : After w2, Calls Tryz.prog 21 #[xv, yv] n.w fun r w' => r = .returned (.bool b) ∧ Below n.w.heap.size n.w w') := fun n => by
          rw [← hbb]
          exact rsl_calls n.w xv yv xp yp ((hrx.below HBL.out).below n.below) ((hry.below HBL.out).below n.below)
        obtain ⟨XA, xc, vsx, hxv, _⟩ := hrx
        obtain ⟨YA, yc, vsy, hyv, _⟩ := hry
        generalize vsx.length = xn at *
        generalize vsy.length = yn at *
        subst hxv hyv
        obtain ⟨q, hq⟩ : ∃ q, wr.heap.size = q := ⟨_, rfl⟩
        have a0 : ∀ n : After w2, n.w.cell? ⟨q, 0, none⟩ = some (.string xf) := fun n => n.cell (by rw [← hw2, ← hq]; exact cell_new _ _ _ _ 0)
        have a1 : ∀ n : After w2, n.w.cell? ⟨q, 1, none⟩ = some (.slice XA xn xc) := fun n => n.cell (by rw [← hw2, ← hq]; exact cell_new _ _ _ _ 1)
        have b0 : ∀ n : After w2, n.w.cell? ⟨bb, bo + i * 2, none⟩ = some (.string yf) := fun n => n.cell (cell_kept hb2 y0)
        have b1 : ∀ n : After w2, n.w.cell? ⟨bb, bo + i * 2 + 1, none⟩ = some (.slice YA yn yc) := fun n => n.cell (cell_kept hb2 y1)
        have HW2 := Lib.hid hw2
        have HQ := Lib.hid hq
        have hwi : IntKind.i64.wrap ((i : Int) + 1) = (i : Int) + 1 := by rw [IntKind.wrap_i64]; omega
        clear hx hy hb hb2 hw2 hbb y0 y1
        by_cases hf : xf = yf
        · subst hf
          have hfe : (xf.toList != xf.toList) = false := by simp
          have hfe2 : (xf.toList == xf.toList) = true := by simp
          have HDP : Hid (xp ≠ yp → decide (xs.map keyT = ys.map keyT) = false) := fun h => HD1.out (fun hh => h hh.2)
          have HEP : Hid (xp = yp → (xs.map keyT)[i]? = (ys.map keyT)[i]?) := fun h => HE1.out rfl h
          clear HD1 HE1
          go_wp2_with fail
          rw [HW2.out]
          refine wp_region_after (by kernel_rfl) (by kernel_rfl) ?_
          repeat (go_big_quiet_step (first | (go_at_call 21; exact Calls.after (HC.out _))))
          refine wpQuiet_nil ?_
          intro _ hw'
          obtain ⟨nq, hw''⟩ := hw'
          subst hw''
          have HB3 := Lib.hid (below_next HBL.out nq.below)
          clear a0 a1 b0 b1 HC
          cases b
          · have HR := Lib.hid (HDP.out (of_decide_eq_false HBB.out))
            go_wp2_with fail
            go_ret
            exact ⟨by rw [HR.out]; rfl, HB3.out⟩
          · have HN1 : Hid (∀ j, j < i + 1 → (xs.map keyT)[j]? = (ys.map keyT)[j]?) := fun j hj => by
              by_cases e : j = i
              · rw [e]; exact HEP.out (of_decide_eq_true HBB.out)
              · exact HV.out j (by omega)
            go_wp2_with fail
            go_roundw
            case rel => exact ⟨i + 1, by omega, by go_num, HN1, HB3.out⟩
            case measure => simp [intOf]; omega
        · have hfe : (xf.toList != yf.toList) = true := by rw [bne, toList_beq]; simp [hf]
          have hfe2 : (xf.toList == yf.toList) = false := by rw [toList_beq]; simp [hf]
          have HR := Lib.hid (HD1.out (fun h => hf h.1))
          go_wp2_with fail
          rw [HW2.out]
          refine wp_region_after (by kernel_rfl) (by kernel_rfl) ?_
          repeat (go_big_quiet_step (first | (fail)))
          refine wpQuiet_nil ?_
          intro _ hw'
          obtain ⟨nq, hw''⟩ := hw'
          subst hw''
          have HB3 := Lib.hid (below_next HBL.out nq.below)
          clear a0 a1 b0 b1 HC
          go_wp2_with fail
          go_ret
          exact ⟨by rw [HR.out]; rfl, HB3.out⟩
      · have HR : Hid (decide (xs.map keyT = ys.map keyT) = true) := by
          show _ = _
          rw [decide_eq_true_iff]
          apply List.ext_getElem?
          intro j
          by_cases hj : j < n
          · exact HV.out j (by omega)
          · rw [List.getElem?_eq_none (by rw [List.length_map, HN.out]; omega), List.getElem?_eq_none (by rw [List.length_map, HLY.out]; omega)]
        clear hb
        go_wp2_with fail
        go_ret
        exact ⟨by rw [HR.out]; rfl, HB.out⟩
  · have HR : Hid (decide (xs.map keyT = ys.map keyT) = false) := by
      show _ = _
      rw [decide_eq_false_iff_not]
      intro h
      have := congrArg List.length h
      rw [List.length_map, List.length_map] at this
      exact hl this
    have hne : ((xs.length : Int) != ys.length) = true := by simp; omega
    have hne2 : (xs.length != ys.length) = true := by simpa using hl
    clear hx hy hl hxi hyi hkx
    generalize xs.length = n at *
    generalize ys.length = m at *
    go_enter Tryz.func9, Tryz.ntmps9
    go_wp2_with fail
    go_ret
    exact ⟨by rw [HR.out]; rfl, Below.refl _ _⟩
theorem rsame_calls (w : World) (u v : Value) (xs ys : List TermM) (hx : RTerms w u xs) (hy : RTerms w v ys) :
    Calls Tryz.prog 9 #[u, v] w fun r w' => r = .returned (.bool (decide (xs = ys))) ∧ Below w.heap.size w w' := by
  obtain ⟨A, c, vx, rfl, hsx, hix, hmx⟩ := hx.parts
  obtain ⟨B, e, vy, rfl, hsy, hiy, hmy⟩ := hy.parts
  have h := rsamete_calls w A c vx hsx hix B e vy hsy hiy
  rw [show vx.map keyT = xs from hmx, show vy.map keyT = ys from hmy] at h
  exact h
end Trm
end Go.Proofs.YtfohollhdaedlaaGreatDoor
