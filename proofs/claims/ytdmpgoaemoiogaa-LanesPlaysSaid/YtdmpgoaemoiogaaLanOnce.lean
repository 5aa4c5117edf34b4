/- Lanes: the walk of LanesOnce. Written by lanonce.py. -/
import Derived.Test.YtdmpgoaemoiogaaLanOpen
import Derived.StillTailTactics
import Derived.BigQuiet
import Derived.Deep.LoopGhost
set_option linter.unusedVariables false
set_option linter.unusedSimpArgs false
set_option maxRecDepth 100000
namespace Go.Proofs.Ytdmpgoaemoiogaa
open Go.RowKit Go.Maps
namespace Box
theorem IsSl.pre {w : World} {A : Option Addr} {n c : Nat} {l : List Value} (h : IsSl w 1 A n c l) {k : Nat} (hk : k ≤ n) : IsSl w 1 A k c (l.take k) := by
  obtain ⟨h1, h2, h3, h4, h5⟩ := h
  refine ⟨by simp; omega, by omega, h3, fun ha => ⟨by have := h4 ha; omega, (h4 ha).2⟩, fun ad ha j u hu => h5 ad ha j u ?_⟩
  have hj := (List.getElem?_eq_some_iff.1 hu).1
  simp at hj
  rwa [List.getElem?_take, if_pos (by omega)] at hu
theorem IsSl.lt {w : World} {A : Option Addr} {n c : Nat} {l : List Value} (h : IsSl w 1 A n c l) (hn : 0 < n) {ad : Addr} (ha : A = some ad) : ad.block < w.heap.size := by
  obtain ⟨h1, h2, h3, h4, h5⟩ := h
  have hc := h5 ad ha 0 (l[0]'(by omega)) (List.getElem?_eq_getElem _)
  have := World.block_lt_of_cell? w _ hc
  simpa [Addr.add] using this
theorem byte_at {w : World} {A : Option Addr} {n c : Nat} {l : List Int} (h : IsSl w 1 A n c (l.map (.int .u8))) {i : Nat} (hi : i < n) : ∃ b o, A = some ⟨b, o, none⟩ ∧ w.cell? ⟨b, o + i, none⟩ = some (.int .u8 (l.getD i 0)) := by
  have hl : l.length = n := by have := h.1; simpa using this
  obtain ⟨ad, rfl, h0⟩ := h.at_ hi
  obtain ⟨ab, ao, sp⟩ := ad
  obtain ⟨_, hA, h00⟩ := h.at_ (show 0 < n by omega)
  cases hA
  have hsp := spot_none h00
  have hsp : sp = none := by simpa [Addr.add] using hsp
  subst hsp
  refine ⟨ab, ao, rfl, ?_⟩
  rw [Addr.add_lit] at h0
  rw [h0, List.getD_eq_getElem?_getD, List.getElem?_map, List.getElem?_eq_getElem (by omega), List.getD_eq_getElem?_getD, List.getElem?_eq_getElem (by omega)]
  rfl
/-- The parcels of a way are all the same message. -/
def SameQ (q : Int × Int → List Par) (sb : ByteArray) : Prop := ∀ x ∈ q (0, 1), x.1 = sb ∧ OkP x
theorem cell7 {w : World} {n : Nat} {a0 a1 a2 a3 a4 a5 a6 : Value} {t : TypeId} (h : w.heap[n]? = some (.cells #[a0, a1, a2, a3, a4, a5, a6] t (0, 0))) :
    w.cell? ⟨n, 0, none⟩ = some a0 ∧ w.cell? ⟨n, 1, none⟩ = some a1 ∧ w.cell? ⟨n, 2, none⟩ = some a2 ∧ w.cell? ⟨n, 3, none⟩ = some a3 ∧ w.cell? ⟨n, 4, none⟩ = some a4 ∧ w.cell? ⟨n, 5, none⟩ = some a5 ∧ w.cell? ⟨n, 6, none⟩ = some a6 :=
  ⟨by simp [World.cell?, h], by simp [World.cell?, h], by simp [World.cell?, h], by simp [World.cell?, h], by simp [World.cell?, h], by simp [World.cell?, h], by simp [World.cell?, h]⟩
theorem same_set {q : Int × Int → List Par} {sb : ByteArray} (h : SameQ q sb) {j : Nat} {x : Par} (hx : (q (0, 1))[j]? = some x) {a y : Int} (ha : I64 a) (hy : 0 ≤ y ∧ y ≤ 255) : SameQ (upd q (0, 1) ((q (0, 1)).set j (spoiled x a y))) sb := by
  intro z hz
  rw [upd_same] at hz
  rcases List.mem_or_eq_of_mem_set hz with h' | rfl
  · exact h z h'
  · obtain ⟨h1, h2⟩ := h x (List.mem_of_getElem? hx)
    refine ⟨h1, h2.1, ?_, hy.1, by show y < 256; omega⟩
    obtain ⟨a1, a2⟩ := ha
    exact ⟨by show 0 ≤ max a 0; omega, by show max a 0 ≤ _; omega⟩
theorem same_add {q : Int × Int → List Par} {sb : ByteArray} (h : SameQ q sb) {j : Nat} {x : Par} (hx : (q (0, 1))[j]? = some x) : SameQ (upd q (0, 1) (q (0, 1) ++ [x])) sb := by
  intro z hz
  rw [upd_same] at hz
  rcases List.mem_append.1 hz with h' | h'
  · exact h z h'
  · obtain rfl : z = x := by simpa using h'
    exact h z (List.mem_of_getElem? hx)
theorem same_erase {q : Int × Int → List Par} {sb : ByteArray} (h : SameQ q sb) (j : Nat) : SameQ (upd q (0, 1) ((q (0, 1)).eraseIdx j)) sb := by
  intro z hz
  rw [upd_same] at hz
  exact h z (List.mem_of_mem_eraseIdx hz)
/-- All but one byte come as they were sent. -/
theorem opened_at {x : Par} {bs : List Int} (hx : x.1 = strOfNums bs) (hb : Byt bs) {i : Nat} (hi : i ≠ x.2.1.toNat % x.1.size) : (opened x).getD i 0 = bs.getD i 0 := by
  unfold opened
  have hs : bs.length = x.1.size := by rw [hx, strOfNums_size]
  have hbo : bytesOf x.1 = bs := by rw [hx, bytesOf_strOfNums hb]
  split
  · rename_i h0
    rw [h0] at hs
    rw [List.eq_nil_of_length_eq_zero hs]
  · rw [List.getD_eq_getElem?_getD, List.getElem?_set_ne (Ne.symm hi), hbo, List.getD_eq_getElem?_getD]
theorem LnsF.len {w : World} {F : Nat → Prop} {p m n nk : Nat} {s t : Int} {q : Int × Int → List Par} {f : Int × Int → Option (Nat × Nat)} (h : LnsF w F p m n nk s t q f) (k : Int × Int) : (q k).length ≤ 40 := by
  cases hk : f k with
  | none => rw [h.no k hk]; exact Nat.zero_le _
  | some bc => obtain ⟨b, c⟩ := bc; exact (h.box k b c hk).2.1.room
theorem small_wraps (j : Nat) (h : j ≤ 40) : IntKind.i64.wrap (j : Int) = j ∧ wrap64 (j : Int) = j ∧ IntKind.u64.wrap (j : Int) = j := by
  refine ⟨by rw [IntKind.wrap_i64]; omega, by simp only [wrap64]; omega, by rw [IntKind.wrap_u64]; omega⟩
theorem tmod_small (kk : Int) (qn : Nat) (h : 1 ≤ qn) : 0 ≤ IntKind.u64.wrap kk ∧ ∃ j : Nat, (IntKind.u64.wrap kk).tmod (qn : Int) = j ∧ j < qn := by
  have h0 : 0 ≤ IntKind.u64.wrap kk := by rw [IntKind.wrap_u64]; omega
  have h1 := Int.tmod_nonneg (qn : Int) h0
  have h2 := Int.tmod_lt_of_pos (IntKind.u64.wrap kk) (show 0 < (qn : Int) by omega)
  exact ⟨h0, ((IntKind.u64.wrap kk).tmod (qn : Int)).toNat, by omega, by omega⟩
theorem run_remU (t : TypeId) (u : Int) (n j : Nat) (h0 : 0 ≤ u) (hn : 0 < n) (hj : u.tmod n = j) (hjn : j < n) (hn4 : n ≤ 40) (W : World) : (binOp .rem t (.int .u64 u) (.int .u64 (n : Int))).run Try.prog W = .ok (.int .u64 (j : Int)) W := by
  have h0 : ((n : Int) == 0) = false := by simp; omega
  have hn' : n ≠ 0 := by omega
  have hw : IntKind.u64.wrap (u.tmod n) = (j : Int) := by
    rw [hj, IntKind.wrap_u64]; omega
  rw [hj] at hw
  simp [binOp, go_sem, h0, hj, hw, hn']
theorem map_getD (l : List Int) (i : Nat) (h : i < l.length) : (l.map (Value.int .u8)).getD i undef = .int .u8 (l.getD i 0) := by
  rw [List.getD_eq_getElem?_getD, List.getElem?_map, List.getElem?_eq_getElem h, List.getD_eq_getElem?_getD, List.getElem?_eq_getElem h]; rfl
set_option maxHeartbeats 8000000 in
theorem once26_calls (w : World) (A : Option Addr) (n c : Nat) (bs : List Int) (hb : IsSl w 1 A n c (bs.map (.int .u8))) (hby : Byt bs) (B : Option Addr) (ln lc : Nat) (hd : IsDeeds w B ln lc) :
    Calls Try.prog 8 #[.slice A n c, .slice B ln lc] w fun e w' => e = .returned (.bool true) ∧ Below w.heap.size w w' := by
  have hnc := hb.2.1
  have hcm := hb.2.2.1
  unfold maxLen at hcm
  obtain ⟨k, hk, hkn, hk2⟩ : ∃ k : Nat, (k = min n 200) ∧ k ≤ n ∧ k ≤ 200 := ⟨_, rfl, by omega, by omega⟩
  have HSB := Lib.hid (IsSl.pre hb hkn)
  have HBY := Lib.hid (show Byt (bs.take k) from fun b h => hby b (List.mem_of_mem_take h))
  have HLK := Lib.hid (show (bs.take k).length = k ∧ k ≤ 200 from ⟨by have := hb.1; simp at this ⊢; omega, hk2⟩)
  have C1 := Lib.hid (new_calls w 2 (by decide))
  rcases (show (n ≤ 200 ∧ k = n) ∨ (200 < n ∧ k = 200) by omega) with ⟨h200, rfl⟩ | ⟨h200, rfl⟩
  · clear hb hk hkn hk2 hby
    go_enter Try.func8, Try.ntmps8
    go_wp2_with fail
    refine C1.out.mono ?_
    rintro e w1 ⟨p, m, rfl, hL1, hb1, hp, hm⟩
    have HF1 : Hid (∀ x, (x = p ∨ x = m) → w.heap.size ≤ x) := fun x hx => by rcases hx with rfl | rfl <;> assumption
    have HB1 := Lib.hid hb1
    have C2 := Lib.hid (send_calls hL1 0 1 way01 (by decide) (by decide) A k c (bs.take k) (by rw [List.map_take]; exact (HSB.out.below hb1)) (fun ad ha h0 hF => by
      have := (IsSl.lt HSB.out h0 ha); have := HF1.out _ hF; omega))
    clear hL1 hb1 hp hm
    go_wp2_with fail
    refine C2.out.mono ?_
    rintro e w2 ⟨rfl, hst⟩
    simp only [List.length_nil, Nat.zero_lt_succ, if_true, List.nil_append] at hst ⊢
    obtain ⟨hb2, F2, m2, nk2, f2, hL2, hF2⟩ := hst.out HF1.out HB1.out.size
    have HL2 := Lib.hid (show LnsF w2 F2 p m2 2 nk2 1 0 (upd (fun _ => []) (0, 1) [(strOfNums (bs.take k), 0, 0)]) f2 from hL2)
    have HB2 := Lib.hid (HB1.out.trans hb2)
    have HF2 := Lib.hid hF2
    clear hst hb2 hL2 hF2
    have HSQ : Hid (SameQ (upd (fun _ => []) (0, 1) [(strOfNums (bs.take k), 0, 0)]) (strOfNums (bs.take k))) := by
      intro x hx
      rw [upd_same] at hx
      obtain rfl : x = _ := by simpa using hx
      refine ⟨rfl, ?_, ⟨Int.le_refl _, (by decide : (0 : Int) ≤ 9223372036854775807)⟩, Int.le_refl _, (by decide : (0 : Int) < 256)⟩
      show (strOfNums (bs.take k)).size ≤ _
      rw [strOfNums_size]; have := HLK.out; omega
    have HDE := Lib.hid hd
    have hln := hd.1
    have hlm := hd.2.1
    unfold maxLen at hlm
    clear hd
    go_wp2_with fail
    go_loopw [6, 7, 8, 25] (fun _ _ _ ix wr => ∃ (i : Nat) (q : Int × Int → List Par) (F : Nat → Prop) (m nk : Nat) (f : Int × Int → Option (Nat × Nat)), i ≤ ln ∧ ix = .int .i64 i ∧ LnsF wr F p m 2 nk 1 0 q f ∧ SameQ q (strOfNums (bs.take k)) ∧ 1 ≤ (q (0, 1)).length ∧ Below w.heap.size w wr ∧ ∀ x, F x → w.heap.size ≤ x) (fun _ _ _ ix _ => ln - (intOf ix).toNat)
    case atStart => exact ⟨0, _, _, _, _, _, Nat.zero_le _, rfl, HL2.out, HSQ.out, by rw [upd_same]; exact Nat.le_refl _, HB2.out, HF2.out⟩
    case round =>
      clear HL2 HSQ HB2 HF2
      obtain ⟨i, q, F, m, nk, f, hi, rfl, hL, hS, hq, hb, hF⟩ := hrel
      have HL := Lib.hid hL
      have HS := Lib.hid hS
      have HB := Lib.hid hb
      have HF := Lib.hid hF
      have HQ := Lib.hid hq
      clear hL hS hb hF hq
      by_cases hlt : i < ln
      · by_cases h30 : i < 30
        · obtain ⟨ab, ao, op, tv, tw, kk, at_, by_, D, bn, bc, ds, rfl, hdo⟩ := (HDE.out.below HB.out).2.2.2 i hlt
          have c0 := hdo.c0
          have c1 := hdo.c1
          have c2 := hdo.c2
          have c3 := hdo.c3
          have c4 := hdo.c4
          have c5 := hdo.c5
          have c6 := hdo.c6
          have r3 := hdo.r3
          have HDO := Lib.hid hdo
          have C3 := Lib.hid (count_calls (HL.out.below ((Below.refl _ wr).alloc (Nat.le_refl _) (.cells #[.int .i64 op, .int .i64 tv, .int .i64 tw, .int .i64 kk, .int .i64 at_, .int .u8 by_, .slice D bn bc] 71))) 0 1 way01)
          clear hdo
          go_wp2_with fail
          refine C3.out.mono ?_
          rintro e w3 ⟨rfl, F3, ⟨m3, nk3, f3, hL3⟩, hft3, hF3⟩
          have hx7 := (hft3.2.2.2.2 wr.heap.size (by simp) (fun hF => by have := HL.out.fin _ hF; omega)).trans (heap_alloc_new wr _)
          obtain ⟨z0, z1, z2, z3, z4, z5, z6⟩ := cell7 hx7
          obtain ⟨hb3, F3, m3, nk3, f3, hL3, hF3⟩ := Step.out (B := w.heap.size) ⟨F3, ⟨m3, nk3, f3, hL3⟩, hft3, hF3⟩ HF.out (by have := HB.out.size; simp; omega)
          have HL3 := Lib.hid hL3
          have HF3 := Lib.hid hF3
          have HB3 := Lib.hid ((HB.out.alloc HB.out.size _).trans hb3)
          clear hft3 hL3 hF3 hx7 hb3
          obtain ⟨qn, hqn⟩ : ∃ qn, (q (0, 1)).length = qn := ⟨_, rfl⟩
          have HQN := Lib.hid hqn
          have hq1 := HQ.out
          rw [hqn] at hq1 ⊢
          have hq40 := HL3.out.len (0, 1)
          rw [hqn] at hq40
          clear hqn
          have hq1' : (1 : Int) ≤ qn := by omega
          have HQ1 := Lib.hid hq1
          obtain ⟨hu0, j, hj, hjn⟩ := tmod_small kk qn hq1
          have HR := Lib.hid (run_remU 50 _ qn j hu0 (by omega) hj hjn hq40)
          have HJ := Lib.hid hj
          have HQ0 := Lib.hid (show ¬ qn = 0 by omega)
          have HW := Lib.hid (small_wraps qn hq40)
          have HWJ := Lib.hid (small_wraps j (Nat.le_trans (Nat.le_of_lt hjn) hq40))
          obtain ⟨x, hx⟩ : ∃ x, (q (0, 1))[j]? = some x := ⟨_, List.getElem?_eq_getElem (by rw [HQN.out]; exact hjn)⟩
          have HX := Lib.hid hx
          clear hx hj hu0 hjn hq1 hq40
          by_cases hpar : bits .and .i64 op 1 = 0
          · have C4 := Lib.hid (spoil_calls HL3.out 0 1 way01 j x HX.out at_ by_)
            go_wp2_with fail
            have hjj := HJ.out
            have hq0 := HQ0.out
            have hwn := HW.out.2.2
            have hwj := HWJ.out.1
            go_still_tail 12, (by kernel_rfl)
            change wpList _ _ _ _ _ w3.drew
            clear hjj hq0 hwn hwj
            have HL3d := Lib.hid (show LnsF w3.drew F3 p m3 2 nk3 1 0 q f3 from HL3.out.below ((Below.refl _ w3).drew))
            have C4 := Lib.hid (spoil_calls HL3d.out 0 1 way01 j x HX.out at_ by_)
            go_wp2_with fail
            refine C4.out.mono ?_
            rintro e w4 ⟨rfl, hst⟩
            obtain ⟨hb4, F4, m4, nk4, f4, hL4, hF4⟩ := hst.out HF3.out HB3.out.size
            have HL4 := Lib.hid hL4
            have HF4 := Lib.hid hF4
            have HB4 := Lib.hid (HB3.out.drew.trans hb4)
            clear hst hb4 hL4 hF4
            go_wp2_with fail
            go_roundw
            case rel => exact ⟨i + 1, _, F4, m4, nk4, f4, by omega, by go_num, HL4.out, same_set HS.out HX.out HDO.out.r4 HDO.out.r5, by rw [upd_same, List.length_set, HQN.out]; exact HQ1.out, HB4.out, HF4.out⟩
            case measure => simp [intOf]; omega
          · have C4 := double_calls HL3.out 0 1 way01 j x HX.out
            obtain ⟨rv, hrv⟩ : ∃ rv : Int, (if (q (0, 1)).length < 40 then (0 : Int) else 8) = rv := ⟨_, rfl⟩
            rw [hrv] at C4
            replace C4 := Lib.hid C4
            clear hrv
            have hwn := HW.out.2.2
            go_wp2_with fail
            rw [HJ.out, HWJ.out.2.1]
            refine C4.out.mono ?_
            rintro e w4 ⟨rfl, hst⟩
            obtain ⟨hb4, F4, m4, nk4, f4, hL4, hF4⟩ := hst.out HF3.out HB3.out.size
            have HL4 := Lib.hid hL4
            have HF4 := Lib.hid hF4
            have HB4 := Lib.hid (HB3.out.trans hb4)
            clear hst hb4 hL4 hF4 hwn
            go_wp2_with fail
            go_roundw
            case rel =>
              by_cases hr : (q (0, 1)).length < 40
              · have h4 := HL4.out
                rw [if_pos hr] at h4
                exact ⟨i + 1, _, F4, m4, nk4, f4, by omega, by go_num, h4, same_add HS.out HX.out, by rw [upd_same, List.length_append]; simp, HB4.out, HF4.out⟩
              · have h4 := HL4.out
                rw [if_neg hr] at h4
                exact ⟨i + 1, _, F4, m4, nk4, f4, by omega, by go_num, h4, HS.out, by rw [HQN.out]; exact HQ1.out, HB4.out, HF4.out⟩
            case measure => simp [intOf]; omega
        · obtain ⟨ab, ao, op, tv, tw, kk, at_, by_, D, bn, bc, ds, rfl, hdo⟩ := (HDE.out.below HB.out).2.2.2 i hlt
          have c0 := hdo.c0
          have c1 := hdo.c1
          have c2 := hdo.c2
          have c3 := hdo.c3
          have c4 := hdo.c4
          have c5 := hdo.c5
          have c6 := hdo.c6
          clear hdo HDE
          have hd30 : decide ((30 : Int) ≤ i) = true := by simp; omega
          have hBa : Below wr.heap.size wr (wr.alloc (.cells #[.int .i64 op, .int .i64 tv, .int .i64 tw, .int .i64 kk, .int .i64 at_, .int .u8 by_, .slice D bn bc] 71)) := (Below.refl _ wr).alloc (Nat.le_refl _) _
          replace HL := Lib.hid (HL.out.below hBa)
          replace HB := Lib.hid (HB.out.trans (hBa.mono HB.out.size))
          clear hBa
          go_wp2_with fail
          generalize wr.alloc (.cells #[.int .i64 op, .int .i64 tv, .int .i64 tw, .int .i64 kk, .int .i64 at_, .int .u8 by_, .slice D bn bc] 71) = wr at *
          obtain ⟨wz, hwz⟩ : ∃ wz, wz = wr := ⟨_, rfl⟩
          subst hwz
          go_loopg [9] (q (0, 1)).length (fun gk v9 wr => ∃ (q : Int × Int → List Par) (F : Nat → Prop) (m nk : Nat) (f : Int × Int → Option (Nat × Nat)), (q (0, 1)).length = gk ∧ LnsF wr F p m 2 nk 1 0 q f ∧ SameQ q (strOfNums (bs.take k)) ∧ Below w.heap.size w wr ∧ ∀ x, F x → w.heap.size ≤ x)
          case atStart => exact ⟨q, F, m, nk, f, rfl, HL.out, HS.out, HB.out, HF.out⟩
          case round =>
            clear HL HS HB HF HQ
            obtain ⟨q', F', m', nk', f', hq', hL', hS', hB', hF'⟩ := hrel
            have C5 := count_calls hL' 0 1 way01
            rw [hq'] at C5
            have HQ' := Lib.hid hq'
            have HS' := Lib.hid hS'
            have HB' := Lib.hid hB'
            have HF' := Lib.hid hF'
            replace C5 := Lib.hid C5
            clear hq' hS' hB' hF' hL'
            by_cases h0 : gk = 0
            · subst h0
              go_wp2_with fail
              refine C5.out.mono ?_
              rintro e w5 ⟨rfl, hst⟩
              obtain ⟨hb5, _⟩ := hst.out HF'.out HB'.out.size
              have HB5 := Lib.hid (HB'.out.trans hb5)
              clear hst hb5
              go_wp2_with fail
              refine (awake26_calls w5).mono ?_
              rintro e w6 ⟨rfl, hb6⟩
              have HB6 := Lib.hid (below_step HB5.out HB5.out.size hb6)
              clear hb6
              go_wp2_with fail
              go_ret
              exact ⟨rfl, HB6.out⟩
            · have hgk : (0 : Int) < gk := by omega
              obtain ⟨x, hx⟩ : ∃ x, (q' (0, 1))[0]? = some x := ⟨_, List.getElem?_eq_getElem (by rw [HQ'.out]; omega)⟩
              have hxs := HS'.out x (List.mem_of_getElem? hx)
              have HX := Lib.hid hx
              have HXS := Lib.hid hxs
              clear hx hxs
              go_wp2_with fail
              refine C5.out.mono ?_
              rintro e w5 ⟨rfl, hst⟩
              obtain ⟨hb5, F5, m5, nk5, f5, hL5, hF5⟩ := hst.out HF'.out HB'.out.size
              have C6 := Lib.hid (take_calls hL5 0 1 way01 0 x HX.out HXS.out.2)
              have HF5 := Lib.hid hF5
              have HB5 := Lib.hid (HB'.out.trans hb5)
              clear hst hb5 hF5 hL5
              go_wp2_with fail
              refine C6.out.mono ?_
              rintro e w6 ⟨⟨A6, cap6, rfl, hsl6, _⟩, hst⟩
              have hxk : x.1.size = k := by rw [HXS.out.1, strOfNums_size]; exact HLK.out.1
              rw [hxk] at hsl6 ⊢
              obtain ⟨hb6, F6, m6, nk6, f6, hL6, hF6⟩ := hst.out HF5.out HB5.out.size
              have HL6 := Lib.hid hL6
              have HF6 := Lib.hid hF6
              have HB6 := Lib.hid (HB5.out.trans hb6)
              have HSL6 := Lib.hid hsl6
              have hc6 := hsl6.2.1
              have hm6 := hsl6.2.2.1
              unfold maxLen at hm6
              have HXK := Lib.hid hxk
              clear hst hb6 hL6 hF6 hsl6 hxk
              go_wp2_with fail
              go_loopw [11, 82] (fun ot ix wr => ∃ (i o : Nat), i ≤ k ∧ ix = .int .i64 i ∧ ot = .int .i64 o ∧ (o ≤ if x.2.1.toNat % k < i then 1 else 0) ∧ Below w6.heap.size w6 wr) (fun _ ix _ => k - (intOf ix).toNat)
              case atStart => exact ⟨0, 0, Nat.zero_le _, rfl, rfl, Nat.zero_le _, Below.refl _ _⟩
              case round =>
                obtain ⟨i, o, hi, rfl, rfl, ho, hbr⟩ := hrel
                have HBR := Lib.hid hbr
                have HO := Lib.hid ho
                have ho1 : o ≤ 1 := by split at ho <;> omega
                clear hbr ho
                by_cases hlt : i < k
                · obtain ⟨ab, ao, rfl, hcc⟩ := byte_at (HSL6.out.below HBR.out) hlt
                  obtain ⟨bb, bo, rfl, hcb⟩ := byte_at (l := bs.take k) (by rw [List.map_take]; exact HSB.out.below (HB6.out.trans (HBR.out.mono HB6.out.size))) hlt
                  have HOA := Lib.hid (show i ≠ x.2.1.toNat % k → (opened x).getD i 0 = (bs.take k).getD i 0 from fun h => opened_at HXS.out.1 HBY.out (by rw [HXK.out]; exact h))
                  obtain ⟨ca, hca⟩ : ∃ ca, (opened x).getD i 0 = ca := ⟨_, rfl⟩
                  obtain ⟨cb, hcb2⟩ : ∃ cb, (bs.take k).getD i 0 = cb := ⟨_, rfl⟩
                  rw [hca] at hcc HOA
                  rw [hcb2] at hcb HOA
                  clear hca hcb2
                  have hlt' : (i : Int) < k := by omega
                  go_wp2_with fail
                  go_quiet (fail)
                  have HBQ : Hid (Below w6.heap.size w6 (wr.drewN nq)) := HBR.out.trans ⟨rfl, rfl, rfl, Nat.le_refl _, fun _ _ => rfl⟩
                  by_cases heq : ca = cb
                  · subst heq
                    clear HOA
                    go_wp2_with fail
                    go_roundw
                    case rel => exact ⟨i + 1, o, by omega, by go_num, rfl, by have := HO.out; split at this <;> split <;> omega, HBQ.out⟩
                    case measure => simp [intOf]; omega
                  · have hpos : i = x.2.1.toNat % k := Classical.byContradiction fun h => heq (HOA.out h)
                    have hne : (ca == cb) = false := by simpa using heq
                    have HPO := Lib.hid hpos
                    clear HOA hpos heq
                    go_wp2_with fail
                    go_roundw
                    case rel => exact ⟨i + 1, o + 1, by omega, by go_num, by go_num, by have h1 := HO.out; have h2 := HPO.out; rw [if_neg (by omega)] at h1; rw [if_pos (by omega)]; omega, HBQ.out⟩
                    case measure => simp [intOf]; omega
                · go_wp2_with fail
                  go_roundg (gk - 1)
                  case measure => omega
                  case rel =>
                    have hb7 : Below w.heap.size w wr := HB6.out.trans (HBR.out.mono HB6.out.size)
                    exact ⟨_, F6, m6, nk6, f6, by rw [upd_same, List.length_eraseIdx, if_pos (by rw [HQ'.out]; omega), HQ'.out], HL6.out.below HBR.out, same_erase HS'.out 0, hb7, HF6.out⟩
      · clear HDE
        go_wp2_with fail
        obtain ⟨wz, hwz⟩ : ∃ wz, wz = wr := ⟨_, rfl⟩
        subst hwz
        go_loopg [9] (q (0, 1)).length (fun gk v9 wr => ∃ (q : Int × Int → List Par) (F : Nat → Prop) (m nk : Nat) (f : Int × Int → Option (Nat × Nat)), (q (0, 1)).length = gk ∧ LnsF wr F p m 2 nk 1 0 q f ∧ SameQ q (strOfNums (bs.take k)) ∧ Below w.heap.size w wr ∧ ∀ x, F x → w.heap.size ≤ x)
        case atStart => exact ⟨q, F, m, nk, f, rfl, HL.out, HS.out, HB.out, HF.out⟩
        case round =>
          clear HL HS HB HF HQ
          obtain ⟨q', F', m', nk', f', hq', hL', hS', hB', hF'⟩ := hrel
          have C5 := count_calls hL' 0 1 way01
          rw [hq'] at C5
          have HQ' := Lib.hid hq'
          have HS' := Lib.hid hS'
          have HB' := Lib.hid hB'
          have HF' := Lib.hid hF'
          replace C5 := Lib.hid C5
          clear hq' hS' hB' hF' hL'
          by_cases h0 : gk = 0
          · subst h0
            go_wp2_with fail
            refine C5.out.mono ?_
            rintro e w5 ⟨rfl, hst⟩
            obtain ⟨hb5, _⟩ := hst.out HF'.out HB'.out.size
            have HB5 := Lib.hid (HB'.out.trans hb5)
            clear hst hb5
            go_wp2_with fail
            refine (awake26_calls w5).mono ?_
            rintro e w6 ⟨rfl, hb6⟩
            have HB6 := Lib.hid (below_step HB5.out HB5.out.size hb6)
            clear hb6
            go_wp2_with fail
            go_ret
            exact ⟨rfl, HB6.out⟩
          · have hgk : (0 : Int) < gk := by omega
            obtain ⟨x, hx⟩ : ∃ x, (q' (0, 1))[0]? = some x := ⟨_, List.getElem?_eq_getElem (by rw [HQ'.out]; omega)⟩
            have hxs := HS'.out x (List.mem_of_getElem? hx)
            have HX := Lib.hid hx
            have HXS := Lib.hid hxs
            clear hx hxs
            go_wp2_with fail
            refine C5.out.mono ?_
            rintro e w5 ⟨rfl, hst⟩
            obtain ⟨hb5, F5, m5, nk5, f5, hL5, hF5⟩ := hst.out HF'.out HB'.out.size
            have C6 := Lib.hid (take_calls hL5 0 1 way01 0 x HX.out HXS.out.2)
            have HF5 := Lib.hid hF5
            have HB5 := Lib.hid (HB'.out.trans hb5)
            clear hst hb5 hF5 hL5
            go_wp2_with fail
            refine C6.out.mono ?_
            rintro e w6 ⟨⟨A6, cap6, rfl, hsl6, _⟩, hst⟩
            have hxk : x.1.size = k := by rw [HXS.out.1, strOfNums_size]; exact HLK.out.1
            rw [hxk] at hsl6 ⊢
            obtain ⟨hb6, F6, m6, nk6, f6, hL6, hF6⟩ := hst.out HF5.out HB5.out.size
            have HL6 := Lib.hid hL6
            have HF6 := Lib.hid hF6
            have HB6 := Lib.hid (HB5.out.trans hb6)
            have HSL6 := Lib.hid hsl6
            have hc6 := hsl6.2.1
            have hm6 := hsl6.2.2.1
            unfold maxLen at hm6
            have HXK := Lib.hid hxk
            clear hst hb6 hL6 hF6 hsl6 hxk
            go_wp2_with fail
            go_loopw [11, 82] (fun ot ix wr => ∃ (i o : Nat), i ≤ k ∧ ix = .int .i64 i ∧ ot = .int .i64 o ∧ (o ≤ if x.2.1.toNat % k < i then 1 else 0) ∧ Below w6.heap.size w6 wr) (fun _ ix _ => k - (intOf ix).toNat)
            case atStart => exact ⟨0, 0, Nat.zero_le _, rfl, rfl, Nat.zero_le _, Below.refl _ _⟩
            case round =>
              obtain ⟨i, o, hi, rfl, rfl, ho, hbr⟩ := hrel
              have HBR := Lib.hid hbr
              have HO := Lib.hid ho
              have ho1 : o ≤ 1 := by split at ho <;> omega
              clear hbr ho
              by_cases hlt : i < k
              · obtain ⟨ab, ao, rfl, hcc⟩ := byte_at (HSL6.out.below HBR.out) hlt
                obtain ⟨bb, bo, rfl, hcb⟩ := byte_at (l := bs.take k) (by rw [List.map_take]; exact HSB.out.below (HB6.out.trans (HBR.out.mono HB6.out.size))) hlt
                have HOA := Lib.hid (show i ≠ x.2.1.toNat % k → (opened x).getD i 0 = (bs.take k).getD i 0 from fun h => opened_at HXS.out.1 HBY.out (by rw [HXK.out]; exact h))
                obtain ⟨ca, hca⟩ : ∃ ca, (opened x).getD i 0 = ca := ⟨_, rfl⟩
                obtain ⟨cb, hcb2⟩ : ∃ cb, (bs.take k).getD i 0 = cb := ⟨_, rfl⟩
                rw [hca] at hcc HOA
                rw [hcb2] at hcb HOA
                clear hca hcb2
                have hlt' : (i : Int) < k := by omega
                go_wp2_with fail
                go_quiet (fail)
                have HBQ : Hid (Below w6.heap.size w6 (wr.drewN nq)) := HBR.out.trans ⟨rfl, rfl, rfl, Nat.le_refl _, fun _ _ => rfl⟩
                by_cases heq : ca = cb
                · subst heq
                  clear HOA
                  go_wp2_with fail
                  go_roundw
                  case rel => exact ⟨i + 1, o, by omega, by go_num, rfl, by have := HO.out; split at this <;> split <;> omega, HBQ.out⟩
                  case measure => simp [intOf]; omega
                · have hpos : i = x.2.1.toNat % k := Classical.byContradiction fun h => heq (HOA.out h)
                  have hne : (ca == cb) = false := by simpa using heq
                  have HPO := Lib.hid hpos
                  clear HOA hpos heq
                  go_wp2_with fail
                  go_roundw
                  case rel => exact ⟨i + 1, o + 1, by omega, by go_num, by go_num, by have h1 := HO.out; have h2 := HPO.out; rw [if_neg (by omega)] at h1; rw [if_pos (by omega)]; omega, HBQ.out⟩
                  case measure => simp [intOf]; omega
              · go_wp2_with fail
                go_roundg (gk - 1)
                case measure => omega
                case rel =>
                  have hb7 : Below w.heap.size w wr := HB6.out.trans (HBR.out.mono HB6.out.size)
                  exact ⟨_, F6, m6, nk6, f6, by rw [upd_same, List.length_eraseIdx, if_pos (by rw [HQ'.out]; omega), HQ'.out], HL6.out.below HBR.out, same_erase HS'.out 0, hb7, HF6.out⟩
  · clear hb hk hkn hk2 hby
    go_enter Try.func8, Try.ntmps8
    go_wp2_with fail
    refine C1.out.mono ?_
    rintro e w1 ⟨p, m, rfl, hL1, hb1, hp, hm⟩
    have HF1 : Hid (∀ x, (x = p ∨ x = m) → w.heap.size ≤ x) := fun x hx => by rcases hx with rfl | rfl <;> assumption
    have HB1 := Lib.hid hb1
    have C2 := Lib.hid (send_calls hL1 0 1 way01 (by decide) (by decide) A 200 c (bs.take 200) (by rw [List.map_take]; exact (HSB.out.below hb1)) (fun ad ha h0 hF => by
      have := (IsSl.lt HSB.out h0 ha); have := HF1.out _ hF; omega))
    clear hL1 hb1 hp hm
    go_wp2_with fail
    refine C2.out.mono ?_
    rintro e w2 ⟨rfl, hst⟩
    simp only [List.length_nil, Nat.zero_lt_succ, if_true, List.nil_append] at hst ⊢
    obtain ⟨hb2, F2, m2, nk2, f2, hL2, hF2⟩ := hst.out HF1.out HB1.out.size
    have HL2 := Lib.hid (show LnsF w2 F2 p m2 2 nk2 1 0 (upd (fun _ => []) (0, 1) [(strOfNums (bs.take 200), 0, 0)]) f2 from hL2)
    have HB2 := Lib.hid (HB1.out.trans hb2)
    have HF2 := Lib.hid hF2
    clear hst hb2 hL2 hF2
    have HSQ : Hid (SameQ (upd (fun _ => []) (0, 1) [(strOfNums (bs.take 200), 0, 0)]) (strOfNums (bs.take 200))) := by
      intro x hx
      rw [upd_same] at hx
      obtain rfl : x = _ := by simpa using hx
      refine ⟨rfl, ?_, ⟨Int.le_refl _, (by decide : (0 : Int) ≤ 9223372036854775807)⟩, Int.le_refl _, (by decide : (0 : Int) < 256)⟩
      show (strOfNums (bs.take 200)).size ≤ _
      rw [strOfNums_size]; have := HLK.out; omega
    have HDE := Lib.hid hd
    have hln := hd.1
    have hlm := hd.2.1
    unfold maxLen at hlm
    clear hd
    go_wp2_with fail
    go_loopw [6, 7, 8, 25] (fun _ _ _ ix wr => ∃ (i : Nat) (q : Int × Int → List Par) (F : Nat → Prop) (m nk : Nat) (f : Int × Int → Option (Nat × Nat)), i ≤ ln ∧ ix = .int .i64 i ∧ LnsF wr F p m 2 nk 1 0 q f ∧ SameQ q (strOfNums (bs.take 200)) ∧ 1 ≤ (q (0, 1)).length ∧ Below w.heap.size w wr ∧ ∀ x, F x → w.heap.size ≤ x) (fun _ _ _ ix _ => ln - (intOf ix).toNat)
    case atStart => exact ⟨0, _, _, _, _, _, Nat.zero_le _, rfl, HL2.out, HSQ.out, by rw [upd_same]; exact Nat.le_refl _, HB2.out, HF2.out⟩
    case round =>
      clear HL2 HSQ HB2 HF2
      obtain ⟨i, q, F, m, nk, f, hi, rfl, hL, hS, hq, hb, hF⟩ := hrel
      have HL := Lib.hid hL
      have HS := Lib.hid hS
      have HB := Lib.hid hb
      have HF := Lib.hid hF
      have HQ := Lib.hid hq
      clear hL hS hb hF hq
      by_cases hlt : i < ln
      · by_cases h30 : i < 30
        · obtain ⟨ab, ao, op, tv, tw, kk, at_, by_, D, bn, bc, ds, rfl, hdo⟩ := (HDE.out.below HB.out).2.2.2 i hlt
          have c0 := hdo.c0
          have c1 := hdo.c1
          have c2 := hdo.c2
          have c3 := hdo.c3
          have c4 := hdo.c4
          have c5 := hdo.c5
          have c6 := hdo.c6
          have r3 := hdo.r3
          have HDO := Lib.hid hdo
          have C3 := Lib.hid (count_calls (HL.out.below ((Below.refl _ wr).alloc (Nat.le_refl _) (.cells #[.int .i64 op, .int .i64 tv, .int .i64 tw, .int .i64 kk, .int .i64 at_, .int .u8 by_, .slice D bn bc] 71))) 0 1 way01)
          clear hdo
          go_wp2_with fail
          refine C3.out.mono ?_
          rintro e w3 ⟨rfl, F3, ⟨m3, nk3, f3, hL3⟩, hft3, hF3⟩
          have hx7 := (hft3.2.2.2.2 wr.heap.size (by simp) (fun hF => by have := HL.out.fin _ hF; omega)).trans (heap_alloc_new wr _)
          obtain ⟨z0, z1, z2, z3, z4, z5, z6⟩ := cell7 hx7
          obtain ⟨hb3, F3, m3, nk3, f3, hL3, hF3⟩ := Step.out (B := w.heap.size) ⟨F3, ⟨m3, nk3, f3, hL3⟩, hft3, hF3⟩ HF.out (by have := HB.out.size; simp; omega)
          have HL3 := Lib.hid hL3
          have HF3 := Lib.hid hF3
          have HB3 := Lib.hid ((HB.out.alloc HB.out.size _).trans hb3)
          clear hft3 hL3 hF3 hx7 hb3
          obtain ⟨qn, hqn⟩ : ∃ qn, (q (0, 1)).length = qn := ⟨_, rfl⟩
          have HQN := Lib.hid hqn
          have hq1 := HQ.out
          rw [hqn] at hq1 ⊢
          have hq40 := HL3.out.len (0, 1)
          rw [hqn] at hq40
          clear hqn
          have hq1' : (1 : Int) ≤ qn := by omega
          have HQ1 := Lib.hid hq1
          obtain ⟨hu0, j, hj, hjn⟩ := tmod_small kk qn hq1
          have HR := Lib.hid (run_remU 50 _ qn j hu0 (by omega) hj hjn hq40)
          have HJ := Lib.hid hj
          have HQ0 := Lib.hid (show ¬ qn = 0 by omega)
          have HW := Lib.hid (small_wraps qn hq40)
          have HWJ := Lib.hid (small_wraps j (Nat.le_trans (Nat.le_of_lt hjn) hq40))
          obtain ⟨x, hx⟩ : ∃ x, (q (0, 1))[j]? = some x := ⟨_, List.getElem?_eq_getElem (by rw [HQN.out]; exact hjn)⟩
          have HX := Lib.hid hx
          clear hx hj hu0 hjn hq1 hq40
          by_cases hpar : bits .and .i64 op 1 = 0
          · have C4 := Lib.hid (spoil_calls HL3.out 0 1 way01 j x HX.out at_ by_)
            go_wp2_with fail
            have hjj := HJ.out
            have hq0 := HQ0.out
            have hwn := HW.out.2.2
            have hwj := HWJ.out.1
            go_still_tail 12, (by kernel_rfl)
            change wpList _ _ _ _ _ w3.drew
            clear hjj hq0 hwn hwj
            have HL3d := Lib.hid (show LnsF w3.drew F3 p m3 2 nk3 1 0 q f3 from HL3.out.below ((Below.refl _ w3).drew))
            have C4 := Lib.hid (spoil_calls HL3d.out 0 1 way01 j x HX.out at_ by_)
            go_wp2_with fail
            refine C4.out.mono ?_
            rintro e w4 ⟨rfl, hst⟩
            obtain ⟨hb4, F4, m4, nk4, f4, hL4, hF4⟩ := hst.out HF3.out HB3.out.size
            have HL4 := Lib.hid hL4
            have HF4 := Lib.hid hF4
            have HB4 := Lib.hid (HB3.out.drew.trans hb4)
            clear hst hb4 hL4 hF4
            go_wp2_with fail
            go_roundw
            case rel => exact ⟨i + 1, _, F4, m4, nk4, f4, by omega, by go_num, HL4.out, same_set HS.out HX.out HDO.out.r4 HDO.out.r5, by rw [upd_same, List.length_set, HQN.out]; exact HQ1.out, HB4.out, HF4.out⟩
            case measure => simp [intOf]; omega
          · have C4 := double_calls HL3.out 0 1 way01 j x HX.out
            obtain ⟨rv, hrv⟩ : ∃ rv : Int, (if (q (0, 1)).length < 40 then (0 : Int) else 8) = rv := ⟨_, rfl⟩
            rw [hrv] at C4
            replace C4 := Lib.hid C4
            clear hrv
            have hwn := HW.out.2.2
            go_wp2_with fail
            rw [HJ.out, HWJ.out.2.1]
            refine C4.out.mono ?_
            rintro e w4 ⟨rfl, hst⟩
            obtain ⟨hb4, F4, m4, nk4, f4, hL4, hF4⟩ := hst.out HF3.out HB3.out.size
            have HL4 := Lib.hid hL4
            have HF4 := Lib.hid hF4
            have HB4 := Lib.hid (HB3.out.trans hb4)
            clear hst hb4 hL4 hF4 hwn
            go_wp2_with fail
            go_roundw
            case rel =>
              by_cases hr : (q (0, 1)).length < 40
              · have h4 := HL4.out
                rw [if_pos hr] at h4
                exact ⟨i + 1, _, F4, m4, nk4, f4, by omega, by go_num, h4, same_add HS.out HX.out, by rw [upd_same, List.length_append]; simp, HB4.out, HF4.out⟩
              · have h4 := HL4.out
                rw [if_neg hr] at h4
                exact ⟨i + 1, _, F4, m4, nk4, f4, by omega, by go_num, h4, HS.out, by rw [HQN.out]; exact HQ1.out, HB4.out, HF4.out⟩
            case measure => simp [intOf]; omega
        · obtain ⟨ab, ao, op, tv, tw, kk, at_, by_, D, bn, bc, ds, rfl, hdo⟩ := (HDE.out.below HB.out).2.2.2 i hlt
          have c0 := hdo.c0
          have c1 := hdo.c1
          have c2 := hdo.c2
          have c3 := hdo.c3
          have c4 := hdo.c4
          have c5 := hdo.c5
          have c6 := hdo.c6
          clear hdo HDE
          have hd30 : decide ((30 : Int) ≤ i) = true := by simp; omega
          have hBa : Below wr.heap.size wr (wr.alloc (.cells #[.int .i64 op, .int .i64 tv, .int .i64 tw, .int .i64 kk, .int .i64 at_, .int .u8 by_, .slice D bn bc] 71)) := (Below.refl _ wr).alloc (Nat.le_refl _) _
          replace HL := Lib.hid (HL.out.below hBa)
          replace HB := Lib.hid (HB.out.trans (hBa.mono HB.out.size))
          clear hBa
          go_wp2_with fail
          generalize wr.alloc (.cells #[.int .i64 op, .int .i64 tv, .int .i64 tw, .int .i64 kk, .int .i64 at_, .int .u8 by_, .slice D bn bc] 71) = wr at *
          obtain ⟨wz, hwz⟩ : ∃ wz, wz = wr := ⟨_, rfl⟩
          subst hwz
          go_loopg [9] (q (0, 1)).length (fun gk v9 wr => ∃ (q : Int × Int → List Par) (F : Nat → Prop) (m nk : Nat) (f : Int × Int → Option (Nat × Nat)), (q (0, 1)).length = gk ∧ LnsF wr F p m 2 nk 1 0 q f ∧ SameQ q (strOfNums (bs.take 200)) ∧ Below w.heap.size w wr ∧ ∀ x, F x → w.heap.size ≤ x)
          case atStart => exact ⟨q, F, m, nk, f, rfl, HL.out, HS.out, HB.out, HF.out⟩
          case round =>
            clear HL HS HB HF HQ
            obtain ⟨q', F', m', nk', f', hq', hL', hS', hB', hF'⟩ := hrel
            have C5 := count_calls hL' 0 1 way01
            rw [hq'] at C5
            have HQ' := Lib.hid hq'
            have HS' := Lib.hid hS'
            have HB' := Lib.hid hB'
            have HF' := Lib.hid hF'
            replace C5 := Lib.hid C5
            clear hq' hS' hB' hF' hL'
            by_cases h0 : gk = 0
            · subst h0
              go_wp2_with fail
              refine C5.out.mono ?_
              rintro e w5 ⟨rfl, hst⟩
              obtain ⟨hb5, _⟩ := hst.out HF'.out HB'.out.size
              have HB5 := Lib.hid (HB'.out.trans hb5)
              clear hst hb5
              go_wp2_with fail
              refine (awake26_calls w5).mono ?_
              rintro e w6 ⟨rfl, hb6⟩
              have HB6 := Lib.hid (below_step HB5.out HB5.out.size hb6)
              clear hb6
              go_wp2_with fail
              go_ret
              exact ⟨rfl, HB6.out⟩
            · have hgk : (0 : Int) < gk := by omega
              obtain ⟨x, hx⟩ : ∃ x, (q' (0, 1))[0]? = some x := ⟨_, List.getElem?_eq_getElem (by rw [HQ'.out]; omega)⟩
              have hxs := HS'.out x (List.mem_of_getElem? hx)
              have HX := Lib.hid hx
              have HXS := Lib.hid hxs
              clear hx hxs
              go_wp2_with fail
              refine C5.out.mono ?_
              rintro e w5 ⟨rfl, hst⟩
              obtain ⟨hb5, F5, m5, nk5, f5, hL5, hF5⟩ := hst.out HF'.out HB'.out.size
              have C6 := Lib.hid (take_calls hL5 0 1 way01 0 x HX.out HXS.out.2)
              have HF5 := Lib.hid hF5
              have HB5 := Lib.hid (HB'.out.trans hb5)
              clear hst hb5 hF5 hL5
              go_wp2_with fail
              refine C6.out.mono ?_
              rintro e w6 ⟨⟨A6, cap6, rfl, hsl6, _⟩, hst⟩
              have hxk : x.1.size = 200 := by rw [HXS.out.1, strOfNums_size]; exact HLK.out.1
              rw [hxk] at hsl6 ⊢
              obtain ⟨hb6, F6, m6, nk6, f6, hL6, hF6⟩ := hst.out HF5.out HB5.out.size
              have HL6 := Lib.hid hL6
              have HF6 := Lib.hid hF6
              have HB6 := Lib.hid (HB5.out.trans hb6)
              have HSL6 := Lib.hid hsl6
              have hc6 := hsl6.2.1
              have hm6 := hsl6.2.2.1
              unfold maxLen at hm6
              have HXK := Lib.hid hxk
              clear hst hb6 hL6 hF6 hsl6 hxk
              go_wp2_with fail
              go_loopw [11, 82] (fun ot ix wr => ∃ (i o : Nat), i ≤ 200 ∧ ix = .int .i64 i ∧ ot = .int .i64 o ∧ (o ≤ if x.2.1.toNat % 200 < i then 1 else 0) ∧ Below w6.heap.size w6 wr) (fun _ ix _ => 200 - (intOf ix).toNat)
              case atStart => exact ⟨0, 0, Nat.zero_le _, rfl, rfl, Nat.zero_le _, Below.refl _ _⟩
              case round =>
                obtain ⟨i, o, hi, rfl, rfl, ho, hbr⟩ := hrel
                have HBR := Lib.hid hbr
                have HO := Lib.hid ho
                have ho1 : o ≤ 1 := by split at ho <;> omega
                clear hbr ho
                by_cases hlt : i < 200
                · obtain ⟨ab, ao, rfl, hcc⟩ := byte_at (HSL6.out.below HBR.out) hlt
                  obtain ⟨bb, bo, rfl, hcb⟩ := byte_at (l := bs.take 200) (by rw [List.map_take]; exact HSB.out.below (HB6.out.trans (HBR.out.mono HB6.out.size))) hlt
                  have HOA := Lib.hid (show i ≠ x.2.1.toNat % 200 → (opened x).getD i 0 = (bs.take 200).getD i 0 from fun h => opened_at HXS.out.1 HBY.out (by rw [HXK.out]; exact h))
                  obtain ⟨ca, hca⟩ : ∃ ca, (opened x).getD i 0 = ca := ⟨_, rfl⟩
                  obtain ⟨cb, hcb2⟩ : ∃ cb, (bs.take 200).getD i 0 = cb := ⟨_, rfl⟩
                  rw [hca] at hcc HOA
                  rw [hcb2] at hcb HOA
                  clear hca hcb2
                  have hlt' : (i : Int) < 200 := by omega
                  go_wp2_with fail
                  go_quiet (fail)
                  have HBQ : Hid (Below w6.heap.size w6 (wr.drewN nq)) := HBR.out.trans ⟨rfl, rfl, rfl, Nat.le_refl _, fun _ _ => rfl⟩
                  by_cases heq : ca = cb
                  · subst heq
                    clear HOA
                    go_wp2_with fail
                    go_roundw
                    case rel => exact ⟨i + 1, o, by omega, by go_num, rfl, by have := HO.out; split at this <;> split <;> omega, HBQ.out⟩
                    case measure => simp [intOf]; omega
                  · have hpos : i = x.2.1.toNat % 200 := Classical.byContradiction fun h => heq (HOA.out h)
                    have hne : (ca == cb) = false := by simpa using heq
                    have HPO := Lib.hid hpos
                    clear HOA hpos heq
                    go_wp2_with fail
                    go_roundw
                    case rel => exact ⟨i + 1, o + 1, by omega, by go_num, by go_num, by have h1 := HO.out; have h2 := HPO.out; rw [if_neg (by omega)] at h1; rw [if_pos (by omega)]; omega, HBQ.out⟩
                    case measure => simp [intOf]; omega
                · go_wp2_with fail
                  go_roundg (gk - 1)
                  case measure => omega
                  case rel =>
                    have hb7 : Below w.heap.size w wr := HB6.out.trans (HBR.out.mono HB6.out.size)
                    exact ⟨_, F6, m6, nk6, f6, by rw [upd_same, List.length_eraseIdx, if_pos (by rw [HQ'.out]; omega), HQ'.out], HL6.out.below HBR.out, same_erase HS'.out 0, hb7, HF6.out⟩
      · clear HDE
        go_wp2_with fail
        obtain ⟨wz, hwz⟩ : ∃ wz, wz = wr := ⟨_, rfl⟩
        subst hwz
        go_loopg [9] (q (0, 1)).length (fun gk v9 wr => ∃ (q : Int × Int → List Par) (F : Nat → Prop) (m nk : Nat) (f : Int × Int → Option (Nat × Nat)), (q (0, 1)).length = gk ∧ LnsF wr F p m 2 nk 1 0 q f ∧ SameQ q (strOfNums (bs.take 200)) ∧ Below w.heap.size w wr ∧ ∀ x, F x → w.heap.size ≤ x)
        case atStart => exact ⟨q, F, m, nk, f, rfl, HL.out, HS.out, HB.out, HF.out⟩
        case round =>
          clear HL HS HB HF HQ
          obtain ⟨q', F', m', nk', f', hq', hL', hS', hB', hF'⟩ := hrel
          have C5 := count_calls hL' 0 1 way01
          rw [hq'] at C5
          have HQ' := Lib.hid hq'
          have HS' := Lib.hid hS'
          have HB' := Lib.hid hB'
          have HF' := Lib.hid hF'
          replace C5 := Lib.hid C5
          clear hq' hS' hB' hF' hL'
          by_cases h0 : gk = 0
          · subst h0
            go_wp2_with fail
            refine C5.out.mono ?_
            rintro e w5 ⟨rfl, hst⟩
            obtain ⟨hb5, _⟩ := hst.out HF'.out HB'.out.size
            have HB5 := Lib.hid (HB'.out.trans hb5)
            clear hst hb5
            go_wp2_with fail
            refine (awake26_calls w5).mono ?_
            rintro e w6 ⟨rfl, hb6⟩
            have HB6 := Lib.hid (below_step HB5.out HB5.out.size hb6)
            clear hb6
            go_wp2_with fail
            go_ret
            exact ⟨rfl, HB6.out⟩
          · have hgk : (0 : Int) < gk := by omega
            obtain ⟨x, hx⟩ : ∃ x, (q' (0, 1))[0]? = some x := ⟨_, List.getElem?_eq_getElem (by rw [HQ'.out]; omega)⟩
            have hxs := HS'.out x (List.mem_of_getElem? hx)
            have HX := Lib.hid hx
            have HXS := Lib.hid hxs
            clear hx hxs
            go_wp2_with fail
            refine C5.out.mono ?_
            rintro e w5 ⟨rfl, hst⟩
            obtain ⟨hb5, F5, m5, nk5, f5, hL5, hF5⟩ := hst.out HF'.out HB'.out.size
            have C6 := Lib.hid (take_calls hL5 0 1 way01 0 x HX.out HXS.out.2)
            have HF5 := Lib.hid hF5
            have HB5 := Lib.hid (HB'.out.trans hb5)
            clear hst hb5 hF5 hL5
            go_wp2_with fail
            refine C6.out.mono ?_
            rintro e w6 ⟨⟨A6, cap6, rfl, hsl6, _⟩, hst⟩
            have hxk : x.1.size = 200 := by rw [HXS.out.1, strOfNums_size]; exact HLK.out.1
            rw [hxk] at hsl6 ⊢
            obtain ⟨hb6, F6, m6, nk6, f6, hL6, hF6⟩ := hst.out HF5.out HB5.out.size
            have HL6 := Lib.hid hL6
            have HF6 := Lib.hid hF6
            have HB6 := Lib.hid (HB5.out.trans hb6)
            have HSL6 := Lib.hid hsl6
            have hc6 := hsl6.2.1
            have hm6 := hsl6.2.2.1
            unfold maxLen at hm6
            have HXK := Lib.hid hxk
            clear hst hb6 hL6 hF6 hsl6 hxk
            go_wp2_with fail
            go_loopw [11, 82] (fun ot ix wr => ∃ (i o : Nat), i ≤ 200 ∧ ix = .int .i64 i ∧ ot = .int .i64 o ∧ (o ≤ if x.2.1.toNat % 200 < i then 1 else 0) ∧ Below w6.heap.size w6 wr) (fun _ ix _ => 200 - (intOf ix).toNat)
            case atStart => exact ⟨0, 0, Nat.zero_le _, rfl, rfl, Nat.zero_le _, Below.refl _ _⟩
            case round =>
              obtain ⟨i, o, hi, rfl, rfl, ho, hbr⟩ := hrel
              have HBR := Lib.hid hbr
              have HO := Lib.hid ho
              have ho1 : o ≤ 1 := by split at ho <;> omega
              clear hbr ho
              by_cases hlt : i < 200
              · obtain ⟨ab, ao, rfl, hcc⟩ := byte_at (HSL6.out.below HBR.out) hlt
                obtain ⟨bb, bo, rfl, hcb⟩ := byte_at (l := bs.take 200) (by rw [List.map_take]; exact HSB.out.below (HB6.out.trans (HBR.out.mono HB6.out.size))) hlt
                have HOA := Lib.hid (show i ≠ x.2.1.toNat % 200 → (opened x).getD i 0 = (bs.take 200).getD i 0 from fun h => opened_at HXS.out.1 HBY.out (by rw [HXK.out]; exact h))
                obtain ⟨ca, hca⟩ : ∃ ca, (opened x).getD i 0 = ca := ⟨_, rfl⟩
                obtain ⟨cb, hcb2⟩ : ∃ cb, (bs.take 200).getD i 0 = cb := ⟨_, rfl⟩
                rw [hca] at hcc HOA
                rw [hcb2] at hcb HOA
                clear hca hcb2
                have hlt' : (i : Int) < 200 := by omega
                go_wp2_with fail
                go_quiet (fail)
                have HBQ : Hid (Below w6.heap.size w6 (wr.drewN nq)) := HBR.out.trans ⟨rfl, rfl, rfl, Nat.le_refl _, fun _ _ => rfl⟩
                by_cases heq : ca = cb
                · subst heq
                  clear HOA
                  go_wp2_with fail
                  go_roundw
                  case rel => exact ⟨i + 1, o, by omega, by go_num, rfl, by have := HO.out; split at this <;> split <;> omega, HBQ.out⟩
                  case measure => simp [intOf]; omega
                · have hpos : i = x.2.1.toNat % 200 := Classical.byContradiction fun h => heq (HOA.out h)
                  have hne : (ca == cb) = false := by simpa using heq
                  have HPO := Lib.hid hpos
                  clear HOA hpos heq
                  go_wp2_with fail
                  go_roundw
                  case rel => exact ⟨i + 1, o + 1, by omega, by go_num, by go_num, by have h1 := HO.out; have h2 := HPO.out; rw [if_neg (by omega)] at h1; rw [if_pos (by omega)]; omega, HBQ.out⟩
                  case measure => simp [intOf]; omega
              · go_wp2_with fail
                go_roundg (gk - 1)
                case measure => omega
                case rel =>
                  have hb7 : Below w.heap.size w wr := HB6.out.trans (HBR.out.mono HB6.out.size)
                  exact ⟨_, F6, m6, nk6, f6, by rw [upd_same, List.length_eraseIdx, if_pos (by rw [HQ'.out]; omega), HQ'.out], HL6.out.below HBR.out, same_erase HS'.out 0, hb7, HF6.out⟩
theorem once26_law (w : World) (A : Option Addr) (n c : Nat) (l : List Int) (hl : IsBytes w A n c l) (B : Option Addr) (ln lc : Nat) (hd : IsDeeds w B ln lc) :
    Calls Try.prog 8 #[.slice A n c, .slice B ln lc] w fun e w' => e = .returned (.bool true) ∧ Below w.heap.size w w' := once26_calls w A n c l hl.1 hl.2.1 B ln lc hd
end Box
end Go.Proofs.Ytdmpgoaemoiogaa
