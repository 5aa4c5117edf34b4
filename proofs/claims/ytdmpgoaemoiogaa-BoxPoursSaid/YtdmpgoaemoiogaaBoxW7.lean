/- The walks: slices.Equal, slices.Grow, slices.Concat of texts. -/
import Derived.Test.YtdmpgoaemoiogaaBoxW6
import Derived.Test.YtdmpgoaemoiogaaBoxFirst
import Derived.Lib.AppendZeros
set_option linter.unusedVariables false
set_option linter.unusedSimpArgs false
set_option maxRecDepth 100000
namespace Go.Proofs.Ytdmpgoaemoiogaa
open Go.RowKit
namespace Box

set_option maxHeartbeats 1000000 in
/-- Two slices with the same texts are equal. -/
theorem equal_str (w : World) (A : Option Addr) (n c : Nat) (A' : Option Addr) (c' : Nat) (ss : List ByteArray) (h : IsSl w 1 A n c (texts ss)) (h' : IsSl w 1 A' n c' (texts ss)) :
    Calls Try.prog 26 #[.slice A n c, .slice A' n c'] w fun e w' => e = .returned (.bool true) ∧ Below w.heap.size w w' := by
  have hl : ss.length = n := by have := h.1; simp at this; omega
  have hc := h.2.1
  have hcm := h.2.2.1
  have hc' := h'.2.1
  have hcm' := h'.2.2.1
  unfold maxLen at hcm hcm'
  have H := Lib.hid h
  have H' := Lib.hid h'
  clear h h'
  go_enter Try.func26, Try.ntmps26
  go_wp2_with fail
  go_loopw [13] (fun ix wr => ∃ i : Nat, i ≤ n ∧ ix = .int .i64 i ∧ Below w.heap.size w wr) (fun ix _ => n - (intOf ix).toNat)
  case atStart => exact ⟨0, Nat.zero_le _, rfl, Below.refl _ _⟩
  case round =>
    obtain ⟨i, hi, rfl, hb⟩ := hrel
    have HB := Lib.hid hb
    have H1 := Lib.hid (H.out.below hb)
    have H1' := Lib.hid (H'.out.below hb)
    clear hb
    by_cases hlt : i < n
    · obtain ⟨ad, rfl, hcell⟩ := H1.out.at_ hlt
      obtain ⟨ad', rfl, hcell'⟩ := H1'.out.at_ hlt
      obtain ⟨x, hx⟩ : ∃ x, (texts ss).getD i undef = .string x := ⟨ss[i]'(by omega), by simp [List.getD_eq_getElem?_getD, List.getElem?_eq_getElem (show i < ss.length by omega)]⟩
      rw [hx] at hcell hcell'
      clear hx
      go_wp2_with fail
      go_region
      go_wp2_with fail
      exact ⟨⟨i + 1, by omega, by go_num, HB.out.trans ⟨rfl, rfl, rfl, Nat.le_refl _, fun _ _ => rfl⟩⟩, by simp [intOf]; omega⟩
    · go_wp2_with fail
      go_ret
      exact ⟨rfl, HB.out⟩

/-- A row of the call's own. -/
def OwnRow (w : World) (e : TypeId) (xs : List Value) (x : Ending) (w' : World) : Prop := ∃ v, x = .returned v ∧ w'.ownsRow w.heap.size e 1 v xs.length xs ∧ Below w.heap.size w w'
theorem own_zeros (w : World) (e : TypeId) (z : Array Value) (n m : Nat) (hz : z.size = 1) (hnm : n ≤ m) (hm : m ≤ maxLen) : (w.drew.alloc (.cells (Builtin.zeroCells z n ++ Builtin.zeroCells z (m - n)) e (0, 0))).ownsRow w.heap.size e 1 (.slice (some ⟨w.heap.size, 0, none⟩) 0 m) 0 [] := by
  refine ⟨rfl, .inr ⟨w.heap.size, m, _, rfl, Nat.le_refl _, heap_alloc_new w.drew _, Nat.zero_le _, hm, ?_, rfl⟩⟩
  rw [Array.size_append, size_zeroCells, size_zeroCells, hz]; omega
theorem info_parts_str : ∃ i, Try.prog.info? 9 = some i ∧ i.zero = some (.string { data := #[] }) ∧ i.size = 1 ∧ i.bytes = 16 := info_parts inf_str

set_option maxHeartbeats 1000000 in
theorem grow_str (w : World) (q : Nat) (hq : q ≤ 4096) :
    Calls Try.prog 47 #[.slice none 0 0, .int .i64 q] w (OwnRow w 9 []) := by
  obtain ⟨i, hi, hz, hs, hby⟩ := info_parts_str
  by_cases h0 : q = 0
  · subst h0
    go_enter Try.func47, Try.ntmps47
    go_wp2_with fail
    go_ret
    exact ⟨_, rfl, World.ownsRow_nil _ _ _ _, Below.refl _ _⟩
  · have hr := Lib.run_append_nil_zeros (P := Try.prog) w 24 3 24 9 i (.string { data := #[] }) .i64 .i64 Try.underlying24 Try.underlying3 hi hz q (by omega) (by omega) (by omega) (by rw [hby]; omega)
    have hge := grownCap_ge w q 0 9
    have hle := grownCap_le_maxLen w q 0 9 (by unfold maxLen; omega)
    have ho := own_zeros w 9 (Value.string { data := #[] }).cells q (grownCap w q 0 9) (by decide) hge hle
    have hb : Below w.heap.size w (w.drew.alloc (.cells (Builtin.zeroCells (Value.string { data := #[] }).cells q ++ Builtin.zeroCells (Value.string { data := #[] }).cells (grownCap w q 0 9 - q)) 9 (0, 0))) :=
      (show Below w.heap.size w w.drew from ⟨rfl, rfl, rfl, Nat.le_refl _, fun _ _ => rfl⟩).alloc (Nat.le_refl _) _
    have HR := Lib.hid hr
    have HO := Lib.hid ho
    have HB := Lib.hid hb
    clear hr ho hb hi hz
    generalize (w.drew.alloc (.cells (Builtin.zeroCells (Value.string { data := #[] }).cells q ++ Builtin.zeroCells (Value.string { data := #[] }).cells (grownCap w q 0 9 - q)) 9 (0, 0))) = w2 at *
    generalize grownCap w q 0 9 = g at *
    go_enter Try.func47, Try.ntmps47
    go_wp2_with (at_builtin; refine Lib.wpList_append_run _ rfl _ _ _ _ rfl _ _ rfl rfl _ _ HR.out ?_)
    go_wp2_with fail
    go_ret
    exact ⟨_, rfl, HO.out, HB.out⟩

def flat (rs : Slices) : List ByteArray := rs.flatMap fun r => r.2.2.2
theorem flat_take (rs : Slices) (i : Nat) (r : Option Addr × Nat × Nat × List ByteArray) (h : rs[i]? = some r) : flat (rs.take (i + 1)) = flat (rs.take i) ++ r.2.2.2 := by
  simp [flat, List.take_add_one, h]
theorem flat_le (rs : Slices) (i : Nat) : (flat (rs.take i)).length ≤ (flat rs).length := by
  have : flat rs = flat (rs.take i) ++ flat (rs.drop i) := by simp only [flat]; rw [← List.flatMap_append, List.take_append_drop]
  rw [this, List.length_append]; omega

set_option maxHeartbeats 2000000 in
theorem concat_str (w : World) (A : Option Addr) (n c : Nat) (rs : Slices) (h : IsRows w A n c rs) (hsum : (flat rs).length ≤ 4096) :
    Calls Try.prog 28 #[.slice A n c] w (OwnRow w 9 (texts (flat rs))) := by
  have hn : rs.length = n := by have := h.1.1; simp [heads] at this; omega
  have hnc := h.1.2.1
  have hcm := h.1.2.2.1
  unfold maxLen at hcm
  have H := Lib.hid h
  clear h
  go_enter Try.func28, Try.ntmps28
  go_wp2_with fail
  go_loopw [3, 11] (fun sz ix wr => ∃ i k : Nat, i ≤ n ∧ k ≤ 4096 ∧ sz = .int .i64 k ∧ ix = .int .i64 i ∧ Hid ((flat (rs.take i)).length = k) ∧ w = wr) (fun _ ix _ => n - (intOf ix).toNat)
  case atStart => exact ⟨0, 0, Nat.zero_le _, Nat.zero_le _, rfl, rfl, rfl, rfl⟩
  case round =>
    obtain ⟨i, k, hi, hk, rfl, rfl, HK, rfl⟩ := hrel
    by_cases hlt : i < n
    · obtain ⟨ad, rfl, hcell⟩ := H.out.1.at_ hlt
      obtain ⟨⟨B, m, bc, ss⟩, hx⟩ : ∃ x, rs[i]? = some x := ⟨rs[i], List.getElem?_eq_getElem (by omega)⟩
      have hp : (heads rs).getD i undef = .slice B m bc := by
        rw [List.getD_eq_getElem?_getD, heads, List.getElem?_map, hx]; rfl
      rw [hp] at hcell
      have hin := H.out.2 _ (List.mem_of_getElem? hx)
      have hss : ss.length = m := by have := hin.1; simp at this; omega
      have hft := flat_take rs i _ hx
      have hfl := flat_le rs (i + 1)
      have hkm : (flat (rs.take (i + 1))).length = k + m := by rw [hft, List.length_append, HK.out, hss]
      have HKM := Lib.hid hkm
      have hkm4 : k + m ≤ 4096 := by omega
      clear hp hin hft hfl hkm
      go_wp2_with fail
      go_roundw
      case rel => exact ⟨i + 1, k + m, by omega, by omega, by go_num, by go_num, HKM.out, trivial⟩
      case measure => simp [intOf]; omega
    · go_wp2_with fail
      refine (grow_str w k hk).mono ?_
      rintro e w1 ⟨v, rfl, ho, hb⟩
      have HO := Lib.hid ho
      have HB := Lib.hid hb
      have HR := Lib.hid (H.out.below hb)
      have hs1 := hb.size
      clear ho hb
      go_wp2_with fail
      go_loopw [6, 27] (fun out ix w2 => ∃ i : Nat, i ≤ n ∧ ix = .int .i64 i ∧ w2.ownsRow w.heap.size 9 1 out (flat (rs.take i)).length (texts (flat (rs.take i))) ∧ Below w.heap.size w w2) (fun _ ix _ => n - (intOf ix).toNat)
      case atStart => exact ⟨0, Nat.zero_le _, rfl, HO.out, HB.out⟩
      case round =>
        obtain ⟨j, hj, rfl, ho, hb⟩ := hrel
        have hbs := hb.size
        have HO2 := Lib.hid ho
        have HB2 := Lib.hid hb
        have HR2 := Lib.hid (H.out.below hb)
        clear ho hb
        by_cases hlt2 : j < n
        · obtain ⟨ad, rfl, hcell⟩ := HR2.out.1.at_ hlt2
          obtain ⟨⟨B, m, bc, ss⟩, hx⟩ : ∃ x, rs[j]? = some x := ⟨rs[j], List.getElem?_eq_getElem (by omega)⟩
          have hp : (heads rs).getD j undef = .slice B m bc := by
            rw [List.getD_eq_getElem?_getD, heads, List.getElem?_map, hx]; rfl
          rw [hp] at hcell
          have hin := HR2.out.2 _ (List.mem_of_getElem? hx)
          have HIN := Lib.hid hin
          have hss : ss.length = m := by have := hin.1; simp at this; omega
          have hft := flat_take rs j _ hx
          have hfl := flat_le rs (j + 1)
          have HFT := Lib.hid hft
          have hkm : (flat (rs.take j)).length + m ≤ 4096 := by rw [hft, List.length_append, hss] at hfl; omega
          clear hp hin hft hfl
          go_wp2_with (at_builtin; refine wpList_app_own _ rfl (.tmp 31) (.tmp 32) 24 rfl w.heap.size 9 (.string { data := #[] }) 1 16 Try.underlying24 inf_str rfl (by decide) _ (flat (rs.take j)).length (texts (flat (rs.take j))) rfl HO2.out B m bc (texts ss) rfl HIN.out (by intro u hu; obtain ⟨_, _, rfl⟩ := List.mem_map.1 hu; rfl) (by unfold maxLen; omega) (by omega) hbs ?_)
          intro v' w3 ho3 _ hb3
          have HO3 := Lib.hid ho3
          have HB3 : Hid (Below w.heap.size w w3) := HB2.out.trans hb3
          clear ho3 hb3
          go_wp2_with fail
          go_roundw
          case rel =>
            refine ⟨j + 1, by omega, by go_num, ?_, HB3.out⟩
            have := HO3.out
            rw [HFT.out, List.length_append, texts, List.map_append, hss]
            exact this
          case measure => simp [intOf]; omega
        · have ht : rs.take j = rs := List.take_of_length_le (by omega)
          have HT := Lib.hid ht
          clear ht
          go_wp2_with fail
          go_ret
          exact ⟨_, rfl, by have := HO2.out; rw [HT.out] at this; rw [List.length_map]; exact this, HB2.out⟩
end Box
end Go.Proofs.Ytdmpgoaemoiogaa
