/- Export: whether a text may be a document's name, or stand in a field. Written by exp3.py. -/
import Derived.Test.YtfohollhdaedlaaDoorExp2
import Derived.Test.YtfohollhdaedlaaDoorUtfW2
import Derived.Test.YtfohollhdaedlaaDoorUtfR3
set_option linter.unusedVariables false
set_option linter.unusedSimpArgs false
set_option maxRecDepth 100000
namespace Go.Proofs.YtfohollhdaedlaaDoor
open Go.RowKit
namespace Exp
/-- May a text stand in a field? -/
def textC (s : ByteArray) : Int := if 160 < s.size then 5 else if Utf.validF s 0 then 0 else 7
def okT (s : ByteArray) : Bool := decide (textC s = 0)
theorem textC_eq (s : ByteArray) : (textC s = 0 ∧ okT s = true) ∨ (textC s = 5 ∧ okT s = false) ∨ (textC s = 7 ∧ okT s = false) := by
  unfold okT textC
  split
  · exact .inr (.inl ⟨rfl, rfl⟩)
  · split
    · exact .inl ⟨rfl, rfl⟩
    · exact .inr (.inr ⟨rfl, rfl⟩)
theorem okT_size {s : ByteArray} (h : okT s = true) : s.size ≤ 160 := by
  unfold okT textC at h
  split at h
  · simp at h
  · omega
set_option maxHeartbeats 4000000 in
theorem name_calls (s : ByteArray) (w : World) :
    Calls Tryd.prog 80 #[.string s] w fun e w' => e = .returned (.bool (nameOk (by8 s))) ∧ Below w.heap.size w w' := by
  obtain ⟨n, hn⟩ : ∃ n, s.size = n := ⟨_, rfl⟩
  have HN := Lib.hid hn
  have hl : (by8 s).length = n := by rw [by8_len]; exact hn
  have HLN := Lib.hid hl
  clear hl
  by_cases h0 : n = 0
  · have HR : Hid (nameOk (by8 s) = false) := by show _ = _; unfold nameOk; rw [HLN.out, h0]; rfl
    have hz : s.toList.isEmpty = true := by rw [ByteArray.toList_eq]; have := HLN.out; rw [h0] at this; exact List.isEmpty_iff.2 (List.length_eq_zero_iff.1 this)
    subst h0
    go_enter Tryd.func80, Tryd.ntmps80
    go_wp2_with fail
    go_ret
    exact ⟨ret_bool HR.out.symm, Below.refl _ _⟩
  by_cases h12 : 12 < n
  · have HR : Hid (nameOk (by8 s) = false) := by show _ = _; unfold nameOk; rw [HLN.out, decide_eq_false (by omega)]; rfl
    have hz : s.toList.isEmpty = false := by rw [ByteArray.toList_eq, Bool.eq_false_iff]; intro h; have h2 := HLN.out; rw [show by8 s = [] from List.isEmpty_iff.1 h] at h2; simp at h2; omega
    have h12' : (12 : Int) < n := by omega
    go_enter Tryd.func80, Tryd.ntmps80
    go_wp2_with fail
    go_ret
    exact ⟨ret_bool HR.out.symm, Below.refl _ _⟩
  have hz : s.toList.isEmpty = false := by rw [ByteArray.toList_eq, Bool.eq_false_iff]; intro h; have h2 := HLN.out; rw [show by8 s = [] from List.isEmpty_iff.1 h] at h2; simp at h2; omega
  have h12' : ¬ (12 : Int) < n := by omega
  have h1' : ¬ (n : Int) < 1 := by omega
  have HRG : Hid (nameOk (by8 s) = (by8 s).all okC) := by show _ = _; unfold nameOk; rw [HLN.out, decide_eq_true (by omega)]; rfl
  go_enter Tryd.func80, Tryd.ntmps80
  go_wp2_with (refine wpList_conv_bytes _ rfl 9 73 5 (.tmp 12) rfl s rfl Tryd.underlying9 Tryd.underlying73 Tryd.underlying5 ?_)
  intro w1 cap hb1 _ hcell
  have HB1 := Lib.hid hb1
  have HCE := Lib.hid hcell
  clear hb1 hcell
  go_wp2_with fail
  go_loopw [15] (fun ix wr => ∃ i : Nat, i ≤ n ∧ ix = .int .i64 i ∧ Below w1.heap.size w1 wr ∧ ((by8 s).take i).all okC = true) (fun ix _ => n - (intOf ix).toNat)
  case atStart => exact ⟨0, Nat.zero_le _, rfl, Below.refl _ _, rfl⟩
  case round =>
    obtain ⟨i, hi, rfl, hb, hall⟩ := hrel
    have HB := Lib.hid hb
    have HA := Lib.hid hall
    clear hb hall
    by_cases hlt : i < n
    · obtain ⟨c, hc, hbc⟩ := by8_get s i (by rw [HN.out]; exact hlt)
      have HC := Lib.hid hc
      clear hc
      have hix := (HB.out.cell (World.block_lt_of_cell? w1 _ (HCE.out i hlt))).trans (HCE.out i hlt)
      rw [hbc] at hix
      have hcr := c.toNat_lt
      obtain ⟨k, hk⟩ : ∃ k : Nat, c.toNat = k := ⟨_, rfl⟩
      have HK := Lib.hid hk
      rw [hk] at hix hcr
      clear hk hbc
      by_cases hok : okC c = true
      · have HA2 : Hid (((by8 s).take (i + 1)).all okC = true) := by
          show _ = true
          rw [List.take_add_one, HC.out, List.all_append, HA.out]; simpa using hok
        have hkk : (97 ≤ k ∧ k ≤ 122) ∨ (48 ≤ k ∧ k ≤ 57) ∨ k = 45 := by unfold okC at hok; rw [decide_eq_true_eq, HK.out] at hok; exact hok
        clear hok
        rcases hkk with ⟨k1, k2⟩ | ⟨k1, k2⟩ | rfl
        · have k1' : (97 : Int) ≤ k := by omega
          have k2' : (k : Int) ≤ 122 := by omega
          go_wp2_with fail
          go_roundw
          case rel => exact ⟨i + 1, by omega, by go_num, HB.out, HA2.out⟩
          case measure => simp [intOf]; omega
        · have k1' : (48 : Int) ≤ k := by omega
          have k2' : (k : Int) ≤ 57 := by omega
          go_wp2_with fail
          go_roundw
          case rel => exact ⟨i + 1, by omega, by go_num, HB.out, HA2.out⟩
          case measure => simp [intOf]; omega
        · go_wp2_with fail
          go_roundw
          case rel => exact ⟨i + 1, by omega, by go_num, HB.out, HA2.out⟩
          case measure => simp [intOf]; omega
      · have HR : Hid (nameOk (by8 s) = false) := by
          show _ = false
          rw [HRG.out, Bool.eq_false_iff]
          intro h
          exact hok (List.all_eq_true.1 h c (List.mem_of_getElem? HC.out))
        have hkk : k < 45 ∨ (45 < k ∧ k < 48) ∨ (57 < k ∧ k < 97) ∨ 122 < k := by unfold okC at hok; rw [decide_eq_true_eq, HK.out] at hok; omega
        clear hok
        rcases hkk with k1 | ⟨k1, k2⟩ | ⟨k1, k2⟩ | k1
        · have kk : (k : Int) < 45 := by omega
          have d1 : decide ((k : Int) < 97) = true := by simp; omega
          have d2 : decide ((122 : Int) < k) = false := by simp; omega
          have d3 : decide ((k : Int) < 48) = true := by simp; omega
          have d4 : decide ((57 : Int) < k) = false := by simp; omega
          have kn : ((k : Int) == 45) = false := by simp; omega
          go_wp2_with fail
          go_ret
          exact ⟨ret_bool HR.out.symm, below_next HB1.out HB.out⟩
        · have kk : (45 : Int) < k ∧ (k : Int) < 48 := by omega
          have d1 : decide ((k : Int) < 97) = true := by simp; omega
          have d2 : decide ((122 : Int) < k) = false := by simp; omega
          have d3 : decide ((k : Int) < 48) = true := by simp; omega
          have d4 : decide ((57 : Int) < k) = false := by simp; omega
          have kn : ((k : Int) == 45) = false := by simp; omega
          go_wp2_with fail
          go_ret
          exact ⟨ret_bool HR.out.symm, below_next HB1.out HB.out⟩
        · have kk : (57 : Int) < k ∧ (k : Int) < 97 := by omega
          have d1 : decide ((k : Int) < 97) = true := by simp; omega
          have d2 : decide ((122 : Int) < k) = false := by simp; omega
          have d3 : decide ((k : Int) < 48) = false := by simp; omega
          have d4 : decide ((57 : Int) < k) = true := by simp; omega
          have kn : ((k : Int) == 45) = false := by simp; omega
          go_wp2_with fail
          go_ret
          exact ⟨ret_bool HR.out.symm, below_next HB1.out HB.out⟩
        · have kk : (122 : Int) < k := by omega
          have d1 : decide ((k : Int) < 97) = false := by simp; omega
          have d2 : decide ((122 : Int) < k) = true := by simp; omega
          have d3 : decide ((k : Int) < 48) = false := by simp; omega
          have d4 : decide ((57 : Int) < k) = true := by simp; omega
          have kn : ((k : Int) == 45) = false := by simp; omega
          go_wp2_with fail
          go_ret
          exact ⟨ret_bool HR.out.symm, below_next HB1.out HB.out⟩
    · have HR : Hid (nameOk (by8 s) = true) := by
        show _ = true
        have h := HA.out
        rw [List.take_of_length_le (by rw [HLN.out]; omega)] at h
        rw [HRG.out, h]
      go_wp2_with fail
      go_ret
      exact ⟨ret_bool HR.out.symm, below_next HB1.out HB.out⟩
set_option maxHeartbeats 4000000 in
theorem rname_calls (s : ByteArray) (w : World) :
    Calls Tryd.prog 48 #[.string s] w fun e w' => e = .returned (.bool (nameOk (by8 s))) ∧ Below w.heap.size w w' := by
  obtain ⟨n, hn⟩ : ∃ n, s.size = n := ⟨_, rfl⟩
  have HN := Lib.hid hn
  have hl : (by8 s).length = n := by rw [by8_len]; exact hn
  have HLN := Lib.hid hl
  clear hl
  by_cases h0 : n = 0
  · have HR : Hid (nameOk (by8 s) = false) := by show _ = _; unfold nameOk; rw [HLN.out, h0]; rfl
    have hz : s.toList.isEmpty = true := by rw [ByteArray.toList_eq]; have := HLN.out; rw [h0] at this; exact List.isEmpty_iff.2 (List.length_eq_zero_iff.1 this)
    subst h0
    go_enter Tryd.func48, Tryd.ntmps48
    go_wp2_with fail
    go_ret
    exact ⟨ret_bool HR.out.symm, Below.refl _ _⟩
  by_cases h12 : 12 < n
  · have HR : Hid (nameOk (by8 s) = false) := by show _ = _; unfold nameOk; rw [HLN.out, decide_eq_false (by omega)]; rfl
    have hz : s.toList.isEmpty = false := by rw [ByteArray.toList_eq, Bool.eq_false_iff]; intro h; have h2 := HLN.out; rw [show by8 s = [] from List.isEmpty_iff.1 h] at h2; simp at h2; omega
    have h12' : (12 : Int) < n := by omega
    go_enter Tryd.func48, Tryd.ntmps48
    go_wp2_with fail
    go_ret
    exact ⟨ret_bool HR.out.symm, Below.refl _ _⟩
  have hz : s.toList.isEmpty = false := by rw [ByteArray.toList_eq, Bool.eq_false_iff]; intro h; have h2 := HLN.out; rw [show by8 s = [] from List.isEmpty_iff.1 h] at h2; simp at h2; omega
  have h12' : ¬ (12 : Int) < n := by omega
  have h1' : ¬ (n : Int) < 1 := by omega
  have HRG : Hid (nameOk (by8 s) = (by8 s).all okC) := by show _ = _; unfold nameOk; rw [HLN.out, decide_eq_true (by omega)]; rfl
  go_enter Tryd.func48, Tryd.ntmps48
  go_wp2_with fail
  go_loopw [15] (fun ix wr => ∃ i : Nat, i ≤ n ∧ ix = .int .i64 i ∧ Below w.heap.size w wr ∧ ((by8 s).take i).all okC = true) (fun ix _ => n - (intOf ix).toNat)
  case atStart => exact ⟨0, Nat.zero_le _, rfl, Below.refl _ _, rfl⟩
  case round =>
    obtain ⟨i, hi, rfl, hb, hall⟩ := hrel
    have HB := Lib.hid hb
    have HA := Lib.hid hall
    clear hb hall
    by_cases hlt : i < n
    · obtain ⟨c, hc, hbc⟩ := by8_get s i (by rw [HN.out]; exact hlt)
      have HC := Lib.hid hc
      clear hc
      have hix := idx_s s i (i : Int) rfl (by rw [HN.out]; exact hlt)
      rw [hbc] at hix
      have hcr := c.toNat_lt
      obtain ⟨k, hk⟩ : ∃ k : Nat, c.toNat = k := ⟨_, rfl⟩
      have HK := Lib.hid hk
      rw [hk] at hix hcr
      clear hk hbc
      by_cases hok : okC c = true
      · have HA2 : Hid (((by8 s).take (i + 1)).all okC = true) := by
          show _ = true
          rw [List.take_add_one, HC.out, List.all_append, HA.out]; simpa using hok
        have hkk : (97 ≤ k ∧ k ≤ 122) ∨ (48 ≤ k ∧ k ≤ 57) ∨ k = 45 := by unfold okC at hok; rw [decide_eq_true_eq, HK.out] at hok; exact hok
        clear hok
        rcases hkk with ⟨k1, k2⟩ | ⟨k1, k2⟩ | rfl
        · have k1' : (97 : Int) ≤ k := by omega
          have k2' : (k : Int) ≤ 122 := by omega
          go_wp2_with fail
          go_roundw
          case rel => exact ⟨i + 1, by omega, by go_num, HB.out, HA2.out⟩
          case measure => simp [intOf]; omega
        · have k1' : (48 : Int) ≤ k := by omega
          have k2' : (k : Int) ≤ 57 := by omega
          go_wp2_with fail
          go_roundw
          case rel => exact ⟨i + 1, by omega, by go_num, HB.out, HA2.out⟩
          case measure => simp [intOf]; omega
        · go_wp2_with fail
          go_roundw
          case rel => exact ⟨i + 1, by omega, by go_num, HB.out, HA2.out⟩
          case measure => simp [intOf]; omega
      · have HR : Hid (nameOk (by8 s) = false) := by
          show _ = false
          rw [HRG.out, Bool.eq_false_iff]
          intro h
          exact hok (List.all_eq_true.1 h c (List.mem_of_getElem? HC.out))
        have hkk : k < 45 ∨ (45 < k ∧ k < 48) ∨ (57 < k ∧ k < 97) ∨ 122 < k := by unfold okC at hok; rw [decide_eq_true_eq, HK.out] at hok; omega
        clear hok
        rcases hkk with k1 | ⟨k1, k2⟩ | ⟨k1, k2⟩ | k1
        · have kk : (k : Int) < 45 := by omega
          have d1 : decide ((97 : Int) ≤ k) = false := by simp; omega
          have d2 : decide ((k : Int) ≤ 122) = true := by simp; omega
          have d3 : decide ((48 : Int) ≤ k) = false := by simp; omega
          have d4 : decide ((k : Int) ≤ 57) = true := by simp; omega
          have kn : ((k : Int) == 45) = false := by simp; omega
          go_wp2_with fail
          go_ret
          exact ⟨ret_bool HR.out.symm, HB.out⟩
        · have kk : (45 : Int) < k ∧ (k : Int) < 48 := by omega
          have d1 : decide ((97 : Int) ≤ k) = false := by simp; omega
          have d2 : decide ((k : Int) ≤ 122) = true := by simp; omega
          have d3 : decide ((48 : Int) ≤ k) = false := by simp; omega
          have d4 : decide ((k : Int) ≤ 57) = true := by simp; omega
          have kn : ((k : Int) == 45) = false := by simp; omega
          go_wp2_with fail
          go_ret
          exact ⟨ret_bool HR.out.symm, HB.out⟩
        · have kk : (57 : Int) < k ∧ (k : Int) < 97 := by omega
          have d1 : decide ((97 : Int) ≤ k) = false := by simp; omega
          have d2 : decide ((k : Int) ≤ 122) = true := by simp; omega
          have d3 : decide ((48 : Int) ≤ k) = true := by simp; omega
          have d4 : decide ((k : Int) ≤ 57) = false := by simp; omega
          have kn : ((k : Int) == 45) = false := by simp; omega
          go_wp2_with fail
          go_ret
          exact ⟨ret_bool HR.out.symm, HB.out⟩
        · have kk : (122 : Int) < k := by omega
          have d1 : decide ((97 : Int) ≤ k) = true := by simp; omega
          have d2 : decide ((k : Int) ≤ 122) = false := by simp; omega
          have d3 : decide ((48 : Int) ≤ k) = true := by simp; omega
          have d4 : decide ((k : Int) ≤ 57) = false := by simp; omega
          have kn : ((k : Int) == 45) = false := by simp; omega
          go_wp2_with fail
          go_ret
          exact ⟨ret_bool HR.out.symm, HB.out⟩
    · have HR : Hid (nameOk (by8 s) = true) := by
        show _ = true
        have h := HA.out
        rw [List.take_of_length_le (by rw [HLN.out]; omega)] at h
        rw [HRG.out, h]
      go_wp2_with fail
      go_ret
      exact ⟨ret_bool HR.out.symm, HB.out⟩
theorem text_calls (i : Nat) (hi : i < 4) (s : ByteArray) (w : World) :
    Calls Tryd.prog 82 #[.int .i64 ((i : Int) + 1), .string s] w fun e w' => e = .returned (.int .i64 (textC s)) ∧ Below w.heap.size w w' := by
  have h1 : ¬ ((i : Int) + 1 < 0) := by omega
  have h2 : ¬ ((4 : Int) < (i : Int) + 1) := by omega
  have h3 : ((i : Int) + 1 == 0) = false := by simp; omega
  obtain ⟨n, hn⟩ : ∃ n, s.size = n := ⟨_, rfl⟩
  by_cases h160 : 160 < n
  · have HR : Hid (textC s = 5) := by show _ = _; unfold textC; rw [hn, if_pos h160]
    have h160' : (160 : Int) < n := by omega
    go_enter Tryd.func82, Tryd.ntmps82
    go_wp2_with fail
    go_ret
    exact ⟨ret_int HR.out.symm, Below.refl _ _⟩
  · have h160' : ¬ (160 : Int) < n := by omega
    have C := Lib.hid (Utf.valid_calls s (by omega) w)
    have HN := Lib.hid hn
    cases hv : Utf.validF s 0
    · have HR : Hid (textC s = 7) := by show _ = _; unfold textC; rw [hn, if_neg h160, hv]; rfl
      rw [hv] at C
      clear hv
      go_enter Tryd.func82, Tryd.ntmps82
      go_wp2_with fail
      refine C.out.mono ?_
      rintro e w1 ⟨rfl, hb⟩
      have HB := Lib.hid hb
      clear hb
      go_wp2_with fail
      go_ret
      exact ⟨ret_int HR.out.symm, HB.out⟩
    · have HR : Hid (textC s = 0) := by show _ = _; unfold textC; rw [hn, if_neg h160, hv]; rfl
      rw [hv] at C
      clear hv
      go_enter Tryd.func82, Tryd.ntmps82
      go_wp2_with fail
      refine C.out.mono ?_
      rintro e w1 ⟨rfl, hb⟩
      have HB := Lib.hid hb
      clear hb
      go_wp2_with fail
      go_ret
      exact ⟨ret_int HR.out.symm, HB.out⟩
theorem rtext_calls (i : Nat) (hi : i < 4) (s : ByteArray) (w : World) :
    Calls Tryd.prog 47 #[.int .i64 ((i : Int) + 1), .string s] w fun e w' => e = .returned (.int .i64 (textC s)) ∧ Below w.heap.size w w' := by
  have h1 : ¬ ((i : Int) + 1 < 0) := by omega
  have h2 : ¬ ((4 : Int) < (i : Int) + 1) := by omega
  have h3 : ((i : Int) + 1 == 0) = false := by simp; omega
  obtain ⟨n, hn⟩ : ∃ n, s.size = n := ⟨_, rfl⟩
  by_cases h160 : 160 < n
  · have HR : Hid (textC s = 5) := by show _ = _; unfold textC; rw [hn, if_pos h160]
    have h160' : (160 : Int) < n := by omega
    go_enter Tryd.func47, Tryd.ntmps47
    go_wp2_with fail
    go_ret
    exact ⟨ret_int HR.out.symm, Below.refl _ _⟩
  · have h160' : ¬ (160 : Int) < n := by omega
    have C := Lib.hid (Utf.rvalid_calls s (by omega) w)
    have HN := Lib.hid hn
    cases hv : Utf.validF s 0
    · have HR : Hid (textC s = 7) := by show _ = _; unfold textC; rw [hn, if_neg h160, hv]; rfl
      rw [hv] at C
      clear hv
      go_enter Tryd.func47, Tryd.ntmps47
      go_wp2_with fail
      refine C.out.mono ?_
      rintro e w1 ⟨rfl, hb⟩
      have HB := Lib.hid hb
      clear hb
      go_wp2_with fail
      go_ret
      exact ⟨ret_int HR.out.symm, HB.out⟩
    · have HR : Hid (textC s = 0) := by show _ = _; unfold textC; rw [hn, if_neg h160, hv]; rfl
      rw [hv] at C
      clear hv
      go_enter Tryd.func47, Tryd.ntmps47
      go_wp2_with fail
      refine C.out.mono ?_
      rintro e w1 ⟨rfl, hb⟩
      have HB := Lib.hid hb
      clear hb
      go_wp2_with fail
      go_ret
      exact ⟨ret_int HR.out.symm, HB.out⟩
end Exp
end Go.Proofs.YtfohollhdaedlaaDoor
