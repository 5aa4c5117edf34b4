/- Export: the reference takes a document's first line in. -/
import Derived.Test.YtfohollhdaedlaaDoorExp12
import Derived.Deep.AppendLies
import Derived.Deep.RegionLaw
set_option linter.unusedVariables false
set_option linter.unusedSimpArgs false
set_option maxRecDepth 100000
namespace Go.Proofs.YtfohollhdaedlaaDoor
open Go.RowKit
namespace Exp
set_option maxHeartbeats 4000000 in
theorem rname_same (s : ByteArray) (w : World) :
    Calls Tryd.prog 48 #[.string s] w fun e w' => e = .returned (.bool (nameOk (by8 s))) ∧ w' = w := by
  obtain ⟨n, hn⟩ : ∃ n, s.size = n := ⟨_, rfl⟩
  have HN := Lib.hid hn
  have hl : (by8 s).length = n := by rw [by8_len]; exact hn
  have HLN := Lib.hid hl
  clear hl
  by_cases h0 : n = 0
  · have HR : Hid (nameOk (by8 s) = false) := by show _ = _; unfold nameOk; rw [HLN.out, h0]; rfl
    have hz : s.toList.isEmpty = true := by rw [ByteArray.toList_eq]; have := HLN.out; rw [h0] at this; exact List.isEmpty_iff.2 (List.length_eq_zero_iff.1 this)
    subst h0
    go_enter Tryd.func48, Tryd.ntmps48
    go_wp2_with fail
    go_ret
    exact ⟨ret_bool HR.out.symm, rfl⟩
  by_cases h12 : 12 < n
  · have HR : Hid (nameOk (by8 s) = false) := by show _ = _; unfold nameOk; rw [HLN.out, decide_eq_false (by omega)]; rfl
    have hz : s.toList.isEmpty = false := by rw [ByteArray.toList_eq, Bool.eq_false_iff]; intro h; have h2 := HLN.out; rw [show by8 s = [] from List.isEmpty_iff.1 h] at h2; simp at h2; omega
    have h12' : (12 : Int) < n := by omega
    go_enter Tryd.func48, Tryd.ntmps48
    go_wp2_with fail
    go_ret
    exact ⟨ret_bool HR.out.symm, rfl⟩
  have hz : s.toList.isEmpty = false := by rw [ByteArray.toList_eq, Bool.eq_false_iff]; intro h; have h2 := HLN.out; rw [show by8 s = [] from List.isEmpty_iff.1 h] at h2; simp at h2; omega
  have h12' : ¬ (12 : Int) < n := by omega
  have h1' : ¬ (n : Int) < 1 := by omega
  have HRG : Hid (nameOk (by8 s) = (by8 s).all okC) := by show _ = _; unfold nameOk; rw [HLN.out, decide_eq_true (by omega)]; rfl
  go_enter Tryd.func48, Tryd.ntmps48
  go_wp2_with fail
  go_loopw [15] (fun ix wr => ∃ i : Nat, i ≤ n ∧ ix = .int .i64 i ∧ wr = w ∧ ((by8 s).take i).all okC = true) (fun ix _ => n - (intOf ix).toNat)
  case atStart => exact ⟨0, Nat.zero_le _, rfl, rfl, rfl⟩
  case round =>
    obtain ⟨i, hi, rfl, hb, hall⟩ := hrel
    have HB := Lib.hid hb
    have HA := Lib.hid hall
    clear hb hall
    by_cases hlt : i < n
    · obtain ⟨c, hc, hbc⟩ := by8_get s i (by rw [HN.out]; exact hlt)
      have HC := Lib.hid hc
      clear hc
      have hix := idx_s s i (i : Int) rfl (by rw [HN.out]; exact hlt)
      rw [hbc] at hix
      have hcr := c.toNat_lt
      obtain ⟨k, hk⟩ : ∃ k : Nat, c.toNat = k := ⟨_, rfl⟩
      have HK := Lib.hid hk
      rw [hk] at hix hcr
      clear hk hbc
      by_cases hok : okC c = true
      · have HA2 : Hid (((by8 s).take (i + 1)).all okC = true) := by
          show _ = true
          rw [List.take_add_one, HC.out, List.all_append, HA.out]; simpa using hok
        have hkk : (97 ≤ k ∧ k ≤ 122) ∨ (48 ≤ k ∧ k ≤ 57) ∨ k = 45 := by unfold okC at hok; rw [decide_eq_true_eq, HK.out] at hok; exact hok
        clear hok
        rcases hkk with ⟨k1, k2⟩ | ⟨k1, k2⟩ | rfl
        · have k1' : (97 : Int) ≤ k := by omega
          have k2' : (k : Int) ≤ 122 := by omega
          go_wp2_with fail
          go_roundw
          case rel => exact ⟨i + 1, by omega, by go_num, HB.out, HA2.out⟩
          case measure => simp [intOf]; omega
        · have k1' : (48 : Int) ≤ k := by omega
          have k2' : (k : Int) ≤ 57 := by omega
          go_wp2_with fail
          go_roundw
          case rel => exact ⟨i + 1, by omega, by go_num, HB.out, HA2.out⟩
          case measure => simp [intOf]; omega
        · go_wp2_with fail
          go_roundw
          case rel => exact ⟨i + 1, by omega, by go_num, HB.out, HA2.out⟩
          case measure => simp [intOf]; omega
      · have HR : Hid (nameOk (by8 s) = false) := by
          show _ = false
          rw [HRG.out, Bool.eq_false_iff]
          intro h
          exact hok (List.all_eq_true.1 h c (List.mem_of_getElem? HC.out))
        have hkk : k < 45 ∨ (45 < k ∧ k < 48) ∨ (57 < k ∧ k < 97) ∨ 122 < k := by unfold okC at hok; rw [decide_eq_true_eq, HK.out] at hok; omega
        clear hok
        rcases hkk with k1 | ⟨k1, k2⟩ | ⟨k1, k2⟩ | k1
        · have kk : (k : Int) < 45 := by omega
          have d1 : decide ((97 : Int) ≤ k) = false := by simp; omega
          have d2 : decide ((k : Int) ≤ 122) = true := by simp; omega
          have d3 : decide ((48 : Int) ≤ k) = false := by simp; omega
          have d4 : decide ((k : Int) ≤ 57) = true := by simp; omega
          have kn : ((k : Int) == 45) = false := by simp; omega
          go_wp2_with fail
          go_ret
          exact ⟨ret_bool HR.out.symm, HB.out⟩
        · have kk : (45 : Int) < k ∧ (k : Int) < 48 := by omega
          have d1 : decide ((97 : Int) ≤ k) = false := by simp; omega
          have d2 : decide ((k : Int) ≤ 122) = true := by simp; omega
          have d3 : decide ((48 : Int) ≤ k) = false := by simp; omega
          have d4 : decide ((k : Int) ≤ 57) = true := by simp; omega
          have kn : ((k : Int) == 45) = false := by simp; omega
          go_wp2_with fail
          go_ret
          exact ⟨ret_bool HR.out.symm, HB.out⟩
        · have kk : (57 : Int) < k ∧ (k : Int) < 97 := by omega
          have d1 : decide ((97 : Int) ≤ k) = false := by simp; omega
          have d2 : decide ((k : Int) ≤ 122) = true := by simp; omega
          have d3 : decide ((48 : Int) ≤ k) = true := by simp; omega
          have d4 : decide ((k : Int) ≤ 57) = false := by simp; omega
          have kn : ((k : Int) == 45) = false := by simp; omega
          go_wp2_with fail
          go_ret
          exact ⟨ret_bool HR.out.symm, HB.out⟩
        · have kk : (122 : Int) < k := by omega
          have d1 : decide ((97 : Int) ≤ k) = true := by simp; omega
          have d2 : decide ((k : Int) ≤ 122) = false := by simp; omega
          have d3 : decide ((48 : Int) ≤ k) = true := by simp; omega
          have d4 : decide ((k : Int) ≤ 57) = false := by simp; omega
          have kn : ((k : Int) == 45) = false := by simp; omega
          go_wp2_with fail
          go_ret
          exact ⟨ret_bool HR.out.symm, HB.out⟩
    · have HR : Hid (nameOk (by8 s) = true) := by
        show _ = true
        have h := HA.out
        rw [List.take_of_length_le (by rw [HLN.out]; omega)] at h
        rw [HRG.out, h]
      go_wp2_with fail
      go_ret
      exact ⟨ret_bool HR.out.symm, HB.out⟩
/-- What the reference's line says. -/
def RLineP (l : List DocM) (s : B8) (w : World) (e : Ending) (w' : World) : Prop :=
  Below w.heap.size w w' ∧ ((∃ l' A c, lineF l s = some l' ∧ e = .returned (.tuple #[.slice A l'.length c, .bool true]) ∧ IsSl w' 5 A l'.length c (dCells l')) ∨
    (lineF l s = none ∧ ∃ A n c, e = .returned (.tuple #[.slice A n c, .bool false])))
theorem heap_old {w : World} {k : Nat} {x o : Obj} (h : w.heap[k]? = some x) : (w.alloc o).heap[k]? = some x := by
  rw [((Below.refl _ w).alloc (Nat.le_refl _) o).block k (Array.getElem?_eq_some_iff.1 h).1]; exact h
theorem rline_fin {l : List DocM} {s : B8} {w W : World} {n cap : Nat} {A : Option Addr} {id : ByteArray} {nb : Bool} (hl : l.length = n) (h : lineF l s = if nb = true then some (l ++ [bare id]) else none)
    (hs : IsSl W 5 A (n + 1) cap (dCells l ++ [.string id, .string { data := #[] }, .string { data := #[] }, .string { data := #[] }, .string { data := #[] }])) (hb : Below w.heap.size w W) :
    RLineP l s w (.returned (.tuple #[.slice A (n + 1) cap, .bool nb])) W := by
  refine ⟨hb, ?_⟩
  cases nb
  · exact .inr ⟨h, _, _, _, rfl⟩
  · have hl2 : (l ++ [bare id]).length = n + 1 := by rw [List.length_append, hl]; rfl
    refine .inl ⟨l ++ [bare id], A, cap, h, by rw [hl2], ?_⟩
    rw [hl2, dCells_append]
    exact hs
set_option maxHeartbeats 8000000 in
theorem rline_doc (w : World) (A : Option Addr) (n c : Nat) (l : List DocM) (hsl : IsSl w 5 A n c (dCells l)) (s : ByteArray) (hs : s.size ≤ 65536) (hn : n ≤ 100000) (hp : docHead.isPrefixOf (by8 s) = true) :
    Calls Tryd.prog 45 #[.slice A n c, .string s] w (RLineP l (by8 s) w) := by
  have hln : l.length = n := by have := hsl.1; rw [dCells_length] at this; omega
  have HLN := Lib.hid hln
  have HSL := Lib.hid hsl
  have CB := Lib.hid (begins_calls s { data := #[100, 111, 99, 32] } w)
  rw [show by8 { data := #[100, 111, 99, 32] } = docHead from rfl, hp] at CB
  have h4 : 4 ≤ s.size := by
    have := (List.isPrefixOf_iff_prefix.1 hp).length_le
    rw [by8_len] at this
    exact this
  have hx := slice_str_from (P := Tryd.prog) Tryd.underlying9 s .i64 4 4 rfl h4
  obtain ⟨id, hid⟩ : ∃ id, s.extract 4 s.size = id := ⟨_, rfl⟩
  have HID : Hid (by8 id = (by8 s).drop 4) := by show _ = _; rw [← hid]; exact Lib.extract_to_end s 4
  rw [hid] at hx
  have CN := Lib.hid (rname_same id)
  obtain ⟨nb, hnb⟩ : ∃ nb, nameOk (by8 id) = nb := ⟨_, rfl⟩
  rw [hnb] at CN
  have HRES : Hid (lineF l (by8 s) = if nb = true then some (l ++ [bare id]) else none) := by
    show _ = _
    unfold lineF
    rw [if_pos hp, ← HID.out, hnb]; rfl
  have HN0 : Hid (w.ownsRow w.heap.size 33 5 (.slice none 0 0) 0 []) := ⟨rfl, .inl ⟨rfl, rfl⟩⟩
  have HONE := Lib.hid (dCells_one l)
  clear hln hsl hid hnb hp h4
  go_enter Tryd.func45, Tryd.ntmps45
  go_wp2_with fail
  refine CB.out.mono ?_
  rintro e w1 ⟨rfl, rfl⟩
  clear CB
  go_wp2_with (at_builtin; go_loud (refine wpList_app_own _ rfl (.tmp 16) (.tmp 17) 23 rfl w1.heap.size 33 (.agg #[.string { data := #[] }, .string { data := #[] }, .string { data := #[] }, .string { data := #[] }, .string { data := #[] }]) 5 80 Tryd.underlying23 inf_doc rfl (by decide) (.slice none 0 0) 0 [] rfl HN0.out A n c (dCells l) rfl HSL.out HONE.out (by unfold maxLen; omega) (by omega) (Nat.le_refl _) ?_))
  intro v2 w2 ho2 hg2 hb2
  obtain ⟨A2, c2, rfl, hsl2⟩ := own_form ho2
  have HO := Lib.hid ho2
  have HB2 := Lib.hid hb2
  have HI := Lib.hid hb2.size
  have HCN := Lib.hid CN.out
  clear ho2 hg2 hb2 hsl2
  obtain ⟨i0, hi0, hz0, hz1, hz2⟩ := info_parts inf_doc
  go_wp2_with fail
  go_region_law (first | (refine step_append_lies _ rfl (.tmp 19) (.tmp 23) 23 rfl w1.heap.size 33 i0 (.agg #[.string { data := #[] }, .string { data := #[] }, .string { data := #[] }, .string { data := #[] }, .string { data := #[] }]) 5 80 Tryd.underlying23 hi0 hz0 hz1 hz2 rfl (by decide) (.slice A2 n c2) n (dCells l) (by simp [Act.eval, Act.put]) (HO.out.alloc _) ⟨w2.heap.size, 0, none⟩ 1 1 [.string id, .string { data := #[] }, .string { data := #[] }, .string { data := #[] }, .string { data := #[] }] (by simp [Act.eval, Act.put]) rfl (World.news_of_block (cs := #[.string id, .string { data := #[] }, .string { data := #[] }, .string { data := #[] }, .string { data := #[] }]) (t := 33) (fr := (0, 0)) (heap_alloc_new w2 _)) (by simp [Value.oneCell']) (by decide) (by unfold maxLen; omega) (by omega) (by simp; have := HI.out; omega) (w2.heap.size + 1) (by simp) ?_; intro g cap w5 hown hgrow hat hlt; have HOW := Lib.hid hown; have HG := Lib.hid hgrow; clear hown hgrow hat) | (go_simp; go_at_call 48; refine (CN.out _).mono ?_; rintro e w5 ⟨rfl, rfl⟩))
  all_goals (
    go_wp2_with fail
    go_ret2
    obtain ⟨A5, c5, hv5, hsl5⟩ := own_form HOW.out
    injection hv5 with hv6 hv7 hv8
    subst hv6 hv8
    have hg : w2.grownBy w5 (Value.slice A2 n c2).ownBlock := (World.grownBy_alloc w2 _ _).trans ⟨HG.out.os, HG.out.tape, HG.out.output, HG.out.size, HG.out.block⟩
    refine rline_fin HLN.out HRES.out hsl5 ((HB2.out.grown hg HI.out fun k hk => (HO.out.lt k hk).1))
    )
end Exp
end Go.Proofs.YtfohollhdaedlaaDoor
