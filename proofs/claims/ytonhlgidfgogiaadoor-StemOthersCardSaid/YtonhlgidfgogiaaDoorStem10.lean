/- The walk of the law StemOthers. -/
import Derived.Test.YtonhlgidfgogiaaDoorStem9
import Derived.Deep.RegionWith
set_option linter.unusedVariables false
set_option linter.unusedSimpArgs false
set_option maxRecDepth 100000
namespace Go.Proofs.YtonhlgidfgogiaaDoor
open Go.RowKit
namespace Stem
/-- '[]byte(s)': a new row of the text's bytes, which may be written. -/
theorem wpList_conv_bytes_free {P : Program} (w : World) {ops : Array Oper} {rest : List Oper} {o : Oper} {a : Act} {Q : Exit → Act → World → Prop}
    (hg : o.guard = none) (src dst e : TypeId) (x : Operand) (ho : o.op = .convert src dst x) (s : ByteArray) (hx : a.eval x = .string s) {u : TypeDesc}
    (hs : P.underlying src = some u) (hd : P.underlying dst = some (.slice e)) (he : P.underlying e = some (.int .u8)) (hm : s.size ≤ maxLen)
    (h : ∀ w' cap, Below w.heap.size w w' → w'.heap.size = w.heap.size + 1 → (∀ j, j < s.size → w'.cell? ⟨w.heap.size, j, none⟩ = some (.int .u8 (byt s j)) ∧ w'.frozen? ⟨w.heap.size, j, none⟩ = false) → s.size ≤ cap → cap ≤ maxLen →
      wpList P ops Q rest (a.put o.dst (.slice (some ⟨w.heap.size, 0, none⟩) s.size cap)) w') :
    wpList P ops Q (o :: rest) a w := by
  refine wpList_plain hg fun K hK => ?_
  have hrun := Lib.run_convert_string_bytes (P := P) w src dst e s hs hd he
  unfold Oper.wp
  simp [execOp, ho, hx, hrun, Result.andThen]
  refine hK _ _ (h _ _ (bytesWorld_below w e s) (Lib.bytesWorld_size w e s) (fun j hj => ?_) ?_ ?_)
  · have h1 := Lib.bytesWorld_cell w e s j hj
    refine ⟨by rw [h1, byt_data s j hj], ?_⟩
    have h2 := Lib.bytesWorld_at_new w e s
    simp only [World.cell?, h2] at h1
    have h3 := (Array.getElem?_eq_some_iff.1 (by simpa using h1)).1
    simp [World.frozen?, h2]; omega
  · exact grownCap_ge w s.size 0 e
  · exact grownCap_le_maxLen w s.size 0 e hm
theorem byt_str {l : List Int} (hl : Byt l) {i : Nat} {x : Int} (h : l[i]? = some x) : byt (strOfNums l) i = x := by
  have hlen := (List.getElem?_eq_some_iff.1 h).1
  have := bytesOf_get (strOfNums l) i (by rw [strOfNums_size]; exact hlen)
  rw [bytesOf_strOfNums hl, h] at this
  exact (Option.some.inj this).symm
theorem byt_set {l : List Int} (hl : Byt l) (i : Nat) {c : Int} (h0 : 0 ≤ c) (h1 : c < 256) : Byt (l.set i c) := by
  intro b hb
  rcases List.mem_or_eq_of_mem_set hb with h | rfl
  · exact hl b h
  · exact ⟨h0, h1⟩
/-- A text in which a byte is none of a to z is its own stem. -/
theorem stem_odd (s : ByteArray) (i : Nat) (hi : i < s.size) (c : Int) (h0 : 0 ≤ c) (h1 : c < 256) (hc : ¬ (97 ≤ c ∧ c ≤ 122)) : stemF (strOfNums ((bytesOf s).set i c)) = strOfNums ((bytesOf s).set i c) := by
  have hl := bytesOf_length s
  refine stem_other _ (plain_odd _ i (by rw [strOfNums_size, List.length_set, hl]; exact hi) ?_)
  rw [byt_str (byt_set (bytesOf_byt s) i h0 h1) (x := c) (by rw [List.getElem?_set_self (by omega)])]
  exact hc
/-- The row behind the store. -/
theorem set_row {w : World} {g n cap : Nat} {s : ByteArray} (hn : s.size = n) (hc : n ≤ cap) (hm : cap ≤ maxLen) (h : ∀ j, j < n → w.cell? ⟨g, j, none⟩ = some (.int .u8 (byt s j))) (i : Nat) (hi : i < n) (c : Int) :
    IsSl (w.setCell ⟨g, i, none⟩ (.int .u8 c)) 1 (some ⟨g, 0, none⟩) n cap (((bytesOf s).set i c).map (.int .u8)) := by
  refine ⟨by rw [List.length_map, List.length_set, bytesOf_length]; omega, hc, hm, fun ha => (by cases ha), fun ad ha j u hu => ?_⟩
  obtain rfl := Option.some.inj ha
  rw [Addr.add_lit, Nat.zero_add]
  rw [List.getElem?_map] at hu
  by_cases hij : i = j
  · subst hij
    rw [List.getElem?_set_self (by rw [bytesOf_length]; omega)] at hu
    rw [World.cell?_setCell_same _ _ _ (h i hi)]
    exact hu
  · rw [List.getElem?_set_ne hij] at hu
    rw [World.cell?_setCell_other _ _ _ _ (by simp)]
    have hj : j < n := by
      cases he : (bytesOf s)[j]? with
      | none => rw [he] at hu; cases hu
      | some y => have := (List.getElem?_eq_some_iff.1 he).1; rw [bytesOf_length] at this; omega
    rw [h j hj]
    rw [bytesOf_get s j (by omega)] at hu
    exact hu

set_option maxHeartbeats 2000000 in
theorem others_proof (w : World) (hL : Laids w) (s : ByteArray) (hs : s.size ≤ 140737488351232) (at_ : Int) (ha : -9223372036854775808 ≤ at_ ∧ at_ ≤ 9223372036854775807) (c : Int) (hc : 0 ≤ c ∧ c ≤ 255) :
    Calls Tryd.prog 9 #[.string s, .int .i64 at_, .int .u8 c] w fun e w' => e = .returned (.bool true) ∧ Below w.heap.size w w' := by
  have HL := Lib.hid hL
  clear hL
  by_cases hl : 4096 < s.size
  · go_enter Tryd.func9, Tryd.ntmps9
    go_wp2_with fail
    refine (awake_calls _ HL.out).mono ?_
    rintro e w1 ⟨rfl, hb1⟩
    go_wp2_with fail
    go_ret
    exact ⟨rfl, hb1⟩
  · by_cases h4 : s.size < 4
    · have c1 := fun W h => stem_calls s hs W h
      rw [stem_other s (plain_short s h4)] at c1
      have h4' : (s.size : Int) < 4 := by omega
      go_enter Tryd.func9, Tryd.ntmps9
      go_wp2_with fail
      refine (c1 _ HL.out.2).mono ?_
      rintro e w1 ⟨rfl, hb⟩
      have HB1 : Hid (Below w.heap.size w w1) := hb
      clear hb
      go_wp2_with fail
      refine (awake_calls _ (HL.out.below HB1.out)).mono ?_
      rintro e w2 ⟨rfl, hb2⟩
      go_wp2_with fail
      go_ret
      exact ⟨rfl, below_next HB1.out hb2⟩
    · have h4' : (4 : Int) ≤ s.size := by omega
      by_cases hz : 97 ≤ c ∧ c ≤ 122
      · obtain ⟨hz1, hz2⟩ := hz
        go_enter Tryd.func9, Tryd.ntmps9
        go_wp2_with fail
        refine (awake_calls _ HL.out).mono ?_
        rintro e w1 ⟨rfl, hb1⟩
        go_wp2_with fail
        go_ret
        exact ⟨rfl, hb1⟩
      · obtain ⟨u, hu⟩ : ∃ u : Int, IntKind.u64.wrap at_ = u := ⟨_, rfl⟩
        have hu0 : 0 ≤ u := by rw [← hu, IntKind.wrap_u64]; omega
        obtain ⟨n, hn⟩ : ∃ n : Nat, s.size = n := ⟨_, rfl⟩
        have hwn : IntKind.u64.wrap (n : Int) = n := by rw [IntKind.wrap_u64]; omega
        obtain ⟨i, hi⟩ : ∃ i : Nat, u % (n : Int) = i := ⟨(u % (n : Int)).toNat, by have := Int.emod_nonneg u (show (n : Int) ≠ 0 by omega); omega⟩
        have hin : i < n := by have := Int.emod_lt_of_pos u (show 0 < (n : Int) by omega); omega
        have hwi : IntKind.i64.wrap (i : Int) = i := by rw [IntKind.wrap_i64]; omega
        have hini : (i : Int) < n := by omega
        have hn0 : ((n : Int) = 0) = False := by simp; omega
        have hst := stem_odd s i (by omega) c hc.1 (by omega) hz
        have hts : (strOfNums ((bytesOf s).set i c)).size ≤ 140737488351232 := by rw [strOfNums_size, List.length_set, bytesOf_length]; exact hs
        have c1 := fun W h => stem_calls (strOfNums ((bytesOf s).set i c)) hts W h
        rw [hst] at c1
        have C1 := Lib.hid c1
        clear c1 hst
        rw [hn] at h4'
        have hl2 : (n : Int) ≤ 4096 := by omega
        have hzz : (decide (97 ≤ c) && decide (c ≤ 122)) = false := by simp; omega
        rcases (show c < 97 ∨ (97 ≤ c ∧ 122 < c) by omega) with hz1 | ⟨hz1, hz2⟩
        · go_enter Tryd.func9, Tryd.ntmps9
          go_wp2_with (refine wpList_conv_bytes_free _ rfl 9 28 5 (.tmp 29) rfl s rfl Tryd.underlying9 Tryd.underlying28 Tryd.underlying5 (by unfold maxLen; omega) ?_)
          intro w1 cap hb hsz hcell hcap hcm
          have HB1 := Lib.hid hb
          have HR := Lib.hid (fun W (hW : W = w1.setCell ⟨w.heap.size, i, none⟩ (.int .u8 c)) => hW ▸ set_row hn hcap hcm (fun j hj => (hcell j (by omega)).1) i hin c)
          have hci := (hcell i (by omega)).1
          have hfi := (hcell i (by omega)).2
          have HB2 : Hid (Below w.heap.size w (w1.setCell ⟨w.heap.size, i, none⟩ (.int .u8 c))) := hb.setCell (Nat.le_refl _) _
          have hcapi : (i : Int) < cap := by omega
          have hcm' := hcm
          unfold maxLen at hcm'
          clear hb hsz hcell
          generalize hg : w.heap.size = g at *
          have HG := Lib.hid hg
          clear hg
          generalize byt s i = z at hci
          go_wp2_with fail
          have HS := Lib.hid (HR.out _ rfl)
          have HLW : Hid (Laids (w1.setCell ⟨g, i, none⟩ (.int .u8 c))) := HL.out.below (by rw [HG.out]; exact HB2.out)
          clear HR
          generalize w1.setCell ⟨g, i, none⟩ (.int .u8 c) = w2 at *
          have hcv := run_str_of (P := Tryd.prog) w2.drew 28 9 5 Tryd.underlying28 Tryd.underlying5 Tryd.underlying9 _ n cap _ (show IsSl w2.drew 1 _ _ _ _ from HS.out)
          generalize ht : strOfNums ((bytesOf s).set i c) = t at *
          have htt : (t.toList == t.toList) = true := by simp
          go_region_with (first
            | (go_at_call 36; refine (C1.out w2.drew (show LaidE w2.drew from HLW.out.2)).mono ?_; rintro e w4 ⟨rfl, hb4⟩; have hcv4 := run_str_of (P := Tryd.prog) w4 28 9 5 Tryd.underlying28 Tryd.underlying5 Tryd.underlying9 _ n cap _ ((show IsSl w2.drew 1 _ _ _ _ from HS.out).below hb4); rw [ht] at hcv4; have HB4 := Lib.hid (below_drew1 hb4); clear hb4)
            | (go_at_call 40; refine (awake_calls w4 (HLW.out.below HB4.out)).mono ?_; rintro e w5 ⟨rfl, hb5⟩; have HB5 := Lib.hid (below_next HB4.out hb5); clear hb5))
          all_goals (go_wp2_with fail; go_ret; exact ⟨rfl, by rw [HG.out]; exact HB2.out.trans (HB5.out.mono (by have := HB2.out.size; have := HG.out; omega))⟩)
        · go_enter Tryd.func9, Tryd.ntmps9
          go_wp2_with (refine wpList_conv_bytes_free _ rfl 9 28 5 (.tmp 29) rfl s rfl Tryd.underlying9 Tryd.underlying28 Tryd.underlying5 (by unfold maxLen; omega) ?_)
          intro w1 cap hb hsz hcell hcap hcm
          have HB1 := Lib.hid hb
          have HR := Lib.hid (fun W (hW : W = w1.setCell ⟨w.heap.size, i, none⟩ (.int .u8 c)) => hW ▸ set_row hn hcap hcm (fun j hj => (hcell j (by omega)).1) i hin c)
          have hci := (hcell i (by omega)).1
          have hfi := (hcell i (by omega)).2
          have HB2 : Hid (Below w.heap.size w (w1.setCell ⟨w.heap.size, i, none⟩ (.int .u8 c))) := hb.setCell (Nat.le_refl _) _
          have hcapi : (i : Int) < cap := by omega
          have hcm' := hcm
          unfold maxLen at hcm'
          clear hb hsz hcell
          generalize hg : w.heap.size = g at *
          have HG := Lib.hid hg
          clear hg
          generalize byt s i = z at hci
          go_wp2_with fail
          have HS := Lib.hid (HR.out _ rfl)
          have HLW : Hid (Laids (w1.setCell ⟨g, i, none⟩ (.int .u8 c))) := HL.out.below (by rw [HG.out]; exact HB2.out)
          clear HR
          generalize w1.setCell ⟨g, i, none⟩ (.int .u8 c) = w2 at *
          have hcv := run_str_of (P := Tryd.prog) w2.drew 28 9 5 Tryd.underlying28 Tryd.underlying5 Tryd.underlying9 _ n cap _ (show IsSl w2.drew 1 _ _ _ _ from HS.out)
          generalize ht : strOfNums ((bytesOf s).set i c) = t at *
          have htt : (t.toList == t.toList) = true := by simp
          go_region_with (first
            | (go_at_call 36; refine (C1.out w2.drew (show LaidE w2.drew from HLW.out.2)).mono ?_; rintro e w4 ⟨rfl, hb4⟩; have hcv4 := run_str_of (P := Tryd.prog) w4 28 9 5 Tryd.underlying28 Tryd.underlying5 Tryd.underlying9 _ n cap _ ((show IsSl w2.drew 1 _ _ _ _ from HS.out).below hb4); rw [ht] at hcv4; have HB4 := Lib.hid (below_drew1 hb4); clear hb4)
            | (go_at_call 40; refine (awake_calls w4 (HLW.out.below HB4.out)).mono ?_; rintro e w5 ⟨rfl, hb5⟩; have HB5 := Lib.hid (below_next HB4.out hb5); clear hb5))
          all_goals (go_wp2_with fail; go_ret; exact ⟨rfl, by rw [HG.out]; exact HB2.out.trans (HB5.out.mono (by have := HB2.out.size; have := HG.out; omega))⟩)
end Stem
end Go.Proofs.YtonhlgidfgogiaaDoor
