/- The walk: a parcel's bytes, as they come. -/
import Derived.Test.YtdmpgoaemoiogaaBoxP4
set_option linter.unusedVariables false
set_option linter.unusedSimpArgs false
set_option maxRecDepth 100000
namespace Go.Proofs.Ytdmpgoaemoiogaa
open Go.RowKit
namespace Box
/-- '[]byte(s)': a new row of the text's bytes, which may be written. -/
theorem wpList_conv_bytes_free {P : Program} (w : World) {ops : Array Oper} {rest : List Oper} {o : Oper} {a : Act} {Q : Exit → Act → World → Prop}
    (hg : o.guard = none) (src dst e : TypeId) (x : Operand) (ho : o.op = .convert src dst x) (s : ByteArray) (hx : a.eval x = .string s) {u : TypeDesc}
    (hs : P.underlying src = some u) (hd : P.underlying dst = some (.slice e)) (he : P.underlying e = some (.int .u8)) (hm : s.size ≤ maxLen)
    (h : ∀ w' cap, Below w.heap.size w w' → w'.heap.size = w.heap.size + 1 → (∀ j, j < s.size → w'.cell? ⟨w.heap.size, j, none⟩ = some (.int .u8 (byt s j)) ∧ w'.frozen? ⟨w.heap.size, j, none⟩ = false) → s.size ≤ cap → cap ≤ maxLen →
      wpList P ops Q rest (a.put o.dst (.slice (some ⟨w.heap.size, 0, none⟩) s.size cap)) w') :
    wpList P ops Q (o :: rest) a w := by
  refine wpList_plain hg fun K hK => ?_
  have hrun := Lib.run_convert_string_bytes (P := P) w src dst e s hs hd he
  unfold Oper.wp
  simp [execOp, ho, hx, hrun, Result.andThen]
  refine hK _ _ (h _ _ (bytesWorld_below w e s) (Lib.bytesWorld_size w e s) (fun j hj => ?_) ?_ ?_)
  · have h1 := Lib.bytesWorld_cell w e s j hj
    refine ⟨by rw [h1, byt_data s j hj], ?_⟩
    have h2 := Lib.bytesWorld_at_new w e s
    simp only [World.cell?, h2] at h1
    have h3 := (Array.getElem?_eq_some_iff.1 (by simpa using h1)).1
    simp [World.frozen?, h2]; omega
  · exact grownCap_ge w s.size 0 e
  · exact grownCap_le_maxLen w s.size 0 e hm
theorem byt_set {l : List Int} (hl : Byt l) (i : Nat) {c : Int} (h0 : 0 ≤ c) (h1 : c < 256) : Byt (l.set i c) := by
  intro b hb
  rcases List.mem_or_eq_of_mem_set hb with h | rfl
  · exact hl b h
  · exact ⟨h0, h1⟩
/-- The row behind the store. -/
theorem set_row {w : World} {g n cap : Nat} {s : ByteArray} (hn : s.size = n) (hc : n ≤ cap) (hm : cap ≤ maxLen) (h : ∀ j, j < n → w.cell? ⟨g, j, none⟩ = some (.int .u8 (byt s j))) (i : Nat) (hi : i < n) (c : Int) :
    IsSl (w.setCell ⟨g, i, none⟩ (.int .u8 c)) 1 (some ⟨g, 0, none⟩) n cap (((bytesOf s).set i c).map (.int .u8)) := by
  refine ⟨by rw [List.length_map, List.length_set, bytesOf_length]; omega, hc, hm, fun ha => (by cases ha), fun ad ha j u hu => ?_⟩
  obtain rfl := Option.some.inj ha
  rw [Addr.add_lit, Nat.zero_add]
  rw [List.getElem?_map] at hu
  by_cases hij : i = j
  · subst hij
    rw [List.getElem?_set_self (by rw [bytesOf_length]; omega)] at hu
    rw [World.cell?_setCell_same _ _ _ (h i hi)]
    exact hu
  · rw [List.getElem?_set_ne hij] at hu
    rw [World.cell?_setCell_other _ _ _ _ (by simp)]
    have hj : j < n := by
      cases he : (bytesOf s)[j]? with
      | none => rw [he] at hu; cases hu
      | some y => have := (List.getElem?_eq_some_iff.1 he).1; rw [bytesOf_length] at this; omega
    rw [h j hj]
    rw [bytesOf_get s j (by omega)] at hu
    exact hu

set_option maxHeartbeats 2000000 in
/-- What a parcel is held to be. -/
def OkP (p : Par) : Prop := p.1.size ≤ 140737488351232 ∧ (0 ≤ p.2.1 ∧ p.2.1 ≤ 9223372036854775807) ∧ 0 ≤ p.2.2 ∧ p.2.2 < 256
/-- A parcel's bytes, as they come: one of them is turned. -/
def opened (p : Par) : List Int := if p.1.size = 0 then [] else (bytesOf p.1).set (p.2.1.toNat % p.1.size) (bits .xor .u8 (byt p.1 (p.2.1.toNat % p.1.size)) p.2.2)
theorem run_rem (a n : Nat) (hn : 0 < n) (ha : (a : Int) ≤ 9223372036854775807) (W : World) : (binOp .rem 3 (.int .i64 (a : Int)) (.int .i64 (n : Int))).run Try.prog W = .ok (.int .i64 ((a % n : Nat) : Int)) W := by
  have h0 : ((n : Int) == 0) = false := by simp; omega
  have hw : IntKind.i64.wrap ((a : Int).tmod n) = ((a % n : Nat) : Int) := by
    rw [← Int.ofNat_tmod, IntKind.wrap_i64]
    have : a % n ≤ a := Nat.mod_le _ _
    omega
  have hn' : n ≠ 0 := by omega
  simp [binOp, go_sem, h0, hw, hn', Int.tmod_eq_emod_of_nonneg]
set_option maxHeartbeats 1000000 in
theorem open_calls (p : Par) (hp : OkP p) (w : World) :
    Calls Try.prog 54 #[pv p] w fun e w' => ∃ A cap, e = .returned (.slice A p.1.size cap) ∧ IsSl w' 1 A p.1.size cap ((opened p).map (.int .u8)) ∧ Below w.heap.size w w' ∧ ∀ ad, A = some ad → w.heap.size ≤ ad.block := by
  obtain ⟨s, at_, by_⟩ := p
  obtain ⟨hs, ⟨ha0, ha1⟩, hb0, hb1⟩ := hp
  obtain ⟨a, rfl⟩ := Int.eq_ofNat_of_zero_le ha0
  have hop : Hid (opened (s, (a : Int), by_) = if s.size = 0 then [] else (bytesOf s).set (a % s.size) (bits .xor .u8 (byt s (a % s.size)) by_)) := by
    show opened _ = _; simp [opened]
  simp only at hs hb0 hb1 ha1 ⊢
  simp only [pv]
  generalize hn : s.size = n at *
  by_cases h0 : n = 0
  · subst h0
    go_enter Try.func54, Try.ntmps54
    go_wp2_with (refine wpList_conv_bytes_free _ rfl 9 64 5 (.tmp 5) rfl s rfl Try.underlying9 Try.underlying64 Try.underlying5 (by unfold maxLen; omega) ?_)
    intro w1 cap hb hsz hcm
    have hbw : Below w.heap.size w w1 := ((Below.refl _ w).alloc (Nat.le_refl _) _).trans (hb.mono (Nat.le_succ _))
    have HB1 := Lib.hid hbw
    clear hb hsz hbw
    go_wp2_with fail
    go_ret
    exact ⟨some ⟨w.heap.size + 1, 0, none⟩, cap, rfl, by rw [hop.out, if_pos (by trivial)]; exact ⟨rfl, Nat.zero_le _, hcm, fun h => (by cases h), fun ad _ j u hu => by simp at hu⟩, HB1.out, fun ad ha => by cases ha; simp⟩
  · have hr := run_rem a n (by omega) ha1
    have hin : a % n < n := Nat.mod_lt _ (by omega)
    generalize hi : a % n = i at *
    go_enter Try.func54, Try.ntmps54
    go_wp2_with (refine wpList_conv_bytes_free _ rfl 9 64 5 (.tmp 5) rfl s rfl Try.underlying9 Try.underlying64 Try.underlying5 (by unfold maxLen; omega) ?_)
    intro w1 cap hb hsz hcell hcap hcm
    have hbw : Below w.heap.size w w1 := ((Below.refl _ w).alloc (Nat.le_refl _) _).trans (hb.mono (Nat.le_succ _))
    have HB1 := Lib.hid hbw
    have HR := Lib.hid (fun W (hW : W = w1.setCell ⟨w.heap.size + 1, i, none⟩ (.int .u8 (bits .xor .u8 (byt s i) by_))) => hW ▸ set_row hn hcap hcm (fun j hj => (hcell j hj).1) i hin (bits .xor .u8 (byt s i) by_))
    have hci := (hcell i hin).1
    have hfi := (hcell i hin).2
    obtain ⟨y0, y1, y2, y3⟩ := cell3 (w := w1) (n := w.heap.size) (x := .string s) (y := .int .i64 a) (z := .int .u8 by_) (t := 97) ((hb.block _ (by omega)).trans (heap_alloc_new _ _))
    have HB2 : Hid (Below w.heap.size w (w1.setCell ⟨w.heap.size + 1, i, none⟩ (.int .u8 (bits .xor .u8 (byt s i) by_)))) := hbw.setCell (by simp) _
    have hcapi : (i : Int) < cap := by omega
    have hini : (i : Int) < n := by omega
    have hn0 : (0 : Int) < n := by omega
    have hcm' := hcm
    unfold maxLen at hcm'
    clear hb hsz hcell hbw
    generalize byt s i = z at *
    go_wp2_with fail
    go_region
    go_wp2_with fail
    go_ret
    exact ⟨some ⟨w.heap.size + 1, 0, none⟩, cap, rfl, by rw [hop.out, if_neg h0]; have h := HR.out _ rfl; exact h, HB2.out.trans ⟨rfl, rfl, rfl, Nat.le_refl _, fun _ _ => rfl⟩, fun ad ha => by cases ha; simp⟩
end Box
end Go.Proofs.Ytdmpgoaemoiogaa
