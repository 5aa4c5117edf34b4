/- Export: a builder's contracts in this text's words; escape. -/
import Derived.Test.YtfohollhdaedlaaDoorExpShelf
import Derived.Test.YtfohollhdaedlaaDoorExpM
import Derived.Test.YtfohollhdaedlaaDoorSl
import Derived.Shelf.Small.Strs
import Derived.Shelf.Small.Wraps
set_option linter.unusedVariables false
set_option linter.unusedSimpArgs false
set_option maxRecDepth 100000
namespace Go.Proofs.YtfohollhdaedlaaDoor
open Go.RowKit
namespace Exp
theorem idx_s (s : ByteArray) (i : Nat) (x : Int) (hx : x = i) (hlt : i < s.size) (W : World) :
    (Instr.index 9 (.string s) (.int .i64 x)).run Tryd.prog W = .ok (.int .u8 (byt s i)) W := by
  subst hx
  rw [run_index_string W 9 s .i64 _ Tryd.underlying9, dif_pos ⟨by omega, by omega⟩]
  simp [byt, hlt]
/-- The bytes of a text. -/
abbrev by8 (s : ByteArray) : B8 := s.data.toList
theorem by8_len (s : ByteArray) : (by8 s).length = s.size := by rw [by8, Array.length_toList]; rfl
def mk8 (l : B8) : ByteArray := ⟨l.toArray⟩
theorem by8_mk (l : B8) : by8 (mk8 l) = l := rfl
theorem mk8_by (s : ByteArray) : mk8 (by8 s) = s := rfl
theorem by8_get (s : ByteArray) (i : Nat) (h : i < s.size) : ∃ c : UInt8, (by8 s)[i]? = some c ∧ byt s i = (c.toNat : Int) := by
  have hl : s.data.toList.length = s.size := by8_len s
  refine ⟨s.data.toList[i]'(by omega), List.getElem?_eq_getElem _, ?_⟩
  rw [← byt_data s i h, List.getD_eq_getElem?_getD, List.getElem?_eq_getElem (by omega)]; rfl
def IsB (B b : Nat) (l : B8) (w : World) : Prop := Lib.IsBuilder 75 5 B b (Lib.byteCells l) w
theorem IsB.new (w : World) : IsB w.heap.size w.heap.size [] (w.alloc (.cells #[.pointer none, .slice none 0 0] 75)) :=
  .inl ⟨Nat.le_refl _, .slice none 0 0, heap_alloc_new w _, World.ownsRow_nil _ _ _ _, by simp [Value.ownBlock]⟩
theorem IsB.below {B b B' : Nat} {l : B8} {w w' : World} (h : IsB B b l w) (hb : Below w.heap.size w w') : IsB B b l w' := by
  rcases h with ⟨hB, v, h1, h2, h3⟩ | ⟨hB, v, h1, h2, h3⟩
  · exact .inl ⟨hB, v, (hb.block b (Array.getElem?_eq_some_iff.1 h1).1).trans h1, own_below h2 hb, h3⟩
  · exact .inr ⟨hB, v, (hb.block b (Array.getElem?_eq_some_iff.1 h1).1).trans h1, own_below h2 hb, h3⟩
theorem wByte {B b : Nat} {l : B8} {w : World} (c : UInt8) (h : IsB B b l w) (hlen : l.length + 1 ≤ 140737488355328) (hB : B ≤ w.heap.size) :
    Calls Tryd.prog 84 #[.pointer (some ⟨b, 0, none⟩), .int .u8 c.toNat] w fun e w' => e = .returned .nilIface ∧ IsB B b (l ++ [c]) w' ∧ Below B w w' :=
  (Go.Proofs.Any.Builder_WriteByte lays_n167 extra B b (Lib.byteCells l) c.toNat w h (by rw [Lib.byteCells_length]; exact hlen) hB).mono fun e w' ⟨h1, h2, h3⟩ => ⟨h1, .inr (by
    have e : Lib.byteCells l ++ [Value.int .u8 c.toNat] = Lib.byteCells (l ++ [c]) := by simp [Lib.byteCells]
    rw [e] at h2; exact h2), h3⟩
theorem wStr {B b : Nat} {l : B8} {w : World} (s : ByteArray) (h : IsB B b l w) (hlen : l.length + s.size ≤ 140737488355328) (hB : B ≤ w.heap.size) :
    Calls Tryd.prog 41 #[.pointer (some ⟨b, 0, none⟩), .string s] w fun e w' => e = .returned (.tuple #[.int .i64 s.size, .nilIface]) ∧ IsB B b (l ++ by8 s) w' ∧ Below B w w' :=
  (Go.Proofs.Any.Builder_WriteString lays_n166 extra B b (Lib.byteCells l) s w h (by rw [Lib.byteCells_length]; exact hlen) hB).mono fun e w' ⟨h1, h2, h3⟩ => ⟨h1, .inr (by
    have e : Lib.byteCells l ++ Lib.strCells s = Lib.byteCells (l ++ by8 s) := by simp [Lib.byteCells, Lib.strCells]
    rw [e] at h2; exact h2), h3⟩
theorem bStr {B b : Nat} {l : B8} {w : World} (h : IsB B b l w) (hB : B ≤ w.heap.size) :
    Calls Tryd.prog 43 #[.pointer (some ⟨b, 0, none⟩)] w fun e w' => e = .returned (.string (mk8 l)) ∧ Below B w w' :=
  Go.Proofs.Any.Builder_String_any lays_n169 extra B b l w h hB
theorem esc_len : ∀ l : B8, (esc l).length ≤ 2 * l.length
  | [] => Nat.le_refl _
  | c :: l => by
    have := esc_len l
    rw [esc_cons, List.length_append, List.length_cons]
    have h1 : (esc1 c).length ≤ 2 := by
      unfold esc1
      split
      · exact Nat.le_refl _
      · split
        · exact Nat.le_refl _
        · exact Nat.le_succ _
    have h2 : (esc l).length ≤ 2 * List.length l := this
    have h3 : 2 * (List.length l + 1) = 2 * List.length l + 2 := by omega
    rw [h3]
    rw [Nat.add_comm]
    exact Nat.add_le_add h2 h1
theorem esc_take (l : B8) {i : Nat} {c : UInt8} (h : l[i]? = some c) : esc (l.take (i + 1)) = esc (l.take i) ++ esc1 c := by
  rw [List.take_add_one, h, esc_append]
  simp [esc]
theorem c10 {c : UInt8} : c = 10 ↔ c.toNat = 10 := ⟨fun h => by rw [h]; rfl, fun h => UInt8.toNat_inj.1 h⟩
theorem c92 {c : UInt8} : c = 92 ↔ c.toNat = 92 := ⟨fun h => by rw [h]; rfl, fun h => UInt8.toNat_inj.1 h⟩
theorem c110 {c : UInt8} : c = 110 ↔ c.toNat = 110 := ⟨fun h => by rw [h]; rfl, fun h => UInt8.toNat_inj.1 h⟩
set_option maxHeartbeats 2000000 in
theorem escape_calls (s : ByteArray) (hs : s.size ≤ 1000000) (w : World) :
    Calls Tryd.prog 42 #[.string s] w fun e w' => e = .returned (.string (mk8 (esc (by8 s)))) ∧ Below w.heap.size w w' := by
  obtain ⟨n, hn⟩ : ∃ n, s.size = n := ⟨_, rfl⟩
  have HN := Lib.hid hn
  rw [hn] at hs
  clear hn
  go_enter Tryd.func42, Tryd.ntmps42
  have HI := Lib.hid (IsB.new w)
  have HW : Hid (Below w.heap.size w (w.alloc (.cells #[.pointer none, .slice none 0 0] 75))) := (Below.refl _ _).alloc (Nat.le_refl _) _
  have hn := HN.out
  go_wp2_with fail
  clear hn
  go_loopw [7] (fun ix wr => ∃ i : Nat, i ≤ n ∧ ix = .int .i64 i ∧ IsB w.heap.size w.heap.size (esc ((by8 s).take i)) wr ∧ Below w.heap.size w wr) (fun ix _ => n - (intOf ix).toNat)
  case atStart => exact ⟨0, Nat.zero_le _, rfl, HI.out, HW.out⟩
  case round =>
    clear HI HW
    obtain ⟨i, hi, rfl, hb, hbw⟩ := hrel
    have HB := Lib.hid hb
    have HW := Lib.hid hbw
    have HE := Lib.hid (esc_len ((by8 s).take i))
    clear hb hbw
    by_cases hlt : i < n
    · obtain ⟨c, hc, hbc⟩ := by8_get s i (by rw [HN.out]; exact hlt)
      have hix := idx_s s i (i : Int) rfl (by rw [HN.out]; exact hlt)
      rw [hbc] at hix
      have HT := Lib.hid (esc_take (by8 s) hc)
      have HL : Hid ((esc ((by8 s).take i)).length ≤ 2000000) := by
        have h := HE.out
        rw [List.length_take] at h
        show _ ≤ _
        omega
      clear hc hbc
      by_cases h10 : c.toNat = 10
      · have e1 : esc1 c = [92, 110] := by unfold esc1; rw [if_pos (c10.2 h10)]
        have C := Lib.hid (wStr ⟨#[92, 110]⟩ HB.out (by have := HL.out; show _ + 2 ≤ _; omega) HW.out.size)
        rw [h10] at hix
        clear h10
        go_wp2_with fail
        refine C.out.mono ?_
        rintro e w2 ⟨rfl, hb2, hw2⟩
        have HB2 := Lib.hid hb2
        have HW2 := Lib.hid (HW.out.trans hw2)
        clear hb2 hw2
        go_wp2_with fail
        go_roundw
        case rel => exact ⟨i + 1, by omega, by go_num, by rw [HT.out, e1]; exact HB2.out, HW2.out⟩
        case measure => simp [intOf]; omega
      · by_cases h92 : c.toNat = 92
        · have e1 : esc1 c = [92, 92] := by unfold esc1; rw [if_neg (fun h => h10 (c10.1 h)), if_pos (c92.2 h92)]
          have C := Lib.hid (wStr ⟨#[92, 92]⟩ HB.out (by have := HL.out; show _ + 2 ≤ _; omega) HW.out.size)
          rw [h92] at hix
          clear h92 h10
          go_wp2_with fail
          refine C.out.mono ?_
          rintro e w2 ⟨rfl, hb2, hw2⟩
          have HB2 := Lib.hid hb2
          have HW2 := Lib.hid (HW.out.trans hw2)
          clear hb2 hw2
          go_wp2_with fail
          go_roundw
          case rel => exact ⟨i + 1, by omega, by go_num, by rw [HT.out, e1]; exact HB2.out, HW2.out⟩
          case measure => simp [intOf]; omega
        · have e1 : esc1 c = [c] := by unfold esc1; rw [if_neg (fun h => h10 (c10.1 h)), if_neg (fun h => h92 (c92.1 h))]
          have C := Lib.hid (wByte c HB.out (by have := HL.out; omega) HW.out.size)
          have k1 : ((c.toNat : Int) == 10) = false := by simp; omega
          have k2 : ((c.toNat : Int) == 92) = false := by simp; omega
          clear h92 h10
          go_wp2_with fail
          refine C.out.mono ?_
          rintro e w2 ⟨rfl, hb2, hw2⟩
          have HB2 := Lib.hid hb2
          have HW2 := Lib.hid (HW.out.trans hw2)
          clear hb2 hw2
          go_wp2_with fail
          go_roundw
          case rel => exact ⟨i + 1, by omega, by go_num, by rw [HT.out, e1]; exact HB2.out, HW2.out⟩
          case measure => simp [intOf]; omega
    · have ht : (by8 s).take i = by8 s := List.take_of_length_le (by rw [by8_len, HN.out]; omega)
      rw [ht] at HB
      have C := Lib.hid (bStr HB.out HW.out.size)
      clear ht
      go_wp2_with fail
      refine C.out.mono ?_
      rintro e w2 ⟨rfl, hw2⟩
      have HW2 := Lib.hid (HW.out.trans hw2)
      clear hw2
      go_wp2_with fail
      go_ret
      exact ⟨rfl, HW2.out⟩
end Exp
end Go.Proofs.YtfohollhdaedlaaDoor
