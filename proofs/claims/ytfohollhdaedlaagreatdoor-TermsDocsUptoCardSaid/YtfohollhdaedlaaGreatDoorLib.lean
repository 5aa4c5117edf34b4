/- Small laws of this claim's own, over any program: a text turned into bytes, and what holds behind it. -/
import Derived.WalkKit
import Derived.SizedLaws
import Derived.Lib.ConvBytes
import Derived.Lib.Hide
import Derived.RegionTactic
import Derived.Deep.QuietTactic
import Derived.BigQuiet
import Derived.Deep.Draws
import Derived.Deep.DeepCutAuto
import Derived.Deep.LoopGhost
import Derived.LoopTactic
import Derived.WalkSmall
import Derived.WalkSpells
import Derived.WalkLawsBesides
set_option linter.unusedVariables false
set_option linter.unusedSimpArgs false
namespace Go.Proofs.YtfohollhdaedlaaGreatDoor
open Go.RowKit

/-- Byte i of a text, 0 behind its end. -/
def byt (s : ByteArray) (i : Nat) : Int := if h : i < s.size then ((s[i]'h).toNat : Int) else 0
theorem byt_range (s : ByteArray) (i : Nat) : 0 ≤ byt s i ∧ byt s i < 256 := by
  unfold byt; split
  · have := (s[i]'‹_›).toNat_lt; omega
  · omega
theorem byt_at (s : ByteArray) (i : Nat) (h : i < s.size) : ((s[i]'h).toNat : Int) = byt s i := by simp [byt, h]
theorem byt_data (s : ByteArray) (i : Nat) (h : i < s.size) : ((s.data.toList.getD i 0).toNat : Int) = byt s i := by
  have h' : i < s.data.size := h
  have e : s[i]'h = s.data[i]'h' := rfl
  simp [byt, h, e, List.getD, h']
theorem byt_extract (s : ByteArray) (i a b : Nat) (hb : b ≤ s.size) (h : a + i < b) : byt (s.extract a b) i = byt s (a + i) := by
  have h1 : i < (s.extract a b).size := by rw [ByteArray.size_extract]; omega
  rw [byt, dif_pos h1, byt, dif_pos (by omega), ByteArray.getElem_extract]

theorem bytesWorld_below (w : World) (e : TypeId) (s : ByteArray) : Below w.heap.size w (Lib.bytesWorld w e s) where
  os := by
    simp only [Lib.bytesWorld, World.freeze]; split <;> rfl
  tape := by simp only [Lib.bytesWorld, World.freeze]; split <;> rfl
  output := by simp only [Lib.bytesWorld, World.freeze]; split <;> rfl
  size := by rw [Lib.bytesWorld_size]; omega
  block := fun k hk => Lib.bytesWorld_at_old w e s k hk

/-- '[]byte(s)': a new row of the text's bytes. -/
theorem wpList_conv_bytes {P : Program} (w : World) {ops : Array Oper} {rest : List Oper} {o : Oper} {a : Act} {Q : Exit → Act → World → Prop}
    (hg : o.guard = none) (src dst e : TypeId) (x : Operand) (ho : o.op = .convert src dst x) (s : ByteArray) (hx : a.eval x = .string s) {u : TypeDesc}
    (hs : P.underlying src = some u) (hd : P.underlying dst = some (.slice e)) (he : P.underlying e = some (.int .u8))
    (h : ∀ w' cap, Below w.heap.size w w' → w'.heap.size = w.heap.size + 1 → (∀ j, j < s.size → w'.cell? ⟨w.heap.size, j, none⟩ = some (.int .u8 (byt s j))) →
      wpList P ops Q rest (a.put o.dst (.slice (some ⟨w.heap.size, 0, none⟩) s.size cap)) w') :
    wpList P ops Q (o :: rest) a w := by
  refine wpList_plain hg fun K hK => ?_
  have hrun := Lib.run_convert_string_bytes (P := P) w src dst e s hs hd he
  unfold Oper.wp
  simp [execOp, ho, hx, hrun, Result.andThen]
  refine hK _ _ (h _ _ (bytesWorld_below w e s) (Lib.bytesWorld_size w e s) fun j hj => ?_)
  rw [Lib.bytesWorld_cell w e s j hj, byt_data s j hj]

theorem u8_and192 (x : Int) (h0 : 0 ≤ x) (h1 : x < 256) : bits .and .u8 x 192 = x - x % 64 := by
  have h : ∀ a : Fin 256, (a.val &&& 192) = a.val - a.val % 64 := by decide +kernel
  have := h ⟨x.toNat, by omega⟩
  obtain ⟨n, rfl⟩ := Int.eq_ofNat_of_zero_le h0
  have e := (bits_nat .u8 8 (by decide) wraps_u8 n 192 (by omega) (by omega)).1
  simp only [Int.toNat_natCast] at this
  have e2 : ((192 : Nat) : Int) = 192 := rfl
  rw [e2] at e
  rw [e, this]; omega
theorem wraps_i64 (n : Int) (h0 : 0 ≤ n) (h1 : n < 2 ^ 62) : IntKind.i64.wrap n = n := by rw [IntKind.wrap_i64]; omega
theorem i64_or6 (x y : Int) (hx0 : 0 ≤ x) (hx : x % 64 = 0) (hx1 : x < 4611686018427387904) (h0 : 0 ≤ y) (h1 : y < 64) : bits .or .i64 x y = x + y :=
  bits_join .i64 62 (by decide) wraps_i64 6 x y hx0 hx hx1 h0 h1 (by omega)

theorem i64_and63 (x : Int) (h0 : 0 ≤ x) (h1 : x < 4611686018427387904) : bits .and .i64 x 63 = x % 64 := bits_mask .i64 62 (by decide) wraps_i64 6 (by decide) x h0 h1
theorem i64_or128 (y : Int) (h0 : 0 ≤ y) (h1 : y < 64) : bits .or .i64 128 y = 128 + y := bits_join .i64 62 (by decide) wraps_i64 6 128 y (by decide) (by decide) (by decide) h0 h1 (by omega)
theorem i64_or192 (y : Int) (h0 : 0 ≤ y) (h1 : y < 32) : bits .or .i64 192 y = 192 + y := bits_join .i64 62 (by decide) wraps_i64 5 192 y (by decide) (by decide) (by decide) h0 h1 (by omega)
theorem i64_or224 (y : Int) (h0 : 0 ≤ y) (h1 : y < 16) : bits .or .i64 224 y = 224 + y := bits_join .i64 62 (by decide) wraps_i64 4 224 y (by decide) (by decide) (by decide) h0 h1 (by omega)
theorem i64_or240 (y : Int) (h0 : 0 ≤ y) (h1 : y < 8) : bits .or .i64 240 y = 240 + y := bits_join .i64 62 (by decide) wraps_i64 3 240 y (by decide) (by decide) (by decide) h0 h1 (by omega)

theorem slice_str {P : Program} {t : TypeId} (h : P.underlying t = some .string) (s : ByteArray) (k k' : IntKind) (i j : Int) (i' j' : Nat) (hi : i = i') (hj : j = j') (h1 : i' ≤ j') (h2 : j' ≤ s.size) (W : World) :
    (Instr.slice t (.string s) (some (.int k i)) (some (.int k' j)) none).run P W = .ok (.string (s.extract i' j')) W := by
  subst hi hj
  have := run_slice_string (P := P) W t s k k' (i' : Int) (j' : Int) h (by omega) (by omega) (by omega)
  simpa using this

theorem slice_str_to {P : Program} {t : TypeId} (h : P.underlying t = some .string) (s : ByteArray) (k : IntKind) (j : Int) (j' : Nat) (hj : j = j') (h2 : j' ≤ s.size) (W : World) :
    (Instr.slice t (.string s) none (some (.int k j)) none).run P W = .ok (.string (s.extract 0 j')) W := by
  subst hj
  have := run_slice_string_h (P := P) W t s h k (j' : Int) (by omega) (by omega)
  simpa using this
theorem slice_str_from {P : Program} {t : TypeId} (h : P.underlying t = some .string) (s : ByteArray) (k : IntKind) (j : Int) (j' : Nat) (hj : j = j') (h2 : j' ≤ s.size) (W : World) :
    (Instr.slice t (.string s) (some (.int k j)) none none).run P W = .ok (.string (s.extract j' s.size)) W := by
  subst hj
  have := run_slice_string_l (P := P) W t s h k (j' : Int) (by omega) (by omega)
  simpa using this

theorem ret_int {k : IntKind} {a b : Int} (h : a = b) : Ending.returned (.int k a) = .returned (.int k b) := by rw [h]
theorem ret_bool {a b : Bool} (h : a = b) : Ending.returned (.bool a) = .returned (.bool b) := by rw [h]
theorem ret_int2 {k l : IntKind} {a b c d : Int} (h : a = b) (h' : c = d) : Ending.returned (.tuple #[.int k a, .int l c]) = .returned (.tuple #[.int k b, .int l d]) := by rw [h, h']
theorem ret_string {a b : ByteArray} (h : a = b) : Ending.returned (.string a) = .returned (.string b) := by rw [h]
/-- Behind a call that made memory, what was known goes on. -/
theorem below_step {B : Nat} {w w1 w2 : World} (h : Below B w w1) (hB : B ≤ w1.heap.size) (k : Below w1.heap.size w1 w2) : Below B w w2 :=
  h.trans (k.mono hB)
theorem below_next {w w1 w2 : World} (h : Below w.heap.size w w1) (k : Below w1.heap.size w1 w2) : Below w.heap.size w w2 := h.trans (k.mono h.size)
theorem cell_new (w : World) (cs : Array Value) (t : TypeId) (fr : Nat × Nat) (j : Nat) : (w.alloc (.cells cs t fr)).cell? ⟨w.heap.size, j, none⟩ = cs[j]? := by
  show (match (w.heap.push (.cells cs t fr))[w.heap.size]? with | some (.cells c _ _) => if (none : Option Nat).isSome then none else c[j]? | _ => none) = _
  simp
theorem str_reach {s : ByteArray} (h : s.data.toList.length ≤ reachBytes) : s.size ≤ 140737488351232 := by
  have e : reachBytes = 140737488351232 := by decide
  rw [e, Array.length_toList] at h
  exact h
end Go.Proofs.YtfohollhdaedlaaGreatDoor
