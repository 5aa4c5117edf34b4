/- Lanes' reference: what it is in memory. -/
import Derived.Test.YtdmpgoaemoiogaaRefM
import Derived.Test.YtdmpgoaemoiogaaLanOpen
set_option linter.unusedVariables false
set_option linter.unusedSimpArgs false
set_option maxRecDepth 100000
namespace Go.Proofs.Ytdmpgoaemoiogaa
open Go.RowKit Go.Maps
namespace Ref
open Box
abbrev Msg := Way2 × Par
def mCells (L : List Msg) : List Value := L.flatMap fun x => [.int .i64 x.1.1, .int .i64 x.1.2, .string x.2.1, .int .i64 x.2.2.1, .int .u8 x.2.2.2]
theorem mCells_append (L M : List Msg) : mCells (L ++ M) = mCells L ++ mCells M := by simp [mCells]
theorem mCells_cons (x : Msg) (L : List Msg) : mCells (x :: L) = .int .i64 x.1.1 :: .int .i64 x.1.2 :: .string x.2.1 :: .int .i64 x.2.2.1 :: .int .u8 x.2.2.2 :: mCells L := rfl
theorem mCells_length : ∀ L : List Msg, (mCells L).length = L.length * 5
  | [] => rfl
  | x :: L => by
    have := mCells_length L
    rw [mCells_cons]
    simp only [List.length_cons]; omega
theorem mCells_take : ∀ (L : List Msg) (i : Nat), (mCells L).take (i * 5) = mCells (L.take i)
  | _, 0 => by simp [mCells]
  | [], _ + 1 => by simp [mCells]
  | x :: L, i + 1 => by
    rw [mCells_cons, List.take_succ_cons, mCells_cons, show (i + 1) * 5 = i * 5 + 1 + 1 + 1 + 1 + 1 by omega]
    simp only [List.take_succ_cons, mCells_take L i]
theorem mCells_drop : ∀ (L : List Msg) (i : Nat), (mCells L).drop (i * 5) = mCells (L.drop i)
  | _, 0 => by simp
  | [], _ + 1 => by simp [mCells]
  | x :: L, i + 1 => by
    rw [mCells_cons, List.drop_succ_cons, show (i + 1) * 5 = i * 5 + 1 + 1 + 1 + 1 + 1 by omega]
    simp only [List.drop_succ_cons, mCells_drop L i]
theorem mCells_at : ∀ (L : List Msg) (i : Nat) (x : Msg) (h : L[i]? = some x), (mCells L)[i * 5]? = some (.int .i64 x.1.1) ∧ (mCells L)[i * 5 + 1]? = some (.int .i64 x.1.2) ∧ (mCells L)[i * 5 + 2]? = some (.string x.2.1) ∧ (mCells L)[i * 5 + 3]? = some (.int .i64 x.2.2.1) ∧ (mCells L)[i * 5 + 4]? = some (.int .u8 x.2.2.2)
  | [], _, _, h => by simp at h
  | y :: L, 0, x, h => by
    obtain rfl : y = x := by simpa using h
    exact ⟨rfl, rfl, rfl, rfl, rfl⟩
  | y :: L, i + 1, x, h => by
    have := mCells_at L i x (by simpa using h)
    rw [mCells_cons, show (i + 1) * 5 = i * 5 + 1 + 1 + 1 + 1 + 1 by omega]
    simpa [Nat.add_right_comm _ 5] using this
theorem mCells_set (L : List Msg) (i : Nat) (x : Msg) (a y : Int) (h : L[i]? = some x) :
    ((mCells L).set (i * 5 + 3) (.int .i64 a)).set (i * 5 + 4) (.int .u8 y) = mCells (L.set i (x.1, (x.2.1, a, y))) := by
  induction L generalizing i with
  | nil => simp at h
  | cons z L ih =>
    cases i with
    | zero =>
      obtain rfl : z = x := by simpa using h
      rfl
    | succ i =>
      have := ih i (by simpa using h)
      have e : (z :: L).set (i + 1) (x.1, (x.2.1, a, y)) = z :: L.set i (x.1, (x.2.1, a, y)) := rfl
      rw [e, mCells_cons, mCells_cons, show (i + 1) * 5 + 3 = (i * 5 + 3) + 1 + 1 + 1 + 1 + 1 by omega, show (i + 1) * 5 + 4 = (i * 5 + 4) + 1 + 1 + 1 + 1 + 1 by omega]
      simp only [List.set_cons_succ, this]
theorem mCells_one (L : List Msg) : ∀ u ∈ mCells L, u.oneCell' = true := by
  intro u hu
  obtain ⟨x, _, hx⟩ := List.mem_flatMap.1 hu
  simp only [List.mem_cons, List.not_mem_nil, or_false] at hx
  rcases hx with rfl | rfl | rfl | rfl | rfl <;> rfl
theorem m_at {w : World} {A : Option Addr} {n c : Nat} {L : List Msg} (h : IsSl w 5 A n c (mCells L)) {i : Nat} {x : Msg} (hx : L[i]? = some x) :
    ∃ b o, A = some ⟨b, o, none⟩ ∧ w.cell? ⟨b, o + i * 5, none⟩ = some (.int .i64 x.1.1) ∧ w.cell? ⟨b, o + i * 5 + 1, none⟩ = some (.int .i64 x.1.2) ∧ w.cell? ⟨b, o + i * 5 + 2, none⟩ = some (.string x.2.1) ∧ w.cell? ⟨b, o + i * 5 + 3, none⟩ = some (.int .i64 x.2.2.1) ∧ w.cell? ⟨b, o + i * 5 + 4, none⟩ = some (.int .u8 x.2.2.2) := by
  obtain ⟨h1, h2, h3, h4, h5⟩ := h
  obtain ⟨e0, e1, e2, e3, e4⟩ := mCells_at L i x hx
  rw [mCells_length] at h1
  have hi := (List.getElem?_eq_some_iff.1 hx).1
  cases A with
  | none => have := h4 rfl; omega
  | some ad =>
    obtain ⟨ab, ao, sp⟩ := ad
    have f0 := h5 _ rfl (i * 5) _ e0
    have f1 := h5 _ rfl (i * 5 + 1) _ e1
    have f2 := h5 _ rfl (i * 5 + 2) _ e2
    have f3 := h5 _ rfl (i * 5 + 3) _ e3
    have f4 := h5 _ rfl (i * 5 + 4) _ e4
    have g0 := h5 _ rfl 0 ((mCells L)[0]'(by rw [mCells_length]; omega)) (List.getElem?_eq_getElem _)
    have hsp := spot_none g0
    have hsp : sp = none := by simpa [Addr.add] using hsp
    subst hsp
    rw [Addr.add_lit] at f0 f1 f2 f3 f4
    exact ⟨ab, ao, rfl, f0, f1, f2, f3, f4⟩
/-- The reference: its block, its row. B: from where on the row lies. -/
structure RfS (w : World) (B r : Nat) (v : Value) (n : Nat) (s t : Int) (L : List Msg) : Prop where
  head : w.heap[r]? = some (.cells #[.int .i64 n, v, .int .i64 s, .int .i64 t] 85 (0, 0))
  row : w.ownsRow B 106 5 v L.length (mCells L)
  ne : v.ownBlock ≠ some r
/-- Its blocks. -/
def RfB (r : Nat) (v : Value) (x : Nat) : Prop := x = r ∨ v.ownBlock = some x
variable {w : World} {B r n : Nat} {v : Value} {s t : Int} {L : List Msg}
theorem RfS.lt (h : RfS w B r v n s t L) : r < w.heap.size := (Array.getElem?_eq_some_iff.1 h.head).1
theorem RfS.vlt (h : RfS w B r v n s t L) {x : Nat} (hx : v.ownBlock = some x) : x < w.heap.size := (h.row.lt _ hx).2
theorem RfS.keep {w' : World} (h : RfS w B r v n s t L) {row : Option Nat} (hg : w.grownBy w' row) (h1 : row ≠ some r) (h2 : ∀ x, v.ownBlock = some x → row ≠ some x) : RfS w' B r v n s t L where
  head := (hg.block r h.lt (fun e => h1 e.symm)).trans h.head
  row := h.row.kept hg (by
    cases ho : v.ownBlock with
    | none => exact .inl rfl
    | some x => exact .inr (fun e => h2 x ho e.symm))
  ne := h.ne
theorem RfS.below {w' : World} (h : RfS w B r v n s t L) (hb : Below w.heap.size w w') : RfS w' B r v n s t L where
  head := (hb.block r h.lt).trans h.head
  row := own_below h.row hb
  ne := h.ne
theorem RfS.foot {w' : World} {F : Nat → Prop} (h : RfS w B r v n s t L) (hf : Foot w w' F) (hF : ∀ x, RfB r v x → ¬ F x) : RfS w' B r v n s t L where
  head := (hf.2.2.2.2 r h.lt (hF r (.inl rfl))).trans h.head
  row := by
    obtain ⟨h1, h2⟩ := h.row
    refine ⟨h1, ?_⟩
    rcases h2 with hn | ⟨g, cap, cur, rfl, hb, hg, rest⟩
    · exact .inl hn
    · exact .inr ⟨g, cap, cur, rfl, hb, (hf.2.2.2.2 g (Array.getElem?_eq_some_iff.1 hg).1 (hF g (.inr rfl))).trans hg, rest⟩
  ne := h.ne
/-- What a call has left. -/
def RStep (w : World) (B r n : Nat) (v : Value) (s t : Int) (L : List Msg) (w' : World) : Prop :=
  ∃ v', RfS w' B r v' n s t L ∧ Foot w w' (RfB r v) ∧ ∀ x, RfB r v' x → RfB r v x ∨ w.heap.size ≤ x
theorem RStep.refl (h : RfS w B r v n s t L) : RStep w B r n v s t L w := ⟨v, h, Foot.refl _ _, fun _ h => .inl h⟩
theorem RStep.of_below {w' : World} (h : RfS w B r v n s t L) (hb : Below w.heap.size w w') : RStep w B r n v s t L w' := ⟨v, h.below hb, Foot.of_below _ hb, fun _ h => .inl h⟩
end Ref
end Go.Proofs.Ytdmpgoaemoiogaa
