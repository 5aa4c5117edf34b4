/- Lanes: how a slice of deeds that came in is opened. -/
import Derived.Test.YtdmpgoaemoiogaaLanA
import Derived.Test.YtdmpgoaemoiogaaBytesArg
import Derived.LaidMore
import Derived.SizedLaws
set_option linter.unusedVariables false
set_option linter.unusedSimpArgs false
namespace Go.Proofs.Ytdmpgoaemoiogaa
open Go.RowKit Go.ChangeShapes Go.WideShapes
namespace Box
/-- A deed's cells. -/
structure DoAt (w : World) (ab ao : Nat) (op fr tw k at_ by_ : Int) (A : Option Addr) (bn bc : Nat) (bs : List Int) : Prop where
  c0 : w.cell? ⟨ab, ao, none⟩ = some (.int .i64 op)
  c1 : w.cell? ⟨ab, ao + 1, none⟩ = some (.int .i64 fr)
  c2 : w.cell? ⟨ab, ao + 2, none⟩ = some (.int .i64 tw)
  c3 : w.cell? ⟨ab, ao + 3, none⟩ = some (.int .i64 k)
  c4 : w.cell? ⟨ab, ao + 4, none⟩ = some (.int .i64 at_)
  c5 : w.cell? ⟨ab, ao + 5, none⟩ = some (.int .u8 by_)
  c6 : w.cell? ⟨ab, ao + 6, none⟩ = some (.slice A bn bc)
  r0 : I64 op
  r1 : I64 fr
  r2 : I64 tw
  r3 : I64 k
  r4 : I64 at_
  r5 : 0 ≤ by_ ∧ by_ ≤ 255
  sl : IsSl w 1 A bn bc (bs.map (.int .u8))
  byt : Byt bs
theorem DoAt.below {w w' : World} {ab ao : Nat} {op fr tw k at_ by_ : Int} {A : Option Addr} {bn bc : Nat} {bs : List Int} (h : DoAt w ab ao op fr tw k at_ by_ A bn bc bs) (hb : Below w.heap.size w w') : DoAt w' ab ao op fr tw k at_ by_ A bn bc bs :=
  have g : ∀ {o : Nat} {v : Value}, w.cell? ⟨ab, o, none⟩ = some v → w'.cell? ⟨ab, o, none⟩ = some v := fun {o v} hc => (hb.cell (World.block_lt_of_cell? w _ hc)).trans hc
  ⟨g h.c0, g h.c1, g h.c2, g h.c3, g h.c4, g h.c5, g h.c6, h.r0, h.r1, h.r2, h.r3, h.r4, h.r5, h.sl.below hb, h.byt⟩
/-- A slice of n deeds. -/
def IsDeeds (w : World) (A : Option Addr) (n c : Nat) : Prop :=
  n ≤ c ∧ c ≤ maxLen ∧ (A = none → n = 0) ∧ ∀ i, i < n → ∃ ab ao op fr tw k at_ by_ B bn bc bs, A = some ⟨ab, ao, none⟩ ∧ DoAt w ab (ao + i * 7) op fr tw k at_ by_ B bn bc bs
theorem IsDeeds.below {w w' : World} {A : Option Addr} {n c : Nat} (h : IsDeeds w A n c) (hb : Below w.heap.size w w') : IsDeeds w' A n c := by
  obtain ⟨h1, h2, h3, h4⟩ := h
  refine ⟨h1, h2, h3, fun i hi => ?_⟩
  obtain ⟨ab, ao, op, fr, tw, k, at_, by_, B, bn, bc, bs, hA, hd⟩ := h4 i hi
  exact ⟨ab, ao, op, fr, tw, k, at_, by_, B, bn, bc, bs, hA, hd.below hb⟩
section
variable {H : Type} {enc : TypeId × Value → H} {P : Program} {W : World} {base : Nat} {spare : Nat → Bool} {held : Bool}
theorem trod_struct7 {t : TypeId} {f0 f1 f2 f3 f4 f5 f6 : Field} {fuel : Nat} {cs : List Value} {x : DataW H × List MemPlace} (ht : P.underlying t = some (.struct #[f0, f1, f2, f3, f4, f5, f6])) (h : DataW.trod enc P W base spare held fuel t cs = some x) :
    ∃ y0 y1 y2 y3 y4 y5 y6 n, DataW.trod enc P W base spare held n f0.type ((cs.drop f0.offset).take (P.cellsOf f0.type)) = some y0 ∧
      DataW.trod enc P W base spare held n f1.type ((cs.drop f1.offset).take (P.cellsOf f1.type)) = some y1 ∧ DataW.trod enc P W base spare held n f2.type ((cs.drop f2.offset).take (P.cellsOf f2.type)) = some y2 ∧
      DataW.trod enc P W base spare held n f3.type ((cs.drop f3.offset).take (P.cellsOf f3.type)) = some y3 ∧ DataW.trod enc P W base spare held n f4.type ((cs.drop f4.offset).take (P.cellsOf f4.type)) = some y4 ∧
      DataW.trod enc P W base spare held n f5.type ((cs.drop f5.offset).take (P.cellsOf f5.type)) = some y5 ∧ DataW.trod enc P W base spare held n f6.type ((cs.drop f6.offset).take (P.cellsOf f6.type)) = some y6 := by
  obtain ⟨xs, n, _, rfl, hl, hlen, hf⟩ := DataW.trod_struct ht h
  match xs, hlen with
  | [y0, y1, y2, y3, y4, y5, y6], _ => exact ⟨y0, y1, y2, y3, y4, y5, y6, n, by simpa using hf 0 f0 rfl, by simpa using hf 1 f1 rfl, by simpa using hf 2 f2 rfl, by simpa using hf 3 f3 rfl, by simpa using hf 4 f4 rfl, by simpa using hf 5 f5 rfl, by simpa using hf 6 f6 rfl⟩
theorem list7 {cs : List Value} (h : cs.length = 7) : ∃ c0 c1 c2 c3 c4 c5 c6, cs = [c0, c1, c2, c3, c4, c5, c6] := by
  match cs, h with
  | [c0, c1, c2, c3, c4, c5, c6], _ => exact ⟨c0, c1, c2, c3, c4, c5, c6, rfl⟩
/-- A slice of bytes by its reading alone. -/
theorem open_bytes_cs {t e : TypeId} {v : Value} {fuel : Nat} {x : DataW H × List MemPlace} (hu : P.underlying t = some (.slice e)) (he : P.underlying e = some (.int .u8)) (hc : P.cellsOf e = 1)
    (h : DataW.trod enc P W base spare held fuel t [v] = some x) : ∃ A bn bc bs, v = .slice A bn bc ∧ IsSl W 1 A bn bc (bs.map (.int .u8)) ∧ Byt bs := by
  rcases open_ints hu he hc h with ⟨hcs, _⟩ | ⟨a, len, cap, zs, hcs, _, hl, hm, hz, _, hcell, hwf⟩
  · simp only [List.cons.injEq, and_true] at hcs
    subst hcs
    exact ⟨none, 0, 0, [], rfl, ⟨rfl, Nat.le_refl _, by decide, fun _ => ⟨rfl, rfl⟩, fun ad ha => by cases ha⟩, fun b hb => by cases hb⟩
  · simp only [List.cons.injEq, and_true] at hcs
    subst hcs
    have hlz : len ≤ zs.length := by rw [hz]; split <;> omega
    refine ⟨some a, len, cap, zs.take len, rfl, ⟨by simp; omega, hl, hm, fun ha => (by cases ha), fun ad ha j u hu => ?_⟩, fun b hb => ?_⟩
    · obtain rfl := Option.some.inj ha
      rw [List.getElem?_map] at hu
      obtain ⟨z, hz1, rfl⟩ := Option.map_eq_some_iff.1 hu
      have hj := (List.getElem?_eq_some_iff.1 hz1).1
      simp at hj
      rw [List.getElem?_take, if_pos (by omega)] at hz1
      rw [hcell j (by omega), List.getD_eq_getElem?_getD, hz1]; rfl
    · have := bounds_u8 (hwf b (List.mem_of_mem_take hb))
      omega
set_option maxHeartbeats 1000000 in
theorem open_deeds {t e tb eb : TypeId} {A : Option Addr} {n c : Nat} {fuel : Nat} {x : DataW H × List MemPlace} {f0 f1 f2 f3 f4 f5 f6 : Field} (hu : P.underlying t = some (.slice e)) (he : P.underlying e = some (.struct #[f0, f1, f2, f3, f4, f5, f6]))
    (o0 : f0.offset = 0) (o1 : f1.offset = 1) (o2 : f2.offset = 2) (o3 : f3.offset = 3) (o4 : f4.offset = 4) (o5 : f5.offset = 5) (o6 : f6.offset = 6) (hc : P.cellsOf e = 7)
    (hc0 : P.cellsOf f0.type = 1) (hc1 : P.cellsOf f1.type = 1) (hc2 : P.cellsOf f2.type = 1) (hc3 : P.cellsOf f3.type = 1) (hc4 : P.cellsOf f4.type = 1) (hc5 : P.cellsOf f5.type = 1) (hc6 : P.cellsOf f6.type = 1)
    (t0 : P.underlying f0.type = some (.int .i64)) (t1 : P.underlying f1.type = some (.int .i64)) (t2 : P.underlying f2.type = some (.int .i64)) (t3 : P.underlying f3.type = some (.int .i64)) (t4 : P.underlying f4.type = some (.int .i64)) (t5 : P.underlying f5.type = some (.int .u8))
    (t6 : P.underlying f6.type = some (.slice eb)) (heb : P.underlying eb = some (.int .u8)) (hceb : P.cellsOf eb = 1)
    (h : DataW.trod enc P W base spare held fuel t [.slice A n c] = some x) : IsDeeds W A n c := by
  rcases DataW.trod_slice hu h with ⟨hcs, _⟩ | ⟨a, len, cap, elems, rest, m, _, hcs, _, _, h1, h2, h3, h4, _⟩
  · simp only [List.cons.injEq, Value.slice.injEq, and_true] at hcs
    obtain ⟨rfl, rfl, rfl⟩ := hcs
    exact ⟨Nat.le_refl _, by decide, fun _ => rfl, fun i hi => by omega⟩
  · simp only [List.cons.injEq, Value.slice.injEq, and_true] at hcs
    obtain ⟨rfl, rfl, rfl⟩ := hcs
    rw [hc] at h4
    refine ⟨h1, h2, fun ha => (by cases ha), fun i hi => ?_⟩
    have := h4 i hi
    rw [List.getElem?_eq_getElem (by omega), Option.bind_eq_some_iff] at this
    obtain ⟨cs, k1, k2⟩ := this
    obtain ⟨_, hl, hcell⟩ := World.cells?_some k1
    obtain ⟨v0, v1, v2, v3, v4, v5, v6, rfl⟩ := list7 hl
    obtain ⟨y0, y1, y2, y3, y4, y5, y6, m', a0, a1, a2, a3, a4, a5, a6⟩ := trod_struct7 he k2
    simp only [hc0, hc1, hc2, hc3, hc4, hc5, hc6, o0, o1, o2, o3, o4, o5, o6] at a0 a1 a2 a3 a4 a5 a6
    obtain ⟨n0, e0, _, q0⟩ := DataW.trod_int t0 a0
    obtain ⟨n1, e1, _, q1⟩ := DataW.trod_int t1 a1
    obtain ⟨n2, e2, _, q2⟩ := DataW.trod_int t2 a2
    obtain ⟨n3, e3, _, q3⟩ := DataW.trod_int t3 a3
    obtain ⟨n4, e4, _, q4⟩ := DataW.trod_int t4 a4
    obtain ⟨n5, e5, _, q5⟩ := DataW.trod_int t5 a5
    obtain ⟨B, bn, bc, bs, e6, sl, hbyt⟩ := open_bytes_cs t6 heb hceb a6
    simp at e0 e1 e2 e3 e4 e5
    subst e0 e1 e2 e3 e4 e5 e6
    have hg : ∀ j v, j < 7 → [Value.int .i64 n0, .int .i64 n1, .int .i64 n2, .int .i64 n3, .int .i64 n4, .int .u8 n5, .slice B bn bc][j]? = some v → W.cell? ((a.add (i * 7)).add j) = some v := fun j v hj hv => (hcell j hj).trans hv
    have hsp0 : a.spot = none := by
      have h0 := h4 0 (by omega)
      rw [List.getElem?_eq_getElem (by omega), Option.bind_eq_some_iff] at h0
      obtain ⟨cs0, g1, _⟩ := h0
      obtain ⟨_, gl, gcell⟩ := World.cells?_some g1
      have g0 := gcell 0 (by decide)
      rw [List.getElem?_eq_getElem (by omega)] at g0
      simpa [Addr.add] using spot_none g0
    obtain ⟨ab, ao, sp⟩ := a
    simp only at hsp0
    subst hsp0
    have hg' : ∀ j v, j < 7 → [Value.int .i64 n0, .int .i64 n1, .int .i64 n2, .int .i64 n3, .int .i64 n4, .int .u8 n5, .slice B bn bc][j]? = some v → W.cell? ⟨ab, ao + i * 7 + j, none⟩ = some v := fun j v hj hv => by
      have := hg j v hj hv
      rwa [Addr.add_lit, Addr.add_lit] at this
    exact ⟨ab, ao, n0, n1, n2, n3, n4, n5, B, bn, bc, bs, rfl,
      ⟨hg' 0 _ (by decide) rfl, hg' 1 _ (by decide) rfl, hg' 2 _ (by decide) rfl, hg' 3 _ (by decide) rfl, hg' 4 _ (by decide) rfl, hg' 5 _ (by decide) rfl, hg' 6 _ (by decide) rfl, bounds_i64 q0, bounds_i64 q1, bounds_i64 q2, bounds_i64 q3, bounds_i64 q4, bounds_u8 q5, sl, hbyt⟩⟩
end
end Box
end Go.Proofs.Ytdmpgoaemoiogaa
