/- Lanes and their reference side by side: what a deed does to both. -/
import Derived.Test.YtdmpgoaemoiogaaDoes2
import Derived.Test.YtdmpgoaemoiogaaLanOnce
set_option linter.unusedVariables false
set_option linter.unusedSimpArgs false
set_option maxRecDepth 100000
namespace Go.Proofs.Ytdmpgoaemoiogaa
open Go.RowKit Go.Maps
namespace Ref
open Box
/-- What both are: lanes (s, t, q), the reference (s', t', L). -/
structure St where
  s : Int
  t : Int
  q : Int × Int → List Par
structure Rs where
  s : Int
  t : Int
  L : List Msg
/-- Both in a world behind w0, apart; all that they are made of is new since w0. -/
def Duo0 (W w0 : World) (p r n : Nat) (a : St) (b : Rs) : Prop :=
  ∃ F m nk f v, LnsF W F p m n nk a.s a.t a.q f ∧ RfS W w0.heap.size r v n b.s b.t b.L ∧ (∀ x, RfB r v x → ¬ F x) ∧ (∀ x, F x → w0.heap.size ≤ x) ∧ w0.heap.size ≤ r ∧ Below w0.heap.size w0 W
/-- Beside them a block D that neither is made of. -/
def DuoV (W w0 : World) (p r n D : Nat) (ob : Obj) (a : St) (b : Rs) (v : Value) : Prop :=
  ∃ F m nk f, LnsF W F p m n nk a.s a.t a.q f ∧ RfS W w0.heap.size r v n b.s b.t b.L ∧ (∀ x, RfB r v x → ¬ F x) ∧ (∀ x, F x → w0.heap.size ≤ x) ∧ w0.heap.size ≤ r ∧ Below w0.heap.size w0 W ∧ W.heap[D]? = some ob ∧ ¬ F D ∧ ¬ RfB r v D
def Duo (W w0 : World) (p r n D : Nat) (ob : Obj) (a : St) (b : Rs) : Prop := ∃ v, DuoV W w0 p r n D ob a b v
theorem rfb_lt {w : World} {B r n : Nat} {v : Value} {s t : Int} {L : List Msg} (h : RfS w B r v n s t L) {x : Nat} (hx : RfB r v x) : x < w.heap.size := by
  rcases hx with rfl | hx
  · exact h.lt
  · exact h.vlt hx
theorem rfb_ge {w : World} {B r n : Nat} {v : Value} {s t : Int} {L : List Msg} (h : RfS w B r v n s t L) (hr : B ≤ r) {x : Nat} (hx : RfB r v x) : B ≤ x := by
  rcases hx with rfl | hx
  · exact hr
  · exact (h.row.lt x hx).1
variable {W W' w0 : World} {p r n D : Nat} {ob : Obj} {a a' : St} {b b' : Rs}
theorem Duo.to0 (h : Duo W w0 p r n D ob a b) : Duo0 W w0 p r n a b := by
  obtain ⟨v, F, m, nk, f, h1, h2, h3, h4, h5, h6, h7, h8, h9⟩ := h
  exact ⟨F, m, nk, f, v, h1, h2, h3, h4, h5, h6⟩
theorem Duo.at_ (h : Duo W w0 p r n D ob a b) : W.heap[D]? = some ob := by
  obtain ⟨v, F, m, nk, f, h1, h2, h3, h4, h5, h6, h7, h8, h9⟩ := h
  exact h7
theorem Duo.bel (h : Duo W w0 p r n D ob a b) : Below w0.heap.size w0 W := by
  obtain ⟨v, F, m, nk, f, h1, h2, h3, h4, h5, h6, h7, h8, h9⟩ := h
  exact h6
theorem Duo0.below (h : Duo0 W w0 p r n a b) (hb : Below W.heap.size W W') : Duo0 W' w0 p r n a b := by
  obtain ⟨F, m, nk, f, v, h1, h2, h3, h4, h5, h6⟩ := h
  exact ⟨F, m, nk, f, v, h1.below hb, h2.below hb, h3, h4, h5, below_next h6 hb⟩
theorem Duo.below (h : Duo W w0 p r n D ob a b) (hb : Below W.heap.size W W') : Duo W' w0 p r n D ob a b := by
  obtain ⟨v, F, m, nk, f, h1, h2, h3, h4, h5, h6, h7, h8, h9⟩ := h
  exact ⟨v, F, m, nk, f, h1.below hb, h2.below hb, h3, h4, h5, below_next h6 hb, (hb.block D (Array.getElem?_eq_some_iff.1 h7).1).trans h7, h8, h9⟩
/-- A new block is one that neither is made of. -/
theorem Duo0.fresh (h : Duo0 W w0 p r n a b) (ob' : Obj) : Duo (W.alloc ob') w0 p r n W.heap.size ob' a b := by
  obtain ⟨F, m, nk, f, v, h1, h2, h3, h4, h5, h6⟩ := h
  have hb : Below W.heap.size W (W.alloc ob') := (Below.refl _ _).alloc (Nat.le_refl _) _
  exact ⟨v, F, m, nk, f, h1.below hb, h2.below hb, h3, h4, h5, below_next h6 hb, heap_alloc_new W ob', fun hF => by have := h1.fin _ hF; omega, fun hR => by have := rfb_lt h2 hR; omega⟩
/-- The lanes' step. -/
theorem Duo.laneV {F : Nat → Prop} {v : Value} (h2 : RfS W w0.heap.size r v n b.s b.t b.L) (h3 : ∀ x, RfB r v x → ¬ F x) (h4 : ∀ x, F x → w0.heap.size ≤ x) (h5 : w0.heap.size ≤ r) (h6 : Below w0.heap.size w0 W) (h7 : W.heap[D]? = some ob) (h8 : ¬ F D) (h9 : ¬ RfB r v D)
    (hs : Step W F p n a'.s a'.t a'.q W') : DuoV W' w0 p r n D ob a' b v := by
  obtain ⟨F', ⟨m', nk', f', hL⟩, hf, hF⟩ := hs
  have hD := (Array.getElem?_eq_some_iff.1 h7).1
  have hsz := h6.size
  refine ⟨F', m', nk', f', hL, h2.foot hf h3, fun x hx hF' => ?_, fun x hx => ?_, h5, h6.trans (hf.below h6.size h4), (hf.2.2.2.2 D hD h8).trans h7, fun hF' => ?_, h9⟩
  · have := rfb_lt h2 hx
    rcases hF x hF' with h | h
    · exact h3 x hx h
    · omega
  · rcases hF x hx with h | h
    · exact h4 x h
    · omega
  · rcases hF D hF' with h | h
    · exact h8 h
    · omega
theorem Duo.lane {F : Nat → Prop} {v : Value} (h2 : RfS W w0.heap.size r v n b.s b.t b.L) (h3 : ∀ x, RfB r v x → ¬ F x) (h4 : ∀ x, F x → w0.heap.size ≤ x) (h5 : w0.heap.size ≤ r) (h6 : Below w0.heap.size w0 W) (h7 : W.heap[D]? = some ob) (h8 : ¬ F D) (h9 : ¬ RfB r v D)
    (hs : Step W F p n a'.s a'.t a'.q W') : Duo W' w0 p r n D ob a' b := ⟨v, Duo.laneV h2 h3 h4 h5 h6 h7 h8 h9 hs⟩
/-- The reference's step. -/
theorem Duo.refe {F : Nat → Prop} {m nk : Nat} {f : Int × Int → Option (Nat × Nat)} {v : Value} (h1 : LnsF W F p m n nk a.s a.t a.q f) (h2 : RfS W w0.heap.size r v n b.s b.t b.L) (h3 : ∀ x, RfB r v x → ¬ F x) (h4 : ∀ x, F x → w0.heap.size ≤ x) (h5 : w0.heap.size ≤ r) (h6 : Below w0.heap.size w0 W) (h7 : W.heap[D]? = some ob) (h8 : ¬ F D) (h9 : ¬ RfB r v D)
    (hs : RStep W w0.heap.size r n v b'.s b'.t b'.L W') : Duo W' w0 p r n D ob a b' := by
  obtain ⟨v', hR, hf, hF⟩ := hs
  have hD := (Array.getElem?_eq_some_iff.1 h7).1
  refine ⟨v', F, m, nk, f, h1.keep hf.2.2.2.1 (fun k hk hlt => hf.2.2.2.2 k hlt (fun hr => h3 k hr hk)), hR, fun x hx hF' => ?_, h4, h5, h6.trans (hf.below h6.size (fun x hx => rfb_ge h2 h5 hx)), (hf.2.2.2.2 D hD h9).trans h7, h8, fun hx => ?_⟩
  · have := h1.fin x hF'
    rcases hF x hx with h | h
    · exact h3 x h hF'
    · omega
  · rcases hF D hx with h | h
    · exact h9 h
    · omega
/-- Both agree. -/
def Agree (n : Nat) (a : St) (b : Rs) : Prop := a.s = b.s ∧ a.t = b.t ∧ (∀ k, a.q k = rq b.L k) ∧ (∀ x ∈ b.L, Box.Way n x.1) ∧ OkQ a.q
theorem okq_upd {q : Int × Int → List Par} (h : OkQ q) (k : Int × Int) {l : List Par} (hl : ∀ x ∈ l, OkP x) : OkQ (upd q k l) := by
  intro k' x hx
  by_cases e : k' = k
  · subst e; rw [upd_same] at hx; exact hl x hx
  · rw [upd_other _ _ e] at hx; exact h k' x hx
theorem Agree.app (h : Agree n a b) {k : Int × Int} (hk : Box.Way n k) {x : Par} (hx : OkP x) (s t : Int) : Agree n ⟨s, t, upd a.q k (a.q k ++ [x])⟩ ⟨s, t, b.L ++ [(k, x)]⟩ := by
  obtain ⟨h1, h2, h3, h4, h5⟩ := h
  refine ⟨rfl, rfl, fun k' => ?_, fun y hy => ?_, okq_upd h5 k fun y hy => ?_⟩
  · show upd a.q k (a.q k ++ [x]) k' = rq (b.L ++ [(k, x)]) k'
    rw [rq_app]
    by_cases e : k' = k
    · subst e; rw [upd_same, rq_one, h3]
    · rw [upd_other _ _ e, rq_one_other (Ne.symm e), List.append_nil, h3]
  · rcases List.mem_append.1 hy with h | h
    · exact h4 y h
    · obtain rfl : y = (k, x) := by simpa using h
      exact hk
  · rcases List.mem_append.1 hy with h | h
    · exact h5 k y h
    · obtain rfl : y = x := by simpa using h
      exact hx
theorem Agree.sums (h : Agree n a b) (s t : Int) : Agree n ⟨s, t, a.q⟩ ⟨s, t, b.L⟩ := ⟨rfl, rfl, h.2.2.1, h.2.2.2.1, h.2.2.2.2⟩
theorem Agree.erase (h : Agree n a b) {k : Int × Int} {j idx : Nat} (he : ∀ k', rq (b.L.eraseIdx idx) k' = if k' = k then (rq b.L k).eraseIdx j else rq b.L k') (s t : Int) : Agree n ⟨s, t, upd a.q k ((a.q k).eraseIdx j)⟩ ⟨s, t, b.L.eraseIdx idx⟩ := by
  obtain ⟨h1, h2, h3, h4, h5⟩ := h
  refine ⟨rfl, rfl, fun k' => ?_, fun y hy => h4 y (List.mem_of_mem_eraseIdx hy), okq_upd h5 k fun y hy => h5 k y (List.mem_of_mem_eraseIdx hy)⟩
  show upd a.q k _ k' = rq (b.L.eraseIdx idx) k'
  rw [he k']
  by_cases e : k' = k
  · subst e; rw [upd_same, if_pos rfl, h3]
  · rw [upd_other _ _ e, if_neg e, h3]
theorem Agree.set (h : Agree n a b) {k : Int × Int} (hk : Box.Way n k) {j idx : Nat} {y : Par} (hy : OkP y) (he : ∀ k', rq (b.L.set idx (k, y)) k' = if k' = k then (rq b.L k).set j y else rq b.L k') (s t : Int) : Agree n ⟨s, t, upd a.q k ((a.q k).set j y)⟩ ⟨s, t, b.L.set idx (k, y)⟩ := by
  obtain ⟨h1, h2, h3, h4, h5⟩ := h
  refine ⟨rfl, rfl, fun k' => ?_, fun z hz => ?_, okq_upd h5 k fun z hz => ?_⟩
  · show upd a.q k _ k' = rq (b.L.set idx (k, y)) k'
    rw [he k']
    by_cases e : k' = k
    · subst e; rw [upd_same, if_pos rfl, h3]
    · rw [upd_other _ _ e, if_neg e, h3]
  · rcases List.mem_or_eq_of_mem_set hz with h | rfl
    · exact h4 z h
    · exact hk
  · rcases List.mem_or_eq_of_mem_set hz with h | rfl
    · exact h5 k z h
    · exact hy
end Ref
end Go.Proofs.Ytdmpgoaemoiogaa
