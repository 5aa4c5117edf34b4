import Derived.Test.YtfohollhdaedlaaGreatDoorTrmD
import Derived.Test.YtfohollhdaedlaaGreatDoorTrmA
import Derived.Test.YtfohollhdaedlaaGreatDoorDocs
import Derived.Test.YtfohollhdaedlaaGreatDoorTrmB
/- Terms: the terms of a document, plain; lists of terms as they are read. -/
set_option linter.unusedVariables false
set_option linter.unusedSimpArgs false
set_option maxRecDepth 100000
namespace Go.Proofs.YtfohollhdaedlaaGreatDoor
open Go.RowKit
namespace Trm
open Tok
abbrev TabM := List (ByteArray × List SpotM)
/-- All places of a text are added. -/
def addAll (f : Int) (l : List (ByteArray × Nat)) (m : TabM) : TabM := l.foldl (fun m x => addM x.1 f x.2 m) m
theorem addAll_take {f : Int} {l : List (ByteArray × Nat)} {m : TabM} {j : Nat} {x : ByteArray × Nat} (h : l[j]? = some x) : addAll f (l.take (j + 1)) m = addM x.1 f x.2 (addAll f (l.take j) m) := by
  unfold addAll
  rw [List.take_add_one, h, List.foldl_append]; rfl
def docAdds (d : Exp.DocM) : Nat → TabM
  | 0 => []
  | i + 1 => addAll ((i : Int) + 1) (trms (d.get i)) (docAdds d i)
/-- The terms of a document. -/
def docM (d : Exp.DocM) : TabM := docAdds d 4
/-- No more than so many places. -/
def Bnd (k : Nat) (m : TabM) : Prop := m.length ≤ k ∧ ∀ e ∈ m, e.2.length ≤ k ∧ ∀ s ∈ e.2, s.2.length ≤ k
theorem Bnd.nil : Bnd 0 [] := ⟨Nat.le_refl _, fun e h => absurd h List.not_mem_nil⟩
theorem Bnd.mono {k k' : Nat} {m : TabM} (h : Bnd k m) (hk : k ≤ k') : Bnd k' m :=
  ⟨Nat.le_trans h.1 hk, fun e he => ⟨Nat.le_trans (h.2 e he).1 hk, fun s hs => Nat.le_trans ((h.2 e he).2 s hs) hk⟩⟩
theorem addS_bnd {k : Nat} {ss : List SpotM} (h1 : ss.length ≤ k) (h2 : ∀ s ∈ ss, s.2.length ≤ k) (f a : Int) : (addS ss f a).length ≤ k + 1 ∧ ∀ s ∈ addS ss f a, s.2.length ≤ k + 1 := by
  rcases List.eq_nil_or_concat ss with rfl | ⟨s1, s0, rfl⟩
  · exact ⟨by simp [addS], fun s hs => by simp [addS] at hs; rw [hs]; simp⟩
  · rw [List.concat_eq_append] at *
    rw [addS_last]
    by_cases hf : s0.1 = f
    · rw [if_pos hf]
      refine ⟨by simp at h1 ⊢; omega, fun s hs => ?_⟩
      rcases List.mem_append.1 hs with hs | hs
      · have := h2 s (List.mem_append_left _ hs); omega
      · simp at hs
        have := h2 s0 (by simp)
        rw [hs]; simp; omega
    · rw [if_neg hf]
      refine ⟨by simp at h1 ⊢; omega, fun s hs => ?_⟩
      rcases List.mem_append.1 hs with hs | hs
      · have := h2 s hs; omega
      · simp at hs
        rw [hs]; simp
theorem Bnd.add {k : Nat} : ∀ {m : TabM}, Bnd k m → ∀ (t : ByteArray) (f a : Int), Bnd (k + 1) (addM t f a m)
  | [], h, t, f, a => ⟨by simp [addM], fun e he => by simp [addM] at he; rw [he]; exact ⟨by simp, fun s hs => by simp at hs; rw [hs]; simp⟩⟩
  | x :: m, h, t, f, a => by
    have hx := h.2 x (List.mem_cons_self ..)
    have hl : (x :: m).length ≤ k := h.1
    have hrest : ∀ e ∈ m, e.2.length ≤ k + 1 ∧ ∀ s ∈ e.2, s.2.length ≤ k + 1 := fun e he => by
      have := h.2 e (List.mem_cons_of_mem _ he)
      exact ⟨by omega, fun s hs => by have := this.2 s hs; omega⟩
    unfold addM
    split
    · -- the places of the rest: its length is one less
      cases k with
      | zero => simp at hl
      | succ k =>
        have hm : m.length ≤ k := by simpa using hl
        have hlen : ∀ (l : TabM), (addM t f a l).length ≤ l.length + 1 := by
          intro l
          induction l with
          | nil => simp [addM]
          | cons y l ih =>
            unfold addM
            split
            · simp; omega
            · split <;> simp
        have hb : ∀ (l : TabM), (∀ e ∈ l, e.2.length ≤ k + 1 ∧ ∀ s ∈ e.2, s.2.length ≤ k + 1) → ∀ e ∈ addM t f a l, e.2.length ≤ k + 1 + 1 ∧ ∀ s ∈ e.2, s.2.length ≤ k + 1 + 1 := by
          intro l
          induction l with
          | nil =>
            intro _ e he
            simp [addM] at he
            rw [he]
            exact ⟨by simp, fun s hs => by simp at hs; rw [hs]; simp⟩
          | cons y l ih =>
            intro hl e he
            have up : ∀ e ∈ y :: l, e.2.length ≤ k + 1 + 1 ∧ ∀ s ∈ e.2, s.2.length ≤ k + 1 + 1 := fun e he => ⟨by have := (hl e he).1; omega, fun s hs => by have := (hl e he).2 s hs; omega⟩
            unfold addM at he
            split at he
            · rcases List.mem_cons.1 he with rfl | he
              · exact up _ (List.mem_cons_self ..)
              · exact ih (fun e he => hl e (List.mem_cons_of_mem _ he)) e he
            · split at he
              · rcases List.mem_cons.1 he with rfl | he
                · exact addS_bnd (hl y (List.mem_cons_self ..)).1 (hl y (List.mem_cons_self ..)).2 f a
                · exact up e (List.mem_cons_of_mem _ he)
              · rcases List.mem_cons.1 he with rfl | he
                · exact ⟨by simp, fun s hs => by simp at hs; rw [hs]; simp⟩
                · exact up e he
        refine ⟨by have := hlen m; simp; omega, fun e he => ?_⟩
        rcases List.mem_cons.1 he with rfl | he
        · exact ⟨by have := hx.1; omega, fun s hs => by have := hx.2 s hs; omega⟩
        · exact hb m (fun e he => h.2 e (List.mem_cons_of_mem _ he)) e he
    · split
      · refine ⟨by simp at hl ⊢; omega, fun e he => ?_⟩
        rcases List.mem_cons.1 he with rfl | he
        · exact addS_bnd hx.1 hx.2 f a
        · exact hrest e he
      · refine ⟨by simp at hl ⊢; omega, fun e he => ?_⟩
        rcases List.mem_cons.1 he with rfl | he
        · exact ⟨by simp, fun s hs => by simp at hs; rw [hs]; simp⟩
        · rcases List.mem_cons.1 he with rfl | he
          · exact ⟨by have := hx.1; omega, fun s hs => by have := hx.2 s hs; omega⟩
          · exact hrest e he
theorem Bnd.all {f : Int} : ∀ (l : List (ByteArray × Nat)) {k : Nat} {m : TabM}, Bnd k m → Bnd (k + l.length) (addAll f l m)
  | [], k, m, h => h
  | x :: l, k, m, h => by
    have := Bnd.all (f := f) l (h.add x.1 f x.2)
    rw [List.length_cons, show k + (l.length + 1) = k + 1 + l.length by omega]
    exact this
theorem toks_few (s : ByteArray) : ∀ (l : List (Nat × Nat)) (i : Nat), (toks s i l).length ≤ 60 - i
  | [], i => by simp [toks]
  | x :: l, i => by
    have := toks_few s l (i + 1)
    rw [toks, List.length_append]
    split
    · rename_i h
      simp only [keepT, Bool.and_eq_true, decide_eq_true_eq] at h
      simp; omega
    · simp; omega
theorem trms_few (s : ByteArray) : (trms s).length ≤ 60 := Nat.le_trans (stems_len _) (toks_few s _ 0)
theorem docAdds_bnd (d : Exp.DocM) : ∀ i, Bnd (60 * i) (docAdds d i)
  | 0 => Bnd.nil
  | i + 1 => by
    have h1 := Bnd.all (f := (i : Int) + 1) (trms (d.get i)) (docAdds_bnd d i)
    exact h1.mono (by have := trms_few (d.get i); omega)
theorem bnd_take {d : Exp.DocM} {i j : Nat} : Bnd (60 * i + 60) (addAll ((i : Int) + 1) ((trms (d.get i)).take j) (docAdds d i)) :=
  (Bnd.all _ (docAdds_bnd d i)).mono (by rw [List.length_take]; have := trms_few (d.get i); omega)
theorem plain_bnd {k : Nat} {m : List MEnt} (h : Bnd k (m.map plainE)) : m.length ≤ k ∧ ∀ e ∈ m, e.2.2.length ≤ k ∧ ∀ s ∈ e.2.2, s.2.2.length ≤ k := by
  refine ⟨by have := h.1; rwa [List.length_map] at this, fun e he => ?_⟩
  have h1 := h.2 (plainE e) (List.mem_map.2 ⟨e, he, rfl⟩)
  refine ⟨by have := h1.1; simpa [plainE] using this, fun s hs => ?_⟩
  exact h1.2 (s.1, s.2.2) (List.mem_map.2 ⟨s, hs, rfl⟩)
/-- Rows as they are read. -/
def RInts (w : World) (v : Value) (l : List Int) : Prop := ∃ A c, v = .slice A l.length c ∧ IsSl w 1 A l.length c (l.map (.int .i64))
def RSpots (w : World) (v : Value) (l : List SpotM) : Prop := ∃ A c, ∃ vs : List MSpot, v = .slice A vs.length c ∧ IsSl w 2 A vs.length c (spCells vs) ∧ (∀ s ∈ vs, RInts w s.2.1 s.2.2) ∧ vs.map (fun s => (s.1, s.2.2)) = l
abbrev PostM := Int × List SpotM
abbrev MPost := Int × Value × List SpotM
def poCells (ps : List MPost) : List Value := ps.flatMap fun p => [.int .i64 p.1, p.2.1]
def RPosts (w : World) (v : Value) (l : List PostM) : Prop := ∃ A c, ∃ vs : List MPost, v = .slice A vs.length c ∧ IsSl w 2 A vs.length c (poCells vs) ∧ (∀ s ∈ vs, RSpots w s.2.1 s.2.2) ∧ vs.map (fun s => (s.1, s.2.2)) = l
abbrev TermM := ByteArray × List PostM
abbrev MTerm := ByteArray × Value × List PostM
def tmCells (ps : List MTerm) : List Value := ps.flatMap fun p => [.string p.1, p.2.1]
/-- The terms' cells, and what they lead to. -/
def TmOk (w : World) (vs : List MTerm) (l : List TermM) : Prop := (∀ s ∈ vs, RPosts w s.2.1 s.2.2) ∧ vs.map (fun s => (s.1, s.2.2)) = l
def RTerms (w : World) (v : Value) (l : List TermM) : Prop := ∃ A c, ∃ vs : List MTerm, v = .slice A vs.length c ∧ IsSl w 2 A vs.length c (tmCells vs) ∧ TmOk w vs l
theorem RInts.below {w w' : World} {v : Value} {l : List Int} (h : RInts w v l) (hb : Below w.heap.size w w') : RInts w' v l := by
  obtain ⟨A, c, h1, h2⟩ := h
  exact ⟨A, c, h1, h2.below hb⟩
theorem RSpots.below {w w' : World} {v : Value} {l : List SpotM} (h : RSpots w v l) (hb : Below w.heap.size w w') : RSpots w' v l := by
  obtain ⟨A, c, vs, h1, h2, h3, h4⟩ := h
  exact ⟨A, c, vs, h1, h2.below hb, fun s hs => (h3 s hs).below hb, h4⟩
theorem RPosts.below {w w' : World} {v : Value} {l : List PostM} (h : RPosts w v l) (hb : Below w.heap.size w w') : RPosts w' v l := by
  obtain ⟨A, c, vs, h1, h2, h3, h4⟩ := h
  exact ⟨A, c, vs, h1, h2.below hb, fun s hs => (h3 s hs).below hb, h4⟩
theorem TmOk.below {w w' : World} {vs : List MTerm} {l : List TermM} (h : TmOk w vs l) (hb : Below w.heap.size w w') : TmOk w' vs l := ⟨fun s hs => (h.1 s hs).below hb, h.2⟩
theorem RTerms.below {w w' : World} {v : Value} {l : List TermM} (h : RTerms w v l) (hb : Below w.heap.size w w') : RTerms w' v l := by
  obtain ⟨A, c, vs, h1, h2, h3⟩ := h
  exact ⟨A, c, vs, h1, h2.below hb, h3.below hb⟩
theorem tmCells_append (l m : List MTerm) : tmCells (l ++ m) = tmCells l ++ tmCells m := by simp [tmCells]
theorem tmCells_length : ∀ l : List MTerm, (tmCells l).length = l.length * 2
  | [] => rfl
  | x :: l => by
    have := tmCells_length l
    show (tmCells l).length + 1 + 1 = _
    rw [this, List.length_cons]; omega
theorem poCells_length : ∀ l : List MPost, (poCells l).length = l.length * 2
  | [] => rfl
  | x :: l => by
    have := poCells_length l
    show (poCells l).length + 1 + 1 = _
    rw [this, List.length_cons]; omega
/-- What a table holds for a key is read so. -/
theorem own1_ints {w : World} {B : Nat} {s : MSpot} (h : Own1 w B 3 1 (inRow s)) : RInts w s.2.1 s.2.2 := by
  obtain ⟨n, _, ho⟩ := h
  have hn : n = s.2.2.length := by have := ho.1; simp [inRow] at this; omega
  subst hn
  obtain ⟨A, c, hv, hsl⟩ := own_form ho
  exact ⟨A, c, hv, hsl⟩
theorem own1_spots {w : World} {B : Nat} {e : MEnt} (h : Own1 w B 64 2 (e.2.1, spCells e.2.2)) (hi : ∀ s ∈ e.2.2, Own1 w B 3 1 (inRow s)) : RSpots w e.2.1 (plainE e).2 := by
  obtain ⟨n, _, ho⟩ := h
  have hn : n = e.2.2.length := by have := ho.1; rw [spCells_length] at this; omega
  subst hn
  obtain ⟨A, c, hv, hsl⟩ := own_form ho
  exact ⟨A, c, e.2.2, hv, hsl, fun s hs => own1_ints (hi s hs), rfl⟩
theorem IsTM.spots {B b : Nat} {v : Value} {m : List MEnt} {w : World} (h : IsTM B b v m w) {e : MEnt} (he : e ∈ m) : RSpots w e.2.1 (plainE e).2 :=
  own1_spots (h.sp.1 (e.2.1, spCells e.2.2) (List.mem_map.2 ⟨e, he, rfl⟩)) fun s hs => h.at_.1 (inRow s) (List.mem_flatMap.2 ⟨e, he, List.mem_map.2 ⟨s, hs, rfl⟩⟩)
/-- A row of another type stays where places are added. -/
theorem own_keptA {b B n size : Nat} {e : TypeId} {w w' : World} {v : Value} {xs : List Value} {cs : Array Value} {e' : TypeId} {fr : Nat × Nat} (h : w.ownsRow B e size v n xs) (hk : KeptA b w w') (hb : w.heap[b]? = some (.cells cs e' fr)) (h0 : e' ≠ e) (h1 : e ≠ 74) (h2 : e ≠ 64) (h3 : e ≠ 3) :
    w'.ownsRow B e size v n xs := by
  have hne := own_ne h hb h0
  refine ⟨h.1, ?_⟩
  rcases h.2 with hn | ⟨g, cap, cur, rfl, e2, hg, rest⟩
  · exact .inl hn
  · exact .inr ⟨g, cap, cur, rfl, e2, hk g _ hg (fun hh => hne (by rw [hh]; rfl)) (cells_ne h1) (cells_ne h2) (cells_ne h3), rest⟩
end Trm
end Go.Proofs.YtfohollhdaedlaaGreatDoor
/- Terms: the terms of a document: the walk. -/
set_option linter.unusedVariables false
set_option linter.unusedSimpArgs false
set_option maxRecDepth 100000
namespace Go.Proofs.YtfohollhdaedlaaGreatDoor
open Go.RowKit
namespace Trm
open Tok
theorem inf_term : (Tryz.prog.info? 37).map (fun i => (i.zero, i.size, i.bytes)) = some (some (.agg #[.string { data := #[] }, .slice none 0 0]), 2, 40) := by kernel_rfl
/-- Spots in rows of the call's own. -/
def OSp (w : World) (B : Nat) (v : Value) (ss : List SpotM) : Prop := ∃ vs : List MSpot, vs.map (fun s => (s.1, s.2.2)) = ss ∧ w.ownsRow B 64 2 v vs.length (spCells vs) ∧ ∀ s ∈ vs, w.ownsRow B 3 1 s.2.1 s.2.2.length (s.2.2.map (.int .i64))
theorem OSp.below {w w' : World} {B : Nat} {v : Value} {ss : List SpotM} (h : OSp w B v ss) (hb : Below w.heap.size w w') : OSp w' B v ss := by
  obtain ⟨vs, h1, h2, h3⟩ := h
  exact ⟨vs, h1, own_below h2 hb, fun s hs => own_below (h3 s hs) hb⟩
theorem OSp.spots {w : World} {B : Nat} {v : Value} {ss : List SpotM} (h : OSp w B v ss) : RSpots w v ss := by
  obtain ⟨vs, h1, h2, h3⟩ := h
  obtain ⟨A, c, hv, hs⟩ := own_form h2
  exact ⟨A, c, vs, hv, hs, fun s hs => by
    obtain ⟨A2, c2, hv2, hs2⟩ := own_form (h3 s hs)
    exact ⟨A2, c2, hv2, hs2⟩, h1⟩
/-- Postings in rows of the call's own. -/
def OPo (w : World) (B : Nat) (v : Value) (ps : List PostM) : Prop := ∃ vs : List MPost, vs.map (fun s => (s.1, s.2.2)) = ps ∧ w.ownsRow B 41 2 v vs.length (poCells vs) ∧ ∀ s ∈ vs, OSp w B s.2.1 s.2.2
theorem own1_row {w : World} {B : Nat} {e : TypeId} {size : Nat} {v : Value} {l : List Value} {k : Nat} (h : Own1 w B e size (v, l)) (hk : l.length = k * size) (hs : 0 < size) : w.ownsRow B e size v k l := by
  obtain ⟨n, _, ho⟩ := h
  have h1 := ho.1
  simp only at h1
  rw [hk] at h1
  obtain rfl := Nat.eq_of_mul_eq_mul_right hs h1
  exact ho
theorem IsTM.ospots {B b : Nat} {v : Value} {m : List MEnt} {w : World} (h : IsTM B b v m w) {e : MEnt} (he : e ∈ m) : OSp w B e.2.1 (plainE e).2 :=
  ⟨e.2.2, rfl, own1_row (h.sp.1 (e.2.1, spCells e.2.2) (List.mem_map.2 ⟨e, he, rfl⟩)) (spCells_length _) (by decide), fun s hs => own1_row (h.at_.1 (inRow s) (List.mem_flatMap.2 ⟨e, he, List.mem_map.2 ⟨s, hs, rfl⟩⟩)) (by simp) (by decide)⟩
/-- A posting that was made. -/
def PostOk (B0 : Nat) (w2 : World) (num : Int) (w : World) (t : MTerm) : Prop := ∃ sv ss, w.ownsRow w2.heap.size 41 2 t.2.1 1 [.int .i64 num, sv] ∧ OSp w2 B0 sv ss ∧ t.2.2 = [(num, ss)]
theorem PostOk.below {B0 : Nat} {w2 : World} {num : Int} {w w' : World} {t : MTerm} (h : PostOk B0 w2 num w t) (hb : Below w.heap.size w w') : PostOk B0 w2 num w' t := by
  obtain ⟨sv, ss, h1, h2, h3⟩ := h
  exact ⟨sv, ss, own_below h1 hb, h2, h3⟩
theorem PostOk.grow {B0 : Nat} {w2 : World} {num : Int} {w w' : World} {t : MTerm} {B size n : Nat} {v : Value} {xs : List Value} (h : PostOk B0 w2 num w t) (ho : w.ownsRow B 37 size v n xs) (hg : w.grownBy w' v.ownBlock) : PostOk B0 w2 num w' t := by
  obtain ⟨sv, ss, h1, h2, h3⟩ := h
  exact ⟨sv, ss, own_other h1 ho hg (by decide), h2, h3⟩
theorem PostOk.own {B0 : Nat} {w2 : World} {num : Int} {w : World} {t : MTerm} (h : PostOk B0 w2 num w t) (hb : Below w2.heap.size w2 w) (hB : B0 ≤ w2.heap.size) : OPo w B0 t.2.1 t.2.2 := by
  obtain ⟨sv, ss, h1, h2, h3⟩ := h
  rw [h3]
  exact ⟨[(num, sv, ss)], rfl, own_base h1 hB, fun s hs => by
    obtain rfl : s = (num, sv, ss) := by simpa using hs
    exact h2.below hb⟩
theorem OPo.posts {w : World} {B : Nat} {v : Value} {ss : List PostM} (h : OPo w B v ss) : RPosts w v ss := by
  obtain ⟨vs, h1, h2, h3⟩ := h
  obtain ⟨A, c, hv, hs⟩ := own_form h2
  exact ⟨A, c, vs, hv, hs, fun s hs => (h3 s hs).spots, h1⟩
theorem nextB {B : Nat} {w w1 w2 : World} (h : Below B w w1) (h2 : Below w1.heap.size w1 w2) (hB : B ≤ w1.heap.size) : Below B w w2 := h.trans (h2.mono hB)
def docT (d : Exp.DocM) (num : Int) : List TermM := (docM d).map fun e => (e.1, [(num, e.2)])
theorem tm_nil (w : World) (B b : Nat) (hB : B ≤ b) (hh : w.heap[b]? = some (.cells #[.slice none 0 0] 47 (0, 0))) : IsTM B b (.slice none 0 0) [] w :=
  ⟨⟨hB, fun i j x y _ h _ => by simp [ents] at h, hh, World.ownsRow_nil _ _ _ _⟩, .nil _ _ _ _, .nil _ _ _ _⟩
theorem ents_same {m : List MEnt} (h : Srt (ents m)) {i j : Nat} {e : MEnt} {x : Ent} (hi : m[i]? = some e) (hj : (ents m)[j]? = some x) (hx : x.1 = e.1) : x = (e.1, e.2.1) := by
  have hi2 : (ents m)[i]? = some (e.1, e.2.1) := by unfold ents; rw [List.getElem?_map, hi]; rfl
  rcases Nat.lt_trichotomy i j with h1 | h1 | h1
  · have := h i j _ _ h1 hi2 hj
    rw [hx, slt_irrefl] at this; cases this
  · subst h1
    rw [hi2] at hj
    exact (Option.some.inj hj).symm
  · have := h j i _ _ h1 hj hi2
    rw [hx, slt_irrefl] at this; cases this
set_option maxHeartbeats 16000000 in
theorem doc_own_calls (d : Exp.DocM) (hd : ∀ i, (d.get i).size ≤ 16777216) (num : Int) (w : World) (hL : LaidT w) :
    Calls Tryz.prog 7 #[Exp.docV d, .int .i64 num] w fun e w' => ∃ v ts, e = .returned v ∧ w'.ownsRow w.heap.size 37 2 v (docM d).length (tmCells ts) ∧ TmOk w' ts (docT d num) ∧ (∀ s ∈ ts, OPo w' w.heap.size s.2.1 s.2.2) ∧ Below w.heap.size w w' := by
  have HL := Lib.hid hL
  have HD := Lib.hid hd
  have HIX := Lib.hid (Exp.idx_arr d)
  obtain ⟨wA, hwA⟩ : ∃ wA, w.alloc (.cells (Exp.docC d) 27) = wA := ⟨_, rfl⟩
  have hbA : Below w.heap.size w wA := by rw [← hwA]; exact (Below.refl _ _).alloc (Nat.le_refl _) _
  have hxA : wA.heap[w.heap.size]? = some (.cells (Exp.docC d) 27 (0, 0)) := by rw [← hwA]; exact heap_alloc_new _ _
  have hzA : wA.heap.size = w.heap.size + 1 := by rw [← hwA]; simp
  obtain ⟨w0, hw0⟩ : ∃ w0, wA.alloc (.cells #[.slice none 0 0] 47) = w0 := ⟨_, rfl⟩
  have hb0 : Below wA.heap.size wA w0 := by rw [← hw0]; exact (Below.refl _ _).alloc (Nat.le_refl _) _
  have hx0 : w0.heap[w.heap.size + 1]? = some (.cells #[.slice none 0 0] 47 (0, 0)) := by rw [← hw0, ← hzA]; exact heap_alloc_new _ _
  have HX0 : Hid (w0.heap[w.heap.size]? = some (.cells (Exp.docC d) 27 (0, 0))) := (hb0.block _ (by omega)).trans hxA
  have HT0 := Lib.hid (tm_nil w0 w.heap.size (w.heap.size + 1) (by omega) hx0)
  have HB0 := Lib.hid (below_next hbA hb0)
  have HWA := Lib.hid hwA
  have HW0 := Lib.hid hw0
  have HZA := Lib.hid hzA
  obtain ⟨N, hN⟩ : ∃ N, w.heap.size = N := ⟨_, rfl⟩
  have HN := Lib.hid hN
  rw [hN] at HX0 HT0 HB0 HZA ⊢
  obtain ⟨id, t0, t1, t2, t3⟩ := d
  simp only [Exp.docV, Exp.docC] at HX0 HWA ⊢
  clear hbA hxA hzA hb0 hx0 hw0 hwA hL hd
  obtain ⟨i0, hi0, hz0, hz1, hz2⟩ := info_parts inf_term
  go_enter Tryz.func7, Tryz.ntmps7
  go_wp2_with fail
  rw [HWA.out, HW0.out]
  clear hN
  go_loopw [17] (fun ix wr => ∃ (i : Nat) (v : Value) (m : List MEnt), i ≤ 4 ∧ ix = .int .i64 i ∧ IsTM N (N + 1) v m wr ∧ m.map plainE = docAdds ⟨id, t0, t1, t2, t3⟩ i ∧ Below N w wr) (fun ix _ => 4 - (intOf ix).toNat)
  case atStart => exact ⟨0, _, [], Nat.zero_le _, rfl, HT0.out, rfl, HB0.out⟩
  case round =>
    obtain ⟨i, v, m, hi, rfl, ht, hpl, hb⟩ := hrel
    have HT := Lib.hid ht
    have HPL := Lib.hid hpl
    have HB := Lib.hid hb
    clear ht hpl hb
    by_cases hlt : i < 4
    · have hix := fun W => HIX.out i hlt W
      obtain ⟨x, hx⟩ : ∃ x, Exp.DocM.get ⟨id, t0, t1, t2, t3⟩ i = x := ⟨_, rfl⟩
      rw [hx] at hix
      have HX := Lib.hid hx
      clear hx
      have hw1 : IntKind.i64.wrap ((i : Int) + 1) = (i : Int) + 1 := by rw [IntKind.wrap_i64]; omega
      have C := Lib.hid (ttext_calls x (by rw [← HX.out]; exact HD.out i) wr (HL.out.below (by rw [HN.out]; exact HB.out)))
      go_wp2_with fail
      refine C.out.mono ?_
      rintro e w2 ⟨v1, rfl, ho, hb⟩
      obtain ⟨A, c, rfl, hsl⟩ := own_form ho
      have HT2 := Lib.hid (HT.out.below hb)
      have HB2 := Lib.hid (nextB HB.out hb HT.out.size)
      obtain ⟨l, hl⟩ : ∃ l, trms x = l := ⟨_, rfl⟩
      have HLL := Lib.hid hl
      rw [hl] at ho ⊢
      have HO2 : Hid (w2.ownsRow N 51 2 (.slice A l.length c) l.length (tCells l)) := own_base ho (by have := HB.out.size; have := HT.out.size; omega)
      have hfew : l.length ≤ 60 := by rw [← hl]; exact trms_few x
      have HPS : Hid (∀ j, Bnd (60 * i + 60) (addAll ((i : Int) + 1) (l.take j) (docAdds ⟨id, t0, t1, t2, t3⟩ i))) := fun j => by rw [← hl, ← HX.out]; exact bnd_take
      have HNX : Hid (docAdds ⟨id, t0, t1, t2, t3⟩ (i + 1) = addAll ((i : Int) + 1) l (docAdds ⟨id, t0, t1, t2, t3⟩ i)) := by show docAdds _ (i + 1) = _; rw [← hl, ← HX.out]; rfl
      obtain ⟨n, hn⟩ : ∃ n, l.length = n := ⟨_, rfl⟩
      have HNN := Lib.hid hn
      rw [hn] at HO2 hfew ⊢
      clear ho hb hsl hl hn C
      obtain ⟨wz, hwz⟩ : ∃ wz, wz = wr := ⟨_, rfl⟩
      subst hwz
      go_wp2_with fail
      go_loopw [24] (fun ix wr => ∃ (j : Nat) (v : Value) (m : List MEnt), j ≤ n ∧ ix = .int .i64 j ∧ IsTM N (N + 1) v m wr ∧ m.map plainE = addAll ((i : Int) + 1) (l.take j) (docAdds ⟨id, t0, t1, t2, t3⟩ i) ∧ Below N w wr ∧ wr.ownsRow N 51 2 (.slice A n c) n (tCells l)) (fun ix _ => n - (intOf ix).toNat)
      case atStart => exact ⟨0, _, m, Nat.zero_le _, rfl, HT2.out, HPL.out, HB2.out, HO2.out⟩
      case round =>
        obtain ⟨j, v2, m2, hj, rfl, ht, hpl, hb, ho⟩ := hrel
        have HTR := Lib.hid ht
        have HPR := Lib.hid hpl
        have HBR := Lib.hid hb
        have HOR := Lib.hid ho
        clear ht hpl hb ho
        by_cases hjn : j < n
        · obtain ⟨y, hy⟩ : ∃ y, l[j]? = some y := ⟨_, List.getElem?_eq_getElem (by rw [HNN.out]; exact hjn)⟩
          obtain ⟨A', c', hA, hsl⟩ := own_form HOR.out
          have hA2 : A = A' ∧ c = c' := by injection hA with h1 h2 h3; exact ⟨h1, h3⟩
          obtain ⟨rfl, rfl⟩ := hA2
          obtain ⟨bb, oo, rfl, z0, z1⟩ := tok_at hsl hy
          have HTK := Lib.hid (addAll_take (f := (i : Int) + 1) (m := docAdds ⟨id, t0, t1, t2, t3⟩ i) hy)
          obtain ⟨tx, ta⟩ := y
          simp only at z0 z1 HTK
          obtain ⟨w3, hw3⟩ : ∃ w3, wr.alloc (.cells #[.string tx, .int .i64 (ta : Int)] 51) = w3 := ⟨_, rfl⟩
          have hb3 : Below wr.heap.size wr w3 := by rw [← hw3]; exact (Below.refl _ _).alloc (Nat.le_refl _) _
          have hca : w3.cell? ⟨wr.heap.size, 0, none⟩ = some (.string tx) := by rw [← hw3]; exact cell_new _ _ _ _ 0
          have hcb : w3.cell? ⟨wr.heap.size, 1, none⟩ = some (.int .i64 (ta : Int)) := by rw [← hw3]; exact cell_new _ _ _ _ 1
          have HW3 := Lib.hid hw3
          have HT3 := Lib.hid (HTR.out.below hb3)
          have HO3 := Lib.hid (own_below HOR.out hb3)
          have HB3 := Lib.hid (nextB HBR.out hb3 HTR.out.size)
          have hbn := plain_bnd (show Bnd (60 * i + 60) (m2.map plainE) by rw [HPR.out]; exact HPS.out j)
          have CA := Lib.hid (add_calls HT3.out (by have := hbn.1; omega) (fun e he => ⟨by have := (hbn.2 e he).1; omega, fun s hs => by have := (hbn.2 e he).2 s hs; omega⟩) tx ((i : Int) + 1) (ta : Int))
          have hwj : IntKind.i64.wrap ((j : Int) + 1) = (j : Int) + 1 := by rw [IntKind.wrap_i64]; omega
          have hq0 : wr.heap.size < w3.heap.size := by rw [← hw3]; simp
          obtain ⟨q, hq⟩ : ∃ q, wr.heap.size = q := ⟨_, rfl⟩
          rw [hq] at hca hcb hq0
          clear hy hsl hb3 hw3 hbn hA
          go_wp2_with fail
          rw [HW3.out]
          refine CA.out.mono ?_
          rintro e w4 ⟨⟨r, rfl⟩, u, m3, ht4, hpl4, hb4, hk4⟩
          have HT4 := Lib.hid ht4
          have HPL4 := Lib.hid hpl4
          have HB4 := Lib.hid (HB3.out.trans hb4)
          have HO4 := Lib.hid (own_keptA HO3.out hk4 HT3.out.tab.head (by decide) (by decide) (by decide) (by decide))
          clear ht4 hpl4 hb4 hk4 CA
          go_wp2_with fail
          go_roundw
          case rel => exact ⟨j + 1, u, m3, by omega, by go_num, HT4.out, by rw [HPL4.out, HPR.out, HTK.out], HB4.out, HO4.out⟩
          case measure => simp [intOf]; omega
        · obtain rfl : j = n := by omega
          have HTA : Hid (l.take j = l) := List.take_of_length_le (by rw [HNN.out]; exact Nat.le_refl _)
          go_wp2_with fail
          go_roundw
          case rel => exact ⟨i + 1, v2, m2, by omega, by go_num, HTR.out, by rw [HPR.out, HNX.out, HTA.out], HBR.out⟩
          case measure => simp [intOf]; omega
    · obtain rfl : i = 4 := by omega
      have HPM : Hid (m.map plainE = docM ⟨id, t0, t1, t2, t3⟩) := HPL.out
      have HBD := Lib.hid (plain_bnd (show Bnd (60 * 4) (m.map plainE) by rw [HPL.out]; exact docAdds_bnd _ 4))
      have hml : m.length ≤ 240 := HBD.out.1
      have CK := Lib.hid (keys_calls HT.out.tab (by unfold ents; rw [List.length_map]; omega))
      have hel : (ents m).length = m.length := by unfold ents; rw [List.length_map]
      rw [hel] at CK
      clear hel
      go_wp2_with fail
      refine CK.out.mono ?_
      rintro e w2 ⟨v1, rfl, ho, hb⟩
      clear CK
      obtain ⟨A, c, rfl, hsl⟩ := own_form ho
      have HT2 := Lib.hid (HT.out.below hb)
      have HB2 := Lib.hid (nextB HB.out hb HT.out.size)
      have HSL := Lib.hid hsl
      have HLEN : Hid ((docM ⟨id, t0, t1, t2, t3⟩).length = m.length) := by show _ = _; rw [← HPM.out, List.length_map]
      obtain ⟨n, hn⟩ : ∃ n, m.length = n := ⟨_, rfl⟩
      have HNN := Lib.hid hn
      rw [hn] at HSL HLEN hml ⊢
      clear ho hb hsl hn
      obtain ⟨wz, hwz⟩ : ∃ wz, wz = wr := ⟨_, rfl⟩
      subst hwz
      go_wp2_with fail
      go_loopw [10, 39] (fun out ix wr => ∃ (i : Nat) (ts : List MTerm), i ≤ n ∧ ix = .int .i64 i ∧ wr.ownsRow w2.heap.size 37 2 out i (tmCells ts) ∧ (∀ t ∈ ts, PostOk N w2 num wr t) ∧ ts.map (fun s => (s.1, s.2.2)) = (docT ⟨id, t0, t1, t2, t3⟩ num).take i ∧ Below w2.heap.size w2 wr) (fun _ ix _ => n - (intOf ix).toNat)
      case atStart => exact ⟨0, [], Nat.zero_le _, rfl, World.ownsRow_nil _ _ _ _, fun t h => absurd h List.not_mem_nil, rfl, Below.refl _ _⟩
      case round =>
        obtain ⟨i, ts, hi, rfl, ho, hpo, hpl, hb⟩ := hrel
        have HO := Lib.hid ho
        have HPO := Lib.hid hpo
        have HTS := Lib.hid hpl
        have HBR := Lib.hid hb
        by_cases hlt : i < n
        · obtain ⟨en, hen⟩ : ∃ en, m[i]? = some en := ⟨_, List.getElem?_eq_getElem (by rw [HNN.out]; exact hlt)⟩
          have hmem := List.mem_of_getElem? hen
          have HSP := Lib.hid (HT2.out.ospots hmem)
          obtain ⟨ad, rfl, z0⟩ := (HSL.out.below hb).at_ hlt
          have hkc : (keyCells (ents m)).getD i undef = .string en.1 := by
            unfold keyCells ents
            rw [List.getD_eq_getElem?_getD, List.getElem?_map, List.getElem?_map, hen]; rfl
          rw [hkc] at z0
          have HTR := Lib.hid (HT2.out.below hb)
          have HSM := Lib.hid (fun (j : Nat) (x : Ent) => ents_same (j := j) (x := x) HT.out.tab.srt hen)
          have HNO : Hid ((en.1, en.2.1) ∈ ents m) := List.mem_map.2 ⟨en, hmem, rfl⟩
          have HTK : Hid ((docT ⟨id, t0, t1, t2, t3⟩ num).take (i + 1) = (docT ⟨id, t0, t1, t2, t3⟩ num).take i ++ [(en.1, [(num, (plainE en).2)])]) := by
            show _ = _
            unfold docT
            rw [← HPM.out, List.take_add_one, List.getElem?_map, List.getElem?_map, hen]; rfl
          obtain ⟨g, cap, cur, kk, hv, _⟩ := (HT2.out.sp.1 (en.2.1, spCells en.2.2) (List.mem_map.2 ⟨en, hmem, rfl⟩)).block
          have hv2 : en.2.1 = .slice (some ⟨g, 0, none⟩) kk cap := hv
          obtain ⟨key, hkey⟩ : ∃ key, en.1 = key := ⟨_, rfl⟩
          obtain ⟨ss, hss⟩ : ∃ ss, (plainE en).2 = ss := ⟨_, rfl⟩
          rw [hkey] at z0 HSM HNO HTK
          rw [hss] at HSP HTK
          rw [hv2] at HSP HSM HNO
          have CG := Lib.hid (get_calls HTR.out.tab (by unfold ents; rw [List.length_map]; have := HBD.out.1; omega) key)
          have hwi : IntKind.i64.wrap ((i : Int) + 1) = (i : Int) + 1 := by rw [IntKind.wrap_i64]; omega
          obtain ⟨A3, c3, rfl, _⟩ := own_form HO.out
          clear hen hmem hkc hv hv2 hkey hss ho hpo hpl hb
          go_wp2_with fail
          refine CG.out.mono ?_
          rintro e w3 ⟨(⟨i', x, hx, hxt, rfl⟩ | ⟨hno, rfl⟩), hb3⟩
          · obtain rfl := HSM.out i' x hx hxt
            have HB3 := Lib.hid hb3
            have HO3 := Lib.hid (own_below HO.out hb3)
            have HAL : Hid (Below w3.heap.size w3 ((w3.alloc (.cells #[.int .i64 num, .slice (some ⟨g, 0, none⟩) kk cap] 41)).alloc (.cells #[.string key, .slice (some ⟨w3.heap.size, 0, none⟩) 1 1] 37))) := ((Below.refl _ _).alloc (Nat.le_refl _) _).alloc (by simp) _
            have HI : Hid (w2.heap.size ≤ w3.heap.size) := by have := HBR.out.size; have := hb3.size; show _ ≤ _; omega
            have HNP : Hid (((w3.alloc (.cells #[.int .i64 num, .slice (some ⟨g, 0, none⟩) kk cap] 41)).alloc (.cells #[.string key, .slice (some ⟨w3.heap.size, 0, none⟩) 1 1] 37)).ownsRow w2.heap.size 41 2 (.slice (some ⟨w3.heap.size, 0, none⟩) 1 1) 1 [.int .i64 num, .slice (some ⟨g, 0, none⟩) kk cap]) :=
              own_below ⟨rfl, .inr ⟨_, 1, #[.int .i64 num, .slice (some ⟨g, 0, none⟩) kk cap], rfl, HI.out, heap_alloc_new w3 _, Nat.le_refl _, by decide, rfl, rfl⟩⟩ ((Below.refl _ _).alloc (Nat.le_refl _) _)
            clear hx hxt hb3 CG z0
            go_wp2_with (at_builtin; go_loud (refine wpList_append_lies _ rfl (.tmp 48) (.tmp 55) 29 rfl w2.heap.size 37 i0 (.agg #[.string { data := #[] }, .slice none 0 0]) 2 40 Tryz.underlying29 hi0 hz0 hz1 hz2 rfl (by decide) (.slice A3 i c3) i (tmCells ts) rfl (own_below HO3.out HAL.out) ⟨w3.heap.size + 1, 0, none⟩ 1 1 [.string key, .slice (some ⟨w3.heap.size, 0, none⟩) 1 1] rfl rfl (World.news_of_block (cs := #[.string key, .slice (some ⟨w3.heap.size, 0, none⟩) 1 1]) (t := 37) (fr := (0, 0)) (by have := heap_alloc_new (w3.alloc (.cells #[.int .i64 num, .slice (some ⟨g, 0, none⟩) kk cap] 41)) (.cells #[.string key, .slice (some ⟨w3.heap.size, 0, none⟩) 1 1] 37); simpa using this)) (by simp [Value.oneCell']) (by decide) (by unfold maxLen; omega) (by omega) (by have := HI.out; simp; omega) (w3.heap.size + 1 + 1) (by simp) ?_))
            rintro g5 cap5 w5 ho5 hg5 hat5 hlt5
            have HO5 := Lib.hid ho5
            have HPK : Hid (∀ t ∈ ts, PostOk N w2 num w5 t) := fun t ht => (((HPO.out t ht).below HB3.out).below HAL.out).grow (own_below HO3.out HAL.out) hg5
            have HPN : Hid (PostOk N w2 num w5 (key, .slice (some ⟨w3.heap.size, 0, none⟩) 1 1, [(num, ss)])) := ⟨_, ss, own_other HNP.out (own_below HO3.out HAL.out) hg5 (by decide), HSP.out, rfl⟩
            have HB5 := Lib.hid ((below_next (below_next HBR.out HB3.out) HAL.out).grown hg5 (by have := HI.out; have := HAL.out.size; omega) (fun r hr => (HO3.out.lt r hr).1))
            clear ho5 hg5 hat5 hlt5
            go_wp2_with fail
            go_roundw
            case rel => exact ⟨i + 1, ts ++ [(key, .slice (some ⟨w3.heap.size, 0, none⟩) 1 1, [(num, ss)])], by omega, by go_num, by rw [tmCells_append]; exact HO5.out, (fun t ht => by
              rcases List.mem_append.1 ht with ht | ht
              · exact HPK.out t ht
              · obtain rfl := List.mem_singleton.1 ht
                exact HPN.out), by rw [List.map_append, HTS.out, HTK.out]; rfl, HB5.out⟩
            case measure => simp [intOf]; omega
          · exact absurd rfl (hno _ HNO.out)
        · obtain rfl : i = n := by omega
          have HTA : Hid ((docT ⟨id, t0, t1, t2, t3⟩ num).take i = docT ⟨id, t0, t1, t2, t3⟩ num) := List.take_of_length_le (by unfold docT; rw [List.length_map, HLEN.out]; exact Nat.le_refl _)
          clear ho hpo hpl hb
          go_wp2_with fail
          go_ret
          exact ⟨_, ts, rfl, by rw [HLEN.out]; exact own_base HO.out (by have := HT2.out.size; omega), ⟨fun s hs => ((HPO.out s hs).own HBR.out (by have := HT2.out.size; omega)).posts, by rw [HTS.out, HTA.out]⟩, fun s hs => (HPO.out s hs).own HBR.out (by have := HT2.out.size; omega), nextB HB2.out HBR.out HT2.out.size⟩
theorem doc_calls (d : Exp.DocM) (hd : ∀ i, (d.get i).size ≤ 16777216) (num : Int) (w : World) (hL : LaidT w) :
    Calls Tryz.prog 7 #[Exp.docV d, .int .i64 num] w fun e w' => ∃ v ts, e = .returned v ∧ w'.ownsRow w.heap.size 37 2 v (docM d).length (tmCells ts) ∧ TmOk w' ts (docT d num) ∧ Below w.heap.size w w' :=
  (doc_own_calls d hd num w hL).mono fun _ _ ⟨v, ts, h1, h2, h3, _, h4⟩ => ⟨v, ts, h1, h2, h3, h4⟩
end Trm
end Go.Proofs.YtfohollhdaedlaaGreatDoor
/- Terms: the example's terms, plain; how often a term stands: the walk of Count. -/
set_option linter.unusedVariables false
set_option linter.unusedSimpArgs false
set_option maxRecDepth 100000
namespace Go.Proofs.YtfohollhdaedlaaGreatDoor
open Go.RowKit
namespace Trm
open Utf Fold Tok
abbrev exA : ByteArray := { data := #[114, 101, 100, 32, 102, 111, 120] }
abbrev bRed : ByteArray := { data := #[114, 101, 100] }
abbrev bFox : ByteArray := { data := #[102, 111, 120] }
theorem run_step2 {s : ByteArray} {v : Bool} {a b : Nat} (h : a < s.size) (hv : wd s a = v) (hb : adv s a = b) : run s v a = run s v b := by rw [run_go h hv, hb]
theorem text_step2 {s : ByteArray} {a b : Nat} {c : Int} (h : a < s.size) (hn : (nx s a).1 = c) (hc : 0 ≤ c) (hb : adv s a = b) : textF s a = enc (low c) ++ textF s b := by
  rw [textF_go h, piece_good (by rw [hn]; omega), hn, hb]
theorem exRed : strOfNums (textF bRed 0) = bRed := by
  rw [text_step2 (a := 0) (b := 1) (c := 114) (by decide) (by decide +kernel) (by decide) (by decide +kernel)]
  rw [text_step2 (a := 1) (b := 2) (c := 101) (by decide) (by decide +kernel) (by decide) (by decide +kernel)]
  rw [text_step2 (a := 2) (b := 3) (c := 100) (by decide) (by decide +kernel) (by decide) (by decide +kernel)]
  rw [textF_end (by decide)]
  decide +kernel
theorem exFox : strOfNums (textF bFox 0) = bFox := by
  rw [text_step2 (a := 0) (b := 1) (c := 102) (by decide) (by decide +kernel) (by decide) (by decide +kernel)]
  rw [text_step2 (a := 1) (b := 2) (c := 111) (by decide) (by decide +kernel) (by decide) (by decide +kernel)]
  rw [text_step2 (a := 2) (b := 3) (c := 120) (by decide) (by decide +kernel) (by decide) (by decide +kernel)]
  rw [textF_end (by decide)]
  decide +kernel
theorem exSpA : spans exA 0 = [(0, 3), (4, 7)] := by
  have r0 : run exA true 0 = 3 := by rw [run_step2 (a := 0) (b := 1) (by decide) (by decide +kernel) (by decide +kernel), run_step2 (a := 1) (b := 2) (by decide) (by decide +kernel) (by decide +kernel), run_step2 (a := 2) (b := 3) (by decide) (by decide +kernel) (by decide +kernel), run_stop (by decide +kernel)]
  have r1 : run exA true 4 = 7 := by rw [run_step2 (a := 4) (b := 5) (by decide) (by decide +kernel) (by decide +kernel), run_step2 (a := 5) (b := 6) (by decide) (by decide +kernel) (by decide +kernel), run_step2 (a := 6) (b := 7) (by decide) (by decide +kernel) (by decide +kernel), run_end (by decide)]
  rw [spans_word (by decide) (by decide +kernel), r0, spans_skip (by decide) (by decide +kernel), show adv exA 3 = 4 by decide +kernel, spans_word (by decide) (by decide +kernel), r1, spans_end (by decide)]
theorem exSpR : spans bRed 0 = [(0, 3)] := by
  have r0 : run bRed true 0 = 3 := by rw [run_step2 (a := 0) (b := 1) (by decide) (by decide +kernel) (by decide +kernel), run_step2 (a := 1) (b := 2) (by decide) (by decide +kernel) (by decide +kernel), run_step2 (a := 2) (b := 3) (by decide) (by decide +kernel) (by decide +kernel), run_end (by decide)]
  rw [spans_word (by decide) (by decide +kernel), r0, spans_end (by decide)]
theorem exTA : trms exA = [(bRed, 0), (bFox, 1)] := by
  have t0 : term exA (0, 3) = bRed := by rw [term, show exA.extract 0 3 = bRed by decide +kernel]; exact exRed
  have t1 : term exA (4, 7) = bFox := by rw [term, show exA.extract 4 7 = bFox by decide +kernel]; exact exFox
  unfold trms wds
  rw [exSpA]
  simp only [toks, t0, t1]
  decide +kernel
theorem exTR : trms bRed = [(bRed, 0)] := by
  have t0 : term bRed (0, 3) = bRed := by rw [term, show bRed.extract 0 3 = bRed by decide +kernel]; exact exRed
  unfold trms wds
  rw [exSpR]
  simp only [toks, t0]
  decide +kernel
theorem exT0 : trms { data := #[] } = [] := by
  unfold trms wds
  rw [spans_end (by decide)]; rfl
abbrev exD : Exp.DocM := ⟨{ data := #[97] }, exA, bRed, { data := #[] }, { data := #[] }⟩
theorem exDoc : docM exD = [(bFox, [(1, [1])]), (bRed, [(1, [0]), (2, [0])])] := by
  show addAll (((3 : Nat) : Int) + 1) (trms { data := #[] }) (addAll (((2 : Nat) : Int) + 1) (trms { data := #[] }) (addAll (((1 : Nat) : Int) + 1) (trms bRed) (addAll (((0 : Nat) : Int) + 1) (trms exA) []))) = _
  rw [exTA, exTR, exT0]
  decide +kernel
theorem exDocT (num : Int) : docT exD num = [(bFox, [(num, [(1, [1])])]), (bRed, [(num, [(1, [0]), (2, [0])])])] := by
  unfold docT
  rw [exDoc]; rfl
/-- How often a term stands in a field, or in all. -/
def countF (f : Int) (ss : List SpotM) : Int := ss.foldl (fun n s => if f = 0 ∨ s.1 = f then wrap64 (n + (s.2.length : Int)) else n) 0
theorem countF_take {f : Int} {ss : List SpotM} {i : Nat} {s : SpotM} (h : ss[i]? = some s) : countF f (ss.take (i + 1)) = if f = 0 ∨ s.1 = f then wrap64 (countF f (ss.take i) + (s.2.length : Int)) else countF f (ss.take i) := by
  unfold countF
  rw [List.take_add_one, h, List.foldl_append]; rfl
theorem spCells_at : ∀ (l : List MSpot) (i : Nat) (x : MSpot), l[i]? = some x → (spCells l)[i * 2]? = some (.int .i64 x.1) ∧ (spCells l)[i * 2 + 1]? = some x.2.1
  | [], _, _, h => by simp at h
  | y :: l, 0, x, h => by
    obtain rfl : y = x := by simpa using h
    exact ⟨rfl, rfl⟩
  | y :: l, i + 1, x, h => by
    have := spCells_at l i x (by simpa using h)
    show (Value.int .i64 y.1 :: y.2.1 :: spCells l)[(i + 1) * 2]? = _ ∧ (Value.int .i64 y.1 :: y.2.1 :: spCells l)[(i + 1) * 2 + 1]? = _
    rw [show (i + 1) * 2 = i * 2 + 1 + 1 by omega]
    exact this
theorem spot_at {w : World} {A : Option Addr} {n c : Nat} {l : List MSpot} (h : IsSl w 2 A n c (spCells l)) {i : Nat} {x : MSpot} (hx : l[i]? = some x) :
    ∃ b o, A = some ⟨b, o, none⟩ ∧ w.cell? ⟨b, o + i * 2, none⟩ = some (.int .i64 x.1) ∧ w.cell? ⟨b, o + i * 2 + 1, none⟩ = some x.2.1 := by
  have hl := h.1
  rw [spCells_length] at hl
  have hi := (List.getElem?_eq_some_iff.1 hx).1
  obtain ⟨b, o, h1, h2, h3⟩ := pair_at h (i := i) (by omega)
  obtain ⟨e0, e1⟩ := spCells_at l i x hx
  exact ⟨b, o, h1, by rw [h2, e0], by rw [h3, e1]⟩
set_option maxHeartbeats 8000000 in
theorem count_calls (dn : Int) (pv : Value) (ss : List SpotM) (f : Int) (w : World) (h : RSpots w pv ss) :
    Calls Tryz.prog 11 #[.agg #[.int .i64 dn, pv], .int .i64 f] w fun e w' => e = .returned (.int .i64 (countF f ss)) ∧ Below w.heap.size w w' := by
  obtain ⟨A, c, vs, rfl, hsl, hin, rfl⟩ := h
  obtain ⟨wA, hwA⟩ : ∃ wA, w.alloc (.cells #[.int .i64 dn, .slice A vs.length c] 41) = wA := ⟨_, rfl⟩
  have hbA : Below w.heap.size w wA := by rw [← hwA]; exact (Below.refl _ _).alloc (Nat.le_refl _) _
  have HX : Hid (wA.heap[w.heap.size]? = some (.cells #[.int .i64 dn, .slice A vs.length c] 41 (0, 0))) := by show _ = _; rw [← hwA]; exact heap_alloc_new _ _
  have HWA := Lib.hid hwA
  have HBA := Lib.hid hbA
  have HS := Lib.hid (hsl.below hbA)
  have HI : Hid (∀ s ∈ vs, RInts wA s.2.1 s.2.2) := fun s hs => (hin s hs).below hbA
  obtain ⟨l, hl⟩ : ∃ l, vs.map (fun s => (s.1, s.2.2)) = l := ⟨_, rfl⟩
  have HL := Lib.hid hl
  obtain ⟨n, hn⟩ : ∃ n, vs.length = n := ⟨_, rfl⟩
  have HN := Lib.hid hn
  have HLN : Hid (l.length = n) := by show _ = _; rw [← hl, List.length_map, hn]
  have hnm := HS.out.2.1
  have hcm := HS.out.2.2.1
  unfold maxLen at hcm
  rw [hn] at HX HWA HS hnm ⊢
  rw [hl]
  clear hwA hbA hsl hin hl hn
  go_enter Tryz.func11, Tryz.ntmps11
  go_wp2_with fail
  rw [HWA.out]
  go_loopw [5, 11] (fun cnt ix wr => ∃ i : Nat, i ≤ n ∧ ix = .int .i64 i ∧ cnt = .int .i64 (countF f (l.take i)) ∧ Below wA.heap.size wA wr) (fun _ ix _ => n - (intOf ix).toNat)
  case atStart => exact ⟨0, Nat.zero_le _, rfl, rfl, Below.refl _ _⟩
  case round =>
    obtain ⟨i, hi, rfl, rfl, hb⟩ := hrel
    have HB := Lib.hid hb
    by_cases hlt : i < n
    · obtain ⟨x, hx⟩ : ∃ x, vs[i]? = some x := ⟨_, List.getElem?_eq_getElem (by rw [HN.out]; exact hlt)⟩
      obtain ⟨bb, oo, rfl, z0, z1⟩ := spot_at (HS.out.below hb) hx
      have hrx := HI.out x (List.mem_of_getElem? hx)
      have hlx : l[i]? = some (x.1, x.2.2) := by rw [← HL.out, List.getElem?_map, hx]; rfl
      have HT := Lib.hid (countF_take (f := f) hlx)
      obtain ⟨fl, av, ps⟩ := x
      obtain ⟨A2, c2, hav, hs2⟩ := hrx
      simp only at z0 z1 HT hav hs2
      subst hav
      obtain ⟨k, hk⟩ : ∃ k, ps.length = k := ⟨_, rfl⟩
      rw [hk] at z1 HT
      obtain ⟨u, hu⟩ : ∃ u, countF f (l.take i) = u := ⟨_, rfl⟩
      rw [hu] at HT ⊢
      obtain ⟨w0, hw0⟩ : ∃ w0, wr.alloc (.cells #[.int .i64 fl, .slice A2 k c2] 64) = w0 := ⟨_, rfl⟩
      have hb0 : Below wr.heap.size wr w0 := by rw [← hw0]; exact (Below.refl _ _).alloc (Nat.le_refl _) _
      have hca : w0.cell? ⟨wr.heap.size, 0, none⟩ = some (.int .i64 fl) := by rw [← hw0]; exact cell_new _ _ _ _ 0
      have hcb : w0.cell? ⟨wr.heap.size, 1, none⟩ = some (.slice A2 k c2) := by rw [← hw0]; exact cell_new _ _ _ _ 1
      have HW0 := Lib.hid hw0
      have HB0 := Lib.hid (below_next hb hb0)
      have hwi : IntKind.i64.wrap ((i : Int) + 1) = (i : Int) + 1 := by rw [IntKind.wrap_i64]; omega
      obtain ⟨q, hq⟩ : ∃ q, wr.heap.size = q := ⟨_, rfl⟩
      rw [hq] at hca hcb
      have hq0 : q < w0.heap.size := by rw [← hw0, ← hq]; simp
      clear hx hlx hs2 hb hb0 hw0 hu
      by_cases hf0 : f = 0
      · rw [if_pos (Or.inl hf0)] at HT
        subst hf0
        go_wp2_with fail
        rw [HW0.out]
        go_roundw
        case rel => exact ⟨i + 1, by omega, by go_num, by rw [HT.out], HB0.out⟩
        case measure => simp [intOf]; omega
      · have hfe : ((f : Int) == 0) = false := by simp [hf0]
        by_cases hff : fl = f
        · rw [if_pos (Or.inr hff)] at HT
          subst hff
          have hfe2 : ((fl : Int) == fl) = true := by simp
          go_wp2_with fail
          rw [HW0.out]
          go_roundw
          case rel => exact ⟨i + 1, by omega, by go_num, by rw [HT.out], HB0.out⟩
          case measure => simp [intOf]; omega
        · rw [if_neg (by rintro (h | h); exact hf0 h; exact hff h)] at HT
          have hfe2 : ((fl : Int) == f) = false := by simp [hff]
          go_wp2_with fail
          rw [HW0.out]
          go_roundw
          case rel => exact ⟨i + 1, by omega, by go_num, by rw [HT.out], HB0.out⟩
          case measure => simp [intOf]; omega
    · obtain rfl : i = n := by omega
      have HTA : Hid (l.take i = l) := List.take_of_length_le (by rw [HLN.out]; exact Nat.le_refl _)
      clear hb
      go_wp2_with fail
      go_ret
      exact ⟨by rw [HTA.out]; rfl, below_next HBA.out HB.out⟩
end Trm
end Go.Proofs.YtfohollhdaedlaaGreatDoor
/- Terms: the example of layer 17; the law TermsTexts. -/
set_option linter.unusedVariables false
set_option linter.unusedSimpArgs false
set_option maxRecDepth 100000
namespace Go.Proofs.YtfohollhdaedlaaGreatDoor
open Go.RowKit
namespace Trm
open Tok
theorem tmCells_at : ∀ (l : List MTerm) (i : Nat) (x : MTerm), l[i]? = some x → (tmCells l)[i * 2]? = some (.string x.1) ∧ (tmCells l)[i * 2 + 1]? = some x.2.1
  | [], _, _, h => by simp at h
  | y :: l, 0, x, h => by
    obtain rfl : y = x := by simpa using h
    exact ⟨rfl, rfl⟩
  | y :: l, i + 1, x, h => by
    have := tmCells_at l i x (by simpa using h)
    show (Value.string y.1 :: y.2.1 :: tmCells l)[(i + 1) * 2]? = _ ∧ (Value.string y.1 :: y.2.1 :: tmCells l)[(i + 1) * 2 + 1]? = _
    rw [show (i + 1) * 2 = i * 2 + 1 + 1 by omega]
    exact this
theorem term_at {w : World} {A : Option Addr} {n c : Nat} {l : List MTerm} (h : IsSl w 2 A n c (tmCells l)) {i : Nat} {x : MTerm} (hx : l[i]? = some x) :
    ∃ b o, A = some ⟨b, o, none⟩ ∧ w.cell? ⟨b, o + i * 2, none⟩ = some (.string x.1) ∧ w.cell? ⟨b, o + i * 2 + 1, none⟩ = some x.2.1 := by
  have hl := h.1
  rw [tmCells_length] at hl
  have hi := (List.getElem?_eq_some_iff.1 hx).1
  obtain ⟨b, o, h1, h2, h3⟩ := pair_at h (i := i) (by omega)
  obtain ⟨e0, e1⟩ := tmCells_at l i x hx
  exact ⟨b, o, h1, by rw [h2, e0], by rw [h3, e1]⟩
theorem poCells_at : ∀ (l : List MPost) (i : Nat) (x : MPost), l[i]? = some x → (poCells l)[i * 2]? = some (.int .i64 x.1) ∧ (poCells l)[i * 2 + 1]? = some x.2.1
  | [], _, _, h => by simp at h
  | y :: l, 0, x, h => by
    obtain rfl : y = x := by simpa using h
    exact ⟨rfl, rfl⟩
  | y :: l, i + 1, x, h => by
    have := poCells_at l i x (by simpa using h)
    show (Value.int .i64 y.1 :: y.2.1 :: poCells l)[(i + 1) * 2]? = _ ∧ (Value.int .i64 y.1 :: y.2.1 :: poCells l)[(i + 1) * 2 + 1]? = _
    rw [show (i + 1) * 2 = i * 2 + 1 + 1 by omega]
    exact this
theorem post_at {w : World} {A : Option Addr} {n c : Nat} {l : List MPost} (h : IsSl w 2 A n c (poCells l)) {i : Nat} {x : MPost} (hx : l[i]? = some x) :
    ∃ b o, A = some ⟨b, o, none⟩ ∧ w.cell? ⟨b, o + i * 2, none⟩ = some (.int .i64 x.1) ∧ w.cell? ⟨b, o + i * 2 + 1, none⟩ = some x.2.1 := by
  have hl := h.1
  rw [poCells_length] at hl
  have hi := (List.getElem?_eq_some_iff.1 hx).1
  obtain ⟨b, o, h1, h2, h3⟩ := pair_at h (i := i) (by omega)
  obtain ⟨e0, e1⟩ := poCells_at l i x hx
  exact ⟨b, o, h1, by rw [h2, e0], by rw [h3, e1]⟩
/-- One posting. -/
theorem posts_one {w : World} {v : Value} {p : PostM} (h : RPosts w v [p]) : ∃ bb oo c sv, v = .slice (some ⟨bb, oo, none⟩) 1 c ∧ 1 ≤ c ∧ c ≤ maxLen ∧ w.cell? ⟨bb, oo, none⟩ = some (.int .i64 p.1) ∧ w.cell? ⟨bb, oo + 1, none⟩ = some sv ∧ RSpots w sv p.2 := by
  obtain ⟨A, c, vs, rfl, hsl, hr, hm⟩ := h
  obtain ⟨x, rfl⟩ : ∃ x, vs = [x] := by
    rcases vs with _ | ⟨x, _ | ⟨y, l⟩⟩
    · simp at hm
    · exact ⟨x, rfl⟩
    · simp at hm
  obtain ⟨bb, oo, rfl, z0, z1⟩ := post_at hsl (i := 0) (x := x) rfl
  have hx : (x.1, x.2.2) = p := by simpa using hm
  have hs := hr x (List.mem_singleton.2 rfl)
  subst hx
  exact ⟨bb, oo, c, x.2.1, rfl, hsl.2.1, hsl.2.2.1, z0, z1, hs⟩
theorem RSpots.form {w : World} {v : Value} {l : List SpotM} (h : RSpots w v l) : ∃ A n c, v = .slice A n c := by
  obtain ⟨A, c, vs, rfl, _⟩ := h
  exact ⟨A, _, c, rfl⟩
theorem cell_kept {w w' : World} {a : Addr} {v : Value} (hb : Below w.heap.size w w') (hc : w.cell? a = some v) : w'.cell? a = some v := by
  refine (hb.cell (p := a) ?_).trans hc
  cases h : w.heap[a.block]? with
  | none => simp [World.cell?, h] at hc
  | some o => exact (Array.getElem?_eq_some_iff.1 h).1
set_option maxHeartbeats 8000000 in
theorem awake_calls (w : World) (hL : LaidT w) :
    Calls Tryz.prog 5 #[] w fun e w' => e = .returned (.bool true) ∧ Below w.heap.size w w' := by
  have C := Lib.hid (doc_calls exD (fun i => by
    unfold Exp.DocM.get
    split
    · decide
    · split
      · decide
      · split <;> decide) 0 w hL)
  clear hL
  simp only [Exp.docV, Exp.docC] at C
  go_enter Tryz.func5, Tryz.ntmps5
  go_wp2_with fail
  refine C.out.mono ?_
  rintro e w1 ⟨v, ts, rfl, ho, hok, hb⟩
  clear C
  have hdl : (docM exD).length = 2 := by rw [exDoc]; rfl
  rw [hdl] at ho
  obtain ⟨A, c, rfl, hsl⟩ := own_form ho
  obtain ⟨hrp, hmp⟩ := hok
  rw [exDocT] at hmp
  obtain ⟨x, y, rfl⟩ : ∃ x y, ts = [x, y] := by
    rcases ts with _ | ⟨x, _ | ⟨y, _ | ⟨z, l⟩⟩⟩
    · simp at hmp
    · simp at hmp
    · exact ⟨x, y, rfl⟩
    · simp at hmp
  have hcc := hsl.2.1
  have hcm := hsl.2.2.1
  obtain ⟨bb, oo, rfl, x0, _⟩ := term_at hsl (i := 0) (x := x) rfl
  obtain ⟨bb', oo', hA, y0, y1⟩ := term_at hsl (i := 1) (x := y) rfl
  injection hA with hA
  injection hA with h1 h2
  subst h1 h2
  have hy := hrp y (by simp)
  obtain ⟨xt, xv, xp⟩ := x
  obtain ⟨yt, yv, yp⟩ := y
  simp only [List.map_cons, List.map_nil, List.cons.injEq, Prod.mk.injEq, and_true] at hmp
  obtain ⟨⟨rfl, rfl⟩, rfl, rfl⟩ := hmp
  simp only [Nat.zero_mul, Nat.one_mul, Nat.add_zero] at x0 y0 y1 hy
  obtain ⟨pb, po, pc, sv, rfl, h1, h2, p0, p1, hs⟩ := posts_one hy
  simp only at p0 hs
  obtain ⟨SA, sn, sc, rfl⟩ := hs.form
  have HS := Lib.hid hs
  have HB := Lib.hid hb
  unfold maxLen at hcm h2
  have hk0 : countF 0 [(1, [0]), (2, [0])] = 2 := by decide +kernel
  have hk2 : countF 2 [(1, [0]), (2, [0])] = 1 := by decide +kernel
  have C1 := Lib.hid (count_calls 0 _ _ 0 w1 hs)
  rw [hk0] at C1
  clear hs hy hrp hsl ho hb hdl hk0
  go_wp2_with fail
  refine C1.out.mono ?_
  rintro e w2 ⟨rfl, hb2⟩
  have y1' := cell_kept hb2 y1
  have p0' := cell_kept hb2 p0
  have p1' := cell_kept hb2 p1
  have C2 := Lib.hid (count_calls 0 _ _ 2 w2 (HS.out.below hb2))
  rw [hk2] at C2
  have HB2 := Lib.hid (below_next HB.out hb2)
  clear y1 p0 p1 hb2 C1 hk2 x0 y0
  go_wp2_with fail
  refine C2.out.mono ?_
  rintro e w3 ⟨rfl, hb3⟩
  have HB3 := Lib.hid (below_next HB2.out hb3)
  clear y1' p0' p1' hb3 C2
  go_wp2_with fail
  go_ret
  exact ⟨rfl, HB3.out⟩
end Trm
end Go.Proofs.YtfohollhdaedlaaGreatDoor
