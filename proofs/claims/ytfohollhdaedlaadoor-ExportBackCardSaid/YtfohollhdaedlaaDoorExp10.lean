/- Export: the reader in memory. -/
import Derived.Test.YtfohollhdaedlaaDoorExpB
set_option linter.unusedVariables false
set_option linter.unusedSimpArgs false
set_option maxRecDepth 100000
namespace Go.Proofs.YtfohollhdaedlaaDoor
open Go.RowKit
namespace Exp
/-- The field that may come next. -/
def fldL (l : List DocM) : Nat := match l.getLast? with
  | some d => fld d
  | none => 0
theorem fld_put (d : DocM) (i : Nat) (hi : i < 4) (t : ByteArray) (hf : fld d ≤ i) (ht : by8 t ≠ []) : fld (d.put i t) = i + 1 := by
  have h0 := fld_get d i hf
  rcases (show i = 0 ∨ i = 1 ∨ i = 2 ∨ i = 3 by omega) with rfl | rfl | rfl | rfl
  · have h1 := h0 1 (by omega) (by omega)
    have h2 := h0 2 (by omega) (by omega)
    have h3 := h0 3 (by omega) (by omega)
    simp only [DocM.get] at h1 h2 h3
    simp_all [fld, DocM.put]
  · have h2 := h0 2 (by omega) (by omega)
    have h3 := h0 3 (by omega) (by omega)
    simp only [DocM.get] at h2 h3
    simp_all [fld, DocM.put]
  · have h3 := h0 3 (by omega) (by omega)
    simp only [DocM.get] at h3
    simp_all [fld, DocM.put]
  · simp_all [fld, DocM.put]
theorem fldL_nil : fldL [] = 0 := rfl
theorem fldL_doc (l : List DocM) (id : ByteArray) : fldL (l ++ [bare id]) = 0 := by
  unfold fldL
  rw [List.getLast?_concat]; rfl
theorem fldL_put (l : List DocM) (d : DocM) (i : Nat) (hi : i < 4) (t : ByteArray) (hf : fld d ≤ i) (ht : by8 t ≠ []) : fldL (l ++ [d.put i t]) = i + 1 := by
  unfold fldL
  rw [List.getLast?_concat]
  exact fld_put d i hi t hf ht
/-- The reader's block: its own row of documents, and the field that may come next. -/
def IsR (B b : Nat) (l : List DocM) (w : World) : Prop :=
  B ≤ b ∧ ∃ v, w.heap[b]? = some (.cells #[v, .int .i64 (fldL l)] 67 (0, 0)) ∧ w.ownsRow B 33 5 v l.length (dCells l)
theorem IsR.below {B b : Nat} {l : List DocM} {w w' : World} (h : IsR B b l w) (hb : Below w.heap.size w w') : IsR B b l w' := by
  obtain ⟨hB, v, h1, h2⟩ := h
  exact ⟨hB, v, (hb.block b (Array.getElem?_eq_some_iff.1 h1).1).trans h1, own_below h2 hb⟩
theorem sl_lit2 (w : World) (cs : Array Value) (e : TypeId) (size n : Nat) (hn : cs.size = n * size) (hm : n ≤ maxLen) :
    IsSl (w.alloc (.cells cs e)) size (some ⟨w.heap.size, 0, none⟩) n n cs.toList := by
  obtain ⟨A, c, h, r⟩ := own_form (World.ownsRow_lit (base := w.heap.size) (e := e) w cs n (Nat.le_refl _) hm hn)
  injection h with h1 h2 h3
  subst h1 h3
  exact r
theorem inf_doc : (Tryd.prog.info? 33).map (fun i => (i.zero, i.size, i.bytes)) = some (some (.agg #[.string { data := #[] }, .string { data := #[] }, .string { data := #[] }, .string { data := #[] }, .string { data := #[] }]), 5, 80) := by kernel_rfl
theorem own_ne {w : World} {base size n b : Nat} {e e' : TypeId} {v : Value} {xs : List Value} {c : Array Value} {fr : Nat × Nat} (h : w.ownsRow base e size v n xs) (hb : w.heap[b]? = some (.cells c e' fr)) (hne : e' ≠ e) : some b ≠ v.ownBlock := by
  rcases h.2 with ⟨rfl, _⟩ | ⟨g, cap, cur, rfl, _, hg, _⟩
  · intro h; cases h
  · intro h
    have h2 : b = g := Option.some.inj h
    subst h2
    rw [hg] at hb
    injection hb with hb
    injection hb with h3 h4 h5
    exact hne h4.symm
theorem grown_cell {W : World} {n i : Nat} (x : Value) : W.grownBy (W.setCell ⟨n, i, none⟩ x) (some n) :=
  ⟨rfl, rfl, rfl, by simp, fun k hk hne => Below.heap_setCell _ ⟨n, i, none⟩ x k (fun e => hne (by rw [e]))⟩
theorem head2 {w : World} {p : Nat} {x y : Value} {t : TypeId} (h : w.heap[p]? = some (.cells #[x, y] t (0, 0))) :
    w.cell? ⟨p, 0, none⟩ = some x ∧ w.cell? ⟨p, 1, none⟩ = some y ∧ ∀ i, w.frozen? ⟨p, i, none⟩ = false :=
  ⟨by simp [World.cell?, h], by simp [World.cell?, h], fun i => by simp [World.frozen?, h]⟩
theorem heap_set2 {W : World} {n i : Nat} {a b x : Value} {t : TypeId} (h : W.heap[n]? = some (.cells #[a, b] t (0, 0))) (cs : Array Value) (hc : cs = #[a, b].setIfInBounds i x) :
    (W.setCell ⟨n, i, none⟩ x).heap[n]? = some (.cells cs t (0, 0)) := by
  subst hc
  obtain ⟨hn, he⟩ := Array.getElem?_eq_some_iff.1 h
  simp [World.setCell, hn, he, Array.getElem_modify]
/-- All blocks but the reader's and rows of documents stay. -/
def KeptR (b : Nat) (w w' : World) : Prop := ∀ (k : Nat) (o : Obj), w.heap[k]? = some o → k ≠ b → (∀ cs fr, o ≠ .cells cs 33 fr) → w'.heap[k]? = some o
theorem KeptR.refl (b : Nat) (w : World) : KeptR b w w := fun _ _ h _ _ => h
theorem KeptR.trans {b : Nat} {w w1 w2 : World} (h : KeptR b w w1) (h' : KeptR b w1 w2) : KeptR b w w2 := fun k o ho hk hd => h' k o (h k o ho hk hd) hk hd
theorem KeptR.of_below (b : Nat) {w w' : World} (h : Below w.heap.size w w') : KeptR b w w' := fun k o ho _ _ => (h.block k (Array.getElem?_eq_some_iff.1 ho).1).trans ho
theorem KeptR.set (b i : Nat) (w : World) (x : Value) : KeptR b w (w.setCell ⟨b, i, none⟩ x) := fun k o ho hk _ => ((grown_cell (W := w) (n := b) (i := i) x).block k (Array.getElem?_eq_some_iff.1 ho).1 (fun e => hk (Option.some.inj e))).trans ho
theorem KeptR.row {b B n : Nat} {w w' : World} {v : Value} {xs : List Value} (h : w.ownsRow B 33 5 v n xs) (hg : w.grownBy w' v.ownBlock) : KeptR b w w' := fun k o ho hk hd => by
  refine (hg.block k (Array.getElem?_eq_some_iff.1 ho).1 fun e => ?_).trans ho
  rcases h.2 with ⟨rfl, _⟩ | ⟨g, cap, cur, rfl, _, hg, _⟩
  · cases e
  · have h2 : k = g := Option.some.inj e
    subst h2
    rw [hg] at ho
    exact hd _ _ (Option.some.inj ho).symm
/-- A reader's step: what it has then, and what stays. -/
def StepR (B b : Nat) (w : World) (l : List DocM) (w' : World) : Prop := IsR B b l w' ∧ Below B w w' ∧ KeptR b w w'
theorem step_doc {B b : Nat} {l : List DocM} {w w3 : World} {v v' : Value} {o : Obj} {id : ByteArray} (hB : B ≤ b) (hx : w.heap[b]? = some (.cells #[v, .int .i64 (fldL l)] 67 (0, 0))) (ho : w.ownsRow B 33 5 v l.length (dCells l))
    (hg : (w.alloc o).grownBy w3 v.ownBlock) (ho3 : w3.ownsRow B 33 5 v' (l.length + 1) (dCells l ++ [.string id, .string { data := #[] }, .string { data := #[] }, .string { data := #[] }, .string { data := #[] }])) (hb3 : Below B (w.alloc o) w3) :
    w3.heap[b]? = some (.cells #[v, .int .i64 (fldL l)] 67 (0, 0)) ∧ StepR B b w (l ++ [bare id]) ((w3.setCell ⟨b, 0, none⟩ v').setCell ⟨b, 1, none⟩ (.int .i64 0)) := by
  have hlt : b < w.heap.size := (Array.getElem?_eq_some_iff.1 hx).1
  have hal : Below w.heap.size w (w.alloc o) := (Below.refl _ _).alloc (Nat.le_refl _) _
  have h1 : (w.alloc o).heap[b]? = some (.cells #[v, .int .i64 (fldL l)] 67 (0, 0)) := (hal.block b hlt).trans hx
  have h3 := (hg.block b (Array.getElem?_eq_some_iff.1 h1).1 (own_ne ho hx (by decide))).trans h1
  refine ⟨h3, ⟨hB, v', ?_, ?_⟩, ?_, ?_⟩
  · rw [fldL_doc]
    exact heap_set2 (heap_set2 h3 #[v', .int .i64 (fldL l)] rfl) _ rfl
  · rw [dCells_append, List.length_append]
    have hne := own_ne ho3 h3 (by decide)
    have hk : v'.ownBlock = none ∨ v'.ownBlock ≠ some b := .inr fun e => hne e.symm
    exact (ho3.kept (grown_cell (n := b) (i := 0) v') hk).kept (grown_cell (n := b) (i := 1) _) hk
  · exact ((((hal.mono (by omega)).trans hb3).setCell (p := ⟨b, 0, none⟩) hB _).setCell (p := ⟨b, 1, none⟩) hB _)
  · exact (((KeptR.of_below b hal).trans (KeptR.row (own_below ho hal) hg)).trans (KeptR.set b 0 _ _)).trans (KeptR.set b 1 _ _)
theorem StepR.next {B b : Nat} {w w1 w2 : World} {l : List DocM} (h : StepR B b w l w1) (hb : Below w1.heap.size w1 w2) (hB : B ≤ w1.heap.size) : StepR B b w l w2 :=
  ⟨h.1.below hb, h.2.1.trans (hb.mono hB), h.2.2.trans (KeptR.of_below b hb)⟩
theorem IsR.size {B b : Nat} {w : World} {l : List DocM} (h : IsR B b l w) : B ≤ w.heap.size := by
  obtain ⟨hB, v, h1, _⟩ := h
  have := (Array.getElem?_eq_some_iff.1 h1).1
  omega
end Exp
end Go.Proofs.YtfohollhdaedlaaDoor
