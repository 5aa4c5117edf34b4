/- Terms: what is known of a document's terms: they rise, and have just the places of its texts; plain. -/
import Derived.Test.YtfohollhdaedlaaGreatDoorTrmE
set_option linter.unusedVariables false
set_option linter.unusedSimpArgs false
set_option maxRecDepth 100000
namespace Go.Proofs.YtfohollhdaedlaaGreatDoor
open Go.RowKit
namespace Trm
open Tok
/-- Spots of a term: fields rise from 1 on, none is empty, places rise. -/
def SpOk (f p : Int) (ss : List SpotM) : Prop :=
  ss.Pairwise (fun a b => a.1 < b.1) ∧ ∀ s ∈ ss, 0 < s.1 ∧ s.1 ≤ f ∧ s.2 ≠ [] ∧ s.2.Pairwise (· ≤ ·) ∧ (s.1 = f → ∀ a ∈ s.2, a ≤ p)
theorem SpOk.one {f a : Int} (hf : 0 < f) : SpOk f a [(f, [a])] :=
  ⟨List.pairwise_singleton _ _, fun s hs => by
    obtain rfl := List.mem_singleton.1 hs
    exact ⟨hf, Int.le_refl _, by simp, List.pairwise_singleton _ _, fun _ b hb => by obtain rfl := List.mem_singleton.1 hb; exact Int.le_refl _⟩⟩
theorem SpOk.mono {f p a : Int} {ss : List SpotM} (h : SpOk f p ss) (hp : p ≤ a) : SpOk f a ss :=
  ⟨h.1, fun s hs => by
    obtain ⟨h1, h2, h3, h4, h5⟩ := h.2 s hs
    exact ⟨h1, h2, h3, h4, fun he b hb => Int.le_trans (h5 he b hb) hp⟩⟩
theorem SpOk.next {f p q : Int} {ss : List SpotM} (h : SpOk f p ss) : SpOk (f + 1) q ss :=
  ⟨h.1, fun s hs => by
    obtain ⟨h1, h2, h3, h4, h5⟩ := h.2 s hs
    exact ⟨h1, by omega, h3, h4, fun he => by omega⟩⟩
theorem addS_ok {f p a : Int} {ss : List SpotM} (h : SpOk f p ss) (hf : 0 < f) (hp : p ≤ a) : SpOk f a (addS ss f a) := by
  rcases List.eq_nil_or_concat ss with rfl | ⟨s1, s0, rfl⟩
  · exact SpOk.one hf
  · rw [List.concat_eq_append] at *
    rw [addS_last]
    have hpw := h.1
    rw [List.pairwise_append] at hpw
    have h0 := h.2 s0 (by simp)
    by_cases hff : s0.1 = f
    · rw [if_pos hff]
      refine ⟨?_, fun s hs => ?_⟩
      · rw [List.pairwise_append]
        exact ⟨hpw.1, List.pairwise_singleton _ _, fun x hx y hy => by
          obtain rfl := List.mem_singleton.1 hy
          exact hpw.2.2 x hx s0 (by simp)⟩
      · rcases List.mem_append.1 hs with hs | hs
        · have := hpw.2.2 s hs s0 (by simp)
          obtain ⟨k1, k2, k3, k4, k5⟩ := h.2 s (List.mem_append_left _ hs)
          exact ⟨k1, k2, k3, k4, fun he => by omega⟩
        · obtain rfl := List.mem_singleton.1 hs
          obtain ⟨k1, k2, k3, k4, k5⟩ := h0
          refine ⟨k1, k2, by simp, ?_, fun he b hb => ?_⟩
          · show (s0.2 ++ [a]).Pairwise (· ≤ ·)
            rw [List.pairwise_append]
            exact ⟨k4, List.pairwise_singleton _ _, fun x hx y hy => by
              obtain rfl := List.mem_singleton.1 hy
              have := k5 hff x hx
              omega⟩
          · rcases List.mem_append.1 hb with hb | hb
            · have := k5 hff b hb
              omega
            · obtain rfl := List.mem_singleton.1 hb
              exact Int.le_refl _
    · rw [if_neg hff]
      have hlt : ∀ s ∈ s1 ++ [s0], s.1 < f := fun s hs => by
        have h0f := h0.2.1
        rcases List.mem_append.1 hs with hs | hs
        · have := hpw.2.2 s hs s0 (by simp)
          omega
        · obtain rfl := List.mem_singleton.1 hs
          omega
      refine ⟨?_, fun s hs => ?_⟩
      · rw [List.pairwise_append]
        exact ⟨h.1, List.pairwise_singleton _ _, fun x hx y hy => by
          obtain rfl := List.mem_singleton.1 hy
          exact hlt x hx⟩
      · rcases List.mem_append.1 hs with hs | hs
        · obtain ⟨k1, k2, k3, k4, k5⟩ := h.2 s hs
          exact ⟨k1, k2, k3, k4, fun he => by have := hlt s hs; omega⟩
        · exact (SpOk.one hf).2 s hs
def DocOk (f p : Int) (m : TabM) : Prop := m.Pairwise (fun a b => slt a.1 b.1 = true) ∧ ∀ e ∈ m, 0 < e.1.size ∧ SpOk f p e.2
theorem DocOk.next {f p q : Int} {m : TabM} (h : DocOk f p m) : DocOk (f + 1) q m := ⟨h.1, fun e he => ⟨(h.2 e he).1, (h.2 e he).2.next⟩⟩
theorem addM_mem {t : ByteArray} {f a : Int} : ∀ {m : TabM} {e : ByteArray × List SpotM}, e ∈ addM t f a m → e.1 = t ∨ ∃ e' ∈ m, e'.1 = e.1
  | [], e, h => by
    simp [addM] at h
    exact .inl (by rw [h])
  | x :: m, e, h => by
    unfold addM at h
    split at h
    · rcases List.mem_cons.1 h with rfl | h
      · exact .inr ⟨e, List.mem_cons_self .., rfl⟩
      · rcases addM_mem h with h | ⟨e', h1, h2⟩
        · exact .inl h
        · exact .inr ⟨e', List.mem_cons_of_mem _ h1, h2⟩
    · split at h
      · rcases List.mem_cons.1 h with rfl | h
        · exact .inl rfl
        · exact .inr ⟨e, List.mem_cons_of_mem _ h, rfl⟩
      · rcases List.mem_cons.1 h with rfl | h
        · exact .inl rfl
        · exact .inr ⟨e, h, rfl⟩
theorem addM_ok {t : ByteArray} {f p a : Int} (hf : 0 < f) (hp : p ≤ a) (ht : 0 < t.size) : ∀ {m : TabM}, DocOk f p m → DocOk f a (addM t f a m)
  | [], h => ⟨List.pairwise_singleton _ _, fun e he => by
      obtain rfl := List.mem_singleton.1 he
      exact ⟨ht, SpOk.one hf⟩⟩
  | x :: m, h => by
    obtain ⟨hpw, hall⟩ := h
    rw [List.pairwise_cons] at hpw
    have hx := hall x (List.mem_cons_self ..)
    have hm : ∀ e ∈ m, 0 < e.1.size ∧ SpOk f p e.2 := fun e he => hall e (List.mem_cons_of_mem _ he)
    have up : ∀ e ∈ x :: m, 0 < e.1.size ∧ SpOk f a e.2 := fun e he => ⟨(hall e he).1, (hall e he).2.mono hp⟩
    have ih := addM_ok hf hp ht (m := m) ⟨hpw.2, hm⟩
    unfold addM
    split
    · rename_i hs
      refine ⟨List.pairwise_cons.2 ⟨fun e he => ?_, ih.1⟩, fun e he => ?_⟩
      · rcases addM_mem he with he | ⟨e', h1, h2⟩
        · rw [he]; exact hs
        · rw [← h2]; exact hpw.1 e' h1
      · rcases List.mem_cons.1 he with rfl | he
        · exact up _ (List.mem_cons_self ..)
        · exact ih.2 e he
    · rename_i hs
      split
      · rename_i he0
        refine ⟨List.pairwise_cons.2 ⟨fun e he => by rw [← he0]; exact hpw.1 e he, hpw.2⟩, fun e he => ?_⟩
        rcases List.mem_cons.1 he with rfl | he
        · exact ⟨ht, addS_ok hx.2 hf hp⟩
        · exact up e (List.mem_cons_of_mem _ he)
      · rename_i hne
        have hlt : slt t x.1 = true := slt_total (by simpa using hs) hne
        refine ⟨List.pairwise_cons.2 ⟨fun e he => ?_, List.pairwise_cons.2 hpw⟩, fun e he => ?_⟩
        · rcases List.mem_cons.1 he with rfl | he
          · exact hlt
          · exact slt_trans hlt (hpw.1 e he)
        · rcases List.mem_cons.1 he with rfl | he
          · exact ⟨ht, SpOk.one hf⟩
          · exact up e he
theorem addAll_ok {f : Int} (hf : 0 < f) : ∀ (l : List (ByteArray × Nat)) {p : Int} {m : TabM}, DocOk f p m → l.Pairwise (fun x y => x.2 ≤ y.2) → (∀ x ∈ l, p ≤ (x.2 : Int) ∧ 0 < x.1.size) → ∃ p', DocOk f p' (addAll f l m)
  | [], p, m, h, _, _ => ⟨p, h⟩
  | x :: l, p, m, h, hw, hl => by
    rw [List.pairwise_cons] at hw
    obtain ⟨h1, h2⟩ := hl x (List.mem_cons_self ..)
    exact addAll_ok hf l (addM_ok hf h1 h2 h) hw.2 fun y hy => ⟨by have := hw.1 y hy; omega, (hl y (List.mem_cons_of_mem _ hy)).2⟩
theorem toks_pair (s : ByteArray) : ∀ (l : List (Nat × Nat)) (i : Nat), (toks s i l).Pairwise (fun x y => x.2 ≤ y.2)
  | [], _ => .nil
  | x :: l, i => by
    rw [toks, List.pairwise_append]
    refine ⟨?_, toks_pair s l (i + 1), fun y hy z hz => ?_⟩
    · split
      · exact List.pairwise_singleton _ _
      · exact .nil
    · split at hy
      · obtain rfl := List.mem_singleton.1 hy
        obtain ⟨_, _, _, _, _, h⟩ := toks_mem s l (i + 1) z hz
        show i ≤ z.2
        omega
      · cases hy
theorem trms_pair (s : ByteArray) : (trms s).Pairwise (fun x y => x.2 ≤ y.2) := by
  unfold trms stems wds
  rw [List.pairwise_map]
  exact (toks_pair s (spans s 0) 0).filter _
theorem trms_pos (s : ByteArray) : ∀ x ∈ trms s, 0 < x.1.size := by
  intro x hx
  unfold trms stems wds at hx
  obtain ⟨y, hy, rfl⟩ := List.mem_map.1 hx
  obtain ⟨hy, _⟩ := List.mem_filter.1 hy
  obtain ⟨z, hz, h1, _⟩ := toks_mem s (spans s 0) 0 y hy
  have h2 := ((single_iff _).1 (term_single hz).1).1
  rw [← h1] at h2
  exact (Stem.stem_keep _ h2).1
theorem docAdds_ok (d : Exp.DocM) : ∀ i : Nat, ∃ p, DocOk (i : Int) p (docAdds d i)
  | 0 => ⟨0, .nil, fun e he => absurd he List.not_mem_nil⟩
  | i + 1 => by
    obtain ⟨p, h⟩ := docAdds_ok d i
    exact addAll_ok (by omega) (trms (d.get i)) (p := 0) h.next (trms_pair _) fun x hx => ⟨by omega, trms_pos _ x hx⟩
theorem docM_ok (d : Exp.DocM) : ∃ p, DocOk 4 p (docM d) := docAdds_ok d 4
/-- How many places there are. -/
def totS (ss : List SpotM) : Nat := (ss.map fun s => s.2.length).sum
def tot (m : TabM) : Nat := (m.map fun e => totS e.2).sum
theorem totS_add (ss : List SpotM) (f a : Int) : totS (addS ss f a) = totS ss + 1 := by
  rcases List.eq_nil_or_concat ss with rfl | ⟨s1, s0, rfl⟩
  · rfl
  · rw [List.concat_eq_append, addS_last]
    split <;> simp [totS] <;> omega
theorem tot_add (t : ByteArray) (f a : Int) : ∀ m : TabM, tot (addM t f a m) = tot m + 1
  | [] => rfl
  | x :: m => by
    have ih := tot_add t f a m
    have hc : ∀ (y : ByteArray × List SpotM) (l : TabM), tot (y :: l) = totS y.2 + tot l := fun y l => by simp [tot]
    unfold addM
    split
    · rw [hc, hc, ih]; omega
    · split
      · rw [hc, hc, totS_add]; omega
      · rw [hc, hc]; show 1 + _ = _; omega
theorem tot_all (f : Int) : ∀ (l : List (ByteArray × Nat)) (m : TabM), tot (addAll f l m) = tot m + l.length
  | [], m => rfl
  | x :: l, m => by
    have := tot_all f l (addM x.1 f x.2 m)
    rw [tot_add] at this
    show tot (addAll f l (addM x.1 f x.2 m)) = _
    rw [this, List.length_cons]; omega
def lens (d : Exp.DocM) : Nat → Nat
  | 0 => 0
  | i + 1 => lens d i + (trms (d.get i)).length
theorem tot_docAdds (d : Exp.DocM) : ∀ i, tot (docAdds d i) = lens d i
  | 0 => rfl
  | i + 1 => by
    show tot (addAll _ _ _) = _
    rw [tot_all, tot_docAdds d i]; rfl
theorem tot_doc (d : Exp.DocM) : tot (docM d) = lens d 4 := tot_docAdds d 4
end Trm
end Go.Proofs.YtfohollhdaedlaaGreatDoor
