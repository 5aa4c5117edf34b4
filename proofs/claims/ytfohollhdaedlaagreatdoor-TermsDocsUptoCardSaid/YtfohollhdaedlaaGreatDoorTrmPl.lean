import Derived.Test.YtfohollhdaedlaaGreatDoorTrmB
import Derived.Test.YtfohollhdaedlaaGreatDoorTrm22
/- Terms: lists by rising texts, plain: what stands by a text; lists of terms that are merged; the reference's terms of documents. -/
set_option linter.unusedVariables false
set_option linter.unusedSimpArgs false
namespace Go.Proofs.YtfohollhdaedlaaGreatDoor
open Go.RowKit
namespace Trm
section
variable {V : Type}
/-- What stands by a text. -/
def look : List (ByteArray × List V) → ByteArray → List V
  | [], _ => []
  | e :: m, t => if e.1 = t then e.2 else look m t
/-- By rising texts, none empty. -/
def Can (m : List (ByteArray × List V)) : Prop := m.Pairwise (fun a b => slt a.1 b.1 = true) ∧ ∀ e ∈ m, e.2 ≠ []
theorem look_no : ∀ {m : List (ByteArray × List V)} {t : ByteArray}, (∀ e ∈ m, e.1 ≠ t) → look m t = []
  | [], _, _ => rfl
  | e :: m, t, h => by
    unfold look
    rw [if_neg (h e (List.mem_cons_self ..))]
    exact look_no fun e he => h e (List.mem_cons_of_mem _ he)
theorem slt_ne {a b : ByteArray} (h : slt a b = true) : a ≠ b := fun hh => by rw [hh, slt_irrefl] at h; cases h
theorem look_mem : ∀ {m : List (ByteArray × List V)} {e : ByteArray × List V}, m.Pairwise (fun a b => slt a.1 b.1 = true) → e ∈ m → look m e.1 = e.2
  | [], e, _, he => by cases he
  | x :: m, e, h, he => by
    rw [List.pairwise_cons] at h
    unfold look
    rcases List.mem_cons.1 he with rfl | he
    · rw [if_pos rfl]
    · rw [if_neg (slt_ne (h.1 e he))]
      exact look_mem h.2 he
theorem Can.nil : Can ([] : List (ByteArray × List V)) := ⟨.nil, fun e he => absurd he List.not_mem_nil⟩
theorem Can.tail {e : ByteArray × List V} {m : List (ByteArray × List V)} (h : Can (e :: m)) : Can m := ⟨(List.pairwise_cons.1 h.1).2, fun x hx => h.2 x (List.mem_cons_of_mem _ hx)⟩
theorem Can.head_look {e : ByteArray × List V} {m : List (ByteArray × List V)} (h : Can (e :: m)) : look m e.1 = [] :=
  look_no fun x hx hh => slt_ne ((List.pairwise_cons.1 h.1).1 x hx) hh.symm
theorem look_key {m : List (ByteArray × List V)} {t : ByteArray} (h : look m t ≠ []) : ∃ x ∈ m, x.1 = t := by
  refine Classical.byContradiction fun hc => h (look_no fun e he hh => hc ⟨e, he, hh⟩)
theorem can_head {e f : ByteArray × List V} {m n : List (ByteArray × List V)} (hm : Can (e :: m)) (hn : Can (f :: n)) (h : ∀ t, look (e :: m) t = look (f :: n) t) (hk : e.1 ≠ f.1) : slt f.1 e.1 = true := by
  have he := h e.1
  rw [look_mem hm.1 (List.mem_cons_self ..)] at he
  obtain ⟨x, hx, hxe⟩ := look_key (m := f :: n) (t := e.1) (by rw [← he]; exact hm.2 e (List.mem_cons_self ..))
  rcases List.mem_cons.1 hx with rfl | hx
  · exact absurd hxe.symm hk
  · rw [← hxe]; exact (List.pairwise_cons.1 hn.1).1 x hx
theorem can_ext : ∀ {m n : List (ByteArray × List V)}, Can m → Can n → (∀ t, look m t = look n t) → m = n
  | [], [], _, _, _ => rfl
  | [], f :: n, _, hn, h => by
    have := h f.1
    rw [look_mem hn.1 (List.mem_cons_self ..)] at this
    exact absurd this.symm (hn.2 f (List.mem_cons_self ..))
  | e :: m, [], hm, _, h => by
    have := h e.1
    rw [look_mem hm.1 (List.mem_cons_self ..)] at this
    exact absurd this (hm.2 e (List.mem_cons_self ..))
  | e :: m, f :: n, hm, hn, h => by
    have key : e.1 = f.1 := by
      by_cases hk : e.1 = f.1
      · exact hk
      · have h1 := can_head hm hn h hk
        rw [slt_asymm (can_head hn hm (fun t => (h t).symm) (Ne.symm hk))] at h1; cases h1
    have he := h e.1
    rw [look_mem hm.1 (List.mem_cons_self ..), key, look_mem hn.1 (List.mem_cons_self ..)] at he
    obtain rfl : e = f := Prod.ext key he
    rw [can_ext hm.tail hn.tail fun t => ?_]
    by_cases ht : e.1 = t
    · subst ht; rw [hm.head_look, hn.head_look]
    · have := h t
      unfold look at this
      rw [if_neg ht, if_neg ht] at this; exact this
theorem look_snoc : ∀ {m : List (ByteArray × List V)} {x : ByteArray × List V} {t : ByteArray}, (∀ e ∈ m, e.1 ≠ x.1) → look (m ++ [x]) t = if x.1 = t then x.2 else look m t
  | [], x, t, _ => rfl
  | e :: m, x, t, h => by
    show (if e.1 = t then e.2 else look (m ++ [x]) t) = if x.1 = t then x.2 else if e.1 = t then e.2 else look m t
    rw [look_snoc fun e he => h e (List.mem_cons_of_mem _ he)]
    by_cases h1 : e.1 = t
    · rw [if_pos h1, if_neg (fun h2 => h e (List.mem_cons_self ..) (h1.trans h2.symm)), if_pos h1]
    · rw [if_neg h1, if_neg h1]
/-- Go's order, not below. -/
def sle (a b : ByteArray) : Prop := slt b a = false
theorem sle_trans {a b c : ByteArray} (h : sle a b) (k : sle b c) : sle a c := by
  unfold sle at *
  rw [Bool.eq_false_iff]
  intro hca
  by_cases he : a = b
  · subst he; rw [k] at hca; cases hca
  · have := slt_trans hca (slt_total h (fun hh => he hh.symm))
    rw [k] at this; cases this
theorem sle_refl (a : ByteArray) : sle a a := slt_irrefl a
theorem sle_of_lt {a b : ByteArray} (h : slt a b = true) : sle a b := slt_asymm h
theorem slt_of_lt_le {a b c : ByteArray} (h : slt a b = true) (k : sle b c) : slt a c = true := by
  by_cases he : b = c
  · rw [← he]; exact h
  · exact slt_trans h (slt_total k (fun hh => he hh.symm))
/-- One more of a list by rising texts: what stands by the same text follows. -/
def comb1 (out : List (ByteArray × List V)) (x : ByteArray × List V) : List (ByteArray × List V) := match out.getLast? with
  | some y => if y.1 = x.1 then out.dropLast ++ [(y.1, y.2 ++ x.2)] else out ++ [x]
  | none => [x]
def comb (l : List (ByteArray × List V)) : List (ByteArray × List V) := l.foldl comb1 []
theorem comb1_nil (x : ByteArray × List V) : comb1 [] x = [x] := rfl
theorem comb1_snoc (r : List (ByteArray × List V)) (y x : ByteArray × List V) : comb1 (r ++ [y]) x = if y.1 = x.1 then r ++ [(y.1, y.2 ++ x.2)] else r ++ [y] ++ [x] := by
  unfold comb1
  rw [List.getLast?_append]
  simp
/-- What is known of the terms that were put together. -/
structure CombI (p out : List (ByteArray × List V)) : Prop where
  can : Can out
  look : ∀ t, look out t = (p.filter fun e => decide (e.1 = t)).flatMap (·.2)
  key : ∀ e ∈ out, ∃ e' ∈ p, e'.1 = e.1
theorem CombI.step {p out : List (ByteArray × List V)} {x : ByteArray × List V} (h : CombI p out) (hx : ∀ e ∈ p, sle e.1 x.1) (hn : x.2 ≠ []) : CombI (p ++ [x]) (comb1 out x) := by
  have hf : ∀ t, ((p ++ [x]).filter fun e => decide (e.1 = t)).flatMap (·.2) = Trm.look out t ++ if x.1 = t then x.2 else [] := fun t => by
    rw [List.filter_append, List.flatMap_append, ← h.look]
    by_cases ht : x.1 = t <;> simp [ht]
  rcases List.eq_nil_or_concat out with rfl | ⟨r, y, rfl⟩
  · rw [comb1_nil]
    refine ⟨⟨List.pairwise_singleton _ _, fun e he => by rw [List.mem_singleton.1 he]; exact hn⟩, fun t => ?_, fun e he => ⟨x, by simp, by rw [List.mem_singleton.1 he]⟩⟩
    rw [hf]; rfl
  · rw [List.concat_eq_append] at *
    rw [comb1_snoc]
    have hpw := h.can.1
    rw [List.pairwise_append] at hpw
    have hry : ∀ e ∈ r, slt e.1 y.1 = true := fun e he => hpw.2.2 e he y (List.mem_singleton.2 rfl)
    have hlook : ∀ t, Trm.look (r ++ [y]) t = if y.1 = t then y.2 else Trm.look r t := fun t => look_snoc fun e he => slt_ne (hry e he)
    by_cases hk : y.1 = x.1
    · rw [if_pos hk]
      refine ⟨⟨List.pairwise_append.2 ⟨hpw.1, List.pairwise_singleton _ _, fun e he z hz => by rw [List.mem_singleton.1 hz]; exact hry e he⟩, fun e he => ?_⟩, fun t => ?_, fun e he => ?_⟩
      · rcases List.mem_append.1 he with he | he
        · exact h.can.2 e (List.mem_append_left _ he)
        · rw [List.mem_singleton.1 he]
          intro hh
          exact hn (List.append_eq_nil_iff.1 hh).2
      · rw [hf, hlook, look_snoc (x := (y.1, y.2 ++ x.2)) (fun e he => slt_ne (hry e he))]
        show (if y.1 = t then y.2 ++ x.2 else Trm.look r t) = _
        by_cases ht : y.1 = t
        · rw [if_pos ht, if_pos ht, if_pos (hk.symm.trans ht)]
        · rw [if_neg ht, if_neg ht, if_neg (fun hh => ht (hk.trans hh)), List.append_nil]
      · rcases List.mem_append.1 he with he | he
        · obtain ⟨e', h1, h2⟩ := h.key e (List.mem_append_left _ he)
          exact ⟨e', List.mem_append_left _ h1, h2⟩
        · obtain ⟨e', h1, h2⟩ := h.key y (by simp)
          exact ⟨e', List.mem_append_left _ h1, by rw [h2, List.mem_singleton.1 he]⟩
    · rw [if_neg hk]
      have hyx : slt y.1 x.1 = true := by
        obtain ⟨e', h1, h2⟩ := h.key y (by simp)
        have h3 := hx e' h1
        rw [h2] at h3
        exact slt_total h3 (fun hh => hk hh.symm)
      have hall : ∀ e ∈ r ++ [y], slt e.1 x.1 = true := fun e he => by
        rcases List.mem_append.1 he with he | he
        · exact slt_trans (hry e he) hyx
        · rw [List.mem_singleton.1 he]; exact hyx
      refine ⟨⟨List.pairwise_append.2 ⟨h.can.1, List.pairwise_singleton _ _, fun e he z hz => by rw [List.mem_singleton.1 hz]; exact hall e he⟩, fun e he => ?_⟩, fun t => ?_, fun e he => ?_⟩
      · rcases List.mem_append.1 he with he | he
        · exact h.can.2 e he
        · rw [List.mem_singleton.1 he]; exact hn
      · rw [hf, look_snoc fun e he => slt_ne (hall e he)]
        by_cases ht : x.1 = t
        · rw [if_pos ht, if_pos ht, look_no fun e he hh => slt_ne (hall e he) (hh.trans ht.symm), List.nil_append]
        · rw [if_neg ht, if_neg ht, List.append_nil]
      · rcases List.mem_append.1 he with he | he
        · obtain ⟨e', h1, h2⟩ := h.key e he
          exact ⟨e', List.mem_append_left _ h1, h2⟩
        · exact ⟨x, by simp, by rw [List.mem_singleton.1 he]⟩
theorem combI_all : ∀ (l p out : List (ByteArray × List V)), CombI p out → (p ++ l).Pairwise (fun a b => sle a.1 b.1) → (∀ e ∈ l, e.2 ≠ []) → CombI (p ++ l) (l.foldl comb1 out)
  | [], p, out, h, _, _ => by rw [List.append_nil]; exact h
  | x :: l, p, out, h, hw, hn => by
    have h1 := h.step (x := x) (fun e he => (List.pairwise_append.1 hw).2.2 e he x (List.mem_cons_self ..)) (hn x (List.mem_cons_self ..))
    have := combI_all l (p ++ [x]) (comb1 out x) h1 (by rw [List.append_assoc]; exact hw) fun e he => hn e (List.mem_cons_of_mem _ he)
    rw [List.append_assoc] at this
    exact this
theorem comb_ok (l : List (ByteArray × List V)) (hw : l.Pairwise (fun a b => sle a.1 b.1)) (hn : ∀ e ∈ l, e.2 ≠ []) : Can (comb l) ∧ ∀ t, look (comb l) t = (l.filter fun e => decide (e.1 = t)).flatMap (·.2) := by
  have h := combI_all l [] [] ⟨.nil, fun t => rfl, fun e he => absurd he List.not_mem_nil⟩ hw hn
  exact ⟨h.can, h.look⟩
theorem comb_take {l : List (ByteArray × List V)} {i : Nat} {x : ByteArray × List V} (h : l[i]? = some x) : comb (l.take (i + 1)) = comb1 (comb (l.take i)) x := by
  unfold comb
  rw [List.take_add_one, h, List.foldl_append]; rfl
end
section
variable {β : Type}
/-- Lists by rising texts of which the first ones are taken out, the least text first, of the same the earlier list's. -/
structure MInv (lists : List (List (ByteArray × β))) (o : List (ByteArray × β)) (rests : List (List (ByteArray × β))) : Prop where
  same : ∀ t, (o.filter fun e => decide (e.1 = t)) ++ (rests.flatMap fun r => r.filter fun e => decide (e.1 = t)) = lists.flatMap fun r => r.filter fun e => decide (e.1 = t)
  out : o.Pairwise (fun a b => sle a.1 b.1)
  cross : ∀ a ∈ o, ∀ r ∈ rests, ∀ b ∈ r, sle a.1 b.1
  rest : ∀ r ∈ rests, r.Pairwise (fun a b => sle a.1 b.1)
theorem MInv.start (lists : List (List (ByteArray × β))) (h : ∀ r ∈ lists, r.Pairwise (fun a b => sle a.1 b.1)) : MInv lists [] lists :=
  ⟨fun t => rfl, .nil, fun a ha => absurd ha List.not_mem_nil, h⟩
/-- The order of heads. -/
def hlt (a b : ByteArray) (i j : Nat) : Prop := slt a b = true ∨ (slt b a = false ∧ i < j)
theorem flat_none {t : ByteArray} : ∀ (l : List (List (ByteArray × β))), (∀ r ∈ l, ∀ b ∈ r, b.1 ≠ t) → (l.flatMap fun r => r.filter fun e => decide (e.1 = t)) = []
  | [], _ => rfl
  | r :: l, h => by
    rw [List.flatMap_cons, flat_none l fun r hr => h r (List.mem_cons_of_mem _ hr), List.append_nil, List.filter_eq_nil_iff]
    intro e he
    simpa using h r (List.mem_cons_self ..) e he
theorem MInv.step {lists : List (List (ByteArray × β))} {o : List (ByteArray × β)} {rests : List (List (ByteArray × β))} (h : MInv lists o rests) {i : Nat} {x : ByteArray × β} {r : List (ByteArray × β)}
    (hi : rests[i]? = some (x :: r)) (hmin : ∀ (j : Nat) (y : ByteArray × β) (r' : List (ByteArray × β)), rests[j]? = some (y :: r') → j ≠ i → hlt x.1 y.1 i j) : MInv lists (o ++ [x]) (rests.set i r) := by
  have hlt := (List.getElem?_eq_some_iff.1 hi).1
  have hget := (List.getElem?_eq_some_iff.1 hi).2
  have hsplit : rests = rests.take i ++ (x :: r) :: rests.drop (i + 1) := by
    rw [← hget, ← List.drop_eq_getElem_cons hlt, List.take_append_drop]
  have hset : rests.set i r = rests.take i ++ r :: rests.drop (i + 1) := List.set_eq_take_append_cons_drop .. |>.trans (if_pos hlt)
  have hxr := h.rest _ (List.mem_of_getElem? hi)
  rw [List.pairwise_cons] at hxr
  -- x stands at or below all that is left
  have hle : ∀ r' ∈ rests, ∀ b ∈ r', sle x.1 b.1 := fun r' hr' b hb => by
    obtain ⟨j, hj⟩ := List.mem_iff_getElem?.1 hr'
    rcases r' with _ | ⟨y, r'⟩
    · cases hb
    · have hyb : sle y.1 b.1 := by
        rcases List.mem_cons.1 hb with rfl | hb
        · exact sle_refl _
        · exact (List.pairwise_cons.1 (h.rest _ hr')).1 b hb
      by_cases hji : j = i
      · subst hji
        rw [hi] at hj
        injection hj with hj
        injection hj with h1 h2
        rw [h1]; exact hyb
      · rcases hmin j y r' hj hji with h1 | ⟨h1, _⟩
        · exact sle_trans (sle_of_lt h1) hyb
        · exact sle_trans h1 hyb
  have hset_mem : ∀ r' ∈ rests.set i r, ∀ b ∈ r', ∃ r'' ∈ rests, b ∈ r'' := fun r' hr' b hb => by
    rcases List.mem_or_eq_of_mem_set hr' with h1 | h1
    · exact ⟨r', h1, hb⟩
    · subst h1; exact ⟨_, List.mem_of_getElem? hi, List.mem_cons_of_mem _ hb⟩
  refine ⟨fun t => ?_, ?_, ?_, ?_⟩
  · rw [← h.same t, hset, List.filter_append, List.append_assoc]
    congr 1
    conv => rhs; rw [hsplit]
    rw [List.flatMap_append, List.flatMap_append, List.flatMap_cons, List.flatMap_cons]
    by_cases ht : x.1 = t
    · have hn : ((rests.take i).flatMap fun r => r.filter fun e => decide (e.1 = t)) = [] := flat_none _ fun r' hr' b hb => by
        obtain ⟨j, hj⟩ := List.mem_iff_getElem?.1 hr'
        have hji : j < i := by
          have := (List.getElem?_eq_some_iff.1 hj).1
          rw [List.length_take] at this; omega
        rw [List.getElem?_take, if_pos hji] at hj
        rcases r' with _ | ⟨y, r'⟩
        · cases hb
        · have hxy : slt x.1 y.1 = true := by
            rcases hmin j y r' hj (by omega) with h1 | ⟨_, h1⟩
            · exact h1
            · omega
          have hyb : sle y.1 b.1 := by
            rcases List.mem_cons.1 hb with rfl | hb
            · exact sle_refl _
            · exact (List.pairwise_cons.1 (h.rest _ (List.mem_of_getElem? hj))).1 b hb
          rw [← ht]
          exact (slt_ne (slt_of_lt_le hxy hyb)).symm
      rw [hn]
      simp [ht]
    · have h1 : ([x].filter fun e => decide (e.1 = t)) = [] := by simp [ht]
      have h2 : ((x :: r).filter fun e => decide (e.1 = t)) = r.filter fun e => decide (e.1 = t) := by simp [ht]
      rw [h1, h2, List.nil_append]
  · exact List.pairwise_append.2 ⟨h.out, List.pairwise_singleton _ _, fun a ha b hb => by
      rw [List.mem_singleton.1 hb]
      exact h.cross a ha _ (List.mem_of_getElem? hi) x (List.mem_cons_self ..)⟩
  · intro a ha r' hr' b hb
    obtain ⟨r'', h1, h2⟩ := hset_mem r' hr' b hb
    rcases List.mem_append.1 ha with ha | ha
    · exact h.cross a ha r'' h1 b h2
    · rw [List.mem_singleton.1 ha]
      exact hle r'' h1 b h2
  · intro r' hr'
    rcases List.mem_or_eq_of_mem_set hr' with h1 | h1
    · exact h.rest r' h1
    · subst h1; exact hxr.2
theorem MInv.done {lists : List (List (ByteArray × β))} {o : List (ByteArray × β)} {rests : List (List (ByteArray × β))} (h : MInv lists o rests) (he : ∀ r ∈ rests, r = []) :
    o.Pairwise (fun a b => sle a.1 b.1) ∧ ∀ t, (o.filter fun e => decide (e.1 = t)) = lists.flatMap fun r => r.filter fun e => decide (e.1 = t) := by
  refine ⟨h.out, fun t => ?_⟩
  rw [← h.same t, flat_none rests (fun r hr b hb => by rw [he r hr] at hb; cases hb), List.append_nil]
end
/-- What stands by a text in a list by rising texts. -/
theorem filter_look {V : Type} : ∀ {m : List (ByteArray × List V)} {t : ByteArray}, m.Pairwise (fun a b => slt a.1 b.1 = true) → (m.filter fun e => decide (e.1 = t)).flatMap (·.2) = look m t
  | [], t, _ => rfl
  | e :: m, t, h => by
    rw [List.pairwise_cons] at h
    unfold look
    by_cases ht : e.1 = t
    · rw [if_pos ht, List.filter_cons_of_pos (by simpa using ht), List.flatMap_cons]
      have : (m.filter fun e => decide (e.1 = t)) = [] := by
        rw [List.filter_eq_nil_iff]
        intro x hx
        have := slt_ne (h.1 x hx)
        rw [ht] at this
        simpa using fun hh => this hh.symm
      rw [this]; simp
    · rw [if_neg ht, List.filter_cons_of_neg (by simpa using ht)]
      exact filter_look h.2
/-- Lists of terms as one. -/
theorem merged {V : Type} {lists : List (List (ByteArray × List V))} {o : List (ByteArray × List V)} (hl : ∀ r ∈ lists, Can r) (h1 : o.Pairwise (fun a b => sle a.1 b.1))
    (h2 : ∀ t, (o.filter fun e => decide (e.1 = t)) = lists.flatMap fun r => r.filter fun e => decide (e.1 = t)) : Can (comb o) ∧ ∀ t, look (comb o) t = lists.flatMap fun r => look r t := by
  have hn : ∀ e ∈ o, e.2 ≠ [] := fun e he => by
    have h3 : e ∈ o.filter fun x => decide (x.1 = e.1) := List.mem_filter.2 ⟨he, by simp⟩
    rw [h2] at h3
    obtain ⟨r, hr, he2⟩ := List.mem_flatMap.1 h3
    exact (hl r hr).2 e (List.mem_filter.1 he2).1
  obtain ⟨h3, h4⟩ := comb_ok o h1 hn
  refine ⟨h3, fun t => ?_⟩
  rw [h4, h2]
  clear h2 h3 h4 h1 hn
  induction lists with
  | nil => rfl
  | cons r l ih =>
    rw [List.flatMap_cons, List.flatMap_append, ih fun r hr => hl r (List.mem_cons_of_mem _ hr), List.flatMap_cons, filter_look (hl r (List.mem_cons_self ..)).1]
end Trm
end Go.Proofs.YtfohollhdaedlaaGreatDoor
/- Terms: the reference's terms of documents, plain; they are what the program makes of them. -/
set_option linter.unusedVariables false
set_option linter.unusedSimpArgs false
namespace Go.Proofs.YtfohollhdaedlaaGreatDoor
open Go.RowKit
namespace Trm
/-- The places of a term in a text. -/
def plc (t : ByteArray) (l : List (ByteArray × Nat)) : List Int := (l.filter fun x => decide (x.1 = t)).map fun x => (x.2 : Int)
def addSp (ss : List SpotM) (f : Int) (ps : List Int) : List SpotM := if ps = [] then ss else ss ++ [(f, ps)]
/-- Where a term stands in a document: the reference's Spots. -/
def spotsN (d : Exp.DocM) (t : ByteArray) : Nat → List SpotM
  | 0 => []
  | i + 1 => addSp (spotsN d t i) ((i : Int) + 1) (plc t (trms (d.get i)))
def spotsD (d : Exp.DocM) (t : ByteArray) : List SpotM := spotsN d t 4
theorem look_addM {t : ByteArray} {f a : Int} {t' : ByteArray} : ∀ {m : TabM}, m.Pairwise (fun a b => slt a.1 b.1 = true) → look (addM t f a m) t' = if t = t' then addS (look m t) f a else look m t'
  | [], _ => rfl
  | x :: m, h => by
    rw [List.pairwise_cons] at h
    have ih := look_addM (t := t) (f := f) (a := a) (t' := t') h.2
    unfold addM
    split
    · rename_i hx
      have hne := slt_ne hx
      show (if x.1 = t' then x.2 else look (addM t f a m) t') = if t = t' then addS (if x.1 = t then x.2 else look m t) f a else if x.1 = t' then x.2 else look m t'
      rw [ih, if_neg hne]
      by_cases h1 : t = t'
      · subst h1
        rw [if_neg hne, if_pos rfl, if_pos rfl]
      · rw [if_neg h1, if_neg h1]
    · rename_i hx
      split
      · rename_i he
        show (if t = t' then addS x.2 f a else look m t') = if t = t' then addS (if x.1 = t then x.2 else look m t) f a else if x.1 = t' then x.2 else look m t'
        rw [if_pos he]
        by_cases h1 : t = t'
        · rw [if_pos h1, if_pos h1]
        · rw [if_neg h1, if_neg h1, if_neg (fun hh => h1 (he.symm.trans hh))]
      · rename_i he
        have hlt : slt t x.1 = true := slt_total (by simpa using hx) he
        have hno : look (x :: m) t = [] := look_no fun e hm hh => by
          rcases List.mem_cons.1 hm with rfl | hm
          · exact he hh
          · exact slt_ne (slt_trans hlt (h.1 e hm)) hh.symm
        show (if t = t' then [(f, [a])] else look (x :: m) t') = if t = t' then addS (look (x :: m) t) f a else look (x :: m) t'
        rw [hno]; rfl
theorem plc_cons (t : ByteArray) (x : ByteArray × Nat) (l : List (ByteArray × Nat)) : plc t (x :: l) = if x.1 = t then (x.2 : Int) :: plc t l else plc t l := by
  unfold plc
  by_cases h : x.1 = t <;> simp [h]
theorem addAll_pair {f : Int} : ∀ (l : List (ByteArray × Nat)) {m : TabM}, m.Pairwise (fun a b => slt a.1 b.1 = true) → (addAll f l m).Pairwise (fun a b => slt a.1 b.1 = true)
  | [], m, h => h
  | x :: l, m, h => addAll_pair l (addM_pair h)
where addM_pair {f : Int} {x : ByteArray × Nat} : ∀ {m : TabM}, m.Pairwise (fun a b => slt a.1 b.1 = true) → (addM x.1 f x.2 m).Pairwise (fun a b => slt a.1 b.1 = true)
  | [], h => List.pairwise_singleton _ _
  | y :: m, h => by
    have h0 := h
    rw [List.pairwise_cons] at h
    unfold addM
    split
    · rename_i hs
      refine List.pairwise_cons.2 ⟨fun e he => ?_, addM_pair h.2⟩
      rcases addM_mem he with he | ⟨e', h1, h2⟩
      · rw [he]; exact hs
      · rw [← h2]; exact h.1 e' h1
    · rename_i hs
      split
      · rename_i he0
        exact List.pairwise_cons.2 ⟨fun e he => by rw [← he0]; exact h.1 e he, h.2⟩
      · rename_i hne
        have hlt : slt x.1 y.1 = true := slt_total (by simpa using hs) hne
        refine List.pairwise_cons.2 ⟨fun e he => ?_, h0⟩
        rcases List.mem_cons.1 he with rfl | he
        · exact hlt
        · exact slt_trans hlt (h.1 e he)
theorem look_addAll_in {f : Int} {t : ByteArray} {base : List SpotM} : ∀ (l : List (ByteArray × Nat)) {m : TabM} {ps : List Int}, m.Pairwise (fun a b => slt a.1 b.1 = true) → look m t = base ++ [(f, ps)] → look (addAll f l m) t = base ++ [(f, ps ++ plc t l)]
  | [], m, ps, _, h => by
    show look m t = _
    rw [h]; simp [plc]
  | x :: l, m, ps, hw, h => by
    show look (addAll f l (addM x.1 f x.2 m)) t = _
    have h1 := look_addM (t := x.1) (f := f) (a := (x.2 : Int)) (t' := t) hw
    rw [plc_cons]
    by_cases hx : x.1 = t
    · rw [if_pos hx, hx, h, addS_last, if_pos rfl] at h1
      rw [if_pos hx, look_addAll_in (base := base) l (addAll_pair.addM_pair hw) (by rw [hx]; exact h1)]
      simp
    · rw [if_neg hx, h] at h1
      rw [if_neg hx, look_addAll_in l (addAll_pair.addM_pair hw) h1]
theorem look_addAll {f : Int} {t : ByteArray} : ∀ (l : List (ByteArray × Nat)) {m : TabM}, m.Pairwise (fun a b => slt a.1 b.1 = true) → (∀ s ∈ look m t, s.1 ≠ f) → look (addAll f l m) t = addSp (look m t) f (plc t l)
  | [], m, _, _ => rfl
  | x :: l, m, hw, h => by
    show look (addAll f l (addM x.1 f x.2 m)) t = _
    have h1 := look_addM (t := x.1) (f := f) (a := (x.2 : Int)) (t' := t) hw
    rw [plc_cons]
    by_cases hx : x.1 = t
    · rw [if_pos hx, hx] at h1
      rw [if_pos hx]
      have h2 : addS (look m t) f x.2 = look m t ++ [(f, [(x.2 : Int)])] := by
        rcases List.eq_nil_or_concat (look m t) with he | ⟨r, s, he⟩
        · rw [he]; rfl
        · rw [List.concat_eq_append] at he
          rw [he, addS_last, if_neg (h s (by rw [he]; simp))]
      rw [h2] at h1
      rw [look_addAll_in (base := look m t) l (addAll_pair.addM_pair hw) (by rw [hx]; exact h1)]
      unfold addSp
      rw [if_neg (List.cons_ne_nil _ _)]; rfl
    · rw [if_neg hx] at h1
      rw [if_neg hx, look_addAll l (addAll_pair.addM_pair hw) (by rw [h1]; exact h), h1]
theorem spotsN_field (d : Exp.DocM) (t : ByteArray) : ∀ (i : Nat), ∀ s ∈ spotsN d t i, s.1 ≤ (i : Int)
  | 0, s, h => absurd h List.not_mem_nil
  | i + 1, s, h => by
    unfold spotsN addSp at h
    split at h
    · have := spotsN_field d t i s h; omega
    · rcases List.mem_append.1 h with h | h
      · have := spotsN_field d t i s h; omega
      · rw [List.mem_singleton.1 h]; simp
theorem docAdds_pair (d : Exp.DocM) : ∀ i, (docAdds d i).Pairwise (fun a b => slt a.1 b.1 = true)
  | 0 => .nil
  | i + 1 => addAll_pair _ (docAdds_pair d i)
theorem look_docAdds (d : Exp.DocM) (t : ByteArray) : ∀ i, look (docAdds d i) t = spotsN d t i
  | 0 => rfl
  | i + 1 => by
    show look (addAll ((i : Int) + 1) (trms (d.get i)) (docAdds d i)) t = _
    rw [look_addAll _ (docAdds_pair d i) (by
      rw [look_docAdds d t i]
      intro s hs
      have := spotsN_field d t i s hs
      omega), look_docAdds d t i]; rfl
theorem addS_ne (ss : List SpotM) (f a : Int) : addS ss f a ≠ [] := by
  unfold addS
  split
  · split <;> simp
  · simp
theorem addM_ne {t : ByteArray} {f a : Int} : ∀ {m : TabM}, (∀ e ∈ m, e.2 ≠ []) → ∀ e ∈ addM t f a m, e.2 ≠ []
  | [], _, e, he => by
    rw [List.mem_singleton.1 he]
    exact List.cons_ne_nil _ _
  | x :: m, h, e, he => by
    unfold addM at he
    split at he
    · rcases List.mem_cons.1 he with rfl | he
      · exact h _ (List.mem_cons_self ..)
      · exact addM_ne (fun e he => h e (List.mem_cons_of_mem _ he)) e he
    · split at he
      · rcases List.mem_cons.1 he with rfl | he
        · exact addS_ne _ _ _
        · exact h e (List.mem_cons_of_mem _ he)
      · rcases List.mem_cons.1 he with rfl | he
        · exact List.cons_ne_nil _ _
        · exact h e he
theorem addAll_ne {f : Int} : ∀ (l : List (ByteArray × Nat)) {m : TabM}, (∀ e ∈ m, e.2 ≠ []) → ∀ e ∈ addAll f l m, e.2 ≠ []
  | [], m, h => h
  | x :: l, m, h => addAll_ne l (addM_ne h)
theorem docAdds_ne (d : Exp.DocM) : ∀ i, ∀ e ∈ docAdds d i, e.2 ≠ []
  | 0 => fun e he => absurd he List.not_mem_nil
  | i + 1 => addAll_ne _ (docAdds_ne d i)
theorem docM_can (d : Exp.DocM) : Can (docM d) := ⟨docAdds_pair d 4, docAdds_ne d 4⟩
theorem look_docM (d : Exp.DocM) (t : ByteArray) : look (docM d) t = spotsD d t := look_docAdds d t 4
/-- A document's postings of a term. -/
def post1 (d : Exp.DocM) (num : Int) (t : ByteArray) : List PostM := if spotsD d t = [] then [] else [(num, spotsD d t)]
theorem look_docT_go {num : Int} {t : ByteArray} : ∀ {m : TabM}, (∀ e ∈ m, e.2 ≠ []) → look (m.map fun e => (e.1, [(num, e.2)])) t = if look m t = [] then [] else [(num, look m t)]
  | [], _ => rfl
  | x :: m, h => by
    show (if x.1 = t then [(num, x.2)] else look (m.map fun e => (e.1, [(num, e.2)])) t) = if (if x.1 = t then x.2 else look m t) = [] then [] else [(num, if x.1 = t then x.2 else look m t)]
    by_cases hx : x.1 = t
    · rw [if_pos hx, if_pos hx, if_neg (h x (List.mem_cons_self ..))]
    · rw [if_neg hx, if_neg hx]
      exact look_docT_go fun e he => h e (List.mem_cons_of_mem _ he)
theorem docT_can (d : Exp.DocM) (num : Int) : Can (docT d num) := by
  refine ⟨?_, fun e he => ?_⟩
  · unfold docT
    rw [List.pairwise_map]
    exact (docM_can d).1
  · obtain ⟨x, hx, rfl⟩ := List.mem_map.1 he
    exact List.cons_ne_nil _ _
theorem look_docT (d : Exp.DocM) (num : Int) (t : ByteArray) : look (docT d num) t = post1 d num t := by
  unfold docT post1
  rw [look_docT_go (docM_can d).2, look_docM]
/-- Postings of documents with numbers from one on. -/
def posts : List Exp.DocM → Int → ByteArray → List PostM
  | [], _, _ => []
  | d :: l, num, t => post1 d num t ++ posts l (num + 1) t
theorem posts_append : ∀ (a b : List Exp.DocM) (num : Int) (t : ByteArray), posts (a ++ b) num t = posts a num t ++ posts b (num + a.length) t
  | [], b, num, t => by simp [posts]
  | d :: a, b, num, t => by
    show post1 d num t ++ posts (a ++ b) (num + 1) t = post1 d num t ++ posts a (num + 1) t ++ posts b _ t
    rw [posts_append a b, List.append_assoc]
    simp only [List.length_cons]
    congr 3
    push_cast; omega
/-- The reference's Names: a name is put at its place, once. -/
def insAt (t : ByteArray) (l : List ByteArray) : Nat := (l.zipIdx.foldl (fun a x => if slt x.1 t = true then x.2 + 1 else a) 0)
def has (l : List ByteArray) (t : ByteArray) : Bool := l.any fun x => decide (x = t)
theorem has_iff {l : List ByteArray} {t : ByteArray} : has l t = true ↔ t ∈ l := by
  unfold has
  rw [List.any_eq_true]
  constructor
  · rintro ⟨x, hx, he⟩
    rw [← of_decide_eq_true he]; exact hx
  · intro h
    exact ⟨t, h, by simp⟩
def insN (l : List ByteArray) (t : ByteArray) : List ByteArray := if has l t = true then l else l.take (insAt t l) ++ [t] ++ l.drop (insAt t l)
def insAll (l : List ByteArray) (ts : List (ByteArray × Nat)) : List ByteArray := ts.foldl (fun l x => insN l x.1) l
def namesD (l : List ByteArray) (d : Exp.DocM) : Nat → List ByteArray
  | 0 => l
  | i + 1 => insAll (namesD l d i) (trms (d.get i))
def names (ds : List Exp.DocM) : List ByteArray := ds.foldl (fun l d => namesD l d 4) []
def allT (ds : List Exp.DocM) (num : Int) : List TermM := (names ds).map fun t => (t, posts ds num t)
/-- In a list that rises the place is behind all that are below. -/
theorem insAt_snoc (t : ByteArray) (l : List ByteArray) (x : ByteArray) : insAt t (l ++ [x]) = if slt x t = true then l.length + 1 else insAt t l := by
  unfold insAt
  rw [List.zipIdx_append, List.foldl_append]
  simp
theorem insAt_le (t : ByteArray) : ∀ (l : List ByteArray), insAt t l ≤ l.length := fun l => by
  rcases List.eq_nil_or_concat l with rfl | ⟨r, x, rfl⟩
  · exact Nat.le_refl _
  · rw [List.concat_eq_append, insAt_snoc]
    split
    · simp
    · have := insAt_le t r
      simp; omega
termination_by l => l.length
decreasing_by simp_all
abbrev Ris (l : List ByteArray) : Prop := l.Pairwise fun a b => slt a b = true
theorem insAt_place (t : ByteArray) : ∀ (l : List ByteArray), Ris l → (∀ x ∈ l.take (insAt t l), slt x t = true) ∧ (∀ x ∈ l.drop (insAt t l), slt x t = false) := fun l h => by
  rcases List.eq_nil_or_concat l with rfl | ⟨r, y, rfl⟩
  · exact ⟨fun x hx => absurd hx List.not_mem_nil, fun x hx => absurd hx List.not_mem_nil⟩
  · rw [List.concat_eq_append] at *
    have hpw := List.pairwise_append.1 h
    rw [insAt_snoc]
    split
    · rename_i hy
      have hl : r.length + 1 = (r ++ [y]).length := by simp
      rw [hl, List.take_length, List.drop_length]
      refine ⟨fun x hx => ?_, fun x hx => absurd hx List.not_mem_nil⟩
      rcases List.mem_append.1 hx with hx | hx
      · exact slt_trans (hpw.2.2 x hx y (List.mem_singleton.2 rfl)) hy
      · rw [List.mem_singleton.1 hx]; exact hy
    · rename_i hy
      have ih := insAt_place t r hpw.1
      have hle := insAt_le t r
      rw [List.take_append_of_le_length hle, List.drop_append_of_le_length hle]
      refine ⟨ih.1, fun x hx => ?_⟩
      rcases List.mem_append.1 hx with hx | hx
      · exact ih.2 x hx
      · rw [List.mem_singleton.1 hx]; simpa using hy
termination_by l => l.length
decreasing_by simp_all
theorem insN_ok (t : ByteArray) (l : List ByteArray) (h : Ris l) : Ris (insN l t) ∧ ∀ x, x ∈ insN l t ↔ x ∈ l ∨ x = t := by
  unfold insN
  split
  · rename_i hm
    rw [has_iff] at hm
    exact ⟨h, fun x => ⟨.inl, fun hx => by rcases hx with hx | rfl; exact hx; exact hm⟩⟩
  · rename_i hm
    rw [has_iff] at hm
    obtain ⟨h1, h2⟩ := insAt_place t l h
    have hpw : Ris (l.take (insAt t l) ++ l.drop (insAt t l)) := by rw [List.take_append_drop]; exact h
    have hpa := List.pairwise_append.1 hpw
    have h2' : ∀ x ∈ l.drop (insAt t l), slt t x = true := fun x hx => slt_total (h2 x hx) (fun hh => hm (by rw [← hh]; exact List.mem_of_mem_drop hx))
    refine ⟨?_, fun x => ?_⟩
    · refine List.pairwise_append.2 ⟨List.pairwise_append.2 ⟨hpa.1, List.pairwise_singleton _ _, fun x hx y hy => by rw [List.mem_singleton.1 hy]; exact h1 x hx⟩, hpa.2.1, fun x hx y hy => ?_⟩
      rcases List.mem_append.1 hx with hx | hx
      · exact hpa.2.2 x hx y hy
      · rw [List.mem_singleton.1 hx]; exact h2' y hy
    · have hl : x ∈ l ↔ x ∈ l.take (insAt t l) ∨ x ∈ l.drop (insAt t l) := by
        conv => lhs; rw [← List.take_append_drop (insAt t l) l]
        exact List.mem_append
      rw [hl, List.mem_append, List.mem_append, List.mem_singleton]
      constructor
      · rintro ((h | h) | h)
        · exact .inl (.inl h)
        · exact .inr h
        · exact .inl (.inr h)
      · rintro ((h | h) | h)
        · exact .inl (.inl h)
        · exact .inr h
        · exact .inl (.inr h)
theorem insAll_ok : ∀ (ts : List (ByteArray × Nat)) (l : List ByteArray), Ris l → Ris (insAll l ts) ∧ ∀ x, x ∈ insAll l ts ↔ x ∈ l ∨ plc x ts ≠ []
  | [], l, h => ⟨h, fun x => by simp [insAll, plc]⟩
  | y :: ts, l, h => by
    obtain ⟨h1, h2⟩ := insN_ok y.1 l h
    obtain ⟨h3, h4⟩ := insAll_ok ts (insN l y.1) h1
    refine ⟨h3, fun x => ?_⟩
    show x ∈ insAll (insN l y.1) ts ↔ _
    rw [h4, h2, plc_cons]
    by_cases hy : y.1 = x
    · rw [if_pos hy]
      exact ⟨fun _ => .inr (List.cons_ne_nil _ _), fun _ => .inl (.inr hy.symm)⟩
    · rw [if_neg hy]
      constructor
      · rintro ((h | h) | h)
        · exact .inl h
        · exact absurd h.symm hy
        · exact .inr h
      · rintro (h | h)
        · exact .inl (.inl h)
        · exact .inr h
theorem addSp_nil {ss : List SpotM} {f : Int} {ps : List Int} : addSp ss f ps ≠ [] ↔ ss ≠ [] ∨ ps ≠ [] := by
  unfold addSp
  split
  · rename_i h; rw [h]; simp
  · rename_i h; simp [h]
theorem namesD_ok (d : Exp.DocM) (l : List ByteArray) (h : Ris l) : ∀ i, Ris (namesD l d i) ∧ ∀ x, x ∈ namesD l d i ↔ x ∈ l ∨ spotsN d x i ≠ []
  | 0 => ⟨h, fun x => by simp [namesD, spotsN]⟩
  | i + 1 => by
    obtain ⟨h1, h2⟩ := namesD_ok d l h i
    obtain ⟨h3, h4⟩ := insAll_ok (trms (d.get i)) (namesD l d i) h1
    refine ⟨h3, fun x => ?_⟩
    show x ∈ insAll (namesD l d i) (trms (d.get i)) ↔ _
    rw [h4, h2]
    show _ ↔ x ∈ l ∨ addSp (spotsN d x i) ((i : Int) + 1) (plc x (trms (d.get i))) ≠ []
    rw [addSp_nil, or_assoc]
theorem post1_nil {d : Exp.DocM} {num : Int} {t : ByteArray} : post1 d num t ≠ [] ↔ spotsD d t ≠ [] := by
  unfold post1
  split
  · rename_i h; simp [h]
  · rename_i h; simp [h]
theorem namesAll_ok (num : Int) : ∀ (ds : List Exp.DocM) (l : List ByteArray) (num : Int), Ris l → Ris (ds.foldl (fun l d => namesD l d 4) l) ∧ ∀ x, x ∈ ds.foldl (fun l d => namesD l d 4) l ↔ x ∈ l ∨ posts ds num x ≠ []
  | [], l, num, h => ⟨h, fun x => by simp [posts]⟩
  | d :: ds, l, num, h => by
    obtain ⟨h1, h2⟩ := namesD_ok d l h 4
    obtain ⟨h3, h4⟩ := namesAll_ok num ds (namesD l d 4) (num + 1) h1
    refine ⟨h3, fun x => ?_⟩
    show x ∈ ds.foldl (fun l d => namesD l d 4) (namesD l d 4) ↔ x ∈ l ∨ post1 d num x ++ posts ds (num + 1) x ≠ []
    rw [h4, h2]
    have h5 : post1 d num x ++ posts ds (num + 1) x ≠ [] ↔ post1 d num x ≠ [] ∨ posts ds (num + 1) x ≠ [] := by
      rw [Ne, List.append_eq_nil_iff, Classical.not_and_iff_not_or_not]
    rw [h5, post1_nil, or_assoc]; rfl
theorem names_ok (ds : List Exp.DocM) (num : Int) : Ris (names ds) ∧ ∀ x, x ∈ names ds ↔ posts ds num x ≠ [] := by
  obtain ⟨h1, h2⟩ := namesAll_ok 0 ds [] num .nil
  exact ⟨h1, fun x => (h2 x).trans (by simp)⟩
theorem look_map {V : Type} (f : ByteArray → List V) {t : ByteArray} : ∀ {l : List ByteArray}, t ∈ l → look (l.map fun t => (t, f t)) t = f t
  | [], h => absurd h List.not_mem_nil
  | x :: l, h => by
    show (if x = t then f x else look (l.map fun t => (t, f t)) t) = _
    by_cases hx : x = t
    · subst hx; rw [if_pos rfl]
    · rw [if_neg hx]
      rcases List.mem_cons.1 h with hh | hh
      · exact absurd hh.symm hx
      · exact look_map f hh
theorem allT_can (ds : List Exp.DocM) (num : Int) : Can (allT ds num) := by
  obtain ⟨h1, h2⟩ := names_ok ds num
  refine ⟨?_, fun e he => ?_⟩
  · unfold allT
    rw [List.pairwise_map]
    exact h1
  · obtain ⟨t, ht, rfl⟩ := List.mem_map.1 he
    exact (h2 t).1 ht
theorem look_allT (ds : List Exp.DocM) (num : Int) (t : ByteArray) : look (allT ds num) t = posts ds num t := by
  by_cases h : t ∈ names ds
  · exact look_map (fun t => posts ds num t) h
  · unfold allT
    rw [look_no fun e he hh => ?_]
    · rw [(names_ok ds num).2] at h
      exact (Classical.not_not.1 h).symm
    · obtain ⟨x, hx, rfl⟩ := List.mem_map.1 he
      exact h (by rw [← hh]; exact hx)
/-- One document's terms. -/
theorem docT_allT (d : Exp.DocM) (num : Int) : docT d num = allT [d] num :=
  can_ext (docT_can d num) (allT_can [d] num) fun t => by rw [look_docT, look_allT]; simp [posts]
/-- The terms of documents, list by list. -/
def docTs : List Exp.DocM → Int → List (List TermM)
  | [], _ => []
  | d :: l, num => docT d num :: docTs l (num + 1)
theorem docTs_can : ∀ (l : List Exp.DocM) (num : Int), ∀ r ∈ docTs l num, Can r
  | [], _, r, h => absurd h List.not_mem_nil
  | d :: l, num, r, h => by
    rcases List.mem_cons.1 h with rfl | h
    · exact docT_can d num
    · exact docTs_can l _ r h
theorem look_docTs (t : ByteArray) : ∀ (l : List Exp.DocM) (num : Int), ((docTs l num).flatMap fun r => look r t) = posts l num t
  | [], _ => rfl
  | d :: l, num => by
    show ((docT d num :: docTs l (num + 1)).flatMap fun r => look r t) = post1 d num t ++ posts l (num + 1) t
    rw [List.flatMap_cons, look_docT, look_docTs t l]
theorem merged_docs {ds : List Exp.DocM} {num : Int} {m : List TermM} (h : Can m ∧ ∀ t, look m t = (docTs ds num).flatMap fun r => look r t) : m = allT ds num :=
  can_ext h.1 (allT_can ds num) fun t => by rw [h.2, look_docTs, look_allT]
theorem merged_two {a b : List Exp.DocM} {num : Int} {m : List TermM} (h : Can m ∧ ∀ t, look m t = [allT a num, allT b (num + a.length)].flatMap fun r => look r t) : m = allT (a ++ b) num :=
  can_ext h.1 (allT_can _ num) fun t => by
    rw [h.2, look_allT, posts_append]
    simp [look_allT]
theorem merged_one {a : List TermM} {m : List TermM} (ha : Can a) (h : Can m ∧ ∀ t, look m t = [a].flatMap fun r => look r t) : m = a :=
  can_ext h.1 ha fun t => by rw [h.2]; simp
end Trm
end Go.Proofs.YtfohollhdaedlaaGreatDoor
/- A heap in a list, plain: things go up and down to their places. -/
set_option linter.unusedVariables false
set_option linter.unusedSimpArgs false
namespace Go.Proofs.YtfohollhdaedlaaGreatDoor
namespace Hp
section
variable {α : Type} {lt : α → α → Prop}
structure Ord (lt : α → α → Prop) : Prop where
  asymm : ∀ a b, lt a b → ¬ lt b a
  ntrans : ∀ a b c, ¬ lt b a → ¬ lt c b → ¬ lt c a
def IsH (lt : α → α → Prop) (n : Nat) (f : Nat → α) : Prop := ∀ k, 0 < k → k < n → ¬ lt (f k) (f ((k - 1) / 2))
/-- All but one thing, which may go up, stand well. -/
def UpI (lt : α → α → Prop) (n i : Nat) (f : Nat → α) : Prop := (∀ k, 0 < k → k < n → k ≠ i → ¬ lt (f k) (f ((k - 1) / 2))) ∧ (0 < i → ∀ k, 0 < k → k < n → (k - 1) / 2 = i → ¬ lt (f k) (f ((i - 1) / 2)))
/-- All but one thing, which may go down, stand well. -/
def DownI (lt : α → α → Prop) (n i : Nat) (f : Nat → α) : Prop := (∀ k, 0 < k → k < n → (k - 1) / 2 ≠ i → ¬ lt (f k) (f ((k - 1) / 2))) ∧ (0 < i → ∀ k, 0 < k → k < n → (k - 1) / 2 = i → ¬ lt (f k) (f ((i - 1) / 2)))
def swp (f : Nat → α) (i j k : Nat) : α := if k = i then f j else if k = j then f i else f k
theorem swp_i (f : Nat → α) (i j : Nat) : swp f i j i = f j := by unfold swp; rw [if_pos rfl]
theorem swp_j (f : Nat → α) (i j : Nat) : swp f i j j = f i := by
  unfold swp
  split
  · rename_i h; rw [h]
  · rw [if_pos rfl]
theorem swp_o (f : Nat → α) {i j k : Nat} (h1 : k ≠ i) (h2 : k ≠ j) : swp f i j k = f k := by unfold swp; rw [if_neg h1, if_neg h2]
theorem Ord.irrefl (o : Ord lt) (a : α) : ¬ lt a a := fun h => o.asymm a a h h
theorem UpI.step (o : Ord lt) {n i : Nat} {f : Nat → α} (h : UpI lt n i f) (hi : 0 < i) (hin : i < n) (hl : lt (f i) (f ((i - 1) / 2))) : UpI lt n ((i - 1) / 2) (swp f i ((i - 1) / 2)) := by
  obtain ⟨u, hu⟩ : ∃ u, (i - 1) / 2 = u := ⟨_, rfl⟩
  rw [hu] at hl ⊢
  have hui : u < i := by omega
  have h2 := h.2 hi
  rw [hu] at h2
  refine ⟨fun k hk hkn hku => ?_, fun hu0 k hk hkn hp => ?_⟩
  · by_cases hki : k = i
    · rw [hki, hu, swp_i, swp_j]
      exact o.asymm _ _ hl
    · rw [swp_o f hki hku]
      by_cases hp : (k - 1) / 2 = i
      · rw [hp, swp_i]
        exact h2 k hk hkn hp
      · by_cases hp2 : (k - 1) / 2 = u
        · rw [hp2, swp_j]
          have h3 := h.1 k hk hkn hki
          rw [hp2] at h3
          exact o.ntrans _ _ _ (o.asymm _ _ hl) h3
        · rw [swp_o f hp hp2]
          exact h.1 k hk hkn hki
  · rw [swp_o f (k := (u - 1) / 2) (by omega) (by omega)]
    have h4 := h.1 u hu0 (by omega) (by omega)
    by_cases hki : k = i
    · rw [hki, swp_i]
      exact h4
    · rw [swp_o f hki (by omega)]
      have h3 := h.1 k hk hkn hki
      rw [hp] at h3
      exact o.ntrans _ _ _ h4 h3
theorem UpI.top {n : Nat} {f : Nat → α} (h : UpI lt n 0 f) : IsH lt n f := fun k hk hkn => h.1 k hk hkn (by omega)
theorem UpI.stop {n i : Nat} {f : Nat → α} (h : UpI lt n i f) (hl : ¬ lt (f i) (f ((i - 1) / 2))) : IsH lt n f := fun k hk hkn => by
  by_cases hki : k = i
  · rw [hki]; exact hl
  · exact h.1 k hk hkn hki
theorem IsH.more {n : Nat} {f g : Nat → α} (h : IsH lt n f) (hg : ∀ k, k < n → g k = f k) : UpI lt (n + 1) n g :=
  ⟨fun k hk hkn hkn2 => by rw [hg k (by omega), hg ((k - 1) / 2) (by omega)]; exact h k hk (by omega), fun _ k hk hkn hp => by omega⟩
theorem DownI.step (o : Ord lt) {n i low : Nat} {f : Nat → α} (h : DownI lt n i f) (hp : (low - 1) / 2 = i) (h0 : 0 < low) (hln : low < n) (hl : lt (f low) (f i)) (hmin : ∀ k, 0 < k → k < n → (k - 1) / 2 = i → ¬ lt (f k) (f low)) :
    DownI lt n low (swp f i low) := by
  refine ⟨fun k hk hkn hkp => ?_, fun _ k hk hkn hkp => ?_⟩
  · by_cases hkl : k = low
    · rw [hkl, hp, swp_i, swp_j]
      exact o.asymm _ _ hl
    · by_cases hki : k = i
      · rw [hki, swp_i, swp_o f (k := (i - 1) / 2) (by omega) (by omega)]
        exact h.2 (by omega) low h0 hln hp
      · rw [swp_o f hki hkl]
        by_cases hpi : (k - 1) / 2 = i
        · rw [hpi, swp_i]
          exact hmin k hk hkn hpi
        · rw [swp_o f hpi hkp]
          exact h.1 k hk hkn hpi
  · rw [hp, swp_i, swp_o f (k := k) (by omega) (by omega)]
    have := h.1 k hk hkn (by omega)
    rw [hkp] at this; exact this
theorem DownI.stop {n i : Nat} {f : Nat → α} (h : DownI lt n i f) (hl : ∀ k, 0 < k → k < n → (k - 1) / 2 = i → ¬ lt (f k) (f i)) : IsH lt n f := fun k hk hkn => by
  by_cases hp : (k - 1) / 2 = i
  · rw [hp]; exact hl k hk hkn hp
  · exact h.1 k hk hkn hp
theorem IsH.less {n : Nat} {f g : Nat → α} (h : IsH lt (n + 1) f) (hg : ∀ k, 0 < k → k < n → g k = f k) : DownI lt n 0 g :=
  ⟨fun k hk hkn hkp => by rw [hg k hk hkn, hg ((k - 1) / 2) (by omega) (by omega)]; exact h k hk (by omega), fun h0 => by omega⟩
/-- The first thing is a least one. -/
theorem IsH.least (o : Ord lt) {n : Nat} {f : Nat → α} (h : IsH lt n f) : ∀ k, k < n → ¬ lt (f k) (f 0)
  | 0, _ => o.irrefl _
  | k + 1, hk => o.ntrans _ _ _ (IsH.least o h ((k + 1 - 1) / 2) (by omega)) (h (k + 1) (by omega) hk)
termination_by k => k
decreasing_by omega
/-- Two things of a list change places. -/
theorem swap_perm {l : List α} {i j : Nat} {a b : α} (hi : l[i]? = some a) (hj : l[j]? = some b) : ((l.set i b).set j a).Perm l := by
  obtain ⟨h1, h2⟩ := List.getElem?_eq_some_iff.1 hi
  obtain ⟨h3, h4⟩ := List.getElem?_eq_some_iff.1 hj
  have h := Array.swap_perm (xs := l.toArray) (i := i) (j := j) (by simpa using h1) (by simpa using h3)
  rw [Array.perm_iff_toList_perm] at h
  have e : (l.toArray.swap i j (by simpa using h1) (by simpa using h3)).toList = (l.set i b).set j a := by
    rw [← h2, ← h4]
    simp [Array.swap_def]
  rw [e] at h
  exact h
theorem swp_at {l : List α} {i j : Nat} {a b d : α} (hi : l[i]? = some a) (hj : l[j]? = some b) (k : Nat) : ((l.set i b).set j a).getD k d = swp (fun k => l.getD k d) i j k := by
  obtain ⟨h1, h2⟩ := List.getElem?_eq_some_iff.1 hi
  obtain ⟨h3, h4⟩ := List.getElem?_eq_some_iff.1 hj
  simp only [List.getD_eq_getElem?_getD]
  by_cases hki : k = i
  · subst hki
    by_cases hkj : k = j
    · subst hkj
      rw [swp_i]
      rw [hi] at hj
      injection hj with hj
      subst hj
      simp [List.getElem?_set, h1, hi]
      exact h2.symm
    · rw [swp_i, List.getElem?_set_ne (fun h => hkj h.symm), List.getElem?_set_self h1, hj]
  · by_cases hkj : k = j
    · subst hkj
      rw [swp_j, List.getElem?_set_self (by simpa using h3), hi]
    · rw [swp_o _ hki hkj, List.getElem?_set_ne (fun h => hkj h.symm), List.getElem?_set_ne (fun h => hki h.symm)]
end
end Hp
end Go.Proofs.YtfohollhdaedlaaGreatDoor
