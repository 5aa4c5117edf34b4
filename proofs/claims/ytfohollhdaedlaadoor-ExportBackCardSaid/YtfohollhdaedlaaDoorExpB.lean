/- Export: reading what was written, and writing what was read: plain laws. -/
import Derived.Test.YtfohollhdaedlaaDoorExpL
set_option linter.unusedVariables false
set_option linter.unusedSimpArgs false
namespace Go.Proofs.YtfohollhdaedlaaDoor
namespace Exp
theorem okC_no10 : okC 10 = false := by decide
theorem name_no10 {s : B8} (h : nameOk s = true) : (10 : UInt8) ∉ s := by
  intro hm
  unfold nameOk at h
  rw [Bool.and_eq_true, List.all_eq_true] at h
  have := h.2 10 hm
  rw [okC_no10] at this
  cases this
theorem head_no10 (i : Nat) : (10 : UInt8) ∉ head i := by
  unfold head
  split
  · decide
  · split
    · decide
    · split <;> decide
theorem fls_no10 (d : DocM) (h : nameOk (by8 d.id) = true) : ∀ j, ∀ x ∈ fls d j, (10 : UInt8) ∉ x
  | 0, x, hx => by
    obtain rfl : x = docHead ++ by8 d.id := by simpa [fls] using hx
    rw [List.mem_append, not_or]
    exact ⟨by decide, name_no10 h⟩
  | j + 1, x, hx => by
    rcases List.mem_append.1 (show x ∈ fls d j ++ _ from hx) with hx | hx
    · exact fls_no10 d h j x hx
    · split at hx
      · exact absurd hx List.not_mem_nil
      · obtain rfl := List.mem_singleton.1 hx
        rw [List.mem_append, not_or]
        exact ⟨head_no10 j, esc_no10 _⟩
theorem writeD_ends (l : List DocM) : writeD okT l = ends ((l.filter (mayD okT)).flatMap fun d => fls d 4) := by
  unfold writeD
  generalize l.filter (mayD okT) = m
  induction m with
  | nil => rfl
  | cons d m ih => rw [List.flatMap_cons, List.flatMap_cons, ends_app, ← ih, docLines_ends]
/-- What was written is read. -/
theorem readF_write (l : List DocM) : readF (writeD okT l) = (l.filter (mayD okT), none) := by
  have hl : linesOf (writeD okT l) = ((l.filter (mayD okT)).flatMap (fun d => fls d 4), []) := by
    rw [writeD_ends]
    apply linesOf_ends
    intro x hx
    obtain ⟨d, hd, hx⟩ := List.mem_flatMap.1 hx
    exact fls_no10 d ((mayD_get d).1 (List.mem_filter.1 hd).2).2 4 x hx
  unfold readF
  rw [hl, readL_back _ [] 0 fun d hd => (List.mem_filter.1 hd).2]
  rfl
theorem pre_drop {p s : B8} (h : p.isPrefixOf s = true) : s = p ++ s.drop p.length := by
  obtain ⟨t, rfl⟩ := List.isPrefixOf_iff_prefix.1 h
  rw [List.drop_left]
theorem which_spec {s : B8} {i : Nat} (h : which s = some i) : i < 4 ∧ s = head i ++ s.drop (head i).length := by
  unfold which at h
  split at h
  · obtain rfl := Option.some.inj h; exact ⟨by omega, pre_drop (by assumption)⟩
  · split at h
    · obtain rfl := Option.some.inj h; exact ⟨by omega, pre_drop (by assumption)⟩
    · split at h
      · obtain rfl := Option.some.inj h; exact ⟨by omega, pre_drop (by assumption)⟩
      · split at h
        · obtain rfl := Option.some.inj h; exact ⟨by omega, pre_drop (by assumption)⟩
        · cases h
theorem okT_empty : okT ⟨#[]⟩ = true := by
  unfold okT textC
  rw [if_neg (by decide)]
  unfold Utf.validF
  rfl
theorem mk8_by8 (s : ByteArray) : mk8 (by8 s) = s := rfl
theorem by8_mk8 (l : B8) : by8 (mk8 l) = l := rfl
theorem get_put (d : DocM) (i j : Nat) (hi : i < 4) (hj : j < 4) (t : ByteArray) : (d.put i t).get j = if j = i then t else d.get j := by
  rcases (show i = 0 ∨ i = 1 ∨ i = 2 ∨ i = 3 by omega) with rfl | rfl | rfl | rfl <;> rcases (show j = 0 ∨ j = 1 ∨ j = 2 ∨ j = 3 by omega) with rfl | rfl | rfl | rfl <;> rfl
theorem put_id (d : DocM) (i : Nat) (t : ByteArray) : (d.put i t).id = d.id := by
  unfold DocM.put
  split
  · rfl
  · split
    · rfl
    · split <;> rfl
theorem fld_get (d : DocM) (i : Nat) (h : fld d ≤ i) (j : Nat) (hj : i ≤ j) (hj4 : j < 4) : by8 (d.get j) = [] := by
  refine Classical.byContradiction fun hn => ?_
  have : j + 1 ≤ fld d := by
    unfold fld
    rcases (show j = 0 ∨ j = 1 ∨ j = 2 ∨ j = 3 by omega) with rfl | rfl | rfl | rfl <;> simp only [DocM.get] at hn <;> (repeat' split) <;> first | omega | simp_all
  omega
theorem fl_congr {d e : DocM} : ∀ j, (∀ k, k < j → d.get k = e.get k) → fl d j = fl e j
  | 0, _ => rfl
  | j + 1, h => by
    show fl d j ++ fieldLine d j = fl e j ++ fieldLine e j
    rw [fl_congr j fun k hk => h k (by omega)]
    unfold fieldLine
    rw [h j (by omega)]
theorem fl_empty {d : DocM} (i : Nat) : ∀ j, i ≤ j → (∀ k, i ≤ k → k < j → by8 (d.get k) = []) → fl d j = fl d i
  | 0, hij, _ => by obtain rfl : i = 0 := by omega
                    rfl
  | j + 1, hij, h => by
    by_cases e : i = j + 1
    · rw [e]
    · show fl d j ++ fieldLine d j = _
      unfold fieldLine
      rw [if_pos (h j (by omega) (by omega)), List.append_nil, fl_empty i j (by omega) fun k h1 h2 => h k h1 (by omega)]
theorem docLines_put (d : DocM) (i : Nat) (hi : i < 4) (t : ByteArray) (hf : fld d ≤ i) (ht : by8 t ≠ []) : docLines (d.put i t) = docLines d ++ (head i ++ esc (by8 t) ++ [10]) := by
  rw [docLines_fl, docLines_fl, put_id, List.append_assoc _ (fl d 4)]
  congr 1
  rw [fl_empty (d := d) i 4 (by omega) fun k h1 h2 => fld_get d i hf k h1 h2]
  rw [fl_empty (d := d.put i t) (i + 1) 4 (by omega) fun k h1 h2 => by
    rw [get_put d i k hi h2, if_neg (by omega)]
    exact fld_get d i hf k (by omega) h2]
  show fl (d.put i t) i ++ fieldLine (d.put i t) i = _
  rw [fl_congr (d := d.put i t) (e := d) i fun k hk => by rw [get_put d i k hi (by omega), if_neg (by omega)]]
  unfold fieldLine
  rw [get_put d i i hi hi, if_pos rfl, if_neg ht]
theorem writeD_all (l : List DocM) (h : ∀ d ∈ l, mayD okT d = true) : writeD okT l = l.flatMap docLines := by
  unfold writeD
  rw [List.filter_eq_self.2 h]
theorem mayD_bare {id : ByteArray} (h : nameOk (by8 id) = true) : mayD okT (bare id) = true :=
  (mayD_get _).2 ⟨fun i hi => by
    rcases (show i = 0 ∨ i = 1 ∨ i = 2 ∨ i = 3 by omega) with rfl | rfl | rfl | rfl <;> exact okT_empty, h⟩
theorem docLines_bare (id : ByteArray) : docLines (bare id) = docHead ++ by8 id ++ [10] := by
  rw [docLines_fl, fl_empty 0 4 (by omega) fun k _ hk => by
    rcases (show k = 0 ∨ k = 1 ∨ k = 2 ∨ k = 3 by omega) with rfl | rfl | rfl | rfl <;> rfl]
  show _ ++ [] = _
  rw [List.append_nil]; rfl
theorem lineF_write {l l' : List DocM} {x : B8} (h10 : (10 : UInt8) ∉ x) (hl : ∀ d ∈ l, mayD okT d = true) (h : lineF l x = some l') :
    (∀ d ∈ l', mayD okT d = true) ∧ l'.flatMap docLines = l.flatMap docLines ++ x ++ [10] := by
  unfold lineF at h
  split at h
  · rename_i hp
    split at h
    · rename_i hn
      obtain rfl := Option.some.inj h
      refine ⟨fun d hd => ?_, ?_⟩
      · rcases List.mem_append.1 hd with hd | hd
        · exact hl d hd
        · obtain rfl := List.mem_singleton.1 hd
          exact mayD_bare hn
      · rw [List.flatMap_append, List.flatMap_singleton, docLines_bare, by8_mk8, ← List.append_assoc, ← List.append_assoc, List.append_assoc _ docHead]
        have : docHead ++ x.drop 4 = x := (pre_drop hp).symm
        rw [this]
    · cases h
  · split at h
    · rename_i i d hw hd
      obtain ⟨hi, hx⟩ := which_spec hw
      have hl2 : l = l.dropLast ++ [d] := by
        obtain ⟨ys, rfl⟩ := List.getLast?_eq_some_iff.1 hd
        rw [List.dropLast_concat]
      split at h
      · rename_i t hu
        split at h
        · rename_i hc
          obtain ⟨hf, ht, hk⟩ := hc
          obtain rfl := Option.some.inj h
          have hmd := hl d (by rw [hl2]; simp)
          have hx2 : (10 : UInt8) ∉ x.drop (head i).length := fun hm => h10 (List.mem_of_mem_drop hm)
          have he := esc_unesc _ _ t (Nat.le_refl _) hx2 hu
          refine ⟨fun e hde => ?_, ?_⟩
          · rcases List.mem_append.1 hde with hde | hde
            · exact hl e (by rw [hl2]; exact List.mem_append_left _ hde)
            · obtain rfl := List.mem_singleton.1 hde
              obtain ⟨h1, h2⟩ := (mayD_get d).1 hmd
              refine (mayD_get _).2 ⟨fun j hj => ?_, by rw [put_id]; exact h2⟩
              rw [get_put d i j hi hj]
              split
              · exact hk
              · exact h1 j hj
          · rw [List.flatMap_append, List.flatMap_singleton, docLines_put d i hi (mk8 t) hf ht, by8_mk8, he, ← hx]
            conv => rhs; rw [hl2]
            rw [List.flatMap_append, List.flatMap_singleton]
            simp only [List.append_assoc]
        · cases h
      · cases h
    · cases h
theorem readL_write : ∀ (xs : List B8) (l l' : List DocM) (n : Nat), (∀ x ∈ xs, (10 : UInt8) ∉ x) → (∀ d ∈ l, mayD okT d = true) → readL l n xs = (l', none) →
    (∀ d ∈ l', mayD okT d = true) ∧ l'.flatMap docLines = l.flatMap docLines ++ ends xs
  | [], l, l', n, _, hl, h => by
    obtain rfl : l = l' := (Prod.mk.inj h).1
    exact ⟨hl, by show _ = _ ++ []; rw [List.append_nil]⟩
  | x :: xs, l, l', n, hx, hl, h => by
    rw [readL] at h
    cases h2 : lineF l x with
    | none => rw [h2] at h; cases (Prod.mk.inj h).2
    | some m =>
      rw [h2] at h
      obtain ⟨h3, h4⟩ := lineF_write (hx x (List.mem_cons_self ..)) hl h2
      obtain ⟨h5, h6⟩ := readL_write xs m l' (n + 1) (fun y hy => hx y (List.mem_cons_of_mem _ hy)) h3 h
      refine ⟨h5, ?_⟩
      rw [h6, h4, ends_cons]
      simp
/-- What was read has those lines. -/
theorem writeD_read {s : B8} {l : List DocM} (h : readF s = (l, none)) : writeD okT l = s := by
  unfold readF at h
  split at h
  · cases (Prod.mk.inj h).2
  · rename_i l2 h2
    split at h
    · rename_i hr
      obtain rfl : l2 = l := (Prod.mk.inj h).1
      obtain ⟨h3, h4⟩ := readL_write _ [] l2 0 (linesOf_no10 s).1 (fun d hd => absurd hd List.not_mem_nil) h2
      rw [writeD_all _ h3, h4]
      have := ends_linesOf s
      rw [hr, List.append_nil] at this
      exact this
    · cases (Prod.mk.inj h).2
end Exp
end Go.Proofs.YtfohollhdaedlaaDoor
