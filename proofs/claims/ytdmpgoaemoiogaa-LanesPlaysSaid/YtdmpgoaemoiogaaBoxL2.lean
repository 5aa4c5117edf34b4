/- A row of the call's own that begins anywhere in its block; slices.Delete of numbers on it. -/
import Derived.Test.YtdmpgoaemoiogaaBoxL1
import Derived.Deep.MidRow
import Derived.Deep.Upon
set_option linter.unusedVariables false
set_option linter.unusedSimpArgs false
set_option maxRecDepth 100000
namespace Go.Proofs.Ytdmpgoaemoiogaa
open Go.RowKit
namespace Box
/-- Cells of a block from a place on, that may be written, the first of them known. -/
def Spare (w : World) (g off n cap : Nat) (cs : List Value) : Prop :=
  g < w.heap.size ∧ n ≤ cap ∧ cap ≤ maxLen ∧ (∀ j, j < cap → (w.cell? ⟨g, off + j, none⟩).isSome = true ∧ w.frozen? ⟨g, off + j, none⟩ = false) ∧ ∀ j u, cs[j]? = some u → w.cell? ⟨g, off + j, none⟩ = some u
def Deq (w : World) (base : Nat) (v : Value) (n : Nat) (cs : List Value) : Prop :=
  cs.length = n ∧ ((v = .slice none 0 0 ∧ n = 0) ∨ ∃ g off cap, v = .slice (some ⟨g, off, none⟩) n cap ∧ base ≤ g ∧ Spare w g off n cap cs)
theorem Deq.form {w : World} {base : Nat} {v : Value} {n : Nat} {cs : List Value} (h : Deq w base v n cs) : ∃ A c, v = .slice A n c ∧ IsSl w 1 A n c cs := by
  obtain ⟨hl, ⟨rfl, rfl⟩ | ⟨g, off, cap, rfl, hb, hg, hn, hm, hs, hc⟩⟩ := h
  · exact ⟨none, 0, rfl, by simpa using hl, Nat.le_refl _, by decide, fun _ => ⟨rfl, rfl⟩, fun ad ha => by cases ha⟩
  · refine ⟨_, _, rfl, by simpa using hl, hn, hm, fun ha => (by cases ha), fun ad ha j u hu => ?_⟩
    obtain rfl := Option.some.inj ha
    rw [Addr.add_lit]; exact hc j u hu
theorem Spare.keep {w w' : World} {g off n cap : Nat} {cs : List Value} {row : Option Nat} (h : Spare w g off n cap cs) (hg : w.grownBy w' row) (hne : some g ≠ row) : Spare w' g off n cap cs := by
  obtain ⟨h1, h2, h3, h4, h5⟩ := h
  have hb := hg.block g h1 hne
  refine ⟨Nat.lt_of_lt_of_le h1 hg.size, h2, h3, fun j hj => ?_, fun j u hu => ?_⟩
  · rw [World.cell?_of_block (a := ⟨g, off + j, none⟩) hb, World.frozen?_of_block (a := ⟨g, off + j, none⟩) hb]; exact h4 j hj
  · rw [World.cell?_of_block (a := ⟨g, off + j, none⟩) hb]; exact h5 j u hu
theorem Deq.keep {w w' : World} {base : Nat} {v : Value} {n : Nat} {cs : List Value} {row : Option Nat} (h : Deq w base v n cs) (hg : w.grownBy w' row) (hr : ∀ k, row = some k → k < base) : Deq w' base v n cs := by
  obtain ⟨hl, h1 | ⟨g, off, cap, rfl, hb, hs⟩⟩ := h
  · exact ⟨hl, .inl h1⟩
  · exact ⟨hl, .inr ⟨g, off, cap, rfl, hb, hs.keep hg fun e => by have := hr g e.symm; omega⟩⟩
theorem Deq.lower {w : World} {base base' : Nat} {v : Value} {n : Nat} {cs : List Value} (h : Deq w base v n cs) (hb : base' ≤ base) : Deq w base' v n cs := by
  obtain ⟨hl, h1 | ⟨g, off, cap, rfl, hg, hs⟩⟩ := h
  · exact ⟨hl, .inl h1⟩
  · exact ⟨hl, .inr ⟨g, off, cap, rfl, by omega, hs⟩⟩
theorem Deq.nil (w : World) (base : Nat) : Deq w base (.slice none 0 0) 0 [] := ⟨rfl, .inl ⟨rfl, rfl⟩⟩
/-- What owns a row of its own does so. -/
theorem Deq.owned {w : World} {base n : Nat} {e : TypeId} {v : Value} {xs : List Value} (h : w.ownsRow base e 1 v n xs) : Deq w base v n xs := by
  obtain ⟨hl, ⟨rfl, rfl⟩ | ⟨g, cap, cur, rfl, hb, hg, h1, h2, h3, h4⟩⟩ := h
  · exact ⟨by simpa using hl, .inl ⟨rfl, rfl⟩⟩
  · have hlen : xs.length = n := by simpa using hl
    refine ⟨hlen, .inr ⟨g, 0, cap, rfl, hb, (Array.getElem?_eq_some_iff.1 hg).1, h1, h2, fun j hj => ?_, fun j u hu => ?_⟩⟩
    · refine ⟨?_, ?_⟩
      · simp [World.cell?, hg]; omega
      · simp [World.frozen?, hg]
    · have hj := (List.getElem?_eq_some_iff.1 hu).1
      rw [← h4, List.getElem?_take] at hu
      simp only [World.cell?, hg]
      split at hu
      · simpa using hu
      · cases hu
theorem Deq.tail {w : World} {base n : Nat} {g off cap : Nat} {x : Value} {cs : List Value} (h : Spare w g off (n + 1) cap (x :: cs)) : Spare w g (off + 1) n (cap - 1) cs := by
  obtain ⟨h1, h2, h3, h4, h5⟩ := h
  refine ⟨h1, by omega, by omega, fun j hj => ?_, fun j u hu => ?_⟩
  · have := h4 (j + 1) (by omega); rwa [show off + (j + 1) = off + 1 + j by omega] at this
  · have := h5 (j + 1) u (by simpa using hu); rwa [show off + (j + 1) = off + 1 + j by omega] at this
theorem below_cells {B g : Nat} (hg : B ≤ g) : ∀ (vs : List Value) (o : Nat) (w : World), Below B w (w.setCells g o vs)
  | [], _, w => Below.refl B w
  | v :: r, o, w => ((Below.refl B w).setCell (p := ⟨g, o, none⟩) hg v).trans (below_cells hg r (o + 1) _)
theorem size_cells (g : Nat) : ∀ (vs : List Value) (o : Nat) (w : World), (w.setCells g o vs).heap.size = w.heap.size
  | [], _, _ => rfl
  | v :: r, o, w => by rw [World.setCells, size_cells g r]; simp
theorem grown_cells {w : World} {g : Nat} (vs : List Value) (o : Nat) : w.grownBy (w.setCells g o vs) (some g) :=
  have hb := below_cells (Nat.le_refl g) vs o w
  ⟨hb.os, hb.tape, hb.output, hb.size, fun k hk hne => World.heap_setCells_other w g o vs hk (fun e => hne (by rw [e]))⟩

theorem zero_int (w : World) : (zeroValue 3).run Try.prog w = .ok (.int .i64 0) w := by kernel_rfl
set_option maxHeartbeats 1000000 in
/-- slices.Delete(s, k, k+1) of a row of the call's own. -/
theorem delete_int (w : World) (g n cap k : Nat) (xs : List Int) (hS : Spare w g 0 n cap (nums xs)) (hn : xs.length = n) (hk : k < n) (base : Nat) (hb : base ≤ g) :
    Calls Try.prog 22 #[.slice (some ⟨g, 0, none⟩) n cap, .int .i64 k, .int .i64 ((k : Int) + 1)] w fun e w' => ∃ v, e = .returned v ∧ Deq w' base v (n - 1) (nums (xs.eraseIdx k)) ∧ w.grownBy w' (some g) := by
  obtain ⟨hg, hcap, hm, hsp, hce⟩ := hS
  obtain ⟨i0, hi0, hz0, hz1, hby⟩ := info_parts inf_int
  obtain ⟨news, hnews⟩ : ∃ news, news = (nums xs).drop (k + 1) := ⟨_, rfl⟩
  have hlen : news.length = n - (k + 1) := by rw [hnews, List.length_drop, nums_length, hn]
  obtain ⟨A, hA, hsrc⟩ : ∃ A : Addr, (if cap = k + 1 then some (⟨g, 0, none⟩ : Addr) else some ⟨g, k + 1, none⟩) = some A ∧ Hid (∀ t u, news[t]? = some u → w.drew.cell? (A.add t) = some u) := by
    by_cases h : cap = k + 1
    · refine ⟨⟨g, 0, none⟩, by simp [h], fun t u hu => ?_⟩
      have h0 : news.length = 0 := by rw [hlen]; omega
      rw [List.length_eq_zero_iff.1 h0] at hu
      simp at hu
    · refine ⟨⟨g, k + 1, none⟩, by simp [h], fun t u hu => ?_⟩
      rw [hnews, List.getElem?_drop] at hu
      have := hce (k + 1 + t) u hu
      rw [Addr.add_lit]
      simpa using this
  have s1 : Hid (news.length = (n - (k + 1)) * 1) := by rw [Nat.mul_one]; exact hlen
  have s2 : Hid (∀ u ∈ news, u.oneCell' = true) := fun u hu => nums_one xs u (by rw [hnews] at hu; exact List.mem_of_mem_drop hu)
  have s3 : Hid (∀ t, t < news.length → (w.drew.cell? ⟨g, 0 + k * 1 + t, none⟩).isSome = true ∧ w.drew.frozen? ⟨g, 0 + k * 1 + t, none⟩ = false) := by
    intro t ht
    rw [hlen] at ht
    have := hsp (k + t) (by omega)
    rw [show 0 + k * 1 + t = 0 + (k + t) by omega]
    exact this
  obtain ⟨W1, hW1⟩ : ∃ W1, W1 = w.drew.setCells g (0 + k * 1) news := ⟨_, rfl⟩
  have h1s : ∀ j, j < cap → (W1.cell? ⟨g, j, none⟩).isSome = true ∧ W1.frozen? ⟨g, j, none⟩ = false := fun j hj => by
    rw [hW1]
    have := hsp j hj
    rw [Nat.zero_add] at this
    exact ⟨World.isSome_setCells g news _ w.drew _ this.1, by rw [World.frozen?_setCells]; exact this.2⟩
  have hsum : k + (n - (k + 1)) = n - 1 := by omega
  have hone : n - (n - 1) = 1 := by omega
  have hcl : ∀ ty, (Builtin.clear_ #[43] ty #[.slice (some ⟨g, n - 1, none⟩) 1 (cap - (n - 1))]).run Try.prog W1 = .ok (.tuple #[]) (W1.setCells g (n - 1) (List.replicate 1 (.int .i64 0))) :=
    fun ty => Lib.run_clear_slice W1 _ _ ty _ Try.underlying43 zero_int rfl rfl g (n - 1) _ _ (by decide)
      (fun t ht => (h1s (n - 1 + t) (by omega)).1) (fun t ht => (h1s (n - 1 + t) (by omega)).2)
  have hW : Hid (W1 = w.drew.setCells g (0 + k * 1) news) := hW1
  have hfin : Hid (Deq (W1.setCells g (n - 1) (List.replicate 1 (.int .i64 0))) base (.slice (some ⟨g, 0, none⟩) (n - 1) cap) (n - 1) (nums (xs.eraseIdx k)) ∧ w.grownBy (W1.setCells g (n - 1) (List.replicate 1 (.int .i64 0))) (some g)) := by
    have g1 : w.drew.grownBy W1 (some g) := by rw [hW1]; exact grown_cells news _
    have g2 : w.grownBy W1 (some g) := ⟨g1.os, g1.tape, g1.output, g1.size, g1.block⟩
    have g3 := g2.trans (grown_cells (w := W1) (g := g) (List.replicate 1 (.int .i64 0)) (n - 1))
    refine ⟨⟨by rw [nums_length, List.length_eraseIdx, if_pos (by omega), hn], .inr ⟨g, 0, cap, rfl, hb, Nat.lt_of_lt_of_le hg g3.size, by omega, hm, fun j hj => ?_, fun j u hu => ?_⟩⟩, g3⟩
    · rw [Nat.zero_add]
      exact ⟨World.isSome_setCells g _ _ W1 _ (h1s j hj).1, by rw [World.frozen?_setCells]; exact (h1s j hj).2⟩
    · rw [Nat.zero_add]
      have hjl := (List.getElem?_eq_some_iff.1 hu).1
      rw [nums_length, List.length_eraseIdx, if_pos (by omega), hn] at hjl
      rw [World.cell?_setCells_out g _ _ W1 _ (fun _ _ => .inl (by show j < n - 1; exact hjl)), hW1]
      have hu2 : u = .int .i64 ((xs.eraseIdx k).getD j 0) := by
        rw [nums, List.getElem?_map] at hu
        rw [List.getD_eq_getElem?_getD]
        cases he : (xs.eraseIdx k)[j]? with
        | none => rw [he] at hu; cases hu
        | some x => rw [he] at hu; exact (Option.some.inj hu).symm
      by_cases hjk : j < k
      · rw [World.cell?_setCells_out g news _ w.drew _ (fun _ _ => .inl (by show j < 0 + k * 1; omega))]
        have := hce j u (by rw [nums, List.getElem?_map] at hu ⊢; rwa [List.getElem?_eraseIdx_of_lt hjk] at hu)
        rwa [Nat.zero_add] at this
      · have hj2 : j - k < news.length := by rw [hlen]; omega
        have h5 := World.cell?_setCells_in g news (0 + k * 1) w.drew (fun t ht => (s3 t ht).1) (j - k) hj2
        rw [show 0 + k * 1 + (j - k) = j by omega] at h5
        rw [h5]
        have h6 : news[j - k]? = some u := by
          rw [hnews, List.getElem?_drop, show k + 1 + (j - k) = j + 1 by omega]
          rw [nums, List.getElem?_map] at hu ⊢
          rwa [List.getElem?_eraseIdx_of_ge (by omega)] at hu
        rw [List.getElem?_eq_getElem hj2] at h6
        exact h6
  have hik : k ≤ cap := by omega
  have hjk : k + 1 ≤ cap := by omega
  have hk3 : (0 : Int) ≤ (k : Int) + 1 := by omega
  have hk4 : (k : Int) + 1 ≤ n := by omega
  have hki : ((k : Int) = (k : Int) + 1) = False := by simp; omega
  clear hW1 h1s hlen hnews hsp hce hg
  go_enter Try.func22, Try.ntmps22
  go_wp2_with fail
  go_region_law (refine step_append_room rfl (.tmp 22) (.tmp 25) 43 rfl 3 i0 1 Try.underlying43 hi0 hz1 g 0 k cap (by simp [Act.eval, Act.put]) A (n - (k + 1)) (cap - (k + 1)) news (by simp [Act.eval, Act.put]) s1.out hsrc.out s2.out (by omega) s3.out ?_; rw [← hW.out])
  go_wp2_with fail
  go_ret
  exact ⟨_, rfl, hfin.out⟩
end Box
end Go.Proofs.Ytdmpgoaemoiogaa
