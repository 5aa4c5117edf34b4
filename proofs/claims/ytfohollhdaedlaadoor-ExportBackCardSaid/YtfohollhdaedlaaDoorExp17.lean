/- Export: the reference takes a field's line in. -/
import Derived.Test.YtfohollhdaedlaaDoorExp16
set_option linter.unusedVariables false
set_option linter.unusedSimpArgs false
set_option maxRecDepth 100000
namespace Go.Proofs.YtfohollhdaedlaaDoor
open Go.RowKit
namespace Exp
/-- May field i come next, as far as the first k fields tell? -/
def okK (d : DocM) (i : Nat) (b : Bool) : Nat → Bool
  | 0 => b
  | k + 1 => okK d i b k && (decide (k < i) || (by8 (d.get k)).isEmpty)
theorem fld_le {d : DocM} {i : Nat} (h : ∀ k, i ≤ k → k < 4 → by8 (d.get k) = []) : fld d ≤ i := by
  refine Classical.byContradiction fun hn => ?_
  have h3 := h 3
  have h2 := h 2
  have h1 := h 1
  have h0 := h 0
  simp only [DocM.get] at h3 h2 h1 h0
  unfold fld at hn
  by_cases e3 : by8 d.t3 = []
  · rw [if_neg (by simpa using e3)] at hn
    by_cases e2 : by8 d.t2 = []
    · rw [if_neg (by simpa using e2)] at hn
      by_cases e1 : by8 d.t1 = []
      · rw [if_neg (by simpa using e1)] at hn
        by_cases e0 : by8 d.t0 = []
        · rw [if_neg (by simpa using e0)] at hn; omega
        · rw [if_pos e0] at hn; exact e0 (h0 (by omega) (by omega))
      · rw [if_pos e1] at hn; exact e1 (h1 (by omega) (by omega))
    · rw [if_pos e2] at hn; exact e2 (h2 (by omega) (by omega))
  · rw [if_pos e3] at hn; exact e3 (h3 (by omega) (by omega))
theorem okK_get {d : DocM} {i : Nat} {b : Bool} : ∀ k, okK d i b k = true → b = true ∧ ∀ j, j < k → i ≤ j → by8 (d.get j) = []
  | 0, h => ⟨h, fun j hj => by omega⟩
  | k + 1, h => by
    unfold okK at h
    rw [Bool.and_eq_true, Bool.or_eq_true] at h
    obtain ⟨h1, h2⟩ := okK_get k h.1
    refine ⟨h1, fun j hj hij => ?_⟩
    by_cases e : j = k
    · subst e
      rcases h.2 with h3 | h3
      · have := of_decide_eq_true h3; omega
      · exact List.isEmpty_iff.1 h3
    · exact h2 j (by omega) hij
theorem okK_mk {d : DocM} {i : Nat} (h : fld d ≤ i) : ∀ k, k ≤ 4 → okK d i true k = true
  | 0, _ => rfl
  | k + 1, hk => by
    unfold okK
    rw [okK_mk h k (by omega), Bool.true_and, Bool.or_eq_true]
    by_cases e : k < i
    · exact .inl (decide_eq_true e)
    · exact .inr (by rw [fld_get d i h k (by omega) (by omega)]; rfl)
theorem okK_all (d : DocM) (i : Nat) (b : Bool) : okK d i b 4 = (b && decide (fld d ≤ i)) := by
  rw [Bool.eq_iff_iff, Bool.and_eq_true, decide_eq_true_iff]
  constructor
  · intro h
    have h2 := okK_get 4 h
    exact ⟨h2.1, fld_le fun k h1 h3 => h2.2 k h3 h1⟩
  · rintro ⟨rfl, h⟩
    exact okK_mk h 4 (Nat.le_refl _)
theorem docC_put (d : DocM) (i : Nat) (hi : i < 4) (t : ByteArray) : docC (d.put i t) = (docC d).setIfInBounds (1 + i) (.string t) := by
  rcases (show i = 0 ∨ i = 1 ∨ i = 2 ∨ i = 3 by omega) with rfl | rfl | rfl | rfl <;> rfl
theorem heap_doc {W : World} {n i : Nat} {d : DocM} {x : ByteArray} {t : TypeId} (hi : i < 4) (h : W.heap[n]? = some (.cells (docC d) t (0, 0))) : (W.setCell ⟨n, 1 + i, none⟩ (.string x)).heap[n]? = some (.cells (docC (d.put i x)) t (0, 0)) := by
  rw [docC_put d i hi]
  obtain ⟨hn, he⟩ := Array.getElem?_eq_some_iff.1 h
  simp [World.setCell, hn, he, Array.getElem_modify]
theorem head_doc {w : World} {p : Nat} {d : DocM} {t : TypeId} (h : w.heap[p]? = some (.cells (docC d) t (0, 0))) :
    w.cell? ⟨p, 0, none⟩ = some (.string d.id) ∧ w.cell? ⟨p, 1, none⟩ = some (.string d.t0) ∧ w.cell? ⟨p, 2, none⟩ = some (.string d.t1) ∧ w.cell? ⟨p, 3, none⟩ = some (.string d.t2) ∧ w.cell? ⟨p, 4, none⟩ = some (.string d.t3) ∧ ∀ i, w.frozen? ⟨p, i, none⟩ = false := by
  refine ⟨?_, ?_, ?_, ?_, ?_, fun i => by simp [World.frozen?, h]⟩ <;> simp [World.cell?, h, docC]
theorem lineF_which {s : B8} {l : List DocM} (hp : docHead.isPrefixOf s = false) (h : l = [] ∨ ∀ j, j < 4 → (head j).isPrefixOf s = false) : lineF l s = none := by
  rcases h with rfl | h
  · unfold lineF
    rw [if_neg (by rw [hp]; decide)]
    cases which s <;> rfl
  · exact lineF_none hp h
set_option maxHeartbeats 8000000 in
/-- Where there is no document. -/
theorem rline_nodoc (w : World) (A : Option Addr) (c : Nat) (s : ByteArray) (hs : s.size ≤ 65536) (hp : docHead.isPrefixOf (by8 s) = false) :
    Calls Tryd.prog 45 #[.slice A 0 c, .string s] w (RLineP [] (by8 s) w) := by
  have CB := Lib.hid (begins_calls s { data := #[100, 111, 99, 32] } w)
  rw [show by8 { data := #[100, 111, 99, 32] } = docHead from rfl, hp] at CB
  have HRES := Lib.hid (lineF_which (l := []) hp (.inl rfl))
  clear hp
  go_enter Tryd.func45, Tryd.ntmps45
  go_wp2_with fail
  refine CB.out.mono ?_
  rintro e w1 ⟨rfl, rfl⟩
  clear CB
  go_wp2_with fail
  go_loopw [28] (fun ix wr => ∃ i : Nat, i ≤ 4 ∧ ix = .int .i64 i ∧ Below w1.heap.size w1 wr) (fun ix _ => 4 - (intOf ix).toNat)
  case atStart => exact ⟨0, Nat.zero_le _, rfl, Below.refl _ _⟩
  case round =>
    obtain ⟨i, hi, rfl, hb⟩ := hrel
    have HB := Lib.hid hb
    clear hb
    by_cases hlt : i < 4
    · have CH := Lib.hid (head_calls i hlt wr)
      obtain ⟨bb, hbb⟩ : ∃ bb, (head i).isPrefixOf (by8 s) = bb := ⟨_, rfl⟩
      have CB2 := Lib.hid (begins_calls s (mk8 (head i)))
      rw [by8_mk8, hbb] at CB2
      clear hbb
      cases bb
      all_goals
        go_wp2_with fail
        refine CH.out.mono ?_
        rintro e w2 ⟨rfl, hb2⟩
        have HB2 := Lib.hid (below_next HB.out hb2)
        clear hb2
        go_wp2_with fail
        refine (CB2.out _).mono ?_
        rintro e w3 ⟨rfl, rfl⟩
        go_wp2_with fail
        go_roundw
        case rel => exact ⟨i + 1, by omega, by go_num, HB2.out⟩
        case measure => simp [intOf]; omega
    · go_wp2_with fail
      go_ret2
      exact ⟨HB.out, .inr ⟨HRES.out, _, _, _, rfl⟩⟩
end Exp
end Go.Proofs.YtfohollhdaedlaaDoor
