/- Export: the lines of a text, one after another (strings.Lines). -/
import Derived.Test.YtfohollhdaedlaaDoorExp12
import Derived.Test.YtfohollhdaedlaaDoorRange
import Derived.OwnWalkIn
import Derived.TacticsInMore
import Derived.LoopNIn
import Derived.LoopIn
set_option linter.unusedVariables false
set_option linter.unusedSimpArgs false
set_option maxRecDepth 100000
namespace Go.Proofs.YtfohollhdaedlaaDoor
open Go.RowKit
attribute [local go_sem] Oper.semAt_some
namespace Exp
/-- The pieces of a text: its lines with their ends, and what is left behind the last one. -/
def pcs (s : B8) : List B8 := (linesOf s).1.map (· ++ [10]) ++ (if (linesOf s).2 = [] then [] else [(linesOf s).2])
theorem pcs_nil : pcs [] = [] := rfl
theorem pcs_line {x : B8} (h : (10 : UInt8) ∉ x) (r : B8) : pcs (x ++ 10 :: r) = (x ++ [10]) :: pcs r := by
  unfold pcs; rw [linesOf_line x r h]; rfl
theorem pcs_rest {x : B8} (h : (10 : UInt8) ∉ x) (h0 : x ≠ []) : pcs x = [x] := by
  unfold pcs; rw [linesOf_rest x h]; show [] ++ (if x = [] then [] else [x]) = _; rw [if_neg h0]; rfl
theorem idx_no : ∀ (l : B8), (10 : UInt8) ∉ l → Lib.indexByte l 10 = -1
  | [], _ => rfl
  | c :: l, h => by
    simp only [List.mem_cons, not_or] at h
    unfold Lib.indexByte
    rw [if_neg (by simpa using Ne.symm h.1), if_pos (by rw [idx_no l h.2]; rfl)]
theorem idx_yes : ∀ (x r : B8), (10 : UInt8) ∉ x → Lib.indexByte (x ++ 10 :: r) 10 = x.length
  | [], r, _ => rfl
  | c :: x, r, h => by
    simp only [List.mem_cons, not_or] at h
    have ih := idx_yes x r h.2
    show Lib.indexByte (c :: (x ++ 10 :: r)) 10 = _
    unfold Lib.indexByte
    rw [if_neg (by simpa using Ne.symm h.1), ih, if_neg (by simp)]; simp
theorem split10 : ∀ (l : B8), (10 : UInt8) ∈ l → ∃ x r, l = x ++ 10 :: r ∧ (10 : UInt8) ∉ x
  | [], h => by cases h
  | c :: l, h => by
    by_cases hc : c = 10
    · exact ⟨[], l, by rw [hc]; rfl, by simp⟩
    · have h2 : (10 : UInt8) ∈ l := by
        rcases List.mem_cons.1 h with e | e
        · exact absurd e.symm hc
        · exact e
      obtain ⟨x, r, rfl, hx⟩ := split10 l h2
      exact ⟨c :: x, r, rfl, by simp only [List.mem_cons, not_or]; exact ⟨fun e => hc e.symm, hx⟩⟩
/-- How much is left, read off the world. -/
def leftS (Bs : Nat) (W : World) : Nat := match W.cell? ⟨Bs, 0, none⟩ with
  | some (.string x) => x.size
  | _ => 0
theorem heap_set1 {W : World} {n : Nat} {a x : Value} {t : TypeId} (h : W.heap[n]? = some (.cells #[a] t (0, 0))) : (W.setCell ⟨n, 0, none⟩ x).heap[n]? = some (.cells #[x] t (0, 0)) := by
  obtain ⟨hn, he⟩ := Array.getElem?_eq_some_iff.1 h
  simp [World.setCell, hn, he, Array.getElem_modify]
theorem head1 {w : World} {p : Nat} {x : Value} {t : TypeId} (h : w.heap[p]? = some (.cells #[x] t (0, 0))) : w.cell? ⟨p, 0, none⟩ = some x ∧ w.frozen? ⟨p, 0, none⟩ = false :=
  ⟨by simp [World.cell?, h], by simp [World.frozen?, h]⟩
theorem leftS_eq {Bs : Nat} {W : World} {x : ByteArray} {t : TypeId} (h : W.heap[Bs]? = some (.cells #[.string x] t (0, 0))) : leftS Bs W = x.size := by
  unfold leftS; rw [(head1 h).1]
theorem ext_mk (a b : B8) : (mk8 (a ++ b)).extract 0 a.length = mk8 a := by
  apply ByteArray.ext
  apply Array.ext'
  rw [ByteArray.data_extract, Array.toList_extract, List.extract_eq_take_drop]
  simp [mk8]
theorem ext_mk2 (a b : B8) : (mk8 (a ++ b)).extract a.length (a ++ b).length = mk8 b := by
  apply ByteArray.ext
  apply Array.ext'
  rw [ByteArray.data_extract, Array.toList_extract, List.extract_eq_take_drop]
  simp [mk8]
/-- What the iterator keeps. -/
def StL (Bs : Nat) (s : B8) (W : World) : Prop := W.heap[Bs]? = some (.cells #[.string (mk8 s)] 9 (0, 0))
def ShL (Bs : Nat) (W : World) : Prop := ∃ v, W.heap[Bs]? = some (.cells #[v] 9 (0, 0))
set_option maxHeartbeats 4000000 in
theorem lines1_gives (n Bs : Nat) (hn : 1 ≤ n) (s : B8) (hs : s.length ≤ 65536) :
    Rg.Gives Fence.wide n Tryd.prog 76 #[.pointer (some ⟨Bs, 0, none⟩)] Bs (pcs s).length (fun k => #[.string (mk8 ((pcs s).getD k []))]) (StL Bs s) (ShL Bs) := by
  rintro l J Jx W ht hJ hY h0
  unfold StL at ht
  have HJ := Lib.hid hJ
  have HY := Lib.hid hY
  have HT := Lib.hid ht
  clear hJ hY ht
  refine callsIn_of_wp Tryd.func76 rfl trivial ?_ rfl
  simp only [Tryd.ntmps76, List.size_toArray, List.length_cons, List.length_nil, Nat.reduceAdd, Nat.reduceSub, Array.replicate_succ, Array.replicate_zero, List.push_toArray, List.append_toArray, List.nil_append, List.cons_append]
  gi_wp2
  gi_loopw [4] (fun _ wr => ∃ (k : Nat) (r : B8), pcs r = (pcs s).drop k ∧ k ≤ (pcs s).length ∧ r.length ≤ 65536 ∧ wr.heap[Bs]? = some (.cells #[.string (mk8 r)] 9 (0, 0)) ∧ J k wr) (fun _ wr => leftS Bs wr)
  case atStart => exact ⟨0, s, rfl, Nat.zero_le _, hs, HT.out, h0⟩
  case round =>
    obtain ⟨k, r, hp, hk, hr, hb, hj⟩ := hrel
    have HP := Lib.hid hp
    have HB := Lib.hid hb
    have HJK := Lib.hid hj
    obtain ⟨y0, y1⟩ := head1 hb
    clear hp hb hj
    by_cases hr0 : r = []
    · subst hr0
      have HE : Hid (k = (pcs s).length) := by
        have h := congrArg List.length HP.out
        rw [pcs_nil, List.length_drop] at h
        show k = _
        simp at h; omega
      have hz : (mk8 []).size = 0 := rfl
      gi_wp2
      go_end0
      exact ⟨⟨_, rfl⟩, .inl (by rw [← HE.out]; exact HJK.out)⟩
    · obtain ⟨x, r2, hpx, hx, hxl, hix⟩ : ∃ x r2 : B8, pcs r = x :: pcs r2 ∧ r = x ++ r2 ∧ x ≠ [] ∧ (((0 : Int) ≤ Lib.indexByte r 10 ∧ Lib.indexByte r 10 + 1 = x.length) ∨ (Lib.indexByte r 10 < 0 ∧ r2 = [])) := by
        by_cases h10 : (10 : UInt8) ∈ r
        · obtain ⟨x, r2, rfl, hx⟩ := split10 r h10
          exact ⟨x ++ [10], r2, pcs_line hx r2, by simp, by simp, .inl (by rw [idx_yes x r2 hx]; simp)⟩
        · exact ⟨r, [], pcs_rest h10 hr0, by simp, hr0, .inr (by rw [idx_no r h10]; exact ⟨by decide, rfl⟩)⟩
      have HE : Hid (k < (pcs s).length ∧ (pcs s).getD k [] = x ∧ pcs r2 = (pcs s).drop (k + 1)) := by
        have h := HP.out
        rw [hpx] at h
        have h1 : k < (pcs s).length := Classical.byContradiction fun h2 => by
          rw [List.drop_eq_nil_of_le (by omega)] at h; cases h
        rw [List.drop_eq_getElem_cons h1] at h
        injection h with h3 h4
        exact ⟨h1, by rw [List.getD_eq_getElem?_getD, List.getElem?_eq_getElem h1, h3]; rfl, h4⟩
      have hrz : (mk8 r).size = r.length := mk8_size r
      have hxz : x.length + r2.length = r.length := by rw [hx]; simp
      have hx1 : 1 ≤ x.length := by cases x with
        | nil => exact absurd rfl hxl
        | cons a b => simp
      have hx2 : (mk8 r).extract 0 x.length = mk8 x := by rw [hx]; exact ext_mk x r2
      have hx3 : (mk8 r).extract x.length (mk8 r).size = mk8 r2 := by rw [mk8_size, hx]; exact ext_mk2 x r2
      obtain ⟨rs, hrs⟩ : ∃ rs, mk8 r = rs := ⟨_, rfl⟩
      obtain ⟨xs, hxs⟩ : ∃ xs, mk8 x = xs := ⟨_, rfl⟩
      obtain ⟨ys, hys⟩ : ∃ ys, mk8 r2 = ys := ⟨_, rfl⟩
      have hyz : ys.size = r2.length := by rw [← hys]; exact mk8_size r2
      have CI := Lib.hid (idxByte rs wr)
      have HRS : Hid (by8 rs = r) := by show _ = _; rw [← hrs]; rfl
      rw [HRS.out] at CI
      rw [hrs] at y0 HB hrz hx2 hx3
      rw [hxs] at hx2
      rw [hys] at hx3
      obtain ⟨ix, hixe⟩ : ∃ ix, Lib.indexByte r 10 = ix := ⟨_, rfl⟩
      rw [hixe] at CI hix
      have HY2 := Lib.hid (heap_set1 (x := .string ys) HB.out)
      have HJ2 : Hid (∀ W', wr.grownBy W' (some Bs) → J k W') := fun W' hg => HJ.out k wr W' HJK.out hg
      have HYK : Hid (∀ W1, J k W1 → ShL Bs W1 → YieldAt Fence.wide (n - 1) Tryd.prog l #[.string xs] W1 fun e W' =>
          (e = .returned (.bool true) ∧ J (k + 1) W' ∧ W'.heap[Bs]? = W1.heap[Bs]?) ∨ (e = .returned (.bool false) ∧ Jx (k + 1) W')) := fun W1 hj hsh => by
        have h := HY.out k W1 HE.out.1 hj hsh
        rw [HE.out.2.1, hxs] at h
        exact h
      have HYS := Lib.hid hys
      have HXR : Hid (r2 = [] → rs = xs) := fun h => by rw [← hrs, ← hxs, hx, h, List.append_nil]
      clear hpx hx hxl hrs hxs hys hixe hr0
      have hr0 : 0 < rs.size := by omega
      have hrl : 0 < r.length := by omega
      have HMS : Hid (ys.size < leftS Bs wr) := by
        show _ < _
        rw [leftS_eq HB.out]; omega
      have HPN : Hid (by8 ys = r2) := by show _ = _; rw [← HYS.out]; rfl
      have HRL : Hid (r2.length ≤ 65536) := by show _ ≤ _; omega
      rcases hix with ⟨hi0, hi1⟩ | ⟨hi0, hi1⟩
      · have hw1 : IntKind.i64.wrap (ix + 1) = ix + 1 := by rw [IntKind.wrap_i64]; omega
        have hsl1 := slice_str_to (P := Tryd.prog) Tryd.underlying9 rs .i64 (ix + 1) x.length (by omega) (by omega)
        have hsl2 := slice_str_from (P := Tryd.prog) Tryd.underlying9 rs .i64 (ix + 1) x.length (by omega) (by omega)
        rw [hx2] at hsl1
        rw [hx3] at hsl2
        clear hx2 hx3 hi1
        gi_wp2_with fail
        refine ⟨trivial, ?_⟩
        refine (callsIn_wide.2 CI.out).mono ?_
        rintro e w1 ⟨rfl, rfl⟩
        clear CI
        gi_wp2_with fail
        gi_region
        clear hsl1 hsl2 y0 y1
        have hg2 : w1.grownBy (w1.setCell ⟨Bs, 0, none⟩ (.string ys)).drew (some Bs) := have g := grown_cell (W := w1) (n := Bs) (i := 0) (.string ys); ⟨g.os, g.tape, g.output, g.size, g.block⟩
        obtain ⟨fn, tmps, assign, body, hy, hR⟩ := HYK.out _ (HJ2.out _ hg2) ⟨_, HY2.out⟩
        clear hg2
        gi_wp2
        refine hR.mono ?_
        rintro e W3 (⟨rfl, hJ3, hk3⟩ | ⟨rfl, hJx3⟩)
        · have HK3 : Hid (W3.heap[Bs]? = some (.cells #[.string (mk8 r2)] 9 (0, 0))) := by
            show _ = _
            rw [HYS.out]
            exact hk3.trans HY2.out
          have HJ3 := Lib.hid hJ3
          clear hJ3 hk3 hR hy
          gi_wp2
          go_roundw
          case rel => exact ⟨k + 1, r2, HE.out.2.2, HE.out.1, HRL.out, HK3.out, HJ3.out⟩
          case measure => rw [leftS_eq HK3.out, HYS.out]; exact HMS.out
        · have HJ3 := Lib.hid hJx3
          clear hJx3 hR hy
          gi_wp2
          refine bodyPost_ret (results_none rfl _ _ _) rfl ?_
          exact ⟨⟨_, rfl⟩, .inr ⟨k + 1, HE.out.1, HJ3.out⟩⟩
      · have hi2 : ¬ ((0 : Int) ≤ ix) := by omega
        subst hi1
        have hw : ys = { data := #[] } := by rw [← HYS.out]; rfl
        obtain rfl := HXR.out rfl
        subst hw
        clear hx2 hx3
        gi_wp2_with fail
        refine ⟨trivial, ?_⟩
        refine (callsIn_wide.2 CI.out).mono ?_
        rintro e w1 ⟨rfl, rfl⟩
        clear CI
        have hg2 : w1.grownBy (w1.setCell ⟨Bs, 0, none⟩ (.string { data := #[] })) (some Bs) := grown_cell (n := Bs) (i := 0) (.string { data := #[] })
        obtain ⟨fn, tmps, assign, body, hy, hR⟩ := HYK.out _ (HJ2.out _ hg2) ⟨_, HY2.out⟩
        clear hg2
        gi_wp2
        clear y0 y1
        refine hR.mono ?_
        rintro e W3 (⟨rfl, hJ3, hk3⟩ | ⟨rfl, hJx3⟩)
        · have HK3 : Hid (W3.heap[Bs]? = some (.cells #[.string (mk8 [])] 9 (0, 0))) := by
            show _ = _
            rw [HYS.out]
            exact hk3.trans HY2.out
          have HJ3 := Lib.hid hJ3
          clear hJ3 hk3 hR hy
          gi_wp2
          go_roundw
          case rel => exact ⟨k + 1, [], HE.out.2.2, HE.out.1, HRL.out, HK3.out, HJ3.out⟩
          case measure => rw [leftS_eq HK3.out, HYS.out]; exact HMS.out
        · have HJ3 := Lib.hid hJx3
          clear hJx3 hR hy
          gi_wp2
          refine bodyPost_ret (results_none rfl _ _ _) rfl ?_
          exact ⟨⟨_, rfl⟩, .inr ⟨k + 1, HE.out.1, HJ3.out⟩⟩
end Exp
end Go.Proofs.YtfohollhdaedlaaDoor
