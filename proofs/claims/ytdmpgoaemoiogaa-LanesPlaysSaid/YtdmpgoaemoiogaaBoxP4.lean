/- The walks: the k-th parcel taken out; a parcel's bytes as they come. -/
import Derived.Test.YtdmpgoaemoiogaaBoxP3
set_option linter.unusedVariables false
set_option linter.unusedSimpArgs false
set_option maxRecDepth 100000
namespace Go.Proofs.Ytdmpgoaemoiogaa
open Go.RowKit
namespace Box
theorem results_cell {fn : Func} {t u : Tmp} {tmps : Array Value} {n : Nat} {x y z : Value} {T : TypeId} {w : World} (h : fn.results = #[.cell t 97, .tmp u]) (ht : tmps.getD t undef = .pointer (some ⟨n, 0, none⟩)) (hn : w.heap[n]? = some (.cells #[x, y, z] T (0, 0))) :
    (results fn tmps).run Try.prog w = .ok (.tuple #[.agg #[x, y, z], tmps.getD u undef]) w := by
  have ht2 : tmps[t]?.getD undef = .pointer (some ⟨n, 0, none⟩) := by rwa [Array.getD_eq_getD_getElem?] at ht
  simp [results, h, ht2, asAddr_ptr, load_par hn]
def zp : Par := ({ data := #[] }, 0, 0)
set_option maxHeartbeats 1000000 in
theorem pullNo_par (w : World) (b c : Nat) (l : List Par) (h : IsP w b c l) (k : Int) (hk : k < 0 ∨ (l.length : Int) ≤ k) :
    Calls Try.prog 53 #[.pointer (some ⟨b, 0, none⟩), .int .i64 k] w fun e w' => e = .returned (.tuple #[pv zp, .bool false]) ∧ Below w.heap.size w w' := by
  have H := Lib.hid h
  have hlt := h.lt
  have hlen := pvs_length l
  clear h
  by_cases h0 : k < 0
  · go_enter Try.func53, Try.ntmps53
    go_wp2_with fail
    (try simp only [Exit.inBlock, Exit.then])
    refine bodyPost_ret (results_cell rfl rfl (heap_old (heap_alloc_new w _))) rfl ?_
    exact ⟨rfl, ((Below.refl _ _).alloc (Nat.le_refl _) _).alloc (by simp) _⟩
  · have hk2 : (l.length : Int) ≤ k := by omega
    generalize hn : l.length = n at *
    go_enter Try.func53, Try.ntmps53
    go_wp2_with fail
    refine (len_par _ b c 40 _ ((H.out.keep (World.grownBy_alloc w _ none) (by simp) (by simp)).keep (World.grownBy_alloc _ _ none) (by simp) (by simp))).mono ?_
    rw [hlen]
    rintro e w1 ⟨rfl, rfl⟩
    go_wp2_with fail
    (try simp only [Exit.inBlock, Exit.then])
    refine bodyPost_ret (results_cell rfl rfl (heap_old (heap_alloc_new w _))) rfl ?_
    exact ⟨rfl, ((Below.refl _ _).alloc (Nat.le_refl _) _).alloc (by simp) _⟩
theorem other3 {W : World} {n k : Nat} {x y z : Value} (h : k ≠ n) : (((W.setCell ⟨n, 0, none⟩ x).setCell ⟨n, 1, none⟩ y).setCell ⟨n, 2, none⟩ z).heap[k]? = W.heap[k]? :=
  (Below.heap_setCell _ ⟨n, 2, none⟩ z k h).trans ((Below.heap_setCell _ ⟨n, 1, none⟩ y k h).trans (Below.heap_setCell _ ⟨n, 0, none⟩ x k h))
theorem IsP.alloc {w : World} {b c : Nat} {l : List Par} (h : IsP w b c l) (o : Obj) : IsP (w.alloc o) b c l := h.keep (World.grownBy_alloc w o none) (by simp) (by simp)
theorem keep_cell {w : World} {b c n : Nat} {l : List Par} {x y z : Value} (h : IsP w b c l) (hb : b < n) (hc : c < n) : IsP (((w.setCell ⟨n, 0, none⟩ x).setCell ⟨n, 1, none⟩ y).setCell ⟨n, 2, none⟩ z) b c l := by
  obtain ⟨t, s, r, h1, h2, h3⟩ := h
  have hB := below3 (n := n) (x := x) (y := y) (z := z) (Below.refl n w) (Nat.le_refl _)
  exact ⟨t, s, r, (hB.block b hb).trans h1, (hB.block c hc).trans h2, h3⟩
set_option maxHeartbeats 4000000 in
theorem pull_par (w : World) (b c : Nat) (l : List Par) (h : IsP w b c l) (k : Nat) (p : Par) (hp : l[k]? = some p) :
    Calls Try.prog 53 #[.pointer (some ⟨b, 0, none⟩), .int .i64 k] w fun e w' => e = .returned (.tuple #[pv p, .bool true]) ∧ IsP w' b c (l.eraseIdx k) ∧ w.grownBy w' (some c) := by
  have H := Lib.hid h
  have hlt := h.lt
  have hroom := h.room
  have hlen0 := pvs_length l
  have hk : k < l.length := (List.getElem?_eq_some_iff.1 hp).1
  have HP := Lib.hid hp
  clear h hp
  generalize hn : l.length = n at *
  have hkn : (k : Int) < n := by omega
  go_enter Try.func53, Try.ntmps53
  go_wp2_with fail
  refine (len_par _ b c 40 _ ((H.out.keep (World.grownBy_alloc w _ none) (by simp) (by simp)).keep (World.grownBy_alloc _ _ none) (by simp) (by simp))).mono ?_
  rw [hlen0]
  rintro e w1 ⟨rfl, rfl⟩
  go_wp2_with fail
  refine (len_par _ b c 40 _ ((H.out.keep (World.grownBy_alloc w _ none) (by simp) (by simp)).keep (World.grownBy_alloc _ _ none) (by simp) (by simp))).mono ?_
  rw [hlen0]
  rintro e w1 ⟨rfl, rfl⟩
  clear hlen0
  go_wp2_with fail
  go_loopw [21] (fun ix wr => ∃ (i : Nat) (o : Par), i ≤ n ∧ ix = .int .i64 i ∧ (k < i → o = p) ∧ wr.heap[w.heap.size]? = some (.cells #[.string { data := #[] }, .int .i64 0, .int .u8 0] 97 (0, 0)) ∧ wr.heap[w.heap.size + 1]? = some (.cells #[.string o.1, .int .i64 o.2.1, .int .u8 o.2.2] 97 (0, 0)) ∧ IsP wr b c (l.drop i ++ (l.take i).eraseIdx k) ∧ w.grownBy wr (some c)) (fun ix _ => n - (intOf ix).toNat)
  case atStart => exact ⟨0, zp, Nat.zero_le _, rfl, fun h => absurd h (Nat.not_lt_zero _), heap_old (heap_alloc_new _ _), heap_new2 _ _, by simpa using ((H.out.keep (World.grownBy_alloc w _ none) (by simp) (by simp)).keep (World.grownBy_alloc _ _ none) (by simp) (by simp)), (World.grownBy_alloc w _ _).trans (World.grownBy_alloc _ _ _)⟩
  case round =>
    obtain ⟨i, ⟨os, oa, ob⟩, hi, rfl, ho, hr0, hr1, hx, hg⟩ := hrel
    have HO := Lib.hid ho
    have HX := Lib.hid hx
    have HG := Lib.hid hg
    have HR0 := Lib.hid hr0
    have HR1 := Lib.hid hr1
    have hq : w.heap.size + 1 < wr.heap.size := (Array.getElem?_eq_some_iff.1 hr1).1
    clear hx hg ho hr0 hr1
    by_cases hl : i < n
    · obtain ⟨x, hx1, hx2, hx3⟩ := split_at (l := l) (i := i) (by omega)
      have hln : (l.take i).length = i := by simp; omega
      have HX2 : Hid (IsP wr b c (x :: (l.drop (i + 1) ++ (l.take i).eraseIdx k))) := by have := HX.out; rwa [hx2] at this
      by_cases hik : i = k
      · subst hik
        obtain rfl : x = p := Option.some.inj (hx1.symm.trans HP.out)
        have HX3 : Hid (l.drop (i + 1) ++ (l.take i).eraseIdx i = l.drop (i + 1) ++ (l.take (i + 1)).eraseIdx i) := by
          show _ = _
          have e1 : (l.take i ++ [x]).eraseIdx i = l.take i := by
            have := erase_snoc_eq (l := l.take i) (x := x); rwa [hln] at this
          rw [hx3, e1, List.eraseIdx_of_length_le (by omega)]
        clear HX hx1 hx2 hx3
        go_wp2_with fail
        refine (take_par wr b c x _ HX2.out).mono ?_
        obtain ⟨ps, pa, pb⟩ := x
        rintro e w2 ⟨rfl, hx, hg⟩
        have HX4 := Lib.hid hx
        have HG4 := Lib.hid (HG.out.trans hg)
        have h0 := (hg.block w.heap.size (by omega) (fun e => by have := Option.some.inj e; omega)).trans HR0.out
        have h1 := (hg.block (w.heap.size + 1) hq (fun e => by have := Option.some.inj e; omega)).trans HR1.out
        have hs2 := hg.size
        clear hx hg
        obtain ⟨y0, y1, y2, y3⟩ := cell3 h1
        obtain ⟨k0, k1, k2, k3⟩ := cell3 (heap_old (o := .cells #[.string ps, .int .i64 pa, .int .u8 pb] 97) h1)
        have H0 := Lib.hid h0
        have H1 := Lib.hid h1
        clear h0 h1
        simp only [pv]
        go_wp2_with fail
        go_roundw
        case rel =>
          refine ⟨i + 1, (ps, pa, pb), by omega, by go_num, fun _ => rfl, (other3 (by omega)).trans (heap_old H0.out), heap_set3 (heap_old H1.out), ?_, ?_⟩
          · rw [← HX3.out]; exact keep_cell (HX4.out.alloc _) (by omega) (by omega)
          · exact grown_then (HG4.out.trans (World.grownBy_alloc _ _ _)) (below3 (Below.refl _ _) (by omega))
        case measure => simp [intOf]; omega
      · have hne : ((i : Int) = k) = False := by simp; omega
        have HX3 : Hid (l.drop (i + 1) ++ (l.take i).eraseIdx k ++ [x] = l.drop (i + 1) ++ (l.take (i + 1)).eraseIdx k) := by
          show _ = _
          rw [hx3, List.append_assoc]
          by_cases h2 : k < i
          · rw [erase_snoc_lt (by omega)]
          · rw [List.eraseIdx_of_length_le (by omega), List.eraseIdx_of_length_le (by simp; omega)]
        have hlen : (l.drop (i + 1) ++ (l.take i).eraseIdx k).length < 40 := by
          rw [List.length_append, List.length_drop, List.length_eraseIdx]; split <;> omega
        clear HX hx1 hx2 hx3
        go_wp2_with fail
        refine (take_par wr b c x _ HX2.out).mono ?_
        obtain ⟨ps, pa, pb⟩ := x
        rintro e w2 ⟨rfl, hx, hg⟩
        have HX4 := Lib.hid hx
        have HG4 := Lib.hid (HG.out.trans hg)
        have h0 := (hg.block w.heap.size (by omega) (fun e => by have := Option.some.inj e; omega)).trans HR0.out
        have h1 := (hg.block (w.heap.size + 1) hq (fun e => by have := Option.some.inj e; omega)).trans HR1.out
        have hs2 := hg.size
        clear hx hg
        have H0 := Lib.hid h0
        have H1 := Lib.hid h1
        clear h0 h1
        simp only [pv]
        go_wp2_with fail
        refine (put_par _ b c _ (ps, pa, pb) (HX4.out.alloc _)).mono ?_
        rw [if_pos hlen]
        rintro e w4 ⟨rfl, hx, hg⟩
        have HX6 := Lib.hid hx
        have HG6 := Lib.hid ((HG4.out.trans (World.grownBy_alloc _ _ _)).trans hg)
        have h0 := (hg.block w.heap.size (by simp; omega) (fun e => by have := Option.some.inj e; omega)).trans (heap_old H0.out)
        have h1 := (hg.block (w.heap.size + 1) (by simp; omega) (fun e => by have := Option.some.inj e; omega)).trans (heap_old H1.out)
        have H2 := Lib.hid h0
        have H3 := Lib.hid h1
        clear hx hg h0 h1
        go_wp2_with fail
        go_roundw
        case rel => exact ⟨i + 1, (os, oa, ob), by omega, by go_num, fun h => HO.out (by omega), H2.out, H3.out, by rw [← HX3.out]; exact HX6.out, HG6.out⟩
        case measure => simp [intOf]; omega
    · obtain rfl : i = n := by omega
      have ht : l.take i = l := List.take_of_length_le (by omega)
      have hd : l.drop i = [] := List.drop_eq_nil_of_le (by omega)
      have HX2 : Hid (IsP wr b c (l.eraseIdx k)) := by have := HX.out; rwa [ht, hd] at this
      have HO2 := Lib.hid (HO.out hk)
      clear ht hd HX
      obtain ⟨y0, y1, y2, y3⟩ := cell3 HR1.out
      obtain ⟨k0, k1, k2, k3⟩ := cell3 HR0.out
      go_wp2_with fail
      (try simp only [Exit.inBlock, Exit.then])
      refine bodyPost_ret (results_cell rfl rfl (heap_set3 HR0.out)) rfl ?_
      rw [← HO2.out]
      exact ⟨rfl, keep_cell HX2.out hlt.1 hlt.2.1, grown_then HG.out (below3 (Below.refl _ _) (Nat.le_refl _))⟩
end Box
end Go.Proofs.Ytdmpgoaemoiogaa
