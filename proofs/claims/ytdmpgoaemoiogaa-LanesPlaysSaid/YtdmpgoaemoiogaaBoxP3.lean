/- The walks: what is in a box of parcels, in order; the k-th taken out. -/
import Derived.Test.YtdmpgoaemoiogaaBoxP2
import Derived.Test.YtdmpgoaemoiogaaBoxL1
set_option linter.unusedVariables false
set_option linter.unusedSimpArgs false
set_option maxRecDepth 100000
namespace Go.Proofs.Ytdmpgoaemoiogaa
open Go.RowKit
namespace Box
/-- Parcels, as they lie in memory. -/
def pCells (l : List Par) : List Value := l.flatMap fun p => [.string p.1, .int .i64 p.2.1, .int .u8 p.2.2]
theorem pCells_append (l m : List Par) : pCells (l ++ m) = pCells l ++ pCells m := by simp [pCells]
theorem pCells_length : ∀ l : List Par, (pCells l).length = l.length * 3
  | [] => rfl
  | x :: l => by
    have := pCells_length l
    show (pCells l).length + 1 + 1 + 1 = _
    rw [this, List.length_cons]; omega
theorem pCells_at : ∀ (l : List Par) (i : Nat) (p : Par) (h : l[i]? = some p), (pCells l)[i * 3]? = some (.string p.1) ∧ (pCells l)[i * 3 + 1]? = some (.int .i64 p.2.1) ∧ (pCells l)[i * 3 + 2]? = some (.int .u8 p.2.2)
  | x :: l, 0, p, h => by
    obtain rfl : x = p := by simpa using h
    exact ⟨rfl, rfl, rfl⟩
  | x :: l, i + 1, p, h => by
    have := pCells_at l i p (by simpa using h)
    have e : pCells (x :: l) = .string x.1 :: .int .i64 x.2.1 :: .int .u8 x.2.2 :: pCells l := rfl
    rw [e, show (i + 1) * 3 = i * 3 + 1 + 1 + 1 by omega]
    exact ⟨by simpa using this.1, by simpa using this.2.1, by simpa using this.2.2⟩
theorem par_one (x : ByteArray) (y z : Int) : ∀ u ∈ [Value.string x, .int .i64 y, .int .u8 z], u.oneCell' = true := by
  intro u hu
  simp only [List.mem_cons, List.mem_nil_iff, or_false] at hu
  rcases hu with rfl | rfl | rfl <;> simp [Value.oneCell']
theorem sl_lit3 (w : World) (cs : Array Value) (e : TypeId) (size n : Nat) (hn : cs.size = n * size) (hm : n ≤ maxLen) :
    IsSl (w.alloc (.cells cs e)) size (some ⟨w.heap.size, 0, none⟩) n n cs.toList := by
  obtain ⟨A, c, h, r⟩ := own_form (World.ownsRow_lit (base := w.heap.size) (e := e) w cs n (Nat.le_refl _) hm hn)
  injection h with h1 h2 h3
  subst h1 h3
  exact r
theorem sl_lit3' (w : World) (o : Obj) (cs : Array Value) (e : TypeId) (size n : Nat) (hn : cs.size = n * size) (hm : n ≤ maxLen) :
    IsSl ((w.alloc o).alloc (.cells cs e)) size (some ⟨w.heap.size + 1, 0, none⟩) n n cs.toList := by
  have h := sl_lit3 (w.alloc o) cs e size n hn hm
  rwa [show (w.alloc o).heap.size = w.heap.size + 1 by simp] at h
theorem inf_par : (Try.prog.info? 97).map (fun i => (i.zero, i.size, i.bytes)) = some (some (.agg #[.string { data := #[] }, .int .i64 0, .int .u8 0]), 3, 32) := by kernel_rfl
theorem cell3 {w : World} {n : Nat} {x y z : Value} {t : TypeId} (h : w.heap[n]? = some (.cells #[x, y, z] t (0, 0))) :
    w.cell? ⟨n, 0, none⟩ = some x ∧ w.cell? ⟨n, 1, none⟩ = some y ∧ w.cell? ⟨n, 2, none⟩ = some z ∧ ∀ i, w.frozen? ⟨n, i, none⟩ = false :=
  ⟨by simp [World.cell?, h], by simp [World.cell?, h], by simp [World.cell?, h], fun i => by simp [World.frozen?, h]⟩
/-- A box's content, and a row of the call's own, apart from all that was. -/
def ListedP (w : World) (b c : Nat) (l : List Par) (x : Ending) (w' : World) : Prop :=
  ∃ v, x = .returned v ∧ w'.ownsRow w.heap.size 97 3 v l.length (pCells l) ∧ IsP w' b c l ∧ w.grownBy w' (some c)

set_option maxHeartbeats 2000000 in
theorem list_par (w : World) (b c : Nat) (l : List Par) (h : IsP w b c l) :
    Calls Try.prog 52 #[.pointer (some ⟨b, 0, none⟩)] w (ListedP w b c l) := by
  have H := Lib.hid h
  have hlt := h.lt
  have hroom := h.room
  have hlen0 := pvs_length l
  clear h
  go_enter Try.func52, Try.ntmps52
  go_wp2_with fail
  refine (len_par w b c 40 _ H.out).mono ?_
  rw [hlen0]
  rintro e w1 ⟨rfl, rfl⟩
  clear hlen0
  go_wp2_with fail
  generalize hn : l.length = n at *
  go_loopw [3, 8] (fun out ix wr => ∃ i : Nat, i ≤ n ∧ ix = .int .i64 i ∧ wr.ownsRow w1.heap.size 97 3 out i (pCells (l.take i)) ∧ IsP wr b c (l.drop i ++ l.take i) ∧ w1.grownBy wr (some c)) (fun _ ix _ => n - (intOf ix).toNat)
  case atStart => exact ⟨0, Nat.zero_le _, rfl, World.ownsRow_nil _ _ _ _, by simpa using H.out, World.grownBy.refl _ _⟩
  case round =>
    obtain ⟨i, hi, rfl, ho, hx, hg⟩ := hrel
    obtain ⟨A, ca, rfl, hsl⟩ := own_form ho
    have HO := Lib.hid ho
    have HX := Lib.hid hx
    have HG := Lib.hid hg
    have hgs := hg.size
    clear ho hx hg hsl
    by_cases hl : i < n
    · obtain ⟨p, hx1, hx2, hx3⟩ := split_at (l := l) (i := i) (by omega)
      have HX2 : Hid (IsP wr b c (p :: (l.drop (i + 1) ++ l.take i))) := by have := HX.out; rwa [hx2] at this
      have HX3 := Lib.hid hx3
      clear HX hx1 hx2 hx3
      go_wp2_with fail
      refine (take_par wr b c p _ HX2.out).mono ?_
      obtain ⟨ps, pa, pb⟩ := p
      rintro e w2 ⟨rfl, hx, hg⟩
      have HX4 := Lib.hid hx
      have HG4 := Lib.hid (HG.out.trans hg)
      have HO4 := Lib.hid (own_grown HO.out hg (fun g hg => by have := (HO.out.lt g hg).1; intro e; simp only [Option.some.injEq] at e; omega))
      have hgs4 := HG4.out.size
      have hown2 : ∀ g, (Value.slice A i ca).ownBlock = some g → g < w2.heap.size ∧ w1.heap.size ≤ g := fun g hg => ⟨(HO4.out.lt g hg).2, (HO4.out.lt g hg).1⟩
      have HOWN := Lib.hid hown2
      clear hx hg hown2
      simp only [pv]
      go_wp2_with (at_builtin; go_loud (refine wpList_app_own _ rfl (.tmp 15) (.tmp 17) 100 rfl w1.heap.size 97 (.agg #[.string { data := #[] }, .int .i64 0, .int .u8 0]) 3 32 Try.underlying100 inf_par rfl (by decide) _ i (pCells (l.take i)) rfl (own_below HO4.out (((Below.refl _ _).alloc (Nat.le_refl _) _).alloc (by simp) _)) _ 1 1 [.string ps, .int .i64 pa, .int .u8 pb] rfl (sl_lit3' w2 _ #[.string ps, .int .i64 pa, .int .u8 pb] 97 3 1 rfl (by decide)) (par_one _ _ _) (by unfold maxLen; omega) (by omega) (by simp; omega) ?_))
      intro v' w3 ho3 hg3 _
      have HG3 : Hid (w2.grownBy w3 (Value.slice A i ca).ownBlock) := (World.grownBy_alloc w2 _ _).trans ((World.grownBy_alloc _ _ _).trans hg3)
      have HX5 : Hid (IsP w3 b c (l.drop (i + 1) ++ l.take i)) := HX4.out.keep HG3.out (fun e => by have := (HOWN.out b e.symm).2; omega) (fun e => by have := (HOWN.out c e.symm).2; omega)
      have HG5 : Hid (w1.grownBy w3 (some c)) := HG4.out.andThen HG3.out fun j hj => .inl (HOWN.out j hj).2
      have HO5 := Lib.hid ho3
      have hgs5 := HG5.out.size
      obtain ⟨y0, y1, y2, y3⟩ := cell3 (w := w3) (n := w2.heap.size) (x := .string ps) (y := .int .i64 pa) (z := .int .u8 pb) (t := 97) (by
        rw [hg3.block w2.heap.size (by simp; omega) (fun e => by have := (HOWN.out _ e.symm).1; omega)]
        exact heap_old (heap_alloc_new _ _))
      clear ho3 hg3
      go_wp2_with fail
      refine (put_par w3 b c _ (ps, pa, pb) HX5.out).mono ?_
      have hlen : (l.drop (i + 1) ++ l.take i).length < 40 := by simp; omega
      rw [if_pos hlen]
      rintro e w4 ⟨rfl, hx, hg⟩
      have HX6 := Lib.hid hx
      have HG6 := Lib.hid (HG5.out.trans hg)
      have HO6 := Lib.hid (own_grown HO5.out hg (fun g hg => by have := (HO5.out.lt g hg).1; intro e; simp only [Option.some.injEq] at e; omega))
      clear hx hg
      go_wp2_with fail
      go_roundw
      case rel =>
        refine ⟨i + 1, by omega, by go_num, ?_, ?_, HG6.out⟩
        · rw [HX3.out, pCells_append]; exact HO6.out
        · rw [HX3.out, ← List.append_assoc]; exact HX6.out
      case measure => simp [intOf]; omega
    · obtain rfl : i = n := by omega
      have ht : l.take i = l := List.take_of_length_le (by omega)
      have hd : l.drop i = [] := List.drop_eq_nil_of_le (by omega)
      have HT := Lib.hid ht
      have HD := Lib.hid hd
      clear ht hd
      go_wp2_with fail
      go_ret
      exact ⟨_, rfl, by have := HO.out; rw [HT.out] at this; rw [hn]; exact this, by have := HX.out; rw [HT.out, HD.out] at this; exact this, HG.out⟩
end Box
end Go.Proofs.Ytdmpgoaemoiogaa
