/- Export: Read: the walk. -/
import Derived.Test.YtfohollhdaedlaaDoorExp14
set_option linter.unusedVariables false
set_option linter.unusedSimpArgs false
set_option maxRecDepth 100000
namespace Go.Proofs.YtfohollhdaedlaaDoor
open Go.RowKit
attribute [local go_sem] Oper.semAt_some
namespace Exp
theorem heap7 (w : World) (o0 o1 o2 o3 o4 o5 o6 : Obj) : (((((((w.alloc o0).alloc o1).alloc o2).alloc o3).alloc o4).alloc o5).alloc o6).heap[w.heap.size]? = some o0 ∧ (((((((w.alloc o0).alloc o1).alloc o2).alloc o3).alloc o4).alloc o5).alloc o6).heap[w.heap.size + 1]? = some o1 ∧
    (((((((w.alloc o0).alloc o1).alloc o2).alloc o3).alloc o4).alloc o5).alloc o6).heap[w.heap.size + 1 + 1]? = some o2 ∧ (((((((w.alloc o0).alloc o1).alloc o2).alloc o3).alloc o4).alloc o5).alloc o6).heap[w.heap.size + 1 + 1 + 1]? = some o3 ∧
    (((((((w.alloc o0).alloc o1).alloc o2).alloc o3).alloc o4).alloc o5).alloc o6).heap[w.heap.size + 1 + 1 + 1 + 1]? = some o4 ∧ (((((((w.alloc o0).alloc o1).alloc o2).alloc o3).alloc o4).alloc o5).alloc o6).heap[w.heap.size + 1 + 1 + 1 + 1 + 1]? = some o5 ∧
    (((((((w.alloc o0).alloc o1).alloc o2).alloc o3).alloc o4).alloc o5).alloc o6).heap[w.heap.size + 1 + 1 + 1 + 1 + 1 + 1]? = some o6 := by
  refine ⟨?_, ?_, ?_, ?_, ?_, ?_, ?_⟩ <;> (simp only [World.alloc, Array.getElem?_push, Array.size_push]; repeat (first | rw [if_pos trivial] | rw [if_neg (by omega)]))
theorem RM.count {N k : Nat} {l : List DocM} {W : World} (h : RM N l k W) : RM N l (k + 1) (W.setCell ⟨N + 1 + 1 + 1 + 1 + 1, 0, none⟩ (.int .i64 ((k : Int) + 1))) := by
  have far : ∀ {i : Nat} {o : Obj}, W.heap[i]? = some o → i ≠ N + 1 + 1 + 1 + 1 + 1 → (W.setCell ⟨N + 1 + 1 + 1 + 1 + 1, 0, none⟩ (.int .i64 ((k : Int) + 1))).heap[i]? = some o := fun {i o} hi hne =>
    (Below.heap_setCell _ ⟨N + 1 + 1 + 1 + 1 + 1, 0, none⟩ _ i hne).trans hi
  obtain ⟨hB, v, h1, h2, h3⟩ := h.rd
  exact ⟨far h.c0 (by omega), far h.c1 (by omega), far h.c2 (by omega), ⟨hB, v, far h1 (by omega), h2.kept (grown_cell (n := N + 1 + 1 + 1 + 1 + 1) (i := 0) _) (.inr fun e => own_ne h2 h.c5 (by decide) e.symm), h3⟩, far h.c4 (by omega), heap_set1 h.c5⟩
theorem ShL.far {b i : Nat} {W : World} {x : Value} (h : ShL b W) (hi : b ≠ i) : ShL b (W.setCell ⟨i, 0, none⟩ x) := by
  obtain ⟨v, hv⟩ := h
  exact ⟨v, (Below.heap_setCell _ ⟨i, 0, none⟩ x b hi).trans hv⟩
/-- Behind a line. -/
theorem RM.line {N k : Nat} {l l' : List DocM} {W W' : World} (h : RM N l k W) (hsh : ShL (N + 1 + 1 + 1 + 1 + 1 + 1) W) (hs : StepR N (N + 1 + 1 + 1) W l' W') : RM N l' k W' ∧ W'.heap[N + 1 + 1 + 1 + 1 + 1 + 1]? = W.heap[N + 1 + 1 + 1 + 1 + 1 + 1]? := by
  obtain ⟨hr, hb, hk⟩ := hs
  have far : ∀ {i : Nat} {cs : Array Value} {t : TypeId}, W.heap[i]? = some (.cells cs t (0, 0)) → i ≠ N + 1 + 1 + 1 → t ≠ 33 → W'.heap[i]? = some (.cells cs t (0, 0)) := fun {i cs t} hi hne ht =>
    hk i _ hi hne (fun cs' fr e => by injection e with _ e; exact ht e)
  obtain ⟨v, hv⟩ := hsh
  have h6 := far hv (by omega) (by decide)
  exact ⟨⟨far h.c0 (by omega) (by decide), far h.c1 (by omega) (by decide), far h.c2 (by omega) (by decide), hr.x ⟨v, h6⟩, far h.c4 (by omega) (by decide), far h.c5 (by omega) (by decide)⟩, h6.trans hv.symm⟩
theorem keeps_of_kept {B b : Nat} {W W' : World} (h : KeptR b W W') (hs : W.heap.size ≤ W'.heap.size) (hb : b < B) : KeepsFrom B W W' :=
  ⟨hs, fun k o hk ho hc => h k o ho (by omega) (fun cs fr e => by rw [e] at hc; cases hc)⟩
theorem keeps_cell {B i : Nat} {W : World} {x : Value} (j : Nat) (hi : i < B) : KeepsFrom B W (W.setCell ⟨i, j, none⟩ x) :=
  KeepsFrom.of_grownBy (grown_cell (n := i) (i := j) x) (fun r e => by have := Option.some.inj e; omega)
theorem ends_mem {x : B8} : ∀ {l : List B8}, x ∈ l → x.length ≤ (ends l).length
  | [], h => by cases h
  | y :: l, h => by
    rw [ends_cons]
    rcases List.mem_cons.1 h with rfl | h
    · simp
    · have := ends_mem h
      simp; omega
theorem line_len {s x : B8} {k : Nat} (h : (linesOf s).1[k]? = some x) : x.length ≤ s.length := by
  have h1 := ends_mem (List.mem_of_getElem? h)
  have h2 := congrArg List.length (ends_linesOf s)
  rw [List.length_append] at h2
  omega
theorem fail3 {B N : Nat} {w w2 : World} {a0 a1 a2 x0 x1 x2 : Value} {t0 t1 t2 : TypeId} (z0 : w2.heap[N]? = some (.cells #[a0] t0 (0, 0))) (z1 : w2.heap[N + 1]? = some (.cells #[a1] t1 (0, 0))) (z2 : w2.heap[N + 1 + 1]? = some (.cells #[a2] t2 (0, 0))) (hb : Below N w w2) (hB : N + 1 + 1 < B) :
    KeepsFrom B w2 (((w2.setCell ⟨N, 0, none⟩ x0).setCell ⟨N + 1, 0, none⟩ x1).setCell ⟨N + 1 + 1, 0, none⟩ x2) ∧
    (((w2.setCell ⟨N, 0, none⟩ x0).setCell ⟨N + 1, 0, none⟩ x1).setCell ⟨N + 1 + 1, 0, none⟩ x2).heap[N]? = some (.cells #[x0] t0 (0, 0)) ∧
    (((w2.setCell ⟨N, 0, none⟩ x0).setCell ⟨N + 1, 0, none⟩ x1).setCell ⟨N + 1 + 1, 0, none⟩ x2).heap[N + 1]? = some (.cells #[x1] t1 (0, 0)) ∧
    (((w2.setCell ⟨N, 0, none⟩ x0).setCell ⟨N + 1, 0, none⟩ x1).setCell ⟨N + 1 + 1, 0, none⟩ x2).heap[N + 1 + 1]? = some (.cells #[x2] t2 (0, 0)) ∧
    Below N w (((w2.setCell ⟨N, 0, none⟩ x0).setCell ⟨N + 1, 0, none⟩ x1).setCell ⟨N + 1 + 1, 0, none⟩ x2) := by
  have far : ∀ (W : World) (i j : Nat) (x : Value) (o : Obj), j ≠ i → W.heap[j]? = some o → (W.setCell ⟨i, 0, none⟩ x).heap[j]? = some o := fun W i j x o hne h => (Below.heap_setCell W ⟨i, 0, none⟩ x j hne).trans h
  refine ⟨((keeps_cell 0 (by omega)).trans (keeps_cell 0 (by omega))).trans (keeps_cell 0 (by omega)), far _ _ _ _ _ (by omega) (far _ _ _ _ _ (by omega) (heap_set1 z0)), far _ _ _ _ _ (by omega) (heap_set1 (far _ _ _ _ _ (by omega) z1)), heap_set1 (far _ _ _ _ _ (by omega) (far _ _ _ _ _ (by omega) z2)), ?_⟩
  exact ((hb.setCell (p := ⟨N, 0, none⟩) (Nat.le_refl _) _).setCell (p := ⟨N + 1, 0, none⟩) (by simp) _).setCell (p := ⟨N + 1 + 1, 0, none⟩) (by simp; omega) _
theorem KeepsFrom.drewR {B : Nat} {W W' : World} (h : KeepsFrom B W W') : KeepsFrom B W W'.drew := ⟨h.size, h.same⟩
theorem done3 {N D q c : Nat} {w W : World} {A : Option Addr} {xs : List Value} {a0 a1 a2 x0 x1 x2 : Value} {t0 t1 t2 : TypeId} {o o' : Obj} (z0 : W.heap[N]? = some (.cells #[a0] t0 (0, 0))) (z1 : W.heap[N + 1]? = some (.cells #[a1] t1 (0, 0))) (z2 : W.heap[N + 1 + 1]? = some (.cells #[a2] t2 (0, 0))) (hb : Below N w W)
    (n0 : t0 ≠ 33) (n1 : t1 ≠ 33) (n2 : t2 ≠ 33) (hD : N + 1 + 1 < D) (hd : W.heap[D]? = some o) (hoc : o.isCells = false) (ho : W.ownsRow N 33 5 (.slice A q c) q xs) :
    (((W.setCell ⟨N, 0, none⟩ x0).setCell ⟨N + 1, 0, none⟩ x1).setCell ⟨N + 1 + 1, 0, none⟩ x2).heap[D]? = some o ∧
    IsSl ((((W.setCell ⟨N, 0, none⟩ x0).setCell ⟨N + 1, 0, none⟩ x1).setCell ⟨N + 1 + 1, 0, none⟩ x2).putObj D o') 5 A q c xs ∧
    ((((W.setCell ⟨N, 0, none⟩ x0).setCell ⟨N + 1, 0, none⟩ x1).setCell ⟨N + 1 + 1, 0, none⟩ x2).putObj D o').cell? ⟨N, 0, none⟩ = some x0 ∧
    ((((W.setCell ⟨N, 0, none⟩ x0).setCell ⟨N + 1, 0, none⟩ x1).setCell ⟨N + 1 + 1, 0, none⟩ x2).putObj D o').cell? ⟨N + 1, 0, none⟩ = some x1 ∧
    ((((W.setCell ⟨N, 0, none⟩ x0).setCell ⟨N + 1, 0, none⟩ x1).setCell ⟨N + 1 + 1, 0, none⟩ x2).putObj D o').cell? ⟨N + 1 + 1, 0, none⟩ = some x2 ∧
    Below N w ((((W.setCell ⟨N, 0, none⟩ x0).setCell ⟨N + 1, 0, none⟩ x1).setCell ⟨N + 1 + 1, 0, none⟩ x2).putObj D o') := by
  obtain ⟨_, f0, f1, f2, f3⟩ := fail3 (B := D) (x0 := x0) (x1 := x1) (x2 := x2) z0 z1 z2 hb hD
  have far : ∀ (V : World) (i : Nat) (x : Value), D ≠ i → V.heap[D]? = some o → (V.setCell ⟨i, 0, none⟩ x).heap[D]? = some o := fun V i x hne h => (Below.heap_setCell V ⟨i, 0, none⟩ x D hne).trans h
  have hd3 := far _ (N + 1 + 1) x2 (by omega) (far _ (N + 1) x1 (by omega) (far _ N x0 (by omega) hd))
  have e0 := own_ne ho z0 n0
  have e1 := own_ne ho z1 n1
  have e2 := own_ne ho z2 n2
  have ho3 := ((ho.kept (grown_cell (n := N) (i := 0) x0) (.inr fun e => e0 e.symm)).kept (grown_cell (n := N + 1) (i := 0) x1) (.inr fun e => e1 e.symm)).kept (grown_cell (n := N + 1 + 1) (i := 0) x2) (.inr fun e => e2 e.symm)
  generalize ((W.setCell ⟨N, 0, none⟩ x0).setCell ⟨N + 1, 0, none⟩ x1).setCell ⟨N + 1 + 1, 0, none⟩ x2 = V at *
  have hg := grownBy_putObj' V D o'
  have ho4 := ho3.kept hg (by
    rcases ho3.2 with ⟨hv, _⟩ | ⟨g, cap, cur, hv, _, hgg, _⟩
    · rw [hv]; exact .inl rfl
    · refine .inr fun e => ?_
      rw [hv] at e
      have : g = D := Option.some.inj e
      subst this
      rw [hgg] at hd3; cases hd3; cases hoc)
  obtain ⟨A', c', hv, hsl⟩ := own_form ho4
  injection hv with hv1 hv2 hv3
  subst hv1 hv3
  have put : ∀ {i : Nat} {x : Value} {t : TypeId}, V.heap[i]? = some (.cells #[x] t (0, 0)) → i ≠ D → (V.putObj D o').cell? ⟨i, 0, none⟩ = some x := fun {i x t} h hne => (head1 ((World.putObj_heap_other hne).trans h)).1
  refine ⟨hd3, hsl, put f0 (by omega), put f1 (by omega), put f2 (by omega), f3.grown hg (by have := (Array.getElem?_eq_some_iff.1 f0).1; omega) (fun r e => by have := Option.some.inj e; omega)⟩
set_option maxHeartbeats 8000000 in
theorem read_calls (s : ByteArray) (hs : s.size ≤ 65536) (w : World) (hH : LaidH w) : Calls Tryd.prog 11 #[.string s] w (ReadP (by8 s) w) := by
  have hs1 : ¬ ((65536 : Int) < s.size) := by omega
  have HG := Lib.hid (lines1_gives (6 - 1) (w.heap.size + 1 + 1 + 1 + 1 + 1 + 1) (by decide) (by8 s) (by rw [by8_len]; omega))
  have HH := Lib.hid hH
  clear hH
  refine (callsIn_wide (n := 6)).1 ?_
  refine callsIn_of_wp_marks Tryd.func11 rfl trivial ?_ rfl
  simp only [Tryd.ntmps11, List.size_toArray, List.length_cons, List.length_nil, Nat.reduceAdd, Nat.reduceSub, Array.replicate_succ, Array.replicate_zero, List.push_toArray, List.append_toArray, List.nil_append, List.cons_append]
  gi_wp2_with (refine ⟨trivial, ?_⟩; gi_at_call 37; refine (callsIn_wide.2 (lines0_calls s _)).mono ?_; rintro e w' ⟨rfl, rfl⟩)
  have q0 := World.alloc_heap_new w (.cells #[.slice none 0 0] 23)
  generalize hW : (((((((w.alloc (Obj.cells #[Value.slice none 0 0] 23)).alloc (Obj.cells #[Value.int IntKind.i64 0] 3)).alloc (Obj.cells #[Value.int IntKind.i64 0] 24)).alloc (Obj.cells #[Value.slice none 0 0, Value.int IntKind.i64 0] 67)).alloc (Obj.cells #[Value.pointer (some { block := w.heap.size + 1 + 1 + 1, off := 0 })] 65)).alloc (Obj.cells #[Value.int IntKind.i64 0] 3)).alloc (Obj.cells #[Value.string s] 9)) = W0
  have hsz : W0.heap.size = w.heap.size + 1 + 1 + 1 + 1 + 1 + 1 + 1 := by rw [← hW]; simp
  have hb0 : Below w.heap.size w W0 := by
    rw [← hW]
    exact ((((((((Below.refl _ w).alloc (Nat.le_refl _) _).alloc (by simp) _).alloc (by simp; omega) _).alloc (by simp; omega) _).alloc (by simp; omega) _).alloc (by simp; omega) _).alloc (by simp; omega) _)
  have hc : W0.heap[w.heap.size]? = some (.cells #[.slice none 0 0] 23 (0, 0)) ∧ W0.heap[w.heap.size + 1]? = some (.cells #[.int .i64 0] 3 (0, 0)) ∧ W0.heap[w.heap.size + 1 + 1]? = some (.cells #[.int .i64 0] 24 (0, 0)) ∧
      W0.heap[w.heap.size + 1 + 1 + 1]? = some (.cells #[.slice none 0 0, .int .i64 0] 67 (0, 0)) ∧ W0.heap[w.heap.size + 1 + 1 + 1 + 1]? = some (.cells #[.pointer (some ⟨w.heap.size + 1 + 1 + 1, 0, none⟩)] 65 (0, 0)) ∧
      W0.heap[w.heap.size + 1 + 1 + 1 + 1 + 1]? = some (.cells #[.int .i64 0] 3 (0, 0)) ∧ W0.heap[w.heap.size + 1 + 1 + 1 + 1 + 1 + 1]? = some (.cells #[.string s] 9 (0, 0)) := by
    rw [← hW]; exact heap7 w _ _ _ _ _ _ _
  clear hW q0
  obtain ⟨c0, c1, c2, c3, c4, c5, c6⟩ := hc
  have hs0 : mk8 (by8 s) = s := rfl
  obtain ⟨N, hN⟩ : ∃ N, w.heap.size = N := ⟨_, rfl⟩
  obtain ⟨m, hm⟩ : ∃ m, (pcs (by8 s)).length = m := ⟨_, rfl⟩
  rw [hm] at HG
  rw [hN] at hsz hb0 c0 c1 c2 c3 c4 c5 c6 HG ⊢
  have hRM : RM N [] 0 W0 := ⟨c0, c1, c2, ⟨by omega, .slice none 0 0, c3, ⟨rfl, .inl ⟨rfl, rfl⟩⟩, by simp [Value.ownBlock]⟩, c4, c5⟩
  have HM := Lib.hid hm
  have HN := Lib.hid hN
  have HSZ := Lib.hid hsz
  have HB0 := Lib.hid hb0
  have HRM := Lib.hid hRM
  have HC6 : Hid (StL (N + 1 + 1 + 1 + 1 + 1 + 1) (by8 s) W0) := c6
  clear hm hN hsz hb0 hRM c0 c1 c2 c3 c4 c5 c6 hs0
  refine Rg.wpIn_range_row rfl (by decide) (gf := 76) (lb := #[.pointer (some ⟨N + 1 + 1 + 1 + 1 + 1 + 1, 0, none⟩)]) rfl trivial (enters_of Tryd.func76 (by kernel_rfl) rfl) HG.out
    (fun A B h => fun ⟨v, hv⟩ => ⟨v, h.trans hv⟩) (fun W h => h.trans HC6.out) (by rw [HSZ.out]; omega) (fun _ => rfl)
    (fun k W => ∃ l, k ≤ (linesOf (by8 s)).1.length ∧ readL [] 0 ((linesOf (by8 s)).1.take k) = (l, none) ∧ l.length ≤ k ∧ RM N l k W ∧ Below N w W)
    (fun k W => readF (by8 s) = ([], some k) ∧ W.heap[N]? = some (.cells #[.slice none 0 0] 23 (0, 0)) ∧ W.heap[N + 1]? = some (.cells #[.int .i64 (k : Int)] 3 (0, 0)) ∧ W.heap[N + 1 + 1]? = some (.cells #[.int .i64 17] 24 (0, 0)) ∧ Below N w W)
    ?bides ?own ?ownx ?start (fun k => { tmps := #[.string s, undef, .pointer (some ⟨N, 0, none⟩), .pointer (some ⟨N + 1, 0, none⟩), .pointer (some ⟨N + 1 + 1, 0, none⟩), .pointer (some ⟨N + 1 + 1 + 1 + 1, 0, none⟩), .pointer (some ⟨N + 1 + 1 + 1 + 1 + 1, 0, none⟩), .string (mk8 ((pcs (by8 s)).getD k [])), undef, undef, .string s, .int .i64 s.size, .bool false, .agg #[.slice none 0 0, .int .i64 0], .pointer (some ⟨N + 1 + 1 + 1, 0, none⟩), .string s, .func (.func 76) #[] #[.pointer (some ⟨N + 1 + 1 + 1 + 1 + 1 + 1, 0, none⟩)], .string (mk8 ((pcs (by8 s)).getD k [])), undef, undef, undef, undef, undef, undef, undef, undef, undef, undef, undef, undef, undef, undef, undef, undef, undef, undef, undef, undef], defers := [] }) ?assign ?body ?done ?stop
  case bides =>
    rintro k A C ⟨l, h1, h2, h3, h4, h5⟩ hg
    exact ⟨l, h1, h2, h3, h4.kept hg (fun r cs t fr e _ => (Option.some.inj e).symm), h5.grown hg (by have := h5.size; have := HN.out; omega) (fun r e => by have := Option.some.inj e; omega)⟩
  case own =>
    rintro k A C row ⟨l, h1, h2, h3, h4, h5⟩ hg hr
    exact ⟨l, h1, h2, h3, h4.kept hg (fun r cs t fr e hc => by obtain ⟨_, o, ho, hn⟩ := hr r e; rw [hc] at ho; cases ho; cases hn), h5.grown hg (by have := h5.size; have := HN.out; omega) (fun r e => by have := (hr r e).1; rw [HSZ.out] at this; omega)⟩
  case ownx =>
    rintro k A C row ⟨h1, h2, h3, h4, h5⟩ hg hr
    have far : ∀ {i : Nat} {o : Obj}, A.heap[i]? = some o → i < N + 1 + 1 + 1 → C.heap[i]? = some o := fun {i o} hi hlt => (hg.block i (Array.getElem?_eq_some_iff.1 hi).1 (fun e => by have := (hr i e.symm).1; rw [HSZ.out] at this; omega)).trans hi
    exact ⟨h1, far h2 (by omega), far h3 (by omega), far h4 (by omega), h5.grown hg (by have := h5.size; have := HN.out; omega) (fun r e => by have := (hr r e).1; rw [HSZ.out] at this; omega)⟩
  case start => exact ⟨[], Nat.zero_le _, rfl, Nat.le_refl _, HRM.out, HB0.out⟩
  case assign =>
    intro l k W K hK
    gi_wp2
    exact hK
  case body =>
    rintro l k W hk ⟨dl, h1, h2, h3, h4, h5⟩ hsh
    have hkm : k < (pcs (by8 s)).length := by rw [HM.out]; exact hk
    have hL := lines_len (by8 s)
    rw [by8_len] at hL
    have hklt : k ≤ 65536 := by omega
    have hw1 : IntKind.i64.wrap ((k : Int) + 1) = (k : Int) + 1 := by rw [IntKind.wrap_i64]; omega
    have HPC := Lib.hid (piece hkm)
    have HBW : Hid (∀ W', Below W.heap.size W W' → Below N w W') := fun W' h => h5.trans (h.mono (by have := h5.size; have := HN.out; omega))
    obtain ⟨pc, hpc⟩ : ∃ pc, mk8 ((pcs (by8 s)).getD k []) = pc := ⟨_, rfl⟩
    obtain ⟨x0, x1⟩ := head1 h4.c5
    have HC := Lib.hid h4.count
    have HSH := Lib.hid (hsh.far (x := .int .i64 ((k : Int) + 1)) (i := N + 1 + 1 + 1 + 1 + 1) (by omega))
    have HB5 := Lib.hid (h5.setCell (p := ⟨N + 1 + 1 + 1 + 1 + 1, 0, none⟩) (by simp; omega) (.int .i64 ((k : Int) + 1)))
    have HRL := Lib.hid h2
    rw [hpc]
    clear h2 h4 h5 hsh hkm hL
    rcases HPC.out with ⟨x, hx, hp⟩ | ⟨hkl, hp, hr⟩
    · have HXX := Lib.hid hx
      have hxl := line_len hx
      rw [by8_len] at hxl
      rw [hp] at hpc
      obtain ⟨xs, hxs⟩ : ∃ xs, mk8 x = xs := ⟨_, rfl⟩
      have hxz : xs.size ≤ 65536 := by rw [← hxs, mk8_size]; omega
      have hpz : pc.size ≤ 65537 := by rw [← hpc, mk8_size]; simp; omega
      have CS := Lib.hid (cutSuf pc { data := #[10] } (by omega) (W.setCell ⟨N + 1 + 1 + 1 + 1 + 1, 0, none⟩ (.int .i64 ((k : Int) + 1))))
      have HBP : Hid (by8 pc = x ++ [10]) := by show _ = _; rw [← hpc]; rfl
      have HBX : Hid (by8 xs = x) := by show _ = _; rw [← hxs]; rfl
      rw [HBP.out, show by8 { data := #[10] } = [10] from rfl, (suf_yes x).1, (suf_yes x).2, hxs] at CS
      have CL := Lib.hid (line_calls _ N (N + 1 + 1 + 1) dl HC.out.rd.r (HH.out.below (by rw [HN.out]; exact HB5.out)) xs (by omega) (by omega))
      obtain ⟨y0, y1⟩ := head1 HC.out.c4
      clear hx hp hpc hxs hxl HPC
      gi_wp2_with fail
      refine ⟨trivial, ?_⟩
      refine (CallsIn.inRound l (callsIn_wide.2 CS.out)).mono ?_
      rintro e w1 ⟨rfl, rfl⟩
      clear CS x0 x1
      gi_wp2_with fail
      refine ⟨trivial, ?_⟩
      refine (CallsIn.inRound l (callsIn_wide.2 CL.out)).mono ?_
      rintro e w2 (⟨l2, hl2, rfl, hst⟩ | ⟨hl2, rfl, hb2, hk2⟩)
      · rw [HBX.out] at hl2
        have HLN := Lib.hid (lineF_len hl2)
        have HL2 := Lib.hid (readL_next HRL.out HXX.out hl2)
        have HST := Lib.hid hst
        have HML := Lib.hid (HC.out.line HSH.out hst)
        have HKL : Hid (k + 1 ≤ (linesOf (by8 s)).1.length) := by
          have := (List.getElem?_eq_some_iff.1 HXX.out).1
          show _ ≤ _; omega
        clear hl2 hst CL y0 y1 HC HSH
        gi_wp2_with fail
        exact ⟨(keeps_cell 0 (by rw [HSZ.out]; omega)).trans (keeps_of_kept HST.out.2.2 HST.out.2.1.size (by rw [HSZ.out]; omega)), HML.out.2.trans (Below.heap_setCell _ ⟨N + 1 + 1 + 1 + 1 + 1, 0, none⟩ _ _ (by simp)), l2, HKL.out, HL2.out, by have := HLN.out; omega, HML.out.1, HB5.out.trans HST.out.2.1⟩
      · rw [HBX.out] at hl2
        have HL2 := Lib.hid (readF_stop (readL_stop HRL.out HXX.out hl2))
        have far : ∀ {i : Nat} {cs : Array Value} {t : TypeId}, (W.setCell ⟨N + 1 + 1 + 1 + 1 + 1, 0, none⟩ (.int .i64 ((k : Int) + 1))).heap[i]? = some (.cells cs t (0, 0)) → i ≠ N + 1 + 1 + 1 → t ≠ 33 → w2.heap[i]? = some (.cells cs t (0, 0)) := fun {i cs t} hi hne ht =>
          hk2 i _ hi hne (fun cs' fr e => by injection e with _ e; exact ht e)
        have z0 := far HC.out.c0 (by omega) (by decide)
        have z1 := far HC.out.c1 (by omega) (by decide)
        have z2 := far HC.out.c2 (by omega) (by decide)
        have z5 := far HC.out.c5 (by omega) (by decide)
        clear far
        have HZ0 := Lib.hid z0
        have HZ1 := Lib.hid z1
        have HZ2 := Lib.hid z2
        have HK2 := Lib.hid hk2
        have HB2 := Lib.hid hb2
        obtain ⟨r0, r1⟩ := head1 z0
        obtain ⟨r2, r3⟩ := head1 z1
        obtain ⟨r4, r5⟩ := head1 z2
        obtain ⟨r6, r7⟩ := head1 z5
        clear hl2 hk2 hb2 CL y0 y1 HC HSH z0 z1 z2 z5
        gi_wp2_with fail
        gi_region
        all_goals (
          clear r0 r1 r2 r3 r4 r5 r6 r7
          gi_wp2_with fail
          have hf := fail3 (B := W0.heap.size) (x0 := .slice none 0 0) (x1 := .int .i64 ((k : Int) + 1)) (x2 := .int .i64 17) HZ0.out HZ1.out HZ2.out (HB5.out.trans HB2.out) (by rw [HSZ.out]; omega)
          exact ⟨(keeps_cell 0 (by rw [HSZ.out]; omega)).trans ((keeps_of_kept HK2.out HB2.out.size (by rw [HSZ.out]; omega)).trans (KeepsFrom.drewR hf.1)), HL2.out, hf.2.1, hf.2.2.1, hf.2.2.2.1, hf.2.2.2.2.drew⟩)
    · rw [hp] at hpc
      have hpz : pc.size ≤ 65536 := by
        rw [← hpc, mk8_size]
        have h2 := congrArg List.length (ends_linesOf (by8 s))
        rw [List.length_append, by8_len] at h2
        omega
      have HBP : Hid (by8 pc = (linesOf (by8 s)).2) := by show _ = _; rw [← hpc]; rfl
      have CS := Lib.hid (cutSuf pc { data := #[10] } (by omega) (W.setCell ⟨N + 1 + 1 + 1 + 1 + 1, 0, none⟩ (.int .i64 ((k : Int) + 1))))
      rw [show Lib.hasSuffix (by8 pc) (by8 { data := #[10] }) = false from by rw [HBP.out]; exact suf_no (linesOf_no10 _).2] at CS
      have HL2 : Hid (readF (by8 s) = ([], some (k + 1))) := by
        have h := HRL.out
        rw [List.take_of_length_le (by omega)] at h
        show _ = _
        rw [readF_rest h hr, ← hkl]
      obtain ⟨r0, r1⟩ := head1 HC.out.c0
      obtain ⟨r2, r3⟩ := head1 HC.out.c1
      obtain ⟨r4, r5⟩ := head1 HC.out.c2
      obtain ⟨r6, r7⟩ := head1 HC.out.c5
      clear hp hpc hkl hr HPC
      gi_wp2_with fail
      refine ⟨trivial, ?_⟩
      refine (CallsIn.inRound l (callsIn_wide.2 CS.out)).mono ?_
      rintro e w2 ⟨rfl, rfl⟩
      clear CS x0 x1
      gi_wp2_with fail
      refine ⟨trivial, ?_⟩
      gi_wp2_with fail
      gi_region
      all_goals (
        clear r0 r1 r2 r3 r4 r5 r6 r7
        gi_wp2_with fail
        have hf := fail3 (B := W0.heap.size) (x0 := .slice none 0 0) (x1 := .int .i64 ((k : Int) + 1)) (x2 := .int .i64 17) HC.out.c0 HC.out.c1 HC.out.c2 HB5.out (by rw [HSZ.out]; omega)
        exact ⟨(keeps_cell 0 (by rw [HSZ.out]; omega)).trans (KeepsFrom.drewR hf.1), HL2.out, hf.2.1, hf.2.2.1, hf.2.2.2.1, hf.2.2.2.2.drew⟩)
  case done =>
    rintro D W hD ⟨l, h1, h2, h3, h4, h5⟩ hdf
    have HR : Hid ((linesOf (by8 s)).2 = [] ∧ readL [] 0 (linesOf (by8 s)).1 = (l, none)) := by
      have h := HM.out
      rw [pcs_len] at h
      have hr : (linesOf (by8 s)).2 = [] := by
        split at h
        · assumption
        · omega
      rw [if_pos hr] at h
      rw [List.take_of_length_le (by omega)] at h2
      exact ⟨hr, h2⟩
    have HF := Lib.hid (readF_done HR.out.2 HR.out.1)
    obtain ⟨hB, v, d1, d2, d3⟩ := h4.rd
    have HOW := Lib.hid d2
    obtain ⟨x0, x1⟩ := head1 h4.c4
    obtain ⟨x2, x3, x4⟩ := head2 d1
    obtain ⟨r0, r1⟩ := head1 h4.c0
    obtain ⟨r2, r3⟩ := head1 h4.c1
    obtain ⟨r4, r5⟩ := head1 h4.c2
    obtain ⟨A, c, rfl, hsl⟩ := own_form d2
    have H4 := Lib.hid h4
    have H5 := Lib.hid h5
    have HDF := Lib.hid hdf
    clear h1 h2 h3 h4 h5 d1 d2 hsl hdf HR
    gi_wp2_with fail
    have hF := done3 (x0 := .slice A l.length c) (x1 := .int .i64 0) (x2 := .int .i64 0) (o' := .deferred none) H4.out.c0 H4.out.c1 H4.out.c2 H5.out (by decide) (by decide) (by decide) (by have := HSZ.out; omega) HDF.out rfl HOW.out
    obtain ⟨k1, k2, k3, k4, k5, k6⟩ := hF
    refine ⟨by simp, .inl ⟨_, _, rfl, run_takeDeferred k1, ?_⟩⟩
    refine ⟨.tuple #[.slice A l.length c, .int .i64 0, .int .i64 0], by simp [results, Tryd.f11, go_sem, k3, k4, k5], by rw [HN.out]; exact k6, .inl ⟨l, A, c, HF.out, rfl, k2⟩⟩
  case stop =>
    rintro D k W hD hk ⟨h1, h2, h3, h4, h5⟩ hdf
    have HF := Lib.hid h1
    clear h1
    gi_wp2_with fail
    have put : ∀ {i : Nat} {x : Value} {t : TypeId}, W.heap[i]? = some (.cells #[x] t (0, 0)) → i ≠ D → (W.putObj D (.deferred none)).cell? ⟨i, 0, none⟩ = some x := fun {i x t} h hne => (head1 ((World.putObj_heap_other hne).trans h)).1
    have hsz := HSZ.out
    have k3 := put h2 (by omega)
    have k4 := put h3 (by omega)
    have k5 := put h4 (by omega)
    refine ⟨by simp, .inl ⟨_, _, rfl, run_takeDeferred hdf, ?_⟩⟩
    refine ⟨.tuple #[.slice none 0 0, .int .i64 k, .int .i64 17], by simp [results, Tryd.f11, go_sem, k3, k4, k5], ?_, .inr ⟨k, HF.out, rfl⟩⟩
    rw [HN.out]
    exact h5.grown (grownBy_putObj' W D _) (by have := h5.size; have := HN.out; omega) (fun r e => by have := Option.some.inj e; omega)
end Exp
end Go.Proofs.YtfohollhdaedlaaDoor
