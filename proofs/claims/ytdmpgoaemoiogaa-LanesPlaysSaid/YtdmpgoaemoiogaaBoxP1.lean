/- The walks of Put and Take of a box of parcels: a select with a default, in the machine of one. Written by boxp1.py. -/
import Derived.Test.YtdmpgoaemoiogaaBoxW2
import Derived.Conc.LoneSelect
import Derived.KernelRfl
import Derived.Laws.Rows
set_option linter.unusedVariables false
set_option linter.unusedSimpArgs false
namespace Go.Proofs.Ytdmpgoaemoiogaa
open Go.Conc Go.RowKit
namespace Box
theorem heap_old {w : World} {k : Nat} {x o : Obj} (h : w.heap[k]? = some x) : (w.alloc o).heap[k]? = some x := by
  rw [((Below.refl _ w).alloc (Nat.le_refl _) o).block k (Array.getElem?_eq_some_iff.1 h).1]; exact h
theorem grown_chan {w : World} {c cap s r : Nat} {l l' : Array Value} {cl tm : Bool} {s' r' : Nat} {cl' tm' : Bool} {o p : Obj} (h : w.heap[c]? = some (.chan cap l cl s r tm)) (hl : c < w.heap.size) : w.grownBy (((w.alloc o).alloc p).setChan c cap l' cl' s' r' tm') (some c) :=
  have h1 : w.grownBy ((w.alloc o).alloc p) (some c) := grown_below (((Below.refl w.heap.size w).alloc (Nat.le_refl _) _).alloc (by simp) _) _
  h1.trans (grown_set (by simp; omega) _ _ _ _ _ _)
theorem heap_chan2 {w : World} {c cap s r : Nat} {l : Array Value} {cl tm : Bool} {o p : Obj} (hl : c < w.heap.size) : (((w.alloc o).alloc p).setChan c cap l cl s r tm).heap[w.heap.size]? = some o := by
  rw [(grown_set (w := (w.alloc o).alloc p) (c := c) (by simp; omega) cap l cl s r tm).block w.heap.size (by simp; omega) (fun e => by have := Option.some.inj e; omega)]
  exact heap_old (heap_alloc_new _ _)
theorem heap_new2 {w : World} (o p : Obj) : ((w.alloc o).alloc p).heap[w.heap.size + 1]? = some p := by
  have h := heap_alloc_new (w.alloc o) p
  simpa using h
theorem heap_chan3 {w : World} {c cap s r : Nat} {l : Array Value} {cl tm : Bool} {o p : Obj} (hl : c < w.heap.size) : (((w.alloc o).alloc p).setChan c cap l cl s r tm).heap[w.heap.size + 1]? = some p := by
  rw [(grown_set (w := (w.alloc o).alloc p) (c := c) (by simp; omega) cap l cl s r tm).block (w.heap.size + 1) (by simp) (fun e => by have := Option.some.inj e; omega)]
  exact heap_new2 _ _
theorem grown_then {w W3 Wf : World} {row : Option Nat} (h : w.grownBy W3 row) (hb : Below w.heap.size W3 Wf) : w.grownBy Wf row :=
  ⟨hb.os.trans h.os, hb.tape.trans h.tape, hb.output.trans h.output, Nat.le_trans h.size hb.size, fun k hk hne => (hb.block k hk).trans (h.block k hk hne)⟩
theorem heap_set3 {W : World} {n : Nat} {a b c x y z : Value} {t : TypeId} (h : W.heap[n]? = some (.cells #[a, b, c] t (0, 0))) :
    (((W.setCell ⟨n, 0, none⟩ x).setCell ⟨n, 1, none⟩ y).setCell ⟨n, 2, none⟩ z).heap[n]? = some (.cells #[x, y, z] t (0, 0)) := by
  obtain ⟨hn, he⟩ := Array.getElem?_eq_some_iff.1 h
  simp [World.setCell, hn, he, Array.getElem_modify]
theorem below3 {B n : Nat} {w W : World} {x y z : Value} (h : Below B w W) (hB : B ≤ n) : Below B w (((W.setCell ⟨n, 0, none⟩ x).setCell ⟨n, 1, none⟩ y).setCell ⟨n, 2, none⟩ z) :=
  ((h.setCell (p := ⟨n, 0, none⟩) hB x).setCell (p := ⟨n, 1, none⟩) hB y).setCell (p := ⟨n, 2, none⟩) hB z
theorem asAddr_ptr (a : Addr) (w : World) : Sem.run Try.prog (asAddr (.pointer (some a))) w = .ok a w := by simp [go_sem, asAddr]
theorem load_par {W : World} {n : Nat} {x y z : Value} {t : TypeId} (h : W.heap[n]? = some (.cells #[x, y, z] t (0, 0))) :
    Sem.run Try.prog (loadVar 97 ⟨n, 0, none⟩) W = .ok (.agg #[x, y, z]) W := by
  have h0 : W.cell? ⟨n, 0, none⟩ = some x := by simp [World.cell?, h]
  have h1 : W.cell? ⟨n, 1, none⟩ = some y := by simp [World.cell?, h]
  have h2 : W.cell? ⟨n, 2, none⟩ = some z := by simp [World.cell?, h]
  simp [go_sem, loadVar, h0, h1, h2]
theorem cell_of {w : World} {b c : Nat} {t : TypeId} (h : w.heap[b]? = some (.cells #[.chan (some c)] t (0, 0))) : w.cell? ⟨b, 0, none⟩ = some (.chan (some c)) := by simp [World.cell?, h]

set_option maxHeartbeats 2000000 in
set_option maxRecDepth 100000 in
theorem putRoom_par (w : World) (b c cap : Nat) (l : Array Value) (s r : Nat) (ps : ByteArray) (pa pb : Int) (t : TypeId) (hb : w.heap[b]? = some (.cells #[.chan (some c)] t (0, 0))) (hc : w.heap[c]? = some (.chan cap l false s r false)) (hl : l.size < cap) :
    Calls Try.prog 49 #[.pointer (some ⟨b, 0, none⟩), .agg #[.string ps, .int .i64 pa, .int .u8 pb]] w fun e w' => e = .returned (.bool true) ∧ w' = (w.alloc (.cells #[.string ps, .int .i64 pa, .int .u8 pb] 97)).setChan c cap (l.push (.agg #[.string ps, .int .i64 pa, .int .u8 pb])) false (s + 1) r false := by
  have hcell : w.cell? ⟨b, 0, none⟩ = some (.chan (some c)) := cell_of hb
  have hcell1 : ∀ o, (w.alloc o).cell? ⟨b, 0, none⟩ = some (.chan (some c)) := fun o => cell_of (heap_old hb)
  have hcell2 : ∀ o p, ((w.alloc o).alloc p).cell? ⟨b, 0, none⟩ = some (.chan (some c)) := fun o p => cell_of (heap_old (heap_old hb))
  refine calls_of_loneTo fun cs => ?_
  have e : Frame.enter Try.prog 49 #[.pointer (some ⟨b, 0, none⟩), .agg #[.string ps, .int .i64 pa, .int .u8 pb]] .normal = (base 49).at ⟨#[.pointer (some ⟨b, 0, none⟩), .agg #[.string ps, .int .i64 pa, .int .u8 pb], undef, undef, undef, undef, undef, undef, undef, undef, undef, undef, undef, undef, undef, undef], []⟩ [.code (Try.f49.body.getD .skip)] := by
    simp [Frame.enter, Frame.at, Try.func49, base, Try.f49]
  rw [e]
  refine LoneTo.goes (n := 100) ?_
  simp only [Try.f49, Option.getD_some]
  repeat (first | s_c stepG_seq | s_reg | s_op | s_c stepG_region_end | s_c stepG_block | s_c stepG_skip | s_cond true | s_cond false)
  s_call Try.func64 (by rfl) Try.f64
  repeat (first | s_c stepG_seq | s_reg | s_op | s_c stepG_region_end | s_c stepG_block | s_c stepG_skip | s_cond true | s_cond false)
  s_c stepG_ret'
  s_leave1 Try.func64
  repeat (first | s_c stepG_seq | s_reg | s_op | s_c stepG_region_end | s_c stepG_block | s_c stepG_skip | s_cond true | s_cond false)
  s_stop
  refine LoneTo.step (step_lone_select_send_room (c := c) (cap := cap) (buf := l) (s := s) (r := r) (tm := false) (stepG_comm (cases := #[scase c (.agg #[.string ps, .int .i64 pa, .int .u8 pb]) (.agg #[.string { data := #[] }, .int .i64 0, .int .u8 0])]) (blocking := false) (shape := .select) (w' := (w.alloc (.cells #[.string ps, .int .i64 pa, .int .u8 pb] 97))) rfl rfl (by decide) (by simp [go_sem, execOp, scase, rcase, Act.eval])) (heap_old hc) hl) ?_
  rw [Frame.finish_at]
  walk_nrm
  refine LoneTo.goes (n := 60) ?_
  repeat (first | s_c stepG_seq | s_reg | s_op | s_c stepG_region_end | s_c stepG_block | s_c stepG_skip | s_cond true | s_cond false)
  s_c stepG_ret'
  s_stop
  refine LoneTo.done ⟨.returned (.bool true), _, rfl, ⟨rfl, rfl⟩, rfl, rfl, rfl, rfl, _, Try.func49, by simp [results, Try.f49, Frame.at]⟩

set_option maxHeartbeats 2000000 in
set_option maxRecDepth 100000 in
theorem putFull_par (w : World) (b c cap : Nat) (l : Array Value) (s r : Nat) (ps : ByteArray) (pa pb : Int) (t : TypeId) (hb : w.heap[b]? = some (.cells #[.chan (some c)] t (0, 0))) (hc : w.heap[c]? = some (.chan cap l false s r false)) (hl : cap ≤ l.size) :
    Calls Try.prog 49 #[.pointer (some ⟨b, 0, none⟩), .agg #[.string ps, .int .i64 pa, .int .u8 pb]] w fun e w' => e = .returned (.bool false) ∧ w' = (w.alloc (.cells #[.string ps, .int .i64 pa, .int .u8 pb] 97)) := by
  have hcell : w.cell? ⟨b, 0, none⟩ = some (.chan (some c)) := cell_of hb
  have hcell1 : ∀ o, (w.alloc o).cell? ⟨b, 0, none⟩ = some (.chan (some c)) := fun o => cell_of (heap_old hb)
  have hcell2 : ∀ o p, ((w.alloc o).alloc p).cell? ⟨b, 0, none⟩ = some (.chan (some c)) := fun o p => cell_of (heap_old (heap_old hb))
  refine calls_of_loneTo fun cs => ?_
  have e : Frame.enter Try.prog 49 #[.pointer (some ⟨b, 0, none⟩), .agg #[.string ps, .int .i64 pa, .int .u8 pb]] .normal = (base 49).at ⟨#[.pointer (some ⟨b, 0, none⟩), .agg #[.string ps, .int .i64 pa, .int .u8 pb], undef, undef, undef, undef, undef, undef, undef, undef, undef, undef, undef, undef, undef, undef], []⟩ [.code (Try.f49.body.getD .skip)] := by
    simp [Frame.enter, Frame.at, Try.func49, base, Try.f49]
  rw [e]
  refine LoneTo.goes (n := 100) ?_
  simp only [Try.f49, Option.getD_some]
  repeat (first | s_c stepG_seq | s_reg | s_op | s_c stepG_region_end | s_c stepG_block | s_c stepG_skip | s_cond true | s_cond false)
  s_call Try.func64 (by rfl) Try.f64
  repeat (first | s_c stepG_seq | s_reg | s_op | s_c stepG_region_end | s_c stepG_block | s_c stepG_skip | s_cond true | s_cond false)
  s_c stepG_ret'
  s_leave1 Try.func64
  repeat (first | s_c stepG_seq | s_reg | s_op | s_c stepG_region_end | s_c stepG_block | s_c stepG_skip | s_cond true | s_cond false)
  s_stop
  refine LoneTo.step (step_lone_select_send_full (c := c) (cap := cap) (buf := l) (s := s) (r := r) (tm := false) (stepG_comm (cases := #[scase c (.agg #[.string ps, .int .i64 pa, .int .u8 pb]) (.agg #[.string { data := #[] }, .int .i64 0, .int .u8 0])]) (blocking := false) (shape := .select) (w' := (w.alloc (.cells #[.string ps, .int .i64 pa, .int .u8 pb] 97))) rfl rfl (by decide) (by simp [go_sem, execOp, scase, rcase, Act.eval])) (heap_old hc) hl) ?_
  rw [Frame.finish_at]
  walk_nrm
  refine LoneTo.goes (n := 60) ?_
  repeat (first | s_c stepG_seq | s_reg | s_op | s_c stepG_region_end | s_c stepG_block | s_c stepG_skip | s_cond true | s_cond false)
  s_c stepG_ret'
  s_stop
  refine LoneTo.done ⟨.returned (.bool false), _, rfl, ⟨rfl, rfl⟩, rfl, rfl, rfl, rfl, _, Try.func49, by simp [results, Try.f49, Frame.at]⟩

set_option maxHeartbeats 2000000 in
set_option maxRecDepth 100000 in
theorem takeSome_par (w : World) (b c cap : Nat) (l : Array Value) (s r : Nat) (ps : ByteArray) (pa pb : Int) (t : TypeId) (hb : w.heap[b]? = some (.cells #[.chan (some c)] t (0, 0))) (hc : w.heap[c]? = some (.chan cap l false s r false)) (hl : 0 < l.size) (hv : l.getD 0 undef = .agg #[.string ps, .int .i64 pa, .int .u8 pb]) :
    Calls Try.prog 51 #[.pointer (some ⟨b, 0, none⟩)] w fun e w' => e = .returned (.tuple #[.agg #[.string ps, .int .i64 pa, .int .u8 pb], .bool true]) ∧ (∃ s' r', w'.heap[c]? = some (.chan cap (l.extract 1 l.size) false s' r' false)) ∧ w.grownBy w' (some c) := by
  have hcell : w.cell? ⟨b, 0, none⟩ = some (.chan (some c)) := cell_of hb
  have hcell1 : ∀ o, (w.alloc o).cell? ⟨b, 0, none⟩ = some (.chan (some c)) := fun o => cell_of (heap_old hb)
  have hcell2 : ∀ o p, ((w.alloc o).alloc p).cell? ⟨b, 0, none⟩ = some (.chan (some c)) := fun o p => cell_of (heap_old (heap_old hb))
  refine calls_of_loneTo fun cs => ?_
  have e : Frame.enter Try.prog 51 #[.pointer (some ⟨b, 0, none⟩)] .normal = (base 51).at ⟨#[.pointer (some ⟨b, 0, none⟩), undef, undef, undef, undef, undef, undef, undef, undef, undef, undef, undef, undef, undef, undef, undef, undef, undef, undef, undef], []⟩ [.code (Try.f51.body.getD .skip)] := by
    simp [Frame.enter, Frame.at, Try.func51, base, Try.f51]
  rw [e]
  refine LoneTo.goes (n := 100) ?_
  simp only [Try.f51, Option.getD_some]
  repeat (first | s_c stepG_seq | s_reg | s_op | s_c stepG_region_end | s_c stepG_block | s_c stepG_skip | s_cond true | s_cond false)
  s_call Try.func64 (by rfl) Try.f64
  repeat (first | s_c stepG_seq | s_reg | s_op | s_c stepG_region_end | s_c stepG_block | s_c stepG_skip | s_cond true | s_cond false)
  s_c stepG_ret'
  s_leave1 Try.func64
  repeat (first | s_c stepG_seq | s_reg | s_op | s_c stepG_region_end | s_c stepG_block | s_c stepG_skip | s_cond true | s_cond false)
  s_stop
  refine LoneTo.step (step_lone_select_recv_buf (c := c) (z := .agg #[.string { data := #[] }, .int .i64 0, .int .u8 0]) (cap := cap) (buf := l) (s := s) (r := r) (tm := false) (stepG_comm (cases := #[rcase c (.agg #[.string { data := #[] }, .int .i64 0, .int .u8 0])]) (blocking := false) (shape := .select) (w' := ((w.alloc (.cells #[.string { data := #[] }, .int .i64 0, .int .u8 0] 97)).alloc (.cells #[.string { data := #[] }, .int .i64 0, .int .u8 0] 97))) rfl rfl (by decide) (by simp [go_sem, execOp, scase, rcase, Act.eval])) (heap_old (heap_old hc)) hl) ?_
  rw [hv, Frame.finish_at]
  walk_nrm
  obtain ⟨W3, hW3⟩ : ∃ W3, W3 = ((w.alloc (.cells #[.string { data := #[] }, .int .i64 0, .int .u8 0] 97)).alloc (.cells #[.string { data := #[] }, .int .i64 0, .int .u8 0] 97)).setChan c cap (l.extract 1 l.size) false s (r + 1) false := ⟨_, rfl⟩
  have hcl : c < w.heap.size := (Array.getElem?_eq_some_iff.1 hc).1
  have hsz : w.heap.size + 1 < W3.heap.size := by rw [hW3]; (simp [Conc.size_setChan] <;> omega)
  have hg3 : w.grownBy W3 (some c) := by rw [hW3]; exact grown_chan hc hcl
  have hc3 : ∃ s' r', W3.heap[c]? = some (.chan cap (l.extract 1 l.size) false s' r' false) := by rw [hW3]; exact ⟨s, r + 1, Conc.heap_setChan _ _ _ _ _ _ _ _ (by simp; omega)⟩
  have hz : W3.heap[w.heap.size]? = some ((.cells #[.string { data := #[] }, .int .i64 0, .int .u8 0] 97) : Obj) := by rw [hW3]; exact heap_chan2 hcl
  have kz : W3.heap[w.heap.size + 1]? = some ((.cells #[.string { data := #[] }, .int .i64 0, .int .u8 0] 97) : Obj) := by rw [hW3]; exact heap_chan3 hcl
  have kz1 : ∀ o, (W3.alloc o).heap[w.heap.size + 1]? = some ((.cells #[.string { data := #[] }, .int .i64 0, .int .u8 0] 97) : Obj) := fun o => heap_old kz
  have k0 : W3.cell? ⟨w.heap.size + 1, 0, none⟩ = some (.string { data := #[] }) := by simp [World.cell?, kz]
  have k1 : W3.cell? ⟨w.heap.size + 1, 1, none⟩ = some (.int .i64 0) := by simp [World.cell?, kz]
  have k2 : W3.cell? ⟨w.heap.size + 1, 2, none⟩ = some (.int .u8 0) := by simp [World.cell?, kz]
  have hz1 : ∀ o, (W3.alloc o).heap[w.heap.size]? = some ((.cells #[.string { data := #[] }, .int .i64 0, .int .u8 0] 97) : Obj) := fun o => heap_old hz
  have y0 : W3.cell? ⟨w.heap.size, 0, none⟩ = some (.string { data := #[] }) := by simp [World.cell?, hz]
  have y1 : W3.cell? ⟨w.heap.size, 1, none⟩ = some (.int .i64 0) := by simp [World.cell?, hz]
  have y2 : W3.cell? ⟨w.heap.size, 2, none⟩ = some (.int .u8 0) := by simp [World.cell?, hz]
  have x0 : ∀ o, (W3.alloc o).cell? ⟨w.heap.size, 0, none⟩ = some (.string { data := #[] }) := fun o => by simp [World.cell?, hz1 o]
  have x1 : ∀ o, (W3.alloc o).cell? ⟨w.heap.size, 1, none⟩ = some (.int .i64 0) := fun o => by simp [World.cell?, hz1 o]
  have x2 : ∀ o, (W3.alloc o).cell? ⟨w.heap.size, 2, none⟩ = some (.int .u8 0) := fun o => by simp [World.cell?, hz1 o]
  have v0 : ∀ o i, (W3.alloc o).frozen? ⟨w.heap.size, i, none⟩ = false := fun o i => by simp [World.frozen?, hz1 o]
  have v1 : ∀ i, W3.frozen? ⟨w.heap.size, i, none⟩ = false := fun i => by simp [World.frozen?, hz]
  have hW3' : ((w.alloc (.cells #[.string { data := #[] }, .int .i64 0, .int .u8 0] 97)).alloc (.cells #[.string { data := #[] }, .int .i64 0, .int .u8 0] 97)).setChan c cap (l.extract 1 l.size) false s (r + 1) false = W3 := hW3.symm
  simp only [hW3']
  clear hW3 hW3'
  refine LoneTo.goes (n := 60) ?_
  repeat (first | s_c stepG_seq | s_reg | s_op | s_c stepG_region_end | s_c stepG_block | s_c stepG_skip | s_cond true | s_cond false)
  s_c stepG_ret'
  s_stop
  refine LoneTo.done ⟨.returned (.tuple #[.agg #[.string ps, .int .i64 pa, .int .u8 pb], .bool true]), _, rfl, ⟨rfl, ?_, ?_⟩, rfl, rfl, rfl, rfl, _, Try.func51, by simp [results, Try.f51, Frame.at, asAddr_ptr, load_par (heap_set3 (hz1 _))]⟩
  · obtain ⟨s', r', h'⟩ := hc3
    exact ⟨s', r', (Below.block (B := w.heap.size) (below3 ((Below.refl _ W3).alloc (by omega) _) (Nat.le_refl _)) c hcl).trans h'⟩
  · exact grown_then hg3 (below3 ((Below.refl _ W3).alloc (by omega) _) (Nat.le_refl _))

set_option maxHeartbeats 2000000 in
set_option maxRecDepth 100000 in
theorem takeNone_par (w : World) (b c cap : Nat) (l : Array Value) (s r : Nat) (ps : ByteArray) (pa pb : Int) (t : TypeId) (hb : w.heap[b]? = some (.cells #[.chan (some c)] t (0, 0))) (hc : w.heap[c]? = some (.chan cap l false s r false)) (hl : l = #[]) :
    Calls Try.prog 51 #[.pointer (some ⟨b, 0, none⟩)] w fun e w' => e = .returned (.tuple #[.agg #[.string { data := #[] }, .int .i64 0, .int .u8 0], .bool false]) ∧ (∃ s' r', w'.heap[c]? = some (.chan cap (#[]) false s' r' false)) ∧ w.grownBy w' (some c) := by
  subst hl
  have hcell : w.cell? ⟨b, 0, none⟩ = some (.chan (some c)) := cell_of hb
  have hcell1 : ∀ o, (w.alloc o).cell? ⟨b, 0, none⟩ = some (.chan (some c)) := fun o => cell_of (heap_old hb)
  have hcell2 : ∀ o p, ((w.alloc o).alloc p).cell? ⟨b, 0, none⟩ = some (.chan (some c)) := fun o p => cell_of (heap_old (heap_old hb))
  refine calls_of_loneTo fun cs => ?_
  have e : Frame.enter Try.prog 51 #[.pointer (some ⟨b, 0, none⟩)] .normal = (base 51).at ⟨#[.pointer (some ⟨b, 0, none⟩), undef, undef, undef, undef, undef, undef, undef, undef, undef, undef, undef, undef, undef, undef, undef, undef, undef, undef, undef], []⟩ [.code (Try.f51.body.getD .skip)] := by
    simp [Frame.enter, Frame.at, Try.func51, base, Try.f51]
  rw [e]
  refine LoneTo.goes (n := 100) ?_
  simp only [Try.f51, Option.getD_some]
  repeat (first | s_c stepG_seq | s_reg | s_op | s_c stepG_region_end | s_c stepG_block | s_c stepG_skip | s_cond true | s_cond false)
  s_call Try.func64 (by rfl) Try.f64
  repeat (first | s_c stepG_seq | s_reg | s_op | s_c stepG_region_end | s_c stepG_block | s_c stepG_skip | s_cond true | s_cond false)
  s_c stepG_ret'
  s_leave1 Try.func64
  repeat (first | s_c stepG_seq | s_reg | s_op | s_c stepG_region_end | s_c stepG_block | s_c stepG_skip | s_cond true | s_cond false)
  s_stop
  refine LoneTo.step (step_lone_select_default (c := c) (z := .agg #[.string { data := #[] }, .int .i64 0, .int .u8 0]) (cap := cap) (s := s) (r := r) (tm := false) (stepG_comm (cases := #[rcase c (.agg #[.string { data := #[] }, .int .i64 0, .int .u8 0])]) (blocking := false) (shape := .select) (w' := ((w.alloc (.cells #[.string { data := #[] }, .int .i64 0, .int .u8 0] 97)).alloc (.cells #[.string { data := #[] }, .int .i64 0, .int .u8 0] 97))) rfl rfl (by decide) (by simp [go_sem, execOp, scase, rcase, Act.eval])) (heap_old (heap_old hc))) ?_
  rw [Frame.finish_at]
  walk_nrm
  obtain ⟨W3, hW3⟩ : ∃ W3, W3 = ((w.alloc (.cells #[.string { data := #[] }, .int .i64 0, .int .u8 0] 97)).alloc (.cells #[.string { data := #[] }, .int .i64 0, .int .u8 0] 97)) := ⟨_, rfl⟩
  have hcl : c < w.heap.size := (Array.getElem?_eq_some_iff.1 hc).1
  have hsz : w.heap.size + 1 < W3.heap.size := by rw [hW3]; (simp [Conc.size_setChan] <;> omega)
  have hg3 : w.grownBy W3 (some c) := by rw [hW3]; exact ((Below.refl w.heap.size w).alloc (Nat.le_refl _) _).alloc (by simp) _ |> fun h => grown_below h _
  have hc3 : ∃ s' r', W3.heap[c]? = some (.chan cap (#[]) false s' r' false) := by rw [hW3]; exact ⟨s, r, heap_old (heap_old hc)⟩
  have hz : W3.heap[w.heap.size]? = some ((.cells #[.string { data := #[] }, .int .i64 0, .int .u8 0] 97) : Obj) := by rw [hW3]; exact heap_old (heap_alloc_new _ _)
  have kz : W3.heap[w.heap.size + 1]? = some ((.cells #[.string { data := #[] }, .int .i64 0, .int .u8 0] 97) : Obj) := by rw [hW3]; exact heap_new2 _ _
  have kz1 : ∀ o, (W3.alloc o).heap[w.heap.size + 1]? = some ((.cells #[.string { data := #[] }, .int .i64 0, .int .u8 0] 97) : Obj) := fun o => heap_old kz
  have k0 : W3.cell? ⟨w.heap.size + 1, 0, none⟩ = some (.string { data := #[] }) := by simp [World.cell?, kz]
  have k1 : W3.cell? ⟨w.heap.size + 1, 1, none⟩ = some (.int .i64 0) := by simp [World.cell?, kz]
  have k2 : W3.cell? ⟨w.heap.size + 1, 2, none⟩ = some (.int .u8 0) := by simp [World.cell?, kz]
  have hz1 : ∀ o, (W3.alloc o).heap[w.heap.size]? = some ((.cells #[.string { data := #[] }, .int .i64 0, .int .u8 0] 97) : Obj) := fun o => heap_old hz
  have y0 : W3.cell? ⟨w.heap.size, 0, none⟩ = some (.string { data := #[] }) := by simp [World.cell?, hz]
  have y1 : W3.cell? ⟨w.heap.size, 1, none⟩ = some (.int .i64 0) := by simp [World.cell?, hz]
  have y2 : W3.cell? ⟨w.heap.size, 2, none⟩ = some (.int .u8 0) := by simp [World.cell?, hz]
  have x0 : ∀ o, (W3.alloc o).cell? ⟨w.heap.size, 0, none⟩ = some (.string { data := #[] }) := fun o => by simp [World.cell?, hz1 o]
  have x1 : ∀ o, (W3.alloc o).cell? ⟨w.heap.size, 1, none⟩ = some (.int .i64 0) := fun o => by simp [World.cell?, hz1 o]
  have x2 : ∀ o, (W3.alloc o).cell? ⟨w.heap.size, 2, none⟩ = some (.int .u8 0) := fun o => by simp [World.cell?, hz1 o]
  have v0 : ∀ o i, (W3.alloc o).frozen? ⟨w.heap.size, i, none⟩ = false := fun o i => by simp [World.frozen?, hz1 o]
  have v1 : ∀ i, W3.frozen? ⟨w.heap.size, i, none⟩ = false := fun i => by simp [World.frozen?, hz]
  have hW3' : ((w.alloc (.cells #[.string { data := #[] }, .int .i64 0, .int .u8 0] 97)).alloc (.cells #[.string { data := #[] }, .int .i64 0, .int .u8 0] 97)) = W3 := hW3.symm
  simp only [hW3']
  clear hW3 hW3'
  refine LoneTo.goes (n := 60) ?_
  repeat (first | s_c stepG_seq | s_reg | s_op | s_c stepG_region_end | s_c stepG_block | s_c stepG_skip | s_cond true | s_cond false)
  s_c stepG_ret'
  s_stop
  refine LoneTo.done ⟨.returned (.tuple #[.agg #[.string { data := #[] }, .int .i64 0, .int .u8 0], .bool false]), _, rfl, ⟨rfl, ?_, ?_⟩, rfl, rfl, rfl, rfl, _, Try.func51, by simp [results, Try.f51, Frame.at, asAddr_ptr, load_par (heap_set3 hz)]⟩
  · obtain ⟨s', r', h'⟩ := hc3
    exact ⟨s', r', (Below.block (B := w.heap.size) (below3 (Below.refl _ W3) (Nat.le_refl _)) c hcl).trans h'⟩
  · exact grown_then hg3 (below3 (Below.refl _ W3) (Nat.le_refl _))

end Box
end Go.Proofs.Ytdmpgoaemoiogaa
