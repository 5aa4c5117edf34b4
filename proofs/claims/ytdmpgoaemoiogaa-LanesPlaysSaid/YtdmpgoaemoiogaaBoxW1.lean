/- The walks of a box's Put and Take: a select with a default, in the machine of one. Written by boxw.py. -/
import Derived.Test.YtdmpgoaemoiogaaChecked
import Derived.Test.YtdmpgoaemoiogaaLib
import Derived.Conc.LoneSelect
import Derived.KernelRfl
import Derived.Laws.Rows
set_option linter.unusedVariables false
set_option linter.unusedSimpArgs false
namespace Go.Proofs.Ytdmpgoaemoiogaa
open Go.Conc Go.RowKit
namespace Box

set_option maxHeartbeats 1000000 in
set_option maxRecDepth 100000 in
theorem putRoom_int (w : World) (b c cap : Nat) (l : Array Value) (s r : Nat) (x : Value) (t : TypeId) (hb : w.heap[b]? = some (.cells #[.chan (some c)] t (0, 0))) (hc : w.heap[c]? = some (.chan cap l false s r false)) (hl : l.size < cap) :
    Calls Try.prog 18 #[.pointer (some ⟨b, 0, none⟩), x] w fun e w' => e = .returned (.bool true) ∧ w' = w.setChan c cap (l.push x) false (s + 1) r false := by
  have hcell : w.cell? ⟨b, 0, none⟩ = some (.chan (some c)) := by simp [World.cell?, hb]
  refine calls_of_loneTo fun cs => ?_
  have e : Frame.enter Try.prog 18 #[.pointer (some ⟨b, 0, none⟩), x] .normal = (base 18).at ⟨#[.pointer (some ⟨b, 0, none⟩), x, undef, undef, undef, undef, undef, undef, undef, undef, undef, undef, undef, undef, undef, undef], []⟩ [.code (Try.f18.body.getD .skip)] := by
    simp [Frame.enter, Frame.at, Try.func18, base, Try.f18]
  rw [e]
  refine LoneTo.goes (n := 100) ?_
  simp only [Try.f18, Option.getD_some]
  repeat (first | s_c stepG_seq | s_reg | s_op | s_c stepG_region_end | s_c stepG_block | s_c stepG_skip | s_cond true | s_cond false)
  s_call Try.func44 (by rfl) Try.f44
  repeat (first | s_c stepG_seq | s_reg | s_op | s_c stepG_region_end | s_c stepG_block | s_c stepG_skip | s_cond true | s_cond false)
  s_c stepG_ret'
  s_leave1 Try.func44
  repeat (first | s_c stepG_seq | s_reg | s_op | s_c stepG_region_end | s_c stepG_block | s_c stepG_skip | s_cond true | s_cond false)
  s_stop
  refine LoneTo.step (step_lone_select_send_room (c := c) (cap := cap) (buf := l) (s := s) (r := r) (tm := false) (stepG_comm (cases := #[scase c x (.int .i64 0)]) (blocking := false) (shape := .select) (w' := w) rfl rfl (by decide) (by simp [go_sem, execOp, scase, rcase, Act.eval])) hc hl) ?_
  rw [Frame.finish_at]
  walk_nrm
  refine LoneTo.goes (n := 60) ?_
  repeat (first | s_c stepG_seq | s_reg | s_op | s_c stepG_region_end | s_c stepG_block | s_c stepG_skip | s_cond true | s_cond false)
  s_c stepG_ret'
  s_stop
  refine LoneTo.done ⟨.returned (.bool true), _, rfl, ⟨rfl, rfl⟩, rfl, rfl, rfl, rfl, _, Try.func18, by simp [results, Try.f18, Frame.at]⟩

set_option maxHeartbeats 1000000 in
set_option maxRecDepth 100000 in
theorem putFull_int (w : World) (b c cap : Nat) (l : Array Value) (s r : Nat) (x : Value) (t : TypeId) (hb : w.heap[b]? = some (.cells #[.chan (some c)] t (0, 0))) (hc : w.heap[c]? = some (.chan cap l false s r false)) (hl : cap ≤ l.size) :
    Calls Try.prog 18 #[.pointer (some ⟨b, 0, none⟩), x] w fun e w' => e = .returned (.bool false) ∧ w' = w := by
  have hcell : w.cell? ⟨b, 0, none⟩ = some (.chan (some c)) := by simp [World.cell?, hb]
  refine calls_of_loneTo fun cs => ?_
  have e : Frame.enter Try.prog 18 #[.pointer (some ⟨b, 0, none⟩), x] .normal = (base 18).at ⟨#[.pointer (some ⟨b, 0, none⟩), x, undef, undef, undef, undef, undef, undef, undef, undef, undef, undef, undef, undef, undef, undef], []⟩ [.code (Try.f18.body.getD .skip)] := by
    simp [Frame.enter, Frame.at, Try.func18, base, Try.f18]
  rw [e]
  refine LoneTo.goes (n := 100) ?_
  simp only [Try.f18, Option.getD_some]
  repeat (first | s_c stepG_seq | s_reg | s_op | s_c stepG_region_end | s_c stepG_block | s_c stepG_skip | s_cond true | s_cond false)
  s_call Try.func44 (by rfl) Try.f44
  repeat (first | s_c stepG_seq | s_reg | s_op | s_c stepG_region_end | s_c stepG_block | s_c stepG_skip | s_cond true | s_cond false)
  s_c stepG_ret'
  s_leave1 Try.func44
  repeat (first | s_c stepG_seq | s_reg | s_op | s_c stepG_region_end | s_c stepG_block | s_c stepG_skip | s_cond true | s_cond false)
  s_stop
  refine LoneTo.step (step_lone_select_send_full (c := c) (cap := cap) (buf := l) (s := s) (r := r) (tm := false) (stepG_comm (cases := #[scase c x (.int .i64 0)]) (blocking := false) (shape := .select) (w' := w) rfl rfl (by decide) (by simp [go_sem, execOp, scase, rcase, Act.eval])) hc hl) ?_
  rw [Frame.finish_at]
  walk_nrm
  refine LoneTo.goes (n := 60) ?_
  repeat (first | s_c stepG_seq | s_reg | s_op | s_c stepG_region_end | s_c stepG_block | s_c stepG_skip | s_cond true | s_cond false)
  s_c stepG_ret'
  s_stop
  refine LoneTo.done ⟨.returned (.bool false), _, rfl, ⟨rfl, rfl⟩, rfl, rfl, rfl, rfl, _, Try.func18, by simp [results, Try.f18, Frame.at]⟩

set_option maxHeartbeats 1000000 in
set_option maxRecDepth 100000 in
theorem takeSome_int (w : World) (b c cap : Nat) (l : Array Value) (s r : Nat) (v : Value) (t : TypeId) (hb : w.heap[b]? = some (.cells #[.chan (some c)] t (0, 0))) (hc : w.heap[c]? = some (.chan cap l false s r false)) (hl : 0 < l.size) (hv : l.getD 0 undef = v) :
    Calls Try.prog 16 #[.pointer (some ⟨b, 0, none⟩)] w fun e w' => e = .returned (.tuple #[v, .bool true]) ∧ w' = w.setChan c cap (l.extract 1 l.size) false s (r + 1) false := by
  have hcell : w.cell? ⟨b, 0, none⟩ = some (.chan (some c)) := by simp [World.cell?, hb]
  refine calls_of_loneTo fun cs => ?_
  have e : Frame.enter Try.prog 16 #[.pointer (some ⟨b, 0, none⟩)] .normal = (base 16).at ⟨#[.pointer (some ⟨b, 0, none⟩), undef, undef, undef, undef, undef, undef, undef, undef, undef, undef, undef, undef, undef, undef, undef, undef, undef, undef, undef], []⟩ [.code (Try.f16.body.getD .skip)] := by
    simp [Frame.enter, Frame.at, Try.func16, base, Try.f16]
  rw [e]
  refine LoneTo.goes (n := 100) ?_
  simp only [Try.f16, Option.getD_some]
  repeat (first | s_c stepG_seq | s_reg | s_op | s_c stepG_region_end | s_c stepG_block | s_c stepG_skip | s_cond true | s_cond false)
  s_call Try.func44 (by rfl) Try.f44
  repeat (first | s_c stepG_seq | s_reg | s_op | s_c stepG_region_end | s_c stepG_block | s_c stepG_skip | s_cond true | s_cond false)
  s_c stepG_ret'
  s_leave1 Try.func44
  repeat (first | s_c stepG_seq | s_reg | s_op | s_c stepG_region_end | s_c stepG_block | s_c stepG_skip | s_cond true | s_cond false)
  s_stop
  refine LoneTo.step (step_lone_select_recv_buf (c := c) (z := .int .i64 0) (cap := cap) (buf := l) (s := s) (r := r) (tm := false) (stepG_comm (cases := #[rcase c (.int .i64 0)]) (blocking := false) (shape := .select) (w' := w) rfl rfl (by decide) (by simp [go_sem, execOp, scase, rcase, Act.eval])) hc hl) ?_
  rw [hv, Frame.finish_at]
  walk_nrm
  refine LoneTo.goes (n := 60) ?_
  repeat (first | s_c stepG_seq | s_reg | s_op | s_c stepG_region_end | s_c stepG_block | s_c stepG_skip | s_cond true | s_cond false)
  s_c stepG_ret'
  s_stop
  refine LoneTo.done ⟨.returned (.tuple #[v, .bool true]), _, rfl, ⟨rfl, rfl⟩, rfl, rfl, rfl, rfl, _, Try.func16, by simp [results, Try.f16, Frame.at]⟩

set_option maxHeartbeats 1000000 in
set_option maxRecDepth 100000 in
theorem takeNone_int (w : World) (b c cap : Nat) (l : Array Value) (s r : Nat) (t : TypeId) (hb : w.heap[b]? = some (.cells #[.chan (some c)] t (0, 0))) (hc : w.heap[c]? = some (.chan cap l false s r false)) (hl : l = #[]) :
    Calls Try.prog 16 #[.pointer (some ⟨b, 0, none⟩)] w fun e w' => e = .returned (.tuple #[.int .i64 0, .bool false]) ∧ w' = w := by
  subst hl
  have hcell : w.cell? ⟨b, 0, none⟩ = some (.chan (some c)) := by simp [World.cell?, hb]
  refine calls_of_loneTo fun cs => ?_
  have e : Frame.enter Try.prog 16 #[.pointer (some ⟨b, 0, none⟩)] .normal = (base 16).at ⟨#[.pointer (some ⟨b, 0, none⟩), undef, undef, undef, undef, undef, undef, undef, undef, undef, undef, undef, undef, undef, undef, undef, undef, undef, undef, undef], []⟩ [.code (Try.f16.body.getD .skip)] := by
    simp [Frame.enter, Frame.at, Try.func16, base, Try.f16]
  rw [e]
  refine LoneTo.goes (n := 100) ?_
  simp only [Try.f16, Option.getD_some]
  repeat (first | s_c stepG_seq | s_reg | s_op | s_c stepG_region_end | s_c stepG_block | s_c stepG_skip | s_cond true | s_cond false)
  s_call Try.func44 (by rfl) Try.f44
  repeat (first | s_c stepG_seq | s_reg | s_op | s_c stepG_region_end | s_c stepG_block | s_c stepG_skip | s_cond true | s_cond false)
  s_c stepG_ret'
  s_leave1 Try.func44
  repeat (first | s_c stepG_seq | s_reg | s_op | s_c stepG_region_end | s_c stepG_block | s_c stepG_skip | s_cond true | s_cond false)
  s_stop
  refine LoneTo.step (step_lone_select_default (c := c) (z := .int .i64 0) (cap := cap) (s := s) (r := r) (tm := false) (stepG_comm (cases := #[rcase c (.int .i64 0)]) (blocking := false) (shape := .select) (w' := w) rfl rfl (by decide) (by simp [go_sem, execOp, scase, rcase, Act.eval])) hc) ?_
  rw [Frame.finish_at]
  walk_nrm
  refine LoneTo.goes (n := 60) ?_
  repeat (first | s_c stepG_seq | s_reg | s_op | s_c stepG_region_end | s_c stepG_block | s_c stepG_skip | s_cond true | s_cond false)
  s_c stepG_ret'
  s_stop
  refine LoneTo.done ⟨.returned (.tuple #[.int .i64 0, .bool false]), _, rfl, ⟨rfl, rfl⟩, rfl, rfl, rfl, rfl, _, Try.func16, by simp [results, Try.f16, Frame.at]⟩

set_option maxHeartbeats 1000000 in
set_option maxRecDepth 100000 in
theorem putRoom_str (w : World) (b c cap : Nat) (l : Array Value) (s r : Nat) (x : Value) (t : TypeId) (hb : w.heap[b]? = some (.cells #[.chan (some c)] t (0, 0))) (hc : w.heap[c]? = some (.chan cap l false s r false)) (hl : l.size < cap) :
    Calls Try.prog 42 #[.pointer (some ⟨b, 0, none⟩), x] w fun e w' => e = .returned (.bool true) ∧ w' = w.setChan c cap (l.push x) false (s + 1) r false := by
  have hcell : w.cell? ⟨b, 0, none⟩ = some (.chan (some c)) := by simp [World.cell?, hb]
  refine calls_of_loneTo fun cs => ?_
  have e : Frame.enter Try.prog 42 #[.pointer (some ⟨b, 0, none⟩), x] .normal = (base 42).at ⟨#[.pointer (some ⟨b, 0, none⟩), x, undef, undef, undef, undef, undef, undef, undef, undef, undef, undef, undef, undef, undef, undef], []⟩ [.code (Try.f42.body.getD .skip)] := by
    simp [Frame.enter, Frame.at, Try.func42, base, Try.f42]
  rw [e]
  refine LoneTo.goes (n := 100) ?_
  simp only [Try.f42, Option.getD_some]
  repeat (first | s_c stepG_seq | s_reg | s_op | s_c stepG_region_end | s_c stepG_block | s_c stepG_skip | s_cond true | s_cond false)
  s_call Try.func62 (by rfl) Try.f62
  repeat (first | s_c stepG_seq | s_reg | s_op | s_c stepG_region_end | s_c stepG_block | s_c stepG_skip | s_cond true | s_cond false)
  s_c stepG_ret'
  s_leave1 Try.func62
  repeat (first | s_c stepG_seq | s_reg | s_op | s_c stepG_region_end | s_c stepG_block | s_c stepG_skip | s_cond true | s_cond false)
  s_stop
  refine LoneTo.step (step_lone_select_send_room (c := c) (cap := cap) (buf := l) (s := s) (r := r) (tm := false) (stepG_comm (cases := #[scase c x (.string { data := #[] })]) (blocking := false) (shape := .select) (w' := w) rfl rfl (by decide) (by simp [go_sem, execOp, scase, rcase, Act.eval])) hc hl) ?_
  rw [Frame.finish_at]
  walk_nrm
  refine LoneTo.goes (n := 60) ?_
  repeat (first | s_c stepG_seq | s_reg | s_op | s_c stepG_region_end | s_c stepG_block | s_c stepG_skip | s_cond true | s_cond false)
  s_c stepG_ret'
  s_stop
  refine LoneTo.done ⟨.returned (.bool true), _, rfl, ⟨rfl, rfl⟩, rfl, rfl, rfl, rfl, _, Try.func42, by simp [results, Try.f42, Frame.at]⟩

set_option maxHeartbeats 1000000 in
set_option maxRecDepth 100000 in
theorem putFull_str (w : World) (b c cap : Nat) (l : Array Value) (s r : Nat) (x : Value) (t : TypeId) (hb : w.heap[b]? = some (.cells #[.chan (some c)] t (0, 0))) (hc : w.heap[c]? = some (.chan cap l false s r false)) (hl : cap ≤ l.size) :
    Calls Try.prog 42 #[.pointer (some ⟨b, 0, none⟩), x] w fun e w' => e = .returned (.bool false) ∧ w' = w := by
  have hcell : w.cell? ⟨b, 0, none⟩ = some (.chan (some c)) := by simp [World.cell?, hb]
  refine calls_of_loneTo fun cs => ?_
  have e : Frame.enter Try.prog 42 #[.pointer (some ⟨b, 0, none⟩), x] .normal = (base 42).at ⟨#[.pointer (some ⟨b, 0, none⟩), x, undef, undef, undef, undef, undef, undef, undef, undef, undef, undef, undef, undef, undef, undef], []⟩ [.code (Try.f42.body.getD .skip)] := by
    simp [Frame.enter, Frame.at, Try.func42, base, Try.f42]
  rw [e]
  refine LoneTo.goes (n := 100) ?_
  simp only [Try.f42, Option.getD_some]
  repeat (first | s_c stepG_seq | s_reg | s_op | s_c stepG_region_end | s_c stepG_block | s_c stepG_skip | s_cond true | s_cond false)
  s_call Try.func62 (by rfl) Try.f62
  repeat (first | s_c stepG_seq | s_reg | s_op | s_c stepG_region_end | s_c stepG_block | s_c stepG_skip | s_cond true | s_cond false)
  s_c stepG_ret'
  s_leave1 Try.func62
  repeat (first | s_c stepG_seq | s_reg | s_op | s_c stepG_region_end | s_c stepG_block | s_c stepG_skip | s_cond true | s_cond false)
  s_stop
  refine LoneTo.step (step_lone_select_send_full (c := c) (cap := cap) (buf := l) (s := s) (r := r) (tm := false) (stepG_comm (cases := #[scase c x (.string { data := #[] })]) (blocking := false) (shape := .select) (w' := w) rfl rfl (by decide) (by simp [go_sem, execOp, scase, rcase, Act.eval])) hc hl) ?_
  rw [Frame.finish_at]
  walk_nrm
  refine LoneTo.goes (n := 60) ?_
  repeat (first | s_c stepG_seq | s_reg | s_op | s_c stepG_region_end | s_c stepG_block | s_c stepG_skip | s_cond true | s_cond false)
  s_c stepG_ret'
  s_stop
  refine LoneTo.done ⟨.returned (.bool false), _, rfl, ⟨rfl, rfl⟩, rfl, rfl, rfl, rfl, _, Try.func42, by simp [results, Try.f42, Frame.at]⟩

set_option maxHeartbeats 1000000 in
set_option maxRecDepth 100000 in
theorem takeSome_str (w : World) (b c cap : Nat) (l : Array Value) (s r : Nat) (v : Value) (t : TypeId) (hb : w.heap[b]? = some (.cells #[.chan (some c)] t (0, 0))) (hc : w.heap[c]? = some (.chan cap l false s r false)) (hl : 0 < l.size) (hv : l.getD 0 undef = v) :
    Calls Try.prog 43 #[.pointer (some ⟨b, 0, none⟩)] w fun e w' => e = .returned (.tuple #[v, .bool true]) ∧ w' = w.setChan c cap (l.extract 1 l.size) false s (r + 1) false := by
  have hcell : w.cell? ⟨b, 0, none⟩ = some (.chan (some c)) := by simp [World.cell?, hb]
  refine calls_of_loneTo fun cs => ?_
  have e : Frame.enter Try.prog 43 #[.pointer (some ⟨b, 0, none⟩)] .normal = (base 43).at ⟨#[.pointer (some ⟨b, 0, none⟩), undef, undef, undef, undef, undef, undef, undef, undef, undef, undef, undef, undef, undef, undef, undef, undef, undef, undef, undef], []⟩ [.code (Try.f43.body.getD .skip)] := by
    simp [Frame.enter, Frame.at, Try.func43, base, Try.f43]
  rw [e]
  refine LoneTo.goes (n := 100) ?_
  simp only [Try.f43, Option.getD_some]
  repeat (first | s_c stepG_seq | s_reg | s_op | s_c stepG_region_end | s_c stepG_block | s_c stepG_skip | s_cond true | s_cond false)
  s_call Try.func62 (by rfl) Try.f62
  repeat (first | s_c stepG_seq | s_reg | s_op | s_c stepG_region_end | s_c stepG_block | s_c stepG_skip | s_cond true | s_cond false)
  s_c stepG_ret'
  s_leave1 Try.func62
  repeat (first | s_c stepG_seq | s_reg | s_op | s_c stepG_region_end | s_c stepG_block | s_c stepG_skip | s_cond true | s_cond false)
  s_stop
  refine LoneTo.step (step_lone_select_recv_buf (c := c) (z := .string { data := #[] }) (cap := cap) (buf := l) (s := s) (r := r) (tm := false) (stepG_comm (cases := #[rcase c (.string { data := #[] })]) (blocking := false) (shape := .select) (w' := w) rfl rfl (by decide) (by simp [go_sem, execOp, scase, rcase, Act.eval])) hc hl) ?_
  rw [hv, Frame.finish_at]
  walk_nrm
  refine LoneTo.goes (n := 60) ?_
  repeat (first | s_c stepG_seq | s_reg | s_op | s_c stepG_region_end | s_c stepG_block | s_c stepG_skip | s_cond true | s_cond false)
  s_c stepG_ret'
  s_stop
  refine LoneTo.done ⟨.returned (.tuple #[v, .bool true]), _, rfl, ⟨rfl, rfl⟩, rfl, rfl, rfl, rfl, _, Try.func43, by simp [results, Try.f43, Frame.at]⟩

set_option maxHeartbeats 1000000 in
set_option maxRecDepth 100000 in
theorem takeNone_str (w : World) (b c cap : Nat) (l : Array Value) (s r : Nat) (t : TypeId) (hb : w.heap[b]? = some (.cells #[.chan (some c)] t (0, 0))) (hc : w.heap[c]? = some (.chan cap l false s r false)) (hl : l = #[]) :
    Calls Try.prog 43 #[.pointer (some ⟨b, 0, none⟩)] w fun e w' => e = .returned (.tuple #[.string { data := #[] }, .bool false]) ∧ w' = w := by
  subst hl
  have hcell : w.cell? ⟨b, 0, none⟩ = some (.chan (some c)) := by simp [World.cell?, hb]
  refine calls_of_loneTo fun cs => ?_
  have e : Frame.enter Try.prog 43 #[.pointer (some ⟨b, 0, none⟩)] .normal = (base 43).at ⟨#[.pointer (some ⟨b, 0, none⟩), undef, undef, undef, undef, undef, undef, undef, undef, undef, undef, undef, undef, undef, undef, undef, undef, undef, undef, undef], []⟩ [.code (Try.f43.body.getD .skip)] := by
    simp [Frame.enter, Frame.at, Try.func43, base, Try.f43]
  rw [e]
  refine LoneTo.goes (n := 100) ?_
  simp only [Try.f43, Option.getD_some]
  repeat (first | s_c stepG_seq | s_reg | s_op | s_c stepG_region_end | s_c stepG_block | s_c stepG_skip | s_cond true | s_cond false)
  s_call Try.func62 (by rfl) Try.f62
  repeat (first | s_c stepG_seq | s_reg | s_op | s_c stepG_region_end | s_c stepG_block | s_c stepG_skip | s_cond true | s_cond false)
  s_c stepG_ret'
  s_leave1 Try.func62
  repeat (first | s_c stepG_seq | s_reg | s_op | s_c stepG_region_end | s_c stepG_block | s_c stepG_skip | s_cond true | s_cond false)
  s_stop
  refine LoneTo.step (step_lone_select_default (c := c) (z := .string { data := #[] }) (cap := cap) (s := s) (r := r) (tm := false) (stepG_comm (cases := #[rcase c (.string { data := #[] })]) (blocking := false) (shape := .select) (w' := w) rfl rfl (by decide) (by simp [go_sem, execOp, scase, rcase, Act.eval])) hc) ?_
  rw [Frame.finish_at]
  walk_nrm
  refine LoneTo.goes (n := 60) ?_
  repeat (first | s_c stepG_seq | s_reg | s_op | s_c stepG_region_end | s_c stepG_block | s_c stepG_skip | s_cond true | s_cond false)
  s_c stepG_ret'
  s_stop
  refine LoneTo.done ⟨.returned (.tuple #[.string { data := #[] }, .bool false]), _, rfl, ⟨rfl, rfl⟩, rfl, rfl, rfl, rfl, _, Try.func43, by simp [results, Try.f43, Frame.at]⟩

end Box
end Go.Proofs.Ytdmpgoaemoiogaa
