import Derived.Test.YtfohollhdaedlaaGreatDoorTrmPl
import Derived.Test.YtfohollhdaedlaaGreatDoorTrmS
import Derived.Deep.AppendLies
import Derived.Deep.RegionLaw
import Derived.BigRegion
import Derived.Deep.Cut
import Derived.Deep.CutRange
import Derived.Lib.SliceRun
import Derived.StillTailTactics
import Derived.Test.YtfohollhdaedlaaGreatDoorTrm24
import Derived.Test.YtfohollhdaedlaaGreatDoorTrmE
import Derived.Test.YtfohollhdaedlaaGreatDoorDocs
import Derived.Lib.AppendZeros
/- Terms: a heap of lists' heads in memory: which of two comes first; one is put in. -/
set_option linter.unusedVariables false
set_option linter.unusedSimpArgs false
set_option maxRecDepth 100000
namespace Go.Proofs.YtfohollhdaedlaaGreatDoor
open Go.RowKit
namespace Trm
/-- The head of a list: its first term, the list's number, the rest. -/
structure HD where
  t : ByteArray
  a : Option Addr
  n : Nat
  c : Nat
  i : Nat
  b : Option Addr
  m : Nat
  d : Nat
def HD.arr (h : HD) : Array Value := #[.string h.t, .slice h.a h.n h.c, .int .i64 (h.i : Int), .slice h.b h.m h.d]
def hCells (l : List HD) : List Value := l.flatMap fun h => [.string h.t, .slice h.a h.n h.c, .int .i64 (h.i : Int), .slice h.b h.m h.d]
theorem hCells_append (l m : List HD) : hCells (l ++ m) = hCells l ++ hCells m := by simp [hCells]
theorem hCells_length : ∀ l : List HD, (hCells l).length = l.length * 4
  | [] => rfl
  | x :: l => by
    have := hCells_length l
    show (hCells l).length + 1 + 1 + 1 + 1 = _
    rw [this, List.length_cons]; omega
theorem hCells_at : ∀ (l : List HD) (i : Nat) (x : HD), l[i]? = some x → (hCells l)[i * 4]? = some (.string x.t) ∧ (hCells l)[i * 4 + 1]? = some (.slice x.a x.n x.c) ∧ (hCells l)[i * 4 + 2]? = some (.int .i64 (x.i : Int)) ∧ (hCells l)[i * 4 + 3]? = some (.slice x.b x.m x.d)
  | [], _, _, h => by simp at h
  | y :: l, 0, x, h => by
    obtain rfl : y = x := by simpa using h
    exact ⟨rfl, rfl, rfl, rfl⟩
  | y :: l, i + 1, x, h => by
    have := hCells_at l i x (by simpa using h)
    show (Value.string y.t :: .slice y.a y.n y.c :: .int .i64 (y.i : Int) :: .slice y.b y.m y.d :: hCells l)[(i + 1) * 4]? = _ ∧ (Value.string y.t :: .slice y.a y.n y.c :: .int .i64 (y.i : Int) :: .slice y.b y.m y.d :: hCells l)[(i + 1) * 4 + 1]? = _ ∧ (Value.string y.t :: .slice y.a y.n y.c :: .int .i64 (y.i : Int) :: .slice y.b y.m y.d :: hCells l)[(i + 1) * 4 + 2]? = _ ∧ (Value.string y.t :: .slice y.a y.n y.c :: .int .i64 (y.i : Int) :: .slice y.b y.m y.d :: hCells l)[(i + 1) * 4 + 3]? = _
    rw [show (i + 1) * 4 = i * 4 + 1 + 1 + 1 + 1 by omega]
    exact this
theorem hCells_one (l : List HD) : ∀ u ∈ hCells l, u.oneCell' = true := by
  intro u hu
  obtain ⟨x, _, hx⟩ := List.mem_flatMap.1 hu
  simp only [List.mem_cons, List.not_mem_nil, or_false] at hx
  rcases hx with rfl | rfl | rfl | rfl <;> rfl
/-- Which of two heads comes first. -/
def hltB (a b : HD) : Bool := slt a.t b.t || (!slt b.t a.t && decide (a.i < b.i))
def hltP (a b : HD) : Prop := hltB a b = true
theorem hltP_iff (a b : HD) : hltP a b ↔ hlt a.t b.t a.i b.i := by
  unfold hltP hltB hlt
  by_cases h1 : slt a.t b.t = true
  · simp [h1, slt_asymm h1]
  · by_cases h2 : slt b.t a.t = true
    · simp [h1, h2]
    · simp [h1, h2]
theorem hord : Hp.Ord hltP where
  asymm := fun a b h k => by
    rw [hltP_iff] at h k
    rcases h with h | ⟨h1, h2⟩
    · rcases k with k | ⟨k1, k2⟩
      · rw [slt_asymm h] at k; cases k
      · rw [h] at k1; cases k1
    · rcases k with k | ⟨k1, k2⟩
      · rw [k] at h1; cases h1
      · omega
  ntrans := fun a b c h k hh => by
    rw [hltP_iff] at h k hh
    unfold hlt at h k hh
    -- not (b before a), not (c before b), but c before a
    have h1 : sle a.t b.t := by unfold sle; simpa using fun hx => h (.inl hx)
    have k1 : sle b.t c.t := by unfold sle; simpa using fun hx => k (.inl hx)
    have h3 := sle_trans h1 k1
    rcases hh with hh | ⟨hh1, hh2⟩
    · unfold sle at h3; rw [hh] at h3; cases h3
    · -- all texts are the same
      have e1 : slt a.t b.t = false := by
        rw [Bool.eq_false_iff]
        intro hx
        have := slt_of_lt_le hx k1
        rw [this] at hh1; cases hh1
      have e2 : slt b.t c.t = false := by
        rw [Bool.eq_false_iff]
        intro hx
        by_cases he : a.t = b.t
        · rw [← he] at hx; rw [hx] at hh1; cases hh1
        · have := slt_trans (slt_total h1 (fun hh => he hh.symm)) hx
          rw [this] at hh1; cases hh1
      have i1 : ¬ b.i < a.i := fun hx => h (.inr ⟨e1, hx⟩)
      have i2 : ¬ c.i < b.i := fun hx => k (.inr ⟨e2, hx⟩)
      omega
instance : Inhabited HD := ⟨⟨⟨#[]⟩, none, 0, 0, 0, none, 0, 0⟩⟩
def HeapO (l : List HD) : Prop := Hp.IsH hltP l.length fun k => l.getD k default
theorem tless_calls (f g : ByteArray) (A B : Option Addr) (n c m d : Nat) (w : World) :
    Calls Tryz.prog 35 #[.agg #[.string f, .slice A n c], .agg #[.string g, .slice B m d]] w fun e w' => e = .returned (.bool (slt f g)) ∧ Below w.heap.size w w' := by
  have HB : Hid (Below w.heap.size w ((w.alloc (.cells #[.string f, .slice A n c] 37)).alloc (.cells #[.string g, .slice B m d] 37))) := ((Below.refl _ _).alloc (Nat.le_refl _) _).alloc (by simp) _
  go_enter Tryz.func35, Tryz.ntmps35
  go_wp2_with fail
  go_ret
  exact ⟨rfl, HB.out⟩
set_option maxHeartbeats 4000000 in
theorem less_calls (x y : HD) (cb : Nat) (w : World) (hc : w.cell? ⟨cb, 0, none⟩ = some (.func (.func 35) #[] #[])) :
    Calls Tryz.prog 52 #[.agg x.arr, .agg y.arr, .pointer (some ⟨cb, 0, none⟩)] w fun e w' => e = .returned (.bool (hltB x y)) ∧ Below w.heap.size w w' := by
  obtain ⟨xt, xa, xn, xc, xi, xb, xm, xd⟩ := x
  obtain ⟨yt, ya, yn, yc, yi, yb, ym, yd⟩ := y
  simp only [HD.arr, hltB]
  have hb0 : Below w.heap.size w ((w.alloc (.cells #[.string xt, .slice xa xn xc, .int .i64 xi, .slice xb xm xd] 92)).alloc (.cells #[.string yt, .slice ya yn yc, .int .i64 yi, .slice yb ym yd] 92)) := ((Below.refl _ _).alloc (Nat.le_refl _) _).alloc (by simp) _
  have hc' := cell_kept hb0 hc
  obtain ⟨wA, hwA⟩ : ∃ wA, (w.alloc (.cells #[.string xt, .slice xa xn xc, .int .i64 xi, .slice xb xm xd] 92)).alloc (.cells #[.string yt, .slice ya yn yc, .int .i64 yi, .slice yb ym yd] 92) = wA := ⟨_, rfl⟩
  have HC := Lib.hid (show wA.cell? ⟨cb, 0, none⟩ = some (.func (.func 35) #[] #[]) by rw [← hwA]; exact hc')
  have HB0 := Lib.hid (show Below w.heap.size w wA by rw [← hwA]; exact hb0)
  have h1 := heap_alloc_new w (.cells #[.string xt, .slice xa xn xc, .int .i64 xi, .slice xb xm xd] 92)
  have HX : Hid (wA.heap[w.heap.size]? = some (.cells #[.string xt, .slice xa xn xc, .int .i64 xi, .slice xb xm xd] 92 (0, 0))) := by
    show _ = _
    rw [← hwA]
    exact (((Below.refl (w.alloc (.cells #[.string xt, .slice xa xn xc, .int .i64 xi, .slice xb xm xd] 92)).heap.size _).alloc (Nat.le_refl _) _).block _ (Array.getElem?_eq_some_iff.1 h1).1).trans h1
  have HY : Hid (wA.heap[w.heap.size + 1]? = some (.cells #[.string yt, .slice ya yn yc, .int .i64 yi, .slice yb ym yd] 92 (0, 0))) := by
    show _ = _
    rw [← hwA]
    have := heap_alloc_new (w.alloc (.cells #[.string xt, .slice xa xn xc, .int .i64 xi, .slice xb xm xd] 92)) (.cells #[.string yt, .slice ya yn yc, .int .i64 yi, .slice yb ym yd] 92)
    simpa using this
  have C1 := Lib.hid (tless_calls xt yt xa ya xn xc yn yc wA)
  have HWA := Lib.hid hwA
  obtain ⟨b1, hb1⟩ : ∃ b1, slt xt yt = b1 := ⟨_, rfl⟩
  obtain ⟨b2, hb2⟩ : ∃ b2, slt yt xt = b2 := ⟨_, rfl⟩
  have C2 := Lib.hid (fun w => tless_calls yt xt ya xa yn yc xn xc w)
  rw [hb1] at C1 ⊢
  rw [hb2] at C2 ⊢
  clear hb1 hb2 hwA h1 hb0 hc
  go_enter Tryz.func52, Tryz.ntmps52
  go_wp2_with fail
  rw [HWA.out]
  refine C1.out.mono ?_
  rintro e w1 ⟨rfl, hb⟩
  have HB1 := Lib.hid (below_next HB0.out hb)
  have hc1 := cell_kept hb HC.out
  have x0 := cell_kept hb (show wA.cell? ⟨w.heap.size, 0, none⟩ = some (.string xt) by simp [World.cell?, HX.out])
  have x1 := cell_kept hb (show wA.cell? ⟨w.heap.size, 1, none⟩ = some (.slice xa xn xc) by simp [World.cell?, HX.out])
  have x2 := cell_kept hb (show wA.cell? ⟨w.heap.size, 2, none⟩ = some (.int .i64 xi) by simp [World.cell?, HX.out])
  have y0 := cell_kept hb (show wA.cell? ⟨w.heap.size + 1, 0, none⟩ = some (.string yt) by simp [World.cell?, HY.out])
  have y1 := cell_kept hb (show wA.cell? ⟨w.heap.size + 1, 1, none⟩ = some (.slice ya yn yc) by simp [World.cell?, HY.out])
  have y2 := cell_kept hb (show wA.cell? ⟨w.heap.size + 1, 2, none⟩ = some (.int .i64 yi) by simp [World.cell?, HY.out])
  have X2 := Lib.hid x2
  have Y2 := Lib.hid y2
  clear hb hc' C1
  cases b1
  · go_wp2_with fail
    refine (C2.out w1).mono ?_
    rintro e w2 ⟨rfl, hb⟩
    have HB2 := Lib.hid (below_next HB1.out hb)
    have x2 := cell_kept hb X2.out
    have y2 := cell_kept hb Y2.out
    clear hb hc1 x0 x1 y0 y1 C2
    cases b2
    · go_wp2_with fail
      go_ret
      exact ⟨by simp, HB2.out⟩
    · go_wp2_with fail
      go_ret
      exact ⟨by simp, HB2.out⟩
  · go_wp2_with fail
    go_ret
    exact ⟨by simp, HB1.out⟩
end Trm
end Go.Proofs.YtfohollhdaedlaaGreatDoor
/- Terms: a heap of lists' heads in memory: one is put in. -/
set_option linter.unusedVariables false
set_option linter.unusedSimpArgs false
set_option maxRecDepth 100000
namespace Go.Proofs.YtfohollhdaedlaaGreatDoor
open Go.RowKit
namespace Trm
structure IsHp (B hb cb : Nat) (v : Value) (hs : List HD) (w : World) : Prop where
  le : B ≤ hb
  head : w.heap[hb]? = some (.cells #[v, .func (.func 52) #[] #[.pointer (some ⟨cb, 0, none⟩)]] 121 (0, 0))
  cap : w.heap[cb]? = some (.cells #[.func (.func 35) #[] #[]] 44 (0, 0))
  row : w.ownsRow B 92 4 v hs.length (hCells hs)
theorem IsHp.below {B hb cb : Nat} {v : Value} {hs : List HD} {w w' : World} (h : IsHp B hb cb v hs w) (hbw : Below w.heap.size w w') : IsHp B hb cb v hs w' :=
  ⟨h.le, (hbw.block _ (Array.getElem?_eq_some_iff.1 h.head).1).trans h.head, (hbw.block _ (Array.getElem?_eq_some_iff.1 h.cap).1).trans h.cap, own_below h.row hbw⟩
theorem IsHp.lt {B hb cb : Nat} {v : Value} {hs : List HD} {w : World} (h : IsHp B hb cb v hs w) : hb < w.heap.size := (Array.getElem?_eq_some_iff.1 h.head).1
theorem IsHp.size {B hb cb : Nat} {v : Value} {hs : List HD} {w : World} (h : IsHp B hb cb v hs w) : B ≤ w.heap.size := by have := h.le; have := h.lt; omega
theorem IsHp.ne {B hb cb : Nat} {v : Value} {hs : List HD} {w : World} (h : IsHp B hb cb v hs w) : some hb ≠ v.ownBlock := own_ne h.row h.head (by decide)
theorem IsHp.nc {B hb cb : Nat} {v : Value} {hs : List HD} {w : World} (h : IsHp B hb cb v hs w) : some cb ≠ v.ownBlock := own_ne h.row h.cap (by decide)
theorem IsHp.hc {B hb cb : Nat} {v : Value} {hs : List HD} {w : World} (h : IsHp B hb cb v hs w) : hb ≠ cb := fun e => by
  have h1 := h.cap
  rw [← e, h.head] at h1
  simp at h1
theorem hhead {w : World} {p : Nat} {x y : Value} {t : TypeId} (h : w.heap[p]? = some (.cells #[x, y] t (0, 0))) : w.cell? ⟨p, 0, none⟩ = some x ∧ w.cell? ⟨p, 1, none⟩ = some y ∧ w.frozen? ⟨p, 0, none⟩ = false :=
  ⟨by simp [World.cell?, h], by simp [World.cell?, h], by simp [World.frozen?, h]⟩
/-- What a heap's call may have changed: its own blocks. -/
structure HFoot (hb : Nat) (v : Value) (w w' : World) : Prop where
  os : w'.os = w.os
  tape : w'.tape = w.tape
  output : w'.output = w.output
  size : w.heap.size ≤ w'.heap.size
  block : ∀ k, k < w.heap.size → k ≠ hb → some k ≠ v.ownBlock → w'.heap[k]? = w.heap[k]?
theorem HFoot.of_below (hb : Nat) (v : Value) {w w' : World} (h : Below w.heap.size w w') : HFoot hb v w w' := ⟨h.os, h.tape, h.output, h.size, fun k hk _ _ => h.block k hk⟩
theorem HFoot.of_grown {hb : Nat} {v : Value} {w w' : World} (h : w.grownBy w' v.ownBlock) : HFoot hb v w w' := ⟨h.os, h.tape, h.output, h.size, fun k hk _ h2 => h.block k hk h2⟩
theorem HFoot.trans {hb : Nat} {v v' : Value} {w w1 w2 : World} (h : HFoot hb v w w1) (k : HFoot hb v' w1 w2) (hv : v'.ownBlock = v.ownBlock ∨ ∀ g, v'.ownBlock = some g → w.heap.size ≤ g) : HFoot hb v w w2 :=
  ⟨k.os.trans h.os, k.tape.trans h.tape, k.output.trans h.output, Nat.le_trans h.size k.size, fun j hj h1 h2 => (k.block j (Nat.lt_of_lt_of_le hj h.size) h1 (fun e => by
    rcases hv with hv | hv
    · exact h2 (by rw [← hv]; exact e)
    · have := hv j e.symm; omega)).trans (h.block j hj h1 h2)⟩
theorem HFoot.set (hb : Nat) (v : Value) (w : World) (j : Nat) (x : Value) : HFoot hb v w (w.setCell ⟨hb, j, none⟩ x) :=
  ⟨(grown_cell (W := w) (n := hb) (i := j) x).os, (grown_cell (W := w) (n := hb) (i := j) x).tape, (grown_cell (W := w) (n := hb) (i := j) x).output, (grown_cell (W := w) (n := hb) (i := j) x).size, fun k hk h1 _ => (grown_cell (W := w) (n := hb) (i := j) x).block k hk (fun e => h1 (Option.some.inj e))⟩
theorem getD_left {l : List HD} {x : HD} {k : Nat} (h : k < l.length) : (l ++ [x]).getD k default = l.getD k default := by
  rw [List.getD_eq_getElem?_getD, List.getD_eq_getElem?_getD, List.getElem?_append_left h]
theorem getD_at {l : List HD} {x : HD} {k : Nat} (h : l[k]? = some x) : l.getD k default = x := by
  rw [List.getD_eq_getElem?_getD, h]; rfl
theorem HFoot.below {hb B : Nat} {v : Value} {w w' : World} (h : HFoot hb v w w') (h1 : B ≤ hb) (h2 : ∀ g, v.ownBlock = some g → B ≤ g) (h3 : B ≤ w.heap.size) : Below B w w' :=
  ⟨h.os, h.tape, h.output, h.size, fun k hk => h.block k (Nat.lt_of_lt_of_le hk h3) (by omega) (fun e => by have := h2 k e.symm; omega)⟩
theorem IsHp.base {B hb cb : Nat} {v : Value} {hs : List HD} {w : World} (h : IsHp B hb cb v hs w) : ∀ g, v.ownBlock = some g → B ≤ g := fun g hg => by
  rcases h.row.2 with ⟨rfl, _⟩ | ⟨g', cap, cur, rfl, hb', _⟩
  · cases hg
  · have : g' = g := by simpa [Value.ownBlock] using hg
    omega
theorem neq_nil (cb : Nat) (w : World) : (binOp .neq 93 (.func (.func 52) #[] #[.pointer (some ⟨cb, 0, none⟩)]) .nilFunc).run Tryz.prog w = .ok (.bool true) w := by kernel_rfl
theorem made_calls {B hb cb : Nat} {v : Value} {hs : List HD} {w : World} (h : IsHp B hb cb v hs w) :
    Calls Tryz.prog 74 #[.pointer (some ⟨hb, 0, none⟩)] w fun e w' => e = .returned (.bool true) ∧ w' = w := by
  obtain ⟨z0, z1, z2⟩ := hhead h.head
  have hnn := neq_nil cb w
  clear h
  go_enter Tryz.func74, Tryz.ntmps74
  go_wp2_with fail
  go_ret
  exact ⟨by simp, rfl⟩
theorem hlen_calls {B hb cb : Nat} {v : Value} {hs : List HD} {w : World} (h : IsHp B hb cb v hs w) :
    Calls Tryz.prog 75 #[.pointer (some ⟨hb, 0, none⟩)] w fun e w' => e = .returned (.int .i64 hs.length) ∧ w' = w := by
  obtain ⟨A, c, rfl, hsl⟩ := own_form h.row
  obtain ⟨z0, z1, z2⟩ := hhead h.head
  clear h hsl
  generalize hs.length = n at *
  go_enter Tryz.func75, Tryz.ntmps75
  go_wp2_with fail
  go_ret
  exact ⟨rfl, rfl⟩
theorem newheap_calls (cb : Nat) (w : World) :
    Calls Tryz.prog 51 #[.func (.func 52) #[] #[.pointer (some ⟨cb, 0, none⟩)]] w fun e w' =>
      e = .returned (.pointer (some ⟨w.heap.size, 0, none⟩)) ∧ w' = w.alloc (.cells #[.slice none 0 0, .func (.func 52) #[] #[.pointer (some ⟨cb, 0, none⟩)]] 121) := by
  go_enter Tryz.func51, Tryz.ntmps51
  go_wp2_with fail
  go_ret
  exact ⟨rfl, rfl⟩
theorem inf_head : (Tryz.prog.info? 92).map (fun i => (i.zero, i.size, i.bytes)) = some (some (.agg #[.string { data := #[] }, .slice none 0 0, .int .i64 0, .slice none 0 0]), 4, 72) := by kernel_rfl
theorem heap_set2 {W : World} {n : Nat} {a b x : Value} {t : TypeId} (h : W.heap[n]? = some (.cells #[a, b] t (0, 0))) : (W.setCell ⟨n, 0, none⟩ x).heap[n]? = some (.cells #[x, b] t (0, 0)) := by
  obtain ⟨hn, he⟩ := Array.getElem?_eq_some_iff.1 h
  simp [World.setCell, hn, he, Array.getElem_modify]
/-- The head of the heap's own struct is turned. -/
theorem IsHp.turn {B hb cb : Nat} {v v' : Value} {hs hs' : List HD} {w w1 : World} (h : IsHp B hb cb v hs w) (hg : w.grownBy w1 v.ownBlock) (hr : w1.ownsRow B 92 4 v' hs'.length (hCells hs'))
    (hne : some hb ≠ v'.ownBlock) : IsHp B hb cb v' hs' (w1.setCell ⟨hb, 0, none⟩ v') := by
  have h1 := (hg.block hb h.lt h.ne).trans h.head
  have h2 := (hg.block cb (Array.getElem?_eq_some_iff.1 h.cap).1 h.nc).trans h.cap
  refine ⟨h.le, ?_, (Below.heap_setCell _ ⟨hb, 0, none⟩ _ cb (fun e => h.hc e.symm)).trans h2, hr.kept (grown_cell v') (.inr (Ne.symm hne))⟩
  exact heap_set2 h1
theorem hCells_set : ∀ (l : List HD) (i : Nat) (x : HD), i < l.length → ((((hCells l).set (i * 4) (.string x.t)).set (i * 4 + 1) (.slice x.a x.n x.c)).set (i * 4 + 2) (.int .i64 (x.i : Int))).set (i * 4 + 3) (.slice x.b x.m x.d) = hCells (l.set i x)
  | [], _, _, h => by simp at h
  | y :: l, 0, x, _ => rfl
  | y :: l, i + 1, x, h => by
    have ih := hCells_set l i x (by simpa using h)
    show ((((Value.string y.t :: .slice y.a y.n y.c :: .int .i64 (y.i : Int) :: .slice y.b y.m y.d :: hCells l).set ((i + 1) * 4) _).set ((i + 1) * 4 + 1) _).set ((i + 1) * 4 + 2) _).set ((i + 1) * 4 + 3) _ = Value.string y.t :: .slice y.a y.n y.c :: .int .i64 (y.i : Int) :: .slice y.b y.m y.d :: hCells (l.set i x)
    rw [← ih, show (i + 1) * 4 = i * 4 + 1 + 1 + 1 + 1 by omega]
    simp only [List.set_cons_succ]
def put4 (w : World) (g i : Nat) (x : HD) : World := (((w.setCell ⟨g, i * 4, none⟩ (.string x.t)).setCell ⟨g, i * 4 + 1, none⟩ (.slice x.a x.n x.c)).setCell ⟨g, i * 4 + 2, none⟩ (.int .i64 (x.i : Int))).setCell ⟨g, i * 4 + 3, none⟩ (.slice x.b x.m x.d)
theorem IsHp.put {B hb cb g n c : Nat} {l : List HD} {w : World} (H : IsHp B hb cb (.slice (some ⟨g, 0, none⟩) n c) l w) (hl : l.length = n) (i : Nat) (hi : i < n) (x : HD) :
    IsHp B hb cb (.slice (some ⟨g, 0, none⟩) n c) (l.set i x) (put4 w g i x) ∧ w.grownBy (put4 w g i x) (some g) := by
  subst hl
  have h1 := H.row.stored (i * 4) (.string x.t)
  have h2 := h1.1.stored (i * 4 + 1) (.slice x.a x.n x.c)
  have h3 := h2.1.stored (i * 4 + 2) (.int .i64 (x.i : Int))
  have h4 := h3.1.stored (i * 4 + 3) (.slice x.b x.m x.d)
  have hg : w.grownBy (put4 w g i x) (some g) := ((h1.2.trans h2.2).trans h3.2).trans h4.2
  refine ⟨⟨H.le, (hg.block hb H.lt H.ne).trans H.head, (hg.block cb (Array.getElem?_eq_some_iff.1 H.cap).1 H.nc).trans H.cap, ?_⟩, hg⟩
  have h5 := h4.1
  rw [hCells_set l i x hi] at h5
  rw [List.length_set]
  exact h5
/-- Two heads change places. -/
theorem IsHp.swap {B hb cb g n c : Nat} {l : List HD} {w : World} (H : IsHp B hb cb (.slice (some ⟨g, 0, none⟩) n c) l w) (hl : l.length = n) (i u : Nat) (hi : i < n) (hu : u < n) (x y : HD) :
    IsHp B hb cb (.slice (some ⟨g, 0, none⟩) n c) ((l.set i y).set u x) (put4 (put4 w g i y) g u x).drew ∧ w.grownBy (put4 (put4 w g i y) g u x).drew (some g) := by
  obtain ⟨h1, g1⟩ := H.put hl i hi y
  obtain ⟨h2, g2⟩ := h1.put (by rw [List.length_set]; exact hl) u hu x
  have g3 := g1.trans g2
  generalize put4 (put4 w g i y) g u x = w' at *
  exact ⟨h2.below ((Below.refl _ _).drew), ⟨g3.os, g3.tape, g3.output, g3.size, g3.block⟩⟩
set_option maxHeartbeats 8000000 in
theorem push_calls {B hb cb : Nat} {v : Value} {hs : List HD} {w : World} (H0 : IsHp B hb cb v hs w) (hh : HeapO hs) (hn : hs.length ≤ 1000000) (x : HD) :
    Calls Tryz.prog 53 #[.pointer (some ⟨hb, 0, none⟩), .agg x.arr] w fun e w' => (∃ r, e = .returned r) ∧ ∃ v' hs', IsHp B hb cb v' hs' w' ∧ HeapO hs' ∧ hs'.Perm (hs ++ [x]) ∧ HFoot hb v w w' := by
  obtain ⟨w1, hw1⟩ : ∃ w1, w.alloc (.cells x.arr 92) = w1 := ⟨_, rfl⟩
  have hb1 : Below w.heap.size w w1 := by rw [← hw1]; exact (Below.refl _ _).alloc (Nat.le_refl _) _
  have H1 := Lib.hid (H0.below hb1)
  have HX : Hid (w1.heap[w.heap.size]? = some (.cells x.arr 92 (0, 0))) := by show _ = _; rw [← hw1]; exact heap_alloc_new _ _
  have HB1 := Lib.hid hb1
  have HW1 := Lib.hid hw1
  have HH := Lib.hid hh
  have C := Lib.hid (made_calls H1.out)
  have hlt := H0.lt
  obtain ⟨xt, xa, xn, xc, xi, xb, xm, xd⟩ := x
  simp only [HD.arr] at HX HW1 ⊢
  obtain ⟨N, hN⟩ : ∃ N, w.heap.size = N := ⟨_, rfl⟩
  have HNN := Lib.hid hN
  rw [hN] at HX hlt
  obtain ⟨i0, hi0, hz0, hz1, hz2⟩ := info_parts inf_head
  clear hb1 hw1 hh
  go_enter Tryz.func53, Tryz.ntmps53
  go_wp2_with fail
  rw [HW1.out]
  refine C.out.mono ?_
  rintro e w2 ⟨rfl, rfl⟩
  obtain ⟨z0, z1, z2⟩ := hhead H1.out.head
  have x0 : w2.cell? ⟨N, 0, none⟩ = some (.string xt) := by simp [World.cell?, HX.out]
  have x1 : w2.cell? ⟨N, 1, none⟩ = some (.slice xa xn xc) := by simp [World.cell?, HX.out]
  have x2 : w2.cell? ⟨N, 2, none⟩ = some (.int .i64 xi) := by simp [World.cell?, HX.out]
  have x3 : w2.cell? ⟨N, 3, none⟩ = some (.slice xb xm xd) := by simp [World.cell?, HX.out]
  have HI := Lib.hid H1.out.size
  have z0' := cell_kept ((Below.refl w2.heap.size w2).alloc (Nat.le_refl _) (.cells #[.string xt, .slice xa xn xc, .int .i64 xi, .slice xb xm xd] 92)) z0
  clear C
  go_upto_region 2 with fail
  go_cut [9] from 9 to 18 (fun v9 wx => ∃ W g c, W = wx ∧ v9 = .pointer (some ⟨hb, 0, none⟩) ∧ Hid (IsHp B hb cb (.slice (some ⟨g, 0, none⟩) (hs.length + 1) c) (hs ++ [⟨xt, xa, xn, xc, xi, xb, xm, xd⟩]) wx) ∧ Hid (HFoot hb v w2 wx) ∧ Hid ((Value.slice (some ⟨g, 0, none⟩) (hs.length + 1) c).ownBlock = v.ownBlock ∨ w2.heap.size ≤ g))
  case first =>
    go_region_law (refine step_append_lies _ rfl (.tmp 13) (.tmp 15) 119 rfl B 92 i0 (.agg #[.string { data := #[] }, .slice none 0 0, .int .i64 0, .slice none 0 0]) 4 72 Tryz.underlying119 hi0 hz0 hz1 hz2 rfl (by decide) v hs.length (hCells hs) (by simp [Act.eval, Act.put]) (H1.out.row.alloc _) ⟨w2.heap.size, 0, none⟩ 1 1 [.string xt, .slice xa xn xc, .int .i64 xi, .slice xb xm xd] (by simp [Act.eval, Act.put]) rfl (World.news_of_block (cs := #[.string xt, .slice xa xn xc, .int .i64 xi, .slice xb xm xd]) (t := 92) (fr := (0, 0)) (heap_alloc_new w2 _)) (by simp [Value.oneCell']) (by decide) (by unfold maxLen; omega) (by omega) (by simp; have := HI.out; omega) (w2.heap.size + 1) (by simp) ?_; intro g cap w5 hown hgrow hat hltg; have hh5 := (hgrow.block hb (by simp; have := H1.out.lt; omega) H1.out.ne).trans ((((Below.refl w2.heap.size w2).alloc (Nat.le_refl _) (.cells #[.string xt, .slice xa xn xc, .int .i64 xi, .slice xb xm xd] 92)).block hb H1.out.lt).trans H1.out.head); obtain ⟨u0, u1, u2⟩ := hhead hh5; have HO := Lib.hid hown; have HG := Lib.hid hgrow; have HA2 := Lib.hid hat; clear hh5 hown hgrow hat)
    all_goals (
      go_wp2_with fail
      go_meet
      have hg1 : w2.grownBy w5 v.ownBlock := (World.grownBy_alloc w2 _ _).trans ⟨HG.out.os, HG.out.tape, HG.out.output, HG.out.size, HG.out.block⟩
      have hne : some hb ≠ (Value.slice (some ⟨g, 0, none⟩) (hs.length + 1) cap).ownBlock := fun e => by
        have e1 : hb = g := by simpa [Value.ownBlock] using e
        rcases HA2.out with h | h
        · exact H1.out.ne (by rw [h, e1])
        · have := H1.out.lt; omega
      refine ⟨_, g, cap, rfl, rfl, H1.out.turn hg1 (by rw [hCells_append, List.length_append]; exact HO.out) hne, (HFoot.of_grown hg1).trans (HFoot.set hb v w5 0 _) (.inl rfl), ?_⟩
      rcases HA2.out with h | h
      · exact .inl (by rw [h]; rfl)
      · exact .inr (by omega))
  case rest =>
    obtain ⟨wx, g, c, hwx, rfl, HP, HF, HV⟩ := hcut
    subst hwx
    obtain ⟨n, hnn⟩ : ∃ n, hs.length + 1 = n := ⟨_, rfl⟩
    have HLN : Hid ((hs ++ [(⟨xt, xa, xn, xc, xi, xb, xm, xd⟩ : HD)]).length = n) := by show _ = _; rw [← hnn]; simp
    have HUP : Hid (Hp.UpI hltP n hs.length fun k => (hs ++ [(⟨xt, xa, xn, xc, xi, xb, xm, xd⟩ : HD)]).getD k default) := by
      rw [← hnn]
      exact Hp.IsH.more HH.out fun k hk => getD_left hk
    obtain ⟨m, hm⟩ : ∃ m, hs.length = m := ⟨_, rfl⟩
    have hwm : IntKind.i64.wrap ((n : Int) - 1) = (m : Int) := by rw [IntKind.wrap_i64]; omega
    have hmn : m < n := by omega
    rw [hm] at HUP
    obtain ⟨z0, z1, z2⟩ := hhead HP.out.head
    rw [hnn] at HP HV z0
    obtain ⟨L, hL⟩ : ∃ L, hs ++ [(⟨xt, xa, xn, xc, xi, xb, xm, xd⟩ : HD)] = L := ⟨_, rfl⟩
    rw [hL] at HP HLN HUP
    have HLL := Lib.hid hL
    have hgo : (Value.slice (some ⟨g, 0, none⟩) n c).ownBlock = some g := rfl
    have hn2 : n ≤ 1000001 := by omega
    clear x0 x1 x2 x3 z0' hL hnn hm hn hN
    go_wp2_with fail
    clear z0 z1 z2
    obtain ⟨wz, hwz⟩ : ∃ wz, wz = wx := ⟨_, rfl⟩
    subst hwz
    go_loopw [4] (fun ix wr => ∃ (i : Nat) (l : List HD), i < n ∧ ix = .int .i64 i ∧ Hid (l.length = n) ∧ Hid (IsHp B hb cb (.slice (some ⟨g, 0, none⟩) n c) l wr) ∧ Hid (l.Perm L) ∧ Hid (Hp.UpI hltP n i (fun k => l.getD k default)) ∧ Hid (HFoot hb (.slice (some ⟨g, 0, none⟩) n c) wz wr)) (fun ix _ => (intOf ix).toNat)
    case atStart => exact ⟨m, L, hmn, rfl, HLN, HP, List.Perm.refl _, HUP, HFoot.of_below _ _ (Below.refl _ _)⟩
    case round =>
      obtain ⟨i, l, hi, rfl, HL, HR, HPM, HU, HF2⟩ := hrel
      have HDONE : Hid (∀ (l' : List HD) (w' : World), IsHp B hb cb (.slice (some ⟨g, 0, none⟩) n c) l' w' → HeapO l' → l'.Perm L → HFoot hb (.slice (some ⟨g, 0, none⟩) n c) wz w' → ∃ v' hs', IsHp B hb cb v' hs' w' ∧ HeapO hs' ∧ hs'.Perm (hs ++ [(⟨xt, xa, xn, xc, xi, xb, xm, xd⟩ : HD)]) ∧ HFoot hb v w w') := fun l' w' h1 h2 h3 h4 =>
        ⟨_, l', h1, h2, by rw [HLL.out]; exact h3, ((HFoot.of_below hb v HB1.out).trans HF.out (.inl rfl)).trans h4 (by
          rcases HV.out with h | h
          · exact .inl h
          · refine .inr fun g' hg' => ?_
            have e : g = g' := by simpa [Value.ownBlock] using hg'
            have := HB1.out.size
            omega)⟩
      by_cases hi0' : i = 0
      · subst hi0'
        have HO : Hid (HeapO l) := by
          unfold HeapO
          rw [HL.out]
          exact HU.out.top
        go_wp2_with fail
        go_end0
        exact ⟨⟨_, rfl⟩, HDONE.out l _ HR.out HO.out HPM.out HF2.out⟩
      · obtain ⟨u, hu⟩ : ∃ u, (i - 1) / 2 = u := ⟨_, rfl⟩
        obtain ⟨x1, hx1⟩ : ∃ x1, l[i]? = some x1 := ⟨_, List.getElem?_eq_getElem (by rw [HL.out]; exact hi)⟩
        obtain ⟨y1, hy1⟩ : ∃ y1, l[u]? = some y1 := ⟨_, List.getElem?_eq_getElem (by rw [HL.out]; omega)⟩
        have hui : u < i := by omega
        have hun : u < n := by omega
        have hsub : IntKind.i64.wrap ((i : Int) - 1) = ((i - 1 : Nat) : Int) := by rw [IntKind.wrap_i64]; omega
        have hquo : (((i - 1 : Nat) : Int)).tdiv 2 = (u : Int) := by
          rw [Int.tdiv_eq_ediv_of_nonneg (by omega)]; omega
        have HX1 := Lib.hid hx1
        have HY1 := Lib.hid hy1
        obtain ⟨b, hbb⟩ : ∃ b, hltB x1 y1 = b := ⟨_, rfl⟩
        have HBB := Lib.hid hbb
        have hcap : wr.cell? ⟨cb, 0, none⟩ = some (.func (.func 35) #[] #[]) := by
          have := HR.out.cap
          simp [World.cell?, this]
        have HC : Hid (∀ nn : After wr, Calls Tryz.prog 52 #[.agg x1.arr, .agg y1.arr, .pointer (some ⟨cb, 0, none⟩)] nn.w fun r w' => r = .returned (.bool b) ∧ Below nn.w.heap.size nn.w w') := fun nn => by
          rw [← hbb]
          exact less_calls x1 y1 cb nn.w (nn.cell hcap)
        obtain ⟨z0, z1, z2⟩ := hhead HR.out.head
        obtain ⟨e0, e1, e2, e3⟩ := hCells_at l i x1 hx1
        obtain ⟨d0, d1, d2, d3⟩ := hCells_at l u y1 hy1
        have hrow := HR.out.row
        rw [HL.out] at hrow
        have Z0 : ∀ nn : After wr, nn.w.cell? ⟨hb, 0, none⟩ = some (.slice (some ⟨g, 0, none⟩) n c) := fun nn => nn.cell z0
        have Z1 : ∀ nn : After wr, nn.w.cell? ⟨hb, 1, none⟩ = some (.func (.func 52) #[] #[.pointer (some ⟨cb, 0, none⟩)]) := fun nn => nn.cell z1
        have E0 : ∀ nn : After wr, nn.w.cell? ⟨g, i * 4, none⟩ = some (.string x1.t) := fun nn => nn.cell ((hrow.cellAt _ (by omega)).trans e0)
        have E1 : ∀ nn : After wr, nn.w.cell? ⟨g, i * 4 + 1, none⟩ = some (.slice x1.a x1.n x1.c) := fun nn => nn.cell ((hrow.cellAt _ (by omega)).trans e1)
        have E2 : ∀ nn : After wr, nn.w.cell? ⟨g, i * 4 + 2, none⟩ = some (.int .i64 x1.i) := fun nn => nn.cell ((hrow.cellAt _ (by omega)).trans e2)
        have E3 : ∀ nn : After wr, nn.w.cell? ⟨g, i * 4 + 3, none⟩ = some (.slice x1.b x1.m x1.d) := fun nn => nn.cell ((hrow.cellAt _ (by omega)).trans e3)
        have D0 : ∀ nn : After wr, nn.w.cell? ⟨g, u * 4, none⟩ = some (.string y1.t) := fun nn => nn.cell ((hrow.cellAt _ (by omega)).trans d0)
        have D1 : ∀ nn : After wr, nn.w.cell? ⟨g, u * 4 + 1, none⟩ = some (.slice y1.a y1.n y1.c) := fun nn => nn.cell ((hrow.cellAt _ (by omega)).trans d1)
        have D2 : ∀ nn : After wr, nn.w.cell? ⟨g, u * 4 + 2, none⟩ = some (.int .i64 y1.i) := fun nn => nn.cell ((hrow.cellAt _ (by omega)).trans d2)
        have D3 : ∀ nn : After wr, nn.w.cell? ⟨g, u * 4 + 3, none⟩ = some (.slice y1.b y1.m y1.d) := fun nn => nn.cell ((hrow.cellAt _ (by omega)).trans d3)
        obtain ⟨xt1, xa1, xn1, xc1, xi1, xb1, xm1, xd1⟩ := x1
        obtain ⟨yt1, ya1, yn1, yc1, yi1, yb1, ym1, yd1⟩ := y1
        simp only [HD.arr] at HC E0 E1 E2 E3 D0 D1 D2 D3
        have hiN : (i : Int) < (n : Int) := by omega
        have huN : (u : Int) < (n : Int) := by omega
        clear hx1 hy1 hbb hcap z0 z1 z2 e0 e1 e2 e3 d0 d1 d2 d3 hrow
        have hu' := hu
        clear hu
        go_upto_region 6 with fail
        refine wp_region_after (by kernel_rfl) (by kernel_rfl) ?_
        repeat (go_big_quiet_step (first
          | (go_at_call 52; exact Calls.after (HC.out _))))
        refine wpQuiet_nil ?_
        intro _ hw'
        obtain ⟨nq, hw''⟩ := hw'
        subst hw''
        obtain ⟨w3, hb3⟩ := nq
        have H3 := Lib.hid (HR.out.below hb3)
        have HF3 : Hid (HFoot hb (.slice (some ⟨g, 0, none⟩) n c) wz w3) := HF2.out.trans (HFoot.of_below hb _ hb3) (.inl rfl)
        have z0 := Z0 ⟨w3, hb3⟩
        have e0 := E0 ⟨w3, hb3⟩
        have e1 := E1 ⟨w3, hb3⟩
        have e2 := E2 ⟨w3, hb3⟩
        have e3 := E3 ⟨w3, hb3⟩
        have d0 := D0 ⟨w3, hb3⟩
        have d1 := D1 ⟨w3, hb3⟩
        have d2 := D2 ⟨w3, hb3⟩
        have d3 := D3 ⟨w3, hb3⟩
        clear Z0 Z1 E0 E1 E2 E3 D0 D1 D2 D3 HC
        simp only at z0 e0 e1 e2 e3 d0 d1 d2 d3 ⊢
        cases b
        · have HO : Hid (HeapO l) := by
            unfold HeapO
            rw [HL.out]
            refine HU.out.stop ?_
            rw [hu', getD_at HX1.out, getD_at HY1.out]
            unfold hltP
            rw [HBB.out]; decide
          go_wp2_with fail
          (try simp only [Exit.inBlock, Exit.then])
          refine bodyPost_ret (results_none rfl _ _ _) rfl ?_
          exact ⟨⟨_, rfl⟩, HDONE.out l _ H3.out HO.out HPM.out HF3.out⟩
        · have hfz : ∀ j, w3.frozen? ⟨g, j, none⟩ = false := fun j => by have h := H3.out.row; rw [HL.out] at h; exact h.frozenAt j
          have fe0 := hfz (i * 4)
          have fe1 := hfz (i * 4 + 1)
          have fe2 := hfz (i * 4 + 2)
          have fe3 := hfz (i * 4 + 3)
          have fd0 := hfz (u * 4)
          have fd1 := hfz (u * 4 + 1)
          have fd2 := hfz (u * 4 + 2)
          have fd3 := hfz (u * 4 + 3)
          clear hfz
          go_upto_region 7 with fail
          go_cut [50] from 50 to 75 (fun v50 wx => ∃ W, W = wx ∧ v50 = .pointer (some ⟨hb, 0, none⟩) ∧ Hid (IsHp B hb cb (.slice (some ⟨g, 0, none⟩) n c) ((l.set i ⟨yt1, ya1, yn1, yc1, yi1, yb1, ym1, yd1⟩).set u ⟨xt1, xa1, xn1, xc1, xi1, xb1, xm1, xd1⟩) wx) ∧ Hid (HFoot hb (.slice (some ⟨g, 0, none⟩) n c) w3 wx))
          case first =>
            go_region
            go_wp2_with fail
            go_meet
            have hsw := H3.out.swap HL.out i u hi hun ⟨xt1, xa1, xn1, xc1, xi1, xb1, xm1, xd1⟩ ⟨yt1, ya1, yn1, yc1, yi1, yb1, ym1, yd1⟩
            exact ⟨_, rfl, rfl, hsw.1, HFoot.of_grown hsw.2⟩
          case rest =>
            obtain ⟨wx, hwx, rfl, HP4, HF4⟩ := hcut
            subst hwx
            have HU4 : Hid (Hp.UpI hltP n u fun k => ((l.set i (⟨yt1, ya1, yn1, yc1, yi1, yb1, ym1, yd1⟩ : HD)).set u ⟨xt1, xa1, xn1, xc1, xi1, xb1, xm1, xd1⟩).getD k default) := by
              have h := HU.out.step hord (by omega) hi (by
                rw [hu', getD_at HX1.out, getD_at HY1.out]
                exact HBB.out)
              rw [hu'] at h
              have e : (fun k => ((l.set i (⟨yt1, ya1, yn1, yc1, yi1, yb1, ym1, yd1⟩ : HD)).set u ⟨xt1, xa1, xn1, xc1, xi1, xb1, xm1, xd1⟩).getD k default) = Hp.swp (fun k => l.getD k default) i u := funext fun k => Hp.swp_at HX1.out HY1.out k
              show Hp.UpI hltP n u _
              rw [e]; exact h
            have HP5 : Hid (((l.set i (⟨yt1, ya1, yn1, yc1, yi1, yb1, ym1, yd1⟩ : HD)).set u ⟨xt1, xa1, xn1, xc1, xi1, xb1, xm1, xd1⟩).Perm L) := (Hp.swap_perm HX1.out HY1.out).trans HPM.out
            have HL5 : Hid (((l.set i (⟨yt1, ya1, yn1, yc1, yi1, yb1, ym1, yd1⟩ : HD)).set u ⟨xt1, xa1, xn1, xc1, xi1, xb1, xm1, xd1⟩).length = n) := by show _ = _; rw [List.length_set, List.length_set]; exact HL.out
            have HF5 := Lib.hid (HF3.out.trans HF4.out (.inl rfl))
            clear fe0 fe1 fe2 fe3 fd0 fd1 fd2 fd3 e0 e1 e2 e3 d0 d1 d2 d3 z0
            go_wp2_with fail
            go_roundw
            case rel => exact ⟨u, _, hun, rfl, HL5, HP4, HP5, HU4, HF5⟩
            case measure => simp [intOf]; omega
end Trm
end Go.Proofs.YtfohollhdaedlaaGreatDoor
/- Terms: a heap of lists' heads in memory: its last one is cut off; the first one sinks; the least one is taken out. -/
set_option linter.unusedVariables false
set_option linter.unusedSimpArgs false
set_option maxRecDepth 100000
namespace Go.Proofs.YtfohollhdaedlaaGreatDoor
open Go.RowKit
namespace Trm
theorem own_shrink {w : World} {base : Nat} {e : TypeId} {size g n m cap : Nat} {xs : List Value} (h : w.ownsRow base e size (.slice (some ⟨g, 0, none⟩) n cap) n xs) (hm : m ≤ n) :
    w.ownsRow base e size (.slice (some ⟨g, 0, none⟩) m cap) m (xs.take (m * size)) := by
  have hms : m * size ≤ n * size := Nat.mul_le_mul_right _ hm
  refine ⟨by rw [List.length_take, h.1]; omega, ?_⟩
  rcases h.2 with ⟨h', _⟩ | ⟨g', cap', cur, h', hb, hg, hnc, hcm, hcs, htake⟩
  · simp at h'
  · simp only [Value.slice.injEq, Option.some.injEq, Addr.mk.injEq, and_true, true_and] at h'
    obtain ⟨rfl, rfl⟩ := h'
    exact .inr ⟨g, cap, cur, rfl, hb, hg, by omega, hcm, hcs, by rw [← htake, List.take_take, Nat.min_eq_left hms]⟩
/-- 'clear' of one element of several cells. -/
theorem run_clear_one {P : Program} (w : World) (t e ty : TypeId) (z : Value) (zs : List Value) (ht : P.underlying t = some (.slice e)) (hv : ∀ w, (zeroValue e).run P w = .ok z w) (hz : (Builtin.zeroCells z.cells 1).toList = zs) (h1 : ∀ v ∈ zs, v.oneCell' = true) (b o c : Nat)
    (hc : ∀ j, j < zs.length → (w.cell? ⟨b, o + j, none⟩).isSome = true) (hf : ∀ j, j < zs.length → w.frozen? ⟨b, o + j, none⟩ = false) :
    (Builtin.clear_ #[t] ty #[.slice (some ⟨b, o, none⟩) 1 c]).run P w = .ok (.tuple #[]) (w.setCells b o zs) := by
  have hst := run_storeCells_cells (P := P) b o zs 0 w (by simpa using hc) (by simpa using hf) h1
  simp only [Nat.add_zero] at hst
  simp [Builtin.clear_, run_underlying ht, hv, hz, hst]
theorem zero_head (w : World) : (zeroValue 92).run Tryz.prog w = .ok (.agg #[.string { data := #[] }, .slice none 0 0, .int .i64 0, .slice none 0 0]) w := by kernel_rfl
set_option maxHeartbeats 4000000 in
theorem del_calls {B hb cb g n c : Nat} {hs : List HD} {w : World} (H : IsHp B hb cb (.slice (some ⟨g, 0, none⟩) (n + 1) c) hs w) (hl : hs.length = n + 1) (hn : n ≤ 1000000) :
    Calls Tryz.prog 76 #[.slice (some ⟨g, 0, none⟩) (n + 1) c, .int .i64 n, .int .i64 (n + 1)] w fun e w' =>
      e = .returned (.slice (some ⟨g, 0, none⟩) n c) ∧ w'.ownsRow B 92 4 (.slice (some ⟨g, 0, none⟩) n c) n (hCells (hs.take n)) ∧ w.grownBy w' (some g) := by
  have hrow := H.row
  rw [hl] at hrow
  obtain ⟨A0, c0, hv0, hsl⟩ := own_form hrow
  injection hv0 with hA0 _ hc0
  subst hA0 hc0
  have hnc := hsl.2.1
  have hcm := hsl.2.2.1
  unfold maxLen at hcm
  have HROW := Lib.hid hrow
  obtain ⟨i0, hi0, hz0, hz1, hz2⟩ := info_parts inf_head
  obtain ⟨A, hA⟩ : ∃ A : Addr, (if c = n + 1 then some (⟨g, 0, none⟩ : Addr) else some ⟨g, (n + 1) * 4, none⟩) = some A := by
    by_cases h : c = n + 1
    · exact ⟨_, by rw [if_pos h]⟩
    · exact ⟨_, by rw [if_neg h]⟩
  have hnc1 : n ≤ c := by omega
  have hnp : (0 : Int) ≤ (n : Int) + 1 := by omega
  have hzs : (Builtin.zeroCells (Value.agg #[.string { data := #[] }, .slice none 0 0, .int .i64 0, .slice none 0 0]).cells 1).toList = [.string { data := #[] }, .slice none 0 0, .int .i64 0, .slice none 0 0] := by kernel_rfl
  have hcl : (Builtin.clear_ #[119] 0 #[.slice (some ⟨g, n * 4, none⟩) 1 (c - n)]).run Tryz.prog (w.drew.setCells g (n * 4) []) = .ok (.tuple #[]) ((w.drew.setCells g (n * 4) []).setCells g (n * 4) [.string { data := #[] }, .slice none 0 0, .int .i64 0, .slice none 0 0]) :=
    run_clear_one _ _ 92 0 _ _ Tryz.underlying119 zero_head hzs (fun v hv => by
      simp only [List.mem_cons, List.not_mem_nil, or_false] at hv
      rcases hv with rfl | rfl | rfl | rfl <;> rfl) g (n * 4) (c - n) (fun j hj => by
      have hj4 : j < 4 := hj
      have h1 := hrow.cellAt (n * 4 + j) (by omega)
      show (w.cell? ⟨g, n * 4 + j, none⟩).isSome = true
      rw [h1, List.getElem?_eq_getElem (by rw [hCells_length, hl]; omega)]; rfl) (fun j hj => hrow.frozenAt _)
  have HST : Hid (((w.drew.setCells g (n * 4) []).setCells g (n * 4) [.string { data := #[] }, .slice none 0 0, .int .i64 0, .slice none 0 0]).ownsRow B 92 4 (.slice (some ⟨g, 0, none⟩) n c) n (hCells (hs.take n)) ∧ w.grownBy ((w.drew.setCells g (n * 4) []).setCells g (n * 4) [.string { data := #[] }, .slice none 0 0, .int .i64 0, .slice none 0 0]) (some g)) := by
    have h1 := hrow.drew.stored (n * 4) (.string { data := #[] })
    have h2 := h1.1.stored (n * 4 + 1) (.slice none 0 0)
    have h3 := h2.1.stored (n * 4 + 1 + 1) (.int .i64 0)
    have h4 := h3.1.stored (n * 4 + 1 + 1 + 1) (.slice none 0 0)
    have g4 := ((h1.2.trans h2.2).trans h3.2).trans h4.2
    have h5 := own_shrink h4.1 (Nat.le_succ n)
    have he : ((w.drew.setCells g (n * 4) []).setCells g (n * 4) [.string { data := #[] }, .slice none 0 0, .int .i64 0, .slice none 0 0]) = (((w.drew.setCell ⟨g, n * 4, none⟩ (.string { data := #[] })).setCell ⟨g, n * 4 + 1, none⟩ (.slice none 0 0)).setCell ⟨g, n * 4 + 1 + 1, none⟩ (.int .i64 0)).setCell ⟨g, n * 4 + 1 + 1 + 1, none⟩ (.slice none 0 0) := rfl
    show _ ∧ _
    rw [he]
    have hx : ((((hCells hs).set (n * 4) (.string { data := #[] })).set (n * 4 + 1) (.slice none 0 0)).set (n * 4 + 1 + 1) (.int .i64 0)).set (n * 4 + 1 + 1 + 1) (.slice none 0 0) = hCells (hs.set n default) := hCells_set hs n default (by omega)
    rw [hx] at h5
    have ht : (hCells (hs.set n default)).take (n * 4) = hCells (hs.take n) := by
      have e1 : hs.set n default = hs.take n ++ [default] := by
        rw [List.set_eq_take_append_cons_drop, if_pos (by omega), List.drop_eq_nil_of_le (by omega)]
      rw [e1, hCells_append, List.take_append_of_le_length (by rw [hCells_length, List.length_take]; omega), List.take_of_length_le (by rw [hCells_length, List.length_take]; omega)]
    rw [ht] at h5
    exact ⟨h5, ⟨g4.os, g4.tape, g4.output, g4.size, g4.block⟩⟩
  clear H hl hrow hsl hzs
  go_enter Tryz.func76, Tryz.ntmps76
  go_wp2_with fail
  go_region_law (refine step_append_room rfl (.tmp 22) (.tmp 25) 119 rfl 92 i0 4 Tryz.underlying119 hi0 hz1 g 0 n c (by simp [Act.eval, Act.put]) A 0 (c - (n + 1)) [] (by simp [Act.eval, Act.put]) rfl (fun j u h => by simp at h) (by simp) (by omega) (fun j hj => by simp at hj) ?_)
  go_wp2_with fail
  go_ret
  exact ⟨rfl, HST.out.1, HST.out.2⟩
set_option maxHeartbeats 8000000 in
theorem sink_calls {B hb cb g n c : Nat} {hs : List HD} {w : World} (H0 : IsHp B hb cb (.slice (some ⟨g, 0, none⟩) n c) hs w) (hl : hs.length = n) (hn : n ≤ 1000000) (hd : Hp.DownI hltP n 0 fun k => hs.getD k default) :
    Calls Tryz.prog 77 #[.pointer (some ⟨hb, 0, none⟩)] w fun e w' => (∃ r, e = .returned r) ∧ ∃ hs', IsHp B hb cb (.slice (some ⟨g, 0, none⟩) n c) hs' w' ∧ HeapO hs' ∧ hs'.Perm hs ∧ w.grownBy w' (some g) := by
  have HH := Lib.hid H0
  have HL0 := Lib.hid hl
  have HD0 := Lib.hid hd
  clear H0 hl hd
  go_enter Tryz.func77, Tryz.ntmps77
  go_wp2_with fail
  go_loopw [2] (fun ix wr => ∃ (i : Nat) (l : List HD), (i < n ∨ i = 0) ∧ ix = .int .i64 i ∧ Hid (l.length = n) ∧ Hid (IsHp B hb cb (.slice (some ⟨g, 0, none⟩) n c) l wr) ∧ Hid (l.Perm hs) ∧ Hid (Hp.DownI hltP n i (fun k => l.getD k default)) ∧ Hid (w.grownBy wr (some g))) (fun ix _ => n - (intOf ix).toNat)
  case atStart => exact ⟨0, hs, .inr rfl, rfl, HL0, HH, List.Perm.refl _, HD0, World.grownBy.refl _ _⟩
  case round =>
    obtain ⟨i, l, hi, rfl, HL, HR, HPM, HDN, HG⟩ := hrel
    have hmul : IntKind.i64.wrap (2 * (i : Int)) = 2 * (i : Int) := by rw [IntKind.wrap_i64]; omega
    have hp1 : IntKind.i64.wrap (2 * (i : Int) + 1) = 2 * (i : Int) + 1 := by rw [IntKind.wrap_i64]; omega
    have hp2 : IntKind.i64.wrap (2 * (i : Int) + 2) = 2 * (i : Int) + 2 := by rw [IntKind.wrap_i64]; omega
    go_wp2_with fail
    obtain ⟨wz, hwz⟩ : ∃ wz, wz = wr := ⟨_, rfl⟩
    subst hwz
    go_loopw [3, 4] (fun lo kx wr => ∃ (low k : Nat), lo = .int .i64 low ∧ kx = .int .i64 k ∧ 2 * i + 1 ≤ k ∧ k ≤ 2 * i + 3 ∧ (low = i ∨ (2 * i + 1 ≤ low ∧ low < k ∧ low < n)) ∧ Hid (low ≠ i → hltP (l.getD low default) (l.getD i default)) ∧ Hid (∀ j, 2 * i + 1 ≤ j → j < k → j < n → ¬ hltP (l.getD j default) (l.getD low default)) ∧ Below wz.heap.size wz wr) (fun _ kx _ => 2 * i + 3 - (intOf kx).toNat)
    case atStart => exact ⟨i, 2 * i + 1, rfl, by go_num, Nat.le_refl _, by omega, .inl rfl, fun h => absurd rfl h, fun j h1 h2 => by omega, Below.refl _ _⟩
    case round =>
      obtain ⟨low, k, rfl, rfl, hk1, hk2, hlow, HLW, HMN, hbw⟩ := hrel
      have HB := Lib.hid hbw
      have H3 := Lib.hid (HR.out.below hbw)
      obtain ⟨z0, z1, z2⟩ := hhead H3.out.head
      by_cases hin : k ≤ 2 * i + 2 ∧ k < n
      · obtain ⟨hk3, hkn⟩ := hin
        have hln : low < n := by omega
        have hkI : (k : Int) ≤ 2 * (i : Int) + 2 := by omega
        have hkN : (k : Int) < (n : Int) := by omega
        have hlN : (low : Int) < (n : Int) := by omega
        have hwk : IntKind.i64.wrap ((k : Int) + 1) = (k : Int) + 1 := by rw [IntKind.wrap_i64]; omega
        obtain ⟨x1, hx1⟩ : ∃ x1, l[k]? = some x1 := ⟨_, List.getElem?_eq_getElem (by rw [HL.out]; exact hkn)⟩
        obtain ⟨y1, hy1⟩ : ∃ y1, l[low]? = some y1 := ⟨_, List.getElem?_eq_getElem (by rw [HL.out]; exact hln)⟩
        have HX1 := Lib.hid hx1
        have HY1 := Lib.hid hy1
        obtain ⟨b, hbb⟩ : ∃ b, hltB x1 y1 = b := ⟨_, rfl⟩
        have HBB := Lib.hid hbb
        have hcap : wr.cell? ⟨cb, 0, none⟩ = some (.func (.func 35) #[] #[]) := by
          have := H3.out.cap
          simp [World.cell?, this]
        have HC : Hid (∀ nn : After wr, Calls Tryz.prog 52 #[.agg x1.arr, .agg y1.arr, .pointer (some ⟨cb, 0, none⟩)] nn.w fun r w' => r = .returned (.bool b) ∧ Below nn.w.heap.size nn.w w') := fun nn => by
          rw [← hbb]
          exact less_calls x1 y1 cb nn.w (nn.cell hcap)
        obtain ⟨e0, e1, e2, e3⟩ := hCells_at l k x1 hx1
        obtain ⟨d0, d1, d2, d3⟩ := hCells_at l low y1 hy1
        have hrow := H3.out.row
        rw [HL.out] at hrow
        have Z0 : ∀ nn : After wr, nn.w.cell? ⟨hb, 0, none⟩ = some (.slice (some ⟨g, 0, none⟩) n c) := fun nn => nn.cell z0
        have Z1 : ∀ nn : After wr, nn.w.cell? ⟨hb, 1, none⟩ = some (.func (.func 52) #[] #[.pointer (some ⟨cb, 0, none⟩)]) := fun nn => nn.cell z1
        have E0 : ∀ nn : After wr, nn.w.cell? ⟨g, k * 4, none⟩ = some (.string x1.t) := fun nn => nn.cell ((hrow.cellAt _ (by omega)).trans e0)
        have E1 : ∀ nn : After wr, nn.w.cell? ⟨g, k * 4 + 1, none⟩ = some (.slice x1.a x1.n x1.c) := fun nn => nn.cell ((hrow.cellAt _ (by omega)).trans e1)
        have E2 : ∀ nn : After wr, nn.w.cell? ⟨g, k * 4 + 2, none⟩ = some (.int .i64 x1.i) := fun nn => nn.cell ((hrow.cellAt _ (by omega)).trans e2)
        have E3 : ∀ nn : After wr, nn.w.cell? ⟨g, k * 4 + 3, none⟩ = some (.slice x1.b x1.m x1.d) := fun nn => nn.cell ((hrow.cellAt _ (by omega)).trans e3)
        have D0 : ∀ nn : After wr, nn.w.cell? ⟨g, low * 4, none⟩ = some (.string y1.t) := fun nn => nn.cell ((hrow.cellAt _ (by omega)).trans d0)
        have D1 : ∀ nn : After wr, nn.w.cell? ⟨g, low * 4 + 1, none⟩ = some (.slice y1.a y1.n y1.c) := fun nn => nn.cell ((hrow.cellAt _ (by omega)).trans d1)
        have D2 : ∀ nn : After wr, nn.w.cell? ⟨g, low * 4 + 2, none⟩ = some (.int .i64 y1.i) := fun nn => nn.cell ((hrow.cellAt _ (by omega)).trans d2)
        have D3 : ∀ nn : After wr, nn.w.cell? ⟨g, low * 4 + 3, none⟩ = some (.slice y1.b y1.m y1.d) := fun nn => nn.cell ((hrow.cellAt _ (by omega)).trans d3)
        obtain ⟨xt1, xa1, xn1, xc1, xi1, xb1, xm1, xd1⟩ := x1
        obtain ⟨yt1, ya1, yn1, yc1, yi1, yb1, ym1, yd1⟩ := y1
        simp only [HD.arr] at HC E0 E1 E2 E3 D0 D1 D2 D3
        clear hx1 hy1 hbb hcap z1 z2 e0 e1 e2 e3 d0 d1 d2 d3 hrow hbw
        go_upto_region 5 with fail
        refine wp_region_after (by kernel_rfl) (by kernel_rfl) ?_
        repeat (go_big_quiet_step (first
          | (go_at_call 52; exact Calls.after (HC.out _))))
        refine wpQuiet_nil ?_
        intro _ hw'
        obtain ⟨nq, hw''⟩ := hw'
        subst hw''
        have HB3 := Lib.hid (below_next HB.out nq.below)
        clear Z0 Z1 E0 E1 E2 E3 D0 D1 D2 D3 HC z0
        cases b
        · have HMN2 : Hid (∀ j, 2 * i + 1 ≤ j → j < k + 1 → j < n → ¬ hltP (l.getD j default) (l.getD low default)) := fun j h1 h2 h3 => by
            by_cases e : j = k
            · rw [e, getD_at HX1.out, getD_at HY1.out]
              unfold hltP
              rw [HBB.out]; decide
            · exact HMN.out j h1 (by omega) h3
          go_wp2_with fail
          go_roundw
          case rel => exact ⟨low, k + 1, rfl, by go_num, by omega, by omega, by omega, HLW, HMN2, HB3.out⟩
          case measure => simp [intOf]; omega
        · have HLW2 : Hid (k ≠ i → hltP (l.getD k default) (l.getD i default)) := fun _ => by
            have h1 : hltP (l.getD k default) (l.getD low default) := by rw [getD_at HX1.out, getD_at HY1.out]; exact HBB.out
            by_cases e : low = i
            · rw [e] at h1; exact h1
            · -- k before low, low before i
              have h2 := HLW.out e
              refine Classical.byContradiction fun h3 => ?_
              exact hord.ntrans _ _ _ h3 (hord.asymm _ _ h1) h2
          have HMN2 : Hid (∀ j, 2 * i + 1 ≤ j → j < k + 1 → j < n → ¬ hltP (l.getD j default) (l.getD k default)) := fun j h1 h2 h3 => by
            by_cases e : j = k
            · rw [e]; exact hord.irrefl _
            · have h4 : hltP (l.getD k default) (l.getD low default) := by rw [getD_at HX1.out, getD_at HY1.out]; exact HBB.out
              exact hord.ntrans _ _ _ (hord.asymm _ _ h4) (HMN.out j h1 (by omega) h3)
          go_wp2_with fail
          go_roundw
          case rel => exact ⟨k, k + 1, rfl, by go_num, by omega, by omega, by omega, HLW2, HMN2, HB3.out⟩
          case measure => simp [intOf]; omega
      · by_cases hk3 : k ≤ 2 * i + 2
        · have hkI : (k : Int) ≤ 2 * (i : Int) + 2 := by omega
          have hkN : ¬ (k : Int) < (n : Int) := by omega
          by_cases hli : low = i
          · subst hli
            have HO : Hid (HeapO l) := by
              unfold HeapO
              rw [HL.out]
              exact HDN.out.stop fun j h1 h2 h3 => HMN.out j (by omega) (by omega) h2
            have hee : ((low : Int) == low) = true := by simp
            clear hbw
            go_wp2_with fail
            (try simp only [Exit.inBlock, Exit.then])
            refine bodyPost_ret (results_none rfl _ _ _) rfl ?_
            exact ⟨⟨_, rfl⟩, l, H3.out, HO.out, HPM.out, HG.out.trans (grown_below HB.out _)⟩
          · have hee : ((low : Int) == i) = false := by simp; omega
            have hln : low < n := by omega
            have hin2 : i < n := by omega
            have hlN : (low : Int) < (n : Int) := by omega
            have hiN : (i : Int) < (n : Int) := by omega
            obtain ⟨x1, hx1⟩ : ∃ x1, l[i]? = some x1 := ⟨_, List.getElem?_eq_getElem (by rw [HL.out]; exact hin2)⟩
            obtain ⟨y1, hy1⟩ : ∃ y1, l[low]? = some y1 := ⟨_, List.getElem?_eq_getElem (by rw [HL.out]; exact hln)⟩
            have HX1 := Lib.hid hx1
            have HY1 := Lib.hid hy1
            obtain ⟨e0, e1, e2, e3⟩ := hCells_at l i x1 hx1
            obtain ⟨d0, d1, d2, d3⟩ := hCells_at l low y1 hy1
            have hrow := H3.out.row
            rw [HL.out] at hrow
            rw [← hrow.cellAt _ (by omega)] at e0 e1 e2 e3 d0 d1 d2 d3
            have fe0 := hrow.frozenAt (i * 4)
            have fe1 := hrow.frozenAt (i * 4 + 1)
            have fe2 := hrow.frozenAt (i * 4 + 2)
            have fe3 := hrow.frozenAt (i * 4 + 3)
            have fd0 := hrow.frozenAt (low * 4)
            have fd1 := hrow.frozenAt (low * 4 + 1)
            have fd2 := hrow.frozenAt (low * 4 + 2)
            have fd3 := hrow.frozenAt (low * 4 + 3)
            obtain ⟨xt1, xa1, xn1, xc1, xi1, xb1, xm1, xd1⟩ := x1
            obtain ⟨yt1, ya1, yn1, yc1, yi1, yb1, ym1, yd1⟩ := y1
            simp only at e0 e1 e2 e3 d0 d1 d2 d3
            clear hx1 hy1 hrow hbw z1 z2
            go_upto_region 8 with fail
            go_cut [48] from 48 to 73 (fun v48 wx => ∃ W, W = wx ∧ v48 = .pointer (some ⟨hb, 0, none⟩) ∧ Hid (IsHp B hb cb (.slice (some ⟨g, 0, none⟩) n c) ((l.set i ⟨yt1, ya1, yn1, yc1, yi1, yb1, ym1, yd1⟩).set low ⟨xt1, xa1, xn1, xc1, xi1, xb1, xm1, xd1⟩) wx) ∧ Hid (wr.grownBy wx (some g)))
            case first =>
              go_region
              go_wp2_with fail
              go_meet
              have hsw := H3.out.swap HL.out i low hin2 hln ⟨xt1, xa1, xn1, xc1, xi1, xb1, xm1, xd1⟩ ⟨yt1, ya1, yn1, yc1, yi1, yb1, ym1, yd1⟩
              exact ⟨_, rfl, rfl, hsw.1, hsw.2⟩
            case rest =>
              obtain ⟨wx, hwx, rfl, HP4, HG4⟩ := hcut
              subst hwx
              have HU4 : Hid (Hp.DownI hltP n low fun k => ((l.set i (⟨yt1, ya1, yn1, yc1, yi1, yb1, ym1, yd1⟩ : HD)).set low ⟨xt1, xa1, xn1, xc1, xi1, xb1, xm1, xd1⟩).getD k default) := by
                have h := HDN.out.step hord (low := low) (by omega) (by omega) hln (HLW.out hli) fun j h1 h2 h3 => HMN.out j (by omega) (by omega) h2
                have e : (fun k => ((l.set i (⟨yt1, ya1, yn1, yc1, yi1, yb1, ym1, yd1⟩ : HD)).set low ⟨xt1, xa1, xn1, xc1, xi1, xb1, xm1, xd1⟩).getD k default) = Hp.swp (fun k => l.getD k default) i low := funext fun k => Hp.swp_at HX1.out HY1.out k
                show Hp.DownI hltP n low _
                rw [e]; exact h
              have HP5 : Hid (((l.set i (⟨yt1, ya1, yn1, yc1, yi1, yb1, ym1, yd1⟩ : HD)).set low ⟨xt1, xa1, xn1, xc1, xi1, xb1, xm1, xd1⟩).Perm hs) := (Hp.swap_perm HX1.out HY1.out).trans HPM.out
              have HL5 : Hid (((l.set i (⟨yt1, ya1, yn1, yc1, yi1, yb1, ym1, yd1⟩ : HD)).set low ⟨xt1, xa1, xn1, xc1, xi1, xb1, xm1, xd1⟩).length = n) := by show _ = _; rw [List.length_set, List.length_set]; exact HL.out
              have HG5 : Hid (w.grownBy wx (some g)) := (HG.out.trans (grown_below HB.out _)).trans HG4.out
              clear fe0 fe1 fe2 fe3 fd0 fd1 fd2 fd3 e0 e1 e2 e3 d0 d1 d2 d3 z0
              go_wp2_with fail
              go_roundw
              case rel => exact ⟨low, _, .inl hln, rfl, HL5, HP4, HP5, HU4, HG5⟩
              case measure => simp [intOf]; omega
        · have hkI : ¬ (k : Int) ≤ 2 * (i : Int) + 2 := by omega
          by_cases hli : low = i
          · subst hli
            have HO : Hid (HeapO l) := by
              unfold HeapO
              rw [HL.out]
              exact HDN.out.stop fun j h1 h2 h3 => HMN.out j (by omega) (by omega) h2
            have hee : ((low : Int) == low) = true := by simp
            clear hbw
            go_wp2_with fail
            (try simp only [Exit.inBlock, Exit.then])
            refine bodyPost_ret (results_none rfl _ _ _) rfl ?_
            exact ⟨⟨_, rfl⟩, l, H3.out, HO.out, HPM.out, HG.out.trans (grown_below HB.out _)⟩
          · have hee : ((low : Int) == i) = false := by simp; omega
            have hln : low < n := by omega
            have hin2 : i < n := by omega
            have hlN : (low : Int) < (n : Int) := by omega
            have hiN : (i : Int) < (n : Int) := by omega
            obtain ⟨x1, hx1⟩ : ∃ x1, l[i]? = some x1 := ⟨_, List.getElem?_eq_getElem (by rw [HL.out]; exact hin2)⟩
            obtain ⟨y1, hy1⟩ : ∃ y1, l[low]? = some y1 := ⟨_, List.getElem?_eq_getElem (by rw [HL.out]; exact hln)⟩
            have HX1 := Lib.hid hx1
            have HY1 := Lib.hid hy1
            obtain ⟨e0, e1, e2, e3⟩ := hCells_at l i x1 hx1
            obtain ⟨d0, d1, d2, d3⟩ := hCells_at l low y1 hy1
            have hrow := H3.out.row
            rw [HL.out] at hrow
            rw [← hrow.cellAt _ (by omega)] at e0 e1 e2 e3 d0 d1 d2 d3
            have fe0 := hrow.frozenAt (i * 4)
            have fe1 := hrow.frozenAt (i * 4 + 1)
            have fe2 := hrow.frozenAt (i * 4 + 2)
            have fe3 := hrow.frozenAt (i * 4 + 3)
            have fd0 := hrow.frozenAt (low * 4)
            have fd1 := hrow.frozenAt (low * 4 + 1)
            have fd2 := hrow.frozenAt (low * 4 + 2)
            have fd3 := hrow.frozenAt (low * 4 + 3)
            obtain ⟨xt1, xa1, xn1, xc1, xi1, xb1, xm1, xd1⟩ := x1
            obtain ⟨yt1, ya1, yn1, yc1, yi1, yb1, ym1, yd1⟩ := y1
            simp only at e0 e1 e2 e3 d0 d1 d2 d3
            clear hx1 hy1 hrow hbw z1 z2
            go_upto_region 8 with fail
            go_cut [48] from 48 to 73 (fun v48 wx => ∃ W, W = wx ∧ v48 = .pointer (some ⟨hb, 0, none⟩) ∧ Hid (IsHp B hb cb (.slice (some ⟨g, 0, none⟩) n c) ((l.set i ⟨yt1, ya1, yn1, yc1, yi1, yb1, ym1, yd1⟩).set low ⟨xt1, xa1, xn1, xc1, xi1, xb1, xm1, xd1⟩) wx) ∧ Hid (wr.grownBy wx (some g)))
            case first =>
              go_region
              go_wp2_with fail
              go_meet
              have hsw := H3.out.swap HL.out i low hin2 hln ⟨xt1, xa1, xn1, xc1, xi1, xb1, xm1, xd1⟩ ⟨yt1, ya1, yn1, yc1, yi1, yb1, ym1, yd1⟩
              exact ⟨_, rfl, rfl, hsw.1, hsw.2⟩
            case rest =>
              obtain ⟨wx, hwx, rfl, HP4, HG4⟩ := hcut
              subst hwx
              have HU4 : Hid (Hp.DownI hltP n low fun k => ((l.set i (⟨yt1, ya1, yn1, yc1, yi1, yb1, ym1, yd1⟩ : HD)).set low ⟨xt1, xa1, xn1, xc1, xi1, xb1, xm1, xd1⟩).getD k default) := by
                have h := HDN.out.step hord (low := low) (by omega) (by omega) hln (HLW.out hli) fun j h1 h2 h3 => HMN.out j (by omega) (by omega) h2
                have e : (fun k => ((l.set i (⟨yt1, ya1, yn1, yc1, yi1, yb1, ym1, yd1⟩ : HD)).set low ⟨xt1, xa1, xn1, xc1, xi1, xb1, xm1, xd1⟩).getD k default) = Hp.swp (fun k => l.getD k default) i low := funext fun k => Hp.swp_at HX1.out HY1.out k
                show Hp.DownI hltP n low _
                rw [e]; exact h
              have HP5 : Hid (((l.set i (⟨yt1, ya1, yn1, yc1, yi1, yb1, ym1, yd1⟩ : HD)).set low ⟨xt1, xa1, xn1, xc1, xi1, xb1, xm1, xd1⟩).Perm hs) := (Hp.swap_perm HX1.out HY1.out).trans HPM.out
              have HL5 : Hid (((l.set i (⟨yt1, ya1, yn1, yc1, yi1, yb1, ym1, yd1⟩ : HD)).set low ⟨xt1, xa1, xn1, xc1, xi1, xb1, xm1, xd1⟩).length = n) := by show _ = _; rw [List.length_set, List.length_set]; exact HL.out
              have HG5 : Hid (w.grownBy wx (some g)) := (HG.out.trans (grown_below HB.out _)).trans HG4.out
              clear fe0 fe1 fe2 fe3 fd0 fd1 fd2 fd3 e0 e1 e2 e3 d0 d1 d2 d3 z0
              go_wp2_with fail
              go_roundw
              case rel => exact ⟨low, _, .inl hln, rfl, HL5, HP4, HP5, HU4, HG5⟩
              case measure => simp [intOf]; omega
end Trm
end Go.Proofs.YtfohollhdaedlaaGreatDoor
/- Terms: a heap of lists' heads in memory: the least one is taken out. -/
set_option linter.unusedVariables false
set_option linter.unusedSimpArgs false
set_option maxRecDepth 100000
namespace Go.Proofs.YtfohollhdaedlaaGreatDoor
open Go.RowKit
namespace Trm
theorem pop_perm {hs : List HD} {n : Nat} {x y : HD} (hl : hs.length = n + 1) (hx : hs[0]? = some x) (hy : hs[n]? = some y) : hs.Perm (x :: (hs.set 0 y).take n) := by
  rcases hs with _ | ⟨x', tl⟩
  · simp at hl
  · obtain rfl : x' = x := by simpa using hx
    have hl2 : tl.length = n := by simpa using hl
    rcases List.eq_nil_or_concat tl with rfl | ⟨mid, z, rfl⟩
    · have : n = 0 := by simpa using hl2.symm
      subst this; simp
    · rw [List.concat_eq_append] at *
      have hn : n = mid.length + 1 := by rw [← hl2]; simp
      subst hn
      have hz : z = y := by
        rw [List.getElem?_cons_succ, List.getElem?_append_right (Nat.le_refl _), Nat.sub_self] at hy
        simpa using hy
      subst hz
      have e : (((x' :: (mid ++ [z])).set 0 z).take (mid.length + 1)) = z :: mid := by simp
      rw [e]
      exact (List.perm_append_singleton z mid).cons x'
theorem pop_get {hs : List HD} {n k : Nat} {y : HD} (h0 : 0 < k) (hk : k < n) : ((hs.set 0 y).take n).getD k default = hs.getD k default := by
  rw [List.getD_eq_getElem?_getD, List.getD_eq_getElem?_getD, List.getElem?_take, if_pos hk, List.getElem?_set_ne (by omega)]
/-- Two boxes of heads. -/
theorem two_heads (w : World) : Below w.heap.size w ((w.alloc (.cells #[.string { data := #[] }, .slice none 0 0, .int .i64 0, .slice none 0 0] 92)).alloc (.cells #[.string { data := #[] }, .slice none 0 0, .int .i64 0, .slice none 0 0] 92)) ∧
    ((w.alloc (.cells #[.string { data := #[] }, .slice none 0 0, .int .i64 0, .slice none 0 0] 92)).alloc (.cells #[.string { data := #[] }, .slice none 0 0, .int .i64 0, .slice none 0 0] 92)).heap[w.heap.size]? = some (.cells #[.string { data := #[] }, .slice none 0 0, .int .i64 0, .slice none 0 0] 92 (0, 0)) ∧
    ((w.alloc (.cells #[.string { data := #[] }, .slice none 0 0, .int .i64 0, .slice none 0 0] 92)).alloc (.cells #[.string { data := #[] }, .slice none 0 0, .int .i64 0, .slice none 0 0] 92)).heap[w.heap.size + 1]? = some (.cells #[.string { data := #[] }, .slice none 0 0, .int .i64 0, .slice none 0 0] 92 (0, 0)) := by
  have h1 := heap_alloc_new w (.cells #[.string { data := #[] }, .slice none 0 0, .int .i64 0, .slice none 0 0] 92)
  refine ⟨((Below.refl _ _).alloc (Nat.le_refl _) _).alloc (by simp) _, ?_, ?_⟩
  · exact (((Below.refl (w.alloc (.cells #[.string { data := #[] }, .slice none 0 0, .int .i64 0, .slice none 0 0] 92)).heap.size _).alloc (Nat.le_refl _) _).block _ (Array.getElem?_eq_some_iff.1 h1).1).trans h1
  · have := heap_alloc_new (w.alloc (.cells #[.string { data := #[] }, .slice none 0 0, .int .i64 0, .slice none 0 0] 92)) (.cells #[.string { data := #[] }, .slice none 0 0, .int .i64 0, .slice none 0 0] 92)
    simpa using this
theorem head4 {w : World} {p : Nat} {a b c d : Value} {t : TypeId} (h : w.heap[p]? = some (.cells #[a, b, c, d] t (0, 0))) : w.cell? ⟨p, 0, none⟩ = some a ∧ w.cell? ⟨p, 1, none⟩ = some b ∧ w.cell? ⟨p, 2, none⟩ = some c ∧ w.cell? ⟨p, 3, none⟩ = some d ∧ w.frozen? ⟨p, 0, none⟩ = false ∧ w.frozen? ⟨p, 1, none⟩ = false ∧ w.frozen? ⟨p, 2, none⟩ = false ∧ w.frozen? ⟨p, 3, none⟩ = false :=
  ⟨by simp [World.cell?, h], by simp [World.cell?, h], by simp [World.cell?, h], by simp [World.cell?, h], by simp [World.frozen?, h], by simp [World.frozen?, h], by simp [World.frozen?, h], by simp [World.frozen?, h]⟩
theorem below_set {B : Nat} {w w1 : World} {k j : Nat} {x : Value} (h : Below B w w1) (hB : B ≤ w1.heap.size) (hk : B ≤ k) : Below B w (w1.setCell ⟨k, j, none⟩ x) ∧ B ≤ (w1.setCell ⟨k, j, none⟩ x).heap.size :=
  ⟨h.grown (grown_cell (W := w1) (n := k) (i := j) x) hB (fun r hr => by have := Option.some.inj hr; omega), Nat.le_trans hB (grown_cell (W := w1) (n := k) (i := j) x).size⟩
theorem below_set4 {B : Nat} {w w1 : World} {k : Nat} {a b c d : Value} (h : Below B w w1) (hB : B ≤ w1.heap.size) (hk : B ≤ k) : Below B w ((((w1.setCell ⟨k, 0, none⟩ a).setCell ⟨k, 1, none⟩ b).setCell ⟨k, 2, none⟩ c).setCell ⟨k, 3, none⟩ d) := by
  obtain ⟨h1, b1⟩ := below_set (j := 0) (x := a) h hB hk
  obtain ⟨h2, b2⟩ := below_set (j := 1) (x := b) h1 b1 hk
  obtain ⟨h3, b3⟩ := below_set (j := 2) (x := c) h2 b2 hk
  exact (below_set (j := 3) (x := d) h3 b3 hk).1
theorem popnil_calls {B hb cb : Nat} {v : Value} {w : World} (H : IsHp B hb cb v [] w) :
    Calls Tryz.prog 54 #[.pointer (some ⟨hb, 0, none⟩)] w fun e w' => e = .returned (.tuple #[.agg #[.string { data := #[] }, .slice none 0 0, .int .i64 0, .slice none 0 0], .bool false]) ∧ Below w.heap.size w w' := by
  obtain ⟨hb1, hx, hy⟩ := two_heads w
  obtain ⟨w1, hw1⟩ : ∃ w1, (w.alloc (.cells #[.string { data := #[] }, .slice none 0 0, .int .i64 0, .slice none 0 0] 92)).alloc (.cells #[.string { data := #[] }, .slice none 0 0, .int .i64 0, .slice none 0 0] 92) = w1 := ⟨_, rfl⟩
  rw [hw1] at hb1 hx hy
  have C := Lib.hid (hlen_calls (H.below hb1))
  have HB1 := Lib.hid hb1
  obtain ⟨x0, x1, x2, x3, f0, f1, f2, f3⟩ := head4 hx
  obtain ⟨y0, y1, y2, y3, _, _, _, _⟩ := head4 hy
  clear hx hy H hb1
  go_enter Tryz.func54, Tryz.ntmps54
  go_wp2_with fail
  refine C.out.mono ?_
  rintro e w2 ⟨rfl, rfl⟩
  clear C hw1
  simp only [List.length_nil]
  go_wp2_with fail
  refine bodyPost_ret (v := .tuple #[.agg #[.string { data := #[] }, .slice none 0 0, .int .i64 0, .slice none 0 0], .bool false]) (by simp [results, Tryz.results54, go_sem, x0, x1, x2, x3]) rfl ⟨rfl, ?_⟩
  exact below_set4 HB1.out HB1.out.size (Nat.le_refl _)
theorem IsHp.aside {B hb cb k : Nat} {v : Value} {hs : List HD} {w w' : World} (h : IsHp B hb cb v hs w) (hg : w.grownBy w' (some k)) (h1 : hb ≠ k) (h2 : cb ≠ k) (h3 : v.ownBlock ≠ some k) : IsHp B hb cb v hs w' :=
  ⟨h.le, (hg.block hb h.lt (fun e => h1 (Option.some.inj e))).trans h.head, (hg.block cb (Array.getElem?_eq_some_iff.1 h.cap).1 (fun e => h2 (Option.some.inj e))).trans h.cap, h.row.kept hg (.inr h3)⟩
theorem HFoot.fresh {hb k : Nat} {v : Value} {w w1 w2 : World} (h : HFoot hb v w w1) (hg : w1.grownBy w2 (some k)) (hk : w.heap.size ≤ k) : HFoot hb v w w2 :=
  ⟨hg.os.trans h.os, hg.tape.trans h.tape, hg.output.trans h.output, Nat.le_trans h.size hg.size, fun j hj h1 h2 => (hg.block j (Nat.lt_of_lt_of_le hj h.size) (fun e => by have := Option.some.inj e; omega)).trans (h.block j hj h1 h2)⟩
theorem grown4 (w : World) (k : Nat) (a b c d : Value) : w.grownBy ((((w.setCell ⟨k, 0, none⟩ a).setCell ⟨k, 1, none⟩ b).setCell ⟨k, 2, none⟩ c).setCell ⟨k, 3, none⟩ d) (some k) :=
  ((grown_cell (W := w) (n := k) (i := 0) a).trans (grown_cell (n := k) (i := 1) b)).trans ((grown_cell (n := k) (i := 2) c).trans (grown_cell (n := k) (i := 3) d))
theorem IsHp.put0 {B hb cb g n c : Nat} {l : List HD} {w : World} (H : IsHp B hb cb (.slice (some ⟨g, 0, none⟩) n c) l w) (hl : l.length = n) (hn : 0 < n) (x : HD) :
    IsHp B hb cb (.slice (some ⟨g, 0, none⟩) n c) (l.set 0 x) ((((w.setCell ⟨g, 0, none⟩ (.string x.t)).setCell ⟨g, 1, none⟩ (.slice x.a x.n x.c)).setCell ⟨g, 2, none⟩ (.int .i64 (x.i : Int))).setCell ⟨g, 3, none⟩ (.slice x.b x.m x.d)).drew ∧
    w.grownBy ((((w.setCell ⟨g, 0, none⟩ (.string x.t)).setCell ⟨g, 1, none⟩ (.slice x.a x.n x.c)).setCell ⟨g, 2, none⟩ (.int .i64 (x.i : Int))).setCell ⟨g, 3, none⟩ (.slice x.b x.m x.d)).drew (some g) := by
  obtain ⟨h1, g1⟩ := H.put hl 0 hn x
  have e : put4 w g 0 x = ((((w.setCell ⟨g, 0, none⟩ (.string x.t)).setCell ⟨g, 1, none⟩ (.slice x.a x.n x.c)).setCell ⟨g, 2, none⟩ (.int .i64 (x.i : Int))).setCell ⟨g, 3, none⟩ (.slice x.b x.m x.d)) := by
    unfold put4
    simp only [Nat.zero_mul, Nat.zero_add]
  rw [← e]
  generalize put4 w g 0 x = w' at *
  exact ⟨h1.below ((Below.refl _ _).drew), ⟨g1.os, g1.tape, g1.output, g1.size, g1.block⟩⟩
set_option maxHeartbeats 8000000 in
theorem pop_calls {B hb cb g c : Nat} {hs : List HD} {w : World} {n N1 : Nat} (hN1 : n + 1 = N1) (H0 : IsHp B hb cb (.slice (some ⟨g, 0, none⟩) N1 c) hs w) (hh : HeapO hs) (hl : hs.length = N1) (hn : n ≤ 1000000) (x : HD) (hx : hs[0]? = some x) :
    Calls Tryz.prog 54 #[.pointer (some ⟨hb, 0, none⟩)] w fun e w' => e = .returned (.tuple #[.agg x.arr, .bool true]) ∧
      ∃ hs', IsHp B hb cb (.slice (some ⟨g, 0, none⟩) n c) hs' w' ∧ HeapO hs' ∧ hs.Perm (x :: hs') ∧ HFoot hb (.slice (some ⟨g, 0, none⟩) N1 c) w w' := by
  obtain ⟨y, hy⟩ : ∃ y, hs[n]? = some y := ⟨_, List.getElem?_eq_getElem (by omega)⟩
  obtain ⟨hb1, hbx, hby⟩ := two_heads w
  obtain ⟨w1, hw1⟩ : ∃ w1, (w.alloc (.cells #[.string { data := #[] }, .slice none 0 0, .int .i64 0, .slice none 0 0] 92)).alloc (.cells #[.string { data := #[] }, .slice none 0 0, .int .i64 0, .slice none 0 0] 92) = w1 := ⟨_, rfl⟩
  rw [hw1] at hb1 hbx hby
  have H1 := Lib.hid (H0.below hb1)
  have C := Lib.hid (hlen_calls H1.out)
  rw [hl] at C
  have HB1 := Lib.hid hb1
  have HT2 := Lib.hid hbx
  have HPP := Lib.hid (pop_perm (hl.trans hN1.symm) hx hy)
  have HDN : Hid (Hp.DownI hltP n 0 fun k => ((hs.set 0 y).take n).getD k default) := Hp.IsH.less (n := n) (f := fun k => hs.getD k default) (by
    have h := hh
    unfold HeapO at h
    rw [hl, ← hN1] at h
    exact h) fun k h1 h2 => pop_get h1 h2
  have HL := Lib.hid hl
  have HN1 := Lib.hid hN1
  have HGL : Hid (g < w.heap.size) := by
    rcases H0.row.2 with ⟨h', _⟩ | ⟨g', cap', cur, h', _, hg, _⟩
    · simp at h'
    · simp only [Value.slice.injEq, Option.some.injEq, Addr.mk.injEq, and_true, true_and] at h'
      obtain ⟨rfl, _⟩ := h'
      exact (Array.getElem?_eq_some_iff.1 hg).1
  have HHL := Lib.hid H0.lt
  have HCL : Hid (cb < w.heap.size) := (Array.getElem?_eq_some_iff.1 H0.cap).1
  have HLT : Hid (((hs.set 0 y).take n).length = n) := by show _ = _; rw [List.length_take, List.length_set]; omega
  obtain ⟨e0, e1, e2, e3⟩ := hCells_at hs 0 x hx
  obtain ⟨d0, d1, d2, d3⟩ := hCells_at hs n y hy
  have hrow := H1.out.row
  rw [hl] at hrow
  rw [← hrow.cellAt _ (by omega)] at e0 e1 e2 e3 d0 d1 d2 d3
  have HE0 := Lib.hid e0
  have HE1 := Lib.hid e1
  have HE2 := Lib.hid e2
  have HE3 := Lib.hid e3
  have HD0 := Lib.hid d0
  have HD1 := Lib.hid d1
  have HD2 := Lib.hid d2
  have HD3 := Lib.hid d3
  have HFZ := Lib.hid (fun j => hrow.frozenAt j)
  obtain ⟨xt, xa, xn, xc, xi, xb, xm, xd⟩ := x
  obtain ⟨yt, ya, yn, yc, yi, yb, ym, yd⟩ := y
  simp only [HD.arr] at e0 e1 e2 e3 ⊢
  simp only at HD0 HD1 HD2 HD3
  rw [show 0 * 4 = 0 from rfl] at e0 e1 e2 e3
  obtain ⟨z0, z1, z2⟩ := hhead H1.out.head
  obtain ⟨N, hN⟩ : ∃ N, w.heap.size = N := ⟨_, rfl⟩
  have HNN := Lib.hid hN
  rw [hN] at HT2
  have hwm : IntKind.i64.wrap ((N1 : Int) - 1) = (n : Int) := by rw [IntKind.wrap_i64]; omega
  have hwn : IntKind.i64.wrap ((n : Int) + 1) = (n : Int) + 1 := by rw [IntKind.wrap_i64]; omega
  have hne0 : ((N1 : Int) == 0) = false := by simp; omega
  have h0n : (0 : Int) < (N1 : Int) := by omega
  have hnn1 : (n : Int) < (N1 : Int) := by omega
  have hnN : n < N1 := by omega
  clear hb1 hbx hby hl hx hy hh hrow d0 d1 d2 d3 H0 hN1
  go_enter Tryz.func54, Tryz.ntmps54
  go_wp2_with fail
  refine C.out.mono ?_
  rintro e w2 ⟨rfl, rfl⟩
  clear C hw1
  obtain ⟨q, hq⟩ : ∃ q, w2.heap.size = q := ⟨_, rfl⟩
  have hbA : Below w2.heap.size w2 (w2.alloc (.cells #[.string xt, .slice xa xn xc, .int .i64 xi, .slice xb xm xd] 92)) := (Below.refl _ _).alloc (Nat.le_refl _) _
  have z0' := cell_kept hbA z0
  have hxA := heap_alloc_new w2 (.cells #[.string xt, .slice xa xn xc, .int .i64 xi, .slice xb xm xd] 92)
  rw [hq] at hxA
  have hqN : N < q := by have := (Array.getElem?_eq_some_iff.1 HT2.out).1; omega
  have HQG : Hid (g < q ∧ hb < q ∧ N < q) := by have h1 := HGL.out; have h2 := HHL.out; exact ⟨by omega, by omega, hqN⟩
  go_upto_region 6 with fail
  obtain ⟨w3, hw3⟩ : ∃ w3, w2.alloc (.cells #[.string xt, .slice xa xn xc, .int .i64 xi, .slice xb xm xd] 92) = w3 := ⟨_, rfl⟩
  rw [hw3] at hbA hxA z0' ⊢
  have H3 := Lib.hid (H1.out.below hbA)
  have HX3 := Lib.hid hxA
  have HB3 := Lib.hid hbA
  have d0 := cell_kept hbA HD0.out
  have d1 := cell_kept hbA HD1.out
  have d2 := cell_kept hbA HD2.out
  have d3 := cell_kept hbA HD3.out
  have c0 := cell_kept hbA HE0.out
  have c1 := cell_kept hbA HE1.out
  have c2 := cell_kept hbA HE2.out
  have c3 := cell_kept hbA HE3.out
  have hfz : ∀ j, w3.frozen? ⟨g, j, none⟩ = false := fun j => by have h := H3.out.row; rw [HL.out] at h; exact h.frozenAt j
  have f0 := hfz 0
  have f1 := hfz 1
  have f2 := hfz 2
  have f3 := hfz 3
  rw [show 0 * 4 = 0 from rfl] at c0 c1 c2 c3
  clear z0 z1 z2 e0 e1 e2 e3 hbA hxA hw3 hfz hqN
  go_cut [23] from 23 to 34 (fun v23 wx => ∃ W, W = wx ∧ v23 = .pointer (some ⟨hb, 0, none⟩) ∧ Hid (IsHp B hb cb (.slice (some ⟨g, 0, none⟩) N1 c) (hs.set 0 ⟨yt, ya, yn, yc, yi, yb, ym, yd⟩) wx) ∧ Hid (w3.grownBy wx (some g)))
  case first =>
    go_region
    go_wp2_with fail
    go_meet
    have hp := H3.out.put0 HL.out (by omega) ⟨yt, ya, yn, yc, yi, yb, ym, yd⟩
    exact ⟨_, rfl, rfl, hp.1, hp.2⟩
  case rest =>
    obtain ⟨wx, hwx, rfl, HP4, HG4⟩ := hcut
    subst hwx
    clear d0 d1 d2 d3 c0 c1 c2 c3 f0 f1 f2 f3 z0'
    obtain ⟨z0, z1, z2⟩ := hhead HP4.out.head
    have HLS : Hid ((hs.set 0 (⟨yt, ya, yn, yc, yi, yb, ym, yd⟩ : HD)).length = N1) := by show _ = _; rw [List.length_set]; exact HL.out
    have CD := Lib.hid (del_calls (n := n) (by rw [HN1.out]; exact HP4.out) (by rw [HN1.out]; exact HLS.out) hn)
    rw [HN1.out] at CD
    go_wp2_with fail
    refine CD.out.mono ?_
    rintro e w4 ⟨rfl, hr4, hg4⟩
    have HH4 : Hid (w4.heap[hb]? = _) := (hg4.block hb HP4.out.lt HP4.out.ne).trans HP4.out.head
    obtain ⟨u0, u1, u2⟩ := hhead HH4.out
    have HT4 : Hid (IsHp B hb cb (.slice (some ⟨g, 0, none⟩) n c) ((hs.set 0 ⟨yt, ya, yn, yc, yi, yb, ym, yd⟩).take n) (w4.setCell ⟨hb, 0, none⟩ (.slice (some ⟨g, 0, none⟩) n c))) :=
      HP4.out.turn hg4 (by rw [HLT.out]; exact hr4) (by have := HP4.out.ne; exact this)
    have HG4b := Lib.hid hg4
    have CS := Lib.hid (sink_calls HT4.out HLT.out hn HDN.out)
    clear z0 z1 z2 hr4 hg4 CD
    go_wp2_with fail
    refine CS.out.mono ?_
    rintro e w6 ⟨⟨r, rfl⟩, hs', hp6, ho6, hpm6, hg6⟩
    clear CS u0 u1 u2
    have HF : Hid (HFoot hb (.slice (some ⟨g, 0, none⟩) N1 c) w3 w6) := (((HFoot.of_grown HG4.out).trans (HFoot.of_grown (v := .slice (some ⟨g, 0, none⟩) N1 c) HG4b.out) (.inl rfl)).trans (HFoot.set hb (.slice (some ⟨g, 0, none⟩) N1 c) w4 0 _) (.inl rfl)).trans (HFoot.of_grown (v := .slice (some ⟨g, 0, none⟩) N1 c) hg6) (.inl rfl)
    have hx6 : w6.heap[q]? = _ := (HF.out.block q (Array.getElem?_eq_some_iff.1 HX3.out).1 (by have := HQG.out.2.1; omega) (fun e => by
      have e1 : q = g := by simpa [Value.ownBlock] using e
      have := HQG.out.1; omega)).trans HX3.out
    have hN2 : N < w2.heap.size := (Array.getElem?_eq_some_iff.1 HT2.out).1
    have ht6 : w6.heap[N]? = some (.cells #[.string { data := #[] }, .slice none 0 0, .int .i64 0, .slice none 0 0] 92 (0, 0)) := (HF.out.block N (Nat.lt_of_lt_of_le hN2 HB3.out.size) (by have := HHL.out; omega) (fun e => by
      have e1 : N = g := by simpa [Value.ownBlock] using e
      have := HGL.out; omega)).trans ((HB3.out.block N hN2).trans HT2.out)
    obtain ⟨x0, x1, x2, x3, _, _, _, _⟩ := head4 hx6
    obtain ⟨y0, y1, y2, y3, t0, t1, t2, t3⟩ := head4 ht6
    have HP6 := Lib.hid hp6
    have HO6 := Lib.hid ho6
    have HPM6 := Lib.hid hpm6
    clear hp6 ho6 hpm6 hg6 hx6 ht6 hN2
    go_wp2_with fail
    have hg7 := grown4 w6 N (.string xt) (.slice xa xn xc) (.int .i64 xi) (.slice xb xm xd)
    have hgl := HGL.out
    have hhl := HHL.out
    have hcl := HCL.out
    refine bodyPost_ret (v := .tuple #[.agg #[.string xt, .slice xa xn xc, .int .i64 xi, .slice xb xm xd], .bool true]) (by simp [results, Tryz.results54, go_sem, y0, y1, y2, y3]) rfl ⟨rfl, hs', ?_, HO6.out, HPP.out.trans (HPM6.out.symm.cons _), ?_⟩
    · exact HP6.out.aside hg7 (by omega) (by omega) (fun e => by
        have e1 : g = N := by simpa [Value.ownBlock] using e
        omega)
    · exact (((HFoot.of_below hb _ HB1.out).trans (HFoot.of_below hb (.slice (some ⟨g, 0, none⟩) N1 c) HB3.out) (.inl rfl)).trans HF.out (.inl rfl)).fresh hg7 (by rw [hN]; exact Nat.le_refl _)
end Trm
end Go.Proofs.YtfohollhdaedlaaGreatDoor
/- Terms: lists' heads on a heap, plain: what is known of them. -/
set_option linter.unusedVariables false
set_option linter.unusedSimpArgs false
set_option maxRecDepth 100000
namespace Go.Proofs.YtfohollhdaedlaaGreatDoor
open Go.RowKit
namespace Trm
/-- A slice of terms as it is read, and their values. -/
def RT (w : World) (v : Value) (l : List MTerm) : Prop := ∃ A c, v = .slice A l.length c ∧ IsSl w 2 A l.length c (tmCells l)
def TV (l : List MTerm) : Prop := ∀ s ∈ l, ∃ B m d, s.2.1 = .slice B m d
theorem RT.below {w w' : World} {v : Value} {l : List MTerm} (h : RT w v l) (hb : Below w.heap.size w w') : RT w' v l := by
  obtain ⟨A, c, h1, h2⟩ := h
  exact ⟨A, c, h1, h2.below hb⟩
/-- A slice without its first one. -/
theorem tail2 {w : World} {A : Option Addr} {n c : Nat} {a b : Value} {l : List Value} (h : IsSl w 2 A (n + 1) c (a :: b :: l)) : ∃ bk o, A = some ⟨bk, o, none⟩ ∧ w.cell? ⟨bk, o, none⟩ = some a ∧ w.cell? ⟨bk, o + 1, none⟩ = some b ∧ 1 ≤ c ∧
    ∀ A', (if c = 1 then some (⟨bk, o, none⟩ : Addr) else some ⟨bk, o + 2, none⟩) = some A' → IsSl w 2 (some A') n (c - 1) l := by
  obtain ⟨bk, o, hA, h1, h2⟩ := Tok.pair_at h (i := 0) (by omega)
  obtain ⟨k1, k2, k3, k4, k5⟩ := h
  subst hA
  refine ⟨bk, o, rfl, by simpa using h1, by simpa using h2, by omega, fun A' hA' => ⟨by simp at k1; omega, by omega, by omega, fun ha => (by cases ha), fun ad ha j u hu => ?_⟩⟩
  obtain rfl := Option.some.inj ha
  have hj := (List.getElem?_eq_some_iff.1 hu).1
  have hl : l.length = n * 2 := by simp at k1; omega
  rw [if_neg (by omega)] at hA'
  obtain rfl := Option.some.inj hA'
  have := k5 _ rfl (j + 2) u (by simpa using hu)
  rw [Addr.add_lit] at this ⊢
  rw [show o + 2 + j = o + (j + 2) by omega]
  exact this
/-- The heads that are on a heap: those of all lists up to a number that are not empty. -/
structure HS (w : World) (rests : List (List MTerm)) (k : Nat) (hs : List HD) : Prop where
  in_ : ∀ h ∈ hs, h.i < k ∧ ∃ pt r, rests[h.i]? = some ((h.t, .slice h.a h.n h.c, pt) :: r) ∧ IsSl w 2 h.b h.m h.d (tmCells r) ∧ r.length = h.m
  nd : (hs.map (·.i)).Nodup
  all : ∀ j r, j < k → rests[j]? = some r → r ≠ [] → ∃ h ∈ hs, h.i = j
theorem HS.nil (w : World) (rests : List (List MTerm)) : HS w rests 0 [] := ⟨fun h hh => absurd hh List.not_mem_nil, List.nodup_nil, fun j r hj => absurd hj (Nat.not_lt_zero j)⟩
theorem HS.perm {w : World} {rests : List (List MTerm)} {k : Nat} {hs hs' : List HD} (h : HS w rests k hs) (hp : hs.Perm hs') : HS w rests k hs' :=
  ⟨fun x hx => h.in_ x (hp.mem_iff.2 hx), (hp.map _).nodup h.nd, fun j r hj hr hn => by
    obtain ⟨x, hx, he⟩ := h.all j r hj hr hn
    exact ⟨x, hp.mem_iff.1 hx, he⟩⟩
theorem HS.skip {w : World} {rests : List (List MTerm)} {k : Nat} {hs : List HD} (h : HS w rests k hs) (he : rests[k]? = some []) : HS w rests (k + 1) hs :=
  ⟨fun x hx => by obtain ⟨h1, h2⟩ := h.in_ x hx; exact ⟨by omega, h2⟩, h.nd, fun j r hj hr hn => by
    by_cases e : j = k
    · rw [e, he] at hr
      exact absurd (Option.some.inj hr).symm hn
    · exact h.all j r (by omega) hr hn⟩
theorem HS.push {w : World} {rests : List (List MTerm)} {k : Nat} {hs hs' : List HD} (h : HS w rests k hs) {x : HD} {pt : List PostM} {r : List MTerm} (hx : x.i = k) (he : rests[k]? = some ((x.t, .slice x.a x.n x.c, pt) :: r)) (hsl : IsSl w 2 x.b x.m x.d (tmCells r)) (hm : r.length = x.m) (hp : hs'.Perm (hs ++ [x])) : HS w rests (k + 1) hs' := by
  refine HS.perm ⟨fun y hy => ?_, ?_, fun j r' hj hr hn => ?_⟩ hp.symm
  · rcases List.mem_append.1 hy with hy | hy
    · obtain ⟨h1, h2⟩ := h.in_ y hy
      exact ⟨by omega, h2⟩
    · obtain rfl := List.mem_singleton.1 hy
      exact ⟨by omega, pt, r, by rw [hx]; exact he, hsl, hm⟩
  · rw [List.map_append, List.nodup_append]
    refine ⟨h.nd, by simp, fun a ha b hb => ?_⟩
    obtain ⟨y, hy, rfl⟩ := List.mem_map.1 ha
    have := (h.in_ y hy).1
    simp only [List.map_cons, List.map_nil, List.mem_singleton] at hb
    omega
  · by_cases e : j = k
    · exact ⟨x, by simp, by rw [hx, e]⟩
    · obtain ⟨y, hy, hy2⟩ := h.all j r' (by omega) hr hn
      exact ⟨y, List.mem_append_left _ hy, hy2⟩
theorem HS.others {w : World} {rests : List (List MTerm)} {k : Nat} {x : HD} {hs : List HD} (h : HS w rests k (x :: hs)) (r : List MTerm) : ∀ y ∈ hs, y.i < k ∧ y.i ≠ x.i ∧ ∃ pt r', (rests.set x.i r)[y.i]? = some ((y.t, .slice y.a y.n y.c, pt) :: r') ∧ IsSl w 2 y.b y.m y.d (tmCells r') ∧ r'.length = y.m := fun y hy => by
  obtain ⟨h1, pt, r', h2, h3⟩ := h.in_ y (List.mem_cons_of_mem _ hy)
  have hne : y.i ≠ x.i := fun e => by
    have := h.nd
    rw [List.map_cons, List.nodup_cons] at this
    exact this.1 (by rw [← e]; exact List.mem_map.2 ⟨y, hy, rfl⟩)
  exact ⟨h1, hne, pt, r', by rw [List.getElem?_set_ne (fun e => hne e.symm)]; exact h2, h3⟩
/-- The least one's list had no more. -/
theorem HS.pop {w : World} {rests : List (List MTerm)} {k : Nat} {x : HD} {hs : List HD} (h : HS w rests k (x :: hs)) : HS w (rests.set x.i []) k hs := by
  have hnd := h.nd
  rw [List.map_cons, List.nodup_cons] at hnd
  refine ⟨fun y hy => ?_, hnd.2, fun j r hj hr hn => ?_⟩
  · obtain ⟨h1, _, h2⟩ := h.others [] y hy
    exact ⟨h1, h2⟩
  · by_cases e : j = x.i
    · subst e
      have hlt := (List.getElem?_eq_some_iff.1 hr).1
      rw [List.length_set] at hlt
      rw [List.getElem?_set_self hlt] at hr
      exact absurd (Option.some.inj hr).symm hn
    · rw [List.getElem?_set_ne (fun h => e h.symm)] at hr
      obtain ⟨y, hy, hy2⟩ := h.all j r hj hr hn
      rcases List.mem_cons.1 hy with rfl | hy
      · exact absurd hy2.symm e
      · exact ⟨y, hy, hy2⟩
/-- The least one's list goes on. -/
theorem HS.turn {w : World} {rests : List (List MTerm)} {k : Nat} {x z : HD} {hs hs' : List HD} (h : HS w rests k (x :: hs)) {pt : List PostM} {r : List MTerm} (hz : z.i = x.i) (hsl : IsSl w 2 z.b z.m z.d (tmCells r)) (hm : r.length = z.m) (hp : hs'.Perm (hs ++ [z])) :
    HS w (rests.set x.i ((z.t, .slice z.a z.n z.c, pt) :: r)) k hs' := by
  have hnd := h.nd
  rw [List.map_cons, List.nodup_cons] at hnd
  obtain ⟨hxk, _, _, hxr, _⟩ := h.in_ x (List.mem_cons_self ..)
  have hlt := (List.getElem?_eq_some_iff.1 hxr).1
  refine HS.perm ⟨fun y hy => ?_, ?_, fun j r' hj hr hn => ?_⟩ hp.symm
  · rcases List.mem_append.1 hy with hy | hy
    · obtain ⟨h1, _, h2⟩ := h.others ((z.t, .slice z.a z.n z.c, pt) :: r) y hy
      exact ⟨h1, h2⟩
    · obtain rfl := List.mem_singleton.1 hy
      exact ⟨by omega, pt, r, by rw [hz, List.getElem?_set_self hlt], hsl, hm⟩
  · rw [List.map_append, List.nodup_append]
    refine ⟨hnd.2, by simp, fun a ha b hb => ?_⟩
    simp only [List.map_cons, List.map_nil, List.mem_singleton] at hb
    rw [hb, hz]
    exact fun e => hnd.1 (by rw [← e]; exact ha)
  · by_cases e : j = x.i
    · exact ⟨z, by simp, by rw [hz, e]⟩
    · rw [List.getElem?_set_ne (fun h => e h.symm)] at hr
      obtain ⟨y, hy, hy2⟩ := h.all j r' hj hr hn
      rcases List.mem_cons.1 hy with rfl | hy
      · exact absurd hy2.symm e
      · exact ⟨y, List.mem_append_left _ hy, hy2⟩
/-- The first one of a heap is the least head. -/
theorem HS.min {w : World} {rests : List (List MTerm)} {k : Nat} {x : HD} {hs : List HD} (h : HS w rests k hs) (ho : HeapO hs) (hx : hs[0]? = some x) (hk : rests.length ≤ k) :
    ∀ (j : Nat) (y : MTerm) (r' : List MTerm), rests[j]? = some (y :: r') → j ≠ x.i → hlt x.t y.1 x.i j := fun j y r' hj hne => by
  have hjl := (List.getElem?_eq_some_iff.1 hj).1
  obtain ⟨z, hz, hzi⟩ := h.all j _ (by omega) hj (List.cons_ne_nil _ _)
  obtain ⟨_, pt, r, hzr, _⟩ := h.in_ z hz
  rw [hzi, hj] at hzr
  have hy : y = (z.t, .slice z.a z.n z.c, pt) := (List.cons.inj (Option.some.inj hzr)).1
  obtain ⟨q, hq⟩ := List.mem_iff_getElem?.1 hz
  have hl := Hp.IsH.least hord ho q (List.getElem?_eq_some_iff.1 hq).1
  rw [getD_at hq, getD_at hx, hltP_iff] at hl
  rw [hy]
  show hlt x.t z.t x.i j
  rw [hzi] at hl
  unfold hlt at hl ⊢
  by_cases h1 : slt x.t z.t = true
  · exact .inl h1
  · by_cases h2 : slt z.t x.t = true
    · exact absurd (.inl h2) hl
    · have h3 : ¬ j < x.i := fun hh => hl (.inr ⟨by simpa using h1, hh⟩)
      exact .inr ⟨by simpa using h2, by omega⟩
theorem HS.empty {w : World} {rests : List (List MTerm)} {k : Nat} (h : HS w rests k []) (hk : rests.length ≤ k) : ∀ r ∈ rests, r = [] := fun r hr => by
  obtain ⟨j, hj⟩ := List.mem_iff_getElem?.1 hr
  refine Classical.byContradiction fun hn => ?_
  obtain ⟨x, hx, _⟩ := h.all j r (by have := (List.getElem?_eq_some_iff.1 hj).1; omega) hj hn
  cases hx
/-- How many are left. -/
def left (rests : List (List MTerm)) : Nat := (rests.map List.length).sum
theorem left_set : ∀ (rests : List (List MTerm)) (i : Nat) (p : MTerm) (r : List MTerm), rests[i]? = some (p :: r) → left (rests.set i r) + 1 = left rests
  | [], _, _, _, h => by simp at h
  | q :: rs, 0, p, r, h => by
    obtain rfl : q = p :: r := by simpa using h
    simp [left]; omega
  | q :: rs, i + 1, p, r, h => by
    have := left_set rs i p r (by simpa using h)
    simp only [left, List.set_cons_succ, List.map_cons, List.sum_cons] at this ⊢
    omega
end Trm
end Go.Proofs.YtfohollhdaedlaaGreatDoor
/- Terms: lists of terms as one: the walk of sorted.Merge. -/
set_option linter.unusedVariables false
set_option linter.unusedSimpArgs false
set_option maxRecDepth 100000
namespace Go.Proofs.YtfohollhdaedlaaGreatDoor
open Go.RowKit
namespace Trm
theorem eql_nil (w : World) : (binOp .eql 44 (.func (.func 35) #[] #[]) .nilFunc).run Tryz.prog w = .ok (.bool false) w := by kernel_rfl
theorem own_same {w w' : World} {B size n : Nat} {e : TypeId} {u : Value} {xs : List Value} (h : w.ownsRow B e size u n xs) (hs : ∀ g, u.ownBlock = some g → w'.heap[g]? = w.heap[g]?) : w'.ownsRow B e size u n xs := by
  refine ⟨h.1, ?_⟩
  rcases h.2 with hn | ⟨g, cap, cur, rfl, hb, hg, rest⟩
  · exact .inl hn
  · exact .inr ⟨g, cap, cur, rfl, hb, (hs g rfl).trans hg, rest⟩
theorem own_blk {w : World} {B size n : Nat} {e : TypeId} {u : Value} {xs : List Value} (h : w.ownsRow B e size u n xs) {g : Nat} (hg : u.ownBlock = some g) : ∃ cur, w.heap[g]? = some (.cells cur e (0, 0)) := by
  rcases h.2 with ⟨rfl, _⟩ | ⟨g', cap, cur, rfl, hb, hg', rest⟩
  · cases hg
  · have : g' = g := by simpa [Value.ownBlock] using hg
    subst this; exact ⟨cur, hg'⟩
/-- A row of another type stays where a heap turns. -/
theorem HFoot.own {B B' hb cb size n : Nat} {v u : Value} {hs : List HD} {e : TypeId} {xs : List Value} {w w' : World} (h : HFoot hb v w w') (H : IsHp B hb cb v hs w) (ho : w.ownsRow B' e size u n xs) (h1 : e ≠ 92) (h2 : e ≠ 121) :
    w'.ownsRow B' e size u n xs := own_same ho fun g hg => by
  obtain ⟨cur, hc⟩ := own_blk ho hg
  refine h.block g (Array.getElem?_eq_some_iff.1 hc).1 (fun e1 => ?_) (own_ne H.row hc h1)
  have := own_ne ho H.head (fun e2 => h2 e2.symm)
  exact this (by rw [hg, e1])
/-- A heap stays where a row of another type turns. -/
theorem IsHp.other {B B' hb cb size n : Nat} {v u : Value} {hs : List HD} {e : TypeId} {xs : List Value} {w w' : World} (H : IsHp B hb cb v hs w) (ho : w.ownsRow B' e size u n xs) (hg : w.grownBy w' u.ownBlock) (h1 : e ≠ 92) (h2 : e ≠ 121) (h3 : e ≠ 44) : IsHp B hb cb v hs w' :=
  ⟨H.le, (hg.block hb H.lt (own_ne ho H.head (fun e2 => h2 e2.symm))).trans H.head, (hg.block cb (Array.getElem?_eq_some_iff.1 H.cap).1 (own_ne ho H.cap (fun e2 => h3 e2.symm))).trans H.cap, own_other H.row ho hg (fun e2 => h1 e2.symm)⟩
def lenOf : Value → Nat
  | .slice _ n _ => n
  | _ => 0
theorem heapO_nil : HeapO [] := fun k h1 h2 => by simp at h2
set_option maxHeartbeats 16000000 in
theorem smerge_calls (w : World) (A : Option Addr) (n c : Nat) (ls : List (Value × List MTerm)) (hn : ls.length = n) (h : IsSl w 1 A n c (ls.map (·.1))) (hr : ∀ x ∈ ls, RT w x.1 x.2 ∧ TV x.2) (hs : ∀ x ∈ ls, x.2.Pairwise (fun a b => sle a.1 b.1)) (hT : left (ls.map (·.2)) ≤ 1000000) (hn2 : n ≤ 1000000) :
    Calls Tryz.prog 34 #[.func (.func 35) #[] #[], .slice A n c] w fun e w' => ∃ v o, e = .returned v ∧ w'.ownsRow w.heap.size 37 2 v o.length (tmCells o) ∧
      (o.Pairwise (fun a b => sle a.1 b.1) ∧ ∀ t, (o.filter fun e => decide (e.1 = t)) = (ls.map (·.2)).flatMap fun r => r.filter fun e => decide (e.1 = t)) ∧ o.length ≤ left (ls.map (·.2)) ∧ Below w.heap.size w w' := by
  have H := Lib.hid h
  have HR := Lib.hid hr
  have HS0 := Lib.hid hs
  have HN := Lib.hid hn
  obtain ⟨R, hR⟩ : ∃ R, ls.map (·.2) = R := ⟨_, rfl⟩
  have HRR := Lib.hid hR
  rw [hR] at hT
  have hnc := h.2.1
  have hcm := h.2.2.1
  unfold maxLen at hcm
  obtain ⟨B, hB⟩ : ∃ B, w.heap.size = B := ⟨_, rfl⟩
  have HB0 := Lib.hid hB
  have C1 := Lib.hid (newheap_calls B)
  obtain ⟨w1, hw1⟩ : ∃ w1, w.alloc (.cells #[.func (.func 35) #[] #[]] 44) = w1 := ⟨_, rfl⟩
  have hb1 : Below w.heap.size w w1 := by rw [← hw1]; exact (Below.refl _ _).alloc (Nat.le_refl _) _
  have hx1 : w1.heap[B]? = some (.cells #[.func (.func 35) #[] #[]] 44 (0, 0)) := by rw [← hw1, ← hB]; exact heap_alloc_new _ _
  have hz1 : w1.heap.size = B + 1 := by rw [← hw1, ← hB]; simp
  obtain ⟨w2, hw2⟩ : ∃ w2, w1.alloc (.cells #[.slice none 0 0, .func (.func 52) #[] #[.pointer (some ⟨B, 0, none⟩)]] 121) = w2 := ⟨_, rfl⟩
  have hb2 : Below w1.heap.size w1 w2 := by rw [← hw2]; exact (Below.refl _ _).alloc (Nat.le_refl _) _
  have HP2 : Hid (IsHp B (B + 1) B (.slice none 0 0) [] w2) := ⟨by omega, by rw [← hw2, ← hz1]; exact heap_alloc_new _ _, (hb2.block B (by omega)).trans hx1, World.ownsRow_nil _ _ _ _⟩
  have HB2 := Lib.hid (below_next hb1 hb2)
  have HW1 := Lib.hid hw1
  have HW2 := Lib.hid hw2
  have HZ1 := Lib.hid hz1
  rw [hB] at HB2 ⊢
  have hen := eql_nil
  obtain ⟨i0, hi0, hy0, hy1, hy2⟩ := info_parts inf_term
  clear h hr hs hn hR hb1 hx1 hz1 hb2 hw1 hw2
  go_enter Tryz.func34, Tryz.ntmps34
  go_wp2_with fail
  rw [HW1.out]
  refine (C1.out w1).mono ?_
  rintro e w3 ⟨rfl, rfl⟩
  rw [HW2.out, HZ1.out]
  clear C1 hen
  go_wp2_with fail
  go_loopw [17] (fun ix wr => ∃ (i : Nat) (v : Value) (hs : List HD), i ≤ n ∧ ix = .int .i64 i ∧ Hid (IsHp B (B + 1) B v hs wr) ∧ Hid (HeapO hs) ∧ Hid (HS w R i hs) ∧ hs.length ≤ i ∧ Hid (Below B w wr)) (fun ix _ => n - (intOf ix).toNat)
  case atStart => exact ⟨0, _, [], Nat.zero_le _, rfl, HP2, heapO_nil, HS.nil _ _, Nat.le_refl _, HB2⟩
  case round =>
    obtain ⟨i, v, hs, hi, rfl, HP, HO, HH, hhl, HB⟩ := hrel
    have HBW : Hid (Below w.heap.size w wr) := by rw [HB0.out]; exact HB.out
    by_cases hlt : i < n
    · obtain ⟨x, hx⟩ : ∃ x, ls[i]? = some x := ⟨_, List.getElem?_eq_getElem (by rw [HN.out]; exact hlt)⟩
      obtain ⟨ad, rfl, y0⟩ := sl_at (H.out.below HBW.out) (i := i) (x := x.1) (by rw [List.getElem?_map, hx]; rfl)
      obtain ⟨⟨LA, lc, hv, hlsl⟩, htv⟩ := HR.out x (List.mem_of_getElem? hx)
      have HRI : Hid (R[i]? = some x.2) := by show _ = _; rw [← HRR.out, List.getElem?_map, hx]; rfl
      have hwi : IntKind.i64.wrap ((i : Int) + 1) = (i : Int) + 1 := by rw [IntKind.wrap_i64]; omega
      obtain ⟨xv, xl⟩ := x
      simp only at hv hlsl htv HRI y0
      subst hv
      have hlc := hlsl.2.1
      have hlm := hlsl.2.2.1
      unfold maxLen at hlm
      rcases xl with _ | ⟨p, r⟩
      · have HH2 := Lib.hid (HH.out.skip HRI.out)
        simp only [List.length_nil] at y0 hlc
        go_wp2_with fail
        go_roundw
        case rel => exact ⟨i + 1, v, hs, by omega, by go_num, HP, HO, HH2, by omega, HB⟩
        case measure => simp [intOf]; omega
      · obtain ⟨pb, pm, pd, hpv⟩ := htv p (List.mem_cons_self ..)
        obtain ⟨pk, pv, pp⟩ := p
        simp only at hpv
        subst hpv
        obtain ⟨m, hm⟩ : ∃ m, r.length = m := ⟨_, rfl⟩
        rw [List.length_cons, hm] at y0 hlsl hlc
        obtain ⟨bk, o, rfl, c0, c1, hlc1, htl⟩ := tail2 hlsl
        have c0 := cell_kept HBW.out c0
        have c1 := cell_kept HBW.out c1
        obtain ⟨A', hA'⟩ : ∃ A' : Addr, (if lc = 1 then some (⟨bk, o, none⟩ : Addr) else some ⟨bk, o + 2, none⟩) = some A' := by
          by_cases h : lc = 1
          · exact ⟨_, by rw [if_pos h]⟩
          · exact ⟨_, by rw [if_neg h]⟩
        have HTL := Lib.hid (htl A' hA')
        have HM := Lib.hid hm
        obtain ⟨m1, hm1⟩ : ∃ m1, m + 1 = m1 := ⟨_, rfl⟩
        rw [hm1] at y0 hlc
        have hm1m : m1 - 1 = m := by omega
        have hm0 : 0 < m1 := by omega
        have hm0' : (0 : Int) < (m1 : Int) := by omega
        have hm2' : (1 : Int) ≤ (m1 : Int) := by omega
        have hm2 : 1 ≤ m1 := by omega
        have CP := Lib.hid (fun (w' : World) (h : IsHp B (B + 1) B v hs w') => push_calls h HO.out (by omega) ⟨pk, pb, pm, pd, i, some A', m, lc - 1⟩)
        have CP2 := Lib.hid (CP.out wr.drew (HP.out.below ((Below.refl _ _).drew)))
        have hHB := HP.out.base
        have HBS := Lib.hid (show ∀ g, v.ownBlock = some g → B ≤ g from hHB)
        clear CP hHB
        clear hlsl htl hx htv hm hm1
        go_upto_region 8 with fail
        go_still_tail 8, (by kernel_rfl)
        change wpList _ _ _ _ _ wr.drew
        go_wp2_with fail
        refine CP2.out.mono ?_
        rintro e w3 ⟨⟨r0, rfl⟩, v', hs', hp', ho', hpm, hf⟩
        have HP3 := Lib.hid hp'
        have HO3 := Lib.hid ho'
        have HH3 := Lib.hid (HH.out.push (x := ⟨pk, pb, pm, pd, i, some A', m, lc - 1⟩) rfl HRI.out HTL.out HM.out hpm)
        have HB3 : Hid (Below B w w3) := (HB.out.trans ((Below.refl B wr).drew)).trans (hf.below (by omega) HBS.out HP.out.size)
        have HL3 : Hid (hs'.length ≤ i + 1) := by
          have := hpm.length_eq
          show _ ≤ _
          rw [this]; simp; omega
        clear hp' ho' hpm hf c0 c1 hA' CP2
        go_wp2_with fail
        go_roundw
        case rel => exact ⟨i + 1, v', hs', by omega, by go_num, HP3, HO3, HH3, HL3.out, HB3⟩
        case measure => simp [intOf]; omega
    · obtain rfl : i = n := by omega
      have HRL : Hid (R.length = i) := by show _ = _; rw [← HRR.out, List.length_map, HN.out]
      have HTV0 : Hid (∀ r ∈ R, TV r) := fun r hr => by
        rw [← HRR.out] at hr
        obtain ⟨x, hx, rfl⟩ := List.mem_map.1 hr
        exact (HR.out x hx).2
      have HMI : Hid (MInv R [] R) := MInv.start R fun r hr => by
        rw [← HRR.out] at hr
        obtain ⟨x, hx, rfl⟩ := List.mem_map.1 hr
        exact HS0.out x hx
      go_wp2_with fail
      obtain ⟨wz, hwz⟩ : ∃ wz, wz = wr := ⟨_, rfl⟩
      subst hwz
      go_loopw [8] (fun out wr => ∃ (o : List MTerm) (rests : List (List MTerm)) (v : Value) (hs : List HD), Hid (IsHp B (B + 1) B v hs wr) ∧ Hid (HeapO hs) ∧ Hid (HS w rests i hs) ∧ Hid (MInv R o rests) ∧ Hid (wr.ownsRow B 37 2 out o.length (tmCells o)) ∧ o.length + left rests = left R ∧ rests.length = i ∧ hs.length ≤ i ∧ Hid (∀ r ∈ rests, TV r) ∧ Hid (Below B w wr)) (fun out _ => left R - lenOf out)
      case atStart => exact ⟨[], R, v, hs, HP, HO, HH, HMI, World.ownsRow_nil _ _ _ _, by simp, HRL.out, hhl, HTV0, HB⟩
      case round =>
        obtain ⟨o, rests, v, hs, HP, HO, HH, HM, HOW, hot, hrl, hhl, HTV, HB⟩ := hrel
        have HHEAD : Hid (∃ v', v = v') := ⟨v, rfl⟩
        rcases hs with _ | ⟨x, hs0⟩
        · have CP := Lib.hid (popnil_calls HP.out)
          have HDN := Lib.hid (HM.out.done (HH.out.empty (by omega)))
          go_wp2_with fail
          refine CP.out.mono ?_
          rintro e w3 ⟨rfl, hb⟩
          have HOW3 := Lib.hid (own_below HOW.out hb)
          have HSW := Lib.hid hb.size
          have HB3 := Lib.hid (HB.out.trans (hb.mono HP.out.size))
          clear hb CP
          go_wp2_with fail
          go_ret
          exact ⟨_, o, rfl, own_below HOW3.out ((Below.refl _ _).alloc (Nat.le_refl _) _), ⟨HDN.out.1, by rw [HRR.out]; exact HDN.out.2⟩, by rw [HRR.out]; omega, HB3.out.alloc (Nat.le_trans HP.out.size HSW.out) _⟩
        · obtain ⟨xt, xa, xn, xc, xi, xb, xm, xd⟩ := x
          obtain ⟨g, gc, hv⟩ : ∃ g gc, v = .slice (some ⟨g, 0, none⟩) (hs0.length + 1) gc := by
            rcases HP.out.row.2 with ⟨_, h0⟩ | ⟨g, cap, cur, hv, _⟩
            · simp at h0
            · exact ⟨g, cap, hv⟩
          subst hv
          have CP := Lib.hid (pop_calls (n := hs0.length) rfl HP.out HO.out rfl (by simp at hhl; omega) ⟨xt, xa, xn, xc, xi, xb, xm, xd⟩ rfl)
          simp only [HD.arr] at CP
          obtain ⟨hxi, pt, r, hxr, hxsl, hxm⟩ := HH.out.in_ _ (List.mem_cons_self ..)
          simp only at hxi hxr hxsl hxm
          have HMN := Lib.hid (HM.out.step hxr (HH.out.min HO.out rfl (by omega)))
          have HLF := Lib.hid (left_set rests xi _ r hxr)
          have HTR : Hid (TV ((xt, Value.slice xa xn xc, pt) :: r)) := HTV.out _ (List.mem_of_getElem? hxr)
          have HTV2 : Hid (∀ r' ∈ rests.set xi r, TV r') := fun r' hr' => by
            rcases List.mem_or_eq_of_mem_set hr' with h1 | h1
            · exact HTV.out r' h1
            · subst h1; exact fun s hs => HTR.out s (List.mem_cons_of_mem _ hs)
          have HXSL := Lib.hid hxsl
          have HXM := Lib.hid hxm
          have hxiN : xi < 1000000 := by omega
          obtain ⟨OA, oc, rfl, _⟩ := own_form HOW.out
          obtain ⟨ol, hol⟩ : ∃ ol, o.length = ol := ⟨_, rfl⟩
          have HOL := Lib.hid hol
          rw [hol] at HOW hot ⊢
          have hol2 : ol < 1000000 := by have := HLF.out; omega
          clear hxr hxsl hxm hol
          go_wp2_with fail
          refine CP.out.mono ?_
          rintro e w3 ⟨rfl, hs', hp3, ho3, hpm3, hf3⟩
          have HP3 := Lib.hid hp3
          have HO3 := Lib.hid ho3
          have HHP := Lib.hid (HH.out.perm hpm3)
          have HLH : Hid (hs'.length = hs0.length) := by have := hpm3.length_eq; show _ = _; simpa using this.symm
          have HOW3 := Lib.hid (hf3.own HP.out HOW.out (by decide) (by decide))
          have HB3 : Hid (Below B w w3) := HB.out.trans (hf3.below HP.out.le HP.out.base HP.out.size)
          have HAL : Hid (Below w3.heap.size w3 ((w3.alloc (.cells #[.string xt, .slice xa xn xc, .int .i64 xi, .slice xb xm xd] 92)).alloc (.cells #[.string xt, .slice xa xn xc] 37))) := ((Below.refl _ _).alloc (Nat.le_refl _) _).alloc (by simp) _
          have hxA := heap_alloc_new w3 (.cells #[.string xt, .slice xa xn xc, .int .i64 xi, .slice xb xm xd] 92)
          have HXA : Hid (((w3.alloc (.cells #[.string xt, .slice xa xn xc, .int .i64 xi, .slice xb xm xd] 92)).alloc (.cells #[.string xt, .slice xa xn xc] 37)).heap[w3.heap.size]? = some (.cells #[.string xt, .slice xa xn xc, .int .i64 xi, .slice xb xm xd] 92 (0, 0))) :=
            (((Below.refl (w3.alloc (.cells #[.string xt, .slice xa xn xc, .int .i64 xi, .slice xb xm xd] 92)).heap.size _).alloc (Nat.le_refl _) _).block _ (Array.getElem?_eq_some_iff.1 hxA).1).trans hxA
          have HSZ := Lib.hid HP3.out.size
          clear hp3 ho3 hpm3 hf3 CP hxA
          go_wp2_with (at_builtin; go_loud (refine wpList_append_lies _ rfl (.tmp 43) (.tmp 46) 29 rfl B 37 i0 (.agg #[.string { data := #[] }, .slice none 0 0]) 2 40 Tryz.underlying29 hi0 hy0 hy1 hy2 rfl (by decide) (.slice OA ol oc) ol (tmCells o) rfl (own_below HOW3.out HAL.out) ⟨w3.heap.size + 1, 0, none⟩ 1 1 [.string xt, .slice xa xn xc] rfl rfl (World.news_of_block (cs := #[.string xt, .slice xa xn xc]) (t := 37) (fr := (0, 0)) (by have := heap_alloc_new (w3.alloc (.cells #[.string xt, .slice xa xn xc, .int .i64 xi, .slice xb xm xd] 92)) (.cells #[.string xt, .slice xa xn xc] 37); simpa using this)) (by simp [Value.oneCell']) (by decide) (by unfold maxLen; omega) (by omega) (by have := HSZ.out; simp; omega) (w3.heap.size + 1 + 1) (by simp) ?_))
          rintro g5 cap5 w5 ho5 hg5 hat5 hlt5
          have HOW5 := Lib.hid ho5
          have HP5 := Lib.hid ((HP3.out.below HAL.out).other (own_below HOW3.out HAL.out) hg5 (by decide) (by decide) (by decide))
          have HB5 : Hid (Below B w w5) := (HB3.out.trans (HAL.out.mono HSZ.out)).grown hg5 (by have := HSZ.out; have := HAL.out.size; omega) (fun k hk => (HOW3.out.lt k hk).1)
          have hx5 : w5.heap[w3.heap.size]? = some (.cells #[.string xt, .slice xa xn xc, .int .i64 xi, .slice xb xm xd] 92 (0, 0)) := (hg5.block _ (Array.getElem?_eq_some_iff.1 HXA.out).1 (own_ne (own_below HOW3.out HAL.out) HXA.out (by decide))).trans HXA.out
          obtain ⟨q0, q1, q2, q3, _, _, _, _⟩ := head4 hx5
          clear ho5 hg5 hat5 hlt5 hx5
          rcases r with _ | ⟨p2, r2⟩
          · obtain rfl : xm = 0 := HXM.out.symm
            have HH5 := Lib.hid HHP.out.pop
            go_wp2_with fail
            go_roundw
            case rel => exact ⟨o ++ [(xt, .slice xa xn xc, pt)], rests.set xi [], _, hs', HP5, HO3, HH5, HMN, (by rw [List.length_append, List.length_singleton, HOL.out, tmCells_append]; exact HOW5.out), by rw [List.length_append, List.length_singleton, HOL.out]; have := HLF.out; omega, by rw [List.length_set]; exact hrl, by rw [HLH.out]; simp at hhl; omega, HTV2, HB5⟩
            case measure => simp [lenOf]; have := HLF.out; omega
          · obtain ⟨pb, pm, pd, hpv⟩ := HTR.out p2 (by simp)
            obtain ⟨pk, pv, pp⟩ := p2
            simp only at hpv
            subst hpv
            obtain ⟨m, hm⟩ : ∃ m, r2.length = m := ⟨_, rfl⟩
            have hxm2 := HXM.out
            rw [List.length_cons, hm] at hxm2
            have hsl2 := HXSL.out
            rw [← hxm2] at hsl2
            obtain ⟨bk, bo, rfl, c0, c1, hlc1, htl⟩ := tail2 hsl2
            have hBW : Below w.heap.size w w5 := by rw [HB0.out]; exact HB5.out
            have c0 := cell_kept hBW c0
            have c1 := cell_kept hBW c1
            obtain ⟨A', hA'⟩ : ∃ A' : Addr, (if xd = 1 then some (⟨bk, bo, none⟩ : Addr) else some ⟨bk, bo + 2, none⟩) = some A' := by
              by_cases h : xd = 1
              · exact ⟨_, by rw [if_pos h]⟩
              · exact ⟨_, by rw [if_neg h]⟩
            have HTL := Lib.hid (htl A' hA')
            have HM2 := Lib.hid hm
            have hdc := hsl2.2.1
            have hdm := hsl2.2.2.1
            unfold maxLen at hdm
            have hm1m : xm - 1 = m := by omega
            have hm0 : 0 < xm := by omega
            have hm0' : (0 : Int) < (xm : Int) := by omega
            have hm2' : (1 : Int) ≤ (xm : Int) := by omega
            have hm2 : 1 ≤ xm := by omega
            have hmd : xm ≤ xd := by omega
            have CP2 := Lib.hid (push_calls (HP5.out.below ((Below.refl _ _).drew)) HO3.out (by rw [HLH.out]; simp at hhl; omega) ⟨pk, pb, pm, pd, xi, some A', m, xd - 1⟩)
            clear hsl2 htl hm hxm2 hBW hdc
            go_upto_region 16 with fail
            go_still_tail 11, (by kernel_rfl)
            change wpList _ _ _ _ _ w5.drew
            go_wp2_with fail
            refine CP2.out.mono ?_
            rintro e w6 ⟨⟨r0, rfl⟩, v', hs'', hp', ho', hpm, hf⟩
            have HP6 := Lib.hid hp'
            have HO6 := Lib.hid ho'
            have HH6 := Lib.hid (HHP.out.turn (z := ⟨pk, pb, pm, pd, xi, some A', m, xd - 1⟩) (pt := pp) rfl HTL.out HM2.out hpm)
            have HOW6 := Lib.hid (hf.own (HP5.out.below ((Below.refl _ _).drew)) HOW5.out.drew (by decide) (by decide))
            have HB6 : Hid (Below B w w6) := (HB5.out.trans ((Below.refl B w5).drew)).trans (hf.below HP5.out.le HP5.out.base HP5.out.size)
            have HLH2 : Hid (hs''.length = hs0.length + 1) := by have := hpm.length_eq; show _ = _; rw [this, List.length_append, HLH.out]; rfl
            clear hp' ho' hpm hf c0 c1 hA' CP2 q0 q1 q2 q3
            go_wp2_with fail
            go_roundw
            case rel => exact ⟨o ++ [(xt, .slice xa xn xc, pt)], rests.set xi ((pk, .slice pb pm pd, pp) :: r2), v', hs'', HP6, HO6, HH6, HMN, (by rw [List.length_append, List.length_singleton, HOL.out, tmCells_append]; exact HOW6.out), by rw [List.length_append, List.length_singleton, HOL.out]; have := HLF.out; omega, by rw [List.length_set]; exact hrl, by rw [HLH2.out]; simp at hhl; omega, HTV2, HB6⟩
            case measure => simp [lenOf]; have := HLF.out; omega
end Trm
end Go.Proofs.YtfohollhdaedlaaGreatDoor
/- Terms: slices.Grow, slices.Concat at postings and documents. Written by concat.py. -/
set_option linter.unusedVariables false
set_option linter.unusedSimpArgs false
set_option maxRecDepth 100000
namespace Go.Proofs.YtfohollhdaedlaaGreatDoor
open Go.RowKit
namespace Trm
abbrev Slice1 := Option Addr × Nat × Nat × List Value
def IsRowsC (w : World) (size : Nat) (A : Option Addr) (n c : Nat) (rs : List Slice1) : Prop := IsSl w 1 A n c (rs.map fun r => .slice r.1 r.2.1 r.2.2.1) ∧ ∀ r ∈ rs, IsSl w size r.1 r.2.1 r.2.2.1 r.2.2.2 ∧ ∀ u ∈ r.2.2.2, u.oneCell' = true
theorem IsRowsC.below {w w' : World} {size : Nat} {A : Option Addr} {n c : Nat} {rs : List Slice1} (h : IsRowsC w size A n c rs) (hb : Below w.heap.size w w') : IsRowsC w' size A n c rs := ⟨h.1.below hb, fun r hr => ⟨(h.2 r hr).1.below hb, (h.2 r hr).2⟩⟩
def cnt (rs : List Slice1) : Nat := (rs.map fun r => r.2.1).sum
def flatC (rs : List Slice1) : List Value := rs.flatMap fun r => r.2.2.2
theorem cnt_take {rs : List Slice1} {i : Nat} {r : Slice1} (h : rs[i]? = some r) : cnt (rs.take (i + 1)) = cnt (rs.take i) + r.2.1 := by
  unfold cnt
  rw [List.take_add_one, h, List.map_append, List.sum_append]; simp
theorem flatC_take {rs : List Slice1} {i : Nat} {r : Slice1} (h : rs[i]? = some r) : flatC (rs.take (i + 1)) = flatC (rs.take i) ++ r.2.2.2 := by
  unfold flatC
  rw [List.take_add_one, h, List.flatMap_append]; simp
theorem cnt_le (rs : List Slice1) (i : Nat) : cnt (rs.take i) ≤ cnt rs := by
  conv => rhs; rw [← List.take_append_drop i rs]
  unfold cnt
  rw [List.map_append, List.sum_append]; omega
theorem size_zeros (z : Array Value) (n : Nat) : (Builtin.zeroCells z n).size = z.size * n := by
  simp [Builtin.zeroCells, Nat.mul_comm]
theorem own_zeros (w : World) (e : TypeId) (z : Array Value) (size n m : Nat) (hz : z.size = size) (hnm : n ≤ m) (hm : m ≤ maxLen) : (w.drew.alloc (.cells (Builtin.zeroCells z n ++ Builtin.zeroCells z (m - n)) e (0, 0))).ownsRow w.heap.size e size (.slice (some ⟨w.heap.size, 0, none⟩) 0 m) 0 [] := by
  refine ⟨by simp, .inr ⟨w.heap.size, m, _, rfl, Nat.le_refl _, heap_alloc_new w.drew _, Nat.zero_le _, hm, ?_, by simp⟩⟩
  rw [Array.size_append, size_zeros, size_zeros, hz, ← Nat.mul_add, Nat.mul_comm, show n + (m - n) = m by omega]
def OwnC (w : World) (e : TypeId) (size n : Nat) (xs : List Value) (x : Ending) (w' : World) : Prop := ∃ v, x = .returned v ∧ w'.ownsRow w.heap.size e size v n xs ∧ Below w.heap.size w w'
theorem inf_post : (Tryz.prog.info? 41).map (fun i => (i.zero, i.size, i.bytes)) = some (some (Value.agg #[.int .i64 0, .slice none 0 0]), 2, 32) := by kernel_rfl
set_option maxHeartbeats 1000000 in
theorem grow_post (w : World) (q : Nat) (hq : q ≤ 1000000) :
    Calls Tryz.prog 55 #[.slice none 0 0, .int .i64 q] w (OwnC w 41 2 0 []) := by
  obtain ⟨i, hi, hz, hs, hby⟩ := info_parts inf_post
  by_cases h0 : q = 0
  · subst h0
    go_enter Tryz.func55, Tryz.ntmps55
    go_wp2_with fail
    go_ret
    exact ⟨_, rfl, World.ownsRow_nil _ _ _ _, Below.refl _ _⟩
  · have hr := Lib.run_append_nil_zeros (P := Tryz.prog) w 35 3 35 41 i (Value.agg #[.int .i64 0, .slice none 0 0]) .i64 .i64 Tryz.underlying35 Tryz.underlying3 hi hz q (by omega) (by omega) (by omega) (by rw [hby]; omega)
    have hge := grownCap_ge w q 0 41
    have hle := grownCap_le_maxLen w q 0 41 (by unfold maxLen; omega)
    have ho := own_zeros w 41 (Value.agg #[.int .i64 0, .slice none 0 0]).cells 2 q (grownCap w q 0 41) rfl hge hle
    have hb : Below w.heap.size w (w.drew.alloc (.cells (Builtin.zeroCells (Value.agg #[.int .i64 0, .slice none 0 0]).cells q ++ Builtin.zeroCells (Value.agg #[.int .i64 0, .slice none 0 0]).cells (grownCap w q 0 41 - q)) 41 (0, 0))) :=
      (show Below w.heap.size w w.drew from ⟨rfl, rfl, rfl, Nat.le_refl _, fun _ _ => rfl⟩).alloc (Nat.le_refl _) _
    have HR := Lib.hid hr
    have HO := Lib.hid ho
    have HB := Lib.hid hb
    clear hr ho hb hi hz
    generalize (w.drew.alloc (.cells (Builtin.zeroCells (Value.agg #[.int .i64 0, .slice none 0 0]).cells q ++ Builtin.zeroCells (Value.agg #[.int .i64 0, .slice none 0 0]).cells (grownCap w q 0 41 - q)) 41 (0, 0))) = w2 at *
    generalize grownCap w q 0 41 = g at *
    go_enter Tryz.func55, Tryz.ntmps55
    go_wp2_with (at_builtin; refine Lib.wpList_append_run _ rfl _ _ _ _ rfl _ _ rfl rfl _ _ HR.out ?_)
    go_wp2_with fail
    go_ret
    exact ⟨_, rfl, HO.out, HB.out⟩
set_option maxHeartbeats 2000000 in
theorem concat_post (w : World) (A : Option Addr) (n c : Nat) (rs : List Slice1) (h : IsRowsC w 2 A n c rs) (hsum : cnt rs ≤ 1000000) :
    Calls Tryz.prog 36 #[.slice A n c] w (OwnC w 41 2 (cnt rs) (flatC rs)) := by
  have hn : rs.length = n := by have := h.1.1; simp at this; omega
  have hnc := h.1.2.1
  have hcm := h.1.2.2.1
  unfold maxLen at hcm
  have H := Lib.hid h
  clear h
  go_enter Tryz.func36, Tryz.ntmps36
  go_wp2_with fail
  go_loopw [3, 11] (fun sz ix wr => ∃ i k : Nat, i ≤ n ∧ k ≤ 1000000 ∧ sz = .int .i64 k ∧ ix = .int .i64 i ∧ Hid (cnt (rs.take i) = k) ∧ w = wr) (fun _ ix _ => n - (intOf ix).toNat)
  case atStart => exact ⟨0, 0, Nat.zero_le _, Nat.zero_le _, rfl, rfl, rfl, rfl⟩
  case round =>
    obtain ⟨i, k, hi, hk, rfl, rfl, HK, rfl⟩ := hrel
    by_cases hlt : i < n
    · obtain ⟨ad, rfl, hcell⟩ := H.out.1.at_ hlt
      obtain ⟨⟨B, m, bc, ss⟩, hx⟩ : ∃ x, rs[i]? = some x := ⟨rs[i], List.getElem?_eq_getElem (by omega)⟩
      have hp : (rs.map fun r => Value.slice r.1 r.2.1 r.2.2.1).getD i undef = .slice B m bc := by
        rw [List.getD_eq_getElem?_getD, List.getElem?_map, hx]; rfl
      rw [hp] at hcell
      have hfl := cnt_le rs (i + 1)
      have hkm : cnt (rs.take (i + 1)) = k + m := by rw [cnt_take hx, HK.out]
      have HKM := Lib.hid hkm
      have hkm4 : k + m ≤ 1000000 := by omega
      clear hp hfl hkm
      go_wp2_with fail
      go_roundw
      case rel => exact ⟨i + 1, k + m, by omega, by omega, by go_num, by go_num, HKM.out, trivial⟩
      case measure => simp [intOf]; omega
    · go_wp2_with fail
      refine (grow_post w k hk).mono ?_
      rintro e w1 ⟨v, rfl, ho, hb⟩
      have HO := Lib.hid ho
      have HB := Lib.hid hb
      have HR := Lib.hid (H.out.below hb)
      clear ho hb
      go_wp2_with fail
      go_loopw [6, 27] (fun out ix w2 => ∃ i : Nat, i ≤ n ∧ ix = .int .i64 i ∧ w2.ownsRow w.heap.size 41 2 out (cnt (rs.take i)) (flatC (rs.take i)) ∧ Below w.heap.size w w2) (fun _ ix _ => n - (intOf ix).toNat)
      case atStart => exact ⟨0, Nat.zero_le _, rfl, HO.out, HB.out⟩
      case round =>
        obtain ⟨j, hj, rfl, ho, hb⟩ := hrel
        have hbs := hb.size
        have HO2 := Lib.hid ho
        have HB2 := Lib.hid hb
        have HR2 := Lib.hid (H.out.below hb)
        clear ho hb
        by_cases hlt2 : j < n
        · obtain ⟨ad, rfl, hcell⟩ := HR2.out.1.at_ hlt2
          obtain ⟨⟨B, m, bc, ss⟩, hx⟩ : ∃ x, rs[j]? = some x := ⟨rs[j], List.getElem?_eq_getElem (by omega)⟩
          have hp : (rs.map fun r => Value.slice r.1 r.2.1 r.2.2.1).getD j undef = .slice B m bc := by
            rw [List.getD_eq_getElem?_getD, List.getElem?_map, hx]; rfl
          rw [hp] at hcell
          have HIN := Lib.hid (HR2.out.2 _ (List.mem_of_getElem? hx))
          have hfl := cnt_le rs (j + 1)
          have HCT := Lib.hid (cnt_take hx)
          have HFT := Lib.hid (flatC_take hx)
          have hkm : cnt (rs.take j) + m ≤ 1000000 := by have := HCT.out; simp only at this; omega
          clear hp hfl
          go_wp2_with (at_builtin; refine wpList_app_own _ rfl (.tmp 31) (.tmp 32) 35 rfl w.heap.size 41 (Value.agg #[.int .i64 0, .slice none 0 0]) 2 32 Tryz.underlying35 inf_post rfl (by decide) _ (cnt (rs.take j)) (flatC (rs.take j)) rfl HO2.out B m bc ss rfl HIN.out.1 HIN.out.2 (by unfold maxLen; omega) (by omega) hbs ?_)
          intro v' w3 ho3 _ hb3
          have HO3 := Lib.hid ho3
          have HB3 : Hid (Below w.heap.size w w3) := HB2.out.trans hb3
          clear ho3 hb3
          go_wp2_with fail
          go_roundw
          case rel =>
            refine ⟨j + 1, by omega, by go_num, ?_, HB3.out⟩
            rw [HCT.out, HFT.out]
            exact HO3.out
          case measure => simp [intOf]; omega
        · have ht : rs.take j = rs := List.take_of_length_le (by omega)
          have HT := Lib.hid ht
          clear ht
          go_wp2_with fail
          go_ret
          exact ⟨_, rfl, by have := HO2.out; rw [HT.out] at this; exact this, HB2.out⟩
end Trm
end Go.Proofs.YtfohollhdaedlaaGreatDoor
/- Terms: lists of terms as one: the walk of terms.Merge. -/
set_option linter.unusedVariables false
set_option linter.unusedSimpArgs false
set_option maxRecDepth 100000
namespace Go.Proofs.YtfohollhdaedlaaGreatDoor
open Go.RowKit
namespace Trm
/-- Postings that came in, or a row of the call's own; their spots came in. -/
def PX (w : World) (B : Nat) (wr : World) (v : Value) (ps : List PostM) : Prop :=
  ∃ vs : List MPost, vs.map (fun s => (s.1, s.2.2)) = ps ∧ (∀ s ∈ vs, RSpots w s.2.1 s.2.2) ∧ ((∃ A c, v = .slice A vs.length c ∧ IsSl w 2 A vs.length c (poCells vs)) ∨ wr.ownsRow B 41 2 v vs.length (poCells vs))
theorem PX.of_posts {w : World} {B : Nat} {wr : World} {v : Value} {ps : List PostM} (h : RPosts w v ps) : PX w B wr v ps := by
  obtain ⟨A, c, vs, h1, h2, h3, h4⟩ := h
  exact ⟨vs, h4, h3, .inl ⟨A, c, h1, h2⟩⟩
theorem PX.below {w : World} {B : Nat} {wr wr' : World} {v : Value} {ps : List PostM} (h : PX w B wr v ps) (hb : Below wr.heap.size wr wr') : PX w B wr' v ps := by
  obtain ⟨vs, h1, h2, h3⟩ := h
  exact ⟨vs, h1, h2, h3.imp id fun h => own_below h hb⟩
theorem PX.turn {w : World} {B : Nat} {wr wr' : World} {v u : Value} {ps : List PostM} {B' size n : Nat} {xs : List Value} (h : PX w B wr v ps) (ho : wr.ownsRow B' 37 size u n xs) (hg : wr.grownBy wr' u.ownBlock) : PX w B wr' v ps := by
  obtain ⟨vs, h1, h2, h3⟩ := h
  exact ⟨vs, h1, h2, h3.imp id fun h => own_other h ho hg (by decide)⟩
/-- How it is read. -/
theorem PX.sl {w : World} {B : Nat} {wr : World} {v : Value} {ps : List PostM} (h : PX w B wr v ps) (hb : Below w.heap.size w wr) : ∃ A c, ∃ vs : List MPost, v = .slice A vs.length c ∧ IsSl wr 2 A vs.length c (poCells vs) ∧ (∀ s ∈ vs, RSpots w s.2.1 s.2.2) ∧ vs.map (fun s => (s.1, s.2.2)) = ps := by
  obtain ⟨vs, h1, h2, h3⟩ := h
  rcases h3 with ⟨A, c, e, hs⟩ | h3
  · exact ⟨A, c, vs, e, hs.below hb, h2, h1⟩
  · obtain ⟨A, c, e, hs⟩ := own_form h3
    exact ⟨A, c, vs, e, hs, h2, h1⟩
theorem PX.posts {w : World} {B : Nat} {wr : World} {v : Value} {ps : List PostM} (h : PX w B wr v ps) (hb : Below w.heap.size w wr) : RPosts wr v ps := by
  obtain ⟨A, c, vs, h1, h2, h3, h4⟩ := h.sl hb
  exact ⟨A, c, vs, h1, h2, fun s hs => (h3 s hs).below hb, h4⟩
theorem poCells_one {w : World} : ∀ (vs : List MPost), (∀ s ∈ vs, RSpots w s.2.1 s.2.2) → ∀ u ∈ poCells vs, u.oneCell' = true := fun vs h u hu => by
  obtain ⟨s, hs, hx⟩ := List.mem_flatMap.1 hu
  obtain ⟨A, c, us, hv, _⟩ := h s hs
  simp only [List.mem_cons, List.not_mem_nil, or_false] at hx
  rcases hx with rfl | rfl
  · rfl
  · rw [hv]; rfl
theorem poCells_append (l m : List MPost) : poCells (l ++ m) = poCells l ++ poCells m := by simp [poCells]
theorem tmCells_last (ts : List MTerm) (y : MTerm) : (tmCells (ts ++ [y]))[ts.length * 2]? = some (.string y.1) ∧ (tmCells (ts ++ [y]))[ts.length * 2 + 1]? = some y.2.1 := by
  rw [tmCells_append, List.getElem?_append_right (by rw [tmCells_length]; exact Nat.le_refl _), List.getElem?_append_right (by rw [tmCells_length]; omega), tmCells_length, Nat.sub_self, show ts.length * 2 + 1 - ts.length * 2 = 1 by omega]
  exact ⟨rfl, rfl⟩
theorem tmCells_turn (ts : List MTerm) (y : MTerm) (u : Value) (ps : List PostM) : (tmCells (ts ++ [y])).set (ts.length * 2 + 1) u = tmCells (ts ++ [(y.1, u, ps)]) := by
  rw [tmCells_append, tmCells_append, List.set_append_right _ _ (by rw [tmCells_length]; omega), tmCells_length, show ts.length * 2 + 1 - ts.length * 2 = 1 by omega]
  rfl
set_option maxHeartbeats 16000000 in
theorem tmerge_calls (w : World) (A : Option Addr) (n c K : Nat) (ls : List (Value × List MTerm)) (hn : ls.length = n) (h : IsSl w 1 A n c (ls.map (·.1))) (hr : ∀ x ∈ ls, RT w x.1 x.2) (hp : ∀ x ∈ ls, ∀ s ∈ x.2, RPosts w s.2.1 s.2.2 ∧ s.2.2.length ≤ K)
    (hs : ∀ x ∈ ls, Can (x.2.map keyT)) (hT : left (ls.map (·.2)) ≤ 10000) (hK : K ≤ 90) (hn2 : n ≤ 10000) :
    Calls Tryz.prog 22 #[.slice A n c] w fun e w' => ∃ v ts M, e = .returned v ∧ w'.ownsRow w.heap.size 37 2 v ts.length (tmCells ts) ∧ TmOk w' ts M ∧ (Can M ∧ ∀ t, look M t = (ls.map fun x => x.2.map keyT).flatMap fun r => look r t) ∧ Below w.heap.size w w' := by
  have C := Lib.hid (smerge_calls w A n c ls hn h (fun x hx => ⟨hr x hx, fun s hs => by obtain ⟨PA, pc, vs, hv, _⟩ := (hp x hx s hs).1; exact ⟨PA, _, pc, hv⟩⟩) (fun x hx => by
    have h1 := (hs x hx).1
    rw [List.pairwise_map] at h1
    exact h1.imp fun h => sle_of_lt h) (by omega) (by omega))
  have HP := Lib.hid hp
  have HC := Lib.hid hs
  obtain ⟨i0, hi0, hy0, hy1, hy2⟩ := info_parts inf_term
  clear h hr hp hs hn
  go_enter Tryz.func22, Tryz.ntmps22
  go_wp2_with fail
  refine C.out.mono ?_
  rintro e w2 ⟨v0, o, rfl, ho, ⟨hpw, hfl⟩, hol, hb⟩
  obtain ⟨OA, oc, rfl, hsl⟩ := own_form ho
  have HB2 := Lib.hid hb
  have HSL := Lib.hid hsl
  have hoc := hsl.2.1
  have hom := hsl.2.2.1
  unfold maxLen at hom
  have HFL : Hid (∀ t, ((o.map keyT).filter fun e => decide (e.1 = t)) = (ls.map fun x => x.2.map keyT).flatMap fun r => r.filter fun e => decide (e.1 = t)) := fun t => by
    have h1 := congrArg (List.map keyT) (hfl t)
    rw [List.map_flatMap, List.flatMap_map] at h1
    rw [List.flatMap_map, List.filter_map]
    refine Eq.trans ?_ (h1.trans ?_)
    · rfl
    · congr 1
      funext x
      rw [List.filter_map]; rfl
  have HPW : Hid ((o.map keyT).Pairwise (fun a b => sle a.1 b.1)) := by rw [Hid, List.pairwise_map]; exact hpw
  have HOP : Hid (∀ s ∈ o, RPosts w s.2.1 s.2.2 ∧ s.2.2.length ≤ K) := fun s hs => by
    have h1 : s ∈ o.filter fun x => decide (x.1 = s.1) := List.mem_filter.2 ⟨hs, by simp⟩
    rw [hfl] at h1
    obtain ⟨r, hr, h2⟩ := List.mem_flatMap.1 h1
    obtain ⟨x, hx, rfl⟩ := List.mem_map.1 hr
    exact HP.out x hx s (List.mem_filter.1 h2).1
  have HDONE : Hid (∀ M, M = comb (o.map keyT) → Can M ∧ ∀ t, look M t = (ls.map fun x => x.2.map keyT).flatMap fun r => look r t) := fun M hM => by
    rw [hM]
    exact merged (fun r hr => by obtain ⟨x, hx, rfl⟩ := List.mem_map.1 hr; exact HC.out x hx) HPW.out HFL.out
  obtain ⟨m, hm⟩ : ∃ m, o.length = m := ⟨_, rfl⟩
  have HM := Lib.hid hm
  rw [hm] at HSL hoc hol ⊢
  obtain ⟨B2, hB2⟩ : ∃ B2, w2.heap.size = B2 := ⟨_, rfl⟩
  have HBB := Lib.hid hB2
  have hbs : w.heap.size ≤ B2 := by rw [← hB2]; exact hb.size
  clear ho hb hsl hfl hpw hm C
  go_wp2_with fail
  go_loopw [3, 10] (fun out ix wr => ∃ (i : Nat) (ts : List MTerm), i ≤ m ∧ ix = .int .i64 i ∧ Hid (wr.ownsRow B2 37 2 out ts.length (tmCells ts)) ∧ Hid (∀ s ∈ ts, PX w B2 wr s.2.1 s.2.2 ∧ s.2.2.length ≤ K * i) ∧ ts.length ≤ i ∧ Hid (ts.map keyT = comb ((o.map keyT).take i)) ∧ Hid (Below B2 w2 wr)) (fun _ ix _ => m - (intOf ix).toNat)
  case atStart => exact ⟨0, [], Nat.zero_le _, rfl, World.ownsRow_nil _ _ _ _, fun s hs => absurd hs List.not_mem_nil, Nat.le_refl _, rfl, Below.refl _ _⟩
  case round =>
    obtain ⟨i, ts, hi, rfl, HO, HTS, htl, HCM, HB⟩ := hrel
    have HBW : Hid (Below w2.heap.size w2 wr) := by rw [HBB.out]; exact HB.out
    have HBI := Lib.hid (below_next HB2.out HBW.out)
    by_cases hlt : i < m
    · obtain ⟨x, hx⟩ : ∃ x, o[i]? = some x := ⟨_, List.getElem?_eq_getElem (by rw [HM.out]; exact hlt)⟩
      obtain ⟨ab, ao, rfl, z0, z1⟩ := term_at (HSL.out.below HBW.out) hx
      obtain ⟨hxp, hxk⟩ := HOP.out x (List.mem_of_getElem? hx)
      have HCT := Lib.hid (comb_take (l := o.map keyT) (i := i) (x := keyT x) (by rw [List.getElem?_map, hx]; rfl))
      obtain ⟨xk, xv, xp⟩ := x
      simp only at z0 z1 hxp hxk
      have HXP := Lib.hid hxp
      obtain ⟨PA, pc, pvs, hpv, hps, hpi, hpm⟩ := hxp
      obtain ⟨pn, hpn⟩ : ∃ pn, pvs.length = pn := ⟨_, rfl⟩
      rw [hpn] at hpv hps
      subst hpv
      have HPS := Lib.hid hps
      have HPI := Lib.hid hpi
      have HPM := Lib.hid hpm
      have HPN := Lib.hid hpn
      have hwi : IntKind.i64.wrap ((i : Int) + 1) = (i : Int) + 1 := by rw [IntKind.wrap_i64]; omega
      obtain ⟨w4, hw4⟩ : ∃ w4, wr.alloc (.cells #[.string xk, .slice PA pn pc] 37) = w4 := ⟨_, rfl⟩
      have hb4 : Below wr.heap.size wr w4 := by rw [← hw4]; exact (Below.refl _ _).alloc (Nat.le_refl _) _
      have HBS := Lib.hid (show B2 ≤ wr.heap.size by have := HBW.out.size; omega)
      have HB4 := Lib.hid (HB.out.trans (hb4.mono HBS.out))
      have hx4 : w4.heap[wr.heap.size]? = some (.cells #[.string xk, .slice PA pn pc] 37 (0, 0)) := by rw [← hw4]; exact heap_alloc_new _ _
      have HO4 := Lib.hid (own_below HO.out hb4)
      have HT4 : Hid (∀ s ∈ ts, PX w B2 w4 s.2.1 s.2.2 ∧ s.2.2.length ≤ K * i) := fun s hs => ⟨(HTS.out s hs).1.below hb4, (HTS.out s hs).2⟩
      have HX4 := Lib.hid hx4
      have HW4 := Lib.hid hw4
      clear hx hps hpi hpm hpn hb4 hx4 hw4
      have hKi : K * (i + 1) = K * i + K := Nat.mul_succ K i
      rcases List.eq_nil_or_concat ts with rfl | ⟨r, y, rfl⟩
      · obtain ⟨A3, c3, rfl, _⟩ := own_form HO.out
        have Q0 : ∀ nn : After w4, nn.w.cell? ⟨wr.heap.size, 0, none⟩ = some (.string xk) := fun nn => nn.cell (by simp [World.cell?, HX4.out])
        have Q1 : ∀ nn : After w4, nn.w.cell? ⟨wr.heap.size, 1, none⟩ = some (.slice PA pn pc) := fun nn => nn.cell (by simp [World.cell?, HX4.out])
        simp only [List.length_nil] at HO HO4 ⊢
        go_upto_region 6 with fail
        rw [HW4.out]
        refine wp_region_after (by kernel_rfl) (by kernel_rfl) ?_
        repeat (go_big_quiet_step (first | (fail)))
        refine wpQuiet_nil ?_
        intro _ hw'
        obtain ⟨nq, hw''⟩ := hw'
        subst hw''
        obtain ⟨w5, hb5⟩ := nq
        have q0 := Q0 ⟨w5, hb5⟩
        have q1 := Q1 ⟨w5, hb5⟩
        simp only at q0 q1 ⊢
        have HO5 := Lib.hid (own_below HO4.out hb5)
        have HT5 : Hid (∀ s ∈ ([] : List MTerm), PX w B2 w5 s.2.1 s.2.2 ∧ s.2.2.length ≤ K * i) := fun s hs => absurd hs List.not_mem_nil
        have HB5 : Hid (Below B2 w2 w5) := HB4.out.trans (hb5.mono (Nat.le_trans HBS.out (by have := (Array.getElem?_eq_some_iff.1 HX4.out).1; omega)))
        clear hb5 Q0 Q1
        have HAL : Hid (Below w5.heap.size w5 (w5.alloc (.cells #[.string xk, .slice PA pn pc] 37))) := (Below.refl _ _).alloc (Nat.le_refl _) _
        have HSZ : Hid (B2 ≤ w5.heap.size) := by have h1 := HB5.out.size; have h2 := HBB.out; show _ ≤ _; omega
        go_wp2_with (at_builtin; go_loud (refine wpList_append_lies _ rfl (.tmp 44) (.tmp 46) 29 rfl B2 37 i0 (.agg #[.string { data := #[] }, .slice none 0 0]) 2 40 Tryz.underlying29 hi0 hy0 hy1 hy2 rfl (by decide) _ 0 (tmCells ([] : List MTerm)) rfl (own_below HO5.out HAL.out) ⟨w5.heap.size, 0, none⟩ 1 1 [.string xk, .slice PA pn pc] rfl rfl (World.news_of_block (cs := #[.string xk, .slice PA pn pc]) (t := 37) (fr := (0, 0)) (heap_alloc_new w5 _)) (by simp [Value.oneCell']) (by decide) (by unfold maxLen; omega) (by omega) (by have := HSZ.out; simp; omega) (w5.heap.size + 1) (by simp) ?_))
        rintro g6 cap6 w6 ho6 hg6 hat6 hlt6
        have HO6 := Lib.hid ho6
        have HT6 : Hid (∀ s ∈ ([] : List MTerm), PX w B2 w6 s.2.1 s.2.2 ∧ s.2.2.length ≤ K * i) := fun s hs => ⟨((HT5.out s hs).1.below HAL.out).turn (own_below HO5.out HAL.out) hg6, (HT5.out s hs).2⟩
        have HB6 : Hid (Below B2 w2 w6) := (HB5.out.trans (HAL.out.mono HSZ.out)).grown hg6 (by have := HSZ.out; have := HAL.out.size; omega) (fun k hk => (HO5.out.lt k hk).1)
        clear ho6 hg6 hat6 hlt6 q0 q1
        go_wp2_with fail
        go_roundw
        case rel => exact ⟨i + 1, ([] : List MTerm) ++ [(xk, .slice PA pn pc, xp)], by omega, by go_num, (by rw [List.length_append, List.length_singleton,  tmCells_append]; exact HO6.out), (fun s hs => by
          rcases List.mem_append.1 hs with hs | hs
          · exact ⟨(HT6.out s hs).1, by have := (HT6.out s hs).2; rw [hKi]; omega⟩
          · rw [List.mem_singleton.1 hs]
            exact ⟨PX.of_posts HXP.out, by show xp.length ≤ _; rw [hKi]; omega⟩), by rw [List.length_append, List.length_singleton]; omega, (by
          rw [HCT.out, ← HCM.out, List.map_append]
          rfl), HB6.out⟩
        case measure => simp [intOf]; omega
      · rw [List.concat_eq_append] at *
        obtain ⟨g, c3, rfl⟩ : ∃ g c3, u3 = .slice (some ⟨g, 0, none⟩) (r ++ [y]).length c3 := by
          rcases HO.out.2 with ⟨_, h0⟩ | ⟨g, cap, cur, hv, _⟩
          · simp at h0
          · exact ⟨g, cap, hv⟩
        obtain ⟨tn, htn⟩ : ∃ tn, (r ++ [y]).length = tn := ⟨_, rfl⟩
        have HTN := Lib.hid htn
        rw [htn] at HO HO4 htl ⊢
        obtain ⟨rn, hrn⟩ : ∃ rn, r.length = rn := ⟨_, rfl⟩
        have hrt : rn + 1 = tn := by rw [← htn, ← hrn]; simp
        obtain ⟨l0, l1⟩ := tmCells_last r y
        rw [hrn] at l0 l1
        have r0 := (HO4.out.cellAt (rn * 2) (by omega)).trans l0
        have r1 := (HO4.out.cellAt (rn * 2 + 1) (by omega)).trans l1
        obtain ⟨hyx, hyk⟩ := HT4.out y (by simp)
        obtain ⟨yk, yv, yp⟩ := y
        simp only at r0 r1 hyx hyk
        have HBI4 : Hid (Below w.heap.size w w4) := HB2.out.trans (HB4.out.mono hbs)
        obtain ⟨YA, yc, yvs, hyv, hys, hyi, hym⟩ := hyx.sl HBI4.out
        obtain ⟨yn, hyn⟩ : ∃ yn, yvs.length = yn := ⟨_, rfl⟩
        rw [hyn] at hyv hys
        subst hyv
        have HYS := Lib.hid hys
        have HYI := Lib.hid hyi
        have HYM := Lib.hid hym
        have HYN := Lib.hid hyn
        have HRN := Lib.hid hrn
        have Q0 : ∀ nn : After w4, nn.w.cell? ⟨wr.heap.size, 0, none⟩ = some (.string xk) := fun nn => nn.cell (by simp [World.cell?, HX4.out])
        have Q1 : ∀ nn : After w4, nn.w.cell? ⟨wr.heap.size, 1, none⟩ = some (.slice PA pn pc) := fun nn => nn.cell (by simp [World.cell?, HX4.out])
        have R0 : ∀ nn : After w4, nn.w.cell? ⟨g, rn * 2, none⟩ = some (.string yk) := fun nn => nn.cell r0
        have R1 : ∀ nn : After w4, nn.w.cell? ⟨g, rn * 2 + 1, none⟩ = some (.slice YA yn yc) := fun nn => nn.cell r1
        have hwm : IntKind.i64.wrap ((tn : Int) - 1) = (rn : Int) := by rw [IntKind.wrap_i64]; omega
        have htp : (0 : Int) < (tn : Int) := by omega
        have htN : 0 < tn := by omega
        have htd : decide (0 < tn) = true := by simp; omega
        have hrI : (rn : Int) < (tn : Int) := by omega
        have hrN : rn < tn := by omega
        clear hys hyi hym hyn hrn htn l0 l1 r0 r1
        by_cases hkk : yk = xk
        · have hse : (yk.toList == xk.toList) = true := by rw [hkk]; simp
          go_upto_region 6 with fail
          rw [HW4.out]
          refine wp_region_after (by kernel_rfl) (by kernel_rfl) ?_
          repeat (go_big_quiet_step (first | (fail)))
          refine wpQuiet_nil ?_
          intro _ hw'
          obtain ⟨nq, hw''⟩ := hw'
          subst hw''
          obtain ⟨w5, hb5⟩ := nq
          have q1 := Q1 ⟨w5, hb5⟩
          have r1 := R1 ⟨w5, hb5⟩
          simp only at q1 r1 ⊢
          have HO5 := Lib.hid (own_below HO4.out hb5)
          have HT5 : Hid (∀ s ∈ r ++ [(yk, .slice YA yn yc, yp)], PX w B2 w5 s.2.1 s.2.2 ∧ s.2.2.length ≤ K * i) := fun s hs => ⟨(HT4.out s hs).1.below hb5, (HT4.out s hs).2⟩
          have HB5 : Hid (Below B2 w2 w5) := HB4.out.trans (hb5.mono (Nat.le_trans HBS.out (by have := (Array.getElem?_eq_some_iff.1 HX4.out).1; omega)))
          have HBI5 : Hid (Below w.heap.size w w5) := HB2.out.trans (HB5.out.mono hbs)
          have HYS5 := Lib.hid (HYS.out.below hb5)
          clear hb5 Q0 Q1 R0 R1
          go_upto_region 7 with fail
          obtain ⟨q, hq⟩ : ∃ q, w5.heap.size = q := ⟨_, rfl⟩
          obtain ⟨w6, hw6⟩ : ∃ w6, (w5.alloc (.cells #[.slice YA yn yc, .slice PA pn pc] 35)).drew = w6 := ⟨_, rfl⟩
          have hb6 : Below w5.heap.size w5 w6 := by rw [← hw6]; exact ((Below.refl _ _).alloc (Nat.le_refl _) _).drew
          have hrows : IsRowsC w6 2 (some ⟨q, 0, none⟩) 2 2 [(YA, yn, yc, poCells yvs), (PA, pn, pc, poCells pvs)] := by
            refine ⟨?_, fun z hz => ?_⟩
            · have h1 := sl_lit w5 #[.slice YA yn yc, .slice PA pn pc] 35 2 rfl (by decide)
              rw [hq] at h1
              have h2 := h1.below ((Below.refl _ _).drew)
              rw [hw6] at h2
              exact h2
            · simp only [List.mem_cons, List.not_mem_nil, or_false] at hz
              rcases hz with rfl | rfl
              · exact ⟨HYS5.out.below hb6, poCells_one yvs HYI.out⟩
              · exact ⟨(HPS.out.below HBI5.out).below hb6, poCells_one pvs HPI.out⟩
          have hsum : cnt [((YA, yn, yc, poCells yvs) : Slice1), (PA, pn, pc, poCells pvs)] = yn + pn := by simp [cnt]
          have hflat : flatC [((YA, yn, yc, poCells yvs) : Slice1), (PA, pn, pc, poCells pvs)] = poCells (yvs ++ pvs) := by rw [poCells_append]; simp [flatC]
          have hyl : yn = yp.length := by have h1 := HYN.out; have h2 := HYM.out; rw [← h1, ← h2, List.length_map]
          have hpl : pn = xp.length := by have h1 := HPN.out; have h2 := HPM.out; rw [← h1, ← h2, List.length_map]
          have hki : K * i ≤ 90 * 10000 := Nat.mul_le_mul hK (by omega)
          have CC := Lib.hid (concat_post w6 _ 2 2 _ hrows (by rw [hsum]; omega))
          rw [hsum, hflat] at CC
          have HYL : Hid (yn + pn = (yvs ++ pvs).length ∧ (yp ++ xp).length ≤ K * (i + 1)) := ⟨by rw [List.length_append, HYN.out, HPN.out], by rw [List.length_append, hKi]; omega⟩
          have HB6 := Lib.hid hb6
          have HR6 := Lib.hid (cell_kept hb6 r1)
          have HO6 := Lib.hid (own_below HO5.out hb6)
          clear hb6 hrows hsum hflat hyl hpl hki
          go_cut [29] from 29 to 43 (fun v29 wx => ∃ W v', W = wx ∧ v29 = .slice (some ⟨g, 0, none⟩) tn c3 ∧ Hid (wx.ownsRow B2 37 2 (.slice (some ⟨g, 0, none⟩) tn c3) tn (tmCells (r ++ [(yk, v', yp ++ xp)]))) ∧ Hid (∀ s ∈ r ++ [(yk, v', yp ++ xp)], PX w B2 wx s.2.1 s.2.2 ∧ s.2.2.length ≤ K * (i + 1)) ∧ Hid (Below B2 w2 wx))
          case first =>
            go_region_law (first | (go_simp; go_at_call 36; refine CC.out.mono ?_; rintro e w7 ⟨v', rfl, ho7, hb7⟩; obtain ⟨CA, cc, rfl, _⟩ := own_form ho7; have r7 := cell_kept hb7 HR6.out; have f7 := (own_below HO6.out hb7).frozenAt (rn * 2 + 1); have HO7 := Lib.hid ho7; have HB7 := Lib.hid hb7; clear ho7 hb7))
            all_goals (
              go_wp2_with fail
              go_meet
              have hrow7 := own_below HO6.out HB7.out
              have hst := hrow7.stored (rn * 2 + 1) (.slice CA (yn + pn) cc)
              have h1 := hst.1
              rw [← HRN.out, tmCells_turn r (yk, .slice YA yn yc, yp) (.slice CA (yn + pn) cc) (yp ++ xp)] at h1
              have hsz6 : B2 ≤ w6.heap.size := by have e1 := HB5.out.size; have e2 := HBB.out; have e3 := HB6.out.size; omega
              refine ⟨_, .slice CA (yn + pn) cc, rfl, rfl, by rw [← HRN.out]; exact h1, fun s hs => ?_, ?_⟩
              · rcases List.mem_append.1 hs with hs | hs
                · refine ⟨(((HT5.out s (List.mem_append_left _ hs)).1.below HB6.out).below HB7.out).turn hrow7 (by exact hst.2), ?_⟩
                  have := (HT5.out s (List.mem_append_left _ hs)).2
                  rw [hKi]; omega
                · rw [List.mem_singleton.1 hs]
                  have h2 := HO7.out
                  rw [HYL.out.1] at h2
                  refine ⟨⟨yvs ++ pvs, by rw [List.map_append, HYM.out, HPM.out], fun z hz => ?_, .inr ?_⟩, HYL.out.2⟩
                  · rcases List.mem_append.1 hz with hz | hz
                    · exact HYI.out z hz
                    · exact HPI.out z hz
                  · have h3 := own_other (own_base h2 hsz6) hrow7 (by exact hst.2) (by decide)
                    rw [← HYL.out.1] at h3 ⊢
                    exact h3
              · exact ((HB5.out.trans (HB6.out.mono (by have e1 := HB5.out.size; have e2 := HBB.out; omega))).trans (HB7.out.mono hsz6)).grown hst.2 (by have := HB7.out.size; omega) (fun k hk => by
                  have e1 : g = k := by simpa using hk
                  rw [← e1]; exact (HO5.out.lt g rfl).1))
          case rest =>
            obtain ⟨wx, v', hwx, rfl, HO8, HT8, HB8⟩ := hcut
            subst hwx
            clear q1 r1 hw6
            go_wp2_with fail
            go_roundw
            case rel => exact ⟨i + 1, r ++ [(yk, v', yp ++ xp)], by omega, by go_num, (by rw [List.length_append, List.length_singleton, HRN.out, hrt]; exact HO8.out), HT8, by rw [List.length_append, List.length_singleton, HRN.out]; omega, (by
              rw [HCT.out, ← HCM.out, List.map_append, List.map_append, List.map_singleton, List.map_singleton, comb1_snoc, if_pos (show (keyT (yk, Value.slice YA yn yc, yp)).1 = (keyT (xk, Value.slice PA pn pc, xp)).1 from hkk)]; rfl), HB8⟩
            case measure => simp [intOf]; omega
        · have hse : (yk.toList == xk.toList) = false := by rw [toList_beq]; simp [hkk]
          go_upto_region 6 with fail
          rw [HW4.out]
          refine wp_region_after (by kernel_rfl) (by kernel_rfl) ?_
          repeat (go_big_quiet_step (first | (fail)))
          refine wpQuiet_nil ?_
          intro _ hw'
          obtain ⟨nq, hw''⟩ := hw'
          subst hw''
          obtain ⟨w5, hb5⟩ := nq
          have q0 := Q0 ⟨w5, hb5⟩
          have q1 := Q1 ⟨w5, hb5⟩
          simp only at q0 q1 ⊢
          have HO5 := Lib.hid (own_below HO4.out hb5)
          have HT5 : Hid (∀ s ∈ r ++ [(yk, .slice YA yn yc, yp)], PX w B2 w5 s.2.1 s.2.2 ∧ s.2.2.length ≤ K * i) := fun s hs => ⟨(HT4.out s hs).1.below hb5, (HT4.out s hs).2⟩
          have HB5 : Hid (Below B2 w2 w5) := HB4.out.trans (hb5.mono (Nat.le_trans HBS.out (by have := (Array.getElem?_eq_some_iff.1 HX4.out).1; omega)))
          clear hb5 Q0 Q1 R0 R1
          have HAL : Hid (Below w5.heap.size w5 (w5.alloc (.cells #[.string xk, .slice PA pn pc] 37))) := (Below.refl _ _).alloc (Nat.le_refl _) _
          have HSZ : Hid (B2 ≤ w5.heap.size) := by have h1 := HB5.out.size; have h2 := HBB.out; show _ ≤ _; omega
          go_wp2_with (at_builtin; go_loud (refine wpList_append_lies _ rfl (.tmp 44) (.tmp 46) 29 rfl B2 37 i0 (.agg #[.string { data := #[] }, .slice none 0 0]) 2 40 Tryz.underlying29 hi0 hy0 hy1 hy2 rfl (by decide) _ tn (tmCells (r ++ [(yk, .slice YA yn yc, yp)])) rfl (own_below HO5.out HAL.out) ⟨w5.heap.size, 0, none⟩ 1 1 [.string xk, .slice PA pn pc] rfl rfl (World.news_of_block (cs := #[.string xk, .slice PA pn pc]) (t := 37) (fr := (0, 0)) (heap_alloc_new w5 _)) (by simp [Value.oneCell']) (by decide) (by unfold maxLen; omega) (by omega) (by have := HSZ.out; simp; omega) (w5.heap.size + 1) (by simp) ?_))
          rintro g6 cap6 w6 ho6 hg6 hat6 hlt6
          have HO6 := Lib.hid ho6
          have HT6 : Hid (∀ s ∈ (r ++ [(yk, .slice YA yn yc, yp)]), PX w B2 w6 s.2.1 s.2.2 ∧ s.2.2.length ≤ K * i) := fun s hs => ⟨((HT5.out s hs).1.below HAL.out).turn (own_below HO5.out HAL.out) hg6, (HT5.out s hs).2⟩
          have HB6 : Hid (Below B2 w2 w6) := (HB5.out.trans (HAL.out.mono HSZ.out)).grown hg6 (by have := HSZ.out; have := HAL.out.size; omega) (fun k hk => (HO5.out.lt k hk).1)
          clear ho6 hg6 hat6 hlt6 q0 q1
          go_wp2_with fail
          go_roundw
          case rel => exact ⟨i + 1, (r ++ [(yk, .slice YA yn yc, yp)]) ++ [(xk, .slice PA pn pc, xp)], by omega, by go_num, (by rw [List.length_append, List.length_singleton, HTN.out, tmCells_append]; exact HO6.out), (fun s hs => by
            rcases List.mem_append.1 hs with hs | hs
            · exact ⟨(HT6.out s hs).1, by have := (HT6.out s hs).2; rw [hKi]; omega⟩
            · rw [List.mem_singleton.1 hs]
              exact ⟨PX.of_posts HXP.out, by show xp.length ≤ _; rw [hKi]; omega⟩), by rw [List.length_append, List.length_singleton, HTN.out]; omega, (by
            rw [HCT.out, ← HCM.out, List.map_append]
            rw [List.map_append, List.map_singleton, comb1_snoc, if_neg (show ¬ (keyT (yk, Value.slice YA yn yc, yp)).1 = (keyT (xk, Value.slice PA pn pc, xp)).1 from hkk)]; rfl), HB6.out⟩
          case measure => simp [intOf]; omega
    · obtain rfl : i = m := by omega
      have hta : (o.map keyT).take i = o.map keyT := List.take_of_length_le (by rw [List.length_map, HM.out]; exact Nat.le_refl _)
      have HME : Hid (ts.map keyT = comb (o.map keyT)) := by rw [Hid, HCM.out, hta]
      clear hta
      go_wp2_with fail
      go_ret
      exact ⟨_, ts, ts.map keyT, rfl, own_base HO.out hbs, ⟨fun s hs => (HTS.out s hs).1.posts HBI.out, rfl⟩, HDONE.out _ HME.out, HB2.out.trans (HB.out.mono hbs)⟩
end Trm
end Go.Proofs.YtfohollhdaedlaaGreatDoor
