/- Small laws of this claim's own, over any program: slices that are read, slices that a call owns, append, texts out of bytes. -/
import Derived.Test.YtfohollhdaedlaaGreatDoorLib
import Derived.ArgAppend
import Derived.Laws.AppendOwnNone
import Derived.Laws.BytesArg
set_option linter.unusedVariables false
set_option linter.unusedSimpArgs false
namespace Go.Proofs.YtfohollhdaedlaaGreatDoor
open Go.RowKit

theorem below_drews {w w1 : World} {n : Nat} (h : Below (w.drewN n).drew.heap.size (w.drewN n).drew w1) : Below w.heap.size w w1 := ⟨h.os, h.tape, h.output, h.size, h.block⟩
theorem below_drew1 {w w1 : World} (h : Below w.drew.heap.size w.drew w1) : Below w.heap.size w w1 := ⟨h.os, h.tape, h.output, h.size, h.block⟩
/-- A slice of n elements, 'size' cells each, reads as the cells l. -/
def IsSl (w : World) (size : Nat) (A : Option Addr) (n c : Nat) (l : List Value) : Prop :=
  l.length = n * size ∧ n ≤ c ∧ c ≤ maxLen ∧ (A = none → n = 0 ∧ c = 0) ∧ ∀ ad, A = some ad → ∀ j u, l[j]? = some u → w.cell? (ad.add j) = some u
theorem IsSl.below {w w' : World} {size : Nat} {A : Option Addr} {n c : Nat} {l : List Value} (h : IsSl w size A n c l) (hb : Below w.heap.size w w') : IsSl w' size A n c l := by
  obtain ⟨h1, h2, h3, h4, h5⟩ := h
  refine ⟨h1, h2, h3, h4, fun ad ha j u hu => ?_⟩
  have hc := h5 ad ha j u hu
  exact (hb.cell (World.block_lt_of_cell? w _ hc)).trans hc
theorem IsSl.full {w : World} {size : Nat} {A : Option Addr} {n c : Nat} {l : List Value} (h : IsSl w size A n c l) : IsSl w size A n n l :=
  ⟨h.1, Nat.le_refl _, Nat.le_trans h.2.1 h.2.2.1, fun a => ⟨(h.2.2.2.1 a).1, (h.2.2.2.1 a).1⟩, h.2.2.2.2⟩
theorem IsSl.alloc {w : World} {size : Nat} {A : Option Addr} {n c : Nat} {l : List Value} (h : IsSl w size A n c l) (o : Obj) : IsSl (w.alloc o) size A n c l := h.below ((Below.refl _ _).alloc (Nat.le_refl _) _)
theorem IsSl.at_ {w : World} {A : Option Addr} {n c : Nat} {l : List Value} (h : IsSl w 1 A n c l) {i : Nat} (hi : i < n) : ∃ ad, A = some ad ∧ w.cell? (ad.add i) = some (l.getD i undef) := by
  obtain ⟨h1, h2, h3, h4, h5⟩ := h
  cases A with
  | none => have := h4 rfl; omega
  | some ad =>
    refine ⟨ad, rfl, h5 ad rfl i _ ?_⟩
    rw [List.getD_eq_getElem?_getD, List.getElem?_eq_getElem (by omega)]; rfl
theorem grown_below {w w' : World} (h : Below w.heap.size w w') (row : Option Nat) : w.grownBy w' row := ⟨h.os, h.tape, h.output, h.size, fun k hk _ => h.block k hk⟩
theorem own_below {w w' : World} {base : Nat} {e : TypeId} {size n : Nat} {v : Value} {xs : List Value} (h : w.ownsRow base e size v n xs) (hb : Below w.heap.size w w') : w'.ownsRow base e size v n xs :=
  h.kept (grown_below hb none) (by cases v.ownBlock <;> simp)
theorem own_base {w : World} {base base' : Nat} {e : TypeId} {size n : Nat} {v : Value} {xs : List Value} (h : w.ownsRow base e size v n xs) (hb : base' ≤ base) : w.ownsRow base' e size v n xs := by
  refine ⟨h.1, ?_⟩
  rcases h.2 with hn | ⟨g, cap, cur, e1, e2, rest⟩
  · exact .inl hn
  · exact .inr ⟨g, cap, cur, e1, by omega, rest⟩
/-- An owned row is a slice that reads as its cells. -/
theorem own_form {w : World} {base : Nat} {e : TypeId} {size n : Nat} {v : Value} {xs : List Value} (h : w.ownsRow base e size v n xs) : ∃ A c, v = .slice A n c ∧ IsSl w size A n c xs := by
  rcases h.2 with ⟨rfl, rfl⟩ | ⟨g, cap, cur, rfl, hb, hg, h1, h2, h3, h4⟩
  · exact ⟨none, 0, rfl, h.1, by omega, by simp [maxLen], fun _ => ⟨rfl, rfl⟩, fun ad ha => by cases ha⟩
  · refine ⟨_, _, rfl, h.1, h1, h2, fun ha => (by cases ha), fun ad ha j u hu => ?_⟩
    obtain rfl := Option.some.inj ha
    exact h.cells (g := g) rfl j u hu
theorem own_lit (w : World) (cs : Array Value) (e : TypeId) (base n : Nat) (hn : cs.size = n) (hb : base ≤ w.heap.size) (hm : n ≤ maxLen) :
    (w.alloc (.cells cs e)).ownsRow base e 1 (.slice (some ⟨w.heap.size, 0, none⟩) n n) n cs.toList :=
  ⟨by simpa using hn, .inr ⟨_, n, cs, rfl, hb, heap_alloc_new w _, Nat.le_refl _, hm, by omega, by rw [List.take_of_length_le]; simp; omega⟩⟩
theorem sl_lit (w : World) (cs : Array Value) (e : TypeId) (n : Nat) (hn : cs.size = n) (hm : n ≤ maxLen) :
    IsSl (w.alloc (.cells cs e)) 1 (some ⟨w.heap.size, 0, none⟩) n n cs.toList := by
  obtain ⟨A, c, h, r⟩ := own_form (own_lit w cs e w.heap.size n hn (Nat.le_refl _) hm)
  injection h with h1 h2 h3
  subst h1 h3
  exact r

/-- append onto a row of the call's own, whatever is appended. -/
theorem wpList_app_own {P : Program} (w : World) {ops : Array Oper} {rest : List Oper} {o : Oper} {a : Act} {Q : Exit → Act → World → Prop}
    (hgd : o.guard = none) (s x : Operand) (t : TypeId) (ho : o.op = .call { callee := .builtin .append, args := #[s, x], argTypes := #[t, t] })
    (base : Nat) (e : TypeId) (z : Value) (size bytes : Nat) (ht : P.underlying t = some (.slice e)) (hinfo : (P.info? e).map (fun i => (i.zero, i.size, i.bytes)) = some (some z, size, bytes)) (hzs : z.cells.size = size) (hsz : 0 < size)
    (v : Value) (n : Nat) (xs : List Value) (hs : a.eval s = v) (hown : w.ownsRow base e size v n xs)
    (A : Option Addr) (m c : Nat) (ys : List Value) (hx : a.eval x = .slice A m c) (hsl : IsSl w size A m c ys) (h1 : ∀ u ∈ ys, u.oneCell' = true)
    (h63 : n + m ≤ maxLen) (hbytes : (n + m) * bytes ≤ 140737488355328) (hbase : base ≤ w.heap.size)
    (h : ∀ v' w', w'.ownsRow base e size v' (n + m) (xs ++ ys) → w.grownBy w' v.ownBlock → Below base w w' → wpList P ops Q rest (a.put o.dst v') w') : wpList P ops Q (o :: rest) a w := by
  obtain ⟨i, hi, hz, hsize, hby⟩ := info_parts hinfo
  cases A with
  | some ad =>
    refine wpList_append_own (w := w) hgd s x t ho base e i z size bytes ht hi hz hsize hby hzs hsz v n xs hs hown ad m c ys hx hsl.1 (hsl.2.2.2.2 ad rfl) h1 h63 hbytes hbase fun v' w' ho' hg _ => ?_
    exact h v' w' ho' hg ((Below.refl base w).grown hg hbase fun k hk => (hown.lt k hk).1)
  | none =>
    obtain ⟨rfl, rfl⟩ := hsl.2.2.2.1 rfl
    obtain rfl : ys = [] := List.eq_nil_of_length_eq_zero (by simpa using hsl.1)
    refine wpList_append_own_none hgd s x t ho base e i size ht hi v n xs hs hown hx ?_
    exact h v w (by simpa using hown) (grown_below (Below.refl _ _) _) (Below.refl _ _)

/-- append onto a slice that is full: a new row. -/
theorem wpList_app_full {P : Program} (w : World) {ops : Array Oper} {rest : List Oper} {o : Oper} {a : Act} {Q : Exit → Act → World → Prop}
    (hgd : o.guard = none) (s x : Operand) (t : TypeId) (ho : o.op = .call { callee := .builtin .append, args := #[s, x], argTypes := #[t, t] })
    (e : TypeId) (z : Value) (size bytes : Nat) (ht : P.underlying t = some (.slice e)) (hinfo : (P.info? e).map (fun i => (i.zero, i.size, i.bytes)) = some (some z, size, bytes)) (hzs : z.cells.size = size) (hsz : 0 < size)
    (S : Option Addr) (n cap : Nat) (xs : List Value) (hs : a.eval s = .slice S n cap) (hss : IsSl w size S n cap xs)
    (ad : Addr) (m c : Nat) (ys : List Value) (hx : a.eval x = .slice (some ad) m c) (hsl : IsSl w size (some ad) m c ys) (h1 : ∀ u ∈ ys, u.oneCell' = true)
    (hfull : cap < n + m) (h63 : n + m ≤ maxLen) (hbytes : (n + m) * bytes ≤ 140737488355328)
    (h : ∀ v' w', w'.ownsRow w.heap.size e size v' (n + m) (xs ++ ys) → Below w.heap.size w w' → wpList P ops Q rest (a.put o.dst v') w') : wpList P ops Q (o :: rest) a w := by
  obtain ⟨i, hi, hz, hsize, hby⟩ := info_parts hinfo
  refine wpList_append_grows (w := w) hgd s x t ho e i z size bytes ht hi hz hsize hby hzs hsz S n cap xs hs hss.2.2.2.1 hss.1 (fun b hb j u hu => hss.2.2.2.2 b hb j u hu) ad m c ys hx hsl.1 (hsl.2.2.2.2 ad rfl) h1 hfull h63 hbytes fun v' w' ho' hg => ?_
  exact h v' w' ho' ((Below.refl _ w).grown hg (Nat.le_refl _) fun k hk => by cases hk)

theorem bytes_one (bs : List Int) : ∀ u ∈ bs.map (Value.int .u8), u.oneCell' = true := by
  intro u hu
  obtain ⟨_, _, rfl⟩ := List.mem_map.1 hu
  rfl
/-- 'string(b)': the text of the bytes. -/
theorem run_str_of {P : Program} (w : World) (src dst e : TypeId) (hs : P.underlying src = some (.slice e)) (he : P.underlying e = some (.int .u8)) (hd : P.underlying dst = some .string)
    (A : Option Addr) (n c : Nat) (bs : List Int) (h : IsSl w 1 A n c (bs.map (.int .u8))) : (convert src dst (.slice A n c)).run P w = .ok (.string (strOfNums bs)) w := by
  obtain ⟨h1, h2, h3, h4, h5⟩ := h
  cases A with
  | none =>
    obtain ⟨rfl, rfl⟩ := h4 rfl
    obtain rfl : bs = [] := List.eq_nil_of_length_eq_zero (by simpa using h1)
    rw [run_convert_bytes_nil w src e hs he 0 0 dst hd]
    rfl
  | some ad =>
    have hl := run_loadCells_list (P := P) w ad (bs.map (Value.int .u8)) (h5 ad rfl)
    have hn : bs.length = n := by simpa using h1
    rw [List.length_map, hn] at hl
    rw [run_convert_bytes_string w src dst e _ n c hs he hd, run_bytesToString w _ n c bs hl, foldl_push_bytes]
    simp [strOfNums, ByteArray.empty, ByteArray.emptyWithCapacity]
    rfl
theorem wpList_str_of {P : Program} (w : World) {ops : Array Oper} {rest : List Oper} {o : Oper} {a : Act} {Q : Exit → Act → World → Prop}
    (hg : o.guard = none) (src dst e : TypeId) (x : Operand) (ho : o.op = .convert src dst x) (A : Option Addr) (n c : Nat) (bs : List Int) (hx : a.eval x = .slice A n c)
    (hs : P.underlying src = some (.slice e)) (he : P.underlying e = some (.int .u8)) (hd : P.underlying dst = some .string) (hb : IsSl w 1 A n c (bs.map (.int .u8)))
    (h : wpList P ops Q rest (a.put o.dst (.string (strOfNums bs))) w) : wpList P ops Q (o :: rest) a w := by
  refine wpList_plain hg fun K hK => ?_
  have hrun := run_str_of (P := P) w src dst e hs he hd A n c bs hb
  unfold Oper.wp
  simp [execOp, ho, hx, hrun, Result.andThen]
  exact hK _ _ h

/-- Bytes: numbers from 0 to 255. -/
def Byt (bs : List Int) : Prop := ∀ b ∈ bs, 0 ≤ b ∧ b < 256
theorem strOfNums_inj {xs ys : List Int} (hx : Byt xs) (hy : Byt ys) : ((strOfNums xs).toList == (strOfNums ys).toList) = decide (xs = ys) := by
  rw [ByteArray.toList_eq, ByteArray.toList_eq, strOfNums_data, strOfNums_data, Bool.eq_iff_iff, beq_iff_eq, decide_eq_true_iff]
  constructor
  · intro h
    induction xs generalizing ys with
    | nil => cases ys with
      | nil => rfl
      | cons y ys => simp at h
    | cons x xs ih => cases ys with
      | nil => simp at h
      | cons y ys =>
        simp only [List.map_cons, List.cons.injEq] at h
        have h1 := hx x (by simp)
        have h2 := hy y (by simp)
        have e : x = y := by
          have := congrArg UInt8.toNat h.1
          simp only [UInt8.toNat_ofNat'] at this
          omega
        rw [e, ih (fun b hb => hx b (by simp [hb])) (fun b hb => hy b (by simp [hb])) h.2]
  · intro h; rw [h]
/-- The bytes of a text. -/
def bytesOf (s : ByteArray) : List Int := s.data.toList.map fun b => (b.toNat : Int)
theorem bytesOf_byt (s : ByteArray) : Byt (bytesOf s) := by
  intro b hb
  obtain ⟨u, _, rfl⟩ := List.mem_map.1 hb
  have := u.toNat_lt; omega
theorem strOfNums_bytesOf (s : ByteArray) : strOfNums (bytesOf s) = s := by
  apply ByteArray.ext
  apply Array.ext'
  rw [strOfNums_data, bytesOf, List.map_map]
  conv => rhs; rw [← List.map_id s.data.toList]
  apply List.map_congr_left
  intro b _
  simp
theorem bytesOf_strOfNums {xs : List Int} (h : Byt xs) : bytesOf (strOfNums xs) = xs := by
  rw [bytesOf, strOfNums_data, List.map_map]
  conv => rhs; rw [← List.map_id xs]
  apply List.map_congr_left
  intro b hb
  have := h b hb
  simp; omega
theorem bytesOf_length (s : ByteArray) : (bytesOf s).length = s.size := by rw [bytesOf, List.length_map, Array.length_toList]; rfl
theorem bytesOf_get (s : ByteArray) (i : Nat) (h : i < s.size) : (bytesOf s)[i]? = some (byt s i) := by
  have h' : i < s.data.size := h
  have e : s[i]'h = s.data[i]'h' := rfl
  rw [bytesOf, List.getElem?_map, Array.getElem?_toList, Array.getElem?_eq_getElem h', byt, dif_pos h, e]
  rfl
theorem bytesOf_extract (s : ByteArray) (a b : Nat) : bytesOf (s.extract a b) = ((bytesOf s).drop a).take (b - a) := by
  simp only [bytesOf, ByteArray.data_extract, Array.toList_extract, List.extract_eq_take_drop]
  rw [List.map_take, List.map_drop]
theorem bytesOf_inj {s t : ByteArray} (h : bytesOf s = bytesOf t) : s = t := by
  rw [← strOfNums_bytesOf s, h, strOfNums_bytesOf]
theorem toList_beq (s t : ByteArray) : (s.toList == t.toList) = decide (s = t) := by
  rw [Bool.eq_iff_iff, beq_iff_eq, decide_eq_true_iff, ByteArray.toList_eq, ByteArray.toList_eq]
  constructor
  · intro h
    exact ByteArray.ext (Array.ext' h)
  · intro h; rw [h]
end Go.Proofs.YtfohollhdaedlaaGreatDoor
