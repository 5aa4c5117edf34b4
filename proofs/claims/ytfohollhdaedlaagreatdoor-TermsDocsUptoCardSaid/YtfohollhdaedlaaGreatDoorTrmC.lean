import Derived.Test.YtfohollhdaedlaaGreatDoorTrmB
import Derived.Laws.CopyRow
import Derived.Laws.IdiomCopy
import Derived.Laws.Externs
import Derived.Lib.Overlaps
import Derived.Lib.AppendZeros
import Derived.Lib.AppendZerosOnto
import Derived.Deep.RegionLaw
import Derived.Laws.OwnMore
/- Terms: slices.Insert of one entry into a row of the call's own. -/
set_option linter.unusedVariables false
set_option linter.unusedSimpArgs false
set_option maxRecDepth 100000
namespace Go.Proofs.YtfohollhdaedlaaGreatDoor
open Go.RowKit
namespace Trm
/-- Cells laid over a row's from a place on. -/
def putL (L : List Value) (o : Nat) (cs : List Value) : List Value := L.take o ++ cs ++ L.drop (o + cs.length)
theorem putL_length {L cs : List Value} {o : Nat} (h : o + cs.length ≤ L.length) : (putL L o cs).length = L.length := by
  unfold putL; simp; omega
theorem putL_take {L cs : List Value} {o : Nat} (h : o ≤ L.length) : (putL L o cs).take (o + cs.length) = L.take o ++ cs := by
  unfold putL
  rw [List.take_left' (by simp; omega)]
theorem putL_take0 {L cs : List Value} {o : Nat} (p : Nat) (h : o ≤ L.length) (hp : p ≤ o) : (putL L o cs).take p = L.take p := by
  unfold putL
  rw [List.append_assoc, List.take_append_of_le_length (by simp; omega), List.take_take, Nat.min_eq_left hp]
theorem putL_drop {L cs : List Value} {o : Nat} (h : o ≤ L.length) : (putL L o cs).drop o = cs ++ L.drop (o + cs.length) := by
  unfold putL
  rw [List.append_assoc, List.drop_left' (by simp; omega)]
/-- Up in place: what stood from a place on goes up, the new cells go in. -/
theorem ins_room {cur xs ab : List Value} {i n : Nat} (hc : cur.take (n * 2) = xs) (hx : xs.length = n * 2) (hl : n * 2 + 2 ≤ cur.length) (hab : ab.length = 2) (hi : i ≤ n) :
    (putL (putL cur (i * 2 + 2) (xs.drop (i * 2))) (i * 2) ab).take (n * 2 + 2) = xs.take (i * 2) ++ ab ++ xs.drop (i * 2) := by
  have hd : (xs.drop (i * 2)).length = n * 2 - i * 2 := by rw [List.length_drop, hx]
  have h1 : (putL cur (i * 2 + 2) (xs.drop (i * 2))).length = cur.length := putL_length (by rw [hd]; omega)
  have h2 : (putL cur (i * 2 + 2) (xs.drop (i * 2))).take (i * 2) = xs.take (i * 2) := by
    rw [putL_take0 (i * 2) (by omega) (by omega), ← hc, List.take_take, Nat.min_eq_left (by omega)]
  have h3 : (putL cur (i * 2 + 2) (xs.drop (i * 2))).drop (i * 2 + 2) = xs.drop (i * 2) ++ cur.drop (i * 2 + 2 + (xs.drop (i * 2)).length) := putL_drop (by omega)
  generalize putL cur (i * 2 + 2) (xs.drop (i * 2)) = c1 at *
  unfold putL
  rw [hab, h2, h3, ← List.append_assoc]
  exact List.take_left' (by rw [List.length_append, List.length_append, List.length_take, hab, hd, hx]; omega)
/-- In a new row. -/
theorem ins_new {row xs ab : List Value} {i n : Nat} (hc : row.take (i * 2) = xs.take (i * 2)) (hx : xs.length = n * 2) (hl : n * 2 + 2 ≤ row.length) (hab : ab.length = 2) (hi : i ≤ n) :
    (putL (putL row (i * 2) ab) (i * 2 + 2) (xs.drop (i * 2))).take (n * 2 + 2) = xs.take (i * 2) ++ ab ++ xs.drop (i * 2) := by
  have hd : (xs.drop (i * 2)).length = n * 2 - i * 2 := by rw [List.length_drop, hx]
  have h1 : (putL row (i * 2) ab).length = row.length := putL_length (by rw [hab]; omega)
  have h2 : (putL row (i * 2) ab).take (i * 2 + 2) = xs.take (i * 2) ++ ab := by
    have := putL_take (L := row) (cs := ab) (o := i * 2) (by omega)
    rw [hab] at this
    rw [this, hc]
  have h3 := putL_take (L := putL row (i * 2) ab) (cs := xs.drop (i * 2)) (o := i * 2 + 2) (by omega)
  rw [hd, show i * 2 + 2 + (n * 2 - i * 2) = n * 2 + 2 by omega, h2] at h3
  exact h3
/-- copy, where an element has k cells and the row that is written is known whole. -/
theorem run_copy_rowk {P : Program} (w : World) (dT sT ty elem : TypeId) (g o dLen dCap : Nat) (a : Addr) (sLen sCap k q : Nat) (cur : Array Value) (t : TypeId) (cs : List Value)
    (hu : P.underlying dT = some (.slice elem)) (hs : (P.info? elem).map (·.size) = some k) (hg : w.heap[g]? = some (.cells cur t (0, 0))) (hq : Nat.min sLen dLen = q) (hn : cs.length = q * k)
    (hsrc : ∀ j v, cs[j]? = some v → w.cell? (a.add j) = some v) (hfit : o + cs.length ≤ cur.size) (h1 : ∀ v ∈ cs, v.oneCell' = true) :
    (Builtin.copy_ #[dT, sT] ty #[.slice (some ⟨g, o, none⟩) dLen dCap, .slice (some a) sLen sCap]).run P w = .ok (goInt q) (w.setRow g (putL cur.toList o cs).toArray) := by
  have hl := run_loadCells_list (P := P) w a cs hsrc
  have hst := run_storeCells_at P g o t cs 0 cur w hg (by simpa using hfit) h1
  cases hq2 : P.info? elem with
  | none => simp [hq2] at hs
  | some i =>
    have hi : i.size = k := by simpa [hq2] using hs
    unfold putL
    simp only [Nat.add_zero] at hst
    simp [Builtin.copy_, run_underlying hu, Builtin.lenOf, Builtin.firstCells, sizeOf, typeInfo, hq2, hi, hq, ← hn, hl, hst]
theorem wpList_copy_run {P : Program} (w : World) {ops : Array Oper} {rest : List Oper} {o : Oper} {a : Act} {Q : Exit → Act → World → Prop} (hgd : o.guard = none) (d s : Operand) (t t' : TypeId)
    (ho : o.op = .call { callee := .builtin .copy, args := #[d, s], argTypes := #[t, t'] }) (v u : Value) (hd : a.eval d = v) (hs : a.eval s = u) {v' : Value} {w' : World}
    (hr : (Builtin.copy_ #[t, t'] o.type #[v, u]).run P w = .ok v' w') (h : wpList P ops Q rest (a.put o.dst v') w') : wpList P ops Q (o :: rest) a w := by
  refine wpList_plain hgd fun K hK => ?_
  unfold Oper.wp execOp
  simp only [ho, resolve, invoke, builtin, Sem.run_bind, Sem.run_pure, Result.andThen_ok, List.map_toArray, List.map_cons, List.map_nil, hd, hs, hr]
  exact hK _ _ h
theorem step_copy_run {P : Program} {ops : Array Oper} {o : Oper} {a : Act} {w : World} {K : Act → World → Prop} {Q : Exit → Act → World → Prop} {E : Prop}
    (hg : o.guard = none) (d x : Operand) (dT sT : TypeId) (hop : o.op = Op.call { callee := Callee.builtin Builtin.copy, args := #[d, x], argTypes := #[dT, sT] })
    (v u : Value) (hd : a.eval d = v) (hx : a.eval x = u) {v' : Value} {w' : World} (hr : (Builtin.copy_ #[dT, sT] o.type #[v, u]).run P w = .ok v' w') (hK : K (a.put o.dst v') w') :
    if Region.wanted o (yielded ops a.tmps) = true then Oper.wp P o a w K Q else E := by
  have hw : Region.wanted o (yielded ops a.tmps) = true := by simp [Region.wanted, hg]
  rw [if_pos hw]
  unfold Oper.wp
  simp [execOp, hop, resolve, invoke, builtin, hd, hx, hr, Result.andThen]
  exact hK
theorem inf_pair : (Tryz.prog.info? 74).map (fun i => (i.zero, i.size, i.bytes)) = some (some (.agg #[.string { data := #[] }, .slice none 0 0]), 2, 40) := by kernel_rfl
end Trm
end Go.Proofs.YtfohollhdaedlaaGreatDoor
/- Terms: slices.Insert of one entry into a row of the call's own: the walks. -/
set_option linter.unusedVariables false
set_option linter.unusedSimpArgs false
set_option maxRecDepth 100000
namespace Go.Proofs.YtfohollhdaedlaaGreatDoor
open Go.RowKit
namespace Trm
def InsP (B : Nat) (v : Value) (n : Nat) (xs : List Value) (i : Nat) (a b : Value) (w : World) (e : Ending) (w' : World) : Prop :=
  ∃ v', e = .returned v' ∧ w'.ownsRow B 74 2 v' (n + 1) (xs.take (i * 2) ++ [a, b] ++ xs.drop (i * 2)) ∧ w.grownBy w' v.ownBlock ∧ Below B w w'
theorem sl_pair {w : World} {vb : Nat} {a b : Value} {t : TypeId} (hvb : w.heap[vb]? = some (.cells #[a, b] t (0, 0))) : IsSl w 2 (some ⟨vb, 0, none⟩) 1 1 [a, b] := by
  refine ⟨rfl, Nat.le_refl _, by decide, fun h => (by cases h), fun ad had j u hu => ?_⟩
  obtain rfl := Option.some.inj had
  rw [Addr.add_lit, Nat.zero_add]
  simp only [World.cell?, hvb]
  simpa using hu
/-- At the end. -/
theorem ins_end (w : World) (B : Nat) (A : Option Addr) (n c : Nat) (xs : List Value) (ho : w.ownsRow B 74 2 (.slice A n c) n xs) (hn : n ≤ 1000000000) (vb : Nat) (a b : Value)
    (hvb : w.heap[vb]? = some (.cells #[a, b] 74 (0, 0))) (h1 : ∀ u ∈ [a, b], u.oneCell' = true) (hB : B ≤ w.heap.size) :
    Calls Tryz.prog 44 #[.slice A n c, .int .i64 n, .slice (some ⟨vb, 0, none⟩) 1 1] w (InsP B (.slice A n c) n xs n a b w) := by
  obtain ⟨A', c', hv, hsl⟩ := own_form ho
  injection hv with e1 _ e3
  subst e1 e3
  have hnc := hsl.2.1
  have hcm := hsl.2.2.1
  unfold maxLen at hcm
  have hnn : A = none → n = 0 ∧ c = 0 := hsl.2.2.2.1
  have HX : Hid (xs.take (n * 2) ++ [a, b] ++ xs.drop (n * 2) = xs ++ [a, b]) := by
    show _ = _
    rw [List.take_of_length_le (by rw [ho.1]; exact Nat.le_refl _), List.drop_eq_nil_of_le (by rw [ho.1]; exact Nat.le_refl _), List.append_nil]
  have HO := Lib.hid ho
  have HB := Lib.hid hB
  have HY := Lib.hid (sl_pair hvb)
  have H1 := Lib.hid h1
  clear ho hsl hvb h1 hB
  cases A with
  | none =>
    obtain ⟨rfl, rfl⟩ := hnn rfl
    clear hnn
    go_enter Tryz.func44, Tryz.ntmps44
    go_wp2_with (at_builtin; go_loud (refine wpList_app_own _ rfl (.tmp 23) (.tmp 24) 45 rfl B 74 (.agg #[.string { data := #[] }, .slice none 0 0]) 2 40 Tryz.underlying45 inf_pair rfl (by decide) (.slice none 0 0) 0 xs rfl HO.out (some ⟨vb, 0, none⟩) 1 1 [a, b] rfl HY.out H1.out (by unfold maxLen; omega) (by omega) HB.out ?_))
    intro v3 w3 ho3 hg3 hb3
    have HO3 := Lib.hid ho3
    have HG3 := Lib.hid hg3
    have HB3 := Lib.hid hb3
    clear ho3 hg3 hb3
    go_wp2_with fail
    go_ret
    exact ⟨_, rfl, by rw [HX.out]; exact HO3.out, HG3.out, HB3.out⟩
  | some ad =>
    clear hnn
    by_cases hcn : c = n
    · subst hcn
      go_enter Tryz.func44, Tryz.ntmps44
      go_wp2_with (at_builtin; go_loud (refine wpList_app_own _ rfl (.tmp 23) (.tmp 24) 45 rfl B 74 (.agg #[.string { data := #[] }, .slice none 0 0]) 2 40 Tryz.underlying45 inf_pair rfl (by decide) (.slice (some ad) c c) c xs rfl HO.out (some ⟨vb, 0, none⟩) 1 1 [a, b] rfl HY.out H1.out (by unfold maxLen; omega) (by omega) HB.out ?_))
      intro v3 w3 ho3 hg3 hb3
      have HO3 := Lib.hid ho3
      have HG3 := Lib.hid hg3
      have HB3 := Lib.hid hb3
      clear ho3 hg3 hb3
      go_wp2_with fail
      go_ret
      exact ⟨_, rfl, by rw [HX.out]; exact HO3.out, HG3.out, HB3.out⟩
    · have hcn2 : n < c := by omega
      go_enter Tryz.func44, Tryz.ntmps44
      go_wp2_with (at_builtin; go_loud (refine wpList_app_own _ rfl (.tmp 23) (.tmp 24) 45 rfl B 74 (.agg #[.string { data := #[] }, .slice none 0 0]) 2 40 Tryz.underlying45 inf_pair rfl (by decide) (.slice (some ad) n c) n xs rfl HO.out (some ⟨vb, 0, none⟩) 1 1 [a, b] rfl HY.out H1.out (by unfold maxLen; omega) (by omega) HB.out ?_))
      intro v3 w3 ho3 hg3 hb3
      have HO3 := Lib.hid ho3
      have HG3 := Lib.hid hg3
      have HB3 := Lib.hid hb3
      clear ho3 hg3 hb3
      go_wp2_with fail
      go_ret
      exact ⟨_, rfl, by rw [HX.out]; exact HO3.out, HG3.out, HB3.out⟩
end Trm
end Go.Proofs.YtfohollhdaedlaaGreatDoor
/- Terms: slices.Insert of one entry into a row of the call's own, where there is no room. -/
set_option linter.unusedVariables false
set_option linter.unusedSimpArgs false
set_option maxRecDepth 100000
namespace Go.Proofs.YtfohollhdaedlaaGreatDoor
open Go.RowKit
namespace Trm
set_option maxHeartbeats 8000000 in
theorem ins_grow (w : World) (B g n c i : Nat) (xs : List Value) (ho : w.ownsRow B 74 2 (.slice (some ⟨g, 0, none⟩) n c) n xs) (hn : n ≤ 1000000000) (hi : i < n) (hc : c < n + 1) (vb : Nat) (a b : Value)
    (hvb : w.heap[vb]? = some (.cells #[a, b] 74 (0, 0))) (h1 : ∀ u ∈ [a, b], u.oneCell' = true) (hx1 : ∀ u ∈ xs, u.oneCell' = true) (hB : B ≤ w.heap.size) :
    Calls Tryz.prog 44 #[.slice (some ⟨g, 0, none⟩) n c, .int .i64 i, .slice (some ⟨vb, 0, none⟩) 1 1] w (InsP B (.slice (some ⟨g, 0, none⟩) n c) n xs i a b w) := by
  obtain ⟨A', c', hv, hsl⟩ := own_form ho
  injection hv with e1 _ e3
  subst e1 e3
  have hnc := hsl.2.1
  have hxl : xs.length = n * 2 := ho.1
  have hgw : g < w.heap.size := (ho.lt g rfl).2
  have hvw : vb < w.heap.size := (Array.getElem?_eq_some_iff.1 hvb).1
  obtain ⟨i0, hi0, hz0, hz1, hz2⟩ := info_parts inf_pair
  have hkk : (n : Int) + 1 - (i : Int) = ((n + 1 - i : Nat) : Int) := by omega
  have hold : (Builtin.firstCells i0.size i (.slice (some ⟨g, 0, none⟩) i c)).run Tryz.prog w.drew = .ok (xs.take (i * 2)).toArray w.drew := by
    rw [hz1]
    refine run_firstCells_some w.drew 2 i ⟨g, 0, none⟩ i c (xs.take (i * 2)) (by rw [List.length_take, hxl]; omega) fun j u hj => ?_
    rw [List.getElem?_take] at hj
    split at hj
    · exact hsl.2.2.2.2 _ rfl j u hj
    · cases hj
  obtain ⟨G, hG⟩ : ∃ G, G = grownCap w (n + 1) c 74 := ⟨_, rfl⟩
  obtain ⟨ROW, hROW⟩ : ∃ ROW : Array Value, ROW = (xs.take (i * 2)).toArray ++ Builtin.zeroCells (Value.agg #[.string { data := #[] }, .slice none 0 0]).cells (n + 1 - i) ++ Builtin.zeroCells (Value.agg #[.string { data := #[] }, .slice none 0 0]).cells (G - (n + 1)) := ⟨_, rfl⟩
  obtain ⟨N, hN⟩ : ∃ N, w.heap.size = N := ⟨_, rfl⟩
  obtain ⟨W1, hW1⟩ : ∃ W1, W1 = w.drew.alloc (.cells ROW 74) := ⟨_, rfl⟩
  have hrz : ∀ ty, (Builtin.append_ #[45, 3] ty #[.slice (some ⟨g, 0, none⟩) i c, .int .i64 ((n : Int) + 1 - (i : Int))]).run Tryz.prog w = .ok (.slice (some ⟨N, 0, none⟩) (n + 1) G) W1 := fun ty => by
    have h := Lib.run_append_grow_zeros (P := Tryz.prog) w 45 3 ty 74 i0 _ .i64 .i64 Tryz.underlying45 Tryz.underlying3 hi0 hz0 (some ⟨g, 0, none⟩) i c (xs.take (i * 2)) hold (n + 1 - i) (by omega) (by rw [hz1]; decide) (by omega) (by omega) (by rw [hz2]; omega) (by rw [hz2, show i + (n + 1 - i) = n + 1 by omega]; exact growslice_fits hc (by omega))
    rw [show i + (n + 1 - i) = n + 1 by omega, ← hG, ← hROW, ← hW1, hN] at h
    rw [hkk]
    exact h
  have hGn : n + 1 ≤ G := by rw [hG]; exact grownCap_ge w _ _ _
  have hGm : G ≤ maxLen := by rw [hG]; exact grownCap_le_maxLen w (n + 1) c _ (by unfold maxLen; omega)
  have hRsz : ROW.size = G * 2 := by
    rw [hROW]
    simp [Builtin.zeroCells, Value.cells, hxl]
    omega
  have hRt : ROW.toList.take (i * 2) = xs.take (i * 2) := by
    rw [hROW]
    simp only [Array.toList_append, List.append_assoc]
    exact List.take_left' (by rw [List.length_take, hxl]; omega)
  have hW1N : W1.heap[N]? = some (.cells ROW 74 (0, 0)) := by rw [hW1, ← hN]; exact heap_alloc_new w.drew _
  have hb1 : Below w.heap.size w W1 := by rw [hW1]; exact ((Below.refl _ w).drew).alloc (Nat.le_refl _) _
  have hab : ([a, b] : List Value).length = 1 * 2 := rfl
  obtain ⟨R2, hR2⟩ : ∃ R2, putL ROW.toList (i * 2) [a, b] = R2 := ⟨_, rfl⟩
  have hR2l : R2.length = G * 2 := by rw [← hR2, putL_length (by simp; omega)]; simpa using hRsz
  obtain ⟨W2, hW2⟩ : ∃ W2, W1.setRow N R2.toArray = W2 := ⟨_, rfl⟩
  have hcpA : ∀ ty dc, (Builtin.copy_ #[45, 45] ty #[.slice (some ⟨N, i * 2, none⟩) (n + 1 - i) dc, .slice (some ⟨vb, 0, none⟩) 1 1]).run Tryz.prog W1 = .ok (goInt 1) W2 := fun ty dc => by
    rw [← hW2, ← hR2]
    exact run_copy_rowk W1 _ _ ty 74 N (i * 2) (n + 1 - i) dc ⟨vb, 0, none⟩ 1 1 2 1 ROW 74 [a, b] Tryz.underlying45 (by rw [hi0]; simp [hz1]) hW1N (by simp only [Nat.min_def]; split <;> omega) hab
      (fun j u hu => (sl_pair ((hb1.block vb hvw).trans hvb)).2.2.2.2 _ rfl j u hu) (by simp; omega) h1
  have hW2N : W2.heap[N]? = some (.cells R2.toArray 74 (0, 0)) := by rw [← hW2]; exact setRow_heap W1 N ROW _ _ _ hW1N
  have hW2o : ∀ k, k ≠ N → W2.heap[k]? = W1.heap[k]? := fun k hk => by rw [← hW2]; exact setRow_other W1 N k _ hk
  obtain ⟨D, hD⟩ : ∃ D, xs.drop (i * 2) = D := ⟨_, rfl⟩
  have hDl : D.length = (n - i) * 2 := by rw [← hD, List.length_drop, hxl]; omega
  obtain ⟨R3, hR3⟩ : ∃ R3, putL R2 (i * 2 + 2) D = R3 := ⟨_, rfl⟩
  obtain ⟨W3, hW3⟩ : ∃ W3, W2.drew.setRow N R3.toArray = W3 := ⟨_, rfl⟩
  have hcpB : ∀ ty dc sc, (Builtin.copy_ #[45, 45] ty #[.slice (some ⟨N, (i + 1) * 2, none⟩) (n + 1 - (i + 1)) dc, .slice (some ⟨g, i * 2, none⟩) (n - i) sc]).run Tryz.prog W2.drew = .ok (goInt ((n - i : Nat) : Int)) W3 := fun ty dc sc => by
    rw [← hW3, ← hR3, show (i + 1) * 2 = i * 2 + 2 by omega]
    have h := run_copy_rowk (P := Tryz.prog) W2.drew 45 45 ty 74 N (i * 2 + 2) (n + 1 - (i + 1)) dc ⟨g, i * 2, none⟩ (n - i) sc 2 (n - i) R2.toArray 74 D Tryz.underlying45 (by rw [hi0]; simp [hz1]) hW2N (by simp only [Nat.min_def]; split <;> omega) hDl
      (fun j u hu => by
        rw [← hD, List.getElem?_drop] at hu
        have h1 := hsl.2.2.2.2 _ rfl _ u hu
        rw [Addr.add_lit, Nat.zero_add] at h1
        rw [Addr.add_lit]
        refine Eq.trans ?_ h1
        show W2.cell? _ = _
        rw [World.cell?_of_block (a := ⟨g, i * 2 + j, none⟩) ((hW2o g (by omega)).trans (hb1.block g hgw))])
      (by rw [hDl]; simp; omega) (fun u hu => hx1 u (by rw [← hD] at hu; exact List.mem_of_mem_drop hu))
    exact h
  have hW3N : W3.heap[N]? = some (.cells R3.toArray 74 (0, 0)) := by rw [← hW3]; exact setRow_heap W2.drew N R2.toArray _ _ _ hW2N
  have hW3o : ∀ k, k ≠ N → W3.heap[k]? = W2.heap[k]? := fun k hk => by rw [← hW3]; exact setRow_other W2.drew N k _ hk
  have hR3t : R3.take ((n + 1) * 2) = xs.take (i * 2) ++ [a, b] ++ D := by
    rw [← hR3, ← hR2, ← hD, show (n + 1) * 2 = n * 2 + 2 by omega]
    exact ins_new hRt hxl (by simp; omega) rfl (by omega)
  have hR3l : R3.length = G * 2 := by rw [← hR3, putL_length (by rw [hDl, hR2l]; omega), hR2l]
  have hsz3 : w.heap.size ≤ W3.heap.size := by
    have h1 : W2.heap.size = W1.heap.size := by rw [← hW2]; simp [World.setRow]
    have h2 : W3.heap.size = W2.heap.size := by rw [← hW3]; simp [World.setRow]
    have := hb1.size
    omega
  have hgr : Below w.heap.size w W3 := by
    refine ⟨?_, ?_, ?_, hsz3, fun k hk => ?_⟩
    · rw [← hW3, ← hW2]; exact hb1.os
    · rw [← hW3, ← hW2]; exact hb1.tape
    · rw [← hW3, ← hW2]; exact hb1.output
    · rw [hW3o k (by omega), hW2o k (by omega)]; exact hb1.block k hk
  have HF : Hid (InsP B (.slice (some ⟨g, 0, none⟩) n c) n xs i a b w (.returned (.slice (some ⟨N, 0, none⟩) (n + 1) G)) W3) := by
    refine ⟨_, rfl, ⟨?_, .inr ⟨N, G, R3.toArray, rfl, by omega, hW3N, hGn, hGm, by simpa using hR3l, ?_⟩⟩, grown_below hgr _, hgr.mono hB⟩
    · rw [hD, List.length_append, List.length_append, List.length_take, hxl, hDl]; simp; omega
    · rw [hD]; exact hR3t
  have hGi : ¬ (G = i) := by omega
  have hGi1 : ¬ (G = i + 1) := by omega
  have hci : ¬ (c = i) := by omega
  have hw1 : IntKind.i64.wrap ((i : Int) + 1) = (i : Int) + 1 := by rw [IntKind.wrap_i64]; omega
  have hb2 : (0 : Int) ≤ (i : Int) + 1 := by omega
  have htn : ((i : Int) + 1).toNat = i + 1 := by omega
  have hin : (i : Int) ≤ n := by omega
  have hin2 : ((i : Int) == n) = false := by simp; omega
  have hcn : (c : Int) < (n : Int) + 1 := by omega
  have hic : i ≤ c := by omega
  have hic2 : (i : Int) ≤ c := by omega
  have hin3 : i ≤ n := by omega
  have hin4 : i ≤ n + 1 := by omega
  have hin5 : i + 1 ≤ n + 1 := by omega
  have hGm' : G ≤ 9223372036854775807 := by unfold maxLen at hGm; omega
  have HA := Lib.hid hcpA
  have HBB := Lib.hid hcpB
  have HZ := Lib.hid hrz
  clear hsl ho hnc hxl hgw hvw hi0 hz0 hz1 hz2 hkk hold hG hROW hN hW1 hrz hRsz hRt hW1N hb1 hab hR2 hR2l hW2 hcpA hW2N hW2o hD hDl hR3 hW3 hcpB hW3N hW3o hR3t hR3l hsz3 hgr hvb h1 hx1 hB hGm
  go_enter Tryz.func44, Tryz.ntmps44
  go_wp2_with (first
    | (at_builtin; refine Lib.wpList_append_run _ rfl _ _ _ _ rfl _ _ rfl rfl _ _ (HZ.out _) ?_)
    | (with_reducible refine wpList_copy_run _ rfl (.tmp 43) (.tmp 44) 45 45 rfl _ _ rfl rfl (HA.out _ _) ?_))
  go_region_law (refine step_copy_run rfl (.tmp 50) (.tmp 53) 45 45 rfl (.slice (some ⟨N, (i + 1) * 2, none⟩) (n + 1 - (i + 1)) (G - (i + 1))) (.slice (some ⟨g, i * 2, none⟩) (n - i) (c - i)) (by simp [Act.eval, Act.put]) (by simp [Act.eval, Act.put]) (HBB.out _ (G - (i + 1)) (c - i)) ?_)
  all_goals (
    go_wp2_with fail
    go_ret
    exact HF.out)
end Trm
end Go.Proofs.YtfohollhdaedlaaGreatDoor
/- Terms: slices.Insert of one entry into a row of the call's own, where there is room. -/
set_option linter.unusedVariables false
set_option linter.unusedSimpArgs false
set_option maxRecDepth 100000
namespace Go.Proofs.YtfohollhdaedlaaGreatDoor
open Go.RowKit
namespace Trm
theorem size_pair (w : World) : (Go.sizeOf 74).run Tryz.prog w = .ok 2 w := by
  obtain ⟨i0, hi0, hz0, hz1, hz2⟩ := info_parts inf_pair
  simp [sizeOf, typeInfo, hi0, hz1]
set_option maxHeartbeats 8000000 in
theorem ins_room_calls (w : World) (B g n c i : Nat) (xs : List Value) (ho : w.ownsRow B 74 2 (.slice (some ⟨g, 0, none⟩) n c) n xs) (hn : n ≤ 1000000000) (hi : i < n) (hc : n + 1 ≤ c) (vb : Nat) (a b : Value)
    (hvb : w.heap[vb]? = some (.cells #[a, b] 74 (0, 0))) (hne : vb ≠ g) (h1 : ∀ u ∈ [a, b], u.oneCell' = true) (hx1 : ∀ u ∈ xs, u.oneCell' = true) (hB : B ≤ w.heap.size) :
    Calls Tryz.prog 44 #[.slice (some ⟨g, 0, none⟩) n c, .int .i64 i, .slice (some ⟨vb, 0, none⟩) 1 1] w (InsP B (.slice (some ⟨g, 0, none⟩) n c) n xs i a b w) := by
  have hxl : xs.length = n * 2 := ho.1
  obtain ⟨cur, hBg, hgc, hcm, hcs, hct⟩ : ∃ cur : Array Value, B ≤ g ∧ w.heap[g]? = some (.cells cur 74 (0, 0)) ∧ c ≤ maxLen ∧ cur.size = c * 2 ∧ cur.toList.take (n * 2) = xs := by
    rcases ho.2 with ⟨h, _⟩ | ⟨g', cap, cur, hv, hb, hg, _, h2, h3, h4⟩
    · cases h
    · injection hv with e1 _ e3
      injection e1 with e1
      injection e1 with e1
      subst e1 e3
      exact ⟨cur, hb, hg, h2, h3, h4⟩
  have hgw : g < w.heap.size := (Array.getElem?_eq_some_iff.1 hgc).1
  have hvw : vb < w.heap.size := (Array.getElem?_eq_some_iff.1 hvb).1
  obtain ⟨i0, hi0, hz0, hz1, hz2⟩ := info_parts inf_pair
  have hov : ∀ lb cb, (callFunc 65 #[.slice (some ⟨vb, 0, none⟩) 1 1, .slice (some ⟨g, (i + 1) * 2, none⟩) lb cb]).run Tryz.prog w = .ok (.value (.bool false)) w := fun lb cb => by
    rw [run_callFunc_extern Tryz.func65 (by kernel_rfl) (by kernel_rfl) (by kernel_rfl) (e := Extern.SlicesOverlaps.overlaps #[45, 45] #[4]) (by kernel_rfl),
      Lib.run_overlaps_apart w 45 4 74 Tryz.underlying45 2 size_pair ⟨vb, 0, none⟩ ⟨g, (i + 1) * 2, none⟩ 1 1 lb cb hne 74 74 2 (c * 2)
        (by simp [World.shape?, hvb]) (by simp [World.shape?, hgc, hcs]) (by omega) (by simp [World.frozen?, hvb]) (by simp [World.frozen?, hvb])]
    rfl
  obtain ⟨D, hD⟩ : ∃ D, xs.drop (i * 2) = D := ⟨_, rfl⟩
  have hDl : D.length = (n - i) * 2 := by rw [← hD, List.length_drop, hxl]; omega
  obtain ⟨R1, hR1⟩ : ∃ R1, putL cur.toList (i * 2 + 2) D = R1 := ⟨_, rfl⟩
  have hR1l : R1.length = c * 2 := by rw [← hR1, putL_length (by rw [hDl]; simp [hcs]; omega)]; simpa using hcs
  obtain ⟨W1, hW1⟩ : ∃ W1, w.drew.setRow g R1.toArray = W1 := ⟨_, rfl⟩
  have hsrc : ∀ j u, D[j]? = some u → w.drew.cell? ((⟨g, i * 2, none⟩ : Addr).add j) = some u := fun j u hu => by
    rw [Addr.add_lit]
    have h2 := (List.getElem?_eq_some_iff.1 hu).1
    rw [← hD, List.getElem?_drop, ← hct, List.getElem?_take] at hu
    split at hu
    · show w.cell? _ = _
      simp only [World.cell?, hgc]
      simpa using hu
    · cases hu
  have hcpA : ∀ ty dc sc, (Builtin.copy_ #[45, 45] ty #[.slice (some ⟨g, (i + 1) * 2, none⟩) (n + 1 - (i + 1)) dc, .slice (some ⟨g, i * 2, none⟩) (n + 1 - i) sc]).run Tryz.prog w.drew = .ok (goInt ((n - i : Nat) : Int)) W1 := fun ty dc sc => by
    rw [← hW1, ← hR1, show (i + 1) * 2 = i * 2 + 2 by omega]
    exact run_copy_rowk (P := Tryz.prog) w.drew 45 45 ty 74 g (i * 2 + 2) (n + 1 - (i + 1)) dc ⟨g, i * 2, none⟩ (n + 1 - i) sc 2 (n - i) cur 74 D Tryz.underlying45 (by rw [hi0]; simp [hz1]) hgc (by simp only [Nat.min_def]; split <;> omega) hDl hsrc (by rw [hDl, hcs]; omega) (fun u hu => hx1 u (by rw [← hD] at hu; exact List.mem_of_mem_drop hu))
  have hW1g : W1.heap[g]? = some (.cells R1.toArray 74 (0, 0)) := by rw [← hW1]; exact setRow_heap w.drew g cur _ _ _ hgc
  have hW1o : ∀ k, k ≠ g → W1.heap[k]? = w.heap[k]? := fun k hk => by rw [← hW1]; exact setRow_other w.drew g k _ hk
  obtain ⟨R2, hR2⟩ : ∃ R2, putL R1 (i * 2) [a, b] = R2 := ⟨_, rfl⟩
  have hR2l : R2.length = c * 2 := by rw [← hR2, putL_length (by rw [hR1l]; simp; omega), hR1l]
  have hR2t : R2.take ((n + 1) * 2) = xs.take (i * 2) ++ [a, b] ++ D := by
    rw [← hR2, ← hR1, ← hD, show (n + 1) * 2 = n * 2 + 2 by omega]
    exact ins_room hct hxl (by simp [hcs]; omega) rfl (by omega)
  have hcpB : ∀ (W : World), W.heap = W1.heap → ∀ ty dc, (Builtin.copy_ #[45, 45] ty #[.slice (some ⟨g, i * 2, none⟩) (n + 1 - i) dc, .slice (some ⟨vb, 0, none⟩) 1 1]).run Tryz.prog W = .ok (goInt 1) (W.setRow g R2.toArray) := fun W hW ty dc => by
    rw [← hR2]
    exact run_copy_rowk (P := Tryz.prog) W 45 45 ty 74 g (i * 2) (n + 1 - i) dc ⟨vb, 0, none⟩ 1 1 2 1 R1.toArray 74 [a, b] Tryz.underlying45 (by rw [hi0]; simp [hz1]) (by rw [hW]; exact hW1g) (by simp only [Nat.min_def]; split <;> omega) rfl
      (fun j u hu => (sl_pair (w := W) (by rw [hW, hW1o vb hne]; exact hvb)).2.2.2.2 _ rfl j u hu) (by simp; omega) h1
  have HF : Hid (∀ (W : World), W.heap = W1.heap → W.os = w.os → W.tape = w.tape → W.output = w.output → InsP B (.slice (some ⟨g, 0, none⟩) n c) n xs i a b w (.returned (.slice (some ⟨g, 0, none⟩) (n + 1) c)) (W.setRow g R2.toArray)) := fun W hW ho2 ht2 hp2 => by
    have h2 : (W.setRow g R2.toArray).heap[g]? = some (.cells R2.toArray 74 (0, 0)) := setRow_heap W g R1.toArray _ _ _ (by rw [hW]; exact hW1g)
    have h3 : ∀ k, k ≠ g → (W.setRow g R2.toArray).heap[k]? = w.heap[k]? := fun k hk => by rw [setRow_other W g k _ hk, hW]; exact hW1o k hk
    have h4 : (W.setRow g R2.toArray).heap.size = w.heap.size := by
      have h5 : W1.heap.size = w.heap.size := by rw [← hW1]; simp [World.setRow]
      simp [World.setRow, hW, h5]
    refine ⟨_, rfl, ⟨?_, .inr ⟨g, c, R2.toArray, rfl, hBg, h2, hc, hcm, by simpa using hR2l, ?_⟩⟩, ⟨ho2, ht2, hp2, by rw [h4]; exact Nat.le_refl _, fun k hk hkn => h3 k (fun e => hkn (by rw [e]; rfl))⟩, ⟨ho2, ht2, hp2, by rw [h4]; exact Nat.le_refl _, fun k hk => h3 k (by omega)⟩⟩
    · rw [hD, List.length_append, List.length_append, List.length_take, hxl, hDl]; simp; omega
    · rw [hD]; exact hR2t
  have hW1f : W1.os = w.os ∧ W1.tape = w.tape ∧ W1.output = w.output := by rw [← hW1]; exact ⟨rfl, rfl, rfl⟩
  have HW1 := Lib.hid hW1f
  have hci : ¬ (c = i) := by omega
  have hci1 : ¬ (c = i + 1) := by omega
  have hw1 : IntKind.i64.wrap ((i : Int) + 1) = (i : Int) + 1 := by rw [IntKind.wrap_i64]; omega
  have hb2 : (0 : Int) ≤ (i : Int) + 1 := by omega
  have htn : ((i : Int) + 1).toNat = i + 1 := by omega
  have htn2 : ((n : Int) + 1).toNat = n + 1 := by omega
  have hin : (i : Int) ≤ n := by omega
  have hin2 : ((i : Int) == n) = false := by simp; omega
  have hcn : ¬ (c : Int) < (n : Int) + 1 := by omega
  have hic : i ≤ c := by omega
  have hin3 : i ≤ n := by omega
  have hin4 : i ≤ n + 1 := by omega
  have hin5 : i + 1 ≤ n + 1 := by omega
  have hin6 : (i : Int) ≤ (n : Int) + 1 := by omega
  have hcm' : c ≤ 9223372036854775807 := by unfold maxLen at hcm; omega
  have HA := Lib.hid hcpA
  have HBB := Lib.hid hcpB
  clear ho hxl hBg hgc hcm hcs hct hgw hvw hi0 hz0 hz1 hz2 hD hDl hR1 hR1l hW1 hsrc hcpA hW1g hW1o hR2 hR2l hR2t hcpB hW1f hvb hne h1 hx1 hB
  go_enter Tryz.func44, Tryz.ntmps44
  go_wp2_with (simp only [hov])
  go_region_law (refine step_copy_run rfl (.tmp 73) (.tmp 76) 45 45 rfl (.slice (some ⟨g, (i + 1) * 2, none⟩) (n + 1 - (i + 1)) (c - (i + 1))) (.slice (some ⟨g, i * 2, none⟩) (n + 1 - i) (c - i)) (by simp [Act.eval, Act.put]) (by simp [Act.eval, Act.put]) (HA.out _ (c - (i + 1)) (c - i)) ?_)
  all_goals (
    go_wp2_with (with_reducible refine wpList_copy_run _ rfl (.tmp 80) (.tmp 81) 45 45 rfl _ _ rfl rfl (HBB.out _ rfl _ _) ?_)
    go_ret
    exact HF.out _ rfl HW1.out.1 HW1.out.2.1 HW1.out.2.2)
end Trm
end Go.Proofs.YtfohollhdaedlaaGreatDoor
/- Terms: something is put by a key of a table. -/
set_option linter.unusedVariables false
set_option linter.unusedSimpArgs false
set_option maxRecDepth 100000
namespace Go.Proofs.YtfohollhdaedlaaGreatDoor
open Go.RowKit
namespace Trm
theorem ins_calls (w : World) (B : Nat) (A : Option Addr) (n c i : Nat) (xs : List Value) (ho : w.ownsRow B 74 2 (.slice A n c) n xs) (hn : n ≤ 1000000000) (hi : i ≤ n) (vb : Nat) (a b : Value)
    (hvb : w.heap[vb]? = some (.cells #[a, b] 74 (0, 0))) (hne : (Value.slice A n c).ownBlock ≠ some vb) (h1 : ∀ u ∈ [a, b], u.oneCell' = true) (hx1 : ∀ u ∈ xs, u.oneCell' = true) (hB : B ≤ w.heap.size) :
    Calls Tryz.prog 44 #[.slice A n c, .int .i64 i, .slice (some ⟨vb, 0, none⟩) 1 1] w (InsP B (.slice A n c) n xs i a b w) := by
  by_cases e : i = n
  · subst e
    exact ins_end w B A i c xs ho hn vb a b hvb h1 hB
  · have hAg : ∃ g, A = some ⟨g, 0, none⟩ := by
      rcases ho.2 with ⟨h, h0⟩ | ⟨g, cap, cur, hv, _⟩
      · omega
      · injection hv with e1 _ _
        exact ⟨g, e1⟩
    obtain ⟨g, rfl⟩ := hAg
    by_cases hc : c < n + 1
    · exact ins_grow w B g n c i xs ho hn (by omega) hc vb a b hvb h1 hx1 hB
    · exact ins_room_calls w B g n c i xs ho hn (by omega) (by omega) vb a b hvb (fun e => hne (by rw [e]; rfl)) h1 hx1 hB
/-- Something is put by a key. -/
def putE (t : ByteArray) (v : Value) : List Ent → List Ent
  | [] => [(t, v)]
  | x :: l => if slt x.1 t = true then x :: putE t v l else if x.1 = t then (t, v) :: l else (t, v) :: x :: l
theorem putE_mem {t : ByteArray} {v : Value} {y : Ent} : ∀ {l : List Ent}, y ∈ putE t v l → y ∈ l ∨ y = (t, v)
  | [], h => .inr (by simpa [putE] using h)
  | x :: l, h => by
    unfold putE at h
    split at h
    · rcases List.mem_cons.1 h with rfl | h
      · exact .inl (List.mem_cons_self ..)
      · rcases putE_mem h with h | h
        · exact .inl (List.mem_cons_of_mem _ h)
        · exact .inr h
    · split at h
      · rcases List.mem_cons.1 h with h | h
        · exact .inr h
        · exact .inl (List.mem_cons_of_mem _ h)
      · rcases List.mem_cons.1 h with h | h
        · exact .inr h
        · exact .inl h
theorem Srt.cons {x : Ent} {l : List Ent} : Srt (x :: l) ↔ (∀ y ∈ l, slt x.1 y.1 = true) ∧ Srt l := by
  constructor
  · intro h
    refine ⟨fun y hy => ?_, fun i j a b hij ha hb => h (i + 1) (j + 1) a b (by omega) (by simpa using ha) (by simpa using hb)⟩
    obtain ⟨j, hj⟩ := List.mem_iff_getElem?.1 hy
    exact h 0 (j + 1) x y (by omega) rfl (by simpa using hj)
  · rintro ⟨h1, h2⟩ i j a b hij ha hb
    cases j with
    | zero => omega
    | succ j =>
      cases i with
      | zero =>
        obtain rfl : x = a := by simpa using ha
        exact h1 b (List.mem_of_getElem? (by simpa using hb))
      | succ i => exact h2 i j a b (by omega) (by simpa using ha) (by simpa using hb)
theorem putE_srt (t : ByteArray) (v : Value) : ∀ (l : List Ent), Srt l → Srt (putE t v l)
  | [], _ => Srt.cons.2 ⟨fun y hy => absurd hy List.not_mem_nil, fun i j a b _ ha => by simp at ha⟩
  | x :: l, h => by
    obtain ⟨h1, h2⟩ := Srt.cons.1 h
    unfold putE
    split
    · rename_i hx
      refine Srt.cons.2 ⟨fun y hy => ?_, putE_srt t v l h2⟩
      rcases putE_mem hy with hy | rfl
      · exact h1 y hy
      · exact hx
    · rename_i hx
      split
      · rename_i he
        exact Srt.cons.2 ⟨fun y hy => by rw [← he]; exact h1 y hy, h2⟩
      · rename_i he
        have hlt : slt t x.1 = true := slt_total (by simpa using hx) he
        refine Srt.cons.2 ⟨fun y hy => ?_, h⟩
        rcases List.mem_cons.1 hy with rfl | hy
        · exact hlt
        · exact slt_trans hlt (h1 y hy)
theorem Place.tail {x : Ent} {l : List Ent} {t : ByteArray} {i : Nat} (h : Place (x :: l) t (i + 1)) : slt x.1 t = true ∧ Place l t i :=
  ⟨h.2.1 0 x (by omega) rfl, by have := h.1; simp at this; omega, fun j y hj hy => h.2.1 (j + 1) y (by omega) (by simpa using hy), fun j y hj hy => h.2.2 (j + 1) y (by omega) (by simpa using hy)⟩
theorem putE_new (t : ByteArray) (v : Value) : ∀ (l : List Ent) (i : Nat), Place l t i → here l t i = false → l.take i ++ (t, v) :: l.drop i = putE t v l
  | [], i, hp, _ => by
    obtain rfl : i = 0 := by have := hp.1; simpa using this
    rfl
  | x :: l, 0, hp, hh => by
    have h1 := hp.2.2 0 x (Nat.le_refl _) rfl
    have h2 : x.1 ≠ t := fun e => by
      unfold here at hh
      simp [e] at hh
    show (t, v) :: x :: l = _
    unfold putE
    rw [if_neg (by rw [h1]; decide), if_neg h2]
  | x :: l, i + 1, hp, hh => by
    obtain ⟨h1, h2⟩ := hp.tail
    have h3 : here l t i = false := by
      unfold here at hh ⊢
      simpa using hh
    show x :: (l.take i ++ (t, v) :: l.drop i) = _
    rw [putE_new t v l i h2 h3]
    conv => rhs; unfold putE
    rw [if_pos h1]
theorem putE_old (t : ByteArray) (v : Value) : ∀ (l : List Ent) (i : Nat), Place l t i → here l t i = true → l.set i (t, v) = putE t v l
  | [], i, _, hh => by
    unfold here at hh
    simp at hh
  | x :: l, 0, hp, hh => by
    have h1 := hp.2.2 0 x (Nat.le_refl _) rfl
    have h2 : x.1 = t := by
      unfold here at hh
      simpa using hh
    show (t, v) :: l = _
    unfold putE
    rw [if_neg (by rw [h1]; decide), if_pos h2]
  | x :: l, i + 1, hp, hh => by
    obtain ⟨h1, h2⟩ := hp.tail
    have h3 : here l t i = true := by
      unfold here at hh ⊢
      simpa using hh
    show x :: l.set i (t, v) = _
    rw [putE_old t v l i h2 h3]
    conv => rhs; unfold putE
    rw [if_pos h1]
/-- All blocks but the table's and rows of entries stay. -/
def KeptT (b : Nat) (w w' : World) : Prop := ∀ (k : Nat) (o : Obj), w.heap[k]? = some o → k ≠ b → (∀ cs fr, o ≠ .cells cs 74 fr) → w'.heap[k]? = some o
theorem KeptT.trans {b : Nat} {w w1 w2 : World} (h : KeptT b w w1) (h' : KeptT b w1 w2) : KeptT b w w2 := fun k o ho hk hd => h' k o (h k o ho hk hd) hk hd
theorem KeptT.of_below (b : Nat) {w w' : World} (h : Below w.heap.size w w') : KeptT b w w' := fun k o ho _ _ => (h.block k (Array.getElem?_eq_some_iff.1 ho).1).trans ho
theorem grown_cell {W : World} {n i : Nat} (x : Value) : W.grownBy (W.setCell ⟨n, i, none⟩ x) (some n) :=
  ⟨rfl, rfl, rfl, by simp, fun k hk hne => Below.heap_setCell _ ⟨n, i, none⟩ x k (fun e => hne (by rw [e]))⟩
theorem KeptT.set (b i : Nat) (w : World) (x : Value) : KeptT b w (w.setCell ⟨b, i, none⟩ x) := fun k o ho hk _ => ((grown_cell (W := w) (n := b) (i := i) x).block k (Array.getElem?_eq_some_iff.1 ho).1 (fun e => hk (Option.some.inj e))).trans ho
theorem KeptT.row {b B n size : Nat} {w w' : World} {v : Value} {xs : List Value} (h : w.ownsRow B 74 size v n xs) (hg : w.grownBy w' v.ownBlock) : KeptT b w w' := fun k o ho hk hd => by
  refine (hg.block k (Array.getElem?_eq_some_iff.1 ho).1 fun e => ?_).trans ho
  rcases h.2 with ⟨rfl, _⟩ | ⟨g, cap, cur, rfl, _, hg, _⟩
  · cases e
  · have h2 : k = g := Option.some.inj e
    subst h2
    rw [hg] at ho
    exact hd _ _ (Option.some.inj ho).symm
theorem own_ne {w : World} {base size n b : Nat} {e e' : TypeId} {v : Value} {xs : List Value} {c : Array Value} {fr : Nat × Nat} (h : w.ownsRow base e size v n xs) (hb : w.heap[b]? = some (.cells c e' fr)) (hne : e' ≠ e) : some b ≠ v.ownBlock := by
  rcases h.2 with ⟨rfl, _⟩ | ⟨g, cap, cur, rfl, _, hg, _⟩
  · intro h; cases h
  · intro h
    have h2 : b = g := Option.some.inj h
    subst h2
    rw [hg] at hb
    injection hb with hb
    injection hb with h3 h4 h5
    exact hne h4.symm
theorem heap_set1 {W : World} {n : Nat} {a x : Value} {t : TypeId} (h : W.heap[n]? = some (.cells #[a] t (0, 0))) : (W.setCell ⟨n, 0, none⟩ x).heap[n]? = some (.cells #[x] t (0, 0)) := by
  obtain ⟨hn, he⟩ := Array.getElem?_eq_some_iff.1 h
  simp [World.setCell, hn, he, Array.getElem_modify]
def PutP (B b : Nat) (l : List Ent) (t : ByteArray) (v : Value) (w : World) (e : Ending) (w' : World) : Prop :=
  ∃ r u, e = .returned (.bool r) ∧ IsTab B b u (putE t v l) w' ∧ Below B w w' ∧ KeptT b w w'
theorem pCells_set : ∀ (l : List Ent) (i : Nat) (t : ByteArray) (v : Value), l[i]?.map (·.1) = some t → (pCells l).set (i * 2 + 1) v = pCells (l.set i (t, v))
  | [], i, t, v, h => by simp at h
  | x :: l, 0, t, v, h => by
    obtain rfl : x.1 = t := by simpa using h
    rfl
  | x :: l, i + 1, t, v, h => by
    have := pCells_set l i t v (by simpa using h)
    show (Value.string x.1 :: x.2 :: pCells l).set ((i + 1) * 2 + 1) v = .string x.1 :: x.2 :: pCells (l.set i (t, v))
    rw [show (i + 1) * 2 + 1 = (i * 2 + 1) + 1 + 1 by omega, List.set_cons_succ, List.set_cons_succ, this]
theorem pCells_ins (l : List Ent) (i : Nat) (t : ByteArray) (v : Value) : (pCells l).take (i * 2) ++ [.string t, v] ++ (pCells l).drop (i * 2) = pCells (l.take i ++ (t, v) :: l.drop i) := by
  have h : ∀ (l : List Ent) (i : Nat), (pCells l).take (i * 2) = pCells (l.take i) ∧ (pCells l).drop (i * 2) = pCells (l.drop i) := by
    intro l
    induction l with
    | nil => intro i; simp [pCells]
    | cons x l ih =>
      intro i
      cases i with
      | zero => exact ⟨rfl, rfl⟩
      | succ i =>
        obtain ⟨h1, h2⟩ := ih i
        have e : pCells (x :: l) = .string x.1 :: x.2 :: pCells l := rfl
        rw [e, show (i + 1) * 2 = i * 2 + 1 + 1 by omega, List.take_succ_cons, List.take_succ_cons, List.drop_succ_cons, List.drop_succ_cons, h1, h2]
        exact ⟨rfl, rfl⟩
  rw [(h l i).1, (h l i).2, List.append_assoc, pCells_append]; rfl
end Trm
end Go.Proofs.YtfohollhdaedlaaGreatDoor
/- Terms: something is put by a key of a table: the walk. -/
set_option linter.unusedVariables false
set_option linter.unusedSimpArgs false
set_option maxRecDepth 100000
namespace Go.Proofs.YtfohollhdaedlaaGreatDoor
open Go.RowKit
namespace Trm
set_option maxHeartbeats 8000000 in
theorem put_calls {B b : Nat} {v : Value} {l : List Ent} {w : World} (h : IsTab B b v l w) (hn : l.length ≤ 100000000) (hv1 : ∀ x ∈ l, x.2.oneCell' = true) (t : ByteArray) (VA : Option Addr) (vn vc : Nat) :
    Calls Tryz.prog 30 #[.pointer (some ⟨b, 0, none⟩), .string t, .slice VA vn vc] w (PutP B b l t (.slice VA vn vc) w) := by
  have H := Lib.hid h
  have C := Lib.hid (seek_calls h (by omega) t)
  have HB0 : Hid (B ≤ w.heap.size) := by have := h.le; have := h.lt; show _ ≤ _; omega
  have HV := Lib.hid hv1
  clear h hv1
  go_enter Tryz.func30, Tryz.ntmps30
  go_wp2_with fail
  refine C.out.mono ?_
  rintro e w2 ⟨i, hp, rfl, hb⟩
  have HB := Lib.hid hb
  have HP := Lib.hid hp
  have HT := Lib.hid (H.out.below hb)
  have HPS := Lib.hid (putE_srt t (.slice VA vn vc) l H.out.srt)
  obtain ⟨A, c, rfl, hsl⟩ := own_form HT.out.row
  obtain ⟨x0, x1⟩ := thead HT.out.head
  obtain ⟨n, hnl⟩ : ∃ n, l.length = n := ⟨_, rfl⟩
  have HN := Lib.hid hnl
  have hin := hp.1
  have HRW := Lib.hid HT.out.row
  rw [hnl] at hn hin x0 HRW
  cases hh : here l t i
  · have HE := Lib.hid (putE_new t (.slice VA vn vc) l i hp hh)
    have hal : Below w2.heap.size w2 (w2.alloc (.cells #[.string t, .slice VA vn vc] 74)) := (Below.refl _ _).alloc (Nat.le_refl _) _
    have HAL := Lib.hid hal
    have HX := Lib.hid (heap_alloc_new w2 (.cells #[.string t, .slice VA vn vc] 74))
    have HRA := Lib.hid (own_below HRW.out hal)
    have CI := Lib.hid (ins_calls (w2.alloc (.cells #[.string t, .slice VA vn vc] 74)) B A n c i (pCells l) HRA.out (by omega) hin w2.heap.size (.string t) (.slice VA vn vc) HX.out
      (fun e => by have := (HRW.out.lt _ e).2; omega) (by simp [Value.oneCell']) (fun u hu => by
        obtain ⟨x, hx, hu⟩ := List.mem_flatMap.1 hu
        simp only [List.mem_cons, List.mem_nil_iff, or_false] at hu
        rcases hu with rfl | rfl
        · rfl
        · exact HV.out x hx) (by have := HB0.out; have := hb.size; simp; omega))
    clear C hp hb hh hsl hal hnl
    go_wp2_with fail
    refine CI.out.mono ?_
    rintro e w3 ⟨v3, rfl, ho3, hg3, hb3⟩
    obtain ⟨A3, c3, rfl, _⟩ := own_form ho3
    have h3 := (hg3.block b (by have := HT.out.lt; simp; omega) (fun e => own_ne HRW.out HT.out.head (by decide) e)).trans ((HAL.out.block b HT.out.lt).trans HT.out.head)
    obtain ⟨y0, y1⟩ := thead h3
    have H3 := Lib.hid h3
    have HO3 := Lib.hid ho3
    have HG3 := Lib.hid hg3
    have HB3 := Lib.hid hb3
    clear CI ho3 hg3 hb3 h3 x0 x1
    go_wp2_with fail
    go_ret
    have hne := own_ne HO3.out H3.out (by decide)
    refine ⟨true, .slice A3 (n + 1) c3, rfl, ⟨H.out.le, HPS.out, heap_set1 H3.out, ?_⟩, ?_, ?_⟩
    · have hl2 : (putE t (.slice VA vn vc) l).length = n + 1 := by
        rw [← HE.out, List.length_append, List.length_cons, List.length_take, List.length_drop, HN.out]; omega
      rw [hl2, ← HE.out, ← pCells_ins]
      exact HO3.out.kept (grown_cell (n := b) (i := 0) _) (.inr fun e => hne e.symm)
    · exact ((HB.out.mono HB0.out).trans ((HAL.out.mono (by have := HB0.out; have := HB.out.size; omega)).trans HB3.out)).setCell (p := ⟨b, 0, none⟩) H.out.le _
    · exact (((KeptT.of_below b HB.out).trans (KeptT.of_below b HAL.out)).trans (KeptT.row HRA.out HG3.out)).trans (KeptT.set b 0 _ _)
  · have HE := Lib.hid (putE_old t (.slice VA vn vc) l i hp hh)
    have hmp : l[i]?.map (·.1) = some t := by
      unfold here at hh
      exact of_decide_eq_true hh
    have hil : i < n := by
      obtain ⟨x, hx, _⟩ := here_yes hh
      have := (List.getElem?_eq_some_iff.1 hx).1
      omega
    have hil' : (i : Int) < n := by omega
    obtain ⟨g, rfl⟩ : ∃ g, A = some ⟨g, 0, none⟩ := by
      rcases HRW.out.2 with ⟨hv, h0⟩ | ⟨g, _, _, hv, _⟩
      · omega
      · exact ⟨g, by injection hv⟩
    have y2 := HRW.out.cellAt (i * 2 + 1) (by omega)
    have y3 := HRW.out.frozenAt (i * 2 + 1)
    obtain ⟨x, hx, _⟩ := here_yes hh
    rw [(pCells_at l i x hx).2] at y2
    have HST := Lib.hid (HRW.out.stored (i * 2 + 1) (.slice VA vn vc))
    have HPC := Lib.hid (pCells_set l i t (.slice VA vn vc) hmp)
    have HLT := Lib.hid HT.out.lt
    clear C hp hh hsl hnl hx hmp
    go_wp2_with fail
    go_ret
    have hne := own_ne HRW.out HT.out.head (by decide)
    refine ⟨false, .slice (some ⟨g, 0, none⟩) n c, rfl, ⟨H.out.le, HPS.out, ?_, ?_⟩, ?_, ?_⟩
    · rw [HST.out.2.block b HLT.out (fun e => hne e)]
      have := HT.out.head
      rw [HN.out] at this
      exact this
    · rw [← HE.out, List.length_set, HN.out, ← HPC.out]
      exact HST.out.1
    · exact ((HB.out.mono HB0.out).setCell (p := ⟨g, i * 2 + 1, none⟩) (HRW.out.lt g rfl).1 _)
    · exact (KeptT.of_below b HB.out).trans (KeptT.row HRW.out HST.out.2)
end Trm
end Go.Proofs.YtfohollhdaedlaaGreatDoor
