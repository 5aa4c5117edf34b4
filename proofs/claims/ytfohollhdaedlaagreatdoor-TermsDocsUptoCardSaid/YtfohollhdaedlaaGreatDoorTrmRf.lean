import Derived.Test.YtfohollhdaedlaaGreatDoorTrmPl
import Derived.Test.YtfohollhdaedlaaGreatDoorTrmS
import Derived.Test.YtfohollhdaedlaaGreatDoorTrmHp
/- Terms: rows that a call owns, kept where rows of other types turn; the walk of the reference's Spots. -/
set_option linter.unusedVariables false
set_option linter.unusedSimpArgs false
set_option maxRecDepth 100000
namespace Go.Proofs.YtfohollhdaedlaaGreatDoor
open Go.RowKit
namespace Trm
open Tok
theorem own_aside {w w' : World} {B q size n : Nat} {e e' : TypeId} {v : Value} {xs : List Value} {c : Array Value} {fr : Nat × Nat} (h : w.ownsRow B e size v n xs) (hq : w.heap[q]? = some (.cells c e' fr)) (hne : e' ≠ e) (hg : w.grownBy w' (some q)) : w'.ownsRow B e size v n xs :=
  h.kept hg (.inr (own_ne h hq hne).symm)
theorem OSp.base {w : World} {B B' : Nat} {v : Value} {ss : List SpotM} (h : OSp w B v ss) (hb : B' ≤ B) : OSp w B' v ss := by
  obtain ⟨vs, h1, h2, h3⟩ := h
  exact ⟨vs, h1, own_base h2 hb, fun s hs => own_base (h3 s hs) hb⟩
theorem OSp.turn {w w' : World} {B B' size n : Nat} {e : TypeId} {v u : Value} {ss : List SpotM} {xs : List Value} (h : OSp w B v ss) (ho : w.ownsRow B' e size u n xs) (hg : w.grownBy w' u.ownBlock) (e1 : 64 ≠ e) (e2 : 3 ≠ e) : OSp w' B v ss := by
  obtain ⟨vs, h1, h2, h3⟩ := h
  exact ⟨vs, h1, own_other h2 ho hg e1, fun s hs => own_other (h3 s hs) ho hg e2⟩
theorem OSp.aside {w w' : World} {B q : Nat} {e : TypeId} {v : Value} {ss : List SpotM} {c : Array Value} {fr : Nat × Nat} (h : OSp w B v ss) (hq : w.heap[q]? = some (.cells c e fr)) (hg : w.grownBy w' (some q)) (e1 : e ≠ 64) (e2 : e ≠ 3) : OSp w' B v ss := by
  obtain ⟨vs, h1, h2, h3⟩ := h
  exact ⟨vs, h1, own_aside h2 hq e1 hg, fun s hs => own_aside (h3 s hs) hq e2 hg⟩
theorem grown_after {w a b : World} {r : Option Nat} (h : w.grownBy a r) (hb : Below w.heap.size a b) : w.grownBy b r :=
  ⟨hb.os.trans h.os, hb.tape.trans h.tape, hb.output.trans h.output, Nat.le_trans h.size hb.size, fun k hk hr => (hb.block k hk).trans (h.block k hk hr)⟩
theorem heap_set2b {W : World} {n : Nat} {a b x : Value} {t : TypeId} (h : W.heap[n]? = some (.cells #[a, b] t (0, 0))) : (W.setCell ⟨n, 1, none⟩ x).heap[n]? = some (.cells #[a, x] t (0, 0)) := by
  obtain ⟨hn, he⟩ := Array.getElem?_eq_some_iff.1 h
  simp [World.setCell, hn, he, Array.getElem_modify]
theorem box2 {w : World} {p : Nat} {x y : Value} {t : TypeId} (h : w.heap[p]? = some (.cells #[x, y] t (0, 0))) : w.cell? ⟨p, 0, none⟩ = some x ∧ w.cell? ⟨p, 1, none⟩ = some y ∧ w.frozen? ⟨p, 0, none⟩ = false ∧ w.frozen? ⟨p, 1, none⟩ = false :=
  ⟨by simp [World.cell?, h], by simp [World.cell?, h], by simp [World.frozen?, h], by simp [World.frozen?, h]⟩
theorem plc_take {t : ByteArray} {l : List (ByteArray × Nat)} {j : Nat} {x : ByteArray × Nat} (h : l[j]? = some x) : plc t (l.take (j + 1)) = plc t (l.take j) ++ if x.1 = t then [(x.2 : Int)] else [] := by
  unfold plc
  rw [List.take_add_one, h, List.filter_append, List.map_append]
  by_cases hx : x.1 = t <;> simp [hx]
theorem plc_le (t : ByteArray) (l : List (ByteArray × Nat)) (j : Nat) : (plc t (l.take j)).length ≤ j := by
  unfold plc
  rw [List.length_map]
  exact Nat.le_trans (List.length_filter_le _ _) (by rw [List.length_take]; omega)
set_option maxHeartbeats 16000000 in
theorem rspots_calls (d : Exp.DocM) (hd : ∀ i, (d.get i).size ≤ 16777216) (t : ByteArray) (w : World) :
    Calls Tryz.prog 20 #[Exp.docV d, .string t] w fun e w' => ∃ v, e = .returned v ∧ OSp w' w.heap.size v (spotsD d t) ∧ Below w.heap.size w w' := by
  have HD := Lib.hid hd
  have HIX := Lib.hid (Exp.idx_arr d)
  obtain ⟨B, hB⟩ : ∃ B, w.heap.size = B := ⟨_, rfl⟩
  have HBB := Lib.hid hB
  obtain ⟨wA, hwA⟩ : ∃ wA, w.alloc (.cells (Exp.docC d) 27) = wA := ⟨_, rfl⟩
  have hbA : Below w.heap.size w wA := by rw [← hwA]; exact (Below.refl _ _).alloc (Nat.le_refl _) _
  have HBA := Lib.hid hbA
  have HWA := Lib.hid hwA
  obtain ⟨is, his, hsz0, hsz1, hsz2⟩ := info_parts inf_spot
  obtain ⟨ii, hii, hiz0, hiz1, hiz2⟩ := info_parts inf_int
  obtain ⟨id, t0, t1, t2, t3⟩ := d
  simp only [Exp.docV, Exp.docC] at HWA ⊢
  rw [hB] at HBA ⊢
  clear hwA hbA hd
  go_enter Tryz.func20, Tryz.ntmps20
  go_wp2_with fail
  rw [HWA.out]
  go_loopw [5, 13] (fun out ix wr => ∃ (i : Nat) (vs : List MSpot), i ≤ 4 ∧ ix = .int .i64 i ∧ Hid (wr.ownsRow B 64 2 out vs.length (spCells vs)) ∧ Hid (∀ s ∈ vs, wr.ownsRow B 3 1 s.2.1 s.2.2.length (s.2.2.map (.int .i64))) ∧ vs.length ≤ i ∧ Hid (vs.map (fun s => (s.1, s.2.2)) = spotsN ⟨id, t0, t1, t2, t3⟩ t i) ∧ Hid (Below B w wr)) (fun _ ix _ => 4 - (intOf ix).toNat)
  case atStart => exact ⟨0, [], Nat.zero_le _, rfl, World.ownsRow_nil _ _ _ _, fun s hs => absurd hs List.not_mem_nil, Nat.le_refl _, rfl, HBA⟩
  case round =>
    obtain ⟨i, vs, hi, rfl, HO, HIN, hvl, HVS, HB⟩ := hrel
    by_cases hlt : i < 4
    · have hix := fun W => HIX.out i hlt W
      obtain ⟨x, hx⟩ : ∃ x, Exp.DocM.get ⟨id, t0, t1, t2, t3⟩ i = x := ⟨_, rfl⟩
      rw [hx] at hix
      have HXX := Lib.hid hx
      have hwi : IntKind.i64.wrap ((i : Int) + 1) = (i : Int) + 1 := by rw [IntKind.wrap_i64]; omega
      obtain ⟨q, hq⟩ : ∃ q, wr.heap.size = q := ⟨_, rfl⟩
      obtain ⟨w4, hw4⟩ : ∃ w4, wr.alloc (.cells #[.int .i64 ((i : Int) + 1), .slice none 0 0] 64) = w4 := ⟨_, rfl⟩
      have hb4 : Below wr.heap.size wr w4 := by rw [← hw4]; exact (Below.refl _ _).alloc (Nat.le_refl _) _
      have hx4 : w4.heap[q]? = some (.cells #[.int .i64 ((i : Int) + 1), .slice none 0 0] 64 (0, 0)) := by rw [← hw4, ← hq]; exact heap_alloc_new _ _
      have HBQ := Lib.hid (show B ≤ q by have := HB.out.size; have := HBB.out; omega)
      rw [hq] at hb4
      have HB4 := Lib.hid hb4
      have HX4 := Lib.hid hx4
      have HW4 := Lib.hid hw4
      have C := Lib.hid (rttext_calls x (by rw [← hx]; exact HD.out i) w4)
      clear hx hb4 hx4 hw4
      go_wp2_with fail
      rw [HW4.out]
      refine C.out.mono ?_
      rintro e w5 ⟨v1, rfl, ho, hb⟩
      obtain ⟨TA, tc, rfl, hsl⟩ := own_form ho
      obtain ⟨l, hl⟩ : ∃ l, trms x = l := ⟨_, rfl⟩
      rw [hl] at ho hsl
      have HX5 : Hid (w5.heap[q]? = some (.cells #[.int .i64 ((i : Int) + 1), .slice none 0 0] 64 (0, 0))) := (hb.block q (Array.getElem?_eq_some_iff.1 HX4.out).1).trans HX4.out
      have HBZ : Hid (Below q wr w5) := HB4.out.trans (hb.mono (by have := (Array.getElem?_eq_some_iff.1 HX4.out).1; omega))
      have HSN : Hid (spotsN ⟨id, t0, t1, t2, t3⟩ t (i + 1) = addSp (spotsN ⟨id, t0, t1, t2, t3⟩ t i) ((i : Int) + 1) (plc t l)) := by
        show addSp _ _ (plc t (trms (Exp.DocM.get _ i))) = _
        rw [HXX.out, hl]
      have hlf : l.length ≤ 60 := by rw [← hl]; exact trms_few x
      have HOT := Lib.hid ho
      obtain ⟨n, hn⟩ : ∃ n, l.length = n := ⟨_, rfl⟩
      have HN := Lib.hid hn
      rw [hl]
      rw [hn] at HOT hlf ⊢
      have htc := hsl.2.1
      have htm := hsl.2.2.1
      unfold maxLen at htm
      have HQ5 := Lib.hid (show q < w5.heap.size from (Array.getElem?_eq_some_iff.1 HX5.out).1)
      clear ho hsl hl hn hb C
      go_wp2_with fail
      obtain ⟨wz, hwz⟩ : ∃ wz, wz = wr := ⟨_, rfl⟩
      subst hwz
      go_loopw [23] (fun ix wr => ∃ (j : Nat) (av : Value), j ≤ n ∧ ix = .int .i64 j ∧ Hid (w5.grownBy wr (some q)) ∧ Hid (wr.heap[q]? = some (.cells #[.int .i64 ((i : Int) + 1), av] 64 (0, 0))) ∧ Hid (wr.ownsRow w5.heap.size 3 1 av (plc t (l.take j)).length ((plc t (l.take j)).map (.int .i64)))) (fun ix _ => n - (intOf ix).toNat)
      case atStart => exact ⟨0, _, Nat.zero_le _, rfl, World.grownBy.refl _ _, HX5, World.ownsRow_nil _ _ _ _⟩
      case round =>
        obtain ⟨j, av, hj, rfl, HG, HQ, HA⟩ := hrel
        obtain ⟨AV, cv, rfl, hav⟩ := own_form HA.out
        have hcv := hav.2.1
        have hcm := hav.2.2.1
        unfold maxLen at hcm
        obtain ⟨k, hk⟩ : ∃ k, (plc t (l.take j)).length = k := ⟨_, rfl⟩
        have HK := Lib.hid hk
        have hkj : k ≤ j := by rw [← hk]; exact plc_le t l j
        rw [hk] at HQ HA hcv
        clear hav hk
        by_cases hjn : j < n
        · obtain ⟨y, hy⟩ : ∃ y, l[j]? = some y := ⟨_, List.getElem?_eq_getElem (by rw [HN.out]; exact hjn)⟩
          obtain ⟨A', c', hA, hsl⟩ := own_form (own_aside HOT.out HX5.out (by decide) HG.out)
          have hA2 : TA = A' ∧ tc = c' := by injection hA with h1 h2 h3; exact ⟨h1, h3⟩
          obtain ⟨rfl, rfl⟩ := hA2
          obtain ⟨bb, oo, rfl, y0, y1⟩ := tok_at hsl hy
          have HPT := Lib.hid (plc_take (t := t) hy)
          obtain ⟨tx, ta⟩ := y
          simp only at y0 y1 HPT
          have hwj : IntKind.i64.wrap ((j : Int) + 1) = (j : Int) + 1 := by rw [IntKind.wrap_i64]; omega
          have HAL : Hid (Below wr.heap.size wr (wr.alloc (.cells #[.string tx, .int .i64 (ta : Int)] 51))) := (Below.refl _ _).alloc (Nat.le_refl _) _
          have HS5 := Lib.hid (show w5.heap.size ≤ wr.heap.size from HG.out.size)
          have hqr : q < wr.heap.size := (Array.getElem?_eq_some_iff.1 HQ.out).1
          have HQ6 : Hid ((wr.alloc (.cells #[.string tx, .int .i64 (ta : Int)] 51)).heap[q]? = some (.cells #[.int .i64 ((i : Int) + 1), .slice AV k cv] 64 (0, 0))) := (HAL.out.block q hqr).trans HQ.out
          clear hy hsl hA
          by_cases hxt : tx = t
          · have hse : (tx.toList == t.toList) = true := by rw [hxt]; simp
            rw [if_pos hxt] at HPT
            clear hxt
            obtain ⟨b0, b1, _, _⟩ := box2 HQ6.out
            obtain ⟨_, v1, _, _⟩ := box2 HQ.out
            have HAL2 : Hid (Below (wr.alloc (.cells #[.string tx, .int .i64 (ta : Int)] 51)).heap.size (wr.alloc (.cells #[.string tx, .int .i64 (ta : Int)] 51)) ((wr.alloc (.cells #[.string tx, .int .i64 (ta : Int)] 51)).alloc (.cells #[.int .i64 (ta : Int)] 3))) := (Below.refl _ _).alloc (Nat.le_refl _) _
            go_wp2_with (at_builtin; go_loud (refine wpList_append_lies _ rfl (.tmp 32) (.tmp 35) 62 rfl w5.heap.size 3 ii (.int .i64 0) 1 8 Tryz.underlying62 hii hiz0 hiz1 hiz2 rfl (by decide) (.slice AV k cv) k ((plc t (l.take j)).map (.int .i64)) rfl (own_below (own_below HA.out HAL.out) HAL2.out) ⟨wr.heap.size + 1, 0, none⟩ 1 1 [.int .i64 (ta : Int)] rfl rfl (World.news_of_block (cs := #[.int .i64 (ta : Int)]) (t := 3) (fr := (0, 0)) (by have := heap_alloc_new (wr.alloc (.cells #[.string tx, .int .i64 (ta : Int)] 51)) (.cells #[.int .i64 (ta : Int)] 3); simpa using this)) (by simp [Value.oneCell']) (by decide) (by unfold maxLen; omega) (by omega) (by have := HS5.out; simp; omega) (wr.heap.size + 1 + 1) (by simp) ?_))
            rintro g7 cap7 w7 ho7 hg7 hat7 hlt7
            have hq7 : w7.heap[q]? = some (.cells #[.int .i64 ((i : Int) + 1), .slice AV k cv] 64 (0, 0)) := (hg7.block q (by simp; omega) (own_ne (own_below (own_below HA.out HAL.out) HAL2.out) ((HAL2.out.block q (by simp; omega)).trans HQ6.out) (by decide))).trans ((HAL2.out.block q (by simp; omega)).trans HQ6.out)
            obtain ⟨_, u1, _, u3⟩ := box2 hq7
            have HQ8 : Hid ((w7.setCell ⟨q, 1, none⟩ (.slice (some ⟨g7, 0, none⟩) (k + 1) cap7)).heap[q]? = some (.cells #[.int .i64 ((i : Int) + 1), .slice (some ⟨g7, 0, none⟩) (k + 1) cap7] 64 (0, 0))) := heap_set2b hq7
            have HA8 : Hid ((w7.setCell ⟨q, 1, none⟩ (.slice (some ⟨g7, 0, none⟩) (k + 1) cap7)).ownsRow w5.heap.size 3 1 (.slice (some ⟨g7, 0, none⟩) (k + 1) cap7) (k + 1) ((plc t (l.take j)).map (.int .i64) ++ [.int .i64 (ta : Int)])) := own_aside ho7 hq7 (by decide) (grown_cell _)
            have HG8 : Hid (w5.grownBy (w7.setCell ⟨q, 1, none⟩ (.slice (some ⟨g7, 0, none⟩) (k + 1) cap7)) (some q)) := (grown_after HG.out (((HAL.out.mono HS5.out).trans (HAL2.out.mono (by have := HS5.out; simp; omega))).grown hg7 (by have := HS5.out; simp; omega) (fun r hr => (HA.out.lt r hr).1))).trans (grown_cell _)
            clear ho7 hg7 hat7 hlt7 hq7 b0 b1 y0 y1 v1
            go_wp2_with fail
            go_roundw
            case rel => exact ⟨j + 1, _, by omega, by go_num, HG8, HQ8, by rw [Hid, HPT.out, List.map_append, List.length_append, HK.out]; exact HA8.out⟩
            case measure => simp [intOf]; omega
          · have hse : (tx.toList == t.toList) = false := by rw [toList_beq]; simp [hxt]
            rw [if_neg hxt, List.append_nil] at HPT
            have HA8 := Lib.hid (own_below HA.out HAL.out)
            have HG8 := Lib.hid (grown_after HG.out (HAL.out.mono HS5.out))
            go_wp2_with fail
            go_roundw
            case rel => exact ⟨j + 1, _, by omega, by go_num, HG8, HQ6, by rw [Hid, HPT.out, HK.out]; exact HA8.out⟩
            case measure => simp [intOf]; omega
        · obtain rfl : j = n := by omega
          have hta : l.take j = l := List.take_of_length_le (by rw [HN.out]; exact Nat.le_refl _)
          rw [hta] at HA HK
          obtain ⟨b0, b1, _, _⟩ := box2 HQ.out
          have HBR : Hid (Below q wz wr) := ⟨HG.out.os.trans HBZ.out.os, HG.out.tape.trans HBZ.out.tape, HG.out.output.trans HBZ.out.output, Nat.le_trans HBZ.out.size HG.out.size, fun k hk => (HG.out.block k (by have := HQ5.out; omega) (fun e => by have := Option.some.inj e; omega)).trans (HBZ.out.block k hk)⟩
          have hBR : Below wz.heap.size wz wr := by rw [hq]; exact HBR.out
          have HO6 := Lib.hid (own_below HO.out hBR)
          have HIN6 : Hid (∀ s ∈ vs, wr.ownsRow B 3 1 s.2.1 s.2.2.length (s.2.2.map (.int .i64))) := fun s hs => own_below (HIN.out s hs) hBR
          have HB6 : Hid (Below B w wr) := HB.out.trans (HBR.out.mono HBQ.out)
          have HA9 := Lib.hid (own_base HA.out (show B ≤ w5.heap.size by have h1 := HBQ.out; have h2 := HQ5.out; omega))
          clear hta hBR
          by_cases hk0 : k = 0
          · subst hk0
            have HSE : Hid (spotsN ⟨id, t0, t1, t2, t3⟩ t (i + 1) = spotsN ⟨id, t0, t1, t2, t3⟩ t i) := by
              show _ = _
              rw [HSN.out, addSp, if_pos (List.length_eq_zero_iff.1 HK.out)]
            go_wp2_with fail
            go_roundw
            case rel => exact ⟨i + 1, vs, by omega, by go_num, HO6, HIN6, by omega, by rw [HSE.out]; exact HVS, HB6⟩
            case measure => simp [intOf]; omega
          · have HSE : Hid (spotsN ⟨id, t0, t1, t2, t3⟩ t (i + 1) = spotsN ⟨id, t0, t1, t2, t3⟩ t i ++ [((i : Int) + 1, plc t l)]) := by
              show _ = _
              rw [HSN.out, addSp, if_neg (fun h => hk0 (by rw [← HK.out, h]; rfl))]
            have hkp : (0 : Int) < (k : Int) := by omega
            have hkn : 0 < k := by omega
            have HAL : Hid (Below wr.heap.size wr (wr.alloc (.cells #[.int .i64 ((i : Int) + 1), .slice AV k cv] 64))) := (Below.refl _ _).alloc (Nat.le_refl _) _
            have HS5 := Lib.hid (show B ≤ wr.heap.size by have h1 := HBQ.out; have h2 := HQ5.out; have h3 := HG.out.size; omega)
            obtain ⟨vn, hvn⟩ : ∃ vn, vs.length = vn := ⟨_, rfl⟩
            rw [hvn] at HO6 hvl
            have HVN := Lib.hid hvn
            clear hvn
            go_wp2_with (at_builtin; go_loud (refine wpList_append_lies _ rfl (.tmp 43) (.tmp 45) 39 rfl B 64 is (.agg #[.int .i64 0, .slice none 0 0]) 2 32 Tryz.underlying39 his hsz0 hsz1 hsz2 rfl (by decide) _ vn (spCells vs) rfl (own_below HO6.out HAL.out) ⟨wr.heap.size, 0, none⟩ 1 1 [.int .i64 ((i : Int) + 1), .slice AV k cv] rfl rfl (World.news_of_block (cs := #[.int .i64 ((i : Int) + 1), .slice AV k cv]) (t := 64) (fr := (0, 0)) (heap_alloc_new wr _)) (by simp [Value.oneCell']) (by decide) (by unfold maxLen; omega) (by omega) (by have := HS5.out; simp; omega) (wr.heap.size + 1) (by simp) ?_))
            rintro g7 cap7 w7 ho7 hg7 hat7 hlt7
            have HO7 := Lib.hid ho7
            have HIN7 : Hid (∀ s ∈ vs ++ [((i : Int) + 1, .slice AV k cv, plc t l)], w7.ownsRow B 3 1 s.2.1 s.2.2.length (s.2.2.map (.int .i64))) := fun s hs => by
              rcases List.mem_append.1 hs with hs | hs
              · exact own_other (own_below (HIN6.out s hs) HAL.out) (own_below HO6.out HAL.out) hg7 (by decide)
              · rw [List.mem_singleton.1 hs]
                have h1 := own_other (own_below HA9.out HAL.out) (own_below HO6.out HAL.out) hg7 (by decide)
                rw [← HK.out] at h1 ⊢
                exact h1
            have HB7 : Hid (Below B w w7) := (HB6.out.trans (HAL.out.mono HS5.out)).grown hg7 (by have := HS5.out; simp; omega) (fun r hr => (HO6.out.lt r hr).1)
            clear ho7 hg7 hat7 hlt7 b0 b1
            go_wp2_with fail
            go_roundw
            case rel => exact ⟨i + 1, vs ++ [((i : Int) + 1, .slice AV k cv, plc t l)], by omega, by go_num, by rw [Hid, List.length_append, List.length_singleton, HVN.out, spCells_append]; exact HO7.out, HIN7, by rw [List.length_append, List.length_singleton, HVN.out]; omega, by rw [Hid, HSE.out, List.map_append, HVS.out]; rfl, HB7⟩
            case measure => simp [intOf]; omega
    · obtain rfl : i = 4 := by omega
      go_wp2_with fail
      go_ret
      exact ⟨_, rfl, ⟨vs, HVS.out, HO.out, HIN.out⟩, HB.out⟩
end Trm
end Go.Proofs.YtfohollhdaedlaaGreatDoor
/- Terms: the walk of the reference's Names. -/
set_option linter.unusedVariables false
set_option linter.unusedSimpArgs false
set_option maxRecDepth 100000
namespace Go.Proofs.YtfohollhdaedlaaGreatDoor
open Go.RowKit
namespace Trm
open Tok
theorem has_snoc (l : List ByteArray) (x t : ByteArray) : has (l ++ [x]) t = (has l t || decide (x = t)) := by
  unfold has
  rw [List.any_append]; simp
theorem insAll_take {l : List ByteArray} {ts : List (ByteArray × Nat)} {j : Nat} {x : ByteArray × Nat} (h : ts[j]? = some x) : insAll l (ts.take (j + 1)) = insN (insAll l (ts.take j)) x.1 := by
  unfold insAll
  rw [List.take_add_one, h, List.foldl_append]; rfl
theorem insN_len (l : List ByteArray) (t : ByteArray) : (insN l t).length ≤ l.length + 1 := by
  unfold insN
  split
  · omega
  · have := insAt_le t l
    simp; omega
theorem names_take {ds : List Exp.DocM} {i : Nat} {d : Exp.DocM} (h : ds[i]? = some d) : names (ds.take (i + 1)) = namesD (names (ds.take i)) d 4 := by
  unfold names
  rw [List.take_add_one, h, List.foldl_append]; rfl
abbrev strs (l : List ByteArray) : List Value := l.map .string
theorem strs_one (l : List ByteArray) : ∀ u ∈ strs l, u.oneCell' = true := by
  intro u hu
  obtain ⟨_, _, rfl⟩ := List.mem_map.1 hu
  rfl
theorem sl_take {w : World} {A : Option Addr} {n c k : Nat} {l : List ByteArray} (h : IsSl w 1 A n c (strs l)) (hk : k ≤ n) : IsSl w 1 A k c (strs (l.take k)) := by
  obtain ⟨h1, h2, h3, h4, h5⟩ := h
  have hl : l.length = n := by simpa using h1
  refine ⟨by simp; omega, by omega, h3, fun ha => ⟨by have := (h4 ha).1; omega, (h4 ha).2⟩, fun ad ha j u hu => h5 ad ha j u ?_⟩
  have hj := (List.getElem?_eq_some_iff.1 hu).1
  simp only [strs, List.length_map, List.length_take] at hj
  rw [List.getElem?_map, List.getElem?_take, if_pos (by omega)] at hu
  rw [List.getElem?_map]; exact hu
theorem sl_dropA {w : World} {og n c k : Nat} {l : List ByteArray} (h : IsSl w 1 (some ⟨og, 0, none⟩) n c (strs l)) (hk : k ≤ n) {ad : Addr} (hA : k < n → ad = ⟨og, k, none⟩) : IsSl w 1 (some ad) (n - k) (c - k) (strs (l.drop k)) := by
  obtain ⟨h1, h2, h3, h4, h5⟩ := h
  have hl : l.length = n := by simpa using h1
  refine ⟨by simp; omega, by omega, by omega, fun ha => (by cases ha), fun ad' ha j u hu => ?_⟩
  obtain rfl := Option.some.inj ha
  have hj := (List.getElem?_eq_some_iff.1 hu).1
  simp only [strs, List.length_map, List.length_drop] at hj
  rw [hA (by omega)]
  have := h5 _ rfl (k + j) u (by
    rw [List.getElem?_map, List.getElem?_drop] at hu
    rw [List.getElem?_map]; exact hu)
  rw [Addr.add_lit, Nat.zero_add] at this
  rw [Addr.add_lit]
  exact this
theorem sl_at1 {w : World} {A : Option Addr} {n c : Nat} {vs : List Value} (h : IsSl w 1 A n c vs) {i : Nat} {x : Value} (hx : vs[i]? = some x) : ∃ ad, A = some ad ∧ w.cell? (ad.add i) = some x := by
  obtain ⟨h1, h2, h3, h4, h5⟩ := h
  cases A with
  | none =>
    have := (h4 rfl).1
    have := (List.getElem?_eq_some_iff.1 hx).1
    omega
  | some ad => exact ⟨ad, rfl, h5 ad rfl i x hx⟩
theorem own_addr {w : World} {base : Nat} {e : TypeId} {size n c : Nat} {ad : Addr} {xs : List Value} (h : w.ownsRow base e size (.slice (some ad) n c) n xs) : ∃ g, ad = ⟨g, 0, none⟩ := by
  rcases h.2 with ⟨h1, _⟩ | ⟨g, cap, cur, h1, _⟩
  · injection h1 with h1; cases h1
  · injection h1 with h1; exact ⟨g, Option.some.inj h1⟩
set_option maxHeartbeats 16000000 in
theorem rnames_calls (w : World) (A : Option Addr) (n c : Nat) (ds : List Exp.DocM) (hdl : ds.length = n) (hds : IsSl w 5 A n c (Exp.dCells ds)) (hsz : ∀ d ∈ ds, ∀ i, (d.get i).size ≤ 16777216) (hn : n ≤ 16) :
    Calls Tryz.prog 19 #[.slice A n c] w fun e w' => ∃ v, e = .returned v ∧ w'.ownsRow w.heap.size 9 1 v (names ds).length (strs (names ds)) ∧ (names ds).length ≤ 3840 ∧ Below w.heap.size w w' := by
  have HDS := Lib.hid hds
  have HSZ := Lib.hid hsz
  have HDL := Lib.hid hdl
  obtain ⟨B, hB⟩ : ∃ B, w.heap.size = B := ⟨_, rfl⟩
  have HBB := Lib.hid hB
  rw [hB]
  have hnc := hds.2.1
  have hcm := hds.2.2.1
  unfold maxLen at hcm
  clear hds hsz hdl
  go_enter Tryz.func19, Tryz.ntmps19
  go_wp2_with fail
  go_loopw [3, 17] (fun out ix wr => ∃ (i : Nat) (nm : List ByteArray), i ≤ n ∧ ix = .int .i64 i ∧ Hid (names (ds.take i) = nm) ∧ Hid (wr.ownsRow B 9 1 out nm.length (strs nm)) ∧ nm.length ≤ 240 * i ∧ Hid (Below B w wr)) (fun _ ix _ => n - (intOf ix).toNat)
  case atStart => exact ⟨0, [], Nat.zero_le _, rfl, rfl, World.ownsRow_nil _ _ _ _, Nat.zero_le _, by rw [← HBB.out]; exact Below.refl _ _⟩
  case round =>
    obtain ⟨i, nm, hi, rfl, HNM, HO, hnl, HB⟩ := hrel
    by_cases hlt : i < n
    · obtain ⟨d, hd⟩ : ∃ d, ds[i]? = some d := ⟨_, List.getElem?_eq_getElem (by rw [HDL.out]; exact hlt)⟩
      have hbw : Below w.heap.size w wr := by rw [HBB.out]; exact HB.out
      obtain ⟨bb, oo, rfl, e0, e1, e2, e3, e4⟩ := Exp.d_at (HDS.out.below hbw) hd
      have HNT := Lib.hid (names_take hd)
      have HSD := Lib.hid (HSZ.out d (List.mem_of_getElem? hd))
      have HIX := Lib.hid (Exp.idx_arr d)
      obtain ⟨w0, hw0⟩ : ∃ w0, wr.alloc (.cells #[.string d.id, .string d.t0, .string d.t1, .string d.t2, .string d.t3] 27) = w0 := ⟨_, rfl⟩
      have hb0 : Below wr.heap.size wr w0 := by rw [← hw0]; exact (Below.refl _ _).alloc (Nat.le_refl _) _
      have HO0 := Lib.hid (own_below HO.out hb0)
      have HBS := Lib.hid (show B ≤ wr.heap.size by have := HB.out.size; have := HBB.out; omega)
      have HB0 := Lib.hid (HB.out.trans (hb0.mono HBS.out))
      have HW0 := Lib.hid hw0
      have hwi : IntKind.i64.wrap ((i : Int) + 1) = (i : Int) + 1 := by rw [IntKind.wrap_i64]; omega
      obtain ⟨id, t0, t1, t2, t3⟩ := d
      simp only at e0 e1 e2 e3 e4
      clear hd hbw hb0 hw0
      go_wp2_with fail
      rw [HW0.out]
      clear e0 e1 e2 e3 e4
      obtain ⟨wz, hwz⟩ : ∃ wz, wz = wr := ⟨_, rfl⟩
      subst hwz
      obtain ⟨nm0, hnm0⟩ : ∃ nm0, nm0 = nm := ⟨_, rfl⟩
      subst hnm0
      go_loopw [3, 23] (fun out ix wr => ∃ (k : Nat) (nm : List ByteArray), k ≤ 4 ∧ ix = .int .i64 k ∧ Hid (namesD nm0 ⟨id, t0, t1, t2, t3⟩ k = nm) ∧ Hid (wr.ownsRow B 9 1 out nm.length (strs nm)) ∧ nm.length ≤ 240 * i + 60 * k ∧ Hid (Below B w wr)) (fun _ ix _ => 4 - (intOf ix).toNat)
      case atStart => exact ⟨0, nm0, Nat.zero_le _, rfl, rfl, HO0, by omega, HB0⟩
      case round =>
        obtain ⟨k, nm, hk, rfl, HND, HO2, hnl2, HB2⟩ := hrel
        by_cases hk4 : k < 4
        · have hix := fun W => HIX.out k hk4 W
          obtain ⟨x, hx⟩ : ∃ x, Exp.DocM.get ⟨id, t0, t1, t2, t3⟩ k = x := ⟨_, rfl⟩
          rw [hx] at hix
          have HXX := Lib.hid hx
          have hwk : IntKind.i64.wrap ((k : Int) + 1) = (k : Int) + 1 := by rw [IntKind.wrap_i64]; omega
          have C := Lib.hid (rttext_calls x (by rw [← hx]; exact HSD.out k) wr)
          clear hx
          go_wp2_with fail
          refine C.out.mono ?_
          rintro e w5 ⟨v1, rfl, ho, hb⟩
          obtain ⟨TA, tc, rfl, hsl⟩ := own_form ho
          obtain ⟨l, hl⟩ : ∃ l, trms x = l := ⟨_, rfl⟩
          rw [hl] at hsl ⊢
          have hlf : l.length ≤ 60 := by rw [← hl]; exact trms_few x
          have HDN : Hid (namesD nm0 ⟨id, t0, t1, t2, t3⟩ (k + 1) = insAll nm l) := by
            show insAll (namesD nm0 _ k) (trms (Exp.DocM.get _ k)) = _
            rw [HXX.out, hl, HND.out]
          obtain ⟨m, hm⟩ : ∃ m, l.length = m := ⟨_, rfl⟩
          have HM := Lib.hid hm
          rw [hm] at hlf hsl ⊢
          have htc := hsl.2.1
          have htm := hsl.2.2.1
          unfold maxLen at htm
          have HSL := Lib.hid hsl
          have HO5 := Lib.hid (own_below HO2.out hb)
          have HBS2 := Lib.hid (show B ≤ wr.heap.size by have := HB2.out.size; have := HBB.out; omega)
          have HB5 := Lib.hid (HB2.out.trans (hb.mono HBS2.out))
          have HS5 := Lib.hid (show B ≤ w5.heap.size by have := HBS2.out; have := hb.size; omega)
          clear ho hb hsl hl hm C
          go_wp2_with fail
          obtain ⟨wy, hwy⟩ : ∃ wy, wy = wr := ⟨_, rfl⟩
          subst hwy
          obtain ⟨nm1, hnm1⟩ : ∃ nm1, nm1 = nm := ⟨_, rfl⟩
          subst hnm1
          go_loopw [3, 29] (fun out ix wr => ∃ (j : Nat) (nm : List ByteArray), j ≤ m ∧ ix = .int .i64 j ∧ Hid (insAll nm1 (l.take j) = nm) ∧ Hid (wr.ownsRow B 9 1 out nm.length (strs nm)) ∧ nm.length ≤ 240 * i + 60 * k + j ∧ Hid (Below B w wr) ∧ Hid (Below w5.heap.size w5 wr)) (fun _ ix _ => m - (intOf ix).toNat)
          case atStart => exact ⟨0, nm1, Nat.zero_le _, rfl, rfl, HO5, by omega, HB5, Below.refl _ _⟩
          case round =>
            obtain ⟨j, nm, hj, rfl, HIA, HOR, hnl3, HBR, HB5R⟩ := hrel
            by_cases hjm : j < m
            · obtain ⟨y, hy⟩ : ∃ y, l[j]? = some y := ⟨_, List.getElem?_eq_getElem (by rw [HM.out]; exact hjm)⟩
              obtain ⟨ab, ao, rfl, y0, y1⟩ := tok_at (HSL.out.below HB5R.out) hy
              have HIT := Lib.hid (insAll_take (l := nm1) hy)
              obtain ⟨tx, ta⟩ := y
              simp only at y0 y1 HIT
              have hwj : IntKind.i64.wrap ((j : Int) + 1) = (j : Int) + 1 := by rw [IntKind.wrap_i64]; omega
              obtain ⟨w6, hw6⟩ : ∃ w6, wr.alloc (.cells #[.string tx, .int .i64 (ta : Int)] 51) = w6 := ⟨_, rfl⟩
              have hb6 : Below wr.heap.size wr w6 := by rw [← hw6]; exact (Below.refl _ _).alloc (Nat.le_refl _) _
              have hx6 : w6.heap[wr.heap.size]? = some (.cells #[.string tx, .int .i64 (ta : Int)] 51 (0, 0)) := by rw [← hw6]; exact heap_alloc_new _ _
              have HSR := Lib.hid (show B ≤ wr.heap.size ∧ w5.heap.size ≤ wr.heap.size from ⟨by have h1 := HB5R.out.size; have h2 := HS5.out; omega, HB5R.out.size⟩)
              have HB6 := Lib.hid (HBR.out.trans (hb6.mono HSR.out.1))
              have HB56 := Lib.hid (HB5R.out.trans (hb6.mono HSR.out.2))
              have HS6 := Lib.hid (show B ≤ w6.heap.size ∧ w5.heap.size ≤ w6.heap.size from ⟨by have h1 := HSR.out.1; have h2 := hb6.size; omega, by have h1 := HSR.out.2; have h2 := hb6.size; omega⟩)
              have HO6 := Lib.hid (own_below HOR.out hb6)
              have HX6 := Lib.hid hx6
              have HW6 := Lib.hid hw6
              obtain ⟨q, hq⟩ : ∃ q, wr.heap.size = q := ⟨_, rfl⟩
              rw [hq] at HX6
              obtain ⟨OA, oc, rfl, hosl⟩ := own_form HO6.out
              have hoc := hosl.2.1
              have hom := hosl.2.2.1
              unfold maxLen at hom
              have HOSL := Lib.hid hosl
              obtain ⟨on, hon⟩ : ∃ on, nm.length = on := ⟨_, rfl⟩
              have HON := Lib.hid hon
              rw [hon] at hoc HO6 HOSL hnl3
              clear hy hb6 hx6 hosl hon
              go_wp2_with fail
              rw [HON.out]
              clear hw6 y0 y1
              go_loopw [10, 11, 35] (fun a b ix wr => ∃ (p at_ : Nat) (bv : Bool), p ≤ on ∧ ix = .int .i64 p ∧ a = .int .i64 at_ ∧ b = .bool bv ∧ insAt tx (nm.take p) = at_ ∧ at_ ≤ p ∧ Hid (has (nm.take p) tx = bv) ∧ w6 = wr) (fun _ _ ix _ => on - (intOf ix).toNat)
              case atStart => exact ⟨0, 0, false, Nat.zero_le _, rfl, rfl, rfl, rfl, Nat.le_refl _, rfl, rfl⟩
              case round =>
                obtain ⟨p, at_, bv, hp, rfl, rfl, rfl, hat, hap, HHS, rfl⟩ := hrel
                by_cases hpo : p < on
                · obtain ⟨z, hz⟩ : ∃ z, nm[p]? = some z := ⟨_, List.getElem?_eq_getElem (by rw [HON.out]; exact hpo)⟩
                  obtain ⟨od, rfl, z0⟩ := sl_at1 HOSL.out (i := p) (x := .string z) (by rw [List.getElem?_map, hz]; rfl)
                  obtain ⟨og, rfl⟩ := own_addr HO6.out
                  rw [Addr.add_lit, Nat.zero_add] at z0
                  have htk : nm.take (p + 1) = nm.take p ++ [z] := by rw [List.take_add_one, hz]; rfl
                  have hlp : (nm.take p).length = p := by rw [List.length_take, HON.out]; omega
                  obtain ⟨x0, x1, _, _⟩ := box2 HX6.out
                  obtain ⟨sv, hsv⟩ : ∃ sv, slt z tx = sv := ⟨_, rfl⟩
                  obtain ⟨ev, hev⟩ : ∃ ev, decide (z = tx) = ev := ⟨_, rfl⟩
                  have hbl : Op.bytesLess z.toList tx.toList = sv := hsv
                  have hse : (z.toList == tx.toList) = ev := by rw [toList_beq]; exact hev
                  have hwp : IntKind.i64.wrap ((p : Int) + 1) = (p : Int) + 1 := by rw [IntKind.wrap_i64]; omega
                  have HAT : Hid (insAt tx (nm.take (p + 1)) = if sv = true then p + 1 else at_) := by
                    show _ = _
                    rw [htk, insAt_snoc, hsv, hlp, hat]
                  have HHN : Hid (has (nm.take (p + 1)) tx = (bv || ev)) := by
                    show _ = _
                    rw [htk, has_snoc, HHS.out, hev]
                  clear hz htk hlp hsv hev hat
                  cases bv <;> cases ev <;> cases sv <;> (
                    go_wp2_with fail
                    go_roundw
                    case rel => first
                      | exact ⟨p + 1, p + 1, _, by omega, by go_num, by go_num, rfl, HAT.out, by omega, HHN, by trivial⟩
                      | exact ⟨p + 1, at_, _, by omega, by go_num, rfl, rfl, HAT.out, by omega, HHN, by trivial⟩
                    case measure => simp [intOf]; omega)
                · obtain rfl : p = on := by omega
                  have hta : nm.take p = nm := List.take_of_length_le (by rw [HON.out]; exact Nat.le_refl _)
                  rw [hta] at hat HHS
                  have HAT := Lib.hid hat
                  clear hta hat
                  cases bv
                  · have HIN : Hid (insN nm tx = nm.take at_ ++ [tx] ++ nm.drop at_) := by
                      show _ = _
                      unfold insN
                      rw [if_neg (by rw [HHS.out]; decide), HAT.out]
                    have hao : at_ ≤ p := hap
                    have HTK := Lib.hid (sl_take HOSL.out hao)
                    obtain ⟨x0, x1, _, _⟩ := box2 HX6.out
                    have hla : (nm.take at_).length = at_ := by rw [List.length_take, HON.out]; omega
                    have HLA := Lib.hid hla
                    have hld : (nm.drop at_).length = p - at_ := by rw [List.length_drop, HON.out]
                    have HLD := Lib.hid hld
                    have HAO := Lib.hid hao
                    clear hla hld hap
                    cases OA with
                    | none =>
                      obtain ⟨hp0, hoc0⟩ := HOSL.out.2.2.2.1 rfl
                      subst hp0 hoc0
                      obtain rfl : at_ = 0 := by omega
                      go_wp2_with (at_builtin; go_loud (refine wpList_app_own _ rfl (.tmp 56) (.tmp 59) 54 rfl w6.heap.size 9 (.string { data := #[] }) 1 16 Tryz.underlying54 inf_str rfl (by decide) (.slice none 0 0) 0 [] rfl (World.ownsRow_nil _ _ _ _) none 0 0 (strs (nm.take 0)) rfl HTK.out (strs_one _) (by unfold maxLen; omega) (by omega) (Nat.le_refl _) ?_))
                      intro v1 w7 ho1 _ hb7
                      replace ho1 : w7.ownsRow w6.heap.size 9 1 v1 0 (strs (nm.take 0)) := by simpa [strs, List.map_take] using ho1
                      have HO7 := Lib.hid ho1
                      have HB7 := Lib.hid hb7
                      have HX7 := Lib.hid ((hb7.block q (Array.getElem?_eq_some_iff.1 HX6.out).1).trans HX6.out)
                      have HA7 : Hid (Below w7.heap.size w7 (w7.alloc (.cells #[.string tx] 9))) := (Below.refl _ _).alloc (Nat.le_refl _) _
                      clear ho1 hb7 x0 x1
                      obtain ⟨x0, x1, _, _⟩ := box2 HX7.out
                      go_wp2_with (at_builtin; go_loud (refine wpList_app_own _ rfl (.tmp 61) (.tmp 64) 54 rfl w6.heap.size 9 (.string { data := #[] }) 1 16 Tryz.underlying54 inf_str rfl (by decide) v1 0 (strs (nm.take 0)) rfl (own_below HO7.out HA7.out) _ 1 1 _ rfl (sl_lit _ _ _ 1 rfl (by decide)) (by simp [Value.oneCell']) (by unfold maxLen; omega) (by omega) (by have := HB7.out.size; simp; omega) ?_))
                      intro v2 w8 ho2 _ hb8
                      have HO8 := Lib.hid ho2
                      have HB8 : Hid (Below w6.heap.size w6 w8) := (HB7.out.trans (HA7.out.mono HB7.out.size)).trans (hb8.mono (by first | exact Nat.le_refl _ | (have := HB7.out.size; simp; omega)))
                      clear ho2 hb8 x0 x1
                      have HDR : Hid (IsSl w8 1 none 0 0 (strs (nm.drop 0))) := HOSL.out.below HB8.out
                      go_wp2_with (at_builtin; go_loud (refine wpList_app_own _ rfl (.tmp 66) (.tmp 69) 54 rfl w6.heap.size 9 (.string { data := #[] }) 1 16 Tryz.underlying54 inf_str rfl (by decide) v2 (0 + 1) _ rfl HO8.out none 0 0 (strs (nm.drop 0)) rfl HDR.out (strs_one _) (by unfold maxLen; omega) (by omega) HB8.out.size ?_))
                      intro v3 w9 ho3 _ hb9
                      have HO9 : Hid (w9.ownsRow B 9 1 v3 (insN nm tx).length (strs (insN nm tx))) := by
                        show w9.ownsRow _ _ _ _ _ _
                        rw [HIN.out]
                        have e1 : (nm.take 0 ++ [tx] ++ nm.drop 0).length = 0 + 1 + 0 := by simp [HLA.out, HLD.out, List.eq_nil_of_length_eq_zero HON.out]; try omega
                        rw [e1]
                        have h1 := own_base ho3 HS6.out.1
                        simpa [strs, List.map_take, List.map_drop, List.eq_nil_of_length_eq_zero HON.out] using h1
                      have HB9 : Hid (Below w6.heap.size w6 w9) := HB8.out.trans hb9
                      have HBN : Hid (Below B w w9) := HB6.out.trans (HB9.out.mono HS6.out.1)
                      have HBM : Hid (Below w5.heap.size w5 w9) := HB56.out.trans (HB9.out.mono HS6.out.2)
                      have hil := insN_len nm tx
                      rw [HON.out] at hil
                      clear ho3 hb9
                      go_wp2_with fail
                      go_roundw
                      case rel => exact ⟨j + 1, insN nm tx, by omega, by go_num, by rw [Hid, HIT.out, HIA.out], HO9, by omega, HBN, HBM⟩
                      case measure => simp [intOf]; omega
                    | some ad =>
                      obtain ⟨og, rfl⟩ := own_addr HO6.out
                      go_wp2_with (at_builtin; go_loud (refine wpList_app_own _ rfl (.tmp 56) (.tmp 59) 54 rfl w6.heap.size 9 (.string { data := #[] }) 1 16 Tryz.underlying54 inf_str rfl (by decide) (.slice none 0 0) 0 [] rfl (World.ownsRow_nil _ _ _ _) (some ⟨og, 0, none⟩) at_ oc (strs (nm.take at_)) rfl HTK.out (strs_one _) (by unfold maxLen; omega) (by omega) (Nat.le_refl _) ?_))
                      intro v1 w7 ho1 _ hb7
                      replace ho1 : w7.ownsRow w6.heap.size 9 1 v1 at_ (strs (nm.take at_)) := by simpa [strs, List.map_take] using ho1
                      have HO7 := Lib.hid ho1
                      have HB7 := Lib.hid hb7
                      have HX7 := Lib.hid ((hb7.block q (Array.getElem?_eq_some_iff.1 HX6.out).1).trans HX6.out)
                      have HA7 : Hid (Below w7.heap.size w7 (w7.alloc (.cells #[.string tx] 9))) := (Below.refl _ _).alloc (Nat.le_refl _) _
                      clear ho1 hb7 x0 x1
                      obtain ⟨x0, x1, _, _⟩ := box2 HX7.out
                      go_wp2_with (at_builtin; go_loud (refine wpList_app_own _ rfl (.tmp 61) (.tmp 64) 54 rfl w6.heap.size 9 (.string { data := #[] }) 1 16 Tryz.underlying54 inf_str rfl (by decide) v1 at_ (strs (nm.take at_)) rfl (own_below HO7.out HA7.out) _ 1 1 _ rfl (sl_lit _ _ _ 1 rfl (by decide)) (by simp [Value.oneCell']) (by unfold maxLen; omega) (by omega) (by have := HB7.out.size; simp; omega) ?_))
                      intro v2 w8 ho2 _ hb8
                      have HO8 := Lib.hid ho2
                      have HB8 : Hid (Below w6.heap.size w6 w8) := (HB7.out.trans (HA7.out.mono HB7.out.size)).trans (hb8.mono (by first | exact Nat.le_refl _ | (have := HB7.out.size; simp; omega)))
                      clear ho2 hb8 x0 x1
                      by_cases hce : oc = at_
                      · subst hce
                        obtain rfl : p = oc := by omega
                        have HDR : Hid (IsSl w8 1 (some ⟨og, 0, none⟩) 0 0 (strs (nm.drop p))) := by
                          have := sl_dropA (HOSL.out.below HB8.out) (Nat.le_refl p) (ad := ⟨og, 0, none⟩) (fun h => by omega)
                          rwa [Nat.sub_self] at this
                        go_wp2_with (at_builtin; go_loud (refine wpList_app_own _ rfl (.tmp 66) (.tmp 69) 54 rfl w6.heap.size 9 (.string { data := #[] }) 1 16 Tryz.underlying54 inf_str rfl (by decide) v2 (p + 1) _ rfl HO8.out (some ⟨og, 0, none⟩) 0 0 (strs (nm.drop p)) rfl HDR.out (strs_one _) (by unfold maxLen; omega) (by omega) HB8.out.size ?_))
                        intro v3 w9 ho3 _ hb9
                        have HO9 : Hid (w9.ownsRow B 9 1 v3 (insN nm tx).length (strs (insN nm tx))) := by
                          show w9.ownsRow _ _ _ _ _ _
                          rw [HIN.out]
                          have e1 : (nm.take p ++ [tx] ++ nm.drop p).length = p + 1 + 0 := by simp [HLA.out, HLD.out]; try omega
                          rw [e1]
                          have h1 := own_base ho3 HS6.out.1
                          simpa [strs, List.map_take, List.map_drop] using h1
                        have HB9 : Hid (Below w6.heap.size w6 w9) := HB8.out.trans hb9
                        have HBN : Hid (Below B w w9) := HB6.out.trans (HB9.out.mono HS6.out.1)
                        have HBM : Hid (Below w5.heap.size w5 w9) := HB56.out.trans (HB9.out.mono HS6.out.2)
                        have hil := insN_len nm tx
                        rw [HON.out] at hil
                        clear ho3 hb9
                        go_wp2_with fail
                        go_roundw
                        case rel => exact ⟨j + 1, insN nm tx, by omega, by go_num, by rw [Hid, HIT.out, HIA.out], HO9, by omega, HBN, HBM⟩
                        case measure => simp [intOf]; omega
                      · have hce1 : at_ < oc := by omega
                        have HDR : Hid (IsSl w8 1 (some ⟨og, at_, none⟩) (p - at_) (oc - at_) (strs (nm.drop at_))) := sl_dropA (HOSL.out.below HB8.out) hao (fun h => rfl)
                        go_wp2_with (at_builtin; go_loud (refine wpList_app_own _ rfl (.tmp 66) (.tmp 69) 54 rfl w6.heap.size 9 (.string { data := #[] }) 1 16 Tryz.underlying54 inf_str rfl (by decide) v2 (at_ + 1) _ rfl HO8.out (some ⟨og, at_, none⟩) (p - at_) (oc - at_) (strs (nm.drop at_)) rfl HDR.out (strs_one _) (by unfold maxLen; omega) (by omega) HB8.out.size ?_))
                        intro v3 w9 ho3 _ hb9
                        have HO9 : Hid (w9.ownsRow B 9 1 v3 (insN nm tx).length (strs (insN nm tx))) := by
                          show w9.ownsRow _ _ _ _ _ _
                          rw [HIN.out]
                          have e1 : (nm.take at_ ++ [tx] ++ nm.drop at_).length = at_ + 1 + (p - at_) := by simp [HLA.out, HLD.out]; try omega
                          rw [e1]
                          have h1 := own_base ho3 HS6.out.1
                          simpa [strs, List.map_take, List.map_drop] using h1
                        have HB9 : Hid (Below w6.heap.size w6 w9) := HB8.out.trans hb9
                        have HBN : Hid (Below B w w9) := HB6.out.trans (HB9.out.mono HS6.out.1)
                        have HBM : Hid (Below w5.heap.size w5 w9) := HB56.out.trans (HB9.out.mono HS6.out.2)
                        have hil := insN_len nm tx
                        rw [HON.out] at hil
                        clear ho3 hb9
                        go_wp2_with fail
                        go_roundw
                        case rel => exact ⟨j + 1, insN nm tx, by omega, by go_num, by rw [Hid, HIT.out, HIA.out], HO9, by omega, HBN, HBM⟩
                        case measure => simp [intOf]; omega
                  · have HIN : Hid (insN nm tx = nm) := by
                      show _ = _
                      unfold insN
                      rw [if_pos HHS.out]
                    go_wp2_with fail
                    go_roundw
                    case rel => exact ⟨j + 1, nm, by omega, by go_num, by rw [Hid, HIT.out, HIA.out]; exact HIN, by rw [HON.out]; exact HO6, by rw [HON.out]; omega, HB6, HB56⟩
                    case measure => simp [intOf]; omega
            · obtain rfl : j = m := by omega
              have hta : l.take j = l := List.take_of_length_le (by rw [HM.out]; exact Nat.le_refl _)
              rw [hta] at HIA
              clear hta
              go_wp2_with fail
              go_roundw
              case rel => exact ⟨k + 1, nm, by omega, by go_num, by rw [Hid, HDN.out]; exact HIA, HOR, by omega, HBR⟩
              case measure => simp [intOf]; omega
        · obtain rfl : k = 4 := by omega
          go_wp2_with fail
          go_roundw
          case rel => exact ⟨i + 1, nm, by omega, by go_num, by rw [Hid, HNT.out, HNM.out]; exact HND, HO2, by omega, HB2⟩
          case measure => simp [intOf]; omega
    · obtain rfl : i = n := by omega
      have hta : ds.take i = ds := List.take_of_length_le (by rw [HDL.out]; exact Nat.le_refl _)
      rw [hta] at HNM
      clear hta
      go_wp2_with fail
      go_ret
      exact ⟨_, rfl, by rw [HNM.out]; exact HO.out, by rw [HNM.out]; omega, HB.out⟩
end Trm
end Go.Proofs.YtfohollhdaedlaaGreatDoor
/- Terms: the walk of the reference's All. -/
set_option linter.unusedVariables false
set_option linter.unusedSimpArgs false
set_option maxRecDepth 100000
namespace Go.Proofs.YtfohollhdaedlaaGreatDoor
open Go.RowKit
namespace Trm
open Tok
theorem OPo.nil (w : World) (B : Nat) : OPo w B (.slice none 0 0) [] := ⟨[], rfl, World.ownsRow_nil _ _ _ _, fun s hs => absurd hs List.not_mem_nil⟩
theorem OPo.below {w w' : World} {B : Nat} {v : Value} {ss : List PostM} (h : OPo w B v ss) (hb : Below w.heap.size w w') : OPo w' B v ss := by
  obtain ⟨vs, h1, h2, h3⟩ := h
  exact ⟨vs, h1, own_below h2 hb, fun s hs => (h3 s hs).below hb⟩
theorem OPo.base {w : World} {B B' : Nat} {v : Value} {ss : List PostM} (h : OPo w B v ss) (hb : B' ≤ B) : OPo w B' v ss := by
  obtain ⟨vs, h1, h2, h3⟩ := h
  exact ⟨vs, h1, own_base h2 hb, fun s hs => (h3 s hs).base hb⟩
theorem OPo.turn {w w' : World} {B B' size n : Nat} {v u : Value} {ss : List PostM} {xs : List Value} (h : OPo w B v ss) (ho : w.ownsRow B' 37 size u n xs) (hg : w.grownBy w' u.ownBlock) : OPo w' B v ss := by
  obtain ⟨vs, h1, h2, h3⟩ := h
  exact ⟨vs, h1, own_other h2 ho hg (by decide), fun s hs => (h3 s hs).turn ho hg (by decide) (by decide)⟩
theorem OSp.len {w : World} {B : Nat} {v : Value} {ss : List SpotM} (h : OSp w B v ss) : ∃ A c, v = .slice A ss.length c := by
  obtain ⟨vs, h1, h2, h3⟩ := h
  obtain ⟨A, c, hv, hs⟩ := own_form h2
  exact ⟨A, c, by rw [hv, ← h1, List.length_map]⟩
theorem posts_take {ds : List Exp.DocM} {j : Nat} {d : Exp.DocM} {f : Int} {t : ByteArray} (h : ds[j]? = some d) : posts (ds.take (j + 1)) f t = posts (ds.take j) f t ++ post1 d (f + j) t := by
  rw [List.take_add_one, h, posts_append, List.length_take, Nat.min_eq_left (Nat.le_of_lt (List.getElem?_eq_some_iff.1 h).1)]
  simp [posts]
theorem posts_few (t : ByteArray) : ∀ (ds : List Exp.DocM) (f : Int), (posts ds f t).length ≤ ds.length
  | [], _ => Nat.le_refl _
  | d :: l, f => by
    have h1 := posts_few t l (f + 1)
    rw [posts, List.length_append, List.length_cons]
    unfold post1
    split
    · simp; omega
    · simp; omega
theorem spotsN_few (d : Exp.DocM) (t : ByteArray) : ∀ i, (spotsN d t i).length ≤ i
  | 0 => Nat.le_refl _
  | i + 1 => by
    have := spotsN_few d t i
    show (addSp _ _ _).length ≤ _
    unfold addSp
    split
    · omega
    · simp; omega
set_option maxHeartbeats 16000000 in
theorem rall_calls (w : World) (A : Option Addr) (n c : Nat) (ds : List Exp.DocM) (hdl : ds.length = n) (hds : IsSl w 5 A n c (Exp.dCells ds)) (hsz : ∀ d ∈ ds, ∀ i, (d.get i).size ≤ 16777216) (hn : n ≤ 16) (f : Int) (hf : ∀ j : Nat, j < n → IntKind.i64.wrap (f + j) = f + j) :
    Calls Tryz.prog 8 #[.slice A n c, .int .i64 f] w fun e w' => ∃ v ts, e = .returned v ∧ w'.ownsRow w.heap.size 37 2 v ts.length (tmCells ts) ∧ TmOk w' ts (allT ds f) ∧ Below w.heap.size w w' := by
  have HF := Lib.hid hf
  have C := Lib.hid (rnames_calls w A n c ds hdl hds hsz hn)
  obtain ⟨it, hit, htz0, htz1, htz2⟩ := info_parts inf_term
  obtain ⟨ip, hip, hpz0, hpz1, hpz2⟩ := info_parts inf_post
  have HDS := Lib.hid hds
  have HSZ := Lib.hid hsz
  have HDL := Lib.hid hdl
  have hnc := hds.2.1
  have hcm := hds.2.2.1
  unfold maxLen at hcm
  clear hds hsz hdl hf
  go_enter Tryz.func8, Tryz.ntmps8
  go_wp2_with fail
  refine C.out.mono ?_
  rintro e w1 ⟨v0, rfl, ho, hnl, hb⟩
  obtain ⟨NA, nc, rfl, hsl⟩ := own_form ho
  have HAT : Hid (∀ i t, (names ds)[i]? = some t → (allT ds f).take (i + 1) = (allT ds f).take i ++ [(t, posts ds f t)]) := fun i t h => by
    have h1 : (allT ds f)[i]? = some (t, posts ds f t) := by
      unfold allT
      rw [List.getElem?_map, h]; rfl
    rw [List.take_add_one, h1]; rfl
  have HALL : Hid ((allT ds f).length = (names ds).length) := by
    unfold allT
    exact List.length_map ..
  obtain ⟨nm, hnm⟩ : ∃ nm, names ds = nm := ⟨_, rfl⟩
  rw [hnm] at ho hsl hnl HAT HALL ⊢
  obtain ⟨m, hm⟩ : ∃ m, nm.length = m := ⟨_, rfl⟩
  have HM := Lib.hid hm
  rw [hm] at ho hsl hnl HALL ⊢
  have hncc := hsl.2.1
  have hncm := hsl.2.2.1
  unfold maxLen at hncm
  have HSL := Lib.hid hsl
  have HNO := Lib.hid ho
  have HB1 := Lib.hid hb
  have HDS1 := Lib.hid (HDS.out.below hb)
  obtain ⟨B, hB⟩ : ∃ B, w1.heap.size = B := ⟨_, rfl⟩
  have HBB := Lib.hid hB
  have hwB : w.heap.size ≤ B := by rw [← hB]; exact hb.size
  clear ho hb hsl hnm hm C
  go_wp2_with fail
  go_loopw [5, 15] (fun out ix wr => ∃ (i : Nat) (ts : List MTerm), i ≤ m ∧ ix = .int .i64 i ∧ ts.length = i ∧ Hid (wr.ownsRow B 37 2 out i (tmCells ts)) ∧ Hid (∀ s ∈ ts, OPo wr B s.2.1 s.2.2) ∧ Hid (ts.map (fun s => (s.1, s.2.2)) = (allT ds f).take i) ∧ Hid (Below B w1 wr)) (fun _ ix _ => m - (intOf ix).toNat)
  case atStart => exact ⟨0, [], Nat.zero_le _, rfl, rfl, World.ownsRow_nil _ _ _ _, fun s hs => absurd hs List.not_mem_nil, rfl, by rw [← HBB.out]; exact Below.refl _ _⟩
  case round =>
    obtain ⟨i, ts, hi, rfl, htl, HO, HTS, HTM, HB⟩ := hrel
    by_cases hlt : i < m
    · obtain ⟨tx, htx⟩ : ∃ tx, nm[i]? = some tx := ⟨_, List.getElem?_eq_getElem (by rw [HM.out]; exact hlt)⟩
      have hbw : Below w1.heap.size w1 wr := by rw [HBB.out]; exact HB.out
      obtain ⟨nd, rfl, x0⟩ := sl_at1 (HSL.out.below hbw) (i := i) (x := .string tx) (by rw [List.getElem?_map, htx]; rfl)
      obtain ⟨ng, rfl⟩ := own_addr HNO.out
      rw [Addr.add_lit, Nat.zero_add] at x0
      have HTX := Lib.hid (HAT.out i tx htx)
      have hwi : IntKind.i64.wrap ((i : Int) + 1) = (i : Int) + 1 := by rw [IntKind.wrap_i64]; omega
      obtain ⟨q, hq⟩ : ∃ q, wr.heap.size = q := ⟨_, rfl⟩
      obtain ⟨w5, hw5⟩ : ∃ w5, wr.alloc (.cells #[.string tx, .slice none 0 0] 37) = w5 := ⟨_, rfl⟩
      have hb5 : Below wr.heap.size wr w5 := by rw [← hw5]; exact (Below.refl _ _).alloc (Nat.le_refl _) _
      have hx5 : w5.heap[q]? = some (.cells #[.string tx, .slice none 0 0] 37 (0, 0)) := by rw [← hw5, ← hq]; exact heap_alloc_new _ _
      have HBQ := Lib.hid (show B ≤ q by have := hbw.size; have := HBB.out; omega)
      rw [hq] at hb5
      have HQ := Lib.hid hq
      have HB5 := Lib.hid hb5
      have HX5 := Lib.hid hx5
      have HW5 := Lib.hid hw5
      have HQ5 := Lib.hid (show q < w5.heap.size from (Array.getElem?_eq_some_iff.1 HX5.out).1)
      clear htx hbw hb5 hx5 hw5
      go_wp2_with fail
      rw [HW5.out]
      clear x0
      obtain ⟨wz, hwz⟩ : ∃ wz, wz = wr := ⟨_, rfl⟩
      subst hwz
      go_loopw [23] (fun ix wr => ∃ (j : Nat) (av : Value), j ≤ n ∧ ix = .int .i64 j ∧ Hid (w5.grownBy wr (some q)) ∧ Hid (wr.heap[q]? = some (.cells #[.string tx, av] 37 (0, 0))) ∧ Hid (OPo wr w5.heap.size av (posts (ds.take j) f tx))) (fun ix _ => n - (intOf ix).toNat)
      case atStart => exact ⟨0, _, Nat.zero_le _, rfl, World.grownBy.refl _ _, HX5, OPo.nil _ _⟩
      case round =>
        obtain ⟨j, av, hj, rfl, HG, HQB, HA⟩ := hrel
        obtain ⟨vs, hvs, hvo, hvi⟩ := HA.out
        obtain ⟨AV, cv, rfl, hav⟩ := own_form hvo
        have hkj : vs.length ≤ j := by
          have h1 := congrArg List.length hvs
          rw [List.length_map] at h1
          rw [h1]
          exact Nat.le_trans (posts_few tx _ f) (by rw [List.length_take]; omega)
        obtain ⟨k, hk⟩ : ∃ k, vs.length = k := ⟨_, rfl⟩
        rw [hk] at hvo hav hkj HQB HA
        have hcv := hav.2.1
        have hcw := hav.2.2.1
        unfold maxLen at hcw
        have HVS := Lib.hid hvs
        have HVO := Lib.hid hvo
        have HVI := Lib.hid hvi
        have HK := Lib.hid hk
        have HBR : Hid (Below q wz wr) := ⟨HG.out.os.trans HB5.out.os, HG.out.tape.trans HB5.out.tape, HG.out.output.trans HB5.out.output, Nat.le_trans HB5.out.size HG.out.size, fun k hk => (HG.out.block k (by have := HQ5.out; omega) (fun e => by have := Option.some.inj e; omega)).trans (HB5.out.block k hk)⟩
        have HBR1 : Hid (Below B w1 wr) := HB.out.trans (HBR.out.mono HBQ.out)
        have HS5 := Lib.hid (show w5.heap.size ≤ wr.heap.size from HG.out.size)
        clear hvs hvo hvi hk hav
        by_cases hjn : j < n
        · obtain ⟨d, hd⟩ : ∃ d, ds[j]? = some d := ⟨_, List.getElem?_eq_getElem (by rw [HDL.out]; exact hjn)⟩
          have hbw : Below w1.heap.size w1 wr := by rw [HBB.out]; exact HBR1.out
          obtain ⟨bb, oo, rfl, e0, e1, e2, e3, e4⟩ := Exp.d_at (HDS1.out.below hbw) hd
          have HPT := Lib.hid (posts_take (f := f) (t := tx) hd)
          have HSD := Lib.hid (HSZ.out d (List.mem_of_getElem? hd))
          have hwj : IntKind.i64.wrap ((j : Int) + 1) = (j : Int) + 1 := by rw [IntKind.wrap_i64]; omega
          have hwf := HF.out j hjn
          obtain ⟨w6, hw6⟩ : ∃ w6, wr.alloc (.cells #[.string d.id, .string d.t0, .string d.t1, .string d.t2, .string d.t3] 27) = w6 := ⟨_, rfl⟩
          have HB6 : Hid (Below wr.heap.size wr w6) := by
            show Below _ _ _
            rw [← hw6]; exact (Below.refl _ _).alloc (Nat.le_refl _) _
          have HX6 : Hid (w6.heap[q]? = some (.cells #[.string tx, .slice AV k cv] 37 (0, 0))) := (HB6.out.block q (Array.getElem?_eq_some_iff.1 HQB.out).1).trans HQB.out
          have HW6 := Lib.hid hw6
          have C := Lib.hid (rspots_calls d HSD.out tx w6)
          obtain ⟨ss, hss⟩ : ∃ ss, spotsD d tx = ss := ⟨_, rfl⟩
          rw [hss] at C
          have HPS : Hid (posts (ds.take (j + 1)) f tx = posts (ds.take j) f tx ++ if ss = [] then [] else [(f + j, ss)]) := by
            show _ = _
            rw [HPT.out, post1, hss]
          have hsl4 : ss.length ≤ 4 := by rw [← hss]; exact spotsN_few d tx 4
          obtain ⟨id, t0, t1, t2, t3⟩ := d
          simp only [Exp.docV, Exp.docC] at C
          simp only at e0 e1 e2 e3 e4
          clear hd hbw hw6 hss
          go_wp2_with fail
          rw [HW6.out]
          clear e0 e1 e2 e3 e4
          refine C.out.mono ?_
          rintro e w7 ⟨v1, rfl, hop, hb⟩
          obtain ⟨SA, sc, rfl⟩ := hop.len
          have HOP := Lib.hid hop
          have HB7 := Lib.hid hb
          have HX7 : Hid (w7.heap[q]? = some (.cells #[.string tx, .slice AV k cv] 37 (0, 0))) := (hb.block q (Array.getElem?_eq_some_iff.1 HX6.out).1).trans HX6.out
          have HB17 : Hid (Below wr.heap.size wr w7) := HB6.out.trans (hb.mono HB6.out.size)
          have HSS := Lib.hid (show wr.heap.size ≤ w6.heap.size ∧ w6.heap.size ≤ w7.heap.size from ⟨HB6.out.size, hb.size⟩)
          have HG7 : Hid (w5.grownBy w7 (some q)) := grown_after HG.out (HB17.out.mono HS5.out)
          have HA7 : Hid (OPo w7 w5.heap.size (.slice AV k cv) (posts (ds.take j) f tx)) := HA.out.below HB17.out
          clear hop hb C
          by_cases hs0 : ss = []
          · subst hs0
            have hse : Hid (posts (ds.take (j + 1)) f tx = posts (ds.take j) f tx) := by
              show _ = _
              rw [HPS.out, if_pos rfl, List.append_nil]
            go_wp2_with fail
            go_roundw
            case rel => exact ⟨j + 1, _, by omega, by go_num, HG7, HX7, by rw [Hid, hse.out]; exact HA7.out⟩
            case measure => simp [intOf]; omega
          · have hse : Hid (posts (ds.take (j + 1)) f tx = posts (ds.take j) f tx ++ [(f + j, ss)]) := by
              show _ = _
              rw [HPS.out, if_neg hs0]
            have hsp : (0 : Int) < (ss.length : Int) := by have := List.length_pos_iff.2 hs0; omega
            have hsn : 0 < ss.length := List.length_pos_iff.2 hs0
            obtain ⟨b0, b1, _, _⟩ := box2 HX7.out
            have HAL : Hid (Below w7.heap.size w7 (w7.alloc (.cells #[.int .i64 (f + j), .slice SA ss.length sc] 41))) := (Below.refl _ _).alloc (Nat.le_refl _) _
            have HV7 : Hid (w7.ownsRow w5.heap.size 41 2 (.slice AV k cv) k (poCells vs)) := own_below HVO.out HB17.out
            go_wp2_with (at_builtin; go_loud (refine wpList_append_lies _ rfl (.tmp 35) (.tmp 41) 35 rfl w5.heap.size 41 ip (.agg #[.int .i64 0, .slice none 0 0]) 2 32 Tryz.underlying35 hip hpz0 hpz1 hpz2 rfl (by decide) (.slice AV k cv) k (poCells vs) rfl (own_below HV7.out HAL.out) ⟨w7.heap.size, 0, none⟩ 1 1 [.int .i64 (f + j), .slice SA ss.length sc] rfl rfl (World.news_of_block (cs := #[.int .i64 (f + j), .slice SA ss.length sc]) (t := 41) (fr := (0, 0)) (heap_alloc_new w7 _)) (by simp [Value.oneCell']) (by decide) (by unfold maxLen; omega) (by omega) (by have := HS5.out; have := HSS.out; simp; omega) (w7.heap.size + 1) (by simp) ?_))
            rintro g7 cap7 w8 ho8 hg8 hat8 hlt8
            have hx7a := (HAL.out.block q (Array.getElem?_eq_some_iff.1 HX7.out).1).trans HX7.out
            have hx8 : w8.heap[q]? = some (.cells #[.string tx, .slice AV k cv] 37 (0, 0)) := (hg8.block q (Array.getElem?_eq_some_iff.1 hx7a).1 (own_ne (own_below HV7.out HAL.out) hx7a (by decide))).trans hx7a
            obtain ⟨_, u1, _, u3⟩ := box2 hx8
            have HX9 : Hid ((w8.setCell ⟨q, 1, none⟩ (.slice (some ⟨g7, 0, none⟩) (k + 1) cap7)).heap[q]? = some (.cells #[.string tx, .slice (some ⟨g7, 0, none⟩) (k + 1) cap7] 37 (0, 0))) := heap_set2b hx8
            have HA9 : Hid (OPo (w8.setCell ⟨q, 1, none⟩ (.slice (some ⟨g7, 0, none⟩) (k + 1) cap7)) w5.heap.size (.slice (some ⟨g7, 0, none⟩) (k + 1) cap7) (posts (ds.take (j + 1)) f tx)) := by
              refine ⟨vs ++ [(f + j, .slice SA ss.length sc, ss)], ?_, ?_, fun s hs => ?_⟩
              · rw [hse.out, List.map_append, HVS.out]; rfl
              · rw [List.length_append, List.length_singleton, HK.out, poCells_append]
                exact own_aside ho8 hx8 (by decide) (grown_cell _)
              · have h1 : OSp (w7.alloc (.cells #[.int .i64 (f + j), .slice SA ss.length sc] 41)) w5.heap.size s.2.1 s.2.2 := by
                  rcases List.mem_append.1 hs with hs | hs
                  · exact ((HVI.out s hs).below HB17.out).below HAL.out
                  · rw [List.mem_singleton.1 hs]
                    exact (HOP.out.below HAL.out).base (by have := HS5.out; have := HSS.out; omega)
                exact (h1.turn (own_below HV7.out HAL.out) hg8 (by decide) (by decide)).aside hx8 (grown_cell _) (by decide) (by decide)
            have HG9 : Hid (w5.grownBy (w8.setCell ⟨q, 1, none⟩ (.slice (some ⟨g7, 0, none⟩) (k + 1) cap7)) (some q)) := (grown_after HG7.out ((HAL.out.mono (by have := HS5.out; have := HSS.out; omega)).grown hg8 (by have := HS5.out; have := HSS.out; simp; omega) (fun r hr => (HV7.out.lt r hr).1))).trans (grown_cell _)
            clear ho8 hg8 hat8 hlt8 hx7a hx8 b0 b1
            go_wp2_with fail
            go_roundw
            case rel => exact ⟨j + 1, _, by omega, by go_num, HG9, HX9, HA9⟩
            case measure => simp [intOf]; omega
        · obtain rfl : j = n := by omega
          have hta : ds.take j = ds := List.take_of_length_le (by rw [HDL.out]; exact Nat.le_refl _)
          rw [hta] at HA HVS
          obtain ⟨b0, b1, _, _⟩ := box2 HQB.out
          have hBR : Below wz.heap.size wz wr := by rw [HQ.out]; exact HBR.out
          have HO6 := Lib.hid (own_below HO.out hBR)
          have HTS6 : Hid (∀ s ∈ ts, OPo wr B s.2.1 s.2.2) := fun s hs => (HTS.out s hs).below hBR
          have HA9 := Lib.hid (HA.out.base (show B ≤ w5.heap.size by have h1 := HBQ.out; have h2 := HQ5.out; omega))
          have HAL : Hid (Below wr.heap.size wr (wr.alloc (.cells #[.string tx, .slice AV k cv] 37))) := (Below.refl _ _).alloc (Nat.le_refl _) _
          have hBS : B ≤ wr.heap.size := by have h1 := HBQ.out; have h2 := HQ5.out; have h3 := HS5.out; omega
          have HBS := Lib.hid hBS
          clear hta hBR hBS
          go_wp2_with (at_builtin; go_loud (refine wpList_append_lies _ rfl (.tmp 45) (.tmp 47) 29 rfl B 37 it (.agg #[.string { data := #[] }, .slice none 0 0]) 2 40 Tryz.underlying29 hit htz0 htz1 htz2 rfl (by decide) _ i (tmCells ts) rfl (own_below HO6.out HAL.out) ⟨wr.heap.size, 0, none⟩ 1 1 [.string tx, .slice AV k cv] rfl rfl (World.news_of_block (cs := #[.string tx, .slice AV k cv]) (t := 37) (fr := (0, 0)) (heap_alloc_new wr _)) (by simp [Value.oneCell']) (by decide) (by unfold maxLen; omega) (by omega) (by have := HBS.out; simp; omega) (wr.heap.size + 1) (by simp) ?_))
          rintro g7 cap7 w8 ho8 hg8 hat8 hlt8
          have HO8 : Hid (w8.ownsRow B 37 2 (.slice (some ⟨g7, 0, none⟩) (i + 1) cap7) (i + 1) (tmCells (ts ++ [(tx, .slice AV k cv, posts ds f tx)]))) := by
            show w8.ownsRow _ _ _ _ _ _
            rw [tmCells_append]; exact ho8
          have HTS8 : Hid (∀ s ∈ ts ++ [(tx, .slice AV k cv, posts ds f tx)], OPo w8 B s.2.1 s.2.2) := fun s hs => by
            have h1 : OPo wr B s.2.1 s.2.2 := by
              rcases List.mem_append.1 hs with hs | hs
              · exact HTS6.out s hs
              · rw [List.mem_singleton.1 hs]; exact HA9.out
            exact (h1.below HAL.out).turn (own_below HO6.out HAL.out) hg8
          have HB8 : Hid (Below B w1 w8) := (HBR1.out.trans (HAL.out.mono HBS.out)).grown hg8 (by have := HBS.out; simp; omega) (fun r hr => (HO6.out.lt r hr).1)
          clear ho8 hg8 hat8 hlt8 b0 b1
          go_wp2_with fail
          go_roundw
          case rel => exact ⟨i + 1, ts ++ [(tx, .slice AV k cv, posts ds f tx)], by omega, by go_num, by rw [List.length_append, htl]; rfl, HO8, HTS8, by rw [Hid, HTX.out, List.map_append, HTM.out]; rfl, HB8⟩
          case measure => simp [intOf]; omega
    · obtain rfl : i = m := by omega
      have hta : (allT ds f).take i = allT ds f := List.take_of_length_le (by rw [HALL.out]; exact Nat.le_refl _)
      rw [hta] at HTM
      clear hta
      go_wp2_with fail
      go_ret
      exact ⟨_, ts, rfl, by rw [htl]; exact own_base HO.out hwB, ⟨fun s hs => (HTS.out s hs).posts, HTM.out⟩, HB1.out.trans (HB.out.mono hwB)⟩
end Trm
end Go.Proofs.YtfohollhdaedlaaGreatDoor
