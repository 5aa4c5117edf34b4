/- Terms: the law TermsEach: the walk. -/
import Derived.Test.YtfohollhdaedlaaDoorTrm23
import Derived.Test.YtfohollhdaedlaaDoorTrm24
set_option linter.unusedVariables false
set_option linter.unusedSimpArgs false
set_option maxRecDepth 100000
namespace Go.Proofs.YtfohollhdaedlaaDoor
open Go.RowKit
namespace Trm
open Tok
theorem slt_ne' {a b : ByteArray} (h : slt a b = true) : a ≠ b := fun hh => by rw [hh, slt_irrefl] at h; cases h
theorem slt_empty {e : ByteArray} (h : 0 < e.size) : slt { data := #[] } e = true := by
  rw [slt_iff]
  have hl : 0 < e.data.toList.length := by rw [Array.length_toList]; exact h
  cases hd : e.data.toList with
  | nil => rw [hd] at hl; simp at hl
  | cons a l => exact List.nil_lt_cons a l
theorem totS_take {ss : List SpotM} {k : Nat} {s : SpotM} (h : ss[k]? = some s) : totS (ss.take (k + 1)) = totS (ss.take k) + s.2.length := by
  unfold totS
  rw [List.take_add_one, h, List.map_append, List.sum_append]
  simp
theorem tot_take {m : TabM} {k : Nat} {e : ByteArray × List SpotM} (h : m[k]? = some e) : tot (m.take (k + 1)) = tot (m.take k) + totS e.2 := by
  unfold tot
  rw [List.take_add_one, h, List.map_append, List.sum_append]
  simp
theorem sum_take_le : ∀ (l : List Nat) (k : Nat), (l.take k).sum ≤ l.sum
  | [], k => by simp
  | x :: l, 0 => by simp
  | x :: l, k + 1 => by
    have := sum_take_le l k
    simp only [List.take_succ_cons, List.sum_cons]; omega
theorem totS_le (ss : List SpotM) (k : Nat) : totS (ss.take k) ≤ totS ss := by
  unfold totS
  rw [List.map_take]
  exact sum_take_le _ _
theorem tot_le (m : TabM) (k : Nat) : tot (m.take k) ≤ tot m := by
  unfold tot
  rw [List.map_take]
  exact sum_take_le _ _
theorem lens_few (d : Exp.DocM) : ∀ i, lens d i ≤ 60 * i
  | 0 => Nat.le_refl _
  | i + 1 => by
    have h1 := lens_few d i
    have h2 := trms_few (d.get i)
    show lens d i + (trms (d.get i)).length ≤ _
    omega
theorem docs_new {w : World} {g : Nat} {d : Exp.DocM} {t : TypeId} {fr : Nat × Nat} (h : w.heap[g]? = some (.cells (Exp.docC d) t fr)) : RDocs w (.slice (some ⟨g, 0, none⟩) 1 1) [d] := by
  refine ⟨some ⟨g, 0, none⟩, 1, rfl, rfl, Nat.le_refl _, by decide, fun ha => (by cases ha), fun ad ha j u hu => ?_⟩
  obtain rfl := Option.some.inj ha
  rw [Addr.add_lit, Nat.zero_add]
  have hu2 : (Exp.docC d)[j]? = some u := by
    have hu3 : (Exp.docC d).toList[j]? = some u := hu
    rw [← hu3]; simp
  simp only [World.cell?, h]
  simpa using hu2
set_option maxHeartbeats 16000000 in
theorem each_proof (w : World) (hL : LaidT w) (d : Exp.DocM) (hd : ∀ i, (d.get i).size ≤ 16777216) :
    Calls Tryd.prog 6 #[Exp.docV d] w fun e w' => e = .returned (.bool true) ∧ Below w.heap.size w w' := by
  have HL := Lib.hid hL
  have HD := Lib.hid hd
  have HIX := Lib.hid (Exp.idx_arr d)
  obtain ⟨p, hdok⟩ := docM_ok d
  have HOK := Lib.hid hdok
  have HTOT := Lib.hid (tot_doc d)
  have HLEN := Lib.hid (lens_few d)
  have HCD := Lib.hid (doc_calls d hd 3)
  obtain ⟨N, hN⟩ : ∃ N, w.heap.size = N := ⟨_, rfl⟩
  have HNN := Lib.hid hN
  obtain ⟨wB, hwB⟩ : ∃ wB, (w.alloc (.cells (Exp.docC d) 33)).alloc (.cells (Exp.docC d) 33) = wB := ⟨_, rfl⟩
  have hbB : Below w.heap.size w wB := by rw [← hwB]; exact ((Below.refl _ _).alloc (Nat.le_refl _) _).alloc (by simp) _
  have h1 := heap_alloc_new w (.cells (Exp.docC d) 33)
  have hx1 : wB.heap[N]? = some (.cells (Exp.docC d) 33 (0, 0)) := by
    rw [← hwB, ← hN]
    exact (((Below.refl (w.alloc (.cells (Exp.docC d) 33)).heap.size _).alloc (Nat.le_refl _) _).block _ (Array.getElem?_eq_some_iff.1 h1).1).trans h1
  have hx2 : wB.heap[N + 1]? = some (.cells (Exp.docC d) 33 (0, 0)) := by
    rw [← hwB, ← hN]
    have := heap_alloc_new (w.alloc (.cells (Exp.docC d) 33)) (.cells (Exp.docC d) 33)
    simpa using this
  have hzB : wB.heap.size = N + 2 := by rw [← hwB, ← hN]; simp
  obtain ⟨wC, hwC⟩ : ∃ wC, wB.alloc (.cells #[.slice (some ⟨N + 1, 0, none⟩) 1 1] 23) = wC := ⟨_, rfl⟩
  have hbC : Below wB.heap.size wB wC := by rw [← hwC]; exact (Below.refl _ _).alloc (Nat.le_refl _) _
  have hslC : IsSl wC 1 (some ⟨N + 2, 0, none⟩) 1 1 [.slice (some ⟨N + 1, 0, none⟩) 1 1] := by
    rw [← hwC, ← hzB]
    exact sl_lit wB #[.slice (some ⟨N + 1, 0, none⟩) 1 1] 23 1 rfl (by decide)
  have HBC := Lib.hid (below_next hbB hbC)
  have HX : Hid (wC.heap[N]? = some (.cells (Exp.docC d) 33 (0, 0))) := (hbC.block _ (by omega)).trans hx1
  have CS := Lib.hid (short_calls wC _ 1 1 [(.slice (some ⟨N + 1, 0, none⟩) 1 1, [d])] rfl hslC (fun x hx => by
    rw [List.mem_singleton.1 hx]
    exact docs_new ((hbC.block _ (by omega)).trans hx2)))
  have HWB := Lib.hid hwB
  have HWC := Lib.hid hwC
  obtain ⟨id, t0, t1, t2, t3⟩ := d
  simp only [Exp.docV, Exp.docC] at HX HWB HCD ⊢
  clear hwB hwC hbB h1 hx1 hx2 hzB hbC hslC hL hd hdok
  go_enter Tryd.func6, Tryd.ntmps6
  go_wp2_with fail
  rw [HWB.out, HWC.out]
  refine CS.out.mono ?_
  rintro e w2 ⟨⟨b, rfl, _⟩, hb⟩
  have HB2 := Lib.hid (below_next HBC.out hb)
  have hx2 : w2.heap[N]? = some (.cells #[.string id, .string t0, .string t1, .string t2, .string t3] 33 (0, 0)) := (hb.block _ (Array.getElem?_eq_some_iff.1 HX.out).1).trans HX.out
  have HX2 := Lib.hid hx2
  clear hb CS
  cases b
  · clear hx2
    go_wp2_with fail
    refine (awake_calls _ (HL.out.below HB2.out)).mono ?_
    rintro e w3 ⟨rfl, hb⟩
    have HB3 := Lib.hid (below_next HB2.out hb)
    clear hb
    go_wp2_with fail
    go_ret
    exact ⟨rfl, HB3.out⟩
  · have k0 : w2.cell? ⟨N, 0, none⟩ = some (.string id) := by simp [World.cell?, hx2]
    have k1 : w2.cell? ⟨N, 1, none⟩ = some (.string t0) := by simp [World.cell?, hx2]
    have k2 : w2.cell? ⟨N, 2, none⟩ = some (.string t1) := by simp [World.cell?, hx2]
    have k3 : w2.cell? ⟨N, 3, none⟩ = some (.string t2) := by simp [World.cell?, hx2]
    have k4 : w2.cell? ⟨N, 4, none⟩ = some (.string t3) := by simp [World.cell?, hx2]
    have K0 := Lib.hid k0
    have K1 := Lib.hid k1
    have K2 := Lib.hid k2
    have K3 := Lib.hid k3
    have K4 := Lib.hid k4
    clear hx2
    go_wp2_with fail
    clear k0 k1 k2 k3 k4
    go_loopw [3, 21] (fun a ix wr => ∃ (i q : Nat), i ≤ 4 ∧ ix = .int .i64 i ∧ a = .int .i64 q ∧ lens ⟨id, t0, t1, t2, t3⟩ i = q ∧ Below w2.heap.size w2 wr) (fun _ ix _ => 4 - (intOf ix).toNat)
    case atStart => exact ⟨0, 0, Nat.zero_le _, rfl, rfl, rfl, Below.refl _ _⟩
    case round =>
      obtain ⟨i, q, hi, rfl, rfl, hq, hb⟩ := hrel
      have HB := Lib.hid hb
      have HQ := Lib.hid hq
      have hq60 := HLEN.out i
      rw [hq] at hq60
      by_cases hlt : i < 4
      · have hix := fun W => HIX.out i hlt W
        obtain ⟨x, hx⟩ : ∃ x, Exp.DocM.get ⟨id, t0, t1, t2, t3⟩ i = x := ⟨_, rfl⟩
        rw [hx] at hix
        have HXX := Lib.hid hx
        have C := Lib.hid (ttext_calls x (by rw [← hx]; exact HD.out i) wr (HL.out.below (below_next HB2.out hb)))
        clear hx hb hq
        go_wp2_with fail
        refine C.out.mono ?_
        rintro e w3 ⟨v1, rfl, ho, hb⟩
        obtain ⟨A, c, rfl, hsl⟩ := own_form ho
        have HB3 := Lib.hid (below_next HB.out hb)
        obtain ⟨n, hn⟩ : ∃ n, (trms x).length = n := ⟨_, rfl⟩
        have hfew : n ≤ 60 := by rw [← hn]; exact trms_few x
        have HNX : Hid (lens ⟨id, t0, t1, t2, t3⟩ (i + 1) = q + n) := by show lens _ i + (trms (Exp.DocM.get _ i)).length = _; rw [HQ.out, HXX.out, hn]
        have hcm := hsl.2.2.1
        have hcn := hsl.2.1
        unfold maxLen at hcm
        rw [hn] at hcn ⊢
        have hwi : IntKind.i64.wrap ((i : Int) + 1) = (i : Int) + 1 := by rw [IntKind.wrap_i64]; omega
        clear ho hb hsl hn C
        go_wp2_with fail
        go_roundw
        case rel => exact ⟨i + 1, q + n, by omega, by go_num, by go_num, HNX.out, HB3.out⟩
        case measure => simp [intOf]; omega
      · obtain rfl : i = 4 := by omega
        have k0 := cell_kept hb K0.out
        have k1 := cell_kept hb K1.out
        have k2 := cell_kept hb K2.out
        have k3 := cell_kept hb K3.out
        have k4 := cell_kept hb K4.out
        have HBR := Lib.hid (below_next HB2.out hb)
        have C := Lib.hid (HCD.out wr (HL.out.below HBR.out))
        clear hb hq
        go_wp2_with fail
        refine C.out.mono ?_
        rintro e w3 ⟨v, ts, rfl, ho, ⟨hrp, hts⟩, hb⟩
        clear C k0 k1 k2 k3 k4
        have HB3 := Lib.hid (below_next HBR.out hb)
        obtain ⟨A, c, rfl, hsl⟩ := own_form ho
        unfold docT at hts
        obtain ⟨m, hm⟩ : ∃ m, docM ⟨id, t0, t1, t2, t3⟩ = m := ⟨_, rfl⟩
        rw [hm] at hts hsl HOK HTOT ⊢
        obtain ⟨n, hn⟩ : ∃ n, m.length = n := ⟨_, rfl⟩
        rw [hn] at hsl ⊢
        have hcm := hsl.2.2.1
        have hcn := hsl.2.1
        unfold maxLen at hcm
        have HN := Lib.hid hn
        have HTN : Hid (ts.length = n) := by
          have := congrArg List.length hts
          rw [List.length_map, List.length_map] at this
          show _ = _
          rw [this, hn]
        have HSL := Lib.hid hsl
        have HTS := Lib.hid hts
        have HRP := Lib.hid hrp
        have HTM : Hid (tot m = q) := HTOT.out.trans HQ.out
        clear ho hb hsl hrp hts hm hn
        go_wp2_with fail
        obtain ⟨wz, hwz⟩ : ∃ wz, wz = wr := ⟨_, rfl⟩
        subst hwz
        go_loopw [6, 7, 33] (fun cn la ix wr => ∃ (i z : Nat) (last : ByteArray), i ≤ n ∧ ix = .int .i64 i ∧ la = .string last ∧ cn = .int .i64 z ∧ tot (m.take i) = z ∧ Hid (∀ j e, i ≤ j → m[j]? = some e → slt last e.1 = true) ∧ Below w3.heap.size w3 wr) (fun _ _ ix _ => n - (intOf ix).toNat)
        case atStart => exact ⟨0, 0, _, Nat.zero_le _, rfl, rfl, rfl, rfl, fun j e _ he => slt_empty (HOK.out.2 e (List.mem_of_getElem? he)).1, Below.refl _ _⟩
        case round =>
          obtain ⟨i, z, last, hi, rfl, rfl, rfl, hz, HLT, hb⟩ := hrel
          have HB := Lib.hid hb
          have HZ := Lib.hid hz
          by_cases hlt : i < n
          · obtain ⟨e, he⟩ : ∃ e, m[i]? = some e := ⟨_, List.getElem?_eq_getElem (by rw [HN.out]; exact hlt)⟩
            obtain ⟨x, hx⟩ : ∃ x, ts[i]? = some x := ⟨_, List.getElem?_eq_getElem (by rw [HTN.out]; exact hlt)⟩
            obtain ⟨ab, ao, rfl, z0, z1⟩ := term_at (HSL.out.below hb) hx
            have hr := (HRP.out x (List.mem_of_getElem? hx)).below hb
            have hxe : (x.1, x.2.2) = (e.1, [((3 : Int), e.2)]) := by
              have h1 := congrArg (fun l => l[i]?) HTS.out
              simp only [List.getElem?_map, hx, he, Option.map_some] at h1
              exact Option.some.inj h1
            have hbl : Op.bytesLess last.toList e.1.toList = true := HLT.out i e (Nat.le_refl _) he
            have HOE := Lib.hid (HOK.out.2 e (List.mem_of_getElem? he)).2
            have HTK := Lib.hid (tot_take he)
            have HLN : Hid (∀ j e', i + 1 ≤ j → m[j]? = some e' → slt e.1 e'.1 = true) := fun j e' hj he' => by
              have h1 := List.pairwise_iff_getElem.1 HOK.out.1 i j (List.getElem?_eq_some_iff.1 he).1 (List.getElem?_eq_some_iff.1 he').1 (by omega)
              rw [(List.getElem?_eq_some_iff.1 he).2, (List.getElem?_eq_some_iff.1 he').2] at h1
              exact h1
            obtain ⟨key, ss⟩ := e
            obtain ⟨xk, xv, xp⟩ := x
            simp only [Prod.mk.injEq] at hxe
            obtain ⟨rfl, rfl⟩ := hxe
            simp only at z0 z1 hr hbl HOE HTK HLN
            have hbl2 : Op.bytesLess xk.toList last.toList = false := slt_asymm hbl
            have hbl3 : (xk.toList == last.toList) = false := by rw [toList_beq, decide_eq_false_iff_not]; exact fun h => slt_ne' hbl h.symm
            obtain ⟨pb, po, pc, sv, rfl, hp1, hp2, p0, p1, hs⟩ := posts_one hr
            simp only at p0 hs
            obtain ⟨SA, sc, vs, rfl, hss, hsi, hsm⟩ := hs
            obtain ⟨sn, hsn⟩ : ∃ sn, vs.length = sn := ⟨_, rfl⟩
            rw [hsn] at p1 hss
            have hsc := hss.2.1
            have hsc2 := hss.2.2.1
            unfold maxLen at hp2 hsc2
            have HVN := Lib.hid hsn
            have HSN : Hid (ss.length = sn) := by show _ = _; rw [← hsm, List.length_map, hsn]
            have HSS := Lib.hid hss
            have HSI := Lib.hid hsi
            have HSM := Lib.hid hsm
            have hbA : Below wr.heap.size wr (wr.alloc (.cells #[.string xk, .slice (some ⟨pb, po, none⟩) 1 pc] 43)) := (Below.refl _ _).alloc (Nat.le_refl _) _
            have p0' := cell_kept hbA p0
            have p1' := cell_kept hbA p1
            have HBA := Lib.hid hbA
            have HB4 := Lib.hid (below_next hb hbA)
            have HTL := Lib.hid (tot_le m (i + 1))
            have hw1 : IntKind.i64.wrap ((i : Int) + 1) = (i : Int) + 1 := by rw [IntKind.wrap_i64]; omega
            clear he hx hr hb hz hss hsi hsm hsn hbA
            go_wp2_with fail
            clear z0 z1 p0 p1 p0' p1'
            obtain ⟨w4, hw4⟩ : ∃ w4, wr.alloc (.cells #[.string xk, .slice (some ⟨pb, po, none⟩) 1 pc] 43) = w4 := ⟨_, rfl⟩
            rw [hw4] at HBA HB4
            rw [hw4]
            clear hw4
            obtain ⟨wy, hwy⟩ : ∃ wy, wy = wr := ⟨_, rfl⟩
            subst hwy
            go_loopw [6, 10, 63] (fun cn fl ix wr => ∃ (k y : Nat) (f : Int), k ≤ sn ∧ ix = .int .i64 k ∧ fl = .int .i64 f ∧ cn = .int .i64 y ∧ z + totS (ss.take k) = y ∧ Hid (∀ j s, k ≤ j → ss[j]? = some s → f < s.1) ∧ Below w4.heap.size w4 wr) (fun _ _ ix _ => sn - (intOf ix).toNat)
            case atStart => exact ⟨0, z, 0, Nat.zero_le _, rfl, rfl, rfl, rfl, fun j s _ hs => (HOE.out.2 s (List.mem_of_getElem? hs)).1, Below.refl _ _⟩
            case round =>
              obtain ⟨k, y, f, hk, rfl, rfl, rfl, hy, HFL, hb⟩ := hrel
              have HB5 := Lib.hid hb
              have HY := Lib.hid hy
              by_cases hks : k < sn
              · obtain ⟨s, hs⟩ : ∃ s, ss[k]? = some s := ⟨_, List.getElem?_eq_getElem (by rw [HSN.out]; exact hks)⟩
                obtain ⟨x, hx⟩ : ∃ x, vs[k]? = some x := ⟨_, List.getElem?_eq_getElem (by rw [HVN.out]; exact hks)⟩
                have hbw := below_next HBA.out hb
                obtain ⟨sb, so, rfl, q0, q1⟩ := spot_at (HSS.out.below hbw) hx
                have hr := (HSI.out x (List.mem_of_getElem? hx)).below hbw
                have hxe : (x.1, x.2.2) = s := by
                  have h1 := congrArg (fun l => l[k]?) HSM.out
                  simp only [List.getElem?_map, hx, hs, Option.map_some] at h1
                  exact Option.some.inj h1
                obtain ⟨h1, h2, h3, h4, _⟩ := HOE.out.2 s (List.mem_of_getElem? hs)
                have hfl := HFL.out k s (Nat.le_refl _) hs
                have HTS2 := Lib.hid (totS_take hs)
                have HTL2 := Lib.hid (totS_le ss (k + 1))
                have HFN : Hid (∀ j s', k + 1 ≤ j → ss[j]? = some s' → s.1 < s'.1) := fun j s' hj hs' => by
                  have h1 := List.pairwise_iff_getElem.1 HOE.out.1 k j (List.getElem?_eq_some_iff.1 hs).1 (List.getElem?_eq_some_iff.1 hs').1 (by omega)
                  rw [(List.getElem?_eq_some_iff.1 hs).2, (List.getElem?_eq_some_iff.1 hs').2] at h1
                  exact h1
                obtain ⟨sf, sl⟩ := s
                obtain ⟨xf, xv, xl⟩ := x
                simp only [Prod.mk.injEq] at hxe
                obtain ⟨rfl, rfl⟩ := hxe
                simp only at q0 q1 hr h1 h2 h3 h4 hfl HTS2 HFN
                obtain ⟨XA, xc, rfl, hxs⟩ := hr
                obtain ⟨p, hp⟩ : ∃ p, xl.length = p := ⟨_, rfl⟩
                have hp0 : 0 < p := by rw [← hp]; exact List.length_pos_iff.2 h3
                rw [hp] at q1 hxs HTS2
                have hxc := hxs.2.1
                have hxc2 := hxs.2.2.1
                unfold maxLen at hxc2
                have hsum : y + p ≤ 240 := by
                  have a1 := HTS2.out
                  have a2 := HTL2.out
                  have a3 := HTK.out
                  have a4 := HTL.out
                  have a5 := HTM.out
                  have a6 := HZ.out
                  omega
                obtain ⟨w5, hw5⟩ : ∃ w5, wr.alloc (.cells #[.int .i64 xf, .slice XA p xc] 49) = w5 := ⟨_, rfl⟩
                have hb5 : Below wr.heap.size wr w5 := by rw [← hw5]; exact (Below.refl _ _).alloc (Nat.le_refl _) _
                have r0 : w5.cell? ⟨wr.heap.size, 0, none⟩ = some (.int .i64 xf) := by rw [← hw5]; exact cell_new _ _ _ _ 0
                have r1 : w5.cell? ⟨wr.heap.size, 1, none⟩ = some (.slice XA p xc) := by rw [← hw5]; exact cell_new _ _ _ _ 1
                have R0 := Lib.hid r0
                have R1 := Lib.hid r1
                have C := Lib.hid (issorted_calls w5 XA p xc xl (hxs.below hb5) h4)
                have HB6 := Lib.hid (below_next HB5.out hb5)
                have HW5 := Lib.hid hw5
                have g1 : ¬ xf ≤ f := by omega
                have g2 : ¬ 4 < xf := by omega
                have g3 : ((p : Int) == 0) = false := by simp; omega
                have hw1 : IntKind.i64.wrap ((k : Int) + 1) = (k : Int) + 1 := by rw [IntKind.wrap_i64]; omega
                clear hs hx hbw h1 h2 h3 h4 hfl hxs hp hb hy hb5 hw5 r0 r1
                go_wp2_with fail
                rw [HW5.out]
                refine C.out.mono ?_
                rintro e w6 ⟨rfl, hb⟩
                have r0 := cell_kept hb R0.out
                have r1 := cell_kept hb R1.out
                have HB7 := Lib.hid (below_next HB6.out hb)
                clear hb C q0 q1
                go_wp2_with fail
                go_roundw
                case rel => exact ⟨k + 1, y + p, xf, by omega, by go_num, rfl, by go_num, by rw [HTS2.out, ← HY.out]; omega, HFN.out, HB7.out⟩
                case measure => simp [intOf]; omega
              · obtain rfl : k = sn := by omega
                have hta : ss.take k = ss := List.take_of_length_le (by rw [HSN.out]; exact Nat.le_refl _)
                have HYE : Hid (tot (m.take (i + 1)) = y) := by
                  show _ = _
                  rw [HTK.out, HZ.out, ← HY.out, hta]
                have HB6 := Lib.hid (below_next HB4.out HB5.out)
                clear hb hy hta
                go_wp2_with fail
                go_roundw
                case rel => exact ⟨i + 1, y, xk, by omega, by go_num, rfl, rfl, HYE.out, HLN.out, HB6.out⟩
                case measure => simp [intOf]; omega
          · obtain rfl : i = n := by omega
            have hzq : z = q := by
              rw [← HZ.out, ← HTM.out, List.take_of_length_le (by rw [HN.out]; exact Nat.le_refl _)]
            subst hzq
            have HB6 := Lib.hid (below_next HB3.out HB.out)
            have C := Lib.hid (awake_calls wr (HL.out.below HB6.out))
            clear hb hz
            go_wp2_with fail
            refine C.out.mono ?_
            rintro e w6 ⟨rfl, hb⟩
            have HB7 := Lib.hid (below_next HB6.out hb)
            clear hb C
            go_wp2_with fail
            go_ret
            exact ⟨by simp, HB7.out⟩
end Trm
end Go.Proofs.YtfohollhdaedlaaDoor
