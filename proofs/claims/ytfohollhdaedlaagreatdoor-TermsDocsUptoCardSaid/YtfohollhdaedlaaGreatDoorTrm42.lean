/- Terms: the walk of terms.All. -/
import Derived.Test.YtfohollhdaedlaaGreatDoorTrmW
set_option linter.unusedVariables false
set_option linter.unusedSimpArgs false
set_option maxRecDepth 100000
namespace Go.Proofs.YtfohollhdaedlaaGreatDoor
open Go.RowKit
namespace Trm
open Tok
/-- Terms in rows of the call's own. -/
def OTe (w : World) (B : Nat) (v : Value) (ts : List MTerm) : Prop := w.ownsRow B 37 2 v ts.length (tmCells ts) ∧ ∀ s ∈ ts, OPo w B s.2.1 s.2.2
theorem OTe.below {w w' : World} {B : Nat} {v : Value} {ts : List MTerm} (h : OTe w B v ts) (hb : Below w.heap.size w w') : OTe w' B v ts := ⟨own_below h.1 hb, fun s hs => (h.2 s hs).below hb⟩
theorem OTe.base {w : World} {B B' : Nat} {v : Value} {ts : List MTerm} (h : OTe w B v ts) (hb : B' ≤ B) : OTe w B' v ts := ⟨own_base h.1 hb, fun s hs => (h.2 s hs).base hb⟩
theorem OTe.turn {w w' : World} {B B' size n : Nat} {v u : Value} {ts : List MTerm} {xs : List Value} (h : OTe w B v ts) (ho : w.ownsRow B' 29 size u n xs) (hg : w.grownBy w' u.ownBlock) : OTe w' B v ts :=
  ⟨own_other h.1 ho hg (by decide), fun s hs => by
    obtain ⟨vs, h1, h2, h3⟩ := h.2 s hs
    exact ⟨vs, h1, own_other h2 ho hg (by decide), fun x hx => (h3 x hx).turn ho hg (by decide) (by decide)⟩⟩
theorem docTs_take : ∀ {ds : List Exp.DocM} {i : Nat} {d : Exp.DocM} {f : Int}, ds[i]? = some d → docTs (ds.take (i + 1)) f = docTs (ds.take i) f ++ [docT d (f + i)]
  | [], i, d, f, h => by simp at h
  | x :: ds, 0, d, f, h => by
    obtain rfl : x = d := by simpa using h
    simp [docTs]
  | x :: ds, i + 1, d, f, h => by
    have h1 := docTs_take (f := f + 1) (show ds[i]? = some d by simpa using h)
    rw [List.take_succ_cons, List.take_succ_cons, docTs, docTs, h1, List.cons_append]
    congr 4
    push_cast; omega
theorem docTs_one : ∀ (ds : List Exp.DocM) (f : Int), ∀ r ∈ docTs ds f, r.length ≤ 240 ∧ ∀ e ∈ r, e.2.length ≤ 1
  | [], f, r, h => absurd h List.not_mem_nil
  | d :: l, f, r, h => by
    rw [docTs] at h
    rcases List.mem_cons.1 h with rfl | h
    · refine ⟨?_, fun e he => ?_⟩
      · unfold docT
        rw [List.length_map]
        exact (docAdds_bnd d 4).1
      · unfold docT at he
        obtain ⟨x, _, rfl⟩ := List.mem_map.1 he
        exact Nat.le_refl 1
    · exact docTs_one l (f + 1) r h
theorem left_le : ∀ (rests : List (List MTerm)), (∀ r ∈ rests, r.length ≤ 240) → left rests ≤ 240 * rests.length
  | [], h => Nat.zero_le _
  | r :: l, h => by
    have h1 := left_le l fun x hx => h x (List.mem_cons_of_mem _ hx)
    have h2 := h r (List.mem_cons_self ..)
    unfold left at h1 ⊢
    rw [List.map_cons, List.sum_cons, List.length_cons]; omega
theorem inf_tms : (Tryz.prog.info? 29).map (fun i => (i.zero, i.size, i.bytes)) = some (some (.slice none 0 0), 1, 24) := by kernel_rfl
set_option maxHeartbeats 16000000 in
theorem tall_calls (w : World) (hL : LaidT w) (A : Option Addr) (n c : Nat) (ds : List Exp.DocM) (hdl : ds.length = n) (hds : IsSl w 5 A n c (Exp.dCells ds)) (hsz : ∀ d ∈ ds, ∀ i, (d.get i).size ≤ 16777216) (hn : n ≤ 16) :
    Calls Tryz.prog 10 #[.slice A n c] w fun e w' => ∃ v, e = .returned v ∧ RTerms w' v (allT ds 0) ∧ Below w.heap.size w w' := by
  have HL := Lib.hid hL
  obtain ⟨it, hit, htz0, htz1, htz2⟩ := info_parts inf_tms
  have HDS := Lib.hid hds
  have HSZ := Lib.hid hsz
  have HDL := Lib.hid hdl
  have hnc := hds.2.1
  have hcm := hds.2.2.1
  unfold maxLen at hcm
  obtain ⟨B, hB⟩ : ∃ B, w.heap.size = B := ⟨_, rfl⟩
  have HBB := Lib.hid hB
  rw [hB]
  clear hds hsz hdl hL
  go_enter Tryz.func10, Tryz.ntmps10
  go_wp2_with fail
  go_loopw [3, 8] (fun out ix wr => ∃ (i : Nat) (ls : List (Value × List MTerm)), i ≤ n ∧ ix = .int .i64 i ∧ ls.length = i ∧ Hid (wr.ownsRow B 29 1 out i (ls.map (·.1))) ∧ Hid (∀ x ∈ ls, OTe wr B x.1 x.2) ∧ Hid (ls.map (fun x => x.2.map keyT) = docTs (ds.take i) 0) ∧ Hid (Below B w wr)) (fun _ ix _ => n - (intOf ix).toNat)
  case atStart => exact ⟨0, [], Nat.zero_le _, rfl, rfl, World.ownsRow_nil _ _ _ _, fun s hs => absurd hs List.not_mem_nil, rfl, by rw [← HBB.out]; exact Below.refl _ _⟩
  case round =>
    obtain ⟨i, ls, hi, rfl, hll, HO, HTS, HTM, HB⟩ := hrel
    have hbw : Below w.heap.size w wr := by rw [HBB.out]; exact HB.out
    have HBW := Lib.hid hbw
    have HBS := Lib.hid (show B ≤ wr.heap.size by have := hbw.size; have := HBB.out; omega)
    by_cases hlt : i < n
    · obtain ⟨d, hd⟩ : ∃ d, ds[i]? = some d := ⟨_, List.getElem?_eq_getElem (by rw [HDL.out]; exact hlt)⟩
      obtain ⟨bb, oo, rfl, e0, e1, e2, e3, e4⟩ := Exp.d_at (HDS.out.below hbw) hd
      have HDT := Lib.hid (docTs_take (f := 0) hd)
      have hwi : IntKind.i64.wrap ((i : Int) + 1) = (i : Int) + 1 := by rw [IntKind.wrap_i64]; omega
      obtain ⟨w4, hw4⟩ : ∃ w4, wr.alloc (.cells #[.string d.id, .string d.t0, .string d.t1, .string d.t2, .string d.t3] 27) = w4 := ⟨_, rfl⟩
      have hb4 : Below wr.heap.size wr w4 := by rw [← hw4]; exact (Below.refl _ _).alloc (Nat.le_refl _) _
      have C := Lib.hid (doc_own_calls d (HSZ.out d (List.mem_of_getElem? hd)) (i : Int) w4 ((HL.out.below hbw).below hb4))
      have HB4 := Lib.hid hb4
      have HW4 := Lib.hid hw4
      obtain ⟨T, hT⟩ : ∃ T, docT d (i : Int) = T := ⟨_, rfl⟩
      rw [hT] at C
      rw [Int.zero_add, hT] at HDT
      obtain ⟨k, hk⟩ : ∃ k, (docM d).length = k := ⟨_, rfl⟩
      have hkT : T.length = k := by rw [← hT, ← hk]; unfold docT; exact List.length_map ..
      rw [hk] at C
      obtain ⟨id, t0, t1, t2, t3⟩ := d
      simp only [Exp.docV, Exp.docC] at C
      simp only at e0 e1 e2 e3 e4
      clear hd hbw hb4 hw4 hT hk
      go_wp2_with fail
      rw [HW4.out]
      clear e0 e1 e2 e3 e4
      refine C.out.mono ?_
      rintro e w5 ⟨v, ts, rfl, ho, hok, hop, hb⟩
      have htk : ts.length = k := by
        have h1 := congrArg List.length hok.2
        rw [List.length_map] at h1
        rw [h1]; exact hkT
      have HT5 : Hid (OTe w5 B v ts) := OTe.base ⟨by rw [htk]; exact ho, hop⟩ (by have := HBS.out; have := HB4.out.size; omega)
      have HKT : Hid (ts.map keyT = T) := hok.2
      obtain ⟨TA, tc, rfl, _⟩ := own_form ho
      have HB5 : Hid (Below wr.heap.size wr w5) := HB4.out.trans (hb.mono HB4.out.size)
      have HAL : Hid (Below w5.heap.size w5 (w5.alloc (.cells #[.slice TA k tc] 29))) := (Below.refl _ _).alloc (Nat.le_refl _) _
      have HS5 := Lib.hid (show wr.heap.size ≤ w5.heap.size from HB5.out.size)
      clear ho hok hop hb C
      go_wp2_with (at_builtin; go_loud (refine wpList_append_lies _ rfl (.tmp 13) (.tmp 17) 60 rfl B 29 it (.slice none 0 0) 1 24 Tryz.underlying60 hit htz0 htz1 htz2 rfl (by decide) _ i (ls.map (·.1)) rfl (own_below (own_below HO.out HB5.out) HAL.out) ⟨w5.heap.size, 0, none⟩ 1 1 [.slice TA k tc] rfl rfl (World.news_of_block (cs := #[.slice TA k tc]) (t := 29) (fr := (0, 0)) (heap_alloc_new w5 _)) (by simp [Value.oneCell']) (by decide) (by unfold maxLen; omega) (by omega) (by have := HBS.out; have := HS5.out; simp; omega) (w5.heap.size + 1) (by simp) ?_))
      rintro g7 cap7 w8 ho8 hg8 hat8 hlt8
      have HO8 : Hid (w8.ownsRow B 29 1 (.slice (some ⟨g7, 0, none⟩) (i + 1) cap7) (i + 1) ((ls ++ [((Value.slice TA k tc, ts) : Value × List MTerm)]).map (·.1))) := by
        show w8.ownsRow _ _ _ _ _ _
        rw [List.map_append]; exact ho8
      have HTS8 : Hid (∀ x ∈ ls ++ [((Value.slice TA k tc, ts) : Value × List MTerm)], OTe w8 B x.1 x.2) := fun x hx => by
        have h1 : OTe w5 B x.1 x.2 := by
          rcases List.mem_append.1 hx with hx | hx
          · exact (HTS.out x hx).below HB5.out
          · rw [List.mem_singleton.1 hx]; exact HT5.out
        exact (h1.below HAL.out).turn (own_below (own_below HO.out HB5.out) HAL.out) hg8
      have HB8 : Hid (Below B w w8) := (HB.out.trans ((HB5.out.mono HBS.out).trans (HAL.out.mono (by have := HBS.out; have := HS5.out; omega)))).grown hg8 (by have := HBS.out; have := HS5.out; simp; omega) (fun r hr => (HO.out.lt r hr).1)
      clear ho8 hg8 hat8 hlt8
      go_wp2_with fail
      go_roundw
      case rel => exact ⟨i + 1, ls ++ [(.slice TA k tc, ts)], by omega, by go_num, by rw [List.length_append, hll]; rfl, HO8, HTS8, by rw [Hid, HDT.out, List.map_append, HTM.out, List.map_cons, List.map_nil, HKT.out], HB8⟩
      case measure => simp [intOf]; omega
    · obtain rfl : i = n := by omega
      have hta : ds.take i = ds := List.take_of_length_le (by rw [HDL.out]; exact Nat.le_refl _)
      rw [hta] at HTM
      obtain ⟨LA, lc, rfl, hsl⟩ := own_form HO.out
      have hmem : ∀ x ∈ ls, x.2.map keyT ∈ docTs ds 0 := fun x hx => by rw [← HTM.out]; exact List.mem_map.2 ⟨x, hx, rfl⟩
      have CM := Lib.hid (tmerge_calls wr LA i lc 16 ls hll hsl (fun x hx => rt_own (HTS.out x hx).1)
        (fun x hx s hs => ⟨((HTS.out x hx).2 s hs).posts, by
          have h1 := (docTs_one ds 0 _ (hmem x hx)).2 (keyT s) (List.mem_map.2 ⟨s, hs, rfl⟩)
          have h2 : s.2.2.length ≤ 1 := h1
          omega⟩)
        (fun x hx => docTs_can ds 0 _ (hmem x hx))
        (by
          have h1 := left_le (ls.map (·.2)) fun r hr => by
            obtain ⟨x, hx, rfl⟩ := List.mem_map.1 hr
            have h2 := (docTs_one ds 0 _ (hmem x hx)).1
            rwa [List.length_map] at h2
          rw [List.length_map, hll] at h1
          omega) (by decide) (by omega))
      rw [HTM.out] at CM
      clear hta hsl hmem
      go_wp2_with fail
      refine CM.out.mono ?_
      rintro e w9 ⟨v, ts, M, rfl, ho, hok, hM, hb⟩
      obtain rfl := merged_docs hM
      have HR := Lib.hid (terms_of (rt_own ho) hok)
      have HB9 : Hid (Below B w w9) := HB.out.trans (hb.mono HBS.out)
      clear ho hok hM hb CM
      go_wp2_with fail
      go_ret
      exact ⟨_, rfl, HR.out, HB9.out⟩
end Trm
end Go.Proofs.YtfohollhdaedlaaGreatDoor
