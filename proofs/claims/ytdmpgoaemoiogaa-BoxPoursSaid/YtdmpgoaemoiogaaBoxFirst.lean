/- BoxFirst: the first of some boxes that has one gives its first: the walks. -/
import Derived.Test.YtdmpgoaemoiogaaBoxW3
set_option linter.unusedVariables false
set_option linter.unusedSimpArgs false
set_option maxRecDepth 100000
namespace Go.Proofs.Ytdmpgoaemoiogaa
open Go.RowKit
namespace Box

/-- The first one of some, and whose it is. -/
def firstOf : List (List ByteArray) → Nat → ByteArray × Int
  | [], _ => (⟨#[]⟩, -1)
  | (x :: _) :: _, i => (x, i)
  | [] :: r, i => firstOf r (i + 1)
theorem firstOf_range : ∀ (ls : List (List ByteArray)) (i : Nat), -1 ≤ (firstOf ls i).2 ∧ ((firstOf ls i).2 < i + ls.length)
  | [], i => by simp [firstOf]; omega
  | (x :: _) :: _, i => by simp [firstOf]; omega
  | [] :: r, i => by have := firstOf_range r (i + 1); simp only [firstOf, List.length_cons]; omega
theorem firstOf_snoc : ∀ (ls : List (List ByteArray)) (l : List ByteArray) (i : Nat), firstOf (ls ++ [l]) i = if (firstOf ls i).2 < 0 then (match l with | [] => (⟨#[]⟩, -1) | x :: _ => (x, ((i + ls.length : Nat) : Int))) else firstOf ls i
  | [], l, i => by cases l <;> simp [firstOf]
  | (x :: t) :: r, l, i => by
    rw [if_neg (show ¬ (firstOf ((x :: t) :: r) i).2 < 0 by simp [firstOf])]; rfl
  | [] :: r, l, i => by
    have h := firstOf_snoc r l (i + 1)
    rw [show i + 1 + r.length = i + ([] :: r : List (List ByteArray)).length by simp; omega] at h
    exact h
theorem firstOf_none {ls : List (List ByteArray)} {i : Nat} (h : (firstOf ls i).2 < 0) : firstOf ls i = (⟨#[]⟩, -1) := by
  induction ls generalizing i with
  | nil => rfl
  | cons l r ih =>
    cases l with
    | nil => exact ih h
    | cons x t => simp only [firstOf] at h; omega
abbrev strs (l : List ByteArray) : List Value := l.map .string
/-- Some boxes: each one's block, its channel's block, its room, what is in. -/
abbrev Boxes := List (Nat × Nat × Nat × List ByteArray)
def ptrs (bs : Boxes) : List Value := bs.map fun x => .pointer (some ⟨x.1, 0, none⟩)
def Stand (w : World) (base : Nat) (bs : Boxes) : Prop := ∀ x ∈ bs, IsBox w x.1 x.2.1 x.2.2.1 (strs x.2.2.2) ∧ base ≤ x.1 ∧ base ≤ x.2.1
def ins (bs : Boxes) : List (List ByteArray) := bs.map fun x => x.2.2.2

set_option maxHeartbeats 1000000 in
theorem first_calls (w : World) (base : Nat) (hbase : base ≤ w.heap.size) (A : Option Addr) (n cap : Nat) (bs : Boxes) (hs : IsSl w 1 A n cap (ptrs bs)) (hb : Stand w base bs) :
    Calls Try.prog 12 #[.slice A n cap] w fun e w' => e = .returned (.tuple #[.string (firstOf (ins bs) 0).1, .int .i64 (firstOf (ins bs) 0).2]) ∧ Below base w w' := by
  have hn : bs.length = n := by have := hs.1; simp [ptrs] at this; omega
  have hnc := hs.2.1
  have hcm := hs.2.2.1
  unfold maxLen at hcm
  have HS := Lib.hid hs
  have HB := Lib.hid hb
  clear hs hb
  go_enter Try.func12, Try.ntmps12
  go_wp2_with fail
  go_loopw [11] (fun ix wr => ∃ i : Nat, i ≤ n ∧ ix = .int .i64 i ∧ Hid (firstOf ((ins bs).drop i) i = firstOf (ins bs) 0) ∧ wr = w) (fun ix _ => n - (intOf ix).toNat)
  case atStart => exact ⟨0, Nat.zero_le _, rfl, rfl, rfl⟩
  case round =>
    obtain ⟨i, hi, rfl, HV, rfl⟩ := hrel
    have hlen : (ins bs).length = n := by simp [ins, hn]
    by_cases hlt : i < n
    · obtain ⟨ad, rfl, hcell⟩ := HS.out.at_ hlt
      obtain ⟨x, hx⟩ : ∃ x, bs[i]? = some x := ⟨bs[i], List.getElem?_eq_getElem (by omega)⟩
      obtain ⟨b, c, room, l⟩ := x
      have hp : (ptrs bs).getD i undef = .pointer (some ⟨b, 0, none⟩) := by
        rw [List.getD_eq_getElem?_getD, ptrs, List.getElem?_map, hx]; rfl
      rw [hp] at hcell
      obtain ⟨hbox, hB, hC⟩ := HB.out _ (List.mem_of_getElem? hx)
      simp only at hbox hB hC
      have HX := Lib.hid hbox
      have hd : (ins bs).drop i = l :: (ins bs).drop (i + 1) := by
        rw [List.drop_eq_getElem_cons (by omega)]
        congr 1
        have h1 : (ins bs)[i]? = some l := by rw [ins, List.getElem?_map, hx]; rfl
        exact (List.getElem?_eq_some_iff.1 h1).2
      have HD := Lib.hid hd
      clear hbox hd hp
      cases l with
      | nil =>
        go_wp2_with fail
        refine (takeNo_str wr b c room HX.out).mono ?_
        rintro e w2 ⟨rfl, rfl⟩
        go_wp2_with fail
        go_roundw
        case rel =>
          refine ⟨i + 1, by omega, by go_num, ?_, trivial⟩
          have h := HV.out
          rw [HD.out] at h
          exact h
        case measure => simp [intOf]; omega
      | cons x l =>
        have hf : firstOf (ins bs) 0 = (x, (i : Int)) := by
          have h := HV.out
          rw [HD.out] at h
          exact h.symm
        have HF := Lib.hid hf
        clear hf
        go_wp2_with fail
        refine (take_str wr b c room (.string x) (strs l) HX.out).mono ?_
        rintro e w2 ⟨rfl, hx2, hg, hs2⟩
        have HB2 := Lib.hid (below_row (Below.refl base wr) hbase hg hC)
        clear hx2 hg
        go_wp2_with fail
        go_ret2
        exact ⟨by rw [HF.out]; rfl, HB2.out⟩
    · have hf : firstOf (ins bs) 0 = (⟨#[]⟩, -1) := by
        have h := HV.out
        rw [List.drop_eq_nil_of_le (by omega)] at h
        exact h.symm
      have HF := Lib.hid hf
      clear hf
      go_wp2_with fail
      go_ret2
      exact ⟨by rw [HF.out]; rfl, Below.refl _ _⟩
/-- Some slices of texts. -/
abbrev Slices := List (Option Addr × Nat × Nat × List ByteArray)
def heads (rs : Slices) : List Value := rs.map fun r => .slice r.1 r.2.1 r.2.2.1
def IsRows (w : World) (A : Option Addr) (n c : Nat) (rs : Slices) : Prop := IsSl w 1 A n c (heads rs) ∧ ∀ r ∈ rs, IsSl w 1 r.1 r.2.1 r.2.2.1 (strs r.2.2.2)
theorem IsRows.below {w w' : World} {A : Option Addr} {n c : Nat} {rs : Slices} (h : IsRows w A n c rs) (hb : Below w.heap.size w w') : IsRows w' A n c rs := ⟨h.1.below hb, fun r hr => (h.2 r hr).below hb⟩
theorem own_apart {w : World} {base : Nat} {e : TypeId} {v : Value} {n : Nat} {xs : List Value} {p : Option Addr} (h : w.ownsRow base e 1 v n xs) (hp : xs[0]? = some (.pointer p)) {b c cap : Nat} {l : List Value} (hx : IsBox w b c cap l) :
    some b ≠ v.ownBlock ∧ some c ≠ v.ownBlock := by
  obtain ⟨t, s, r, h1, h2, _⟩ := hx
  rcases h with ⟨_, ⟨rfl, rfl⟩ | ⟨g, cp, cur, rfl, _, hg, _, _, _, ht⟩⟩
  · exact ⟨by simp [Value.ownBlock], by simp [Value.ownBlock]⟩
  · refine ⟨fun hh => ?_, fun hh => ?_⟩
    · obtain rfl : b = g := by simpa [Value.ownBlock] using hh
      rw [h1] at hg
      obtain ⟨rfl, _⟩ : #[Value.chan (some c)] = cur ∧ t = e := by simpa using hg
      rw [← ht, List.getElem?_take] at hp
      split at hp <;> simp at hp
    · obtain rfl : c = g := by simpa [Value.ownBlock] using hh
      rw [h2] at hg
      cases hg
theorem Stand.below {w w' : World} {base : Nat} {bs : Boxes} (h : Stand w base bs) (hb : Below w.heap.size w w') : Stand w' base bs := fun x hx =>
  ⟨(h x hx).1.keep (grown_below hb none) (by simp) (by simp), (h x hx).2⟩
theorem infoPtr : (Try.prog.info? 25).map (fun i => (i.zero, i.size, i.bytes)) = some (some (.pointer none), 1, 8) := by kernel_rfl
theorem ptrs_one (bs : Boxes) : ∀ u ∈ ptrs bs, u.oneCell' = true := by
  intro u hu
  obtain ⟨_, _, rfl⟩ := List.mem_map.1 hu
  rfl

set_option maxHeartbeats 2000000 in
theorem boxFirst_calls (w : World) (A0 : Option Addr) (n0 cap0 : Nat) (rs : Slices) (hr : IsRows w A0 n0 cap0 rs) :
    Calls Try.prog 3 #[.slice A0 n0 cap0] w fun e w' => e = .returned (.bool true) ∧ Below w.heap.size w w' := by
  have hn0 : rs.length = n0 := by have := hr.1.1; simp [heads] at this; omega
  have hnc := hr.1.2.1
  have hcm := hr.1.2.2.1
  unfold maxLen at hcm
  have HR := Lib.hid hr
  clear hr
  go_enter Try.func3, Try.ntmps3
  go_wp2_with fail
  go_loopw [3, 4, 5, 14] (fun out want at_ ix wr => ∃ (i : Nat) (bs : Boxes) (fs : ByteArray) (fk : Int), i ≤ n0 ∧ i ≤ 20 ∧ ix = .int .i64 i ∧ want = .string fs ∧ at_ = .int .i64 fk ∧ Hid (firstOf (ins bs) 0 = (fs, fk)) ∧ Hid (bs.length = i) ∧
    wr.ownsRow w.heap.size 25 1 out i (ptrs bs) ∧ Stand wr w.heap.size bs ∧ Below w.heap.size w wr) (fun _ _ _ ix _ => n0 - (intOf ix).toNat)
  case atStart => exact ⟨0, [], ⟨#[]⟩, -1, Nat.zero_le _, Nat.zero_le _, rfl, rfl, rfl, rfl, rfl, World.ownsRow_nil _ _ _ _, (fun x (hx : x ∈ ([] : Boxes)) => absurd hx (by simp)), Below.refl _ _⟩
  case round =>
    obtain ⟨i, bs, fs, fk, hi, hi20, rfl, rfl, rfl, HF, HL, ho, hst, hb⟩ := hrel
    obtain ⟨A, cap, rfl, hsl⟩ := own_form ho
    have HO := Lib.hid ho
    have HSL := Lib.hid hsl
    have HST := Lib.hid hst
    have HB := Lib.hid hb
    have HRR := Lib.hid (HR.out.below hb)
    have hbs := hb.size
    have hfk := firstOf_range (ins bs) 0
    rw [HF.out] at hfk
    have hil : (ins bs).length = i := by have := HL.out; simp [ins, this]
    rw [hil] at hfk
    clear ho hsl hst hb
    by_cases hlt : i < n0
    · obtain ⟨ad, rfl, hcell⟩ := HRR.out.1.at_ hlt
      obtain ⟨⟨B, m, bc, ss⟩, hx⟩ : ∃ x, rs[i]? = some x := ⟨rs[i], List.getElem?_eq_getElem (by omega)⟩
      have hp : (heads rs).getD i undef = .slice B m bc := by
        rw [List.getD_eq_getElem?_getD, heads, List.getElem?_map, hx]; rfl
      rw [hp] at hcell
      clear hp
      by_cases h20 : i < 20
      · have hin := HRR.out.2 _ (List.mem_of_getElem? hx)
        simp only at hin
        have HIN := Lib.hid hin
        have hmb := hin.2.1
        have hss : ss.length = m := by have := hin.1; simp at this; omega
        clear hin
        go_wp2_with fail
        refine (filled_calls wr 5 (by decide) B m bc (strs ss) HIN.out).mono ?_
        rintro e w1 ⟨b, c, rfl, hbx, hb1, hB, hC⟩
        rw [show (min (max (5 : Int) 0) 100).toNat = 5 by decide] at hbx ⊢
        have HBX := Lib.hid hbx
        have HB1 := Lib.hid hb1
        have hs1 := hb1.size
        have HI1 := Lib.hid (HIN.out.below hb1)
        have HO1 := Lib.hid (own_below HO.out hb1)
        have HST1 := Lib.hid (HST.out.below hb1)
        clear hbx hb1
        have hq : ((min m 5 : Nat) : Int) ≤ 5 := by omega
        have hq0 : (min m 5 = 0 ↔ ss = []) := by
          cases ss with
          | nil => simp at hss; simp [← hss]
          | cons x t => simp at hss; simp; omega
        have h0 : ∀ x t, ss = x :: t → ∃ bd, B = some bd ∧ w1.cell? bd = some (.string x) := by
          rintro x t rfl
          simp at hss
          obtain ⟨bd, rfl, hc⟩ := HI1.out.at_ (i := 0) (by omega)
          exact ⟨bd, rfl, by simpa [Addr.add] using hc⟩
        generalize hqe : min m 5 = q at *
        have hsn := firstOf_snoc (ins bs) (ss.take 5) 0
        rw [HF.out, hil, Nat.zero_add] at hsn
        have HSN := Lib.hid hsn
        clear hsn
        have hend : ∀ (w2 : World) (v' : Value) (gs : ByteArray) (gk : Int), w2.ownsRow w.heap.size 25 1 v' (i + 1) (ptrs bs ++ [.pointer (some ⟨b, 0, none⟩)]) → w1.grownBy w2 (Value.slice A i cap).ownBlock → Below w.heap.size w w2 → firstOf (ins bs ++ [ss.take 5]) 0 = (gs, gk) →
          ∃ (j : Nat) (bs' : Boxes) (fs : ByteArray) (fk : Int), j ≤ n0 ∧ j ≤ 20 ∧ Value.int .i64 ((i : Int) + 1) = .int .i64 j ∧ Value.string gs = .string fs ∧ Value.int .i64 gk = .int .i64 fk ∧ Hid (firstOf (ins bs') 0 = (fs, fk)) ∧ Hid (bs'.length = j) ∧
            w2.ownsRow w.heap.size 25 1 v' j (ptrs bs') ∧ Stand w2 w.heap.size bs' ∧ Below w.heap.size w w2 := by
          intro w2 v' gs gk h1 h2 h3 h4
          refine ⟨i + 1, bs ++ [(b, c, 5, ss.take 5)], gs, gk, by omega, by omega, rfl, rfl, rfl, ?_, ?_, ?_, ?_, h3⟩
          · show firstOf (ins (bs ++ _)) 0 = _
            rw [← h4]; simp [ins]
          · show (bs ++ _).length = i + 1
            rw [List.length_append, HL.out]; rfl
          · rw [show ptrs (bs ++ [(b, c, 5, ss.take 5)]) = ptrs bs ++ [.pointer (some ⟨b, 0, none⟩)] by simp [ptrs]]
            exact h1
          · intro x hx
            rcases List.mem_append.1 hx with hx | hx
            · have hx1 := HST1.out x hx
              obtain ⟨y, ys, rfl⟩ : ∃ y ys, bs = y :: ys := by
                cases bs with
                | nil => cases hx
                | cons y ys => exact ⟨y, ys, rfl⟩
              have ha := own_apart (p := some ⟨y.1, 0, none⟩) HO1.out rfl hx1.1
              exact ⟨hx1.1.keep h2 ha.1 ha.2, hx1.2⟩
            · obtain rfl : x = (b, c, 5, ss.take 5) := by simpa using hx
              have hlt := (HO.out.lt)
              refine ⟨?_, by simp only; omega, by simp only; omega⟩
              have h5 : IsBox w1 b c 5 (strs (ss.take 5)) := by have := HBX.out; rwa [strs, List.map_take]
              exact h5.keep h2 (fun e => by have := (hlt b e.symm).2; omega) (fun e => by have := (hlt c e.symm).2; omega)
        have HEND := Lib.hid hend
        clear hend
        cases ss with
        | nil =>
          obtain rfl : q = 0 := hq0.2 rfl
          have he : firstOf (ins bs ++ [List.take 5 []]) 0 = (fs, fk) := by
            rw [HSN.out]
            split
            · rename_i hneg
              rw [← firstOf_none (i := 0) (by rw [HF.out]; exact hneg), HF.out]; rfl
            · rfl
          have HE := Lib.hid he
          clear he hq0 h0
          go_wp2_with (at_builtin; refine wpList_app_own _ rfl (.tmp 37) (.tmp 39) 23 rfl w.heap.size 25 (.pointer none) 1 8 Try.underlying23 infoPtr rfl (by decide) _ i (ptrs bs) rfl (HO1.out.alloc _) _ 1 1 _ rfl (sl_lit _ _ _ 1 rfl (by decide)) (by simp [Value.oneCell']) (by unfold maxLen; omega) (by omega) (by simp; omega) ?_)
          intro v' w2 ho2 hg2 hb2
          have HO2 := Lib.hid ho2
          have HG2 : Hid (w1.grownBy w2 (Value.slice A i cap).ownBlock) := (World.grownBy_alloc w1 _ _).trans hg2
          have HB2 : Hid (Below w.heap.size w w2) := ((below_step HB.out hbs HB1.out).alloc (by omega) _).trans hb2
          clear ho2 hg2 hb2
          go_wp2_with fail
          go_roundw
          case rel => exact HEND.out w2 v' _ _ HO2.out HG2.out HB2.out HE.out
          case measure => simp [intOf]; omega
        | cons x t =>
          obtain ⟨bd, rfl, hc0⟩ := h0 x t rfl
          have hqp : (0 : Int) < q := by
            have : q ≠ 0 := fun e => by have := hq0.1 e; cases this
            omega
          by_cases hneg : fk < 0
          · have he : firstOf (ins bs ++ [List.take 5 (x :: t)]) 0 = (x, (i : Int)) := by
              rw [HSN.out, if_pos hneg]; rfl
            have HE := Lib.hid he
            clear he hq0 h0
            go_wp2_with (at_builtin; refine wpList_app_own _ rfl (.tmp 37) (.tmp 39) 23 rfl w.heap.size 25 (.pointer none) 1 8 Try.underlying23 infoPtr rfl (by decide) _ i (ptrs bs) rfl (HO1.out.alloc _) _ 1 1 _ rfl (sl_lit _ _ _ 1 rfl (by decide)) (by simp [Value.oneCell']) (by unfold maxLen; omega) (by omega) (by simp; omega) ?_)
            intro v' w2 ho2 hg2 hb2
            have HO2 := Lib.hid ho2
            have HG2 : Hid (w1.grownBy w2 (Value.slice A i cap).ownBlock) := (World.grownBy_alloc w1 _ _).trans hg2
            have HB2 : Hid (Below w.heap.size w w2) := ((below_step HB.out hbs HB1.out).alloc (by omega) _).trans hb2
            clear ho2 hg2 hb2
            go_wp2_with fail
            go_roundw
            case rel => exact HEND.out w2 v' _ _ HO2.out HG2.out HB2.out HE.out
            case measure => simp [intOf]; omega
          · have he : firstOf (ins bs ++ [List.take 5 (x :: t)]) 0 = (fs, fk) := by
              rw [HSN.out, if_neg hneg]
            have HE := Lib.hid he
            clear he hq0 h0
            go_wp2_with (at_builtin; refine wpList_app_own _ rfl (.tmp 37) (.tmp 39) 23 rfl w.heap.size 25 (.pointer none) 1 8 Try.underlying23 infoPtr rfl (by decide) _ i (ptrs bs) rfl (HO1.out.alloc _) _ 1 1 _ rfl (sl_lit _ _ _ 1 rfl (by decide)) (by simp [Value.oneCell']) (by unfold maxLen; omega) (by omega) (by simp; omega) ?_)
            intro v' w2 ho2 hg2 hb2
            have HO2 := Lib.hid ho2
            have HG2 : Hid (w1.grownBy w2 (Value.slice A i cap).ownBlock) := (World.grownBy_alloc w1 _ _).trans hg2
            have HB2 : Hid (Below w.heap.size w w2) := ((below_step HB.out hbs HB1.out).alloc (by omega) _).trans hb2
            clear ho2 hg2 hb2
            go_wp2_with fail
            go_roundw
            case rel => exact HEND.out w2 v' _ _ HO2.out HG2.out HB2.out HE.out
            case measure => simp [intOf]; omega
      · have h20' : (20 : Int) ≤ i := by omega
        go_wp2_with fail
        refine (first_calls wr w.heap.size hbs A i cap bs HSL.out HST.out).mono ?_
        rintro e w2 ⟨rfl, hb2⟩
        rw [HF.out]
        have HB2 : Hid (Below w.heap.size w w2) := HB.out.trans hb2
        have hbs2 := hb2.size
        clear hb2
        go_wp2_with fail
        refine (awake_calls _).mono ?_
        rintro e w3 ⟨rfl, hb3⟩
        go_wp2_with fail
        go_ret
        exact ⟨rfl, below_next HB2.out hb3⟩
    · go_wp2_with fail
      refine (first_calls wr w.heap.size hbs A i cap bs HSL.out HST.out).mono ?_
      rintro e w2 ⟨rfl, hb2⟩
      rw [HF.out]
      have HB2 : Hid (Below w.heap.size w w2) := HB.out.trans hb2
      have hbs2 := hb2.size
      clear hb2
      go_wp2_with fail
      refine (awake_calls _).mono ?_
      rintro e w3 ⟨rfl, hb3⟩
      go_wp2_with fail
      go_ret
      exact ⟨rfl, below_next HB2.out hb3⟩
end Box
end Go.Proofs.Ytdmpgoaemoiogaa
