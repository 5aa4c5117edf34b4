/- BoxPours: what one box has goes into another one, in order: the walk. Written by boxpours.py. -/
import Derived.Test.YtdmpgoaemoiogaaBoxW7
import Derived.Deep.RegionWith
import Derived.BigRegion
set_option linter.unusedVariables false
set_option linter.unusedSimpArgs false
set_option maxRecDepth 100000
namespace Go.Proofs.Ytdmpgoaemoiogaa
open Go.RowKit
namespace Box
theorem IsSl.take_ {w : World} {A : Option Addr} {n c m : Nat} {l : List Value} (h : IsSl w 1 A n c l) (hm : m ≤ n) : IsSl w 1 A m c (l.take m) :=
  ⟨by have := h.1; simp; omega, by have := h.2.1; omega, h.2.2.1, fun a => by have := h.2.2.2.1 a; omega, fun ad ha j u hu => by
    rw [List.getElem?_take] at hu
    split at hu
    · exact h.2.2.2.2 ad ha j u hu
    · cases hu⟩

/-- A row, when a channel's block changes and blocks come behind. -/
theorem IsSl.grown {w w' : World} {A : Option Addr} {n c : Nat} {l : List Value} (h : IsSl w 1 A n c l) {b k cap : Nat} {q : List Value} (hx : IsBox w b k cap q) (hg : w.grownBy w' (some k)) : IsSl w' 1 A n c l := by
  obtain ⟨h1, h2, h3, h4, h5⟩ := h
  obtain ⟨t, s, r, _, hc, _⟩ := hx
  refine ⟨h1, h2, h3, h4, fun ad ha j u hu => ?_⟩
  have hcell := h5 ad ha j u hu
  refine hg.cell hcell ?_
  intro e
  simp only [Option.some.injEq] at e
  unfold World.cell? at hcell
  have : (ad.add j).block = k := e
  rw [this, hc] at hcell
  cases hcell
theorem IsSl.drop_ {w : World} {A : Option Addr} {n c p : Nat} {l : List Value} (h : IsSl w 1 A n c l) (hp : p ≤ n) : IsSl w 1 (if c = p then A else Option.map (fun x => x.add p) A) (n - p) (c - p) (l.drop p) := by
  obtain ⟨h1, h2, h3, h4, h5⟩ := h
  refine ⟨by simp; omega, by omega, by omega, fun ha => ?_, fun ad ha j u hu => ?_⟩
  · split at ha
    · have := h4 ha; omega
    · have := h4 (by simpa using ha); omega
  · rw [List.getElem?_drop] at hu
    have hj : p + j < l.length := (List.getElem?_eq_some_iff.1 hu).1
    split at ha
    · omega
    · obtain ⟨ad0, ha0, rfl⟩ := Option.map_eq_some_iff.1 ha
      have := h5 ad0 ha0 _ u hu
      rw [Addr.add_add]; exact this
/-- What the last region's calls keep: the two boxes, and all that was. -/
structure Env (w : World) (bx cx kx : Nat) (lx : List Value) (by_ cy ky : Nat) (ly : List Value) (W : World) : Prop where
  x : IsBox W bx cx kx lx
  y : IsBox W by_ cy ky ly
  b : Below w.heap.size w W
  s : w.heap.size ≤ W.heap.size
  hcx : w.heap.size ≤ cx
  hcy : w.heap.size ≤ cy
  ne : cx ≠ cy ∧ cx ≠ by_ ∧ cy ≠ bx
section
variable {w : World} {bx cx kx : Nat} {lx : List Value} {by_ cy ky : Nat} {ly : List Value} {W : World}
theorem Env.below {W' : World} (h : Env w bx cx kx lx by_ cy ky ly W) (hb : Below W.heap.size W W') : Env w bx cx kx lx by_ cy ky ly W' :=
  ⟨h.x.keep (grown_below hb none) (by simp) (by simp), h.y.keep (grown_below hb none) (by simp) (by simp), h.b.trans (hb.mono h.s), Nat.le_trans h.s hb.size, h.hcx, h.hcy, h.ne⟩
theorem Env.drew (h : Env w bx cx kx lx by_ cy ky ly W) : Env w bx cx kx lx by_ cy ky ly W.drew := h.below ⟨rfl, rfl, rfl, Nat.le_refl _, fun _ _ => rfl⟩
theorem Env.alloc (h : Env w bx cx kx lx by_ cy ky ly W) (o : Obj) : Env w bx cx kx lx by_ cy ky ly (W.alloc o) := h.below ((Below.refl _ _).alloc (Nat.le_refl _) _)
def Keeps (W W' : World) : Prop := ∀ {A : Option Addr} {n c : Nat} {l : List Value}, IsSl W 1 A n c l → IsSl W' 1 A n c l
def ListX (w : World) (bx cx kx : Nat) (lx : List Value) (by_ cy ky : Nat) (ly : List Value) (l : List Value) (k : Nat) (W : World) (e : Ending) (W' : World) : Prop :=
  ∃ A c, e = .returned (.slice A k c) ∧ IsSl W' 1 A k c l ∧ Env w bx cx kx lx by_ cy ky ly W' ∧ Keeps W W'
theorem list_x (h : Env w bx cx kx lx by_ cy ky ly W) (h1 : ∀ u ∈ lx, ∃ a, u = .string a) (k : Nat) (hk : lx.length = k) :
    Calls Try.prog 27 #[.pointer (some ⟨bx, 0, none⟩)] W (ListX w bx cx kx lx by_ cy ky ly lx k W) := by
  subst hk
  refine (list_str W bx cx kx lx h.x h1).mono ?_
  rintro e W' ⟨v, rfl, ho, hx, hg⟩
  obtain ⟨A, c, rfl, hsl⟩ := own_form ho
  exact ⟨A, c, rfl, hsl, ⟨hx, h.y.keep hg (by simp; exact fun e => h.ne.2.1 e.symm) (by simp; exact fun e => h.ne.1 e.symm), below_row h.b h.s hg h.hcx, Nat.le_trans h.s hg.size, h.hcx, h.hcy, h.ne⟩, fun hs => IsSl.grown hs h.x hg⟩
theorem list_y (h : Env w bx cx kx lx by_ cy ky ly W) (h1 : ∀ u ∈ ly, ∃ a, u = .string a) (k : Nat) (hk : ly.length = k) :
    Calls Try.prog 27 #[.pointer (some ⟨by_, 0, none⟩)] W (ListX w bx cx kx lx by_ cy ky ly ly k W) := by
  subst hk
  refine (list_str W by_ cy ky ly h.y h1).mono ?_
  rintro e W' ⟨v, rfl, ho, hx, hg⟩
  obtain ⟨A, c, rfl, hsl⟩ := own_form ho
  exact ⟨A, c, rfl, hsl, ⟨h.x.keep hg (by simp; exact fun e => h.ne.2.2 e.symm) (by simp; exact h.ne.1), hx, below_row h.b h.s hg h.hcy, Nat.le_trans h.s hg.size, h.hcx, h.hcy, h.ne⟩, fun hs => IsSl.grown hs h.y hg⟩
theorem equal_e (h : Env w bx cx kx lx by_ cy ky ly W) (A : Option Addr) (n c : Nat) (A' : Option Addr) (c' : Nat) (l : List Value) (ss : List ByteArray) (hl : l = texts ss) (h1 : IsSl W 1 A n c l) (h2 : IsSl W 1 A' n c' l) :
    Calls Try.prog 26 #[.slice A n c, .slice A' n c'] W fun e W' => e = .returned (.bool true) ∧ Env w bx cx kx lx by_ cy ky ly W' := by
  subst hl
  refine (equal_str W A n c A' c' ss h1 h2).mono ?_
  rintro e W' ⟨rfl, hb⟩
  exact ⟨rfl, h.below hb⟩
def ConcatE (w : World) (bx cx kx : Nat) (lx : List Value) (by_ cy ky : Nat) (ly : List Value) (l : List Value) (k : Nat) (W : World) (e : Ending) (W' : World) : Prop :=
  ∃ A c, e = .returned (.slice A k c) ∧ IsSl W' 1 A k c l ∧ Env w bx cx kx lx by_ cy ky ly W' ∧ Keeps W W'
theorem concat_e (h : Env w bx cx kx lx by_ cy ky ly W) (A : Option Addr) (n c : Nat) (rs : Slices) (hr : IsRows W A n c rs) (hsum : (flat rs).length ≤ 4096) (l : List Value) (hl : texts (flat rs) = l) (k : Nat) (hk : l.length = k) :
    Calls Try.prog 28 #[.slice A n c] W (ConcatE w bx cx kx lx by_ cy ky ly l k W) := by
  subst hl hk
  refine (concat_str W A n c rs hr hsum).mono ?_
  rintro e W' ⟨v, rfl, ho, hb⟩
  obtain ⟨A, c, rfl, hsl⟩ := own_form ho
  exact ⟨A, c, rfl, hsl, h.below hb, fun hs => hs.below hb⟩
end

set_option maxHeartbeats 8000000 in
theorem boxPours_calls (w : World) (a : Int) (ha : -9223372036854775808 ≤ a ∧ a ≤ 9223372036854775807) (b : Int) (hb : -9223372036854775808 ≤ b ∧ b ≤ 9223372036854775807) (A : Option Addr) (n cp : Nat) (ss : List ByteArray) (hs : IsSl w 1 A n cp (texts ss))
    (A' : Option Addr) (n' cp' : Nat) (ts : List ByteArray) (hs' : IsSl w 1 A' n' cp' (texts ts)) :
    Calls Try.prog 6 #[.int .i64 a, .int .i64 b, .slice A n cp, .slice A' n' cp'] w fun e w' => e = .returned (.bool true) ∧ Below w.heap.size w w' := by
  obtain ⟨k0, hk0⟩ : ∃ k0 : Nat, (if b < 0 then 0 else b) = (k0 : Int) := ⟨(max b 0).toNat, by split <;> omega⟩
  obtain ⟨kb, hkb⟩ : ∃ k : Nat, (if (100 : Int) < k0 then 100 else (k0 : Int)) = (k : Int) := ⟨min k0 100, by split <;> omega⟩
  have hkk : (min (max b 0) 100).toNat = kb := by split at hk0 <;> split at hkb <;> omega
  have hkb100 : kb ≤ 100 := by split at hkb <;> omega
  obtain ⟨ka, hka⟩ : ∃ k : Nat, (min (max a 0) 100).toNat = k := ⟨_, rfl⟩
  have hka100 : ka ≤ 100 := by omega
  have hl : ss.length = n := by have := hs.1; simp at this; omega
  have hl' : ts.length = n' := by have := hs'.1; simp at this; omega
  have hc := hs.2.1
  have hcm := hs.2.2.1
  have hc' := hs'.2.1
  have hcm' := hs'.2.2.1
  unfold maxLen at hcm hcm'
  obtain ⟨m, hm⟩ : ∃ m, min n ka = m := ⟨_, rfl⟩
  obtain ⟨m', hm'⟩ : ∃ m', min n' kb = m' := ⟨_, rfl⟩
  obtain ⟨p, hp⟩ : ∃ p : Nat, (if (kb : Int) - m' < m then (kb : Int) - m' else (m : Int)) = (p : Int) := ⟨min m (kb - m'), by split <;> omega⟩
  have hpp : min m (kb - m') = p := by split at hp <;> omega
  have HS := Lib.hid hs
  have HS' := Lib.hid hs'
  clear hs hs'
  go_enter Try.func6, Try.ntmps6
  go_wp2_with fail
  refine (filled_calls w a ha A n cp _ HS.out).mono ?_
  rw [hka, hm]
  rintro e w1 ⟨bx, cx, rfl, hx, hb1, hBx, hCx⟩
  have HX := Lib.hid hx
  have HB1 := Lib.hid hb1
  have hltx := hx.lt
  have HS1 := Lib.hid (HS.out.below hb1)
  have HS1' := Lib.hid (HS'.out.below hb1)
  have hs1 := hb1.size
  clear hx hb1
  go_wp2_with fail
  refine (filled_calls w1 b hb A' n' cp' _ HS1'.out).mono ?_
  rw [hkk, hm']
  rintro e w2 ⟨by_, cy, rfl, hy, hb2, hBy, hCy⟩
  have HX2 := Lib.hid (HX.out.keep (grown_below hb2 none) (by simp) (by simp))
  have HY2 := Lib.hid hy
  have HB2 := Lib.hid (HB1.out.trans (hb2.mono hs1))
  have hs2 := hb2.size
  clear hy hb2
  go_wp2_with fail
  have hlx : ((texts ss).take ka).length = m := by simp; omega
  have hly : ((texts ts).take kb).length = m' := by simp; omega
  refine (pour_str w2 w.heap.size bx cx ka by_ cy kb _ _ HX2.out HY2.out (by omega) (by omega) (by omega) hCx (by omega)).mono ?_
  rw [hlx, hly, hpp]
  rintro e w3 ⟨rfl, hx, hy, hb3⟩
  have HX3 := Lib.hid hx
  have HY3 := Lib.hid hy
  have HB3 := Lib.hid (HB2.out.trans hb3)
  have hs3 := hb3.size
  clear hx hy hb3
  go_wp2_with fail
  refine (pour_self w3 bx cx ka _ HX3.out).mono ?_
  rintro e w4 ⟨rfl, hb4⟩
  have HX4 := Lib.hid (HX3.out.keep (grown_below hb4 none) (by simp) (by simp))
  have HY4 := Lib.hid (HY3.out.keep (grown_below hb4 none) (by simp) (by simp))
  have HB4 := Lib.hid (HB3.out.trans (hb4.mono (by have := HB3.out.size; omega)))
  clear hb4
  go_wp2_with fail
  have hcp4 : w.heap.size ≤ w4.heap.size := HB4.out.size
  generalize hsx : (ss.take ka).drop p = sx
  generalize hsy : ts.take kb ++ (ss.take ka).take p = sy
  have hE : Env w bx cx ka (texts sx) by_ cy kb (texts sy) w4 := by
    refine ⟨?_, ?_, HB4.out, hcp4, hCx, by omega, ⟨by omega, ?_, ?_⟩⟩
    · have h := HX4.out
      rw [← hsx]; simpa [texts, List.map_drop, List.map_take] using h
    · have h := HY4.out
      rw [← hsy]; simpa [texts, List.map_append, List.map_take] using h
    · omega
    · intro e
      obtain ⟨t, s, r, h1, _⟩ := HX2.out
      obtain ⟨t', s', r', _, h2, _⟩ := HY2.out
      rw [e, h1] at h2; cases h2
  have hlsx : (texts sx).length = m - p := by rw [← hsx]; simp; omega
  have hlsy : (texts sy).length = m' + p := by rw [← hsy]; simp; omega
  have hsx1 : ∀ u ∈ texts sx, ∃ a, u = .string a := fun u hu => by obtain ⟨a, _, rfl⟩ := List.mem_map.1 hu; exact ⟨a, rfl⟩
  have hsy1 : ∀ u ∈ texts sy, ∃ a, u = .string a := fun u hu => by obtain ⟨a, _, rfl⟩ := List.mem_map.1 hu; exact ⟨a, rfl⟩
  have hcut : ∀ W, Below w.heap.size w W → IsSl W 1 A m cp (texts (ss.take ka)) := fun W hb => by
    have h := (IsSl.take_ (HS.out.below hb) (show m ≤ n by omega))
    have e : (texts ss).take m = texts (ss.take ka) := by
      rw [texts, ← List.map_take]; congr 1
      by_cases h3 : ka ≤ n
      · rw [show m = ka by omega]
      · rw [List.take_of_length_le (by omega), List.take_of_length_le (by omega)]
    rwa [e] at h
  have hcut' : ∀ W, Below w.heap.size w W → IsSl W 1 A' m' cp' (texts (ts.take kb)) := fun W hb => by
    have h := (IsSl.take_ (HS'.out.below hb) (show m' ≤ n' by omega))
    have e : (texts ts).take m' = texts (ts.take kb) := by
      rw [texts, ← List.map_take]; congr 1
      by_cases h3 : kb ≤ n'
      · rw [show m' = kb by omega]
      · rw [List.take_of_length_le (by omega), List.take_of_length_le (by omega)]
    rwa [e] at h
  obtain ⟨Ad, hAd⟩ : ∃ Ad, (if cp = p then A else Option.map (fun x => x.add p) A) = Ad := ⟨_, rfl⟩
  have hdrop : ∀ W, Env w bx cx ka (texts sx) by_ cy kb (texts sy) W → IsSl W 1 Ad (m - p) (cp - p) (texts sx) := fun W hW => by
    have h := IsSl.drop_ (hcut W hW.b) (show p ≤ m by omega)
    rw [hAd] at h
    rw [← hsx]; simpa [texts, List.map_drop] using h
  have hrows : ∀ W B, Env w bx cx ka (texts sx) by_ cy kb (texts sy) W → IsSl W 1 B 2 2 [.slice A' m' cp', .slice A p cp] → IsRows W B 2 2 [(A', m', cp', ts.take kb), (A, p, cp, (ss.take ka).take p)] := fun W B hW hB => by
    refine ⟨hB, fun r hr => ?_⟩
    simp only [List.mem_cons, List.mem_nil_iff, or_false] at hr
    rcases hr with rfl | rfl
    · exact hcut' W hW.b
    · have h := IsSl.take_ (hcut W hW.b) (show p ≤ m by omega)
      simpa [texts, List.map_take] using h
  have hflat : texts (flat [(A', m', cp', ts.take kb), (A, p, cp, (ss.take ka).take p)]) = texts sy := by rw [← hsy]; simp [flat]
  have hflat4 : (flat [(A', m', cp', ts.take kb), (A, p, cp, (ss.take ka).take p)]).length ≤ 4096 := by
    have := congrArg List.length hflat
    rw [hlsy, List.length_map] at this; omega
  have HE := Lib.hid hE
  have HC := Lib.hid hcut
  have HC' := Lib.hid hcut'
  have HD := Lib.hid hdrop
  have HR := Lib.hid hrows
  have HF := Lib.hid hflat
  have HF4 := Lib.hid hflat4
  have HLX := Lib.hid hlsx
  have HLY := Lib.hid hlsy
  have HTX := Lib.hid hsx1
  have HTY := Lib.hid hsy1
  have hpm : (p : Int) ≤ m := by omega
  have hpc : (p : Int) ≤ cp := by omega
  have hmc : (m : Int) ≤ cp := by omega
  clear hE hcut hcut' hdrop hrows hflat hflat4 hlsx hlsy hsx1 hsy1 hsx hsy
  go_region_with (first
    | (go_at_call_of 27 (Value.pointer (some ⟨bx, 0, none⟩)); refine (list_x (w := w) (by_ := by_) (lx := texts sx) (ly := texts sy) (by first | exact HE.out | assumption | exact Env.drew (by first | exact HE.out | assumption) | exact Env.alloc (by assumption) _ | exact Env.alloc (Env.drew (by assumption)) _) HTX.out (m - p) HLX.out).mono ?_; rintro e w5 ⟨A5, c5, rfl, hsl5, henv5, hk5⟩)
    | (go_at_call_of 27 (Value.pointer (some ⟨by_, 0, none⟩)); refine (list_y (w := w) (bx := bx) (lx := texts sx) (ly := texts sy) (by first | exact HE.out | assumption | exact Env.drew (by first | exact HE.out | assumption) | exact Env.alloc (by assumption) _ | exact Env.alloc (Env.drew (by assumption)) _) HTY.out (m' + p) HLY.out).mono ?_; rintro e w7 ⟨A7, c7, rfl, hsl7, henv7, hk7⟩)
    | (go_at_call_of 26 (Value.slice Ad (m - p) (cp - p)); refine (equal_e (w := w) (bx := bx) (by_ := by_) (lx := texts sx) (ly := texts sy) (by first | exact HE.out | assumption | exact Env.drew (by first | exact HE.out | assumption) | exact Env.alloc (by assumption) _ | exact Env.alloc (Env.drew (by assumption)) _) _ _ _ _ _ (texts sx) sx rfl (by assumption) (HD.out _ (by first | exact HE.out | assumption | exact Env.drew (by first | exact HE.out | assumption) | exact Env.alloc (by assumption) _ | exact Env.alloc (Env.drew (by assumption)) _))).mono ?_; rintro e w6 ⟨rfl, henv6⟩)
    | (go_at_call 26; refine (equal_e (w := w) (bx := bx) (by_ := by_) (lx := texts sx) (ly := texts sy) (by first | exact HE.out | assumption | exact Env.drew (by first | exact HE.out | assumption) | exact Env.alloc (by assumption) _ | exact Env.alloc (Env.drew (by assumption)) _) _ _ _ _ _ (texts sy) sy rfl (by first | assumption | exact hk8 (by assumption) | exact hk8 (IsSl.alloc (by assumption) _)) (by assumption)).mono ?_; rintro e w9 ⟨rfl, henv9⟩)
    | (go_at_call 28; refine (concat_e (w := w) (bx := bx) (by_ := by_) (lx := texts sx) (ly := texts sy) (by first | exact HE.out | assumption | exact Env.drew (by first | exact HE.out | assumption) | exact Env.alloc (by assumption) _ | exact Env.alloc (Env.drew (by assumption)) _) _ _ _ _ (HR.out _ _ (by first | exact HE.out | assumption | exact Env.drew (by first | exact HE.out | assumption) | exact Env.alloc (by assumption) _ | exact Env.alloc (Env.drew (by assumption)) _) (by first | exact sl_lit _ _ _ 2 rfl (by decide) | exact hk7 (sl_lit _ _ _ 2 rfl (by decide)))) HF4.out _ HF.out (m' + p) HLY.out).mono ?_; rintro e w8 ⟨A8, c8, rfl, hsl8, henv8, hk8⟩)
    | (go_at_call 13; refine (awake_calls _).mono ?_; rintro e w10 ⟨rfl, hb10⟩))
  all_goals (go_wp2_with fail; go_ret; exact ⟨rfl, henv9.b.trans (hb10.mono henv9.s)⟩)
end Box
end Go.Proofs.Ytdmpgoaemoiogaa
