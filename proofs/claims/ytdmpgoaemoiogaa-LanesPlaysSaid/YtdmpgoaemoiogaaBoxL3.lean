/- append onto a row of the call's own that begins anywhere in its block. -/
import Derived.Test.YtdmpgoaemoiogaaBoxL2
set_option linter.unusedVariables false
set_option linter.unusedSimpArgs false
set_option maxRecDepth 100000
namespace Go.Proofs.Ytdmpgoaemoiogaa
open Go.RowKit
namespace Box
theorem wpList_app_deq {P : Program} (w : World) {ops : Array Oper} {rest : List Oper} {o : Oper} {a : Act} {Q : Exit → Act → World → Prop}
    (hgd : o.guard = none) (s x : Operand) (t : TypeId) (ho : o.op = .call { callee := .builtin .append, args := #[s, x], argTypes := #[t, t] })
    (base : Nat) (e : TypeId) (z : Value) (bytes : Nat) (ht : P.underlying t = some (.slice e)) (hinfo : (P.info? e).map (fun i => (i.zero, i.size, i.bytes)) = some (some z, 1, bytes)) (hzs : z.cells.size = 1)
    (v : Value) (n : Nat) (cs : List Value) (hs : a.eval s = v) (hD : Deq w base v n cs)
    (ad : Addr) (u : Value) (hx : a.eval x = .slice (some ad) 1 1) (hsl : IsSl w 1 (some ad) 1 1 [u]) (h1 : u.oneCell' = true)
    (hn : n ≤ 1000) (hbytes : (n + 1) * bytes ≤ 140737488355328) (hbase : base ≤ w.heap.size)
    (h : ∀ v' w' row, Deq w' base v' (n + 1) (cs ++ [u]) → w.grownBy w' row → (∀ k, row = some k → base ≤ k) → wpList P ops Q rest (a.put o.dst v') w') : wpList P ops Q (o :: rest) a w := by
  have hone : ∀ y ∈ [u], y.oneCell' = true := fun y hy => by
    rw [List.mem_singleton.1 hy]; exact h1
  obtain ⟨hl, ⟨rfl, rfl⟩ | ⟨g, off, cap, rfl, hb, hS⟩⟩ := hD
  · obtain rfl : cs = [] := List.eq_nil_of_length_eq_zero hl
    refine wpList_app_full w hgd s x t ho e z 1 bytes ht hinfo hzs (by decide) none 0 0 [] hs ⟨by simp, Nat.le_refl _, by decide, fun _ => ⟨rfl, rfl⟩, fun ad ha => by cases ha⟩ ad 1 1 [u] hx hsl hone (by decide) (by decide) hbytes ?_
    intro v' w' ho' hb'
    exact h v' w' none ((Deq.owned ho').lower hbase) (grown_below hb' none) (fun k hk => by cases hk)
  · obtain ⟨i, hi, hz, hsize, hby⟩ := info_parts hinfo
    obtain ⟨hg, hncap, hm, hsp, hce⟩ := hS
    refine wpList_append_arg w hgd s x t ho e i z 1 bytes ht hi hz hsize hby hzs (by decide) g off n cap cs hs (by simpa using hl) hce ad 1 1 [u] hx rfl (hsl.2.2.2.2 ad rfl) hone
      (fun hr j hj => ?_) (by unfold maxLen; omega) hbytes (fun hr => ?_) (fun hr v' w' ho' hg' => ?_)
    · obtain rfl : j = 0 := by simpa using hj
      have := hsp n (by omega)
      rw [Nat.mul_one, Nat.add_zero]; exact this
    · have h2 : ∀ j, j < [u].length → (w.cell? ⟨g, off + n * 1 + j, none⟩).isSome = true := fun j hj => by
        obtain rfl : j = 0 := by simpa using hj
        have := (hsp n (by omega)).1
        rw [Nat.mul_one, Nat.add_zero]; exact this
      refine h _ _ (some g) ⟨by simp [hl], .inr ⟨g, off, cap, rfl, hb, ?_, hr, hm, fun j hj => ?_, fun j u' hu => ?_⟩⟩ (grown_cells _ _) (fun k hk => by cases hk; exact hb)
      · rw [size_cells]; exact hg
      · exact ⟨World.isSome_setCells g _ _ w _ (hsp j hj).1, by rw [World.frozen?_setCells]; exact (hsp j hj).2⟩
      · by_cases hjn : j < n
        · rw [List.getElem?_append_left (by omega)] at hu
          rw [World.cell?_setCells_out g _ _ w _ (fun _ _ => .inl (by show off + j < off + n * 1; omega))]
          exact hce j u' hu
        · have hjl := (List.getElem?_eq_some_iff.1 hu).1
          rw [List.length_append] at hjl
          simp only [List.length_cons, List.length_nil] at hjl
          obtain rfl : j = n := by omega
          have h3 := World.cell?_setCells_in g [u] (off + j * 1) w h2 0 (by simp)
          rw [List.getElem?_append_right (by omega), hl, Nat.sub_self] at hu
          rw [Nat.mul_one, Nat.add_zero] at h3
          rw [Nat.mul_one, h3]; simpa using hu
    · exact h v' w' none ((Deq.owned ho').lower hbase) hg' (fun k hk => by cases hk)
/-- Behind a step that turns one block of the call's own, the box is as it was. -/
theorem box_keep {w w' : World} {b c cap base : Nat} {l : List Value} {row : Option Nat} (h : IsBox w b c cap l) (hg : w.grownBy w' row) (hr : ∀ k, row = some k → base ≤ k) (hb : b < base) (hc : c < base) : IsBox w' b c cap l :=
  h.keep hg (fun e => by have := hr b e.symm; omega) (fun e => by have := hr c e.symm; omega)
theorem grown_far {w1 w w' : World} {row : Option Nat} {c : Nat} (h : w1.grownBy w (some c)) (hg : w.grownBy w' row) (hr : ∀ k, row = some k → w1.heap.size ≤ k) : w1.grownBy w' (some c) :=
  ⟨hg.os.trans h.os, hg.tape.trans h.tape, hg.output.trans h.output, Nat.le_trans h.size hg.size, fun k hk hne => (hg.block k (Nat.lt_of_lt_of_le hk h.size) (fun e => by have := hr k e.symm; omega)).trans (h.block k hk hne)⟩
theorem Deq.sl {w : World} {base n c m : Nat} {A : Option Addr} {cs : List Value} (h : Deq w base (.slice A m c) n cs) : IsSl w 1 A n c cs := by
  obtain ⟨A2, c2, e, hs⟩ := h.form
  injection e with e1 e2 e3
  subst e1 e3
  exact hs
theorem Deq.some_form {w : World} {base n c : Nat} {A : Option Addr} {cs : List Value} (h : Deq w base (.slice A n c) n cs) (hn : 0 < n) : ∃ g off, A = some ⟨g, off, none⟩ ∧ base ≤ g ∧ Spare w g off n c cs := by
  obtain ⟨hl, ⟨_, h0⟩ | ⟨g, off, cap, e, hb, hS⟩⟩ := h
  · omega
  · injection e with e1 e2 e3
    subst e3
    exact ⟨g, off, e1, hb, hS⟩
theorem tail_deq {w : World} {base c g off : Nat} {y : Int} {ys : List Int} {n : Nat} (h : Spare w g off n c (nums (y :: ys))) (hb : base ≤ g) (hc : ys.length + 1 ≤ c) :
    ∃ ad : Addr, (if c = 1 then (some ⟨g, off, none⟩ : Option Addr) else some ⟨g, off + 1, none⟩) = some ad ∧ Hid (Deq w base (.slice (some ad) ys.length (c - 1)) ys.length (nums ys)) := by
  obtain ⟨h1, h2, h3, h4, h5⟩ := h
  have e : nums (y :: ys) = .int .i64 y :: nums ys := rfl
  have hS : Spare w g (off + 1) ys.length (c - 1) (nums ys) := by
    refine ⟨h1, by omega, by omega, fun j hj => ?_, fun j u hu => ?_⟩
    · have := h4 (j + 1) (by omega); rwa [show off + (j + 1) = off + 1 + j by omega] at this
    · have := h5 (j + 1) u (by rw [e]; simpa using hu); rwa [show off + (j + 1) = off + 1 + j by omega] at this
  by_cases hc1 : c = 1
  · obtain rfl : ys = [] := List.eq_nil_of_length_eq_zero (by omega)
    exact ⟨⟨g, off, none⟩, by rw [if_pos hc1], rfl, .inr ⟨g, off, c - 1, rfl, hb, h1, by simp, by omega, fun j hj => by omega, fun j u hu => by simp [nums] at hu⟩⟩
  · exact ⟨⟨g, off + 1, none⟩, by rw [if_neg hc1], nums_length ys, .inr ⟨g, off + 1, c - 1, rfl, hb, hS⟩⟩
theorem owned_form {w : World} {base n : Nat} {e : TypeId} {v : Value} {xs : List Value} (h : w.ownsRow base e 1 v n xs) (hn : 0 < n) : ∃ g cap, v = .slice (some ⟨g, 0, none⟩) n cap ∧ base ≤ g ∧ Spare w g 0 n cap xs := by
  have hD := Deq.owned h
  rcases h.2 with ⟨_, h0⟩ | ⟨g, cap, cur, rfl, hb, hg, h1, h2, h3, h4⟩
  · omega
  · obtain ⟨g', off', e', hb', hS'⟩ := hD.some_form hn
    injection e' with e'
    injection e' with e1 e2
    subst e1 e2
    exact ⟨g, cap, rfl, hb', hS'⟩
/-- Things to be done, as they lie in memory. -/
def dos (ds : List (Int × Int)) : List Value := ds.flatMap fun d => [.int .i64 d.1, .int .i64 d.2]
theorem dos_at : ∀ (ds : List (Int × Int)) (i : Nat) (h : i < ds.length), (dos ds)[i * 2]? = some (.int .i64 ds[i].1) ∧ (dos ds)[i * 2 + 1]? = some (.int .i64 ds[i].2)
  | d :: ds, 0, _ => ⟨rfl, rfl⟩
  | d :: ds, i + 1, h => by
    have := dos_at ds i (by simpa using h)
    have e : dos (d :: ds) = .int .i64 d.1 :: .int .i64 d.2 :: dos ds := rfl
    rw [e, show (i + 1) * 2 = i * 2 + 1 + 1 by omega]
    exact ⟨by simpa using this.1, by simpa using this.2⟩
def IsDos (w : World) (A : Option Addr) (n cap : Nat) (ds : List (Int × Int)) : Prop := IsSl w 2 A n cap (dos ds) ∧ ds.length = n ∧ ∀ d ∈ ds, (-9223372036854775808 ≤ d.1 ∧ d.1 ≤ 9223372036854775807) ∧ (-9223372036854775808 ≤ d.2 ∧ d.2 ≤ 9223372036854775807)
theorem spot_none {w : World} {a : Addr} {v : Value} (h : w.cell? a = some v) : a.spot = none := by
  cases hs : a.spot with
  | none => rfl
  | some q =>
    unfold World.cell? at h
    split at h
    · simp [hs] at h
    · cases h
theorem IsDos.at_ {w : World} {A : Option Addr} {n cap : Nat} {ds : List (Int × Int)} (h : IsDos w A n cap ds) {i : Nat} (hi : i < n) : ∃ ab ao op x, A = some ⟨ab, ao, none⟩ ∧ ds[i]? = some (op, x) ∧ w.cell? ⟨ab, ao + i * 2, none⟩ = some (.int .i64 op) ∧ w.cell? ⟨ab, ao + i * 2 + 1, none⟩ = some (.int .i64 x) ∧ (-9223372036854775808 ≤ op ∧ op ≤ 9223372036854775807) ∧ (-9223372036854775808 ≤ x ∧ x ≤ 9223372036854775807) := by
  obtain ⟨⟨h1, h2, h3, h4, h5⟩, hl, hr⟩ := h
  cases A with
  | none => have := h4 rfl; omega
  | some ad =>
    have hd := dos_at ds i (by omega)
    have hm := hr (ds[i]'(by omega)) (List.getElem_mem _)
    have c0 := h5 ad rfl _ _ hd.1
    have c1 := h5 ad rfl _ _ hd.2
    obtain ⟨ab, ao, sp⟩ := ad
    have hsp := spot_none (h5 _ rfl _ _ (dos_at ds 0 (by omega)).1)
    have hsp : sp = none := by simpa [Addr.add] using hsp
    subst hsp
    rw [Addr.add_lit] at c0 c1
    exact ⟨ab, ao, ds[i].1, ds[i].2, rfl, List.getElem?_eq_getElem (by omega), c0, c1, hm⟩
theorem IsDos.below {w w' : World} {A : Option Addr} {n cap : Nat} {ds : List (Int × Int)} (h : IsDos w A n cap ds) (hb : Below w.heap.size w w') : IsDos w' A n cap ds := ⟨h.1.below hb, h.2⟩
end Box
end Go.Proofs.Ytdmpgoaemoiogaa
