/- Ranging over a function whose iterator keeps what is left in a cell of its own that it writes: a law over any program. -/
import Derived.Test.YtfohollhdaedlaaDoorSl
import Derived.RangeFuncWrites
import Derived.RangeFuncCalls
import Derived.RangeFuncLeaves
set_option linter.unusedVariables false
set_option linter.unusedSimpArgs false
namespace Go.Proofs.YtfohollhdaedlaaDoor
open Go.RowKit
namespace Rg
/-- What abides new blocks and the iterator's writes to its own block. -/
def Bides (Bs : Nat) (J : Nat → World → Prop) : Prop := ∀ k A B, J k A → A.grownBy B (some Bs) → J k B
/-- An iterator that gives m things and keeps what is left in block Bs (St: ahead of it; Sh: at each thing that it gives). -/
def Gives (F : Fence) (n : Nat) (P : Program) (gf : Nat) (lb : Array Value) (Bs m : Nat) (enc : Nat → Array Value) (St Sh : World → Prop) : Prop :=
  ∀ (l : Nat) (J Jx : Nat → World → Prop) (W : World), St W → Bides Bs J →
    (∀ k W1, k < m → J k W1 → Sh W1 → YieldAt F (n - 1) P l (enc k) W1 fun e W' =>
      (e = .returned (.bool true) ∧ J (k + 1) W' ∧ W'.heap[Bs]? = W1.heap[Bs]?) ∨ (e = .returned (.bool false) ∧ Jx (k + 1) W')) →
    J 0 W → CallsIn F n P gf (#[.func (.yield l) #[] #[]] ++ lb) W fun e W' => (∃ v, e = .returned v) ∧ (J m W' ∨ ∃ k, k ≤ m ∧ Jx k W')
/-- How a round's body may be left. -/
def rowPost (B Bs : Nat) (I Ix : Nat → World → Prop) (k : Nat) (W : World) : Exit → Act → World → Prop
  | .normal, _, W' => KeepsFrom B W W' ∧ W'.heap[Bs]? = W.heap[Bs]? ∧ I (k + 1) W'
  | .ret, _, W' => KeepsFrom B W W' ∧ Ix (k + 1) W'
  | _, _, _ => False
variable {F : Fence} {n : Nat} {P : Program}
theorem wpIn_range_row {g : Operand} {ps : Array Tmp} {assign body : Code} {Q : Exit → Act → World → Prop} {a : Act} {w : World}
    (hro : F.round = none) (h1 : 1 ≤ n) {gf : Nat} {lb : Array Value} (hg : a.eval g = .func (.func gf) #[] lb) (hFg : F.fn gf) (eg : ∀ args w, (callFunc gf args).run P w = .ok (.enter gf args) w)
    {Bs m : Nat} {enc : Nat → Array Value} {St Sh : World → Prop} (hseq : Gives F (n - 1) P gf lb Bs m enc St Sh) (hSh : ∀ A B, B.heap[Bs]? = A.heap[Bs]? → Sh A → Sh B) (hSt : ∀ W, W.heap[Bs]? = w.heap[Bs]? → St W) (hBs : Bs < w.heap.size) (hps : ∀ k, (enc k).size = ps.size)
    (I Ix : Nat → World → Prop) (hIb : Bides Bs I) (hI : OwnFrom w.heap.size I) (hIx : OwnFrom w.heap.size Ix) (h0 : I 0 w) (a₁ : Nat → Act)
    (hassign : ∀ (l k : Nat) (W : World) (K : Act → World → Prop), K (a₁ k) W →
      assign.wpIn (F.inRound l) (n - 1 - 1) P (Exit.then K (fun _ _ _ => False)) { tmps := (ps.zip (enc k)).foldl (fun t (p, v) => t.setIfInBounds p v) a.tmps, defers := [] } W)
    (hbody : ∀ (l k : Nat) (W : World), k < m → I k W → Sh W → body.wpIn (F.inRound l) (n - 1 - 1) P (rowPost w.heap.size Bs I Ix k W) (a₁ k) W)
    (hdone : ∀ (D : Nat) (W : World), w.heap.size ≤ D → I m W → W.heap[D]? = some (.deferred (some [])) → Q .normal { a with defers := { target := .collected D, args := #[] } :: a.defers } W)
    (hstop : ∀ (D k : Nat) (W : World), w.heap.size ≤ D → k ≤ m → Ix k W → W.heap[D]? = some (.deferred (some [])) → Code.ret.wpIn F n P Q { a with defers := { target := .collected D, args := #[] } :: a.defers } W) :
    (Code.rangeFunc g ps assign body).wpIn F n P Q a w := by
  refine wpIn_rangeFunc fun fn hfn => ?_
  rw [hro]
  obtain ⟨rc, hrc⟩ : ∃ rc : LoopState → Option Code → Loop, rc = fun st pe => { state := st, pending := pe, fn, tmps := a.tmps, params := ps, assign, body, defers := w.heap.size } := ⟨_, rfl⟩
  let D := w.heap.size
  let l := w.heap.size + 1
  have q1 : ((w.alloc (.deferred (some []))).alloc (.loop (rc .ready none))).heap[l]? = some (.loop (rc .ready none)) := by
    have := World.alloc_heap_new (w.alloc (.deferred (some []))) (.loop (rc .ready none))
    rwa [World.size_alloc] at this
  have q2 : ((w.alloc (.deferred (some []))).alloc (.loop (rc .ready none))).heap[D]? = some (.deferred (some [])) :=
    (Below.heap_alloc _ _ _ (by simp [D])).trans (World.alloc_heap_new w _)
  have q3 : ((w.alloc (.deferred (some []))).alloc (.loop (rc .ready none))).heap[Bs]? = w.heap[Bs]? :=
    (Below.heap_alloc _ _ _ (by simp; omega)).trans (Below.heap_alloc _ _ _ hBs)
  have q4 : I 0 ((w.alloc (.deferred (some []))).alloc (.loop (rc .ready none))) := hI.alloc _ (hI.alloc _ h0)
  refine ⟨l, [{ target := .collected D, args := #[] }], (w.alloc (.deferred (some []))).alloc (.loop (rc .ready none)), { target := .fn (.func gf) lb, args := #[.func (.yield l) #[] #[]] }, (w.alloc (.deferred (some []))).alloc (.loop (rc .ready none)), gf,
    #[.func (.yield l) #[] #[]] ++ lb, (w.alloc (.deferred (some []))).alloc (.loop (rc .ready none)), ?_, ?_, ?_, ?_, fun _ => h1, ?_⟩
  · rw [hrc]; exact run_enterLoop_outer _ _ _ _ _
  · simp only [resolve, hg]
    simp [go_sem]
  · intro f' hf'
    simp [Target.leads] at hf'
    subst hf'
    exact hFg
  · simp [invoke, go_sem, eg]
  generalize (w.alloc (.deferred (some []))).alloc (.loop (rc .ready none)) = W0 at *
  have far : ∀ {A B : World} {o : Obj} (i : Nat), w.heap.size ≤ i → A.grownBy B (some Bs) → A.heap[i]? = some o → B.heap[i]? = some o := fun i hi hgr ho =>
    (hgr.block i (Array.getElem?_eq_some_iff.1 ho).1 (fun e => by cases e; omega)).trans ho
  refine (hseq l (fun k W => I k W ∧ W.heap[l]? = some (.loop (rc .ready none)) ∧ W.heap[D]? = some (.deferred (some [])))
    (fun k W => Ix k W ∧ W.heap[l]? = some (.loop (rc .done (some .ret))) ∧ W.heap[D]? = some (.deferred (some []))) W0 (hSt _ q3)
    (fun k A B hs hgr => ⟨hIb k A B hs.1 hgr, far l (by simp [l]) hgr hs.2.1, far D (by simp [D]) hgr hs.2.2⟩) ?_ ⟨q4, q1, q2⟩).mono ?_
  · rintro k W hk ⟨hi, hl, hd⟩ hsh
    have hlt : l < W.heap.size := (Array.getElem?_eq_some_iff.1 hl).1
    have hne : D ≠ l := by simp [D, l]
    have hy := run_yield (P := P) (args := enc k) hl (by rw [hrc]; exact hps k)
    rw [hrc] at hy
    refine ⟨fn, _, assign, body, hy, roundIn_of_wpIn hfn (hassign _ k W _ ⟨_, run_beginRound hl (by rw [hrc]), ?_⟩)⟩
    have hl2 : (W.putObj l (.loop { rc .ready none with state := .busy })).heap[l]? = some (.loop { rc .ready none with state := .busy }) := World.putObj_heap_same hlt
    have hd2 : (W.putObj l (.loop { rc .ready none with state := .busy })).heap[D]? = some (.deferred (some [])) := (World.putObj_heap_other hne).trans hd
    have hb2 : (W.putObj l (.loop { rc .ready none with state := .busy })).heap[Bs]? = W.heap[Bs]? := World.putObj_heap_other (by simp only [l]; omega)
    refine wpIn_mono (hbody l k _ hk (hI.putObj _ hi (by simp [l]) hl rfl) (hSh _ _ hb2 hsh)) ?_
    have fin : ∀ (jump : Option Code) (W3 : World), KeepsFrom w.heap.size (W.putObj l (.loop { rc .ready none with state := .busy })) W3 →
        (Instr.endRound l jump).run P W3 = .ok (.bool jump.isNone) (W3.putObj l (.loop (rc (if jump.isNone then .ready else .done) jump))) ∧
        W3.heap[l]? = some (.loop { rc .ready none with state := .busy }) ∧
        (W3.putObj l (.loop (rc (if jump.isNone then .ready else .done) jump))).heap[l]? = some (.loop (rc (if jump.isNone then .ready else .done) jump)) ∧
        (W3.putObj l (.loop (rc (if jump.isNone then .ready else .done) jump))).heap[D]? = some (.deferred (some [])) := fun jump W3 hk3 => by
      have hl3 := hk3.same l _ (by simp [l]) hl2 rfl
      have hr := run_endRound (P := P) jump hl3
      rw [hrc] at hr ⊢
      exact ⟨hr, by rw [hrc] at hl3; exact hl3, World.putObj_heap_same (Array.getElem?_eq_some_iff.1 hl3).1, (World.putObj_heap_other hne).trans (hk3.same D _ (Nat.le_refl _) hd2 rfl)⟩
    rintro e a3 W3 hp
    cases e with
    | normal =>
      obtain ⟨hk3, hb3, hi3⟩ := hp
      obtain ⟨hr, hl3, hl4, hd4⟩ := fin none W3 hk3
      exact ⟨_, _, hr, .inl ⟨rfl, ⟨hI.putObj _ hi3 (by simp [l]) hl3 rfl, hl4, hd4⟩, (World.putObj_heap_other (by simp only [l]; omega)).trans (hb3.trans hb2)⟩⟩
    | ret =>
      obtain ⟨hk3, hi3⟩ := hp
      obtain ⟨hr, hl3, hl4, hd4⟩ := fin (some .ret) W3 hk3
      exact ⟨_, _, hr, .inr ⟨rfl, hIx.putObj _ hi3 (by simp [l]) hl3 rfl, hl4, hd4⟩⟩
    | exit id => exact hp.elim
    | goto t => exact hp.elim
    | panic ch => exact hp.elim
    | outgrown => exact hp.elim
  · have hne : D ≠ l := by simp [D, l]
    rintro e W2 ⟨⟨v, rfl⟩, (⟨hi, hl, hd⟩ | ⟨k, hk, hi, hl, hd⟩)⟩
    · exact ⟨none, _, by have hr := run_endLoop (P := P) hl (by rw [hrc]; simp); rw [hrc] at hr; exact hr, hdone D _ (Nat.le_refl _) (hI.putObj _ hi (by simp [l]) hl rfl) ((World.putObj_heap_other hne).trans hd)⟩
    · exact ⟨some .ret, _, by have hr := run_endLoop (P := P) hl (by rw [hrc]; simp); rw [hrc] at hr; exact hr, hstop D k _ (Nat.le_refl _) hk (hIx.putObj _ hi (by simp [l]) hl rfl) ((World.putObj_heap_other hne).trans hd)⟩
end Rg
end Go.Proofs.YtfohollhdaedlaaDoor
