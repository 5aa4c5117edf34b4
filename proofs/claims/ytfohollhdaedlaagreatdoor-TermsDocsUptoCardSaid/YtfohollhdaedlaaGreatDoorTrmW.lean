/- Terms: what the reference's All answers, as it goes into a merge. -/
import Derived.Test.YtfohollhdaedlaaGreatDoorTrmRf
set_option linter.unusedVariables false
set_option linter.unusedSimpArgs false
set_option maxRecDepth 100000
namespace Go.Proofs.YtfohollhdaedlaaGreatDoor
open Go.RowKit
namespace Trm
open Tok
theorem insAll_len : ∀ (ts : List (ByteArray × Nat)) (l : List ByteArray), (insAll l ts).length ≤ l.length + ts.length
  | [], l => by simp [insAll]
  | x :: ts, l => by
    have h1 := insAll_len ts (insN l x.1)
    have h2 := insN_len l x.1
    show (insAll (insN l x.1) ts).length ≤ _
    rw [List.length_cons]; omega
theorem namesD_len (l : List ByteArray) (d : Exp.DocM) : ∀ i, (namesD l d i).length ≤ l.length + 60 * i
  | 0 => Nat.le_refl _
  | i + 1 => by
    have h1 := namesD_len l d i
    have h2 := insAll_len (trms (d.get i)) (namesD l d i)
    have h3 := trms_few (d.get i)
    show (insAll (namesD l d i) (trms (d.get i))).length ≤ _
    omega
theorem names_len_go : ∀ (ds : List Exp.DocM) (l : List ByteArray), (ds.foldl (fun l d => namesD l d 4) l).length ≤ l.length + 240 * ds.length
  | [], l => Nat.le_refl _
  | d :: ds, l => by
    have h1 := names_len_go ds (namesD l d 4)
    have h2 := namesD_len l d 4
    rw [List.foldl_cons, List.length_cons]; omega
theorem allT_len (ds : List Exp.DocM) (f : Int) : (allT ds f).length ≤ 240 * ds.length := by
  have := names_len_go ds []
  unfold allT names
  rw [List.length_map]
  simpa using this
/-- The reference's answer, where it lies. -/
def AllAt (w : World) (v : Value) (ds : List Exp.DocM) (f : Int) : Prop := ∃ ts, RT w v ts ∧ TmOk w ts (allT ds f)
theorem AllAt.below {w w' : World} {v : Value} {ds : List Exp.DocM} {f : Int} (h : AllAt w v ds f) (hb : Below w.heap.size w w') : AllAt w' v ds f := by
  obtain ⟨ts, h1, h2⟩ := h
  exact ⟨ts, h1.below hb, h2.below hb⟩
theorem terms_of {w : World} {v : Value} {ts : List MTerm} {M : List TermM} (h : RT w v ts) (k : TmOk w ts M) : RTerms w v M := by
  obtain ⟨A, c, h1, h2⟩ := h
  exact ⟨A, c, ts, h1, h2, k⟩
theorem AllAt.terms {w : World} {v : Value} {ds : List Exp.DocM} {f : Int} (h : AllAt w v ds f) : RTerms w v (allT ds f) := by
  obtain ⟨ts, h1, h2⟩ := h
  exact terms_of h1 h2
theorem rt_own {w : World} {B : Nat} {v : Value} {ts : List MTerm} (h : w.ownsRow B 37 2 v ts.length (tmCells ts)) : RT w v ts := by
  obtain ⟨A, c, h1, h2⟩ := own_form h
  exact ⟨A, c, h1, h2⟩
theorem AllAt.ins {w : World} {v : Value} {ds : List Exp.DocM} {f : Int} (h : AllAt w v ds f) : ∃ ts, RT w v ts ∧ (∀ s ∈ ts, RPosts w s.2.1 s.2.2 ∧ s.2.2.length ≤ ds.length) ∧ ts.map keyT = allT ds f ∧ Can (ts.map keyT) ∧ ts.length ≤ 240 * ds.length := by
  obtain ⟨ts, h1, h2, h3⟩ := h
  have h4 : ts.map keyT = allT ds f := h3
  refine ⟨ts, h1, fun s hs => ⟨h2 s hs, ?_⟩, h4, by rw [h4]; exact allT_can ds f, ?_⟩
  · have h5 : (s.1, s.2.2) ∈ allT ds f := by rw [← h3]; exact List.mem_map.2 ⟨s, hs, rfl⟩
    unfold allT at h5
    obtain ⟨t, _, h6⟩ := List.mem_map.1 h5
    have h7 := congrArg Prod.snd h6
    simp only at h7
    rw [← h7]
    exact posts_few t ds f
  · have := congrArg List.length h4
    rw [List.length_map] at this
    rw [this]; exact allT_len ds f
end Trm
end Go.Proofs.YtfohollhdaedlaaGreatDoor
