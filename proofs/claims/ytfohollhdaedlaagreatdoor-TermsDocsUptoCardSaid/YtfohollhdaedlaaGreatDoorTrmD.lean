import Derived.Test.YtfohollhdaedlaaGreatDoorTrmC
import Derived.Deep.AppendLies
/- Terms: many rows of the call's own, each in a block of its own; a table of places in memory. -/
set_option linter.unusedVariables false
set_option linter.unusedSimpArgs false
set_option maxRecDepth 100000
namespace Go.Proofs.YtfohollhdaedlaaGreatDoor
open Go.RowKit
namespace Trm
/-- A row of the call's own that is not empty. -/
def Own1 (w : World) (B : Nat) (e : TypeId) (size : Nat) (r : Value × List Value) : Prop := ∃ n, 0 < n ∧ w.ownsRow B e size r.1 n r.2
theorem Own1.block {w : World} {B : Nat} {e : TypeId} {size : Nat} {r : Value × List Value} (h : Own1 w B e size r) : ∃ g cap cur n, r.1 = .slice (some ⟨g, 0, none⟩) n cap ∧ r.1.ownBlock = some g ∧ B ≤ g ∧ w.heap[g]? = some (.cells cur e (0, 0)) := by
  obtain ⟨n, hn, h⟩ := h
  rcases h.2 with ⟨_, h0⟩ | ⟨g, cap, cur, hv, hb, hg, _⟩
  · omega
  · exact ⟨g, cap, cur, n, hv, by rw [hv]; rfl, hb, hg⟩
theorem Own1.same {w w' : World} {B : Nat} {e : TypeId} {size : Nat} {r : Value × List Value} (h : Own1 w B e size r) (hs : ∀ g, r.1.ownBlock = some g → w'.heap[g]? = w.heap[g]?) : Own1 w' B e size r := by
  obtain ⟨n, hn, h⟩ := h
  refine ⟨n, hn, h.1, ?_⟩
  rcases h.2 with h0 | ⟨g, cap, cur, hv, hb, hg, r⟩
  · exact .inl h0
  · exact .inr ⟨g, cap, cur, hv, hb, (hs g (by rw [hv]; rfl)).trans hg, r⟩
/-- Rows, each in a block of its own. -/
def RowsOf (w : World) (B : Nat) (e : TypeId) (size : Nat) (rs : List (Value × List Value)) : Prop := (∀ r ∈ rs, Own1 w B e size r) ∧ rs.Pairwise (fun a b => a.1.ownBlock ≠ b.1.ownBlock)
theorem RowsOf.nil (w : World) (B : Nat) (e : TypeId) (size : Nat) : RowsOf w B e size [] := ⟨fun r h => absurd h List.not_mem_nil, .nil⟩
theorem RowsOf.same {w w' : World} {B : Nat} {e : TypeId} {size : Nat} {rs : List (Value × List Value)} (h : RowsOf w B e size rs) (hs : ∀ (g : Nat) (cur : Array Value), w.heap[g]? = some (Obj.cells cur e (0, 0)) → w'.heap[g]? = w.heap[g]?) : RowsOf w' B e size rs := by
  refine ⟨fun r hr => ?_, h.2⟩
  have h1 := h.1 r hr
  refine h1.same fun g hg => ?_
  obtain ⟨g', cap, cur, n, _, hb, _, hc⟩ := h1.block
  rw [hb] at hg
  obtain rfl := Option.some.inj hg
  exact hs g' cur hc
theorem RowsOf.below {w w' : World} {B : Nat} {e : TypeId} {size : Nat} {rs : List (Value × List Value)} (h : RowsOf w B e size rs) (hb : Below w.heap.size w w') : RowsOf w' B e size rs :=
  h.same fun g cur hg => hb.block g (Array.getElem?_eq_some_iff.1 hg).1
/-- One of them is turned; it lies where it lay, or in a new block. -/
theorem RowsOf.turn {w w' : World} {B : Nat} {e : TypeId} {size : Nat} {l1 l2 : List (Value × List Value)} {r r' : Value × List Value} (h : RowsOf w B e size (l1 ++ r :: l2)) (hg : w.grownBy w' r.1.ownBlock) (hr' : Own1 w' B e size r')
    (hb : r'.1.ownBlock = r.1.ownBlock ∨ ∃ g, r'.1.ownBlock = some g ∧ w.heap.size ≤ g) : RowsOf w' B e size (l1 ++ r' :: l2) := by
  obtain ⟨h1, h2⟩ := h
  rw [List.pairwise_append] at h2
  obtain ⟨p1, p2, p3⟩ := h2
  rw [List.pairwise_cons] at p2
  obtain ⟨p2, p4⟩ := p2
  have lt : ∀ s ∈ l1 ++ r :: l2, ∀ g, s.1.ownBlock = some g → g < w.heap.size := fun s hs g hg2 => by
    obtain ⟨g', cap, cur, n, _, hb2, _, hc⟩ := (h1 s hs).block
    rw [hb2] at hg2
    obtain rfl := Option.some.inj hg2
    exact (Array.getElem?_eq_some_iff.1 hc).1
  have far : ∀ s ∈ l1 ++ r :: l2, s.1.ownBlock ≠ r.1.ownBlock → Own1 w' B e size s := fun s hs hne => (h1 s hs).same fun g hg2 => hg.block g (lt s hs g hg2) (by rw [← hg2]; exact hne)
  have ne : ∀ s ∈ l1 ++ r :: l2, s.1.ownBlock ≠ r.1.ownBlock → s.1.ownBlock ≠ r'.1.ownBlock := fun s hs hne => by
    rcases hb with hb | ⟨g, hb, hge⟩
    · rw [hb]; exact hne
    · intro he
      have := lt s hs g (by rw [he, hb])
      omega
  have m1 : ∀ s ∈ l1, s ∈ l1 ++ r :: l2 := fun s hs => List.mem_append_left _ hs
  have m2 : ∀ s ∈ l2, s ∈ l1 ++ r :: l2 := fun s hs => List.mem_append_right _ (List.mem_cons_of_mem _ hs)
  have n1 : ∀ s ∈ l1, s.1.ownBlock ≠ r.1.ownBlock := fun s hs => p3 s hs r (List.mem_cons_self ..)
  have n2 : ∀ s ∈ l2, s.1.ownBlock ≠ r.1.ownBlock := fun s hs => fun he => p2 s hs he.symm
  refine ⟨fun s hs => ?_, ?_⟩
  · rcases List.mem_append.1 hs with hs | hs
    · exact far s (m1 s hs) (n1 s hs)
    · rcases List.mem_cons.1 hs with rfl | hs
      · exact hr'
      · exact far s (m2 s hs) (n2 s hs)
  · rw [List.pairwise_append, List.pairwise_cons]
    refine ⟨p1, ⟨fun s hs => fun he => ne s (m2 s hs) (n2 s hs) he.symm, p4⟩, fun x hx y hy => ?_⟩
    rcases List.mem_cons.1 hy with rfl | hy
    · exact ne x (m1 x hx) (n1 x hx)
    · exact p3 x hx y (List.mem_cons_of_mem _ hy)
/-- One more, in a new block. -/
theorem RowsOf.more {w w' : World} {B : Nat} {e : TypeId} {size : Nat} {l1 l2 : List (Value × List Value)} {r' : Value × List Value} (h : RowsOf w B e size (l1 ++ l2)) (hk : RowsOf w' B e size (l1 ++ l2)) (hr' : Own1 w' B e size r')
    (hb : ∃ g, r'.1.ownBlock = some g ∧ w.heap.size ≤ g) : RowsOf w' B e size (l1 ++ r' :: l2) := by
  obtain ⟨g, hb, hge⟩ := hb
  obtain ⟨h1, h2⟩ := h
  rw [List.pairwise_append] at h2
  obtain ⟨p1, p2, p3⟩ := h2
  have ne : ∀ s ∈ l1 ++ l2, s.1.ownBlock ≠ r'.1.ownBlock := fun s hs he => by
    obtain ⟨g', cap, cur, n, _, hb2, _, hc⟩ := (h1 s hs).block
    rw [hb2, hb] at he
    have := (Array.getElem?_eq_some_iff.1 hc).1
    have := Option.some.inj he
    omega
  refine ⟨fun s hs => ?_, ?_⟩
  · rcases List.mem_append.1 hs with hs | hs
    · exact hk.1 s (List.mem_append_left _ hs)
    · rcases List.mem_cons.1 hs with rfl | hs
      · exact hr'
      · exact hk.1 s (List.mem_append_right _ hs)
  · rw [List.pairwise_append, List.pairwise_cons]
    refine ⟨p1, ⟨fun s hs he => ne s (List.mem_append_right _ hs) he.symm, p2⟩, fun x hx y hy => ?_⟩
    rcases List.mem_cons.1 hy with rfl | hy
    · exact ne x (List.mem_append_left _ hx)
    · exact p3 x hx y hy
/-- A spot: a field, and its places' row. -/
abbrev MSpot := Int × Value × List Int
abbrev MEnt := ByteArray × Value × List MSpot
def spCells (ss : List MSpot) : List Value := ss.flatMap fun s => [.int .i64 s.1, s.2.1]
theorem spCells_append (l m : List MSpot) : spCells (l ++ m) = spCells l ++ spCells m := by simp [spCells]
theorem spCells_length : ∀ l : List MSpot, (spCells l).length = l.length * 2
  | [] => rfl
  | x :: l => by
    have := spCells_length l
    show (spCells l).length + 1 + 1 = _
    rw [this, List.length_cons]; omega
def ents (m : List MEnt) : List Ent := m.map fun e => (e.1, e.2.1)
def spRows (m : List MEnt) : List (Value × List Value) := m.map fun e => (e.2.1, spCells e.2.2)
def inRow (s : MSpot) : Value × List Value := (s.2.1, s.2.2.map (.int .i64))
def inRows (m : List MEnt) : List (Value × List Value) := m.flatMap fun e => e.2.2.map inRow
theorem inRows_append (l m : List MEnt) : inRows (l ++ m) = inRows l ++ inRows m := by simp [inRows]
theorem inRows_cons (e : MEnt) (m : List MEnt) : inRows (e :: m) = e.2.2.map inRow ++ inRows m := by simp [inRows]
/-- A table of places. -/
structure IsTM (B b : Nat) (v : Value) (m : List MEnt) (w : World) : Prop where
  tab : IsTab B b v (ents m) w
  sp : RowsOf w B 64 2 (spRows m)
  at_ : RowsOf w B 3 1 (inRows m)
theorem IsTM.below {B b : Nat} {v : Value} {m : List MEnt} {w w' : World} (h : IsTM B b v m w) (hb : Below w.heap.size w w') : IsTM B b v m w' := ⟨h.tab.below hb, h.sp.below hb, h.at_.below hb⟩
/-- What is known of it without its memory. -/
abbrev SpotM := Int × List Int
def plainE (e : MEnt) : ByteArray × List SpotM := (e.1, e.2.2.map fun s => (s.1, s.2.2))
def addS (ss : List SpotM) (f a : Int) : List SpotM := match ss.getLast? with
  | some s => if s.1 = f then ss.dropLast ++ [(s.1, s.2 ++ [a])] else ss ++ [(f, [a])]
  | none => [(f, [a])]
def addM (t : ByteArray) (f a : Int) : List (ByteArray × List SpotM) → List (ByteArray × List SpotM)
  | [] => [(t, [(f, [a])])]
  | x :: l => if slt x.1 t = true then x :: addM t f a l else if x.1 = t then (t, addS x.2 f a) :: l else (t, [(f, [a])]) :: x :: l
theorem ents_append (l m : List MEnt) : ents (l ++ m) = ents l ++ ents m := by simp [ents]
theorem putE_mid {t : ByteArray} {v v' : Value} : ∀ {l1 l2 : List Ent}, (∀ x ∈ l1, slt x.1 t = true) → putE t v' (l1 ++ (t, v) :: l2) = l1 ++ (t, v') :: l2
  | [], l2, _ => by
    show putE t v' ((t, v) :: l2) = _
    unfold putE
    rw [if_neg (by show ¬ slt t t = true; rw [slt_irrefl]; decide), if_pos rfl]; rfl
  | x :: l1, l2, h => by
    show putE t v' (x :: (l1 ++ (t, v) :: l2)) = _
    unfold putE
    rw [if_pos (h x (List.mem_cons_self ..)), putE_mid fun y hy => h y (List.mem_cons_of_mem _ hy)]; rfl
theorem addM_mid {t : ByteArray} {f a : Int} {ss : List SpotM} : ∀ {l1 l2 : List (ByteArray × List SpotM)}, (∀ x ∈ l1, slt x.1 t = true) → addM t f a (l1 ++ (t, ss) :: l2) = l1 ++ (t, addS ss f a) :: l2
  | [], l2, _ => by
    show addM t f a ((t, ss) :: l2) = _
    unfold addM
    rw [if_neg (by show ¬ slt t t = true; rw [slt_irrefl]; decide), if_pos rfl]; rfl
  | x :: l1, l2, h => by
    show addM t f a (x :: (l1 ++ (t, ss) :: l2)) = _
    unfold addM
    rw [if_pos (h x (List.mem_cons_self ..)), addM_mid fun y hy => h y (List.mem_cons_of_mem _ hy)]; rfl
/-- A table without a key: where it would go. -/
theorem split_no {t : ByteArray} : ∀ (m : List MEnt), (∀ e ∈ m, e.1 ≠ t) → ∃ m1 m2, m = m1 ++ m2 ∧ (∀ v, putE t v (ents m) = ents m1 ++ (t, v) :: ents m2) ∧ ∀ f a, addM t f a (m.map plainE) = m1.map plainE ++ (t, [(f, [a])]) :: m2.map plainE
  | [], _ => ⟨[], [], rfl, fun v => rfl, fun f a => rfl⟩
  | x :: m, h => by
    by_cases hx : slt x.1 t = true
    · obtain ⟨m1, m2, rfl, h1, h2⟩ := split_no m fun e he => h e (List.mem_cons_of_mem _ he)
      refine ⟨x :: m1, m2, rfl, fun v => ?_, fun f a => ?_⟩
      · show putE t v ((x.1, x.2.1) :: ents (m1 ++ m2)) = _
        unfold putE
        rw [if_pos hx, h1 v]; rfl
      · show addM t f a (plainE x :: (m1 ++ m2).map plainE) = _
        unfold addM
        rw [if_pos (show slt (plainE x).1 t = true from hx), h2 f a]; rfl
    · have hne := h x (List.mem_cons_self ..)
      refine ⟨[], x :: m, rfl, fun v => ?_, fun f a => ?_⟩
      · show putE t v ((x.1, x.2.1) :: ents m) = _
        unfold putE
        rw [if_neg hx, if_neg hne]; rfl
      · show addM t f a (plainE x :: m.map plainE) = _
        unfold addM
        rw [if_neg (show ¬ slt (plainE x).1 t = true from hx), if_neg (show ¬ (plainE x).1 = t from hne)]; rfl
end Trm
end Go.Proofs.YtfohollhdaedlaaGreatDoor
/- Terms: a place is added to a table of places: what becomes of the memory. -/
set_option linter.unusedVariables false
set_option linter.unusedSimpArgs false
set_option maxRecDepth 100000
namespace Go.Proofs.YtfohollhdaedlaaGreatDoor
open Go.RowKit
namespace Trm
/-- All blocks but the table's and rows of entries, spots and numbers stay. -/
def KeptA (b : Nat) (w w' : World) : Prop := ∀ (k : Nat) (o : Obj), w.heap[k]? = some o → k ≠ b → (∀ cs fr, o ≠ .cells cs 74 fr) → (∀ cs fr, o ≠ .cells cs 64 fr) → (∀ cs fr, o ≠ .cells cs 3 fr) → w'.heap[k]? = some o
theorem KeptA.trans {b : Nat} {w w1 w2 : World} (h : KeptA b w w1) (h' : KeptA b w1 w2) : KeptA b w w2 := fun k o ho hk h1 h2 h3 => h' k o (h k o ho hk h1 h2 h3) hk h1 h2 h3
theorem KeptA.of_below (b : Nat) {w w' : World} (h : Below w.heap.size w w') : KeptA b w w' := fun k o ho _ _ _ _ => (h.block k (Array.getElem?_eq_some_iff.1 ho).1).trans ho
theorem KeptA.of_t {b : Nat} {w w' : World} (h : KeptT b w w') : KeptA b w w' := fun k o ho hk h1 _ _ => h k o ho hk h1
theorem grown_far {B n size : Nat} {e : TypeId} {w w' : World} {v : Value} {xs : List Value} (h : w.ownsRow B e size v n xs) (hg : w.grownBy w' v.ownBlock) {k : Nat} {o : Obj} (ho : w.heap[k]? = some o) (hd : ∀ cs fr, o ≠ .cells cs e fr) : w'.heap[k]? = some o := by
  refine (hg.block k (Array.getElem?_eq_some_iff.1 ho).1 fun e2 => ?_).trans ho
  rcases h.2 with ⟨rfl, _⟩ | ⟨g, cap, cur, rfl, _, hg, _⟩
  · cases e2
  · have h2 : k = g := Option.some.inj e2
    subst h2
    rw [hg] at ho
    exact hd _ _ (Option.some.inj ho).symm
theorem cells_ne {cs : Array Value} {e e' : TypeId} {fr : Nat × Nat} (h : e ≠ e') : ∀ cs' fr', (Obj.cells cs e fr) ≠ .cells cs' e' fr' := fun cs' fr' he => by injection he with _ h2; exact h h2
theorem KeptA.sp {b B n size : Nat} {w w' : World} {v : Value} {xs : List Value} (h : w.ownsRow B 64 size v n xs) (hg : w.grownBy w' v.ownBlock) : KeptA b w w' := fun k o ho _ _ h2 _ => grown_far h hg ho h2
theorem KeptA.at_ {b B n size : Nat} {w w' : World} {v : Value} {xs : List Value} (h : w.ownsRow B 3 size v n xs) (hg : w.grownBy w' v.ownBlock) : KeptA b w w' := fun k o ho _ _ _ h3 => grown_far h hg ho h3
/-- A row of one type is turned: rows of another type stay. -/
theorem RowsOf.other {w w' : World} {B B' : Nat} {e e' : TypeId} {size size' n : Nat} {rs : List (Value × List Value)} {v : Value} {xs : List Value} (h : RowsOf w B e size rs) (ho : w.ownsRow B' e' size' v n xs) (hg : w.grownBy w' v.ownBlock) (hne : e ≠ e') : RowsOf w' B e size rs :=
  h.same fun g cur hc => (grown_far ho hg hc (cells_ne hne)).trans hc.symm
theorem own_other {w w' : World} {B B' : Nat} {e e' : TypeId} {size size' n m : Nat} {u v : Value} {xs ys : List Value} (h : w.ownsRow B e size u m ys) (ho : w.ownsRow B' e' size' v n xs) (hg : w.grownBy w' v.ownBlock) (hne : e ≠ e') : w'.ownsRow B e size u m ys := by
  refine ⟨h.1, ?_⟩
  rcases h.2 with h0 | ⟨g, cap, cur, hv, hb, hgg, r⟩
  · exact .inl h0
  · exact .inr ⟨g, cap, cur, hv, hb, grown_far ho hg hgg (cells_ne hne), r⟩
theorem IsTab.other {B b : Nat} {v u : Value} {l : List Ent} {w w' : World} {B' n size : Nat} {e : TypeId} {xs : List Value} (h : IsTab B b v l w) (ho : w.ownsRow B' e size u n xs) (hg : w.grownBy w' u.ownBlock) (h1 : 74 ≠ e) (h2 : 47 ≠ e) : IsTab B b v l w' :=
  ⟨h.le, h.srt, grown_far ho hg h.head (cells_ne h2), own_other h.row ho hg h1⟩
theorem RowsOf.kept {b B size : Nat} {e : TypeId} {w w' : World} {rs : List (Value × List Value)} (h : RowsOf w B e size rs) (hk : KeptT b w w') (hb : ∃ cs t fr, w.heap[b]? = some (.cells cs t fr) ∧ t ≠ e) (hne : e ≠ 74) : RowsOf w' B e size rs :=
  h.same fun g cur hc => (hk g _ hc (fun e2 => by
    obtain ⟨cs, t, fr, h1, h2⟩ := hb
    rw [← e2, hc] at h1
    injection h1 with h1
    injection h1 with _ h3
    exact h2 h3.symm) (cells_ne hne)).trans hc.symm
/-- Behind Put. -/
theorem tm_put {B b : Nat} {v u v' : Value} {l : List Ent} {t : ByteArray} {m' : List MEnt} {w w' : World} (h : IsTab B b v l w) (hp : IsTab B b u (putE t v' l) w') (hk : KeptT b w w') (he : putE t v' l = ents m')
    (hs : RowsOf w B 64 2 (spRows m')) (ha : RowsOf w B 3 1 (inRows m')) : IsTM B b u m' w' :=
  ⟨by rw [← he]; exact hp, hs.kept hk ⟨_, _, _, h.head, by decide⟩ (by decide), ha.kept hk ⟨_, _, _, h.head, by decide⟩ (by decide)⟩
theorem spRows_mid (m1 m2 : List MEnt) (e : MEnt) : spRows (m1 ++ e :: m2) = spRows m1 ++ (e.2.1, spCells e.2.2) :: spRows m2 := by simp [spRows]
theorem inRows_mid (m1 m2 : List MEnt) (e : MEnt) : inRows (m1 ++ e :: m2) = inRows m1 ++ (e.2.2.map inRow ++ inRows m2) := by simp [inRows]
theorem ents_mid (m1 m2 : List MEnt) (e : MEnt) : ents (m1 ++ e :: m2) = ents m1 ++ (e.1, e.2.1) :: ents m2 := by simp [ents]
theorem RowsOf.own {w : World} {B : Nat} {e : TypeId} {size : Nat} {rs : List (Value × List Value)} (h : RowsOf w B e size rs) {r : Value × List Value} (hr : r ∈ rs) (hs : 0 < size) (k : Nat) (hk : r.2.length = k * size) : 0 < k ∧ w.ownsRow B e size r.1 k r.2 := by
  obtain ⟨n, hn, ho⟩ := h.1 r hr
  have : n = k := Nat.eq_of_mul_eq_mul_right hs (ho.1.symm.trans hk)
  subst this
  exact ⟨hn, ho⟩
theorem ent_split {m : List MEnt} {t : ByteArray} {i : Nat} {x : Ent} (hx : (ents m)[i]? = some x) (ht : x.1 = t) : ∃ m1 ss m2, m = m1 ++ (t, x.2, ss) :: m2 := by
  unfold ents at hx
  rw [List.getElem?_map, Option.map_eq_some_iff] at hx
  obtain ⟨e, he, rfl⟩ := hx
  have hi := (List.getElem?_eq_some_iff.1 he)
  obtain ⟨h1, h2⟩ := hi
  refine ⟨m.take i, e.2.2, m.drop (i + 1), ?_⟩
  have h3 : m = m.take i ++ m.drop i := (List.take_append_drop i m).symm
  rw [List.drop_eq_getElem_cons h1, h2] at h3
  have h4 : (t, e.2.1, e.2.2) = e := by rw [← ht]
  show m = m.take i ++ (t, e.2.1, e.2.2) :: m.drop (i + 1)
  rw [h4]; exact h3
theorem mid_lt {m1 m2 : List MEnt} {t : ByteArray} {v : Value} {ss : List MSpot} (h : Srt (ents (m1 ++ (t, v, ss) :: m2))) : ∀ x ∈ ents m1, slt x.1 t = true := by
  intro x hx
  rw [ents_mid] at h
  obtain ⟨i, hi⟩ := List.mem_iff_getElem?.1 hx
  have h1 := (List.getElem?_eq_some_iff.1 hi).1
  exact h i (ents m1).length x (t, v) h1 (by rw [List.getElem?_append_left h1]; exact hi) (by rw [List.getElem?_append_right (Nat.le_refl _), Nat.sub_self]; rfl)
theorem plain_mid {m1 m2 : List MEnt} {t : ByteArray} {v : Value} {ss : List MSpot} (h : Srt (ents (m1 ++ (t, v, ss) :: m2))) (f a : Int) :
    addM t f a ((m1 ++ (t, v, ss) :: m2).map plainE) = m1.map plainE ++ (t, addS (ss.map fun s => (s.1, s.2.2)) f a) :: m2.map plainE := by
  rw [List.map_append, List.map_cons]
  refine addM_mid fun x hx => ?_
  obtain ⟨e, he, rfl⟩ := List.mem_map.1 hx
  exact mid_lt h (e.1, e.2.1) (List.mem_map.2 ⟨e, he, rfl⟩)
theorem addS_last (ss : List SpotM) (s : SpotM) (f a : Int) : addS (ss ++ [s]) f a = if s.1 = f then ss ++ [(s.1, s.2 ++ [a])] else ss ++ [s] ++ [(f, [a])] := by
  unfold addS
  rw [List.getLast?_concat]
  simp only [List.dropLast_concat]
theorem inf_spot : (Tryz.prog.info? 64).map (fun i => (i.zero, i.size, i.bytes)) = some (some (.agg #[.int .i64 0, .slice none 0 0]), 2, 32) := by kernel_rfl
theorem inf_int : (Tryz.prog.info? 3).map (fun i => (i.zero, i.size, i.bytes)) = some (some (.int .i64 0), 1, 8) := by kernel_rfl
theorem spCells_last (ss : List MSpot) (s : MSpot) : (spCells (ss ++ [s]))[ss.length * 2]? = some (.int .i64 s.1) ∧ (spCells (ss ++ [s]))[ss.length * 2 + 1]? = some s.2.1 := by
  rw [spCells_append]
  refine ⟨?_, ?_⟩
  · rw [List.getElem?_append_right (by rw [spCells_length]; exact Nat.le_refl _), spCells_length, Nat.sub_self]; rfl
  · rw [List.getElem?_append_right (by rw [spCells_length]; omega), spCells_length, show ss.length * 2 + 1 - ss.length * 2 = 1 by omega]; rfl
theorem spCells_turn (ss : List MSpot) (s : MSpot) (u : Value) (xs : List Int) : (spCells (ss ++ [s])).set (ss.length * 2 + 1) u = spCells (ss ++ [(s.1, u, xs)]) := by
  rw [spCells_append, spCells_append, List.set_append_right _ _ (by rw [spCells_length]; omega), spCells_length, show ss.length * 2 + 1 - ss.length * 2 = 1 by omega]; rfl
end Trm
end Go.Proofs.YtfohollhdaedlaaGreatDoor
/- Terms: a place is added to a table of places: the three ways. -/
set_option linter.unusedVariables false
set_option linter.unusedSimpArgs false
set_option maxRecDepth 100000
namespace Go.Proofs.YtfohollhdaedlaaGreatDoor
open Go.RowKit
namespace Trm
/-- Ahead of Put. -/
structure Mid (B b : Nat) (v : Value) (l : List Ent) (m' : List MEnt) (w w' : World) : Prop where
  tab : IsTab B b v l w'
  sp : RowsOf w' B 64 2 (spRows m')
  at_ : RowsOf w' B 3 1 (inRows m')
  below : Below B w w'
  kept : KeptA b w w'
theorem own1_slice {w : World} {B : Nat} {e : TypeId} {size g cap n : Nat} {xs : List Value} (h : w.ownsRow B e size (.slice (some ⟨g, 0, none⟩) n cap) n xs) (hn : 0 < n) : Own1 w B e size (.slice (some ⟨g, 0, none⟩) n cap, xs) := ⟨n, hn, h⟩
/-- The last spot's places go on. -/
theorem mid_same {B b : Nat} {v av : Value} {m1 m2 : List MEnt} {t : ByteArray} {s1 : List MSpot} {f0 a : Int} {ps : List Int} {w w3 : World} {gs k cs g cap : Nat}
    (H : IsTM B b v (m1 ++ (t, .slice (some ⟨gs, 0, none⟩) k cs, s1 ++ [(f0, av, ps)]) :: m2) w) (hk : k = s1.length + 1) (hB : B ≤ w.heap.size)
    (hown : w3.ownsRow B 3 1 (.slice (some ⟨g, 0, none⟩) (ps.length + 1) cap) (ps.length + 1) (ps.map (.int .i64) ++ [.int .i64 a]))
    (hgrow : (w.alloc (.cells #[.int .i64 a] 3)).grownBy w3 av.ownBlock) (hat : av.ownBlock = some g ∨ g = w.heap.size + 1) :
    w3.cell? ⟨gs, s1.length * 2 + 1, none⟩ = some av ∧ w3.frozen? ⟨gs, s1.length * 2 + 1, none⟩ = false ∧
    Mid B b v (ents (m1 ++ (t, .slice (some ⟨gs, 0, none⟩) k cs, s1 ++ [(f0, av, ps)]) :: m2)) (m1 ++ (t, .slice (some ⟨gs, 0, none⟩) k cs, s1 ++ [(f0, .slice (some ⟨g, 0, none⟩) (ps.length + 1) cap, ps ++ [a])]) :: m2) w (w3.setCell ⟨gs, s1.length * 2 + 1, none⟩ (.slice (some ⟨g, 0, none⟩) (ps.length + 1) cap)) := by
  obtain ⟨ht, hs, ha⟩ := H
  have hal : Below w.heap.size w (w.alloc (.cells #[.int .i64 a] 3)) := (Below.refl _ _).alloc (Nat.le_refl _) _
  have hz : (w.alloc (.cells #[.int .i64 a] 3)).heap.size = w.heap.size + 1 := by simp
  -- the old rows
  have hsr := hs
  rw [spRows_mid] at hs
  rw [inRows_mid, List.map_append, List.append_assoc] at ha
  have ha' : RowsOf w B 3 1 ((inRows m1 ++ s1.map inRow) ++ inRow (f0, av, ps) :: inRows m2) := by simpa [List.append_assoc] using ha
  obtain ⟨_, oa⟩ := ha'.own (r := inRow (f0, av, ps)) (by simp) (by decide) ps.length (by simp [inRow])
  obtain ⟨_, os⟩ := hs.own (r := (.slice (some ⟨gs, 0, none⟩) k cs, spCells (s1 ++ [(f0, av, ps)]))) (by simp) (by decide) k (by rw [spCells_length, hk]; simp)
  have oa1 := own_below oa hal
  have os3 := own_other (own_below os hal) oa1 hgrow (by decide)
  have ht3 := (ht.below hal).other oa1 hgrow (by decide) (by decide)
  have hs3 := (hs.below hal).other oa1 hgrow (by decide)
  have ha3 : RowsOf w3 B 3 1 ((inRows m1 ++ s1.map inRow) ++ inRow (f0, .slice (some ⟨g, 0, none⟩) (ps.length + 1) cap, ps ++ [a]) :: inRows m2) := by
    refine (ha'.below hal).turn hgrow ?_ ?_
    · have : inRow (f0, .slice (some ⟨g, 0, none⟩) (ps.length + 1) cap, ps ++ [a]) = (.slice (some ⟨g, 0, none⟩) (ps.length + 1) cap, ps.map (.int .i64) ++ [.int .i64 a]) := by simp [inRow]
      rw [this]
      exact own1_slice hown (by omega)
    · rcases hat with h | h
      · exact .inl h.symm
      · exact .inr ⟨g, rfl, by rw [hz]; omega⟩
  have hj : s1.length * 2 + 1 < k * 2 := by omega
  have hst := os3.stored (s1.length * 2 + 1) (.slice (some ⟨g, 0, none⟩) (ps.length + 1) cap)
  rw [spCells_turn s1 (f0, av, ps) _ (ps ++ [a])] at hst
  have hb3 : Below B w w3 := (hal.mono hB).trans ((Below.refl B _).grown hgrow (by rw [hz]; omega) (fun r hr => (oa1.lt r hr).1))
  refine ⟨(os3.cellAt _ hj).trans (spCells_last s1 _).2, os3.frozenAt _, ⟨ht3.other os3 hst.2 (by decide) (by decide), ?_, ?_, hb3.setCell (p := ⟨gs, s1.length * 2 + 1, none⟩) (os3.lt gs rfl).1 _, ?_⟩⟩
  · rw [spRows_mid]
    exact hs3.turn hst.2 ⟨k, by omega, hst.1⟩ (.inl rfl)
  · rw [inRows_mid, List.map_append, List.append_assoc]
    have := ha3.other os3 hst.2 (by decide)
    simpa [List.append_assoc] using this
  · exact ((KeptA.of_below b hal).trans (KeptA.at_ oa1 hgrow)).trans (KeptA.sp os3 hst.2)
/-- A new spot behind others. -/
theorem mid_more {B b : Nat} {v v0 : Value} {m1 m2 : List MEnt} {t : ByteArray} {ss : List MSpot} {f a : Int} {w w3 : World} {g cap : Nat}
    (H : IsTM B b v (m1 ++ (t, v0, ss) :: m2) w) (hB : B ≤ w.heap.size)
    (hown : w3.ownsRow B 64 2 (.slice (some ⟨g, 0, none⟩) (ss.length + 1) cap) (ss.length + 1) (spCells ss ++ [.int .i64 f, .slice (some ⟨w.heap.size, 0, none⟩) 1 1]))
    (hgrow : ((w.alloc (.cells #[.int .i64 a] 3)).alloc (.cells #[.int .i64 f, .slice (some ⟨w.heap.size, 0, none⟩) 1 1] 64)).grownBy w3 v0.ownBlock) (hat : v0.ownBlock = some g ∨ g = w.heap.size + 1 + 1) :
    Mid B b v (ents (m1 ++ (t, v0, ss) :: m2)) (m1 ++ (t, .slice (some ⟨g, 0, none⟩) (ss.length + 1) cap, ss ++ [(f, .slice (some ⟨w.heap.size, 0, none⟩) 1 1, [a])]) :: m2) w w3 := by
  obtain ⟨ht, hs, ha⟩ := H
  have hal : Below w.heap.size w ((w.alloc (.cells #[.int .i64 a] 3)).alloc (.cells #[.int .i64 f, .slice (some ⟨w.heap.size, 0, none⟩) 1 1] 64)) := ((Below.refl _ _).alloc (Nat.le_refl _) _).alloc (by simp) _
  have hz : ((w.alloc (.cells #[.int .i64 a] 3)).alloc (.cells #[.int .i64 f, .slice (some ⟨w.heap.size, 0, none⟩) 1 1] 64)).heap.size = w.heap.size + 1 + 1 := by simp
  have hnew : ((w.alloc (.cells #[.int .i64 a] 3)).alloc (.cells #[.int .i64 f, .slice (some ⟨w.heap.size, 0, none⟩) 1 1] 64)).ownsRow B 3 1 (.slice (some ⟨w.heap.size, 0, none⟩) 1 1) 1 [.int .i64 a] :=
    own_below (own_lit w #[.int .i64 a] 3 B 1 rfl hB (by decide)) ((Below.refl _ _).alloc (Nat.le_refl _) _)
  generalize (w.alloc (.cells #[.int .i64 a] 3)).alloc (.cells #[.int .i64 f, .slice (some ⟨w.heap.size, 0, none⟩) 1 1] 64) = w2 at *
  rw [spRows_mid] at hs
  rw [inRows_mid] at ha
  have ha' : RowsOf w B 3 1 ((inRows m1 ++ ss.map inRow) ++ inRows m2) := by simpa [List.append_assoc] using ha
  obtain ⟨_, os⟩ := hs.own (r := (v0, spCells ss)) (by simp) (by decide) ss.length (by rw [spCells_length])
  have os2 := own_below os hal
  refine ⟨(ht.below hal).other os2 hgrow (by decide) (by decide), ?_, ?_, (hal.mono hB).trans ((Below.refl B _).grown hgrow (by rw [hz]; omega) (fun r hr => (os2.lt r hr).1)), (KeptA.of_below b hal).trans (KeptA.sp os2 hgrow)⟩
  · rw [spRows_mid]
    refine (hs.below hal).turn hgrow ?_ ?_
    · show Own1 w3 B _ 2 (_, spCells (ss ++ [_]))
      rw [spCells_append]
      exact own1_slice hown (by omega)
    · rcases hat with h | h
      · exact .inl h.symm
      · exact .inr ⟨g, rfl, by rw [hz]; omega⟩
  · rw [inRows_mid, List.map_append, List.append_assoc]
    have hk := (ha'.below hal).other os2 hgrow (by decide)
    have h1 : Own1 w3 B 3 1 (inRow (f, .slice (some ⟨w.heap.size, 0, none⟩) 1 1, [a])) := own1_slice (own_other hnew os2 hgrow (by decide)) (by decide)
    have := ha'.more hk h1 ⟨w.heap.size, rfl, Nat.le_refl _⟩
    simpa [List.append_assoc] using this
/-- A new key. -/
theorem mid_new {B b : Nat} {v : Value} {m1 m2 : List MEnt} {t : ByteArray} {f a : Int} {w w3 : World} {g cap : Nat}
    (H : IsTM B b v (m1 ++ m2) w) (hB : B ≤ w.heap.size)
    (hown : w3.ownsRow B 64 2 (.slice (some ⟨g, 0, none⟩) 1 cap) 1 [.int .i64 f, .slice (some ⟨w.heap.size, 0, none⟩) 1 1])
    (hgrow : ((w.alloc (.cells #[.int .i64 a] 3)).alloc (.cells #[.int .i64 f, .slice (some ⟨w.heap.size, 0, none⟩) 1 1] 64)).grownBy w3 none) (hat : g = w.heap.size + 1 + 1) :
    Mid B b v (ents (m1 ++ m2)) (m1 ++ (t, .slice (some ⟨g, 0, none⟩) 1 cap, [(f, .slice (some ⟨w.heap.size, 0, none⟩) 1 1, [a])]) :: m2) w w3 := by
  obtain ⟨ht, hs, ha⟩ := H
  have hal : Below w.heap.size w ((w.alloc (.cells #[.int .i64 a] 3)).alloc (.cells #[.int .i64 f, .slice (some ⟨w.heap.size, 0, none⟩) 1 1] 64)) := ((Below.refl _ _).alloc (Nat.le_refl _) _).alloc (by simp) _
  have hz : ((w.alloc (.cells #[.int .i64 a] 3)).alloc (.cells #[.int .i64 f, .slice (some ⟨w.heap.size, 0, none⟩) 1 1] 64)).heap.size = w.heap.size + 1 + 1 := by simp
  have hnew : ((w.alloc (.cells #[.int .i64 a] 3)).alloc (.cells #[.int .i64 f, .slice (some ⟨w.heap.size, 0, none⟩) 1 1] 64)).ownsRow B 3 1 (.slice (some ⟨w.heap.size, 0, none⟩) 1 1) 1 [.int .i64 a] :=
    own_below (own_lit w #[.int .i64 a] 3 B 1 rfl hB (by decide)) ((Below.refl _ _).alloc (Nat.le_refl _) _)
  generalize (w.alloc (.cells #[.int .i64 a] 3)).alloc (.cells #[.int .i64 f, .slice (some ⟨w.heap.size, 0, none⟩) 1 1] 64) = w2 at *
  have hb23 : Below w2.heap.size w2 w3 := (Below.refl _ w2).grown hgrow (Nat.le_refl _) (fun r hr => by cases hr)
  have hb : Below w.heap.size w w3 := below_next hal hb23
  have hs' : RowsOf w B 64 2 (spRows m1 ++ spRows m2) := by simpa [spRows] using hs
  have ha' : RowsOf w B 3 1 (inRows m1 ++ inRows m2) := by simpa [inRows] using ha
  refine ⟨ht.below hb, ?_, ?_, hb.mono hB, KeptA.of_below b hb⟩
  · rw [spRows_mid]
    exact hs'.more (hs'.below hb) (own1_slice hown (by decide)) ⟨g, rfl, by omega⟩
  · rw [inRows_mid]
    have := ha'.more (ha'.below hb) (r' := inRow (f, .slice (some ⟨w.heap.size, 0, none⟩) 1 1, [a])) (own1_slice (own_below hnew hb23) (by decide)) ⟨w.heap.size, rfl, Nat.le_refl _⟩
    simpa using this
end Trm
end Go.Proofs.YtfohollhdaedlaaGreatDoor
/- Terms: a place is added to a table of places: the walk. -/
set_option linter.unusedVariables false
set_option linter.unusedSimpArgs false
set_option maxRecDepth 100000
namespace Go.Proofs.YtfohollhdaedlaaGreatDoor
open Go.RowKit
namespace Trm
theorem ents_one {w : World} {B : Nat} {m : List MEnt} (h : RowsOf w B 64 2 (spRows m)) : ∀ x ∈ ents m, x.2.oneCell' = true := by
  intro x hx
  obtain ⟨e, he, rfl⟩ := List.mem_map.1 hx
  obtain ⟨g, cap, cur, n, hv, _⟩ := (h.1 (e.2.1, spCells e.2.2) (List.mem_map.2 ⟨e, he, rfl⟩)).block
  have hv2 : e.2.1 = _ := hv
  show e.2.1.oneCell' = true
  rw [hv2]; rfl
def AddP (B b : Nat) (m : List MEnt) (t : ByteArray) (f a : Int) (w : World) (e : Ending) (w' : World) : Prop :=
  (∃ r, e = .returned r) ∧ ∃ u m', IsTM B b u m' w' ∧ m'.map plainE = addM t f a (m.map plainE) ∧ Below B w w' ∧ KeptA b w w'
theorem AddP.of {B b : Nat} {m m' : List MEnt} {t : ByteArray} {f a : Int} {w w1 w2 w3 : World} {v u : Value} {v' : Value} {l : List Ent} {r : Value} (hb : Below w.heap.size w w1) (hB : B ≤ w.heap.size) (hm : Mid B b v l m' w1 w2) (hp : IsTab B b u (putE t v' l) w3) (hb3 : Below B w2 w3) (hk : KeptT b w2 w3) (he : putE t v' l = ents m')
    (hpl : m'.map plainE = addM t f a (m.map plainE)) : AddP B b m t f a w (.returned r) w3 :=
  ⟨⟨r, rfl⟩, u, m', tm_put hm.tab hp hk he hm.sp hm.at_, hpl, ((hb.mono hB).trans hm.below).trans hb3, ((KeptA.of_below b hb).trans hm.kept).trans (KeptA.of_t hk)⟩
theorem IsTM.size {B b : Nat} {v : Value} {m : List MEnt} {w : World} (h : IsTM B b v m w) : B ≤ w.heap.size := by have := h.tab.le; have := h.tab.lt; omega
set_option maxHeartbeats 8000000 in
theorem add_calls {B b : Nat} {v : Value} {m : List MEnt} {w : World} (H0 : IsTM B b v m w) (hm : m.length ≤ 1000000) (hbd : ∀ e ∈ m, e.2.2.length ≤ 1000000 ∧ ∀ s ∈ e.2.2, s.2.2.length ≤ 1000000) (t : ByteArray) (f a : Int) :
    Calls Tryz.prog 16 #[.pointer (some ⟨b, 0, none⟩), .string t, .int .i64 f, .int .i64 a] w (AddP B b m t f a w) := by
  have H := Lib.hid H0
  have HBW := Lib.hid H0.size
  have C := Lib.hid (get_calls H0.tab (by unfold ents; rw [List.length_map]; omega) t)
  have HM := Lib.hid hm
  have HBD := Lib.hid hbd
  obtain ⟨i0, hi0, hz0, hz1, hz2⟩ := info_parts inf_spot
  obtain ⟨i1, hi1, hy0, hy1, hy2⟩ := info_parts inf_int
  clear H0 hm hbd
  go_enter Tryz.func16, Tryz.ntmps16
  go_wp2_with fail
  refine C.out.mono ?_
  rintro e w2 ⟨(⟨i, x, hx, hxt, rfl⟩ | ⟨hno, rfl⟩), hb⟩
  · obtain ⟨m1, ss, m2, hsp⟩ := ent_split hx hxt
    have HB := Lib.hid hb
    obtain ⟨v0, hv0⟩ : ∃ v0, x.2 = v0 := ⟨_, rfl⟩
    rw [hv0] at hsp ⊢
    have H2 := H.out.below hb
    have HPL := Lib.hid (plain_mid (by rw [← hsp]; exact H.out.tab.srt) f a)
    have HLT := Lib.hid (mid_lt (by rw [← hsp]; exact H.out.tab.srt))
    obtain ⟨hss, hsb⟩ := HBD.out (t, v0, ss) (by rw [hsp]; simp)
    rw [hsp] at H2
    have hr2 := H2.sp
    rw [spRows_mid] at hr2
    obtain ⟨hk0, os⟩ := hr2.own (r := (v0, spCells ss)) (by simp) (by decide) ss.length (by rw [spCells_length])
    obtain ⟨gs, cs, rfl, _, _⟩ := os.form hk0
    rcases List.eq_nil_or_concat ss with rfl | ⟨s1, ⟨f0, av, ps⟩, rfl⟩
    · exact absurd hk0 (by simp)
    rw [List.concat_eq_append] at *
    have ha2 := H2.at_
    rw [inRows_mid] at ha2
    obtain ⟨hp0, oa⟩ := ha2.own (r := inRow (f0, av, ps)) (by simp) (by decide) ps.length (by simp [inRow])
    have hpl := hsb (f0, av, ps) (by simp)
    obtain ⟨p, hp⟩ : ∃ p, s1.length = p := ⟨_, rfl⟩
    obtain ⟨k, hk⟩ : ∃ k, (s1 ++ [(f0, av, ps)]).length = k := ⟨_, rfl⟩
    have hkp : k = p + 1 := by rw [← hk, ← hp]; simp
    have c0 := os.cellAt (p * 2) (by rw [hk]; omega)
    have hcl := spCells_last s1 (f0, av, ps)
    rw [hp] at hcl
    rw [hcl.1] at c0
    have c1 := os.cellAt (p * 2 + 1) (by rw [hk]; omega)
    rw [hcl.2] at c1
    simp only at hss hpl
    rw [hk] at os hss H2 hsp HPL ⊢
    simp only [inRow] at oa
    have hwk : IntKind.i64.wrap ((k : Int) - 1) = (p : Int) := by rw [IntKind.wrap_i64]; omega
    have hpk : (p : Int) < k := by omega
    have hpk2 : p < k := by omega
    have hk1 : (0 : Int) < k := by omega
    have hk2 : 0 < k := by omega
    have OA := Lib.hid oa
    have OS := Lib.hid os
    have HH2 := Lib.hid H2
    have HKP := Lib.hid hkp
    have HP := Lib.hid hp
    have HK := Lib.hid hk
    have HSP := Lib.hid hsp
    have HBI : Hid (B ≤ w2.heap.size) := H2.size
    clear C hx hxt hb hv0 hr2 hk0 ha2 hsb hcl H2 oa os hkp hp hk hsp
    by_cases hff : f0 = f
    · subst hff
      have hfe : ((f0 : Int) == f0) = true := by simp
      go_wp2_with (at_builtin; go_loud (refine wpList_append_lies _ rfl (.tmp 39) (.tmp 41) 62 rfl B 3 i1 (.int .i64 0) 1 8 Tryz.underlying62 hi1 hy0 hy1 hy2 rfl (by decide) av ps.length (ps.map (.int .i64)) rfl (own_below OA.out ((Below.refl _ _).alloc (Nat.le_refl _) _)) ⟨w2.heap.size, 0, none⟩ 1 1 [.int .i64 a] rfl rfl (World.news_of_block (cs := #[.int .i64 a]) (t := 3) (fr := (0, 0)) (heap_alloc_new w2 _)) (by simp [Value.oneCell']) (by decide) (by unfold maxLen; omega) (by omega) (by have := HBI.out; simp; omega) (w2.heap.size + 1) (by simp) ?_))
      rintro g cap w3 ho3 hg3 hat3 hlt3
      have MS := mid_same HH2.out (by rw [HKP.out, HP.out]) HBI.out ho3 hg3 hat3
      rw [HP.out] at MS
      obtain ⟨d1, d2, hmid⟩ := MS
      have HMID := Lib.hid hmid
      have CP := Lib.hid (put_calls hmid.tab (by rw [← HSP.out]; have := HM.out; unfold ents; rw [List.length_map]; omega) (ents_one HH2.out.sp) t (some ⟨gs, 0, none⟩) k cs)
      have d0 := hlt3
      clear ho3 hg3 hat3 hmid hlt3
      go_wp2_with fail
      refine CP.out.mono ?_
      rintro e w4 ⟨r, u, rfl, hp4, hb4, hk4⟩
      have HP4 := Lib.hid hp4
      have HB4 := Lib.hid hb4
      have HK4 := Lib.hid hk4
      clear hp4 hb4 hk4 CP
      go_wp2_with fail
      go_end0
      rw [HSP.out]
      refine AddP.of HB.out HBW.out HMID.out HP4.out HB4.out HK4.out ?_ ?_
      · rw [ents_mid, putE_mid HLT.out, ents_mid]
      · rw [HPL.out, List.map_append (l₁ := s1), List.map_cons, List.map_nil, addS_last, if_pos rfl]
        simp [plainE]
    · have hfe : ((f0 : Int) == f) = false := by simp [hff]
      go_wp2_with (at_builtin; go_loud (refine wpList_append_lies _ rfl (.tmp 45) (.tmp 50) 39 rfl B 64 i0 (.agg #[.int .i64 0, .slice none 0 0]) 2 32 Tryz.underlying39 hi0 hz0 hz1 hz2 rfl (by decide) (.slice (some ⟨gs, 0, none⟩) k cs) k (spCells (s1 ++ [(f0, av, ps)])) rfl (own_below OS.out (((Below.refl _ _).alloc (Nat.le_refl _) _).alloc (by simp) _)) ⟨w2.heap.size + 1, 0, none⟩ 1 1 [.int .i64 f, .slice (some ⟨w2.heap.size, 0, none⟩) 1 1] rfl rfl (World.news_of_block (cs := #[.int .i64 f, .slice (some ⟨w2.heap.size, 0, none⟩) 1 1]) (t := 64) (fr := (0, 0)) (by have := heap_alloc_new (w2.alloc (.cells #[.int .i64 a] 3)) (.cells #[.int .i64 f, .slice (some ⟨w2.heap.size, 0, none⟩) 1 1] 64); simpa using this)) (by simp [Value.oneCell']) (by decide) (by unfold maxLen; omega) (by omega) (by have := HBI.out; simp; omega) (w2.heap.size + 1 + 1) (by simp) ?_))
      rintro g cap w3 ho3 hg3 hat3 hlt3
      have hkl := HK.out
      rw [← HK.out] at ho3
      have MS := mid_more HH2.out HBI.out ho3 hg3 hat3
      rw [hkl] at MS
      have HMID := Lib.hid MS
      have CP := Lib.hid (put_calls MS.tab (by rw [← HSP.out]; have := HM.out; unfold ents; rw [List.length_map]; omega) (ents_one HH2.out.sp) t (some ⟨g, 0, none⟩) (k + 1) cap)
      clear ho3 hg3 hat3 MS
      clear hkl
      go_wp2_with fail
      refine CP.out.mono ?_
      rintro e w4 ⟨r, u, rfl, hp4, hb4, hk4⟩
      have HP4 := Lib.hid hp4
      have HB4 := Lib.hid hb4
      have HK4 := Lib.hid hk4
      clear hp4 hb4 hk4 CP
      go_wp2_with fail
      go_end0
      rw [HSP.out]
      refine AddP.of HB.out HBW.out HMID.out HP4.out HB4.out HK4.out ?_ ?_
      · rw [ents_mid, putE_mid HLT.out, ents_mid]
      · rw [HPL.out, List.map_append (l₁ := s1), List.map_cons, List.map_nil, addS_last, if_neg hff]
        simp [plainE]
  · obtain ⟨m1, m2, hsp, hpe, hpl⟩ := split_no m fun e he => hno (e.1, e.2.1) (List.mem_map.2 ⟨e, he, rfl⟩)
    have HB := Lib.hid hb
    have H2 := H.out.below hb
    have HPE := Lib.hid hpe
    have HPL := Lib.hid hpl
    have HSP := Lib.hid hsp
    have H3 := H2
    rw [hsp] at H3
    have HH2 := Lib.hid H3
    have HH0 := Lib.hid H2
    have HBI : Hid (B ≤ w2.heap.size) := H2.size
    have ON : Hid (w2.ownsRow B 64 2 (.slice none 0 0) 0 []) := ⟨rfl, .inl ⟨rfl, rfl⟩⟩
    clear C hb hpe hpl hsp hno H2 H3
    go_wp2_with (at_builtin; go_loud (refine wpList_append_lies _ rfl (.tmp 45) (.tmp 50) 39 rfl B 64 i0 (.agg #[.int .i64 0, .slice none 0 0]) 2 32 Tryz.underlying39 hi0 hz0 hz1 hz2 rfl (by decide) (.slice none 0 0) 0 [] rfl (own_below ON.out (((Below.refl _ _).alloc (Nat.le_refl _) _).alloc (by simp) _)) ⟨w2.heap.size + 1, 0, none⟩ 1 1 [.int .i64 f, .slice (some ⟨w2.heap.size, 0, none⟩) 1 1] rfl rfl (World.news_of_block (cs := #[.int .i64 f, .slice (some ⟨w2.heap.size, 0, none⟩) 1 1]) (t := 64) (fr := (0, 0)) (by have := heap_alloc_new (w2.alloc (.cells #[.int .i64 a] 3)) (.cells #[.int .i64 f, .slice (some ⟨w2.heap.size, 0, none⟩) 1 1] 64); simpa using this)) (by simp [Value.oneCell']) (by decide) (by unfold maxLen; omega) (by omega) (by have := HBI.out; simp; omega) (w2.heap.size + 1 + 1) (by simp) ?_))
    rintro g cap w3 ho3 hg3 hat3 hlt3
    have MS := mid_new (t := t) HH2.out HBI.out ho3 hg3 (by rcases hat3 with h | h; cases h; exact h)
    have HMID := Lib.hid MS
    have CP := Lib.hid (put_calls MS.tab (by rw [← HSP.out]; have := HM.out; unfold ents; rw [List.length_map]; omega) (by rw [← HSP.out]; exact ents_one HH0.out.sp) t (some ⟨g, 0, none⟩) 1 cap)
    clear ho3 hg3 hat3 MS
    go_wp2_with fail
    refine CP.out.mono ?_
    rintro e w4 ⟨r, u, rfl, hp4, hb4, hk4⟩
    have HP4 := Lib.hid hp4
    have HB4 := Lib.hid hb4
    have HK4 := Lib.hid hk4
    clear hp4 hb4 hk4 CP
    go_wp2_with fail
    go_end0
    refine AddP.of HB.out HBW.out HMID.out HP4.out HB4.out HK4.out ?_ ?_
    · rw [← HSP.out, HPE.out, ents_mid]
    · rw [HPL.out]
      simp [plainE]
end Trm
end Go.Proofs.YtfohollhdaedlaaGreatDoor
