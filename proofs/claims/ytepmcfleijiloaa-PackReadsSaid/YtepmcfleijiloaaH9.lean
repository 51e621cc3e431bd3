/- The words of a graph in order: plain words; the memory of a closure that gathers texts. -/
import Derived.Test.YtepmcfleijiloaaH8
set_option linter.unusedVariables false
namespace Go.Proofs.Ytepmcfleijiloaa
open Go.RowKit

/-- What a walk over texts leaves, as long as it is told to go on. -/
def runY (y : List ByteArray → ByteArray → List ByteArray × Bool) : List ByteArray → List ByteArray → List ByteArray × Bool
  | acc, [] => (acc, true)
  | acc, s :: l => if (y acc s).2 then runY y (y acc s).1 l else ((y acc s).1, false)
section
variable {y : List ByteArray → ByteArray → List ByteArray × Bool}
theorem runY_append : ∀ (l m acc : List ByteArray), runY y acc (l ++ m) = if (runY y acc l).2 then runY y (runY y acc l).1 m else ((runY y acc l).1, false)
  | [], m, acc => rfl
  | s :: l, m, acc => by
    rw [List.cons_append, runY, runY]
    by_cases h : (y acc s).2 = true
    · rw [if_pos h, if_pos h, runY_append l m]
    · rw [if_neg h, if_neg h]
      rfl
theorem runY_on {l m acc a1 : List ByteArray} (h : runY y acc l = (a1, true)) : runY y acc (l ++ m) = runY y a1 m := by rw [runY_append, h]; rfl
theorem runY_off {l m acc a1 : List ByteArray} (h : runY y acc l = (a1, false)) : runY y acc (l ++ m) = (a1, false) := by rw [runY_append, h]; rfl
theorem runY_len (hy : ∀ acc s, (y acc s).1.length ≤ acc.length + 1) : ∀ (l acc : List ByteArray), (runY y acc l).1.length ≤ acc.length + l.length
  | [], acc => by simp [runY]
  | s :: l, acc => by
    have h1 := hy acc s
    rw [runY]
    split
    · have := runY_len hy l (y acc s).1
      simp; omega
    · simp; omega
end
/-- Words gathers all. -/
def yW (acc : List ByteArray) (s : ByteArray) : List ByteArray × Bool := (acc ++ [s], true)
theorem runW : ∀ (l acc : List ByteArray), runY yW acc l = (acc ++ l, true)
  | [], acc => by simp [runY]
  | s :: l, acc => by
    rw [runY, if_pos (show (yW acc s).2 = true from rfl)]
    have := runW l (yW acc s).1
    rw [this]
    simp [yW]
/-- From gathers those that are not below q, up to so many. -/
def yF (most : Int) (q : ByteArray) (acc : List ByteArray) (s : ByteArray) : List ByteArray × Bool :=
  let a := if (acc.length : Int) < most ∧ 0 ≤ cmpB s q then acc ++ [s] else acc
  (a, decide ((a.length : Int) < most))
def fromL (l : List ByteArray) (q : ByteArray) (most : Int) : List ByteArray := (l.filter fun x => decide (0 ≤ cmpB x q)).take most.toNat
theorem yF_len (most : Int) (q : ByteArray) (acc : List ByteArray) (s : ByteArray) : (yF most q acc s).1.length ≤ acc.length + 1 := by
  unfold yF
  simp only
  split <;> simp
theorem runF (most : Int) (q : ByteArray) : ∀ (l acc : List ByteArray), (acc.length : Int) < most → (runY (yF most q) acc l).1 = acc ++ (l.filter fun x => decide (0 ≤ cmpB x q)).take (most.toNat - acc.length)
  | [], acc, _ => by simp [runY]
  | s :: l, acc, h => by
    rw [runY]
    by_cases hc : 0 ≤ cmpB s q
    · have e : (yF most q acc s).1 = acc ++ [s] := by unfold yF; simp [h, hc]
      have e2 : (yF most q acc s).2 = decide (((acc ++ [s]).length : Int) < most) := by unfold yF; simp [h, hc]
      rw [e, e2, List.filter_cons_of_pos (by simpa using hc)]
      obtain ⟨m, hm⟩ : ∃ m, most.toNat - acc.length = m + 1 := ⟨most.toNat - acc.length - 1, by omega⟩
      rw [hm, List.take_succ_cons]
      by_cases h2 : (((acc ++ [s]).length : Nat) : Int) < most
      · rw [if_pos (decide_eq_true h2), runF most q l _ h2]
        simp only [List.length_append, List.length_cons, List.length_nil, List.append_assoc, List.cons_append, List.nil_append]
        congr 3
        omega
      · rw [if_neg (by simpa using h2)]
        have : m = 0 := by simp at h2; omega
        subst this
        simp
    · have e : (yF most q acc s).1 = acc := by unfold yF; simp [hc]
      have e2 : (yF most q acc s).2 = true := by unfold yF; simp [hc, h]
      rw [e, e2, if_pos rfl, List.filter_cons_of_neg (by simpa using hc)]
      exact runF most q l acc h
theorem runF_all (most : Int) (q : ByteArray) (l : List ByteArray) : (runY (yF most q) [] l).1 = fromL l q most := by
  by_cases h : (0 : Int) < most
  · rw [runF most q l [] (by simpa using h)]
    simp [fromL]
  · have e : most.toNat = 0 := by omega
    unfold fromL
    rw [e, List.take_zero]
    cases l with
    | nil => rfl
    | cons s l =>
      have h1 : ¬ ((([] : List ByteArray).length : Int) < most ∧ 0 ≤ cmpB s q) := fun h2 => h (by simpa using h2.1)
      have e1 : (yF most q [] s).1 = [] := by unfold yF; rw [if_neg h1]
      have e2 : (yF most q [] s).2 = false := by unfold yF; rw [if_neg h1]; simp; omega
      rw [runY, e2, e1]
      rfl

/-- The node n tells the rests R. -/
def EachOK : Nat → List Nd → Int → Rs → Prop
  | 0, _, _, _ => False
  | d + 1, ns, n, R => (nodeOf ns n).1 = fin R ∧ (nodeOf ns n).2.length = (groups R).length ∧
      ∀ k (h : k < (groups R).length) (h2 : k < (nodeOf ns n).2.length), (nodeOf ns n).2[k].1 = (groups R)[k].1 ∧ EachOK d ns ((nodeOf ns n).2[k].2 : Nat) (groups R)[k].2
theorem eachOK {T : Rs} (h : Wd T) : ∀ (d : Nat) (R : Rs), R ∈ nodesOf T → Short (d + 1) R → EachOK (d + 1) (graphOf T) ((nodesOf T).idxOf R : Nat) R := by
  intro d
  induction d with
  | zero =>
    intro R hR hs
    have hg := Short.one hs
    unfold EachOK
    rw [node_idx hR]
    refine ⟨rfl, by simp [ndOf, edgesOf], fun k hk => ?_⟩
    rw [hg] at hk
    simp at hk
  | succ d ih =>
    intro R hR hs
    unfold EachOK
    rw [node_idx hR]
    refine ⟨rfl, by simp [ndOf, edgesOf], fun k hk hk2 => ?_⟩
    have hm := List.getElem_mem hk
    have hin := nodesOf_closed h R hR _ hm
    refine ⟨by simp [ndOf, edgesOf], ?_⟩
    have e : (ndOf (nodesOf T) R).2[k].2 = (nodesOf T).idxOf (groups R)[k].2 := by simp [ndOf, edgesOf]
    rw [e]
    exact ih _ hin (hs.group hm)
theorem eachOK_nil : EachOK 1 [] 0 [] := by
  unfold EachOK
  refine ⟨rfl, by rw [groups_nil]; rfl, fun k hk => ?_⟩
  rw [groups_nil] at hk
  simp at hk
theorem regroup : ∀ R : Rs, R.Pairwise (· < ·) → R = (if fin R then [[]] else []) ++ (groups R).flatMap (fun g => g.2.map (g.1 :: ·)) := by
  intro R h
  have key : ∀ R : Rs, [] ∉ R → R = (groups R).flatMap (fun g => g.2.map (g.1 :: ·)) := by
    intro R
    induction R using groups_ind with
    | h0 => intro _; rw [groups_nil]; rfl
    | h1 T ih => intro hn; exact absurd (List.mem_cons_self ..) hn
    | h2 r x T ih =>
      intro hn
      rw [groups_cons, List.flatMap_cons, ← ih (fun hm => hn (List.mem_cons_of_mem _ (mem_remv hm)))]
      simp only [List.map_cons, List.cons_append, List.cons.injEq, true_and]
      exact grp_remv r T
  cases R with
  | nil => rw [groups_nil]; rfl
  | cons t R =>
    cases t with
    | nil =>
      have e : fin ([] :: R) = true := rfl
      rw [e, if_pos rfl, groups_emp, ← key R (asc_tail h)]
      rfl
    | cons r x =>
      have e : fin ((r :: x) :: R) = false := by simp [fin]
      rw [e]
      refine key _ (fun hm => ?_)
      rcases List.mem_cons.1 hm with h1 | h1
      · cases h1
      · exact asc_tail h h1
/-- The texts that are told from a node on. -/
def told (p : List Nat) (R : Rs) : List ByteArray := R.map fun t => txt (p ++ t)
theorem told_groups (p : List Nat) {R : Rs} (h : R.Pairwise (· < ·)) : told p R = (if fin R then [txt p] else []) ++ (groups R).flatMap (fun g => told (p ++ [g.1]) g.2) := by
  conv => lhs; rw [regroup R h]
  unfold told
  rw [List.map_append, List.map_flatMap]
  congr 1
  · cases fin R <;> simp
  · congr 1
    funext g
    rw [List.map_map]
    exact List.map_congr_left fun t _ => by simp
theorem told_len (p : List Nat) (R : Rs) : (told p R).length = R.length := by simp [told]
theorem groups_each_len {R : Rs} : ∀ g ∈ groups R, g.2.length ≤ R.length := fun g hg => by
  have := (groups_sub R g hg).length_le
  simpa using this
theorem groups_sum {R : Rs} (h : R.Pairwise (· < ·)) (k : Nat) (hk : k < (groups R).length) : ((if fin R then [[]] else [] : Rs) ++ ((groups R).take k).flatMap (fun g => g.2.map (g.1 :: ·))).length + (groups R)[k].2.length ≤ R.length := by
  have e := congrArg List.length (regroup R h)
  rw [← List.take_append_drop k (groups R), List.flatMap_append, List.drop_eq_getElem_cons hk, List.flatMap_cons] at e
  simp only [List.length_append, List.length_map] at e ⊢
  omega

/-! ### A closure that gathers -/
/-- The variable at lb holds the texts acc, in a row of its own behind it. -/
def Gath (lb : Nat) (acc : List ByteArray) (w : World) : Prop := ∃ vl, w.heap[lb]? = some (.cells #[vl] 22 (0, 0)) ∧ w.ownsRow (lb + 1) 9 1 vl acc.length (strv acc)
theorem Gath.below {lb : Nat} {acc : List ByteArray} {w w' : World} (h : Gath lb acc w) (hb : Below w.heap.size w w') : Gath lb acc w' := by
  obtain ⟨vl, h1, h2⟩ := h
  exact ⟨vl, (hb.block lb (Array.getElem?_eq_some_iff.1 h1).1).trans h1, own_below h2 hb⟩
/-- Below lb nothing turns, nor does a node's copy. -/
structure Fr (lb : Nat) (w w' : World) : Prop where
  below : Below lb w w'
  node : ∀ (k : Nat) (cur : Array Value), w.heap[k]? = some (Obj.cells cur 93 (0, 0)) → w'.heap[k]? = some (Obj.cells cur 93 (0, 0))
theorem Fr.refl (lb : Nat) (w : World) : Fr lb w w := ⟨Below.refl _ _, fun _ _ h => h⟩
theorem Fr.trans {lb : Nat} {a b c : World} (h : Fr lb a b) (k : Fr lb b c) : Fr lb a c := ⟨h.below.trans k.below, fun i cur hi => k.node i cur (h.node i cur hi)⟩
theorem Fr.of {lb : Nat} {w w' : World} (h : Below w.heap.size w w') (hl : lb ≤ w.heap.size) : Fr lb w w' := ⟨h.mono hl, fun k cur hk => (h.block k (Array.getElem?_eq_some_iff.1 hk).1).trans hk⟩
theorem Gath.start (w : World) : Gath w.heap.size [] (w.alloc (.cells #[.slice none 0 0] 22)) := ⟨_, heap_alloc_new w _, World.ownsRow_nil _ _ _ _⟩
/-- A text more is gathered. -/
theorem Gath.put {lb : Nat} {acc : List ByteArray} {w wa w1 : World} {vl v1 : Value} {s : ByteArray} (h1 : w.heap[lb]? = some (.cells #[vl] 22 (0, 0))) (h2 : w.ownsRow (lb + 1) 9 1 vl acc.length (strv acc)) (hb : Below w.heap.size w wa)
    (ho : w1.ownsRow (lb + 1) 9 1 v1 (acc.length + 1) (strv acc ++ [.string s])) (hg : wa.grownBy w1 vl.ownBlock) :
    Gath lb (acc ++ [s]) (w1.setCell ⟨lb, 0, none⟩ v1) ∧ Fr lb w (w1.setCell ⟨lb, 0, none⟩ v1) ∧ w1.cell? ⟨lb, 0, none⟩ = some vl ∧ w1.frozen? ⟨lb, 0, none⟩ = false := by
  have hl : lb < w.heap.size := (Array.getElem?_eq_some_iff.1 h1).1
  have ha : wa.heap[lb]? = some (.cells #[vl] 22 (0, 0)) := (hb.block lb hl).trans h1
  have hrow : ∀ r, vl.ownBlock = some r → lb + 1 ≤ r := fun r hr => ((own_below h2 hb).lt r hr).1
  have h3 : w1.heap[lb]? = some (.cells #[vl] 22 (0, 0)) := by
    refine (hg.block lb (Nat.lt_of_lt_of_le hl hb.size) (fun e => ?_)).trans ha
    have := hrow lb e.symm
    omega
  refine ⟨⟨v1, ?_, ?_⟩, ?_, by rw [cell_of_row _ _ _ _ _ _ h3]; rfl, by simp [World.frozen?, h3]⟩
  · simp [World.setCell, Array.getElem?_modify, h3]
  · have e : strv (acc ++ [s]) = strv acc ++ [.string s] := by rw [strv_append]; rfl
    rw [e]
    refine own_of_block (by simpa using ho) fun g hgo => Below.heap_setCell _ _ _ _ (fun e => ?_)
    have e : g = lb := e
    have := (ho.lt g hgo).1
    omega
  · have hb2 : Below lb w wa := hb.mono (Nat.le_of_lt hl)
    refine ⟨?_, fun k cur hk => ?_⟩
    rotate_left
    · have hka : wa.heap[k]? = some (.cells cur 93 (0, 0)) := (hb.block k (Array.getElem?_eq_some_iff.1 hk).1).trans hk
      have hk1 : w1.heap[k]? = some (.cells cur 93 (0, 0)) := by
        refine (hg.block k (Array.getElem?_eq_some_iff.1 hka).1 (fun e => ?_)).trans hka
        rcases (own_below h2 hb).2 with ⟨rfl, _⟩ | ⟨g, cap, cur2, rfl, _, hh, _⟩
        · simp [Value.ownBlock] at e
        · have : k = g := by simpa [Value.ownBlock] using e
          subst this
          rw [hka] at hh
          cases hh
      rw [Below.heap_setCell _ _ _ _ (fun e => ?_)]
      · exact hk1
      · have e : k = lb := e
        rw [e, h3] at hk1
        cases hk1
    refine (hb2.grown hg (Nat.le_trans (Nat.le_of_lt hl) hb.size) (fun r hr => by have := hrow r hr; omega)).setCell (Nat.le_refl _) v1

end Go.Proofs.Ytepmcfleijiloaa
