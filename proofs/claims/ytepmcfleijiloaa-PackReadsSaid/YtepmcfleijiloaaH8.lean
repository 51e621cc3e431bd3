/- The graph of words: its nodes by their numbers; where texts lead; contract of inkhornlaw8's awake. -/
import Derived.Test.YtepmcfleijiloaaH5
import Derived.Test.YtepmcfleijiloaaH6
import Derived.Test.YtepmcfleijiloaaH7
set_option linter.unusedVariables false
namespace Go.Proofs.Ytepmcfleijiloaa
open Go.RowKit

theorem Wds.wd {xs : List ByteArray} (h : Wds xs) : Wd (textsOf xs) := ⟨h.ok, h.short, h.asc, by have := h.len; simpa [textsOf] using this, h.nn⟩
theorem graphOf_len (T : Rs) : (graphOf T).length = (nodesOf T).length := by simp [graphOf]
theorem node_idx {T R : Rs} (hR : R ∈ nodesOf T) : nodeOf (graphOf T) ((nodesOf T).idxOf R : Nat) = ndOf (nodesOf T) R := by
  have h := List.idxOf_lt_length_of_mem hR
  rw [nodeOf_in (by rw [graphOf_len]; exact h)]
  unfold graphOf
  rw [List.getElem_map]
  congr 1
  exact List.getElem_idxOf h
theorem nsOK {T : Rs} (h : Wd T) : NsOK (graphOf T) := by
  intro nd hnd
  unfold graphOf at hnd
  obtain ⟨R, hR, rfl⟩ := List.mem_map.1 hnd
  have h1 := (nodesOf_nod h R hR).len
  have h2 := groups_len R
  simp only [ndOf, edgesOf, List.length_map]
  omega
theorem next_idx {T R : Rs} (h : Wd T) (hR : R ∈ nodesOf T) (r : Nat) : nextW (graphOf T) ((nodesOf T).idxOf R : Nat) (r : Int) = if sub r R = [] then (0, false) else ((nodesOf T).idxOf (sub r R), true) := by
  unfold nextW
  rw [node_idx hR]
  have e : (fun e : Nat × Nat => decide ((e.1 : Int) = (r : Int))) = fun e : Nat × Nat => decide (e.1 = r) := by
    funext e
    rw [Bool.eq_iff_iff, decide_eq_true_iff, decide_eq_true_iff]
    omega
  rw [e]
  simp only [ndOf]
  rw [edges_find h hR r]
  by_cases hs : sub r R = []
  · rw [if_pos hs, if_pos hs]
  · rw [if_neg hs, if_neg hs]
theorem walk_false (ns : List Nd) (n : Nat) : ∀ t : List Nat, walkW ns (n, false) t = (n, false)
  | [] => rfl
  | r :: t => by
    show walkW ns (stepW ns (n, false) r) t = _
    exact walk_false ns n t
theorem walk_idx {T : Rs} (h : Wd T) : ∀ (t : List Nat) (R : Rs), R ∈ nodesOf T →
    (walkW (graphOf T) ((nodesOf T).idxOf R, true) t = ((nodesOf T).idxOf (after R t), true) ∧ after R t ∈ nodesOf T) ∨ ((walkW (graphOf T) ((nodesOf T).idxOf R, true) t).2 = false ∧ after R t = [])
  | [], R, hR => .inl ⟨rfl, hR⟩
  | r :: t, R, hR => by
    have e : walkW (graphOf T) ((nodesOf T).idxOf R, true) (r :: t) = walkW (graphOf T) (nextW (graphOf T) ((nodesOf T).idxOf R : Nat) (r : Int)) t := rfl
    rw [e, next_idx h hR r, after]
    by_cases hs : sub r R = []
    · rw [if_pos hs, walk_false, hs, after_nil]
      exact .inr ⟨rfl, rfl⟩
    · rw [if_neg hs]
      exact walk_idx h t _ (sub_in h hR hs)
theorem has_in {xs : List ByteArray} (h : Wds xs) (s : ByteArray) : hasW (graphOf (textsOf xs)) s = inB xs s := by
  have hw := h.wd
  unfold hasW gotRunes okRunes
  by_cases hr : 65533 ∈ runes s 0
  · have h2 : decide (65533 ∉ runes s 0) = false := by simp [hr]
    rw [if_pos hr, h2]
    have e : ((walkW (graphOf (textsOf xs)) (0, false) []).2 && (nodeOf (graphOf (textsOf xs)) (walkW (graphOf (textsOf xs)) (0, false) []).1).1) = false := rfl
    rw [e]
    symm
    rw [Bool.eq_false_iff]
    intro hin
    rw [inB_iff] at hin
    rw [← h.txt] at hin
    obtain ⟨t, ht, rfl⟩ := List.mem_map.1 hin
    rw [runes_txt t (h.ok t ht)] at hr
    exact (h.ok t ht _ hr).2 rfl
  · have h2 : decide (65533 ∉ runes s 0) = true := by simp [hr]
    rw [if_neg hr, h2]
    obtain ⟨hs, hok⟩ := txt_runes s h2
    have hin : inB xs s = true ↔ [] ∈ after (textsOf xs) (runes s 0) := by
      rw [inB_iff, mem_after, List.append_nil]
      constructor
      · intro hm
        exact List.mem_map.2 ⟨s, hm, rfl⟩
      · intro hm
        rw [← h.txt, ← hs]
        exact List.mem_map.2 ⟨_, hm, rfl⟩
    have hwk := walk_idx hw (runes s 0) (textsOf xs) (nodesOf_mem _)
    rw [nodesOf_idx] at hwk
    rw [Bool.eq_iff_iff, hin]
    rcases hwk with ⟨h3, h4⟩ | ⟨h3, h4⟩
    · rw [h3]
      simp only [Bool.true_and]
      rw [node_idx h4]
      simp only [ndOf]
      exact fin_iff (nodesOf_nod hw _ h4).asc
    · rw [h3, h4]
      simp

/-! ### awake -/
def bAB : ByteArray := ⟨#[97, 98]⟩
def bCB : ByteArray := ⟨#[99, 98]⟩
def bB : ByteArray := ⟨#[98]⟩
theorem aw_good : goodE [bAB, bCB] = 0 := by kernel_rfl
theorem aw_texts : textsOf [bAB, bCB] = [[97, 98], [99, 98]] := by kernel_rfl
theorem aw_nodes : nodesOf [[97, 98], [99, 98]] = [[[97, 98], [99, 98]], [[98]], [[]]] := by
  unfold nodesOf
  rw [addN_new _ _ _ (by simp)]
  rw [groups_cons, show grp 97 [[99, 98]] = [] from rfl, show remv 97 [[99, 98]] = [[99, 98]] from rfl, groups_cons, show grp 99 [] = [] from rfl, show remv 99 [] = [] from rfl, groups_nil]
  have h1 : addN 12 [[[97, 98], [99, 98]]] [[98]] = [[[97, 98], [99, 98]], [[98]], [[]]] := by
    rw [addN_new _ _ [[98]] (by simp)]
    rw [groups_cons, show grp 98 [] = [] from rfl, show remv 98 [] = [] from rfl, groups_nil, addG_cons, addG_nil]
    simp only
    rw [addN_new _ _ [[]] (by simp), groups_emp, groups_nil, addG_nil]
    rfl
  rw [addG_cons, addG_cons, addG_nil]
  simp only [List.nil_append]
  rw [h1, addN_old _ _ _ (by simp)]
theorem aw_graph : graphOf (textsOf [bAB, bCB]) = [(false, [(97, 1), (99, 1)]), (false, [(98, 2)]), (true, [])] := by
  rw [aw_texts]
  unfold graphOf
  rw [aw_nodes]
  simp only [List.map_cons, List.map_nil, ndOf, edgesOf]
  rw [groups_cons, show grp 97 [[99, 98]] = [] from rfl, show remv 97 [[99, 98]] = [[99, 98]] from rfl, groups_cons, show grp 99 [] = [] from rfl, show remv 99 [] = [] from rfl, groups_nil]
  rw [groups_cons, show grp 98 [] = [] from rfl, show remv 98 [] = [] from rfl, groups_nil, groups_emp, groups_nil]
  rfl

theorem Rd.cells' (w : World) (xs : List Value) (t : TypeId) : Rd (w.alloc (.cells xs.toArray t)) w.heap.size (w.heap.size + 1) (some ⟨w.heap.size, 0, none⟩) xs := fun _ =>
  ⟨w.heap.size, 0, rfl, Nat.le_refl _, by omega, fun j u hu => by
    rw [Nat.zero_add]
    rw [cell_new w _ _ _ j]
    simpa using hu⟩
theorem Strs.make (w : World) (t : TypeId) (ss : List ByteArray) (n : Nat) (h : n = ss.length) (hs : ss.length ≤ 1000) : Strs (w.alloc (.cells (strv ss).toArray t)) 0 (some ⟨w.heap.size, 0, none⟩) n ss :=
  ⟨(Rd.cells' w (strv ss) t).wide (Nat.zero_le _) (by simp), by omega, by omega⟩
theorem Edgs.make (w : World) (t : TypeId) (es : List (Nat × Nat)) (n : Nat) (h : n = es.length) (hs : es.length ≤ 1000) : Edgs (w.alloc (.cells (edgv es).toArray t)) 0 (some ⟨w.heap.size, 0, none⟩) n es :=
  ⟨(Rd.cells' w (edgv es) t).wide (Nat.zero_le _) (by simp), by omega, by omega⟩
theorem awk1 (w : World) : Calls Try.prog 25 #[.slice (some ⟨w.heap.size, 0, none⟩) 2 2] (w.alloc (.cells #[.string ⟨#[97, 98]⟩, .string ⟨#[99, 98]⟩] 9)) fun e w' =>
    ∃ g, e = .returned (.tuple #[.pointer (some ⟨g, 0, none⟩), .int .i64 0]) ∧ GraphV w' 0 (.pointer (some ⟨g, 0, none⟩)) [(false, [(97, 1), (99, 1)]), (false, [(98, 2)]), (true, [])] ∧ Below w.heap.size w w' := by
  have h := c25 _ _ 2 [bAB, bCB] (Strs.make w 9 [bAB, bCB] 2 rfl (by simp)) (by intro x hx; simp at hx; rcases hx with rfl | rfl <;> decide)
  rw [aw_good, aw_graph] at h
  refine h.mono ?_
  rintro e w' ⟨p, rfl, _, h2, hb⟩
  have h3 := h2 rfl
  obtain ⟨g, A, c, rfl, _⟩ := h3.lt
  exact ⟨g, rfl, .inr (h3.low (Nat.zero_le _)), below_then ((Below.refl _ _).alloc (Nat.le_refl _) _) hb (by simp)⟩
def awG : List Nd := [(false, [(97, 1), (99, 1)]), (false, [(98, 2)]), (true, [])]
theorem aw_wds : Wds [bAB, bCB] := Wds.of_good aw_good
theorem awG_ok : NsOK awG := by
  have h := nsOK aw_wds.wd
  rw [aw_graph] at h
  exact h
theorem awk2 {w : World} {v : Value} (h : GraphV w 0 v awG) : Calls Try.prog 29 #[v] w fun e w' => e = .returned (.int .i64 3) ∧ w = w' := c29 w 0 v awG h
theorem awk3 {w : World} {v : Value} (h : GraphV w 0 v awG) : Calls Try.prog 30 #[v, .int .i64 0] w fun e w' => ∃ A c, e = .returned (.slice A 2 c) ∧ Edgs w' 0 A c [(97, 1), (99, 1)] ∧ Below w.heap.size w w' := by
  refine (c30 w 0 v awG 0 [(97, 1), (99, 1)] h rfl (by simp)).mono ?_
  rintro e w' ⟨r, rfl, ho, hb⟩
  obtain ⟨A, c, rfl, he⟩ := Edgs.of_own ho
  exact ⟨A, c, rfl, he.low (Nat.zero_le _), hb⟩
theorem awk4 {w : World} {A : Option Addr} {c : Nat} (he : Edgs w 0 A c [(97, 1), (99, 1)]) : Calls Try.prog 33 #[.slice A 2 c, .slice (some ⟨w.heap.size, 0, none⟩) 2 2] (w.alloc (.cells #[.int .i32 97, .int .i64 1, .int .i32 99, .int .i64 1] 49)) fun e w' =>
    e = .returned (.bool true) ∧ Below w.heap.size w w' := by
  have h := c33 _ 0 0 _ _ _ _ [(97, 1), (99, 1)] [(97, 1), (99, 1)] (he.ext ((Below.refl _ _).alloc (Nat.le_refl _) (Obj.cells (edgv [(97, 1), (99, 1)]).toArray 49))) (Edgs.make w 49 [(97, 1), (99, 1)] 2 rfl (by simp))
  rw [decide_eq_true rfl] at h
  refine h.mono ?_
  rintro e w' ⟨rfl, n, rfl⟩
  exact ⟨rfl, below_drewN ((Below.refl _ _).alloc (Nat.le_refl _) _) _⟩
theorem awk5 {w : World} {v : Value} (h : GraphV w 0 v awG) : Calls Try.prog 42 #[v, .string ⟨#[97, 98]⟩] w fun e w' => e = .returned (.bool true) ∧ Below w.heap.size w w' := by
  have h2 := c42 w 0 v awG bAB h awG_ok (by decide)
  have e : hasW awG bAB = true := by
    have := has_in aw_wds bAB
    rw [aw_graph] at this
    exact this.trans (by decide)
  rw [e] at h2
  exact h2
theorem awk6 {w : World} {v : Value} (h : GraphV w 0 v awG) : Calls Try.prog 42 #[v, .string ⟨#[98]⟩] w fun e w' => e = .returned (.bool false) ∧ Below w.heap.size w w' := by
  have h2 := c42 w 0 v awG bB h awG_ok (by decide)
  have e : hasW awG bB = false := by
    have := has_in aw_wds bB
    rw [aw_graph] at this
    exact this.trans (by decide)
  rw [e] at h2
  exact h2

set_option maxHeartbeats 1000000 in
set_option maxRecDepth 100000 in
/-- inkhornlaw8.awake -/
theorem c23 (w : World) : Calls Try.prog 23 #[] w fun e w' => e = .returned (.bool true) ∧ Below w.heap.size w w' := by
  go_enter Try.func23, Try.ntmps23
  go_wp2_with fail
  (with_reducible refine (awk1 w).mono ?_); rintro e w1 ⟨g, rfl, hg, hb⟩
  have H1 := Lib.hid hb
  have G1 : Hid (GraphV w1 0 (.pointer (some ⟨g, 0, none⟩)) awG) := Lib.hid hg
  clear hb hg
  go_wp2_with fail
  (with_reducible refine (awk2 G1.out).mono ?_); rintro e w2 ⟨rfl, rfl⟩
  go_wp2_with fail
  (with_reducible refine (awk3 G1.out).mono ?_); rintro e w2 ⟨A, c, rfl, he, hb⟩
  have H2 := Lib.hid (below_ext H1.out hb)
  have G2 := Lib.hid (G1.out.ext hb)
  have E2 := Lib.hid he
  clear hb he
  go_wp2_with fail
  (with_reducible refine (awk4 E2.out).mono ?_); rintro e w3 ⟨rfl, hb⟩
  have H3 := Lib.hid (below_ext H2.out hb)
  have G3 := Lib.hid (G2.out.ext hb)
  clear hb
  go_wp2_with fail
  (with_reducible refine (awk5 G3.out).mono ?_); rintro e w4 ⟨rfl, hb⟩
  have H4 := Lib.hid (below_ext H3.out hb)
  have G4 := Lib.hid (G3.out.ext hb)
  clear hb
  go_wp2_with fail
  (with_reducible refine (awk6 G4.out).mono ?_); rintro e w5 ⟨rfl, hb⟩
  have H5 := Lib.hid (below_ext H4.out hb)
  clear hb
  go_wp2_with fail
  go_ret
  exact ⟨rfl, H5.out⟩

end Go.Proofs.Ytepmcfleijiloaa
