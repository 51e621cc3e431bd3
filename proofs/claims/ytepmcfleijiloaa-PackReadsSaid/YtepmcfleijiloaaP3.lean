/- Plain words on sorting texts and leaving out what comes twice. No program here. -/
import Derived.Test.YtepmcfleijiloaaP2
import Derived.Lib.SlicesCompact
import Derived.Shelf.SlSortCmp.Insertion
set_option linter.unusedVariables false
set_option linter.unusedSimpArgs false
namespace Go.Proofs.Ytepmcfleijiloaa
open Go Go.Lib Go.Sort Go.Shelf

theorem cL_lt (a b : List UInt8) : compareBytes a b < 0 ↔ a < b := by
  rcases cmpL_cases a b with ⟨h, h'⟩ | ⟨h, h'⟩ | ⟨h, h'⟩
  · simp [h, h']
  · rw [h, h']; simp [List.lt_irrefl]
  · rw [h]; simp; exact List.le_of_lt h'
theorem ltL_eq (a b : List UInt8) : ltOf compareBytes a b = decide (a < b) := by
  unfold ltOf
  rw [Bool.eq_iff_iff, decide_eq_true_iff, decide_eq_true_iff, cL_lt]
theorem lt_or_eq_or_gt (a b : List UInt8) : a < b ∨ a = b ∨ b < a := by
  rcases cmpL_cases a b with ⟨_, h⟩ | ⟨_, h⟩ | ⟨_, h⟩
  · exact .inl h
  · exact .inr (.inl h)
  · exact .inr (.inr h)
theorem swoL : SWO (ltOf compareBytes) where
  irrefl x := by rw [ltL_eq]; simp [List.lt_irrefl]
  trans x y z h1 h2 := by
    rw [ltL_eq] at *
    simp at *
    exact List.lt_trans h1 h2
  ntrans x y z h1 h2 := by
    rw [ltL_eq] at *
    simp only [decide_eq_false_iff_not] at *
    intro h
    rcases lt_or_eq_or_gt x y with e | e | e
    · exact h1 e
    · subst e; exact h2 h
    · exact h2 (List.lt_trans e h)
theorem totL (x y : List UInt8) (h1 : ltOf compareBytes x y = false) (h2 : ltOf compareBytes y x = false) : x = y := by
  rw [ltL_eq] at *
  simp only [decide_eq_false_iff_not] at *
  rcases lt_or_eq_or_gt x y with e | e | e
  · exact absurd e h1
  · exact e
  · exact absurd e h2

/-- Sorted texts; what comes twice left out. -/
theorem compactUpTo_spec (d : Array (List UInt8)) (hd : ∀ i j, i < j → j < d.size → ¬ d[j]! < d[i]!) : ∀ m, m ≤ d.size →
    (compactUpTo d m).Pairwise (· < ·) ∧ (∀ z, z ∈ compactUpTo d m ↔ ∃ j, j < m ∧ d[j]! = z)
  | 0, _ => by simp [compactUpTo]
  | m + 1, hm => by
    obtain ⟨h1, h2⟩ := compactUpTo_spec d hd m (by omega)
    rw [compactUpTo_succ]
    by_cases hk : keeps d m = true
    · rw [if_pos hk]
      refine ⟨?_, ?_⟩
      · rw [List.pairwise_append]
        refine ⟨h1, by simp, ?_⟩
        intro a ha b hb
        simp at hb
        subst hb
        obtain ⟨j, hj, rfl⟩ := (h2 a).1 ha
        have hkk : d[m]! ≠ d[m - 1]! := by
          unfold keeps at hk
          rcases of_decide_eq_true hk with h | h
          · omega
          · exact h
        rcases lt_or_eq_or_gt d[j]! d[m]! with e | e | e
        · exact e
        · exfalso
          rcases Nat.lt_or_ge j (m - 1) with h3 | h3
          · have h4 := hd j (m - 1) h3 (by omega)
            have h5 := hd (m - 1) m (by omega) (by omega)
            rcases lt_or_eq_or_gt d[m - 1]! d[m]! with e2 | e2 | e2
            · rw [← e] at e2; exact h4 e2
            · exact hkk e2.symm
            · exact h5 e2
          · have : j = m - 1 := by omega
            subst this
            exact hkk e.symm
        · exact absurd e (hd j m hj (by omega))
      · intro z
        rw [List.mem_append, h2 z]
        constructor
        · rintro (⟨j, hj, e⟩ | hz)
          · exact ⟨j, by omega, e⟩
          · simp at hz; exact ⟨m, by omega, hz.symm⟩
        · rintro ⟨j, hj, e⟩
          rcases Nat.lt_or_ge j m with h3 | h3
          · exact .inl ⟨j, h3, e⟩
          · have : j = m := by omega
            subst this
            right; simp [e]
    · rw [if_neg hk, List.append_nil]
      refine ⟨h1, fun z => ?_⟩
      rw [h2 z]
      have hkk : m ≠ 0 ∧ d[m]! = d[m - 1]! := by
        unfold keeps at hk
        simpa using hk
      constructor
      · rintro ⟨j, hj, e⟩
        exact ⟨j, by omega, e⟩
      · rintro ⟨j, hj, e⟩
        rcases Nat.lt_or_ge j m with h3 | h3
        · exact ⟨j, h3, e⟩
        · have : j = m := by omega
          subst this
          exact ⟨j - 1, by omega, by rw [← hkk.2]; exact e⟩

theorem compact_sorted (l : List (List UInt8)) : (compact (l.mergeSort fun x y => !(ltOf compareBytes) y x)).Pairwise (· < ·) ∧ ∀ z, z ∈ compact (l.mergeSort fun x y => !(ltOf compareBytes) y x) ↔ z ∈ l := by
  have hp := List.mergeSort_perm l (fun x y => !(ltOf compareBytes) y x)
  have hs := List.pairwise_mergeSort (le := fun x y => !(ltOf compareBytes) y x) (by
    intro a b c h1 h2
    simp at h1 h2 ⊢
    exact swoL.ntrans c b a h2 h1) (by
    intro a b
    rw [ltL_eq, ltL_eq]
    rcases lt_or_eq_or_gt a b with e | e | e
    · have : ¬ b < a := fun h => List.lt_irrefl _ (List.lt_trans h e)
      simp [this]
    · subst e; simp [List.lt_irrefl]
    · have : ¬ a < b := fun h => List.lt_irrefl _ (List.lt_trans h e)
      simp [this]) l
  generalize l.mergeSort (fun x y => !(ltOf compareBytes) y x) = m at *
  have h := compactUpTo_spec m.toArray (by
    intro i j hij hj
    have hj' : j < m.length := by simpa using hj
    have := List.pairwise_iff_getElem.1 hs i j (by omega) hj' hij
    rw [ltL_eq] at this
    rw [getElem!_pos m.toArray j (by simpa using hj'), getElem!_pos m.toArray i (by simp; omega)]
    simpa using this) m.length (by simp)
  refine ⟨h.1, fun z => ?_⟩
  rw [← hp.mem_iff]
  unfold compact
  rw [h.2 z]
  constructor
  · rintro ⟨j, hj, e⟩
    rw [getElem!_pos m.toArray j (by simpa using hj)] at e
    rw [← e]
    simp
  · intro hz
    obtain ⟨j, hj, e⟩ := List.getElem_of_mem hz
    exact ⟨j, hj, by rw [getElem!_pos m.toArray j (by simpa using hj)]; simpa using e⟩

def ofL (l : List UInt8) : ByteArray := ⟨l.toArray⟩
theorem ofL_data (s : ByteArray) : ofL s.data.toList = s := by cases s; rfl
theorem data_ofL (l : List UInt8) : (ofL l).data.toList = l := by simp [ofL]

/-- Which list the sort and the leaving out come to. -/
theorem sorted_is (l : List ByteArray) (hw : ∀ x ∈ l, isWord x = true) : (compact ((l.map fun s => s.data.toList).mergeSort fun x y => !(ltOf compareBytes) y x)).map ofL = sortedL l := by
  obtain ⟨h1, h2⟩ := compact_sorted (l.map fun s => s.data.toList)
  generalize compact ((l.map fun s => s.data.toList).mergeSort fun x y => !(ltOf compareBytes) y x) = m at *
  refine rises_ext ?_ (sortedL_rises l) fun x => ?_
  · unfold Rises
    rw [List.pairwise_map]
    refine h1.imp ?_
    intro a b hab
    rw [cmpB_lt, data_ofL, data_ofL]
    exact hab
  · rw [sortedL_mem, List.mem_map]
    constructor
    · rintro ⟨a, ha, rfl⟩
      have := (h2 a).1 ha
      obtain ⟨s, hs, rfl⟩ := List.mem_map.1 this
      rw [ofL_data]
      exact ⟨hs, hw s hs⟩
    · rintro ⟨hx, _⟩
      exact ⟨x.data.toList, (h2 _).2 (List.mem_map.2 ⟨x, hx, rfl⟩), ofL_data x⟩
theorem sortedL_filter (l : List ByteArray) : sortedL (l.filter isWord) = sortedL l := by
  refine rises_ext (sortedL_rises _) (sortedL_rises _) fun x => ?_
  rw [sortedL_mem, sortedL_mem, List.mem_filter]
  constructor
  · rintro ⟨⟨h, _⟩, h'⟩; exact ⟨h, h'⟩
  · rintro ⟨h, h'⟩; exact ⟨⟨h, h'⟩, h'⟩
end Go.Proofs.Ytepmcfleijiloaa
