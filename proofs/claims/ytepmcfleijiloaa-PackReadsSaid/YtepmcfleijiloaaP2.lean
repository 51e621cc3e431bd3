/- Plain words on lists of texts in order: which lists rise, what two of them are together, where a text stands. No program here. -/
import Derived.Test.YtepmcfleijiloaaP1
set_option linter.unusedVariables false
set_option linter.unusedSimpArgs false
namespace Go.Proofs.Ytepmcfleijiloaa
open Go

def cmpB (a b : ByteArray) : Int := Lib.compareBytes a.data.toList b.data.toList

theorem cmpL_cases : ∀ a b : List UInt8, (Lib.compareBytes a b = -1 ∧ a < b) ∨ (Lib.compareBytes a b = 0 ∧ a = b) ∨ (Lib.compareBytes a b = 1 ∧ b < a)
  | [], [] => .inr (.inl ⟨rfl, rfl⟩)
  | [], _ :: _ => .inl ⟨rfl, by simp⟩
  | _ :: _, [] => .inr (.inr ⟨rfl, by simp⟩)
  | a :: as, b :: bs => by
    simp only [Lib.compareBytes]
    by_cases h1 : a < b
    · left; simp [h1, List.cons_lt_cons_iff]
    · by_cases h2 : b < a
      · right; right; simp [h1, h2, List.cons_lt_cons_iff]
      · have e : a = b := by
          rw [UInt8.lt_iff_toNat_lt] at h1 h2
          exact UInt8.toNat_inj.1 (by omega)
        subst e
        rcases cmpL_cases as bs with h | h | h
        · left; simp [h, List.cons_lt_cons_iff]
        · right; left; obtain ⟨h, rfl⟩ := h; simp [h]
        · right; right; simp [h, List.cons_lt_cons_iff]

theorem cmpB_lt (a b : ByteArray) : cmpB a b < 0 ↔ a.data.toList < b.data.toList := by
  unfold cmpB
  rcases cmpL_cases a.data.toList b.data.toList with ⟨h, h'⟩ | ⟨h, h'⟩ | ⟨h, h'⟩
  · simp [h, h']
  · rw [h, h']; simp [List.lt_irrefl]
  · rw [h]
    simp
    exact List.le_of_lt h'
theorem cmpB_eq (a b : ByteArray) : cmpB a b = 0 ↔ a = b := by
  unfold cmpB
  have e : a = b ↔ a.data.toList = b.data.toList := by
    constructor
    · rintro rfl; rfl
    · intro h
      cases a; cases b
      simp only [ByteArray.mk.injEq]
      exact Array.ext' h
  rw [e]
  rcases cmpL_cases a.data.toList b.data.toList with ⟨h, h'⟩ | ⟨h, h'⟩ | ⟨h, h'⟩
  · simp [h]; rintro h2; rw [h2] at h'; exact List.lt_irrefl _ h'
  · rw [h]; simp [h']
  · simp [h]; rintro h2; rw [h2] at h'; exact List.lt_irrefl _ h'
theorem cmpB_gt (a b : ByteArray) : 0 < cmpB a b ↔ cmpB b a < 0 := by
  rw [cmpB_lt]
  unfold cmpB
  rcases cmpL_cases a.data.toList b.data.toList with ⟨h, h'⟩ | ⟨h, h'⟩ | ⟨h, h'⟩
  · simp [h]; exact List.le_of_lt h'
  · rw [h, h']; simp [List.lt_irrefl]
  · simp [h, h']
theorem cmpB_trans {a b c : ByteArray} (h1 : cmpB a b < 0) (h2 : cmpB b c < 0) : cmpB a c < 0 := by
  rw [cmpB_lt] at *
  exact List.lt_trans h1 h2
theorem cmpB_irrefl (a : ByteArray) : ¬ cmpB a a < 0 := by rw [cmpB_lt]; exact List.lt_irrefl _
theorem cmpB_bd (a b : ByteArray) : -1 ≤ cmpB a b ∧ cmpB a b ≤ 1 := by
  unfold cmpB
  rcases cmpL_cases a.data.toList b.data.toList with ⟨h, h'⟩ | ⟨h, h'⟩ | ⟨h, h'⟩ <;> rw [h] <;> omega

/-- A list that rises. -/
def Rises (l : List ByteArray) : Prop := l.Pairwise fun a b => cmpB a b < 0
def risesB : List ByteArray → Bool
  | [] => true
  | [_] => true
  | a :: b :: r => decide (cmpB a b < 0) && risesB (b :: r)
theorem risesB_iff : ∀ l : List ByteArray, risesB l = true ↔ Rises l
  | [] => by simp [risesB, Rises]
  | [_] => by simp [risesB, Rises]
  | a :: b :: r => by
    have ih := risesB_iff (b :: r)
    unfold Rises at *
    rw [risesB, Bool.and_eq_true, ih, List.pairwise_cons (a := a)]
    constructor
    · rintro ⟨h, h2⟩
      have h' : cmpB a b < 0 := of_decide_eq_true h
      refine ⟨?_, h2⟩
      intro x hx
      rcases List.mem_cons.1 hx with rfl | hx
      · exact h'
      · exact cmpB_trans h' ((List.pairwise_cons.1 h2).1 x hx)
    · rintro ⟨h, h2⟩
      exact ⟨decide_eq_true (h b (by simp)), h2⟩
theorem risesB_at : ∀ l : List ByteArray, risesB l = true ↔ ∀ i, (h : i + 1 < l.length) → cmpB (l[i]'(by omega)) (l[i + 1]'h) < 0
  | [] => by simp [risesB]
  | [_] => by simp [risesB]
  | a :: b :: r => by
    have ih := risesB_at (b :: r)
    rw [risesB, Bool.and_eq_true, ih]
    constructor
    · rintro ⟨h, h2⟩ i hi
      cases i with
      | zero => exact of_decide_eq_true h
      | succ i => exact h2 i (by simpa using hi)
    · intro h
      exact ⟨decide_eq_true (h 0 (by simp)), fun i hi => h (i + 1) (by simpa using hi)⟩

/-- list.Good's number. -/
def goodE (l : List ByteArray) : Int := if 60 < l.length then 3 else if l.all isWord = false then 6 else if risesB l = false then 7 else 0

theorem goodE_zero {l : List ByteArray} (h : goodE l = 0) : l.length ≤ 60 ∧ (∀ x ∈ l, isWord x = true) ∧ Rises l := by
  unfold goodE at h
  split at h
  · cases h
  · split at h
    · cases h
    · split at h
      · cases h
      · rename_i h1 h2 h3
        refine ⟨by omega, ?_, (risesB_iff l).1 (by simpa using h3)⟩
        simpa using h2

/-- Two rising lists with the same texts are one. -/
theorem rises_ext : ∀ {a b : List ByteArray}, Rises a → Rises b → (∀ x, x ∈ a ↔ x ∈ b) → a = b
  | [], [], _, _, _ => rfl
  | [], y :: b, _, _, h => by have := (h y).2 (by simp); simp at this
  | x :: a, [], _, _, h => by have := (h x).1 (by simp); simp at this
  | x :: a, y :: b, ha, hb, h => by
    unfold Rises at ha hb
    have ha' := List.pairwise_cons.1 ha
    have hb' := List.pairwise_cons.1 hb
    have e : x = y := by
      rcases List.mem_cons.1 ((h x).1 (by simp)) with e | e
      · exact e
      · rcases List.mem_cons.1 ((h y).2 (by simp)) with e2 | e2
        · exact e2.symm
        · exact absurd (cmpB_trans (ha'.1 y e2) (hb'.1 x e)) (cmpB_irrefl x)
    subst e
    rw [rises_ext ha'.2 hb'.2 fun z => ?_]
    constructor
    · intro hz
      rcases List.mem_cons.1 ((h z).1 (List.mem_cons_of_mem _ hz)) with e | e
      · subst e; exact absurd (ha'.1 z hz) (cmpB_irrefl z)
      · exact e
    · intro hz
      rcases List.mem_cons.1 ((h z).2 (List.mem_cons_of_mem _ hz)) with e | e
      · subst e; exact absurd (hb'.1 z hz) (cmpB_irrefl z)
      · exact e

/-- How many texts of l are below w. -/
def below (l : List ByteArray) (w : ByteArray) : Nat := l.countP fun x => decide (cmpB x w < 0)
theorem below_le (l : List ByteArray) (w : ByteArray) : below l w ≤ l.length := List.countP_le_length
/-- In a rising list just the first ones are below. -/
theorem below_at {l : List ByteArray} (hl : Rises l) (w : ByteArray) (i : Nat) (h : i < l.length) : cmpB l[i] w < 0 ↔ i < below l w := by
  induction l generalizing i with
  | nil => simp at h
  | cons x r ih =>
    have hl' := List.pairwise_cons.1 hl
    unfold below
    by_cases hx : cmpB x w < 0
    · rw [List.countP_cons_of_pos (by simpa using hx)]
      cases i with
      | zero => simp [hx]
      | succ i =>
        have := ih hl'.2 i (by simpa using h)
        unfold below at this
        simp only [List.getElem_cons_succ, this]
        omega
    · have h0 : r.countP (fun x => decide (cmpB x w < 0)) = 0 := by
        rw [List.countP_eq_zero]
        intro y hy
        have h1 := hl'.1 y hy
        simp
        rcases Int.lt_or_le (cmpB y w) 0 with h2 | h2
        · exact absurd (cmpB_trans h1 h2) hx
        · exact h2
      rw [List.countP_cons_of_neg (by simpa using hx), h0]
      cases i with
      | zero => simp; omega
      | succ i =>
        simp only [List.getElem_cons_succ]
        have := List.countP_eq_zero.1 h0 (r[i]'(by simpa using h)) (List.getElem_mem _)
        simp at this
        omega
theorem mem_at {l : List ByteArray} (hl : Rises l) (w : ByteArray) : w ∈ l ↔ ∃ h : below l w < l.length, l[below l w] = w := by
  constructor
  · intro hm
    obtain ⟨i, hi, he⟩ := List.getElem_of_mem hm
    have h1 := below_at hl w i hi
    rw [he] at h1
    have h2 : ¬ i < below l w := fun h => cmpB_irrefl w (h1.2 h)
    rcases Nat.lt_or_ge (below l w) i with h3 | h3
    · have h4 := (List.pairwise_iff_getElem.1 hl) (below l w) i (by omega) hi h3
      rw [he] at h4
      have := (below_at hl w (below l w) (by omega)).1 h4
      omega
    · have e : i = below l w := by omega
      subst e
      exact ⟨hi, he⟩
  · rintro ⟨h, e⟩
    rw [← e]; exact List.getElem_mem _

/-- list.Merge -/
def mergeL : List ByteArray → List ByteArray → List ByteArray
  | [], b => b
  | x :: a, [] => x :: a
  | x :: a, y :: b => if cmpB x y < 0 then x :: mergeL a (y :: b) else if x = y then mergeL a (y :: b) else y :: mergeL (x :: a) b
  termination_by a b => a.length + b.length
theorem mergeL_nil : ∀ a : List ByteArray, mergeL a [] = a
  | [] => by simp [mergeL]
  | x :: a => by simp [mergeL]
theorem or3 (p q r : Prop) : (p ∨ q ∨ r) ↔ ((q ∨ p) ∨ q ∨ r) := by
  constructor
  · rintro (h | h | h) <;> simp [h]
  · rintro ((h | h) | h | h) <;> simp [h]
theorem or4 (p q r : Prop) : (p ∨ q ∨ r) ↔ (q ∨ p ∨ r) := by
  constructor
  · rintro (h | h | h) <;> simp [h]
  · rintro (h | h | h) <;> simp [h]
theorem mergeL_mem : ∀ (a b : List ByteArray) (z : ByteArray), z ∈ mergeL a b ↔ z ∈ a ∨ z ∈ b
  | [], b, z => by simp [mergeL]
  | x :: a, [], z => by simp [mergeL]
  | x :: a, y :: b, z => by
    rw [mergeL]
    split
    · rw [List.mem_cons, mergeL_mem a (y :: b) z]; simp [or_assoc]
    · split
      · rename_i h
        subst h
        rw [mergeL_mem a (x :: b) z]; simp only [List.mem_cons]; exact or3 _ _ _
      · rw [List.mem_cons, mergeL_mem (x :: a) b z]; simp only [List.mem_cons]; exact or4 _ _ _
  termination_by a b => a.length + b.length
theorem mergeL_rises : ∀ (a b : List ByteArray), Rises a → Rises b → Rises (mergeL a b)
  | [], b, _, hb => by simpa [mergeL] using hb
  | x :: a, [], ha, _ => by simpa [mergeL] using ha
  | x :: a, y :: b, ha, hb => by
    have ha' := List.pairwise_cons.1 ha
    have hb' := List.pairwise_cons.1 hb
    rw [mergeL]
    split
    · rename_i h
      refine List.pairwise_cons.2 ⟨fun z hz => ?_, mergeL_rises a (y :: b) ha'.2 hb⟩
      rcases (mergeL_mem a (y :: b) z).1 hz with hz | hz
      · exact ha'.1 z hz
      · rcases List.mem_cons.1 hz with rfl | hz
        · exact h
        · exact cmpB_trans h (hb'.1 z hz)
    · split
      · exact mergeL_rises a (y :: b) ha'.2 hb
      · rename_i h h2
        have h3 : cmpB y x < 0 := by
          rw [← cmpB_gt]
          have : ¬ cmpB x y = 0 := fun h => h2 ((cmpB_eq x y).1 h)
          omega
        refine List.pairwise_cons.2 ⟨fun z hz => ?_, mergeL_rises (x :: a) b ha hb'.2⟩
        rcases (mergeL_mem (x :: a) b z).1 hz with hz | hz
        · rcases List.mem_cons.1 hz with rfl | hz
          · exact h3
          · exact cmpB_trans h3 (ha'.1 z hz)
        · exact hb'.1 z hz
  termination_by a b => a.length + b.length
theorem mergeL_len : ∀ (a b : List ByteArray), (mergeL a b).length ≤ a.length + b.length
  | [], b => by simp [mergeL]
  | x :: a, [] => by simp [mergeL]
  | x :: a, y :: b => by
    rw [mergeL]
    split
    · have := mergeL_len a (y :: b); simp at *; omega
    · split
      · have := mergeL_len a (y :: b); simp at *; omega
      · have := mergeL_len (x :: a) b; simp at *; omega
  termination_by a b => a.length + b.length

/-- list.Without -/
def inB (l : List ByteArray) (x : ByteArray) : Bool := l.any fun y => decide (y = x)
theorem inB_iff (l : List ByteArray) (x : ByteArray) : inB l x = true ↔ x ∈ l := by simp [inB]
def withoutL (a b : List ByteArray) : List ByteArray := a.filter fun x => !inB b x
theorem withoutL_mem (a b : List ByteArray) (z : ByteArray) : z ∈ withoutL a b ↔ z ∈ a ∧ z ∉ b := by
  unfold withoutL
  rw [List.mem_filter, ← inB_iff b z]
  simp
theorem withoutL_rises {a b : List ByteArray} (h : Rises a) : Rises (withoutL a b) := List.Pairwise.filter _ h

/-- inkhornref4.Put: what was gathered, and whether the word is in. -/
def putStep (w : ByteArray) (s : List ByteArray × Bool) (x : ByteArray) : List ByteArray × Bool :=
  if s.2 = false ∧ 0 < cmpB x w then (s.1 ++ [w, x], true) else (s.1 ++ [x], s.2 || decide (cmpB x w = 0))
def putL (l : List ByteArray) (w : ByteArray) : List ByteArray :=
  let s := l.foldl (putStep w) ([], false)
  if s.2 then s.1 else s.1 ++ [w]

def putR (w : ByteArray) : List ByteArray → List ByteArray
  | [] => [w]
  | x :: r => if 0 < cmpB x w then w :: x :: r else if cmpB x w = 0 then x :: r else x :: putR w r
theorem put_in (w : ByteArray) : ∀ (l acc : List ByteArray), l.foldl (putStep w) (acc, true) = (acc ++ l, true)
  | [], acc => by simp
  | x :: r, acc => by
    rw [List.foldl_cons]
    have : putStep w (acc, true) x = (acc ++ [x], true) := by simp [putStep]
    rw [this, put_in w r]
    simp
theorem put_out (w : ByteArray) : ∀ (l acc : List ByteArray),
    (if (l.foldl (putStep w) (acc, false)).2 then (l.foldl (putStep w) (acc, false)).1 else (l.foldl (putStep w) (acc, false)).1 ++ [w]) = acc ++ putR w l
  | [], acc => by simp [putR]
  | x :: r, acc => by
    rw [List.foldl_cons, putR]
    by_cases h1 : 0 < cmpB x w
    · have : putStep w (acc, false) x = (acc ++ [w, x], true) := by simp [putStep, h1]
      rw [this, put_in, if_pos h1]
      simp
    · by_cases h2 : cmpB x w = 0
      · have : putStep w (acc, false) x = (acc ++ [x], true) := by simp [putStep, h2]
        rw [this, put_in, if_neg h1, if_pos h2]
        simp
      · have : putStep w (acc, false) x = (acc ++ [x], false) := by simp [putStep, h1, h2]
        rw [this, if_neg h1, if_neg h2, put_out w r]
        simp
theorem putL_eq (l : List ByteArray) (w : ByteArray) : putL l w = putR w l := by
  have := put_out w l []
  simpa [putL] using this
theorem putR_mem (w : ByteArray) : ∀ (l : List ByteArray) (z : ByteArray), z ∈ putR w l ↔ z = w ∨ z ∈ l
  | [], z => by simp [putR]
  | x :: r, z => by
    rw [putR]
    split
    · simp
    · split
      · rename_i h
        have := (cmpB_eq x w).1 h
        subst this
        simp
      · rw [List.mem_cons, putR_mem w r z, List.mem_cons]
        exact or4 _ _ _
theorem putR_rises (w : ByteArray) : ∀ (l : List ByteArray), Rises l → Rises (putR w l)
  | [], _ => by simp [putR, Rises]
  | x :: r, h => by
    have h' := List.pairwise_cons.1 h
    rw [putR]
    split
    · rename_i h1
      rw [cmpB_gt] at h1
      refine List.pairwise_cons.2 ⟨fun z hz => ?_, h⟩
      rcases List.mem_cons.1 hz with rfl | hz
      · exact h1
      · exact cmpB_trans h1 (h'.1 z hz)
    · split
      · exact h
      · rename_i h1 h2
        refine List.pairwise_cons.2 ⟨fun z hz => ?_, putR_rises w r h'.2⟩
        rcases (putR_mem w r z).1 hz with rfl | hz
        · omega
        · exact h'.1 z hz
theorem putR_len (w : ByteArray) : ∀ (l : List ByteArray), (putR w l).length ≤ l.length + 1
  | [] => by simp [putR]
  | x :: r => by
    rw [putR]
    have := putR_len w r
    split
    · simp
    · split
      · simp
      · simp; omega

/-- list.Sorted, text by text (the reference's way). -/
def sortedL (l : List ByteArray) : List ByteArray := l.foldl (fun s x => if isWord x then putL s x else s) []
theorem sortedL_acc : ∀ (l acc : List ByteArray), Rises acc → Rises (l.foldl (fun s x => if isWord x then putL s x else s) acc) ∧
    (∀ z, z ∈ l.foldl (fun s x => if isWord x then putL s x else s) acc ↔ z ∈ acc ∨ (z ∈ l ∧ isWord z = true)) ∧ (l.foldl (fun s x => if isWord x then putL s x else s) acc).length ≤ acc.length + l.length
  | [], acc, h => by simp [h]
  | x :: r, acc, h => by
    rw [List.foldl_cons]
    by_cases hx : isWord x = true
    · rw [if_pos hx, putL_eq]
      obtain ⟨h1, h2, h3⟩ := sortedL_acc r (putR x acc) (putR_rises x acc h)
      refine ⟨h1, fun z => ?_, ?_⟩
      · rw [h2 z, putR_mem, List.mem_cons]
        constructor
        · rintro ((rfl | h) | h)
          · exact .inr ⟨.inl rfl, hx⟩
          · exact .inl h
          · exact .inr ⟨.inr h.1, h.2⟩
        · rintro (h | ⟨rfl | h, h'⟩)
          · exact .inl (.inr h)
          · exact .inl (.inl rfl)
          · exact .inr ⟨h, h'⟩
      · have := putR_len x acc
        simp only [List.length_cons]; omega
    · rw [if_neg hx]
      obtain ⟨h1, h2, h3⟩ := sortedL_acc r acc h
      refine ⟨h1, fun z => ?_, by simp only [List.length_cons]; omega⟩
      rw [h2 z, List.mem_cons]
      constructor
      · rintro (h | h)
        · exact .inl h
        · exact .inr ⟨.inr h.1, h.2⟩
      · rintro (h | ⟨rfl | h, h'⟩)
        · exact .inl h
        · exact absurd h' hx
        · exact .inr ⟨h, h'⟩
theorem sortedL_rises (l : List ByteArray) : Rises (sortedL l) := (sortedL_acc l [] List.Pairwise.nil).1
theorem sortedL_mem (l : List ByteArray) (z : ByteArray) : z ∈ sortedL l ↔ z ∈ l ∧ isWord z = true := by
  have := (sortedL_acc l [] List.Pairwise.nil).2.1 z
  unfold sortedL
  rw [this]; simp
theorem sortedL_len (l : List ByteArray) : (sortedL l).length ≤ l.length := by
  have := (sortedL_acc l [] List.Pairwise.nil).2.2
  unfold sortedL
  simpa using this
end Go.Proofs.Ytepmcfleijiloaa
