/- The least graph of words, plain: nodes are lists of rests, texts are lists of runes. No program here. -/
import GoSem.Core.Utf8
namespace Go.Proofs.Ytepmcfleijiloaa

abbrev Rs := List (List Nat)

/-- Does a text begin with r? -/
def isHd (r : Nat) (t : List Nat) : Bool := t.head? == some r
/-- What is behind r, of the texts ahead that begin with it. -/
def grp (r : Nat) (T : Rs) : Rs := (T.takeWhile (isHd r)).map List.tail
def remv (r : Nat) (T : Rs) : Rs := T.dropWhile (isHd r)
theorem remv_len (r : Nat) (T : Rs) : (remv r T).length ≤ T.length := (List.dropWhile_suffix _).length_le
def groups : Rs → List (Nat × Rs)
  | [] => []
  | [] :: T => groups T
  | (r :: x) :: T => (r, x :: grp r T) :: groups (remv r T)
termination_by T => T.length
decreasing_by
  · simp
  · have := remv_len r T; simp; omega

theorem groups_nil : groups [] = [] := by rw [groups]
theorem groups_emp (T : Rs) : groups ([] :: T) = groups T := by rw [groups]
theorem groups_cons (r : Nat) (x : List Nat) (T : Rs) : groups ((r :: x) :: T) = (r, x :: grp r T) :: groups (remv r T) := by rw [groups]

theorem isHd_iff {r : Nat} {t : List Nat} : isHd r t = true ↔ ∃ y, t = r :: y := by
  unfold isHd
  cases t with
  | nil => simp
  | cons a y => simp
theorem isHd_cons (r : Nat) (x : List Nat) : isHd r (r :: x) = true := by simp [isHd]

/-- An induction over the groups. -/
theorem groups_ind {C : Rs → Prop} (h0 : C []) (h1 : ∀ T, C T → C ([] :: T)) (h2 : ∀ r x T, C (remv r T) → C ((r :: x) :: T)) : ∀ T, C T
  | [] => h0
  | [] :: T => h1 T (groups_ind h0 h1 h2 T)
  | (r :: x) :: T => h2 r x T (groups_ind h0 h1 h2 (remv r T))
termination_by T => T.length
decreasing_by
  · simp
  · have := remv_len r T; simp; omega

theorem grp_nil (r : Nat) : grp r [] = [] := rfl
theorem grp_yes (r : Nat) (x : List Nat) (T : Rs) : grp r ((r :: x) :: T) = x :: grp r T := by simp [grp, isHd]
theorem grp_no {r : Nat} {t : List Nat} (T : Rs) (h : isHd r t = false) : grp r (t :: T) = [] := by simp [grp, h]
theorem remv_nil (r : Nat) : remv r [] = [] := rfl
theorem remv_yes (r : Nat) (x : List Nat) (T : Rs) : remv r ((r :: x) :: T) = remv r T := by simp [remv, isHd]
theorem remv_no {r : Nat} {t : List Nat} (T : Rs) (h : isHd r t = false) : remv r (t :: T) = t :: T := by simp [remv, h]
theorem mem_remv {r : Nat} {T : Rs} {y : List Nat} (h : y ∈ remv r T) : y ∈ T := (List.dropWhile_sublist _).subset h
theorem grp_remv (r : Nat) (T : Rs) : T = (grp r T).map (r :: ·) ++ remv r T := by
  induction T with
  | nil => rfl
  | cons t T ih =>
    cases h : isHd r t with
    | true =>
      obtain ⟨x, rfl⟩ := isHd_iff.1 h
      rw [grp_yes, remv_yes, List.map_cons, List.cons_append, ← ih]
    | false => rw [grp_no T h, remv_no T h]; rfl
theorem mem_grp {r : Nat} {T : Rs} {y : List Nat} (h : y ∈ grp r T) : r :: y ∈ T := by
  rw [grp_remv r T]
  exact List.mem_append_left _ (List.mem_map.2 ⟨y, h, rfl⟩)

/-- What is in a group was in the list. -/
theorem mem_groups : ∀ (T : Rs) (g : Nat × Rs), g ∈ groups T → g.2 ≠ [] ∧ ∀ y ∈ g.2, g.1 :: y ∈ T := by
  intro T
  induction T using groups_ind with
  | h0 => intro g hg; rw [groups_nil] at hg; simp at hg
  | h1 T ih =>
    intro g hg
    rw [groups_emp] at hg
    exact ⟨(ih g hg).1, fun y hy => List.mem_cons_of_mem _ ((ih g hg).2 y hy)⟩
  | h2 r x T ih =>
    intro g hg
    rw [groups_cons] at hg
    rcases List.mem_cons.1 hg with rfl | hg
    · refine ⟨by simp, fun y hy => ?_⟩
      rcases List.mem_cons.1 hy with rfl | hy
      · simp
      · exact List.mem_cons_of_mem _ (mem_grp hy)
    · exact ⟨(ih g hg).1, fun y hy => List.mem_cons_of_mem _ (mem_remv ((ih g hg).2 y hy))⟩

/-- All runes. -/
def total (T : Rs) : Nat := (T.map List.length).sum
theorem total_nil : total [] = 0 := rfl
theorem total_cons (x : List Nat) (T : Rs) : total (x :: T) = x.length + total T := by simp [total]
theorem total_append (S T : Rs) : total (S ++ T) = total S + total T := by simp [total]
theorem total_add (r : Nat) (T : Rs) : total (T.map (r :: ·)) = total T + T.length := by
  induction T with
  | nil => rfl
  | cons x T ih => simp only [List.map_cons, total_cons, ih, List.length_cons]; omega
theorem groups_total : ∀ T : Rs, ((groups T).map fun g => 1 + total g.2).sum ≤ total T := by
  intro T
  induction T using groups_ind with
  | h0 => rw [groups_nil]; simp
  | h1 T ih => rw [groups_emp, total_cons]; omega
  | h2 r x T ih =>
    rw [groups_cons]
    have h := grp_remv r T
    have e : total T = total (grp r T) + (grp r T).length + total (remv r T) := by
      conv => lhs; rw [h]
      rw [total_append, total_add]
    simp only [List.map_cons, List.sum_cons, total_cons, List.length_cons]
    omega

/-! ### Nodes -/
def addN : Nat → List Rs → Rs → List Rs
  | 0, N, _ => N
  | d + 1, N, R => if R ∈ N then N else (groups R).foldl (fun N g => addN d N g.2) (N ++ [R])
def addG (d : Nat) (N : List Rs) (gs : List (Nat × Rs)) : List Rs := gs.foldl (fun N g => addN d N g.2) N
theorem addG_nil (d : Nat) (N : List Rs) : addG d N [] = N := rfl
theorem addG_cons (d : Nat) (N : List Rs) (g : Nat × Rs) (gs : List (Nat × Rs)) : addG d N (g :: gs) = addG d (addN d N g.2) gs := rfl
theorem addG_append (d : Nat) (N : List Rs) (gs hs : List (Nat × Rs)) : addG d N (gs ++ hs) = addG d (addG d N gs) hs := by simp [addG]
theorem addN_old (d : Nat) (N : List Rs) (R : Rs) (h : R ∈ N) : addN (d + 1) N R = N := by rw [addN, if_pos h]
theorem addN_new (d : Nat) (N : List Rs) (R : Rs) (h : R ∉ N) : addN (d + 1) N R = addG d (N ++ [R]) (groups R) := by rw [addN, if_neg h]; rfl

theorem addG_ext_of {d : Nat} (ih : ∀ N R, ∃ M, addN d N R = N ++ M) : ∀ (gs : List (Nat × Rs)) (N : List Rs), ∃ M, addG d N gs = N ++ M
  | [], N => ⟨[], by simp [addG_nil]⟩
  | g :: gs, N => by
    obtain ⟨M, h⟩ := ih N g.2
    obtain ⟨M2, h2⟩ := addG_ext_of ih gs (addN d N g.2)
    exact ⟨M ++ M2, by rw [addG_cons, h2, h, List.append_assoc]⟩
theorem addN_ext : ∀ (d : Nat) (N : List Rs) (R : Rs), ∃ M, addN d N R = N ++ M
  | 0, N, R => ⟨[], by simp [addN]⟩
  | d + 1, N, R => by
    by_cases h : R ∈ N
    · exact ⟨[], by rw [addN_old d N R h]; simp⟩
    · rw [addN_new d N R h]
      obtain ⟨M, e⟩ := addG_ext_of (addN_ext d) (groups R) (N ++ [R])
      exact ⟨R :: M, by rw [e]; simp⟩
theorem addG_ext (d : Nat) (gs : List (Nat × Rs)) (N : List Rs) : ∃ M, addG d N gs = N ++ M := addG_ext_of (addN_ext d) gs N
theorem addN_sub (d : Nat) (N : List Rs) (R x : Rs) (h : x ∈ N) : x ∈ addN d N R := by
  obtain ⟨M, e⟩ := addN_ext d N R
  rw [e]; exact List.mem_append_left _ h
theorem addG_sub (d : Nat) (N : List Rs) (gs : List (Nat × Rs)) (x : Rs) (h : x ∈ N) : x ∈ addG d N gs := by
  obtain ⟨M, e⟩ := addG_ext d gs N
  rw [e]; exact List.mem_append_left _ h
theorem addN_in (d : Nat) (N : List Rs) (R : Rs) : R ∈ addN (d + 1) N R := by
  by_cases h : R ∈ N
  · rw [addN_old d N R h]; exact h
  · rw [addN_new d N R h]; exact addG_sub _ _ _ _ (by simp)

theorem addG_size_of {d : Nat} (ih : ∀ N R, (addN d N R).length ≤ N.length + (1 + total R)) : ∀ (gs : List (Nat × Rs)) (N : List Rs), (addG d N gs).length ≤ N.length + (gs.map fun g => 1 + total g.2).sum
  | [], N => by simp [addG_nil]
  | g :: gs, N => by
    have h := ih N g.2
    have h2 := addG_size_of ih gs (addN d N g.2)
    rw [addG_cons]
    simp only [List.map_cons, List.sum_cons]
    omega
theorem addN_size : ∀ (d : Nat) (N : List Rs) (R : Rs), (addN d N R).length ≤ N.length + (1 + total R)
  | 0, N, R => by simp [addN]
  | d + 1, N, R => by
    by_cases h : R ∈ N
    · rw [addN_old d N R h]; omega
    · rw [addN_new d N R h]
      have h1 := addG_size_of (addN_size d) (groups R) (N ++ [R])
      have h2 := groups_total R
      simp at h1
      omega

theorem addG_nodup_of {d : Nat} (ih : ∀ N R, N.Nodup → (addN d N R).Nodup) : ∀ (gs : List (Nat × Rs)) (N : List Rs), N.Nodup → (addG d N gs).Nodup
  | [], N, h => h
  | g :: gs, N, h => by rw [addG_cons]; exact addG_nodup_of ih gs _ (ih N g.2 h)
theorem addN_nodup : ∀ (d : Nat) (N : List Rs) (R : Rs), N.Nodup → (addN d N R).Nodup
  | 0, N, R, h => by simpa [addN] using h
  | d + 1, N, R, h => by
    by_cases hm : R ∈ N
    · rw [addN_old d N R hm]; exact h
    · rw [addN_new d N R hm]
      refine addG_nodup_of (addN_nodup d) _ _ ?_
      rw [List.nodup_append]
      exact ⟨h, by simp, fun a ha b hb => by simp at hb; subst hb; rintro rfl; exact hm ha⟩

/-- All texts have less than d runes. -/
def Short (d : Nat) (R : Rs) : Prop := ∀ t ∈ R, t.length < d
theorem Short.group {d : Nat} {R : Rs} (h : Short (d + 1) R) {g : Nat × Rs} (hg : g ∈ groups R) : Short d g.2 := fun t ht => by
  have := h _ ((mem_groups R g hg).2 t ht)
  simp at this; omega
theorem Short.pos {d : Nat} {R : Rs} (h : Short d R) (hn : R ≠ []) : 0 < d := by
  cases R with
  | nil => exact absurd rfl hn
  | cons t R => have := h t (by simp); omega
theorem Short.one {R : Rs} (h : Short 1 R) : groups R = [] := by
  cases hg : groups R with
  | nil => rfl
  | cons g gs =>
    exfalso
    have h1 := Short.group h (g := g) (by rw [hg]; simp)
    have h2 := (mem_groups R g (by rw [hg]; simp)).1
    exact absurd (Short.pos h1 h2) (by omega)

/-- The nodes behind a new node are nodes. -/
def Closed (N : List Rs) (x : Rs) : Prop := ∀ g ∈ groups x, g.2 ∈ N
theorem Closed.more {N M : List Rs} {x : Rs} (h : Closed N x) (hs : ∀ y ∈ N, y ∈ M) : Closed M x := fun g hg => hs _ (h g hg)
theorem addG_closed_of {d : Nat} (ih : ∀ N R, R ≠ [] → Short d R → R ∈ addN d N R ∧ ∀ x ∈ addN d N R, x ∉ N → Closed (addN d N R) x) :
    ∀ (gs : List (Nat × Rs)) (N : List Rs), (∀ g ∈ gs, g.2 ≠ [] ∧ Short d g.2) → (∀ g ∈ gs, g.2 ∈ addG d N gs) ∧ ∀ x ∈ addG d N gs, x ∉ N → Closed (addG d N gs) x
  | [], N, _ => ⟨by simp, fun x hx hn => absurd hx hn⟩
  | g :: gs, N, h => by
    rw [addG_cons]
    have h0 := h g (by simp)
    obtain ⟨h1, h2⟩ := ih N g.2 h0.1 h0.2
    obtain ⟨h3, h4⟩ := addG_closed_of ih gs (addN d N g.2) (fun g hg => h g (List.mem_cons_of_mem _ hg))
    refine ⟨fun k hk => ?_, fun x hx hn => ?_⟩
    · rcases List.mem_cons.1 hk with rfl | hk
      · exact addG_sub _ _ _ _ h1
      · exact h3 k hk
    · by_cases hm : x ∈ addN d N g.2
      · exact (h2 x hm hn).more (addG_sub _ _ _)
      · exact h4 x hx hm
theorem addN_closed : ∀ (d : Nat) (N : List Rs) (R : Rs), R ≠ [] → Short d R → R ∈ addN d N R ∧ ∀ x ∈ addN d N R, x ∉ N → Closed (addN d N R) x
  | 0, N, R, hn, h => absurd (h.pos hn) (by omega)
  | d + 1, N, R, hn, h => by
    refine ⟨addN_in d N R, ?_⟩
    by_cases hm : R ∈ N
    · rw [addN_old d N R hm]; exact fun x hx hn => absurd hx hn
    · rw [addN_new d N R hm]
      obtain ⟨h1, h2⟩ := addG_closed_of (addN_closed d) (groups R) (N ++ [R]) (fun g hg => ⟨(mem_groups R g hg).1, h.group hg⟩)
      intro x hx hxn
      by_cases e : x = R
      · subst e; exact h1
      · exact h2 x hx (by simp [hxn, e])

/-- What holds of the rests, and goes on to groups, holds of all new nodes. -/
theorem addG_all_of {C : Rs → Prop} {d : Nat} (ih : ∀ N R, C R → ∀ x ∈ addN d N R, x ∈ N ∨ C x) : ∀ (gs : List (Nat × Rs)) (N : List Rs), (∀ g ∈ gs, C g.2) → ∀ x ∈ addG d N gs, x ∈ N ∨ C x
  | [], N, _ => fun x hx => .inl hx
  | g :: gs, N, h => by
    rw [addG_cons]
    intro x hx
    rcases addG_all_of ih gs (addN d N g.2) (fun g hg => h g (List.mem_cons_of_mem _ hg)) x hx with h1 | h1
    · exact ih N g.2 (h g (by simp)) x h1
    · exact .inr h1
theorem addN_all {C : Rs → Prop} (hC : ∀ R, C R → ∀ g ∈ groups R, C g.2) : ∀ (d : Nat) (N : List Rs) (R : Rs), C R → ∀ x ∈ addN d N R, x ∈ N ∨ C x
  | 0, N, R, _ => fun x hx => .inl hx
  | d + 1, N, R, h => by
    by_cases hm : R ∈ N
    · rw [addN_old d N R hm]; exact fun x hx => .inl hx
    · rw [addN_new d N R hm]
      intro x hx
      rcases addG_all_of (addN_all hC d) (groups R) (N ++ [R]) (fun g hg => hC R h g hg) x hx with h1 | h1
      · rcases List.mem_append.1 h1 with h1 | h1
        · exact .inl h1
        · simp at h1; subst h1; exact .inr h
      · exact .inr h1

/-! ### Numbers of nodes -/
/-- What a node is: does a word end there, and its edges. -/
def fin (R : Rs) : Bool := R.head? == some []
def edgesOf (N : List Rs) (R : Rs) : List (Nat × Nat) := (groups R).map fun g => (g.1, N.idxOf g.2)
theorem idx_more {N M : List Rs} {x : Rs} (h : x ∈ N) : (N ++ M).idxOf x = N.idxOf x := by
  rw [List.idxOf_append, if_pos h]
theorem edgesOf_more {N : List Rs} (M : List Rs) {R : Rs} (h : Closed N R) : edgesOf (N ++ M) R = edgesOf N R := by
  unfold edgesOf
  exact List.map_congr_left fun g hg => by rw [idx_more (h g hg)]

end Go.Proofs.Ytepmcfleijiloaa
