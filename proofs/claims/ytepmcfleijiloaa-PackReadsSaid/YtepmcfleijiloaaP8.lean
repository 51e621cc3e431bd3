/- The least graph of words, plain: what its nodes are, where texts lead. No program here. -/
import Derived.Test.YtepmcfleijiloaaP7
set_option linter.unusedVariables false
namespace Go.Proofs.Ytepmcfleijiloaa

/-- What is behind r. -/
def sub (r : Nat) (T : Rs) : Rs := (T.filter (isHd r)).map List.tail
theorem mem_sub {r : Nat} {T : Rs} {y : List Nat} : y ∈ sub r T ↔ r :: y ∈ T := by
  unfold sub
  simp only [List.mem_map, List.mem_filter]
  constructor
  · rintro ⟨t, ⟨ht, hh⟩, rfl⟩
    obtain ⟨z, rfl⟩ := isHd_iff.1 hh
    exact ht
  · intro h
    exact ⟨r :: y, ⟨h, isHd_cons r y⟩, rfl⟩
theorem sub_nil (r : Nat) : sub r [] = [] := rfl
theorem sub_emp (r : Nat) (T : Rs) : sub r ([] :: T) = sub r T := by simp [sub, isHd]
theorem sub_yes (r : Nat) (x : List Nat) (T : Rs) : sub r ((r :: x) :: T) = x :: sub r T := by simp [sub, isHd]
theorem sub_no {r a : Nat} (x : List Nat) (T : Rs) (h : a ≠ r) : sub r ((a :: x) :: T) = sub r T := by
  have : isHd r (a :: x) = false := by simp [isHd, h]
  simp [sub, this]
theorem sub_map (r : Nat) (T : Rs) : sub r (T.map (r :: ·)) = T := by
  induction T with
  | nil => rfl
  | cons t T ih => rw [List.map_cons, sub_yes, ih]
theorem sub_map_no {r a : Nat} (T : Rs) (h : a ≠ r) : sub r (T.map (a :: ·)) = [] := by
  induction T with
  | nil => rfl
  | cons t T ih => rw [List.map_cons, sub_no _ _ h, ih]
theorem sub_append (r : Nat) (S T : Rs) : sub r (S ++ T) = sub r S ++ sub r T := by simp [sub]
/-- Behind a text that begins with r, in order: none of what is left begins with r. -/
theorem remv_above {r : Nat} {x : List Nat} : ∀ {T : Rs}, ((r :: x) :: T).Pairwise (· < ·) → sub r (remv r T) = []
  | [], _ => rfl
  | t :: T, h => by
    have h1 := List.pairwise_cons.1 h
    have h2 := List.pairwise_cons.1 h1.2
    have h3 := h1.1 t (by simp)
    cases t with
    | nil => exact absurd h3 (by simp)
    | cons s y =>
      by_cases e : s = r
      · subst e
        rw [remv_yes]
        exact remv_above (x := y) h1.2
      · have hno : isHd r (s :: y) = false := by simp [isHd, e]
        rw [remv_no T hno]
        have hs : r < s := by
          rcases List.cons_lt_cons_iff.1 h3 with h4 | ⟨h4, _⟩
          · exact h4
          · exact absurd h4.symm e
        rw [List.eq_nil_iff_forall_not_mem]
        intro z hz
        have hz' := mem_sub.1 hz
        rcases List.mem_cons.1 hz' with h5 | h5
        · injection h5 with h5; exact e h5.symm
        · have h6 := h2.1 _ h5
          rcases List.cons_lt_cons_iff.1 h6 with h7 | ⟨h7, _⟩ <;> omega
theorem grp_sub {r : Nat} {x : List Nat} {T : Rs} (h : ((r :: x) :: T).Pairwise (· < ·)) : grp r T = sub r T := by
  conv => rhs; rw [grp_remv r T]
  rw [sub_append, sub_map, remv_above h, List.append_nil]
theorem groups_find (r : Nat) : ∀ T : Rs, T.Pairwise (· < ·) → (groups T).find? (fun g => decide (g.1 = r)) = if sub r T = [] then none else some (r, sub r T) := by
  intro T
  induction T using groups_ind with
  | h0 => intro _; rw [groups_nil, sub_nil]; rfl
  | h1 T ih => intro h; rw [groups_emp, sub_emp]; exact ih (List.pairwise_cons.1 h).2
  | h2 a x T ih =>
    intro h
    rw [groups_cons]
    by_cases e : a = r
    · subst e
      rw [sub_yes, if_neg (by simp), grp_sub h]
      simp
    · rw [sub_no _ _ e]
      have hs : sub r T = sub r (remv a T) := by
        conv => lhs; rw [grp_remv a T]
        rw [sub_append, sub_map_no _ e]; rfl
      rw [hs, ← ih ((List.pairwise_cons.1 h).2.sublist (List.dropWhile_sublist _))]
      simp [e]
theorem sub_groups {r : Nat} {T : Rs} (h : T.Pairwise (· < ·)) (hn : sub r T ≠ []) : (r, sub r T) ∈ groups T := by
  have := groups_find r T h
  rw [if_neg hn] at this
  exact List.mem_of_find?_eq_some this
theorem group_sub {T : Rs} (h : T.Pairwise (· < ·)) : ∀ g ∈ groups T, g.2 = sub g.1 T := by
  induction T using groups_ind with
  | h0 => intro g hg; rw [groups_nil] at hg; simp at hg
  | h1 T ih => intro g hg; rw [groups_emp] at hg; rw [sub_emp]; exact ih (List.pairwise_cons.1 h).2 g hg
  | h2 a x T ih =>
    intro g hg
    rw [groups_cons] at hg
    rcases List.mem_cons.1 hg with rfl | hg
    · rw [sub_yes, grp_sub h]
    · have h1 := ih ((List.pairwise_cons.1 h).2.sublist (List.dropWhile_sublist _)) g hg
      have hne : a ≠ g.1 := by
        rintro rfl
        rw [remv_above h] at h1
        exact (mem_groups _ g hg).1 h1
      rw [h1, sub_no _ _ hne]
      conv => rhs; rw [grp_remv a T]
      rw [sub_append, sub_map_no _ hne]; rfl
theorem sub_asc {r : Nat} {T : Rs} (h : T.Pairwise (· < ·)) : (sub r T).Pairwise (· < ·) := by
  by_cases hn : sub r T = []
  · rw [hn]; exact List.Pairwise.nil
  · exact asc_map (r := r) ((groups_sub T _ (sub_groups h hn)) |> fun hs => h.sublist hs)
theorem sub_len (r : Nat) (T : Rs) : (sub r T).length ≤ T.length := by
  unfold sub
  rw [List.length_map]
  exact List.length_filter_le _ _

/-! ### The nodes of words -/
def nodesOf (T : Rs) : List Rs := addN 13 [] T
/-- Words. -/
structure Wd (T : Rs) : Prop where
  ok : okTs T
  short : Short 13 T
  asc : T.Pairwise (· < ·)
  len : T.length ≤ 60
  nn : [] ∉ T
theorem nodesOf_nil : nodesOf [] = [[]] := by
  unfold nodesOf
  rw [addN_new _ _ _ (by simp), groups_nil]
  rfl
theorem nodesOf_head (T : Rs) : ∃ M, nodesOf T = T :: M := by
  unfold nodesOf
  rw [addN_new _ _ _ (by simp)]
  obtain ⟨M, h⟩ := addG_ext 12 (groups T) ([] ++ [T])
  exact ⟨M, by rw [h]; simp⟩
theorem nodesOf_nodup (T : Rs) : (nodesOf T).Nodup := addN_nodup 13 [] T List.nodup_nil
theorem nodesOf_mem (T : Rs) : T ∈ nodesOf T := addN_in 12 [] T
theorem nodesOf_idx (T : Rs) : (nodesOf T).idxOf T = 0 := by
  obtain ⟨M, h⟩ := nodesOf_head T
  rw [h, List.idxOf_cons_self]
theorem nodesOf_closed {T : Rs} (h : Wd T) : ∀ x ∈ nodesOf T, Closed (nodesOf T) x := by
  intro x hx
  by_cases hn : T = []
  · subst hn
    rw [nodesOf_nil] at hx
    simp at hx
    subst hx
    intro g hg
    rw [groups_nil] at hg
    simp at hg
  · exact (addN_closed 13 [] T hn h.short).2 x hx (by simp)
/-- What each node is. -/
structure Nod (T R : Rs) : Prop where
  ok : okTs R
  short : Short 13 R
  asc : R.Pairwise (· < ·)
  len : R.length ≤ 60
  ne : T ≠ [] → R ≠ []
theorem nodesOf_nod {T : Rs} (h : Wd T) : ∀ x ∈ nodesOf T, Nod T x := by
  intro x hx
  have := addN_all (C := Nod T) (fun R hR g hg => by
    have hm := mem_groups R g hg
    have hs := groups_sub R g hg
    refine ⟨fun y hy => (okT_cons.1 (hR.ok _ (hm.2 y hy))).2, fun y hy => ?_, asc_map (hR.asc.sublist hs), ?_, fun _ => hm.1⟩
    · have := hR.short _ (hm.2 y hy)
      simp at this; omega
    · have := hs.length_le
      have := hR.len
      simp at *
      omega) 13 [] T ⟨h.ok, h.short, h.asc, h.len, fun hn => hn⟩ x hx
  rcases this with h1 | h1
  · simp at h1
  · exact h1
theorem nodesOf_size {T : Rs} (h : Wd T) : (nodesOf T).length ≤ 721 := by
  have h1 := addN_size 13 [] T
  have h2 : ∀ (S : Rs), Short 13 S → total S ≤ 12 * S.length := by
    intro S
    induction S with
    | nil => intro _; simp [total_nil]
    | cons t S ih =>
      intro hS
      have := hS t (by simp)
      have := ih (fun u hu => hS u (List.mem_cons_of_mem _ hu))
      rw [total_cons, List.length_cons]
      omega
  have h3 := h2 T h.short
  have h4 := h.len
  unfold nodesOf
  simp at h1
  omega
theorem sub_in {T R : Rs} (h : Wd T) (hR : R ∈ nodesOf T) {r : Nat} (hn : sub r R ≠ []) : sub r R ∈ nodesOf T := nodesOf_closed h R hR _ (sub_groups (nodesOf_nod h R hR).asc hn)
/-- Where an edge leads. -/
theorem edges_find {T R : Rs} (h : Wd T) (hR : R ∈ nodesOf T) (r : Nat) : (edgesOf (nodesOf T) R).find? (fun e => decide (e.1 = r)) = if sub r R = [] then none else some (r, (nodesOf T).idxOf (sub r R)) := by
  unfold edgesOf
  rw [List.find?_map]
  have := groups_find r R (nodesOf_nod h R hR).asc
  have e : ((fun e : Nat × Nat => decide (e.1 = r)) ∘ fun g : Nat × Rs => (g.1, (nodesOf T).idxOf g.2)) = fun g : Nat × Rs => decide (g.1 = r) := rfl
  rw [e, this]
  split <;> rfl
/-- What is behind a text. -/
def after : Rs → List Nat → Rs
  | R, [] => R
  | R, r :: t => after (sub r R) t
theorem mem_after : ∀ (t : List Nat) (R : Rs) (y : List Nat), y ∈ after R t ↔ t ++ y ∈ R
  | [], R, y => by simp [after]
  | r :: t, R, y => by rw [after, mem_after t]; exact mem_sub
theorem after_nil : ∀ t : List Nat, after [] t = []
  | [] => rfl
  | r :: t => by rw [after, sub_nil, after_nil t]
theorem fin_iff {R : Rs} (h : R.Pairwise (· < ·)) : fin R = true ↔ [] ∈ R := by
  unfold fin
  cases R with
  | nil => simp
  | cons t R =>
    simp
    intro e
    exact absurd e (asc_tail h)

end Go.Proofs.Ytepmcfleijiloaa
