/- The least graph of words, plain: what a step of the builder leaves. No program here. -/
import Derived.Test.YtepmcfleijiloaaP6
namespace Go.Proofs.Ytepmcfleijiloaa

/-- Rests that may be asked for. -/
def OkN (T : Rs) : Prop := T ≠ [] ∧ okTs T
structure OkR (d : Nat) (T : Rs) : Prop where
  ne : T ≠ []
  ok : okTs T
  short : Short d T
  asc : T.Pairwise (· < ·)
  len : T.length ≤ 1000
  tot : total T ≤ 100000
/-- A node of the graph N. -/
def ndOf (N : List Rs) (R : Rs) : Bool × List (Nat × Nat) := (fin R, edgesOf N R)

theorem not_lt_nil (t : List Nat) : ¬ t < [] := by simp
theorem asc_tail {t : List Nat} {T : Rs} (h : (t :: T).Pairwise (· < ·)) : [] ∉ T := fun hm => not_lt_nil _ ((List.pairwise_cons.1 h).1 [] hm)
theorem groups_sub : ∀ (T : Rs) (g : Nat × Rs), g ∈ groups T → (g.2.map (g.1 :: ·)).Sublist T := by
  intro T
  induction T using groups_ind with
  | h0 => intro g hg; rw [groups_nil] at hg; simp at hg
  | h1 T ih => intro g hg; rw [groups_emp] at hg; exact (ih g hg).cons _
  | h2 r x T ih =>
    intro g hg
    rw [groups_cons] at hg
    rcases List.mem_cons.1 hg with rfl | hg
    · simp only [List.map_cons]
      refine List.Sublist.cons_cons _ ?_
      conv => rhs; rw [grp_remv r T]
      exact List.sublist_append_left _ _
    · exact ((ih g hg).trans (List.dropWhile_sublist _)).cons _
theorem total_sub {S T : Rs} (h : S.Sublist T) : total S ≤ total T := by
  induction h with
  | slnil => simp
  | cons a _ ih => rw [total_cons]; omega
  | cons_cons a _ ih => rw [total_cons, total_cons]; omega
theorem asc_map {r : Nat} {T : Rs} (h : (T.map (r :: ·)).Pairwise (· < ·)) : T.Pairwise (· < ·) := by
  rw [List.pairwise_map] at h
  refine h.imp ?_
  intro a b hab
  rcases List.cons_lt_cons_iff.1 hab with h | ⟨_, h⟩
  · omega
  · exact h
theorem OkR.group {d : Nat} {T : Rs} (h : OkR (d + 1) T) {g : Nat × Rs} (hg : g ∈ groups T) : OkR d g.2 ∧ okR g.1 := by
  have hm := mem_groups T g hg
  have hs := groups_sub T g hg
  have h1 := hs.length_le
  have h2 := total_sub hs
  rw [total_add] at h2
  simp only [List.length_map] at h1
  refine ⟨⟨hm.1, fun y hy => (okT_cons.1 (h.ok _ (hm.2 y hy))).2, h.short.group hg, asc_map (h.asc.sublist hs), by have := h.len; omega, by have := h.tot; omega⟩, ?_⟩
  cases e : g.2 with
  | nil => exact absurd e hm.1
  | cons y ys => exact (okT_cons.1 (h.ok _ (hm.2 y (by rw [e]; simp)))).1
theorem OkN.group {T : Rs} (h : OkN T) {g : Nat × Rs} (hg : g ∈ groups T) : OkN g.2 := by
  have hm := mem_groups T g hg
  exact ⟨hm.1, fun y hy => (okT_cons.1 (h.2 _ (hm.2 y hy))).2⟩
theorem OkR.okN {d : Nat} {T : Rs} (h : OkR d T) : OkN T := ⟨h.ne, h.ok⟩

/-- Where the texts that begin with r end. -/
theorem take_exit {r : Nat} : ∀ (T : Rs) (k : Nat), (∀ t ∈ T.take k, isHd r t = true) → (∀ h : k < T.length, isHd r T[k] = false) → T.take k = T.takeWhile (isHd r) ∧ T.drop k = remv r T
  | [], k, _, _ => by simp [remv_nil]
  | t :: T, 0, _, h => by
    have h1 : isHd r t = false := h (by simp)
    rw [remv_no T h1]
    simp [h1]
  | t :: T, k + 1, h, h2 => by
    have h1 : isHd r t = true := h t (by simp)
    obtain ⟨h3, h4⟩ := take_exit T k (fun u hu => h u (by simp [hu])) (fun hk => by have := h2 (by simpa using hk); rwa [List.getElem_cons_succ] at this)
    obtain ⟨x, rfl⟩ := isHd_iff.1 h1
    rw [remv_yes]
    simp [isHd_cons, h3, h4]

/-! ### A step -/
section
variable {d : Nat} {N : List Rs} {T : Rs} {done rest : List (Nat × Rs)} {g : Nat × Rs}
theorem st_nodup (hd : N.Nodup) (hm : T ∉ N) : (addG d (N ++ [T]) done).Nodup := by
  refine addG_nodup_of (addN_nodup d) _ _ ?_
  rw [List.nodup_append]
  exact ⟨hd, by simp, fun a ha b hb => by simp at hb; subst hb; rintro rfl; exact hm ha⟩
theorem st_okN (hN : ∀ x ∈ N, OkN x) (hT : OkR (d + 1) T) (he : groups T = done ++ rest) : ∀ x ∈ addG d (N ++ [T]) done, OkN x := by
  intro x hx
  rcases addG_all_of (C := OkN) (addN_all (fun R hR g hg => hR.group hg) d) done (N ++ [T]) (fun g hg => hT.okN.group (by rw [he]; exact List.mem_append_left _ hg)) x hx with h | h
  · rcases List.mem_append.1 h with h | h
    · exact hN x h
    · simp at h; subst h; exact hT.okN
  · exact h
theorem st_size (he : groups T = done ++ g :: rest) : (addG d (N ++ [T]) done).length + 1 + total g.2 ≤ N.length + 1 + total T := by
  have h1 := addG_size_of (addN_size d) done (N ++ [T])
  have h2 := groups_total T
  rw [he, List.map_append, List.sum_append, List.map_cons, List.sum_cons] at h2
  simp at h1
  omega
theorem st_len (he : groups T = done ++ rest) : (addG d (N ++ [T]) done).length ≤ N.length + 1 + total T := by
  have h1 := addG_size_of (addN_size d) done (N ++ [T])
  have h2 := groups_total T
  rw [he, List.map_append, List.sum_append] at h2
  simp at h1
  omega
theorem st_closed (hT : OkR (d + 1) T) (he : groups T = done ++ rest) : (∀ g ∈ done, g.2 ∈ addG d (N ++ [T]) done) ∧ ∀ x ∈ addG d (N ++ [T]) done, x ∉ N ++ [T] → Closed (addG d (N ++ [T]) done) x :=
  addG_closed_of (addN_closed d) done (N ++ [T]) fun g hg => by
    have := hT.group (g := g) (by rw [he]; exact List.mem_append_left _ hg)
    exact ⟨this.1.ne, this.1.short⟩
/-- The edges of the groups that are done. -/
def edgD (C : List Rs) (done : List (Nat × Rs)) : List (Nat × Nat) := done.map fun g => (g.1, C.idxOf g.2)
theorem edgD_len (C : List Rs) (done : List (Nat × Rs)) : (edgD C done).length = done.length := by simp [edgD]
theorem st_edges (hT : OkR (d + 1) T) (he : groups T = done ++ rest) (B : Rs) : edgD (addN d (addG d (N ++ [T]) done) B) done = edgD (addG d (N ++ [T]) done) done := by
  obtain ⟨M, hM⟩ := addN_ext d (addG d (N ++ [T]) done) B
  rw [hM]
  unfold edgD
  exact List.map_congr_left fun g hg => by rw [idx_more ((st_closed hT he).1 g hg)]
theorem st_node (hd : N.Nodup) (hm : T ∉ N) (hT : OkR (d + 1) T) (he : groups T = done ++ rest) (B : Rs) (i : Nat) (h1 : N.length + 1 ≤ i) (h2 : i < (addG d (N ++ [T]) done).length) (h3 : i < (addN d (addG d (N ++ [T]) done) B).length) :
    ndOf (addN d (addG d (N ++ [T]) done) B) (addN d (addG d (N ++ [T]) done) B)[i] = ndOf (addG d (N ++ [T]) done) (addG d (N ++ [T]) done)[i] := by
  have hnd : (addG d (N ++ [T]) done).Nodup := st_nodup hd hm
  have hcl := (st_closed (N := N) hT he).2
  obtain ⟨M0, hM0⟩ := addG_ext d done (N ++ [T])
  obtain ⟨M, hM⟩ := addN_ext d (addG d (N ++ [T]) done) B
  generalize hC : addG d (N ++ [T]) done = C at *
  have e : (addN d C B)[i] = C[i] := by
    simp only [hM]
    rw [List.getElem_append_left h2]
  rw [e]
  unfold ndOf
  congr 1
  rw [hM]
  refine edgesOf_more M (hcl _ (List.getElem_mem _) (fun hin => ?_))
  subst hM0
  rw [List.nodup_append] at hnd
  rw [List.getElem_append_right (by simp; omega)] at hin
  exact hnd.2.2 _ hin _ (List.getElem_mem _) rfl
end
theorem addG_snoc (d : Nat) (N : List Rs) (done : List (Nat × Rs)) (g : Nat × Rs) : addG d N (done ++ [g]) = addN d (addG d N done) g.2 := by
  rw [addG_append, addG_cons, addG_nil]
theorem edgD_snoc (C : List Rs) (done : List (Nat × Rs)) (g : Nat × Rs) : edgD C (done ++ [g]) = edgD C done ++ [(g.1, C.idxOf g.2)] := by simp [edgD]
theorem edgD_all (C : List Rs) (T : Rs) : edgD C (groups T) = edgesOf C T := rfl

end Go.Proofs.Ytepmcfleijiloaa
