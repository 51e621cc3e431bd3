/- Words behind one beginning: the law that GraphPut asks. -/
import Derived.Test.YtepmcfleijiloaaP8
set_option linter.unusedVariables false
set_option linter.unusedSimpArgs false
namespace Go.Proofs.Ytepmcfleijiloaa

theorem addG_pre_of {C : Rs → Prop} {d : Nat} (ih : ∀ N0 N R, (∀ x ∈ N0, ¬ C x) → C R → addN d (N0 ++ N) R = N0 ++ addN d N R) :
    ∀ (gs : List (Nat × Rs)) (N0 N : List Rs), (∀ x ∈ N0, ¬ C x) → (∀ g ∈ gs, C g.2) → addG d (N0 ++ N) gs = N0 ++ addG d N gs
  | [], N0, N, _, _ => rfl
  | g :: gs, N0, N, h0, h => by
    rw [addG_cons, addG_cons, ih N0 N g.2 h0 (h g (by simp)), addG_pre_of ih gs N0 _ h0 (fun g hg => h g (by simp [hg]))]
/-- Lists that nothing reaches stay in front. -/
theorem addN_pre {C : Rs → Prop} (hC : ∀ R, C R → ∀ g ∈ groups R, C g.2) : ∀ (d : Nat) (N0 N : List Rs) (R : Rs), (∀ x ∈ N0, ¬ C x) → C R → addN d (N0 ++ N) R = N0 ++ addN d N R
  | 0, N0, N, R, h0, h => rfl
  | d + 1, N0, N, R, h0, h => by
    by_cases hR : R ∈ N
    · rw [addN_old d N R hR, addN_old d _ R (by simp [hR])]
    · rw [addN_new d N R hR, addN_new d _ R (by simp only [List.mem_append, not_or]; exact ⟨fun h2 => h0 R h2 h, hR⟩), List.append_assoc]
      exact addG_pre_of (addN_pre hC d) (groups R) N0 _ h0 (hC R h)

theorem addG_fuel_of {d e : Nat} (ih : ∀ N R, R ≠ [] → Short d R → addN e N R = addN d N R) : ∀ (gs : List (Nat × Rs)) (N : List Rs), (∀ g ∈ gs, g.2 ≠ [] ∧ Short d g.2) → addG e N gs = addG d N gs
  | [], N, _ => rfl
  | g :: gs, N, h => by
    rw [addG_cons, addG_cons, ih N g.2 (h g (by simp)).1 (h g (by simp)).2, addG_fuel_of ih gs _ (fun g hg => h g (by simp [hg]))]
/-- Depth enough is enough. -/
theorem addN_fuel : ∀ (d e : Nat) (N : List Rs) (R : Rs), d ≤ e → R ≠ [] → Short d R → addN e N R = addN d N R
  | 0, e, N, R, _, hn, h => by have := h.pos hn; omega
  | d + 1, 0, N, R, he, hn, h => by omega
  | d + 1, e + 1, N, R, he, hn, h => by
    by_cases hR : R ∈ N
    · rw [addN_old d N R hR, addN_old e N R hR]
    · rw [addN_new d N R hR, addN_new e N R hR]
      exact addG_fuel_of (fun N R hn hs => addN_fuel d e N R (by omega) hn hs) _ _ fun g hg => ⟨(mem_groups R g hg).1, h.group hg⟩

theorem remv_map (r : Nat) (T : Rs) : remv r (T.map (r :: ·)) = [] := by
  induction T with
  | nil => rfl
  | cons t T ih => rw [List.map_cons, remv_yes, ih]
theorem grp_map (r : Nat) (T : Rs) : grp r (T.map (r :: ·)) = T := by
  induction T with
  | nil => rfl
  | cons t T ih => rw [List.map_cons, grp_yes, ih]
theorem groups_map (r : Nat) (T : Rs) (h : T ≠ []) : groups (T.map (r :: ·)) = [(r, T)] := by
  cases T with
  | nil => exact absurd rfl h
  | cons t T => rw [List.map_cons, groups_cons, grp_map, remv_map, groups_nil]
theorem longest : ∀ T : Rs, T ≠ [] → ∃ t ∈ T, ∀ u ∈ T, u.length ≤ t.length
  | [], h => absurd rfl h
  | [t], _ => ⟨t, by simp, by simp⟩
  | t :: u :: T, _ => by
    obtain ⟨v, hv, h⟩ := longest (u :: T) (by simp)
    by_cases hl : v.length ≤ t.length
    · refine ⟨t, by simp, fun x hx => ?_⟩
      rcases List.mem_cons.1 hx with rfl | hx
      · exact Nat.le_refl _
      · exact Nat.le_trans (h x hx) hl
    · refine ⟨v, by simp [hv], fun x hx => ?_⟩
      rcases List.mem_cons.1 hx with rfl | hx
      · omega
      · exact h x hx
theorem short_closed (L : Nat) : ∀ R : Rs, Short L R → ∀ g ∈ groups R, Short L g.2 := fun R h g hg y hy => by
  have := h _ ((mem_groups R g hg).2 y hy)
  simp at this
  omega
/-- One node more for each rune in front. -/
theorem put_len : ∀ (s : List Nat) (d : Nat) (T : Rs), d ≤ 13 → T ≠ [] → Short d (T.map (s ++ ·)) → (addN d [] (T.map (s ++ ·))).length = s.length + (nodesOf T).length
  | [], d, T, hd, hn, h => by
    have e : T.map (([] : List Nat) ++ ·) = T := by simp
    rw [e] at h ⊢
    unfold nodesOf
    rw [addN_fuel d 13 [] T hd hn h]
    simp
  | r :: s, d, T, hd, hn, h => by
    have hp := h.pos (by simpa using hn)
    obtain ⟨d, rfl⟩ : ∃ e, d = e + 1 := ⟨d - 1, by omega⟩
    have e : T.map ((r :: s) ++ ·) = (T.map (s ++ ·)).map (r :: ·) := by rw [List.map_map]; rfl
    have hn' : T.map (s ++ ·) ≠ [] := by simpa using hn
    have hs : Short d (T.map (s ++ ·)) := fun y hy => by
      have := h (r :: y) (by rw [e]; exact List.mem_map.2 ⟨y, hy, rfl⟩)
      simp at this
      exact this
    obtain ⟨t, ht, hl⟩ := longest _ hn'
    rw [e, addN_new d [] _ (by simp), groups_map r _ hn', addG_cons, addG_nil]
    have hpre := addN_pre (C := Short (t.length + 1)) (short_closed _) d [(T.map (s ++ ·)).map (r :: ·)] [] (T.map (s ++ ·))
      (fun x hx hc => by
        rw [List.mem_singleton.1 hx] at hc
        have := hc (r :: t) (List.mem_map.2 ⟨t, ht, rfl⟩)
        simp at this)
      (fun u hu => by have := hl u hu; omega)
    rw [List.append_nil] at hpre
    show (addN d [(T.map (s ++ ·)).map (r :: ·)] (T.map (s ++ ·))).length = _
    rw [hpre, List.length_append, put_len s d T (by omega) hn hs]
    simp
    omega

end Go.Proofs.Ytepmcfleijiloaa
