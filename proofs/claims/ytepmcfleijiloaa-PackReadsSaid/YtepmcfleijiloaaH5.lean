/- Contract of graph.Build. -/
import Derived.Test.YtepmcfleijiloaaH4
import Derived.Test.YtepmcfleijiloaaE1
import Derived.Test.YtepmcfleijiloaaP8
set_option linter.unusedVariables false
namespace Go.Proofs.Ytepmcfleijiloaa
open Go.RowKit

/-- Words as runes; their nodes; their graph. -/
def textsOf (xs : List ByteArray) : Rs := xs.map fun s => runes s 0
def graphOf (T : Rs) : List Nd := (nodesOf T).map (ndOf (nodesOf T))
theorem word_ok {s : ByteArray} (h : isWord s = true) : txt (runes s 0) = s ∧ okT (runes s 0) ∧ 1 ≤ (runes s 0).length ∧ (runes s 0).length ≤ 12 := by
  have h1 : 1 ≤ rlen s ∧ rlen s ≤ 12 := of_decide_eq_true h
  have h2 : 65533 ∉ runes s 0 := by
    intro h3
    unfold rlen at h1
    rw [if_pos h3] at h1
    omega
  have h3 : okRunes s = true := decide_eq_true h2
  obtain ⟨h4, h5⟩ := txt_runes s h3
  unfold rlen at h1
  rw [if_neg h2] at h1
  exact ⟨h4, h5, by omega, by omega⟩
structure Wds (xs : List ByteArray) : Prop where
  txt : (textsOf xs).map txt = xs
  ok : okTs (textsOf xs)
  short : Short 13 (textsOf xs)
  asc : (textsOf xs).Pairwise (· < ·)
  len : xs.length ≤ 60
  nn : [] ∉ textsOf xs
theorem total_le : ∀ (T : Rs) (d : Nat), Short (d + 1) T → total T ≤ d * T.length
  | [], d, _ => by simp [total_nil]
  | t :: T, d, h => by
    have h1 := h t (by simp)
    have h2 := total_le T d (fun u hu => h u (List.mem_cons_of_mem _ hu))
    rw [total_cons, List.length_cons, Nat.mul_add]
    omega
theorem Wds.of_good {xs : List ByteArray} (h : goodE xs = 0) : Wds xs := by
  obtain ⟨h1, h2, h3⟩ := goodE_zero h
  have e : (textsOf xs).map Ytepmcfleijiloaa.txt = xs := by
    unfold textsOf
    rw [List.map_map]
    conv => rhs; rw [← List.map_id xs]
    exact List.map_congr_left fun s hs => (word_ok (h2 s hs)).1
  refine ⟨e, ?_, ?_, ?_, h1, ?_⟩
  · intro t ht
    obtain ⟨s, hs, rfl⟩ := List.mem_map.1 ht
    exact (word_ok (h2 s hs)).2.1
  · intro t ht
    obtain ⟨s, hs, rfl⟩ := List.mem_map.1 ht
    have := (word_ok (h2 s hs)).2.2.2
    show (runes s 0).length < 13
    omega
  · unfold textsOf
    rw [List.pairwise_map]
    refine List.Pairwise.imp_of_mem ?_ h3
    intro a b ha hb hab
    have ka := word_ok (h2 a ha)
    have kb := word_ok (h2 b hb)
    rw [← ka.1, ← kb.1] at hab
    exact (txt_lt ka.2.1 kb.2.1).1 hab
  · intro hm
    obtain ⟨s, hs, e⟩ := List.mem_map.1 hm
    have := (word_ok (h2 s hs)).2.2.1
    rw [e] at this
    simp at this
theorem Wds.okR {xs : List ByteArray} (h : Wds xs) (hn : xs ≠ []) : OkR 13 (textsOf xs) := by
  have hl : (textsOf xs).length = xs.length := by simp [textsOf]
  have h1 := total_le _ 12 h.short
  have h2 := h.len
  refine ⟨?_, h.ok, h.short, h.asc, by omega, by omega⟩
  intro e
  rw [e] at hl
  exact hn (List.length_eq_zero_iff.1 hl.symm)

theorem GraphW.low {w : World} {lo lo2 : Nat} {v : Value} {ns : List Nd} (h : GraphW w lo v ns) (hl : lo2 ≤ lo) : GraphW w lo2 v ns := by
  obtain ⟨g, A, c, cs, h1, h2, h3, h4, h5, h6, h7, h8⟩ := h
  refine ⟨g, A, c, cs, h1, by omega, h3, h4, h5, h6.wide hl (Nat.le_refl _), h7, fun i k1 k2 => ?_⟩
  obtain ⟨A, c, e, h⟩ := h8 i k1 k2
  exact ⟨A, c, e, h.low hl⟩
theorem GraphW.of_bst {w : World} {B : Nat} {p : Value} {N : List Rs} {cs : List (Value × Value)} (h : Bst w B p N cs) (hnd : ∀ i (_ : i < cs.length) (h2 : i < N.length), ∃ lo ex, B ≤ lo ∧ NodeS w lo ex cs[i] (ndOf N N[i])) :
    ∃ pb gb, p = .pointer (some ⟨pb, 0, none⟩) ∧ w.cell? ⟨pb, 0, none⟩ = some (.pointer (some ⟨gb, 0, none⟩)) ∧ GraphW w B (.pointer (some ⟨gb, 0, none⟩)) (N.map (ndOf N)) := by
  obtain ⟨pb, gb, mb, v, rfl, h2, h3, h4, h5, h6, h7, h8, h9⟩ := h
  obtain ⟨A, c, rfl, hc1, hc2⟩ := own_slice h9
  refine ⟨pb, gb, rfl, by rw [cell_of_row _ _ _ _ _ _ h5]; rfl, gb, A, c, cs, rfl, h3, ?_, ?_, hc2, Rd.of_own h9, by simp [h8], ?_⟩
  · simpa using h6
  · simpa using hc1
  · intro i hi hi2
    obtain ⟨lo, ex, hlo, hn⟩ := hnd i hi2 (by omega)
    rw [List.getElem_map]
    exact (hn.low hlo (ex2 := none) (fun k _ _ => by simp)).nodeV

/-- Nothing is built. -/
def wEmpty (w1 : World) : World := ((w1.alloc (.cells #[.slice none 0 0] 88)).alloc (.map #[] 0)).alloc (.cells #[.pointer (some ⟨w1.heap.size, 0, none⟩), .map (some (w1.heap.size + 1))] 91)
theorem wEmpty_size (w1 : World) : (wEmpty w1).heap.size = w1.heap.size + 3 := by simp [wEmpty]
theorem wEmpty_below (w1 : World) : Below w1.heap.size w1 (wEmpty w1) := (((Below.refl _ _).alloc (Nat.le_refl _) _).alloc (by simp) _).alloc (by simp; omega) _
theorem wEmpty_bst (w1 : World) : Bst (wEmpty w1) w1.heap.size (.pointer (some ⟨w1.heap.size + 1 + 1, 0, none⟩)) [] [] := by
  refine ⟨w1.heap.size + 1 + 1, w1.heap.size, w1.heap.size + 1, .slice none 0 0, rfl, by omega, by omega, by omega, ?_, ?_, ?_, rfl, World.ownsRow_nil _ _ _ _⟩
  · have := heap_alloc_new ((w1.alloc (.cells #[.slice none 0 0] 88)).alloc (.map #[] 0)) (.cells #[.pointer (some ⟨w1.heap.size, 0, none⟩), .map (some (w1.heap.size + 1))] 91)
    simpa [wEmpty] using this
  · have := heap_alloc_new w1 (.cells #[.slice none 0 0] 88)
    unfold wEmpty
    rw [Below.heap_alloc _ _ _ (by simp; omega), Below.heap_alloc _ _ _ (by simp)]
    exact this
  · have := World.ownsMap_made (w1.alloc (.cells #[.slice none 0 0] 88)) Try.prog 9 (plainElem (H := Unit) Try.prog 3)
    have h2 := this.alloc (.cells #[.pointer (some ⟨w1.heap.size, 0, none⟩), .map (some (w1.heap.size + 1))] 91)
    simp only [World.size_alloc] at h2
    exact h2
theorem graphOf_nil : graphOf [] = [(false, [])] := by
  have h : nodesOf [] = [[]] := by
    unfold nodesOf
    rw [addN_new _ _ _ (by simp), groups_nil]
    rfl
  unfold graphOf
  rw [h]
  simp [ndOf, fin, edgesOf, groups_nil]
theorem graphW_one (w1 : World) : GraphW (((((w1.alloc (.cells #[.slice (some ⟨w1.heap.size + 1 + 1 + 1, 0, none⟩) 1 1] 88)).alloc (.map #[] 0)).alloc (.cells #[.pointer (some ⟨w1.heap.size, 0, none⟩), .map (some (w1.heap.size + 1))] 91))).alloc (.cells #[.bool false, .slice none 0 0] 93))
    w1.heap.size (.pointer (some ⟨w1.heap.size, 0, none⟩)) [(false, [])] := by
  refine ⟨w1.heap.size, some ⟨w1.heap.size + 1 + 1 + 1, 0, none⟩, 1, [(.bool false, .slice none 0 0)], rfl, Nat.le_refl _, ?_, by simp, by omega, ?_, rfl, ?_⟩
  · have := heap_alloc_new w1 (.cells #[.slice (some ⟨w1.heap.size + 1 + 1 + 1, 0, none⟩) 1 1] 88)
    rw [Below.heap_alloc _ _ _ (by simp; omega), Below.heap_alloc _ _ _ (by simp; omega), Below.heap_alloc _ _ _ (by simp)]
    exact this
  · have := Rd.two (((w1.alloc (.cells #[.slice (some ⟨w1.heap.size + 1 + 1 + 1, 0, none⟩) 1 1] 88)).alloc (.map #[] 0)).alloc (.cells #[.pointer (some ⟨w1.heap.size, 0, none⟩), .map (some (w1.heap.size + 1))] 91)) (.bool false) (.slice none 0 0) 93
    simp only [World.size_alloc] at this
    exact this.wide (by omega) (by simp)
  · intro i h h2
    have : i = 0 := by simpa using h
    subst this
    exact ⟨none, 0, rfl, Edgs.nil_ _ _ _ _ (by omega)⟩

/-- The words are laid into a builder that is new. -/
theorem build_node (w w1 : World) (A : Option Addr) (c : Nat) (xs : List ByteArray) (hx : Strs w 0 A c xs) (hb : Below w.heap.size w w1) (hw : Wds xs) (hr : OkR 13 (textsOf xs)) :
    Calls Try.prog 72 #[.pointer (some ⟨w1.heap.size + 1 + 1, 0, none⟩), .slice A xs.length c] (((w1.alloc (.cells #[.slice none 0 0] 88)).alloc (.map #[] 0)).alloc (.cells #[.pointer (some ⟨w1.heap.size, 0, none⟩), .map (some (w1.heap.size + 1))] 91))
      fun e w' => ∃ (gb n : Nat), e = .returned (.int .i64 n) ∧ GraphW w' w1.heap.size (.pointer (some ⟨gb, 0, none⟩)) (graphOf (textsOf xs)) ∧ w'.cell? ⟨w1.heap.size + 1 + 1, 0, none⟩ = some (.pointer (some ⟨gb, 0, none⟩)) ∧ Below w.heap.size w w' := by
  have hl : (textsOf xs).length = xs.length := by simp [textsOf]
  have hlt : ∀ a, A = some a → a.block < w.heap.size := by
    intro a ha
    obtain ⟨b, o, e, h1, h2, h3⟩ := hx.1 (by rw [strv_len, ← hl]; exact List.length_pos_iff.2 hr.ne)
    rw [ha] at e
    cases e
    exact h2
  have hb2 : Below w.heap.size w (wEmpty w1) := below_ext hb (wEmpty_below w1)
  have h := (c72 w1.heap.size 13).call (wEmpty w1) (.pointer (some ⟨w1.heap.size + 1 + 1, 0, none⟩)) [] [] A c xs.length (textsOf xs) hl.symm hr (by rw [wEmpty_size]; omega) (wEmpty_bst w1) (by simp) List.nodup_nil (by have := hr.tot; simp; omega)
    (by rw [hw.txt]; exact hx.ext hb2) (fun a ha => by
      have h1 := hlt a ha
      have h2 : a.block < (wEmpty w1).heap.size := by have := hb2.size; omega
      exact ⟨_, Array.getElem?_eq_getElem h2, .inl (by have := hb.size; omega)⟩)
  refine h.mono ?_
  rintro e w' ⟨more, rfl, hst, hnd, hk⟩
  have hB : w1.heap.size ≤ (wEmpty w1).heap.size := by rw [wEmpty_size]; omega
  obtain ⟨pb, gb, hp, hc, hg⟩ := GraphW.of_bst hst (fun i hi h2 => ⟨(wEmpty w1).heap.size, none, hB, by simpa using hnd i (by simpa using hi) (by simpa using h2)⟩)
  cases hp
  exact ⟨gb, _, rfl, hg, hc, hb2.trans ((hk.below hB).mono hb.size)⟩

set_option maxHeartbeats 2000000 in
set_option maxRecDepth 100000 in
/-- graph.Build -/
theorem c25 (w : World) (A : Option Addr) (c : Nat) (xs : List ByteArray) (hx : Strs w 0 A c xs) (hsm : Small xs) :
    Calls Try.prog 25 #[.slice A xs.length c] w fun e w' => ∃ p, e = .returned (.tuple #[p, .int .i64 (goodE xs)]) ∧ (goodE xs ≠ 0 → p = .pointer none) ∧ (goodE xs = 0 → GraphW w' w.heap.size p (graphOf (textsOf xs))) ∧ Below w.heap.size w w' := by
  have hl1 := hx.2.1
  have hl2 := hx.2.2
  obtain ⟨g, hg⟩ : ∃ g, g = goodE xs := ⟨_, rfl⟩
  rw [← hg]
  have HX := Lib.hid hx
  have HG := Lib.hid hg
  clear hx hg
  by_cases h0 : g = 0
  · subst h0
    have HW := Lib.hid (Wds.of_good HG.out.symm)
    by_cases hn : xs = []
    · subst hn
      have h61 := c61 w 0 A c [] HX.out hsm
      rw [List.length_nil, ← HG.out] at h61
      have hmm := @run_makeMap Try.prog
      have H61 := Lib.hid h61
      clear h61
      go_enter Try.func25, Try.ntmps25
      go_wp2_with fail
      (with_reducible refine H61.out.mono ?_); rintro e w1 ⟨rfl, hb⟩
      have HB := Lib.hid hb
      clear hb
      go_wp2_with fail
      go_ret2
      refine ⟨_, rfl, fun h => absurd rfl h, fun _ => ?_, ?_⟩
      · rw [show textsOf [] = [] from rfl, graphOf_nil]
        exact (graphW_one w1).low HB.out.size
      · exact below_ext HB.out (((((Below.refl _ _).alloc (Nat.le_refl _) _).alloc (by simp) _).alloc (by simp; omega) _).alloc (by simp; omega) _)
    · have HR := Lib.hid (HW.out.okR hn)
      have hlp : 0 < xs.length := List.length_pos_iff.2 hn
      have hl60 := HW.out.len
      have hmm := @run_makeMap Try.prog
      have h61 := c61 w 0 A c xs HX.out hsm
      rw [← HG.out] at h61
      have H61 := Lib.hid h61
      clear h61 hn
      go_enter Try.func25, Try.ntmps25
      go_wp2_with fail
      (with_reducible refine H61.out.mono ?_); rintro e w1 ⟨rfl, hb⟩
      have HB := Lib.hid hb
      clear hb
      have hne : ((xs.length : Int) == 0) = false := beq_eq_false_iff_ne.2 (by omega)
      go_wp2_with fail
      (with_reducible refine (build_node w w1 A c xs HX.out HB.out HW.out HR.out).mono ?_); rintro e w2 ⟨gb, nn, rfl, hgw, hcell, hb2⟩
      have HGW := Lib.hid hgw
      have HB2 := Lib.hid hb2
      clear hgw hb2
      go_wp2_with fail
      go_ret2
      exact ⟨_, rfl, fun h => absurd rfl h, fun _ => HGW.out.low HB.out.size, HB2.out⟩
  · have hg : (g != 0) = true := by simpa using h0
    have h61 := c61 w 0 A c xs HX.out hsm
    rw [← HG.out] at h61
    have H61 := Lib.hid h61
    have H0 := Lib.hid h0
    clear h61 h0
    go_enter Try.func25, Try.ntmps25
    go_wp2_with fail
    (with_reducible refine H61.out.mono ?_); rintro e w1 ⟨rfl, hb⟩
    go_wp2_with fail
    go_ret2
    exact ⟨_, rfl, fun _ => rfl, fun h => absurd h H0.out, hb⟩

end Go.Proofs.Ytepmcfleijiloaa
