/- Contracts of the reference of chapter 8: Build, Final, Edges. -/
import Derived.Test.YtepmcfleijiloaaJ3
import Derived.Test.YtepmcfleijiloaaH8
import Derived.Test.YtepmcfleijiloaaF1
set_option linter.unusedVariables false
namespace Go.Proofs.Ytepmcfleijiloaa
open Go.RowKit

/-- The reference's graph of nodes N. -/
def RefG (w : World) (p : Value) (N : List Rs) : Prop :=
  ∃ g A c cs, p = .pointer (some ⟨g, 0, none⟩) ∧ w.heap[g]? = some (.cells #[.slice A N.length c] 38 (0, 0)) ∧ N.length ≤ c ∧ c ≤ 9223372036854775807 ∧ Rd w 0 w.heap.size A (flat cs) ∧ cs.length = N.length ∧
    ∀ i (_ : i < cs.length) (_ : i < N.length), ∃ A1 c1 A2 c2, cs[i] = (.slice A1 N[i].length c1, .slice A2 (edgesOf N N[i]).length c2) ∧ Strs w 0 A1 c1 (N[i].map txt) ∧ Edgs w 0 A2 c2 (edgesOf N N[i])
theorem RefG.ext {w w' : World} {p : Value} {N : List Rs} (h : RefG w p N) (hb : Below w.heap.size w w') : RefG w' p N := by
  obtain ⟨g, A, c, cs, h1, h2, h3, h4, h5, h6, h7⟩ := h
  refine ⟨g, A, c, cs, h1, (hb.block g (Array.getElem?_eq_some_iff.1 h2).1).trans h2, h3, h4, h5.ext hb, h6, fun i k1 k2 => ?_⟩
  obtain ⟨A1, c1, A2, c2, e, s1, s2⟩ := h7 i k1 k2
  exact ⟨A1, c1, A2, c2, e, s1.ext hb, s2.ext hb⟩
theorem RefG.of {w : World} {B : Nat} {p : Value} {N : List Rs} {cs : List (Value × Value)} (h : Rst w B p N cs) (hnd : ∀ i (_ : i < cs.length) (_ : i < N.length), ∃ lo ex b, NodeS w lo ex (.bool b, cs[i].2) (ndOf N N[i])) : RefG w p N := by
  obtain ⟨gb, v, rfl, h2, h3, h4, h5, h6⟩ := h
  obtain ⟨A, c, rfl, hc1, hc2⟩ := own_slice h5
  refine ⟨gb, A, c, cs, rfl, h3, hc1, hc2, (Rd.of_own h5).wide (Nat.zero_le _) (Nat.le_refl _), h4, fun i k1 k2 => ?_⟩
  obtain ⟨A1, c1, e1, s1⟩ := h6 i k1 k2
  obtain ⟨lo, ex, b, A2, c2, e2, s2, s3, s4⟩ := hnd i k1 k2
  refine ⟨A1, c1, A2, c2, ?_, s1.1, s2.rd.wide (Nat.zero_le _) (Nat.le_refl _), s3, s4⟩
  exact Prod.ext e1 (Prod.mk.inj e2).2

theorem ref_build (w w1 : World) (A : Option Addr) (c : Nat) (xs : List ByteArray) (hx : Strs w 0 A c xs) (hb : Below w.heap.size w w1) (hw : Wds xs) :
    Calls Try.prog 73 #[.pointer (some ⟨w1.heap.size, 0, none⟩), .slice A xs.length c] (w1.alloc (.cells #[.slice none 0 0] 38)) fun e w' => ∃ n : Nat, e = .returned (.int .i64 n) ∧ RefG w' (.pointer (some ⟨w1.heap.size, 0, none⟩)) (nodesOf (textsOf xs)) ∧ Below w.heap.size w w' := by
  have hl : xs.length = (textsOf xs).length := by simp [textsOf]
  have hb2 : Below w.heap.size w (w1.alloc (.cells #[.slice none 0 0] 38)) := below_ext hb ((Below.refl _ _).alloc (Nat.le_refl _) _)
  have hq : OkQ 13 (textsOf xs) := by
    have h1 := total_le _ 12 hw.short
    have h2 := hw.len
    exact ⟨hw.ok, hw.short, hw.asc, by omega, by omega⟩
  have h := ref_any w1.heap.size 12 (c73 _ 12) (w1.alloc (.cells #[.slice none 0 0] 38)) (.pointer (some ⟨w1.heap.size, 0, none⟩)) [] [] A c xs.length (textsOf xs) hl hq (by simp)
    ⟨w1.heap.size, .slice none 0 0, rfl, Nat.le_refl _, heap_alloc_new w1 _, rfl, World.ownsRow_nil _ _ _ _, fun i h => by simp at h⟩ (by simp) List.nodup_nil (by have := hq.tot; simp; omega) (by rw [hw.txt]; exact StrS.of_strs hx hb2 hb.size)
  refine h.mono ?_
  rintro e w' ⟨more, rfl, hst, hnd, hk⟩
  refine ⟨_, rfl, (RefG.of hst (fun i hi h2 => ⟨_, _, _, by simpa using hnd i (by simpa using hi) (by simpa using h2)⟩) : RefG w' _ (addN (12 + 1) [] (textsOf xs))), ?_⟩
  exact hb2.trans ((hk.below (by simp)).mono hb.size)

set_option maxHeartbeats 1000000 in
set_option maxRecDepth 100000 in
/-- inkhornref8.Build -/
theorem c26 (w : World) (A : Option Addr) (c : Nat) (xs : List ByteArray) (hx : Strs w 0 A c xs) (hsm : Small xs) :
    Calls Try.prog 26 #[.slice A xs.length c] w fun e w' => ∃ p, e = .returned (.tuple #[p, .int .i64 (goodE xs)]) ∧ (goodE xs ≠ 0 → p = .pointer none) ∧ (goodE xs = 0 → RefG w' p (nodesOf (textsOf xs))) ∧ Below w.heap.size w w' := by
  have hl1 := hx.2.1
  have hl2 := hx.2.2
  obtain ⟨g, hg⟩ : ∃ g, g = goodE xs := ⟨_, rfl⟩
  have h62 := c62 w 0 A c xs hx hsm
  rw [← hg] at h62 ⊢
  have HX := Lib.hid hx
  have HG := Lib.hid hg
  have H62 := Lib.hid h62
  clear hx hg h62
  by_cases h0 : g = 0
  · subst h0
    have HW := Lib.hid (Wds.of_good HG.out.symm)
    go_enter Try.func26, Try.ntmps26
    go_wp2_with fail
    (with_reducible refine H62.out.mono ?_); rintro e w1 ⟨rfl, hb⟩
    have HB := Lib.hid hb
    clear hb
    go_wp2_with fail
    (with_reducible refine (ref_build w w1 A c xs HX.out HB.out HW.out).mono ?_); rintro e w2 ⟨n, rfl, hg, hb2⟩
    have HGR := Lib.hid hg
    have HB2 := Lib.hid hb2
    clear hg hb2
    go_wp2_with fail
    go_ret2
    exact ⟨_, rfl, fun h => absurd rfl h, fun _ => HGR.out, HB2.out⟩
  · have hg : (g != 0) = true := by simpa using h0
    have H0 := Lib.hid h0
    clear h0
    go_enter Try.func26, Try.ntmps26
    go_wp2_with fail
    (with_reducible refine H62.out.mono ?_); rintro e w1 ⟨rfl, hb⟩
    go_wp2_with fail
    go_ret2
    exact ⟨_, rfl, fun _ => rfl, fun h => absurd h H0.out, hb⟩

set_option maxHeartbeats 1000000 in
set_option maxRecDepth 100000 in
/-- The reference's Final -/
theorem c32 (w : World) (p : Value) (N : List Rs) (n : Int) (h : RefG w p N) (b : Bool) (hb : b = (nodeOf (N.map (ndOf N)) n).1) (hN : ∀ R ∈ N, okTs R) :
    Calls Try.prog 32 #[p, .int .i64 n] w fun e w' => e = .returned (.bool b) ∧ w = w' := by
  obtain ⟨g, A, c, cs, rfl, h2, h3, h4, h5, h6, h7⟩ := h
  have kg : w.cell? ⟨g, 0, none⟩ = some (.slice A N.length c) := by rw [cell_of_row _ _ _ _ _ _ h2]; rfl
  by_cases hin : 0 ≤ n ∧ n < N.length
  · have h1 : 0 ≤ n := hin.1
    have h2' : n < N.length := hin.2
    have b1 : decide (0 ≤ n) = true := by simp; omega
    have b2 : decide (n < (N.length : Int)) = true := by simp; omega
    obtain ⟨m, rfl⟩ : ∃ m : Nat, n = m := ⟨n.toNat, by omega⟩
    have hm : m < N.length := by omega
    rw [nodeOf_in (by simpa using hm), List.getElem_map] at hb
    obtain ⟨A1, c1, A2, c2, e, s1, s2⟩ := h7 m (by omega) hm
    have hf := flat_at cs m (by omega)
    rw [e] at hf
    obtain ⟨b', o, rfl, _, hbl, hc⟩ := h5 (by rw [flat_len]; omega)
    have k1 := hc _ _ hf.1
    rw [Nat.mul_comm] at k1
    simp only at k1
    have hok := hN _ (List.getElem_mem hm)
    obtain ⟨R, hR⟩ : ∃ R, R = N[m] := ⟨_, rfl⟩
    have hb' : b = fin R := by rw [hR]; exact hb
    rw [← hR] at k1 s1 hok
    have hs1 := s1.2.1
    have hs2 := s1.2.2
    rw [List.length_map] at hs1
    clear hc hf e h7 h5 h2 hb hin s2 hR
    rcases R with _ | ⟨t, R⟩
    · subst hb'
      clear s1
      go_enter Try.func32, Try.ntmps32
      go_wp2_with fail
      go_ret
      exact ⟨rfl, rfl⟩
    · obtain ⟨b2', o2, rfl, _, _, hc2⟩ := s1.at_ (k := 0) (by simp)
      have hcr : w.cell? ⟨b2', o2, none⟩ = some (.string (txt t)) := by simpa using hc2
      have hl0 : decide (0 < ((t :: R).length : Int)) = true := by simp
      rw [fin_empty] at hb'
      have HB := Lib.hid hb'
      clear hb' hc2 s1
      go_enter Try.func32, Try.ntmps32
      go_wp2_with fail
      go_ret
      rw [HB.out]
      exact ⟨rfl, rfl⟩
  · rw [nodeOf_out (by simpa using hin)] at hb
    subst hb
    by_cases h1 : n < 0
    · have b1 : decide (0 ≤ n) = false := by simp; omega
      clear hin h7 h5 h2
      go_enter Try.func32, Try.ntmps32
      go_wp2_with fail
      go_ret
      exact ⟨rfl, rfl⟩
    · have b1 : decide (0 ≤ n) = true := by simp; omega
      have h1' : 0 ≤ n := by omega
      have b2 : decide (n < (N.length : Int)) = false := by simp; omega
      clear hin h7 h5 h2 h1
      go_enter Try.func32, Try.ntmps32
      go_wp2_with fail
      go_ret
      exact ⟨rfl, rfl⟩

set_option maxHeartbeats 1000000 in
set_option maxRecDepth 100000 in
/-- The reference's Edges -/
theorem c34 (w : World) (p : Value) (N : List Rs) (n : Int) (h : RefG w p N) (es : List (Nat × Nat)) (he : es = (nodeOf (N.map (ndOf N)) n).2) (hl : es.length ≤ 1000000) :
    Calls Try.prog 34 #[p, .int .i64 n] w fun e w' => ∃ r, e = .returned r ∧ w'.ownsRow w.heap.size 49 2 r es.length (edgv es) ∧ Below w.heap.size w w' := by
  obtain ⟨g, A, c, cs, rfl, h2, h3, h4, h5, h6, h7⟩ := h
  have kg : w.cell? ⟨g, 0, none⟩ = some (.slice A N.length c) := by rw [cell_of_row _ _ _ _ _ _ h2]; rfl
  by_cases hin : 0 ≤ n ∧ n < N.length
  · have h1 : 0 ≤ n := hin.1
    have h2' : n < N.length := hin.2
    have b1 : decide (n < 0) = false := by simp; omega
    have b2 : decide ((N.length : Int) ≤ n) = false := by simp; omega
    obtain ⟨m, rfl⟩ : ∃ m : Nat, n = m := ⟨n.toNat, by omega⟩
    have hm : m < N.length := by omega
    rw [nodeOf_in (by simpa using hm), List.getElem_map] at he
    obtain ⟨A1, c1, A2, c2, e, s1, s2⟩ := h7 m (by omega) hm
    have hf := flat_at cs m (by omega)
    rw [e] at hf
    obtain ⟨b, o, rfl, _, hb, hc⟩ := h5 (by rw [flat_len]; omega)
    have k2 := hc _ _ hf.2
    rw [← Nat.add_assoc, Nat.mul_comm] at k2
    simp only at k2
    have he2 : es = edgesOf N N[m] := he
    rw [← he2] at k2 s2
    have hs1 := s2.2.1
    have hs2 := s2.2.2
    have HE := Lib.hid s2
    clear hc hf e s1 s2 h7 h5 h2 he he2 hin
    go_enter Try.func34, Try.ntmps34
    go_wp2_with (first
      | (at_builtin
         refine wpList_append_rd infoE rfl (.const (.slice none 0 0)) (.tmp 23) rfl w.heap.size (.slice none 0 0) 0 [] rfl (World.ownsRow_nil _ _ _ _) 0 w.heap.size A2 es.length c2 (edgv es) rfl HE.out.1 (edgv_len es) (edgv_one es) (by omega) (Nat.le_refl _) ?_
         intro v1 w1 hown1 hg1 hat1
         have X : Hid (w1.ownsRow w.heap.size 49 2 v1 es.length (edgv es) ∧ Below w.heap.size w w1) := ⟨by simpa using hown1, (Below.refl w.heap.size w).grown hg1 (Nat.le_refl _) (by simp [Value.ownBlock])⟩
         clear hown1 hg1 hat1))
    go_ret
    exact ⟨v1, rfl, X.out.1, X.out.2⟩
  · rw [nodeOf_out (by simpa using hin)] at he
    subst he
    by_cases h1 : n < 0
    · clear hin h7 h5 h2
      go_enter Try.func34, Try.ntmps34
      go_wp2_with fail
      go_ret
      exact ⟨_, rfl, World.ownsRow_nil _ _ _ _, Below.refl _ _⟩
    · have b1 : decide (n < 0) = false := by simp; omega
      have h1' : 0 ≤ n := by omega
      have b2 : (N.length : Int) ≤ n := by omega
      clear hin h7 h5 h2 h1
      go_enter Try.func34, Try.ntmps34
      go_wp2_with fail
      go_ret
      exact ⟨_, rfl, World.ownsRow_nil _ _ _ _, Below.refl _ _⟩

end Go.Proofs.Ytepmcfleijiloaa
