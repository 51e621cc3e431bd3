/- Contracts of the reference of chapter 4. -/
import Derived.Test.YtepmcfleijiloaaE3
import Derived.Test.YtepmcfleijiloaaD3
namespace Go.Proofs.Ytepmcfleijiloaa
open Go.RowKit

set_option maxHeartbeats 2000000 in
set_option maxRecDepth 100000 in
/-- inkhornref4.Good -/
theorem c62 (w : World) (lo : Nat) (A : Option Addr) (c : Nat) (xs : List ByteArray) (hx : Strs w lo A c xs) (hs : Small xs) :
    Calls Try.prog 62 #[.slice A xs.length c] w fun e w' => e = .returned (.int .i64 (goodE xs)) ∧ Below w.heap.size w w' := by
  have hl1 := hx.2.1
  have hm1 := hx.2.2
  by_cases h60 : 60 < xs.length
  · have hg : goodE xs = 3 := by unfold goodE; rw [if_pos h60]
    rw [hg]
    clear hg
    go_enter Try.func62, Try.ntmps62
    go_wp2_with fail
    go_ret
    exact ⟨rfl, Below.refl _ _⟩
  · have H60 := Lib.hid h60
    have h60' : (xs.length : Int) ≤ 60 := by omega
    clear h60
    go_enter Try.func62, Try.ntmps62
    go_wp2_with fail
    go_loopw [3] (fun i wr => ∃ k : Nat, k ≤ xs.length ∧ i = .int .i64 k ∧ (xs.take k).all isWord = true ∧ Below w.heap.size w wr) (fun i _ => xs.length - (intOf i).toNat)
    case atStart => exact ⟨0, Nat.zero_le _, rfl, by simp, Below.refl _ _⟩
    case round =>
      obtain ⟨k, hk, rfl, ht, hB⟩ := hrel
      have HT := Lib.hid ht; clear ht
      have HB := Lib.hid hB; clear hB
      by_cases hlt : k < xs.length
      · obtain ⟨b1, o1, rfl, _, hb, hcx⟩ := (hx.ext HB.out).at_ hlt
        obtain ⟨x, hx'⟩ : ∃ x, x = xs[k] := ⟨_, rfl⟩
        rw [← hx'] at hcx
        have HX := Lib.hid hx'; clear hx'
        have hsx : x.size ≤ 1000000 := by rw [HX.out]; exact hs _ (List.getElem_mem _)
        obtain ⟨b, hbw⟩ : ∃ b, b = isWord x := ⟨_, rfl⟩
        have HW := Lib.hid hbw
        clear hbw
        cases b
        · go_wp2_with (go_at_call 94; (with_reducible refine (c94 x _ hsx).mono ?_); rintro e w1 ⟨rfl, hb1⟩; rw [← HW.out])
          go_ret
          have hg : goodE xs = 6 := by
            unfold goodE
            rw [if_neg H60.out, if_pos]
            rw [List.all_eq_false]
            exact ⟨x, by rw [HX.out]; exact List.getElem_mem _, by rw [← HW.out]; simp⟩
          rw [hg]
          exact ⟨rfl, below_ext HB.out hb1⟩
        · go_wp2_with (go_at_call 94; (with_reducible refine (c94 x _ hsx).mono ?_); rintro e w1 ⟨rfl, hb1⟩; rw [← HW.out])
          go_roundw
          case rel =>
            refine ⟨k + 1, by omega, by go_num, ?_, below_ext HB.out hb1⟩
            rw [List.take_succ_eq_append_getElem hlt, List.all_append, HT.out, ← HX.out]
            simp [← HW.out]
          case measure => simp [intOf]; omega
      · obtain rfl : k = xs.length := by omega
        go_wp2_with fail
        go_loopw [4] (fun i wr2 => ∃ k : Nat, 1 ≤ k ∧ (k ≤ xs.length ∨ k = 1) ∧ i = .int .i64 k ∧ Hid (∀ i, (h : i + 1 < xs.length) → i + 1 < k → cmpB (xs[i]'(by omega)) (xs[i + 1]'h) < 0) ∧ Drawn wr wr2) (fun i _ => xs.length - (intOf i).toNat)
        case atStart => exact ⟨1, by omega, .inr rfl, rfl, Lib.hid fun i h h2 => by omega, Drawn.refl _⟩
        case round =>
          clear hlt hk
          obtain ⟨k, hk1, hk2, rfl, HT2, ⟨n, rfl⟩⟩ := hrel
          by_cases hlt : k < xs.length
          · obtain ⟨b1, o1, rfl, _, hb, hcx⟩ := (hx.ext HB.out).all (by omega)
            have hcx1 : wr.cell? ⟨b1, o1 + (k - 1), none⟩ = some (.string (xs[k - 1]'(by omega))) := hcx (k - 1) (by omega)
            have hcx2 : wr.cell? ⟨b1, o1 + k, none⟩ = some (.string (xs[k]'hlt)) := hcx k hlt
            clear hcx
            obtain ⟨x, hx'⟩ : ∃ x, x = xs[k - 1]'(by omega) := ⟨_, rfl⟩
            obtain ⟨y, hy'⟩ : ∃ y, y = xs[k] := ⟨_, rfl⟩
            rw [← hx'] at hcx1
            rw [← hy'] at hcx2
            have HX := Lib.hid hx'
            have HY := Lib.hid hy'
            have hsx : x.size ≤ 1000000 := by rw [hx']; exact hs _ (List.getElem_mem _)
            have hsy : y.size ≤ 1000000 := by rw [hy']; exact hs _ (List.getElem_mem _)
            clear hx' hy'
            by_cases hc : cmpB x y < 0
            · have g : decide ((0 : Int) ≤ Lib.compareBytes x.data.toList y.data.toList) = false := by unfold cmpB at hc; simp; omega
              have HC := Lib.hid hc
              clear hc
              go_wp2_with fail
              go_quiet ((go_at_call 81; first | exact quiet_drawn (c81 _ _ _ hsx hsy) | exact quiet_add_drawn (c81 _ _ _ hsx hsy)))
              go_wp2_with fail
              go_roundw
              case rel =>
                refine ⟨k + 1, by omega, .inl (by omega), by go_num, Lib.hid fun i h h2 => ?_, by repeat (first | exact Drawn.refl _ | apply Drawn.step)⟩
                rcases Nat.lt_or_ge (i + 1) k with h3 | h3
                · exact HT2.out i h h3
                · have e : i = k - 1 := by omega
                  subst e
                  have h4 := HC.out
                  rw [HX.out, HY.out] at h4
                  have e2 : k - 1 + 1 = k := by omega
                  simpa [e2] using h4
              case measure => simp [intOf]; omega
            · have g : decide ((0 : Int) ≤ Lib.compareBytes x.data.toList y.data.toList) = true := by unfold cmpB at hc; simp; omega
              have HC := Lib.hid hc
              clear hc
              go_wp2_with fail
              go_quiet ((go_at_call 81; first | exact quiet_drawn (c81 _ _ _ hsx hsy) | exact quiet_add_drawn (c81 _ _ _ hsx hsy)))
              go_wp2_with fail
              go_ret
              have hr : risesB xs = false := by
                cases h : risesB xs
                · rfl
                · have := (risesB_at xs).1 h (k - 1) (by omega)
                  have e2 : k - 1 + 1 = k := by omega
                  simp only [e2] at this
                  rw [← HX.out, ← HY.out] at this
                  have := HC.out
                  omega
              have hg : goodE xs = 7 := by
                unfold goodE
                have h1 := HT.out
                rw [List.take_of_length_le (Nat.le_refl _)] at h1
                rw [if_neg H60.out, if_neg (by rw [h1]; simp), if_pos hr]
              rw [hg]
              exact ⟨rfl, HB.out.trans (Drawn.below (by repeat (first | exact Drawn.refl _ | apply Drawn.step)))⟩
          · have hge : xs.length ≤ k := by omega
            clear hlt
            go_wp2_with fail
            go_ret
            have hr : risesB xs = true := (risesB_at xs).2 fun i h => HT2.out i h (by omega)
            have hg : goodE xs = 0 := by
              unfold goodE
              have h1 := HT.out
              rw [List.take_of_length_le (Nat.le_refl _)] at h1
              rw [if_neg H60.out, if_neg (by rw [h1]; simp), if_neg (by rw [hr]; simp)]
            rw [hg]
            exact ⟨rfl, HB.out.trans (Drawn.below (by repeat (first | exact Drawn.refl _ | apply Drawn.step)))⟩


set_option maxHeartbeats 2000000 in
set_option maxRecDepth 100000 in
/-- inkhornref4.At -/
theorem c68 (w : World) (lo : Nat) (A : Option Addr) (c : Nat) (xs : List ByteArray) (y : ByteArray) (hx : Strs w lo A c xs) (hr : Rises xs) (hs : Small xs) (hy : y.size ≤ 1000000) (hn : xs.length ≤ 1000000) :
    Calls Try.prog 68 #[.slice A xs.length c, .string y] w fun e w' => e = .returned (.tuple #[.int .i64 (below xs y), .bool (inB xs y)]) ∧ Drawn w w' := by
  have hl1 := hx.2.1
  have hm1 := hx.2.2
  have HBA := Lib.hid (below_at hr y)
  have HMA := Lib.hid (mem_at hr y)
  clear hr
  have HBL := below_le xs y
  obtain ⟨b, hb⟩ : ∃ b, b = below xs y := ⟨_, rfl⟩
  rw [← hb] at HBL ⊢
  obtain ⟨m, hm⟩ : ∃ m, m = inB xs y := ⟨_, rfl⟩
  rw [← hm]
  have HBE := Lib.hid hb
  have HME := Lib.hid hm
  clear hb hm
  go_enter Try.func68, Try.ntmps68
  go_wp2_with fail
  go_loopw [6, 7] (fun n i wr => ∃ k : Nat, k ≤ xs.length ∧ i = .int .i64 k ∧ n = .int .i64 (min k b : Nat) ∧ Hid (∀ j, (h : j < xs.length) → j < k → xs[j] ≠ y) ∧ Drawn w wr) (fun _ i _ => xs.length - (intOf i).toNat)
  case atStart => exact ⟨0, by omega, rfl, by simp, Lib.hid fun j h h2 => by omega, Drawn.refl _⟩
  case round =>
    obtain ⟨k, hk, rfl, rfl, HN, ⟨n, rfl⟩⟩ := hrel
    by_cases hlt : k < xs.length
    · obtain ⟨b1, o1, rfl, _, hb1, hcx⟩ := hx.at_ hlt
      have hba := HBA.out k hlt
      obtain ⟨x, hx'⟩ : ∃ x, x = xs[k] := ⟨_, rfl⟩
      have hsx : x.size ≤ 1000000 := by rw [hx']; exact hs _ (List.getElem_mem _)
      rw [← hx'] at hcx hba
      have HX := Lib.hid hx'
      clear hx'
      rw [← HBE.out] at hba
      by_cases hxy : x = y
      · have g : (x.toList == y.toList) = true := by simp [hxy]
        have hkb : min k b = b := by
          have h2 : ¬ k < b := fun h => by have := hba.2 h; rw [hxy] at this; exact cmpB_irrefl y this
          omega
        have hmt : m = true := by
          rw [HME.out]
          rw [inB_iff, ← hxy, HX.out]
          exact List.getElem_mem _
        subst hmt
        clear hba hxy
        rw [hkb]
        clear hkb
        go_wp2_with fail
        go_ret2
        exact ⟨rfl, _, rfl⟩
      · have g : (x.toList == y.toList) = false := by rw [data_ext] at hxy; simpa using hxy
        have HXY := Lib.hid hxy
        clear hxy
        by_cases hc : k < b
        · have hc2 := hba.2 hc
          have g2 : decide (Lib.compareBytes x.data.toList y.data.toList < 0) = true := by unfold cmpB at hc2; simpa using hc2
          have hk2 : min k b = k := by omega
          rw [hk2]
          clear hba hc2 hk2
          go_wp2_with fail
          (with_reducible refine (c81 _ _ _ hsx hy).mono ?_); rintro e w' ⟨rfl, n2, rfl⟩
          go_wp2_with fail
          go_roundw
          case rel =>
            refine ⟨k + 1, by omega, by go_num, ?_, Lib.hid fun j h h2 => ?_, ⟨_, rfl⟩⟩
            · rw [show min (k + 1) b = k + 1 by omega]; rfl
            · rcases Nat.lt_or_ge j k with h3 | h3
              · exact HN.out j h h3
              · obtain rfl : j = k := by omega
                rw [← HX.out]; exact HXY.out
          case measure => simp [intOf]; omega
        · have hc2 : ¬ cmpB x y < 0 := fun h => hc (hba.1 h)
          have g2 : decide (Lib.compareBytes x.data.toList y.data.toList < 0) = false := by unfold cmpB at hc2; simp; omega
          have hk2 : min k b = b := by omega
          rw [hk2]
          clear hba hc2 hk2
          go_wp2_with fail
          (with_reducible refine (c81 _ _ _ hsx hy).mono ?_); rintro e w' ⟨rfl, n2, rfl⟩
          go_wp2_with fail
          go_roundw
          case rel =>
            refine ⟨k + 1, by omega, by go_num, ?_, Lib.hid fun j h h2 => ?_, ⟨_, rfl⟩⟩
            · rw [show min (k + 1) b = b by omega]
            · rcases Nat.lt_or_ge j k with h3 | h3
              · exact HN.out j h h3
              · obtain rfl : j = k := by omega
                rw [← HX.out]; exact HXY.out
          case measure => simp [intOf]; omega
    · have hk2 : min k b = b := by omega
      rw [hk2]
      have hmf : m = false := by
        rw [HME.out]
        cases h : inB xs y
        · rfl
        · obtain ⟨j, hj, e⟩ := List.getElem_of_mem ((inB_iff xs y).1 h)
          exact absurd e (HN.out j hj (by omega))
      subst hmf
      clear hk2
      go_wp2_with fail
      go_ret2
      exact ⟨rfl, _, rfl⟩

end Go.Proofs.Ytepmcfleijiloaa
