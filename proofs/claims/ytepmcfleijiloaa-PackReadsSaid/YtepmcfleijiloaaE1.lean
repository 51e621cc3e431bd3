/- Contracts of package list. -/
import Derived.Test.YtepmcfleijiloaaC1
import Derived.Test.YtepmcfleijiloaaP2
namespace Go.Proofs.Ytepmcfleijiloaa
open Go.RowKit

/-- Texts of no more than so many bytes. -/
def Small (xs : List ByteArray) : Prop := ∀ x ∈ xs, x.size ≤ 1000000

set_option maxHeartbeats 2000000 in
set_option maxRecDepth 100000 in
/-- list.Good -/
theorem c61 (w : World) (lo : Nat) (A : Option Addr) (c : Nat) (xs : List ByteArray) (hx : Strs w lo A c xs) (hs : Small xs) :
    Calls Try.prog 61 #[.slice A xs.length c] w fun e w' => e = .returned (.int .i64 (goodE xs)) ∧ Below w.heap.size w w' := by
  have hl1 := hx.2.1
  have hm1 := hx.2.2
  by_cases h60 : 60 < xs.length
  · have hg : goodE xs = 3 := by unfold goodE; rw [if_pos h60]
    rw [hg]
    clear hg
    go_enter Try.func61, Try.ntmps61
    go_wp2_with fail
    go_ret
    exact ⟨rfl, Below.refl _ _⟩
  · have H60 := Lib.hid h60
    have h60' : (xs.length : Int) ≤ 60 := by omega
    clear h60
    go_enter Try.func61, Try.ntmps61
    go_wp2_with fail
    go_loopw [11] (fun i wr => ∃ k : Nat, k ≤ xs.length ∧ i = .int .i64 k ∧ (xs.take k).all isWord = true ∧ Below w.heap.size w wr) (fun i _ => xs.length - (intOf i).toNat)
    case atStart => exact ⟨0, Nat.zero_le _, rfl, by simp, Below.refl _ _⟩
    case round =>
      obtain ⟨k, hk, rfl, ht, hB⟩ := hrel
      have HT := Lib.hid ht; clear ht
      have HB := Lib.hid hB; clear hB
      by_cases hlt : k < xs.length
      · obtain ⟨b1, o1, rfl, _, hb, hcx⟩ := (hx.ext HB.out).at_ hlt
        obtain ⟨x, hx'⟩ : ∃ x, x = xs[k] := ⟨_, rfl⟩
        rw [← hx'] at hcx
        have HX := Lib.hid hx'; clear hx'
        have hsx : x.size ≤ 1000000 := by rw [HX.out]; exact hs _ (List.getElem_mem _)
        obtain ⟨b, hbw⟩ : ∃ b, b = isWord x := ⟨_, rfl⟩
        have HW := Lib.hid hbw
        clear hbw
        cases b
        · go_wp2_with (go_at_call 36; (with_reducible refine (c36 x _ (by omega)).mono ?_); rintro e w1 ⟨rfl, hb1⟩; rw [← HW.out])
          go_ret
          have hg : goodE xs = 6 := by
            unfold goodE
            rw [if_neg H60.out, if_pos]
            rw [List.all_eq_false]
            exact ⟨x, by rw [HX.out]; exact List.getElem_mem _, by rw [← HW.out]; simp⟩
          rw [hg]
          exact ⟨rfl, below_ext HB.out hb1⟩
        · go_wp2_with (go_at_call 36; (with_reducible refine (c36 x _ (by omega)).mono ?_); rintro e w1 ⟨rfl, hb1⟩; rw [← HW.out])
          go_roundw
          case rel =>
            refine ⟨k + 1, by omega, by go_num, ?_, below_ext HB.out hb1⟩
            rw [List.take_succ_eq_append_getElem hlt, List.all_append, HT.out, ← HX.out]
            simp [← HW.out]
          case measure => simp [intOf]; omega
      · obtain rfl : k = xs.length := by omega
        go_wp2_with fail
        go_loopw [5] (fun i wr2 => ∃ k : Nat, 1 ≤ k ∧ (k ≤ xs.length ∨ k = 1) ∧ i = .int .i64 k ∧ Hid (∀ i, (h : i + 1 < xs.length) → i + 1 < k → cmpB (xs[i]'(by omega)) (xs[i + 1]'h) < 0) ∧ Drawn wr wr2) (fun i _ => xs.length - (intOf i).toNat)
        case atStart => exact ⟨1, by omega, .inr rfl, rfl, Lib.hid fun i h h2 => by omega, Drawn.refl _⟩
        case round =>
          clear hlt hk
          obtain ⟨k, hk1, hk2, rfl, HT2, ⟨n, rfl⟩⟩ := hrel
          by_cases hlt : k < xs.length
          · obtain ⟨b1, o1, rfl, _, hb, hcx⟩ := (hx.ext HB.out).all (by omega)
            have hcx1 : wr.cell? ⟨b1, o1 + (k - 1), none⟩ = some (.string (xs[k - 1]'(by omega))) := hcx (k - 1) (by omega)
            have hcx2 : wr.cell? ⟨b1, o1 + k, none⟩ = some (.string (xs[k]'hlt)) := hcx k hlt
            clear hcx
            obtain ⟨x, hx'⟩ : ∃ x, x = xs[k - 1]'(by omega) := ⟨_, rfl⟩
            obtain ⟨y, hy'⟩ : ∃ y, y = xs[k] := ⟨_, rfl⟩
            rw [← hx'] at hcx1
            rw [← hy'] at hcx2
            have HX := Lib.hid hx'
            have HY := Lib.hid hy'
            clear hx' hy'
            by_cases hc : cmpB x y < 0
            · have g : decide ((0 : Int) ≤ Lib.compareBytes x.data.toList y.data.toList) = false := by unfold cmpB at hc; simp; omega
              have HC := Lib.hid hc
              clear hc
              go_wp2_with fail
              go_quiet ((go_at_call 65; first | exact quiet_left (c65 _ _ _) | exact quiet_add_left (c65 _ _ _)))
              go_wp2_with fail
              go_roundw
              case rel =>
                refine ⟨k + 1, by omega, .inl (by omega), by go_num, Lib.hid fun i h h2 => ?_, by repeat (first | exact Drawn.refl _ | apply Drawn.step)⟩
                rcases Nat.lt_or_ge (i + 1) k with h3 | h3
                · exact HT2.out i h h3
                · have e : i = k - 1 := by omega
                  subst e
                  have h4 := HC.out
                  rw [HX.out, HY.out] at h4
                  have e2 : k - 1 + 1 = k := by omega
                  simpa [e2] using h4
              case measure => simp [intOf]; omega
            · have g : decide ((0 : Int) ≤ Lib.compareBytes x.data.toList y.data.toList) = true := by unfold cmpB at hc; simp; omega
              have HC := Lib.hid hc
              clear hc
              go_wp2_with fail
              go_quiet ((go_at_call 65; first | exact quiet_left (c65 _ _ _) | exact quiet_add_left (c65 _ _ _)))
              go_wp2_with fail
              go_ret
              have hr : risesB xs = false := by
                cases h : risesB xs
                · rfl
                · have := (risesB_at xs).1 h (k - 1) (by omega)
                  have e2 : k - 1 + 1 = k := by omega
                  simp only [e2] at this
                  rw [← HX.out, ← HY.out] at this
                  have := HC.out
                  omega
              have hg : goodE xs = 7 := by
                unfold goodE
                have h1 := HT.out
                rw [List.take_of_length_le (Nat.le_refl _)] at h1
                rw [if_neg H60.out, if_neg (by rw [h1]; simp), if_pos hr]
              rw [hg]
              exact ⟨rfl, HB.out.trans (Drawn.below (by repeat (first | exact Drawn.refl _ | apply Drawn.step)))⟩
          · have hge : xs.length ≤ k := by omega
            clear hlt
            go_wp2_with fail
            go_ret
            have hr : risesB xs = true := (risesB_at xs).2 fun i h => HT2.out i h (by omega)
            have hg : goodE xs = 0 := by
              unfold goodE
              have h1 := HT.out
              rw [List.take_of_length_le (Nat.le_refl _)] at h1
              rw [if_neg H60.out, if_neg (by rw [h1]; simp), if_neg (by rw [hr]; simp)]
            rw [hg]
            exact ⟨rfl, HB.out.trans (Drawn.below (by repeat (first | exact Drawn.refl _ | apply Drawn.step)))⟩

set_option maxHeartbeats 1000000 in
set_option maxRecDepth 100000 in
/-- What a binary search comes to at w: every text ahead of the place is below w, none from it on. -/
theorem c77 (w : World) (lo : Nat) (A : Option Addr) (c : Nat) (xs : List ByteArray) (y : ByteArray) (hx : Strs w lo A c xs) (hr : Rises xs) (hn : xs.length ≤ 1000000) :
    Calls Try.prog 77 #[.slice A xs.length c, .string y, .func (.func 65) #[] #[]] w fun e w' => e = .returned (.tuple #[.int .i64 (below xs y), .bool (inB xs y)]) ∧ Drawn w w' := by
  have hl1 := hx.2.1
  have hm1 := hx.2.2
  have HBA := Lib.hid (below_at hr y)
  have HBL := below_le xs y
  have HMA := Lib.hid (mem_at hr y)
  obtain ⟨b, hb⟩ : ∃ b, b = below xs y := ⟨_, rfl⟩
  rw [← hb] at HBL ⊢
  obtain ⟨m, hm⟩ : ∃ m, m = inB xs y := ⟨_, rfl⟩
  rw [← hm]
  have HBE := Lib.hid hb
  have HME := Lib.hid hm
  clear hb hm hr
  go_enter Try.func77, Try.ntmps77
  go_wp2_with fail
  go_loopw [9, 10] (fun i j wr => ∃ p q : Nat, i = .int .i64 p ∧ j = .int .i64 q ∧ p ≤ b ∧ b ≤ q ∧ q ≤ xs.length ∧ Drawn w wr) (fun i j _ => (intOf j).toNat - (intOf i).toNat)
  case atStart => exact ⟨0, xs.length, rfl, rfl, by omega, HBL, by omega, Drawn.refl _⟩
  case round =>
    obtain ⟨p, q, rfl, rfl, hpb, hbq, hq, ⟨n, rfl⟩⟩ := hrel
    by_cases hlt : p < q
    · obtain ⟨b1, o1, rfl, _, hb1, hcx⟩ := hx.at_ (k := (p + q) / 2) (by omega)
      have hba := HBA.out ((p + q) / 2) (by omega)
      generalize xs[(p + q) / 2] = x at hcx hba
      rw [← HBE.out] at hba
      by_cases hc : (p + q) / 2 < b
      · have hc2 := hba.2 hc
        have g : decide (Lib.compareBytes x.data.toList y.data.toList < 0) = true := by unfold cmpB at hc2; simpa using hc2
        clear hba hc2
        go_wp2_with fail
        (with_reducible refine (c65 _ _ _).mono ?_); rintro e w' ⟨rfl, rfl⟩
        go_wp2_with fail
        go_roundw
        case rel => exact ⟨(p + q) / 2 + 1, q, by go_num, rfl, by omega, hbq, hq, _, rfl⟩
        case measure => simp [intOf]; omega
      · have hc2 : ¬ cmpB x y < 0 := fun h => hc (hba.1 h)
        have g : decide (Lib.compareBytes x.data.toList y.data.toList < 0) = false := by unfold cmpB at hc2; simp; omega
        clear hba hc2
        go_wp2_with fail
        (with_reducible refine (c65 _ _ _).mono ?_); rintro e w' ⟨rfl, rfl⟩
        go_wp2_with fail
        go_roundw
        case rel => exact ⟨p, (p + q) / 2, rfl, by go_num, hpb, by omega, by omega, _, rfl⟩
        case measure => simp [intOf]; omega
    · obtain rfl : p = b := by omega
      obtain rfl : q = p := by omega
      by_cases hlt2 : q < xs.length
      · obtain ⟨b1, o1, rfl, _, hb1, hcx⟩ := hx.at_ (k := q) hlt2
        obtain ⟨x, hx'⟩ : ∃ x, x = xs[q] := ⟨_, rfl⟩
        rw [← hx'] at hcx
        have HX := Lib.hid hx'
        clear hx'
        have hm2 : m = decide (cmpB x y = 0) := by
          rw [HME.out]
          have h1 := inB_iff xs y
          have h2 := HMA.out
          rw [h2] at h1
          have h3 : (∃ h : below xs y < xs.length, xs[below xs y] = y) ↔ x = y := by
            rw [HX.out]
            have e := HBE.out
            constructor
            · rintro ⟨h, h4⟩; simpa only [e] using h4
            · intro h4; exact ⟨by omega, by simpa only [e] using h4⟩
          rw [h3, ← cmpB_eq] at h1
          cases hib : inB xs y
          · rw [hib] at h1; exact (decide_eq_false (fun h => by simpa using h1.2 h)).symm
          · exact (decide_eq_true (h1.1 hib)).symm
        have HM2 := Lib.hid hm2
        clear hm2
        have g : decide (Lib.compareBytes x.data.toList y.data.toList = 0) = m := HM2.out.symm
        have G := Lib.hid g
        clear g
        go_wp2_with fail
        (with_reducible refine (c65 _ _ _).mono ?_); rintro e w' ⟨rfl, rfl⟩
        go_wp2_with fail
        go_ret2
        refine ⟨?_, _, rfl⟩
        rw [← G.out]
        rfl
      · have hm2 : m = false := by
          rw [HME.out]
          have h1 := inB_iff xs y
          rw [HMA.out] at h1
          cases hib : inB xs y
          · rfl
          · obtain ⟨h, _⟩ := h1.1 hib
            have := HBE.out
            omega
        subst hm2
        have hge : xs.length ≤ q := by omega
        clear hlt2
        go_wp2_with fail
        go_ret2
        exact ⟨rfl, _, rfl⟩

set_option maxHeartbeats 400000 in
/-- list.At -/
theorem c41 (w : World) (lo : Nat) (A : Option Addr) (c : Nat) (xs : List ByteArray) (y : ByteArray) (hx : Strs w lo A c xs) (hr : Rises xs) (hn : xs.length ≤ 1000000) :
    Calls Try.prog 41 #[.slice A xs.length c, .string y] w fun e w' => e = .returned (.tuple #[.int .i64 (below xs y), .bool (inB xs y)]) ∧ Drawn w w' := by
  go_enter Try.func41, Try.ntmps41
  go_wp2_with fail
  (with_reducible refine (c77 _ _ _ _ _ _ hx hr hn).mono ?_); rintro e w' ⟨rfl, hd⟩
  go_wp2_with fail
  go_ret2
  exact ⟨rfl, hd⟩

end Go.Proofs.Ytepmcfleijiloaa
