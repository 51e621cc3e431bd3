/- Contracts of the reference of chapter 1: Len, Word, Compare. -/
import Derived.Test.YtepmcfleijiloaaD2
namespace Go.Proofs.Ytepmcfleijiloaa
open Go.RowKit

set_option maxHeartbeats 1000000 in
/-- inkhornref1.Len -/
theorem c114 (s : ByteArray) (w : World) (hs : s.size ≤ 1000000) :
    Calls Try.prog 114 #[.string s] w fun e w' => e = .returned (.int .i64 (rlen s)) ∧ Below w.heap.size w w' := by
  obtain ⟨k, hk⟩ : ∃ k, k = okRunes s := ⟨_, rfl⟩
  have HK := Lib.hid hk
  cases k
  all_goals
    clear hk
    go_enter Try.func114, Try.ntmps114
    go_wp2_with (first
      | (go_at_call 101; refine (c101 s _ hs).mono ?_; rintro e w1 ⟨v, rfl, hown, hb⟩
         obtain ⟨A, c, rfl, hc1, hc2⟩ := own_slice hown
         have hl := gotRunes_len s
         rw [← HK.out]; clear hown))
    go_ret
    refine ⟨?_, hb⟩
  · rw [rlen_bad s HK.out.symm]; rfl
  · rw [rlen_ok s HK.out.symm]; rfl

set_option maxHeartbeats 1000000 in
/-- inkhornref1.Word -/
theorem c94 (s : ByteArray) (w : World) (hs : s.size ≤ 1000000) :
    Calls Try.prog 94 #[.string s] w fun e w' => e = .returned (.bool (isWord s)) ∧ Below w.heap.size w w' := by
  have hr := rlen_le s
  by_cases h1 : 1 ≤ rlen s
  · go_enter Try.func94, Try.ntmps94
    go_wp2_with fail
    refine (c114 s _ hs).mono ?_
    rintro e w1 ⟨rfl, hb⟩
    go_wp2_with fail
    refine (c114 s _ hs).mono ?_
    rintro e w2 ⟨rfl, hb2⟩
    go_wp2_with fail
    go_ret
    refine ⟨?_, below_ext hb hb2⟩
    unfold isWord
    simp [h1]
  · have : isWord s = false := by unfold isWord; simp; omega
    rw [this]
    clear this
    have h2 : rlen s < 1 := by omega
    clear h1
    go_enter Try.func94, Try.ntmps94
    go_wp2_with fail
    refine (c114 s _ hs).mono ?_
    rintro e w1 ⟨rfl, hb⟩
    go_wp2_with fail
    go_ret
    exact ⟨rfl, hb⟩

set_option maxHeartbeats 2000000 in
set_option maxRecDepth 100000 in
/-- inkhornref1.Compare -/
theorem c81 (a b : ByteArray) (w : World) (ha : a.size ≤ 1000000) (hb : b.size ≤ 1000000) :
    Calls Try.prog 81 #[.string a, .string b] w fun e w' => e = .returned (.int .i64 (Lib.compareBytes a.data.toList b.data.toList)) ∧ Drawn w w' := by
  go_enter Try.func81, Try.ntmps81
  go_wp2
  go_loopw [5] (fun i wr => ∃ k : Nat, Drawn w wr ∧ k ≤ a.size ∧ k ≤ b.size ∧ i = .int .i64 k ∧ Lib.compareBytes a.data.toList b.data.toList = Lib.compareBytes (a.data.toList.drop k) (b.data.toList.drop k)) (fun i _ => a.size - (intOf i).toNat)
  case atStart => exact ⟨0, Drawn.refl _, by omega, by omega, rfl, by simp⟩
  case round =>
    obtain ⟨k, hdr, hka, hkb, rfl, he⟩ := hrel
    by_cases h : k < a.size ∧ k < b.size
    · obtain ⟨h1, h2⟩ := h
      have hd := cmp_drop a b k h1 h2
      have e1 := byt_at a k h1
      have e2 := byt_at b k h2
      rw [hd] at he
      clear hd
      have HE := Lib.hid he
      clear he
      generalize byt a k = x at *
      generalize byt b k = y at *
      have hcase : x < y ∨ y < x ∨ x = y := by omega
      rcases hcase with hxy | hxy | hxy
      · have f1 : decide ((x : Int) < (y : Int)) = true := by simp; omega
        go_wp2
        repeat (go_quiet (fail); try go_wp2)
        go_ret
        rw [HE.out, if_pos hxy]
        exact ⟨rfl, by repeat (first | assumption | apply Drawn.step)⟩
      · have f1 : decide ((x : Int) < (y : Int)) = false := by simp; omega
        have f2 : decide ((y : Int) < (x : Int)) = true := by simp; omega
        go_wp2
        repeat (go_quiet (fail); try go_wp2)
        go_ret
        rw [HE.out, if_neg (by omega), if_pos hxy]
        exact ⟨rfl, by repeat (first | assumption | apply Drawn.step)⟩
      · subst hxy
        have f1 : decide ((x : Int) < (x : Int)) = false := by simp
        go_wp2
        repeat (go_quiet (fail); try go_wp2)
        go_roundw
        case rel => exact ⟨k + 1, by repeat (first | assumption | apply Drawn.step), by omega, by omega, by go_num, by rw [HE.out, if_neg (by omega), if_neg (by omega)]⟩
        case measure => simp [intOf]; omega
    · have he' := cmp_end a b k hka hkb h
      rw [he'] at he
      have HE := Lib.hid he
      clear he he'
      by_cases h1 : a.size < b.size
      · have g0 : k < b.size := by omega
        have g1 : a.size ≤ k := by omega
        have g1' : decide (k < a.size) = false := by simp; omega
        have f2 : decide (a.size < b.size) = true := by simp; omega
        rw [if_pos h1] at HE
        clear h
        go_wp2
        go_ret
        rw [HE.out]
        exact ⟨rfl, by repeat (first | assumption | apply Drawn.step)⟩
      · have f2 : decide (a.size < b.size) = false := by simp; omega
        have g1 : b.size ≤ k := by omega
        have g1' : decide (k < b.size) = false := by simp; omega
        rw [if_neg h1] at HE
        by_cases h2 : b.size < a.size
        · have f3 : decide (b.size < a.size) = true := by simp; omega
          have g0 : k < a.size := by omega
          rw [if_pos h2] at HE
          clear h
          go_wp2
          go_ret
          rw [HE.out]
          exact ⟨rfl, by repeat (first | assumption | apply Drawn.step)⟩
        · have f3 : decide (b.size < a.size) = false := by simp; omega
          have g0 : a.size ≤ k := by omega
          have g0' : decide (k < a.size) = false := by simp; omega
          rw [if_neg h2] at HE
          clear h
          go_wp2
          go_ret
          rw [HE.out]
          exact ⟨rfl, by repeat (first | assumption | apply Drawn.step)⟩
end Go.Proofs.Ytepmcfleijiloaa
