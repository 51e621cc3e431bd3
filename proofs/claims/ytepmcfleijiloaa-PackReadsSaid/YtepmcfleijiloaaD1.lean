/- Contracts of the reference of chapter 1. -/
import Derived.Test.YtepmcfleijiloaaA0
import Derived.Test.YtepmcfleijiloaaP1
namespace Go.Proofs.Ytepmcfleijiloaa
open Go.RowKit

set_option maxHeartbeats 1000000 in
set_option maxRecDepth 100000 in
theorem c139 (s : ByteArray) (i : Nat) (w : World) :
    Calls Try.prog 139 #[.string s, .int .i64 i] w fun e w' => e = .returned (.tuple #[.int .i32 (moreV s i), .bool (moreK s i)]) ∧ w = w' := by
  by_cases hi : i < s.size
  · have hb := byt_at s i hi
    have hl := byt_lt s i
    have hg : decide ((s.size : Int) ≤ (i : Int)) = false := by simp; omega
    by_cases h1 : byt s i < 128
    · have g1 : decide (((s[i]'hi).toNat : Int) < 128) = true := by rw [hb]; simp; omega
      have e1 : moreV s i = 0 := by unfold moreV; rw [if_neg (by omega)]
      have e2 : moreK s i = false := by unfold moreK; simp; omega
      rw [e1, e2]
      clear hb e1 e2
      go_enter Try.func139, Try.ntmps139
      go_wp2
      go_ret2
      exact ⟨rfl, rfl⟩
    · have g1 : decide (((s[i]'hi).toNat : Int) < 128) = false := by rw [hb]; simp; omega
      by_cases h2 : 191 < byt s i
      · have g2 : decide ((191 : Int) < ((s[i]'hi).toNat : Int)) = true := by rw [hb]; simp; omega
        have e1 : moreV s i = 0 := by unfold moreV; rw [if_neg (by omega)]
        have e2 : moreK s i = false := by unfold moreK; simp; omega
        rw [e1, e2]
        clear hb e1 e2
        go_enter Try.func139, Try.ntmps139
        go_wp2
        go_ret2
        exact ⟨rfl, rfl⟩
      · have g2 : decide ((191 : Int) < ((s[i]'hi).toNat : Int)) = false := by rw [hb]; simp; omega
        have e1 : moreV s i = ((s[i]'hi).toNat : Int) - 128 := by unfold moreV; rw [if_pos (by omega), hb]
        have e2 : moreK s i = true := by unfold moreK; simp; omega
        rw [e1, e2]
        have hl' : ((s[i]'hi).toNat : Int) < 256 := by rw [hb]; omega
        clear hb e1 e2
        go_enter Try.func139, Try.ntmps139
        go_wp2
        go_ret2
        exact ⟨rfl, rfl⟩
  · have e1 : moreV s i = 0 := by unfold moreV; rw [if_neg (by omega)]
    have e2 : moreK s i = false := by unfold moreK; simp; omega
    rw [e1, e2]
    have hg : decide ((s.size : Int) ≤ (i : Int)) = true := by simp; omega
    clear e1 e2
    go_enter Try.func139, Try.ntmps139
    go_wp2
    go_ret2
    exact ⟨rfl, rfl⟩
theorem c139' (s : ByteArray) (j : Int) (hj : 0 ≤ j) (w : World) :
    Calls Try.prog 139 #[.string s, .int .i64 j] w fun e w' => e = .returned (.tuple #[.int .i32 (moreV s j.toNat), .bool (moreK s j.toNat)]) ∧ w = w' := by
  obtain ⟨n, rfl⟩ := Int.eq_ofNat_of_zero_le hj
  exact c139 s n w
set_option maxHeartbeats 4000000 in
set_option maxRecDepth 100000 in
/-- The walk of 'one', the four bytes' sayings known. -/
theorem one_walk (s : ByteArray) (i : Nat) (w : World) (hi : i < s.size) (hs : s.size ≤ 1000000) (c : Nat) (a b d : Int) (x y z : Bool) (hb : (s[i]'hi).toNat = c) (hl : c < 256)
    (ha : 0 ≤ a ∧ a ≤ 63) (hb2 : 0 ≤ b ∧ b ≤ 63) (hd : 0 ≤ d ∧ d ≤ 63)
    (m1 : ∀ w, Calls Try.prog 139 #[.string s, .int .i64 ((i : Int) + 1)] w fun e w' => e = .returned (.tuple #[.int .i32 a, .bool x]) ∧ w = w')
    (m2 : ∀ w, Calls Try.prog 139 #[.string s, .int .i64 ((i : Int) + 2)] w fun e w' => e = .returned (.tuple #[.int .i32 b, .bool y]) ∧ w = w')
    (m3 : ∀ w, Calls Try.prog 139 #[.string s, .int .i64 ((i : Int) + 3)] w fun e w' => e = .returned (.tuple #[.int .i32 d, .bool z]) ∧ w = w')
    (r n : Int) (hr : r = if c < 128 then (c : Int) else if 194 ≤ c ∧ c ≤ 223 ∧ x = true then ((c : Int) - 192) * 64 + a else if 224 ≤ c ∧ c ≤ 239 ∧ x = true ∧ y = true then ((c : Int) - 224) * 4096 + a * 64 + b
      else if 240 ≤ c ∧ c ≤ 244 ∧ x = true ∧ y = true ∧ z = true then ((c : Int) - 240) * 262144 + a * 4096 + b * 64 + d else 0)
    (hn : n = if c < 128 then 1 else if 194 ≤ c ∧ c ≤ 223 ∧ x = true then 2 else if 224 ≤ c ∧ c ≤ 239 ∧ x = true ∧ y = true then 3 else if 240 ≤ c ∧ c ≤ 244 ∧ x = true ∧ y = true ∧ z = true then 4 else 0) :
    Calls Try.prog 120 #[.string s, .int .i64 i] w fun e w' => e = .returned (.tuple #[.int .i32 r, .int .i64 n]) ∧ w = w' := by
  have M1 := Lib.hid m1
  have M2 := Lib.hid m2
  have M3 := Lib.hid m3
  clear m1 m2 m3
  obtain ⟨ha1, ha2⟩ := ha
  obtain ⟨hb1, hb2⟩ := hb2
  obtain ⟨hd1, hd2⟩ := hd
  have hcase : c < 128 ∨ (128 ≤ c ∧ c < 194) ∨ (194 ≤ c ∧ c ≤ 223) ∨ (224 ≤ c ∧ c ≤ 239) ∨ (240 ≤ c ∧ c ≤ 244) ∨ 245 ≤ c := by omega
  rcases hcase with h | ⟨h, h'⟩ | ⟨h, h'⟩ | ⟨h, h'⟩ | ⟨h, h'⟩ | h
  · obtain rfl : r = (c : Int) := by rw [hr]; first | (simp; done) | (simp; omega) | (repeat (first | rw [if_neg (by simp; try omega)] | rw [if_pos (by simp; try omega)]))
    obtain rfl : n = 1 := by rw [hn]; first | (simp; done) | (simp; omega) | (repeat (first | rw [if_neg (by simp; try omega)] | rw [if_pos (by simp; try omega)]))
    clear hr hn
    go_enter Try.func120, Try.ntmps120
    go_wp2_with fail
    refine (M1.out _).mono ?_
    rintro e w' ⟨rfl, rfl⟩
    go_wp2_with fail
    refine (M2.out _).mono ?_
    rintro e w' ⟨rfl, rfl⟩
    go_wp2_with fail
    refine (M3.out _).mono ?_
    rintro e w' ⟨rfl, rfl⟩
    go_wp2_with fail
    go_ret2
    exact ⟨rfl, rfl⟩
  · obtain rfl : r = 0 := by rw [hr]; first | (simp; done) | (simp; omega) | (repeat (first | rw [if_neg (by simp; try omega)] | rw [if_pos (by simp; try omega)]))
    obtain rfl : n = 0 := by rw [hn]; first | (simp; done) | (simp; omega) | (repeat (first | rw [if_neg (by simp; try omega)] | rw [if_pos (by simp; try omega)]))
    clear hr hn
    go_enter Try.func120, Try.ntmps120
    go_wp2_with fail
    refine (M1.out _).mono ?_
    rintro e w' ⟨rfl, rfl⟩
    go_wp2_with fail
    refine (M2.out _).mono ?_
    rintro e w' ⟨rfl, rfl⟩
    go_wp2_with fail
    refine (M3.out _).mono ?_
    rintro e w' ⟨rfl, rfl⟩
    go_wp2_with fail
    go_ret2
    exact ⟨rfl, rfl⟩
  · cases x
    · obtain rfl : r = 0 := by rw [hr]; first | (simp; done) | (simp; omega) | (repeat (first | rw [if_neg (by simp; try omega)] | rw [if_pos (by simp; try omega)]))
      obtain rfl : n = 0 := by rw [hn]; first | (simp; done) | (simp; omega) | (repeat (first | rw [if_neg (by simp; try omega)] | rw [if_pos (by simp; try omega)]))
      clear hr hn
      go_enter Try.func120, Try.ntmps120
      go_wp2_with fail
      refine (M1.out _).mono ?_
      rintro e w' ⟨rfl, rfl⟩
      go_wp2_with fail
      refine (M2.out _).mono ?_
      rintro e w' ⟨rfl, rfl⟩
      go_wp2_with fail
      refine (M3.out _).mono ?_
      rintro e w' ⟨rfl, rfl⟩
      go_wp2_with fail
      go_ret2
      exact ⟨rfl, rfl⟩
    · obtain rfl : r = ((c : Int) - 192) * 64 + a := by rw [hr]; first | (simp; done) | (simp; omega) | (repeat (first | rw [if_neg (by simp; try omega)] | rw [if_pos (by simp; try omega)]))
      obtain rfl : n = 2 := by rw [hn]; first | (simp; done) | (simp; omega) | (repeat (first | rw [if_neg (by simp; try omega)] | rw [if_pos (by simp; try omega)]))
      clear hr hn
      go_enter Try.func120, Try.ntmps120
      go_wp2_with fail
      refine (M1.out _).mono ?_
      rintro e w' ⟨rfl, rfl⟩
      go_wp2_with fail
      refine (M2.out _).mono ?_
      rintro e w' ⟨rfl, rfl⟩
      go_wp2_with fail
      refine (M3.out _).mono ?_
      rintro e w' ⟨rfl, rfl⟩
      go_wp2_with fail
      go_ret2
      exact ⟨rfl, rfl⟩
  · cases x
    · obtain rfl : r = 0 := by rw [hr]; first | (simp; done) | (simp; omega) | (repeat (first | rw [if_neg (by simp; try omega)] | rw [if_pos (by simp; try omega)]))
      obtain rfl : n = 0 := by rw [hn]; first | (simp; done) | (simp; omega) | (repeat (first | rw [if_neg (by simp; try omega)] | rw [if_pos (by simp; try omega)]))
      clear hr hn
      go_enter Try.func120, Try.ntmps120
      go_wp2_with fail
      refine (M1.out _).mono ?_
      rintro e w' ⟨rfl, rfl⟩
      go_wp2_with fail
      refine (M2.out _).mono ?_
      rintro e w' ⟨rfl, rfl⟩
      go_wp2_with fail
      refine (M3.out _).mono ?_
      rintro e w' ⟨rfl, rfl⟩
      go_wp2_with fail
      go_ret2
      exact ⟨rfl, rfl⟩
    · cases y
      · obtain rfl : r = 0 := by rw [hr]; first | (simp; done) | (simp; omega) | (repeat (first | rw [if_neg (by simp; try omega)] | rw [if_pos (by simp; try omega)]))
        obtain rfl : n = 0 := by rw [hn]; first | (simp; done) | (simp; omega) | (repeat (first | rw [if_neg (by simp; try omega)] | rw [if_pos (by simp; try omega)]))
        clear hr hn
        go_enter Try.func120, Try.ntmps120
        go_wp2_with fail
        refine (M1.out _).mono ?_
        rintro e w' ⟨rfl, rfl⟩
        go_wp2_with fail
        refine (M2.out _).mono ?_
        rintro e w' ⟨rfl, rfl⟩
        go_wp2_with fail
        refine (M3.out _).mono ?_
        rintro e w' ⟨rfl, rfl⟩
        go_wp2_with fail
        go_ret2
        exact ⟨rfl, rfl⟩
      · obtain rfl : r = ((c : Int) - 224) * 4096 + a * 64 + b := by rw [hr]; first | (simp; done) | (simp; omega) | (repeat (first | rw [if_neg (by simp; try omega)] | rw [if_pos (by simp; try omega)]))
        obtain rfl : n = 3 := by rw [hn]; first | (simp; done) | (simp; omega) | (repeat (first | rw [if_neg (by simp; try omega)] | rw [if_pos (by simp; try omega)]))
        clear hr hn
        go_enter Try.func120, Try.ntmps120
        go_wp2_with fail
        refine (M1.out _).mono ?_
        rintro e w' ⟨rfl, rfl⟩
        go_wp2_with fail
        refine (M2.out _).mono ?_
        rintro e w' ⟨rfl, rfl⟩
        go_wp2_with fail
        refine (M3.out _).mono ?_
        rintro e w' ⟨rfl, rfl⟩
        go_wp2_with fail
        go_ret2
        exact ⟨rfl, rfl⟩
  · cases x
    · obtain rfl : r = 0 := by rw [hr]; first | (simp; done) | (simp; omega) | (repeat (first | rw [if_neg (by simp; try omega)] | rw [if_pos (by simp; try omega)]))
      obtain rfl : n = 0 := by rw [hn]; first | (simp; done) | (simp; omega) | (repeat (first | rw [if_neg (by simp; try omega)] | rw [if_pos (by simp; try omega)]))
      clear hr hn
      go_enter Try.func120, Try.ntmps120
      go_wp2_with fail
      refine (M1.out _).mono ?_
      rintro e w' ⟨rfl, rfl⟩
      go_wp2_with fail
      refine (M2.out _).mono ?_
      rintro e w' ⟨rfl, rfl⟩
      go_wp2_with fail
      refine (M3.out _).mono ?_
      rintro e w' ⟨rfl, rfl⟩
      go_wp2_with fail
      go_ret2
      exact ⟨rfl, rfl⟩
    · cases y
      · obtain rfl : r = 0 := by rw [hr]; first | (simp; done) | (simp; omega) | (repeat (first | rw [if_neg (by simp; try omega)] | rw [if_pos (by simp; try omega)]))
        obtain rfl : n = 0 := by rw [hn]; first | (simp; done) | (simp; omega) | (repeat (first | rw [if_neg (by simp; try omega)] | rw [if_pos (by simp; try omega)]))
        clear hr hn
        go_enter Try.func120, Try.ntmps120
        go_wp2_with fail
        refine (M1.out _).mono ?_
        rintro e w' ⟨rfl, rfl⟩
        go_wp2_with fail
        refine (M2.out _).mono ?_
        rintro e w' ⟨rfl, rfl⟩
        go_wp2_with fail
        refine (M3.out _).mono ?_
        rintro e w' ⟨rfl, rfl⟩
        go_wp2_with fail
        go_ret2
        exact ⟨rfl, rfl⟩
      · cases z
        · obtain rfl : r = 0 := by rw [hr]; first | (simp; done) | (simp; omega) | (repeat (first | rw [if_neg (by simp; try omega)] | rw [if_pos (by simp; try omega)]))
          obtain rfl : n = 0 := by rw [hn]; first | (simp; done) | (simp; omega) | (repeat (first | rw [if_neg (by simp; try omega)] | rw [if_pos (by simp; try omega)]))
          clear hr hn
          go_enter Try.func120, Try.ntmps120
          go_wp2_with fail
          refine (M1.out _).mono ?_
          rintro e w' ⟨rfl, rfl⟩
          go_wp2_with fail
          refine (M2.out _).mono ?_
          rintro e w' ⟨rfl, rfl⟩
          go_wp2_with fail
          refine (M3.out _).mono ?_
          rintro e w' ⟨rfl, rfl⟩
          go_wp2_with fail
          go_ret2
          exact ⟨rfl, rfl⟩
        · obtain rfl : r = ((c : Int) - 240) * 262144 + a * 4096 + b * 64 + d := by rw [hr]; first | (simp; done) | (simp; omega) | (repeat (first | rw [if_neg (by simp; try omega)] | rw [if_pos (by simp; try omega)]))
          obtain rfl : n = 4 := by rw [hn]; first | (simp; done) | (simp; omega) | (repeat (first | rw [if_neg (by simp; try omega)] | rw [if_pos (by simp; try omega)]))
          clear hr hn
          go_enter Try.func120, Try.ntmps120
          go_wp2_with fail
          refine (M1.out _).mono ?_
          rintro e w' ⟨rfl, rfl⟩
          go_wp2_with fail
          refine (M2.out _).mono ?_
          rintro e w' ⟨rfl, rfl⟩
          go_wp2_with fail
          refine (M3.out _).mono ?_
          rintro e w' ⟨rfl, rfl⟩
          go_wp2_with fail
          go_ret2
          exact ⟨rfl, rfl⟩
  · obtain rfl : r = 0 := by rw [hr]; first | (simp; done) | (simp; omega) | (repeat (first | rw [if_neg (by simp; try omega)] | rw [if_pos (by simp; try omega)]))
    obtain rfl : n = 0 := by rw [hn]; first | (simp; done) | (simp; omega) | (repeat (first | rw [if_neg (by simp; try omega)] | rw [if_pos (by simp; try omega)]))
    clear hr hn
    go_enter Try.func120, Try.ntmps120
    go_wp2_with fail
    refine (M1.out _).mono ?_
    rintro e w' ⟨rfl, rfl⟩
    go_wp2_with fail
    refine (M2.out _).mono ?_
    rintro e w' ⟨rfl, rfl⟩
    go_wp2_with fail
    refine (M3.out _).mono ?_
    rintro e w' ⟨rfl, rfl⟩
    go_wp2_with fail
    go_ret2
    exact ⟨rfl, rfl⟩

/-- inkhornref1.one -/
theorem c120 (s : ByteArray) (i : Nat) (w : World) (hi : i < s.size) (hs : s.size ≤ 1000000) :
    Calls Try.prog 120 #[.string s, .int .i64 i] w fun e w' => e = .returned (.tuple #[.int .i32 (oneR s i), .int .i64 (oneN s i)]) ∧ w = w' :=
  one_walk s i w hi hs (byt s i) (moreV s (i + 1)) (moreV s (i + 2)) (moreV s (i + 3)) (moreK s (i + 1)) (moreK s (i + 2)) (moreK s (i + 3)) (byt_at s i hi) (byt_lt s i) (moreV_bd _ _) (moreV_bd _ _) (moreV_bd _ _)
    (fun w => by have := c139 s (i + 1) w; simpa using this) (fun w => by have := c139 s (i + 2) w; simpa using this) (fun w => by have := c139 s (i + 3) w; simpa using this)
    _ _ (by unfold oneR; rfl) (by unfold oneN; rfl)

end Go.Proofs.Ytepmcfleijiloaa
