/- Contracts of the reference of chapter 1, on top of 'one'. -/
import Derived.Test.YtepmcfleijiloaaD1
namespace Go.Proofs.Ytepmcfleijiloaa
open Go.RowKit

set_option maxHeartbeats 2000000 in
/-- inkhornref1.Good -/
theorem c121 (r : Int) (w : World) (h1 : -2147483648 ≤ r) (h2 : r ≤ 2147483647) :
    Calls Try.prog 121 #[.int .i32 r] w fun e w' => e = .returned (.bool (goodR r)) ∧ w = w' := by
  obtain ⟨g, hg⟩ : ∃ g, g = goodR r := ⟨_, rfl⟩
  rw [← hg]
  unfold goodR at hg
  have hcase : r < 0 ∨ (0 ≤ r ∧ r < 55296) ∨ (55296 ≤ r ∧ r ≤ 57343) ∨ (57343 < r ∧ r < 65533) ∨ r = 65533 ∨ (65533 < r ∧ r ≤ 1114111) ∨ 1114111 < r := by omega
  rcases hcase with h | ⟨h, h'⟩ | ⟨h, h'⟩ | ⟨h, h'⟩ | rfl | ⟨h, h'⟩ | h
  · obtain rfl : g = false := by rw [hg]; simp; omega
    clear hg
    go_enter Try.func121, Try.ntmps121
    go_wp2
    go_ret
    exact ⟨rfl, rfl⟩
  · obtain rfl : g = true := by rw [hg]; simp; omega
    clear hg
    have f1 : decide (r < 55296) = true := by simp; omega
    have f2 : decide (57343 < r) = false := by simp; omega
    have f3 : (r != 65533) = true := by simp; omega
    go_enter Try.func121, Try.ntmps121
    go_wp2
    go_ret
    exact ⟨rfl, rfl⟩
  · obtain rfl : g = false := by rw [hg]; simp; omega
    clear hg
    have f1 : decide (r < 55296) = false := by simp; omega
    have f2 : decide (57343 < r) = false := by simp; omega
    have f3 : (r != 65533) = true := by simp; omega
    go_enter Try.func121, Try.ntmps121
    go_wp2
    go_ret
    exact ⟨rfl, rfl⟩
  · obtain rfl : g = true := by rw [hg]; simp; omega
    clear hg
    have f1 : decide (r < 55296) = false := by simp; omega
    have f2 : decide (57343 < r) = true := by simp; omega
    have f3 : (r != 65533) = true := by simp; omega
    go_enter Try.func121, Try.ntmps121
    go_wp2
    go_ret
    exact ⟨rfl, rfl⟩
  · obtain rfl : g = false := by rw [hg]; decide
    clear hg
    go_enter Try.func121, Try.ntmps121
    go_wp2
    go_ret
    exact ⟨rfl, rfl⟩
  · obtain rfl : g = true := by rw [hg]; simp; omega
    clear hg
    have f1 : decide (r < 55296) = false := by simp; omega
    have f2 : decide (57343 < r) = true := by simp; omega
    have f3 : (r != 65533) = true := by simp; omega
    go_enter Try.func121, Try.ntmps121
    go_wp2
    go_ret
    exact ⟨rfl, rfl⟩
  · obtain rfl : g = false := by rw [hg]; simp; omega
    clear hg
    go_enter Try.func121, Try.ntmps121
    go_wp2
    go_ret
    exact ⟨rfl, rfl⟩

set_option maxHeartbeats 4000000 in
set_option maxRecDepth 100000 in
/-- inkhornref1.Runes -/
theorem c101 (s : ByteArray) (w : World) (hs : s.size ≤ 1000000) :
    Calls Try.prog 101 #[.string s] w fun e w' => ∃ v, e = .returned (.tuple #[v, .bool (okRunes s)]) ∧ w'.ownsRow w.heap.size 21 1 v (gotRunes s).length (i32v (gotRunes s)) ∧ Below w.heap.size w w' := by
  go_enter Try.func101, Try.ntmps101
  go_wp2
  go_loopw [4, 5] (fun v i wr => ∃ (p : Nat) (pre : List Nat), i = .int .i64 p ∧ wr.ownsRow w.heap.size 21 1 v pre.length (i32v pre) ∧ Below w.heap.size w wr ∧ runes s 0 = pre ++ runes s p ∧ 65533 ∉ pre ∧ p ≤ s.size + 4) (fun _ i _ => s.size - (intOf i).toNat)
  case atStart => exact ⟨0, [], rfl, World.ownsRow_nil _ _ _ _, Below.refl _ _, rfl, by simp, by omega⟩
  case round =>
    obtain ⟨p, pre, rfl, hown, hB, hr, hp, hps⟩ := hrel
    have hpl : pre.length ≤ s.size := by
      have := runes_len s s.size 0 (by omega)
      rw [hr] at this; simp at this; omega
    by_cases hlt : p < s.size
    · have hst := runes_step s p hlt
      have hdp := decode_pos s p
      obtain ⟨hb1, hb2⟩ := one_decode s p hlt
      have hone := fun W => c120 s p W hlt hs
      have hrb := oneR_bd s p
      have hbad : badAt s p = true ↔ (oneN s p = 0 ∨ goodR (oneR s p) = false ∨ (oneN s p = 3 ∧ oneR s p < 2048) ∨ (oneN s p = 4 ∧ oneR s p < 65536)) := by unfold badAt; rw [decide_eq_true_iff]
      have hgood := fun W => c121 (oneR s p) W (by omega) (by omega)
      generalize Utf8.decode s p = d at *
      obtain ⟨dr, q⟩ := d
      simp only at *
      have HS := Lib.hid hst
      have HR := Lib.hid hr
      have HP := Lib.hid hp
      have HO := Lib.hid hown
      have HB := Lib.hid hB
      have H1 := Lib.hid hone
      have HG := Lib.hid hgood
      clear hst hr hp hown hB hone hgood
      have hn4 := oneN_bd s p
      by_cases hbd : badAt s p = true
      · have h5 := hb1 hbd
        subst h5
        have h1 : 65533 ∈ runes s 0 := by rw [HR.out, HS.out]; simp
        have h2 : okRunes s = false := by unfold okRunes; simp [h1]
        have h3 : gotRunes s = [] := by unfold gotRunes; rw [if_pos h1]
        have HH := Lib.hid (And.intro h2 h3)
        have hw := hbad.1 hbd
        clear hb1 hb2 hbad hbd h1 h2 h3 HS
        generalize hrr : oneR s p = r at *
        generalize hnn : oneN s p = n at *
        generalize hgg : goodR r = g at *
        clear hrr hnn hgg
        have hcase : n = 0 ∨ (n ≠ 0 ∧ g = false) ∨ (n = 3 ∧ g = true ∧ r < 2048) ∨ (n = 4 ∧ g = true ∧ r < 65536) := by
          cases g
          · by_cases n = 0
            · left; assumption
            · right; left; exact ⟨by assumption, rfl⟩
          · rcases hw with h | h | h | h
            · left; assumption
            · cases h
            · right; right; left; exact ⟨h.1, rfl, h.2⟩
            · right; right; right; exact ⟨h.1, rfl, h.2⟩
        clear hw
        rcases hcase with rfl | ⟨hn0, rfl⟩ | ⟨rfl, rfl, hr2⟩ | ⟨rfl, rfl, hr2⟩
        · go_wp2_with (first | (go_at_call 120; refine (H1.out _).mono ?_; rintro e w' ⟨rfl, rfl⟩) | (go_at_call 121; refine (HG.out _).mono ?_; rintro e w' ⟨rfl, rfl⟩))
          go_ret2
          rw [HH.out.1, HH.out.2]
          exact ⟨_, rfl, World.ownsRow_nil _ _ _ _, HB.out⟩
        · have f0 : (n == 0) = false := by simp; omega
          clear hn0
          go_wp2_with (first | (go_at_call 120; refine (H1.out _).mono ?_; rintro e w' ⟨rfl, rfl⟩) | (go_at_call 121; refine (HG.out _).mono ?_; rintro e w' ⟨rfl, rfl⟩))
          go_ret2
          rw [HH.out.1, HH.out.2]
          exact ⟨_, rfl, World.ownsRow_nil _ _ _ _, HB.out⟩
        · have f0 : decide (r < 2048) = true := by simp; omega
          clear hr2
          go_wp2_with (first | (go_at_call 120; refine (H1.out _).mono ?_; rintro e w' ⟨rfl, rfl⟩) | (go_at_call 121; refine (HG.out _).mono ?_; rintro e w' ⟨rfl, rfl⟩))
          go_ret2
          rw [HH.out.1, HH.out.2]
          exact ⟨_, rfl, World.ownsRow_nil _ _ _ _, HB.out⟩
        · have f0 : decide (r < 65536) = true := by simp; omega
          clear hr2
          go_wp2_with (first | (go_at_call 120; refine (H1.out _).mono ?_; rintro e w' ⟨rfl, rfl⟩) | (go_at_call 121; refine (HG.out _).mono ?_; rintro e w' ⟨rfl, rfl⟩))
          go_ret2
          rw [HH.out.1, HH.out.2]
          exact ⟨_, rfl, World.ownsRow_nil _ _ _ _, HB.out⟩
      · have hbd' : badAt s p = false := by simpa using hbd
        obtain ⟨h5, hR, hN⟩ := hb2 hbd'
        have hw : ¬ (oneN s p = 0 ∨ goodR (oneR s p) = false ∨ (oneN s p = 3 ∧ oneR s p < 2048) ∨ (oneN s p = 4 ∧ oneR s p < 65536)) := fun h => hbd (hbad.2 h)
        clear hb1 hb2 hbad hbd hbd'
        have H5 := Lib.hid h5
        clear h5
        generalize hrr : oneR s p = r at *
        generalize hnn : oneN s p = n at *
        clear hrr hnn
        subst hR hN
        generalize hgg : goodR (dr : Int) = g at *
        clear hgg
        have hq4 : q ≤ 4 := by omega
        have hcase : (q = 1 ∨ q = 2) ∧ g = true ∨ (q = 3 ∧ g = true ∧ 2048 ≤ dr) ∨ (q = 4 ∧ g = true ∧ 65536 ≤ dr) := by
          cases g
          · exact absurd (.inr (.inl rfl)) hw
          · have : q = 1 ∨ q = 2 ∨ q = 3 ∨ q = 4 := by omega
            rcases this with h | h | h | h
            · exact .inl ⟨.inl h, rfl⟩
            · exact .inl ⟨.inr h, rfl⟩
            · refine .inr (.inl ⟨h, rfl, ?_⟩)
              rcases Nat.lt_or_ge dr 2048 with h' | h'
              · exact absurd (.inr (.inr (.inl ⟨by omega, by omega⟩))) hw
              · exact h'
            · refine .inr (.inr ⟨h, rfl, ?_⟩)
              rcases Nat.lt_or_ge dr 65536 with h' | h'
              · exact absurd (.inr (.inr (.inr ⟨by omega, by omega⟩))) hw
              · exact h'
        clear hw
        rcases hcase with ⟨hq, rfl⟩ | ⟨rfl, rfl, hr2⟩ | ⟨rfl, rfl, hr2⟩
        · have f0 : ((q : Int) == 0) = false := by simp; omega
          have f3 : ((q : Int) == 3) = false := by simp; omega
          have f4 : ((q : Int) == 4) = false := by simp; omega
          go_wp2_with (first
            | (go_at_call 120; refine (H1.out _).mono ?_; rintro e w' ⟨rfl, rfl⟩)
            | (go_at_call 121; refine (HG.out _).mono ?_; rintro e w' ⟨rfl, rfl⟩)
            | (with_reducible refine wpList_append_rd infoR rfl (.tmp 41) (.tmp 43) rfl w.heap.size _ pre.length (i32v pre) rfl (HO.out.alloc _) wr.heap.size (wr.heap.size + 1) _ 1 1 [.int .i32 (dr : Int)] rfl (Rd.new wr _ _) rfl (by simp [Value.oneCell']) (by omega) (by have := HB.out.size; simp; omega) ?_
               intro v1 w1 hown1 hg1 hat1
               have X : Hid (w1.ownsRow w.heap.size 21 1 v1 (pre.length + 1) (i32v pre ++ [.int .i32 (dr : Int)]) ∧ Below w.heap.size w w1) := ⟨hown1, below_grown (HB.out.alloc HB.out.size _) (HO.out.alloc _) hg1 (Nat.le_refl _) (by have := HB.out.size; simp; omega)⟩
               clear hown1 hg1 hat1))
          go_roundw
          case rel =>
            refine ⟨p + q, pre ++ [dr], by first | rfl | simp, ?_, X.out.2, by rw [HR.out, HS.out]; simp, ?_, by omega⟩
            · simpa [i32v] using X.out.1
            · have := HP.out
              have := H5.out
              simp [*]
              omega
          case measure => simp [intOf]; omega
        · have f0 : decide ((dr : Int) < 2048) = false := by simp; omega
          go_wp2_with (first
            | (go_at_call 120; refine (H1.out _).mono ?_; rintro e w' ⟨rfl, rfl⟩)
            | (go_at_call 121; refine (HG.out _).mono ?_; rintro e w' ⟨rfl, rfl⟩)
            | (with_reducible refine wpList_append_rd infoR rfl (.tmp 41) (.tmp 43) rfl w.heap.size _ pre.length (i32v pre) rfl (HO.out.alloc _) wr.heap.size (wr.heap.size + 1) _ 1 1 [.int .i32 (dr : Int)] rfl (Rd.new wr _ _) rfl (by simp [Value.oneCell']) (by omega) (by have := HB.out.size; simp; omega) ?_
               intro v1 w1 hown1 hg1 hat1
               have X : Hid (w1.ownsRow w.heap.size 21 1 v1 (pre.length + 1) (i32v pre ++ [.int .i32 (dr : Int)]) ∧ Below w.heap.size w w1) := ⟨hown1, below_grown (HB.out.alloc HB.out.size _) (HO.out.alloc _) hg1 (Nat.le_refl _) (by have := HB.out.size; simp; omega)⟩
               clear hown1 hg1 hat1))
          go_roundw
          case rel =>
            refine ⟨p + 3, pre ++ [dr], by first | rfl | simp, ?_, X.out.2, by rw [HR.out, HS.out]; simp, ?_, by omega⟩
            · simpa [i32v] using X.out.1
            · have := HP.out
              have := H5.out
              simp [*]
              omega
          case measure => simp [intOf]; omega
        · have f0 : decide ((dr : Int) < 65536) = false := by simp; omega
          go_wp2_with (first
            | (go_at_call 120; refine (H1.out _).mono ?_; rintro e w' ⟨rfl, rfl⟩)
            | (go_at_call 121; refine (HG.out _).mono ?_; rintro e w' ⟨rfl, rfl⟩)
            | (with_reducible refine wpList_append_rd infoR rfl (.tmp 41) (.tmp 43) rfl w.heap.size _ pre.length (i32v pre) rfl (HO.out.alloc _) wr.heap.size (wr.heap.size + 1) _ 1 1 [.int .i32 (dr : Int)] rfl (Rd.new wr _ _) rfl (by simp [Value.oneCell']) (by omega) (by have := HB.out.size; simp; omega) ?_
               intro v1 w1 hown1 hg1 hat1
               have X : Hid (w1.ownsRow w.heap.size 21 1 v1 (pre.length + 1) (i32v pre ++ [.int .i32 (dr : Int)]) ∧ Below w.heap.size w w1) := ⟨hown1, below_grown (HB.out.alloc HB.out.size _) (HO.out.alloc _) hg1 (Nat.le_refl _) (by have := HB.out.size; simp; omega)⟩
               clear hown1 hg1 hat1))
          go_roundw
          case rel =>
            refine ⟨p + 4, pre ++ [dr], by first | rfl | simp, ?_, X.out.2, by rw [HR.out, HS.out]; simp, ?_, by omega⟩
            · simpa [i32v] using X.out.1
            · have := HP.out
              have := H5.out
              simp [*]
              omega
          case measure => simp [intOf]; omega
    · have he := runes_end s p hlt
      have HR := Lib.hid hr
      have HP := Lib.hid hp
      have HE := Lib.hid he
      have HO := Lib.hid hown
      have HB := Lib.hid hB
      clear hr hp he hown hB
      go_wp2_with fail
      go_ret2
      have h1 : runes s 0 = pre := by rw [HR.out, HE.out, List.append_nil]
      have h2 : okRunes s = true := by unfold okRunes; rw [h1]; exact decide_eq_true HP.out
      have h3 : gotRunes s = pre := by unfold gotRunes; rw [h1, if_neg HP.out]
      rw [h2, h3]
      exact ⟨_, rfl, HO.out, HB.out⟩

end Go.Proofs.Ytepmcfleijiloaa
