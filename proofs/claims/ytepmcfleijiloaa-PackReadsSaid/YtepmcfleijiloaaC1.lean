/- Contracts of package text. -/
import Derived.Test.YtepmcfleijiloaaA0
import Derived.Test.YtepmcfleijiloaaP1
import Derived.Test.YtepmcfleijiloaaS0
namespace Go.Proofs.Ytepmcfleijiloaa
open Go.RowKit

set_option maxHeartbeats 1000000 in
set_option maxRecDepth 100000 in
/-- text.Len -/
theorem c71 (s : ByteArray) (w : World) (hs : s.size ≤ 4611686018427387904) :
    Calls Try.prog 71 #[.string s] w fun e w' => e = .returned (.int .i64 (rlen s)) ∧ Below w.heap.size w w' := by
  go_enter Try.func71, Try.ntmps71
  go_wp2
  go_loopw [3] (fun n wr => ∃ (p : Nat) (pre : List Nat), n = .int .i64 pre.length ∧ wr = w.iter s p ∧ runes s 0 = pre ++ runes s p ∧ 65533 ∉ pre) (fun _ wr => s.size - wr.iterPos w.heap.size)
  case atStart => exact ⟨0, [], rfl, rfl, rfl, by simp⟩
  case round =>
    obtain ⟨p, pre, rfl, rfl, hr, hp⟩ := hrel
    have hpl : pre.length ≤ s.size := by
      have := runes_len s s.size 0 (by omega)
      rw [hr] at this; simp at this; omega
    by_cases hlt : p < s.size
    · have hnx := fun ty => run_next_any (P := Try.prog) w s p ty hlt
      have hst := runes_step s p hlt
      have hdp := decode_pos s p
      generalize hd : Utf8.decode s p = d at hnx hst hdp
      obtain ⟨r, q⟩ := d
      have HS := Lib.hid hst
      have HR := Lib.hid hr
      have HP := Lib.hid hp
      have HD := Lib.hid hd
      clear hst hr hp hd
      simp only at hnx hdp
      by_cases h5 : r = 65533
      · subst h5
        go_wp2
        go_ret
        have : rlen s = -1 := by
          unfold rlen
          rw [if_pos (by rw [HR.out, HS.out]; simp)]
        rw [this]
        exact ⟨rfl, (Below.refl _ _).alloc (Nat.le_refl _) _⟩
      · have hb : ((r : Int) == 65533) = false := by simp; omega
        have H5 := Lib.hid h5; clear h5
        go_wp2
        go_roundw
        case rel =>
          refine ⟨p + q, pre ++ [r], by simp, rfl, by rw [HR.out, HS.out]; simp, ?_⟩
          have := HP.out
          have := H5.out
          simp [*]
          omega
        case measure => simp; omega
    · have hnx := fun ty => run_next_end (P := Try.prog) w s p ty hlt
      have he := runes_end s p hlt
      have HR := Lib.hid hr
      have HP := Lib.hid hp
      have HE := Lib.hid he
      clear hr hp he
      go_wp2
      go_ret
      have : rlen s = pre.length := by
        unfold rlen
        rw [HR.out, HE.out, List.append_nil, if_neg HP.out]
      rw [this]
      exact ⟨rfl, (Below.refl _ _).alloc (Nat.le_refl _) _⟩

set_option maxHeartbeats 400000 in
/-- text.Word -/
theorem c36 (s : ByteArray) (w : World) (hs : s.size ≤ 4611686018427387904) :
    Calls Try.prog 36 #[.string s] w fun e w' => e = .returned (.bool (isWord s)) ∧ Below w.heap.size w w' := by
  have hr := rlen_le s
  go_enter Try.func36, Try.ntmps36
  go_wp2_with (go_at_call 71; refine (c71 s _ hs).mono ?_; rintro e w1 ⟨rfl, hb⟩)
  · go_ret
    refine ⟨?_, hb⟩
    have h1 : 1 ≤ rlen s := by assumption
    unfold isWord
    simp [h1]
  · go_ret
    refine ⟨?_, hb⟩
    have h1 : rlen s < 1 := by assumption
    have : isWord s = false := by unfold isWord; simp; omega
    rw [this]; rfl

set_option maxHeartbeats 400000 in
/-- text.Compare -/
theorem c65 (a b : ByteArray) (w : World) :
    Calls Try.prog 65 #[.string a, .string b] w fun e w' => e = .returned (.int .i64 (Lib.compareBytes a.data.toList b.data.toList)) ∧ w = w' := by
  go_enter Try.func65, Try.ntmps65
  go_wp2_with (go_at_call 96; refine (Try.strings_Compare a b _).mono ?_; rintro e w1 ⟨rfl, rfl⟩)
  go_ret
  exact ⟨rfl, rfl⟩
set_option maxHeartbeats 1000000 in
set_option maxRecDepth 100000 in
/-- text.Runes -/
theorem c37 (s : ByteArray) (w : World) (hs : s.size ≤ 1000000) :
    Calls Try.prog 37 #[.string s] w fun e w' => ∃ v, e = .returned (.tuple #[v, .bool (okRunes s)]) ∧ w'.ownsRow w.heap.size 21 1 v (gotRunes s).length (i32v (gotRunes s)) ∧ Below w.heap.size w w' := by
  go_enter Try.func37, Try.ntmps37
  go_wp2
  go_loopw [4] (fun v wr => ∃ (p : Nat) (pre : List Nat), wr.ownsRow w.heap.size 21 1 v pre.length (i32v pre) ∧ wr.heap[w.heap.size]? = some (.stringIter s p) ∧ Below w.heap.size w wr ∧ runes s 0 = pre ++ runes s p ∧ 65533 ∉ pre) (fun _ wr => s.size - wr.iterPos w.heap.size)
  case atStart => exact ⟨0, [], World.ownsRow_nil _ _ _ _, World.iter_heap _ _ _, (Below.refl _ _).alloc (Nat.le_refl _) _, rfl, by simp⟩
  case round =>
    obtain ⟨p, pre, hown, hit, hB, hr, hp⟩ := hrel
    have hsz : w.heap.size < wr.heap.size := (Array.getElem?_eq_some_iff.1 hit).1
    have hpl : pre.length ≤ s.size := by
      have := runes_len s s.size 0 (by omega)
      rw [hr] at this; simp at this; omega
    by_cases hlt : p < s.size
    · have hnx := fun ty => Lib.run_next_any_at (P := Try.prog) wr w.heap.size s p ty hit hlt
      have hst := runes_step s p hlt
      have hdp := decode_pos s p
      generalize hd : Utf8.decode s p = d at hnx hst hdp
      obtain ⟨r, q⟩ := d
      simp only at hnx hdp
      have HO := Lib.hid (own_iterAt hown hit (p + q))
      have HI := Lib.hid (Lib.iterAt_heap wr w.heap.size s p (p + q) hit)
      have HB := Lib.hid (Lib.below_iterAt hB (Nat.le_refl _) s (p + q))
      have HM := Lib.hid (iterPos_of hit)
      have HS := Lib.hid hst
      have HR := Lib.hid hr
      have HP := Lib.hid hp
      have hsz2 : w.heap.size < (wr.iterAt w.heap.size s (p + q)).heap.size := by rw [Lib.iterAt_size]; exact hsz
      clear hst hr hp hd hown hit hB
      generalize wr.iterAt w.heap.size s (p + q) = w2 at hnx HO HI HB hsz2
      by_cases h5 : r = 65533
      · subst h5
        go_wp2
        go_ret2
        have h1 : 65533 ∈ runes s 0 := by rw [HR.out, HS.out]; simp
        have h2 : okRunes s = false := by unfold okRunes; simp [h1]
        have h3 : gotRunes s = [] := by unfold gotRunes; rw [if_pos h1]
        rw [h2, h3]
        exact ⟨_, rfl, World.ownsRow_nil _ _ _ _, HB.out⟩
      · have hb : ((r : Int) == 65533) = false := by simp; omega
        have H5 := Lib.hid h5; clear h5
        go_wp2_with (first
          | (with_reducible refine wpList_append_rd infoR rfl (.tmp 14) (.tmp 16) rfl w.heap.size _ pre.length (i32v pre) rfl (HO.out.alloc _) w2.heap.size (w2.heap.size + 1) _ 1 1 [.int .i32 (r : Int)] rfl (Rd.new w2 _ _) rfl (by simp [Value.oneCell']) (by omega) (by simp; omega) ?_
             intro v1 w1 hown1 hg1 hat1
             have X : Hid (w1.ownsRow w.heap.size 21 1 v1 (pre.length + 1) (i32v pre ++ [.int .i32 (r : Int)]) ∧ Below w.heap.size w w1 ∧ w1.heap[w.heap.size]? = some (.stringIter s (p + q))) := ⟨hown1, below_grown (HB.out.alloc (by omega) _) (HO.out.alloc _) hg1 (Nat.le_refl _) (by simp; omega), iter_grown (HO.out.alloc _) (iter_alloc HI.out _) hg1⟩
             clear hown1 hg1 hat1))
        go_roundw
        case rel =>
          refine ⟨p + q, pre ++ [r], ?_, X.out.2.2, X.out.2.1, by rw [HR.out, HS.out]; simp, ?_⟩
          · simpa [i32v] using X.out.1
          · have := HP.out
            have := H5.out
            simp [*]
            omega
        case measure => rw [iterPos_of X.out.2.2, HM.out]; omega
    · have hnx := fun ty => Lib.run_next_end_at (P := Try.prog) wr w.heap.size s p ty hit hlt
      have he := runes_end s p hlt
      have HR := Lib.hid hr
      have HP := Lib.hid hp
      have HE := Lib.hid he
      have HO := Lib.hid hown
      have HB := Lib.hid hB
      clear hr hp he hown hit hB
      go_wp2
      go_ret2
      have h1 : runes s 0 = pre := by rw [HR.out, HE.out, List.append_nil]
      have h2 : okRunes s = true := by unfold okRunes; rw [h1]; exact decide_eq_true HP.out
      have h3 : gotRunes s = pre := by unfold gotRunes; rw [h1, if_neg HP.out]
      rw [h2, h3]
      exact ⟨_, rfl, HO.out, HB.out⟩

end Go.Proofs.Ytepmcfleijiloaa
