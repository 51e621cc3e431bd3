/- Contracts of package list: Without. -/
import Derived.Test.YtepmcfleijiloaaE2
namespace Go.Proofs.Ytepmcfleijiloaa
open Go.RowKit

theorem withoutL_snoc (a b : List ByteArray) (x : ByteArray) : withoutL (a ++ [x]) b = withoutL a b ++ if inB b x then [] else [x] := by
  unfold withoutL
  rw [List.filter_append]
  cases h : inB b x <;> simp [h]
theorem withoutL_len (a b : List ByteArray) : (withoutL a b).length ≤ a.length := List.length_filter_le _ _

set_option maxHeartbeats 400000 in
set_option maxRecDepth 100000 in
/-- list.Without -/
theorem c67 (w : World) (lo lo2 : Nat) (A B : Option Addr) (c d : Nat) (xs ys : List ByteArray) (hx : Strs w lo A c xs) (hy : Strs w lo2 B d ys) (hr : Rises ys) (hn : xs.length ≤ 1000000) (hm : ys.length ≤ 1000000) :
    Calls Try.prog 67 #[.slice A xs.length c, .slice B ys.length d] w fun e w' => ∃ v, e = .returned v ∧ w'.ownsRow w.heap.size 9 1 v (withoutL xs ys).length (strv (withoutL xs ys)) ∧ Below w.heap.size w w' := by
  have hl1 := hx.2.1
  have hm1 := hx.2.2
  go_enter Try.func67, Try.ntmps67
  go_wp2_with fail
  go_loopw [5, 12] (fun v i wr => ∃ k : Nat, k ≤ xs.length ∧ i = .int .i64 k ∧ wr.ownsRow w.heap.size 9 1 v (withoutL (xs.take k) ys).length (strv (withoutL (xs.take k) ys)) ∧ Below w.heap.size w wr) (fun _ i _ => xs.length - (intOf i).toNat)
  case atStart => exact ⟨0, Nat.zero_le _, rfl, by simpa [withoutL, strv] using World.ownsRow_nil _ _ _ _, Below.refl _ _⟩
  case round =>
    obtain ⟨k, hk, rfl, hown, hB⟩ := hrel
    have HO := Lib.hid hown
    have HB := Lib.hid hB
    clear hown hB
    by_cases hlt : k < xs.length
    · obtain ⟨b1, o1, rfl, _, hb1, hcx⟩ := (hx.ext HB.out).at_ hlt
      obtain ⟨x, hx'⟩ : ∃ x, x = xs[k] := ⟨_, rfl⟩
      rw [← hx'] at hcx
      have HX := Lib.hid hx'; clear hx'
      have hwl : (withoutL (xs.take k) ys).length ≤ 1000000 := Nat.le_trans (withoutL_len _ _) (by simp; omega)
      have hsn : withoutL (xs.take (k + 1)) ys = withoutL (xs.take k) ys ++ if inB ys x then [] else [x] := by rw [List.take_succ_eq_append_getElem hlt, withoutL_snoc, ← HX.out]
      generalize withoutL (xs.take k) ys = acc at *
      obtain ⟨b, hb⟩ : ∃ b, b = inB ys x := ⟨_, rfl⟩
      rw [← hb] at hsn
      have HS := Lib.hid hsn
      have HBB := Lib.hid hb
      clear hsn hb
      cases b
      · go_wp2_with fail
        (with_reducible refine (c41 _ _ _ _ _ x (hy.ext HB.out) hr hm).mono ?_); rintro e w1 ⟨rfl, n, rfl⟩
        rw [← HBB.out]
        have HO2 := Lib.hid (own_below HO.out (below_drewN (Below.refl wr.heap.size wr) n))
        have HB2 := Lib.hid (below_drewN HB.out n)
        generalize wr.drewN n = w2 at *
        go_wp2_with (first
          | (with_reducible refine wpList_append_rd infoS rfl (.tmp 24) (.tmp 26) rfl w.heap.size _ acc.length (strv acc) rfl (HO2.out.alloc _) w2.heap.size (w2.heap.size + 1) _ 1 1 [.string x] rfl (Rd.new w2 _ _) rfl (by simp [Value.oneCell']) (by omega) (by have := HB2.out.size; simp; omega) ?_
             intro v1 w1 hown1 hg1 hat1
             have X := own_step (x := x) HO2.out HB2.out ((Below.refl _ _).alloc (Nat.le_refl _) _) hown1 hg1
             clear hown1 hg1 hat1))
        go_roundw
        case rel =>
          refine ⟨k + 1, by omega, by go_num, ?_, X.out.2⟩
          rw [HS.out]
          simpa using X.out.1
        case measure => simp [intOf]; omega
      · go_wp2_with fail
        (with_reducible refine (c41 _ _ _ _ _ x (hy.ext HB.out) hr hm).mono ?_); rintro e w1 ⟨rfl, n, rfl⟩
        rw [← HBB.out]
        go_wp2_with fail
        go_roundw
        case rel =>
          refine ⟨k + 1, by omega, by go_num, ?_, below_drewN HB.out _⟩
          rw [HS.out]
          simpa using own_below HO.out (below_drewN (Below.refl _ _) _)
        case measure => simp [intOf]; omega
    · have hge : xs.length ≤ k := by omega
      rw [List.take_of_length_le hge] at HO
      clear hlt
      go_wp2_with fail
      go_ret
      exact ⟨_, rfl, HO.out, HB.out⟩

end Go.Proofs.Ytepmcfleijiloaa
