/- Contract of the reference of chapter 4: Put. -/
import Derived.Test.YtepmcfleijiloaaF1
namespace Go.Proofs.Ytepmcfleijiloaa
open Go.RowKit

def PutRel (w : World) (xs : List ByteArray) (y : ByteArray) (v b i : Value) (wr : World) : Prop :=
  ∃ (k : Nat) (acc : List ByteArray) (fl : Bool), k ≤ xs.length ∧ i = .int .i64 k ∧ b = .bool fl ∧ acc.length ≤ k + 1 ∧ (fl = false → acc.length ≤ k) ∧ (xs.take k).foldl (putStep y) ([], false) = (acc, fl) ∧
    wr.ownsRow w.heap.size 9 1 v acc.length (strv acc) ∧ Below w.heap.size w wr

set_option maxHeartbeats 2000000 in
set_option maxRecDepth 100000 in
/-- inkhornref4.Put -/
theorem c95 (w : World) (lo : Nat) (A : Option Addr) (c : Nat) (xs : List ByteArray) (y : ByteArray) (hx : Strs w lo A c xs) (hs : Small xs) (hy : y.size ≤ 1000000) (hn : xs.length ≤ 1000000) :
    Calls Try.prog 95 #[.slice A xs.length c, .string y] w fun e w' => ∃ v, e = .returned v ∧ w'.ownsRow w.heap.size 9 1 v (putR y xs).length (strv (putR y xs)) ∧ Below w.heap.size w w' := by
  have hl1 := hx.2.1
  have hm1 := hx.2.2
  go_enter Try.func95, Try.ntmps95
  go_wp2_with fail
  go_loopw [5, 6, 7] (fun v b i wr => PutRel w xs y v b i wr) (fun _ _ i _ => xs.length - (intOf i).toNat)
  case atStart => exact ⟨0, [], false, Nat.zero_le _, rfl, rfl, by simp, by simp, rfl, World.ownsRow_nil _ _ _ _, Below.refl _ _⟩
  case round =>
    obtain ⟨k, acc, fl, hk, rfl, rfl, hal, hal2, hfold, hown, hB⟩ := hrel
    have HO := Lib.hid hown
    have HB := Lib.hid hB
    have HF := Lib.hid hfold
    have HA2 := Lib.hid hal2
    clear hown hB hfold hal2
    by_cases hlt : k < xs.length
    · obtain ⟨b1, o1, rfl, _, hb1, hcx0⟩ := hx.at_ hlt
      obtain ⟨x, hx'⟩ : ∃ x, x = xs[k] := ⟨_, rfl⟩
      have hsx : x.size ≤ 1000000 := by rw [hx']; exact hs _ (List.getElem_mem _)
      have hfs : (xs.take (k + 1)).foldl (putStep y) ([], false) = putStep y (acc, fl) x := by
        rw [List.take_succ_eq_append_getElem hlt, List.foldl_append, HF.out, hx']; rfl
      rw [← hx'] at hcx0
      clear hx'
      have HFS := Lib.hid hfs
      clear hfs
      have HCX := Lib.hid fun (W : World) (hW : Below w.heap.size w W) => (show W.cell? ⟨b1, o1 + k, none⟩ = some (.string x) from (World.cell?_of_block (a := ⟨b1, o1 + k, none⟩) (hW.block b1 hb1)).trans hcx0)
      clear hcx0
      have hcx := HCX.out _ HB.out
      have h3 : 0 < cmpB x y ∨ cmpB x y = 0 ∨ cmpB x y < 0 := by omega
      cases fl
      · rcases h3 with hc | hc | hc
        · have g1 : decide ((0 : Int) < Lib.compareBytes x.data.toList y.data.toList) = true := by unfold cmpB at hc; simpa using hc
          have g2 : (Lib.compareBytes x.data.toList y.data.toList == 0) = false := by unfold cmpB at hc; simp; omega
          have HC := Lib.hid hc; clear hc
          have hal3 := HA2.out rfl
          go_wp2_with fail
          (with_reducible refine (c81 _ _ _ hsx hy).mono ?_); rintro e w1 ⟨rfl, n, rfl⟩
          have HO2 := Lib.hid (own_below HO.out (below_drewN (Below.refl wr.heap.size wr) n))
          have HB2 := Lib.hid (below_drewN HB.out n)
          have hcx2 := HCX.out _ HB2.out
          generalize wr.drewN n = w2 at *
          go_wp2_with (first
            | (with_reducible refine wpList_append_rd infoS rfl (.tmp 27) (.tmp 29) rfl w.heap.size _ acc.length (strv acc) rfl (HO2.out.alloc _) w2.heap.size (w2.heap.size + 1) _ 1 1 [.string y] rfl (Rd.new w2 _ _) rfl (by simp [Value.oneCell']) (by first | omega | (simp; omega)) (by have := HB2.out.size; simp; omega) ?_
               intro v1 w3 hown1 hg1 hat1
               have X := own_step (x := y) HO2.out HB2.out ((Below.refl _ _).alloc (Nat.le_refl _) _) hown1 hg1
               have hcx3 : w3.cell? ⟨b1, o1 + k, none⟩ = some (.string x) := HCX.out _ X.out.2
               clear hown1 hg1 hat1)
            | (with_reducible refine wpList_append_rd infoS rfl (.tmp 33) (.tmp 38) rfl w.heap.size _ (acc.length + 1) (strv (acc ++ [y])) rfl (X.out.1.alloc _) w3.heap.size (w3.heap.size + 1) _ 1 1 [.string x] rfl (Rd.new w3 _ _) rfl (by simp [Value.oneCell']) (by first | omega | (simp; omega)) (by have := X.out.2.size; simp; omega) ?_
               intro v2 w4 hown2 hg2 hat2
               have Y := own_step (x := x) X.out.1 X.out.2 ((Below.refl _ _).alloc (Nat.le_refl _) _) hown2 hg2
               clear hown2 hg2 hat2))
          go_roundw
          case rel =>
            refine ⟨k + 1, acc ++ [y] ++ [x], true, by omega, by go_num, rfl, by simp; omega, by simp <;> omega, ?_, by simpa using Y.out.1, Y.out.2⟩
            rw [HFS.out]
            have hc := HC.out
            unfold putStep
            have hz : ¬ cmpB x y = 0 := by omega
            simp [hc]
          case measure => simp [intOf]; omega
        · have g1 : decide ((0 : Int) < Lib.compareBytes x.data.toList y.data.toList) = false := by unfold cmpB at hc; simp; omega
          have g2 : (Lib.compareBytes x.data.toList y.data.toList == 0) = true := by unfold cmpB at hc; simp; omega
          have HC := Lib.hid hc; clear hc
          have hal3 := HA2.out rfl
          go_wp2_with fail
          (with_reducible refine (c81 _ _ _ hsx hy).mono ?_); rintro e w1 ⟨rfl, n, rfl⟩
          have HO2 := Lib.hid (own_below HO.out (below_drewN (Below.refl wr.heap.size wr) n))
          have HB2 := Lib.hid (below_drewN HB.out n)
          have hcx2 := HCX.out _ HB2.out
          generalize wr.drewN n = w2 at *
          go_wp2_with (first
            | (with_reducible refine wpList_append_rd infoS rfl (.tmp 33) (.tmp 38) rfl w.heap.size _ acc.length (strv acc) rfl (HO2.out.alloc _) w2.heap.size (w2.heap.size + 1) _ 1 1 [.string x] rfl (Rd.new w2 _ _) rfl (by simp [Value.oneCell']) (by first | omega | (simp; omega)) (by have := HB2.out.size; simp; omega) ?_
               intro v1 w3 hown1 hg1 hat1
               have Y := own_step (x := x) HO2.out HB2.out ((Below.refl _ _).alloc (Nat.le_refl _) _) hown1 hg1
               clear hown1 hg1 hat1))
          go_roundw
          case rel =>
            refine ⟨k + 1, acc ++ [x], true, by omega, by go_num, rfl, by simp; omega, by simp <;> omega, ?_, by simpa using Y.out.1, Y.out.2⟩
            rw [HFS.out]
            have hc := HC.out
            unfold putStep
            simp [hc]
          case measure => simp [intOf]; omega
        · have g1 : decide ((0 : Int) < Lib.compareBytes x.data.toList y.data.toList) = false := by unfold cmpB at hc; simp; omega
          have g2 : (Lib.compareBytes x.data.toList y.data.toList == 0) = false := by unfold cmpB at hc; simp; omega
          have HC := Lib.hid hc; clear hc
          have hal3 := HA2.out rfl
          go_wp2_with fail
          (with_reducible refine (c81 _ _ _ hsx hy).mono ?_); rintro e w1 ⟨rfl, n, rfl⟩
          have HO2 := Lib.hid (own_below HO.out (below_drewN (Below.refl wr.heap.size wr) n))
          have HB2 := Lib.hid (below_drewN HB.out n)
          have hcx2 := HCX.out _ HB2.out
          generalize wr.drewN n = w2 at *
          go_wp2_with (first
            | (with_reducible refine wpList_append_rd infoS rfl (.tmp 33) (.tmp 38) rfl w.heap.size _ acc.length (strv acc) rfl (HO2.out.alloc _) w2.heap.size (w2.heap.size + 1) _ 1 1 [.string x] rfl (Rd.new w2 _ _) rfl (by simp [Value.oneCell']) (by first | omega | (simp; omega)) (by have := HB2.out.size; simp; omega) ?_
               intro v1 w3 hown1 hg1 hat1
               have Y := own_step (x := x) HO2.out HB2.out ((Below.refl _ _).alloc (Nat.le_refl _) _) hown1 hg1
               clear hown1 hg1 hat1))
          go_roundw
          case rel =>
            refine ⟨k + 1, acc ++ [x], false, by omega, by go_num, rfl, by simp; omega, by simp <;> omega, ?_, by simpa using Y.out.1, Y.out.2⟩
            rw [HFS.out]
            have hc := HC.out
            unfold putStep
            have hz : ¬ cmpB x y = 0 := by omega
            have hp : ¬ 0 < cmpB x y := by omega
            simp [hp, hz]
          case measure => simp [intOf]; omega
      · rcases h3 with hc | hc | hc
        · have g1 : decide ((0 : Int) < Lib.compareBytes x.data.toList y.data.toList) = true := by unfold cmpB at hc; simpa using hc
          have g2 : (Lib.compareBytes x.data.toList y.data.toList == 0) = false := by unfold cmpB at hc; simp; omega
          have HC := Lib.hid hc; clear hc
          go_wp2_with fail
          (with_reducible refine (c81 _ _ _ hsx hy).mono ?_); rintro e w1 ⟨rfl, n, rfl⟩
          have HO2 := Lib.hid (own_below HO.out (below_drewN (Below.refl wr.heap.size wr) n))
          have HB2 := Lib.hid (below_drewN HB.out n)
          have hcx2 := HCX.out _ HB2.out
          generalize wr.drewN n = w2 at *
          go_wp2_with (first
            | (with_reducible refine wpList_append_rd infoS rfl (.tmp 33) (.tmp 38) rfl w.heap.size _ acc.length (strv acc) rfl (HO2.out.alloc _) w2.heap.size (w2.heap.size + 1) _ 1 1 [.string x] rfl (Rd.new w2 _ _) rfl (by simp [Value.oneCell']) (by first | omega | (simp; omega)) (by have := HB2.out.size; simp; omega) ?_
               intro v1 w3 hown1 hg1 hat1
               have Y := own_step (x := x) HO2.out HB2.out ((Below.refl _ _).alloc (Nat.le_refl _) _) hown1 hg1
               clear hown1 hg1 hat1))
          go_roundw
          case rel =>
            refine ⟨k + 1, acc ++ [x], true, by omega, by go_num, rfl, by simp; omega, by simp <;> omega, ?_, by simpa using Y.out.1, Y.out.2⟩
            rw [HFS.out]
            have hc := HC.out
            unfold putStep
            have hz : ¬ cmpB x y = 0 := by omega
            simp [hc, hz]
          case measure => simp [intOf]; omega
        · have g1 : decide ((0 : Int) < Lib.compareBytes x.data.toList y.data.toList) = false := by unfold cmpB at hc; simp; omega
          have g2 : (Lib.compareBytes x.data.toList y.data.toList == 0) = true := by unfold cmpB at hc; simp; omega
          have HC := Lib.hid hc; clear hc
          go_wp2_with fail
          (with_reducible refine (c81 _ _ _ hsx hy).mono ?_); rintro e w1 ⟨rfl, n, rfl⟩
          have HO2 := Lib.hid (own_below HO.out (below_drewN (Below.refl wr.heap.size wr) n))
          have HB2 := Lib.hid (below_drewN HB.out n)
          have hcx2 := HCX.out _ HB2.out
          generalize wr.drewN n = w2 at *
          go_wp2_with (first
            | (with_reducible refine wpList_append_rd infoS rfl (.tmp 33) (.tmp 38) rfl w.heap.size _ acc.length (strv acc) rfl (HO2.out.alloc _) w2.heap.size (w2.heap.size + 1) _ 1 1 [.string x] rfl (Rd.new w2 _ _) rfl (by simp [Value.oneCell']) (by first | omega | (simp; omega)) (by have := HB2.out.size; simp; omega) ?_
               intro v1 w3 hown1 hg1 hat1
               have Y := own_step (x := x) HO2.out HB2.out ((Below.refl _ _).alloc (Nat.le_refl _) _) hown1 hg1
               clear hown1 hg1 hat1))
          go_roundw
          case rel =>
            refine ⟨k + 1, acc ++ [x], true, by omega, by go_num, rfl, by simp; omega, by simp <;> omega, ?_, by simpa using Y.out.1, Y.out.2⟩
            rw [HFS.out]
            have hc := HC.out
            unfold putStep
            simp [hc]
          case measure => simp [intOf]; omega
        · have g1 : decide ((0 : Int) < Lib.compareBytes x.data.toList y.data.toList) = false := by unfold cmpB at hc; simp; omega
          have g2 : (Lib.compareBytes x.data.toList y.data.toList == 0) = false := by unfold cmpB at hc; simp; omega
          have HC := Lib.hid hc; clear hc
          go_wp2_with fail
          (with_reducible refine (c81 _ _ _ hsx hy).mono ?_); rintro e w1 ⟨rfl, n, rfl⟩
          have HO2 := Lib.hid (own_below HO.out (below_drewN (Below.refl wr.heap.size wr) n))
          have HB2 := Lib.hid (below_drewN HB.out n)
          have hcx2 := HCX.out _ HB2.out
          generalize wr.drewN n = w2 at *
          go_wp2_with (first
            | (with_reducible refine wpList_append_rd infoS rfl (.tmp 33) (.tmp 38) rfl w.heap.size _ acc.length (strv acc) rfl (HO2.out.alloc _) w2.heap.size (w2.heap.size + 1) _ 1 1 [.string x] rfl (Rd.new w2 _ _) rfl (by simp [Value.oneCell']) (by first | omega | (simp; omega)) (by have := HB2.out.size; simp; omega) ?_
               intro v1 w3 hown1 hg1 hat1
               have Y := own_step (x := x) HO2.out HB2.out ((Below.refl _ _).alloc (Nat.le_refl _) _) hown1 hg1
               clear hown1 hg1 hat1))
          go_roundw
          case rel =>
            refine ⟨k + 1, acc ++ [x], true, by omega, by go_num, rfl, by simp; omega, by simp <;> omega, ?_, by simpa using Y.out.1, Y.out.2⟩
            rw [HFS.out]
            have hc := HC.out
            unfold putStep
            have hz : ¬ cmpB x y = 0 := by omega
            have hp : ¬ 0 < cmpB x y := by omega
            simp [hp, hz]
          case measure => simp [intOf]; omega
    · obtain rfl : k = xs.length := by omega
      have hp : putR y xs = if fl then acc else acc ++ [y] := by
        rw [← putL_eq]
        unfold putL
        have := HF.out
        rw [List.take_of_length_le (Nat.le_refl _)] at this
        rw [this]
      have HP := Lib.hid hp
      clear hp hlt
      cases fl
      · have hal3 := HA2.out rfl
        have HO2 := HO
        have HB2 := HB
        have HW : Hid (wr = wr) := Lib.hid rfl
        go_wp2_with (first
          | (with_reducible refine wpList_append_rd infoS rfl (.tmp 42) (.tmp 44) rfl w.heap.size _ acc.length (strv acc) rfl (HO2.out.alloc _) wr.heap.size (wr.heap.size + 1) _ 1 1 [.string y] rfl (Rd.new wr _ _) rfl (by simp [Value.oneCell']) (by first | omega | (simp; omega)) (by have := HB2.out.size; simp; omega) ?_
             intro v1 w3 hown1 hg1 hat1
             have Y := own_step (x := y) HO2.out HB2.out ((Below.refl _ _).alloc (Nat.le_refl _) _) hown1 hg1
             clear hown1 hg1 hat1))
        go_ret
        rw [HP.out]
        exact ⟨_, rfl, by simpa using Y.out.1, Y.out.2⟩
      · go_wp2_with fail
        go_ret
        rw [HP.out]
        exact ⟨_, rfl, by simpa using HO.out, HB.out⟩

end Go.Proofs.Ytepmcfleijiloaa
