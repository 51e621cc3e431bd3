/- What the statements share on lists of texts: contracts of inkhornlaw0's functions. -/
import Derived.Test.YtepmcfleijiloaaA0
namespace Go.Proofs.Ytepmcfleijiloaa
open Go.RowKit

set_option maxHeartbeats 400000 in
/-- SameTexts -/
theorem c39 (w : World) (lo lo2 : Nat) (A B : Option Addr) (c d : Nat) (xs ys : List ByteArray) (hx : Strs w lo A c xs) (hy : Strs w lo2 B d ys) :
    Calls Try.prog 39 #[.slice A xs.length c, .slice B ys.length d] w fun e w' => e = .returned (.bool (decide (xs = ys))) ∧ ∃ n, w' = w.drewN n := by
  have hl1 := hx.2.1
  have hl2 := hy.2.1
  have hm1 := hx.2.2
  have hm2 := hy.2.2
  by_cases hlen : xs.length = ys.length
  · have hne : ((xs.length : Int) != (ys.length : Int)) = false := by simp [hlen]
    have HL := Lib.hid hlen; clear hlen
    go_enter Try.func39, Try.ntmps39
    go_wp2
    go_loopw [5] (fun i wr => ∃ k n : Nat, k ≤ xs.length ∧ i = .int .i64 k ∧ xs.take k = ys.take k ∧ wr = w.drewN n) (fun i _ => xs.length - (intOf i).toNat)
    case atStart => exact ⟨0, 0, Nat.zero_le _, rfl, by simp, rfl⟩
    case round =>
      obtain ⟨k, n, hk, rfl, ht, rfl⟩ := hrel
      have HT := Lib.hid ht; clear ht
      by_cases hlt : k < xs.length
      · have hlt2 : k < ys.length := by have := HL.out; omega
        obtain ⟨b1, o1, rfl, _, hb, hcx⟩ := hx.at_ hlt
        obtain ⟨b2, o2, rfl, _, hb', hcy⟩ := hy.at_ (k := k) (by have := HL.out; omega)
        obtain ⟨x, hx'⟩ : ∃ x, x = xs[k] := ⟨_, rfl⟩
        obtain ⟨y, hy'⟩ : ∃ y, y = ys[k] := ⟨_, rfl⟩
        rw [← hx'] at hcx
        rw [← hy'] at hcy
        have HX := Lib.hid hx'; have HY := Lib.hid hy'; clear hx' hy'
        by_cases hxy : x = y
        · have hb1 : (!x.toList == y.toList) = false := by simp [hxy]
          have HXY := Lib.hid hxy; clear hxy
          go_wp2
          go_quiet (fail)
          go_wp2
          go_roundw
          case rel =>
            refine ⟨k + 1, _, by omega, by go_num, ?_, rfl⟩
            rw [List.take_succ_eq_append_getElem hlt, List.take_succ_eq_append_getElem hlt2, HT.out, ← HX.out, ← HY.out, HXY.out]
          case measure => simp [intOf]; omega
        · have hb1 : (!x.toList == y.toList) = true := by rw [data_ext] at hxy; simpa using hxy
          have HXY := Lib.hid hxy; clear hxy
          go_wp2
          go_quiet (fail)
          go_wp2
          go_ret
          refine ⟨?_, _, World.drewN_drewN _ _ _⟩
          have : xs ≠ ys := fun h => HXY.out (by rw [HX.out, HY.out]; simp only [h])
          rw [decide_eq_false this]; rfl
      · go_wp2
        go_ret
        refine ⟨?_, n, rfl⟩
        have : xs = ys := by
          have h := HT.out
          rwa [List.take_of_length_le (by omega), List.take_of_length_le (by have := HL.out; omega)] at h
        rw [decide_eq_true this]; rfl
  · have hne : ((xs.length : Int) != (ys.length : Int)) = true := by simp; omega
    have H := Lib.hid hlen; clear hlen
    go_enter Try.func39, Try.ntmps39
    go_wp2
    go_ret
    refine ⟨?_, 0, rfl⟩
    rw [decide_eq_false (fun h => H.out (by rw [h]))]; rfl

def greatB (ss : List ByteArray) : Bool := decide (80 < ss.length) || ss.any (fun s => decide (100 < s.size))

set_option maxHeartbeats 400000 in
/-- GreatTexts -/
theorem c22 (w : World) (lo : Nat) (A : Option Addr) (c : Nat) (xs : List ByteArray) (hx : Strs w lo A c xs) :
    Calls Try.prog 22 #[.slice A xs.length c] w fun e w' => e = .returned (.bool (greatB xs)) ∧ w = w' := by
  have hl1 := hx.2.1
  have hm1 := hx.2.2
  by_cases h80 : xs.length ≤ 80
  · go_enter Try.func22, Try.ntmps22
    go_wp2
    go_loop [3] (fun i => ∃ k : Nat, k ≤ xs.length ∧ i = .int .i64 k ∧ (xs.take k).any (fun s => decide (100 < s.size)) = false) (fun i => xs.length - (intOf i).toNat)
    case atStart => exact ⟨0, Nat.zero_le _, rfl, by simp⟩
    case round =>
      obtain ⟨k, hk, rfl, ht⟩ := hrel
      have HT := Lib.hid ht; clear ht
      by_cases hlt : k < xs.length
      · obtain ⟨b1, o1, rfl, _, hb, hcx⟩ := hx.at_ hlt
        obtain ⟨x, hx'⟩ : ∃ x, x = xs[k] := ⟨_, rfl⟩
        rw [← hx'] at hcx
        have HX := Lib.hid hx'; clear hx'
        have h80' : (xs.length : Int) ≤ 80 := by omega
        by_cases hs : 100 < x.size
        · go_wp2
          go_ret
          refine ⟨?_, rfl⟩
          have : greatB xs = true := by
            unfold greatB
            rw [Bool.or_eq_true, List.any_eq_true]
            exact .inr ⟨x, by rw [HX.out]; exact List.getElem_mem _, by simpa using hs⟩
          rw [this]; rfl
        · go_wp2
          go_round
          case rel =>
            refine ⟨k + 1, by omega, by go_num, ?_⟩
            rw [List.take_succ_eq_append_getElem hlt, List.any_append, HT.out, ← HX.out]
            simpa using hs
          case measure => simp [intOf]; omega
      · go_wp2
        go_ret
        refine ⟨?_, rfl⟩
        have : greatB xs = false := by
          have h := HT.out
          rw [List.take_of_length_le (by omega)] at h
          unfold greatB
          rw [h]; simp; omega
        rw [this]
        simp; omega
  · have hgr : greatB xs = true := by unfold greatB; simp; omega
    have H := Lib.hid hgr; clear hgr
    go_enter Try.func22, Try.ntmps22
    go_wp2
    go_loop [3] (fun i => i = .int .i64 0) (fun i => 0)
    case atStart => rfl
    case round =>
      obtain rfl := hrel
      go_wp2
      go_ret
      rw [H.out]
      refine ⟨?_, rfl⟩
      simp

def lent : ByteArray := ⟨#[108, 101, 110, 116]⟩

set_option maxHeartbeats 1000000 in
set_option maxRecDepth 100000 in
/-- LendTexts -/
theorem c24 (w : World) (lo : Nat) (A : Option Addr) (c : Nat) (xs : List ByteArray) (hx : Strs w lo A c xs) (hn : xs.length ≤ 1000000) :
    Calls Try.prog 24 #[.slice A xs.length c] w fun e w' => ∃ g, e = .returned (.slice (some ⟨g, 0, none⟩) xs.length (xs.length + 3)) ∧ w.heap.size ≤ g ∧ Below w.heap.size w w' ∧
      w'.ownsRow w.heap.size 9 1 (.slice (some ⟨g, 0, none⟩) (xs.length + 3) (xs.length + 3)) (xs.length + 3) (strv (xs ++ [lent, lent, lent])) := by
  have hl1 := hx.2.1
  have hm1 := hx.2.2
  go_enter Try.func24, Try.ntmps24
  go_wp2_with (first
    | (with_reducible refine wpList_make_rd infoS rfl _ _ rfl w.heap.size (xs.length + 3) rfl rfl (by omega) (by omega) (Nat.le_refl _) ?_
       intro w1 hown1 hg1)
    | (with_reducible refine wpList_append_fit infoS rfl (.tmp 10) (.tmp 11) rfl w.heap.size w.heap.size 0 (xs.length + 3) [] rfl hown1 lo w.heap.size A xs.length c (strv xs) rfl ?_ (by simp [strv]) (strv_one xs) (by omega) ?_
       exact hx.1.below ⟨hg1.os, hg1.tape, hg1.output, hg1.size, fun i hi => hg1.block i hi (by simp)⟩
       intro w2 hown2 hg2))
  have hB : Below w.heap.size w w2 := ((Below.refl _ _).grown hg1 (Nat.le_refl _) (by simp)).grown hg2 hg1.size (by simp)
  simp only [Nat.zero_add, List.nil_append] at hown2
  have HO := Lib.hid hown2
  have HB := Lib.hid hB
  clear hown2 hB hg1 hg2 hown1
  go_loopw [5] (fun i wr => ∃ k : Nat, k ≤ 3 ∧ i = .int .i64 k ∧ wr.ownsRow w.heap.size 9 1 (.slice (some ⟨w.heap.size, 0, none⟩) (xs.length + k) (xs.length + 3)) (xs.length + k) (strv xs ++ strv (List.replicate k lent)) ∧ Below w.heap.size w wr) (fun i _ => 3 - (intOf i).toNat)
  case atStart => exact ⟨0, by omega, rfl, by simpa [strv] using HO.out, HB.out⟩
  case round =>
    clear HO HB
    obtain ⟨k, hk, rfl, hown, hB⟩ := hrel
    by_cases hlt : k < 3
    · obtain ⟨⟨u, hcell⟩, hfr⟩ := own_room_cell hown (j := xs.length + k) (by omega)
      have HO := Lib.hid (own_room hown (by omega) (.string lent))
      have HB := Lib.hid (hB.setCell (p := ⟨w.heap.size, xs.length + k, none⟩) (Nat.le_refl _) (.string lent))
      clear hown hB
      go_wp2
      go_roundw
      case rel =>
        refine ⟨k + 1, by omega, by go_num, ?_, HB.out⟩
        have := HO.out
        rw [List.replicate_succ', strv_append, ← List.append_assoc]
        exact this
      case measure => simp [intOf]; omega
    · obtain rfl : k = 3 := by omega
      have HO := Lib.hid hown
      have HB := Lib.hid hB
      clear hown hB
      go_wp2
      go_ret
      refine ⟨_, rfl, Nat.le_refl _, HB.out, ?_⟩
      rw [strv_append]
      exact HO.out

set_option maxHeartbeats 1000000 in
set_option maxRecDepth 100000 in
/-- KeptTexts: what was lent has its room as it was marked. -/
theorem c28 (w : World) (lo lo2 g : Nat) (B : Option Addr) (d : Nat) (zs ys : List ByteArray) (hz : Rd w lo w.heap.size (some ⟨g, 0, none⟩) (strv (zs ++ [lent, lent, lent]))) (hn : zs.length ≤ 1000000) (hy : Strs w lo2 B d ys) :
    Calls Try.prog 28 #[.slice (some ⟨g, 0, none⟩) zs.length (zs.length + 3), .slice B ys.length d] w fun e w' => e = .returned (.bool (decide (zs = ys))) ∧ ∃ n, w' = w.drewN n := by
  have hzs : Strs w lo (some ⟨g, 0, none⟩) (zs.length + 3) zs := by
    refine ⟨?_, by omega, by omega⟩
    have := hz.take zs.length
    rwa [strv_append, List.take_left' (strv_len zs)] at this
  obtain ⟨b, o, e, _, _, hc⟩ := hz (by simp [strv])
  injection e with e
  injection e with e1 e2
  subst e1; subst e2
  have c0 : w.cell? ⟨g, zs.length, none⟩ = some (.string lent) := by simpa using hc zs.length (.string lent) (by simp [strv])
  have c1 : w.cell? ⟨g, zs.length + 1, none⟩ = some (.string lent) := by simpa using hc (zs.length + 1) (.string lent) (by simp [strv])
  have c2 : w.cell? ⟨g, zs.length + 2, none⟩ = some (.string lent) := by simpa using hc (zs.length + 2) (.string lent) (by simp [strv])
  clear hc hz
  go_enter Try.func28, Try.ntmps28
  go_wp2
  go_loop [6] (fun i => ∃ k : Nat, k ≤ 3 ∧ i = .int .i64 k) (fun i => 3 - (intOf i).toNat)
  case atStart => exact ⟨0, by omega, rfl⟩
  case round =>
    obtain ⟨k, hk, rfl⟩ := hrel
    by_cases hlt : k < 3
    · have ck : w.cell? ⟨g, zs.length + k, none⟩ = some (.string lent) := by
        match k, hlt with
        | 0, _ => exact c0
        | 1, _ => exact c1
        | 2, _ => exact c2
      have hb : (!lent.toList == ([108, 101, 110, 116] : List UInt8)) = false := by simp [lent, Lib.toList_data]
      clear c0 c1 c2
      go_wp2
      go_round
      case rel => exact ⟨k + 1, by omega, by go_num⟩
      case measure => simp [intOf]; omega
    · clear c0 c1 c2
      go_wp2_with (go_at_call 39; refine (c39 _ _ _ _ _ _ _ _ _ hzs hy).mono ?_; rintro e w' ⟨rfl, n, rfl⟩)
      go_ret
      exact ⟨rfl, n, rfl⟩

def over : ByteArray := ⟨#[111, 118, 101, 114]⟩

set_option maxHeartbeats 1000000 in
set_option maxRecDepth 100000 in
/-- OverTexts -/
theorem c64 (w : World) (base : Nat) (v : Value) (xs : List ByteArray) (hown : w.ownsRow base 9 1 v xs.length (strv xs)) (hn : xs.length ≤ 1000000) (B : Nat) (hB1 : B ≤ base) (hB2 : base ≤ w.heap.size) :
    Calls Try.prog 64 #[v] w fun e w' => e = .returned (.tuple #[]) ∧ Below B w w' := by
  obtain ⟨A, c, rfl, hc1, hc2⟩ := own_slice hown
  have HO := Lib.hid hown
  clear hown
  go_enter Try.func64, Try.ntmps64
  go_wp2
  go_loopw [2] (fun i wr => ∃ (k : Nat) (zs : List ByteArray), k ≤ xs.length ∧ i = .int .i64 k ∧ wr.ownsRow base 9 1 (.slice A xs.length c) xs.length (strv zs) ∧ Below B w wr ∧ base ≤ wr.heap.size) (fun i _ => xs.length - (intOf i).toNat)
  case atStart => exact ⟨0, xs, by omega, rfl, HO.out, Below.refl _ _, hB2⟩
  case round =>
    clear HO
    obtain ⟨k, zs, hk, rfl, hown, hB, hs⟩ := hrel
    have hlz : zs.length = xs.length := by have := hown.1; simpa [strv] using this
    by_cases hlt : k < xs.length
    · obtain ⟨g, cap, hv, hbg, hgl⟩ := hown.form (by omega)
      injection hv with hA _ hcc
      subst hA; subst hcc
      have hcell : wr.cell? ⟨g, k, none⟩ = some (.string (zs[k]'(by omega))) := by rw [hown.cellAt k (by omega)]; simp [strv, hlz, hlt]
      have hfr := hown.frozenAt k
      have HO := Lib.hid (hown.stored k (.string over)).1
      have HB := Lib.hid (hB.setCell (p := ⟨g, k, none⟩) (by show B ≤ g; omega) (.string over))
      clear hown hB
      go_wp2
      go_roundw
      case rel =>
        refine ⟨k + 1, zs.set k over, by omega, by go_num, ?_, HB.out, by simpa using hs⟩
        have := HO.out
        rw [strv, List.map_set]
        exact this
      case measure => simp [intOf]; omega
    · have HO := Lib.hid hown
      have HB := Lib.hid hB
      clear hown hB
      go_wp2_with (first
        | (with_reducible refine wpList_append_rd infoS rfl (.tmp 12) (.tmp 13) rfl base _ xs.length (strv zs) rfl (HO.out.alloc _) wr.heap.size (wr.heap.size + 1) _ 1 1 [.string over] rfl (Rd.new wr _ _) rfl (by simp [Value.oneCell']) (by omega) (by simp; omega) ?_
           intro v1 w1 hown1 hg1 hat1))
      go_end0
      refine ⟨rfl, ?_⟩
      refine (HB.out.alloc (Nat.le_trans hB1 hs) _).grown hg1 (by simp; omega) (fun q hq => ?_)
      have := HO.out.lt q hq
      omega

end Go.Proofs.Ytepmcfleijiloaa
