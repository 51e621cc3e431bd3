/- Contracts of the reference of chapter 1: bytes, Text, Prefix. -/
import Derived.Test.YtepmcfleijiloaaD3
import Derived.Test.YtepmcfleijiloaaP6
import Derived.Laws.IdiomStrings
import Derived.Outline
set_option linter.unusedVariables false
namespace Go.Proofs.Ytepmcfleijiloaa
open Go.RowKit

theorem back (w : World) (l : List UInt8) (xs : List Value) (n : Nat) (hn : n = l.length) (hx : xs = l.map fun b => Value.int .u8 (b.toNat : Int)) :
    (convert 62 9 (.slice (some ⟨w.heap.size, 0, none⟩) n n)).run Try.prog (w.alloc (.cells xs.toArray 5)) = .ok (.string ⟨l.toArray⟩) (w.alloc (.cells xs.toArray 5)) := by
  subst hn
  exact run_convert_bytes_back _ 62 9 5 ⟨w.heap.size, 0, none⟩ l.length l Try.underlying62 Try.underlying5 Try.underlying9 fun j hj => by
    rw [add_plain, Nat.zero_add, cell_new, hx]
    simp [hj]
theorem txt_one (r : Nat) (h : okR r) : txt [r] = ⟨((encN r).map fun n => n.toUInt8).toArray⟩ := by
  apply txt_ext
  rw [txt_data, encL_cons, encL_nil, encR_N h]
  simp
theorem u8_nat {n : Nat} (h : n < 256) : ((n.toUInt8).toNat : Int) = n := by simp; omega

set_option maxHeartbeats 1000000 in
set_option maxRecDepth 100000 in
/-- inkhornref1.bytes -/
theorem c140 (r : Nat) (h : okR r) (w : World) :
    Calls Try.prog 140 #[.int .i32 r] w fun e w' => e = .returned (.string (txt [r])) ∧ Below w.heap.size w w' := by
  have HT := Lib.hid (txt_one r h)
  have HB : Hid (Below w.heap.size w w) := Lib.hid (Below.refl _ _)
  obtain ⟨h1, h2⟩ := h
  have h0 : (0 : Int) ≤ r := by omega
  have h3 : (r : Int) ≤ 1114111 := by omega
  have hlt : r < 1114112 := by omega
  by_cases k1 : r < 128
  · have b1 : decide ((r : Int) < 128) = true := by simp; omega
    have hb := back w [(r).toUInt8] [.int .u8 ((r : Int))] 1 rfl (by
      simp only [List.map_cons, List.map_nil]
      rw [u8_nat (by omega)]
      all_goals (first | rfl | (push_cast; rfl)))
    have e : txt [r] = ⟨#[(r).toUInt8]⟩ := by rw [HT.out]; unfold encN; rw [if_pos k1]; rfl
    rw [show (⟨[(r).toUInt8].toArray⟩ : ByteArray) = txt [r] from e.symm] at hb
    have K := Lib.hid k1
    have q1 : (r : Int) ≤ 127 := by omega
    clear k1 h1 h2 h3 hlt
    clear e
    go_enter Try.func140, Try.ntmps140
    go_wp2_with fail
    go_ret
    exact ⟨rfl, HB.out.alloc (Nat.le_refl _) _⟩
  · by_cases k2 : r < 2048
    · have b1 : decide ((r : Int) < 128) = false := by simp; omega
      have b2 : decide ((r : Int) < 2048) = true := by simp; omega
      have hb := back w [(192 + r / 64).toUInt8, (128 + r % 64).toUInt8] [.int .u8 (192 + (r : Int) / 64), .int .u8 (128 + (r : Int) % 64)] 2 rfl (by
        simp only [List.map_cons, List.map_nil]
        rw [u8_nat (by omega), u8_nat (by omega)]
        all_goals (first | rfl | (push_cast; rfl)))
      have e : txt [r] = ⟨#[(192 + r / 64).toUInt8, (128 + r % 64).toUInt8]⟩ := by rw [HT.out]; unfold encN; rw [if_neg k1, if_pos k2]; rfl
      rw [show (⟨[(192 + r / 64).toUInt8, (128 + r % 64).toUInt8].toArray⟩ : ByteArray) = txt [r] from e.symm] at hb
      have q1 : (r : Int) / 64 ≤ 31 := by omega
      have q2 : 0 ≤ (r : Int) / 64 := by omega
      clear k1 k2 h1 h2 h3 hlt
      clear e
      go_enter Try.func140, Try.ntmps140
      go_wp2_with fail
      go_ret
      exact ⟨rfl, HB.out.alloc (Nat.le_refl _) _⟩
    · by_cases k3 : r < 65536
      · have b1 : decide ((r : Int) < 128) = false := by simp; omega
        have b2 : decide ((r : Int) < 2048) = false := by simp; omega
        have b3 : decide ((r : Int) < 65536) = true := by simp; omega
        have hb := back w [(224 + r / 4096).toUInt8, (128 + r / 64 % 64).toUInt8, (128 + r % 64).toUInt8] [.int .u8 (224 + (r : Int) / 4096), .int .u8 (128 + (r : Int) / 64 % 64), .int .u8 (128 + (r : Int) % 64)] 3 rfl (by
          simp only [List.map_cons, List.map_nil]
          rw [u8_nat (by omega), u8_nat (by omega), u8_nat (by omega)]
          all_goals (first | rfl | (push_cast; rfl)))
        have e : txt [r] = ⟨#[(224 + r / 4096).toUInt8, (128 + r / 64 % 64).toUInt8, (128 + r % 64).toUInt8]⟩ := by rw [HT.out]; unfold encN; rw [if_neg k1, if_neg k2, if_pos k3]; rfl
        rw [show (⟨[(224 + r / 4096).toUInt8, (128 + r / 64 % 64).toUInt8, (128 + r % 64).toUInt8].toArray⟩ : ByteArray) = txt [r] from e.symm] at hb
        have q1 : (r : Int) / 4096 ≤ 15 := by omega
        have q2 : 0 ≤ (r : Int) / 4096 := by omega
        clear k1 k2 k3 h1 h2 h3 hlt
        clear e
        go_enter Try.func140, Try.ntmps140
        go_wp2_with fail
        go_ret
        exact ⟨rfl, HB.out.alloc (Nat.le_refl _) _⟩
      · have b1 : decide ((r : Int) < 128) = false := by simp; omega
        have b2 : decide ((r : Int) < 2048) = false := by simp; omega
        have b3 : decide ((r : Int) < 65536) = false := by simp; omega
        have hb := back w [(240 + r / 262144).toUInt8, (128 + r / 4096 % 64).toUInt8, (128 + r / 64 % 64).toUInt8, (128 + r % 64).toUInt8] [.int .u8 (240 + (r : Int) / 262144), .int .u8 (128 + (r : Int) / 4096 % 64), .int .u8 (128 + (r : Int) / 64 % 64), .int .u8 (128 + (r : Int) % 64)] 4 rfl (by
          simp only [List.map_cons, List.map_nil]
          rw [u8_nat (by omega), u8_nat (by omega), u8_nat (by omega), u8_nat (by omega)]
          all_goals (first | rfl | (push_cast; rfl)))
        have e : txt [r] = ⟨#[(240 + r / 262144).toUInt8, (128 + r / 4096 % 64).toUInt8, (128 + r / 64 % 64).toUInt8, (128 + r % 64).toUInt8]⟩ := by rw [HT.out]; unfold encN; rw [if_neg k1, if_neg k2, if_neg k3]; rfl
        rw [show (⟨[(240 + r / 262144).toUInt8, (128 + r / 4096 % 64).toUInt8, (128 + r / 64 % 64).toUInt8, (128 + r % 64).toUInt8].toArray⟩ : ByteArray) = txt [r] from e.symm] at hb
        have q1 : (r : Int) / 262144 ≤ 4 := by omega
        have q2 : 0 ≤ (r : Int) / 262144 := by omega
        clear k1 k2 k3 h1 h2 h3 hlt
        clear e
        go_enter Try.func140, Try.ntmps140
        go_wp2_with fail
        go_ret
        exact ⟨rfl, HB.out.alloc (Nat.le_refl _) _⟩

theorem goodR_ok {r : Nat} (h : okR r) : goodR r = true := by
  obtain ⟨h1, h2⟩ := h
  unfold goodR
  simp
  omega
theorem txt_snoc (t : List Nat) (r : Nat) : txt t ++ txt [r] = txt (t ++ [r]) := by
  apply txt_ext
  rw [txt_data, encL_append, ByteArray.data_append, Array.toList_append, txt_data, txt_data]

set_option maxHeartbeats 1000000 in
set_option maxRecDepth 100000 in
/-- inkhornref1.Text, of runes that may stand in a text -/
theorem c122 (w : World) (lo : Nat) (A : Option Addr) (c : Nat) (rs : List Nat) (hr : Rd w lo w.heap.size A (i32v rs)) (hc : rs.length ≤ c) (hc2 : c ≤ 9223372036854775807) (hok : okT rs) (hn : rs.length ≤ 100000) :
    Calls Try.prog 122 #[.slice A rs.length c] w fun e w' => e = .returned (.tuple #[.string (txt rs), .bool true]) ∧ Below w.heap.size w w' := by
  go_enter Try.func122, Try.ntmps122
  go_wp2_with fail
  go_loopw [4, 5] (fun s i wr => ∃ k : Nat, k ≤ rs.length ∧ i = .int .i64 k ∧ s = .string (txt (rs.take k)) ∧ Hid (Below w.heap.size w wr)) (fun _ i _ => rs.length - (intOf i).toNat)
  case atStart => exact ⟨0, by omega, rfl, rfl, Lib.hid (Below.refl _ _)⟩
  case round =>
    obtain ⟨k, hk, rfl, rfl, HB⟩ := hrel
    by_cases hlt : k < rs.length
    · obtain ⟨b, o, rfl, _, _, hcell⟩ := (hr.ext HB.out).at_ (k := k) (by rw [i32v_len]; exact hlt)
      have e : (i32v rs)[k]'(by rw [i32v_len]; exact hlt) = .int .i32 (rs[k] : Nat) := by simp [i32v]
      rw [e] at hcell
      obtain ⟨r, hrr⟩ : ∃ r, r = rs[k] := ⟨_, rfl⟩
      have hokr : okR r := by rw [hrr]; exact hok _ (List.getElem_mem _)
      have hr1 : -2147483648 ≤ (r : Int) := by omega
      have hr2 : (r : Int) ≤ 2147483647 := by have := hokr.1; omega
      rw [← hrr] at hcell
      have hg := goodR_ok hokr
      have hs := txt_snoc (rs.take k) r
      have HS : Hid (txt (rs.take k) ++ txt [r] = txt (rs.take (k + 1))) := by
        rw [List.take_succ_eq_append_getElem hlt, ← hrr]; exact Lib.hid hs
      have hsum : (txt (rs.take k)).size + (txt [r]).size ≤ 9223372036854775807 := by
        rw [txt_size, txt_size]
        have h1 := encL_len (t := rs.take k) (fun r hr => hok r (List.mem_of_mem_take hr))
        have h2 := encL_len (t := [r]) (fun q hq => by simp at hq; subst hq; exact hokr)
        have h3 := List.length_take_le k rs
        simp only [List.length_cons, List.length_nil] at h2
        omega
      clear hs e hrr
      go_wp2_with fail
      (with_reducible refine (c121 r wr hr1 hr2).mono ?_); rintro e w1 ⟨rfl, rfl⟩
      rw [hg]
      go_wp2_with fail
      (with_reducible refine (c140 r hokr wr).mono ?_); rintro e w1 ⟨rfl, hb⟩
      go_wp2_with fail
      go_roundw
      case rel => exact ⟨k + 1, by omega, by go_num, by rw [← HS.out], Lib.hid (below_ext HB.out hb)⟩
      case measure => simp [intOf]; omega
    · obtain rfl : k = rs.length := by omega
      rw [List.take_length]
      go_wp2_with fail
      go_ret2
      exact ⟨rfl, HB.out⟩

theorem gotRunes_txt {t : List Nat} (h : okT t) : gotRunes (txt t) = t ∧ okRunes (txt t) = true := by
  have hr := runes_txt t h
  have hn : 65533 ∉ runes (txt t) 0 := by
    rw [hr]
    intro hm
    exact (h _ hm).2 rfl
  constructor
  · unfold gotRunes
    rw [if_neg hn, hr]
  · exact decide_eq_true hn

set_option maxHeartbeats 1000000 in
set_option maxRecDepth 100000 in
/-- inkhornref1.Prefix, of one rune -/
theorem c102 (w : World) (t : List Nat) (hok : okT t) (hn : t.length ≤ 100000) (s : ByteArray) (hs : s = txt (t.take 1)) :
    Calls Try.prog 102 #[.string (txt t), .int .i64 1] w fun e w' => e = .returned (.string s) ∧ Below w.heap.size w w' := by
  obtain ⟨g1, g2⟩ := gotRunes_txt hok
  have hsz : (txt t).size ≤ 1000000 := by
    rw [txt_size]
    have := encL_len hok
    omega
  have h101 := c101 (txt t) w hsz
  rw [g1, g2] at h101
  have H101 := Lib.hid h101
  clear h101 g1 g2
  have HS := Lib.hid hs
  clear hs
  go_enter Try.func102, Try.ntmps102
  go_wp2_with fail
  (with_reducible refine H101.out.mono ?_); rintro e w1 ⟨v, rfl, ho, hb⟩
  obtain ⟨A, c, rfl, hc1, hc2⟩ := own_slice ho
  have HO := Lib.hid ho
  have HB := Lib.hid hb
  clear ho hb
  by_cases h1 : 1 < t.length
  · have hb1 : decide ((1 : Int) < t.length) = true := by simp; omega
    go_wp2_with fail
    have h122 := c122 w1 0 A c (t.take 1) (by have := (Rd.of_own HO.out).take 1; rw [show (i32v t).take 1 = i32v (t.take 1) by simp [i32v]] at this; exact this.wide (Nat.zero_le _) (Nat.le_refl _)) (by simp; omega) hc2 (fun r hr => hok r (List.mem_of_mem_take hr)) (by simp; omega)
    rw [show (t.take 1).length = 1 by simp; omega, ← HS.out] at h122
    (with_reducible refine h122.mono ?_); rintro e w2 ⟨rfl, hb⟩
    go_wp2_with fail
    go_ret
    exact ⟨rfl, below_ext HB.out hb⟩
  · have hb1 : decide ((1 : Int) < t.length) = false := by simp; omega
    go_wp2_with fail
    have h122 := c122 w1 0 A c t ((Rd.of_own HO.out).wide (Nat.zero_le _) (Nat.le_refl _)) hc1 hc2 hok hn
    rw [show txt t = s by rw [HS.out, List.take_of_length_le (by omega)]] at h122
    (with_reducible refine h122.mono ?_); rintro e w2 ⟨rfl, hb⟩
    go_wp2_with fail
    go_ret
    exact ⟨rfl, below_ext HB.out hb⟩

set_option maxHeartbeats 1000000 in
set_option maxRecDepth 100000 in
/-- inkhornref8.same -/
theorem c100 (w : World) (lo lo2 : Nat) (A B : Option Addr) (c d : Nat) (xs ys : List ByteArray) (hx : Strs w lo A c xs) (hy : Strs w lo2 B d ys) :
    Calls Try.prog 100 #[.slice A xs.length c, .slice B ys.length d] w fun e w' => e = .returned (.bool (decide (xs = ys))) ∧ ∃ n, w' = w.drewN n := by
  have hl1 := hx.2.1
  have hl2 := hy.2.1
  have hm1 := hx.2.2
  have hm2 := hy.2.2
  by_cases hlen : xs.length = ys.length
  · have hne : ((xs.length : Int) != (ys.length : Int)) = false := by simp [hlen]
    have HL := Lib.hid hlen; clear hlen
    go_enter Try.func100, Try.ntmps100
    go_wp2
    go_loopw [5] (fun i wr => ∃ k n : Nat, k ≤ xs.length ∧ i = .int .i64 k ∧ xs.take k = ys.take k ∧ wr = w.drewN n) (fun i _ => xs.length - (intOf i).toNat)
    case atStart => exact ⟨0, 0, Nat.zero_le _, rfl, by simp, rfl⟩
    case round =>
      obtain ⟨k, n, hk, rfl, ht, rfl⟩ := hrel
      have HT := Lib.hid ht; clear ht
      by_cases hlt : k < xs.length
      · have hlt2 : k < ys.length := by have := HL.out; omega
        obtain ⟨b1, o1, rfl, _, hb, hcx⟩ := hx.at_ hlt
        obtain ⟨b2, o2, rfl, _, hb', hcy⟩ := hy.at_ (k := k) (by have := HL.out; omega)
        obtain ⟨x, hx'⟩ : ∃ x, x = xs[k] := ⟨_, rfl⟩
        obtain ⟨y, hy'⟩ : ∃ y, y = ys[k] := ⟨_, rfl⟩
        rw [← hx'] at hcx
        rw [← hy'] at hcy
        have HX := Lib.hid hx'; have HY := Lib.hid hy'; clear hx' hy'
        by_cases hxy : x = y
        · have hb1 : (!x.toList == y.toList) = false := by simp [hxy]
          have HXY := Lib.hid hxy; clear hxy
          go_wp2
          go_quiet (fail)
          go_wp2
          go_roundw
          case rel =>
            refine ⟨k + 1, _, by omega, by go_num, ?_, rfl⟩
            rw [List.take_succ_eq_append_getElem hlt, List.take_succ_eq_append_getElem hlt2, HT.out, ← HX.out, ← HY.out, HXY.out]
          case measure => simp [intOf]; omega
        · have hb1 : (!x.toList == y.toList) = true := by rw [data_ext] at hxy; simpa using hxy
          have HXY := Lib.hid hxy; clear hxy
          go_wp2
          go_quiet (fail)
          go_wp2
          go_ret
          refine ⟨?_, _, World.drewN_drewN _ _ _⟩
          have : xs ≠ ys := fun h => HXY.out (by rw [HX.out, HY.out]; simp only [h])
          rw [decide_eq_false this]; rfl
      · go_wp2
        go_ret
        refine ⟨?_, n, rfl⟩
        have : xs = ys := by
          have h := HT.out
          rwa [List.take_of_length_le (by omega), List.take_of_length_le (by have := HL.out; omega)] at h
        rw [decide_eq_true this]; rfl
  · have hne : ((xs.length : Int) != (ys.length : Int)) = true := by simp; omega
    have H := Lib.hid hlen; clear hlen
    go_enter Try.func100, Try.ntmps100
    go_wp2
    go_ret
    refine ⟨?_, 0, rfl⟩
    rw [decide_eq_false (fun h => H.out (by rw [h]))]; rfl

end Go.Proofs.Ytepmcfleijiloaa
