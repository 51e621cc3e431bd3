/- Joined: M1 M2 M6 M3 M4 M5 M7 M8 -/
import Derived.Test.YtepmcfleijiloaaH1
import Derived.Laws.BitsAllLaws
import Derived.Test.YtepmcfleijiloaaK6
import Derived.Lib.SlBytesConst
import Derived.Test.YtepmcfleijiloaaK1
import Derived.Lib.SmallJoins
section
set_option linter.unusedVariables false
/- Bytes in memory; code.Put, inkhornref3.Put. -/
namespace Go.Proofs.Ytepmcfleijiloaa
open Go.RowKit

def bytv (l : List Nat) : List Value := l.map fun x => .int .u8 (x : Nat)
theorem bytv_len (l : List Nat) : (bytv l).length = l.length := by simp [bytv]
theorem bytv_append (a b : List Nat) : bytv (a ++ b) = bytv a ++ bytv b := by simp [bytv]
theorem bytv_one (a : List Nat) : ∀ u ∈ bytv a, u.oneCell' = true := by simp [bytv, Value.oneCell']
theorem infoB : Info Try.prog 62 5 (.int .u8 0) 1 1 := ⟨Try.underlying62, by kernel_rfl, rfl, by omega, by omega⟩
/-- Bytes that can be read. -/
def Byts (w : World) (lo : Nat) (A : Option Addr) (c : Nat) (l : List Nat) : Prop :=
  Rd w lo w.heap.size A (bytv l) ∧ l.length ≤ c ∧ c ≤ 9223372036854775807
section
variable {w w' : World} {lo : Nat} {A : Option Addr} {c : Nat} {l : List Nat}
theorem Byts.at_ (h : Byts w lo A c l) {k : Nat} (hk : k < l.length) :
    ∃ b o, A = some ⟨b, o, none⟩ ∧ lo ≤ b ∧ b < w.heap.size ∧ w.cell? ⟨b, o + k, none⟩ = some (.int .u8 (l[k]'hk : Nat)) := by
  obtain ⟨b, o, e, h1, h2, hc⟩ := h.1.at_ (k := k) (by simpa [bytv] using hk)
  exact ⟨b, o, e, h1, h2, by simpa [bytv] using hc⟩
theorem Byts.ext (h : Byts w lo A c l) (hb : Below w.heap.size w w') : Byts w' lo A c l := ⟨h.1.ext hb, h.2.1, h.2.2⟩
theorem Byts.low {lo2 : Nat} (h : Byts w lo A c l) (hl : lo2 ≤ lo) : Byts w lo2 A c l := ⟨h.1.wide hl (Nat.le_refl _), h.2.1, h.2.2⟩
theorem Byts.nil_ (w : World) (lo : Nat) (A : Option Addr) (c : Nat) (h : c ≤ 9223372036854775807) : Byts w lo A c [] := ⟨Rd.nil_, by simp, h⟩
theorem Byts.of_own {base n : Nat} {v : Value} (h : w.ownsRow base 5 1 v n (bytv l)) : ∃ A c, v = .slice A l.length c ∧ Byts w base A c l := by
  obtain ⟨A, c, rfl, h1, h2⟩ := own_slice h
  have hn : l.length = n := by have := h.1; simpa [bytv] using this
  subst hn
  exact ⟨A, c, rfl, Rd.of_own h, h1, h2⟩
end
/-- New bytes. -/
def NewB (w : World) (l : List Nat) (e : Ending) (w' : World) : Prop := ∃ A c, e = .returned (.slice A l.length c) ∧ w'.ownsRow w.heap.size 5 1 (.slice A l.length c) l.length (bytv l) ∧ Below w.heap.size w w'

set_option maxRecDepth 100000 in
/-- slices.Clone of bytes -/
theorem c105 (w : World) (A : Option Addr) (c : Nat) (l : List Nat) (h : Byts w 0 A c l) (hn : l.length ≤ 1000000) :
    Calls Try.prog 105 #[.slice A l.length c] w (NewB w l) := by
  rcases A with _ | a
  · have h0 : l = [] := by
      cases l with
      | nil => rfl
      | cons x l =>
        obtain ⟨b, o, e, _⟩ := h.at_ (k := 0) (by simp)
        cases e
    subst h0
    have H1 := @Lib.run_eql_slice_nil Try.prog
    go_enter Try.func105, Try.ntmps105
    go_wp2
    go_ret
    exact ⟨none, 0, rfl, World.ownsRow_nil _ _ _ _, Below.refl _ _⟩
  · have hl := h.2.1
    have hm := h.2.2
    have H1 := @Lib.run_eql_slice_nil Try.prog
    have HO : Hid ((w.alloc (.cells #[] 5)).ownsRow w.heap.size 5 1 (.slice (some ⟨w.heap.size, 0, none⟩) 0 0) 0 []) := World.ownsRow_made w #[] 0 (Nat.le_refl _) (by simp [maxLen]) rfl
    have HR : Hid (Rd (w.alloc (.cells #[] 5)) 0 w.heap.size (some a) (bytv l)) := h.1.below ((Below.refl _ _).alloc (Nat.le_refl _) _)
    go_enter Try.func105, Try.ntmps105
    go_wp2_with (first
      | (at_builtin
         refine wpList_append_rd infoB rfl (.tmp 5) (.tmp 6) rfl w.heap.size (.slice (some ⟨w.heap.size, 0, none⟩) 0 0) 0 [] rfl HO.out 0 w.heap.size (some a) l.length c (bytv l) rfl HR.out (by simp [bytv]) (bytv_one l) (by omega) (by simp) ?_
         intro v1 w1 hown1 hg1 hat1
         obtain ⟨A1, c1, rfl, _, _⟩ := own_slice hown1
         have X : Hid (w1.ownsRow w.heap.size 5 1 (.slice A1 (0 + l.length) c1) (0 + l.length) (bytv l) ∧ Below w.heap.size w w1) := ⟨by simpa using hown1, ((Below.refl w.heap.size w).alloc (Nat.le_refl _) _).grown hg1 (by simp) (by simp [Value.ownBlock])⟩
         clear hown1 hg1 hat1))
    go_ret
    rw [Nat.zero_add] at X
    exact ⟨A1, c1, rfl, X.out.1, X.out.2⟩

/-- A number's bytes, the great ones first. -/
def be (size n : Nat) : List Nat := (List.range size).map fun i => n / 2 ^ (8 * (size - 1 - i)) % 256
theorem be_len (size n : Nat) : (be size n).length = size := by simp [be]
theorem be_succ (size n k : Nat) (h : k < size) : (be size n).take (k + 1) = (be size n).take k ++ [n / 2 ^ (8 * (size - 1 - k)) % 256] := by
  rw [List.take_succ_eq_append_getElem (by rw [be_len]; exact h)]
  simp [be]

theorem ownB_step {w wr wz w1 : World} {v v1 : Value} {n : Nat} {acc : List Nat} {x : Nat} {B : Nat} (ho : wr.ownsRow B 5 1 v n (bytv acc)) (hb : Below B w wr) (hB : B ≤ wr.heap.size) (hz : Below wr.heap.size wr wz)
    (h1 : w1.ownsRow B 5 1 v1 (n + 1) (bytv acc ++ [.int .u8 (x : Nat)])) (hg : wz.grownBy w1 v.ownBlock) : Hid (w1.ownsRow B 5 1 v1 (n + 1) (bytv (acc ++ [x])) ∧ Below B w w1) :=
  ⟨by rw [bytv_append]; exact h1, below_grown (hb.trans (hz.mono hB)) (own_below ho hz) hg (Nat.le_refl _) (Nat.le_trans hB hz.size)⟩

set_option maxRecDepth 100000 in
/-- code.Put -/
theorem c83 (w : World) (A : Option Addr) (c : Nat) (l : List Nat) (n size : Nat) (h : Byts w 0 A c l) (hl : l.length ≤ 900000) (hn : n < 4294967296) (hs : size ≤ 8) :
    Calls Try.prog 83 #[.slice A l.length c, .int .i64 n, .int .i64 size] w (NewB w (l ++ be size n)) := by
  have hl1 := h.2.1
  have hl2 := h.2.2
  have H := Lib.hid h
  clear h
  have hmx : max (size : Int) 0 = size := by omega
  have hmn : min (size : Int) 8 = size := by omega
  go_enter Try.func83, Try.ntmps83
  go_wp2_with fail
  (with_reducible refine (c105 w A c l H.out (by omega)).mono ?_); rintro e w1 ⟨A1, c1, rfl, ho, hb⟩
  have HO1 : Hid (w1.ownsRow w.heap.size 5 1 (.slice A1 l.length c1) (l ++ (be size n).take 0).length (bytv (l ++ (be size n).take 0))) := Lib.hid (by simpa using ho)
  have HB1 := Lib.hid hb
  clear ho hb
  go_wp2_with fail
  go_loopw [7, 15] (fun vo i wr => ∃ k : Nat, k ≤ size ∧ i = .int .i64 k ∧ Hid (wr.ownsRow w.heap.size 5 1 vo (l ++ (be size n).take k).length (bytv (l ++ (be size n).take k))) ∧ Hid (Below w.heap.size w wr)) (fun _ i _ => size - (intOf i).toNat)
  case atStart => exact ⟨0, by omega, rfl, HO1, HB1⟩
  case round =>
    obtain ⟨k, hk, rfl, HO, HB⟩ := hrel
    by_cases hlt : k < size
    · obtain ⟨acc, hacc⟩ : ∃ a, a = l ++ (be size n).take k := ⟨_, rfl⟩
      have hal : acc.length ≤ 900008 := by rw [hacc]; simp [be_len]; omega
      have HT : Hid (l ++ (be size n).take (k + 1) = acc ++ [n / 2 ^ (8 * (size - 1 - k)) % 256]) := Lib.hid (by rw [be_succ size n k hlt, hacc, List.append_assoc])
      rw [← hacc] at HO
      clear hacc
      obtain ⟨Ao, co, rfl, hx1, hx2⟩ := own_slice HO.out
      go_wp2_with (first
        | (at_builtin
           refine wpList_append_rd infoB rfl (.tmp 18) (.tmp 29) rfl w.heap.size (.slice Ao acc.length co) acc.length (bytv acc) rfl (HO.out.alloc _) wr.heap.size (wr.heap.size + 1) _ 1 1 [.int .u8 ((n : Int) / 2 ^ (8 * (size - 1 - k)) % 256)] rfl (Rd.new wr _ _) rfl (by simp [Value.oneCell']) (by omega) (by have := HB.out.size; simp; omega) ?_
           intro v1 w1 hown1 hg1 hat1
           have X := ownB_step (x := n / 2 ^ (8 * (size - 1 - k)) % 256) HO.out HB.out HB.out.size ((Below.refl _ _).alloc (Nat.le_refl _) _) (by simpa using hown1) hg1
           clear hown1 hg1 hat1))
      go_roundw
      case rel =>
        refine ⟨k + 1, by omega, by go_num, ?_, Lib.hid X.out.2⟩
        rw [HT.out]
        exact Lib.hid (by simpa using X.out.1)
      case measure => simp [intOf]; omega
    · obtain rfl : k = size := by omega
      have HF : Hid (l ++ (be k n).take k = l ++ be k n) := Lib.hid (by rw [List.take_of_length_le (by rw [be_len]; omega)])
      rw [HF.out] at HO
      obtain ⟨Ao, co, rfl, hx1, hx2⟩ := own_slice HO.out
      go_wp2_with fail
      go_ret
      exact ⟨Ao, co, rfl, HO.out, HB.out⟩

set_option maxRecDepth 100000 in
/-- inkhornref3.Put -/
theorem c103 (w : World) (A : Option Addr) (c : Nat) (l : List Nat) (n size : Nat) (h : Byts w 0 A c l) (hl : l.length ≤ 900000) (hn : n < 4294967296) (hs : size ≤ 8) :
    Calls Try.prog 103 #[.slice A l.length c, .int .i64 n, .int .i64 size] w (NewB w (l ++ be size n)) := by
  have hl1 := h.2.1
  have hl2 := h.2.2
  have H := Lib.hid h
  have hmx : max (size : Int) 0 = size := by omega
  have hmn : min (size : Int) 8 = size := by omega
  clear h
  go_enter Try.func103, Try.ntmps103
  go_wp2_with (first
    | (at_builtin
       refine wpList_append_rd infoB rfl (.const (.slice none 0 0)) (.tmp 10) rfl w.heap.size (.slice none 0 0) 0 [] rfl (World.ownsRow_nil _ _ _ _) 0 w.heap.size A l.length c (bytv l) rfl H.out.1 (by simp [bytv]) (bytv_one l) (by omega) (by simp) ?_
       intro v1 w1 hown1 hg1 hat1
       obtain ⟨A1, c1, rfl, _, _⟩ := own_slice hown1
       have X : Hid (w1.ownsRow w.heap.size 5 1 (.slice A1 (0 + l.length) c1) (0 + l.length) (bytv l) ∧ Below w.heap.size w w1) := ⟨by simpa using hown1, (Below.refl w.heap.size w).grown hg1 (by simp) (by simp [Value.ownBlock])⟩
       clear hown1 hg1 hat1))
  rw [Nat.zero_add] at X
  have HO1 : Hid (w1.ownsRow w.heap.size 5 1 (.slice A1 l.length c1) (l ++ (be size n).take 0).length (bytv (l ++ (be size n).take 0))) := Lib.hid (by simpa using X.out.1)
  have HB1 := Lib.hid X.out.2
  clear X
  go_loopw [7, 9] (fun vo i wr => ∃ k : Nat, k ≤ size ∧ i = .int .i64 ((size : Int) - 1 - k) ∧ Hid (wr.ownsRow w.heap.size 5 1 vo (l ++ (be size n).take k).length (bytv (l ++ (be size n).take k))) ∧ Hid (Below w.heap.size w wr)) (fun _ i _ => (intOf i + 1).toNat)
  case atStart => exact ⟨0, by omega, by simp, HO1, HB1⟩
  case round =>
    obtain ⟨k, hk, rfl, HO, HB⟩ := hrel
    by_cases hlt : k < size
    · obtain ⟨acc, hacc⟩ : ∃ a, a = l ++ (be size n).take k := ⟨_, rfl⟩
      have hal : acc.length ≤ 900008 := by rw [hacc]; simp [be_len]; omega
      have HT : Hid (l ++ (be size n).take (k + 1) = acc ++ [n / 2 ^ (8 * (size - 1 - k)) % 256]) := Lib.hid (by rw [be_succ size n k hlt, hacc, List.append_assoc])
      rw [← hacc] at HO
      clear hacc
      obtain ⟨Ao, co, rfl, hx1, hx2⟩ := own_slice HO.out
      have hge : decide ((0 : Int) ≤ (size : Int) - 1 - k) = true := decide_eq_true (by omega)
      go_wp2_with (first
        | (at_builtin
           refine wpList_append_rd infoB rfl (.tmp 22) (.tmp 28) rfl w.heap.size (.slice Ao acc.length co) acc.length (bytv acc) rfl (HO.out.alloc _) wr.heap.size (wr.heap.size + 1) _ 1 1 [.int .u8 ((n : Int) / 2 ^ (8 * (size - 1 - k)) % 256)] rfl (Rd.new wr _ _) rfl (by simp [Value.oneCell']) (by omega) (by have := HB.out.size; simp; omega) ?_
           intro v1 w1 hown1 hg1 hat1
           have X := ownB_step (x := n / 2 ^ (8 * (size - 1 - k)) % 256) HO.out HB.out HB.out.size ((Below.refl _ _).alloc (Nat.le_refl _) _) (by simpa using hown1) hg1
           clear hown1 hg1 hat1))
      go_roundw
      case rel =>
        refine ⟨k + 1, by omega, by go_num, ?_, Lib.hid X.out.2⟩
        rw [HT.out]
        exact Lib.hid (by simpa using X.out.1)
      case measure => simp [intOf]; omega
    · obtain rfl : k = size := by omega
      have HF : Hid (l ++ (be k n).take k = l ++ be k n) := Lib.hid (by rw [List.take_of_length_le (by rw [be_len]; omega)])
      rw [HF.out] at HO
      obtain ⟨Ao, co, rfl, hx1, hx2⟩ := own_slice HO.out
      have hge : decide ((0 : Int) ≤ (k : Int) - 1 - k) = false := decide_eq_false (by omega)
      go_wp2_with fail
      go_ret
      exact ⟨Ao, co, rfl, HO.out, HB.out⟩

end Go.Proofs.Ytepmcfleijiloaa

end
section
set_option linter.unusedVariables false
/- The check sum. -/
namespace Go.Proofs.Ytepmcfleijiloaa
open Go.RowKit

/-- One bit is turned in. -/
def st (c : Nat) : Nat := if c % 2 = 1 then (c / 2) ^^^ 3988292384 else c / 2
def stN : Nat → Nat → Nat
  | 0, c => c
  | k + 1, c => st (stN k c)
def turnB (c b : Nat) : Nat := stN 8 (c ^^^ b)
/-- The sum's inside. -/
def crcI (c : Nat) (l : List Nat) : Nat := l.foldl turnB c
def crc (l : List Nat) : Nat := 4294967295 - crcI 4294967295 l
theorem xor_lt32 {a b : Nat} (ha : a < 4294967296) (hb : b < 4294967296) : a ^^^ b < 4294967296 := Nat.xor_lt_two_pow (n := 32) ha hb
theorem st_lt {c : Nat} (h : c < 4294967296) : st c < 4294967296 := by
  unfold st
  split
  · exact xor_lt32 (by omega) (by omega)
  · omega
theorem stN_lt {c : Nat} (h : c < 4294967296) : ∀ k, stN k c < 4294967296
  | 0 => h
  | k + 1 => st_lt (stN_lt h k)
theorem turnB_lt {c b : Nat} (h : c < 4294967296) (hb : b < 256) : turnB c b < 4294967296 := stN_lt (xor_lt32 h (by omega)) 8
theorem crcI_lt : ∀ (l : List Nat) (c : Nat), (∀ x ∈ l, x < 256) → c < 4294967296 → crcI c l < 4294967296
  | [], c, _, h => h
  | x :: l, c, hl, h => crcI_lt l _ (fun y hy => hl y (by simp [hy])) (turnB_lt h (hl x (by simp)))
theorem crcI_snoc (c : Nat) (l : List Nat) (x : Nat) : crcI c (l ++ [x]) = turnB (crcI c l) x := by simp [crcI]
theorem crc_lt (l : List Nat) : crc l < 4294967296 := by unfold crc; omega
theorem and1 (d : Nat) (h : d < 4294967296) : bits .and .u32 (d : Int) 1 = ((d % 2 : Nat) : Int) := by
  have := u32_and_nat d 1 h (by omega)
  rw [nat_mask1] at this
  exact this

set_option maxRecDepth 100000 in
/-- sum.turn -/
theorem c123 (w : World) (c b : Nat) (hc : c < 4294967296) (hb : b < 256) :
    Calls Try.prog 123 #[.int .u32 c, .int .u8 b] w fun e w' => e = .returned (.int .u32 (turnB c b)) ∧ w = w' := by
  have hx := u32_xor_nat c b hc (by omega)
  have hxl := xor_lt32 hc (show b < 4294967296 by omega)
  obtain ⟨c0, hc0⟩ : ∃ c0, c0 = c ^^^ b := ⟨_, rfl⟩
  have HC : Hid (turnB c b = stN 8 c0) := Lib.hid (by rw [hc0]; rfl)
  rw [← hc0] at hx hxl
  clear hc0
  go_enter Try.func123, Try.ntmps123
  go_wp2_with fail
  go_loopw [0, 10] (fun v i wr => ∃ (k d : Nat), k ≤ 8 ∧ i = .int .i64 k ∧ v = .int .u32 d ∧ Hid (d = stN k c0) ∧ w = wr) (fun _ i _ => 8 - (intOf i).toNat)
  case atStart => exact ⟨0, c0, by omega, rfl, rfl, Lib.hid rfl, rfl⟩
  case round =>
    obtain ⟨k, d, hk, rfl, rfl, HD, rfl⟩ := hrel
    have hd : d < 4294967296 := by rw [HD.out]; exact stN_lt hxl k
    by_cases hlt : k < 8
    · have ha := and1 d hd
      have HS : Hid (stN (k + 1) c0 = st d) := Lib.hid (by rw [HD.out]; rfl)
      by_cases h1 : d % 2 = 1
      · have g : (bits .and .u32 (d : Int) 1 == 1) = true := by rw [ha, h1]; rfl
        have hx2 : bits .xor .u32 ((d : Int) / 2) 3988292384 = ((d / 2 ^^^ 3988292384 : Nat) : Int) := u32_xor_nat (d / 2) 3988292384 (by omega) (by omega)
        have HT : Hid (st d = d / 2 ^^^ 3988292384) := Lib.hid (by unfold st; rw [if_pos h1])
        obtain ⟨d2, hd2⟩ : ∃ d2, d2 = d / 2 ^^^ 3988292384 := ⟨_, rfl⟩
        rw [← hd2] at hx2
        rw [← hd2] at HT
        clear ha h1 hx hd2
        go_wp2_with fail
        go_roundw
        case rel => exact ⟨k + 1, d2, by omega, by go_num, rfl, Lib.hid (by rw [HS.out, HT.out]), by trivial⟩
        case measure => simp [intOf]; omega
      · have g : (bits .and .u32 (d : Int) 1 == 1) = false := by rw [ha]; exact beq_eq_false_iff_ne.2 (by omega)
        have HT : Hid (st d = d / 2) := Lib.hid (by unfold st; rw [if_neg h1])
        clear ha h1 hx
        go_wp2_with fail
        go_roundw
        case rel => exact ⟨k + 1, d / 2, by omega, by go_num, by simp, Lib.hid (by rw [HS.out, HT.out]), by trivial⟩
        case measure => simp [intOf]; omega
    · obtain rfl : k = 8 := by omega
      have HF : Hid (turnB c b = d) := Lib.hid (by rw [HC.out, HD.out])
      go_wp2_with fail
      go_ret
      rw [HF.out]
      exact ⟨rfl, rfl⟩

theorem not32 (d : Nat) (h : d < 4294967296) : 4294967295 ^^^ d = 4294967295 - d := by
  have h1 := BitVec.toNat_not (x := BitVec.ofNat 32 d)
  rw [BitVec.not_def, BitVec.toNat_xor, BitVec.toNat_allOnes, BitVec.toNat_ofNat, Nat.mod_eq_of_lt (by omega)] at h1
  exact h1
theorem notI (d : Nat) (h : d < 4294967296) : bits .xor .u32 IntKind.u32.max (d : Int) = ((4294967295 - d : Nat) : Int) := by
  have := u32_xor_nat 4294967295 d (by omega) h
  rw [not32 d h] at this
  exact this
/-- All are bytes. -/
def Okb (l : List Nat) : Prop := ∀ x ∈ l, x < 256

set_option maxRecDepth 100000 in
/-- sum.Add of nothing before -/
theorem c106 (w : World) (A : Option Addr) (c : Nat) (l : List Nat) (h : Byts w 0 A c l) (hb : Okb l) (hl : l.length ≤ 1000000) :
    Calls Try.prog 106 #[.int .u32 0, .slice A l.length c] w fun e w' => e = .returned (.int .u32 (crc l)) ∧ w = w' := by
  have hl1 := h.2.1
  have hl2 := h.2.2
  have H := Lib.hid h
  have HK := Lib.hid hb
  clear h hb
  go_enter Try.func106, Try.ntmps106
  go_wp2_with fail
  go_loopw [0, 11] (fun v i wr => ∃ (k d : Nat), k ≤ l.length ∧ i = .int .i64 k ∧ v = .int .u32 d ∧ Hid (d = crcI 4294967295 (l.take k)) ∧ w = wr) (fun _ i _ => l.length - (intOf i).toNat)
  case atStart => exact ⟨0, 4294967295, by omega, rfl, by have h := notI 0 (by omega); exact congrArg (Value.int .u32) h, Lib.hid rfl, rfl⟩
  case round =>
    obtain ⟨k, d, hk, rfl, rfl, HD, rfl⟩ := hrel
    have hd : d < 4294967296 := by rw [HD.out]; exact crcI_lt _ _ (fun x hx => HK.out x (List.mem_of_mem_take hx)) (by omega)
    by_cases hlt : k < l.length
    · obtain ⟨b, o, rfl, _, _, hc⟩ := H.out.at_ hlt
      obtain ⟨x, hx⟩ : ∃ x, x = l[k] := ⟨_, rfl⟩
      have hxb : x < 256 := by rw [hx]; exact HK.out _ (List.getElem_mem _)
      rw [← hx] at hc
      have HS : Hid (crcI 4294967295 (l.take (k + 1)) = turnB d x) := Lib.hid (by rw [List.take_succ_eq_append_getElem hlt, crcI_snoc, ← hx, HD.out])
      clear hx
      go_wp2_with fail
      (with_reducible refine (c123 w d x hd hxb).mono ?_); rintro e w1 ⟨rfl, rfl⟩
      go_wp2_with fail
      go_roundw
      case rel => exact ⟨k + 1, turnB d x, by omega, by go_num, rfl, Lib.hid (by rw [HS.out]), by trivial⟩
      case measure => simp [intOf]; omega
    · obtain rfl : k = l.length := by omega
      have HF : Hid (crc l = 4294967295 - d) := Lib.hid (by unfold crc; rw [HD.out, List.take_length])
      have hn := notI d hd
      go_wp2_with fail
      go_ret
      rw [HF.out]
      exact ⟨rfl, rfl⟩

set_option maxRecDepth 100000 in
/-- sum.Of -/
theorem c84 {w : World} {A : Option Addr} {c n : Nat} {l : List Nat} (h : Byts w 0 A c l) (hb : Okb l) (hl : l.length ≤ 1000000) (hn : n = crc l) :
    Calls Try.prog 84 #[.slice A l.length c] w fun e w' => e = .returned (.int .u32 n) ∧ w = w' := by
  go_enter Try.func84, Try.ntmps84
  go_wp2_with fail
  (with_reducible refine (c106 w A c l h hb hl).mono ?_); rintro e w1 ⟨rfl, rfl⟩
  go_wp2_with fail
  go_ret
  rw [hn]
  exact ⟨rfl, rfl⟩

/-- The reference's step: one bit of a byte. -/
def rst (r b : Nat) : Nat := if r % 2 ≠ b % 2 then (r / 2) ^^^ 3988292384 else r / 2
theorem st_rst (r b : Nat) : st (r ^^^ b) = rst r b ^^^ (b / 2) := by
  unfold st rst
  have h1 : (r ^^^ b) % 2 = 1 ↔ r % 2 ≠ b % 2 := by
    rw [Nat.xor_mod_two_eq_one]
    omega
  by_cases h : r % 2 ≠ b % 2
  · rw [if_pos (h1.2 h), if_pos h, Nat.xor_div_two, Nat.xor_assoc, Nat.xor_assoc, Nat.xor_comm (b / 2)]
  · rw [if_neg (fun h2 => h (h1.1 h2)), if_neg h, Nat.xor_div_two]
def rstN : Nat → Nat → Nat → Nat
  | 0, r, _ => r
  | k + 1, r, b => rst (rstN k r b) (b / 2 ^ k)
theorem stN_rstN (r b : Nat) : ∀ k, stN k (r ^^^ b) = rstN k r b ^^^ (b / 2 ^ k)
  | 0 => by simp [stN, rstN]
  | k + 1 => by
    show st (stN k (r ^^^ b)) = rst (rstN k r b) (b / 2 ^ k) ^^^ (b / 2 ^ (k + 1))
    rw [stN_rstN r b k, st_rst, Nat.div_div_eq_div_mul, ← Nat.pow_succ]
theorem turnB_rst (c b : Nat) (hb : b < 256) : rstN 8 c b = turnB c b := by
  unfold turnB
  rw [stN_rstN, Nat.div_eq_of_lt (show b < 2 ^ 8 by omega), Nat.xor_zero]
theorem rst_lt {r b : Nat} (h : r < 4294967296) : rst r b < 4294967296 := by
  unfold rst
  split
  · exact xor_lt32 (by omega) (by omega)
  · omega
theorem rstN_lt {r b : Nat} (h : r < 4294967296) : ∀ k, rstN k r b < 4294967296
  | 0 => h
  | k + 1 => rst_lt (rstN_lt h k)

set_option maxRecDepth 100000 in
/-- inkhornref2.Of -/
theorem c111 {w : World} {A : Option Addr} {c n : Nat} {l : List Nat} (h : Byts w 0 A c l) (hb : Okb l) (hl : l.length ≤ 1000000) (hn : n = crc l) :
    Calls Try.prog 111 #[.slice A l.length c] w fun e w' => e = .returned (.int .u32 n) ∧ w = w' := by
  have hl1 := h.2.1
  have hl2 := h.2.2
  have H := Lib.hid h
  have HK := Lib.hid hb
  have HN := Lib.hid hn
  clear h hb hn
  go_enter Try.func111, Try.ntmps111
  go_wp2_with fail
  go_loopw [3, 4] (fun v i wr => ∃ (k d : Nat), k ≤ l.length ∧ i = .int .i64 k ∧ v = .int .u32 d ∧ Hid (d = crcI 4294967295 (l.take k)) ∧ w = wr) (fun _ i _ => l.length - (intOf i).toNat)
  case atStart => exact ⟨0, 4294967295, by omega, rfl, rfl, Lib.hid rfl, rfl⟩
  case round =>
    obtain ⟨k, d, hk, rfl, rfl, HD, rfl⟩ := hrel
    have hd : d < 4294967296 := by rw [HD.out]; exact crcI_lt _ _ (fun x hx => HK.out x (List.mem_of_mem_take hx)) (by omega)
    by_cases hlt : k < l.length
    · obtain ⟨b, o, rfl, _, _, hc⟩ := H.out.at_ hlt
      obtain ⟨x, hx⟩ : ∃ x, x = l[k] := ⟨_, rfl⟩
      have hxb : x < 256 := by rw [hx]; exact HK.out _ (List.getElem_mem _)
      rw [← hx] at hc
      have HS : Hid (crcI 4294967295 (l.take (k + 1)) = rstN 8 d x) := Lib.hid (by rw [List.take_succ_eq_append_getElem hlt, crcI_snoc, ← hx, HD.out, turnB_rst _ _ hxb])
      clear hx
      go_wp2_with fail
      go_loopw [3, 5] (fun v i wr => ∃ (m q : Nat), m ≤ 8 ∧ i = .int .i64 m ∧ v = .int .u32 q ∧ Hid (q = rstN m d x) ∧ w = wr) (fun _ i _ => 8 - (intOf i).toNat)
      case atStart => exact ⟨0, d, by omega, rfl, rfl, Lib.hid rfl, rfl⟩
      case round =>
        obtain ⟨m, q, hm, rfl, rfl, HQ, rfl⟩ := hrel
        have hq : q < 4294967296 := by rw [HQ.out]; exact rstN_lt hd m
        by_cases hm8 : m < 8
        · have htm : ((x : Int) / 2 ^ m).tmod 2 = ((x / 2 ^ m % 2 : Nat) : Int) := by
            have h1 : (x : Int) / 2 ^ m = ((x / 2 ^ m : Nat) : Int) := by simp
            rw [h1, Int.tmod_eq_emod_of_nonneg (Int.natCast_nonneg _)]
            generalize x / 2 ^ m = y
            omega
          have HR : Hid (rstN (m + 1) d x = rst q (x / 2 ^ m)) := Lib.hid (by rw [HQ.out]; rfl)
          by_cases h1 : q % 2 ≠ x / 2 ^ m % 2
          · have g : ((q : Int) % 2 != ((x : Int) / 2 ^ m).tmod 2) = true := by rw [htm]; exact bne_iff_ne.2 (by omega)
            have hx2 : bits .xor .u32 ((q : Int) / 2) 3988292384 = ((q / 2 ^^^ 3988292384 : Nat) : Int) := u32_xor_nat (q / 2) 3988292384 (by omega) (by omega)
            have HT : Hid (rst q (x / 2 ^ m) = q / 2 ^^^ 3988292384) := Lib.hid (by unfold rst; rw [if_pos h1])
            obtain ⟨d2, hd2⟩ : ∃ d2, d2 = q / 2 ^^^ 3988292384 := ⟨_, rfl⟩
            rw [← hd2] at hx2
            rw [← hd2] at HT
            clear htm h1 hd2
            go_wp2_with fail
            go_roundw
            case rel => exact ⟨m + 1, d2, by omega, by go_num, rfl, Lib.hid (by rw [HR.out, HT.out]), by trivial⟩
            case measure => simp [intOf]; omega
          · have g : ((q : Int) % 2 != ((x : Int) / 2 ^ m).tmod 2) = false := by rw [htm]; exact bne_eq_false_iff_eq.2 (by omega)
            have HT : Hid (rst q (x / 2 ^ m) = q / 2) := Lib.hid (by unfold rst; rw [if_neg h1])
            clear htm h1
            go_wp2_with fail
            go_roundw
            case rel => exact ⟨m + 1, q / 2, by omega, by go_num, by simp, Lib.hid (by rw [HR.out, HT.out]), by trivial⟩
            case measure => simp [intOf]; omega
        · obtain rfl : m = 8 := by omega
          go_wp2_with fail
          go_roundw
          case rel => exact ⟨k + 1, q, by omega, by go_num, rfl, Lib.hid (by rw [HS.out, HQ.out]), by trivial⟩
          case measure => simp [intOf]; omega
    · obtain rfl : k = l.length := by omega
      have HF : Hid (n = 4294967295 - d) := Lib.hid (by rw [HN.out]; unfold crc; rw [HD.out, List.take_length])
      go_wp2_with fail
      go_ret
      have he : (n : Int) = 4294967295 - d := by rw [HF.out]; omega
      rw [he]
      exact ⟨rfl, rfl⟩

end Go.Proofs.Ytepmcfleijiloaa

end
section
set_option linter.unusedVariables false
/- code.Num, inkhornref3.Num. -/
namespace Go.Proofs.Ytepmcfleijiloaa
open Go.RowKit

def numB (l : List Nat) (p size : Nat) : Nat := ((l.drop p).take size).foldl (fun n x => n * 256 + x) 0
theorem numB_zero (l : List Nat) (p : Nat) : numB l p 0 = 0 := by simp [numB]
theorem numB_succ (l : List Nat) (p k : Nat) (h : p + k < l.length) : numB l p (k + 1) = numB l p k * 256 + l[p + k] := by
  unfold numB
  rw [List.take_succ_eq_append_getElem (by rw [List.length_drop]; omega), List.foldl_append, List.getElem_drop]
  rfl
theorem numB_lt {l : List Nat} (h : ∀ x ∈ l, x < 256) (p : Nat) : ∀ k, p + k ≤ l.length → numB l p k < 256 ^ k
  | 0, _ => by rw [numB_zero]; omega
  | k + 1, hk => by
    have h1 := numB_lt h p k (by omega)
    have h2 := h l[p + k] (List.getElem_mem (by omega))
    rw [numB_succ l p k (by omega), Nat.pow_succ]
    omega

theorem or_step (q x : Nat) (hq : q < 16777216) (hx : x < 256) : bits .or .u64 (IntKind.u64.wrap ((q : Int) * 256)) (x : Int) = ((q * 256 + x : Nat) : Int) := by
  have h1 : IntKind.u64.wrap ((q : Int) * 256) = ((q * 256 : Nat) : Int) := by simp [IntKind.wrap, IntKind.signed, IntKind.bits]; omega
  rw [h1, u64_or_nat _ _ (by omega) (by omega), nat_join 8 _ _ (by omega) (by omega)]
theorem pow_le3 {k : Nat} (h : k ≤ 3) : 256 ^ k ≤ 16777216 := by
  match k, h with
  | 0, _ => omega
  | 1, _ => omega
  | 2, _ => omega
  | 3, _ => omega
theorem pow_le4 {k : Nat} (h : k ≤ 4) : 256 ^ k ≤ 4294967296 := by
  match k, h with
  | 0, _ => omega
  | 1, _ => omega
  | 2, _ => omega
  | 3, _ => omega
  | 4, _ => omega
set_option maxRecDepth 100000 in
/-- code.Num -/
theorem c85 {w : World} {A : Option Addr} {c : Nat} {l : List Nat} (h : Byts w 0 A c l) (hb : ∀ x ∈ l, x < 256) (len p size : Nat) (hlen : len = l.length) (hl : l.length ≤ 900000) (hs1 : 1 ≤ size) (hs : size ≤ 4) (hp : p ≤ 900010) :
    Calls Try.prog 85 #[.slice A len c, .int .i64 p, .int .i64 size] w fun e w' => e = .returned (.tuple #[.int .i64 (if p + size ≤ l.length then numB l p size else 0 : Nat), .bool (decide (p + size ≤ l.length))]) ∧ w = w' := by
  subst hlen
  have hl1 := h.2.1
  have hl2 := h.2.2
  have H := Lib.hid h
  have HK := Lib.hid hb
  clear h hb
  have d1 : decide ((size : Int) < 1) = false := decide_eq_false (by omega)
  have d2 : decide ((8 : Int) < size) = false := decide_eq_false (by omega)
  have d3 : decide ((p : Int) < 0) = false := decide_eq_false (by omega)
  by_cases hin : p + size ≤ l.length
  · have d4 : decide ((l.length : Int) < p) = false := decide_eq_false (by omega)
    have d5 : decide ((l.length : Int) - p < size) = false := decide_eq_false (by omega)
    rw [if_pos hin, decide_eq_true hin]
    go_enter Try.func85, Try.ntmps85
    go_wp2_with fail
    go_loopw [8, 35] (fun v i wr => ∃ (k : Nat), k ≤ size ∧ i = .int .i64 k ∧ v = .int .u64 (numB l p k) ∧ w = wr) (fun _ i _ => size - (intOf i).toNat)
    case atStart => exact ⟨0, by omega, rfl, by rw [numB_zero]; rfl, rfl⟩
    case round =>
      obtain ⟨k, hk, rfl, rfl, rfl⟩ := hrel
      by_cases hlt : k < size
      · obtain ⟨b, o, rfl, _, _, hc⟩ := H.out.at_ (k := p + k) (by omega)
        have HN := Lib.hid (numB_succ l p k (by omega))
        have hnl := numB_lt HK.out p k (by omega)
        have hxb := HK.out _ (List.getElem_mem (show p + k < l.length by omega))
        obtain ⟨x, hx⟩ : ∃ x, x = l[p + k]'(by omega) := ⟨_, rfl⟩
        rw [← hx] at hc HN hxb
        clear hx
        have hst := or_step (numB l p k) x (Nat.lt_of_lt_of_le hnl (pow_le3 (by omega))) hxb
        have HST : Hid (((numB l p (k + 1) : Nat) : Int) = ((numB l p k * 256 + x : Nat) : Int)) := Lib.hid (by rw [HN.out])
        clear hnl
        go_wp2_with fail
        go_roundw
        case rel => exact ⟨k + 1, by omega, by go_num, by rw [HST.out]; first | rfl | exact congrArg (Value.int .u64) hst | simpa using hst, by trivial⟩
        case measure => simp [intOf]; omega
      · obtain rfl : k = size := by omega
        have hnl := numB_lt HK.out p k (by omega)
        have hnb : numB l p k < 4294967296 := Nat.lt_of_lt_of_le hnl (pow_le4 (by omega))
        clear hnl
        go_wp2_with fail
        go_ret2
        exact ⟨rfl, rfl⟩
  · rw [if_neg hin, decide_eq_false hin]
    by_cases hp2 : l.length < p
    · have d4 : decide ((l.length : Int) < p) = true := decide_eq_true (by omega)
      clear hin
      go_enter Try.func85, Try.ntmps85
      go_wp2_with fail
      go_ret2
      exact ⟨rfl, rfl⟩
    · have d4 : decide ((l.length : Int) < p) = false := decide_eq_false (by omega)
      have d5 : decide ((l.length : Int) - p < size) = true := decide_eq_true (by omega)
      clear hin
      go_enter Try.func85, Try.ntmps85
      go_wp2_with fail
      go_ret2
      exact ⟨rfl, rfl⟩

set_option maxRecDepth 100000 in
/-- inkhornref3.Num -/
theorem c110 {w : World} {A : Option Addr} {c : Nat} {l : List Nat} (h : Byts w 0 A c l) (hb : ∀ x ∈ l, x < 256) (len p size : Nat) (hlen : len = l.length) (hl : l.length ≤ 900000) (hs1 : 1 ≤ size) (hs : size ≤ 4) (hp : p ≤ 900010) :
    Calls Try.prog 110 #[.slice A len c, .int .i64 p, .int .i64 size] w fun e w' => e = .returned (.tuple #[.int .i64 (if p + size ≤ l.length then numB l p size else 0 : Nat), .bool (decide (p + size ≤ l.length))]) ∧ w = w' := by
  subst hlen
  have hl1 := h.2.1
  have hl2 := h.2.2
  have H := Lib.hid h
  have HK := Lib.hid hb
  clear h hb
  have d1 : decide ((size : Int) < 1) = false := decide_eq_false (by omega)
  have d2 : decide ((8 : Int) < size) = false := decide_eq_false (by omega)
  have d3 : decide ((p : Int) < 0) = false := decide_eq_false (by omega)
  by_cases hin : p + size ≤ l.length
  · have d4 : decide ((l.length : Int) < p) = false := decide_eq_false (by omega)
    have d5 : decide ((l.length : Int) - p < size) = false := decide_eq_false (by omega)
    rw [if_pos hin, decide_eq_true hin]
    go_enter Try.func110, Try.ntmps110
    go_wp2_with fail
    go_loopw [8, 9] (fun v i wr => ∃ (k : Nat), k ≤ size ∧ i = .int .i64 k ∧ v = .int .u64 (numB l p k) ∧ w = wr) (fun _ i _ => size - (intOf i).toNat)
    case atStart => exact ⟨0, by omega, rfl, by rw [numB_zero]; rfl, rfl⟩
    case round =>
      obtain ⟨k, hk, rfl, rfl, rfl⟩ := hrel
      by_cases hlt : k < size
      · obtain ⟨b, o, rfl, _, _, hc⟩ := H.out.at_ (k := p + k) (by omega)
        have HN := Lib.hid (numB_succ l p k (by omega))
        have hnl := numB_lt HK.out p k (by omega)
        have hxb := HK.out _ (List.getElem_mem (show p + k < l.length by omega))
        obtain ⟨x, hx⟩ : ∃ x, x = l[p + k]'(by omega) := ⟨_, rfl⟩
        rw [← hx] at hc HN hxb
        clear hx
        have hst := or_step (numB l p k) x (Nat.lt_of_lt_of_le hnl (pow_le3 (by omega))) hxb
        have HST : Hid (((numB l p (k + 1) : Nat) : Int) = ((numB l p k * 256 + x : Nat) : Int)) := Lib.hid (by rw [HN.out])
        clear hnl
        go_wp2_with fail
        go_roundw
        case rel => exact ⟨k + 1, by omega, by go_num, by rw [HST.out]; first | rfl | exact congrArg (Value.int .u64) hst | simpa using hst, by trivial⟩
        case measure => simp [intOf]; omega
      · obtain rfl : k = size := by omega
        have hnl := numB_lt HK.out p k (by omega)
        have hnb : numB l p k < 4294967296 := Nat.lt_of_lt_of_le hnl (pow_le4 (by omega))
        clear hnl
        go_wp2_with fail
        go_ret2
        exact ⟨rfl, rfl⟩
  · rw [if_neg hin, decide_eq_false hin]
    by_cases hp2 : l.length < p
    · have d4 : decide ((l.length : Int) < p) = true := decide_eq_true (by omega)
      clear hin
      go_enter Try.func110, Try.ntmps110
      go_wp2_with fail
      go_ret2
      exact ⟨rfl, rfl⟩
    · have d4 : decide ((l.length : Int) < p) = false := decide_eq_false (by omega)
      have d5 : decide ((l.length : Int) - p < size) = true := decide_eq_true (by omega)
      clear hin
      go_enter Try.func110, Try.ntmps110
      go_wp2_with fail
      go_ret2
      exact ⟨rfl, rfl⟩

end Go.Proofs.Ytepmcfleijiloaa

end
section
set_option linter.unusedVariables false
/- pack.Encode: a graph's image. -/
namespace Go.Proofs.Ytepmcfleijiloaa
open Go.RowKit

def edgeB (e : Nat × Nat) : List Nat := be 4 e.1 ++ be 2 e.2
def edgesB (es : List (Nat × Nat)) : List Nat := es.flatMap edgeB
def nodeB (nd : Nd) : List Nat := be 1 (if nd.1 then 1 else 0) ++ be 2 nd.2.length ++ edgesB nd.2
def nodesB (ns : List Nd) : List Nat := ns.flatMap nodeB
def bodyB (ns : List Nd) : List Nat := [73, 78, 75, 49] ++ be 2 ns.length ++ nodesB ns
def sealB (l : List Nat) : List Nat := l ++ be 4 (crc l)
def imageB (ns : List Nd) : List Nat := sealB (bodyB ns)
theorem be_okb (size n : Nat) : Okb (be size n) := fun x hx => by
  obtain ⟨i, _, rfl⟩ := List.mem_map.1 hx
  exact Nat.mod_lt _ (by omega)
theorem okb_append {a b : List Nat} (ha : Okb a) (hb : Okb b) : Okb (a ++ b) := fun x hx => by
  rcases List.mem_append.1 hx with h | h
  · exact ha x h
  · exact hb x h
theorem okb_flat {α : Type} {l : List α} {f : α → List Nat} (h : ∀ a ∈ l, Okb (f a)) : Okb (l.flatMap f) := fun x hx => by
  obtain ⟨a, ha, hx⟩ := List.mem_flatMap.1 hx
  exact h a ha x hx
theorem edgeB_okb (e : Nat × Nat) : Okb (edgeB e) := okb_append (be_okb _ _) (be_okb _ _)
theorem nodeB_okb (nd : Nd) : Okb (nodeB nd) := okb_append (okb_append (be_okb _ _) (be_okb _ _)) (okb_flat fun e _ => edgeB_okb e)
theorem bodyB_okb (ns : List Nd) : Okb (bodyB ns) := okb_append (okb_append (by intro x hx; simp at hx; omega) (be_okb _ _)) (okb_flat fun nd _ => nodeB_okb nd)
theorem sealB_okb {l : List Nat} (h : Okb l) : Okb (sealB l) := okb_append h (be_okb _ _)
theorem edgesB_len (es : List (Nat × Nat)) : (edgesB es).length = 6 * es.length := by
  induction es with
  | nil => rfl
  | cons e es ih =>
    unfold edgesB at ih ⊢
    rw [List.flatMap_cons, List.length_append, ih]
    simp [edgeB, be_len]
    omega
theorem nodeB_len (nd : Nd) : (nodeB nd).length = 3 + 6 * nd.2.length := by
  unfold nodeB
  rw [List.length_append, List.length_append, edgesB_len, be_len, be_len]
/-- Numbers that an image holds. -/
structure Ok9 (ns : List Nd) : Prop where
  len : ns.length ≤ 721
  few : ∀ nd ∈ ns, nd.2.length ≤ 60
  small : ∀ nd ∈ ns, ∀ e ∈ nd.2, e.1 ≤ 1114111 ∧ e.2 < 721
theorem nodesB_len {ns : List Nd} (h : ∀ nd ∈ ns, nd.2.length ≤ 60) : (nodesB ns).length ≤ 363 * ns.length := by
  induction ns with
  | nil => simp [nodesB]
  | cons nd ns ih =>
    have h1 := ih fun x hx => h x (by simp [hx])
    have h2 := h nd (by simp)
    unfold nodesB at h1 ⊢
    rw [List.flatMap_cons, List.length_append, nodeB_len, List.length_cons]
    omega
theorem nodesB_take (ns : List Nd) (k : Nat) (hk : k < ns.length) : nodesB (ns.take (k + 1)) = nodesB (ns.take k) ++ nodeB ns[k] := by
  unfold nodesB
  rw [List.take_succ_eq_append_getElem hk, List.flatMap_append]
  simp
theorem edgesB_take (es : List (Nat × Nat)) (k : Nat) (hk : k < es.length) : edgesB (es.take (k + 1)) = edgesB (es.take k) ++ edgeB es[k] := by
  unfold edgesB
  rw [List.take_succ_eq_append_getElem hk, List.flatMap_append]
  simp
theorem edgesB_takelen (es : List (Nat × Nat)) (k : Nat) (hk : k ≤ es.length) : (edgesB (es.take k)).length ≤ 6 * es.length := by
  rw [edgesB_len, List.length_take]
  omega
/-- Ahead of a node: the bytes before it. -/
def preB (ns : List Nd) (k : Nat) : List Nat := [73, 78, 75, 49] ++ be 2 ns.length ++ nodesB (ns.take k)
theorem preB_len {ns : List Nd} (h : Ok9 ns) (k : Nat) : (preB ns k).length ≤ 300000 := by
  have h1 := nodesB_len (ns := ns.take k) fun nd hnd => h.few nd (List.mem_of_mem_take hnd)
  have h2 := List.length_take_le' k ns
  have h3 := h.len
  unfold preB
  rw [List.length_append, List.length_append, be_len]
  simp only [List.length_cons, List.length_nil]
  omega
theorem Byts.new4 (w : World) (fr : Nat × Nat) : Byts (w.alloc (.cells #[.int .u8 73, .int .u8 78, .int .u8 75, .int .u8 49] 5 fr)) 0 (some ⟨w.heap.size, 0, none⟩) 4 [73, 78, 75, 49] :=
  ⟨fun _ => ⟨w.heap.size, 0, rfl, Nat.zero_le _, by simp, fun j u hu => by
    rw [World.cell?_alloc_mark w _ 5 fr]
    match j, hu with
    | 0, hu => simp [bytv] at hu; subst hu; rfl
    | 1, hu => simp [bytv] at hu; subst hu; rfl
    | 2, hu => simp [bytv] at hu; subst hu; rfl
    | 3, hu => simp [bytv] at hu; subst hu; rfl⟩, by simp, by omega⟩
theorem NewB.byts {w w' : World} {l : List Nat} {A : Option Addr} {c : Nat} (h : w'.ownsRow w.heap.size 5 1 (.slice A l.length c) l.length (bytv l)) : Byts w' 0 A c l := by
  obtain ⟨_, _, e, h⟩ := Byts.of_own h
  cases e
  exact h.low (Nat.zero_le _)
theorem k83 {w : World} {A : Option Addr} {c : Nat} {l l2 : List Nat} (h : Byts w 0 A c l) (hl : l.length ≤ 900000) (n size : Nat) (len : Nat) (m z : Int) (hl2 : l2 = l ++ be size n) (hn : n < 4294967296) (hs : size ≤ 8) (hlen : len = l.length) (hm : m = n) (hz : z = size) :
    Calls Try.prog 83 #[.slice A len c, .int .i64 m, .int .i64 z] w (NewB w l2) := by
  rw [hl2, hm, hz, hlen]; exact c83 w A c l n size h hl hn hs

theorem cell_ext9 {w w' : World} {b o : Nat} {v : Value} (h : w.cell? ⟨b, o, none⟩ = some v) (hl : b < w.heap.size) (hb : Below w.heap.size w w') : w'.cell? ⟨b, o, none⟩ = some v :=
  (World.cell?_of_block (a := ⟨b, o, none⟩) (hb.block b hl)).trans h
theorem k31m {w : World} {v : Value} {ns : List Nd} {n : Int} {b : Bool} (h : GraphV w 0 v ns) (hb : b = (nodeOf ns n).1) : Calls Try.prog 31 #[v, .int .i64 n] w fun e w' => e = .returned (.bool b) ∧ Below w.heap.size w w' := by
  rw [hb]; exact c31 w 0 v ns n h
theorem q29m {w : World} {v : Value} {ns : List Nd} {n : Nat} (h : GraphV w 0 v ns) (hn : n = ns.length) : Calls Try.prog 29 #[v] w fun e w' => e = .returned (.int .i64 n) ∧ w = w' :=
  (c29 w 0 v ns h).mono fun e w' ⟨h1, h2⟩ => ⟨by rw [hn]; exact h1, h2⟩
set_option maxHeartbeats 4000000 in
set_option maxRecDepth 100000 in
/-- pack.Encode of a graph -/
theorem c52 (w : World) (g1 : Nat) (ns : List Nd) (h : GraphV w 0 (.pointer (some ⟨g1, 0, none⟩)) ns) (hok : Ok9 ns) :
    Calls Try.prog 52 #[.pointer (some ⟨g1, 0, none⟩)] w fun e w' => ∃ A c, e = .returned (.tuple #[.slice A (imageB ns).length c, .int .i64 0]) ∧ w'.ownsRow w.heap.size 5 1 (.slice A (imageB ns).length c) (imageB ns).length (bytv (imageB ns)) ∧ Below w.heap.size w w' := by
  have GV := Lib.hid h
  have OK := Lib.hid hok
  have hnl := hok.len
  obtain ⟨nl, hnle⟩ : ∃ n, n = ns.length := ⟨_, rfl⟩
  have HNL := Lib.hid hnle
  rw [← hnle] at hnl
  clear h hok hnle
  have kc := fun (w : World) (C : Array Value) (n c : Nat) => Lib.run_convert_bytes_const (P := Try.prog) w 62 5 C n c Try.underlying62 Try.underlying5
  go_enter Try.func52, Try.ntmps52
  go_wp2_with fail
  (with_reducible refine (q29m (GV.out.ext ((Below.refl _ _).alloc (Nat.le_refl _) _)) HNL.out).mono ?_); rintro e w1 ⟨rfl, rfl⟩
  have H4 := Lib.hid (Byts.new4 w (4, 5))
  have HB0 : Hid (Below w.heap.size w (w.alloc (.cells #[.int .u8 73, .int .u8 78, .int .u8 75, .int .u8 49] 5 (4, 5)))) := Lib.hid ((Below.refl _ _).alloc (Nat.le_refl _) _)
  have HP0 : Hid (preB ns 0 = [73, 78, 75, 49] ++ be 2 nl) := Lib.hid (by rw [HNL.out]; simp [preB, nodesB])
  go_wp2_with fail
  (with_reducible refine (k83 H4.out (by simp) nl 2 4 nl 2 HP0.out (by omega) (by omega) rfl rfl rfl).mono ?_); rintro e w1 ⟨A1, c1, rfl, ho, hb⟩
  have HBY := Lib.hid (NewB.byts ho)
  have HB1 := Lib.hid (below_ext HB0.out hb)
  have hbl := HBY.out.2.1
  clear ho hb H4 HB0
  go_wp2_with fail
  (with_reducible refine (q29m (GV.out.ext HB1.out) HNL.out).mono ?_); rintro e w2 ⟨rfl, rfl⟩
  go_wp2_with fail
  go_loopw [4, 19] (fun vb i wr => ∃ (k : Nat) (Ab : Option Addr) (cb : Nat), k ≤ nl ∧ i = .int .i64 k ∧ vb = .slice Ab (preB ns k).length cb ∧ Hid (Byts wr 0 Ab cb (preB ns k)) ∧ Hid (Below w.heap.size w wr)) (fun _ i _ => nl - (intOf i).toNat)
  case atStart => exact ⟨0, A1, c1, by omega, rfl, rfl, HBY, HB1⟩
  case round =>
    clear HBY HB1 hbl
    obtain ⟨k, Ab, cb, hk, rfl, rfl, HBY, HB⟩ := hrel
    obtain ⟨wo, rfl⟩ : ∃ wo : World, wo = wr := ⟨_, rfl⟩
    have hpl := preB_len OK.out k
    by_cases hlt : k < nl
    · have hkn : k < ns.length := by rw [← HNL.out]; exact hlt
      have HGK := Lib.hid (GV.out.ext HB.out)
      have HND : Hid (nodeOf ns k = ns[k]) := Lib.hid (nodeOf_in hkn)
      obtain ⟨nd, hnd⟩ : ∃ nd, nd = ns[k] := ⟨_, rfl⟩
      have hm := List.getElem_mem hkn
      have hfew : nd.2.length ≤ 60 := by rw [hnd]; exact OK.out.few _ hm
      have HSM : Hid (∀ e ∈ nd.2, e.1 ≤ 1114111 ∧ e.2 < 721) := Lib.hid (by rw [hnd]; exact OK.out.small _ hm)
      have HNX : Hid (preB ns (k + 1) = preB ns k ++ nodeB nd) := Lib.hid (by unfold preB; rw [nodesB_take ns k hkn, hnd]; simp only [List.append_assoc])
      rw [← hnd] at HND
      obtain ⟨pre, hpre⟩ : ∃ p, p = preB ns k := ⟨_, rfl⟩
      rw [← hpre] at HBY HNX hpl
      obtain ⟨f, hf⟩ : ∃ f, f = nd.1 := ⟨_, rfl⟩
      obtain ⟨es, hes⟩ : ∃ es, es = nd.2 := ⟨_, rfl⟩
      rw [← hes] at hfew HSM
      have HF : Hid (f = (nodeOf ns k).1) := Lib.hid (by rw [HND.out]; exact hf)
      have HES : Hid (es = (nodeOf ns k).2) := Lib.hid (by rw [HND.out]; exact hes)
      replace HNX : Hid (preB ns (k + 1) = pre ++ be 1 (if f then 1 else 0) ++ be 2 es.length ++ edgesB es) := Lib.hid (by rw [HNX.out, hf, hes]; simp [nodeB])
      have HPRE := Lib.hid hpre
      clear hm hnd hpre hf hes HND
      go_wp2_with fail
      (with_reducible refine (k31m HGK.out HF.out).mono ?_); rintro e w3 ⟨rfl, hb⟩
      replace HBY := Lib.hid (HBY.out.ext hb)
      replace HB := Lib.hid (below_ext HB.out hb)
      replace HGK := Lib.hid (HGK.out.ext hb)
      have hbl := HBY.out.2.1
      clear hb
      obtain ⟨p1, hp1⟩ : ∃ p, p = pre ++ be 1 (if f then 1 else 0) := ⟨_, rfl⟩
      have hp1l : p1.length ≤ pre.length + 1 := by rw [hp1, List.length_append, be_len]; omega
      obtain ⟨p2, hp2⟩ : ∃ p, p = p1 ++ be 2 es.length := ⟨_, rfl⟩
      have hp2l : p2.length ≤ pre.length + 3 := by rw [hp2, List.length_append, be_len]; omega
      rw [← hp1, ← hp2] at HNX
      have HP1 := Lib.hid hp1
      have HP2 := Lib.hid hp2
      clear hp1 hp2
      cases f
      · go_wp2_with fail
        (with_reducible refine (k83 HBY.out (by omega) 0 1 (preB ns k).length 0 1 HP1.out (by omega) (by omega) (by rw [HPRE.out]) rfl rfl).mono ?_); rintro e w4 ⟨A4, c4, rfl, ho, hb⟩
        replace HBY := Lib.hid (NewB.byts ho)
        replace HB := Lib.hid (below_ext HB.out hb)
        replace HGK := Lib.hid (HGK.out.ext hb)
        have hbl4 := HBY.out.2.1
        clear hb ho
        go_wp2_with fail
        (with_reducible refine (c30 w4 0 _ ns k es HGK.out HES.out (by omega)).mono ?_); rintro e w5 ⟨r5, rfl, ho, hb⟩
        obtain ⟨A5, c5, rfl, he⟩ := Edgs.of_own ho
        have hl1 := he.2.1
        have hl2 := he.2.2
        have HE := Lib.hid (he.low (Nat.zero_le _))
        replace HBY := Lib.hid (HBY.out.ext hb)
        replace HB := Lib.hid (below_ext HB.out hb)
        replace HGK := Lib.hid (HGK.out.ext hb)
        clear hb ho he
        go_wp2_with fail
        (with_reducible refine (k83 HBY.out (by omega) es.length 2 p1.length es.length 2 HP2.out (by omega) (by omega) rfl rfl rfl).mono ?_); rintro e w6 ⟨A6, c6, rfl, ho, hb⟩
        replace HBY := Lib.hid (NewB.byts ho)
        replace HB := Lib.hid (below_ext HB.out hb)
        replace HE := Lib.hid (HE.out.ext hb)
        have hbl6 := HBY.out.2.1
        have HBY0 : Hid (Byts w6 0 A6 c6 (p2 ++ edgesB (es.take 0))) := Lib.hid (by simpa [edgesB] using HBY.out)
        have hq0 : (p2 ++ edgesB (es.take 0)).length = p2.length := by simp [edgesB]
        clear hb ho HBY
        go_wp2_with fail
        go_loopw [4, 37] (fun vb i wr => ∃ (m : Nat) (Ab : Option Addr) (cb : Nat), m ≤ es.length ∧ i = .int .i64 m ∧ vb = .slice Ab (p2 ++ edgesB (es.take m)).length cb ∧ Hid (Byts wr 0 Ab cb (p2 ++ edgesB (es.take m))) ∧ Hid (Below w.heap.size w wr) ∧ Hid (Below w6.heap.size w6 wr)) (fun _ i _ => es.length - (intOf i).toNat)
        case atStart => exact ⟨0, A6, c6, by omega, rfl, by rw [hq0], HBY0, HB, Lib.hid (Below.refl _ _)⟩
        case round =>
          clear HBY0 hq0 HB
          obtain ⟨m, Am, cm, hm, rfl, rfl, HBY, HB, HB6⟩ := hrel
          have hel := edgesB_takelen es m hm
          have hql : (p2 ++ edgesB (es.take m)).length ≤ 300363 := by rw [List.length_append]; omega
          have hbm := HBY.out.2.1
          by_cases hme : m < es.length
          · obtain ⟨b0, o, rfl, _, hbl0, hc1, hc2⟩ := (HE.out.ext HB6.out).at_ hme
            have hsm := HSM.out _ (List.getElem_mem hme)
            obtain ⟨r, hr⟩ : ∃ r, r = es[m].1 := ⟨_, rfl⟩
            obtain ⟨tn, htn⟩ : ∃ t, t = es[m].2 := ⟨_, rfl⟩
            rw [← hr] at hc1 hsm
            rw [← htn] at hc2 hsm
            obtain ⟨hr1, ht1⟩ := hsm
            obtain ⟨q, hq⟩ : ∃ q, q = p2 ++ edgesB (es.take m) := ⟨_, rfl⟩
            rw [← hq] at hql hbm HBY
            obtain ⟨q1, hq1⟩ : ∃ q1, q1 = q ++ be 4 r := ⟨_, rfl⟩
            have hq1l : q1.length ≤ q.length + 4 := by rw [hq1, List.length_append, be_len]; omega
            have HQ2 : Hid (p2 ++ edgesB (es.take (m + 1)) = q1 ++ be 2 tn) := Lib.hid (by rw [edgesB_take es m hme, ← List.append_assoc, ← hq, hq1, hr, htn]; simp [edgeB])
            have HQ1 := Lib.hid hq1
            have HXA : Hid (Below wr.heap.size wr (wr.alloc (.cells #[.int .i32 r, .int .i64 tn] 49))) := Lib.hid ((Below.refl _ _).alloc (Nat.le_refl _) _)
            have HQ := Lib.hid hq
            clear hr htn hq1 hq
            go_wp2_with fail
            (with_reducible refine (k83 (HBY.out.ext HXA.out) (by omega) r 4 (p2.length + (edgesB (es.take m)).length) r 4 HQ1.out (by omega) (by omega) (by rw [HQ.out, List.length_append]) rfl rfl).mono ?_); rintro e w7 ⟨A7, c7, rfl, ho, hb⟩
            have hc7 : w7.cell? ⟨wr.heap.size, 1, none⟩ = some (.int .i64 tn) := cell_ext9 (cell_new wr _ _ _ 1) (by simp) hb
            have HBY7 := Lib.hid (NewB.byts ho)
            have HB7 := Lib.hid (below_ext HXA.out hb)
            have hbl7 := HBY7.out.2.1
            clear hb ho
            go_wp2_with fail
            (with_reducible refine (k83 HBY7.out (by omega) tn 2 q1.length tn 2 HQ2.out (by omega) (by omega) rfl rfl rfl).mono ?_); rintro e w8 ⟨A8, c8, rfl, ho, hb⟩
            have HBY8 := Lib.hid (NewB.byts ho)
            have HB8 := Lib.hid (below_ext HB7.out hb)
            clear hb ho
            go_wp2_with fail
            go_roundw
            case rel => exact ⟨m + 1, A8, c8, by omega, by go_num, by rw [List.length_append], HBY8, Lib.hid (below_ext HB.out HB8.out), Lib.hid (below_ext HB6.out HB8.out)⟩
            case measure => simp [intOf]; omega
          · obtain rfl : m = es.length := by omega
            have HFI : Hid (p2 ++ edgesB (es.take es.length) = preB ns (k + 1)) := Lib.hid (by rw [HNX.out, List.take_length])
            rw [HFI.out] at HBY
            rw [HFI.out]
            go_wp2_with fail
            go_roundw
            case rel => exact ⟨k + 1, Am, cm, by omega, by go_num, rfl, HBY, HB⟩
            case measure => simp [intOf]; omega
      · go_wp2_with fail
        (with_reducible refine (k83 HBY.out (by omega) 1 1 (preB ns k).length 1 1 HP1.out (by omega) (by omega) (by rw [HPRE.out]) rfl rfl).mono ?_); rintro e w4 ⟨A4, c4, rfl, ho, hb⟩
        replace HBY := Lib.hid (NewB.byts ho)
        replace HB := Lib.hid (below_ext HB.out hb)
        replace HGK := Lib.hid (HGK.out.ext hb)
        have hbl4 := HBY.out.2.1
        clear hb ho
        go_wp2_with fail
        (with_reducible refine (c30 w4 0 _ ns k es HGK.out HES.out (by omega)).mono ?_); rintro e w5 ⟨r5, rfl, ho, hb⟩
        obtain ⟨A5, c5, rfl, he⟩ := Edgs.of_own ho
        have hl1 := he.2.1
        have hl2 := he.2.2
        have HE := Lib.hid (he.low (Nat.zero_le _))
        replace HBY := Lib.hid (HBY.out.ext hb)
        replace HB := Lib.hid (below_ext HB.out hb)
        replace HGK := Lib.hid (HGK.out.ext hb)
        clear hb ho he
        go_wp2_with fail
        (with_reducible refine (k83 HBY.out (by omega) es.length 2 p1.length es.length 2 HP2.out (by omega) (by omega) rfl rfl rfl).mono ?_); rintro e w6 ⟨A6, c6, rfl, ho, hb⟩
        replace HBY := Lib.hid (NewB.byts ho)
        replace HB := Lib.hid (below_ext HB.out hb)
        replace HE := Lib.hid (HE.out.ext hb)
        have hbl6 := HBY.out.2.1
        have HBY0 : Hid (Byts w6 0 A6 c6 (p2 ++ edgesB (es.take 0))) := Lib.hid (by simpa [edgesB] using HBY.out)
        have hq0 : (p2 ++ edgesB (es.take 0)).length = p2.length := by simp [edgesB]
        clear hb ho HBY
        go_wp2_with fail
        go_loopw [4, 37] (fun vb i wr => ∃ (m : Nat) (Ab : Option Addr) (cb : Nat), m ≤ es.length ∧ i = .int .i64 m ∧ vb = .slice Ab (p2 ++ edgesB (es.take m)).length cb ∧ Hid (Byts wr 0 Ab cb (p2 ++ edgesB (es.take m))) ∧ Hid (Below w.heap.size w wr) ∧ Hid (Below w6.heap.size w6 wr)) (fun _ i _ => es.length - (intOf i).toNat)
        case atStart => exact ⟨0, A6, c6, by omega, rfl, by rw [hq0], HBY0, HB, Lib.hid (Below.refl _ _)⟩
        case round =>
          clear HBY0 hq0 HB
          obtain ⟨m, Am, cm, hm, rfl, rfl, HBY, HB, HB6⟩ := hrel
          have hel := edgesB_takelen es m hm
          have hql : (p2 ++ edgesB (es.take m)).length ≤ 300363 := by rw [List.length_append]; omega
          have hbm := HBY.out.2.1
          by_cases hme : m < es.length
          · obtain ⟨b0, o, rfl, _, hbl0, hc1, hc2⟩ := (HE.out.ext HB6.out).at_ hme
            have hsm := HSM.out _ (List.getElem_mem hme)
            obtain ⟨r, hr⟩ : ∃ r, r = es[m].1 := ⟨_, rfl⟩
            obtain ⟨tn, htn⟩ : ∃ t, t = es[m].2 := ⟨_, rfl⟩
            rw [← hr] at hc1 hsm
            rw [← htn] at hc2 hsm
            obtain ⟨hr1, ht1⟩ := hsm
            obtain ⟨q, hq⟩ : ∃ q, q = p2 ++ edgesB (es.take m) := ⟨_, rfl⟩
            rw [← hq] at hql hbm HBY
            obtain ⟨q1, hq1⟩ : ∃ q1, q1 = q ++ be 4 r := ⟨_, rfl⟩
            have hq1l : q1.length ≤ q.length + 4 := by rw [hq1, List.length_append, be_len]; omega
            have HQ2 : Hid (p2 ++ edgesB (es.take (m + 1)) = q1 ++ be 2 tn) := Lib.hid (by rw [edgesB_take es m hme, ← List.append_assoc, ← hq, hq1, hr, htn]; simp [edgeB])
            have HQ1 := Lib.hid hq1
            have HXA : Hid (Below wr.heap.size wr (wr.alloc (.cells #[.int .i32 r, .int .i64 tn] 49))) := Lib.hid ((Below.refl _ _).alloc (Nat.le_refl _) _)
            have HQ := Lib.hid hq
            clear hr htn hq1 hq
            go_wp2_with fail
            (with_reducible refine (k83 (HBY.out.ext HXA.out) (by omega) r 4 (p2.length + (edgesB (es.take m)).length) r 4 HQ1.out (by omega) (by omega) (by rw [HQ.out, List.length_append]) rfl rfl).mono ?_); rintro e w7 ⟨A7, c7, rfl, ho, hb⟩
            have hc7 : w7.cell? ⟨wr.heap.size, 1, none⟩ = some (.int .i64 tn) := cell_ext9 (cell_new wr _ _ _ 1) (by simp) hb
            have HBY7 := Lib.hid (NewB.byts ho)
            have HB7 := Lib.hid (below_ext HXA.out hb)
            have hbl7 := HBY7.out.2.1
            clear hb ho
            go_wp2_with fail
            (with_reducible refine (k83 HBY7.out (by omega) tn 2 q1.length tn 2 HQ2.out (by omega) (by omega) rfl rfl rfl).mono ?_); rintro e w8 ⟨A8, c8, rfl, ho, hb⟩
            have HBY8 := Lib.hid (NewB.byts ho)
            have HB8 := Lib.hid (below_ext HB7.out hb)
            clear hb ho
            go_wp2_with fail
            go_roundw
            case rel => exact ⟨m + 1, A8, c8, by omega, by go_num, by rw [List.length_append], HBY8, Lib.hid (below_ext HB.out HB8.out), Lib.hid (below_ext HB6.out HB8.out)⟩
            case measure => simp [intOf]; omega
          · obtain rfl : m = es.length := by omega
            have HFI : Hid (p2 ++ edgesB (es.take es.length) = preB ns (k + 1)) := Lib.hid (by rw [HNX.out, List.take_length])
            rw [HFI.out] at HBY
            rw [HFI.out]
            go_wp2_with fail
            go_roundw
            case rel => exact ⟨k + 1, Am, cm, by omega, by go_num, rfl, HBY, HB⟩
            case measure => simp [intOf]; omega
    · obtain rfl : k = nl := by omega
      have HPB : Hid (preB ns k = bodyB ns) := Lib.hid (by rw [HNL.out]; unfold preB bodyB; rw [List.take_length])
      have hbl := HBY.out.2.1
      obtain ⟨cr, hcr⟩ : ∃ n, n = crc (preB ns k) := ⟨_, rfl⟩
      have hcrl : cr < 4294967296 := by rw [hcr]; exact crc_lt _
      have HIM : Hid (imageB ns = preB ns k ++ be 4 cr) := Lib.hid (by rw [hcr, HPB.out]; rfl)
      have HCR := Lib.hid hcr
      have HOKB : Hid (Okb (preB ns k)) := Lib.hid (by rw [HPB.out]; exact bodyB_okb ns)
      clear hcr HPB
      go_wp2_with fail
      (with_reducible refine (c84 HBY.out HOKB.out (by omega) HCR.out).mono ?_); rintro e w3 ⟨rfl, rfl⟩
      go_wp2_with fail
      (with_reducible refine (k83 HBY.out (by omega) cr 4 _ cr 4 HIM.out (by omega) (by omega) rfl rfl rfl).mono ?_); rintro e w3 ⟨A7, c7, rfl, ho, hb⟩
      have HO := Lib.hid (own_low ho HB.out.size)
      replace HB := Lib.hid (below_ext HB.out hb)
      clear ho hb
      go_wp2_with fail
      go_ret2
      exact ⟨A7, c7, rfl, HO.out, HB.out⟩

end Go.Proofs.Ytepmcfleijiloaa

end
section
set_option linter.unusedVariables false
/- inkhornref9.Encode: the reference's image of a graph. -/
namespace Go.Proofs.Ytepmcfleijiloaa
open Go.RowKit

theorem k103 {w : World} {A : Option Addr} {c : Nat} {l l2 : List Nat} (h : Byts w 0 A c l) (hl : l.length ≤ 900000) (n size : Nat) (len : Nat) (m z : Int) (hl2 : l2 = l ++ be size n) (hn : n < 4294967296) (hs : size ≤ 8) (hlen : len = l.length) (hm : m = n) (hz : z = size) :
    Calls Try.prog 103 #[.slice A len c, .int .i64 m, .int .i64 z] w (NewB w l2) := by
  rw [hl2, hm, hz, hlen]; exact c103 w A c l n size h hl hn hs
theorem k111 {w : World} {A : Option Addr} {c n len : Nat} {l : List Nat} (h : Byts w 0 A c l) (hb : Okb l) (hl : l.length ≤ 1000000) (hn : n = crc l) (hlen : len = l.length) :
    Calls Try.prog 111 #[.slice A len c] w fun e w' => e = .returned (.int .u32 n) ∧ w = w' := by
  rw [hlen]; exact c111 h hb hl hn

set_option maxRecDepth 100000 in
/-- inkhornref9.Seal -/
theorem c104 {w : World} {A : Option Addr} {c len : Nat} {l l2 : List Nat} (h : Byts w 0 A c l) (hb : Okb l) (hl : l.length ≤ 800000) (hl2 : l2 = sealB l) (hlen : len = l.length) :
    Calls Try.prog 104 #[.slice A len c] w (NewB w l2) := by
  subst hlen
  have hl1 := h.2.1
  have hl3 := h.2.2
  obtain ⟨cr, hcr⟩ : ∃ n, n = crc l := ⟨_, rfl⟩
  have hcrl : cr < 4294967296 := by rw [hcr]; exact crc_lt _
  have HIM : Hid (l2 = l ++ be 4 cr) := Lib.hid (by rw [hcr, hl2]; rfl)
  have HCR := Lib.hid hcr
  have H := Lib.hid h
  have HB := Lib.hid hb
  clear hcr hl2 h hb
  go_enter Try.func104, Try.ntmps104
  go_wp2_with fail
  (with_reducible refine (k111 H.out HB.out (by omega) HCR.out rfl).mono ?_); rintro e w1 ⟨rfl, rfl⟩
  go_wp2_with fail
  (with_reducible refine (k103 H.out (by omega) cr 4 _ cr 4 HIM.out (by omega) (by omega) rfl rfl rfl).mono ?_); rintro e w3 ⟨A7, c7, rfl, ho, hb⟩
  have HO := Lib.hid ho
  have HB3 := Lib.hid hb
  clear ho hb
  go_wp2_with fail
  go_ret
  exact ⟨A7, c7, rfl, HO.out, HB3.out⟩

/-- What the reference's graph holds. -/
theorem RefG.cells {w : World} {p : Value} {T : Rs} (h : RefG w p (nodesOf T)) : ∃ g b o c, p = .pointer (some ⟨g, 0, none⟩) ∧ (nodesOf T).length ≤ c ∧ c ≤ 9223372036854775807 ∧
    ∀ w', Below w.heap.size w w' → w'.cell? ⟨g, 0, none⟩ = some (.slice (some ⟨b, o, none⟩) (nodesOf T).length c) ∧
      ∀ k (hk : k < (nodesOf T).length), ∃ A2 c2, w'.cell? ⟨b, o + k * 2 + 1, none⟩ = some (.slice A2 (edgesOf (nodesOf T) (nodesOf T)[k]).length c2) ∧ Edgs w' 0 A2 c2 (edgesOf (nodesOf T) (nodesOf T)[k]) := by
  obtain ⟨g, A, c, cs, h1, h2, h3, h4, h5, h6, h7⟩ := h
  obtain ⟨M, hM⟩ := nodesOf_head T
  have hpos : 0 < (nodesOf T).length := by rw [hM]; simp
  obtain ⟨b, o, rfl, _, hb, hc⟩ := h5 (by rw [flat_len]; omega)
  refine ⟨g, b, o, c, h1, h3, h4, fun w' hw => ⟨?_, fun k hk => ?_⟩⟩
  · rw [cell_of_row _ _ _ _ _ _ ((hw.block g (Array.getElem?_eq_some_iff.1 h2).1).trans h2)]; rfl
  · obtain ⟨A1, c1, A2, c2, e, s1, s2⟩ := h7 k (by omega) hk
    have hf := flat_at cs k (by omega)
    rw [e] at hf
    have k2 := hc _ _ hf.2
    rw [← Nat.add_assoc, Nat.mul_comm] at k2
    simp only at k2
    exact ⟨A2, c2, (World.cell?_of_block (a := ⟨b, o + k * 2 + 1, none⟩) (hw.block b hb)).trans k2, s2.ext hw⟩

set_option maxHeartbeats 4000000 in
set_option maxRecDepth 100000 in
/-- inkhornref9.Encode -/
theorem c82 (w : World) (p : Value) (T : Rs) (h : RefG w p (nodesOf T)) (hW : Wd T) (hok : Ok9 (graphOf T)) :
    Calls Try.prog 82 #[p] w (NewB w (imageB (graphOf T))) := by
  obtain ⟨g, b, o, c, hp, hN1, hN2, hcells⟩ := h.cells
  obtain ⟨ns, hns⟩ : ∃ ns, ns = graphOf T := ⟨_, rfl⟩
  obtain ⟨nl, hnle⟩ : ∃ n, n = (nodesOf T).length := ⟨_, rfl⟩
  have HNL : Hid (nl = ns.length) := Lib.hid (by rw [hnle, hns, graphOf_len])
  have HED : Hid (∀ k (hk : k < (nodesOf T).length) (h2 : k < ns.length), ns[k].2 = edgesOf (nodesOf T) (nodesOf T)[k]) := Lib.hid (by
    intro k hk h2
    subst hns
    simp [graphOf, ndOf])
  have HCELL : Hid (∀ w', Below w.heap.size w w' → w'.cell? ⟨g, 0, none⟩ = some (.slice (some ⟨b, o, none⟩) nl c) ∧
      ∀ k (hk : k < ns.length), ∃ A2 c2, w'.cell? ⟨b, o + k * 2 + 1, none⟩ = some (.slice A2 ns[k].2.length c2) ∧ Edgs w' 0 A2 c2 ns[k].2) := Lib.hid (by
    intro w' hw
    obtain ⟨h1, h2⟩ := hcells w' hw
    rw [hnle]
    refine ⟨h1, fun k hk => ?_⟩
    have hk2 : k < (nodesOf T).length := by rw [← hnle, HNL.out]; exact hk
    obtain ⟨A2, c2, h3, h4⟩ := h2 k hk2
    rw [HED.out k hk2 hk]
    exact ⟨A2, c2, h3, h4⟩)
  have OK : Hid (Ok9 ns) := Lib.hid (by rw [hns]; exact hok)
  have hnl : nl ≤ 721 := by rw [HNL.out]; exact OK.out.len
  rw [← hnle] at hN1
  have RG := Lib.hid h
  have HWD := Lib.hid hW
  have HNS := Lib.hid hns
  rw [← hns]
  subst hp
  clear h hok hnle hns hcells hW HED
  have hkg0 := (HCELL.out w (Below.refl _ _)).1
  have hkg := (HCELL.out (w.alloc (.cells #[.int .u8 73, .int .u8 78, .int .u8 75, .int .u8 49] 5)) ((Below.refl _ _).alloc (Nat.le_refl _) _)).1
  have H4 := Lib.hid (Byts.new4 w (0, 0))
  have HB0 : Hid (Below w.heap.size w (w.alloc (.cells #[.int .u8 73, .int .u8 78, .int .u8 75, .int .u8 49] 5))) := Lib.hid ((Below.refl _ _).alloc (Nat.le_refl _) _)
  have HP0 : Hid (preB ns 0 = [73, 78, 75, 49] ++ be 2 nl) := Lib.hid (by rw [HNL.out]; simp [preB, nodesB])
  go_enter Try.func82, Try.ntmps82
  go_wp2_with fail
  (with_reducible refine (k103 H4.out (by simp) nl 2 4 nl 2 HP0.out (by omega) (by omega) rfl rfl rfl).mono ?_); rintro e w1 ⟨A1, c1, rfl, ho, hb⟩
  have HBY := Lib.hid (NewB.byts ho)
  have HB1 := Lib.hid (below_ext HB0.out hb)
  have hbl := HBY.out.2.1
  clear ho hb H4 HB0 hkg hkg0
  go_wp2_with fail
  go_loopw [3, 4] (fun vb i wr => ∃ (k : Nat) (Ab : Option Addr) (cb : Nat), k ≤ nl ∧ i = .int .i64 k ∧ vb = .slice Ab (preB ns k).length cb ∧ Hid (Byts wr 0 Ab cb (preB ns k)) ∧ Hid (Below w.heap.size w wr)) (fun _ i _ => nl - (intOf i).toNat)
  case atStart => exact ⟨0, A1, c1, by omega, rfl, rfl, HBY, HB1⟩
  case round =>
    clear HBY HB1 hbl
    obtain ⟨k, Ab, cb, hk, rfl, rfl, HBY, HB⟩ := hrel
    obtain ⟨wo, rfl⟩ : ∃ wo : World, wo = wr := ⟨_, rfl⟩
    have hpl := preB_len OK.out k
    have hkg := (HCELL.out wo HB.out).1
    by_cases hlt : k < nl
    · have hkn : k < ns.length := by rw [← HNL.out]; exact hlt
      have HND : Hid (nodeOf ns k = ns[k]) := Lib.hid (nodeOf_in hkn)
      obtain ⟨A5, c5, hk5, he⟩ := (HCELL.out wo HB.out).2 k hkn
      obtain ⟨nd, hnd⟩ : ∃ nd, nd = ns[k] := ⟨_, rfl⟩
      have hm := List.getElem_mem hkn
      have hfew : nd.2.length ≤ 60 := by rw [hnd]; exact OK.out.few _ hm
      have HSM : Hid (∀ e ∈ nd.2, e.1 ≤ 1114111 ∧ e.2 < 721) := Lib.hid (by rw [hnd]; exact OK.out.small _ hm)
      have HNX : Hid (preB ns (k + 1) = preB ns k ++ nodeB nd) := Lib.hid (by unfold preB; rw [nodesB_take ns k hkn, hnd]; simp only [List.append_assoc])
      rw [← hnd] at HND hk5 he
      obtain ⟨pre, hpre⟩ : ∃ p, p = preB ns k := ⟨_, rfl⟩
      rw [← hpre] at HBY HNX hpl
      obtain ⟨f, hf⟩ : ∃ f, f = nd.1 := ⟨_, rfl⟩
      obtain ⟨es, hes⟩ : ∃ es, es = nd.2 := ⟨_, rfl⟩
      rw [← hes] at hfew HSM hk5 he
      have HE := Lib.hid he
      have hl1 := he.2.1
      have hl2 := he.2.2
      have HF : Hid (f = (nodeOf (graphOf T) k).1) := Lib.hid (by rw [← HNS.out, HND.out]; exact hf)
      replace HNX : Hid (preB ns (k + 1) = pre ++ be 1 (if f then 1 else 0) ++ be 2 es.length ++ edgesB es) := Lib.hid (by rw [HNX.out, hf, hes]; simp [nodeB])
      have HPRE := Lib.hid hpre
      clear hm hnd hpre hf hes HND he
      go_wp2_with fail
      (with_reducible refine (k32 (RG.out.ext HB.out) HF.out HWD.out).mono ?_); rintro e w3 ⟨rfl, rfl⟩
      have hbl := HBY.out.2.1
      obtain ⟨p1, hp1⟩ : ∃ p, p = pre ++ be 1 (if f then 1 else 0) := ⟨_, rfl⟩
      have hp1l : p1.length ≤ pre.length + 1 := by rw [hp1, List.length_append, be_len]; omega
      obtain ⟨p2, hp2⟩ : ∃ p, p = p1 ++ be 2 es.length := ⟨_, rfl⟩
      have hp2l : p2.length ≤ pre.length + 3 := by rw [hp2, List.length_append, be_len]; omega
      rw [← hp1, ← hp2] at HNX
      have HP1 := Lib.hid hp1
      have HP2 := Lib.hid hp2
      clear hp1 hp2
      cases f
      · go_wp2_with fail
        go_region_law (first
          | (go_simp; go_at_call 103; (with_reducible refine (k103 (HBY.out.ext (by repeat (first | exact Below.refl _ _ | apply below_drewN | apply Below.drew | (refine Below.alloc ?_ (by simp) _)))) (by omega) 0 1 (preB ns k).length 0 1 HP1.out (by omega) (by omega) (by rw [HPRE.out]) rfl rfl).mono ?_); rintro e w4 ⟨A4, c4, rfl, ho, hb⟩; have HBY4 := Lib.hid (NewB.byts ho); have HB4 : Hid (Below w.heap.size w w4) := Lib.hid (below_ext (below_ext HB.out (by repeat (first | exact Below.refl _ _ | apply below_drewN | apply Below.drew | (refine Below.alloc ?_ (by simp) _)))) hb); have hkg4 := (HCELL.out w4 HB4.out).1; have hk54 : w4.cell? ⟨b, o + k * 2 + 1, none⟩ = some (.slice A5 es.length c5) := cell_ext9 hk5 (World.block_lt_of_cell? _ _ hk5) (below_ext (by repeat (first | exact Below.refl _ _ | apply below_drewN | apply Below.drew | (refine Below.alloc ?_ (by simp) _))) hb); have HO4 : Hid (Below wo.heap.size wo w4) := Lib.hid (below_ext (by repeat (first | exact Below.refl _ _ | apply below_drewN | apply Below.drew | (refine Below.alloc ?_ (by simp) _))) hb); clear ho hb)
          | (go_simp; go_at_call 103; (with_reducible refine (k103 (HBY4.out.ext (by repeat (first | exact Below.refl _ _ | apply below_drewN | apply Below.drew | (refine Below.alloc ?_ (by simp) _)))) (by omega) es.length 2 p1.length es.length 2 HP2.out (by omega) (by omega) rfl rfl rfl).mono ?_); rintro e w6 ⟨A6, c6, rfl, ho, hb⟩; have HBY6 := Lib.hid (NewB.byts ho); have HB6 : Hid (Below w.heap.size w w6) := Lib.hid (below_ext (below_ext HB4.out (by repeat (first | exact Below.refl _ _ | apply below_drewN | apply Below.drew | (refine Below.alloc ?_ (by simp) _)))) hb); have HO6 : Hid (Below wo.heap.size wo w6) := Lib.hid (below_ext (below_ext HO4.out (by repeat (first | exact Below.refl _ _ | apply below_drewN | apply Below.drew | (refine Below.alloc ?_ (by simp) _)))) hb); clear ho hb))
        all_goals
          have hbl6 := HBY6.out.2.1
          have HBY0 : Hid (Byts w6 0 A6 c6 (p2 ++ edgesB (es.take 0))) := Lib.hid (by simpa [edgesB] using HBY6.out)
          have hq0 : (p2 ++ edgesB (es.take 0)).length = p2.length := by simp [edgesB]
          clear HBY6
          go_wp2_with fail
          go_loopw [3, 6] (fun vb i wr => ∃ (m : Nat) (Ab : Option Addr) (cb : Nat), m ≤ es.length ∧ i = .int .i64 m ∧ vb = .slice Ab (p2 ++ edgesB (es.take m)).length cb ∧ Hid (Byts wr 0 Ab cb (p2 ++ edgesB (es.take m))) ∧ Hid (Below w.heap.size w wr) ∧ Hid (Below wo.heap.size wo wr)) (fun _ i _ => es.length - (intOf i).toNat)
          case atStart => exact ⟨0, A6, c6, by omega, rfl, by rw [hq0], HBY0, HB6, HO6⟩
          case round =>
            clear HBY0 hq0 HB6 HO6
            obtain ⟨m, Am, cm, hm, rfl, rfl, HBY, HB', HBO⟩ := hrel
            have hel := edgesB_takelen es m hm
            have hql : (p2 ++ edgesB (es.take m)).length ≤ 300363 := by rw [List.length_append]; omega
            have hbm := HBY.out.2.1
            have hkgr := (HCELL.out wr HB'.out).1
            have hk5r := cell_ext9 hk5 (World.block_lt_of_cell? _ _ hk5) HBO.out
            by_cases hme : m < es.length
            · obtain ⟨b0, o0, rfl, _, hbl0, hc1, hc2⟩ := (HE.out.ext HBO.out).at_ hme
              have hsm := HSM.out _ (List.getElem_mem hme)
              obtain ⟨r, hr⟩ : ∃ r, r = es[m].1 := ⟨_, rfl⟩
              obtain ⟨tn, htn⟩ : ∃ t, t = es[m].2 := ⟨_, rfl⟩
              rw [← hr] at hc1 hsm
              rw [← htn] at hc2 hsm
              obtain ⟨hr1, ht1⟩ := hsm
              obtain ⟨q, hq⟩ : ∃ q, q = p2 ++ edgesB (es.take m) := ⟨_, rfl⟩
              rw [← hq] at hql hbm HBY
              obtain ⟨q1, hq1⟩ : ∃ q1, q1 = q ++ be 4 r := ⟨_, rfl⟩
              have hq1l : q1.length ≤ q.length + 4 := by rw [hq1, List.length_append, be_len]; omega
              have HQ2 : Hid (p2 ++ edgesB (es.take (m + 1)) = q1 ++ be 2 tn) := Lib.hid (by rw [edgesB_take es m hme, ← List.append_assoc, ← hq, hq1, hr, htn]; simp [edgeB])
              have HQ1 := Lib.hid hq1
              have hwr : IntKind.i64.wrap (r : Int) = r := by simp [IntKind.wrap, IntKind.signed, IntKind.bits]; omega
              have HWR := Lib.hid hwr
              clear hwr
              have HXA : Hid (Below wr.heap.size wr (wr.alloc (.cells #[.int .i32 r, .int .i64 tn] 49))) := Lib.hid ((Below.refl _ _).alloc (Nat.le_refl _) _)
              have HQ := Lib.hid hq
              clear hr htn hq1 hq
              go_wp2_with fail
              go_region_law (first
                | (go_simp; go_at_call 103; (with_reducible refine (k103 (HBY.out.ext (by repeat (first | exact Below.refl _ _ | apply below_drewN | apply Below.drew | (refine Below.alloc ?_ (by simp) _)))) (by omega) r 4 (p2.length + (edgesB (es.take m)).length) (IntKind.i64.wrap (r : Int)) 4 HQ1.out (by omega) (by omega) (by rw [HQ.out, List.length_append]) HWR.out rfl).mono ?_); rintro e w7 ⟨A7, c7, rfl, ho, hb⟩; have HBY7 := Lib.hid (NewB.byts ho); have hc7 : w7.cell? ⟨wr.heap.size, 1, none⟩ = some (.int .i64 tn) := cell_ext9 (cell_new wr #[.int .i32 r, .int .i64 tn] 49 (0, 0) 1) (by simp) (below_ext (by repeat (first | exact Below.refl _ _ | apply below_drewN | apply Below.drew | (refine Below.alloc ?_ (by simp) _))) hb); have HX7 : Hid (Below wr.heap.size wr w7) := Lib.hid (below_ext (by repeat (first | exact Below.refl _ _ | apply below_drewN | apply Below.drew | (refine Below.alloc ?_ (by simp) _))) hb); have hbl7 := HBY7.out.2.1; clear ho hb)
                | (go_simp; go_at_call 103; (with_reducible refine (k103 (HBY7.out.ext (by repeat (first | exact Below.refl _ _ | apply below_drewN | apply Below.drew | (refine Below.alloc ?_ (by simp) _)))) (by omega) tn 2 q1.length tn 2 HQ2.out (by omega) (by omega) rfl rfl rfl).mono ?_); rintro e w8 ⟨A8, c8, rfl, ho, hb⟩; have HBY8 := Lib.hid (NewB.byts ho); have HX8 : Hid (Below wr.heap.size wr w8) := Lib.hid (below_ext (below_ext HX7.out (by repeat (first | exact Below.refl _ _ | apply below_drewN | apply Below.drew | (refine Below.alloc ?_ (by simp) _)))) hb); clear ho hb))
              all_goals
                go_wp2_with fail
                go_roundw
                case rel => exact ⟨m + 1, A8, c8, by omega, by go_num, by rw [List.length_append], HBY8, Lib.hid (below_ext HB'.out HX8.out), Lib.hid (below_ext HBO.out HX8.out)⟩
                case measure => simp [intOf]; omega
            · obtain rfl : m = es.length := by omega
              have HFI : Hid (p2 ++ edgesB (es.take es.length) = preB ns (k + 1)) := Lib.hid (by rw [HNX.out, List.take_length])
              rw [HFI.out] at HBY
              rw [HFI.out]
              go_wp2_with fail
              go_roundw
              case rel => exact ⟨k + 1, Am, cm, by omega, by go_num, rfl, HBY, HB'⟩
              case measure => simp [intOf]; omega
      · go_wp2_with fail
        go_region_law (first
          | (go_simp; go_at_call 103; (with_reducible refine (k103 (HBY.out.ext (by repeat (first | exact Below.refl _ _ | apply below_drewN | apply Below.drew | (refine Below.alloc ?_ (by simp) _)))) (by omega) 1 1 (preB ns k).length 1 1 HP1.out (by omega) (by omega) (by rw [HPRE.out]) rfl rfl).mono ?_); rintro e w4 ⟨A4, c4, rfl, ho, hb⟩; have HBY4 := Lib.hid (NewB.byts ho); have HB4 : Hid (Below w.heap.size w w4) := Lib.hid (below_ext (below_ext HB.out (by repeat (first | exact Below.refl _ _ | apply below_drewN | apply Below.drew | (refine Below.alloc ?_ (by simp) _)))) hb); have hkg4 := (HCELL.out w4 HB4.out).1; have hk54 : w4.cell? ⟨b, o + k * 2 + 1, none⟩ = some (.slice A5 es.length c5) := cell_ext9 hk5 (World.block_lt_of_cell? _ _ hk5) (below_ext (by repeat (first | exact Below.refl _ _ | apply below_drewN | apply Below.drew | (refine Below.alloc ?_ (by simp) _))) hb); have HO4 : Hid (Below wo.heap.size wo w4) := Lib.hid (below_ext (by repeat (first | exact Below.refl _ _ | apply below_drewN | apply Below.drew | (refine Below.alloc ?_ (by simp) _))) hb); clear ho hb)
          | (go_simp; go_at_call 103; (with_reducible refine (k103 (HBY4.out.ext (by repeat (first | exact Below.refl _ _ | apply below_drewN | apply Below.drew | (refine Below.alloc ?_ (by simp) _)))) (by omega) es.length 2 p1.length es.length 2 HP2.out (by omega) (by omega) rfl rfl rfl).mono ?_); rintro e w6 ⟨A6, c6, rfl, ho, hb⟩; have HBY6 := Lib.hid (NewB.byts ho); have HB6 : Hid (Below w.heap.size w w6) := Lib.hid (below_ext (below_ext HB4.out (by repeat (first | exact Below.refl _ _ | apply below_drewN | apply Below.drew | (refine Below.alloc ?_ (by simp) _)))) hb); have HO6 : Hid (Below wo.heap.size wo w6) := Lib.hid (below_ext (below_ext HO4.out (by repeat (first | exact Below.refl _ _ | apply below_drewN | apply Below.drew | (refine Below.alloc ?_ (by simp) _)))) hb); clear ho hb))
        all_goals
          have hbl6 := HBY6.out.2.1
          have HBY0 : Hid (Byts w6 0 A6 c6 (p2 ++ edgesB (es.take 0))) := Lib.hid (by simpa [edgesB] using HBY6.out)
          have hq0 : (p2 ++ edgesB (es.take 0)).length = p2.length := by simp [edgesB]
          clear HBY6
          go_wp2_with fail
          go_loopw [3, 6] (fun vb i wr => ∃ (m : Nat) (Ab : Option Addr) (cb : Nat), m ≤ es.length ∧ i = .int .i64 m ∧ vb = .slice Ab (p2 ++ edgesB (es.take m)).length cb ∧ Hid (Byts wr 0 Ab cb (p2 ++ edgesB (es.take m))) ∧ Hid (Below w.heap.size w wr) ∧ Hid (Below wo.heap.size wo wr)) (fun _ i _ => es.length - (intOf i).toNat)
          case atStart => exact ⟨0, A6, c6, by omega, rfl, by rw [hq0], HBY0, HB6, HO6⟩
          case round =>
            clear HBY0 hq0 HB6 HO6
            obtain ⟨m, Am, cm, hm, rfl, rfl, HBY, HB', HBO⟩ := hrel
            have hel := edgesB_takelen es m hm
            have hql : (p2 ++ edgesB (es.take m)).length ≤ 300363 := by rw [List.length_append]; omega
            have hbm := HBY.out.2.1
            have hkgr := (HCELL.out wr HB'.out).1
            have hk5r := cell_ext9 hk5 (World.block_lt_of_cell? _ _ hk5) HBO.out
            by_cases hme : m < es.length
            · obtain ⟨b0, o0, rfl, _, hbl0, hc1, hc2⟩ := (HE.out.ext HBO.out).at_ hme
              have hsm := HSM.out _ (List.getElem_mem hme)
              obtain ⟨r, hr⟩ : ∃ r, r = es[m].1 := ⟨_, rfl⟩
              obtain ⟨tn, htn⟩ : ∃ t, t = es[m].2 := ⟨_, rfl⟩
              rw [← hr] at hc1 hsm
              rw [← htn] at hc2 hsm
              obtain ⟨hr1, ht1⟩ := hsm
              obtain ⟨q, hq⟩ : ∃ q, q = p2 ++ edgesB (es.take m) := ⟨_, rfl⟩
              rw [← hq] at hql hbm HBY
              obtain ⟨q1, hq1⟩ : ∃ q1, q1 = q ++ be 4 r := ⟨_, rfl⟩
              have hq1l : q1.length ≤ q.length + 4 := by rw [hq1, List.length_append, be_len]; omega
              have HQ2 : Hid (p2 ++ edgesB (es.take (m + 1)) = q1 ++ be 2 tn) := Lib.hid (by rw [edgesB_take es m hme, ← List.append_assoc, ← hq, hq1, hr, htn]; simp [edgeB])
              have HQ1 := Lib.hid hq1
              have hwr : IntKind.i64.wrap (r : Int) = r := by simp [IntKind.wrap, IntKind.signed, IntKind.bits]; omega
              have HWR := Lib.hid hwr
              clear hwr
              have HXA : Hid (Below wr.heap.size wr (wr.alloc (.cells #[.int .i32 r, .int .i64 tn] 49))) := Lib.hid ((Below.refl _ _).alloc (Nat.le_refl _) _)
              have HQ := Lib.hid hq
              clear hr htn hq1 hq
              go_wp2_with fail
              go_region_law (first
                | (go_simp; go_at_call 103; (with_reducible refine (k103 (HBY.out.ext (by repeat (first | exact Below.refl _ _ | apply below_drewN | apply Below.drew | (refine Below.alloc ?_ (by simp) _)))) (by omega) r 4 (p2.length + (edgesB (es.take m)).length) (IntKind.i64.wrap (r : Int)) 4 HQ1.out (by omega) (by omega) (by rw [HQ.out, List.length_append]) HWR.out rfl).mono ?_); rintro e w7 ⟨A7, c7, rfl, ho, hb⟩; have HBY7 := Lib.hid (NewB.byts ho); have hc7 : w7.cell? ⟨wr.heap.size, 1, none⟩ = some (.int .i64 tn) := cell_ext9 (cell_new wr #[.int .i32 r, .int .i64 tn] 49 (0, 0) 1) (by simp) (below_ext (by repeat (first | exact Below.refl _ _ | apply below_drewN | apply Below.drew | (refine Below.alloc ?_ (by simp) _))) hb); have HX7 : Hid (Below wr.heap.size wr w7) := Lib.hid (below_ext (by repeat (first | exact Below.refl _ _ | apply below_drewN | apply Below.drew | (refine Below.alloc ?_ (by simp) _))) hb); have hbl7 := HBY7.out.2.1; clear ho hb)
                | (go_simp; go_at_call 103; (with_reducible refine (k103 (HBY7.out.ext (by repeat (first | exact Below.refl _ _ | apply below_drewN | apply Below.drew | (refine Below.alloc ?_ (by simp) _)))) (by omega) tn 2 q1.length tn 2 HQ2.out (by omega) (by omega) rfl rfl rfl).mono ?_); rintro e w8 ⟨A8, c8, rfl, ho, hb⟩; have HBY8 := Lib.hid (NewB.byts ho); have HX8 : Hid (Below wr.heap.size wr w8) := Lib.hid (below_ext (below_ext HX7.out (by repeat (first | exact Below.refl _ _ | apply below_drewN | apply Below.drew | (refine Below.alloc ?_ (by simp) _)))) hb); clear ho hb))
              all_goals
                go_wp2_with fail
                go_roundw
                case rel => exact ⟨m + 1, A8, c8, by omega, by go_num, by rw [List.length_append], HBY8, Lib.hid (below_ext HB'.out HX8.out), Lib.hid (below_ext HBO.out HX8.out)⟩
                case measure => simp [intOf]; omega
            · obtain rfl : m = es.length := by omega
              have HFI : Hid (p2 ++ edgesB (es.take es.length) = preB ns (k + 1)) := Lib.hid (by rw [HNX.out, List.take_length])
              rw [HFI.out] at HBY
              rw [HFI.out]
              go_wp2_with fail
              go_roundw
              case rel => exact ⟨k + 1, Am, cm, by omega, by go_num, rfl, HBY, HB'⟩
              case measure => simp [intOf]; omega
    · obtain rfl : k = nl := by omega
      have HPB : Hid (preB ns k = bodyB ns) := Lib.hid (by rw [HNL.out]; unfold preB bodyB; rw [List.take_length])
      have hbl := HBY.out.2.1
      have HIM : Hid (imageB ns = sealB (preB ns k)) := Lib.hid (by rw [HPB.out]; rfl)
      have HOKB : Hid (Okb (preB ns k)) := Lib.hid (by rw [HPB.out]; exact bodyB_okb ns)
      clear HPB
      go_wp2_with fail
      (with_reducible refine (c104 HBY.out HOKB.out (by omega) HIM.out rfl).mono ?_); rintro e w3 ⟨A7, c7, rfl, ho, hb⟩
      have HO := Lib.hid (own_low ho HB.out.size)
      replace HB := Lib.hid (below_ext HB.out hb)
      clear ho hb
      go_wp2_with fail
      go_ret
      exact ⟨A7, c7, rfl, HO.out, HB.out⟩

end Go.Proofs.Ytepmcfleijiloaa

end
section
set_option linter.unusedVariables false
/- SameBytes, OverBytes. -/
namespace Go.Proofs.Ytepmcfleijiloaa
open Go.RowKit

set_option maxHeartbeats 1000000 in
set_option maxRecDepth 100000 in
/-- inkhornlaw0.SameBytes -/
theorem c51 {w : World} {A B : Option Addr} {c d n m : Nat} {xs ys : List Nat} {b : Bool} (hx : Byts w 0 A c xs) (hy : Byts w 0 B d ys) (hn : n = xs.length) (hm : m = ys.length) (hb : b = decide (xs = ys)) :
    Calls Try.prog 51 #[.slice A n c, .slice B m d] w fun e w' => e = .returned (.bool b) ∧ Below w.heap.size w w' := by
  subst hn; subst hm
  have hl1 := hx.2.1
  have hl2 := hy.2.1
  have hm1 := hx.2.2
  have hm2 := hy.2.2
  have HB := Lib.hid hb
  have HX := Lib.hid hx
  have HY := Lib.hid hy
  clear hx hy hb
  by_cases hlen : xs.length = ys.length
  · have be : ((xs.length : Int) != (ys.length : Int)) = false := by rw [hlen]; simp
    have HLEN := Lib.hid hlen
    clear hlen
    go_enter Try.func51, Try.ntmps51
    go_wp2_with fail
    go_loopw [5] (fun i wr => ∃ k : Nat, k ≤ xs.length ∧ i = .int .i64 k ∧ Hid (xs.take k = ys.take k) ∧ Hid (Below w.heap.size w wr)) (fun i _ => xs.length - (intOf i).toNat)
    case atStart => exact ⟨0, by omega, rfl, Lib.hid rfl, Lib.hid (Below.refl _ _)⟩
    case round =>
      obtain ⟨k, hk, rfl, HT, HBW⟩ := hrel
      by_cases hlt : k < xs.length
      · have hlt2 : k < ys.length := by rw [← HLEN.out]; exact hlt
        obtain ⟨b1, o1, rfl, _, _, hc1⟩ := (HX.out.ext HBW.out).at_ hlt
        obtain ⟨b2, o2, rfl, _, _, hc2⟩ := (HY.out.ext HBW.out).at_ hlt2
        obtain ⟨x, hx⟩ : ∃ x, x = xs[k] := ⟨_, rfl⟩
        obtain ⟨y, hy⟩ : ∃ y, y = ys[k] := ⟨_, rfl⟩
        rw [← hx] at hc1
        rw [← hy] at hc2
        have HXE := Lib.hid hx
        have HYE := Lib.hid hy
        clear hx hy
        by_cases hxy : x = y
        · have g : ((x : Int) != (y : Int)) = false := by rw [hxy]; simp
          have HXY := Lib.hid hxy
          clear hxy
          go_wp2_with fail
          go_quiet (fail)
          all_goals
            go_wp2_with fail
            go_roundw
            case rel => exact ⟨k + 1, by omega, by go_num, Lib.hid (by rw [List.take_succ_eq_append_getElem hlt, List.take_succ_eq_append_getElem hlt2, HT.out, ← HXE.out, ← HYE.out, HXY.out]), Lib.hid (below_ext HBW.out (by repeat (first | exact Below.refl _ _ | apply below_drewN | apply Below.drew)))⟩
            case measure => simp [intOf]; omega
        · have g : ((x : Int) != (y : Int)) = true := bne_iff_ne.2 (by omega)
          have HXY := Lib.hid hxy
          clear hxy
          go_wp2_with fail
          go_quiet (fail)
          all_goals
            go_wp2_with fail
            go_ret
            have hb : b = false := by
              rw [HB.out]
              apply decide_eq_false
              intro e
              apply HXY.out
              rw [HXE.out, HYE.out]
              subst e
              rfl
            rw [hb]
            exact ⟨rfl, below_ext HBW.out (by repeat (first | exact Below.refl _ _ | apply below_drewN | apply Below.drew))⟩
      · go_wp2_with fail
        go_ret
        have hb : b = true := by
          rw [HB.out]
          apply decide_eq_true
          have h := HT.out
          have hl := HLEN.out
          rw [List.take_of_length_le (by omega), List.take_of_length_le (by omega)] at h
          exact h
        rw [hb]
        exact ⟨rfl, HBW.out⟩
  · have be : ((xs.length : Int) != (ys.length : Int)) = true := bne_iff_ne.2 (by omega)
    have hb : b = false := by
      rw [HB.out]
      apply decide_eq_false
      intro e
      exact hlen (by rw [e])
    subst hb
    clear hlen HB
    go_enter Try.func51, Try.ntmps51
    go_wp2_with fail
    go_ret
    exact ⟨rfl, Below.refl _ _⟩

set_option maxHeartbeats 1000000 in
set_option maxRecDepth 100000 in
/-- inkhornlaw0.OverBytes: what is owned may be written over. -/
theorem c53 (w : World) (base n : Nat) (v : Value) (xs : List Value) (hown : w.ownsRow base 5 1 v n xs) (hn : n ≤ 900000) (B : Nat) (hB1 : B ≤ base) (hB2 : base ≤ w.heap.size) :
    Calls Try.prog 53 #[v] w fun e w' => e = .returned (.tuple #[]) ∧ Below B w w' := by
  obtain ⟨A, c, rfl, hc1, hc2⟩ := own_slice hown
  have HO := Lib.hid hown
  clear hown
  go_enter Try.func53, Try.ntmps53
  go_wp2
  go_loopw [2] (fun i wr => ∃ (k : Nat) (zs : List Value), k ≤ n ∧ i = .int .i64 k ∧ wr.ownsRow base 5 1 (.slice A n c) n zs ∧ Below B w wr ∧ base ≤ wr.heap.size) (fun i _ => n - (intOf i).toNat)
  case atStart => exact ⟨0, xs, by omega, rfl, HO.out, Below.refl _ _, hB2⟩
  case round =>
    clear HO
    obtain ⟨k, zs, hk, rfl, hown, hB, hs⟩ := hrel
    by_cases hlt : k < n
    · obtain ⟨g, cap, hv, hbg, hgl⟩ := hown.form (by omega)
      injection hv with hA _ hcc
      subst hA; subst hcc
      have hlz : zs.length = n * 1 := hown.1
      have hcell : ∃ u, wr.cell? ⟨g, k, none⟩ = some u := by rw [hown.cellAt k (by omega)]; exact ⟨_, List.getElem?_eq_getElem (by omega)⟩
      obtain ⟨u1, hu1⟩ := hcell
      have hfr := hown.frozenAt k
      have HO := Lib.hid ((hown.stored k (.int .u8 238)).1)
      have HB := Lib.hid (hB.setCell (p := ⟨g, k, none⟩) (by show B ≤ g; omega) (.int .u8 238))
      clear hown hB
      go_wp2
      go_roundw
      case rel => exact ⟨k + 1, _, by omega, by go_num, HO.out, HB.out, by simpa using hs⟩
      case measure => simp [intOf]; omega
    · have HO := Lib.hid hown
      have HB := Lib.hid hB
      clear hown hB
      go_wp2_with (first
        | (at_builtin
           refine wpList_append_rd infoB rfl (.tmp 12) (.tmp 13) rfl base (.slice A n c) n zs rfl (HO.out.alloc _) wr.heap.size (wr.heap.size + 1) _ 1 1 [.int .u8 238] rfl (Rd.new wr _ _) rfl (by simp [Value.oneCell']) (by omega) (by simp; omega) ?_
           intro v1 w1 hown1 hg1 hat1))
      go_end0
      refine ⟨rfl, ?_⟩
      refine (HB.out.alloc (Nat.le_trans hB1 hs) _).grown hg1 (by simp; omega) (fun q hq => ?_)
      have := HO.out.lt q hq
      omega

end Go.Proofs.Ytepmcfleijiloaa

end
section
set_option linter.unusedVariables false
/- The reader of pack: numbers, nodes. -/
namespace Go.Proofs.Ytepmcfleijiloaa
open Go.RowKit

/-- A reader in memory: what it reads lies below B. -/
structure Rdr (w : World) (B rb : Nat) (A : Option Addr) (c : Nat) (l : List Nat) (p : Nat) (bad : Bool) : Prop where
  row : w.heap[rb]? = some (.cells #[.slice A l.length c, .int .i64 p, .bool bad] 109 (0, 0))
  by_ : Rd w 0 B A (bytv l)
  low : B ≤ rb
  cap : l.length ≤ c
  cap2 : c ≤ 9223372036854775807
theorem Rdr.lt {w : World} {B rb : Nat} {A : Option Addr} {c : Nat} {l : List Nat} {p : Nat} {bad : Bool} (h : Rdr w B rb A c l p bad) : rb < w.heap.size := (Array.getElem?_eq_some_iff.1 h.row).1
theorem Rdr.byts {w : World} {B rb : Nat} {A : Option Addr} {c : Nat} {l : List Nat} {p : Nat} {bad : Bool} (h : Rdr w B rb A c l p bad) : Byts w 0 A c l :=
  ⟨h.by_.wide (Nat.le_refl _) (Nat.le_trans h.low (Nat.le_of_lt h.lt)), h.cap, h.cap2⟩
/-- What a number read makes of place and mark. -/
def rdN (l : List Nat) (p : Nat) (bad : Bool) (size : Nat) : Nat × Nat × Bool := if p + size ≤ l.length then (numB l p size, p + size, bad) else (0, p, true)
theorem grown_set (w : World) (rb o : Nat) (v : Value) : w.grownBy (w.setCell ⟨rb, o, none⟩ v) (some rb) :=
  ⟨rfl, rfl, rfl, by simp, fun k _ hne => Below.heap_setCell w ⟨rb, o, none⟩ v k (fun e => hne (by rw [e]))⟩

theorem Rdr.grow {w w' : World} {B rb : Nat} {A : Option Addr} {c : Nat} {l : List Nat} {p q : Nat} {bad bad' : Bool} (h : Rdr w B rb A c l p bad) (hg : w.grownBy w' (some rb)) (hr : w'.heap[rb]? = some (.cells #[.slice A l.length c, .int .i64 q, .bool bad'] 109 (0, 0))) : Rdr w' B rb A c l q bad' :=
  ⟨hr, h.by_.keep fun k _ hk => hg.block k (Nat.lt_trans (Nat.lt_of_lt_of_le hk h.low) h.lt) (fun e => by injection e with e; have := h.low; omega), h.low, h.cap, h.cap2⟩
theorem Rdr.other {w w' : World} {B rb : Nat} {A : Option Addr} {c : Nat} {l : List Nat} {p : Nat} {bad : Bool} (h : Rdr w B rb A c l p bad) (hb : Below w.heap.size w w') : Rdr w' B rb A c l p bad :=
  ⟨(hb.block rb h.lt).trans h.row, h.by_.keep fun k _ hk => hb.block k (Nat.lt_trans (Nat.lt_of_lt_of_le hk h.low) h.lt), h.low, h.cap, h.cap2⟩
theorem Rdr.at_ {w : World} {B rb : Nat} {A : Option Addr} {c : Nat} {l : List Nat} {p q : Nat} {bad : Bool} (h : Rdr w B rb A c l p bad) : Rdr (w.setCell ⟨rb, 1, none⟩ (.int .i64 q)) B rb A c l q bad :=
  h.grow (grown_set w rb 1 _) (by rw [Go.Joins.block_setCell h.row]; rfl)
theorem Rdr.mark {w : World} {B rb : Nat} {A : Option Addr} {c : Nat} {l : List Nat} {p : Nat} {bad bad' : Bool} (h : Rdr w B rb A c l p bad) : Rdr (w.setCell ⟨rb, 2, none⟩ (.bool bad')) B rb A c l p bad' :=
  h.grow (grown_set w rb 2 _) (by rw [Go.Joins.block_setCell h.row]; rfl)
theorem grown_trans {a b c : World} {r : Option Nat} (h : a.grownBy b r) (g : b.grownBy c r) : a.grownBy c r := World.grownBy.trans h g
theorem grown_below {w w' : World} {r : Option Nat} (h : Below w.heap.size w w') : w.grownBy w' r := ⟨h.os, h.tape, h.output, h.size, fun k hk _ => h.block k hk⟩
theorem rdN_le {l : List Nat} (hb : ∀ x ∈ l, x < 256) {p p1 fi size : Nat} {bad b1 : Bool} (h : rdN l p bad size = (fi, p1, b1)) (hp : p ≤ l.length) (hs : size ≤ 4 := by omega) : p1 ≤ l.length ∧ fi < 4294967296 ∧ (size ≤ 2 → fi < 65536) := by
  unfold rdN at h
  split at h
  · rename_i h1
    simp only [Prod.mk.injEq] at h
    obtain ⟨rfl, rfl, rfl⟩ := h
    have h2 := numB_lt hb p size h1
    refine ⟨h1, Nat.lt_of_lt_of_le h2 (pow_le4 hs), fun h3 => Nat.lt_of_lt_of_le h2 ?_⟩
    exact Nat.pow_le_pow_right (by omega) h3
  · simp only [Prod.mk.injEq] at h
    omega
theorem grown_drewN (w : World) (n : Nat) {w' : World} {r : Option Nat} (h : (w.drewN n).grownBy w' r) : w.grownBy w' r := ⟨h.os, h.tape, h.output, h.size, h.block⟩

set_option maxHeartbeats 1000000 in
set_option maxRecDepth 100000 in
/-- reader.num -/
theorem c86 (w : World) (B rb : Nat) (A : Option Addr) (c : Nat) (l : List Nat) (p : Nat) (bad : Bool) (size : Nat) (h : Rdr w B rb A c l p bad) (hb : ∀ x ∈ l, x < 256) (hl : l.length ≤ 900000) (hp : p ≤ l.length) (hs1 : 1 ≤ size) (hs : size ≤ 4) :
    Calls Try.prog 86 #[.pointer (some ⟨rb, 0, none⟩), .int .i64 size] w fun e w' => e = .returned (.int .i64 (rdN l p bad size).1) ∧ Rdr w' B rb A c l (rdN l p bad size).2.1 (rdN l p bad size).2.2 ∧ w.grownBy w' (some rb) := by
  have H := Lib.hid h
  have k0 : w.cell? ⟨rb, 0, none⟩ = some (.slice A l.length c) := by rw [cell_of_row _ _ _ _ _ _ h.row]; rfl
  have k1 : w.cell? ⟨rb, 1, none⟩ = some (.int .i64 p) := by rw [cell_of_row _ _ _ _ _ _ h.row]; rfl
  have k2 : w.cell? ⟨rb, 2, none⟩ = some (.bool bad) := by rw [cell_of_row _ _ _ _ _ _ h.row]; rfl
  have f1 : w.frozen? ⟨rb, 1, none⟩ = false := by simp [World.frozen?, h.row]
  have f2 : w.frozen? ⟨rb, 2, none⟩ = false := by simp [World.frozen?, h.row]
  have C := Lib.hid fun (w' : World) (hd : Below w.heap.size w w') => c85 (w := w') (h.byts.ext hd) hb l.length p size rfl hl hs1 hs (by omega)
  by_cases hin : p + size ≤ l.length
  · have C2 := Lib.hid fun w' hd => (by have := C.out w' hd; rw [if_pos hin, decide_eq_true hin] at this; exact this)
    have HE : Hid (rdN l p bad size = (numB l p size, p + size, bad)) := Lib.hid (by unfold rdN; rw [if_pos hin])
    clear h C hin
    rw [HE.out]
    go_enter Try.func86, Try.ntmps86
    go_wp2_with fail
    go_quiet ((go_at_call 85; first | exact quiet_left (C2.out _ (by repeat (first | exact Below.refl _ _ | apply below_drewN | apply Below.drew))) | exact quiet_add_left (C2.out _ (by repeat (first | exact Below.refl _ _ | apply below_drewN | apply Below.drew)))))
    all_goals
      go_wp2_with fail
      go_ret
      have e : ((p : Int) + (size : Int)) = ((p + size : Nat) : Int) := by omega
      rw [e]
      exact ⟨rfl, Rdr.at_ (w := w.drewN nq) (H.out.other (below_drewN (Below.refl _ _) nq)), grown_drewN w nq (grown_set _ _ _ _)⟩
  · have C2 := Lib.hid fun w' hd => (by have := C.out w' hd; rw [if_neg hin, decide_eq_false hin] at this; exact this)
    have HE : Hid (rdN l p bad size = (0, p, true)) := Lib.hid (by unfold rdN; rw [if_neg hin])
    clear h C hin
    rw [HE.out]
    go_enter Try.func86, Try.ntmps86
    go_wp2_with fail
    go_quiet ((go_at_call 85; first | exact quiet_left (C2.out _ (by repeat (first | exact Below.refl _ _ | apply below_drewN | apply Below.drew))) | exact quiet_add_left (C2.out _ (by repeat (first | exact Below.refl _ _ | apply below_drewN | apply Below.drew)))))
    all_goals
      go_wp2_with fail
      go_ret
      exact ⟨rfl, Rdr.mark (w := w.drewN nq) (H.out.other (below_drewN (Below.refl _ _) nq)), grown_drewN w nq (grown_set _ _ _ _)⟩

theorem k86 {w : World} {B rb : Nat} {A : Option Addr} {c : Nat} {l : List Nat} {p : Nat} {bad : Bool} (h : Rdr w B rb A c l p bad) (hb : ∀ x ∈ l, x < 256) (hl : l.length ≤ 900000) (hp : p ≤ l.length) (size : Nat) (z : Int) {n q : Nat} {b2 : Bool} (hr : rdN l p bad size = (n, q, b2)) (hz : z = size) (hs1 : 1 ≤ size) (hs : size ≤ 4) :
    Calls Try.prog 86 #[.pointer (some ⟨rb, 0, none⟩), .int .i64 z] w fun e w' => e = .returned (.int .i64 n) ∧ Rdr w' B rb A c l q b2 ∧ w.grownBy w' (some rb) := by
  have := c86 w B rb A c l p bad size h hb hl hp hs1 hs
  rw [hr] at this
  rw [hz]
  exact this

end Go.Proofs.Ytepmcfleijiloaa

end
section
set_option linter.unusedVariables false
/- reader.node. -/
namespace Go.Proofs.Ytepmcfleijiloaa
open Go.RowKit

/-- One edge read. -/
def stE (l : List Nat) (s : List (Nat × Nat) × Nat × Bool) : List (Nat × Nat) × Nat × Bool :=
  if s.2.2 then s else
    (s.1 ++ [((rdN l s.2.1 false 4).1, (rdN l (rdN l s.2.1 false 4).2.1 ((rdN l s.2.1 false 4).2.2 || decide (1114111 < (rdN l s.2.1 false 4).1)) 2).1)],
      (rdN l (rdN l s.2.1 false 4).2.1 ((rdN l s.2.1 false 4).2.2 || decide (1114111 < (rdN l s.2.1 false 4).1)) 2).2)
def itE (l : List Nat) : Nat → List (Nat × Nat) × Nat × Bool → List (Nat × Nat) × Nat × Bool
  | 0, s => s
  | k + 1, s => stE l (itE l k s)
theorem itE_succ (l : List Nat) (k : Nat) (s : List (Nat × Nat) × Nat × Bool) : itE l (k + 1) s = stE l (itE l k s) := rfl
theorem itE_bad {l : List Nat} {s : List (Nat × Nat) × Nat × Bool} {k : Nat} (h : (itE l k s).2.2 = true) : ∀ m, k ≤ m → itE l m s = itE l k s
  | 0, hm => by obtain rfl : k = 0 := by omega
                rfl
  | m + 1, hm => by
    rcases Nat.lt_or_ge m k with h2 | h2
    · obtain rfl : k = m + 1 := by omega
      rfl
    · show stE l (itE l m s) = _
      rw [itE_bad h m h2]
      unfold stE
      rw [if_pos h]
/-- A node read: its mark, its edges, the place behind it, whether something was wrong. -/
def rdNode (l : List Nat) (p : Nat) (bad : Bool) : (Bool × List (Nat × Nat)) × Nat × Bool :=
  let f := rdN l p bad 1
  let c := rdN l f.2.1 (f.2.2 || decide (1 < f.1)) 2
  let s := itE l c.1 ([], c.2.1, c.2.2)
  ((decide (f.1 = 1), s.1), s.2.1, s.2.2)

theorem Rdr.off {w w' : World} {B rb k : Nat} {A : Option Addr} {c : Nat} {l : List Nat} {p : Nat} {bad : Bool} (h : Rdr w B rb A c l p bad) (hg : w.grownBy w' (some k)) (hk : rb < k) : Rdr w' B rb A c l p bad :=
  ⟨(hg.block rb h.lt (fun e => by injection e with e; omega)).trans h.row, h.by_.keep fun i _ hi => hg.block i (Nat.lt_trans (Nat.lt_of_lt_of_le hi h.low) h.lt) (fun e => by injection e with e; have := h.low; omega), h.low, h.cap, h.cap2⟩
theorem grown_new {a b c : World} {r : Option Nat} {k : Nat} (h : a.grownBy b r) (g : b.grownBy c (some k)) (hk : a.heap.size ≤ k) : a.grownBy c r :=
  ⟨g.os.trans h.os, g.tape.trans h.tape, g.output.trans h.output, Nat.le_trans h.size g.size, fun i hi hne => (g.block i (Nat.lt_of_lt_of_le hi h.size) (fun e => by injection e with e; omega)).trans (h.block i hi hne)⟩
theorem Rdr.own {w w' : World} {B rb : Nat} {A : Option Addr} {c : Nat} {l : List Nat} {p : Nat} {bad : Bool} {r : Option Nat} (h : Rdr w B rb A c l p bad) (hg : w.grownBy w' r) (hk : ∀ k, r = some k → rb < k) : Rdr w' B rb A c l p bad :=
  ⟨(hg.block rb h.lt (fun e => by have := hk rb e.symm; omega)).trans h.row, h.by_.keep fun i _ hi => hg.block i (Nat.lt_trans (Nat.lt_of_lt_of_le hi h.low) h.lt) (fun e => by have := hk i e.symm; have := h.low; omega), h.low, h.cap, h.cap2⟩
theorem grown_own {a b c : World} {r r2 : Option Nat} (h : a.grownBy b r) (g : b.grownBy c r2) (hk : ∀ k, r2 = some k → a.heap.size ≤ k) : a.grownBy c r :=
  ⟨g.os.trans h.os, g.tape.trans h.tape, g.output.trans h.output, Nat.le_trans h.size g.size, fun i hi hne => (g.block i (Nat.lt_of_lt_of_le hi h.size) (fun e => by have := hk i e.symm; omega)).trans (h.block i hi hne)⟩
theorem nodeEnd {w wr : World} {B rb : Nat} {A : Option Addr} {c : Nat} {l : List Nat} {q n5 c5 X : Nat} {bq fb : Bool} {A5 : Option Addr} {vs : List Value} (hR : wr.heap[w.heap.size]? = some (.cells #[.bool false, .slice none 0 0] 113 (0, 0))) (hX : w.heap.size ≤ X)
    (hO : wr.ownsRow (X + 1) 49 2 (.slice A5 n5 c5) n5 vs) (hRd : Rdr wr B rb A c l q bq) (hG : w.grownBy wr (some rb)) (hrb : rb < w.heap.size) :
    ((wr.setCell ⟨w.heap.size, 0, none⟩ (.bool fb)).setCell ⟨w.heap.size, 1, none⟩ (.slice A5 n5 c5)).heap[w.heap.size]? = some (.cells #[.bool fb, .slice A5 n5 c5] 113 (0, 0)) ∧
    Rdr ((wr.setCell ⟨w.heap.size, 0, none⟩ (.bool fb)).setCell ⟨w.heap.size, 1, none⟩ (.slice A5 n5 c5)) B rb A c l q bq ∧
    w.grownBy ((wr.setCell ⟨w.heap.size, 0, none⟩ (.bool fb)).setCell ⟨w.heap.size, 1, none⟩ (.slice A5 n5 c5)) (some rb) ∧
    ((wr.setCell ⟨w.heap.size, 0, none⟩ (.bool fb)).setCell ⟨w.heap.size, 1, none⟩ (.slice A5 n5 c5)).ownsRow w.heap.size 49 2 (.slice A5 n5 c5) n5 vs := by
  have g1 := grown_trans (grown_set wr w.heap.size 0 (.bool fb)) (grown_set (wr.setCell ⟨w.heap.size, 0, none⟩ (.bool fb)) w.heap.size 1 (.slice A5 n5 c5))
  refine ⟨?_, hRd.off g1 hrb, grown_new hG g1 (Nat.le_refl _), own_low (hO.kept g1 (Or.inr fun e => by have := hO.lt _ e; omega)) (by omega)⟩
  rw [Go.Joins.block_setCell (Go.Joins.block_setCell hR _)]
  rfl

set_option maxHeartbeats 4000000 in
set_option maxRecDepth 100000 in
/-- reader.node -/
theorem c87 (w : World) (B rb : Nat) (A : Option Addr) (c : Nat) (l : List Nat) (p : Nat) (bad : Bool) (h : Rdr w B rb A c l p bad) (hb : ∀ x ∈ l, x < 256) (hl : l.length ≤ 900000) (hp : p ≤ l.length) :
    Calls Try.prog 87 #[.pointer (some ⟨rb, 0, none⟩)] w fun e w' => ∃ (f : Bool) (A5 : Option Addr) (n5 c5 : Nat) (vs : List Value), e = .returned (.agg #[.bool f, .slice A5 n5 c5]) ∧ Rdr w' B rb A c l (rdNode l p bad).2.1 (rdNode l p bad).2.2 ∧ w.grownBy w' (some rb) ∧
      w'.ownsRow w.heap.size 49 2 (.slice A5 n5 c5) n5 vs ∧ ((rdNode l p bad).2.2 = false → f = (rdNode l p bad).1.1 ∧ n5 = (rdNode l p bad).1.2.length ∧ vs = edgv (rdNode l p bad).1.2) := by
  have HB := Lib.hid hb
  have HX : Hid (Below w.heap.size w (w.alloc (.cells #[.bool false, .slice none 0 0] 113))) := Lib.hid ((Below.refl _ _).alloc (Nat.le_refl _) _)
  have H := Lib.hid (h.other HX.out)
  have hrb := h.lt
  obtain ⟨fi, p1, b1, h1⟩ : ∃ fi p1 b1, rdN l p bad 1 = (fi, p1, b1) := ⟨_, _, _, rfl⟩
  obtain ⟨hp1, hfi, _⟩ := rdN_le hb h1 hp
  obtain ⟨cn, p2, b2, h2⟩ : ∃ cn p2 b2, rdN l p1 (b1 || decide (1 < fi)) 2 = (cn, p2, b2) := ⟨_, _, _, rfl⟩
  obtain ⟨hp2, hcn, _⟩ := rdN_le hb h2 hp1
  have HRN : Hid (rdNode l p bad = ((decide (fi = 1), (itE l cn ([], p2, b2)).1), (itE l cn ([], p2, b2)).2.1, (itE l cn ([], p2, b2)).2.2)) := Lib.hid (by unfold rdNode; simp only [h1, h2])
  have H1 := Lib.hid h1
  have H2 := Lib.hid h2
  rw [HRN.out]
  clear h hb h1 h2
  go_enter Try.func87, Try.ntmps87
  go_wp2_with fail
  (with_reducible refine (k86 H.out HB.out hl hp 1 1 H1.out rfl (by omega) (by omega)).mono ?_); rintro e w1 ⟨rfl, hr1, hg1⟩
  have HR := Lib.hid hr1
  have HG := Lib.hid (grown_trans (grown_below HX.out) hg1)
  have hsz : w.heap.size < w1.heap.size := by have := hg1.size; simp at this; omega
  obtain ⟨fb, hfb⟩ : ∃ fb, ((fi : Int) == 1) = fb := ⟨_, rfl⟩
  have HFB : Hid (decide (fi = 1) = fb) := Lib.hid (by rw [← hfb]; by_cases h : fi = 1 <;> simp [h] <;> omega)
  obtain ⟨bb, hbb⟩ : ∃ bb, decide ((1 : Int) < fi) = bb := ⟨_, rfl⟩
  have HBB : Hid (decide (1 < fi) = bb) := Lib.hid (by rw [← hbb]; exact decide_eq_decide.2 (by omega))
  have HXN : Hid (Below w1.heap.size w1 (w1.alloc (.cells #[.bool fb, .slice none 0 0] 113))) := Lib.hid ((Below.refl _ _).alloc (Nat.le_refl _) _)
  have k2 : (w1.alloc (.cells #[.bool fb, .slice none 0 0] 113)).cell? ⟨rb, 2, none⟩ = some (.bool b1) := by rw [cell_of_row _ _ _ _ _ _ (HR.out.other HXN.out).row]; rfl
  have f2 : (w1.alloc (.cells #[.bool fb, .slice none 0 0] 113)).frozen? ⟨rb, 2, none⟩ = false := by simp [World.frozen?, (HR.out.other HXN.out).row]
  have hxb : rb < w1.heap.size := HR.out.lt
  have HR3 := Lib.hid fun bv : Bool => (HR.out.mark (bad' := bv)).other (w' := (w1.setCell ⟨rb, 2, none⟩ (.bool bv)).alloc (.cells #[.bool fb, .slice none 0 0] 113)) ((Below.refl _ _).alloc (Nat.le_refl _) _)
  have HG3 : Hid (∀ bv : Bool, w.grownBy ((w1.setCell ⟨rb, 2, none⟩ (.bool bv)).alloc (.cells #[.bool fb, .slice none 0 0] 113)) (some rb)) := Lib.hid fun bv => grown_trans (grown_trans HG.out (grown_set w1 rb 2 (.bool bv))) (grown_below ((Below.refl _ _).alloc (Nat.le_refl _) _))
  have HX0 : Hid (w1.heap[w.heap.size]? = some (.cells #[.bool false, .slice none 0 0] 113 (0, 0))) := Lib.hid ((hg1.block _ (by simp) (by intro e; injection e with e; omega)).trans (heap_alloc_new w _))
  have HXB : Hid (∀ bv : Bool, ((w1.setCell ⟨rb, 2, none⟩ (.bool bv)).alloc (.cells #[.bool fb, .slice none 0 0] 113)).heap[w1.heap.size]? = some (.cells #[.bool fb, .slice none 0 0] 113 (0, 0))) := Lib.hid fun bv => by
    have := heap_alloc_new (w1.setCell ⟨rb, 2, none⟩ (.bool bv)) (.cells #[.bool fb, .slice none 0 0] 113)
    rwa [show (w1.setCell ⟨rb, 2, none⟩ (.bool bv)).heap.size = w1.heap.size by simp [World.setCell]] at this
  have HX00 : Hid (∀ bv : Bool, ((w1.setCell ⟨rb, 2, none⟩ (.bool bv)).alloc (.cells #[.bool fb, .slice none 0 0] 113)).heap[w.heap.size]? = some (.cells #[.bool false, .slice none 0 0] 113 (0, 0))) := Lib.hid fun bv =>
    (((Below.refl _ _).alloc (Nat.le_refl _) (.cells #[.bool fb, .slice none 0 0] 113)).block w.heap.size (by simp [World.setCell]; omega)).trans ((Below.heap_setCell w1 ⟨rb, 2, none⟩ (.bool bv) w.heap.size (by show w.heap.size ≠ rb; omega)).trans HX0.out)
  clear hr1 hg1 H HX HX0 HXN HG HR
  cases b1
  · have bx : decide ((1 : Int) < fi) = bb := hbb
    rw [Bool.false_or, HBB.out] at H2
    go_wp2_with fail
    (with_reducible refine (k86 (HR3.out bb) HB.out hl hp1 2 2 H2.out rfl (by omega) (by omega)).mono ?_); rintro e w2 ⟨rfl, hr2, hg2⟩
    have HR := Lib.hid hr2
    have HG := Lib.hid (grown_trans (HG3.out bb) hg2)
    have HXW : Hid (w2.heap[w1.heap.size]? = some (.cells #[.bool fb, .slice none 0 0] 113 (0, 0))) := Lib.hid ((hg2.block _ (by simp [World.setCell]) (by intro e; injection e with e; omega)).trans (HXB.out bb))
    have HXR : Hid (w2.heap[w.heap.size]? = some (.cells #[.bool false, .slice none 0 0] 113 (0, 0))) := Lib.hid ((hg2.block _ (by simp [World.setCell]; omega) (by intro e; injection e with e; omega)).trans (HX00.out bb))
    have hsz2 : w1.heap.size < w2.heap.size := by have := hg2.size; simp [World.setCell] at this; omega
    clear hr2 hg2 HR3 HG3 HXB HX00
    go_wp2_with fail
    go_loopw [24] (fun i wr => ∃ (k n5 c5 : Nat) (A5 : Option Addr) (vs : List Value) (es : List (Nat × Nat)) (q : Nat) (bq : Bool), k ≤ cn ∧ n5 ≤ k ∧ q ≤ l.length ∧ i = .int .i64 k ∧ w1.heap.size < wr.heap.size ∧ Hid (itE l k ([], p2, b2) = (es, q, bq)) ∧ Hid (wr.heap[w1.heap.size]? = some (.cells #[.bool fb, .slice A5 n5 c5] 113 (0, 0))) ∧ Hid (wr.heap[w.heap.size]? = some (.cells #[.bool false, .slice none 0 0] 113 (0, 0))) ∧ Hid (wr.ownsRow (w1.heap.size + 1) 49 2 (.slice A5 n5 c5) n5 vs) ∧ Hid (Rdr wr B rb A c l q bq) ∧ Hid (w.grownBy wr (some rb)) ∧ Hid (bq = false → n5 = es.length ∧ vs = edgv es)) (fun i _ => cn - (intOf i).toNat)
    case atStart => exact ⟨0, 0, 0, none, [], [], p2, b2, by omega, by omega, hp2, rfl, hsz2, Lib.hid rfl, HXW, HXR, Lib.hid (World.ownsRow_nil _ _ _ _), HR, HG, Lib.hid fun _ => ⟨rfl, rfl⟩⟩
    case round =>
      clear HXW HXR HR HG
      obtain ⟨k, n5, c5, A5, vs, es, q, bq, hk, hn5, hq, rfl, hszr, HIT, HXW, HXR, HO, HR, HG, HV⟩ := hrel
      have kx0 : wr.cell? ⟨w1.heap.size, 0, none⟩ = some (.bool fb) := by rw [cell_of_row _ _ _ _ _ _ HXW.out]; rfl
      have kx1 : wr.cell? ⟨w1.heap.size, 1, none⟩ = some (.slice A5 n5 c5) := by rw [cell_of_row _ _ _ _ _ _ HXW.out]; rfl
      have kr0 : wr.cell? ⟨w.heap.size, 0, none⟩ = some (.bool false) := by rw [cell_of_row _ _ _ _ _ _ HXR.out]; rfl
      have kr1 : wr.cell? ⟨w.heap.size, 1, none⟩ = some (.slice none 0 0) := by rw [cell_of_row _ _ _ _ _ _ HXR.out]; rfl
      have fr0 : wr.frozen? ⟨w.heap.size, 0, none⟩ = false := by simp [World.frozen?, HXR.out]
      have fr1 : wr.frozen? ⟨w.heap.size, 1, none⟩ = false := by simp [World.frozen?, HXR.out]
      have kb2 : wr.cell? ⟨rb, 2, none⟩ = some (.bool bq) := by rw [cell_of_row _ _ _ _ _ _ HR.out.row]; rfl
      by_cases hlt : k < cn
      · cases bq
        · obtain ⟨rn, q1, bq1, h4⟩ : ∃ rn q1 bq1, rdN l q false 4 = (rn, q1, bq1) := ⟨_, _, _, rfl⟩
          obtain ⟨hq1, hrn, _⟩ := rdN_le HB.out h4 hq
          obtain ⟨tv, q2, b6, h6⟩ : ∃ tv q2 b6, rdN l q1 (bq1 || decide (1114111 < rn)) 2 = (tv, q2, b6) := ⟨_, _, _, rfl⟩
          obtain ⟨hq2, hto, _⟩ := rdN_le HB.out h6 hq1
          have HST : Hid (itE l (k + 1) ([], p2, b2) = (es ++ [(rn, tv)], q2, b6)) := Lib.hid (by rw [itE_succ, HIT.out]; unfold stE; simp only [h4, h6]; rfl)
          have HV6 : Hid (b6 = false → bq1 = false ∧ rn ≤ 1114111) := Lib.hid fun e => by
            have h := h6
            unfold rdN at h
            split at h
            · simp only [Prod.mk.injEq] at h
              obtain ⟨_, _, h⟩ := h
              rw [e, Bool.or_eq_false_iff] at h
              exact ⟨h.1, by have := h.2; simp at this; omega⟩
            · simp only [Prod.mk.injEq] at h
              rw [e] at h
              cases h.2.2
          have HRNL : Hid (b6 = false → rn ≤ 1114111) := Lib.hid fun e => (HV6.out e).2
          have HVV := Lib.hid (HV.out rfl)
          obtain ⟨rw_, hrw⟩ : ∃ r : Int, IntKind.i32.wrap (rn : Int) = r := ⟨_, rfl⟩
          have HRW : Hid (rn ≤ 1114111 → rw_ = rn) := Lib.hid fun h => by rw [← hrw]; simp [IntKind.wrap, IntKind.signed, IntKind.bits]; omega
          obtain ⟨cb, hcb⟩ : ∃ cb, decide ((1114111 : Int) < rn) = cb := ⟨_, rfl⟩
          have HCB : Hid (decide (1114111 < rn) = cb) := Lib.hid (by rw [← hcb]; exact decide_eq_decide.2 (by omega))
          have hn5c : n5 ≤ 65536 := by omega
          have H4 := Lib.hid h4
          rw [HCB.out] at h6
          have H6 := Lib.hid h6
          clear h4 h6 HIT
          go_wp2_with fail
          (with_reducible refine (k86 HR.out HB.out hl hq 4 4 H4.out rfl (by omega) (by omega)).mono ?_); rintro e w3 ⟨rfl, hr3, hg3⟩
          have HR3 := Lib.hid hr3
          have HXW3 : Hid (w3.heap[w1.heap.size]? = some (.cells #[.bool fb, .slice A5 n5 c5] 113 (0, 0))) := Lib.hid ((hg3.block _ hszr (by intro e; injection e with e; omega)).trans HXW.out)
          have HXR3 : Hid (w3.heap[w.heap.size]? = some (.cells #[.bool false, .slice none 0 0] 113 (0, 0))) := Lib.hid ((hg3.block _ (by omega) (by intro e; injection e with e; omega)).trans HXR.out)
          have HO3 := Lib.hid (HO.out.kept hg3 (Or.inr fun e => by have := HO.out.lt _ e; omega))
          have HG3' := Lib.hid (grown_trans HG.out hg3)
          have hsz3 : w1.heap.size < w3.heap.size := by have := hg3.size; omega
          have k32 : w3.cell? ⟨rb, 2, none⟩ = some (.bool bq1) := by rw [cell_of_row _ _ _ _ _ _ hr3.row]; rfl
          have f32 : w3.frozen? ⟨rb, 2, none⟩ = false := by simp [World.frozen?, hr3.row]
          clear hr3 hg3 kx0 kx1 kr0 kr1 fr0 fr1 kb2
          have hgs := Lib.hid fun bv : Bool => grown_set w3 rb 2 (.bool bv)
          have HR4 := Lib.hid fun bv : Bool => HR3.out.mark (bad' := bv)
          have HX4 : Hid (∀ bv : Bool, (w3.setCell ⟨rb, 2, none⟩ (.bool bv)).heap[w1.heap.size]? = some (.cells #[.bool fb, .slice A5 n5 c5] 113 (0, 0))) := Lib.hid fun bv => ((hgs.out bv).block _ hsz3 (by intro e; injection e with e; omega)).trans HXW3.out
          have HXR4 : Hid (∀ bv : Bool, (w3.setCell ⟨rb, 2, none⟩ (.bool bv)).heap[w.heap.size]? = some (.cells #[.bool false, .slice none 0 0] 113 (0, 0))) := Lib.hid fun bv => ((hgs.out bv).block _ (by omega) (by intro e; injection e with e; omega)).trans HXR3.out
          have HO4 := Lib.hid fun bv : Bool => HO3.out.kept (hgs.out bv) (Or.inr fun e => by have := HO3.out.lt _ e; omega)
          have HG4 := Lib.hid fun bv : Bool => grown_trans HG3'.out (hgs.out bv)
          cases bq1
          · rw [Bool.false_or] at H6
            have kx41 : (w3.setCell ⟨rb, 2, none⟩ (.bool cb)).cell? ⟨w1.heap.size, 1, none⟩ = some (.slice A5 n5 c5) := by rw [cell_of_row _ _ _ _ _ _ (HX4.out cb)]; rfl
            have HBV : Hid (b6 = false → cb = false) := Lib.hid fun e => by have h := HV6.out e; rw [← HCB.out]; exact decide_eq_false (by have := h.2; omega)
            go_wp2_with fail
            go_region_law (first
              | (go_simp; go_at_call 86; (with_reducible refine (k86 ((HR4.out cb).other (by repeat (first | exact Below.refl _ _ | apply below_drewN | apply Below.drew | (refine Below.alloc ?_ (by simp) _)))) HB.out hl hq1 2 2 H6.out rfl (by omega) (by omega)).mono ?_); rintro e w5 ⟨rfl, hr5, hg5⟩; have hg45 : (w3.setCell ⟨rb, 2, none⟩ (.bool cb)).grownBy w5 (some rb) := grown_trans (grown_below (by repeat (first | exact Below.refl _ _ | apply below_drewN | apply Below.drew | (refine Below.alloc ?_ (by simp) _)))) hg5; have HR5 := Lib.hid hr5; have HX5 : Hid (w5.heap[w1.heap.size]? = some (.cells #[.bool fb, .slice A5 n5 c5] 113 (0, 0))) := Lib.hid ((hg45.block _ (by simp [World.setCell]; omega) (by intro e; injection e with e; omega)).trans (HX4.out cb)); have HXR5 : Hid (w5.heap[w.heap.size]? = some (.cells #[.bool false, .slice none 0 0] 113 (0, 0))) := Lib.hid ((hg45.block _ (by simp [World.setCell]; omega) (by intro e; injection e with e; omega)).trans (HXR4.out cb)); have kx51 : w5.cell? ⟨w1.heap.size, 1, none⟩ = some (.slice A5 n5 c5) := (by rw [cell_of_row _ _ _ _ _ _ HX5.out]; rfl); have HO5 := Lib.hid ((HO4.out cb).kept hg45 (Or.inr fun e => by have := (HO4.out cb).lt _ e; omega)); have HG5 := Lib.hid (grown_trans (HG4.out cb) hg45); have hsz5 : w1.heap.size < w5.heap.size := (by have := hg45.size; simp [World.setCell] at this; omega); clear hr5 hg5 hg45)
              | (refine step_append_rd infoE (by rfl) (.tmp 44) (.tmp 50) (by rfl) (w1.heap.size + 1) (.slice A5 n5 c5) n5 vs (by rfl) (own_below HO5.out (by repeat (first | exact Below.refl _ _ | apply below_drewN | apply Below.drew | (refine Below.alloc ?_ (by simp) _)))) _ _ _ 1 1 [.int .i32 rw_, .int .i64 tv] (by rfl) (by first | exact Rd.two _ _ _ _ | exact Rd.drewN (Rd.two _ _ _ _) _) (by rfl) (by simp [Value.oneCell']) (by omega) (by simp; omega) ?_; intro v6 w6 hown1 hg1 hat1; obtain ⟨A6, c6, rfl, _, _⟩ := own_slice hown1; have hlt6 := HO5.out.lt; have hg56 : w5.grownBy w6 (Value.slice A5 n5 c5).ownBlock := grown_trans (grown_below (by repeat (first | exact Below.refl _ _ | apply below_drewN | apply Below.drew | (refine Below.alloc ?_ (by simp) _)))) hg1; have HX6 : Hid (w6.heap[w1.heap.size]? = some (.cells #[.bool fb, .slice A5 n5 c5] 113 (0, 0))) := Lib.hid ((hg56.block _ hsz5 (fun e => by have := hlt6 _ e.symm; omega)).trans HX5.out); have HXR6 : Hid (w6.heap[w.heap.size]? = some (.cells #[.bool false, .slice none 0 0] 113 (0, 0))) := Lib.hid ((hg56.block _ (by omega) (fun e => by have := hlt6 _ e.symm; omega)).trans HXR5.out); have fx61 : w6.frozen? ⟨w1.heap.size, 1, none⟩ = false := (by simp [World.frozen?, HX6.out]); have kx61 : w6.cell? ⟨w1.heap.size, 1, none⟩ = some (.slice A5 n5 c5) := (by rw [cell_of_row _ _ _ _ _ _ HX6.out]; rfl); have HR6 := Lib.hid (HR5.out.own hg56 (fun k hk => by have := hlt6 _ hk; omega)); have HG6 := Lib.hid (grown_own HG5.out hg56 (fun k hk => by have := hlt6 _ hk; omega)); have HO6 := Lib.hid hown1; have hsz6 : w1.heap.size < w6.heap.size := Nat.lt_of_lt_of_le hsz5 hg56.size; clear hown1 hg1 hat1 hg56 hlt6))
            all_goals
              have hgx := Lib.hid (grown_set w6 w1.heap.size 1 (.slice A6 (n5 + 1) c6))
              have HXWf : Hid ((w6.setCell ⟨w1.heap.size, 1, none⟩ (.slice A6 (n5 + 1) c6)).heap[w1.heap.size]? = some (.cells #[.bool fb, .slice A6 (n5 + 1) c6] 113 (0, 0))) := Lib.hid (by rw [Go.Joins.block_setCell HX6.out]; rfl)
              have HXRf : Hid ((w6.setCell ⟨w1.heap.size, 1, none⟩ (.slice A6 (n5 + 1) c6)).heap[w.heap.size]? = some (.cells #[.bool false, .slice none 0 0] 113 (0, 0))) := Lib.hid ((hgx.out.block _ (by omega) (by intro e; injection e with e; omega)).trans HXR6.out)
              have HOf := Lib.hid (HO6.out.kept hgx.out (Or.inr fun e => by have := HO6.out.lt _ e; omega))
              have HRf := Lib.hid (HR6.out.own hgx.out (fun k hk => by injection hk with hk; omega))
              have HGf := Lib.hid (grown_own HG6.out hgx.out (fun k hk => by injection hk with hk; omega))
              have hszf : w1.heap.size < (w6.setCell ⟨w1.heap.size, 1, none⟩ (.slice A6 (n5 + 1) c6)).heap.size := Nat.lt_of_lt_of_le hsz6 hgx.out.size
              have HVf : Hid (b6 = false → n5 + 1 = (es ++ [(rn, tv)]).length ∧ vs ++ [.int .i32 rw_, .int .i64 tv] = edgv (es ++ [(rn, tv)])) := Lib.hid fun e => ⟨by rw [List.length_append, ← HVV.out.1]; rfl, by rw [edgv_append, HVV.out.2, HRW.out (HRNL.out e)]; rfl⟩
              clear HX6 HXR6 HR6 HG6 HO6 fx61 kx61 hgx
              go_wp2_with fail
              go_roundw
              case rel => exact ⟨k + 1, n5 + 1, c6, A6, _, _, q2, b6, by omega, by omega, hq2, by go_num, hszf, HST, HXWf, HXRf, HOf, HRf, HGf, HVf⟩
              case measure => simp [intOf]; omega
          · rw [Bool.true_or] at H6
            have kx41 : (w3.setCell ⟨rb, 2, none⟩ (.bool true)).cell? ⟨w1.heap.size, 1, none⟩ = some (.slice A5 n5 c5) := by rw [cell_of_row _ _ _ _ _ _ (HX4.out true)]; rfl
            have HBV : Hid (b6 = false → true = false) := Lib.hid fun e => (HV6.out e).1
            go_wp2_with fail
            go_region_law (first
              | (go_simp; go_at_call 86; (with_reducible refine (k86 ((HR4.out true).other (by repeat (first | exact Below.refl _ _ | apply below_drewN | apply Below.drew | (refine Below.alloc ?_ (by simp) _)))) HB.out hl hq1 2 2 H6.out rfl (by omega) (by omega)).mono ?_); rintro e w5 ⟨rfl, hr5, hg5⟩; have hg45 : (w3.setCell ⟨rb, 2, none⟩ (.bool true)).grownBy w5 (some rb) := grown_trans (grown_below (by repeat (first | exact Below.refl _ _ | apply below_drewN | apply Below.drew | (refine Below.alloc ?_ (by simp) _)))) hg5; have HR5 := Lib.hid hr5; have HX5 : Hid (w5.heap[w1.heap.size]? = some (.cells #[.bool fb, .slice A5 n5 c5] 113 (0, 0))) := Lib.hid ((hg45.block _ (by simp [World.setCell]; omega) (by intro e; injection e with e; omega)).trans (HX4.out true)); have HXR5 : Hid (w5.heap[w.heap.size]? = some (.cells #[.bool false, .slice none 0 0] 113 (0, 0))) := Lib.hid ((hg45.block _ (by simp [World.setCell]; omega) (by intro e; injection e with e; omega)).trans (HXR4.out true)); have kx51 : w5.cell? ⟨w1.heap.size, 1, none⟩ = some (.slice A5 n5 c5) := (by rw [cell_of_row _ _ _ _ _ _ HX5.out]; rfl); have HO5 := Lib.hid ((HO4.out true).kept hg45 (Or.inr fun e => by have := (HO4.out true).lt _ e; omega)); have HG5 := Lib.hid (grown_trans (HG4.out true) hg45); have hsz5 : w1.heap.size < w5.heap.size := (by have := hg45.size; simp [World.setCell] at this; omega); clear hr5 hg5 hg45)
              | (refine step_append_rd infoE (by rfl) (.tmp 44) (.tmp 50) (by rfl) (w1.heap.size + 1) (.slice A5 n5 c5) n5 vs (by rfl) (own_below HO5.out (by repeat (first | exact Below.refl _ _ | apply below_drewN | apply Below.drew | (refine Below.alloc ?_ (by simp) _)))) _ _ _ 1 1 [.int .i32 rw_, .int .i64 tv] (by rfl) (by first | exact Rd.two _ _ _ _ | exact Rd.drewN (Rd.two _ _ _ _) _) (by rfl) (by simp [Value.oneCell']) (by omega) (by simp; omega) ?_; intro v6 w6 hown1 hg1 hat1; obtain ⟨A6, c6, rfl, _, _⟩ := own_slice hown1; have hlt6 := HO5.out.lt; have hg56 : w5.grownBy w6 (Value.slice A5 n5 c5).ownBlock := grown_trans (grown_below (by repeat (first | exact Below.refl _ _ | apply below_drewN | apply Below.drew | (refine Below.alloc ?_ (by simp) _)))) hg1; have HX6 : Hid (w6.heap[w1.heap.size]? = some (.cells #[.bool fb, .slice A5 n5 c5] 113 (0, 0))) := Lib.hid ((hg56.block _ hsz5 (fun e => by have := hlt6 _ e.symm; omega)).trans HX5.out); have HXR6 : Hid (w6.heap[w.heap.size]? = some (.cells #[.bool false, .slice none 0 0] 113 (0, 0))) := Lib.hid ((hg56.block _ (by omega) (fun e => by have := hlt6 _ e.symm; omega)).trans HXR5.out); have fx61 : w6.frozen? ⟨w1.heap.size, 1, none⟩ = false := (by simp [World.frozen?, HX6.out]); have kx61 : w6.cell? ⟨w1.heap.size, 1, none⟩ = some (.slice A5 n5 c5) := (by rw [cell_of_row _ _ _ _ _ _ HX6.out]; rfl); have HR6 := Lib.hid (HR5.out.own hg56 (fun k hk => by have := hlt6 _ hk; omega)); have HG6 := Lib.hid (grown_own HG5.out hg56 (fun k hk => by have := hlt6 _ hk; omega)); have HO6 := Lib.hid hown1; have hsz6 : w1.heap.size < w6.heap.size := Nat.lt_of_lt_of_le hsz5 hg56.size; clear hown1 hg1 hat1 hg56 hlt6))
            all_goals
              have hgx := Lib.hid (grown_set w6 w1.heap.size 1 (.slice A6 (n5 + 1) c6))
              have HXWf : Hid ((w6.setCell ⟨w1.heap.size, 1, none⟩ (.slice A6 (n5 + 1) c6)).heap[w1.heap.size]? = some (.cells #[.bool fb, .slice A6 (n5 + 1) c6] 113 (0, 0))) := Lib.hid (by rw [Go.Joins.block_setCell HX6.out]; rfl)
              have HXRf : Hid ((w6.setCell ⟨w1.heap.size, 1, none⟩ (.slice A6 (n5 + 1) c6)).heap[w.heap.size]? = some (.cells #[.bool false, .slice none 0 0] 113 (0, 0))) := Lib.hid ((hgx.out.block _ (by omega) (by intro e; injection e with e; omega)).trans HXR6.out)
              have HOf := Lib.hid (HO6.out.kept hgx.out (Or.inr fun e => by have := HO6.out.lt _ e; omega))
              have HRf := Lib.hid (HR6.out.own hgx.out (fun k hk => by injection hk with hk; omega))
              have HGf := Lib.hid (grown_own HG6.out hgx.out (fun k hk => by injection hk with hk; omega))
              have hszf : w1.heap.size < (w6.setCell ⟨w1.heap.size, 1, none⟩ (.slice A6 (n5 + 1) c6)).heap.size := Nat.lt_of_lt_of_le hsz6 hgx.out.size
              have HVf : Hid (b6 = false → n5 + 1 = (es ++ [(rn, tv)]).length ∧ vs ++ [.int .i32 rw_, .int .i64 tv] = edgv (es ++ [(rn, tv)])) := Lib.hid fun e => ⟨by rw [List.length_append, ← HVV.out.1]; rfl, by rw [edgv_append, HVV.out.2, HRW.out (HRNL.out e)]; rfl⟩
              clear HX6 HXR6 HR6 HG6 HO6 fx61 kx61 hgx
              go_wp2_with fail
              go_roundw
              case rel => exact ⟨k + 1, n5 + 1, c6, A6, _, _, q2, b6, by omega, by omega, hq2, by go_num, hszf, HST, HXWf, HXRf, HOf, HRf, HGf, HVf⟩
              case measure => simp [intOf]; omega
        · have HFI : Hid (itE l cn ([], p2, b2) = (es, q, true)) := Lib.hid (by rw [itE_bad (k := k) (by rw [HIT.out]) cn (by omega), HIT.out])
          go_wp2_with fail
          obtain ⟨e1, e2, e3, e4⟩ := nodeEnd (fb := fb) HXR.out (Nat.le_of_lt hsz) HO.out HR.out HG.out hrb
          refine bodyPost_ret (results_cell_row rfl _ _ w.heap.size 113 #[.bool fb, .slice A5 n5 c5] (0, 0) _ rfl e1 Try.underlying113 rfl (by kernel_rfl)) rfl ?_
          rw [HFI.out]
          exact ⟨fb, A5, n5, c5, vs, rfl, e2, e3, e4, fun h => by cases h⟩
      · obtain rfl : k = cn := by omega
        go_wp2_with fail
        obtain ⟨e1, e2, e3, e4⟩ := nodeEnd (fb := fb) HXR.out (Nat.le_of_lt hsz) HO.out HR.out HG.out hrb
        refine bodyPost_ret (results_cell_row rfl _ _ w.heap.size 113 #[.bool fb, .slice A5 n5 c5] (0, 0) _ rfl e1 Try.underlying113 rfl (by kernel_rfl)) rfl ?_
        rw [HIT.out]
        exact ⟨fb, A5, n5, c5, vs, rfl, e2, e3, e4, fun h => ⟨HFB.out.symm, HV.out h⟩⟩
  · rw [Bool.true_or] at H2
    go_wp2_with fail
    (with_reducible refine (k86 (HR3.out true) HB.out hl hp1 2 2 H2.out rfl (by omega) (by omega)).mono ?_); rintro e w2 ⟨rfl, hr2, hg2⟩
    have HR := Lib.hid hr2
    have HG := Lib.hid (grown_trans (HG3.out true) hg2)
    have HXW : Hid (w2.heap[w1.heap.size]? = some (.cells #[.bool fb, .slice none 0 0] 113 (0, 0))) := Lib.hid ((hg2.block _ (by simp [World.setCell]) (by intro e; injection e with e; omega)).trans (HXB.out true))
    have HXR : Hid (w2.heap[w.heap.size]? = some (.cells #[.bool false, .slice none 0 0] 113 (0, 0))) := Lib.hid ((hg2.block _ (by simp [World.setCell]; omega) (by intro e; injection e with e; omega)).trans (HX00.out true))
    have hsz2 : w1.heap.size < w2.heap.size := by have := hg2.size; simp [World.setCell] at this; omega
    clear hr2 hg2 HR3 HG3 HXB HX00
    go_wp2_with fail
    go_loopw [24] (fun i wr => ∃ (k n5 c5 : Nat) (A5 : Option Addr) (vs : List Value) (es : List (Nat × Nat)) (q : Nat) (bq : Bool), k ≤ cn ∧ n5 ≤ k ∧ q ≤ l.length ∧ i = .int .i64 k ∧ w1.heap.size < wr.heap.size ∧ Hid (itE l k ([], p2, b2) = (es, q, bq)) ∧ Hid (wr.heap[w1.heap.size]? = some (.cells #[.bool fb, .slice A5 n5 c5] 113 (0, 0))) ∧ Hid (wr.heap[w.heap.size]? = some (.cells #[.bool false, .slice none 0 0] 113 (0, 0))) ∧ Hid (wr.ownsRow (w1.heap.size + 1) 49 2 (.slice A5 n5 c5) n5 vs) ∧ Hid (Rdr wr B rb A c l q bq) ∧ Hid (w.grownBy wr (some rb)) ∧ Hid (bq = false → n5 = es.length ∧ vs = edgv es)) (fun i _ => cn - (intOf i).toNat)
    case atStart => exact ⟨0, 0, 0, none, [], [], p2, b2, by omega, by omega, hp2, rfl, hsz2, Lib.hid rfl, HXW, HXR, Lib.hid (World.ownsRow_nil _ _ _ _), HR, HG, Lib.hid fun _ => ⟨rfl, rfl⟩⟩
    case round =>
      clear HXW HXR HR HG
      obtain ⟨k, n5, c5, A5, vs, es, q, bq, hk, hn5, hq, rfl, hszr, HIT, HXW, HXR, HO, HR, HG, HV⟩ := hrel
      have kx0 : wr.cell? ⟨w1.heap.size, 0, none⟩ = some (.bool fb) := by rw [cell_of_row _ _ _ _ _ _ HXW.out]; rfl
      have kx1 : wr.cell? ⟨w1.heap.size, 1, none⟩ = some (.slice A5 n5 c5) := by rw [cell_of_row _ _ _ _ _ _ HXW.out]; rfl
      have kr0 : wr.cell? ⟨w.heap.size, 0, none⟩ = some (.bool false) := by rw [cell_of_row _ _ _ _ _ _ HXR.out]; rfl
      have kr1 : wr.cell? ⟨w.heap.size, 1, none⟩ = some (.slice none 0 0) := by rw [cell_of_row _ _ _ _ _ _ HXR.out]; rfl
      have fr0 : wr.frozen? ⟨w.heap.size, 0, none⟩ = false := by simp [World.frozen?, HXR.out]
      have fr1 : wr.frozen? ⟨w.heap.size, 1, none⟩ = false := by simp [World.frozen?, HXR.out]
      have kb2 : wr.cell? ⟨rb, 2, none⟩ = some (.bool bq) := by rw [cell_of_row _ _ _ _ _ _ HR.out.row]; rfl
      by_cases hlt : k < cn
      · cases bq
        · obtain ⟨rn, q1, bq1, h4⟩ : ∃ rn q1 bq1, rdN l q false 4 = (rn, q1, bq1) := ⟨_, _, _, rfl⟩
          obtain ⟨hq1, hrn, _⟩ := rdN_le HB.out h4 hq
          obtain ⟨tv, q2, b6, h6⟩ : ∃ tv q2 b6, rdN l q1 (bq1 || decide (1114111 < rn)) 2 = (tv, q2, b6) := ⟨_, _, _, rfl⟩
          obtain ⟨hq2, hto, _⟩ := rdN_le HB.out h6 hq1
          have HST : Hid (itE l (k + 1) ([], p2, b2) = (es ++ [(rn, tv)], q2, b6)) := Lib.hid (by rw [itE_succ, HIT.out]; unfold stE; simp only [h4, h6]; rfl)
          have HV6 : Hid (b6 = false → bq1 = false ∧ rn ≤ 1114111) := Lib.hid fun e => by
            have h := h6
            unfold rdN at h
            split at h
            · simp only [Prod.mk.injEq] at h
              obtain ⟨_, _, h⟩ := h
              rw [e, Bool.or_eq_false_iff] at h
              exact ⟨h.1, by have := h.2; simp at this; omega⟩
            · simp only [Prod.mk.injEq] at h
              rw [e] at h
              cases h.2.2
          have HRNL : Hid (b6 = false → rn ≤ 1114111) := Lib.hid fun e => (HV6.out e).2
          have HVV := Lib.hid (HV.out rfl)
          obtain ⟨rw_, hrw⟩ : ∃ r : Int, IntKind.i32.wrap (rn : Int) = r := ⟨_, rfl⟩
          have HRW : Hid (rn ≤ 1114111 → rw_ = rn) := Lib.hid fun h => by rw [← hrw]; simp [IntKind.wrap, IntKind.signed, IntKind.bits]; omega
          obtain ⟨cb, hcb⟩ : ∃ cb, decide ((1114111 : Int) < rn) = cb := ⟨_, rfl⟩
          have HCB : Hid (decide (1114111 < rn) = cb) := Lib.hid (by rw [← hcb]; exact decide_eq_decide.2 (by omega))
          have hn5c : n5 ≤ 65536 := by omega
          have H4 := Lib.hid h4
          rw [HCB.out] at h6
          have H6 := Lib.hid h6
          clear h4 h6 HIT
          go_wp2_with fail
          (with_reducible refine (k86 HR.out HB.out hl hq 4 4 H4.out rfl (by omega) (by omega)).mono ?_); rintro e w3 ⟨rfl, hr3, hg3⟩
          have HR3 := Lib.hid hr3
          have HXW3 : Hid (w3.heap[w1.heap.size]? = some (.cells #[.bool fb, .slice A5 n5 c5] 113 (0, 0))) := Lib.hid ((hg3.block _ hszr (by intro e; injection e with e; omega)).trans HXW.out)
          have HXR3 : Hid (w3.heap[w.heap.size]? = some (.cells #[.bool false, .slice none 0 0] 113 (0, 0))) := Lib.hid ((hg3.block _ (by omega) (by intro e; injection e with e; omega)).trans HXR.out)
          have HO3 := Lib.hid (HO.out.kept hg3 (Or.inr fun e => by have := HO.out.lt _ e; omega))
          have HG3' := Lib.hid (grown_trans HG.out hg3)
          have hsz3 : w1.heap.size < w3.heap.size := by have := hg3.size; omega
          have k32 : w3.cell? ⟨rb, 2, none⟩ = some (.bool bq1) := by rw [cell_of_row _ _ _ _ _ _ hr3.row]; rfl
          have f32 : w3.frozen? ⟨rb, 2, none⟩ = false := by simp [World.frozen?, hr3.row]
          clear hr3 hg3 kx0 kx1 kr0 kr1 fr0 fr1 kb2
          have hgs := Lib.hid fun bv : Bool => grown_set w3 rb 2 (.bool bv)
          have HR4 := Lib.hid fun bv : Bool => HR3.out.mark (bad' := bv)
          have HX4 : Hid (∀ bv : Bool, (w3.setCell ⟨rb, 2, none⟩ (.bool bv)).heap[w1.heap.size]? = some (.cells #[.bool fb, .slice A5 n5 c5] 113 (0, 0))) := Lib.hid fun bv => ((hgs.out bv).block _ hsz3 (by intro e; injection e with e; omega)).trans HXW3.out
          have HXR4 : Hid (∀ bv : Bool, (w3.setCell ⟨rb, 2, none⟩ (.bool bv)).heap[w.heap.size]? = some (.cells #[.bool false, .slice none 0 0] 113 (0, 0))) := Lib.hid fun bv => ((hgs.out bv).block _ (by omega) (by intro e; injection e with e; omega)).trans HXR3.out
          have HO4 := Lib.hid fun bv : Bool => HO3.out.kept (hgs.out bv) (Or.inr fun e => by have := HO3.out.lt _ e; omega)
          have HG4 := Lib.hid fun bv : Bool => grown_trans HG3'.out (hgs.out bv)
          cases bq1
          · rw [Bool.false_or] at H6
            have kx41 : (w3.setCell ⟨rb, 2, none⟩ (.bool cb)).cell? ⟨w1.heap.size, 1, none⟩ = some (.slice A5 n5 c5) := by rw [cell_of_row _ _ _ _ _ _ (HX4.out cb)]; rfl
            have HBV : Hid (b6 = false → cb = false) := Lib.hid fun e => by have h := HV6.out e; rw [← HCB.out]; exact decide_eq_false (by have := h.2; omega)
            go_wp2_with fail
            go_region_law (first
              | (go_simp; go_at_call 86; (with_reducible refine (k86 ((HR4.out cb).other (by repeat (first | exact Below.refl _ _ | apply below_drewN | apply Below.drew | (refine Below.alloc ?_ (by simp) _)))) HB.out hl hq1 2 2 H6.out rfl (by omega) (by omega)).mono ?_); rintro e w5 ⟨rfl, hr5, hg5⟩; have hg45 : (w3.setCell ⟨rb, 2, none⟩ (.bool cb)).grownBy w5 (some rb) := grown_trans (grown_below (by repeat (first | exact Below.refl _ _ | apply below_drewN | apply Below.drew | (refine Below.alloc ?_ (by simp) _)))) hg5; have HR5 := Lib.hid hr5; have HX5 : Hid (w5.heap[w1.heap.size]? = some (.cells #[.bool fb, .slice A5 n5 c5] 113 (0, 0))) := Lib.hid ((hg45.block _ (by simp [World.setCell]; omega) (by intro e; injection e with e; omega)).trans (HX4.out cb)); have HXR5 : Hid (w5.heap[w.heap.size]? = some (.cells #[.bool false, .slice none 0 0] 113 (0, 0))) := Lib.hid ((hg45.block _ (by simp [World.setCell]; omega) (by intro e; injection e with e; omega)).trans (HXR4.out cb)); have kx51 : w5.cell? ⟨w1.heap.size, 1, none⟩ = some (.slice A5 n5 c5) := (by rw [cell_of_row _ _ _ _ _ _ HX5.out]; rfl); have HO5 := Lib.hid ((HO4.out cb).kept hg45 (Or.inr fun e => by have := (HO4.out cb).lt _ e; omega)); have HG5 := Lib.hid (grown_trans (HG4.out cb) hg45); have hsz5 : w1.heap.size < w5.heap.size := (by have := hg45.size; simp [World.setCell] at this; omega); clear hr5 hg5 hg45)
              | (refine step_append_rd infoE (by rfl) (.tmp 44) (.tmp 50) (by rfl) (w1.heap.size + 1) (.slice A5 n5 c5) n5 vs (by rfl) (own_below HO5.out (by repeat (first | exact Below.refl _ _ | apply below_drewN | apply Below.drew | (refine Below.alloc ?_ (by simp) _)))) _ _ _ 1 1 [.int .i32 rw_, .int .i64 tv] (by rfl) (by first | exact Rd.two _ _ _ _ | exact Rd.drewN (Rd.two _ _ _ _) _) (by rfl) (by simp [Value.oneCell']) (by omega) (by simp; omega) ?_; intro v6 w6 hown1 hg1 hat1; obtain ⟨A6, c6, rfl, _, _⟩ := own_slice hown1; have hlt6 := HO5.out.lt; have hg56 : w5.grownBy w6 (Value.slice A5 n5 c5).ownBlock := grown_trans (grown_below (by repeat (first | exact Below.refl _ _ | apply below_drewN | apply Below.drew | (refine Below.alloc ?_ (by simp) _)))) hg1; have HX6 : Hid (w6.heap[w1.heap.size]? = some (.cells #[.bool fb, .slice A5 n5 c5] 113 (0, 0))) := Lib.hid ((hg56.block _ hsz5 (fun e => by have := hlt6 _ e.symm; omega)).trans HX5.out); have HXR6 : Hid (w6.heap[w.heap.size]? = some (.cells #[.bool false, .slice none 0 0] 113 (0, 0))) := Lib.hid ((hg56.block _ (by omega) (fun e => by have := hlt6 _ e.symm; omega)).trans HXR5.out); have fx61 : w6.frozen? ⟨w1.heap.size, 1, none⟩ = false := (by simp [World.frozen?, HX6.out]); have kx61 : w6.cell? ⟨w1.heap.size, 1, none⟩ = some (.slice A5 n5 c5) := (by rw [cell_of_row _ _ _ _ _ _ HX6.out]; rfl); have HR6 := Lib.hid (HR5.out.own hg56 (fun k hk => by have := hlt6 _ hk; omega)); have HG6 := Lib.hid (grown_own HG5.out hg56 (fun k hk => by have := hlt6 _ hk; omega)); have HO6 := Lib.hid hown1; have hsz6 : w1.heap.size < w6.heap.size := Nat.lt_of_lt_of_le hsz5 hg56.size; clear hown1 hg1 hat1 hg56 hlt6))
            all_goals
              have hgx := Lib.hid (grown_set w6 w1.heap.size 1 (.slice A6 (n5 + 1) c6))
              have HXWf : Hid ((w6.setCell ⟨w1.heap.size, 1, none⟩ (.slice A6 (n5 + 1) c6)).heap[w1.heap.size]? = some (.cells #[.bool fb, .slice A6 (n5 + 1) c6] 113 (0, 0))) := Lib.hid (by rw [Go.Joins.block_setCell HX6.out]; rfl)
              have HXRf : Hid ((w6.setCell ⟨w1.heap.size, 1, none⟩ (.slice A6 (n5 + 1) c6)).heap[w.heap.size]? = some (.cells #[.bool false, .slice none 0 0] 113 (0, 0))) := Lib.hid ((hgx.out.block _ (by omega) (by intro e; injection e with e; omega)).trans HXR6.out)
              have HOf := Lib.hid (HO6.out.kept hgx.out (Or.inr fun e => by have := HO6.out.lt _ e; omega))
              have HRf := Lib.hid (HR6.out.own hgx.out (fun k hk => by injection hk with hk; omega))
              have HGf := Lib.hid (grown_own HG6.out hgx.out (fun k hk => by injection hk with hk; omega))
              have hszf : w1.heap.size < (w6.setCell ⟨w1.heap.size, 1, none⟩ (.slice A6 (n5 + 1) c6)).heap.size := Nat.lt_of_lt_of_le hsz6 hgx.out.size
              have HVf : Hid (b6 = false → n5 + 1 = (es ++ [(rn, tv)]).length ∧ vs ++ [.int .i32 rw_, .int .i64 tv] = edgv (es ++ [(rn, tv)])) := Lib.hid fun e => ⟨by rw [List.length_append, ← HVV.out.1]; rfl, by rw [edgv_append, HVV.out.2, HRW.out (HRNL.out e)]; rfl⟩
              clear HX6 HXR6 HR6 HG6 HO6 fx61 kx61 hgx
              go_wp2_with fail
              go_roundw
              case rel => exact ⟨k + 1, n5 + 1, c6, A6, _, _, q2, b6, by omega, by omega, hq2, by go_num, hszf, HST, HXWf, HXRf, HOf, HRf, HGf, HVf⟩
              case measure => simp [intOf]; omega
          · rw [Bool.true_or] at H6
            have kx41 : (w3.setCell ⟨rb, 2, none⟩ (.bool true)).cell? ⟨w1.heap.size, 1, none⟩ = some (.slice A5 n5 c5) := by rw [cell_of_row _ _ _ _ _ _ (HX4.out true)]; rfl
            have HBV : Hid (b6 = false → true = false) := Lib.hid fun e => (HV6.out e).1
            go_wp2_with fail
            go_region_law (first
              | (go_simp; go_at_call 86; (with_reducible refine (k86 ((HR4.out true).other (by repeat (first | exact Below.refl _ _ | apply below_drewN | apply Below.drew | (refine Below.alloc ?_ (by simp) _)))) HB.out hl hq1 2 2 H6.out rfl (by omega) (by omega)).mono ?_); rintro e w5 ⟨rfl, hr5, hg5⟩; have hg45 : (w3.setCell ⟨rb, 2, none⟩ (.bool true)).grownBy w5 (some rb) := grown_trans (grown_below (by repeat (first | exact Below.refl _ _ | apply below_drewN | apply Below.drew | (refine Below.alloc ?_ (by simp) _)))) hg5; have HR5 := Lib.hid hr5; have HX5 : Hid (w5.heap[w1.heap.size]? = some (.cells #[.bool fb, .slice A5 n5 c5] 113 (0, 0))) := Lib.hid ((hg45.block _ (by simp [World.setCell]; omega) (by intro e; injection e with e; omega)).trans (HX4.out true)); have HXR5 : Hid (w5.heap[w.heap.size]? = some (.cells #[.bool false, .slice none 0 0] 113 (0, 0))) := Lib.hid ((hg45.block _ (by simp [World.setCell]; omega) (by intro e; injection e with e; omega)).trans (HXR4.out true)); have kx51 : w5.cell? ⟨w1.heap.size, 1, none⟩ = some (.slice A5 n5 c5) := (by rw [cell_of_row _ _ _ _ _ _ HX5.out]; rfl); have HO5 := Lib.hid ((HO4.out true).kept hg45 (Or.inr fun e => by have := (HO4.out true).lt _ e; omega)); have HG5 := Lib.hid (grown_trans (HG4.out true) hg45); have hsz5 : w1.heap.size < w5.heap.size := (by have := hg45.size; simp [World.setCell] at this; omega); clear hr5 hg5 hg45)
              | (refine step_append_rd infoE (by rfl) (.tmp 44) (.tmp 50) (by rfl) (w1.heap.size + 1) (.slice A5 n5 c5) n5 vs (by rfl) (own_below HO5.out (by repeat (first | exact Below.refl _ _ | apply below_drewN | apply Below.drew | (refine Below.alloc ?_ (by simp) _)))) _ _ _ 1 1 [.int .i32 rw_, .int .i64 tv] (by rfl) (by first | exact Rd.two _ _ _ _ | exact Rd.drewN (Rd.two _ _ _ _) _) (by rfl) (by simp [Value.oneCell']) (by omega) (by simp; omega) ?_; intro v6 w6 hown1 hg1 hat1; obtain ⟨A6, c6, rfl, _, _⟩ := own_slice hown1; have hlt6 := HO5.out.lt; have hg56 : w5.grownBy w6 (Value.slice A5 n5 c5).ownBlock := grown_trans (grown_below (by repeat (first | exact Below.refl _ _ | apply below_drewN | apply Below.drew | (refine Below.alloc ?_ (by simp) _)))) hg1; have HX6 : Hid (w6.heap[w1.heap.size]? = some (.cells #[.bool fb, .slice A5 n5 c5] 113 (0, 0))) := Lib.hid ((hg56.block _ hsz5 (fun e => by have := hlt6 _ e.symm; omega)).trans HX5.out); have HXR6 : Hid (w6.heap[w.heap.size]? = some (.cells #[.bool false, .slice none 0 0] 113 (0, 0))) := Lib.hid ((hg56.block _ (by omega) (fun e => by have := hlt6 _ e.symm; omega)).trans HXR5.out); have fx61 : w6.frozen? ⟨w1.heap.size, 1, none⟩ = false := (by simp [World.frozen?, HX6.out]); have kx61 : w6.cell? ⟨w1.heap.size, 1, none⟩ = some (.slice A5 n5 c5) := (by rw [cell_of_row _ _ _ _ _ _ HX6.out]; rfl); have HR6 := Lib.hid (HR5.out.own hg56 (fun k hk => by have := hlt6 _ hk; omega)); have HG6 := Lib.hid (grown_own HG5.out hg56 (fun k hk => by have := hlt6 _ hk; omega)); have HO6 := Lib.hid hown1; have hsz6 : w1.heap.size < w6.heap.size := Nat.lt_of_lt_of_le hsz5 hg56.size; clear hown1 hg1 hat1 hg56 hlt6))
            all_goals
              have hgx := Lib.hid (grown_set w6 w1.heap.size 1 (.slice A6 (n5 + 1) c6))
              have HXWf : Hid ((w6.setCell ⟨w1.heap.size, 1, none⟩ (.slice A6 (n5 + 1) c6)).heap[w1.heap.size]? = some (.cells #[.bool fb, .slice A6 (n5 + 1) c6] 113 (0, 0))) := Lib.hid (by rw [Go.Joins.block_setCell HX6.out]; rfl)
              have HXRf : Hid ((w6.setCell ⟨w1.heap.size, 1, none⟩ (.slice A6 (n5 + 1) c6)).heap[w.heap.size]? = some (.cells #[.bool false, .slice none 0 0] 113 (0, 0))) := Lib.hid ((hgx.out.block _ (by omega) (by intro e; injection e with e; omega)).trans HXR6.out)
              have HOf := Lib.hid (HO6.out.kept hgx.out (Or.inr fun e => by have := HO6.out.lt _ e; omega))
              have HRf := Lib.hid (HR6.out.own hgx.out (fun k hk => by injection hk with hk; omega))
              have HGf := Lib.hid (grown_own HG6.out hgx.out (fun k hk => by injection hk with hk; omega))
              have hszf : w1.heap.size < (w6.setCell ⟨w1.heap.size, 1, none⟩ (.slice A6 (n5 + 1) c6)).heap.size := Nat.lt_of_lt_of_le hsz6 hgx.out.size
              have HVf : Hid (b6 = false → n5 + 1 = (es ++ [(rn, tv)]).length ∧ vs ++ [.int .i32 rw_, .int .i64 tv] = edgv (es ++ [(rn, tv)])) := Lib.hid fun e => ⟨by rw [List.length_append, ← HVV.out.1]; rfl, by rw [edgv_append, HVV.out.2, HRW.out (HRNL.out e)]; rfl⟩
              clear HX6 HXR6 HR6 HG6 HO6 fx61 kx61 hgx
              go_wp2_with fail
              go_roundw
              case rel => exact ⟨k + 1, n5 + 1, c6, A6, _, _, q2, b6, by omega, by omega, hq2, by go_num, hszf, HST, HXWf, HXRf, HOf, HRf, HGf, HVf⟩
              case measure => simp [intOf]; omega
        · have HFI : Hid (itE l cn ([], p2, b2) = (es, q, true)) := Lib.hid (by rw [itE_bad (k := k) (by rw [HIT.out]) cn (by omega), HIT.out])
          go_wp2_with fail
          obtain ⟨e1, e2, e3, e4⟩ := nodeEnd (fb := fb) HXR.out (Nat.le_of_lt hsz) HO.out HR.out HG.out hrb
          refine bodyPost_ret (results_cell_row rfl _ _ w.heap.size 113 #[.bool fb, .slice A5 n5 c5] (0, 0) _ rfl e1 Try.underlying113 rfl (by kernel_rfl)) rfl ?_
          rw [HFI.out]
          exact ⟨fb, A5, n5, c5, vs, rfl, e2, e3, e4, fun h => by cases h⟩
      · obtain rfl : k = cn := by omega
        go_wp2_with fail
        obtain ⟨e1, e2, e3, e4⟩ := nodeEnd (fb := fb) HXR.out (Nat.le_of_lt hsz) HO.out HR.out HG.out hrb
        refine bodyPost_ret (results_cell_row rfl _ _ w.heap.size 113 #[.bool fb, .slice A5 n5 c5] (0, 0) _ rfl e1 Try.underlying113 rfl (by kernel_rfl)) rfl ?_
        rw [HIT.out]
        exact ⟨fb, A5, n5, c5, vs, rfl, e2, e3, e4, fun h => ⟨HFB.out.symm, HV.out h⟩⟩

end Go.Proofs.Ytepmcfleijiloaa

end
