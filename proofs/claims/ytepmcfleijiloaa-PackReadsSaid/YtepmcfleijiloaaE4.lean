/- Contracts of package list: Sorted. -/
import Derived.Test.YtepmcfleijiloaaE3
import Derived.Test.YtepmcfleijiloaaP3
import Derived.Test.YtepmcfleijiloaaS1
import Derived.Lib.OwnBridge
import Derived.Sort.OwnSorted
import Derived.Sort.Grow
namespace Go.Proofs.Ytepmcfleijiloaa
open Go.RowKit Go.Shelf Go.Sort Go.Lib

theorem cmp_lays (enc : List UInt8 → Value) (he : enc = fun l => .string (ofL l)) (blk off size : Nat) (w : World) : CmpLays1 Try.prog 65 #[] enc compareBytes blk off size w := by
  intro m os dk hs x y
  subst he
  refine (c65 (ofL x) (ofL y) _).mono ?_
  rintro e w' ⟨rfl, rfl⟩
  rw [data_ofL, data_ofL]
  exact ⟨rfl, 0, #[], by simp; rfl⟩

/-- The sort and the leaving out, as contracts at what was gathered. -/
theorem sort_step (w wr : World) (v : Value) (acc : List ByteArray) (hown : wr.ownsRow w.heap.size 9 1 v acc.length (strv acc)) (hB : Below w.heap.size w wr) (h0 : 0 < acc.length) (hn : acc.length ≤ 1000000) (hw : ∀ x ∈ acc, isWord x = true) :
    Calls Try.prog 92 #[v, .func (.func 65) #[] #[]] wr fun e w1 => e = .returned (.tuple #[]) ∧
      Calls Try.prog 93 #[v] w1 fun e w2 => ∃ v2, e = .returned v2 ∧ w2.ownsRow w.heap.size 9 1 v2 (sortedL acc).length (strv (sortedL acc)) ∧ Below w.heap.size w w2 := by
  have henc : strv acc = (acc.map fun s => s.data.toList).map encStr := by
    unfold strv
    rw [List.map_map]
    apply List.map_congr_left
    intro s _
    show Value.string s = encStr s.data.toList
    unfold encStr
    exact congrArg Value.string (ofL_data s).symm
  rw [henc] at hown
  have hnn : v ≠ .slice none 0 0 := by
    rintro rfl
    rcases hown.2 with ⟨_, h⟩ | ⟨g, cap, cur, h, _⟩
    · omega
    · cases h
  obtain ⟨g, cap, rfl, hbg, hgl, hncap, hcm, hlen, hH⟩ := Lib.holds_of_ownsRow hown hnn
  have e2 : encStr = fun l => Value.string (ofL l) := rfl
  have hsort := Any.slices_SortFunc_total Try.sortL encStr (fun x => rfl) compareBytes swoL 65 #[] g 0 cap (acc.map fun s => s.data.toList).toArray wr (enters_of Try.func65 (by kernel_rfl) rfl) (cmp_lays encStr e2 g 0 _ wr) hH hgl (by simp; omega) totL
  have hsz : (acc.map fun s => s.data.toList).toArray.size = acc.length := by simp
  rw [hsz] at hsort
  refine hsort.mono ?_
  rintro e w1 ⟨rfl, n, os, rfl⟩
  refine ⟨rfl, ?_⟩
  have hl2 : ((acc.map fun s => s.data.toList).mergeSort fun x y => !(ltOf compareBytes) y x).length = acc.length := by rw [List.length_mergeSort]; simp
  have hsi := sorted_is acc hw
  simp only at *
  generalize ((acc.map fun s => s.data.toList).mergeSort fun x y => !(ltOf compareBytes) y x) = ts at *
  rcases hown.2 with ⟨h0, _⟩ | ⟨g', cap', cur, hv, hbase, hb, h1, h2, h3, h4⟩
  · cases h0
  cases hv
  have hs := ownsRow_sorted (n := n) (os := os) (ss := acc.map fun s => s.data.toList) (ts := ts) (by simp [hl2]) hbase hb (by simpa using h1) h2 h3
  simp only [List.length_map] at hs
  have hH2 : Holds encStr (sortWorld encStr wr g 0 n ts.toArray os) g 0 ts.toArray :=
    holds_grow encStr _ os g 0 _ (by simpa [putRow, mapBlock, Sort.ahead] using hgl) (holds_putRow encStr _ g 0 _ _ (holds_ahead encStr wr n g 0 _ hH) (by simp [hl2]))
  have hcomp := Try.slices_Compact_string g 0 cap ts (sortWorld encStr wr g 0 n ts.toArray os) hH2 (by omega) (by omega)
  rw [hl2] at hcomp
  refine hcomp.mono ?_
  rintro e w2 ⟨rfl, q, rfl⟩
  have hle := Lib.compact_length_le ts
  have hc := Lib.ownsRow_putRow (q := q) (k := (Lib.compact ts).length) (ys := Lib.compact ts ++ List.replicate (acc.length - (Lib.compact ts).length) []) hs (by simp; omega) (by omega)
  rw [List.take_left] at hc
  have e3 : strv (sortedL acc) = (Lib.compact ts).map encStr := by
    rw [← hsi]
    unfold strv
    rw [List.map_map]
    rfl
  have e4 : (sortedL acc).length = (Lib.compact ts).length := by rw [← hsi]; simp
  rw [e3, e4]
  exact ⟨_, rfl, hc, Lib.below_putRow (hB.grown (grownBy_sorted _) hB.size (fun j hj => by cases hj; exact hbase)) hbg⟩
theorem sort_none (p : Option Addr) (cap : Nat) (fv : Value) (w : World) : Calls Try.prog 92 #[.slice p 0 cap, fv] w fun e w' => e = .returned (.tuple #[]) ∧ w' = w :=
  AnyF.slices_SortFunc_none Try.sortL0 p cap fv w
theorem filter_snoc (l : List ByteArray) (x : ByteArray) : (l ++ [x]).filter isWord = l.filter isWord ++ if isWord x then [x] else [] := by
  rw [List.filter_append]
  cases h : isWord x <;> simp [h]

set_option maxHeartbeats 2000000 in
set_option maxRecDepth 100000 in
/-- list.Sorted -/
theorem c60 (w : World) (lo : Nat) (A : Option Addr) (c : Nat) (xs : List ByteArray) (hx : Strs w lo A c xs) (hs : Small xs) (hn : xs.length ≤ 1000) :
    Calls Try.prog 60 #[.slice A xs.length c] w fun e w' => ∃ v, e = .returned v ∧ w'.ownsRow w.heap.size 9 1 v (sortedL xs).length (strv (sortedL xs)) ∧ Below w.heap.size w w' := by
  have hl1 := hx.2.1
  have hm1 := hx.2.2
  go_enter Try.func60, Try.ntmps60
  go_wp2_with fail
  go_loopw [3, 13] (fun v i wr => ∃ k : Nat, k ≤ xs.length ∧ i = .int .i64 k ∧ wr.ownsRow w.heap.size 9 1 v ((xs.take k).filter isWord).length (strv ((xs.take k).filter isWord)) ∧ Below w.heap.size w wr) (fun _ i _ => xs.length - (intOf i).toNat)
  case atStart => exact ⟨0, Nat.zero_le _, rfl, by simpa [strv] using World.ownsRow_nil _ _ _ _, Below.refl _ _⟩
  case round =>
    obtain ⟨k, hk, rfl, hown, hB⟩ := hrel
    have HO := Lib.hid hown
    have HB := Lib.hid hB
    clear hown hB
    by_cases hlt : k < xs.length
    · obtain ⟨b1, o1, rfl, _, hb1, hcx⟩ := (hx.ext HB.out).at_ hlt
      obtain ⟨x, hx'⟩ : ∃ x, x = xs[k] := ⟨_, rfl⟩
      rw [← hx'] at hcx
      have HX := Lib.hid hx'; clear hx'
      have hsx : x.size ≤ 1000000 := by rw [HX.out]; exact hs _ (List.getElem_mem _)
      have hwl : ((xs.take k).filter isWord).length ≤ 1000 := Nat.le_trans (List.length_filter_le _ _) (by simp; omega)
      have hsn : (xs.take (k + 1)).filter isWord = (xs.take k).filter isWord ++ if isWord x then [x] else [] := by rw [List.take_succ_eq_append_getElem hlt, filter_snoc, ← HX.out]
      generalize (xs.take k).filter isWord = acc at *
      obtain ⟨b, hb⟩ : ∃ b, b = isWord x := ⟨_, rfl⟩
      rw [← hb] at hsn
      have HS := Lib.hid hsn
      have HBB := Lib.hid hb
      clear hsn hb
      cases b
      · go_wp2_with fail
        (with_reducible refine (c36 x _ (by omega)).mono ?_); rintro e w1 ⟨rfl, hb2⟩
        rw [← HBB.out]
        go_wp2_with fail
        go_roundw
        case rel =>
          refine ⟨k + 1, by omega, by go_num, ?_, below_ext HB.out hb2⟩
          rw [HS.out]
          simpa using own_below HO.out hb2
        case measure => simp [intOf]; omega
      · go_wp2_with fail
        (with_reducible refine (c36 x _ (by omega)).mono ?_); rintro e w2 ⟨rfl, hb2⟩
        rw [← HBB.out]
        have HO2 := Lib.hid (own_below HO.out hb2)
        have HB2 := Lib.hid (below_ext HB.out hb2)
        clear hb2
        go_wp2_with (first
          | (with_reducible refine wpList_append_rd infoS rfl (.tmp 19) (.tmp 21) rfl w.heap.size _ acc.length (strv acc) rfl (HO2.out.alloc _) w2.heap.size (w2.heap.size + 1) _ 1 1 [.string x] rfl (Rd.new w2 _ _) rfl (by simp [Value.oneCell']) (by omega) (by have := HB2.out.size; simp; omega) ?_
             intro v1 w1 hown1 hg1 hat1
             have X := own_step (x := x) HO2.out HB2.out ((Below.refl _ _).alloc (Nat.le_refl _) _) hown1 hg1
             clear hown1 hg1 hat1))
        go_roundw
        case rel =>
          refine ⟨k + 1, by omega, by go_num, ?_, X.out.2⟩
          rw [HS.out]
          simpa using X.out.1
        case measure => simp [intOf]; omega
    · have hge : xs.length ≤ k := by omega
      rw [List.take_of_length_le hge] at HO
      clear hlt
      have hwl : (xs.filter isWord).length ≤ 1000 := Nat.le_trans (List.length_filter_le _ _) hn
      have HF := Lib.hid (sortedL_filter xs)
      have HW : Hid (∀ x ∈ xs.filter isWord, isWord x = true) := Lib.hid fun x hx => (List.mem_filter.1 hx).2
      generalize xs.filter isWord = acc at *
      rcases Nat.eq_zero_or_pos acc.length with h0 | h0
      · have hacc : acc = [] := List.eq_nil_of_length_eq_zero h0
        subst hacc
        obtain ⟨A2, c2, rfl, _, _⟩ := own_slice HO.out
        have e0 : ([] : List ByteArray).length = 0 := rfl
        have H0 := Lib.hid (show sortedL xs = [] by rw [← HF.out]; rfl)
        clear h0
        go_wp2_with fail
        (with_reducible refine (sort_none _ _ _ _).mono ?_); rintro e w1 ⟨rfl, rfl⟩
        go_wp2_with fail
        (with_reducible refine (Try.slices_Compact_string_empty _ _ _).mono ?_); rintro e w1 ⟨rfl, rfl⟩
        go_wp2_with fail
        go_ret
        rw [H0.out]
        exact ⟨_, rfl, HO.out, HB.out⟩
      · have HS := Lib.hid (sort_step w wr _ acc HO.out HB.out h0 (by omega) HW.out)
        clear h0
        go_wp2_with fail
        (with_reducible refine (HS.out).mono ?_); rintro e w1 ⟨rfl, hc⟩
        have HC := Lib.hid hc
        clear hc
        go_wp2_with fail
        (with_reducible refine (HC.out).mono ?_); rintro e w2 ⟨v2, rfl, hown2, hb2⟩
        go_wp2_with fail
        go_ret
        rw [← HF.out]
        exact ⟨_, rfl, hown2, hb2⟩

end Go.Proofs.Ytepmcfleijiloaa
