/- Contracts of the reference of chapter 4: Sorted, Merge, Without. -/
import Derived.Test.YtepmcfleijiloaaF2
namespace Go.Proofs.Ytepmcfleijiloaa
open Go.RowKit

theorem own_low {w : World} {b b' n : Nat} {e : TypeId} {size : Nat} {v : Value} {xs : List Value} (h : w.ownsRow b e size v n xs) (hb : b' ≤ b) : w.ownsRow b' e size v n xs := by
  obtain ⟨h1, h2⟩ := h
  rcases h2 with h2 | ⟨g, cap, cur, h3, h4, r⟩
  · exact ⟨h1, .inl h2⟩
  · exact ⟨h1, .inr ⟨g, cap, cur, h3, Nat.le_trans hb h4, r⟩⟩
theorem own_strs {w : World} {b : Nat} {v : Value} {l : List ByteArray} (h : w.ownsRow b 9 1 v l.length (strv l)) : ∃ A c, v = .slice A l.length c ∧ Strs w b A c l := by
  obtain ⟨A, c, rfl, h1, h2⟩ := own_slice h
  exact ⟨A, c, rfl, Rd.of_own h, h1, h2⟩
theorem isWord_small {x : ByteArray} (h : x.size ≤ 1000000) : x.size ≤ 1000000 := h
theorem sortedL_snoc (l : List ByteArray) (x : ByteArray) : sortedL (l ++ [x]) = if isWord x then putR x (sortedL l) else sortedL l := by
  unfold sortedL
  rw [List.foldl_append, ← putL_eq]
  rfl
def mergeP (xs ys : List ByteArray) : List ByteArray := ys.foldl (fun s y => putR y s) xs
theorem mergeP_snoc (xs l : List ByteArray) (x : ByteArray) : mergeP xs (l ++ [x]) = putR x (mergeP xs l) := by
  unfold mergeP
  rw [List.foldl_append]
  rfl
theorem mergeP_mem (ys : List ByteArray) : ∀ (xs : List ByteArray) (z : ByteArray), z ∈ mergeP xs ys ↔ z ∈ xs ∨ z ∈ ys := by
  induction ys with
  | nil => intro xs z; simp [mergeP]
  | cons y ys ih =>
    intro xs z
    show z ∈ mergeP (putR y xs) ys ↔ _
    rw [ih, putR_mem, List.mem_cons]
    constructor
    · rintro ((h | h) | h)
      · exact .inr (.inl h)
      · exact .inl h
      · exact .inr (.inr h)
    · rintro (h | h | h)
      · exact .inl (.inr h)
      · exact .inl (.inl h)
      · exact .inr h
theorem mergeP_rises (ys : List ByteArray) : ∀ xs : List ByteArray, Rises xs → Rises (mergeP xs ys) := by
  induction ys with
  | nil => intro xs h; exact h
  | cons y ys ih => intro xs h; exact ih _ (putR_rises y xs h)
theorem mergeP_len (ys : List ByteArray) : ∀ xs : List ByteArray, (mergeP xs ys).length ≤ xs.length + ys.length := by
  induction ys with
  | nil => intro xs; simp [mergeP]
  | cons y ys ih =>
    intro xs
    have h1 := ih (putR y xs)
    have h2 := putR_len y xs
    show (mergeP (putR y xs) ys).length ≤ _
    rw [List.length_cons]; omega
theorem mergeP_eq {xs ys : List ByteArray} (hx : Rises xs) (hy : Rises ys) : mergeP xs ys = mergeL xs ys :=
  rises_ext (mergeP_rises _ _ hx) (mergeL_rises _ _ hx hy) fun z => by rw [mergeP_mem, mergeL_mem]

set_option maxHeartbeats 2000000 in
set_option maxRecDepth 100000 in
/-- inkhornref4.Sorted -/
theorem c63 (w : World) (lo : Nat) (A : Option Addr) (c : Nat) (xs : List ByteArray) (hx : Strs w lo A c xs) (hs : Small xs) (hn : xs.length ≤ 1000) :
    Calls Try.prog 63 #[.slice A xs.length c] w fun e w' => ∃ v, e = .returned v ∧ w'.ownsRow w.heap.size 9 1 v (sortedL xs).length (strv (sortedL xs)) ∧ Below w.heap.size w w' := by
  have hl1 := hx.2.1
  have hm1 := hx.2.2
  go_enter Try.func63, Try.ntmps63
  go_wp2_with fail
  go_loopw [3, 4] (fun v i wr => ∃ k : Nat, k ≤ xs.length ∧ i = .int .i64 k ∧ wr.ownsRow w.heap.size 9 1 v (sortedL (xs.take k)).length (strv (sortedL (xs.take k))) ∧ Below w.heap.size w wr) (fun _ i _ => xs.length - (intOf i).toNat)
  case atStart => exact ⟨0, Nat.zero_le _, rfl, by simpa [sortedL, strv] using World.ownsRow_nil _ _ _ _, Below.refl _ _⟩
  case round =>
    obtain ⟨k, hk, rfl, hown, hB⟩ := hrel
    have HO := Lib.hid hown
    have HB := Lib.hid hB
    clear hown hB
    by_cases hlt : k < xs.length
    · obtain ⟨b1, o1, rfl, _, hb1, hcx0⟩ := hx.at_ hlt
      obtain ⟨x, hx'⟩ : ∃ x, x = xs[k] := ⟨_, rfl⟩
      rw [← hx'] at hcx0
      have HX := Lib.hid hx'
      have hsx : x.size ≤ 1000000 := by rw [hx']; exact hs _ (List.getElem_mem _)
      clear hx'
      have HCX := Lib.hid fun (W : World) (hW : Below w.heap.size w W) => (show W.cell? ⟨b1, o1 + k, none⟩ = some (.string x) from (World.cell?_of_block (a := ⟨b1, o1 + k, none⟩) (hW.block b1 hb1)).trans hcx0)
      clear hcx0
      have hcx := HCX.out _ HB.out
      have hsn : sortedL (xs.take (k + 1)) = if isWord x then putR x (sortedL (xs.take k)) else sortedL (xs.take k) := by rw [List.take_succ_eq_append_getElem hlt, sortedL_snoc, ← HX.out]
      have hsl : (sortedL (xs.take k)).length ≤ 1000 := Nat.le_trans (sortedL_len _) (by simp; omega)
      have HSM : Hid (Small (sortedL (xs.take k))) := Lib.hid fun z hz => hs z (List.mem_of_mem_take ((sortedL_mem _ z).1 hz).1)
      have h1000 : (k : Int) < 1000 := by omega
      generalize sortedL (xs.take k) = acc at *
      obtain ⟨b, hb⟩ : ∃ b, b = isWord x := ⟨_, rfl⟩
      rw [← hb] at hsn
      have HS := Lib.hid hsn
      have HBB := Lib.hid hb
      clear hsn hb
      cases b
      · go_wp2_with fail
        (with_reducible refine (c94 x _ hsx).mono ?_); rintro e w1 ⟨rfl, hb2⟩
        rw [← HBB.out]
        go_wp2_with fail
        go_roundw
        case rel =>
          refine ⟨k + 1, by omega, by go_num, ?_, below_ext HB.out hb2⟩
          rw [HS.out]
          simpa using own_below HO.out hb2
        case measure => simp [intOf]; omega
      · go_wp2_with fail
        (with_reducible refine (c94 x _ hsx).mono ?_); rintro e w1 ⟨rfl, hb2⟩
        rw [← HBB.out]
        have HB2 := Lib.hid (below_ext HB.out hb2)
        have HO2 := Lib.hid (own_below HO.out hb2)
        have hcx2 := HCX.out _ HB2.out
        clear hb2
        obtain ⟨A2, c2, rfl, hS2⟩ := own_strs HO2.out
        go_wp2_with fail
        (with_reducible refine (c95 _ _ _ _ acc x hS2 HSM.out hsx (by omega)).mono ?_); rintro e w2 ⟨v2, rfl, hown2, hb3⟩
        have HO3 := Lib.hid (own_low hown2 HB2.out.size)
        have HB3 := Lib.hid (below_ext HB2.out hb3)
        clear hown2 hb3
        go_wp2_with fail
        go_roundw
        case rel =>
          refine ⟨k + 1, by omega, by go_num, ?_, HB3.out⟩
          rw [HS.out]
          simpa using HO3.out
        case measure => simp [intOf]; omega
    · have hge : xs.length ≤ k := by omega
      rw [List.take_of_length_le hge] at HO
      clear hlt
      have h1000 : (k : Int) ≤ 1000 := by omega
      go_wp2_with fail
      go_ret
      exact ⟨_, rfl, HO.out, HB.out⟩

set_option maxHeartbeats 2000000 in
set_option maxRecDepth 100000 in
/-- inkhornref4.Merge -/
theorem c69 (w : World) (lo lo2 : Nat) (A B : Option Addr) (c d : Nat) (xs ys : List ByteArray) (hx : Strs w lo A c xs) (hy : Strs w lo2 B d ys) (hs : Small xs) (hs2 : Small ys) (hn : xs.length ≤ 1000) (hm : ys.length ≤ 1000) :
    Calls Try.prog 69 #[.slice A xs.length c, .slice B ys.length d] w fun e w' => ∃ v, e = .returned v ∧ w'.ownsRow w.heap.size 9 1 v (mergeP xs ys).length (strv (mergeP xs ys)) ∧ Below w.heap.size w w' := by
  have hl1 := hx.2.1
  have hm1 := hx.2.2
  have hl2 := hy.2.1
  have hm2 := hy.2.2
  have HXR := Lib.hid hx.1
  have HYR := Lib.hid hy
  clear hy
  go_enter Try.func69, Try.ntmps69
  have HO0 := Lib.hid (World.ownsRow_nil w w.heap.size 9 1)
  go_wp2_with (first
    | (refine wpList_append_rd infoS rfl (.const (.slice none 0 0)) (.tmp 7) rfl w.heap.size (.slice none 0 0) 0 [] (by rfl) HO0.out lo w.heap.size _ xs.length c (strv xs) (by rfl) HXR.out (by simp [strv]) (strv_one xs) (by omega) (Nat.le_refl _) ?_
       intro v1 w1 hown1 hg1 hat1
       have X : Hid (w1.ownsRow w.heap.size 9 1 v1 xs.length (strv xs) ∧ Below w.heap.size w w1) := Lib.hid ⟨by simpa using hown1, below_grown (Below.refl _ _) HO0.out hg1 (Nat.le_refl _) (Nat.le_refl _)⟩
       clear hown1 hg1 hat1))
  go_loopw [5, 6] (fun v i wr => ∃ k : Nat, k ≤ ys.length ∧ i = .int .i64 k ∧ wr.ownsRow w.heap.size 9 1 v (mergeP xs (ys.take k)).length (strv (mergeP xs (ys.take k))) ∧ Below w.heap.size w wr) (fun _ i _ => ys.length - (intOf i).toNat)
  case atStart => exact ⟨0, Nat.zero_le _, rfl, X.out.1, X.out.2⟩
  case round =>
    obtain ⟨k, hk, rfl, hown, hB⟩ := hrel
    have HO := Lib.hid hown
    have HB := Lib.hid hB
    clear hown hB
    by_cases hlt : k < ys.length
    · obtain ⟨b1, o1, rfl, _, hb1, hcx0⟩ := HYR.out.at_ hlt
      obtain ⟨x, hx'⟩ : ∃ x, x = ys[k] := ⟨_, rfl⟩
      rw [← hx'] at hcx0
      have HX := Lib.hid hx'
      have hsx : x.size ≤ 1000000 := by rw [hx']; exact hs2 _ (List.getElem_mem _)
      clear hx'
      have HCX := Lib.hid fun (W : World) (hW : Below w.heap.size w W) => (show W.cell? ⟨b1, o1 + k, none⟩ = some (.string x) from (World.cell?_of_block (a := ⟨b1, o1 + k, none⟩) (hW.block b1 hb1)).trans hcx0)
      clear hcx0
      have hcx := HCX.out _ HB.out
      have hsn : mergeP xs (ys.take (k + 1)) = putR x (mergeP xs (ys.take k)) := by rw [List.take_succ_eq_append_getElem hlt, mergeP_snoc, ← HX.out]
      have hsl : (mergeP xs (ys.take k)).length ≤ 2000 := Nat.le_trans (mergeP_len _ _) (by simp; omega)
      have HSM : Hid (Small (mergeP xs (ys.take k))) := Lib.hid fun z hz => ((mergeP_mem _ _ z).1 hz).elim (hs z) fun h => hs2 z (List.mem_of_mem_take h)
      generalize mergeP xs (ys.take k) = acc at *
      have HS := Lib.hid hsn
      clear hsn
      obtain ⟨A2, c2, rfl, hS2⟩ := own_strs HO.out
      go_wp2_with fail
      (with_reducible refine (c95 _ _ _ _ acc x hS2 HSM.out hsx (by omega)).mono ?_); rintro e w2 ⟨v2, rfl, hown2, hb3⟩
      have HO3 := Lib.hid (own_low hown2 HB.out.size)
      have HB3 := Lib.hid (below_ext HB.out hb3)
      clear hown2 hb3
      go_wp2_with fail
      go_roundw
      case rel =>
        refine ⟨k + 1, by omega, by go_num, ?_, HB3.out⟩
        rw [HS.out]
        simpa using HO3.out
      case measure => simp [intOf]; omega
    · have hge : ys.length ≤ k := by omega
      rw [List.take_of_length_le hge] at HO
      clear hlt
      go_wp2_with fail
      go_ret
      exact ⟨_, rfl, HO.out, HB.out⟩

set_option maxHeartbeats 2000000 in
set_option maxRecDepth 100000 in
/-- inkhornref4.Without -/
theorem c70 (w : World) (lo lo2 : Nat) (A B : Option Addr) (c d : Nat) (xs ys : List ByteArray) (hx : Strs w lo A c xs) (hy : Strs w lo2 B d ys) (hr : Rises ys) (hs : Small xs) (hs2 : Small ys) (hn : xs.length ≤ 1000000) (hm : ys.length ≤ 1000000) :
    Calls Try.prog 70 #[.slice A xs.length c, .slice B ys.length d] w fun e w' => ∃ v, e = .returned v ∧ w'.ownsRow w.heap.size 9 1 v (withoutL xs ys).length (strv (withoutL xs ys)) ∧ Below w.heap.size w w' := by
  have hl1 := hx.2.1
  have hm1 := hx.2.2
  go_enter Try.func70, Try.ntmps70
  go_wp2_with fail
  go_loopw [5, 6] (fun v i wr => ∃ k : Nat, k ≤ xs.length ∧ i = .int .i64 k ∧ wr.ownsRow w.heap.size 9 1 v (withoutL (xs.take k) ys).length (strv (withoutL (xs.take k) ys)) ∧ Below w.heap.size w wr) (fun _ i _ => xs.length - (intOf i).toNat)
  case atStart => exact ⟨0, Nat.zero_le _, rfl, by simpa [withoutL, strv] using World.ownsRow_nil _ _ _ _, Below.refl _ _⟩
  case round =>
    obtain ⟨k, hk, rfl, hown, hB⟩ := hrel
    have HO := Lib.hid hown
    have HB := Lib.hid hB
    clear hown hB
    by_cases hlt : k < xs.length
    · obtain ⟨b1, o1, rfl, _, hb1, hcx0⟩ := hx.at_ hlt
      obtain ⟨x, hx'⟩ : ∃ x, x = xs[k] := ⟨_, rfl⟩
      rw [← hx'] at hcx0
      have HX := Lib.hid hx'
      have hsx : x.size ≤ 1000000 := by rw [hx']; exact hs _ (List.getElem_mem _)
      clear hx'
      have HCX := Lib.hid fun (W : World) (hW : Below w.heap.size w W) => (show W.cell? ⟨b1, o1 + k, none⟩ = some (.string x) from (World.cell?_of_block (a := ⟨b1, o1 + k, none⟩) (hW.block b1 hb1)).trans hcx0)
      clear hcx0
      have hcx := HCX.out _ HB.out
      have hwl : (withoutL (xs.take k) ys).length ≤ 1000000 := Nat.le_trans (withoutL_len _ _) (by simp; omega)
      have hsn : withoutL (xs.take (k + 1)) ys = withoutL (xs.take k) ys ++ if inB ys x then [] else [x] := by rw [List.take_succ_eq_append_getElem hlt, withoutL_snoc, ← HX.out]
      generalize withoutL (xs.take k) ys = acc at *
      obtain ⟨b, hb⟩ : ∃ b, b = inB ys x := ⟨_, rfl⟩
      rw [← hb] at hsn
      have HS := Lib.hid hsn
      have HBB := Lib.hid hb
      clear hsn hb
      cases b
      · go_wp2_with fail
        (with_reducible refine (c68 _ _ _ _ _ x (hy.ext HB.out) hr hs2 hsx hm).mono ?_); rintro e w1 ⟨rfl, n, rfl⟩
        rw [← HBB.out]
        have HO2 := Lib.hid (own_below HO.out (below_drewN (Below.refl wr.heap.size wr) n))
        have HB2 := Lib.hid (below_drewN HB.out n)
        have hcx2 := HCX.out _ HB2.out
        generalize wr.drewN n = w2 at *
        go_wp2_with (first
          | (with_reducible refine wpList_append_rd infoS rfl (.tmp 26) (.tmp 31) rfl w.heap.size _ acc.length (strv acc) rfl (HO2.out.alloc _) w2.heap.size (w2.heap.size + 1) _ 1 1 [.string x] rfl (Rd.new w2 _ _) rfl (by simp [Value.oneCell']) (by first | omega | (simp; omega)) (by have := HB2.out.size; simp; omega) ?_
             intro v1 w3 hown1 hg1 hat1
             have Y := own_step (x := x) HO2.out HB2.out ((Below.refl _ _).alloc (Nat.le_refl _) _) hown1 hg1
             clear hown1 hg1 hat1))
        go_roundw
        case rel =>
          refine ⟨k + 1, by omega, by go_num, ?_, Y.out.2⟩
          rw [HS.out]
          simpa using Y.out.1
        case measure => simp [intOf]; omega
      · go_wp2_with fail
        (with_reducible refine (c68 _ _ _ _ _ x (hy.ext HB.out) hr hs2 hsx hm).mono ?_); rintro e w1 ⟨rfl, n, rfl⟩
        rw [← HBB.out]
        go_wp2_with fail
        go_roundw
        case rel =>
          refine ⟨k + 1, by omega, by go_num, ?_, below_drewN HB.out _⟩
          rw [HS.out]
          simpa using own_below HO.out (below_drewN (Below.refl _ _) _)
        case measure => simp [intOf]; omega
    · have hge : xs.length ≤ k := by omega
      rw [List.take_of_length_le hge] at HO
      clear hlt
      go_wp2_with fail
      go_ret
      exact ⟨_, rfl, HO.out, HB.out⟩

end Go.Proofs.Ytepmcfleijiloaa
