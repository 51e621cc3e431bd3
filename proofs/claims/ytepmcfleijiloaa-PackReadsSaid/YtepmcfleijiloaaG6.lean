/- What was lent, and what is written over. -/
import Derived.Test.YtepmcfleijiloaaG1
import Derived.Test.YtepmcfleijiloaaG3
namespace Go.Proofs.Ytepmcfleijiloaa
open Go.RowKit

/-- Texts that were lent: there is room behind them, and what lies there is known. -/
def Lent (w : World) (g : Nat) (xs : List ByteArray) : Prop := Rd w 0 w.heap.size (some ⟨g, 0, none⟩) (strv (xs ++ [lent, lent, lent]))
theorem Lent.later {w w' : World} {g : Nat} {xs : List ByteArray} (h : Lent w g xs) (hb : Below w.heap.size w w') : Lent w' g xs := Rd.ext h hb
theorem Lent.strs {w : World} {g : Nat} {xs : List ByteArray} (h : Lent w g xs) (hn : xs.length ≤ 1000000) : Strs w 0 (some ⟨g, 0, none⟩) (xs.length + 3) xs := by
  refine ⟨?_, by omega, by omega⟩
  have h2 := Rd.take h xs.length
  have e : (strv (xs ++ [lent, lent, lent])).take xs.length = strv xs := by rw [strv, List.map_append, List.take_left' (by simp)]; rfl
  rw [e] at h2
  exact h2
theorem k24 {w : World} {A : Option Addr} {c : Nat} {xs : List ByteArray} (hx : Strs w 0 A c xs) (hn : xs.length ≤ 1000000) :
    Calls Try.prog 24 #[.slice A xs.length c] w fun e w' => ∃ g, e = .returned (.slice (some ⟨g, 0, none⟩) xs.length (xs.length + 3)) ∧ Lent w' g xs ∧ Below w.heap.size w w' := by
  refine (c24 w 0 A c xs hx hn).mono ?_
  rintro e w' ⟨g, rfl, hg, hb, ho⟩
  exact ⟨g, rfl, (Rd.of_own ho).wide (Nat.zero_le _) (Nat.le_refl _), hb⟩
theorem k28 {w : World} {g : Nat} {B : Option Addr} {d : Nat} {xs : List ByteArray} (hl : Lent w g xs) (hn : xs.length ≤ 1000000) (hy : Strs w 0 B d xs) :
    Calls Try.prog 28 #[.slice (some ⟨g, 0, none⟩) xs.length (xs.length + 3), .slice B xs.length d] w fun e w' => e = .returned (.bool true) ∧ Below w.heap.size w w' := by
  refine (c28 w 0 0 g B d xs xs hl hn hy).mono ?_
  rintro e w' ⟨rfl, n, rfl⟩
  exact ⟨by simp, below_drewN (Below.refl _ _) n⟩

set_option maxHeartbeats 1000000 in
set_option maxRecDepth 100000 in
/-- OverTexts: only what is written over turns. -/
theorem k64 {w : World} {base : Nat} {A : Option Addr} {c : Nat} {xs : List ByteArray} (hown0 : w.ownsRow base 9 1 (.slice A xs.length c) xs.length (strv xs)) (hn : xs.length ≤ 1000000) :
    Calls Try.prog 64 #[.slice A xs.length c] w fun e w' => e = .returned (.tuple #[]) ∧ w.grownBy w' (Value.slice A xs.length c).ownBlock := by
  have hown := own_low hown0 (Nat.zero_le base)
  clear hown0
  have hB2 := Nat.zero_le w.heap.size
  have HO := Lib.hid hown
  obtain ⟨_, c', hv, hc1, hc2⟩ := own_slice hown
  cases hv
  clear hown
  go_enter Try.func64, Try.ntmps64
  go_wp2
  go_loopw [2] (fun i wr => ∃ (k : Nat) (zs : List ByteArray), k ≤ xs.length ∧ i = .int .i64 k ∧ wr.ownsRow 0 9 1 (.slice A xs.length c) xs.length (strv zs) ∧ w.grownBy wr (Value.slice A xs.length c).ownBlock ∧ 0 ≤ wr.heap.size) (fun i _ => xs.length - (intOf i).toNat)
  case atStart => exact ⟨0, xs, by omega, rfl, HO.out, World.grownBy.refl _ _, hB2⟩
  case round =>
    clear HO
    obtain ⟨k, zs, hk, rfl, hown, hB, hs⟩ := hrel
    have hlz : zs.length = xs.length := by have := hown.1; simpa [strv] using this
    by_cases hlt : k < xs.length
    · obtain ⟨g, cap, hv, hbg, hgl⟩ := hown.form (by omega)
      injection hv with hA _ hcc
      subst hA; subst hcc
      have hcell : wr.cell? ⟨g, k, none⟩ = some (.string (zs[k]'(by omega))) := by rw [hown.cellAt k (by omega)]; simp [strv, hlz, hlt]
      have hfr := hown.frozenAt k
      have HO := Lib.hid (hown.stored k (.string over)).1
      have HB := Lib.hid (World.grownBy.trans hB (hown.stored k (.string over)).2)
      clear hown hB
      go_wp2
      go_roundw
      case rel =>
        refine ⟨k + 1, zs.set k over, by omega, by go_num, ?_, HB.out, Nat.zero_le _⟩
        have := HO.out
        rw [strv, List.map_set]
        exact this
      case measure => simp [intOf]; omega
    · have HO := Lib.hid hown
      have HB := Lib.hid hB
      clear hown hB
      go_wp2_with (first
        | (with_reducible refine wpList_append_rd infoS rfl (.tmp 12) (.tmp 13) rfl 0 (.slice A xs.length c) xs.length (strv zs) rfl (HO.out.alloc _) wr.heap.size (wr.heap.size + 1) _ 1 1 [.string over] rfl (Rd.new wr _ _) rfl (by simp [Value.oneCell']) (by omega) (Nat.zero_le _) ?_
           intro v1 w1 hown1 hg1 hat1))
      go_end0
      exact ⟨rfl, (HB.out.trans (World.grownBy_alloc _ _ _)).trans hg1⟩
theorem own_far {w w1 : World} {base n : Nat} {v v2 : Value} {xs : List Value} (h : w.ownsRow base 9 1 v n xs) (hg : w.grownBy w1 v2.ownBlock) (hlt : ∀ k, v2.ownBlock = some k → k < base) : w1.ownsRow base 9 1 v n xs := by
  refine h.kept hg ?_
  cases e : v.ownBlock with
  | none => exact .inl rfl
  | some k =>
    refine .inr fun e2 => ?_
    have h3 := hlt k e2.symm
    have h4 := (h.lt k e).1
    omega

end Go.Proofs.Ytepmcfleijiloaa
