/- The contracts of chapter 4 in one form; sums of lists. -/
import Derived.Test.YtepmcfleijiloaaG1
import Derived.Test.YtepmcfleijiloaaE4
namespace Go.Proofs.Ytepmcfleijiloaa
open Go.RowKit

/-! ### The contracts in one form: the world behind the call keeps what was there. -/
theorem k22 {w : World} {A : Option Addr} {c : Nat} {xs : List ByteArray} {b : Bool} (hx : Strs w 0 A c xs) (hb : b = greatB xs) :
    Calls Try.prog 22 #[.slice A xs.length c] w fun e w' => e = .returned (.bool b) ∧ Below w.heap.size w w' :=
  (c22 w 0 A c xs hx).mono fun e w' ⟨h1, h2⟩ => ⟨by rw [hb]; exact h1, h2 ▸ Below.refl _ _⟩
theorem k61 {w : World} {A : Option Addr} {c : Nat} {xs : List ByteArray} {g : Int} (hx : Strs w 0 A c xs) (hs : Small xs) (hg : g = goodE xs) :
    Calls Try.prog 61 #[.slice A xs.length c] w fun e w' => e = .returned (.int .i64 g) ∧ Below w.heap.size w w' := by
  rw [hg]; exact c61 w 0 A c xs hx hs
theorem k62 {w : World} {A : Option Addr} {c : Nat} {xs : List ByteArray} {g : Int} (hx : Strs w 0 A c xs) (hs : Small xs) (hg : g = goodE xs) :
    Calls Try.prog 62 #[.slice A xs.length c] w fun e w' => e = .returned (.int .i64 g) ∧ Below w.heap.size w w' := by
  rw [hg]; exact c62 w 0 A c xs hx hs
theorem k39 {w : World} {A B : Option Addr} {c d : Nat} {xs ys : List ByteArray} {b : Bool} (hx : Strs w 0 A c xs) (hy : Strs w 0 B d ys) (hb : b = decide (xs = ys)) :
    Calls Try.prog 39 #[.slice A xs.length c, .slice B ys.length d] w fun e w' => e = .returned (.bool b) ∧ Below w.heap.size w w' :=
  (c39 w 0 0 A B c d xs ys hx hy).mono fun e w' ⟨h1, n, h2⟩ => ⟨by rw [hb]; exact h1, h2 ▸ below_drewN (Below.refl _ _) n⟩
theorem k41 {w : World} {A : Option Addr} {c : Nat} {xs : List ByteArray} {y : ByteArray} {k : Nat} {b : Bool} (hx : Strs w 0 A c xs) (hr : Rises xs) (hn : xs.length ≤ 1000000) (hk : k = below xs y) (hb : b = inB xs y) :
    Calls Try.prog 41 #[.slice A xs.length c, .string y] w fun e w' => e = .returned (.tuple #[.int .i64 k, .bool b]) ∧ Below w.heap.size w w' :=
  (c41 w 0 A c xs y hx hr hn).mono fun e w' ⟨h1, n, h2⟩ => ⟨by rw [hk, hb]; exact h1, h2 ▸ below_drewN (Below.refl _ _) n⟩
theorem k68 {w : World} {A : Option Addr} {c : Nat} {xs : List ByteArray} {y : ByteArray} {k : Nat} {b : Bool} (hx : Strs w 0 A c xs) (hr : Rises xs) (hs : Small xs) (hy : y.size ≤ 1000000) (hn : xs.length ≤ 1000000) (hk : k = below xs y) (hb : b = inB xs y) :
    Calls Try.prog 68 #[.slice A xs.length c, .string y] w fun e w' => e = .returned (.tuple #[.int .i64 k, .bool b]) ∧ Below w.heap.size w w' :=
  (c68 w 0 A c xs y hx hr hs hy hn).mono fun e w' ⟨h1, n, h2⟩ => ⟨by rw [hk, hb]; exact h1, h2 ▸ below_drewN (Below.refl _ _) n⟩
/-- What a call answered with new texts. -/
def NewT (w : World) (l : List ByteArray) (e : Ending) (w' : World) : Prop := ∃ A c, e = .returned (.slice A l.length c) ∧ Strs w' 0 A c l ∧ w'.ownsRow w.heap.size 9 1 (.slice A l.length c) l.length (strv l) ∧ Below w.heap.size w w'
theorem newT {f : FuncId} {args : Array Value} {w : World} {l l' : List ByteArray} (hl : l' = l) (h : Calls Try.prog f args w fun e w' => ∃ v, e = .returned v ∧ w'.ownsRow w.heap.size 9 1 v l'.length (strv l') ∧ Below w.heap.size w w') :
    Calls Try.prog f args w (NewT w l) := by
  subst hl
  refine h.mono ?_
  rintro e w' ⟨v, rfl, ho, hb⟩
  obtain ⟨A, c, rfl, hs⟩ := own_strs ho
  exact ⟨A, c, rfl, hs.low (Nat.zero_le _), ho, hb⟩
theorem k66 {w : World} {A B : Option Addr} {c d : Nat} {xs ys l : List ByteArray} (hx : Strs w 0 A c xs) (hy : Strs w 0 B d ys) (hn : xs.length ≤ 1000000) (hm : ys.length ≤ 1000000) (hl : l = mergeL xs ys) :
    Calls Try.prog 66 #[.slice A xs.length c, .slice B ys.length d] w (NewT w l) := newT hl.symm (c66 w 0 0 A B c d xs ys hx hy hn hm)
theorem k67 {w : World} {A B : Option Addr} {c d : Nat} {xs ys l : List ByteArray} (hx : Strs w 0 A c xs) (hy : Strs w 0 B d ys) (hr : Rises ys) (hn : xs.length ≤ 1000000) (hm : ys.length ≤ 1000000) (hl : l = withoutL xs ys) :
    Calls Try.prog 67 #[.slice A xs.length c, .slice B ys.length d] w (NewT w l) := newT hl.symm (c67 w 0 0 A B c d xs ys hx hy hr hn hm)
theorem k60 {w : World} {A : Option Addr} {c : Nat} {xs l : List ByteArray} (hx : Strs w 0 A c xs) (hs : Small xs) (hn : xs.length ≤ 1000) (hl : l = sortedL xs) :
    Calls Try.prog 60 #[.slice A xs.length c] w (NewT w l) := newT hl.symm (c60 w 0 A c xs hx hs hn)
theorem k63 {w : World} {A : Option Addr} {c : Nat} {xs l : List ByteArray} (hx : Strs w 0 A c xs) (hs : Small xs) (hn : xs.length ≤ 1000) (hl : l = sortedL xs) :
    Calls Try.prog 63 #[.slice A xs.length c] w (NewT w l) := newT hl.symm (c63 w 0 A c xs hx hs hn)
theorem k69 {w : World} {A B : Option Addr} {c d : Nat} {xs ys l : List ByteArray} (hx : Strs w 0 A c xs) (hy : Strs w 0 B d ys) (hrx : Rises xs) (hry : Rises ys) (hs : Small xs) (hs2 : Small ys) (hn : xs.length ≤ 1000) (hm : ys.length ≤ 1000) (hl : l = mergeL xs ys) :
    Calls Try.prog 69 #[.slice A xs.length c, .slice B ys.length d] w (NewT w l) := newT (by rw [hl, mergeP_eq hrx hry]) (c69 w 0 0 A B c d xs ys hx hy hs hs2 hn hm)
theorem k70 {w : World} {A B : Option Addr} {c d : Nat} {xs ys l : List ByteArray} (hx : Strs w 0 A c xs) (hy : Strs w 0 B d ys) (hr : Rises ys) (hs : Small xs) (hs2 : Small ys) (hn : xs.length ≤ 1000) (hm : ys.length ≤ 1000) (hl : l = withoutL xs ys) :
    Calls Try.prog 70 #[.slice A xs.length c, .slice B ys.length d] w (NewT w l) := newT hl.symm (c70 w 0 0 A B c d xs ys hx hy hr hs hs2 (by omega) (by omega))

theorem merge_comm {a b : List ByteArray} (ha : Rises a) (hb : Rises b) : mergeL a b = mergeL b a :=
  rises_ext (mergeL_rises _ _ ha hb) (mergeL_rises _ _ hb ha) fun z => by rw [mergeL_mem, mergeL_mem]; exact Or.comm
theorem merge_without {a b : List ByteArray} (ha : Rises a) (hb : Rises b) : mergeL (withoutL a b) b = mergeL a b :=
  rises_ext (mergeL_rises _ _ (withoutL_rises ha) hb) (mergeL_rises _ _ ha hb) fun z => by
    rw [mergeL_mem, mergeL_mem, withoutL_mem]
    constructor
    · rintro (h | h)
      · exact .inl h.1
      · exact .inr h
    · intro h
      by_cases hz : z ∈ b
      · exact .inr hz
      · rcases h with h | h
        · exact .inl ⟨h, hz⟩
        · exact absurd h hz
theorem in_merge (a b : List ByteArray) (w : ByteArray) : inB (mergeL a b) w = (inB a w || inB b w) := by
  rw [Bool.eq_iff_iff, Bool.or_eq_true, inB_iff, inB_iff, inB_iff, mergeL_mem]
theorem without_self (a : List ByteArray) : withoutL a a = [] := by
  rw [List.eq_nil_iff_forall_not_mem]
  intro z hz
  have := (withoutL_mem a a z).1 hz
  exact this.2 this.1
theorem merge_three {a b c : List ByteArray} (ha : Rises a) (hb : Rises b) (hc : Rises c) : mergeL (mergeL a b) c = mergeL a (mergeL c b) :=
  rises_ext (mergeL_rises _ _ (mergeL_rises _ _ ha hb) hc) (mergeL_rises _ _ ha (mergeL_rises _ _ hc hb)) fun z => by
    simp only [mergeL_mem]
    constructor
    · rintro ((h | h) | h)
      · exact .inl h
      · exact .inr (.inr h)
      · exact .inr (.inl h)
    · rintro (h | h | h)
      · exact .inl (.inl h)
      · exact .inr h
      · exact .inl (.inr h)
theorem without_two {a b c : List ByteArray} (ha : Rises a) : withoutL (withoutL a b) c = withoutL a (mergeL b c) :=
  rises_ext (withoutL_rises (withoutL_rises ha)) (withoutL_rises ha) fun z => by
    simp only [withoutL_mem, mergeL_mem, not_or, and_assoc]
theorem without_merge {a c : List ByteArray} (ha : Rises a) (hc : Rises c) : withoutL (mergeL a c) c = withoutL a c :=
  rises_ext (withoutL_rises (mergeL_rises _ _ ha hc)) (withoutL_rises ha) fun z => by
    simp only [withoutL_mem, mergeL_mem]
    constructor
    · rintro ⟨h | h, h2⟩
      · exact ⟨h, h2⟩
      · exact absurd h h2
    · rintro ⟨h, h2⟩
      exact ⟨.inl h, h2⟩
theorem good_of {xs : List ByteArray} (h : false = greatB xs) (h2 : 0 = goodE xs) : xs.length ≤ 80 ∧ Small xs ∧ Rises xs :=
  ⟨(great_false h.symm).1, great_small h.symm, (goodE_zero h2.symm).2.2⟩

end Go.Proofs.Ytepmcfleijiloaa
