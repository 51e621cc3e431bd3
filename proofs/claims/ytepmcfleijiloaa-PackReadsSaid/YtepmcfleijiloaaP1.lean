/- Plain words on texts: the runes of a text as a range over it gives them; which texts are words; the order of texts. No program here. -/
import GoSem.Core.Utf8
import Derived.Lib.Bytealg
import Derived.Lib.Strings
import Derived.Laws.RangeAny
set_option linter.unusedVariables false
set_option linter.unusedSimpArgs false
namespace Go.Proofs.Ytepmcfleijiloaa
open Go

theorem decode_pos (s : ByteArray) (i : Nat) : 1 ≤ (Utf8.decode s i).2 := by
  simp only [Utf8.decode]
  repeat' split
  all_goals simp

def runesN : Nat → ByteArray → Nat → List Nat
  | 0, _, _ => []
  | n + 1, s, i => if i < s.size then (Utf8.decode s i).1 :: runesN n s (i + (Utf8.decode s i).2) else []

theorem runesN_more : ∀ (n m : Nat) (s : ByteArray) (i : Nat), s.size - i ≤ n → n ≤ m → runesN n s i = runesN m s i
  | 0, 0, _, _, _, _ => rfl
  | 0, m + 1, s, i, h, _ => by
    have : ¬ i < s.size := by omega
    simp [runesN, this]
  | n + 1, 0, _, _, _, h => by omega
  | n + 1, m + 1, s, i, h, hm => by
    by_cases hi : i < s.size
    · have := decode_pos s i
      simp only [runesN, hi, if_true]
      rw [runesN_more n m s _ (by omega) (by omega)]
    · simp [runesN, hi]

/-- The runes of s from byte i on. -/
def runes (s : ByteArray) (i : Nat) : List Nat := runesN (s.size - i) s i
theorem runes_step (s : ByteArray) (i : Nat) (h : i < s.size) : runes s i = (Utf8.decode s i).1 :: runes s (i + (Utf8.decode s i).2) := by
  unfold runes
  obtain ⟨n, hn⟩ : ∃ n, s.size - i = n + 1 := ⟨s.size - i - 1, by omega⟩
  have := decode_pos s i
  rw [hn, runesN, if_pos h, runesN_more _ n s (i + _) (Nat.le_refl _) (by omega)]
theorem runes_end (s : ByteArray) (i : Nat) (h : ¬ i < s.size) : runes s i = [] := by
  unfold runes
  rw [show s.size - i = 0 by omega]
  rfl
theorem runes_len (s : ByteArray) : ∀ (n i : Nat), s.size - i = n → (runes s i).length ≤ n := by
  intro n
  induction n using Nat.strongRecOn with
  | _ n ih =>
    intro i hn
    by_cases h : i < s.size
    · rw [runes_step s i h]
      have := decode_pos s i
      have := ih (s.size - (i + (Utf8.decode s i).2)) (by omega) _ rfl
      simp only [List.length_cons]; omega
    · rw [runes_end s i h]; simp

/-- text.Len -/
def rlen (s : ByteArray) : Int := if 65533 ∈ runes s 0 then -1 else (runes s 0).length
theorem rlen_le (s : ByteArray) : -1 ≤ rlen s ∧ rlen s ≤ s.size := by
  unfold rlen
  have := runes_len s s.size 0 (by omega)
  split <;> omega
/-- text.Runes: is it well made, and its runes. -/
def okRunes (s : ByteArray) : Bool := decide (65533 ∉ runes s 0)
def gotRunes (s : ByteArray) : List Nat := if 65533 ∈ runes s 0 then [] else runes s 0
/-- text.Word -/
def isWord (s : ByteArray) : Bool := decide (1 ≤ rlen s ∧ rlen s ≤ 12)
/-- The byte at a place. -/
def byt (s : ByteArray) (i : Nat) : Nat := if h : i < s.size then (s[i]'h).toNat else 0
theorem byt_at (s : ByteArray) (i : Nat) (h : i < s.size) : (s[i]'h).toNat = byt s i := by simp [byt, h]
theorem byt_lt (s : ByteArray) (i : Nat) : byt s i < 256 := by
  unfold byt
  split
  · exact (s[i]).toNat_lt
  · omega
def moreK (s : ByteArray) (i : Nat) : Bool := decide (i < s.size ∧ 128 ≤ byt s i ∧ byt s i ≤ 191)
def moreV (s : ByteArray) (i : Nat) : Int := if i < s.size ∧ 128 ≤ byt s i ∧ byt s i ≤ 191 then (byt s i : Int) - 128 else 0

theorem moreV_bd (s : ByteArray) (i : Nat) : 0 ≤ moreV s i ∧ moreV s i ≤ 63 := by
  unfold moreV
  split <;> omega

def oneR (s : ByteArray) (i : Nat) : Int :=
  if byt s i < 128 then byt s i
  else if 194 ≤ byt s i ∧ byt s i ≤ 223 ∧ moreK s (i + 1) = true then ((byt s i : Int) - 192) * 64 + moreV s (i + 1)
  else if 224 ≤ byt s i ∧ byt s i ≤ 239 ∧ moreK s (i + 1) = true ∧ moreK s (i + 2) = true then ((byt s i : Int) - 224) * 4096 + moreV s (i + 1) * 64 + moreV s (i + 2)
  else if 240 ≤ byt s i ∧ byt s i ≤ 244 ∧ moreK s (i + 1) = true ∧ moreK s (i + 2) = true ∧ moreK s (i + 3) = true then ((byt s i : Int) - 240) * 262144 + moreV s (i + 1) * 4096 + moreV s (i + 2) * 64 + moreV s (i + 3)
  else 0
def oneN (s : ByteArray) (i : Nat) : Int :=
  if byt s i < 128 then 1
  else if 194 ≤ byt s i ∧ byt s i ≤ 223 ∧ moreK s (i + 1) = true then 2
  else if 224 ≤ byt s i ∧ byt s i ≤ 239 ∧ moreK s (i + 1) = true ∧ moreK s (i + 2) = true then 3
  else if 240 ≤ byt s i ∧ byt s i ≤ 244 ∧ moreK s (i + 1) = true ∧ moreK s (i + 2) = true ∧ moreK s (i + 3) = true then 4
  else 0


theorem oneR_bd (s : ByteArray) (i : Nat) : 0 ≤ oneR s i ∧ oneR s i ≤ 2097151 := by
  have h := byt_lt s i
  have h1 := moreV_bd s (i + 1)
  have h2 := moreV_bd s (i + 2)
  have h3 := moreV_bd s (i + 3)
  unfold oneR
  repeat' split
  all_goals omega
theorem oneN_bd (s : ByteArray) (i : Nat) : 0 ≤ oneN s i ∧ oneN s i ≤ 4 := by
  unfold oneN
  repeat' split
  all_goals omega

/-- inkhornref1.Good -/
def goodR (r : Int) : Bool := decide (0 ≤ r ∧ r ≤ 1114111 ∧ (r < 55296 ∨ 57343 < r) ∧ r ≠ 65533)
/-- What the reference refuses at a place. -/
def badAt (s : ByteArray) (i : Nat) : Bool := decide (oneN s i = 0 ∨ goodR (oneR s i) = false ∨ (oneN s i = 3 ∧ oneR s i < 2048) ∨ (oneN s i = 4 ∧ oneR s i < 65536))

theorem get_byt (s : ByteArray) (i : Nat) (h : i < s.size) : (s.get! i).toNat = byt s i := by
  rw [← byt_at s i h]
  have := get_at s i h
  simpa using congrArg UInt8.toNat this

theorem moreK_iff (s : ByteArray) (i : Nat) : moreK s i = (decide (i < s.size) && (s.get! i).toNat / 64 == 2) := by
  unfold moreK
  by_cases h : i < s.size
  · rw [get_byt s i h]
    have := byt_lt s i
    rw [Bool.eq_iff_iff]
    simp [h]
    omega
  · simp [h]
theorem moreV_of (s : ByteArray) (i : Nat) (h : moreK s i = true) : moreV s i = ((s.get! i).toNat % 64 : Nat) := by
  unfold moreK at h
  simp at h
  unfold moreV
  rw [if_pos h, get_byt s i h.1]
  omega

theorem one_decode (s : ByteArray) (i : Nat) (h : i < s.size) :
    (badAt s i = true → (Utf8.decode s i).1 = 65533) ∧ (badAt s i = false → (Utf8.decode s i).1 ≠ 65533 ∧ oneR s i = (Utf8.decode s i).1 ∧ oneN s i = (Utf8.decode s i).2) := by
  have h0 := get_byt s i h
  have hl := byt_lt s i
  have k1 := moreK_iff s (i + 1)
  have k2 := moreK_iff s (i + 2)
  have k3 := moreK_iff s (i + 3)
  have v1 := moreV_of s (i + 1)
  have v2 := moreV_of s (i + 2)
  have v3 := moreV_of s (i + 3)
  unfold badAt oneR oneN goodR Utf8.decode Utf8.valid Utf8.runeError
  simp only [Nat.add_zero, h0, ← k1, ← k2, ← k3]
  generalize byt s i = c at *
  generalize moreV s (i + 1) = a at *
  generalize moreV s (i + 2) = b at *
  generalize moreV s (i + 3) = d at *
  generalize (s.get! (i + 1)).toNat = g1 at *
  generalize (s.get! (i + 2)).toNat = g2 at *
  generalize (s.get! (i + 3)).toNat = g3 at *
  generalize moreK s (i + 1) = x at *
  generalize moreK s (i + 2) = y at *
  generalize moreK s (i + 3) = z at *
  clear k1 k2 k3 h0 h
  have hcase : c < 128 ∨ (128 ≤ c ∧ c < 192) ∨ (192 ≤ c ∧ c ≤ 223) ∨ (224 ≤ c ∧ c ≤ 239) ∨ (240 ≤ c ∧ c ≤ 247) ∨ 248 ≤ c := by omega
  rcases hcase with h | ⟨h, h'⟩ | ⟨h, h'⟩ | ⟨h, h'⟩ | ⟨h, h'⟩ | h
  · simp [h]; omega
  · have e1 : ¬ c < 128 := by omega
    have e2 : ¬ 194 ≤ c := by omega
    have e3 : ¬ 224 ≤ c := by omega
    have e4 : ¬ 240 ≤ c := by omega
    have e5 : ¬ c / 32 = 6 := by omega
    have e6 : ¬ c / 16 = 14 := by omega
    have e7 : ¬ c / 8 = 30 := by omega
    simp [e1, e2, e3, e4, e5, e6, e7]
  · have e1 : ¬ c < 128 := by omega
    have e3 : ¬ 224 ≤ c := by omega
    have e4 : ¬ 240 ≤ c := by omega
    have e5 : c / 32 = 6 := by omega
    have e6 : ¬ c / 16 = 14 := by omega
    have e7 : ¬ c / 8 = 30 := by omega
    cases x
    · simp [e1, e3, e4, e5, e6, e7]
    · have w1 := v1 rfl
      subst w1
      by_cases e2 : 194 ≤ c
      · have e8 : 128 ≤ c % 32 * 64 + g1 % 64 := by omega
        have e9 : c ≤ 223 := h'
        simp [e1, e2, e3, e4, e5, e6, e7, e8, e9]
        omega
      · have e8 : ¬ 128 ≤ c % 32 * 64 + g1 % 64 := by omega
        simp [e1, e2, e3, e4, e5, e6, e7, e8]
  · have e1 : ¬ c < 128 := by omega
    have e2 : 194 ≤ c := by omega
    have e2' : ¬ c ≤ 223 := by omega
    have e4 : ¬ 240 ≤ c := by omega
    have e5 : ¬ c / 32 = 6 := by omega
    have e6 : c / 16 = 14 := by omega
    have e7 : ¬ c / 8 = 30 := by omega
    have e9 : c ≤ 239 := h'
    cases x
    · simp [e1, e2, e2', e4, e5, e6, e7]
    · cases y
      · simp [e1, e2, e2', e4, e5, e6, e7]
      · have w1 := v1 rfl
        have w2 := v2 rfl
        subst w1 w2
        simp only [e1, e2, e2', e4, e5, e6, e7, e9, h]
        simp
        repeat' split
        all_goals first | (exfalso; omega) | omega | (simp; omega) | (constructor <;> intros <;> simp at * <;> omega)
  · have e1 : ¬ c < 128 := by omega
    have e2 : 194 ≤ c := by omega
    have e2' : ¬ c ≤ 223 := by omega
    have e4' : ¬ c ≤ 239 := by omega
    have e3 : 224 ≤ c := by omega
    have e5 : ¬ c / 32 = 6 := by omega
    have e6 : ¬ c / 16 = 14 := by omega
    have e7 : c / 8 = 30 := by omega
    cases x
    · simp [e1, e2, e2', e3, e4', e5, e6, e7]
    · cases y
      · simp [e1, e2, e2', e3, e4', e5, e6, e7]
      · cases z
        · simp [e1, e2, e2', e3, e4', e5, e6, e7]
        · have w1 := v1 rfl
          have w2 := v2 rfl
          have w3 := v3 rfl
          subst w1 w2 w3
          by_cases e9 : c ≤ 244
          · simp only [e1, e2, e2', e3, e4', e5, e6, e7, e9, h]
            simp
            repeat' split
            all_goals first | (exfalso; omega) | omega | (simp; omega) | (constructor <;> intros <;> simp at * <;> omega)
          · simp only [e1, e2, e2', e3, e4', e5, e6, e7, e9, h]
            simp
            repeat' split
            all_goals first | (exfalso; omega) | omega | (simp; omega) | (constructor <;> intros <;> simp at * <;> omega)
  · have e1 : ¬ c < 128 := by omega
    have e2' : ¬ c ≤ 223 := by omega
    have e3' : ¬ c ≤ 239 := by omega
    have e4' : ¬ c ≤ 244 := by omega
    have e5 : ¬ c / 32 = 6 := by omega
    have e6 : ¬ c / 16 = 14 := by omega
    have e7 : ¬ c / 8 = 30 := by omega
    simp [e1, e2', e3', e4', e5, e6, e7]

theorem rlen_ok (s : ByteArray) (h : okRunes s = true) : rlen s = (gotRunes s).length := by
  unfold okRunes at h
  have h' : 65533 ∉ runes s 0 := of_decide_eq_true h
  unfold rlen gotRunes
  rw [if_neg h', if_neg h']
theorem rlen_bad (s : ByteArray) (h : okRunes s = false) : rlen s = -1 := by
  unfold okRunes at h
  have h' : ¬ 65533 ∉ runes s 0 := of_decide_eq_false h
  unfold rlen
  rw [if_pos (by simpa using h')]
theorem gotRunes_len (s : ByteArray) : (gotRunes s).length ≤ s.size := by
  unfold gotRunes
  split
  · simp
  · exact runes_len s s.size 0 (by omega)

/-! ### The order of texts -/
theorem cmp_drop (a b : ByteArray) (k : Nat) (ha : k < a.size) (hb : k < b.size) :
    Lib.compareBytes (a.data.toList.drop k) (b.data.toList.drop k) =
      if byt a k < byt b k then -1 else if byt b k < byt a k then 1 else Lib.compareBytes (a.data.toList.drop (k + 1)) (b.data.toList.drop (k + 1)) := by
  have ha' : k < a.data.toList.length := by simpa using ha
  have hb' : k < b.data.toList.length := by simpa using hb
  rw [List.drop_eq_getElem_cons ha', List.drop_eq_getElem_cons hb']
  have e1 : byt a k = (a.data.toList[k]).toNat := by rw [← byt_at a k ha]; rfl
  have e2 : byt b k = (b.data.toList[k]).toNat := by rw [← byt_at b k hb]; rfl
  rw [e1, e2]
  simp only [Lib.compareBytes, UInt8.lt_iff_toNat_lt]

theorem cmp_end (a b : ByteArray) (k : Nat) (ha : k ≤ a.size) (hb : k ≤ b.size) (h : ¬ (k < a.size ∧ k < b.size)) :
    Lib.compareBytes (a.data.toList.drop k) (b.data.toList.drop k) = if a.size < b.size then -1 else if b.size < a.size then 1 else 0 := by
  have la : a.data.toList.length = a.size := by simp
  have lb : b.data.toList.length = b.size := by simp
  by_cases h1 : k < a.size
  · have hk : k = b.size := by omega
    rw [List.drop_of_length_le (by omega : b.data.toList.length ≤ k), List.drop_eq_getElem_cons (by omega : k < a.data.toList.length), if_neg (by omega), if_pos (by omega)]
    rfl
  · rw [List.drop_of_length_le (by omega : a.data.toList.length ≤ k)]
    by_cases h2 : k < b.size
    · rw [List.drop_eq_getElem_cons (by omega : k < b.data.toList.length), if_pos (by omega)]
      rfl
    · rw [List.drop_of_length_le (by omega : b.data.toList.length ≤ k), if_neg (by omega), if_neg (by omega)]
      rfl

end Go.Proofs.Ytepmcfleijiloaa
