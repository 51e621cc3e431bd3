/- Texts as lists of runes, plain. -/
import Derived.Test.YtepmcfleijiloaaP3
import Derived.Lib.MapLaws
namespace Go.Proofs.Ytepmcfleijiloaa
open Go.Lib

/-- A rune that may stand in a text. -/
def okR (r : Nat) : Prop := (r < 55296 ∨ (57344 ≤ r ∧ r ≤ 1114111)) ∧ r ≠ 65533
/-- The bytes of a rune, and of runes. -/
def encR (r : Nat) : List UInt8 := encodeRune (r : Int)
def encL (t : List Nat) : List UInt8 := t.flatMap encR
theorem encL_nil : encL [] = [] := rfl
theorem encL_cons (r : Nat) (t : List Nat) : encL (r :: t) = encR r ++ encL t := rfl
theorem encL_append (a b : List Nat) : encL (a ++ b) = encL a ++ encL b := by simp [encL]

theorem dec_enc {r : Nat} (h : okR r) (l : List UInt8) : decodeL (encR r ++ l) = (r, (encR r).length) := by
  obtain ⟨h, h3⟩ := h
  unfold encR encodeRune
  rw [decodeL_N]
  rcases Nat.lt_or_ge r 128 with h1 | h1
  · rw [encodeRuneZ_one (by omega) (by omega)]
    simp only [List.map_cons, List.map_nil, List.cons_append, List.nil_append, List.length_cons, List.getD_cons_zero]
    have e : ((r : Int).toNat.toUInt8).toNat = r := by simp; omega
    unfold decodeN
    rw [e, if_pos (by omega)]
    rfl
  rcases Nat.lt_or_ge r 2048 with h2 | h2
  · rw [encodeRuneZ_two (by omega) (by omega)]
    simp only [List.map_cons, List.map_nil, List.cons_append, List.nil_append, List.length_cons, List.getD_cons_zero, List.getD_cons_succ]
    have e0 : ((192 + (r : Int) / 64).toNat.toUInt8).toNat = 192 + r / 64 := by simp; omega
    have e1 : ((128 + (r : Int) % 64).toNat.toUInt8).toNat = 128 + r % 64 := by simp; omega
    unfold decodeN
    rw [e0, e1, if_neg (by omega), if_pos (by omega), if_pos (by omega)]
    simp; omega
  rcases Nat.lt_or_ge r 65536 with h4 | h4
  · rw [encodeRuneZ_three (by omega)]
    simp only [List.map_cons, List.map_nil, List.cons_append, List.nil_append, List.length_cons, List.getD_cons_zero, List.getD_cons_succ]
    have e0 : ((224 + (r : Int) / 4096).toNat.toUInt8).toNat = 224 + r / 4096 := by simp; omega
    have e1 : ((128 + (r : Int) / 64 % 64).toNat.toUInt8).toNat = 128 + r / 64 % 64 := by simp; omega
    have e2 : ((128 + (r : Int) % 64).toNat.toUInt8).toNat = 128 + r % 64 := by simp; omega
    unfold decodeN
    rw [e0, e1, e2, if_neg (by omega), if_neg (by omega), if_pos (by omega), if_pos (by omega)]
    simp; omega
  · rw [encodeRuneZ_four (by omega) (by omega)]
    simp only [List.map_cons, List.map_nil, List.cons_append, List.nil_append, List.length_cons, List.getD_cons_zero, List.getD_cons_succ]
    have e0 : ((240 + (r : Int) / 262144).toNat.toUInt8).toNat = 240 + r / 262144 := by simp; omega
    have e1 : ((128 + (r : Int) / 4096 % 64).toNat.toUInt8).toNat = 128 + r / 4096 % 64 := by simp; omega
    have e2 : ((128 + (r : Int) / 64 % 64).toNat.toUInt8).toNat = 128 + r / 64 % 64 := by simp; omega
    have e3 : ((128 + (r : Int) % 64).toNat.toUInt8).toNat = 128 + r % 64 := by simp; omega
    unfold decodeN
    rw [e0, e1, e2, e3, if_neg (by omega), if_neg (by omega), if_neg (by omega), if_pos (by omega), if_pos (by omega)]
    simp; omega

theorem encR_pos (r : Nat) : 0 < (encR r).length := by
  unfold encR encodeRune encodeRuneZ
  repeat' split
  all_goals simp

/-- The runes of bytes. -/
def decs : Nat → List UInt8 → List Nat
  | 0, _ => []
  | n + 1, l => if l = [] then [] else (decodeL l).1 :: decs n (l.drop (decodeL l).2)

theorem runesN_decs (s : ByteArray) : ∀ (n i : Nat), runesN n s i = decs n (s.data.toList.drop i)
  | 0, _ => rfl
  | n + 1, i => by
    unfold runesN decs
    by_cases h : i < s.size
    · have hne : s.data.toList.drop i ≠ [] := by simp; exact h
      rw [if_pos h, if_neg hne, decodeL_drop, runesN_decs s n, List.drop_drop]
    · have he : s.data.toList.drop i = [] := by simp; have : s.size = s.data.size := rfl; omega
      rw [if_neg h, if_pos he]

theorem decs_enc (t : List Nat) (ht : ∀ r ∈ t, okR r) : ∀ n, (encL t).length ≤ n → decs n (encL t) = t := by
  induction t with
  | nil => intro n _; cases n <;> simp [decs, encL]
  | cons r t ih =>
    intro n hn
    rw [encL_cons] at hn ⊢
    have hp := encR_pos r
    rw [List.length_append] at hn
    obtain ⟨m, rfl⟩ : ∃ m, n = m + 1 := ⟨n - 1, by omega⟩
    unfold decs
    have hne : encR r ++ encL t ≠ [] := by
      intro h
      rw [List.append_eq_nil_iff] at h
      rw [h.1] at hp
      simp at hp
    rw [if_neg hne, dec_enc (ht r (by simp))]
    simp only [List.drop_left]
    rw [ih (fun r hr => ht r (by simp [hr])) m (by omega)]

theorem enc_decs : ∀ (n : Nat) (l : List UInt8), l.length ≤ n → 65533 ∉ decs n l → encL (decs n l) = l ∧ ∀ r ∈ decs n l, okR r
  | 0, l, h, _ => by
    have : l = [] := List.length_eq_zero_iff.1 (by omega)
    subst this
    exact ⟨rfl, by simp [decs]⟩
  | n + 1, l, h, hn => by
    unfold decs at hn ⊢
    by_cases hl : l = []
    · subst hl
      simp [encL]
    · rw [if_neg hl] at hn ⊢
      have h1 : (decodeL l).1 ≠ 65533 := fun e => hn (by simp [e])
      have h2 : 65533 ∉ decs n (l.drop (decodeL l).2) := fun e => hn (by simp [e])
      have hw := decodeL_width l
      obtain ⟨h3, h4⟩ := enc_decs n (l.drop (decodeL l).2) (by simp; omega) h2
      have h5 := encode_decode l hl (fun e => h1 e.1)
      refine ⟨?_, fun r hr => ?_⟩
      · rw [encL_cons, h3]
        unfold encR
        rw [h5, List.take_append_drop]
      · rcases List.mem_cons.1 hr with rfl | hr
        · refine ⟨?_, h1⟩
          have k0 := (l.getD 0 0).toNat_lt
          have k1 := (l.getD 1 0).toNat_lt
          have k2 := (l.getD 2 0).toNat_lt
          have k3 := (l.getD 3 0).toNat_lt
          rw [decodeL_N] at h1 ⊢
          rcases decodeN_shape l.length (l.getD 0 0).toNat (l.getD 1 0).toNat (l.getD 2 0).toNat (l.getD 3 0).toNat with ⟨c, e⟩ | ⟨c1, c2, c3, cv, e⟩ | ⟨c1, c2, c3, c4, cv, cs, e⟩ | ⟨c1, c2, c3, c4, c5, cv, cw, e⟩ | e
          · rw [e]; dsimp only; omega
          · rw [e]; dsimp only; omega
          · rw [e]; dsimp only; omega
          · rw [e]; dsimp only; omega
          · rw [e] at h1; exact absurd rfl h1
        · exact h4 r hr

/-- The text of runes. -/
def txt (t : List Nat) : ByteArray := ofL (encL t)
theorem txt_data (t : List Nat) : (txt t).data.toList = encL t := data_ofL _
theorem runes_txt (t : List Nat) (ht : ∀ r ∈ t, okR r) : runes (txt t) 0 = t := by
  unfold runes
  rw [runesN_decs]
  simp only [List.drop_zero, txt_data]
  exact decs_enc t ht _ (by rw [← txt_data]; simp)
theorem txt_runes (s : ByteArray) (h : okRunes s = true) : txt (runes s 0) = s ∧ ∀ r ∈ runes s 0, okR r := by
  have h' : 65533 ∉ runes s 0 := of_decide_eq_true h
  unfold runes at h' ⊢
  rw [runesN_decs] at h' ⊢
  simp only [List.drop_zero] at h' ⊢
  obtain ⟨h1, h2⟩ := enc_decs _ _ (by simp) h'
  refine ⟨?_, h2⟩
  unfold txt
  rw [h1, ofL_data]

end Go.Proofs.Ytepmcfleijiloaa
