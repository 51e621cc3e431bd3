/- Texts and their bytes, plain: the order of runes is that of bytes; a text's first rune; joined rests. No program here. -/
import Derived.Test.YtepmcfleijiloaaP4
import Derived.Test.YtepmcfleijiloaaP5
import Derived.Lib.Join
namespace Go.Proofs.Ytepmcfleijiloaa
open Go.Lib

def encN (r : Nat) : List Nat :=
  if r < 128 then [r] else if r < 2048 then [192 + r / 64, 128 + r % 64] else if r < 65536 then [224 + r / 4096, 128 + r / 64 % 64, 128 + r % 64]
  else [240 + r / 262144, 128 + r / 4096 % 64, 128 + r / 64 % 64, 128 + r % 64]
theorem encR_N {r : Nat} (h : okR r) : encR r = (encN r).map fun n => n.toUInt8 := by
  obtain ⟨h, h3⟩ := h
  unfold encR encodeRune encN
  rcases Nat.lt_or_ge r 128 with h1 | h1
  · rw [encodeRuneZ_one (by omega) (by omega), if_pos h1]
    simp
  rcases Nat.lt_or_ge r 2048 with h2 | h2
  · rw [encodeRuneZ_two (by omega) (by omega), if_neg (by omega), if_pos h2]
    rfl
  rcases Nat.lt_or_ge r 65536 with h4 | h4
  · rw [encodeRuneZ_three (by omega), if_neg (by omega), if_neg (by omega), if_pos h4]
    rfl
  · rw [encodeRuneZ_four (by omega) (by omega), if_neg (by omega), if_neg (by omega), if_neg (by omega)]
    rfl
theorem encN_small {r : Nat} (h : okR r) : ∀ n ∈ encN r, n < 255 := by
  obtain ⟨h, h3⟩ := h
  unfold encN
  repeat' split
  all_goals (intro n hn; simp at hn; omega)
theorem encN_lt {r s : Nat} (h : r < s) (hs : s ≤ 1114111) (a b : List Nat) : encN r ++ a < encN s ++ b := by
  unfold encN
  repeat' split
  all_goals (simp only [List.cons_append, List.nil_append, List.cons_lt_cons_iff]; omega)
theorem encN_pos (r : Nat) : encN r ≠ [] := by
  unfold encN
  repeat' split
  all_goals simp
theorem encN_len (r : Nat) : (encN r).length ≤ 4 := by
  unfold encN
  repeat' split
  all_goals simp

def okT (t : List Nat) : Prop := ∀ r ∈ t, okR r
theorem okT_cons {r : Nat} {t : List Nat} : okT (r :: t) ↔ okR r ∧ okT t := by simp [okT]
theorem okT_append {t u : List Nat} : okT (t ++ u) ↔ okT t ∧ okT u := by
  unfold okT
  simp only [List.mem_append]
  constructor
  · intro h; exact ⟨fun r hr => h r (.inl hr), fun r hr => h r (.inr hr)⟩
  · rintro ⟨h1, h2⟩ r (hr | hr)
    · exact h1 r hr
    · exact h2 r hr
def encM (t : List Nat) : List Nat := t.flatMap encN
theorem encL_M (t : List Nat) (h : okT t) : encL t = (encM t).map fun n => n.toUInt8 := by
  induction t with
  | nil => rfl
  | cons r t ih =>
    obtain ⟨h1, h2⟩ := okT_cons.1 h
    rw [encL_cons, ih h2, encR_N h1]
    simp [encM]
theorem encM_small {t : List Nat} (h : okT t) : ∀ n ∈ encM t, n < 255 := by
  intro n hn
  simp only [encM, List.mem_flatMap] at hn
  obtain ⟨r, hr, hn⟩ := hn
  exact encN_small (h r hr) n hn
theorem encL_len {t : List Nat} (h : okT t) : (encL t).length ≤ 4 * t.length := by
  rw [encL_M t h, List.length_map]
  clear h
  induction t with
  | nil => simp [encM]
  | cons r t ih =>
    have := encN_len r
    simp only [encM, List.flatMap_cons, List.length_append, List.length_cons] at *
    omega

theorem lt_left (a b : List Nat) : ∀ l : List Nat, l ++ a < l ++ b ↔ a < b
  | [] => by simp
  | x :: l => by
    have := lt_left a b l
    rw [List.cons_append, List.cons_append, List.cons_lt_cons_iff]
    constructor
    · rintro (h | ⟨_, h⟩)
      · omega
      · exact this.1 h
    · intro h; exact .inr ⟨rfl, this.2 h⟩
theorem tri : ∀ t u : List Nat, t < u ∨ t = u ∨ u < t
  | [], [] => .inr (.inl rfl)
  | [], _ :: _ => .inl (by simp)
  | _ :: _, [] => .inr (.inr (by simp))
  | a :: t, b :: u => by
    simp only [List.cons_lt_cons_iff]
    rcases Nat.lt_trichotomy a b with h | h | h
    · exact .inl (.inl h)
    · subst h
      rcases tri t u with h | h | h
      · exact .inl (.inr ⟨rfl, h⟩)
      · subst h; exact .inr (.inl rfl)
      · exact .inr (.inr (.inr ⟨rfl, h⟩))
    · exact .inr (.inr (.inl h))
theorem encM_lt : ∀ t u : List Nat, okT t → okT u → t < u → encM t < encM u
  | t, [], _, _, h => by simp at h
  | [], s :: u, _, _, _ => by
    have h := encN_pos s
    simp only [encM, List.flatMap_nil, List.flatMap_cons]
    cases e : encN s with
    | nil => exact absurd e h
    | cons a l => simp
  | r :: t, s :: u, h1, h2, h => by
    obtain ⟨h1, h1'⟩ := okT_cons.1 h1
    obtain ⟨h2, h2'⟩ := okT_cons.1 h2
    simp only [List.cons_lt_cons_iff] at h
    rcases h with h | ⟨rfl, h⟩
    · exact encN_lt h (by have := h2.1; omega) _ _
    · exact (lt_left _ _ _).2 (encM_lt t u h1' h2' h)
theorem map_lt : ∀ t u : List Nat, (∀ n ∈ t, n < 255) → (∀ n ∈ u, n < 255) → ((t.map fun n => n.toUInt8) < (u.map fun n => n.toUInt8) ↔ t < u)
  | t, [], _, _ => by simp
  | [], _ :: _, _, _ => by simp
  | a :: t, b :: u, h1, h2 => by
    have ha := h1 a (by simp)
    have hb := h2 b (by simp)
    have ih := map_lt t u (fun n hn => h1 n (by simp [hn])) (fun n hn => h2 n (by simp [hn]))
    simp only [List.map_cons, List.cons_lt_cons_iff, ih, UInt8.lt_iff_toNat_lt, ← UInt8.toNat_inj]
    rw [show (a.toUInt8).toNat = a by simp; omega, show (b.toUInt8).toNat = b by simp; omega]
theorem txt_lt {t u : List Nat} (ht : okT t) (hu : okT u) : cmpB (txt t) (txt u) < 0 ↔ t < u := by
  rw [cmpB_lt, txt_data, txt_data, encL_M t ht, encL_M u hu, map_lt _ _ (encM_small ht) (encM_small hu)]
  constructor
  · intro h
    rcases tri t u with h1 | h1 | h1
    · exact h1
    · subst h1; exact absurd h (List.lt_irrefl _)
    · exact absurd (List.lt_trans h (encM_lt u t hu ht h1)) (List.lt_irrefl _)
  · exact encM_lt t u ht hu
theorem txt_inj {t u : List Nat} (ht : okT t) (hu : okT u) : txt t = txt u ↔ t = u := by
  constructor
  · intro h
    rw [← runes_txt t ht, ← runes_txt u hu, h]
  · rintro rfl; rfl
theorem encL_inj {t u : List Nat} (ht : okT t) (hu : okT u) (h : encL t = encL u) : t = u := (txt_inj ht hu).1 (by unfold txt; rw [h])

/-! ### A text's first rune -/
theorem txt_size (t : List Nat) : (txt t).size = (encL t).length := by
  rw [← txt_data t]; rfl
theorem txt_nil : txt [] = ⟨#[]⟩ := rfl
theorem txt_first {r : Nat} {t : List Nat} (h : okT (r :: t)) : Utf8.decode (txt (r :: t)) 0 = (r, (encR r).length) := by
  rw [← decodeL_drop, List.drop_zero, txt_data, encL_cons, dec_enc (okT_cons.1 h).1]
theorem txt_pos (r : Nat) (t : List Nat) : (encR r).length ≤ (txt (r :: t)).size ∧ 0 < (txt (r :: t)).size := by
  have := encR_pos r
  rw [txt_size, encL_cons, List.length_append]
  omega
theorem txt_ext {a b : ByteArray} (h : a.data.toList = b.data.toList) : a = b := by
  cases a; cases b
  simp only [ByteArray.mk.injEq]
  exact Array.ext' h
theorem txt_head (r : Nat) (t : List Nat) : (txt (r :: t)).extract 0 (encR r).length = txt [r] := by
  apply txt_ext
  rw [extract_data, txt_data, txt_data, encL_cons, encL_cons, encL_nil]
  simp
theorem txt_tail (r : Nat) (t : List Nat) : (txt (r :: t)).extract (encR r).length (txt (r :: t)).size = txt t := by
  apply txt_ext
  rw [extract_data, txt_size, txt_data, txt_data, encL_cons]
  simp
theorem txt_empty {t : List Nat} : (txt t).toList = [] ↔ t = [] := by
  rw [Lib.toList_data, txt_data]
  cases t with
  | nil => simp [encL_nil]
  | cons r t =>
    have := encR_pos r
    rw [encL_cons]
    simp
    intro h
    rw [h] at this; simp at this
theorem has_head {r : Nat} {y : List Nat} (hr : okR r) (hy : okT y) : hasPrefix (txt y).data.toList (txt [r]).data.toList = isHd r y := by
  unfold hasPrefix
  rw [txt_data, txt_data, encL_cons, encL_nil, List.append_nil]
  cases y with
  | nil =>
    have := encR_pos r
    rw [encL_nil]
    cases e : encR r with
    | nil => rw [e] at this; simp at this
    | cons a l => simp [isHd, List.isPrefixOf]
  | cons s y =>
    obtain ⟨hs, hy⟩ := okT_cons.1 hy
    rw [encL_cons]
    by_cases h : r = s
    · subst h
      rw [isHd_cons, List.isPrefixOf_iff_prefix]
      exact List.prefix_append _ _
    · have h1 : isHd r (s :: y) = false := by simp [isHd]; exact fun e => h e.symm
      rw [h1, Bool.eq_false_iff]
      intro h2
      rw [List.isPrefixOf_iff_prefix] at h2
      obtain ⟨z, hz⟩ := h2
      have d1 := dec_enc hr z
      have d2 := dec_enc hs (encL y)
      rw [hz, d2] at d1
      simp only [Prod.mk.injEq] at d1
      exact h d1.1.symm

/-! ### Joined rests -/
theorem split_255 : ∀ (a b x y : List UInt8), 255 ∉ a → 255 ∉ b → a ++ 255 :: x = b ++ 255 :: y → a = b ∧ x = y
  | [], [], x, y, _, _, h => by simpa using h
  | [], c :: b, x, y, _, h2, h => by simp at h; exact absurd h.1 (by intro e; exact h2 (by simp [← e]))
  | c :: a, [], x, y, h1, _, h => by simp at h; exact absurd h.1 (by intro e; exact h1 (by simp [e]))
  | c :: a, d :: b, x, y, h1, h2, h => by
    simp only [List.cons_append, List.cons.injEq] at h
    obtain ⟨rfl, h⟩ := h
    obtain ⟨rfl, rfl⟩ := split_255 a b x y (fun e => h1 (by simp [e])) (fun e => h2 (by simp [e])) h
    exact ⟨rfl, rfl⟩
theorem no_255 {t : List Nat} (h : okT t) : (255 : UInt8) ∉ encL t := by
  rw [encL_M t h]
  intro hm
  obtain ⟨n, hn, e⟩ := List.mem_map.1 hm
  have h1 := encM_small h n hn
  have h2 := congrArg UInt8.toNat e
  simp at h2
  omega
/-- The key of rests. -/
def keyL (T : Rs) : List UInt8 := join (T.map encL) [255]
theorem keyL_one (t : List Nat) : keyL [t] = encL t := by simp [keyL, join_one]
theorem keyL_cons (t u : List Nat) (T : Rs) : keyL (t :: u :: T) = encL t ++ 255 :: keyL (u :: T) := by
  simp [keyL, join, List.intercalate]
def okTs (T : Rs) : Prop := ∀ t ∈ T, okT t
theorem keyL_inj : ∀ T U : Rs, T ≠ [] → U ≠ [] → okTs T → okTs U → keyL T = keyL U → T = U
  | [], _, h, _, _, _, _ => absurd rfl h
  | _ :: _, [], _, h, _, _, _ => absurd rfl h
  | [t], [u], _, _, h1, h2, h => by
    rw [keyL_one, keyL_one] at h
    rw [encL_inj (h1 t (by simp)) (h2 u (by simp)) h]
  | [t], u :: v :: U, _, _, h1, h2, h => by
    rw [keyL_one, keyL_cons] at h
    exact absurd (by rw [h]; simp) (no_255 (h1 t (by simp)))
  | t :: v :: T, [u], _, _, h1, h2, h => by
    rw [keyL_one, keyL_cons] at h
    exact absurd (by rw [← h]; simp) (no_255 (h2 u (by simp)))
  | t :: v :: T, u :: z :: U, _, _, h1, h2, h => by
    rw [keyL_cons, keyL_cons] at h
    obtain ⟨e1, e2⟩ := split_255 _ _ _ _ (no_255 (h1 t (by simp))) (no_255 (h2 u (by simp))) h
    rw [encL_inj (h1 t (by simp)) (h2 u (by simp)) e1, keyL_inj (v :: T) (z :: U) (by simp) (by simp) (fun x hx => h1 x (List.mem_cons_of_mem _ hx)) (fun x hx => h2 x (List.mem_cons_of_mem _ hx)) e2]
theorem keyL_len : ∀ T : Rs, okTs T → (keyL T).length ≤ 4 * total T + T.length
  | [], _ => by simp [keyL, join_nil]
  | [t], h => by
    rw [keyL_one, total_cons, total_nil]
    have := encL_len (h t (by simp))
    simp; omega
  | t :: u :: T, h => by
    have := encL_len (h t (by simp))
    have := keyL_len (u :: T) (fun x hx => h x (List.mem_cons_of_mem _ hx))
    rw [keyL_cons, total_cons]
    simp only [List.length_append, List.length_cons] at *
    omega

end Go.Proofs.Ytepmcfleijiloaa
