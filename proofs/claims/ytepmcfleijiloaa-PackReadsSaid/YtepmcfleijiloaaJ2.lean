/- The reference's graph in memory: words for the contract of its add. -/
import Derived.Test.YtepmcfleijiloaaH4
import Derived.Test.YtepmcfleijiloaaJ1
set_option linter.unusedVariables false
namespace Go.Proofs.Ytepmcfleijiloaa
open Go.RowKit

theorem infoR8 : Info Try.prog 36 97 (.agg #[.slice none 0 0, .slice none 0 0]) 2 48 := ⟨Try.underlying36, by kernel_rfl, rfl, by omega, by omega⟩

/-- Texts in a block that is kept: below B, or a row of texts. -/
def StrS (w : World) (B : Nat) (A : Option Addr) (c : Nat) (ss : List ByteArray) : Prop :=
  Strs w 0 A c ss ∧ (0 < ss.length → ∀ a, A = some a → a.block < w.heap.size ∧ (a.block < B ∨ ∃ cur, w.heap[a.block]? = some (.cells cur 9 (0, 0))))
theorem StrS.same {w w' : World} {B c : Nat} {A : Option Addr} {ss : List ByteArray} (h : StrS w B A c ss) (hs : w.heap.size ≤ w'.heap.size) (hb : ∀ b, b < w.heap.size → (b < B ∨ ∃ cur, w.heap[b]? = some (.cells cur 9 (0, 0))) → w'.heap[b]? = w.heap[b]?) : StrS w' B A c ss := by
  refine ⟨⟨fun hn => ?_, h.1.2⟩, fun hn a ha => ?_⟩
  · have hn' : 0 < ss.length := by simpa [strv] using hn
    obtain ⟨b, o, e, h1, h2, hc⟩ := h.1.1 hn
    exact ⟨b, o, e, h1, Nat.lt_of_lt_of_le h2 hs, fun j u hu => (World.cell?_of_block (a := ⟨b, o + j, none⟩) (hb b h2 (h.2 hn' _ e).2)).trans (hc j u hu)⟩
  · obtain ⟨h1, h2⟩ := h.2 hn a ha
    refine ⟨Nat.lt_of_lt_of_le h1 hs, ?_⟩
    rw [hb _ h1 h2]
    exact h2
theorem StrS.keep {w w' : World} {B c : Nat} {A : Option Addr} {ss : List ByteArray} (h : StrS w B A c ss) (hk : Keep B w w') : StrS w' B A c ss :=
  h.same hk.size fun b hl hb => by
    rcases hb with hb | ⟨cur, hb⟩
    · have e := Array.getElem?_eq_getElem hl
      rw [e]
      exact hk.block b _ e (.inl hb)
    · rw [hb]
      exact hk.block b _ hb (.inr rfl)
theorem StrS.below {w w' : World} {B c : Nat} {A : Option Addr} {ss : List ByteArray} (h : StrS w B A c ss) (hb : Below w.heap.size w w') : StrS w' B A c ss := h.keep (Keep.of_below hb B)
/-- A row of another type grows. -/
theorem StrS.grown {w w' : World} {B c : Nat} {A : Option Addr} {ss : List ByteArray} (h : StrS w B A c ss) {row : Option Nat} (hg : w.grownBy w' row) (hr : ∀ r, row = some r → B ≤ r ∧ ∀ cur, w.heap[r]? ≠ some (.cells cur 9 (0, 0))) : StrS w' B A c ss :=
  h.same hg.size fun b hl hb => hg.block b hl (fun e => by
    obtain ⟨h3, h4⟩ := hr _ e.symm
    rcases hb with hb | ⟨cur, hb⟩
    · omega
    · exact h4 cur hb)
theorem StrS.of_own {w : World} {B base k c : Nat} {A : Option Addr} {ss : List ByteArray} (h : w.ownsRow base 9 1 (.slice A k c) ss.length (strv ss)) : StrS w B A c ss := by
  obtain ⟨A', c', e, h1, h2⟩ := own_slice h
  cases e
  refine ⟨⟨(Rd.of_own h).wide (Nat.zero_le _) (Nat.le_refl _), ?_, h2⟩, fun _ a ha => ?_⟩
  · exact h1
  · subst ha
    rcases h.2 with ⟨e, _⟩ | ⟨g, cap, cur, e, _, hg, _⟩
    · cases e
    · cases e
      exact ⟨(Array.getElem?_eq_some_iff.1 hg).1, .inr ⟨cur, hg⟩⟩
/-- What came in. -/
theorem StrS.of_strs {w w' : World} {B c : Nat} {A : Option Addr} {ss : List ByteArray} (h : Strs w 0 A c ss) (hb : Below w.heap.size w w') (hB : w.heap.size ≤ B) : StrS w' B A c ss := by
  refine ⟨h.ext hb, fun hn a ha => ?_⟩
  obtain ⟨b, o, e, h1, h2, hc⟩ := h.1 (by simpa [strv] using hn)
  rw [ha] at e
  cases e
  exact ⟨Nat.lt_of_lt_of_le h2 hb.size, .inl (Nat.lt_of_lt_of_le h2 hB)⟩

/-- The graph at p: its nodes' rests; the cells of its nodes. -/
def Rst (w : World) (B : Nat) (p : Value) (N : List Rs) (cs : List (Value × Value)) : Prop :=
  ∃ gb v, p = .pointer (some ⟨gb, 0, none⟩) ∧ B ≤ gb ∧ w.heap[gb]? = some (.cells #[v] 38 (0, 0)) ∧ cs.length = N.length ∧ w.ownsRow B 97 2 v N.length (flat cs) ∧
    ∀ i (_ : i < cs.length) (_ : i < N.length), ∃ A c, cs[i].1 = .slice A N[i].length c ∧ StrS w B A c (N[i].map txt)
theorem Rst.len {w : World} {B : Nat} {p : Value} {N : List Rs} {cs : List (Value × Value)} (h : Rst w B p N cs) : cs.length = N.length := by
  obtain ⟨_, _, _, _, _, h, _⟩ := h
  exact h
theorem Rst.below {w w' : World} {B : Nat} {p : Value} {N : List Rs} {cs : List (Value × Value)} (h : Rst w B p N cs) (hb : Below w.heap.size w w') : Rst w' B p N cs := by
  obtain ⟨gb, v, h1, h2, h3, h4, h5, h6⟩ := h
  refine ⟨gb, v, h1, h2, (hb.block gb (Array.getElem?_eq_some_iff.1 h3).1).trans h3, h4, own_below h5 hb, fun i k1 k2 => ?_⟩
  obtain ⟨A, c, e, h⟩ := h6 i k1 k2
  exact ⟨A, c, e, h.below hb⟩
theorem own_block97 {w : World} {B n : Nat} {v : Value} {xs : List Value} (ho : w.ownsRow B 97 2 v n xs) : ∀ r, v.ownBlock = some r → B ≤ r ∧ ∃ cur, w.heap[r]? = some (.cells cur 97 (0, 0)) := by
  intro r hr
  rcases ho.2 with ⟨rfl, _⟩ | ⟨g, cap, cur, rfl, hb, hh, _⟩
  · simp [Value.ownBlock] at hr
  · have : g = r := by simpa [Value.ownBlock] using hr
    subst this
    exact ⟨hb, _, hh⟩
theorem own_block49 {w : World} {B n : Nat} {v : Value} {xs : List Value} (ho : w.ownsRow B 49 2 v n xs) : ∀ r, v.ownBlock = some r → B ≤ r ∧ ∃ cur, w.heap[r]? = some (.cells cur 49 (0, 0)) := by
  intro r hr
  rcases ho.2 with ⟨rfl, _⟩ | ⟨g, cap, cur, rfl, hb, hh, _⟩
  · simp [Value.ownBlock] at hr
  · have : g = r := by simpa [Value.ownBlock] using hr
    subst this
    exact ⟨hb, _, hh⟩
theorem Rst.edges {w w' : World} {B base n : Nat} {p v : Value} {N : List Rs} {cs : List (Value × Value)} {xs : List Value} (h : Rst w B p N cs) (ho : w.ownsRow base 49 2 v n xs) (hB : B ≤ base) (hg : w.grownBy w' v.ownBlock) : Rst w' B p N cs := by
  obtain ⟨gb, v', h1, h2, h3, h4, h5, h6⟩ := h
  have key : ∀ k t o, w.heap[k]? = some (.cells o t (0, 0)) → t ≠ 49 → some k ≠ v.ownBlock := by
    intro k t o hk ht e
    obtain ⟨_, cur, hh⟩ := own_block49 ho k e.symm
    rw [hh] at hk
    injection hk with hk
    injection hk with _ hk
    exact ht hk.symm
  refine ⟨gb, v', h1, h2, (hg.block gb (Array.getElem?_eq_some_iff.1 h3).1 (key gb _ _ h3 (by decide))).trans h3, h4, ?_, fun i k1 k2 => ?_⟩
  · refine own_of_block h5 fun g hgo => ?_
    obtain ⟨_, cur, e1⟩ := own_block97 h5 g hgo
    exact hg.block g (Array.getElem?_eq_some_iff.1 e1).1 (key g _ _ e1 (by decide))
  · obtain ⟨A, c, e, h⟩ := h6 i k1 k2
    refine ⟨A, c, e, h.grown hg fun r hr => ?_⟩
    obtain ⟨q1, cur, q2⟩ := own_block49 ho r hr
    refine ⟨by omega, fun cur2 e2 => ?_⟩
    rw [q2] at e2
    cases e2

def RefPost (B : Nat) (w : World) (p : Value) (d : Nat) (N : List Rs) (T : Rs) (cs : List (Value × Value)) (e : Ending) (w' : World) : Prop :=
  ∃ more, e = .returned (.int .i64 ((addN d N T).idxOf T : Nat)) ∧ Rst w' B p (addN d N T) (cs ++ more) ∧
    (∀ i (_ : i < more.length) (h2 : N.length + i < (addN d N T).length), NodeS w' w.heap.size none (.bool (fin (addN d N T)[N.length + i]), more[i].2) (ndOf (addN d N T) (addN d N T)[N.length + i])) ∧ Keep B w w'
/-- The step of a group. -/
def RefIH (B : Nat) (d : Nat) : Prop := ∀ (w : World) (p : Value) (N : List Rs) (cs : List (Value × Value)) (A : Option Addr) (c n : Nat) (T : Rs), n = T.length → OkR d T → B ≤ w.heap.size → Rst w B p N cs → (∀ x ∈ N, okTs x) → N.Nodup → N.length + 1 + total T ≤ 1000000 →
    StrS w B A c (T.map txt) → Calls Try.prog 73 #[p, .slice A n c] w (RefPost B w p d N T cs)
theorem RefIH.call {B d : Nat} (h : RefIH B d) (w : World) (p : Value) (N : List Rs) (cs : List (Value × Value)) (A : Option Addr) (c n : Nat) (T : Rs) (h1 : n = T.length) (h2 : OkR d T) (h3 : B ≤ w.heap.size) (h4 : Rst w B p N cs) (h5 : ∀ x ∈ N, okTs x) (h6 : N.Nodup) (h7 : N.length + 1 + total T ≤ 1000000)
    (h8 : StrS w B A c (T.map txt)) : Calls Try.prog 73 #[p, .slice A n c] w (RefPost B w p d N T cs) := h w p N cs A c n T h1 h2 h3 h4 h5 h6 h7 h8
/-- Rests, or none at all. -/
structure OkQ (d : Nat) (T : Rs) : Prop where
  ok : okTs T
  short : Short d T
  asc : T.Pairwise (· < ·)
  len : T.length ≤ 1000
  tot : total T ≤ 100000
theorem OkR.okQ {d : Nat} {T : Rs} (h : OkR d T) : OkQ d T := ⟨h.ok, h.short, h.asc, h.len, h.tot⟩
theorem OkQ.group {d : Nat} {T : Rs} (h : OkQ (d + 1) T) {g : Nat × Rs} (hg : g ∈ groups T) : OkR d g.2 ∧ okR g.1 := by
  refine OkR.group ⟨?_, h.ok, h.short, h.asc, h.len, h.tot⟩ hg
  rintro rfl
  rw [groups_nil] at hg
  simp at hg
theorem map_txt {S T : Rs} (hS : okTs S) (hT : okTs T) (h : S.map txt = T.map txt) : S = T := by
  induction S generalizing T with
  | nil => cases T with
    | nil => rfl
    | cons t T => simp at h
  | cons s S ih => cases T with
    | nil => simp at h
    | cons t T =>
      simp only [List.map_cons, List.cons.injEq] at h
      rw [(txt_inj (hS s (by simp)) (hT t (by simp))).1 h.1, ih (fun x hx => hS x (List.mem_cons_of_mem _ hx)) (fun x hx => hT x (List.mem_cons_of_mem _ hx)) h.2]

/-! ### A step, of rests or none -/
section
variable {d : Nat} {N : List Rs} {T : Rs} {done rest : List (Nat × Rs)} {g : Nat × Rs}
theorem sq_ok (hN : ∀ x ∈ N, okTs x) (hT : OkQ (d + 1) T) (he : groups T = done ++ rest) : ∀ x ∈ addG d (N ++ [T]) done, okTs x := by
  intro x hx
  rcases addG_all_of (C := okTs) (addN_all (fun R hR g hg y hy => (okT_cons.1 (hR _ ((mem_groups R g hg).2 y hy))).2) d) done (N ++ [T]) (fun g hg => (hT.group (g := g) (by rw [he]; exact List.mem_append_left _ hg)).1.ok) x hx with h | h
  · rcases List.mem_append.1 h with h | h
    · exact hN x h
    · simp at h; subst h; exact hT.ok
  · exact h
theorem sq_closed (hT : OkQ (d + 1) T) (he : groups T = done ++ rest) : (∀ g ∈ done, g.2 ∈ addG d (N ++ [T]) done) ∧ ∀ x ∈ addG d (N ++ [T]) done, x ∉ N ++ [T] → Closed (addG d (N ++ [T]) done) x :=
  addG_closed_of (addN_closed d) done (N ++ [T]) fun g hg => by
    have := hT.group (g := g) (by rw [he]; exact List.mem_append_left _ hg)
    exact ⟨this.1.ne, this.1.short⟩
theorem sq_edges (hT : OkQ (d + 1) T) (he : groups T = done ++ rest) (B : Rs) : edgD (addN d (addG d (N ++ [T]) done) B) done = edgD (addG d (N ++ [T]) done) done := by
  obtain ⟨M, hM⟩ := addN_ext d (addG d (N ++ [T]) done) B
  rw [hM]
  unfold edgD
  exact List.map_congr_left fun g hg => by rw [idx_more ((sq_closed hT he).1 g hg)]
theorem sq_node (hd : N.Nodup) (hm : T ∉ N) (hT : OkQ (d + 1) T) (he : groups T = done ++ rest) (B : Rs) (i : Nat) (h1 : N.length + 1 ≤ i) (h2 : i < (addG d (N ++ [T]) done).length) (h3 : i < (addN d (addG d (N ++ [T]) done) B).length) :
    (addN d (addG d (N ++ [T]) done) B)[i] = (addG d (N ++ [T]) done)[i] ∧ ndOf (addN d (addG d (N ++ [T]) done) B) (addN d (addG d (N ++ [T]) done) B)[i] = ndOf (addG d (N ++ [T]) done) (addG d (N ++ [T]) done)[i] := by
  have hnd : (addG d (N ++ [T]) done).Nodup := st_nodup hd hm
  have hcl := (sq_closed (N := N) hT he).2
  obtain ⟨M0, hM0⟩ := addG_ext d done (N ++ [T])
  obtain ⟨M, hM⟩ := addN_ext d (addG d (N ++ [T]) done) B
  generalize hC : addG d (N ++ [T]) done = C at *
  have e : (addN d C B)[i] = C[i] := by
    simp only [hM]
    rw [List.getElem_append_left h2]
  refine ⟨e, ?_⟩
  rw [e]
  unfold ndOf
  congr 1
  rw [hM]
  refine edgesOf_more M (hcl _ (List.getElem_mem _) (fun hin => ?_))
  subst hM0
  rw [List.nodup_append] at hnd
  rw [List.getElem_append_right (by simp; omega)] at hin
  exact hnd.2.2 _ hin _ (List.getElem_mem _) rfl
end

/-- The loop over the groups: what is left, what is done. -/
def RRel (B : Nat) (w : World) (p : Value) (d : Nat) (N : List Rs) (T : Rs) (x1 : Value) (cs : List (Value × Value)) (v7 v8 : Value) (wr : World) : Prop :=
  ∃ (k : Nat) (T1 : Rs) (done : List (Nat × Rs)) (more : List (Value × Value)), v8 = .int .i64 k ∧ k ≤ T.length ∧ T.drop k = T1 ∧ groups T = done ++ groups T1 ∧
    wr.ownsRow w.heap.size 49 2 v7 done.length (edgv (edgD (addG d (N ++ [T]) done) done)) ∧ Rst wr B p (addG d (N ++ [T]) done) (cs ++ [(x1, .slice none 0 0)] ++ more) ∧
    (∀ i (_ : i < more.length) (h2 : N.length + 1 + i < (addG d (N ++ [T]) done).length), NodeS wr w.heap.size v7.ownBlock (.bool (fin (addG d (N ++ [T]) done)[N.length + 1 + i]), more[i].2) (ndOf (addG d (N ++ [T]) done) (addG d (N ++ [T]) done)[N.length + 1 + i])) ∧ Keep B w wr
theorem Drawn.keep {w w' : World} (h : Drawn w w') (B : Nat) : Keep B w w' := by
  obtain ⟨n, rfl⟩ := h
  exact (Keep.refl B w).drewN n
/-- A group more is done. -/
theorem r_step {B d : Nat} {w w5 wa w6 : World} {p : Value} {N : List Rs} {T G T3 : Rs} {x1 : Value} {cs more more2 : List (Value × Value)} {done : List (Nat × Rs)} {r : Nat} {v7 v6 : Value} {k : Nat}
    (hd : N.Nodup) (hm : T ∉ N) (hT : OkQ (d + 1) T) (hE : groups T = done ++ (r, G) :: groups T3) (hk0 : k ≤ T.length) (hT3 : T.drop k = T3) (hB : B ≤ w.heap.size)
    (ho : w5.ownsRow w.heap.size 49 2 v7 done.length (edgv (edgD (addG d (N ++ [T]) done) done))) (hst : Rst w5 B p (addN d (addG d (N ++ [T]) done) G) (cs ++ [(x1, .slice none 0 0)] ++ more ++ more2))
    (hml : N.length + 1 + more.length = (addG d (N ++ [T]) done).length)
    (hnd : ∀ i (_ : i < more.length) (h2 : N.length + 1 + i < (addG d (N ++ [T]) done).length), NodeS w5 w.heap.size v7.ownBlock (.bool (fin (addG d (N ++ [T]) done)[N.length + 1 + i]), more[i].2) (ndOf (addG d (N ++ [T]) done) (addG d (N ++ [T]) done)[N.length + 1 + i]))
    (hnd2 : ∀ i (_ : i < more2.length) (h2 : (addG d (N ++ [T]) done).length + i < (addN d (addG d (N ++ [T]) done) G).length), NodeS w5 w.heap.size v7.ownBlock (.bool (fin (addN d (addG d (N ++ [T]) done) G)[(addG d (N ++ [T]) done).length + i]), more2[i].2) (ndOf (addN d (addG d (N ++ [T]) done) G) (addN d (addG d (N ++ [T]) done) G)[(addG d (N ++ [T]) done).length + i]))
    (hk : Keep B w w5) (hb : Below w5.heap.size w5 wa) (ho6 : w6.ownsRow w.heap.size 49 2 v6 (done.length + 1) (edgv (edgD (addG d (N ++ [T]) done) done) ++ [.int .i32 r, .int .i64 ((addN d (addG d (N ++ [T]) done) G).idxOf G : Nat)]))
    (hg : wa.grownBy w6 v7.ownBlock) (hat : v6.ownBlock = v7.ownBlock ∨ v6.ownBlock = some wa.heap.size) :
    RRel B w p d N T x1 cs v6 (.int .i64 k) w6 := by
  have hoa := own_below ho hb
  have hnod : ∀ i (_ : i < (more ++ more2).length) (h2 : N.length + 1 + i < (addN d (addG d (N ++ [T]) done) G).length), NodeS w6 w.heap.size v6.ownBlock (.bool (fin (addN d (addG d (N ++ [T]) done) G)[N.length + 1 + i]), (more ++ more2)[i].2) (ndOf (addN d (addG d (N ++ [T]) done) G) (addN d (addG d (N ++ [T]) done) G)[N.length + 1 + i]) := by
    intro i hi h2
    rcases Nat.lt_or_ge i more.length with h3 | h3
    · obtain ⟨e1, e2⟩ := sq_node hd hm hT hE G (N.length + 1 + i) (by omega) (by omega) h2
      rw [e2]
      simp only [e1]
      rw [List.getElem_append_left h3]
      exact ((hnd i h3 (by omega)).below hb).append hg hat
    · have e : N.length + 1 + i = (addG d (N ++ [T]) done).length + (i - more.length) := by omega
      have h4 := ((hnd2 (i - more.length) (by simp at hi; omega) (by omega)).below hb).append hg hat
      simp only [e]
      rw [List.getElem_append_right h3]
      exact h4
  refine ⟨k, T3, done ++ [(r, G)], more ++ more2, rfl, hk0, hT3, by rw [hE]; simp, ?_, ?_, ?_, ?_⟩
  · rw [addG_snoc, edgD_snoc, sq_edges hT hE G, edgv_append]
    simpa [edgv] using ho6
  · rw [addG_snoc]
    have := (hst.below hb).edges hoa hB hg
    simpa using this
  · simp only [addG_snoc]
    exact hnod
  · refine (hk.then_below hb).grown hg fun k hkk => .inl (hoa.lt k hkk).1

end Go.Proofs.Ytepmcfleijiloaa
