/-
  What a text's lines are worth as rows of numbers, and at which place they are none; how a world holds such rows. Plain lemmas.
-/
import Derived.Test.YtijhkahaccclmaaGreatDoorCut
set_option linter.unusedSimpArgs false
set_option linter.unusedVariables false
set_option linter.unnecessarySimpa false
namespace Go.Proofs.YtijhkahaccclmaaGreatDoor
open Go Go.RowKit

/-- One word more: the row and the place behind it, or the place that is no number. -/
def stepW (st : (List Int × Nat) ⊕ Nat) (x : List UInt8) : (List Int × Nat) ⊕ Nat := match st with
  | .inr p => .inr p
  | .inl (r, a) => if x = [] then .inl (r, a + 1) else match numOf x with
    | none => .inr a
    | some n => .inl (r ++ [n], a + (x.length + 1))
def wordsOf (a : Nat) (L : List (List UInt8)) : (List Int × Nat) ⊕ Nat := L.foldl stepW (.inl ([], a))
/-- One line more. -/
def stepL (st : (List (List Int) × Nat) ⊕ Nat) (l : List UInt8) : (List (List Int) × Nat) ⊕ Nat := match st with
  | .inr p => .inr p
  | .inl (t, a) => match wordsOf a (cuts 32 l) with
    | .inr p => .inr p
    | .inl (r, b) => .inl (if r = [] then t else t ++ [r], b)
def linesOf (L : List (List UInt8)) : (List (List Int) × Nat) ⊕ Nat := L.foldl stepL (.inl ([], 0))

theorem stepW_inl (r : List Int) (a : Nat) (x : List UInt8) : stepW (.inl (r, a)) x = if x = [] then .inl (r, a + 1) else match numOf x with
    | none => .inr a
    | some n => .inl (r ++ [n], a + (x.length + 1)) := rfl
theorem stepL_inl (t : List (List Int)) (a : Nat) (l : List UInt8) : stepL (.inl (t, a)) l = match wordsOf a (cuts 32 l) with
    | .inr p => .inr p
    | .inl (r, b) => .inl (if r = [] then t else t ++ [r], b) := rfl
theorem wordsOf_snoc (a : Nat) (L : List (List UInt8)) (x : List UInt8) : wordsOf a (L ++ [x]) = stepW (wordsOf a L) x := by simp [wordsOf]
theorem linesOf_snoc (L : List (List UInt8)) (x : List UInt8) : linesOf (L ++ [x]) = stepL (linesOf L) x := by simp [linesOf]
theorem foldW_inr (L : List (List UInt8)) (p : Nat) : L.foldl stepW (.inr p) = .inr p := by
  induction L with
  | nil => rfl
  | cons x L ih => exact ih
theorem foldL_inr (L : List (List UInt8)) (p : Nat) : L.foldl stepL (.inr p) = .inr p := by
  induction L with
  | nil => rfl
  | cons x L ih => exact ih
theorem wordsOf_stop {a p : Nat} {L M : List (List UInt8)} (h : wordsOf a L = .inr p) (hp : L <+: M) : wordsOf a M = .inr p := by
  obtain ⟨N, rfl⟩ := hp
  unfold wordsOf at h ⊢
  rw [List.foldl_append, h, foldW_inr]
theorem linesOf_stop {p : Nat} {L M : List (List UInt8)} (h : linesOf L = .inr p) (hp : L <+: M) : linesOf M = .inr p := by
  obtain ⟨N, rfl⟩ := hp
  unfold linesOf at h ⊢
  rw [List.foldl_append, h, foldL_inr]
theorem foldW_inl (L : List (List UInt8)) : ∀ (r r' : List Int) (a a' : Nat), L.foldl stepW (.inl (r, a)) = .inl (r', a') → a' = a + span L ∧ r'.length ≤ r.length + L.length := by
  induction L with
  | nil => intro r r' a a' h; cases h; exact ⟨rfl, Nat.le_refl _⟩
  | cons x L ih =>
    intro r r' a a' h
    rw [List.foldl_cons, stepW_inl] at h
    rw [span_cons, List.length_cons]
    split at h
    · rename_i hx
      have := ih _ _ _ _ h
      rw [hx]; simp; omega
    · split at h
      · rw [foldW_inr] at h; cases h
      · have := ih _ _ _ _ h
        rw [List.length_append] at this
        simp only [List.length_cons, List.length_nil] at this
        omega
theorem wordsOf_inl {a a' : Nat} {L : List (List UInt8)} {r : List Int} (h : wordsOf a L = .inl (r, a')) : a' = a + span L ∧ r.length ≤ L.length := by
  have := foldW_inl L _ _ _ _ h
  simpa using this
theorem foldL_inl (L : List (List UInt8)) : ∀ (t t' : List (List Int)) (a a' : Nat), L.foldl stepL (.inl (t, a)) = .inl (t', a') → a' = a + span L ∧ t'.length ≤ t.length + L.length := by
  induction L with
  | nil => intro r r' a a' h; cases h; exact ⟨rfl, Nat.le_refl _⟩
  | cons x L ih =>
    intro t t' a a' h
    rw [List.foldl_cons, stepL_inl] at h
    rw [span_cons, List.length_cons]
    split at h
    · rw [foldL_inr] at h; cases h
    · rename_i r b hw
      have e1 := (wordsOf_inl hw).1
      rw [span_cuts] at e1
      have e2 := ih _ _ _ _ h
      split at e2
      · omega
      · rw [List.length_append] at e2
        simp only [List.length_cons, List.length_nil] at e2
        omega
theorem linesOf_inl {a : Nat} {L : List (List UInt8)} {t : List (List Int)} (h : linesOf L = .inl (t, a)) : a = span L ∧ t.length ≤ L.length := by
  have := foldL_inl L _ _ _ _ h
  simpa using this
theorem foldL_rows (N : Nat) (L : List (List UInt8)) (hN : ∀ x ∈ L, x.length + 1 ≤ N) : ∀ (t t' : List (List Int)) (a a' : Nat), L.foldl stepL (.inl (t, a)) = .inl (t', a') → ∀ r ∈ t', r ∈ t ∨ r.length ≤ N := by
  induction L with
  | nil => intro t t' a a' h r hr; cases h; exact .inl hr
  | cons x L ih =>
    intro t t' a a' h r hr
    rw [List.foldl_cons, stepL_inl] at h
    have hx := hN x List.mem_cons_self
    split at h
    · rw [foldL_inr] at h; cases h
    · rename_i r1 b hw
      have e1 := (wordsOf_inl hw).2
      have e2 := cuts_len 32 x
      rcases ih (fun y hy => hN y (List.mem_cons_of_mem _ hy)) _ _ _ _ h r hr with h' | h'
      · split at h'
        · exact .inl h'
        · rw [List.mem_append, List.mem_singleton] at h'
          rcases h' with h' | h'
          · exact .inl h'
          · exact .inr (by rw [h']; omega)
      · exact .inr h'
theorem span_mem {L : List (List UInt8)} {x : List UInt8} (h : x ∈ L) : x.length + 1 ≤ span L := by
  induction L with
  | nil => cases h
  | cons y L ih =>
    rw [span_cons]
    rcases List.mem_cons.1 h with rfl | h
    · omega
    · have := ih h; omega
theorem linesOf_rows {a : Nat} {L : List (List UInt8)} {t : List (List Int)} (h : linesOf L = .inl (t, a)) : ∀ r ∈ t, r.length ≤ span L := fun r hr =>
  (foldL_rows (span L) L (fun x hx => span_mem hx) _ _ _ _ h r hr).resolve_left (by simp)
theorem span_prefix {L M : List (List UInt8)} (h : L <+: M) : span L ≤ span M := by
  obtain ⟨N, rfl⟩ := h
  rw [span_append]; omega
theorem span_take (L : List (List UInt8)) (k : Nat) : span (L.take k) ≤ span L := span_prefix (List.take_prefix _ _)
theorem getD_len_span {L : List (List UInt8)} {k : Nat} (hk : k < L.length) : span (L.take k) + (L.getD k []).length + 1 ≤ span L := by
  have e : span (L.take (k + 1)) ≤ span L := span_take _ _
  rw [List.take_succ_eq_append_getElem hk, span_append, span_cons] at e
  simp only [List.getD, List.getElem?_eq_getElem hk, Option.getD_some]
  omega

/-! ### Rows in a world -/
def iv (n : Int) : Value := .int .i64 n
theorem Tryz.info3 : (Tryz.prog.info? 3).map (fun i => (i.zero, i.size, i.bytes)) = some (some (.int .i64 0), 1, 8) := by kernel_rfl
theorem Tryz.info35 : (Tryz.prog.info? 35).map (fun i => (i.zero, i.size, i.bytes)) = some (some (.slice none 0 0), 1, 24) := by kernel_rfl
def RowAt (w : World) (B : Nat) (v : Value) (l : List Int) : Prop := ∃ g cap cur, v = .slice (some ⟨g, 0, none⟩) l.length cap ∧ l.length ≤ cap ∧ B ≤ g ∧ w.heap[g]? = some (.cells cur 3 (0, 0)) ∧ cur.toList.take l.length = l.map iv
def RowsOwn (w : World) (B : Nat) (T : Value) (t : List (List Int)) : Prop := ∃ vs, w.ownsRow B 35 1 T t.length vs ∧ ∀ j, j < t.length → RowAt w B (vs.getD j undef) (t.getD j [])

theorem RowAt.of_own {w : World} {B : Nat} {v : Value} {l : List Int} (h : w.ownsRow B 3 1 v l.length (l.map iv)) (h0 : l ≠ []) : RowAt w B v l := by
  rcases h.2 with ⟨_, h'⟩ | ⟨g, cap, cur, rfl, hB, hg, hc, _, _, ht⟩
  · exact absurd (List.eq_nil_of_length_eq_zero h') h0
  · exact ⟨g, cap, cur, rfl, hc, hB, hg, by rw [Nat.mul_one] at ht; exact ht⟩
theorem RowAt.kept {w w' : World} {B : Nat} {v : Value} {l : List Int} (h : RowAt w B v l) (hk : ∀ g, v.ownBlock = some g → w'.heap[g]? = w.heap[g]?) : RowAt w' B v l := by
  obtain ⟨g, cap, cur, rfl, h1, hB, h2, h3⟩ := h
  exact ⟨g, cap, cur, rfl, h1, hB, by rw [hk g rfl]; exact h2, h3⟩
theorem RowAt.lt {w : World} {B : Nat} {v : Value} {l : List Int} (h : RowAt w B v l) (g : Nat) (hg : v.ownBlock = some g) : g < w.heap.size ∧ B ≤ g ∧ ∃ cur, w.heap[g]? = some (.cells cur 3 (0, 0)) := by
  obtain ⟨g', cap, cur, rfl, h1, hB, h2, h3⟩ := h
  cases hg
  exact ⟨(Array.getElem?_eq_some_iff.1 h2).1, hB, cur, h2⟩
theorem RowAt.below {w w' : World} {B : Nat} {v : Value} {l : List Int} (h : RowAt w B v l) (hb : Below w.heap.size w w') : RowAt w' B v l := h.kept fun g hg => hb.block g (h.lt g hg).1
theorem RowAt.ints {w : World} {B : Nat} {v : Value} {l : List Int} (h : RowAt w B v l) : IntsAt w v l := by
  obtain ⟨g, cap, cur, rfl, h1, _, h2, h3⟩ := h
  refine ⟨_, cap, rfl, h1, fun j hj => ⟨g, 0, rfl, (Array.getElem?_eq_some_iff.1 h2).1, ?_⟩⟩
  have e := congrArg (fun m => m[j]?) h3
  simp only [List.getElem?_take, List.getElem?_map, List.getElem?_eq_getElem hj, if_pos hj, Option.map_some, Array.getElem?_toList] at e
  rw [Nat.zero_add, World.cell?]
  simp only [h2]
  simpa [List.getD, List.getElem?_eq_getElem hj, iv] using e
theorem own_mono {w : World} {B B' e size n : Nat} {v : Value} {xs : List Value} (h : w.ownsRow B e size v n xs) (hB : B' ≤ B) : w.ownsRow B' e size v n xs := by
  refine ⟨h.1, ?_⟩
  rcases h.2 with h2 | ⟨g, cap, cur, rfl, hg, r⟩
  · exact .inl h2
  · exact .inr ⟨g, cap, cur, rfl, by omega, r⟩
theorem RowAt.mono {w : World} {B B' : Nat} {v : Value} {l : List Int} (h : RowAt w B v l) (hB : B' ≤ B) : RowAt w B' v l :=
  let ⟨g, cap, cur, h1, h2, h3, r⟩ := h; ⟨g, cap, cur, h1, h2, Nat.le_trans hB h3, r⟩
theorem own_from {w w' : World} {B e size n : Nat} {v : Value} {xs : List Value} (h : w.ownsRow B e size v n xs) (hk : ∀ k, B ≤ k → k < w.heap.size → w'.heap[k]? = w.heap[k]?) : w'.ownsRow B e size v n xs := by
  refine ⟨h.1, ?_⟩
  rcases h.2 with h2 | ⟨g, cap, cur, rfl, hg, hh, r⟩
  · exact .inl h2
  · exact .inr ⟨g, cap, cur, rfl, hg, by rw [hk g hg (Array.getElem?_eq_some_iff.1 hh).1]; exact hh, r⟩
theorem RowsOwn.from {w w' : World} {B : Nat} {T : Value} {t : List (List Int)} (h : RowsOwn w B T t) (hk : ∀ k, B ≤ k → k < w.heap.size → w'.heap[k]? = w.heap[k]?) : RowsOwn w' B T t :=
  let ⟨vs, h1, h2⟩ := h; ⟨vs, own_from h1 hk, fun j hj => (h2 j hj).kept fun g hg => hk g ((h2 j hj).lt g hg).2.1 ((h2 j hj).lt g hg).1⟩
theorem RowsOwn.nil (w : World) (B : Nat) : RowsOwn w B (.slice none 0 0) [] := ⟨[], World.ownsRow_nil _ _ _ _, fun j hj => absurd hj (Nat.not_lt_zero _)⟩
theorem RowsOwn.below {w w' : World} {B : Nat} {T : Value} {t : List (List Int)} (h : RowsOwn w B T t) (hb : Below w.heap.size w w') : RowsOwn w' B T t :=
  let ⟨vs, h1, h2⟩ := h; ⟨vs, own_below h1 hb, fun j hj => (h2 j hj).below hb⟩
theorem RowsOwn.rows {w : World} {B : Nat} {T : Value} {t : List (List Int)} (h : RowsOwn w B T t) : RowsAt w T t := by
  obtain ⟨vs, h1, h2⟩ := h
  refine ⟨fun j => vs.getD j undef, ?_, fun i hi => (h2 i hi).ints⟩
  have hlen : vs.length = t.length := by have := h1.1; omega
  rcases h1.2 with ⟨rfl, h0⟩ | ⟨g, cap, cur, rfl, _, hg, hc, _⟩
  · rw [h0]
    exact ⟨none, 0, rfl, Nat.le_refl _, fun j hj => absurd hj (Nat.not_lt_zero _)⟩
  · refine ⟨_, cap, rfl, hc, fun j hj => ⟨g, 0, rfl, (Array.getElem?_eq_some_iff.1 hg).1, ?_⟩⟩
    rw [Nat.zero_add, h1.cellAt j (by omega)]
    simp [List.getD, List.getElem?_eq_getElem (show j < vs.length by omega)]
/-- A row of rows and a row of numbers lie in different blocks. -/
theorem RowAt.apart {w : World} {B B' n : Nat} {T v : Value} {l : List Int} {vs : List Value} (h : RowAt w B v l) (hT : w.ownsRow B' 35 1 T n vs) : v.ownBlock = none ∨ v.ownBlock ≠ T.ownBlock := by
  right
  intro e
  obtain ⟨g', cap, cur, rfl, h1, _, h2, h3⟩ := h
  rcases hT.2 with ⟨rfl, h0⟩ | ⟨g, cap', cur', rfl, _, hg, _⟩
  · cases e
  · cases e
    rw [h2] at hg
    cases hg
theorem RowsOwn.snoc {w w' : World} {B : Nat} {T T' rv : Value} {t : List (List Int)} {r : List Int} {vs : List Value} (h1 : w.ownsRow B 35 1 T t.length vs) (h2 : ∀ j, j < t.length → RowAt w B (vs.getD j undef) (t.getD j []))
    (hr : RowAt w B rv r) (hown : w'.ownsRow B 35 1 T' (t.length + 1) (vs ++ [rv])) (hg : w.grownBy w' T.ownBlock) : RowsOwn w' B T' (t ++ [r]) := by
  have keep : ∀ {v l}, RowAt w B v l → RowAt w' B v l := fun {v l} hh => hh.kept fun g hgv => hg.block g (hh.lt g hgv).1 (by
    rcases hh.apart h1 with e | e
    · rw [e] at hgv; cases hgv
    · rw [← hgv]; exact e)
  have hlen : vs.length = t.length := by have := h1.1; omega
  refine ⟨vs ++ [rv], by rw [List.length_append]; exact hown, fun j hj => ?_⟩
  rw [List.length_append] at hj
  simp only [List.length_cons, List.length_nil] at hj
  by_cases h : j < t.length
  · have e1 : (vs ++ [rv]).getD j undef = vs.getD j undef := by simp only [List.getD]; rw [List.getElem?_append_left (by omega)]
    have e2 : (t ++ [r]).getD j [] = t.getD j [] := by simp only [List.getD]; rw [List.getElem?_append_left h]
    rw [e1, e2]
    exact keep (h2 j h)
  · obtain rfl : j = t.length := by omega
    have e1 : (vs ++ [rv]).getD t.length undef = rv := by simp only [List.getD]; rw [List.getElem?_append_right (by omega), hlen]; simp
    have e2 : (t ++ [r]).getD t.length [] = r := by simp only [List.getD]; rw [List.getElem?_append_right (Nat.le_refl _)]; simp
    rw [e1, e2]
    exact keep hr
end Go.Proofs.YtijhkahaccclmaaGreatDoor
