/-
  The plain law of numbers: the reference's number is what strconv.Atoi and strconv.Itoa, there and back, take. Plain lemmas.
-/
import Derived.Test.YtijhkahaccclmaaGreatDoorNumber
import Derived.Lib.AtoiAll
import Derived.Lib.ItoaNum
set_option linter.unusedSimpArgs false
set_option linter.unusedVariables false
set_option linter.unnecessarySimpa false
namespace Go.Proofs.YtijhkahaccclmaaGreatDoor
open Go Go.RowKit

theorem digits_cons_aux (t : List Nat) : ∀ acc, acc ≤ t.foldl (fun n d => 10 * n + d) acc := by
  induction t with
  | nil => intro acc; exact Nat.le_refl _
  | cons d t ih =>
    intro acc
    have := ih (10 * acc + d)
    rw [List.foldl_cons]
    omega
theorem isDigit_iff (c : UInt8) : isDigit c = true ↔ 48 ≤ c.toNat ∧ c.toNat ≤ 57 := by simp [isDigit]
theorem parse_ok (t : List UInt8) : ∀ acc, t.all isDigit = true → (digitsOf t).foldl (fun n d => 10 * n + d) acc < 18446744073709551616 →
    Lib.parseUint10 acc t = .ok ((digitsOf t).foldl (fun n d => 10 * n + d) acc) := by
  induction t with
  | nil => intro acc _ _; rfl
  | cons c t ih =>
    intro acc h hv
    rw [List.all_cons, Bool.and_eq_true, isDigit_iff] at h
    have hm := digits_cons_aux (digitsOf t) (10 * acc + (c.toNat - 48))
    have e : (digitsOf (c :: t)).foldl (fun n d => 10 * n + d) acc = (digitsOf t).foldl (fun n d => 10 * n + d) (10 * acc + (c.toNat - 48)) := rfl
    rw [e] at hv ⊢
    rw [Lib.parseUint10, if_pos h.1, if_neg (by omega), if_neg (by omega), show acc * 10 + (c.toNat - 48) = 10 * acc + (c.toNat - 48) by omega]
    exact ih _ h.2 hv
theorem parseMag_ok {t : List UInt8} (h0 : t ≠ []) (h : t.all isDigit = true) (hv : digits (digitsOf t) < 18446744073709551616) : Lib.parseMag t = .ok (digits (digitsOf t)) := by
  unfold Lib.parseMag
  rw [if_neg h0]
  exact parse_ok t 0 h hv

theorem ofNat_digit {c : UInt8} (h : isDigit c = true) : UInt8.ofNat (48 + (c.toNat - 48)) = c := by
  rw [isDigit_iff] at h
  rw [show 48 + (c.toNat - 48) = c.toNat by omega]
  exact UInt8.ofNat_toNat
theorem digitsOf_snoc (t : List UInt8) (c : UInt8) : digits (digitsOf (t ++ [c])) = 10 * digits (digitsOf t) + (c.toNat - 48) := by
  rw [digitsOf, List.map_append, ← digitsOf]
  exact digits_snoc _ _
theorem digits_pos {t : List UInt8} (h : t.all isDigit = true) (h0 : t ≠ []) (hh : t.head? ≠ some 48) : 1 ≤ digits (digitsOf t) := by
  cases t with
  | nil => exact absurd rfl h0
  | cons c t =>
    rw [List.all_cons, Bool.and_eq_true, isDigit_iff] at h
    have hc : c.toNat ≠ 48 := fun e => hh (by rw [List.head?_cons]; exact congrArg some (UInt8.toNat_inj.1 e))
    have hm := digits_cons_aux (digitsOf t) (10 * 0 + (c.toNat - 48))
    have e : digits (digitsOf (c :: t)) = (digitsOf t).foldl (fun n d => 10 * n + d) (10 * 0 + (c.toNat - 48)) := rfl
    rw [e]
    omega

theorem snoc_rec {α : Type} {p : List α → Prop} (h0 : p []) (h1 : ∀ l x, p l → p (l ++ [x])) (l : List α) : p l := by
  have : ∀ m : List α, p m.reverse := by
    intro m
    induction m with
    | nil => exact h0
    | cons x m ih => rw [List.reverse_cons]; exact h1 _ _ ih
  have h := this l.reverse
  rwa [List.reverse_reverse] at h

theorem dec_of_digits (t : List UInt8) : t.all isDigit = true → t ≠ [] → (t.head? ≠ some 48 ∨ t = [48]) → Lib.decDigits (digits (digitsOf t)) = t := by
  refine snoc_rec (p := fun t => t.all isDigit = true → t ≠ [] → (t.head? ≠ some 48 ∨ t = [48]) → Lib.decDigits (digits (digitsOf t)) = t) (fun _ h => absurd rfl h) ?_ t
  intro l c ih h _ hh
  rw [List.all_append, Bool.and_eq_true] at h
  have hc : isDigit c = true := by have := h.2; simpa using this
  have hc2 := (isDigit_iff c).1 hc
  rw [digitsOf_snoc]
  cases l with
  | nil =>
    rw [Lib.decDigits, dif_pos (by simp [digitsOf, digits]; omega)]
    have e : 48 + (10 * digits (digitsOf []) + (c.toNat - 48)) = 48 + (c.toNat - 48) := by simp [digitsOf, digits]
    rw [e, ofNat_digit hc]
    rfl
  | cons b l =>
    have hb : (b :: l).head? ≠ some 48 := by
      rcases hh with hh | hh
      · exact hh
      · have := congrArg List.length hh; simp at this
    have e := ih h.1 (by simp) (.inl hb)
    have hp := digits_pos h.1 (by simp) hb
    rw [Lib.decDigits, dif_neg (by omega)]
    have e1 : (10 * digits (digitsOf (b :: l)) + (c.toNat - 48)) / 10 = digits (digitsOf (b :: l)) := by omega
    have e2 : (10 * digits (digitsOf (b :: l)) + (c.toNat - 48)) % 10 = c.toNat - 48 := by omega
    rw [e1, e2, e, ofNat_digit hc]

theorem digit_of {d : Nat} (h : d < 10) : isDigit (UInt8.ofNat (48 + d)) = true ∧ (UInt8.ofNat (48 + d)).toNat = 48 + d := by
  have e : (UInt8.ofNat (48 + d)).toNat = 48 + d := by
    rw [UInt8.toNat_ofNat']
    exact Nat.mod_eq_of_lt (by omega)
  exact ⟨by rw [isDigit_iff, e]; omega, e⟩
theorem dec_facts (u : Nat) : (Lib.decDigits u).all isDigit = true ∧ Lib.decDigits u ≠ [] ∧ digits (digitsOf (Lib.decDigits u)) = u ∧ (1 ≤ u → (Lib.decDigits u).head? ≠ some 48) := by
  induction u using Nat.strongRecOn with
  | ind u ih =>
    rw [Lib.decDigits]
    split
    · rename_i h
      obtain ⟨h1, h2⟩ := digit_of h
      refine ⟨by rw [List.all_cons, h1]; rfl, by simp, ?_, fun hu e => ?_⟩
      · show 10 * 0 + ((UInt8.ofNat (48 + u)).toNat - 48) = u
        rw [h2]; omega
      have e' : UInt8.ofNat (48 + u) = 48 := by simpa using e
      rw [e'] at h2
      have : (48 : UInt8).toNat = 48 := rfl
      omega
    · rename_i h
      obtain ⟨a1, a2, a3, a4⟩ := ih (u / 10) (by omega)
      obtain ⟨h1, h2⟩ := digit_of (show u % 10 < 10 by omega)
      refine ⟨by rw [List.all_append, a1, List.all_cons, h1]; rfl, by simp, ?_, fun _ e => a4 (by omega) ?_⟩
      · rw [digitsOf_snoc, a3, h2]; omega
      · cases hd : Lib.decDigits (u / 10) with
        | nil => exact absurd hd a2
        | cons b l => rw [hd] at e; simpa using e

theorem atoi_bounds {l : List UInt8} {n : Int} (h : Lib.atoiAll l = .ok n) : -9223372036854775808 ≤ n ∧ n ≤ 9223372036854775807 := by
  unfold Lib.atoiAll at h
  split at h
  · cases h
  · simp only at h
    split at h
    · cases h
    · cases h
    · split at h
      · cases h
      · split at h
        · cases h
        · injection h with h
          rw [← h]
          split <;> omega

theorem trim_minus (t : List UInt8) : Lib.trimPrefix (45 :: t) [45] = t := by simp [Lib.trimPrefix, Lib.hasPrefix]
theorem trim_other {c : UInt8} {t : List UInt8} (h : c ≠ 45) : Lib.trimPrefix (c :: t) [45] = c :: t := by
  unfold Lib.trimPrefix Lib.hasPrefix
  rw [if_neg]
  simp
  exact fun e => h e.symm

theorem fits_lt {neg : Bool} {N : Nat} (h : fits neg N = true) : N < 18446744073709551616 := by
  unfold fits at h
  simp only [Bool.or_eq_true, Bool.and_eq_true, decide_eq_true_eq] at h
  omega

theorem num_there {l : List UInt8} {n : Int} (h : numOf l = some n) : Lib.atoiAll l = .ok n ∧ Lib.itoa n = l := by
  unfold numOf at h
  simp only at h
  split at h
  · cases h
  · rename_i hc
    split at h
    · rename_i hf
      injection h with h
      subst h
      have hc1 : Lib.trimPrefix l [45] ≠ [] := fun e => hc (.inl e)
      have hc2 : (Lib.trimPrefix l [45]).all isDigit = true := by
        cases h : (Lib.trimPrefix l [45]).all isDigit with
        | true => rfl
        | false => exact absurd (.inr (.inl h)) hc
      have hc3 : (Lib.trimPrefix l [45]).head? = some 48 → l = [48] := fun e => by
        by_cases h : l = [48]
        · exact h
        · exact absurd (.inr (.inr ⟨e, h⟩)) hc
      obtain ⟨t, ht⟩ : ∃ t, Lib.trimPrefix l [45] = t := ⟨_, rfl⟩
      rw [ht] at hf hc1 hc2 hc3 ⊢
      have hpm := parseMag_ok hc1 hc2 (fits_lt hf)
      rcases trimPrefix_minus l t ht with e | e
      · subst e
        have hne : decide (t ≠ 45 :: t) = true := decide_eq_true (by intro e; have := congrArg List.length e; simp at this)
        rw [hne] at hf ⊢
        have hh : t.head? ≠ some 48 := fun e => by cases hc3 e
        have hpos := digits_pos hc2 hc1 hh
        unfold fits at hf
        simp only [Bool.or_eq_true, Bool.and_eq_true, decide_eq_true_eq] at hf
        constructor
        · unfold Lib.atoiAll
          simp only [show (45 : UInt8).toNat = 45 from rfl]
          rw [if_pos (.inr trivial), hpm]
          simp only
          rw [if_neg (by simp), if_neg (by omega), if_pos trivial]
          rfl
        · have e2 : sgn true (digits (digitsOf t)) = -((digits (digitsOf t) : Nat) : Int) := rfl
          unfold Lib.itoa
          rw [e2, if_pos (by omega), Int.natAbs_neg, Int.natAbs_natCast, dec_of_digits t hc2 hc1 (.inl hh)]
      · subst e
        have hne : decide (l ≠ l) = false := by simp
        rw [hne] at hf ⊢
        unfold fits at hf
        simp only [Bool.false_and, Bool.or_false, decide_eq_true_eq] at hf
        cases l with
        | nil => exact absurd rfl hc1
        | cons c r =>
          have hcd : isDigit c = true := by rw [List.all_cons, Bool.and_eq_true] at hc2; exact hc2.1
          rw [isDigit_iff] at hcd
          constructor
          · unfold Lib.atoiAll
            simp only
            rw [if_neg (by omega), hpm]
            simp only
            rw [if_neg (by omega), if_neg (by omega), if_neg (by omega)]
            rfl
          · have e2 : sgn false (digits (digitsOf (c :: r))) = ((digits (digitsOf (c :: r)) : Nat) : Int) := rfl
            unfold Lib.itoa
            rw [e2, if_neg (by omega), Int.toNat_natCast]
            refine dec_of_digits _ hc2 hc1 ?_
            by_cases hh : (c :: r).head? = some 48
            · exact .inr (hc3 hh)
            · exact .inl hh
    · cases h

theorem num_back {l : List UInt8} {n : Int} (h : Lib.atoiAll l = .ok n) (hi : Lib.itoa n = l) : numOf l = some n := by
  have hb := atoi_bounds h
  unfold Lib.itoa at hi
  split at hi
  · rename_i hn
    obtain ⟨a1, a2, a3, a4⟩ := dec_facts n.natAbs
    subst hi
    unfold numOf
    simp only
    rw [trim_minus, if_neg]
    · have hne : decide (Lib.decDigits n.natAbs ≠ 45 :: Lib.decDigits n.natAbs) = true := decide_eq_true (by intro e; have := congrArg List.length e; simp at this)
      rw [hne, a3, if_pos]
      · have : sgn true n.natAbs = -((n.natAbs : Nat) : Int) := rfl
        rw [this]
        congr 1
        omega
      · have hlt : n.natAbs < 9223372036854775808 ∨ n.natAbs = 9223372036854775808 := by omega
        unfold fits
        rcases hlt with h9 | h9
        · rw [decide_eq_true h9]; rfl
        · rw [decide_eq_true (p := n.natAbs = 9223372036854775808) h9]; simp
    · rintro (e | e | ⟨e, _⟩)
      · exact a2 e
      · rw [a1] at e; cases e
      · exact a4 (by omega) e
  · rename_i hn
    obtain ⟨a1, a2, a3, a4⟩ := dec_facts n.toNat
    have htr : Lib.trimPrefix l [45] = l := by
      rw [← hi]
      cases hd : Lib.decDigits n.toNat with
      | nil => exact absurd hd a2
      | cons c r =>
        rw [hd, List.all_cons, Bool.and_eq_true, isDigit_iff] at a1
        exact trim_other (by intro e; rw [e] at a1; exact absurd a1.1.1 (by decide))
    rw [hi] at a1 a2 a3 a4
    unfold numOf
    simp only
    rw [htr, if_neg]
    · have hne : decide (l ≠ l) = false := by simp
      rw [hne, a3, if_pos]
      · have : sgn false n.toNat = ((n.toNat : Nat) : Int) := rfl
        rw [this]
        congr 1
        omega
      · unfold fits
        simp only [Bool.false_and, Bool.or_false, decide_eq_true_eq]
        omega
    · rintro (e | e | ⟨e, e2⟩)
      · exact a2 e
      · rw [a1] at e; cases e
      · rcases Nat.eq_zero_or_pos n.toNat with h0 | h0
        · rw [h0] at hi
          refine e2 (hi.symm.trans ?_)
          rw [Lib.decDigits, dif_pos (by decide)]
          rfl
        · exact a4 h0 e
end Go.Proofs.YtijhkahaccclmaaGreatDoor
