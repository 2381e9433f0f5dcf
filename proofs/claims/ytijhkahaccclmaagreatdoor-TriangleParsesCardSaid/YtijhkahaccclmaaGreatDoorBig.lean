/-
  The walks over lists of 32-bit words: trim, words, add, mul by ten: what each answers reads as the number it should be. No conditions.
-/
import Derived.Test.YtijhkahaccclmaaGreatDoorRead
set_option linter.unusedSimpArgs false
set_option linter.unusedVariables false
set_option linter.unnecessarySimpa false
namespace Go.Proofs.YtijhkahaccclmaaGreatDoor
open Go Go.RowKit

/-- What a list of words is worth, the least first. -/
def worth : List Nat → Nat
  | [] => 0
  | x :: l => x + 4294967296 * worth l

theorem worth_append (l m : List Nat) : worth (l ++ m) = worth l + 4294967296 ^ l.length * worth m := by
  induction l with
  | nil => simp [worth]
  | cons x l ih => simp only [List.cons_append, worth, ih, List.length_cons, Nat.pow_succ]; rw [Nat.mul_add, ← Nat.mul_assoc, Nat.add_assoc, Nat.mul_comm (4294967296 ^ l.length) 4294967296]
theorem worth_snoc (l : List Nat) (x : Nat) : worth (l ++ [x]) = worth l + 4294967296 ^ l.length * x := by rw [worth_append]; simp [worth]

/-- The value is a slice of words. -/
def WordsIn (w : World) (v : Value) (l : List Nat) : Prop := Reads w v l.length (fun j => .int .u32 ((l.getD j 0 : Nat) : Int)) ∧ ∀ j, l.getD j 0 < 4294967296

/-- The value is a slice of words of this worth, without a nought at the end. -/
def NumAt (w : World) (v : Value) (n : Nat) : Prop := ∃ l, WordsIn w v l ∧ worth l = n ∧ (l.length = 0 ∨ l.getD (l.length - 1) 0 ≠ 0)

theorem NumAt.below {w w' : World} {v : Value} {n : Nat} (h : NumAt w v n) (hb : Below w.heap.size w w') : NumAt w' v n :=
  let ⟨l, ⟨h1, h2⟩, h3⟩ := h; ⟨l, ⟨h1.below hb, h2⟩, h3⟩

theorem take_getD (l : List Nat) (k j : Nat) (h : j < k) : (l.take k).getD j 0 = l.getD j 0 := by
  simp [List.getD, List.getElem?_take, h]
theorem take_lt {l : List Nat} (k : Nat) (h : ∀ j, l.getD j 0 < 4294967296) (j : Nat) : (l.take k).getD j 0 < 4294967296 := by
  by_cases hj : j < k
  · rw [take_getD _ _ _ hj]; exact h j
  · have : (l.take k).getD j 0 = 0 := by
      have : (l.take k).length ≤ j := by simp; omega
      simp [List.getD, List.getElem?_eq_none this]
    omega
theorem take_succ_getD (l : List Nat) {k : Nat} (h : k < l.length) : l.take (k + 1) = l.take k ++ [l.getD k 0] := by
  rw [List.take_succ_eq_append_getElem h]
  simp [List.getD, List.getElem?_eq_getElem h]

theorem num_take {w : World} {a : Option Addr} {c : Nat} {l : List Nat} {k : Nat} (hc : l.length ≤ c)
    (hall : ∀ j, j < l.length → ∃ b o, a = some ⟨b, o, none⟩ ∧ b < w.heap.size ∧ w.cell? ⟨b, o + j, none⟩ = some (.int .u32 ((l.getD j 0 : Nat) : Int)))
    (hlt : ∀ j, l.getD j 0 < 4294967296) (hk : k ≤ l.length) (he : worth (l.take k) = worth l) (hlast : k = 0 ∨ l.getD (k - 1) 0 ≠ 0) : NumAt w (.slice a k c) (worth l) := by
  have hlen : (l.take k).length = k := by rw [List.length_take]; omega
  refine ⟨l.take k, ⟨⟨a, c, by rw [hlen], by omega, fun j hj => ?_⟩, take_lt k hlt⟩, he, ?_⟩
  · rw [hlen] at hj
    obtain ⟨b, o, e, hb, hx⟩ := hall j (by omega)
    exact ⟨b, o, e, hb, by rw [hx]; show _ = some (Value.int .u32 (((l.take k).getD j 0 : Nat) : Int)); rw [take_getD _ _ _ hj]⟩
  · rw [hlen]
    rcases hlast with h | h
    · exact Or.inl h
    · by_cases h0 : k = 0
      · exact Or.inl h0
      · exact Or.inr (by rw [take_getD _ _ _ (by omega)]; exact h)

set_option maxHeartbeats 1000000 in
theorem trim_walk (v : Value) (l : List Nat) (w : World) (hv : WordsIn w v l) (hl : l.length ≤ 1000000) :
    Calls Tryz.prog 78 #[v] w fun e w' => (∃ u, e = .returned u ∧ NumAt w u (worth l)) ∧ w = w' := by
  obtain ⟨⟨a, c, rfl, hc, hall⟩, hlt⟩ := hv
  have HA := Lib.hid hall
  have HL := Lib.hid hlt
  clear hall hlt
  go_enter Tryz.func78, Tryz.ntmps78
  go_wp2
  go_loop [3] (fun i => ∃ k : Nat, k ≤ l.length ∧ i = .int .i64 k ∧ worth (l.take k) = worth l) (fun i => (intOf i).toNat)
  case atStart => exact ⟨l.length, Nat.le_refl _, rfl, by rw [List.take_length]⟩
  case round =>
    obtain ⟨k, hk, rfl, heq⟩ := hrel
    have HE := Lib.hid heq
    clear heq
    cases k with
    | zero =>
      go_wp2
      go_ret
      exact ⟨⟨_, rfl, num_take hc HA.out HL.out hk HE.out (Or.inl rfl)⟩, rfl⟩
    | succ k =>
      obtain ⟨b, o, rfl, _, hx⟩ := HA.out k (by omega)
      obtain ⟨x, hxx⟩ : ∃ x, l.getD k 0 = x := ⟨_, rfl⟩
      rw [hxx] at hx
      have HX := Lib.hid hxx
      clear hxx
      have hk0 : (0 : Int) ≤ (k : Int) := Int.natCast_nonneg _
      have hk1 : (k : Int) < (l.length : Int) := by omega
      by_cases h0 : x = 0
      · subst h0
        go_wp2
        go_round
        case rel => exact ⟨k, by omega, rfl, by rw [← HE.out, take_succ_getD l (by omega), HX.out, worth_snoc]; simp⟩
        case measure => simp [intOf]
      · have h0' : ¬ ((x : Nat) : Int) = 0 := by omega
        go_wp2
        go_ret
        exact ⟨⟨_, rfl, num_take hc HA.out HL.out hk HE.out (Or.inr (by rw [show k + 1 - 1 = k by omega, HX.out]; exact h0))⟩, rfl⟩

theorem words_reads {w : World} {t : TypeId} (x y : Nat) (hx : x < 4294967296) (hy : y < 4294967296) : WordsIn (w.alloc (.cells #[.int .u32 (x : Int), .int .u32 (y : Int)] t)) (.slice (some ⟨w.heap.size, 0, none⟩) 2 2) [x, y] := by
  refine ⟨⟨_, _, rfl, Nat.le_refl _, fun j hj => ⟨_, _, rfl, by simp, ?_⟩⟩, fun j => ?_⟩
  · match j, hj with
    | 0, _ => go_simp
    | 1, _ => go_simp
  · match j with
    | 0 => simpa using hx
    | 1 => simpa using hy
    | j + 2 => simp

set_option maxHeartbeats 1000000 in
theorem words_walk (x : Nat) (w : World) (hx : x < 4294967296) :
    Calls Tryz.prog 56 #[.int .u64 (x : Int)] w fun e w' => (∃ u, e = .returned u ∧ NumAt w' u x) ∧ Below w.heap.size w w' := by
  have hx0 : (0 : Int) ≤ (x : Int) := Int.natCast_nonneg _
  have hx1 : (x : Int) < 4294967296 := by omega
  have hq : (x : Int) / 4294967296 = 0 := by omega
  go_enter Tryz.func56, Tryz.ntmps56
  go_wp2_with (go_at_call 78; refine (trim_walk _ [x, 0] _ (words_reads x 0 hx (by omega)) (by simp)).mono ?_; rintro e w' ⟨⟨u, rfl, hu⟩, rfl⟩)
  go_ret
  exact ⟨⟨_, rfl, by simpa [worth] using hu⟩, (Below.refl _ w).alloc (Nat.le_refl _) _⟩
end Go.Proofs.YtijhkahaccclmaaGreatDoor
