/-
  The walk of SetString at base ten over a text of digits, with or without a sign ahead: the number reads as the digits say. Conditions: as each theorem says.
-/
import Derived.Test.YtijhkahaccclmaaGreatDoorMul
import Derived.Lib.Strings
set_option linter.unusedSimpArgs false
set_option linter.unusedVariables false
set_option linter.unnecessarySimpa false
namespace Go.Proofs.YtijhkahaccclmaaGreatDoor
open Go Go.RowKit

/-- What digits are worth. -/
def digits (l : List Nat) : Nat := l.foldl (fun n d => 10 * n + d) 0
theorem digits_snoc (l : List Nat) (d : Nat) : digits (l ++ [d]) = 10 * digits l + d := by simp [digits]

theorem digits_bound (D : List Nat) (k : Nat) (h : ∀ k, D.getD k 0 ≤ 9) : digits (D.take k) < 4294967296 ^ k := by
  induction k with
  | zero => simp [digits]
  | succ k ih =>
    by_cases hk : k < D.length
    · rw [take_succ_getD D hk, digits_snoc, Nat.pow_succ]
      have := h k
      omega
    · rw [List.take_of_length_le (by omega)] at ih ⊢
      have := Nat.pow_pos (n := k) (show 0 < 4294967296 by decide)
      rw [Nat.pow_succ]; omega
theorem worth_zero_iff {l : List Nat} (h : l.length = 0 ∨ l.getD (l.length - 1) 0 ≠ 0) : decide (0 < worth l) = decide (0 < l.length) := by
  rcases Nat.eq_zero_or_pos l.length with h0 | h0
  · obtain rfl := List.eq_nil_of_length_eq_zero h0; rfl
  · have e := worth_take_succ l (l.length - 1)
    rw [show l.length - 1 + 1 = l.length by omega, List.take_length] at e
    have e3 : 4294967296 ^ (l.length - 1) * 1 ≤ 4294967296 ^ (l.length - 1) * l.getD (l.length - 1) 0 := Nat.mul_le_mul_left _ (by omega)
    have e4 : 0 < 4294967296 ^ (l.length - 1) := Nat.pow_pos (by decide)
    rw [decide_eq_true (show 0 < worth l by omega), decide_eq_true h0]

set_option maxHeartbeats 1000000 in
theorem give_walk (b : Nat) (neg : Bool) (v : Value) (x : Nat) (w : World) (hv : NumAt w v x) (v0 v1 : Value) (h0 : w.cell? ⟨b, 0, none⟩ = some v0) (h1 : w.cell? ⟨b, 1, none⟩ = some v1)
    (f0 : w.frozen? ⟨b, 0, none⟩ = false) (f1 : w.frozen? ⟨b, 1, none⟩ = false) :
    Calls Tryz.prog 57 #[.pointer (some ⟨b, 0, none⟩), .bool neg, v] w fun e w' => e = .returned (.pointer (some ⟨b, 0, none⟩)) ∧ (w.setCell ⟨b, 1, none⟩ v).setCell ⟨b, 0, none⟩ (.bool (neg && decide (0 < x))) = w' := by
  obtain ⟨l, ⟨⟨a, c, rfl, hc, _⟩, _⟩, hw, hlast⟩ := hv
  have hx : decide (0 < x) = decide (0 < l.length) := by rw [← hw]; exact worth_zero_iff hlast
  rw [hx]
  clear hx hlast hw
  go_enter Tryz.func57, Tryz.ntmps57
  cases neg
  · go_wp2
    go_ret
    exact ⟨rfl, rfl⟩
  · go_wp2
    go_ret
    exact ⟨rfl, rfl⟩

theorem numAt_nil (w : World) : NumAt w (.slice none 0 0) 0 := ⟨[], ⟨⟨none, 0, rfl, Nat.le_refl _, fun j hj => absurd hj (Nat.not_lt_zero _)⟩, fun j => by simp⟩, rfl, .inl rfl⟩

/-- SetString's answer. -/
def SetIs (neg : Bool) (x b : Nat) (w : World) (e : Ending) (w' : World) : Prop :=
  e = .returned (.tuple #[.pointer (some ⟨b, 0, none⟩), .bool true]) ∧ ∃ (w1 : World) (v : Value), NumAt w1 v x ∧ Below w.heap.size w w1 ∧ (w1.setCell ⟨b, 1, none⟩ v).setCell ⟨b, 0, none⟩ (.bool (neg && decide (0 < x))) = w'
/-- What holds at the head of its loop. -/
def SetA (D : List Nat) (w : World) (r i : Value) (wr : World) : Prop := ∃ k : Nat, k ≤ D.length ∧ i = .int .i64 (k : Int) ∧ NumAt wr r (digits (D.take k)) ∧ Below w.heap.size w wr

set_option maxRecDepth 100000 in
set_option maxHeartbeats 4000000 in
theorem SetString_neg (s t : ByteArray) (D : List Nat) (hs0 : 0 < s.size) (h45 : (s[0]'hs0).toNat = 45) (hex : s.extract 1 s.size = t) (hD : t.size = D.length) (hd : ∀ k (h : k < t.size), (t[k]'h).toNat = 48 + D.getD k 0) (hd9 : ∀ k, D.getD k 0 ≤ 9) (hl0 : 0 < D.length) (hl : D.length ≤ 60000)
    (b : Nat) (w : World) (v0 v1 : Value) (hb : b < w.heap.size) (h0 : w.cell? ⟨b, 0, none⟩ = some v0) (h1 : w.cell? ⟨b, 1, none⟩ = some v1) (f0 : w.frozen? ⟨b, 0, none⟩ = false) (f1 : w.frozen? ⟨b, 1, none⟩ = false) :
    Calls Tryz.prog 29 #[.pointer (some ⟨b, 0, none⟩), .string s, .int .i64 10] w (SetIs true (digits D) b w) := by
  have hs1 : (0 : Int) < (s.size : Int) := by omega
  have hsl : (1 : Int) ≤ (s.size : Int) := by omega
  have HD := Lib.hid hd
  have HD9 := Lib.hid hd9
  have HL := Lib.hid hD
  have hts : (0 : Int) < (t.size : Int) := by omega
  have htn : ((t.size : Int) == 0) = false := by rw [beq_eq_false_iff_ne]; omega
  have htn2 : ¬ t.size = 0 := by omega
  clear hd hD hd9
  go_enter Tryz.func29, Tryz.ntmps29
  go_wp2
  go_loopw [9, 10] (SetA D w) (fun _ i _ => D.length - (intOf i).toNat)
  case atStart => exact ⟨0, Nat.zero_le _, rfl, numAt_nil _, Below.refl _ _⟩
  case round =>
    obtain ⟨k, hk, rfl, hr, hbw⟩ := hrel
    have HBW := Lib.hid hbw
    have HR := Lib.hid hr
    clear hbw hr
    have hk0 : (0 : Int) ≤ (k : Int) := Int.natCast_nonneg _
    by_cases hlt : k < D.length
    · obtain ⟨d, hdd⟩ : ∃ d, D.getD k 0 = d := ⟨_, rfl⟩
      have hkt : k < t.size := by rw [HL.out]; exact hlt
      have hkt1 : (k : Int) < (t.size : Int) := by omega
      have hbk : (t[k]'hkt).toNat = 48 + d := by rw [HD.out k hkt, hdd]
      have hd9' := HD9.out k
      rw [hdd] at hd9'
      have HDD := Lib.hid hdd
      clear hdd
      have hd0 : (0 : Int) ≤ (d : Int) := Int.natCast_nonneg _
      have hd1 : (d : Int) ≤ 9 := by omega
      have hd2 : (d : Int) < 10 := by omega
      have hsub : (48 + (d : Int)) - 48 = d := by omega
      have HP : Hid (digits (D.take k) < 4294967296 ^ k) := digits_bound D k HD9.out
      go_wp2_with fail
      refine (words_walk 10 wr (by decide)).mono ?_
      rintro e wa ⟨⟨ua, rfl, hua⟩, hba⟩
      go_wp2_with fail
      refine (mul_walk _ _ _ k _ (HR.out.below hba) hua HP.out (by omega)).mono ?_
      rintro e wb ⟨⟨ub, rfl, hub⟩, hbb⟩
      go_wp2_with fail
      refine (words_walk d wb (by omega)).mono ?_
      rintro e wc ⟨⟨uc, rfl, huc⟩, hbc⟩
      go_wp2_with fail
      refine (add_walk _ _ _ _ (k + 1) _ (hub.below hbc) huc (by rw [Nat.pow_succ]; have := HP.out; omega) (by have := Nat.pow_pos (n := k) (show 0 < 4294967296 by decide); rw [Nat.pow_succ]; omega) (by omega)).mono ?_
      rintro e wd ⟨⟨ud, rfl, hud⟩, hbd⟩
      have HU : Hid (NumAt wd ud (digits (D.take (k + 1)))) := by rw [take_succ_getD D hlt, digits_snoc, HDD.out]; exact hud
      have s1 := HBW.out.size
      have s2 := hba.size
      have s3 := hbb.size
      have s4 := hbc.size
      have HBB : Hid (Below w.heap.size w wd) := (((HBW.out.trans (hba.mono s1)).trans (hbb.mono (by omega))).trans (hbc.mono (by omega))).trans (hbd.mono (by omega))
      clear hud hbd hbc hbb hba hua hub huc
      go_wp2
      go_roundw
      case rel => exact ⟨k + 1, hlt, by go_num, HU.out, HBB.out⟩
      case measure => simp [intOf]; omega
    · obtain rfl : k = D.length := by omega
      have hkt1 : ¬ (D.length : Int) < (t.size : Int) := by have := HL.out; omega
      have hr := HR.out
      rw [List.take_length] at hr
      go_wp2_with fail
      refine (give_walk b _ _ _ _ hr v0 v1 ?_ ?_ ?_ ?_).mono ?_
      · rw [HBW.out.cell hb]; exact h0
      · rw [HBW.out.cell hb]; exact h1
      · rw [HBW.out.frozen hb]; exact f0
      · rw [HBW.out.frozen hb]; exact f1
      rintro e w' ⟨rfl, rfl⟩
      go_wp2
      go_ret2
      exact ⟨rfl, _, _, hr, HBW.out, rfl⟩

set_option maxRecDepth 100000 in
set_option maxHeartbeats 4000000 in
theorem SetString_pos (s : ByteArray) (D : List Nat) (hD : s.size = D.length) (hd : ∀ k (h : k < s.size), (s[k]'h).toNat = 48 + D.getD k 0) (hd9 : ∀ k, D.getD k 0 ≤ 9) (hl0 : 0 < D.length) (hl : D.length ≤ 60000)
    (b : Nat) (w : World) (v0 v1 : Value) (hb : b < w.heap.size) (h0 : w.cell? ⟨b, 0, none⟩ = some v0) (h1 : w.cell? ⟨b, 1, none⟩ = some v1) (f0 : w.frozen? ⟨b, 0, none⟩ = false) (f1 : w.frozen? ⟨b, 1, none⟩ = false) :
    Calls Tryz.prog 29 #[.pointer (some ⟨b, 0, none⟩), .string s, .int .i64 10] w (SetIs false (digits D) b w) := by
  have hs0 : 0 < s.size := by omega
  have hs1 : (0 : Int) < (s.size : Int) := by omega
  have hnm : (((s[0]'hs0).toNat : Int) == 45) = false := by rw [beq_eq_false_iff_ne, hd 0 hs0]; omega
  have hnp : (((s[0]'hs0).toNat : Int) == 43) = false := by rw [beq_eq_false_iff_ne, hd 0 hs0]; omega
  have HD := Lib.hid hd
  have HD9 := Lib.hid hd9
  have HL := Lib.hid hD
  have hts : (0 : Int) < (s.size : Int) := by omega
  have htn : ((s.size : Int) == 0) = false := by rw [beq_eq_false_iff_ne]; omega
  have htn2 : ¬ s.size = 0 := by omega
  clear hd hD hd9
  go_enter Tryz.func29, Tryz.ntmps29
  go_wp2
  go_loopw [9, 10] (SetA D w) (fun _ i _ => D.length - (intOf i).toNat)
  case atStart => exact ⟨0, Nat.zero_le _, rfl, numAt_nil _, Below.refl _ _⟩
  case round =>
    obtain ⟨k, hk, rfl, hr, hbw⟩ := hrel
    have HBW := Lib.hid hbw
    have HR := Lib.hid hr
    clear hbw hr
    have hk0 : (0 : Int) ≤ (k : Int) := Int.natCast_nonneg _
    by_cases hlt : k < D.length
    · obtain ⟨d, hdd⟩ : ∃ d, D.getD k 0 = d := ⟨_, rfl⟩
      have hkt : k < s.size := by rw [HL.out]; exact hlt
      have hkt1 : (k : Int) < (s.size : Int) := by omega
      have hbk : (s[k]'hkt).toNat = 48 + d := by rw [HD.out k hkt, hdd]
      have hd9' := HD9.out k
      rw [hdd] at hd9'
      have HDD := Lib.hid hdd
      clear hdd
      have hd0 : (0 : Int) ≤ (d : Int) := Int.natCast_nonneg _
      have hd1 : (d : Int) ≤ 9 := by omega
      have hd2 : (d : Int) < 10 := by omega
      have hsub : (48 + (d : Int)) - 48 = d := by omega
      have HP : Hid (digits (D.take k) < 4294967296 ^ k) := digits_bound D k HD9.out
      go_wp2_with fail
      refine (words_walk 10 wr (by decide)).mono ?_
      rintro e wa ⟨⟨ua, rfl, hua⟩, hba⟩
      go_wp2_with fail
      refine (mul_walk _ _ _ k _ (HR.out.below hba) hua HP.out (by omega)).mono ?_
      rintro e wb ⟨⟨ub, rfl, hub⟩, hbb⟩
      go_wp2_with fail
      refine (words_walk d wb (by omega)).mono ?_
      rintro e wc ⟨⟨uc, rfl, huc⟩, hbc⟩
      go_wp2_with fail
      refine (add_walk _ _ _ _ (k + 1) _ (hub.below hbc) huc (by rw [Nat.pow_succ]; have := HP.out; omega) (by have := Nat.pow_pos (n := k) (show 0 < 4294967296 by decide); rw [Nat.pow_succ]; omega) (by omega)).mono ?_
      rintro e wd ⟨⟨ud, rfl, hud⟩, hbd⟩
      have HU : Hid (NumAt wd ud (digits (D.take (k + 1)))) := by rw [take_succ_getD D hlt, digits_snoc, HDD.out]; exact hud
      have s1 := HBW.out.size
      have s2 := hba.size
      have s3 := hbb.size
      have s4 := hbc.size
      have HBB : Hid (Below w.heap.size w wd) := (((HBW.out.trans (hba.mono s1)).trans (hbb.mono (by omega))).trans (hbc.mono (by omega))).trans (hbd.mono (by omega))
      clear hud hbd hbc hbb hba hua hub huc
      go_wp2
      go_roundw
      case rel => exact ⟨k + 1, hlt, by go_num, HU.out, HBB.out⟩
      case measure => simp [intOf]; omega
    · obtain rfl : k = D.length := by omega
      have hkt1 : ¬ (D.length : Int) < (s.size : Int) := by have := HL.out; omega
      have hr := HR.out
      rw [List.take_length] at hr
      go_wp2_with fail
      refine (give_walk b _ _ _ _ hr v0 v1 ?_ ?_ ?_ ?_).mono ?_
      · rw [HBW.out.cell hb]; exact h0
      · rw [HBW.out.cell hb]; exact h1
      · rw [HBW.out.frozen hb]; exact f0
      · rw [HBW.out.frozen hb]; exact f1
      rintro e w' ⟨rfl, rfl⟩
      go_wp2
      go_ret2
      exact ⟨rfl, _, _, hr, HBW.out, rfl⟩
end Go.Proofs.YtijhkahaccclmaaGreatDoor
