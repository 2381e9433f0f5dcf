/-
  The walks of the outer functions: the test of a length, the two outer turns, Bits. Conditions: as each theorem says.
-/
import Derived.Test.YtijdmnimiipinaaDoorTurned
set_option linter.unusedSimpArgs false
set_option linter.unusedVariables false
set_option linter.unnecessarySimpa false
namespace Go.Proofs.YtijdmnimiipinaaDoor
open Go Go.RowKit

/-- Is n one of 1, 2, 4 .. 256? -/
def pow2B (n : Nat) : Bool := (List.range 9).any fun k => n == 2 ^ k
theorem pow2B_spec {n : Nat} (h : pow2B n = true) : ∃ k, n = 2 ^ k ∧ 2 ^ k ≤ 256 := by
  obtain ⟨k, hk, e⟩ := List.any_eq_true.1 h
  have hk' := List.mem_range.1 hk
  refine ⟨k, by simpa using e, ?_⟩
  have : 2 ^ k ≤ 2 ^ 8 := Nat.pow_le_pow_right (by omega) (by omega)
  exact this
theorem pow2B_le {n : Nat} (h : pow2B n = true) : 1 ≤ n ∧ n ≤ 256 := by
  obtain ⟨k, rfl, hk⟩ := pow2B_spec h
  exact ⟨Nat.two_pow_pos k, hk⟩
theorem pow2B_and : ∀ n, n < 257 → 1 ≤ n → (n &&& (n - 1) == 0) = pow2B n := by decide +kernel

theorem bits_and_i64_small (a b : Nat) (ha : a < 4611686018427387904) (hb : b < 4611686018427387904) : bits .and .i64 (a : Int) (b : Int) = ((a &&& b : Nat) : Int) := by
  have hx : a &&& b < 2 ^ 62 := Nat.and_lt_two_pow _ (by omega)
  have h1 : (BitVec.ofInt 64 (a : Int)).toNat = a := by
    rw [BitVec.ofInt_natCast, BitVec.toNat_ofNat]; exact Nat.mod_eq_of_lt (by omega)
  have h2 : (BitVec.ofInt 64 (b : Int)).toNat = b := by
    rw [BitVec.ofInt_natCast, BitVec.toNat_ofNat]; exact Nat.mod_eq_of_lt (by omega)
  show IntKind.i64.wrap ((BitVec.ofInt 64 (a : Int) &&& BitVec.ofInt 64 (b : Int)).toNat : Int) = _
  rw [BitVec.toNat_and, h1, h2, IntKind.wrap_i64]
  omega

theorem size_yes (n : Nat) (w : World) (hp : pow2B n = true) : Calls Tryd.prog 14 #[.int .i64 n] w fun e w' => e = .returned (.bool true) ∧ w = w' := by
  obtain ⟨h1, h2⟩ := pow2B_le hp
  have hb : (bits BinOp.and IntKind.i64 (n : Int) ((n : Int) - 1) == 0) = true := by
    rw [show ((n : Int) - 1) = ((n - 1 : Nat) : Int) from by omega, bits_and_i64_small n (n - 1) (by omega) (by omega)]
    have := pow2B_and n (by omega) h1
    rw [hp] at this
    simp at this
    simp [this]
  clear hp
  go_enter Tryd.func14, Tryd.ntmps14
  go_wp2
  go_ret
  exact ⟨rfl, rfl⟩
theorem size_no (n : Nat) (w : World) (hp : pow2B n = false) (hn : n ≤ 1000) : Calls Tryd.prog 14 #[.int .i64 n] w fun e w' => e = .returned (.bool false) ∧ w = w' := by
  by_cases h1 : 1 ≤ n
  · by_cases h2 : n ≤ 256
    · have hb : (bits BinOp.and IntKind.i64 (n : Int) ((n : Int) - 1) == 0) = false := by
        rw [show ((n : Int) - 1) = ((n - 1 : Nat) : Int) from by omega, bits_and_i64_small n (n - 1) (by omega) (by omega)]
        have := pow2B_and n (by omega) h1
        rw [hp] at this
        simp at this
        simp [this]
      clear hp
      go_enter Tryd.func14, Tryd.ntmps14
      go_wp2
      go_ret
      exact ⟨rfl, rfl⟩
    · clear hp
      go_enter Tryd.func14, Tryd.ntmps14
      go_wp2
      go_ret
      exact ⟨rfl, rfl⟩
  · clear hp
    go_enter Tryd.func14, Tryd.ntmps14
    go_wp2
    go_ret
    exact ⟨rfl, rfl⟩

/-- Two words of one reading: Bits says true. -/
theorem bits_walk (x y : Nat) (w : World) (h : ab x = ab y) : Calls Tryd.prog 7 #[.float .f64 x, .float .f64 y] w fun e w' => e = .returned (.bool true) ∧ w = w' := by
  have h13 := @run_callFunc_extern Tryd.prog 13 _ Extern.MathFloatBits.float64bits Tryd.func13 (by kernel_rfl) (by kernel_rfl) (by kernel_rfl) (by kernel_rfl)
  have hf : ∀ (b : Nat) (w : World), (Extern.MathFloatBits.float64bits #[.float .f64 b]).run Tryd.prog w = .ok (.int .u64 b) w := fun b w => rfl
  rcases ab_eq h with h | ⟨h1, h2⟩
  · subst h
    clear h
    go_enter Tryd.func7, Tryd.ntmps7
    go_wp2
    go_ret
    exact ⟨rfl, rfl⟩
  · have o1 := order_nan h1
    have o2 := order_nan h2
    clear h h1 h2
    by_cases hxy : x = y
    · subst hxy
      go_enter Tryd.func7, Tryd.ntmps7
      go_wp2
      go_ret
      exact ⟨rfl, rfl⟩
    · have t : ((x : Int) == (y : Int)) = false := by simp; omega
      go_enter Tryd.func7, Tryd.ntmps7
      go_wp2
      go_ret
      exact ⟨rfl, rfl⟩

/-! ### the two outer turns -/
def cdiv (n : Nat) (c : Option Nat × Option Nat) : Option Nat × Option Nat := (aDiv c.1 (ab (floatOfInt FloatKind.f64 (n : Int))), aDiv c.2 (ab (floatOfInt FloatKind.f64 (n : Int))))
def outer (m : Nat) (back : Bool) (l : List (Option Nat × Option Nat)) : List (Option Nat × Option Nat) := if back then (dft m back l).map (cdiv (2 ^ m)) else dft m back l
theorem outer_length (m : Nat) (back : Bool) (l : List (Option Nat × Option Nat)) (h : l.length = 2 ^ m) : (outer m back l).length = 2 ^ m := by
  unfold outer
  split
  · rw [List.length_map]; exact dft_length _ _ _ h
  · exact dft_length _ _ _ h

/-- The call ends with a new slice of complex numbers whose readings are S, and with x. -/
def CRow2Is (S : List (Option Nat × Option Nat)) (x : Value) (w : World) (e : Ending) (w' : World) : Prop :=
  ∃ (v : Value) (Y : List (Nat × Nat)), e = .returned (.tuple #[v, x]) ∧ w'.ownsRow w.heap.size 35 1 v S.length (Y.map cv) ∧ Y.map aC = S ∧ Below w.heap.size w w'

/-- What holds at the head of a loop that turns each number of a row by f. -/
def EachA (f : Option Nat × Option Nat → Option Nat × Option Nat) (Y : List (Nat × Nat)) (B : Nat) (v : Value) (n : Nat) (w0 : World) (i : Value) (wr : World) : Prop :=
  ∃ (k : Nat) (Y' : List (Nat × Nat)), k ≤ n ∧ i = .int .i64 k ∧ wr.ownsRow B 35 1 v n (Y'.map cv) ∧ (∀ j, j < k → aC (Y'.getD j (0, 0)) = f (aC (Y.getD j (0, 0)))) ∧
    (∀ j, k ≤ j → Y'.getD j (0, 0) = Y.getD j (0, 0)) ∧ Below B w0 wr

theorem getD_set_pair (l : List (Nat × Nat)) (k j : Nat) (p : Nat × Nat) : (l.set k p).getD j (0, 0) = if k = j then (if k < l.length then p else (0, 0)) else l.getD j (0, 0) := by
  simp only [List.getD, List.getElem?_set]
  split
  · split <;> rfl
  · rfl

theorem each_step {f : Option Nat × Option Nat → Option Nat × Option Nat} {Y Y' : List (Nat × Nat)} {B g n cap k x y : Nat} {w0 wr w' : World} (hk : k < n) (hBg : B ≤ g)
    (hown : wr.ownsRow B 35 1 (.slice (some ⟨g, 0, none⟩) n cap) n (Y'.map cv)) (h1 : ∀ j, j < k → aC (Y'.getD j (0, 0)) = f (aC (Y.getD j (0, 0))))
    (h2 : ∀ j, k ≤ j → Y'.getD j (0, 0) = Y.getD j (0, 0)) (hb : Below B w0 wr) (e : aC (x, y) = f (aC (Y.getD k (0, 0))))
    (hheap : w'.heap = (wr.setCell ⟨g, k, none⟩ (.complex .f64 x y)).heap) (hos : w'.os = wr.os) (htape : w'.tape = wr.tape) (hout : w'.output = wr.output) :
    EachA f Y B (.slice (some ⟨g, 0, none⟩) n cap) n w0 (.int .i64 ((k : Int) + 1)) w' := by
  have hl := own_len hown
  refine ⟨k + 1, Y'.set k (x, y), hk, by go_num, ?_, fun j hj => ?_, fun j hj => ?_, ?_⟩
  · rw [List.map_set]
    exact own_heap (hown.stored k _).1 hheap
  · rw [getD_set_pair]
    by_cases hjk : k = j
    · subst hjk; rw [if_pos rfl, if_pos (by omega)]; exact e
    · rw [if_neg hjk]; exact h1 j (by omega)
  · rw [getD_set_pair, if_neg (by omega)]; exact h2 j (by omega)
  · have hb' := hb.setCell (p := ⟨g, k, none⟩) hBg (.complex .f64 x y)
    exact ⟨hos.trans hb.os, htape.trans hb.tape, hout.trans hb.output, by rw [hheap]; exact hb'.size, fun k hk => by rw [hheap]; exact hb'.block k hk⟩

theorem each_end {f : Option Nat × Option Nat → Option Nat × Option Nat} {Y Y' : List (Nat × Nat)} {n : Nat} (hl : Y.length = n) (hl' : Y'.length = n) (h1 : ∀ j, j < n → aC (Y'.getD j (0, 0)) = f (aC (Y.getD j (0, 0)))) :
    Y'.map aC = (Y.map aC).map f := by
  rw [List.map_map]
  refine List.ext_getElem? fun j => ?_
  rw [List.getElem?_map, List.getElem?_map]
  rcases Nat.lt_or_ge j n with hj | hj
  · have := h1 j hj
    simp only [List.getD, List.getElem?_eq_getElem (show j < Y'.length by omega), List.getElem?_eq_getElem (show j < Y.length by omega), Option.getD_some] at this ⊢
    simp [this]
  · rw [List.getElem?_eq_none (by omega), List.getElem?_eq_none (by omega)]; rfl

theorem Turn_no (v : Value) (a : Option Addr) (n c : Nat) (back : Bool) (w : World) (hv : v = .slice a n c) (hp : pow2B n = false) (hn : n ≤ 1000) :
    Calls Tryd.prog 8 #[v, .bool back] w fun e w' => e = .returned (.tuple #[.slice none 0 0, .iface 27 (.int .i64 4)]) ∧ w = w' := by
  subst hv
  have HP := Lib.hid hp
  clear hp
  go_enter Tryd.func8, Tryd.ntmps8
  go_wp2_with (go_at_call 14; refine (size_no _ _ HP.out hn).mono ?_; rintro e w' ⟨rfl, rfl⟩)
  go_ret2
  exact ⟨rfl, rfl⟩

set_option maxHeartbeats 2000000 in
theorem Turn_yes (m B : Nat) (v : Value) (Z : List (Nat × Nat)) (back : Bool) (w : World) (hm : 2 ^ m ≤ 256) (hp : pow2B (2 ^ m) = true) (hown : w.ownsRow B 35 1 v (2 ^ m) (Z.map cv)) :
    Calls Tryd.prog 8 #[v, .bool back] w (CRow2Is (outer m back (Z.map aC)) .nilIface w) := by
  obtain ⟨g, cap, rfl⟩ := own_shape hown (Nat.two_pow_pos _)
  have hl := own_len hown
  have HL : Hid ((dft m back (Z.map aC)).length = 2 ^ m) := dft_length _ _ _ (by rw [List.length_map]; exact hl)
  obtain ⟨n, hn⟩ : ∃ n, n = 2 ^ m := ⟨_, rfl⟩
  have HT := Lib.hid (turn_any m B (.slice (some ⟨g, 0, none⟩) (2 ^ m) cap) Z back w hm hown)
  have HO := Lib.hid (outer_length m back (Z.map aC) (by rw [List.length_map]; exact hl))
  rw [← hn] at HT HL hp hm HO ⊢
  have HN := Lib.hid hn
  have HP := Lib.hid hp
  clear hn hl hown hp
  cases back with
  | false =>
    go_enter Tryd.func8, Tryd.ntmps8
    go_wp2_with (first | (go_at_call 14; refine (size_yes _ _ HP.out).mono ?_; rintro e w' ⟨rfl, rfl⟩) | (go_at_call 15; refine HT.out.mono ?_; rintro e w1 ⟨v, Y, rfl, ho, hY, hb⟩))
    go_ret2
    exact ⟨v, Y, rfl, by rw [HO.out, ← HL.out]; exact ho, hY, hb⟩
  | true =>
    go_enter Tryd.func8, Tryd.ntmps8
    go_wp2_with (first | (go_at_call 14; refine (size_yes _ _ HP.out).mono ?_; rintro e w' ⟨rfl, rfl⟩))
    refine HT.out.mono ?_
    rintro e w1 ⟨v, Y, rfl, ho, hY, hb⟩
    rw [HL.out] at ho
    have hn0 := (pow2B_le HP.out).1
    obtain ⟨g', cap', rfl⟩ := own_shape ho (by omega)
    have HOW := Lib.hid ho
    have HY := Lib.hid hY
    have HB := Lib.hid hb
    clear ho hY hb
    go_wp2
    go_loopw [24] (EachA (cdiv n) Y w.heap.size (.slice (some ⟨g', 0, none⟩) n cap') n w) (fun i _ => n - (intOf i).toNat)
    case atStart => exact ⟨0, Y, Nat.zero_le _, rfl, HOW.out, fun j hj => absurd hj (Nat.not_lt_zero _), fun _ _ => rfl, HB.out⟩
    case round =>
      obtain ⟨k, Y', hk, rfl, hown, h1, h2, hbw⟩ := hrel
      have HOWN := Lib.hid hown
      have H1 := Lib.hid h1
      have H2 := Lib.hid h2
      have HBW := Lib.hid hbw
      clear hown h1 h2 hbw
      by_cases hlt : k < n
      · obtain ⟨x, y, hxy⟩ : ∃ x y, Y'.getD k (0, 0) = (x, y) := ⟨_, _, rfl⟩
        have hc : wr.cell? ⟨g', k, none⟩ = some (.complex .f64 x y) := by rw [own_cell HOWN.out hlt, hxy]; rfl
        have hf : wr.frozen? ⟨g', k, none⟩ = false := HOWN.out.frozenAt k
        have HXY := Lib.hid hxy
        clear hxy
        go_wp2
        go_roundw
        case rel =>
          refine each_step hlt (HOW.out.lt g' rfl).1 HOWN.out H1.out H2.out HBW.out ?_ rfl rfl rfl rfl
          rw [← H2.out k (Nat.le_refl _), HXY.out]
          simp only [aC, cdiv, ab_fDiv]
        case measure => simp [intOf]; omega
      · go_wp2
        go_ret2
        obtain rfl : k = n := by omega
        refine ⟨_, Y', rfl, by rw [HO.out]; exact HOWN.out, ?_, HBW.out⟩
        rw [each_end (own_len HOW.out) (own_len HOWN.out) H1.out, HY.out, HN.out]
        rfl
end Go.Proofs.YtijdmnimiipinaaDoor
