/-
  The law's walk: WaveMany returns true at every slice of floats and every number. Condition: the package variable errors.errorType holds the handle of error.
-/
import Derived.Test.YtijdmnimiipinaaDoorMany8
import Derived.Test.YtijdmnimiipinaaDoorTell
import Derived.BigQuiet
set_option linter.unusedSimpArgs false
set_option linter.unusedVariables false
set_option linter.unnecessarySimpa false
namespace Go.Proofs.YtijdmnimiipinaaDoor
open Go Go.RowKit

theorem law_long (v : Value) (a : Option Addr) (len c : Nat) (n : Int) (w : World) (hv : v = .slice a len c) (hl : 300 < len) (hm : len ≤ maxLen) :
    Calls Tryd.prog 3 #[v, .int .i64 n] w fun e w' => e = .returned (.bool true) ∧ Below w.heap.size w w' := by
  subst hv
  unfold maxLen at hm
  go_enter Tryd.func3, Tryd.ntmps3
  go_wp2
  go_ret
  exact ⟨rfl, Below.refl _ _⟩

theorem law_range (v : Value) (a : Option Addr) (len c : Nat) (n : Int) (w : World) (hv : v = .slice a len c) (hl : ¬ 300 < len) (hn : n < 0 ∨ 200 < n)
    (hg : w.cell? ⟨0, 0, none⟩ = some (.iface 63 (.agg #[.pointer (some ⟨2, 24, none⟩)]))) :
    Calls Tryd.prog 3 #[v, .int .i64 n] w fun e w' => e = .returned (.bool true) ∧ Below w.heap.size w w' := by
  subst hv
  have HN := Lib.hid hn
  clear hn
  go_enter Tryd.func3, Tryd.ntmps3
  go_wp2_with (first | (go_at_call 4; refine (Many_range _ _ _ HN.out).mono ?_; rintro e w' ⟨rfl, rfl⟩) | (go_at_call 5; refine (Many8_range _ _ _ HN.out).mono ?_; rintro e w' ⟨rfl, rfl⟩) | (go_at_call 6; refine (Tell_err _ _ hg).mono ?_; rintro e w1 ⟨rfl, hb⟩))
  go_loop [9] (fun i => i = .int .i64 0) (fun _ => 0)
  case atStart => exact rfl
  case round =>
    subst hrel
    go_wp2
    go_ret
    exact ⟨rfl, hb⟩

theorem pow_two_inj {m m' : Nat} (h : 2 ^ m = 2 ^ m') : m = m' := by
  rcases Nat.lt_trichotomy m m' with h1 | h1 | h1
  · have := Nat.pow_lt_pow_right (show 1 < 2 by omega) h1; omega
  · exact h1
  · have := Nat.pow_lt_pow_right (show 1 < 2 by omega) h1; omega

theorem pow2B_of {m : Nat} (h : 2 ^ m ≤ 300) : pow2B (2 ^ m) = true := by
  have hm : m < 9 := by
    rcases Nat.lt_or_ge m 9 with h1 | h1
    · exact h1
    · have := Nat.pow_le_pow_right (show 0 < 2 by omega) h1; omega
  exact List.any_eq_true.2 ⟨m, List.mem_range.2 hm, by simp⟩

theorem bits_back (x y : Nat) (w : World) (h : ab x = ab y) : Calls Tryd.prog 7 #[.float .f64 x, .float .f64 y] w fun e w' => e = .returned (.bool true) ∧ w' = w :=
  (bits_walk x y w h).mono fun _ _ ⟨h1, h2⟩ => ⟨h1, h2.symm⟩

/-- Many's contract at any length up to 300. -/
theorem Many_all (v : Value) (a : Option Addr) (len c n : Nat) (F : List Nat) (w : World) (hv : v = .slice a len c) (hF : F.length = len) (hlen : len ≤ 300) (hn : n ≤ 200)
    (hc : ∀ j, j < len → ∃ b off, a = some ⟨b, off, none⟩ ∧ b < w.heap.size ∧ w.cell? ⟨b, off + j, none⟩ = some (.float .f64 (F.getD j 0))) :
    Calls Tryd.prog 4 #[v, .int .i64 n] w (ManyIs F n (.iface 27 (.int .i64 4)) .nilIface w) := by
  subst hv
  rcases Nat.eq_zero_or_pos len with h0 | h0
  · subst h0
    obtain rfl := List.eq_nil_of_length_eq_zero hF
    exact Many_zero a c n w hn
  · obtain ⟨b, off, rfl, hb, _⟩ := hc 0 h0
    refine Many_any b off c len n F w hF h0 hlen hn (fun j hj => ?_) hb
    obtain ⟨b', off', e, _, hx⟩ := hc j hj
    cases e
    exact hx
theorem Many8_all (v : Value) (a : Option Addr) (len c n : Nat) (F : List Nat) (w : World) (hv : v = .slice a len c) (hF : F.length = len) (hlen : len ≤ 300) (hn : n ≤ 200)
    (hc : ∀ j, j < len → ∃ b off, a = some ⟨b, off, none⟩ ∧ b < w.heap.size ∧ w.cell? ⟨b, off + j, none⟩ = some (.float .f64 (F.getD j 0))) :
    Calls Tryd.prog 5 #[v, .int .i64 n] w (ManyIs F n (.int .i64 4) (.int .i64 0) w) := by
  subst hv
  rcases Nat.eq_zero_or_pos len with h0 | h0
  · subst h0
    obtain rfl := List.eq_nil_of_length_eq_zero hF
    exact Many8_zero a c n w hn
  · obtain ⟨b, off, rfl, hb, _⟩ := hc 0 h0
    refine Many8_any b off c len n F w hF h0 hlen hn (fun j hj => ?_) hb
    obtain ⟨b', off', e, _, hx⟩ := hc j hj
    cases e
    exact hx

set_option maxHeartbeats 2000000 in
theorem law_main (v : Value) (a : Option Addr) (len c n : Nat) (F : List Nat) (w : World) (hv : v = .slice a len c) (hF : F.length = len) (hlen : len ≤ 300) (hn : n ≤ 200)
    (hc : ∀ j, j < len → ∃ b off, a = some ⟨b, off, none⟩ ∧ b < w.heap.size ∧ w.cell? ⟨b, off + j, none⟩ = some (.float .f64 (F.getD j 0)))
    (hg : w.cell? ⟨0, 0, none⟩ = some (.iface 63 (.agg #[.pointer (some ⟨2, 24, none⟩)]))) :
    Calls Tryd.prog 3 #[v, .int .i64 n] w fun e w' => e = .returned (.bool true) ∧ Below w.heap.size w w' := by
  have h0 : 0 < w.heap.size := by
    rcases Nat.eq_zero_or_pos w.heap.size with h0 | h
    · simp [World.cell?, h0] at hg
    · exact h
  have hl : ¬ 300 < len := by omega
  have HV := Lib.hid hv
  have HC := Lib.hid hc
  have HG := Lib.hid hg
  have HF := Lib.hid hF
  clear hc hg hF
  subst hv
  go_enter Tryd.func3, Tryd.ntmps3
  go_wp2_with fail
  refine (Many_all _ a len c n F _ rfl HF.out hlen hn HC.out).mono ?_
  intro e w1 hm
  rcases hm with ⟨hp, rfl, hb1⟩ | ⟨m, hm, v1, Y1, rfl, ho1, hY1, hb1⟩
  · have HP := Lib.hid hp
    have HB1 := Lib.hid hb1
    clear hp hb1
    go_wp2_with fail
    refine (Many8_all _ a len c n F _ rfl HF.out hlen hn (fun j hj => ?_)).mono ?_
    · obtain ⟨b, off, e, hb, hx⟩ := HC.out j hj
      exact ⟨b, off, e, by have := HB1.out.size; omega, (HB1.out.cell hb).trans hx⟩
    intro e w2 hm
    rcases hm with ⟨_, rfl, hb2⟩ | ⟨m', hm', _⟩
    · have HB2 := Lib.hid hb2
      have hg2 : w2.cell? ⟨0, 0, none⟩ = some (.iface 63 (.agg #[.pointer (some ⟨2, 24, none⟩)])) := by
        rw [HB2.out.cell (show 0 < w1.heap.size by have := HB1.out.size; omega), HB1.out.cell h0]; exact HG.out
      clear hb2
      go_wp2_with (go_at_call 6; refine (Tell_err _ _ hg2).mono ?_; rintro e w3 ⟨rfl, hb3⟩)
      have HB3 := Lib.hid hb3
      clear hb3 hg2
      go_loop [9] (fun i => i = .int .i64 0) (fun _ => 0)
      case atStart => exact rfl
      case round =>
        subst hrel
        go_wp2
        go_ret
        exact ⟨rfl, (HB1.out.trans (HB2.out.mono HB1.out.size)).trans (HB3.out.mono (Nat.le_trans HB1.out.size HB2.out.size))⟩
    · exfalso
      have h1 := HP.out
      rw [hm', pow2B_of (by rw [← hm', HF.out]; exact hlen)] at h1
      cases h1
  · have HB1 := Lib.hid hb1
    have HM := Lib.hid hm
    have HY1 := Lib.hid hY1
    have HL : Hid ((many m n (F.map ab)).length = len) := by rw [many_length _ _ _ (by rw [List.length_map]; exact HM.out), ← HM.out]; exact HF.out
    rw [HL.out] at ho1
    have HO1 := Lib.hid ho1
    have hl0 : 0 < len := by rw [← HF.out, HM.out]; exact Nat.two_pow_pos m
    obtain ⟨g1, cap1, rfl⟩ := own_shape ho1 hl0
    clear hb1 hm hY1 ho1
    go_wp2_with fail
    refine (Many8_all _ a len c n F _ rfl HF.out hlen hn (fun j hj => ?_)).mono ?_
    · obtain ⟨b, off, e, hb, hx⟩ := HC.out j hj
      exact ⟨b, off, e, by have := HB1.out.size; omega, (HB1.out.cell hb).trans hx⟩
    intro e w2 hm
    rcases hm with ⟨hp, _⟩ | ⟨m', hm', v2, Y2, rfl, ho2, hY2, hb2⟩
    · exfalso
      rw [HM.out, pow2B_of (by rw [← HM.out, HF.out]; exact hlen)] at hp
      cases hp
    · obtain rfl : m = m' := pow_two_inj (HM.out.symm.trans hm')
      rw [HL.out] at ho2
      have HO1' := Lib.hid (own_below HO1.out hb2)
      have HB2 := Lib.hid hb2
      have HY2 := Lib.hid hY2
      have HO2 := Lib.hid ho2
      obtain ⟨g2, cap2, rfl⟩ := own_shape ho2 hl0
      clear hb2 hY2 ho2 hm'
      go_wp2_with (go_at_call 6; refine (Tell_nil _).mono ?_; rintro e w' ⟨rfl, rfl⟩)
      go_loopw [9] (fun i wr => ∃ k : Nat, k ≤ len ∧ i = .int .i64 k ∧ Below w2.heap.size w2 wr) (fun i _ => len - (intOf i).toNat)
      case atStart => exact ⟨0, Nat.zero_le _, rfl, Below.refl _ _⟩
      case round =>
        obtain ⟨k, hk, rfl, hbr⟩ := hrel
        have HBR := Lib.hid hbr
        clear hbr
        by_cases hlt : k < len
        · obtain ⟨x, hx⟩ : ∃ x, Y1.getD k 0 = x := ⟨_, rfl⟩
          obtain ⟨y, hy⟩ : ∃ y, Y2.getD k 0 = y := ⟨_, rfl⟩
          have hcx : wr.cell? ⟨g1, k, none⟩ = some (.float .f64 x) := by
            have hlen1 := ownf_len HO1'.out
            rw [HBR.out.cell (HO1'.out.lt g1 rfl).2, HO1'.out.cellAt k (by omega), ← hx]
            simp [List.getD, List.getElem?_eq_getElem (show k < Y1.length by omega), fv]
          have hcy : wr.cell? ⟨g2, k, none⟩ = some (.float .f64 y) := by
            have hlen2 := ownf_len HO2.out
            rw [HBR.out.cell (HO2.out.lt g2 rfl).2, HO2.out.cellAt k (by omega), ← hy]
            simp [List.getD, List.getElem?_eq_getElem (show k < Y2.length by omega), fv]
          have HXY : Hid (ab x = ab y) := by
            have hlen1 := ownf_len HO1'.out
            have hlen2 := ownf_len HO2.out
            have e := HY1.out.trans HY2.out.symm
            have e2 := congrArg (fun l => l[k]?) e
            simp only [List.getElem?_map, List.getElem?_eq_getElem (show k < Y1.length by omega), List.getElem?_eq_getElem (show k < Y2.length by omega), Option.map_some, Option.some.injEq] at e2
            rw [← hx, ← hy]
            simp only [List.getD, List.getElem?_eq_getElem (show k < Y1.length by omega), List.getElem?_eq_getElem (show k < Y2.length by omega), Option.getD_some]
            exact e2
          clear hx hy
          have hk0 : (0 : Int) ≤ (k : Int) := Int.natCast_nonneg _
          have hk1 : (k : Int) < (len : Int) := by omega
          go_wp2_with fail
          go_quiet ((go_at_call 7; exact Calls.quiet_of_same (bits_back _ _ _ HXY.out)))
          go_wp2
          go_roundw
          case rel => exact ⟨k + 1, by omega, by go_num, below_drewN HBR.out _⟩
          case measure => simp [intOf]; omega
        · go_wp2
          go_ret
          exact ⟨rfl, (HB1.out.trans (HB2.out.mono HB1.out.size)).trans (HBR.out.mono (Nat.le_trans HB1.out.size HB2.out.size))⟩
end Go.Proofs.YtijdmnimiipinaaDoor
