/-
  The walks of length, bit, TrailingZeroBits, Uint64, IsInt64, Int64: what they answer of the number that the words read as. Conditions: as each theorem says.
-/
import Derived.Test.YtijhkahaccclmaaGreatDoorSet
set_option linter.unusedSimpArgs false
set_option linter.unusedVariables false
set_option linter.unnecessarySimpa false
namespace Go.Proofs.YtijhkahaccclmaaGreatDoor
open Go Go.RowKit

theorem worth_lt {l : List Nat} (h : ∀ j, l.getD j 0 < 4294967296) : worth l < 4294967296 ^ l.length := by
  induction l with
  | nil => simp [worth]
  | cons x l ih =>
    have hx := h 0
    have ih' := ih (fun j => by have := h (j + 1); simpa using this)
    simp only [List.getD_cons_zero] at hx
    rw [worth, List.length_cons, Nat.pow_succ]
    omega

theorem words_open {w : World} {v : Value} {l : List Nat} (h : WordsIn w v l) : ∃ a c, v = .slice a l.length c ∧ l.length ≤ c ∧
    (∀ j, j < l.length → ∃ b o, a = some ⟨b, o, none⟩ ∧ b < w.heap.size ∧ w.cell? ⟨b, o + j, none⟩ = some (.int .u32 ((l.getD j 0 : Nat) : Int))) ∧ ∀ j, l.getD j 0 < 4294967296 :=
  let ⟨⟨a, c, h1, h2, h3⟩, h4⟩ := h
  ⟨a, c, h1, h2, h3, h4⟩

theorem len_bounds {l : List Nat} {q x j : Nat} (hq : l.length = q + 1) (hx : l.getD q 0 = x) (hl : ∀ j, l.getD j 0 < 4294967296) (hx0 : x ≠ 0) (h1 : x / 2 ^ j = 0) (h2 : j = 0 ∨ 2 ^ (j - 1) ≤ x) :
    worth l < 2 ^ (q * 32 + j) ∧ (q * 32 + j = 0 ∨ 2 ^ (q * 32 + j - 1) ≤ worth l) := by
  have e := worth_take_succ l q
  rw [← hq, List.take_length, hx] at e
  have e2 := worth_lt (l := l.take q) (fun j => take_lt q hl j)
  rw [List.length_take, Nat.min_eq_left (by omega)] at e2
  have hj : x < 2 ^ j := by
    rcases Nat.lt_or_ge x (2 ^ j) with h | h
    · exact h
    · have := Nat.div_pos h (Nat.pow_pos (by decide)); omega
  have hB : (2 : Nat) ^ (q * 32) = 4294967296 ^ q := by rw [Nat.mul_comm, Nat.pow_mul]
  have hj0 : 0 < j := by
    rcases Nat.eq_zero_or_pos j with h | h
    · subst h; simp at hj; omega
    · exact h
  constructor
  · rw [Nat.pow_add, hB, e]
    have : 4294967296 ^ q * (x + 1) ≤ 4294967296 ^ q * 2 ^ j := Nat.mul_le_mul_left _ hj
    rw [Nat.mul_add] at this
    omega
  · right
    rcases h2 with h | h
    · omega
    · rw [show q * 32 + j - 1 = q * 32 + (j - 1) by omega, Nat.pow_add, hB, e]
      have : 4294967296 ^ q * 2 ^ (j - 1) ≤ 4294967296 ^ q * x := Nat.mul_le_mul_left _ h
      omega

theorem wrap_u64 (n : Nat) (h : n < 18446744073709551616) : IntKind.u64.wrap (n : Int) = (n : Int) := by
  simp only [IntKind.wrap, IntKind.bits, IntKind.signed, Bool.false_and, Bool.false_eq_true, if_false]
  have : ((2 : Int) ^ 64) = 18446744073709551616 := by decide
  rw [this]; omega
theorem bits_one (n : Nat) (h : n < 18446744073709551616) : bits .and .u64 (IntKind.u64.wrap (n : Int)) 1 = ((n % 2 : Nat) : Int) := by
  rw [wrap_u64 n h]
  unfold bits
  have e1 : BitVec.ofInt IntKind.u64.bits (n : Int) = BitVec.ofNat 64 n := by rw [BitVec.ofInt_natCast]; rfl
  have e2 : BitVec.ofInt IntKind.u64.bits (1 : Int) = BitVec.ofNat 64 1 := rfl
  rw [e1, e2]
  show IntKind.u64.wrap ((BitVec.ofNat 64 n &&& BitVec.ofNat 64 1).toNat : Int) = _
  rw [BitVec.toNat_and, BitVec.toNat_ofNat, BitVec.toNat_ofNat, Nat.mod_eq_of_lt (show n < 2 ^ 64 from h), show 1 % 2 ^ 64 = 1 by decide, Nat.and_one_is_mod, wrap_u64 _ (by omega)]
theorem bits_or (x y : Nat) (hx : x < 4294967296) (hy : y < 4294967296) : bits .or .u64 (x : Int) ((y * 4294967296 : Nat) : Int) = ((x + 4294967296 * y : Nat) : Int) := by
  unfold bits
  have e1 : BitVec.ofInt IntKind.u64.bits (x : Int) = BitVec.ofNat 64 x := by rw [BitVec.ofInt_natCast]; rfl
  have e2 : BitVec.ofInt IntKind.u64.bits ((y * 4294967296 : Nat) : Int) = BitVec.ofNat 64 (y * 4294967296) := by rw [BitVec.ofInt_natCast]; rfl
  rw [e1, e2]
  show IntKind.u64.wrap ((BitVec.ofNat 64 x ||| BitVec.ofNat 64 (y * 4294967296)).toNat : Int) = _
  have e3 : x ||| y * 4294967296 = x + 4294967296 * y := by
    have := Nat.two_pow_add_eq_or_of_lt (i := 32) (b := x) (by simpa using hx) y
    rw [Nat.or_comm, Nat.mul_comm y, Nat.add_comm, show (4294967296 : Nat) = 2 ^ 32 by decide]
    exact this.symm
  have e4 : (2 : Nat) ^ 64 = 18446744073709551616 := by decide
  rw [BitVec.toNat_or, BitVec.toNat_ofNat, BitVec.toNat_ofNat, Nat.mod_eq_of_lt (show x < 2 ^ 64 by omega), Nat.mod_eq_of_lt (show y * 4294967296 < 2 ^ 64 by omega), e3, wrap_u64 _ (by omega)]

def LenA (x : Nat) (n t : Value) : Prop := ∃ j : Nat, j ≤ 32 ∧ n = .int .i64 (j : Int) ∧ t = .int .u32 ((x / 2 ^ j : Nat) : Int) ∧ (j = 0 ∨ 2 ^ (j - 1) ≤ x)

set_option maxHeartbeats 1000000 in
theorem length_walk (v : Value) (N K : Nat) (w : World) (hv : NumAt w v N) (hl : N < 4294967296 ^ K) (hK : K ≤ 100000) :
    Calls Tryz.prog 58 #[v] w fun e w' => (∃ n : Nat, e = .returned (.int .i64 n) ∧ N < 2 ^ n ∧ (n = 0 ∨ 2 ^ (n - 1) ≤ N)) ∧ w = w' := by
  obtain ⟨l, hwords, hw, hlen, hlast⟩ := num_len hv hl
  obtain ⟨a, c, rfl, hc, hall, hlt⟩ := words_open hwords
  clear hwords
  clear hl hv
  have HA := Lib.hid hall
  have HL := Lib.hid hlt
  have HW := Lib.hid hw
  clear hall hlt hw
  rcases Nat.eq_zero_or_pos l.length with h0 | h0
  · obtain rfl := List.eq_nil_of_length_eq_zero h0
    have e : N = 0 := HW.out.symm
    subst e
    clear HA HL HW hlast
    go_enter Tryz.func58, Tryz.ntmps58
    go_wp2
    go_ret
    exact ⟨⟨0, rfl, by decide, .inl rfl⟩, rfl⟩
  · obtain ⟨q, hq⟩ : ∃ q, l.length = q + 1 := ⟨l.length - 1, by omega⟩
    obtain ⟨b, o, rfl, _, hx⟩ := HA.out q (by omega)
    obtain ⟨x, hxx⟩ : ∃ x, l.getD q 0 = x := ⟨_, rfl⟩
    have hxl := HL.out q
    rw [hxx] at hx hxl
    have hx0 : x ≠ 0 := by
      rcases hlast with h | h
      · omega
      · rw [hq, Nat.add_sub_cancel, hxx] at h; exact h
    have HX := Lib.hid hxx
    clear hxx hlast
    rw [hq]
    rw [hq] at hlen
    have HQ := Lib.hid hq
    clear hq h0
    have hq0 : (0 : Int) ≤ (q : Int) := Int.natCast_nonneg _
    have hqe : ((q : Int) + 1 == 0) = false := by rw [beq_eq_false_iff_ne]; omega
    go_enter Tryz.func58, Tryz.ntmps58
    go_wp2
    go_loop [3, 4] (LenA x) (fun _ t => (intOf t).toNat)
    case atStart => exact ⟨0, by omega, rfl, by simp, .inl rfl⟩
    case round =>
      obtain ⟨j, hj, rfl, rfl, hj1⟩ := hrel
      obtain ⟨t, ht⟩ : ∃ t, x / 2 ^ j = t := ⟨_, rfl⟩
      rw [ht]
      have HT := Lib.hid ht
      have HJ := Lib.hid hj1
      clear ht hj1
      have ht0 : (0 : Int) ≤ (t : Int) := Int.natCast_nonneg _
      have hj0 : (0 : Int) ≤ (j : Int) := Int.natCast_nonneg _
      by_cases h : t = 0
      · subst h
        go_wp2
        go_ret
        have e := len_bounds HQ.out HX.out HL.out hx0 HT.out HJ.out
        rw [HW.out] at e
        exact ⟨⟨q * 32 + j, by go_num, e⟩, rfl⟩
      · have h' : ¬ (t : Int) = 0 := by omega
        go_wp2
        go_round
        case rel =>
          have hp : 2 ^ j ≤ x := by
            rcases Nat.lt_or_ge x (2 ^ j) with h1 | h1
            · exfalso; have := HT.out; rw [Nat.div_eq_of_lt h1] at this; omega
            · exact h1
          have hj32 : j < 32 := by
            rcases Nat.lt_or_ge j 32 with h1 | h1
            · exact h1
            · have := Nat.pow_le_pow_right (show 0 < 2 by decide) h1; omega
          exact ⟨j + 1, hj32, by go_num, by rw [Nat.pow_succ, ← Nat.div_div_eq_div_mul, HT.out]; rfl, .inr (by rw [Nat.add_sub_cancel]; exact hp)⟩
        case measure => simp [intOf]; omega

theorem bit_worth {l : List Nat} (q r : Nat) (hr : r < 32) (hl : ∀ j, l.getD j 0 < 4294967296) : worth l / 2 ^ (32 * q + r) % 2 = l.getD q 0 / 2 ^ r % 2 := by
  induction q generalizing l with
  | zero =>
    cases l with
    | nil => simp [worth]
    | cons x l =>
      rw [Nat.mul_zero, Nat.zero_add, worth, List.getD_cons_zero]
      have e : (4294967296 : Nat) = 2 ^ r * (2 * 2 ^ (31 - r)) := by
        rw [← Nat.pow_succ', ← Nat.pow_add, show r + (31 - r).succ = 32 by omega]
      rw [e, Nat.mul_assoc, Nat.add_mul_div_left _ _ (Nat.pow_pos (by decide)), Nat.mul_assoc, Nat.add_mul_mod_self_left]
  | succ q ih =>
    cases l with
    | nil => simp [worth]
    | cons x l =>
      have hx := hl 0
      simp only [List.getD_cons_zero] at hx
      rw [worth, List.getD_cons_succ, ← ih (fun j => by have := hl (j + 1); simpa using this), show 32 * (q + 1) + r = 32 + (32 * q + r) by omega, Nat.pow_add, ← Nat.div_div_eq_div_mul, show (2 : Nat) ^ 32 = 4294967296 by decide,
        Nat.add_mul_div_left _ _ (by decide), Nat.div_eq_of_lt hx, Nat.zero_add]

set_option maxHeartbeats 1000000 in
theorem bit_walk (v : Value) (N K i : Nat) (w : World) (hv : NumAt w v N) (hl : N < 4294967296 ^ K) (hK : K ≤ 100000) (hi : i < 6400000) (hb : 2 ^ i ≤ N) :
    Calls Tryz.prog 79 #[v, .int .i64 (i : Int)] w fun e w' => e = .returned (.int .u64 ((N / 2 ^ i % 2 : Nat) : Int)) ∧ w' = w := by
  obtain ⟨l, hwords, hw, hlen, hlast⟩ := num_len hv hl
  obtain ⟨a, c, rfl, hc, hall, hlt⟩ := words_open hwords
  clear hwords
  have hql : i / 32 < l.length := by
    rcases Nat.lt_or_ge (i / 32) l.length with h | h
    · exact h
    · exfalso
      have h1 := worth_lt hlt
      have h2 : (4294967296 : Nat) ^ l.length ≤ 2 ^ i := by
        rw [show (4294967296 : Nat) = 2 ^ 32 by decide, ← Nat.pow_mul]
        exact Nat.pow_le_pow_right (by decide) (by omega)
      omega
  have e := bit_worth (i / 32) (i % 32) (Nat.mod_lt _ (by decide)) hlt
  rw [Nat.div_add_mod, hw] at e
  rw [e]
  clear hw hlast hl hv e hb
  obtain ⟨q, hq⟩ : ∃ q, i / 32 = q := ⟨_, rfl⟩
  obtain ⟨r, hr⟩ : ∃ r, i % 32 = r := ⟨_, rfl⟩
  rw [hq] at hql ⊢
  rw [hr]
  have hir : i = 32 * q + r := by omega
  have hr32 : r < 32 := by omega
  subst hir
  clear hq hr
  obtain ⟨b, o, rfl, _, hx⟩ := hall q hql
  obtain ⟨x, hxx⟩ : ∃ x, l.getD q 0 = x := ⟨_, rfl⟩
  have hxl := hlt q
  rw [hxx] at hx hxl
  rw [hxx]
  have HC := Lib.hid hc
  clear hall hlt hxx hc
  have hq0 : (0 : Int) ≤ (q : Int) := Int.natCast_nonneg _
  have hr0 : (0 : Int) ≤ (r : Int) := Int.natCast_nonneg _
  have hr1 : (r : Int) < 32 := by omega
  have hq1 : (q : Int) < (l.length : Int) := by omega
  have hi0 : (0 : Int) ≤ 32 * (q : Int) + (r : Int) := by omega
  have hd : (32 * (q : Int) + (r : Int)) / 32 = q := by omega
  have hd2 : (32 * (q : Int) + (r : Int)).tdiv 32 = q := by rw [Int.tdiv_eq_ediv_of_nonneg hi0]; exact hd
  have hm : (32 * (q : Int) + (r : Int)) % 32 = r := by omega
  have hm2 : (32 * (q : Int) + (r : Int)).tmod 32 = r := by rw [Int.tmod_eq_emod_of_nonneg hi0]; exact hm
  go_enter Tryz.func79, Tryz.ntmps79
  go_wp2
  go_ret
  exact ⟨by rw [show ((x : Int) / 2 ^ r) = ((x / 2 ^ r : Nat) : Int) by simp, bits_one _ (Nat.lt_of_le_of_lt (Nat.div_le_self _ _) (by omega))]; rfl, rfl⟩

theorem two_pow_le_of_zeros {N k : Nat} (h0 : 0 < N) (h : ∀ j, j < k → N / 2 ^ j % 2 = 0) : 2 ^ k ≤ N := by
  have key : ∀ k, (∀ j, j < k → N / 2 ^ j % 2 = 0) → 2 ^ k * (N / 2 ^ k) = N := by
    intro k
    induction k with
    | zero => intro _; simp
    | succ k ih =>
      intro h
      have e := ih (fun j hj => h j (by omega))
      have e2 := h k (by omega)
      rw [Nat.pow_succ, ← Nat.div_div_eq_div_mul, Nat.mul_assoc]
      have : 2 * (N / 2 ^ k / 2) = N / 2 ^ k := by omega
      rw [this]; exact e
  have e := key k h
  rcases Nat.eq_zero_or_pos (N / 2 ^ k) with h1 | h1
  · rw [h1] at e; omega
  · have : 2 ^ k * 1 ≤ 2 ^ k * (N / 2 ^ k) := Nat.mul_le_mul_left _ h1
    omega

/-- An Int of the package: its sign and its words. -/
def IntAt (w : World) (b : Nat) (neg : Bool) (N : Nat) : Prop := ∃ v, w.cell? ⟨b, 0, none⟩ = some (.bool neg) ∧ w.cell? ⟨b, 1, none⟩ = some v ∧ NumAt w v N

set_option maxHeartbeats 1000000 in
theorem tzb_walk (b : Nat) (neg : Bool) (N : Nat) (w : World) (hv : IntAt w b neg N) (h0 : 0 < N) (hl : N < 18446744073709551616) :
    Calls Tryz.prog 59 #[.pointer (some ⟨b, 0, none⟩)] w fun e w' => (∃ t : Nat, e = .returned (.int .u64 t) ∧ N / 2 ^ t % 2 = 1 ∧ ∀ j, j < t → N / 2 ^ j % 2 = 0) ∧ w' = w := by
  obtain ⟨v, hc0, hc1, hn⟩ := hv
  have hl2 : N < 4294967296 ^ 2 := by rw [show (4294967296 : Nat) ^ 2 = 18446744073709551616 by decide]; exact hl
  obtain ⟨l, hwords, hw, hlen, hlast⟩ := num_len hn hl2
  have hlp : 0 < l.length := by
    rcases Nat.eq_zero_or_pos l.length with h | h
    · obtain rfl := List.eq_nil_of_length_eq_zero h
      rw [← hw] at h0; simp [worth] at h0
    · exact h
  obtain ⟨a, c, rfl, hc, hall, hlt⟩ := words_open hwords
  have HN := Lib.hid hn
  have HL2 := Lib.hid hl2
  clear hwords hall hlt hlast hw hn hl2
  have hle : ((l.length : Int) == 0) = false := by rw [beq_eq_false_iff_ne]; omega
  have hle2 : ¬ l = [] := by intro e; rw [e] at hlp; simp at hlp
  go_enter Tryz.func59, Tryz.ntmps59
  go_wp2
  go_loopw [3] (fun i wr => ∃ k : Nat, i = .int .u64 (k : Int) ∧ wr = w ∧ ∀ j, j < k → N / 2 ^ j % 2 = 0) (fun i _ => 64 - (intOf i).toNat)
  case atStart => exact ⟨0, rfl, rfl, fun j hj => absurd hj (Nat.not_lt_zero _)⟩
  case round =>
    obtain ⟨k, rfl, rfl, hz⟩ := hrel
    have HZ := Lib.hid hz
    clear hz
    have hp : 2 ^ k ≤ N := two_pow_le_of_zeros h0 HZ.out
    have hk : k < 64 := by
      rcases Nat.lt_or_ge k 64 with h | h
      · exact h
      · have := Nat.pow_le_pow_right (show 0 < 2 by decide) h; omega
    have hk0 : (0 : Int) ≤ (k : Int) := Int.natCast_nonneg _
    have hk1 : (k : Int) < 64 := by omega
    have hb := bit_walk _ N 2 k wr HN.out HL2.out (by omega) (by omega) hp
    obtain ⟨d, hd⟩ : ∃ d, N / 2 ^ k % 2 = d := ⟨_, rfl⟩
    rw [hd] at hb
    have HB := Lib.hid hb
    have HD := Lib.hid hd
    have hd2 : d < 2 := by omega
    clear hb hd
    by_cases hd0 : d = 0
    · subst hd0
      go_wp2_with (go_at_call 79; refine HB.out.mono ?_; rintro e w' ⟨rfl, rfl⟩)
      go_roundw
      case rel =>
        refine ⟨k + 1, by go_num, by first | trivial | rfl, fun j hj => ?_⟩
        rcases Nat.lt_or_ge j k with h | h
        · exact HZ.out j h
        · obtain rfl : j = k := by omega
          exact HD.out
      case measure => simp [intOf]; omega
    · obtain rfl : d = 1 := by omega
      go_wp2_with (go_at_call 79; refine HB.out.mono ?_; rintro e w' ⟨rfl, rfl⟩)
      go_ret
      exact ⟨⟨k, rfl, HD.out, HZ.out⟩, rfl⟩

set_option maxHeartbeats 1000000 in
theorem uint64_walk (b : Nat) (neg : Bool) (N : Nat) (w : World) (hv : IntAt w b neg N) (hl : N < 18446744073709551616) :
    Calls Tryz.prog 60 #[.pointer (some ⟨b, 0, none⟩)] w fun e w' => e = .returned (.int .u64 (N : Int)) ∧ w = w' := by
  obtain ⟨v, hc0, hc1, hn⟩ := hv
  obtain ⟨l, hwords, hw, hlen, hlast⟩ := num_len hn (show N < 4294967296 ^ 2 by rw [show (4294967296 : Nat) ^ 2 = 18446744073709551616 by decide]; exact hl)
  obtain ⟨a, c, rfl, hc, hall, hlt⟩ := words_open hwords
  clear hn hlast hwords
  match l, hlen with
  | [], _ =>
    obtain rfl : N = 0 := hw.symm
    clear hall hlt hw
    go_enter Tryz.func60, Tryz.ntmps60
    go_wp2
    go_ret
    exact ⟨rfl, rfl⟩
  | [x], _ =>
    obtain rfl : N = x := by rw [← hw]; simp [worth]
    obtain ⟨g, o, rfl, _, hx⟩ := hall 0 (by simp)
    have hxl := hlt 0
    simp only [List.getD_cons_zero, Nat.add_zero] at hx hxl
    clear hall hlt hw
    have hx0 : (0 : Int) ≤ (N : Int) := Int.natCast_nonneg _
    have hx1 : (N : Int) < 4294967296 := by omega
    go_enter Tryz.func60, Tryz.ntmps60
    go_wp2
    go_ret
    exact ⟨rfl, rfl⟩
  | [x, y], _ =>
    have hw' : N = x + 4294967296 * y := by rw [← hw]; simp [worth]
    obtain ⟨g, o, rfl, _, hx⟩ := hall 0 (by simp)
    obtain ⟨g', o', e, _, hy⟩ := hall 1 (by simp)
    cases e
    have hxl := hlt 0
    have hyl := hlt 1
    simp only [List.getD_cons_zero, List.getD_cons_succ, Nat.add_zero] at hx hxl hy hyl
    clear hall hlt hw
    have hx0 : (0 : Int) ≤ (x : Int) := Int.natCast_nonneg _
    have hx1 : (x : Int) < 4294967296 := by omega
    have hy0 : (0 : Int) ≤ (y : Int) := Int.natCast_nonneg _
    have hy1 : (y : Int) < 4294967296 := by omega
    go_enter Tryz.func60, Tryz.ntmps60
    go_wp2
    go_ret
    refine ⟨?_, rfl⟩
    rw [show ((y : Int) * 4294967296) = ((y * 4294967296 : Nat) : Int) by simp, bits_or x y hxl hyl, ← hw']
    rfl

def fits (neg : Bool) (N : Nat) : Bool := decide (N < 9223372036854775808) || (neg && decide (N = 9223372036854775808))

set_option maxHeartbeats 1000000 in
theorem isint64_walk (b : Nat) (neg : Bool) (N K : Nat) (w : World) (hv : IntAt w b neg N) (hl : N < 4294967296 ^ K) (hK : K ≤ 100000) :
    Calls Tryz.prog 30 #[.pointer (some ⟨b, 0, none⟩)] w fun e w' => e = .returned (.bool (fits neg N)) ∧ w = w' := by
  have hv' := Lib.hid hv
  obtain ⟨v, hc0, hc1, hn⟩ := hv
  go_enter Tryz.func30, Tryz.ntmps30
  go_wp2_with fail
  refine (length_walk v N K _ hn hl hK).mono ?_
  rintro e w' ⟨⟨n, rfl, h1, h2⟩, rfl⟩
  have hn0 : (0 : Int) ≤ (n : Int) := Int.natCast_nonneg _
  have H1 := Lib.hid h1
  have H2 := Lib.hid h2
  clear h1 h2 hl hn
  rcases Nat.lt_trichotomy n 64 with h | h | h
  · have hf : fits neg N = true := by
      have : N < 2 ^ 63 := Nat.lt_of_lt_of_le H1.out (Nat.pow_le_pow_right (by decide) (by omega))
      unfold fits
      rw [decide_eq_true (show N < 9223372036854775808 from this)]; rfl
    have HF := Lib.hid hf
    have hn1 : (n : Int) < 64 := by omega
    clear hf h
    go_wp2
    go_ret
    exact ⟨by rw [HF.out]; rfl, rfl⟩
  · subst h
    have hN1 : 9223372036854775808 ≤ N := by
      rcases H2.out with h | h
      · omega
      · exact h
    have hN2 : N < 18446744073709551616 := H1.out
    cases neg with
    | false =>
      have hf : fits false N = false := by unfold fits; rw [decide_eq_false (by omega)]; rfl
      have HF := Lib.hid hf
      clear hf
      go_wp2
      go_ret
      exact ⟨by rw [HF.out]; rfl, rfl⟩
    | true =>
      have HT := Lib.hid (tzb_walk b true N w hv'.out (by omega) hN2)
      go_wp2_with fail
      refine HT.out.mono ?_
      rintro e w' ⟨⟨t, rfl, ht1, ht2⟩, rfl⟩
      have ht0 : (0 : Int) ≤ (t : Int) := Int.natCast_nonneg _
      have hf : fits true N = decide (t = 63) := by
        unfold fits
        rw [decide_eq_false (show ¬ N < 9223372036854775808 by omega), Bool.false_or, Bool.true_and]
        refine decide_eq_decide.2 ⟨fun h => ?_, fun h => ?_⟩
        · subst h
          rcases Nat.lt_trichotomy t 63 with h | h | h
          · exfalso
            rw [show (9223372036854775808 : Nat) = 2 ^ t * (2 * 2 ^ (62 - t)) by rw [← Nat.pow_succ', ← Nat.pow_add, show t + (62 - t).succ = 63 by omega], Nat.mul_div_cancel_left _ (Nat.pow_pos (by decide)), Nat.mul_mod_right] at ht1
            omega
          · exact h
          · exfalso
            have := ht2 63 h
            omega
        · subst h
          have := two_pow_le_of_zeros (show 0 < N by omega) ht2
          have e := ht2 62 (by omega)
          have key : ∀ k, k ≤ 63 → 2 ^ k * (N / 2 ^ k) = N := by
            intro k
            induction k with
            | zero => intro _; simp
            | succ k ih =>
              intro h
              have e := ih (by omega)
              have e2 := ht2 k (by omega)
              rw [Nat.pow_succ, ← Nat.div_div_eq_div_mul, Nat.mul_assoc]
              have : 2 * (N / 2 ^ k / 2) = N / 2 ^ k := by omega
              rw [this]; exact e
          have := key 63 (Nat.le_refl _)
          omega
      have HF := Lib.hid hf
      have HT1 := Lib.hid ht1
      have HT2 := Lib.hid ht2
      clear ht1 ht2 hf
      by_cases h63 : t = 63
      · subst h63
        go_wp2
        go_ret
        exact ⟨by rw [HF.out]; rfl, rfl⟩
      · have h63' : ((t : Int) == 63) = false := by rw [beq_eq_false_iff_ne]; omega
        go_wp2
        go_ret
        exact ⟨by rw [HF.out, decide_eq_false h63]; rfl, rfl⟩
  · have hf : fits neg N = false := by
      have h64 : 2 ^ 64 ≤ 2 ^ (n - 1) := Nat.pow_le_pow_right (by decide) (by omega)
      have e4 : (2 : Nat) ^ 64 = 18446744073709551616 := by decide
      rcases H2.out with h' | h'
      · omega
      · unfold fits
        rw [decide_eq_false (by omega), decide_eq_false (by omega)]
        cases neg <;> rfl
    have HF := Lib.hid hf
    have hn1 : decide ((n : Int) < 64) = false := decide_eq_false (by omega)
    have hn2 : ((n : Int) == 64) = false := by rw [beq_eq_false_iff_ne]; omega
    clear hf h
    go_wp2
    go_ret
    exact ⟨by rw [HF.out]; rfl, rfl⟩

/-- The number with its sign. -/
def sgn (neg : Bool) (N : Nat) : Int := if neg then -(N : Int) else N

set_option maxHeartbeats 1000000 in
theorem int64_walk (b : Nat) (neg : Bool) (N : Nat) (w : World) (hv : IntAt w b neg N) (hf : fits neg N = true) :
    Calls Tryz.prog 31 #[.pointer (some ⟨b, 0, none⟩)] w fun e w' => e = .returned (.int .i64 (sgn neg N)) ∧ w = w' := by
  have hl : N < 18446744073709551616 := by
    unfold fits at hf
    simp only [Bool.or_eq_true, Bool.and_eq_true, decide_eq_true_eq] at hf
    omega
  have HU := Lib.hid (uint64_walk b neg N w hv hl)
  obtain ⟨v, hc0, hc1, hn⟩ := hv
  clear hn hc1
  have hN0 : (0 : Int) ≤ (N : Int) := Int.natCast_nonneg _
  cases neg with
  | false =>
    have hN : (N : Int) < 9223372036854775808 := by
      unfold fits at hf
      simp only [Bool.or_eq_true, Bool.and_eq_true, decide_eq_true_eq, Bool.false_eq_true, false_and, or_false] at hf
      omega
    clear hf hl
    go_enter Tryz.func31, Tryz.ntmps31
    go_wp2_with (go_at_call 60; refine HU.out.mono ?_; rintro e w' ⟨rfl, rfl⟩)
    go_ret
    exact ⟨rfl, rfl⟩
  | true =>
    by_cases hN : N = 9223372036854775808
    · subst hN
      clear hf hl
      go_enter Tryz.func31, Tryz.ntmps31
      go_wp2_with (go_at_call 60; refine HU.out.mono ?_; rintro e w' ⟨rfl, rfl⟩)
      go_ret
      refine ⟨?_, rfl⟩
      show Ending.returned (.int .i64 (wrap64 (-wrap64 9223372036854775808))) = .returned (.int .i64 (-9223372036854775808))
      rw [show wrap64 (-wrap64 9223372036854775808) = -9223372036854775808 by unfold wrap64; omega]
    · have hN1 : (N : Int) < 9223372036854775808 := by
        unfold fits at hf
        simp only [Bool.or_eq_true, Bool.and_eq_true, decide_eq_true_eq] at hf
        omega
      clear hf hl
      go_enter Tryz.func31, Tryz.ntmps31
      go_wp2_with (go_at_call 60; refine HU.out.mono ?_; rintro e w' ⟨rfl, rfl⟩)
      go_ret
      exact ⟨rfl, rfl⟩
end Go.Proofs.YtijhkahaccclmaaGreatDoor
