/-
  The walks of the two functions on roots of one: the reference's Root at a power of two, the program's list of turns. Condition: the number is a power of two, 2 to 256.
-/
import Derived.Test.YtijdmnimiipinaaDoorLeaves
namespace Go.Proofs.YtijdmnimiipinaaDoor
open Go Go.RowKit

def czero : Option Nat × Option Nat := (ab 0, ab 0)
def cone : Option Nat × Option Nat := (ab 4607182418800017408, ab 0)
/-- The root of 2 ^ (k + 1). -/
def croot : Nat → Option Nat × Option Nat
  | 0 => (ab 13830554455654793216, ab 0)
  | 1 => (ab 0, ab 4607182418800017408)
  | k + 2 => chalf (croot (k + 1))
/-- Its powers, by repeated products. -/
def cpw (z : Option Nat × Option Nat) : Nat → Option Nat × Option Nat
  | 0 => cone
  | k + 1 => cmul (cpw z k) z

theorem two_pow_succ' (k : Nat) : 2 ^ (k + 1) = 2 * 2 ^ k := by rw [Nat.pow_succ]; omega

theorem root_any (k : Nat) : ∀ (n : Nat) (w : World), n = 2 ^ (k + 1) → n ≤ 256 → Calls Tryd.prog 22 #[.int .i64 n] w (CIs (croot k) w) := by
  induction k with
  | zero =>
    intro n w hn _
    obtain rfl : n = 2 := hn
    go_enter Tryd.func22, Tryd.ntmps22
    go_wp2_with fail
    go_ret
    exact ⟨_, _, 0, rfl, rfl, rfl⟩
  | succ k ih =>
    intro n w hn hle
    match k with
    | 0 =>
      obtain rfl : n = 4 := hn
      go_enter Tryd.func22, Tryd.ntmps22
      go_wp2_with fail
      go_ret
      exact ⟨_, _, 0, rfl, rfl, rfl⟩
    | k + 1 =>
      have h8 : 8 ≤ n := by
        have : 0 < 2 ^ k := Nat.two_pow_pos _
        rw [hn, two_pow_succ', two_pow_succ', two_pow_succ']; omega
      have hh : n / 2 = 2 ^ (k + 1 + 1) := by rw [hn, two_pow_succ' (k + 1 + 1)]; omega
      have hc := Lib.hid (fun w => ih (n / 2) w hh (by omega))
      rw [show ((n / 2 : Nat) : Int) = (n : Int) / 2 from by omega] at hc
      clear ih hn hh
      have t1 : ((n : Int) == 2) = false := by simp; omega
      have t2 : ((n : Int) == 4) = false := by simp; omega
      go_enter Tryd.func22, Tryd.ntmps22
      go_wp2_with fail
      refine (hc.out _).mono ?_
      rintro e w' ⟨a, b, m, rfl, hp, rfl⟩
      have HP := Lib.hid hp
      clear hp
      go_wp2_with (go_at_call 27; refine (sqrt_walk _ _).mono ?_; rintro e w' ⟨rfl, rfl⟩)
      go_ret
      exact ⟨_, _, _, rfl, by rw [croot, ← HP.out]; simp only [aC, chalf, ab_fMul, ab_fAdd, ab_fDiv, ab_fSqrt], rfl⟩

theorem Tryd.info35 : (Tryd.prog.info? 35).map (fun i => (i.zero, i.size, i.bytes)) = some (some (.complex .f64 0 0), 1, 16) := by kernel_rfl

/-- What holds of z and k at the head of the first loop of 'turns'. -/
def TurnsA (n m : Nat) (w : World) (z k : Value) (wr : World) : Prop :=
  ∃ (j q : Nat) (a b d : Nat), j ≤ m ∧ q = 2 ^ (j + 1) ∧ q ≤ n ∧ 2 ≤ q ∧ k = .int .i64 q ∧ z = .complex .f64 a b ∧ aC (a, b) = croot j ∧ wr = w.drewN d

theorem two_pow_lt {j m : Nat} (h : 2 ^ (j + 1) < 2 ^ (m + 1)) : j + 1 ≤ m := by
  rcases Nat.lt_or_ge j m with h' | h'
  · exact h'
  · have := Nat.pow_le_pow_right (show 0 < 2 by omega) (show m + 1 ≤ j + 1 by omega)
    omega

/-- The call ends with a new slice of complex numbers whose readings are S; what was there is as it was. -/
def CRowIs (S : List (Option Nat × Option Nat)) (w : World) (e : Ending) (w' : World) : Prop :=
  ∃ (v : Value) (Y : List (Nat × Nat)), e = .returned v ∧ w'.ownsRow w.heap.size 35 1 v S.length (Y.map cv) ∧ Y.map aC = S ∧ Below w.heap.size w w'

def powers (z : Option Nat × Option Nat) (k : Nat) : List (Option Nat × Option Nat) := (List.range k).map (cpw z)

theorem own_shape {w : World} {B e size : Nat} {v : Value} {n : Nat} {xs : List Value} (h : w.ownsRow B e size v n xs) (hn : 0 < n) : ∃ g cap, v = .slice (some ⟨g, 0, none⟩) n cap := by
  rcases h.2 with ⟨_, h0⟩ | ⟨g, cap, _, hv, _⟩
  · omega
  · exact ⟨g, cap, hv⟩
theorem own_len {w : World} {B e : Nat} {v : Value} {n : Nat} {Y : List (Nat × Nat)} (h : w.ownsRow B e 1 v n (Y.map cv)) : Y.length = n := by
  have := h.1
  simpa using this
theorem own_cell {w : World} {B e g n cap : Nat} {Y : List (Nat × Nat)} (h : w.ownsRow B e 1 (.slice (some ⟨g, 0, none⟩) n cap) n (Y.map cv)) {j : Nat} (hj : j < n) :
    w.cell? ⟨g, j, none⟩ = some (cv (Y.getD j (0, 0))) := by
  rw [h.cellAt j (by omega)]
  have hl := own_len h
  simp [List.getD, List.getElem?_eq_getElem (show j < Y.length by omega)]
def lenV : Value → Nat
  | .slice _ n _ => n
  | _ => 0

theorem map_snoc {α β : Type} (f : α → β) (l : List α) (x : α) : l.map f ++ [f x] = (l ++ [x]).map f := by simp
theorem powers_succ (z : Option Nat × Option Nat) (k : Nat) : powers z (k + 1) = powers z k ++ [cpw z k] := by simp [powers, List.range_succ]
theorem powers_length (z : Option Nat × Option Nat) (k : Nat) : (powers z k).length = k := by simp [powers]
theorem powers_get (z : Option Nat × Option Nat) {k j : Nat} (h : j < k) (d : Option Nat × Option Nat) : (powers z k).getD j d = cpw z j := by
  simp [powers, List.getD, h]
theorem map_getD {α β : Type} (f : α → β) (l : List α) {j : Nat} (h : j < l.length) (d : α) (e : β) : (l.map f).getD j e = f (l.getD j d) := by
  simp [List.getD, List.getElem?_eq_getElem h]

/-- What holds of 'out' at the head of the second loop of 'turns'. -/
def TurnsB (z : Option Nat × Option Nat) (h : Nat) (w : World) (v : Value) (wr : World) : Prop :=
  ∃ (k g cap : Nat) (Y : List (Nat × Nat)), v = .slice (some ⟨g, 0, none⟩) k cap ∧ 1 ≤ k ∧ k ≤ h ∧ wr.ownsRow w.heap.size 35 1 (.slice (some ⟨g, 0, none⟩) k cap) k (Y.map cv) ∧ Y.map aC = powers z k ∧ Below w.heap.size w wr

theorem own_drewN {w : World} {B e size : Nat} {v : Value} {n : Nat} {xs : List Value} (h : w.ownsRow B e size v n xs) (d : Nat) : (w.drewN d).ownsRow B e size v n xs := h
theorem below_snoc {B : Nat} {w wr w1 : World} {d : Nat} {o : Obj} {v : Value} (hb : Below B w wr) (hB : B ≤ wr.heap.size) (hv : ∀ k, v.ownBlock = some k → B ≤ k) (hg : ((wr.drewN d).alloc o).grownBy w1 v.ownBlock) : Below B w w1 :=
  ((below_drewN hb d).alloc hB o).grown hg (by simp; omega) hv

set_option maxHeartbeats 1000000 in
theorem turns_any (n m : Nat) (w : World) (hn : n = 2 ^ (m + 1)) (hle : n ≤ 256) :
    Calls Tryd.prog 21 #[.int .i64 n] w (CRowIs (powers (croot m) (n / 2)) w) := by
  have hn2 : 2 ≤ n := by
    have : 0 < 2 ^ m := Nat.two_pow_pos _
    rw [hn, two_pow_succ']; omega
  have HN := Lib.hid hn
  clear hn
  obtain ⟨i0, hi, hz0, hz1, hz2⟩ := info_parts Tryd.info35
  go_enter Tryd.func21, Tryd.ntmps21
  go_wp2
  go_loopw [3, 4] (TurnsA n m w) (fun _ k _ => n - (intOf k).toNat)
  case atStart => exact ⟨0, 2, _, _, 0, Nat.zero_le _, rfl, hn2, Nat.le_refl _, rfl, rfl, rfl, rfl⟩
  case round =>
    obtain ⟨j, q, a, b, d, hj, hq, hqn, hq2, rfl, rfl, hc, rfl⟩ := hrel
    have HQ := Lib.hid hq
    have HC := Lib.hid hc
    clear hq hc
    by_cases hlt : q < n
    · have hjm : j + 1 ≤ m := two_pow_lt (by rw [← HN.out, ← HQ.out]; exact hlt)
      have hq4 : q * 2 ≤ n := by
        have : 2 ^ (j + 1 + 1) ≤ 2 ^ (m + 1) := Nat.pow_le_pow_right (by omega) (by omega)
        rw [← HN.out, two_pow_succ', ← HQ.out] at this; omega
      have HQ2 : Hid (q * 2 = 2 ^ (j + 1 + 1)) := by
        have : 2 ^ (j + 1 + 1) = 2 * q := by rw [two_pow_succ', ← HQ.out]
        exact (by omega : q * 2 = 2 ^ (j + 1 + 1))
      by_cases h2 : q = 2
      · have hj0 : j = 0 := by
          rcases Nat.eq_zero_or_pos j with h | h
          · exact h
          · have h4 : 2 ^ (1 + 1) ≤ 2 ^ (j + 1) := Nat.pow_le_pow_right (by omega) (by omega)
            rw [← HQ.out] at h4; omega
        subst hj0
        subst h2
        go_wp2_with fail
        go_roundw
        case rel => exact ⟨1, 4, _, _, d, hjm, rfl, hq4, by omega, rfl, rfl, rfl, rfl⟩
        case measure => simp [intOf]; omega
      · have t1 : ((q : Int) == 2) = false := by simp; omega
        have HJ : Hid (croot (j + 1) = chalf (croot j)) := by
          cases j with
          | zero => exact absurd HQ.out h2
          | succ j => exact rfl
        go_wp2_with (go_at_call 26; refine (half_any _ _ _).mono ?_; rintro e w' ⟨c, c', d', rfl, hp, rfl⟩)
        go_roundw
        case rel => exact ⟨j + 1, q * 2, c, c', d + d', hjm, HQ2.out, hq4, by omega, by go_num, rfl, by rw [HJ.out, ← HC.out]; exact hp, rfl⟩
        case measure => simp [intOf]; omega
    · have hqe : q = n := by omega
      have hjm : j = m := by
        rcases Nat.lt_or_ge j m with h | h
        · have : 2 ^ (j + 1 + 1) ≤ 2 ^ (m + 1) := Nat.pow_le_pow_right (by omega) (by omega)
          rw [← HN.out, two_pow_succ', ← HQ.out] at this; omega
        · omega
      subst hjm
      clear HQ hqe hqn hq2 hj
      go_wp2
      go_loopw [5] (TurnsB (croot j) (n / 2) w) (fun v _ => n / 2 - lenV v)
      case atStart => exact ⟨1, w.heap.size, 1, [(4607182418800017408, 0)], rfl, Nat.le_refl _, by omega, World.ownsRow_lit (w.drewN d) _ 1 (Nat.le_refl _) (by decide) rfl, rfl, (below_drewN (Below.refl _ _) d).alloc (Nat.le_refl _) _⟩
      case round =>
        obtain ⟨k, g, cap, Y, rfl, hk1, hk2, hown, hY, hb⟩ := hrel
        have HY := Lib.hid hY
        have HB := Lib.hid hb
        have hsz := hb.size
        clear hY hb
        obtain ⟨x, y, hxy⟩ : ∃ x y, Y.getD (k - 1) (0, 0) = (x, y) := ⟨_, _, rfl⟩
        have hcell := own_cell hown (show k - 1 < k by omega)
        rw [hxy] at hcell
        unfold cv at hcell
        have HXY := Lib.hid hxy
        clear hxy
        by_cases hkl : k < n / 2
        · go_wp2_with (first | (at_builtin; refine wpList_append_own _ rfl _ _ 34 rfl w.heap.size 35 i0 (.complex .f64 0 0) 1 16 Tryd.underlying34 hi hz0 hz1 hz2 rfl (by decide) _ _ _ rfl ((own_drewN hown d').alloc _) ⟨wr.heap.size, 0, none⟩ 1 1 [.complex .f64 c c'] rfl rfl ?c1 ?c2 ?c3 ?c4 ?c5 ?_) | (go_at_call 9; refine (times_any _ _ _ _ _).mono ?_; rintro e w' ⟨c, c', d', rfl, hp, rfl⟩))
          case c1 => exact cell_one_new (wr.drewN d') _ _
          case c2 => intro u hu; simp at hu; subst hu; rfl
          case c3 => unfold maxLen; omega
          case c4 => omega
          case c5 => simp; omega
          intro v' w1 hown' hgrow _
          obtain ⟨g', cap', rfl⟩ := own_shape hown' (by omega)
          have hb1 := below_snoc HB.out hsz (fun b h => (hown.lt b h).1) hgrow
          go_wp2
          go_roundw
          case rel => exact ⟨k + 1, g', cap', Y ++ [(c, c')], rfl, by omega, by omega, by rw [← map_snoc]; exact hown', by
            rw [← map_snoc, HY.out, powers_succ, hp, ← HXY.out, ← map_getD aC Y (by rw [own_len hown]; omega) (0, 0) (aC (0, 0)), HY.out, powers_get _ (by omega), HC.out]
            obtain ⟨k', rfl⟩ : ∃ k', k = k' + 1 := ⟨k - 1, by omega⟩
            rfl, hb1⟩
          case measure => simp [lenV]; omega
        · go_wp2
          go_ret
          obtain rfl : k = n / 2 := by omega
          exact ⟨_, Y, rfl, by rw [powers_length]; exact hown, HY.out, HB.out⟩
end Go.Proofs.YtijdmnimiipinaaDoor
