/-
  The walk of the reference's outer turn. Conditions: as each theorem says.
-/
import Derived.Test.YtijdmnimiipinaaDoorOuter
set_option linter.unusedSimpArgs false
set_option linter.unusedVariables false
set_option linter.unnecessarySimpa false
namespace Go.Proofs.YtijdmnimiipinaaDoor
open Go Go.RowKit

def acc (n j : Nat) : Bool := (List.range j).any fun k => n == 2 ^ k
theorem acc_succ (n j : Nat) : acc n (j + 1) = (acc n j || n == 2 ^ j) := by simp [acc, List.range_succ]
theorem acc_nine (n : Nat) : acc n 9 = pow2B n := rfl

def OkA (n : Nat) (v7 v8 : Value) : Prop := ∃ (j q : Nat) (b : Bool), j ≤ 9 ∧ q = 2 ^ j ∧ b = acc n j ∧ v7 = .bool b ∧ v8 = .int .i64 q

theorem pow_small {j : Nat} (h : j ≤ 9) : 1 ≤ 2 ^ j ∧ 2 ^ j ≤ 512 ∧ (2 ^ j ≤ 256 ↔ j < 9) := by
  match j, h with
  | 0, _ | 1, _ | 2, _ | 3, _ | 4, _ | 5, _ | 6, _ | 7, _ | 8, _ | 9, _ => decide

set_option maxHeartbeats 1000000 in
theorem Turn8_no (v : Value) (a : Option Addr) (n c : Nat) (back : Bool) (w : World) (hv : v = .slice a n c) (hp : pow2B n = false) (_hn : n ≤ 1000) :
    Calls Tryd.prog 10 #[v, .bool back] w fun e w' => e = .returned (.tuple #[.slice none 0 0, .int .i64 4]) ∧ w = w' := by
  subst hv
  have HP := Lib.hid hp
  clear hp
  go_enter Tryd.func10, Tryd.ntmps10
  go_wp2
  go_loop [7, 8] (OkA n) (fun _ k => 1024 - (intOf k).toNat)
  case atStart => exact ⟨0, 1, false, by decide, rfl, rfl, rfl, rfl⟩
  case round =>
    obtain ⟨j, q, b, hj, hq, hb, rfl, rfl⟩ := hrel
    obtain ⟨h1, h2, h3⟩ := pow_small hj
    rw [← hq] at h1 h2 h3
    have HQ := Lib.hid hq
    have H3 := Lib.hid h3
    have HBB := Lib.hid hb
    have HQ2 : Hid (q * 2 = 2 ^ (j + 1)) := by rw [Nat.pow_succ, ← HQ.out]; exact rfl
    clear hq h3 hb
    by_cases hle : q ≤ 256
    · have hj9 : j < 9 := H3.out.1 hle
      have HA : Hid (acc n (j + 1) = (b || n == q)) := by rw [acc_succ, ← HQ.out, ← HBB.out]; exact rfl
      cases b with
      | true =>
        go_wp2
        go_round
        case rel => exact ⟨j + 1, q * 2, true, by omega, HQ2.out, by rw [HA.out]; rfl, rfl, by go_num⟩
        case measure => simp [intOf]; omega
      | false =>
        by_cases hnq : n = q
        · have t1 : ((n : Int) == (q : Int)) = true := by simp; omega
          have HNQ := Lib.hid hnq
          clear hnq
          go_wp2
          go_round
          case rel => exact ⟨j + 1, q * 2, true, by omega, HQ2.out, by rw [HA.out, HNQ.out]; simp, rfl, by go_num⟩
          case measure => simp [intOf]; omega
        · have t1 : ((n : Int) == (q : Int)) = false := by simp; omega
          have HNQ := Lib.hid hnq
          clear hnq
          go_wp2
          go_round
          case rel => exact ⟨j + 1, q * 2, false, by omega, HQ2.out, by rw [HA.out]; simp; exact HNQ.out, rfl, by go_num⟩
          case measure => simp [intOf]; omega
    · have hj9 : ¬ j < 9 := fun h => hle (H3.out.2 h)
      obtain rfl : j = 9 := by omega
      have HBP : Hid (b = pow2B n) := by rw [HBB.out]; exact acc_nine n
      obtain rfl : b = false := HBP.out.trans HP.out
      go_wp2
      go_ret2
      exact ⟨rfl, rfl⟩

set_option maxHeartbeats 4000000 in
theorem Turn8_yes (m B : Nat) (v : Value) (Z : List (Nat × Nat)) (back : Bool) (w : World) (hm : 2 ^ m ≤ 256) (hp : pow2B (2 ^ m) = true) (hown : w.ownsRow B 35 1 v (2 ^ m) (Z.map cv)) :
    Calls Tryd.prog 10 #[v, .bool back] w (CRow2Is (outer m back (Z.map aC)) (.int .i64 0) w) := by
  obtain ⟨g, cap, rfl⟩ := own_shape hown (Nat.two_pow_pos _)
  have hl := own_len hown
  have HL : Hid ((dft m back (Z.map aC)).length = 2 ^ m) := dft_length _ _ _ (by rw [List.length_map]; exact hl)
  obtain ⟨n, hn⟩ : ∃ n, n = 2 ^ m := ⟨_, rfl⟩
  have HT := Lib.hid (turned_any m B (.slice (some ⟨g, 0, none⟩) (2 ^ m) cap) Z back w hm hown)
  have HO := Lib.hid (outer_length m back (Z.map aC) (by rw [List.length_map]; exact hl))
  rw [← hn] at HT HL hp hm HO ⊢
  have HN := Lib.hid hn
  have HP := Lib.hid hp
  clear hn hl hown hp
  go_enter Tryd.func10, Tryd.ntmps10
  go_wp2
  go_loop [7, 8] (OkA n) (fun _ k => 1024 - (intOf k).toNat)
  case atStart => exact ⟨0, 1, false, by decide, rfl, rfl, rfl, rfl⟩
  case round =>
    obtain ⟨j, q, b, hj, hq, hb, rfl, rfl⟩ := hrel
    obtain ⟨h1, h2, h3⟩ := pow_small hj
    rw [← hq] at h1 h2 h3
    have HQ := Lib.hid hq
    have H3 := Lib.hid h3
    have HBB := Lib.hid hb
    have HQ2 : Hid (q * 2 = 2 ^ (j + 1)) := by rw [Nat.pow_succ, ← HQ.out]; exact rfl
    clear hq h3 hb
    by_cases hle : q ≤ 256
    · have hj9 : j < 9 := H3.out.1 hle
      have HA : Hid (acc n (j + 1) = (b || n == q)) := by rw [acc_succ, ← HQ.out, ← HBB.out]; exact rfl
      cases b with
      | true =>
        go_wp2
        go_round
        case rel => exact ⟨j + 1, q * 2, true, by omega, HQ2.out, by rw [HA.out]; rfl, rfl, by go_num⟩
        case measure => simp [intOf]; omega
      | false =>
        by_cases hnq : n = q
        · have t1 : ((n : Int) == (q : Int)) = true := by simp; omega
          have HNQ := Lib.hid hnq
          clear hnq
          go_wp2
          go_round
          case rel => exact ⟨j + 1, q * 2, true, by omega, HQ2.out, by rw [HA.out, HNQ.out]; simp, rfl, by go_num⟩
          case measure => simp [intOf]; omega
        · have t1 : ((n : Int) == (q : Int)) = false := by simp; omega
          have HNQ := Lib.hid hnq
          clear hnq
          go_wp2
          go_round
          case rel => exact ⟨j + 1, q * 2, false, by omega, HQ2.out, by rw [HA.out]; simp; exact HNQ.out, rfl, by go_num⟩
          case measure => simp [intOf]; omega
    · have hj9 : ¬ j < 9 := fun h => hle (H3.out.2 h)
      obtain rfl : j = 9 := by omega
      have HBP : Hid (b = pow2B n) := by rw [HBB.out]; exact acc_nine n
      obtain rfl : b = true := HBP.out.trans HP.out
      go_wp2_with fail
      refine HT.out.mono ?_
      rintro e w1 ⟨v, Y, rfl, ho, hY, hb⟩
      rw [HL.out] at ho
      have hn0 := (pow2B_le HP.out).1
      obtain ⟨g', cap', rfl⟩ := own_shape ho (by omega)
      have HOW := Lib.hid ho
      have HY := Lib.hid hY
      have HB := Lib.hid hb
      clear ho hY hb
      cases back with
      | false =>
        go_wp2
        go_loop [30] (fun i => ∃ k : Nat, k ≤ n ∧ i = .int .i64 k) (fun i => n - (intOf i).toNat)
        case atStart => exact ⟨0, Nat.zero_le _, rfl⟩
        case round =>
          obtain ⟨k, hk, rfl⟩ := hrel
          by_cases hlt : k < n
          · go_wp2
            go_round
            case rel => exact ⟨k + 1, hlt, by go_num⟩
            case measure => simp [intOf]; omega
          · go_wp2
            go_ret2
            exact ⟨_, Y, rfl, by rw [HO.out]; exact HOW.out, HY.out, HB.out⟩
      | true =>
        go_wp2
        go_loopw [30] (EachA (cdiv n) Y w.heap.size (.slice (some ⟨g', 0, none⟩) n cap') n w) (fun i _ => n - (intOf i).toNat)
        case atStart => exact ⟨0, Y, Nat.zero_le _, rfl, HOW.out, fun j hj => absurd hj (Nat.not_lt_zero _), fun _ _ => rfl, HB.out⟩
        case round =>
          obtain ⟨k, Y', hk, rfl, hown, h1, h2, hbw⟩ := hrel
          have HOWN := Lib.hid hown
          have H1 := Lib.hid h1
          have H2 := Lib.hid h2
          have HBW := Lib.hid hbw
          clear hown h1 h2 hbw
          by_cases hlt : k < n
          · obtain ⟨x, y, hxy⟩ : ∃ x y, Y'.getD k (0, 0) = (x, y) := ⟨_, _, rfl⟩
            have hc : wr.cell? ⟨g', k, none⟩ = some (.complex .f64 x y) := by rw [own_cell HOWN.out hlt, hxy]; rfl
            have hf : wr.frozen? ⟨g', k, none⟩ = false := HOWN.out.frozenAt k
            have HXY := Lib.hid hxy
            clear hxy
            go_wp2_with fail
            go_region
            all_goals go_wp2
            all_goals
              go_roundw
              case rel =>
                refine each_step hlt (HOW.out.lt g' rfl).1 HOWN.out H1.out H2.out HBW.out ?_ rfl rfl rfl rfl
                rw [← H2.out k (Nat.le_refl _), HXY.out]
                simp only [aC, cdiv, ab_fDiv]
              case measure => simp [intOf]; omega
          · go_wp2
            go_ret2
            obtain rfl : k = n := by omega
            refine ⟨_, Y', rfl, by rw [HO.out]; exact HOWN.out, ?_, HBW.out⟩
            rw [each_end (own_len HOW.out) (own_len HOWN.out) H1.out, HY.out, HN.out]
            rfl
end Go.Proofs.YtijdmnimiipinaaDoor
