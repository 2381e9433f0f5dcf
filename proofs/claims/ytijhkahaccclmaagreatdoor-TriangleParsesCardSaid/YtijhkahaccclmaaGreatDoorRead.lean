/-
  What a slice reads as in a world, and the walks that only read: sameInts, TriangleCheck, Check. No conditions.
-/
import Derived.Test.YtijhkahaccclmaaGreatDoorProg
import Derived.Outline
import Derived.WalkKit
import Derived.WalkSpells
import Derived.WalkLawsBesides
import Derived.Lib.Hide
import Derived.Below
import Derived.BigQuiet
import Derived.Deep.QuietTactic
set_option linter.unusedSimpArgs false
set_option linter.unusedVariables false
set_option linter.unnecessarySimpa false
namespace Go.Proofs.YtijhkahaccclmaaGreatDoor
open Go Go.RowKit

/-- The value is a slice that reads as these values. -/
def Reads (w : World) (v : Value) (n : Nat) (f : Nat → Value) : Prop :=
  ∃ a c, v = .slice a n c ∧ n ≤ c ∧ ∀ j, j < n → ∃ b o, a = some ⟨b, o, none⟩ ∧ b < w.heap.size ∧ w.cell? ⟨b, o + j, none⟩ = some (f j)

def IntsAt (w : World) (v : Value) (l : List Int) : Prop := Reads w v l.length fun j => .int .i64 (l.getD j 0)

def RowsAt (w : World) (v : Value) (t : List (List Int)) : Prop := ∃ f, Reads w v t.length f ∧ ∀ i, i < t.length → IntsAt w (f i) (t.getD i [])

theorem Reads.below {w w' : World} {v : Value} {n : Nat} {f : Nat → Value} (h : Reads w v n f) (hb : Below w.heap.size w w') : Reads w' v n f := by
  obtain ⟨a, c, rfl, hc, hall⟩ := h
  refine ⟨a, c, rfl, hc, fun j hj => ?_⟩
  obtain ⟨b, o, e, h1, h2⟩ := hall j hj
  exact ⟨b, o, e, Nat.lt_of_lt_of_le h1 hb.size, (hb.cell h1).trans h2⟩
theorem IntsAt.below {w w' : World} {v : Value} {l : List Int} (h : IntsAt w v l) (hb : Below w.heap.size w w') : IntsAt w' v l := Reads.below h hb
theorem RowsAt.below {w w' : World} {v : Value} {t : List (List Int)} (h : RowsAt w v t) (hb : Below w.heap.size w w') : RowsAt w' v t :=
  let ⟨f, h1, h2⟩ := h; ⟨f, h1.below hb, fun i hi => (h2 i hi).below hb⟩

/-- The errors' number of a row of the triangle. -/
def badCell (x : Int) : Bool := decide (x < 0) || decide (1000000000000000 < x)
def checkRows : Nat → List (List Int) → Int
  | _, [] => 0
  | k, r :: t => if r.length ≠ k then 3 else if r.any badCell then 2 else checkRows (k - 1) t
def checkTri (t : List (List Int)) : Int := if t.length < 2 ∨ 20 < t.length then 4 else checkRows t.length t

/-- Nothing but the tape's count has turned. -/
def Drew (w w' : World) : Prop := ∃ n, w' = w.drewN n
theorem Drew.refl (w : World) : Drew w w := ⟨0, rfl⟩

theorem take_succ_of {l m : List Int} {k : Nat} (h : l.take k = m.take k) (hl : k < l.length) (hm : k < m.length) (e : l.getD k 0 = m.getD k 0) : l.take (k + 1) = m.take (k + 1) := by
  rw [List.take_succ_eq_append_getElem hl, List.take_succ_eq_append_getElem hm, h]
  simp only [List.getD, List.getElem?_eq_getElem hl, List.getElem?_eq_getElem hm, Option.getD_some] at e
  rw [e]

set_option maxHeartbeats 1000000 in
theorem sameInts_walk (u v : Value) (l m : List Int) (w : World) (hu : IntsAt w u l) (hv : IntsAt w v m) (hl : l.length ≤ 100000) (hm : m.length ≤ 100000) :
    Calls Tryz.prog 7 #[u, v] w fun e w' => e = .returned (.bool (decide (l = m))) ∧ Drew w w' := by
  obtain ⟨a, c, rfl, hc, hall⟩ := hu
  obtain ⟨a', c', rfl, hc', hall'⟩ := hv
  have HA := Lib.hid hall
  have HA' := Lib.hid hall'
  clear hall hall'
  by_cases hlen : l.length = m.length
  · go_enter Tryz.func7, Tryz.ntmps7
    go_wp2
    go_loopw [5] (fun i wr => ∃ k : Nat, k ≤ l.length ∧ i = .int .i64 k ∧ Drew w wr ∧ l.take k = m.take k) (fun i _ => l.length - (intOf i).toNat)
    case atStart => exact ⟨0, Nat.zero_le _, rfl, Drew.refl _, rfl⟩
    case round =>
      obtain ⟨k, hk, rfl, ⟨n, rfl⟩, heq⟩ := hrel
      by_cases hlt : k < l.length
      · obtain ⟨b, o, rfl, _, hx⟩ := HA.out k hlt
        obtain ⟨b', o', rfl, _, hx'⟩ := HA'.out k (by omega)
        have hcx : (w.drewN n).cell? ⟨b, o + k, none⟩ = some (.int .i64 (l.getD k 0)) := hx
        have hcy : (w.drewN n).cell? ⟨b', o' + k, none⟩ = some (.int .i64 (m.getD k 0)) := hx'
        have hk0 : (0 : Int) ≤ (k : Int) := Int.natCast_nonneg _
        have hk1 : (k : Int) < (l.length : Int) := by omega
        have hk2 : (k : Int) < (m.length : Int) := by omega
        go_wp2_with fail
        go_quiet (fail)
        by_cases hxy : l.getD k 0 = m.getD k 0
        · have hxy' : (l[k]?.getD 0 != m[k]?.getD 0) = false := by simpa [List.getD] using hxy
          go_wp2
          go_roundw
          case rel => exact ⟨k + 1, by omega, by go_num, ⟨_, rfl⟩, take_succ_of heq (by omega) (by omega) hxy⟩
          case measure => simp [intOf]; omega
        · have hxy' : (l[k]?.getD 0 != m[k]?.getD 0) = true := by simpa [List.getD] using hxy
          go_wp2
          go_ret
          exact ⟨by rw [decide_eq_false (fun e => hxy (by rw [e]))]; rfl, n + nq, by rw [World.drewN_drewN]⟩
      · go_wp2
        go_ret
        have e1 : l.take k = l := List.take_of_length_le (by omega)
        have e2 : m.take k = m := List.take_of_length_le (by omega)
        exact ⟨by rw [decide_eq_true (e1.symm.trans (heq.trans e2))]; rfl, n, rfl⟩
  · go_enter Tryz.func7, Tryz.ntmps7
    have hlen' : ¬ (l.length : Int) = (m.length : Int) := by omega
    go_wp2
    go_ret
    exact ⟨by rw [decide_eq_false (fun e => hlen (by rw [e]))]; rfl, 0, rfl⟩

theorem checkRows_step {t : List (List Int)} {n i : Nat} (hi : i < t.length) (h1 : (t.getD i []).length = n - i) (h2 : (t.getD i []).any badCell = false) :
    checkRows (n - i) (t.drop i) = checkRows (n - (i + 1)) (t.drop (i + 1)) := by
  rw [List.drop_eq_getElem_cons hi]
  simp only [List.getD, List.getElem?_eq_getElem hi, Option.getD_some] at h1 h2
  simp only [checkRows, h1, h2, ne_eq, not_true_eq_false, if_false, Bool.false_eq_true]
  rfl
theorem checkRows_len {t : List (List Int)} {n i : Nat} (hi : i < t.length) (h1 : (t.getD i []).length ≠ n - i) : checkRows (n - i) (t.drop i) = 3 := by
  rw [List.drop_eq_getElem_cons hi]
  simp only [List.getD, List.getElem?_eq_getElem hi, Option.getD_some] at h1
  simp [checkRows, h1]
theorem checkRows_bad {t : List (List Int)} {n i : Nat} (hi : i < t.length) (h1 : (t.getD i []).length = n - i) (h2 : (t.getD i []).any badCell = true) : checkRows (n - i) (t.drop i) = 2 := by
  rw [List.drop_eq_getElem_cons hi]
  simp only [List.getD, List.getElem?_eq_getElem hi, Option.getD_some] at h1 h2
  simp [checkRows, h1, h2]
theorem any_take_succ {r : List Int} {j : Nat} (hj : j < r.length) (h : (r.take j).any badCell = false) (hb : badCell (r.getD j 0) = false) : (r.take (j + 1)).any badCell = false := by
  rw [List.take_succ_eq_append_getElem hj]
  simp only [List.getD, List.getElem?_eq_getElem hj, Option.getD_some] at hb
  rw [List.any_append, h]; simp [hb]
theorem any_of_bad {r : List Int} {j : Nat} (hj : j < r.length) (hb : badCell (r.getD j 0) = true) : r.any badCell = true := by
  simp only [List.getD, List.getElem?_eq_getElem hj, Option.getD_some] at hb
  exact List.any_eq_true.2 ⟨_, List.getElem_mem hj, hb⟩

set_option maxHeartbeats 2000000 in
theorem TriangleCheck_walk (v : Value) (t : List (List Int)) (w : World) (hv : RowsAt w v t) (hr : ∀ r ∈ t, r.length ≤ 100000) :
    Calls Tryz.prog 18 #[v] w fun e w' => e = .returned (.int .i64 (checkTri t)) ∧ w = w' := by
  obtain ⟨f, ⟨a, c, rfl, hc, hall⟩, hrows⟩ := hv
  have HA := Lib.hid hall
  have HR := Lib.hid hrows
  clear hall hrows
  by_cases hlen : t.length < 2 ∨ 20 < t.length
  · have hct : checkTri t = 4 := by unfold checkTri; rw [if_pos hlen]
    rw [hct]
    by_cases h2 : t.length < 2
    · have hlen' : (t.length : Int) < 2 := by omega
      go_enter Tryz.func18, Tryz.ntmps18
      go_wp2
      go_ret
      exact ⟨rfl, rfl⟩
    · have hlen' : ¬ (t.length : Int) < 2 := by omega
      have hlen2 : (20 : Int) < (t.length : Int) := by omega
      go_enter Tryz.func18, Tryz.ntmps18
      go_wp2
      go_ret
      exact ⟨rfl, rfl⟩
  · have hct : checkTri t = checkRows t.length t := by unfold checkTri; rw [if_neg hlen]
    rw [hct]
    have hlen' : ¬ (t.length : Int) < 2 := by omega
    have hlen2 : ¬ (20 : Int) < (t.length : Int) := by omega
    go_enter Tryz.func18, Tryz.ntmps18
    go_wp2
    go_loop [17] (fun i => ∃ k : Nat, k ≤ t.length ∧ i = .int .i64 k ∧ checkRows (t.length - k) (t.drop k) = checkRows t.length t) (fun i => t.length - (intOf i).toNat)
    case atStart => exact ⟨0, Nat.zero_le _, rfl, rfl⟩
    case round =>
      obtain ⟨k, hk, rfl, heq⟩ := hrel
      by_cases hlt : k < t.length
      · obtain ⟨b, o, rfl, _, hx⟩ := HA.out k hlt
        obtain ⟨a', c', hf, hc', hall'⟩ := HR.out k hlt
        have hrl : (t.getD k []).length ≤ 100000 := by
          rw [show t.getD k [] = t[k] by simp [List.getD, hlt]]
          exact hr _ (List.getElem_mem hlt)
        obtain ⟨r, hrr⟩ : ∃ r, t.getD k [] = r := ⟨_, rfl⟩
        rw [hf] at hx
        rw [hrr] at hx hall' hrl hc'
        have HI := Lib.hid hall'
        clear hall' hf
        have hk0 : (0 : Int) ≤ (k : Int) := Int.natCast_nonneg _
        have hk1 : (k : Int) < (t.length : Int) := by omega
        by_cases hl : r.length = t.length - k
        · have hl' : (r.length : Int) = (t.length : Int) - (k : Int) := by omega
          have HR1 := Lib.hid hrr
          clear hrr
          go_wp2
          go_loop [31] (fun i => ∃ j : Nat, j ≤ r.length ∧ i = .int .i64 j ∧ (r.take j).any badCell = false) (fun i => r.length - (intOf i).toNat)
          case atStart => exact ⟨0, Nat.zero_le _, rfl, rfl⟩
          case round =>
            obtain ⟨j, hj, rfl, hjb⟩ := hrel
            by_cases hjl : j < r.length
            · obtain ⟨b', o', rfl, _, hx'⟩ := HI.out j hjl
              obtain ⟨x, hxx⟩ : ∃ x, r.getD j 0 = x := ⟨_, rfl⟩
              rw [hxx] at hx'
              have HX := Lib.hid hxx
              clear hxx
              have hj0 : (0 : Int) ≤ (j : Int) := Int.natCast_nonneg _
              have hj1 : (j : Int) < (r.length : Int) := by omega
              by_cases hx0 : x < 0
              · go_wp2
                go_ret
                refine ⟨?_, rfl⟩
                rw [← heq, checkRows_bad hlt (by rw [HR1.out]; exact hl) (by rw [HR1.out]; exact any_of_bad hjl (by rw [HX.out]; simp [badCell, hx0]))]
                rfl
              · by_cases hx1 : 1000000000000000 < x
                · go_wp2
                  go_ret
                  refine ⟨?_, rfl⟩
                  rw [← heq, checkRows_bad hlt (by rw [HR1.out]; exact hl) (by rw [HR1.out]; exact any_of_bad hjl (by rw [HX.out]; simp [badCell, hx1]))]
                  rfl
                · go_wp2
                  go_round
                  case rel => exact ⟨j + 1, by omega, by go_num, any_take_succ hjl hjb (by rw [HX.out]; simp [badCell, hx0, hx1])⟩
                  case measure => simp [intOf]; omega
            · go_wp2
              have e1 : r.take j = r := List.take_of_length_le (by omega)
              go_round
              case rel => exact ⟨k + 1, by omega, by go_num, by rw [← heq, checkRows_step hlt (by rw [HR1.out]; exact hl) (by rw [HR1.out, ← e1]; exact hjb)]⟩
              case measure => simp [intOf]; omega
        · have hl' : ¬ (r.length : Int) = (t.length : Int) - (k : Int) := by omega
          have HR1 := Lib.hid hrr
          clear hrr
          go_wp2
          go_ret
          refine ⟨?_, rfl⟩
          rw [← heq, checkRows_len hlt (by rw [HR1.out]; exact hl)]
          rfl
      · go_wp2
        go_ret
        refine ⟨?_, rfl⟩
        rw [← heq, List.drop_eq_nil_of_le (by omega)]
        rfl
/-- An error's number as the error. -/
def errOf (e : Int) : Value := if e = 0 then .nilIface else .iface 28 (.int .i64 e)

set_option maxHeartbeats 2000000 in
theorem Check_walk (v : Value) (t : List (List Int)) (w : World) (hv : RowsAt w v t) (hr : ∀ r ∈ t, r.length ≤ 100000) :
    Calls Tryz.prog 15 #[v] w fun e w' => e = .returned (errOf (checkTri t)) ∧ w = w' := by
  obtain ⟨f, ⟨a, c, rfl, hc, hall⟩, hrows⟩ := hv
  have HA := Lib.hid hall
  have HR := Lib.hid hrows
  clear hall hrows
  by_cases hlen : t.length < 2 ∨ 20 < t.length
  · have hct : checkTri t = 4 := by unfold checkTri; rw [if_pos hlen]
    rw [hct]
    by_cases h2 : t.length < 2
    · have hlen' : (t.length : Int) < 2 := by omega
      go_enter Tryz.func15, Tryz.ntmps15
      go_wp2
      go_ret
      exact ⟨rfl, rfl⟩
    · have hlen' : ¬ (t.length : Int) < 2 := by omega
      have hlen2 : (20 : Int) < (t.length : Int) := by omega
      go_enter Tryz.func15, Tryz.ntmps15
      go_wp2
      go_ret
      exact ⟨rfl, rfl⟩
  · have hct : checkTri t = checkRows t.length t := by unfold checkTri; rw [if_neg hlen]
    rw [hct]
    have hlen' : ¬ (t.length : Int) < 2 := by omega
    have hlen2 : ¬ (20 : Int) < (t.length : Int) := by omega
    go_enter Tryz.func15, Tryz.ntmps15
    go_wp2
    go_loop [19] (fun i => ∃ k : Nat, k ≤ t.length ∧ i = .int .i64 k ∧ checkRows (t.length - k) (t.drop k) = checkRows t.length t) (fun i => t.length - (intOf i).toNat)
    case atStart => exact ⟨0, Nat.zero_le _, rfl, rfl⟩
    case round =>
      obtain ⟨k, hk, rfl, heq⟩ := hrel
      by_cases hlt : k < t.length
      · obtain ⟨b, o, rfl, _, hx⟩ := HA.out k hlt
        obtain ⟨a', c', hf, hc', hall'⟩ := HR.out k hlt
        have hrl : (t.getD k []).length ≤ 100000 := by
          rw [show t.getD k [] = t[k] by simp [List.getD, hlt]]
          exact hr _ (List.getElem_mem hlt)
        obtain ⟨r, hrr⟩ : ∃ r, t.getD k [] = r := ⟨_, rfl⟩
        rw [hf] at hx
        rw [hrr] at hx hall' hrl hc'
        have HI := Lib.hid hall'
        clear hall' hf
        have hk0 : (0 : Int) ≤ (k : Int) := Int.natCast_nonneg _
        have hk1 : (k : Int) < (t.length : Int) := by omega
        by_cases hl : r.length = t.length - k
        · have hl' : (r.length : Int) = (t.length : Int) - (k : Int) := by omega
          have HR1 := Lib.hid hrr
          clear hrr
          go_wp2
          go_loop [33] (fun i => ∃ j : Nat, j ≤ r.length ∧ i = .int .i64 j ∧ (r.take j).any badCell = false) (fun i => r.length - (intOf i).toNat)
          case atStart => exact ⟨0, Nat.zero_le _, rfl, rfl⟩
          case round =>
            obtain ⟨j, hj, rfl, hjb⟩ := hrel
            by_cases hjl : j < r.length
            · obtain ⟨b', o', rfl, _, hx'⟩ := HI.out j hjl
              obtain ⟨x, hxx⟩ : ∃ x, r.getD j 0 = x := ⟨_, rfl⟩
              rw [hxx] at hx'
              have HX := Lib.hid hxx
              clear hxx
              have hj0 : (0 : Int) ≤ (j : Int) := Int.natCast_nonneg _
              have hj1 : (j : Int) < (r.length : Int) := by omega
              by_cases hx0 : x < 0
              · go_wp2
                go_ret
                refine ⟨?_, rfl⟩
                rw [← heq, checkRows_bad hlt (by rw [HR1.out]; exact hl) (by rw [HR1.out]; exact any_of_bad hjl (by rw [HX.out]; simp [badCell, hx0]))]
                rfl
              · by_cases hx1 : 1000000000000000 < x
                · go_wp2
                  go_ret
                  refine ⟨?_, rfl⟩
                  rw [← heq, checkRows_bad hlt (by rw [HR1.out]; exact hl) (by rw [HR1.out]; exact any_of_bad hjl (by rw [HX.out]; simp [badCell, hx1]))]
                  rfl
                · go_wp2
                  go_round
                  case rel => exact ⟨j + 1, by omega, by go_num, any_take_succ hjl hjb (by rw [HX.out]; simp [badCell, hx0, hx1])⟩
                  case measure => simp [intOf]; omega
            · go_wp2
              have e1 : r.take j = r := List.take_of_length_le (by omega)
              go_round
              case rel => exact ⟨k + 1, by omega, by go_num, by rw [← heq, checkRows_step hlt (by rw [HR1.out]; exact hl) (by rw [HR1.out, ← e1]; exact hjb)]⟩
              case measure => simp [intOf]; omega
        · have hl' : ¬ (r.length : Int) = (t.length : Int) - (k : Int) := by omega
          have HR1 := Lib.hid hrr
          clear hrr
          go_wp2
          go_ret
          refine ⟨?_, rfl⟩
          rw [← heq, checkRows_len hlt (by rw [HR1.out]; exact hl)]
          rfl
      · go_wp2
        go_ret
        refine ⟨?_, rfl⟩
        rw [← heq, List.drop_eq_nil_of_le (by omega)]
        rfl
end Go.Proofs.YtijhkahaccclmaaGreatDoor
