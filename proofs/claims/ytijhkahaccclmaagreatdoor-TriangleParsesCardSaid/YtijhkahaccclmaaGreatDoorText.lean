/-
  The walks of triangle.Text and of the reference's TriangleText: the same bytes of a triangle that may be. Conditions: as each theorem says.
-/
import Derived.Test.YtijhkahaccclmaaGreatDoorBuild
set_option linter.unusedSimpArgs false
set_option linter.unusedVariables false
set_option linter.unnecessarySimpa false
namespace Go.Proofs.YtijhkahaccclmaaGreatDoor
open Go Go.RowKit

def cellText (k : Nat) (x : Int) : List UInt8 := (if 0 < k then [32] else []) ++ Lib.itoa x
def rowTo (r : List Int) : Nat → List UInt8
  | 0 => []
  | k + 1 => rowTo r k ++ cellText k (r.getD k 0)
def triTo (t : List (List Int)) : Nat → List UInt8
  | 0 => []
  | k + 1 => triTo t k ++ (rowTo (t.getD k []) (t.getD k []).length ++ [10])
/-- A triangle's text. -/
def triText (t : List (List Int)) : List UInt8 := triTo t t.length

/-- A triangle that is small, of numbers that an int holds. -/
def Small (t : List (List Int)) : Prop := t.length ≤ 20 ∧ ∀ i, i < t.length → (t.getD i []).length ≤ 20 ∧ ∀ j, j < (t.getD i []).length → 0 ≤ (t.getD i []).getD j 0 ∧ (t.getD i []).getD j 0 ≤ 1000000000000000

theorem checkRows_zero : ∀ (t : List (List Int)) (k : Nat), checkRows k t = 0 → ∀ r ∈ t, r.length ≤ k ∧ ∀ x ∈ r, badCell x = false
  | [], _, _, r, hr => by cases hr
  | q :: t, k, h, r, hr => by
    unfold checkRows at h
    split at h
    · cases h
    · rename_i h1
      split at h
      · cases h
      · rename_i h2
        rcases List.mem_cons.1 hr with rfl | hr
        · refine ⟨by omega, fun x hx => ?_⟩
          have h3 : r.any badCell = false := by simpa using h2
          exact List.any_eq_false.1 h3 x hx |> fun e => by simpa using e
        · obtain ⟨a1, a2⟩ := checkRows_zero t (k - 1) h r hr
          exact ⟨by omega, a2⟩
theorem check_small {t : List (List Int)} (h : checkTri t = 0) : Small t := by
  unfold checkTri at h
  split at h
  · cases h
  · rename_i hl
    refine ⟨by omega, fun i hi => ?_⟩
    have hm : t.getD i [] ∈ t := by simp only [List.getD, List.getElem?_eq_getElem hi, Option.getD_some]; exact List.getElem_mem hi
    obtain ⟨h1, h2⟩ := checkRows_zero t _ h _ hm
    refine ⟨by omega, fun j hj => ?_⟩
    obtain ⟨r, hr⟩ : ∃ r, t.getD i [] = r := ⟨_, rfl⟩
    rw [hr] at hj h2 ⊢
    have hx : r.getD j 0 ∈ r := by
      rw [List.getD, List.getElem?_eq_getElem hj, Option.getD_some]; exact List.getElem_mem hj
    have := h2 _ hx
    unfold badCell at this
    simp only [Bool.or_eq_false_iff, decide_eq_false_iff_not] at this
    omega

theorem dec_len : ∀ (k u : Nat), u < 10 ^ (k + 1) → (Lib.decDigits u).length ≤ k + 1
  | 0, u, h => by rw [Lib.decDigits, dif_pos (by simpa using h)]; simp
  | k + 1, u, h => by
    rw [Lib.decDigits]
    split
    · simp
    · have := dec_len k (u / 10) (by rw [Nat.pow_succ] at h; omega)
      simp; omega
theorem itoa_len {n : Int} (h0 : 0 ≤ n) (h1 : n ≤ 1000000000000000) : (Lib.itoa n).length ≤ 16 := by
  unfold Lib.itoa
  rw [if_neg (by omega)]
  exact dec_len 15 _ (by omega)
theorem cell_len (k : Nat) {x : Int} (h0 : 0 ≤ x) (h1 : x ≤ 1000000000000000) : (cellText k x).length ≤ 17 := by
  have := itoa_len h0 h1
  unfold cellText
  rw [List.length_append]
  split <;> simp <;> omega
theorem rowTo_len {r : List Int} (h : ∀ j, j < r.length → 0 ≤ r.getD j 0 ∧ r.getD j 0 ≤ 1000000000000000) : ∀ k, k ≤ r.length → (rowTo r k).length ≤ 17 * k
  | 0, _ => by simp [rowTo]
  | k + 1, hk => by
    have h1 := rowTo_len h k (by omega)
    have h2 := h k (by omega)
    have h3 := cell_len k h2.1 h2.2
    rw [rowTo, List.length_append]
    omega
theorem triTo_len {t : List (List Int)} (h : Small t) : ∀ k, k ≤ t.length → (triTo t k).length ≤ 341 * k
  | 0, _ => by simp [triTo]
  | k + 1, hk => by
    have h1 := triTo_len h k (by omega)
    obtain ⟨h2, h3⟩ := h.2 k (by omega)
    have h4 := rowTo_len h3 _ (Nat.le_refl _)
    rw [triTo, List.length_append, List.length_append, List.length_cons, List.length_nil]
    omega

theorem builder_new (w : World) : Lib.IsBuilder 61 5 w.heap.size w.heap.size (Lib.byteCells []) (w.alloc (.cells #[.pointer none, .slice none 0 0] 61)) :=
  .inl ⟨Nat.le_refl _, _, alloc_new w _, World.ownsRow_nil _ _ _ _, by simp [Value.ownBlock]⟩

theorem bd_below {w w' : World} {B b : Nat} {bs : List Value} (h : Lib.IsBuilder 61 5 B b bs w) (hb : Below w.heap.size w w') : Lib.IsBuilder 61 5 B b bs w' := by
  have key : ∀ p, Lib.BuilderAt 61 5 B b p bs w → Lib.BuilderAt 61 5 B b p bs w' := fun p hp =>
    let ⟨h1, v, h2, h3, h4⟩ := hp
    ⟨h1, v, (hb.block b (Array.getElem?_eq_some_iff.1 h2).1).trans h2, own_below h3 hb, h4⟩
  exact h.elim (fun x => .inl (key _ x)) (fun x => .inr (key _ x))
def TextO (t : List (List Int)) (w : World) (i : Value) (wr : World) : Prop := ∃ k : Nat, k ≤ t.length ∧ i = .int .i64 (k : Int) ∧ Lib.IsBuilder 61 5 w.heap.size w.heap.size (Lib.byteCells (triTo t k)) wr ∧ Below w.heap.size w wr
def TextI (p : List UInt8) (r : List Int) (w : World) (j : Value) (wr : World) : Prop := ∃ q : Nat, q ≤ r.length ∧ j = .int .i64 (q : Int) ∧ Lib.IsBuilder 61 5 w.heap.size w.heap.size (Lib.byteCells (p ++ rowTo r q)) wr ∧ Below w.heap.size w wr

set_option maxRecDepth 100000 in
set_option maxHeartbeats 4000000 in
theorem text_walk (T : Value) (t : List (List Int)) (w : World) (hT : RowsAt w T t) (ht : checkTri t = 0) (hw : LibOk w) :
    Calls Tryz.prog 8 #[T] w fun e w' => e = .returned (.tuple #[.string ⟨(triText t).toArray⟩, .nilIface]) ∧ Below w.heap.size w w' := by
  have hsm := check_small ht
  have HC : Hid (Calls Tryz.prog 15 #[T] w fun e w' => e = .returned .nilIface ∧ w = w') := by
    have := Check_walk T t w hT (fun r hr => by
      obtain ⟨i, hi, rfl⟩ := List.mem_iff_getElem.1 hr
      have := (hsm.2 i hi).1
      simp only [List.getD, List.getElem?_eq_getElem hi, Option.getD_some] at this
      omega)
    rw [ht] at this
    exact this
  have HSM := Lib.hid hsm
  have hl20 := hsm.1
  have HW := Lib.hid hw
  obtain ⟨f, ⟨a, c, rfl, hc, hall⟩, hrows⟩ := hT
  have HA := Lib.hid hall
  have HR := Lib.hid hrows
  clear hall hrows hsm hw ht
  go_enter Tryz.func8, Tryz.ntmps8
  go_wp2_with fail
  refine HC.out.mono ?_
  rintro e w1 ⟨rfl, rfl⟩
  go_wp2
  go_loopw [17] (TextO t w) (fun i _ => t.length - (intOf i).toNat)
  case atStart => exact ⟨0, Nat.zero_le _, rfl, builder_new w, (Below.refl _ _).alloc (Nat.le_refl _) _⟩
  case round =>
    obtain ⟨k, hk, rfl, hbd, hbw⟩ := hrel
    have HBD := Lib.hid hbd
    have HB := Lib.hid hbw
    clear hbd hbw
    have hk0 : (0 : Int) ≤ (k : Int) := Int.natCast_nonneg _
    by_cases hlt : k < t.length
    · obtain ⟨g, o, rfl, hg, hx⟩ := HA.out k hlt
      have hr := HR.out k hlt
      obtain ⟨ra, rc, hfk, hrc, hrall⟩ := hr
      have hcx : wr.cell? ⟨g, o + k, none⟩ = some (.slice ra (t.getD k []).length rc) := by rw [HB.out.cell hg, hx, hfk]
      obtain ⟨hq20, hqv⟩ := HSM.out.2 k hlt
      have htri : triTo t (k + 1) = triTo t k ++ (rowTo (t.getD k []) (t.getD k []).length ++ [10]) := rfl
      obtain ⟨r, hr⟩ : ∃ r, t.getD k [] = r := ⟨_, rfl⟩
      rw [hr] at hcx hq20 hqv htri hrall
      have HRA := Lib.hid hrall
      have HQV := Lib.hid hqv
      have HTR := Lib.hid htri
      clear hr htri
      obtain ⟨W, hW⟩ : ∃ W, W = wr := ⟨_, rfl⟩
      subst hW
      clear hx hfk hrall hqv
      have hk1 : (k : Int) < (t.length : Int) := by omega
      go_wp2
      go_loopw [23] (TextI (triTo t k) r w) (fun j _ => r.length - (intOf j).toNat)
      case atStart => exact ⟨0, Nat.zero_le _, rfl, by simpa [rowTo] using HBD.out, HB.out⟩
      case round =>
        obtain ⟨q, hq, rfl, hbd2, hbw2⟩ := hrel
        have HBD2 := Lib.hid hbd2
        have HB2 := Lib.hid hbw2
        have hsz := hbw2.size
        clear hbd2 hbw2
        have hq0 : (0 : Int) ≤ (q : Int) := Int.natCast_nonneg _
        have htl := triTo_len HSM.out k hk
        have hrl := rowTo_len HQV.out q hq
        by_cases hlt2 : q < r.length
        · obtain ⟨g2, o2, rfl, hg2, hx2⟩ := HRA.out q hlt2
          obtain ⟨x, hxx⟩ : ∃ x, r.getD q 0 = x := ⟨_, rfl⟩
          have hxv := HQV.out q hlt2
          rw [hxx] at hx2 hxv
          have hcx2 : wr.cell? ⟨g2, o2 + q, none⟩ = some (.int .i64 x) := by rw [HB2.out.cell hg2, hx2]
          have HXX : Hid (rowTo r (q + 1) = rowTo r q ++ cellText q x) := by
            show rowTo r (q + 1) = _
            rw [rowTo, hxx]
          have hq1 : (q : Int) < (r.length : Int) := by omega
          have hxl := itoa_len hxv.1 hxv.2
          clear hxx hx2
          have hsw : w.heap.size ≤ wr.heap.size := HB2.out.size
          have hlen1 : (triTo t k ++ rowTo r q).length ≤ 10000 := by rw [List.length_append]; omega
          by_cases hqz : q = 0
          · have hqn : ¬ (0 : Int) < (q : Int) := by omega
            have hqs : cellText q x = Lib.itoa x := by unfold cellText; rw [if_neg (by omega)]; rfl
            rw [hqs] at HXX
            have HQZ := Lib.hid hqz
            clear hqz hqs
            go_wp2_with fail
            refine (itoa_ok (by omega) (by omega) wr (HW.out.below HB2.out)).mono ?_
            rintro e w3 ⟨rfl, hb3⟩
            have hbd3 : Lib.IsBuilder 61 5 w.heap.size w.heap.size (Lib.byteCells (triTo t k ++ rowTo r q)) w3 := bd_below HBD2.out hb3
            have hs3 := hb3.size
            have HB3 := Lib.hid (HB2.out.trans (hb3.mono hsw))
            clear hb3
            go_wp2_with fail
            refine (write_walk _ _ _ _ w3 hbd3 (by omega) (by omega)).mono ?_
            rintro e w4 ⟨⟨v4, rfl⟩, hbd4, hb4⟩
            have HBD4 := Lib.hid hbd4
            have HB4 := Lib.hid (HB3.out.trans hb4)
            clear hbd3 hbd4 hb4
            go_wp2
            go_roundw
            case rel => exact ⟨q + 1, hlt2, by go_num, by rw [HXX.out, ← List.append_assoc]; exact HBD4.out, HB4.out⟩
            case measure => simp [intOf]; omega
          · have hqp : (0 : Int) < (q : Int) := by omega
            have hqs : cellText q x = [32] ++ Lib.itoa x := by unfold cellText; rw [if_pos (by omega)]
            rw [hqs] at HXX
            clear hqz hqs
            go_wp2_with fail
            refine (write_walk _ _ _ [32] wr HBD2.out (by rw [List.length_singleton]; omega) hsw).mono ?_
            rintro e w2 ⟨⟨v2, rfl⟩, hbd2, hb2⟩
            have HBD2' := Lib.hid hbd2
            have HB2' := Lib.hid (HB2.out.trans hb2)
            have hs2 := HB2'.out.size
            clear hbd2 hb2
            go_wp2_with fail
            refine (itoa_ok (by omega) (by omega) w2 (HW.out.below HB2'.out)).mono ?_
            rintro e w3 ⟨rfl, hb3⟩
            have hbd3 : Lib.IsBuilder 61 5 w.heap.size w.heap.size (Lib.byteCells (triTo t k ++ rowTo r q ++ [32])) w3 := bd_below HBD2'.out hb3
            have hs3 := hb3.size
            have HB3 := Lib.hid (HB2'.out.trans (hb3.mono hs2))
            clear hb3
            go_wp2_with fail
            refine (write_walk _ _ _ _ w3 hbd3 (by rw [List.length_append, List.length_singleton]; omega) (by omega)).mono ?_
            rintro e w4 ⟨⟨v4, rfl⟩, hbd4, hb4⟩
            have HBD4 := Lib.hid hbd4
            have HB4 := Lib.hid (HB3.out.trans hb4)
            clear hbd3 hbd4 hb4
            go_wp2
            go_roundw
            case rel => exact ⟨q + 1, hlt2, by go_num, by rw [HXX.out, ← List.append_assoc, ← List.append_assoc]; exact HBD4.out, HB4.out⟩
            case measure => simp [intOf]; omega
        · obtain rfl : q = r.length := by omega
          have hsw : w.heap.size ≤ wr.heap.size := HB2.out.size
          have hlen1 : (triTo t k ++ rowTo r r.length).length ≤ 10000 := by rw [List.length_append]; omega
          go_wp2_with fail
          refine (write_walk _ _ _ [10] wr HBD2.out (by rw [List.length_singleton]; omega) hsw).mono ?_
          rintro e w2 ⟨⟨v2, rfl⟩, hbd2, hb2⟩
          have HBD2' := Lib.hid hbd2
          have HB2' := Lib.hid (HB2.out.trans hb2)
          clear hbd2 hb2
          go_wp2
          go_roundw
          case rel => exact ⟨k + 1, hlt, by go_num, by rw [HTR.out, ← List.append_assoc]; exact HBD2'.out, HB2'.out⟩
          case measure => simp [intOf]; omega
    · obtain rfl : k = t.length := by omega
      have hsw : w.heap.size ≤ wr.heap.size := HB.out.size
      go_wp2_with fail
      refine (string_walk _ _ _ wr HBD.out hsw).mono ?_
      rintro e w2 ⟨rfl, hb2⟩
      have HB2' := Lib.hid (HB.out.trans (hb2.mono (Nat.le_refl _)))
      clear hb2
      go_wp2
      go_ret2
      exact ⟨rfl, HB2'.out⟩

theorem mk_app (p q : List UInt8) : (⟨p.toArray⟩ : ByteArray) ++ ⟨q.toArray⟩ = ⟨(p ++ q).toArray⟩ := by
  apply ByteArray.ext
  rw [ByteArray.data_append]
  simp

def RTextO (t : List (List Int)) (w : World) (s i : Value) (wr : World) : Prop := ∃ k : Nat, k ≤ t.length ∧ i = .int .i64 (k : Int) ∧ s = .string ⟨(triTo t k).toArray⟩ ∧ Below w.heap.size w wr
def RTextI (p : List UInt8) (r : List Int) (w : World) (s j : Value) (wr : World) : Prop := ∃ q : Nat, q ≤ r.length ∧ j = .int .i64 (q : Int) ∧ s = .string ⟨(p ++ rowTo r q).toArray⟩ ∧ Below w.heap.size w wr

set_option maxRecDepth 100000 in
set_option maxHeartbeats 4000000 in
theorem refText_walk (T : Value) (t : List (List Int)) (w : World) (hT : RowsAt w T t) (hsm : Small t) (hw : LibOk w) :
    Calls Tryz.prog 10 #[T] w fun e w' => e = .returned (.string ⟨(triText t).toArray⟩) ∧ Below w.heap.size w w' := by
  have HSM := Lib.hid hsm
  have hl20 := hsm.1
  have HW := Lib.hid hw
  obtain ⟨f, ⟨a, c, rfl, hc, hall⟩, hrows⟩ := hT
  have HA := Lib.hid hall
  have HR := Lib.hid hrows
  clear hall hrows hsm hw
  go_enter Tryz.func10, Tryz.ntmps10
  go_wp2
  go_loopw [3, 10] (RTextO t w) (fun _ i _ => t.length - (intOf i).toNat)
  case atStart => exact ⟨0, Nat.zero_le _, rfl, rfl, Below.refl _ _⟩
  case round =>
    obtain ⟨k, hk, rfl, rfl, hbw⟩ := hrel
    have HB := Lib.hid hbw
    clear hbw
    have hk0 : (0 : Int) ≤ (k : Int) := Int.natCast_nonneg _
    by_cases hlt : k < t.length
    · obtain ⟨g, o, rfl, hg, hx⟩ := HA.out k hlt
      have hr := HR.out k hlt
      obtain ⟨ra, rc, hfk, hrc, hrall⟩ := hr
      have hcx : wr.cell? ⟨g, o + k, none⟩ = some (.slice ra (t.getD k []).length rc) := by rw [HB.out.cell hg, hx, hfk]
      obtain ⟨hq20, hqv⟩ := HSM.out.2 k hlt
      have htri : triTo t (k + 1) = triTo t k ++ (rowTo (t.getD k []) (t.getD k []).length ++ [10]) := rfl
      have htl := triTo_len HSM.out k hk
      obtain ⟨r, hr⟩ : ∃ r, t.getD k [] = r := ⟨_, rfl⟩
      rw [hr] at hcx hq20 hqv htri hrall
      obtain ⟨P, hP⟩ : ∃ P, triTo t k = P := ⟨_, rfl⟩
      rw [hP] at htri htl ⊢
      have HRA := Lib.hid hrall
      have HQV := Lib.hid hqv
      have HTR := Lib.hid htri
      clear hr htri hP
      obtain ⟨W, hW⟩ : ∃ W, W = wr := ⟨_, rfl⟩
      subst hW
      clear hx hfk hrall hqv
      have hk1 : (k : Int) < (t.length : Int) := by omega
      go_wp2
      go_loopw [3, 16] (RTextI P r w) (fun _ j _ => r.length - (intOf j).toNat)
      case atStart => exact ⟨0, Nat.zero_le _, rfl, by simp [rowTo], HB.out⟩
      case round =>
        obtain ⟨q, hq, rfl, rfl, hbw2⟩ := hrel
        have HB2 := Lib.hid hbw2
        clear hbw2
        have hq0 : (0 : Int) ≤ (q : Int) := Int.natCast_nonneg _
        have hrl := rowTo_len HQV.out q hq
        obtain ⟨S, hS⟩ : ∃ S, P ++ rowTo r q = S := ⟨_, rfl⟩
        have hSl : S.length ≤ 10000 := by rw [← hS, List.length_append]; omega
        rw [hS]
        have HS := Lib.hid hS
        clear hS
        by_cases hlt2 : q < r.length
        · obtain ⟨g2, o2, rfl, hg2, hx2⟩ := HRA.out q hlt2
          obtain ⟨x, hxx⟩ : ∃ x, r.getD q 0 = x := ⟨_, rfl⟩
          have hxv := HQV.out q hlt2
          rw [hxx] at hx2 hxv
          have hcx2 : wr.cell? ⟨g2, o2 + q, none⟩ = some (.int .i64 x) := by rw [HB2.out.cell hg2, hx2]
          have HXX : Hid (rowTo r (q + 1) = rowTo r q ++ cellText q x) := by
            show rowTo r (q + 1) = _
            rw [rowTo, hxx]
          have hq1 : (q : Int) < (r.length : Int) := by omega
          have hxl := itoa_len hxv.1 hxv.2
          clear hxx hx2
          by_cases hqz : q = 0
          · have hqn : ¬ (0 : Int) < (q : Int) := by omega
            have hqs : cellText q x = Lib.itoa x := by unfold cellText; rw [if_neg (by omega)]; rfl
            rw [hqs] at HXX
            have HQZ := Lib.hid hqz
            clear hqz hqs
            have hcat : ¬ 9223372036854775807 < S.length + (Lib.itoa x).length := by omega
            have happ := mk_app S (Lib.itoa x)
            go_wp2_with fail
            refine (itoa_ok (by omega) (by omega) wr (HW.out.below HB2.out)).mono ?_
            rintro e w3 ⟨rfl, hb3⟩
            have HB3 := Lib.hid (HB2.out.trans (hb3.mono HB2.out.size))
            clear hb3
            go_wp2
            go_roundw
            case rel => exact ⟨q + 1, hlt2, by go_num, by rw [HXX.out, ← List.append_assoc, HS.out], HB3.out⟩
            case measure => simp [intOf]; omega
          · have hqp : (0 : Int) < (q : Int) := by omega
            have hqs : cellText q x = [32] ++ Lib.itoa x := by unfold cellText; rw [if_pos (by omega)]
            rw [hqs] at HXX
            clear hqz hqs
            have hcat0 : ¬ 9223372036854775807 < S.length + 1 := by omega
            have happ0 := mk_app S [32]
            have hcat : ¬ 9223372036854775807 < S.length + 1 + (Lib.itoa x).length := by omega
            have happ := mk_app (S ++ [32]) (Lib.itoa x)
            go_wp2_with fail
            refine (itoa_ok (by omega) (by omega) wr (HW.out.below HB2.out)).mono ?_
            rintro e w3 ⟨rfl, hb3⟩
            have HB3 := Lib.hid (HB2.out.trans (hb3.mono HB2.out.size))
            clear hb3
            go_wp2
            go_roundw
            case rel => exact ⟨q + 1, hlt2, by go_num, by rw [HXX.out, ← List.append_assoc, HS.out]; rfl, HB3.out⟩
            case measure => simp [intOf]; omega
        · obtain rfl : q = r.length := by omega
          have hcat0 : ¬ 9223372036854775807 < S.length + 1 := by omega
          have happ0 := mk_app S [10]
          go_wp2
          go_roundw
          case rel => exact ⟨k + 1, hlt, by go_num, by rw [HTR.out, ← List.append_assoc, HS.out], HB2.out⟩
          case measure => simp [intOf]; omega
    · obtain rfl : k = t.length := by omega
      go_wp2
      go_ret
      exact ⟨rfl, HB.out⟩
end Go.Proofs.YtijhkahaccclmaaGreatDoor
