/-
  The walk of the law TriangleParses: it answers true at every text. Conditions: what the library's variables hold.
-/
import Derived.Test.YtijhkahaccclmaaGreatDoorPlace
import Derived.Test.YtijhkahaccclmaaGreatDoorParse
import Derived.Test.YtijhkahaccclmaaGreatDoorText
set_option linter.unusedSimpArgs false
set_option linter.unusedVariables false
set_option linter.unnecessarySimpa false
namespace Go.Proofs.YtijhkahaccclmaaGreatDoor
open Go Go.RowKit

set_option maxRecDepth 100000 in
set_option maxHeartbeats 4000000 in
theorem parse_long (s : ByteArray) (w : World) (hs : 50000 < s.size) :
    Calls Tryz.prog 4 #[.string s] w fun e w' => e = .returned (.tuple #[.slice none 0 0, .iface 28 (.int .i64 4)]) ∧ Below w.heap.size w w' := by
  have hs1 : (50000 : Int) < (s.size : Int) := by omega
  have b0 := (Boxed.new w 23 (.slice none 0 0)).alloc (.cells #[.iface 28 (.int .i64 4)] 25)
  have b1 := Boxed.new (w.alloc (.cells #[.slice none 0 0] 23)) 25 (.iface 28 (.int .i64 4))
  rw [World.size_alloc] at b1
  have c0 := b0.cell
  have c1 := b1.cell
  clear b0 b1
  go_enter Tryz.func4, Tryz.ntmps4
  go_wp2
  refine bodyPost_ret (v := .tuple #[.slice none 0 0, .iface 28 (.int .i64 4)]) ?_ rfl ⟨rfl, ((Below.refl _ _).alloc (Nat.le_refl _) _).alloc (by simp) _⟩
  simp [results, Tryz.f4, go_sem, c0, c1]

theorem text_nil (w : World) : Calls Tryz.prog 8 #[.slice none 0 0] w fun e w' => e = .returned (.tuple #[.string ⟨#[]⟩, .iface 28 (.int .i64 4)]) ∧ w = w' := by
  have hC := Check_walk (.slice none 0 0) [] w ⟨fun _ => undef, ⟨none, 0, rfl, Nat.le_refl _, fun j hj => absurd hj (Nat.not_lt_zero _)⟩, fun i hi => absurd hi (Nat.not_lt_zero _)⟩ (fun r hr => by cases hr)
  have HC : Hid (Calls Tryz.prog 15 #[.slice none 0 0] w fun e w' => e = .returned (.iface 28 (.int .i64 4)) ∧ w = w') := hC
  clear hC
  go_enter Tryz.func8, Tryz.ntmps8
  go_wp2_with fail
  refine HC.out.mono ?_
  rintro e w1 ⟨rfl, rfl⟩
  go_wp2
  go_ret2
  exact ⟨rfl, rfl⟩

set_option maxRecDepth 100000 in
set_option maxHeartbeats 4000000 in
/-- Both say that it is amiss, and how. -/
theorem law_bad (s : ByteArray) (k b : Int) (w : World) (hs : ¬ (3000 < s.size ∧ s.size ≤ 50000)) (hk : k ≠ 0) (hE : ErrOk w)
    (hp : Calls Tryz.prog 4 #[.string s] w fun e w' => (∃ ev, e = .returned (.tuple #[.slice none 0 0, ev]) ∧ ∀ w1, Below w'.heap.size w' w1 → Calls Tryz.prog 19 #[ev] w1 fun e w2 => e = .returned (.tuple #[.int .i64 k, .int .i64 b]) ∧ Below w1.heap.size w1 w2) ∧ Below w.heap.size w w')
    (hr : ∀ w1, Below w.heap.size w w1 → Calls Tryz.prog 5 #[.string s] w1 fun e w2 => e = .returned (.tuple #[.slice none 0 0, .agg #[.int .i64 k, .int .i64 b]]) ∧ Below w1.heap.size w1 w2) :
    Calls Tryz.prog 3 #[.string s] w fun e w' => e = .returned (.bool true) ∧ Below w.heap.size w w' := by
  have HP := Lib.hid hp
  have HR := Lib.hid hr
  have HE := Lib.hid hE
  clear hp hr hE
  have hk0 : (k == 0) = false := by simpa using hk
  go_enter Tryz.func3, Tryz.ntmps3
  by_cases h1 : 3000 < s.size
  · have h2 : ¬ s.size ≤ 50000 := fun h => hs ⟨h1, h⟩
    have h3 : (3000 : Int) < (s.size : Int) := by omega
    have h4 : ¬ (s.size : Int) ≤ 50000 := by omega
    clear hs
    go_wp2_with fail
    refine HP.out.mono ?_
    rintro e w1 ⟨⟨ev, rfl, hev⟩, hb1⟩
    have HEV := Lib.hid hev
    have HB1 := Lib.hid hb1
    clear hev
    go_wp2_with fail
    refine (HR.out w1 hb1).mono ?_
    rintro e w2 ⟨rfl, hb2⟩
    have hs1 := hb1.size
    have hs2 := hb2.size
    have hb3 : Below w1.heap.size w1 (w2.alloc (.cells #[.int .i64 k, .int .i64 b] 30)) := hb2.alloc hs2 _
    have d0 := cell0_two w2 (.int .i64 k) (.int .i64 b) 30
    have d1 := cell1_two w2 (.int .i64 k) (.int .i64 b) 30
    have HD0 := Lib.hid d0
    have HB3 := Lib.hid hb3
    clear hb1 hb2
    go_wp2_with fail
    refine (at_same ev k b _ (fun w' hw' => HEV.out w' (HB3.out.trans (hw'.mono (by have := HB3.out.size; exact this))))).mono ?_
    rintro e w3 ⟨rfl, hb4⟩
    have c0 : w3.cell? ⟨w2.heap.size, 0, none⟩ = some (.int .i64 k) := cell_below HD0.out hb4
    have HB4 := Lib.hid (HB3.out.trans (hb4.mono (by have := HB3.out.size; exact this)))
    have HBW := Lib.hid (HB1.out.trans (HB4.out.mono hs1))
    have HE3 := Lib.hid (HE.out.below HBW.out)
    clear hb4 d0 d1 hb3
    go_wp2
    refine wp_loop_rounds 1 ?_
    rw [rounds_succ]
    go_wp2_with fail
    refine (text_nil w3).mono ?_
    rintro e w4 ⟨rfl, rfl⟩
    go_wp2_with fail
    refine (Tell_err 4 w3 HE3.out).mono ?_
    rintro e w5 ⟨rfl, hb5⟩
    have HB5 := Lib.hid (HBW.out.trans (hb5.mono HBW.out.size))
    clear hb5
    go_wp2
    go_ret
    exact ⟨rfl, HB5.out⟩
  · have h3 : ¬ (3000 : Int) < (s.size : Int) := by omega
    clear hs
    go_wp2_with fail
    refine HP.out.mono ?_
    rintro e w1 ⟨⟨ev, rfl, hev⟩, hb1⟩
    have HEV := Lib.hid hev
    have HB1 := Lib.hid hb1
    clear hev
    go_wp2_with fail
    refine (HR.out w1 hb1).mono ?_
    rintro e w2 ⟨rfl, hb2⟩
    have hs1 := hb1.size
    have hs2 := hb2.size
    have hb3 : Below w1.heap.size w1 (w2.alloc (.cells #[.int .i64 k, .int .i64 b] 30)) := hb2.alloc hs2 _
    have d0 := cell0_two w2 (.int .i64 k) (.int .i64 b) 30
    have d1 := cell1_two w2 (.int .i64 k) (.int .i64 b) 30
    have HD0 := Lib.hid d0
    have HB3 := Lib.hid hb3
    clear hb1 hb2
    go_wp2_with fail
    refine (at_same ev k b _ (fun w' hw' => HEV.out w' (HB3.out.trans (hw'.mono (by have := HB3.out.size; exact this))))).mono ?_
    rintro e w3 ⟨rfl, hb4⟩
    have c0 : w3.cell? ⟨w2.heap.size, 0, none⟩ = some (.int .i64 k) := cell_below HD0.out hb4
    have HB4 := Lib.hid (HB3.out.trans (hb4.mono (by have := HB3.out.size; exact this)))
    have HBW := Lib.hid (HB1.out.trans (HB4.out.mono hs1))
    have HE3 := Lib.hid (HE.out.below HBW.out)
    clear hb4 d0 d1 hb3
    go_wp2
    refine wp_loop_rounds 1 ?_
    rw [rounds_succ]
    go_wp2_with fail
    refine (text_nil w3).mono ?_
    rintro e w4 ⟨rfl, rfl⟩
    go_wp2_with fail
    refine (Tell_err 4 w3 HE3.out).mono ?_
    rintro e w5 ⟨rfl, hb5⟩
    have HB5 := Lib.hid (HBW.out.trans (hb5.mono HBW.out.size))
    clear hb5
    go_wp2
    go_ret
    exact ⟨rfl, HB5.out⟩

theorem below_drawn (w : World) (n : Nat) : Below w.heap.size w (w.drewN n) := ⟨rfl, rfl, rfl, Nat.le_refl _, fun _ _ => rfl⟩

set_option maxRecDepth 100000 in
set_option maxHeartbeats 4000000 in
/-- Both read the same rows. -/
theorem law_good (s : ByteArray) (t : List (List Int)) (w : World) (hs : s.size ≤ 3000) (ht : checkTri t = 0) (hL : LibOk w)
    (hp : Calls Tryz.prog 4 #[.string s] w fun e w' => (∃ T, e = .returned (.tuple #[T, .nilIface]) ∧ RowsAt w' T t) ∧ Below w.heap.size w w')
    (hr : ∀ w1, Below w.heap.size w w1 → Calls Tryz.prog 5 #[.string s] w1 fun e w2 => (∃ T, e = .returned (.tuple #[T, .agg #[.int .i64 0, .int .i64 (-1)]]) ∧ RowsAt w2 T t) ∧ Below w1.heap.size w1 w2) :
    Calls Tryz.prog 3 #[.string s] w fun e w' => e = .returned (.bool true) ∧ Below w.heap.size w w' := by
  have HP := Lib.hid hp
  have HR := Lib.hid hr
  have HL := Lib.hid hL
  have HCT := Lib.hid ht
  have hsm := check_small ht
  have hl20 := hsm.1
  have HSM := Lib.hid hsm
  clear hp hr hL ht hsm
  have h3 : ¬ (3000 : Int) < (s.size : Int) := by omega
  go_enter Tryz.func3, Tryz.ntmps3
  go_wp2_with fail
  refine HP.out.mono ?_
  rintro e w1 ⟨⟨T, rfl, hT⟩, hb1⟩
  have HB1 := Lib.hid hb1
  have HT := Lib.hid hT
  clear hT
  go_wp2_with fail
  refine (HR.out w1 hb1).mono ?_
  rintro e w2 ⟨⟨T', rfl, hT'⟩, hb2⟩
  have hs1 := hb1.size
  have hs2 := hb2.size
  have ht1 := HT.out.below hb2
  obtain ⟨f, ⟨a, c, rfl, hc, hall⟩, hrows⟩ := ht1
  obtain ⟨f', ⟨a', c', rfl, hc', hall'⟩, hrows'⟩ := hT'
  have HA := Lib.hid hall
  have HA' := Lib.hid hall'
  have HRW := Lib.hid hrows
  have HRW' := Lib.hid hrows'
  have hb3 : Below w1.heap.size w1 (w2.alloc (.cells #[.int .i64 0, .int .i64 (-1)] 30)) := hb2.alloc hs2 _
  have hb2a : Below w2.heap.size w2 (w2.alloc (.cells #[.int .i64 0, .int .i64 (-1)] 30)) := (Below.refl _ _).alloc (Nat.le_refl _) _
  have d0 := cell0_two w2 (.int .i64 0) (.int .i64 (-1)) 30
  have d1 := cell1_two w2 (.int .i64 0) (.int .i64 (-1)) 30
  have HD0 := Lib.hid d0
  have HB3 := Lib.hid hb3
  have HB2A := Lib.hid hb2a
  clear hb1 hb2 hall hall' hrows hrows' hb2a
  go_wp2_with fail
  refine (at_same .nilIface 0 (-1) _ (fun w' _ => Place_nil w')).mono ?_
  rintro e w3 ⟨rfl, hb4⟩
  have c0 : w3.cell? ⟨w2.heap.size, 0, none⟩ = some (.int .i64 0) := cell_below HD0.out hb4
  have HB4 := Lib.hid (HB3.out.trans (hb4.mono (by have := HB3.out.size; exact this)))
  have HB24 := Lib.hid (HB2A.out.trans (hb4.mono (by have := HB2A.out.size; exact this)))
  have HBW := Lib.hid (HB1.out.trans (HB4.out.mono hs1))
  have HL3 := Lib.hid (HL.out.below HBW.out)
  clear hb4 d0 d1 hb3
  go_wp2
  go_loopw [7] (fun i wr => ∃ k n : Nat, k ≤ t.length ∧ i = .int .i64 (k : Int) ∧ wr = w3.drewN n) (fun i _ => t.length - (intOf i).toNat)
  case atStart => exact ⟨0, 0, Nat.zero_le _, rfl, rfl⟩
  case round =>
    obtain ⟨k, n, hk, rfl, rfl⟩ := hrel
    have hk0 : (0 : Int) ≤ (k : Int) := Int.natCast_nonneg _
    by_cases hlt : k < t.length
    · obtain ⟨g, o, rfl, hg, hx⟩ := HA.out k hlt
      obtain ⟨g', o', rfl, hg', hx'⟩ := HA'.out k hlt
      have hr := (HRW.out k hlt).below HB24.out
      have hr' := (HRW'.out k hlt).below HB24.out
      have hq20 := (HSM.out.2 k hlt).1
      obtain ⟨r, hrr⟩ : ∃ r, t.getD k [] = r := ⟨_, rfl⟩
      rw [hrr] at hr hr' hq20
      have HSI : Hid (∀ m, Calls Tryz.prog 7 #[f k, f' k] (w3.drewN (n + m)) fun e w' => e = .returned (.bool true) ∧ ∃ q, w' = w3.drewN (n + q)) := fun m => by
        refine (sameInts_walk (f k) (f' k) r r (w3.drewN (n + m)) (hr.below (below_drawn _ _)) (hr'.below (below_drawn _ _)) (by omega) (by omega)).mono ?_
        rintro e w' ⟨rfl, q, rfl⟩
        exact ⟨by rw [decide_eq_true rfl], m + q, by rw [World.drewN_drewN, Nat.add_assoc]⟩
      obtain ⟨ra, rc, hfk, _⟩ := hr
      obtain ⟨ra', rc', hfk', _⟩ := hr'
      have e1 : w3.cell? ⟨g, o + k, none⟩ = some (f k) := (HB24.out.cell (p := ⟨g, o + k, none⟩) hg).trans hx
      have e2 : w3.cell? ⟨g', o' + k, none⟩ = some (f' k) := (HB24.out.cell (p := ⟨g', o' + k, none⟩) hg').trans hx'
      rw [hfk] at e1 HSI
      rw [hfk'] at e2 HSI
      have hcx : (w3.drewN n).cell? ⟨g, o + k, none⟩ = some (.slice ra r.length rc) := e1
      have hcx' : (w3.drewN n).cell? ⟨g', o' + k, none⟩ = some (.slice ra' r.length rc') := e2
      have hk1 : (k : Int) < (t.length : Int) := by omega
      clear hx hx' hfk hfk' hrr
      go_wp2_with fail
      go_quiet (exact HSI.out _)
      go_wp2
      go_roundw
      case rel => exact ⟨k + 1, n + nq, hlt, by go_num, rfl⟩
      case measure => simp [intOf]; omega
    · have HBN := Lib.hid (HBW.out.trans ((below_drawn w3 n).mono HBW.out.size))
      have HLN := Lib.hid (HL3.out.below (below_drawn w3 n))
      have hT4 : RowsAt (w3.drewN n) (.slice a t.length c) t := RowsAt.below (RowsAt.below ⟨f, ⟨a, c, rfl, hc, HA.out⟩, HRW.out⟩ HB24.out) (below_drawn w3 n)
      have hT4' : RowsAt (w3.drewN n) (.slice a' t.length c') t := RowsAt.below (RowsAt.below ⟨f', ⟨a', c', rfl, hc', HA'.out⟩, HRW'.out⟩ HB24.out) (below_drawn w3 n)
      have HT4 := Lib.hid hT4
      have HT4' := Lib.hid hT4'
      have c1 : (w3.drewN n).cell? ⟨w2.heap.size, 0, none⟩ = some (.int .i64 0) := c0
      have C1 := Lib.hid c1
      clear hT4 hT4'
      go_wp2_with fail
      refine (text_walk _ t _ HT4.out HCT.out HLN.out).mono ?_
      rintro e w4 ⟨rfl, hb5⟩
      have c2 : w4.cell? ⟨w2.heap.size, 0, none⟩ = some (.int .i64 0) := cell_below C1.out hb5
      have HL4 := Lib.hid (HLN.out.below hb5)
      have HT5 := Lib.hid (HT4'.out.below hb5)
      have HB5 := Lib.hid (HBN.out.trans (hb5.mono HBN.out.size))
      obtain ⟨X, hX⟩ : ∃ X, triText t = X := ⟨_, rfl⟩
      have HRT := Lib.hid (refText_walk _ t w4 HT5.out HSM.out HL4.out)
      rw [hX] at HRT ⊢
      clear hb5 c1 c0 hX
      go_wp2_with fail
      refine HRT.out.mono ?_
      rintro e w5 ⟨rfl, hb6⟩
      have HB6 := Lib.hid (HB5.out.trans (hb6.mono HB5.out.size))
      clear hb6
      go_wp2
      go_ret
      exact ⟨rfl, HB6.out⟩

set_option maxHeartbeats 1000000 in
theorem law_most (s : ByteArray) (w : World) (h1 : 3000 < s.size) (h2 : s.size ≤ 50000) : Calls Tryz.prog 3 #[.string s] w fun e w' => e = .returned (.bool true) ∧ Below w.heap.size w w' := by
  have h3 : (3000 : Int) < (s.size : Int) := by omega
  have h4 : (s.size : Int) ≤ 50000 := by omega
  go_enter Tryz.func3, Tryz.ntmps3
  go_wp2
  go_ret
  exact ⟨rfl, Below.refl _ _⟩

/-- **The law answers true, at every text.** -/
theorem law_walk (s : ByteArray) (w : World) (hL : LibOk w) (hE : ErrOk w) : Calls Tryz.prog 3 #[.string s] w fun e w' => e = .returned (.bool true) ∧ Below w.heap.size w w' := by
  by_cases hbig : 50000 < s.size
  · refine law_bad s 4 (-1) w (by omega) (by decide) hE ?_ ?_
    · refine (parse_long s w hbig).mono ?_
      rintro e w' ⟨rfl, hb⟩
      exact ⟨⟨_, rfl, fun w1 hb1 => Place_err 4 w1 ((hE.below hb).below hb1)⟩, hb⟩
    · exact fun w1 _ => refParse_long s w1 hbig
  · by_cases hmid : 3000 < s.size
    · exact law_most s w hmid (by omega)
    · obtain ⟨l, rfl⟩ : ∃ l : List UInt8, s = ⟨l.toArray⟩ := ⟨s.data.toList, by rw [Array.toArray_toList]⟩
      have hl : l.length ≤ 3000 := by rw [Lib.size_mk] at hmid; omega
      have hpw := fun w1 (hb : Below w.heap.size w w1) => refParse_walk l w1 (by omega) (hL.below hb).fine
      cases hlin : linesOf (cuts 10 l) with
      | inr p =>
        refine law_bad _ 3 (p : Int) w (by omega) (by decide) hE ?_ ?_
        · refine (parse_walk l w (by omega) hL).mono ?_
          rintro e w' ⟨hpi, hb⟩
          unfold ParseIs at hpi
          rw [hlin] at hpi
          obtain ⟨B, rfl, hB⟩ := hpi
          refine ⟨⟨_, rfl, fun w1 hb1 => ?_⟩, hb⟩
          have g0 : w'.cell? ⟨B, 0, none⟩ = some (.int .i64 3) := by unfold World.cell?; simp only [hB]; rfl
          have g1 : w'.cell? ⟨B, 1, none⟩ = some (.int .i64 (p : Int)) := by unfold World.cell?; simp only [hB]; rfl
          exact Place_at 3 p B w1 ((hE.below hb).below hb1) (cell_below g0 hb1) (cell_below g1 hb1)
        · intro w1 hb1
          refine (hpw w1 hb1).mono ?_
          rintro e w2 ⟨hri, hb⟩
          unfold RefIs at hri
          rw [hlin] at hri
          exact ⟨hri, hb⟩
      | inl q =>
        obtain ⟨t, a⟩ := q
        by_cases hc : checkTri t = 0
        · refine law_good _ t w (by omega) hc hL ?_ ?_
          · refine (parse_walk l w (by omega) hL).mono ?_
            rintro e w' ⟨hpi, hb⟩
            unfold ParseIs at hpi
            rw [hlin] at hpi
            simp only [hc] at hpi
            rw [if_pos trivial] at hpi
            exact ⟨hpi, hb⟩
          · intro w1 hb1
            refine (hpw w1 hb1).mono ?_
            rintro e w2 ⟨hri, hb⟩
            unfold RefIs at hri
            rw [hlin] at hri
            simp only [hc] at hri
            rw [if_pos trivial] at hri
            exact ⟨hri, hb⟩
        · refine law_bad _ (checkTri t) (-1) w (by omega) hc hE ?_ ?_
          · refine (parse_walk l w (by omega) hL).mono ?_
            rintro e w' ⟨hpi, hb⟩
            unfold ParseIs at hpi
            rw [hlin] at hpi
            simp only at hpi
            rw [if_neg hc] at hpi
            exact ⟨⟨_, hpi, fun w1 hb1 => Place_err _ w1 ((hE.below hb).below hb1)⟩, hb⟩
          · intro w1 hb1
            refine (hpw w1 hb1).mono ?_
            rintro e w2 ⟨hri, hb⟩
            unfold RefIs at hri
            rw [hlin] at hri
            simp only at hri
            rw [if_neg hc] at hri
            exact ⟨hri, hb⟩
end Go.Proofs.YtijhkahaccclmaaGreatDoor
