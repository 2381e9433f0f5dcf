/-
  The walk of the reference's TriangleParse: rows of numbers, or the fault and its place. Conditions: the text's length, what the variable fine holds.
-/
import Derived.Test.YtijhkahaccclmaaGreatDoorHeld
set_option linter.unusedSimpArgs false
set_option linter.unusedVariables false
set_option linter.unnecessarySimpa false
namespace Go.Proofs.YtijhkahaccclmaaGreatDoor
open Go Go.RowKit

/-- What the reference answers: the rows' slice, the fault. -/
def RefIs (s : List UInt8) (w : World) (e : Ending) (w' : World) : Prop :=
  match linesOf (cuts 10 s) with
  | .inr p => e = .returned (.tuple #[.slice none 0 0, .agg #[.int .i64 3, .int .i64 (p : Int)]])
  | .inl (t, _) => if checkTri t = 0 then ∃ T, e = .returned (.tuple #[T, .agg #[.int .i64 0, .int .i64 (-1)]]) ∧ RowsAt w' T t
    else e = .returned (.tuple #[.slice none 0 0, .agg #[.int .i64 (checkTri t), .int .i64 (-1)]])

def FineIs (w : World) : Prop := w.cell? ⟨0, 0, none⟩ = some (.int .i64 0) ∧ w.cell? ⟨0, 1, none⟩ = some (.int .i64 (-1))

set_option maxRecDepth 100000 in
set_option maxHeartbeats 4000000 in
theorem refParse_long (s : ByteArray) (w : World) (hs : 50000 < s.size) :
    Calls Tryz.prog 5 #[.string s] w fun e w' => e = .returned (.tuple #[.slice none 0 0, .agg #[.int .i64 4, .int .i64 (-1)]]) ∧ Below w.heap.size w w' := by
  have hs1 : (50000 : Int) < (s.size : Int) := by omega
  go_enter Tryz.func5, Tryz.ntmps5
  go_wp2
  refine bodyPost_ret (v := .tuple #[.slice none 0 0, .agg #[.int .i64 4, .int .i64 (-1)]]) ?_ rfl ⟨rfl, (Below.refl _ _).alloc (Nat.le_refl _) _⟩
  have c0 := cell0_two w (.int .i64 4) (.int .i64 (-1)) 30
  have c1 := cell1_two w (.int .i64 4) (.int .i64 (-1)) 30
  simp [results, Tryz.f5, go_sem, c0, c1]

def RefL (L : List (List UInt8)) (w1 : World) (T a i : Value) (wr : World) : Prop :=
  ∃ (k b : Nat) (t : List (List Int)), k ≤ L.length ∧ i = .int .i64 (k : Int) ∧ a = .int .i64 (b : Int) ∧ linesOf (L.take k) = .inl (t, b) ∧ RowsOwn wr w1.heap.size T t ∧ Below w1.heap.size w1 wr
/-- What holds at the head of the inner loop. -/
def RefW (M : List (List UInt8)) (b0 : Nat) (w2 : World) (a r j : Value) (wr : World) : Prop :=
  ∃ (k b : Nat) (l : List Int), k ≤ M.length ∧ j = .int .i64 (k : Int) ∧ a = .int .i64 (b : Int) ∧ wordsOf b0 (M.take k) = .inl (l, b) ∧ wr.ownsRow w2.heap.size 3 1 r l.length (l.map iv) ∧ Below w2.heap.size w2 wr

theorem number_none (l : List UInt8) (w : World) (hs : l.length ≤ 50000) (h : numOf l = none) : Calls Tryz.prog 17 #[.string ⟨l.toArray⟩] w fun e w' => e = .returned (.tuple #[.int .i64 0, .bool false]) ∧ Below w.heap.size w w' := by
  have := number_walk l w hs
  rw [h] at this
  exact this
theorem number_some (l : List UInt8) (n : Int) (w : World) (hs : l.length ≤ 50000) (h : numOf l = some n) : Calls Tryz.prog 17 #[.string ⟨l.toArray⟩] w fun e w' => e = .returned (.tuple #[.int .i64 n, .bool true]) ∧ Below w.heap.size w w' := by
  have := number_walk l w hs
  rw [h] at this
  exact this
theorem two_set {w : World} {b : Nat} {u0 u1 v0 v1 : Value} (h0 : w.cell? ⟨b, 0, none⟩ = some u0) (h1 : w.cell? ⟨b, 1, none⟩ = some u1) :
    ((w.setCell ⟨b, 0, none⟩ v0).setCell ⟨b, 1, none⟩ v1).cell? ⟨b, 0, none⟩ = some v0 ∧ ((w.setCell ⟨b, 0, none⟩ v0).setCell ⟨b, 1, none⟩ v1).cell? ⟨b, 1, none⟩ = some v1 := by
  have hne : (⟨b, 0, none⟩ : Addr) ≠ ⟨b, 1, none⟩ := by intro e; cases e
  constructor
  · rw [World.cell?_setCell_other]
    · exact World.cell?_setCell_same' _ _ _ (by rw [h0]; rfl)
    · exact hne.symm
  · refine World.cell?_setCell_same' _ _ _ ?_
    rw [World.cell?_setCell_other]
    · rw [h1]; rfl
    · exact hne
theorem place_add {e n : Nat} (h : e + n ≤ 1000000) : Value.int .i64 (wrap64 ((e : Int) + wrap64 ((n : Int) + 1))) = .int .i64 ((e + (n + 1) : Nat) : Int) := by
  have h1 : wrap64 ((n : Int) + 1) = (n : Int) + 1 := by unfold wrap64; omega
  have h2 : wrap64 ((e : Int) + ((n : Int) + 1)) = ((e + (n + 1) : Nat) : Int) := by unfold wrap64; omega
  rw [h1, h2]
theorem refIs_fail {s : List UInt8} {L M : List (List UInt8)} {k j b e : Nat} {t : List (List Int)} {l : List Int} {x y : List UInt8} {w w' : World} {v : Value} (hL : cuts 10 s = L) (hx : L.getD k [] = x) (hM : cuts 32 x = M) (hk : k < L.length)
    (h1 : linesOf (L.take k) = .inl (t, b)) (h2 : wordsOf b (M.take (j + 1)) = stepW (.inl (l, e)) y) (hy : y ≠ []) (hn : numOf y = none) :
    linesOf (cuts 10 s) = .inr e := by
  have e1 : wordsOf b (M.take (j + 1)) = .inr e := by rw [h2, stepW_inl, if_neg hy, hn]
  have e2 := wordsOf_stop e1 (List.take_prefix (j + 1) M)
  have e3 : linesOf (L.take (k + 1)) = .inr e := by
    rw [List.take_succ_eq_append_getElem hk, linesOf_snoc, h1, stepL_inl]
    simp only [List.getD, List.getElem?_eq_getElem hk, Option.getD_some] at hx
    rw [hx, hM, e2]
  rw [hL]
  exact linesOf_stop e3 (List.take_prefix _ _)
theorem refL_step {L M : List (List UInt8)} {k b e : Nat} {t : List (List Int)} {l : List Int} {x : List UInt8} (hx : L.getD k [] = x) (hM : cuts 32 x = M) (hk : k < L.length)
    (h1 : linesOf (L.take k) = .inl (t, b)) (h2 : wordsOf b M = .inl (l, e)) : linesOf (L.take (k + 1)) = .inl (if l = [] then t else t ++ [l], e) := by
  rw [List.take_succ_eq_append_getElem hk, linesOf_snoc, h1, stepL_inl]
  simp only [List.getD, List.getElem?_eq_getElem hk, Option.getD_some] at hx
  rw [hx, hM, h2]

set_option maxRecDepth 100000 in
set_option maxHeartbeats 4000000 in
theorem refParse_walk (s : List UInt8) (w : World) (hs : s.length ≤ 50000) (hf : FineIs w) :
    Calls Tryz.prog 5 #[.string ⟨s.toArray⟩] w fun e w' => RefIs s w e w' ∧ Below w.heap.size w w' := by
  obtain ⟨i0, hi, hz0, hz1, hz2⟩ := info_parts Tryz.info35
  obtain ⟨i1, hi', hz0', hz1', hz2'⟩ := info_parts Tryz.info3
  obtain ⟨hf0, hf1⟩ := hf
  have hsz : (⟨s.toArray⟩ : ByteArray).size = s.length := Lib.size_mk s
  have hs1 : ¬ (50000 : Int) < (s.length : Int) := by omega
  go_enter Tryz.func5, Tryz.ntmps5
  go_wp2_with fail
  refine (cutAt_walk 10 s _ (by omega)).mono ?_
  rintro e w1 ⟨⟨v, rfl, hv⟩, hb1⟩
  have hz1a := hb1.size
  simp only [World.size_alloc] at hz1a
  have hwlt : w.heap.size < w1.heap.size := hz1a
  have HBW : Hid (Below w.heap.size w w1) := (((Below.refl _ w).alloc (Nat.le_refl _) _).trans (hb1.mono (by simp)))
  have cF0 : w1.cell? ⟨w.heap.size, 0, none⟩ = some (.int .i64 0) := (hb1.cell (p := ⟨w.heap.size, 0, none⟩) (by simp)).trans (cell0_two _ _ _ _)
  have cF1 : w1.cell? ⟨w.heap.size, 1, none⟩ = some (.int .i64 0) := (hb1.cell (p := ⟨w.heap.size, 1, none⟩) (by simp)).trans (cell1_two _ _ _ _)
  have CF : Hid (w1.cell? ⟨w.heap.size, 0, none⟩ = some (.int .i64 0) ∧ w1.cell? ⟨w.heap.size, 1, none⟩ = some (.int .i64 0)) := ⟨cF0, cF1⟩
  have FF : Hid (∀ o, w1.frozen? ⟨w.heap.size, o, none⟩ = false) := fun o => (hb1.frozen (p := ⟨w.heap.size, o, none⟩) (by simp)).trans (frozen_two _ _ _ _ _)
  clear hb1 cF0 cF1
  obtain ⟨L, hL⟩ : ∃ L, cuts 10 s = L := ⟨_, rfl⟩
  have hLl : L.length ≤ 50001 := by rw [← hL]; have := cuts_len 10 s; omega
  have hsp : span L = s.length + 1 := by rw [← hL]; exact span_cuts _ _
  rw [hL] at hv
  have HL := Lib.hid hL
  have HSP := Lib.hid hsp
  clear hL hsp
  obtain ⟨a, c, rfl, hc, hall⟩ := hv
  have HV := Lib.hid hall
  clear hall
  go_wp2
  go_loopw [4, 5, 21] (RefL L w1) (fun _ _ i _ => L.length - (intOf i).toNat)
  case atStart => exact ⟨0, 0, [], Nat.zero_le _, rfl, rfl, rfl, RowsOwn.nil _ _, Below.refl _ _⟩
  case round =>
    obtain ⟨k, b, t, hk, rfl, rfl, hlin, hrows, hbw⟩ := hrel
    have HLIN := Lib.hid hlin
    have HROWS := Lib.hid hrows
    have HB := Lib.hid hbw
    have hba := linesOf_inl hlin
    rw [List.length_take] at hba
    have hspk := span_take L k
    rw [HSP.out, ← hba.1] at hspk
    have htl : t.length ≤ 50001 := by omega
    clear hlin hrows hbw hba
    have hk0 : (0 : Int) ≤ (k : Int) := Int.natCast_nonneg _
    have hb0 : (0 : Int) ≤ (b : Int) := Int.natCast_nonneg _
    by_cases hlt : k < L.length
    · obtain ⟨g, o, rfl, hg, hx⟩ := HV.out k hlt
      obtain ⟨x, hxx⟩ : ∃ x, L.getD k [] = x := ⟨_, rfl⟩
      rw [hxx] at hx
      have hxl := getD_len_span hlt
      rw [hxx, HSP.out] at hxl
      have hcx : wr.cell? ⟨g, o + k, none⟩ = some (.string ⟨x.toArray⟩) := by rw [HB.out.cell hg]; exact hx
      have HX := Lib.hid hxx
      have HXL := Lib.hid hxl
      clear hx hxx hxl
      have hk1 : (k : Int) < (L.length : Int) := by omega
      go_wp2_with fail
      refine (cutAt_walk 32 x _ (by have := HXL.out; omega)).mono ?_
      rintro e w2 ⟨⟨v, rfl, hv2⟩, hb2⟩
      have hz2a := hb2.size
      have HB2 := Lib.hid hb2
      obtain ⟨W, hW⟩ : ∃ W, W = wr := ⟨_, rfl⟩
      subst hW
      obtain ⟨M, hM⟩ : ∃ M, cuts 32 x = M := ⟨_, rfl⟩
      have hMl : M.length ≤ 50001 := by rw [← hM]; have := cuts_len 32 x; have := HXL.out; omega
      have hspM : span M = x.length + 1 := by rw [← hM]; exact span_cuts _ _
      rw [hM] at hv2
      have HM := Lib.hid hM
      have HSM := Lib.hid hspM
      clear hM hspM hb2
      obtain ⟨a2, c2, rfl, hc2, hall2⟩ := hv2
      have HV2 := Lib.hid hall2
      clear hall2
      go_wp2
      go_loopw [5, 8, 28] (RefW M b w2) (fun _ _ j _ => M.length - (intOf j).toNat)
      case atStart => exact ⟨0, b, [], Nat.zero_le _, rfl, rfl, rfl, World.ownsRow_nil _ _ _ _, Below.refl _ _⟩
      case round =>
        obtain ⟨j, e, l, hj, rfl, rfl, hwd, hown, hbw2⟩ := hrel
        have HWD := Lib.hid hwd
        have HOWN := Lib.hid hown
        have HB3 := Lib.hid hbw2
        have hea := wordsOf_inl hwd
        rw [List.length_take] at hea
        have hsj := span_take M j
        rw [HSM.out] at hsj
        have hel : e ≤ 50001 := by have := HXL.out; have := hea.1; have h9 := (linesOf_inl HLIN.out).1; omega
        have hll : l.length ≤ 50001 := by omega
        clear hwd hown hbw2 hea hsj
        have hj0 : (0 : Int) ≤ (j : Int) := Int.natCast_nonneg _
        have he0 : (0 : Int) ≤ (e : Int) := Int.natCast_nonneg _
        by_cases hlt2 : j < M.length
        · obtain ⟨g2, o2, rfl, hg2, hx2⟩ := HV2.out j hlt2
          obtain ⟨y, hyy⟩ : ∃ y, M.getD j [] = y := ⟨_, rfl⟩
          rw [hyy] at hx2
          have hyl := getD_len_span hlt2
          rw [hyy, HSM.out] at hyl
          have hcy : wr.cell? ⟨g2, o2 + j, none⟩ = some (.string ⟨y.toArray⟩) := by rw [HB3.out.cell hg2]; exact hx2
          have hMj : M.take (j + 1) = M.take j ++ [y] := by rw [List.take_succ_eq_append_getElem hlt2]; simp only [List.getD, List.getElem?_eq_getElem hlt2, Option.getD_some] at hyy; rw [hyy]
          have HYL : Hid (y.length ≤ 50000) := by show y.length ≤ 50000; have := HXL.out; omega
          have HMJ : Hid (wordsOf b (M.take (j + 1)) = stepW (.inl (l, e)) y) := by
            show wordsOf b (M.take (j + 1)) = _
            rw [hMj, wordsOf_snoc, HWD.out]
          have hj1 : (j : Int) < (M.length : Int) := by omega
          clear hyy hx2 hyl hMj
          cases y with
          | nil =>
            go_wp2
            go_roundw
            case rel => exact ⟨j + 1, e + 1, l, hlt2, by go_num, by go_num, HMJ.out, HOWN.out, HB3.out⟩
            case measure => simp [intOf]; omega
          | cons y0 ys =>
            obtain ⟨y, hy⟩ : ∃ y, y0 :: ys = y := ⟨_, rfl⟩
            have hyne : (⟨y.toArray⟩ : ByteArray) ≠ ⟨#[]⟩ := by rw [← hy]; intro h; have h9 := congrArg ByteArray.size h; rw [Lib.size_mk] at h9; exact absurd (h9.trans rfl : (y0 :: ys).length = 0) (by simp)
            have hyn : y ≠ [] := by rw [← hy]; simp
            rw [hy] at hcy HYL HMJ
            have HYN := Lib.hid hyn
            have hyb : (y == []) = false := by rw [← hy]; rfl
            have hyc : (y != []) = true := by rw [← hy]; rfl
            have hyd : y.isEmpty = false := by rw [← hy]; rfl
            clear hy
            go_wp2_with fail
            cases hn : numOf y with
            | none =>
              refine (number_none y wr HYL.out hn).mono ?_
              rintro e9 w3 ⟨rfl, hb3⟩
              have HB4 := Lib.hid hb3
              clear hb3
              have HNO := Lib.hid hn
              have s1 := HB.out.size
              have s2 := HB3.out.size
              have HALL : Hid (Below w1.heap.size w1 w3) := ((HB.out.trans (HB2.out.mono s1)).trans (HB3.out.mono (by omega))).trans (HB4.out.mono (by omega))
              have d0 : w3.cell? ⟨w.heap.size, 0, none⟩ = some (.int .i64 0) := (HALL.out.cell (p := ⟨w.heap.size, 0, none⟩) hwlt).trans CF.out.1
              have d1 : w3.cell? ⟨w.heap.size, 1, none⟩ = some (.int .i64 0) := (HALL.out.cell (p := ⟨w.heap.size, 1, none⟩) hwlt).trans CF.out.2
              have f0 : w3.frozen? ⟨w.heap.size, 0, none⟩ = false := (HALL.out.frozen (p := ⟨w.heap.size, 0, none⟩) hwlt).trans (FF.out 0)
              have f1 : w3.frozen? ⟨w.heap.size, 1, none⟩ = false := (HALL.out.frozen (p := ⟨w.heap.size, 1, none⟩) hwlt).trans (FF.out 1)
              have HR := Lib.hid (refIs_fail (w := w) (w' := w) (v := undef) HL.out HX.out HM.out hlt HLIN.out HMJ.out HYN.out HNO.out)
              clear hn
              go_wp2
              refine bodyPost_ret (v := .tuple #[.slice none 0 0, .agg #[.int .i64 3, .int .i64 e]]) ?_ rfl ⟨?_, ((HBW.out.trans (HALL.out.mono (Nat.le_of_lt hwlt))).setCell (p := ⟨w.heap.size, 0, none⟩) (Nat.le_refl _) _).setCell (p := ⟨w.heap.size, 1, none⟩) (Nat.le_refl _) _⟩
              · obtain ⟨c0, c1⟩ := two_set (v0 := .int .i64 3) (v1 := .int .i64 e) d0 d1
                simp [results, Tryz.f5, go_sem, c0, c1]
              · unfold RefIs
                rw [HR.out]
            | some n =>
              refine (number_some y n wr HYL.out hn).mono ?_
              rintro e9 w3 ⟨rfl, hb3⟩
              have HB4 := Lib.hid hb3
              clear hb3
              have HNO := Lib.hid hn
              clear hn
              go_wp2_with (at_builtin; refine wpList_append_own (P := Tryz.prog) _ rfl _ _ 35 rfl w2.heap.size 3 i1 (.int .i64 0) 1 8 Tryz.underlying35 hi' hz0' hz1' hz2' rfl (by decide) _ _ _ rfl ((own_below HOWN.out HB4.out).alloc _) ⟨w3.heap.size, 0, none⟩ 1 1 [.int .i64 n] rfl rfl ?c1 ?c2 ?c3 ?c4 ?c5 ?_)
              case c1 => exact cell_one_new w3 _ _
              case c2 => intro u hu; simp at hu; subst hu; rfl
              case c3 => unfold maxLen; omega
              case c4 => omega
              case c5 => have := HB3.out.size; have := HB4.out.size; simp; omega
              intro v' w4 hown' hgrow _
              have R := ((HB3.out.trans (HB4.out.mono HB3.out.size)).alloc (Nat.le_trans HB3.out.size HB4.out.size) _).grown hgrow (by have := HB3.out.size; have := HB4.out.size; simp; omega) (fun b h => (HOWN.out.lt b h).1)
              have HR := Lib.hid R
              have HO' : Hid (w4.ownsRow w2.heap.size 3 1 v' (l ++ [n]).length ((l ++ [n]).map iv)) := by rw [List.map_append, List.length_append]; exact hown'
              clear hgrow R hown'
              go_wp2
              have hyle : y.length ≤ 50000 := HYL.out
              go_roundw
              case rel => exact ⟨j + 1, e + (y.length + 1), l ++ [n], hlt2, by go_num, place_add (by omega), by rw [HMJ.out, stepW_inl, if_neg HYN.out, HNO.out], HO'.out, HR.out⟩
              case measure => simp [intOf]; omega
        · obtain rfl : j = M.length := by omega
          have hwd := HWD.out
          rw [List.take_length] at hwd
          have HST := Lib.hid (refL_step HX.out HM.out hlt HLIN.out hwd)
          have s1 := HB.out.size
          have s3 := HB2.out.size
          have s4 := HB3.out.size
          have HBO : Hid (Below w1.heap.size w1 wr) := (HB.out.trans (HB2.out.mono s1)).trans (HB3.out.mono (by omega))
          have HRO : Hid (RowsOwn wr w1.heap.size u4 t) := (HROWS.out.below HB2.out).below HB3.out
          clear hwd
          cases l with
          | nil =>
            have hsh : ∃ a3 c3, u8 = .slice a3 0 c3 := by
              rcases HOWN.out.2 with ⟨h, _⟩ | ⟨g3, c3, _, h, _⟩
              · exact ⟨_, _, h⟩
              · exact ⟨_, _, h⟩
            obtain ⟨a3, c3, rfl⟩ := hsh
            go_wp2
            go_roundw
            case rel => exact ⟨k + 1, e, t, hlt, by go_num, rfl, HST.out, HRO.out, HBO.out⟩
            case measure => simp [intOf]; omega
          | cons l0 ls =>
            have HRA : Hid (RowAt wr w1.heap.size u8 (l0 :: ls)) := (RowAt.of_own HOWN.out (by simp)).mono (by omega)
            obtain ⟨vs, hvs1, hvs2⟩ := HRO.out
            have HV1 := Lib.hid hvs1
            have HVV := Lib.hid hvs2
            clear hvs1 hvs2
            have hsh := HRA.out
            obtain ⟨g3, c3, _, rfl, _⟩ := hsh
            go_wp2_with (at_builtin; refine wpList_append_own (P := Tryz.prog) _ rfl _ _ 22 rfl w1.heap.size 35 i0 (.slice none 0 0) 1 24 Tryz.underlying22 hi hz0 hz1 hz2 rfl (by decide) _ _ _ rfl (HV1.out.alloc _) ⟨wr.heap.size, 0, none⟩ 1 1 [.slice (some ⟨g3, 0, none⟩) (l0 :: ls).length c3] rfl rfl ?c1 ?c2 ?c3 ?c4 ?c5 ?_)
            case c1 => exact cell_one_new wr _ _
            case c2 => intro u hu; simp at hu; subst hu; rfl
            case c3 => unfold maxLen; omega
            case c4 => omega
            case c5 => simp; omega
            intro v' w4 hown' hgrow _
            have R := (HBO.out.alloc (by omega) _).grown hgrow (by simp; omega) (fun b h => (HV1.out.lt b h).1)
            have HR := Lib.hid R
            have HRO' : Hid (RowsOwn w4 w1.heap.size v' (t ++ [l0 :: ls])) := by
              refine RowsOwn.snoc (w := wr.alloc (.cells #[.slice (some ⟨g3, 0, none⟩) (l0 :: ls).length c3] 35)) (HV1.out.alloc _) (fun j hj => (HVV.out j hj).below ((Below.refl _ _).alloc (Nat.le_refl _) _)) (HRA.out.below ((Below.refl _ _).alloc (Nat.le_refl _) _)) hown' hgrow
            clear hgrow R hown'
            go_wp2
            go_roundw
            case rel => exact ⟨k + 1, e, t ++ [l0 :: ls], hlt, by go_num, rfl, HST.out, HRO'.out, HR.out⟩
            case measure => simp [intOf]; omega
    · obtain rfl : k = L.length := by omega
      have hl := HLIN.out
      rw [List.take_length, ← HL.out] at hl
      have HLI := Lib.hid hl
      clear hl
      have HT := Lib.hid (TriangleCheck_walk u4 t wr HROWS.out.rows (fun r hr => by
        have h1 := linesOf_rows HLIN.out r hr
        have h2 := span_take L L.length
        rw [HSP.out] at h2
        omega))
      have d0 : wr.cell? ⟨w.heap.size, 0, none⟩ = some (.int .i64 0) := (HB.out.cell (p := ⟨w.heap.size, 0, none⟩) hwlt).trans CF.out.1
      have d1 : wr.cell? ⟨w.heap.size, 1, none⟩ = some (.int .i64 0) := (HB.out.cell (p := ⟨w.heap.size, 1, none⟩) hwlt).trans CF.out.2
      have f0 : wr.frozen? ⟨w.heap.size, 0, none⟩ = false := (HB.out.frozen (p := ⟨w.heap.size, 0, none⟩) hwlt).trans (FF.out 0)
      have f1 : wr.frozen? ⟨w.heap.size, 1, none⟩ = false := (HB.out.frozen (p := ⟨w.heap.size, 1, none⟩) hwlt).trans (FF.out 1)
      have hB0 : Below w.heap.size w wr := HBW.out.trans (HB.out.mono (Nat.le_of_lt hwlt))
      have e0 : wr.cell? ⟨0, 0, none⟩ = some (.int .i64 0) := (hB0.cell (p := ⟨0, 0, none⟩) (World.block_lt_of_cell? w _ hf0)).trans hf0
      have e1 : wr.cell? ⟨0, 1, none⟩ = some (.int .i64 (-1)) := (hB0.cell (p := ⟨0, 1, none⟩) (World.block_lt_of_cell? w _ hf1)).trans hf1
      have HB0 := Lib.hid hB0
      clear hB0
      go_wp2_with fail
      refine HT.out.mono ?_
      rintro e9 w9 ⟨rfl, rfl⟩
      have HROW := Lib.hid HROWS.out.rows
      have HRI : Hid (∀ e w', RefIs s w e w' ↔ if checkTri t = 0 then ∃ T, e = .returned (.tuple #[T, .agg #[.int .i64 0, .int .i64 (-1)]]) ∧ RowsAt w' T t
          else e = .returned (.tuple #[.slice none 0 0, .agg #[.int .i64 (checkTri t), .int .i64 (-1)]])) := by
        intro e w'
        unfold RefIs
        rw [HLI.out]
      have HBE : Hid (∀ x y, Below w.heap.size w ((wr.setCell ⟨w.heap.size, 0, none⟩ x).setCell ⟨w.heap.size, 1, none⟩ y)) := fun x y => (HB0.out.setCell (p := ⟨w.heap.size, 0, none⟩) (Nat.le_refl _) _).setCell (p := ⟨w.heap.size, 1, none⟩) (Nat.le_refl _) _
      obtain ⟨q, hq⟩ : ∃ q, checkTri t = q := ⟨_, rfl⟩
      rw [hq] at HRI ⊢
      clear hq
      by_cases h0 : q = 0
      · subst h0
        go_wp2
        go_region
        all_goals go_wp2
        refine bodyPost_ret (v := .tuple #[u4, .agg #[.int .i64 0, .int .i64 (-1)]]) ?_ rfl ⟨(HRI.out _ _).2 ?_, (HBE.out _ _).drew⟩
        · obtain ⟨c0, c1⟩ := two_set (v0 := .int .i64 0) (v1 := .int .i64 (-1)) d0 d1
          simp [results, Tryz.f5, go_sem, c0, c1]
        · rw [if_pos trivial]
          refine ⟨_, rfl, (HROWS.out.from fun k hk _ => ?_).rows⟩
          exact (Below.heap_setCell _ _ _ _ (by show k ≠ w.heap.size; omega)).trans (Below.heap_setCell _ _ _ _ (by show k ≠ w.heap.size; omega))
      · have hq0 : (q == 0) = false := by simpa using h0
        go_wp2
        refine bodyPost_ret (v := .tuple #[.slice none 0 0, .agg #[.int .i64 q, .int .i64 (-1)]]) ?_ rfl ⟨(HRI.out _ _).2 ?_, HBE.out _ _⟩
        · obtain ⟨c0, c1⟩ := two_set (v0 := .int .i64 q) (v1 := .int .i64 (-1)) d0 d1
          simp [results, Tryz.f5, go_sem, c0, c1]
        · rw [if_neg h0]
end Go.Proofs.YtijhkahaccclmaaGreatDoor
