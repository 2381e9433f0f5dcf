/-
  The walk of the reference's Many8, and of both at an empty slice. Conditions: as each theorem says.
-/
import Derived.Test.YtijdmnimiipinaaDoorMany
set_option linter.unusedSimpArgs false
set_option linter.unusedVariables false
set_option linter.unnecessarySimpa false
namespace Go.Proofs.YtijdmnimiipinaaDoor
open Go Go.RowKit

theorem Many_zero (a : Option Addr) (c n : Nat) (w : World) (hn : n ≤ 200) : Calls Tryd.prog 4 #[.slice a 0 c, .int .i64 n] w (ManyIs [] n (.iface 27 (.int .i64 4)) .nilIface w) := by
  obtain ⟨i0, hi, hz0, hz1, hz2⟩ := info_parts Tryd.info35
  have hn0 : ¬ (n : Int) < 0 := by omega
  have hn1 : ¬ (200 : Int) < (n : Int) := by omega
  go_enter Tryd.func4, Tryd.ntmps4
  go_wp2_with (at_make; refine wpList_make_full (P := Tryd.prog) _ rfl _ _ 34 rfl w.heap.size 35 i0 (.complex .f64 0 0) 1 Tryd.underlying34 hi hz0 hz1 _ _ _ _ 0 rfl rfl rfl rfl ?m1 ?m2 ?m3 ?_)
  intro w1 hown1 hgrow1
  have HB := Lib.hid ((Below.refl w.heap.size w).grown hgrow1 (Nat.le_refl _) (fun k hk => by cases hk))
  clear hown1 hgrow1
  go_wp2
  go_loop [29] (fun i => i = .int .i64 0) (fun _ => 0)
  case atStart => exact rfl
  case round =>
    subst hrel
    go_wp2_with (go_at_call 8; refine (Turn_no _ _ _ _ _ _ rfl rfl (by omega)).mono ?_; rintro e w' ⟨rfl, rfl⟩)
    go_ret2
    exact .inl ⟨rfl, rfl, HB.out⟩

/-- What holds at the head of a loop that gathers complex numbers. -/
def GatherA (s : Nat → Option Nat × Option Nat) (n : Nat) (w0 : World) (v i : Value) (wr : World) : Prop :=
  ∃ (k : Nat) (Y : List (Nat × Nat)), k ≤ n ∧ i = .int .i64 k ∧ wr.ownsRow w0.heap.size 35 1 v k (Y.map cv) ∧ Y.map aC = (List.range k).map s ∧ Below w0.heap.size w0 wr
def GatherF (s : Nat → Option Nat) (n : Nat) (w0 : World) (v i : Value) (wr : World) : Prop :=
  ∃ (k : Nat) (Y : List Nat), k ≤ n ∧ i = .int .i64 k ∧ wr.ownsRow w0.heap.size 32 1 v k (Y.map fv) ∧ Y.map ab = (List.range k).map s ∧ Below w0.heap.size w0 wr

theorem Many8_zero (a : Option Addr) (c n : Nat) (w : World) (hn : n ≤ 200) : Calls Tryd.prog 5 #[.slice a 0 c, .int .i64 n] w (ManyIs [] n (.int .i64 4) (.int .i64 0) w) := by
  have hn0 : ¬ (n : Int) < 0 := by omega
  have hn1 : ¬ (200 : Int) < (n : Int) := by omega
  go_enter Tryd.func5, Tryd.ntmps5
  go_wp2
  go_loop [6, 25] (fun v i => v = .slice none 0 0 ∧ i = .int .i64 0) (fun _ _ => 0)
  case atStart => exact ⟨rfl, rfl⟩
  case round =>
    obtain ⟨rfl, rfl⟩ := hrel
    go_wp2_with (go_at_call 10; refine (Turn8_no _ _ _ _ _ _ rfl rfl (by omega)).mono ?_; rintro e w' ⟨rfl, rfl⟩)
    go_ret2
    exact .inl ⟨rfl, rfl, Below.refl _ _⟩

theorem gather_snoc {s : Nat → Option Nat × Option Nat} {k x y : Nat} {Y : List (Nat × Nat)} (h : Y.map aC = (List.range k).map s) (e : aC (x, y) = s k) : (Y ++ [(x, y)]).map aC = (List.range (k + 1)).map s := by
  rw [List.map_append, h, List.range_succ, List.map_append, List.map_singleton, List.map_singleton, e]
theorem gatherf_snoc {s : Nat → Option Nat} {k x : Nat} {Y : List Nat} (h : Y.map ab = (List.range k).map s) (e : ab x = s k) : (Y ++ [x]).map ab = (List.range (k + 1)).map s := by
  rw [List.map_append, h, List.range_succ, List.map_append, List.map_singleton, List.map_singleton, e]

set_option maxRecDepth 100000 in
set_option maxHeartbeats 4000000 in
theorem Many8_any (b off c len n : Nat) (F : List Nat) (w : World) (hF : F.length = len) (h0 : 0 < len) (hlen : len ≤ 300) (hn : n ≤ 200)
    (hc : ∀ j, j < len → w.cell? ⟨b, off + j, none⟩ = some (.float .f64 (F.getD j 0))) (hb : b < w.heap.size) :
    Calls Tryd.prog 5 #[.slice (some ⟨b, off, none⟩) len c, .int .i64 n] w (ManyIs F n (.int .i64 4) (.int .i64 0) w) := by
  obtain ⟨i0, hi, hz0, hz1, hz2⟩ := info_parts Tryd.info35
  obtain ⟨i1, hi', hz0', hz1', hz2'⟩ := info_parts Tryd.info32
  have HC := Lib.hid hc
  have HF := Lib.hid hF
  clear hc hF
  have hn0 : ¬ (n : Int) < 0 := by omega
  have hn1 : ¬ (200 : Int) < (n : Int) := by omega
  go_enter Tryd.func5, Tryd.ntmps5
  go_wp2
  go_loopw [6, 25] (GatherA (fun j => (ab (F.getD j 0), ab 0)) len w) (fun _ i _ => len - (intOf i).toNat)
  case atStart => exact ⟨0, [], Nat.zero_le _, rfl, World.ownsRow_nil _ _ _ _, rfl, Below.refl _ _⟩
  case round =>
    obtain ⟨k, Y, hk, rfl, hown, h1, hbw⟩ := hrel
    have hsz := hbw.size
    have HOWN := Lib.hid hown
    have H1 := Lib.hid h1
    have HBW := Lib.hid hbw
    clear hown h1 hbw
    by_cases hlt : k < len
    · obtain ⟨x, hx⟩ : ∃ x, F.getD k 0 = x := ⟨_, rfl⟩
      have hcx : wr.cell? ⟨b, off + k, none⟩ = some (.float .f64 x) := by rw [HBW.out.cell hb, HC.out k hlt, hx]
      have HX := Lib.hid hx
      clear hx
      go_wp2_with (at_builtin; refine wpList_append_own (P := Tryd.prog) _ rfl _ _ 34 rfl w.heap.size 35 i0 (.complex .f64 0 0) 1 16 Tryd.underlying34 hi hz0 hz1 hz2 rfl (by decide) _ _ _ rfl (HOWN.out.alloc _) ⟨wr.heap.size, 0, none⟩ 1 1 [.complex .f64 x 0] rfl rfl ?c1 ?c2 ?c3 ?c4 ?c5 ?_)
      case c1 => exact cell_one_new wr _ _
      case c2 => intro u hu; simp at hu; subst hu; rfl
      case c3 => unfold maxLen; omega
      case c4 => omega
      case c5 => simp; omega
      intro v' w1 hown' hgrow _
      have R := (HBW.out.alloc hsz _).grown hgrow (by simp; omega) (fun b h => (HOWN.out.lt b h).1)
      clear hgrow
      go_wp2
      go_roundw
      case rel => exact ⟨k + 1, Y ++ [(x, 0)], by omega, by go_num, by rw [← map_snoc]; exact hown', gather_snoc H1.out (by rw [HX.out]; rfl), R⟩
      case measure => simp [intOf]; omega
    · obtain rfl : k = len := by omega
      have HY : Hid (Y.map aC = (F.map ab).map fun x => (x, ab 0)) := by
        rw [H1.out, ← map_range_getD, HF.out]; exact rfl
      obtain ⟨g0, cap0, rfl⟩ := own_shape HOWN.out h0
      cases hp : pow2B k with
      | false =>
        have HP := Lib.hid hp
        clear hp
        go_wp2_with (go_at_call 10; refine (Turn8_no _ _ _ _ _ _ rfl HP.out (by omega)).mono ?_; rintro e w' ⟨rfl, rfl⟩)
        go_ret2
        exact .inl ⟨by rw [HF.out]; exact HP.out, rfl, HBW.out⟩
      | true =>
        obtain ⟨m, hm, hm2⟩ := pow2B_spec hp
        have HP := Lib.hid hp
        have HM := Lib.hid hm
        clear hp hm
        obtain ⟨wa, rfl⟩ : ∃ wa : World, wa = wr := ⟨_, rfl⟩
        go_wp2_with fail
        refine (Turn8_yes m w.heap.size _ Y false _ (by omega) (by rw [← HM.out]; exact HP.out) (by rw [← HM.out]; exact HOWN.out)).mono ?_
        rintro e w2 ⟨v2, Y2, rfl, ho2, hY2, hb2⟩
        have HOL : Hid ((outer m false (Y.map aC)).length = k) := by rw [outer_length _ _ _ (by rw [List.length_map, own_len HOWN.out]; exact HM.out)]; exact HM.out.symm
        rw [HOL.out] at ho2
        obtain ⟨g2, cap2, rfl⟩ := own_shape ho2 h0
        have hs2 := hb2.size
        have hs1 := HBW.out.size
        have HO2 := Lib.hid ho2
        have HY2 := Lib.hid hY2
        have HB2 := Lib.hid hb2
        clear ho2 hY2 hb2
        go_wp2
        go_loopw [45] (EachA (fun x => cpower 8 cone x n) Y2 wa.heap.size (.slice (some ⟨g2, 0, none⟩) k cap2) k wa) (fun i _ => k - (intOf i).toNat)
        case atStart => exact ⟨0, Y2, Nat.zero_le _, rfl, HO2.out, fun j hj => absurd hj (Nat.not_lt_zero _), fun _ _ => rfl, HB2.out⟩
        case round =>
          obtain ⟨q, Y3, hq, rfl, hown3, h31, h32, hb3⟩ := hrel
          have HO3 := Lib.hid hown3
          have H31 := Lib.hid h31
          have H32 := Lib.hid h32
          have HB3 := Lib.hid hb3
          have hs3 := hb3.size
          clear hown3 h31 h32 hb3
          by_cases hlt3 : q < k
          · obtain ⟨x1, x2, hxx⟩ : ∃ x y, Y3.getD q (0, 0) = (x, y) := ⟨_, _, rfl⟩
            have hc3 : wr.cell? ⟨g2, q, none⟩ = some (.complex .f64 x1 x2) := by rw [own_cell HO3.out hlt3, hxx]; rfl
            have hf3 : wr.frozen? ⟨g2, q, none⟩ = false := HO3.out.frozenAt q
            have HXX := Lib.hid hxx
            clear hxx
            obtain ⟨wb, rfl⟩ : ∃ wb : World, wb = wr := ⟨_, rfl⟩
            go_wp2
            go_loopw [12, 11, 13] (PowA n (cpower 8 cone (aC (x1, x2)) n) wb) (fun _ _ k _ => (intOf k).toNat)
            case atStart => exact ⟨8, n, _, _, x1, x2, 0, by omega, Nat.le_refl _, rfl, rfl, rfl, rfl, rfl⟩
            case round =>
              obtain ⟨f, j, p1, p2, y1, y2, d, hf, hjn, rfl, rfl, rfl, he, rfl⟩ := hrel
              have HE := Lib.hid he
              have HF2 := Lib.hid hf
              clear he hf
              by_cases hj0 : j = 0
              · subst hj0
                go_wp2
                go_roundw
                case rel =>
                  refine each_step hlt3 (HO2.out.lt g2 rfl).1 HO3.out H31.out H32.out HB3.out ?_ rfl rfl rfl rfl
                  rw [← H32.out q (Nat.le_refl _), HXX.out, ← HE.out, cpower_zero]
                case measure => simp [intOf]; omega
              · obtain ⟨f', hf1, hf2, hf3', hf4⟩ := pow_round (aC (p1, p2)) (aC (y1, y2)) hj0 HF2.out hjn
                have HF3 := Lib.hid hf2
                have HF4 := Lib.hid hf4
                clear hf1 hf2 hf4
                have hjp : 0 < j := by omega
                clear hj0
                by_cases hodd : j % 2 = 1
                · have t1 : ((j : Int) % 2 == 1) = true := by simp; omega
                  have HOD := Lib.hid hodd
                  clear hodd
                  go_wp2_with fail
                  refine (product_any _ _ _ _ _).mono ?_
                  rintro e w' ⟨c1, c2, d1, rfl, hp1, rfl⟩
                  have HP1 := Lib.hid hp1
                  clear hp1
                  go_wp2_with fail
                  refine (product_any _ _ _ _ _).mono ?_
                  rintro e w' ⟨c3, c4, d2, rfl, hp2, rfl⟩
                  have HP2 := Lib.hid hp2
                  clear hp2
                  go_wp2
                  go_roundw
                  case rel =>
                    refine ⟨f', j / 2, c1, c2, c3, c4, d + d1 + d2, HF3.out, hf3', by go_num, rfl, rfl, ?_, by simp⟩
                    rw [← HE.out, HF4.out, if_pos HOD.out, HP1.out, HP2.out]
                  case measure => simp [intOf]; omega
                · have t1 : ((j : Int) % 2 == 1) = false := by simp; omega
                  have HOD := Lib.hid hodd
                  clear hodd
                  go_wp2_with fail
                  refine (product_any _ _ _ _ _).mono ?_
                  rintro e w' ⟨c3, c4, d2, rfl, hp2, rfl⟩
                  have HP2 := Lib.hid hp2
                  clear hp2
                  go_wp2
                  go_roundw
                  case rel =>
                    refine ⟨f', j / 2, p1, p2, c3, c4, d + d2, HF3.out, hf3', by go_num, rfl, rfl, ?_, by simp⟩
                    rw [← HE.out, HF4.out, if_neg HOD.out, HP2.out]
                  case measure => simp [intOf]; omega
          · obtain ⟨wb, rfl⟩ : ∃ wb : World, wb = wr := ⟨_, rfl⟩
            obtain rfl : q = k := by omega
            have hE := each_end (f := fun x => cpower 8 cone x n) (own_len HO2.out) (own_len HO3.out) H31.out
            rw [HY2.out, HY.out] at hE
            have HEE := Lib.hid hE
            clear hE
            go_wp2_with fail
            refine (Turn8_yes m wa.heap.size _ Y3 true _ (by omega) (by rw [← HM.out]; exact HP.out) (by rw [← HM.out]; exact HO3.out)).mono ?_
            rintro e w4 ⟨v4, Y4, rfl, ho4, hY4, hb4⟩
            have HOL4 : Hid ((outer m true (Y3.map aC)).length = q) := by rw [outer_length _ _ _ (by rw [List.length_map, own_len HO3.out]; exact HM.out)]; exact HM.out.symm
            rw [HOL4.out] at ho4
            obtain ⟨g4, cap4, rfl⟩ := own_shape ho4 h0
            have hs4 := hb4.size
            have hg4 : g4 < w4.heap.size := (ho4.lt g4 rfl).2
            have HO4 := Lib.hid ho4
            have HY4 := Lib.hid hY4
            have HB4 := Lib.hid hb4
            clear ho4 hY4 hb4
            go_wp2
            go_loopw [14, 76] (GatherF (fun j => (aC (Y4.getD j (0, 0))).1) q w4) (fun _ i _ => q - (intOf i).toNat)
            case atStart => exact ⟨0, [], Nat.zero_le _, rfl, World.ownsRow_nil _ _ _ _, rfl, Below.refl _ _⟩
            case round =>
              obtain ⟨t, Y6, ht, rfl, hown6, h6, hb6⟩ := hrel
              have hs6 := hb6.size
              have HO6 := Lib.hid hown6
              have H6 := Lib.hid h6
              have HB6 := Lib.hid hb6
              clear hown6 h6 hb6
              by_cases hlt6 : t < q
              · obtain ⟨x1, x2, hxx⟩ : ∃ x y, Y4.getD t (0, 0) = (x, y) := ⟨_, _, rfl⟩
                have hc6 : wr.cell? ⟨g4, t, none⟩ = some (.complex .f64 x1 x2) := by rw [HB6.out.cell hg4, own_cell HO4.out hlt6, hxx]; rfl
                have HXX := Lib.hid hxx
                clear hxx
                go_wp2_with (at_builtin; refine wpList_append_own (P := Tryd.prog) _ rfl _ _ 22 rfl w4.heap.size 32 i1 (.float .f64 0) 1 8 Tryd.underlying22 hi' hz0' hz1' hz2' rfl (by decide) _ _ _ rfl (HO6.out.alloc _) ⟨wr.heap.size, 0, none⟩ 1 1 [.float .f64 x1] rfl rfl ?d1 ?d2 ?d3 ?d4 ?d5 ?_)
                case d1 => exact cell_one_new wr _ _
                case d2 => intro u hu; simp at hu; subst hu; rfl
                case d3 => unfold maxLen; omega
                case d4 => omega
                case d5 => simp; omega
                intro v' w6 hown' hgrow _
                have R := (HB6.out.alloc hs6 _).grown hgrow (by simp; omega) (fun b h => (HO6.out.lt b h).1)
                clear hgrow
                go_wp2
                go_roundw
                case rel => exact ⟨t + 1, Y6 ++ [x1], by omega, by go_num, by rw [List.map_append]; exact hown', gatherf_snoc H6.out (by rw [HXX.out]; rfl), R⟩
                case measure => simp [intOf]; omega
              · go_wp2
                go_ret2
                obtain rfl : t = q := by omega
                refine .inr ⟨m, by rw [HF.out]; exact HM.out, _, Y6, rfl, ?_, ?_, ?_⟩
                · rw [many_length _ _ _ (by rw [List.length_map, HF.out]; exact HM.out), ← HM.out]
                  exact own_base HO6.out (by have := HB3.out.size; omega)
                · rw [H6.out, range_map_fst Y4 t (own_len HO4.out), HY4.out, HEE.out]; rfl
                · exact ((HBW.out.trans (HB3.out.mono hs1)).trans (HB4.out.mono (by have := HB3.out.size; omega))).trans (HB6.out.mono (by have := HB3.out.size; omega))
end Go.Proofs.YtijdmnimiipinaaDoor
