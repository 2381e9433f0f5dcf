/-
  The walks of Many and of the reference's Many8: the readings of both answers are one plain function of the readings of what comes in. Conditions: as each theorem says.
-/
import Derived.Test.YtijdmnimiipinaaDoorOuter8
set_option linter.unusedSimpArgs false
set_option linter.unusedVariables false
set_option linter.unnecessarySimpa false
namespace Go.Proofs.YtijdmnimiipinaaDoor
open Go Go.RowKit

theorem Tryd.info32 : (Tryd.prog.info? 32).map (fun i => (i.zero, i.size, i.bytes)) = some (some (.float .f64 0), 1, 8) := by kernel_rfl

def fv (b : Nat) : Value := .float .f64 b

/-- p times x to the power of k, by squares. -/
def cpower : Nat → Option Nat × Option Nat → Option Nat × Option Nat → Nat → Option Nat × Option Nat
  | 0, p, _, _ => p
  | f + 1, p, x, k => if k = 0 then p else cpower f (if k % 2 = 1 then cmul p x else p) (cmul x x) (k / 2)
theorem cpower_zero (f : Nat) (p x : Option Nat × Option Nat) : cpower f p x 0 = p := by cases f <;> rfl

/-- Many's answer. -/
def many (m n : Nat) (F : List (Option Nat)) : List (Option Nat) :=
  (outer m true ((outer m false (F.map fun x => (x, ab 0))).map fun x => cpower 8 cone x n)).map (·.1)

theorem pow_round {f j n : Nat} (p x : Option Nat × Option Nat) (hj : ¬ j = 0) (hf : j < 2 ^ f) (hn : j ≤ n) : ∃ f', f = f' + 1 ∧ j / 2 < 2 ^ f' ∧ j / 2 ≤ n ∧ cpower f p x j = cpower f' (if j % 2 = 1 then cmul p x else p) (cmul x x) (j / 2) := by
  cases f with
  | zero => simp at hf; omega
  | succ f =>
    refine ⟨f, rfl, ?_, by omega, ?_⟩
    · rw [two_pow_succ'] at hf; omega
    · rw [cpower, if_neg hj]

def PowA (n : Nat) (c : Option Nat × Option Nat) (wo : World) (p x k : Value) (wr : World) : Prop :=
  ∃ (f j p1 p2 x1 x2 d : Nat), j < 2 ^ f ∧ j ≤ n ∧ k = .int .i64 j ∧ p = .complex .f64 p1 p2 ∧ x = .complex .f64 x1 x2 ∧ cpower f (aC (p1, p2)) (aC (x1, x2)) j = c ∧ wo.drewN d = wr

/-- What holds at the head of a loop that fills a row of complex numbers. -/
def FillA (s : Nat → Option Nat × Option Nat) (B : Nat) (v : Value) (n : Nat) (w0 : World) (i : Value) (wr : World) : Prop :=
  ∃ (k : Nat) (Y : List (Nat × Nat)), k ≤ n ∧ i = .int .i64 k ∧ wr.ownsRow B 35 1 v n (Y.map cv) ∧ (∀ j, j < k → aC (Y.getD j (0, 0)) = s j) ∧ Below B w0 wr
def FillF (s : Nat → Option Nat) (B : Nat) (v : Value) (n : Nat) (w0 : World) (i : Value) (wr : World) : Prop :=
  ∃ (k : Nat) (Y : List Nat), k ≤ n ∧ i = .int .i64 k ∧ wr.ownsRow B 32 1 v n (Y.map fv) ∧ (∀ j, j < k → ab (Y.getD j 0) = s j) ∧ Below B w0 wr

theorem fill_step {s : Nat → Option Nat × Option Nat} {Y' : List (Nat × Nat)} {B g n cap k x y : Nat} {w0 wr w' : World} (hk : k < n) (hBg : B ≤ g)
    (hown : wr.ownsRow B 35 1 (.slice (some ⟨g, 0, none⟩) n cap) n (Y'.map cv)) (h1 : ∀ j, j < k → aC (Y'.getD j (0, 0)) = s j) (hb : Below B w0 wr) (e : aC (x, y) = s k)
    (hheap : w'.heap = (wr.setCell ⟨g, k, none⟩ (.complex .f64 x y)).heap) (hos : w'.os = wr.os) (htape : w'.tape = wr.tape) (hout : w'.output = wr.output) :
    FillA s B (.slice (some ⟨g, 0, none⟩) n cap) n w0 (.int .i64 ((k : Int) + 1)) w' := by
  have hl := own_len hown
  refine ⟨k + 1, Y'.set k (x, y), hk, by go_num, ?_, fun j hj => ?_, ?_⟩
  · rw [List.map_set]
    exact own_heap (hown.stored k _).1 hheap
  · rw [getD_set_pair]
    by_cases hjk : k = j
    · subst hjk; rw [if_pos rfl, if_pos (by omega)]; exact e
    · rw [if_neg hjk]; exact h1 j (by omega)
  · have hb' := hb.setCell (p := ⟨g, k, none⟩) hBg (.complex .f64 x y)
    exact ⟨hos.trans hb.os, htape.trans hb.tape, hout.trans hb.output, by rw [hheap]; exact hb'.size, fun k hk => by rw [hheap]; exact hb'.block k hk⟩
theorem fill_end {s : Nat → Option Nat × Option Nat} {Y' : List (Nat × Nat)} {n : Nat} (hl' : Y'.length = n) (h1 : ∀ j, j < n → aC (Y'.getD j (0, 0)) = s j) :
    Y'.map aC = (List.range n).map s := by
  refine List.ext_getElem? fun j => ?_
  rw [List.getElem?_map, List.getElem?_map]
  rcases Nat.lt_or_ge j n with hj | hj
  · have := h1 j hj
    simp only [List.getD, List.getElem?_eq_getElem (show j < Y'.length by omega), Option.getD_some] at this ⊢
    simp [this, hj]
  · rw [List.getElem?_eq_none (by omega), List.getElem?_eq_none (by simp; omega)]; rfl

theorem ownf_len {w : World} {B e : Nat} {v : Value} {n : Nat} {Y : List Nat} (h : w.ownsRow B e 1 v n (Y.map fv)) : Y.length = n := by
  have := h.1
  simpa using this
theorem getD_set_nat (l : List Nat) (k j p : Nat) : (l.set k p).getD j 0 = if k = j then (if k < l.length then p else 0) else l.getD j 0 := by
  simp only [List.getD, List.getElem?_set]
  split
  · split <;> rfl
  · rfl
theorem fillf_step {s : Nat → Option Nat} {Y' : List Nat} {B g n cap k x : Nat} {w0 wr w' : World} (hk : k < n) (hBg : B ≤ g)
    (hown : wr.ownsRow B 32 1 (.slice (some ⟨g, 0, none⟩) n cap) n (Y'.map fv)) (h1 : ∀ j, j < k → ab (Y'.getD j 0) = s j) (hb : Below B w0 wr) (e : ab x = s k)
    (hheap : w'.heap = (wr.setCell ⟨g, k, none⟩ (.float .f64 x)).heap) (hos : w'.os = wr.os) (htape : w'.tape = wr.tape) (hout : w'.output = wr.output) :
    FillF s B (.slice (some ⟨g, 0, none⟩) n cap) n w0 (.int .i64 ((k : Int) + 1)) w' := by
  have hl := ownf_len hown
  refine ⟨k + 1, Y'.set k x, hk, by go_num, ?_, fun j hj => ?_, ?_⟩
  · rw [List.map_set]
    exact own_heap (hown.stored k _).1 hheap
  · rw [getD_set_nat]
    by_cases hjk : k = j
    · subst hjk; rw [if_pos rfl, if_pos (by omega)]; exact e
    · rw [if_neg hjk]; exact h1 j (by omega)
  · have hb' := hb.setCell (p := ⟨g, k, none⟩) hBg (.float .f64 x)
    exact ⟨hos.trans hb.os, htape.trans hb.tape, hout.trans hb.output, by rw [hheap]; exact hb'.size, fun k hk => by rw [hheap]; exact hb'.block k hk⟩
theorem fillf_end {s : Nat → Option Nat} {Y' : List Nat} {n : Nat} (hl' : Y'.length = n) (h1 : ∀ j, j < n → ab (Y'.getD j 0) = s j) :
    Y'.map ab = (List.range n).map s := by
  refine List.ext_getElem? fun j => ?_
  rw [List.getElem?_map, List.getElem?_map]
  rcases Nat.lt_or_ge j n with hj | hj
  · have := h1 j hj
    simp only [List.getD, List.getElem?_eq_getElem (show j < Y'.length by omega), Option.getD_some] at this ⊢
    simp [this, hj]
  · rw [List.getElem?_eq_none (by omega), List.getElem?_eq_none (by simp; omega)]; rfl

/-- The call ends with a new slice of floats whose readings are S, and with x. -/
def FRow2Is (S : List (Option Nat)) (x : Value) (w : World) (e : Ending) (w' : World) : Prop :=
  ∃ (v : Value) (Y : List Nat), e = .returned (.tuple #[v, x]) ∧ w'.ownsRow w.heap.size 32 1 v S.length (Y.map fv) ∧ Y.map ab = S ∧ Below w.heap.size w w'

theorem Many_range (v : Value) (n : Int) (w : World) (hn : n < 0 ∨ 200 < n) : Calls Tryd.prog 4 #[v, .int .i64 n] w fun e w' => e = .returned (.tuple #[.slice none 0 0, .iface 27 (.int .i64 2)]) ∧ w = w' := by
  rcases hn with hn | hn
  · go_enter Tryd.func4, Tryd.ntmps4
    go_wp2
    go_ret2
    exact ⟨rfl, rfl⟩
  · have hn0 : ¬ n < 0 := by omega
    go_enter Tryd.func4, Tryd.ntmps4
    go_wp2
    go_ret2
    exact ⟨rfl, rfl⟩
theorem Many8_range (v : Value) (n : Int) (w : World) (hn : n < 0 ∨ 200 < n) : Calls Tryd.prog 5 #[v, .int .i64 n] w fun e w' => e = .returned (.tuple #[.slice none 0 0, .int .i64 2]) ∧ w = w' := by
  rcases hn with hn | hn
  · go_enter Tryd.func5, Tryd.ntmps5
    go_wp2
    go_ret2
    exact ⟨rfl, rfl⟩
  · have hn0 : ¬ n < 0 := by omega
    go_enter Tryd.func5, Tryd.ntmps5
    go_wp2
    go_ret2
    exact ⟨rfl, rfl⟩

/-- How a call of Many with n in its range ends: x: the error of a length that is no power of two; ok: no error. -/
def ManyIs (F : List Nat) (n : Nat) (x ok : Value) (w : World) (e : Ending) (w' : World) : Prop :=
  (pow2B F.length = false ∧ e = .returned (.tuple #[.slice none 0 0, x]) ∧ Below w.heap.size w w') ∨
  ∃ m, F.length = 2 ^ m ∧ FRow2Is (many m n (F.map ab)) ok w e w'

theorem map_range_getD (F : List Nat) : (List.range F.length).map (fun j => (ab (F.getD j 0), ab 0)) = (F.map ab).map fun x => (x, ab 0) := by
  refine List.ext_getElem? fun j => ?_
  rw [List.getElem?_map, List.getElem?_map, List.getElem?_map]
  rcases Nat.lt_or_ge j F.length with hj | hj
  · simp [List.getD, hj]
  · rw [List.getElem?_eq_none (by simp; omega), List.getElem?_eq_none (by omega)]; rfl
theorem replicate_cv (n : Nat) : (madeCells #[Value.complex FloatKind.f64 0 0] n).toList = (List.replicate n ((0, 0) : Nat × Nat)).map cv := by
  rw [toList_madeCells_one, List.map_replicate]; rfl
theorem replicate_fv (n : Nat) : (madeCells #[Value.float FloatKind.f64 0] n).toList = (List.replicate n 0).map fv := by
  rw [toList_madeCells_one, List.map_replicate]; rfl

theorem range_map_fst (Y : List (Nat × Nat)) (n : Nat) (h : Y.length = n) : (List.range n).map (fun j => (aC (Y.getD j (0, 0))).1) = (Y.map aC).map (·.1) := by
  subst h
  refine List.ext_getElem? fun j => ?_
  rw [List.getElem?_map, List.getElem?_map, List.getElem?_map]
  rcases Nat.lt_or_ge j Y.length with hj | hj
  · simp [List.getD, hj]
  · rw [List.getElem?_eq_none (by simp; omega), List.getElem?_eq_none (by omega)]; rfl
theorem many_length (m n : Nat) (F : List (Option Nat)) (h : F.length = 2 ^ m) : (many m n F).length = 2 ^ m := by
  unfold many
  rw [List.length_map, outer_length]
  rw [List.length_map, outer_length]
  rw [List.length_map]; exact h

set_option maxRecDepth 100000 in
set_option maxHeartbeats 4000000 in
theorem Many_any (b off c len n : Nat) (F : List Nat) (w : World) (hF : F.length = len) (h0 : 0 < len) (hlen : len ≤ 300) (hn : n ≤ 200)
    (hc : ∀ j, j < len → w.cell? ⟨b, off + j, none⟩ = some (.float .f64 (F.getD j 0))) (hb : b < w.heap.size) :
    Calls Tryd.prog 4 #[.slice (some ⟨b, off, none⟩) len c, .int .i64 n] w (ManyIs F n (.iface 27 (.int .i64 4)) .nilIface w) := by
  obtain ⟨i0, hi, hz0, hz1, hz2⟩ := info_parts Tryd.info35
  obtain ⟨i1, hi', hz0', hz1', hz2'⟩ := info_parts Tryd.info32
  have HC := Lib.hid hc
  have HF := Lib.hid hF
  clear hc hF
  have hn0 : ¬ (n : Int) < 0 := by omega
  have hn1 : ¬ (200 : Int) < (n : Int) := by omega
  go_enter Tryd.func4, Tryd.ntmps4
  go_wp2_with (at_make; refine wpList_make_full (P := Tryd.prog) _ rfl _ _ 34 rfl w.heap.size 35 i0 (.complex .f64 0 0) 1 Tryd.underlying34 hi hz0 hz1 _ _ _ _ len rfl rfl rfl rfl ?m1 ?m2 ?m3 ?_)
  case m1 => omega
  case m2 => unfold maxLen; omega
  intro w1 hown1 hgrow1
  rw [replicate_cv] at hown1
  have HO1 := Lib.hid hown1
  have HG1 := Lib.hid hgrow1
  clear hown1 hgrow1
  go_wp2
  go_loopw [29] (FillA (fun j => (ab (F.getD j 0), ab 0)) w.heap.size (.slice (some ⟨w.heap.size, 0, none⟩) len len) len w) (fun i _ => len - (intOf i).toNat)
  case atStart => exact ⟨0, _, Nat.zero_le _, rfl, HO1.out, fun j hj => absurd hj (Nat.not_lt_zero _), (Below.refl _ _).grown HG1.out (Nat.le_refl _) (fun k hk => by cases hk)⟩
  case round =>
    obtain ⟨k, Y, hk, rfl, hown, h1, hbw⟩ := hrel
    have HOWN := Lib.hid hown
    have H1 := Lib.hid h1
    have HBW := Lib.hid hbw
    clear hown h1 hbw
    by_cases hlt : k < len
    · obtain ⟨x, hx⟩ : ∃ x, F.getD k 0 = x := ⟨_, rfl⟩
      obtain ⟨⟨o1, o2⟩, hoo⟩ : ∃ p, Y.getD k (0, 0) = p := ⟨_, rfl⟩
      have hcx : wr.cell? ⟨b, off + k, none⟩ = some (.float .f64 x) := by rw [HBW.out.cell hb, HC.out k hlt, hx]
      have hco : wr.cell? ⟨w.heap.size, k, none⟩ = some (.complex .f64 o1 o2) := by rw [own_cell HOWN.out hlt, hoo]; rfl
      have hfo : wr.frozen? ⟨w.heap.size, k, none⟩ = false := HOWN.out.frozenAt k
      have HX := Lib.hid hx
      clear hx hoo
      go_wp2
      go_roundw
      case rel => exact fill_step hlt (Nat.le_refl _) HOWN.out H1.out HBW.out (by rw [HX.out]; rfl) rfl rfl rfl rfl
      case measure => simp [intOf]; omega
    · obtain rfl : k = len := by omega
      have HY : Hid (Y.map aC = (F.map ab).map fun x => (x, ab 0)) := by
        rw [fill_end (own_len HOWN.out) H1.out, ← map_range_getD, HF.out]; exact rfl
      cases hp : pow2B k with
      | false =>
        have HP := Lib.hid hp
        clear hp
        go_wp2_with (go_at_call 8; refine (Turn_no _ _ _ _ _ _ rfl HP.out (by omega)).mono ?_; rintro e w' ⟨rfl, rfl⟩)
        go_ret2
        exact .inl ⟨by rw [HF.out]; exact HP.out, rfl, HBW.out⟩
      | true =>
        obtain ⟨m, hm, hm2⟩ := pow2B_spec hp
        have HP := Lib.hid hp
        have HM := Lib.hid hm
        clear hp hm
        obtain ⟨wa, rfl⟩ : ∃ wa : World, wa = wr := ⟨_, rfl⟩
        go_wp2_with fail
        refine (Turn_yes m w.heap.size _ Y false _ (by omega) (by rw [← HM.out]; exact HP.out) (by rw [← HM.out]; exact HOWN.out)).mono ?_
        rintro e w2 ⟨v2, Y2, rfl, ho2, hY2, hb2⟩
        have HOL : Hid ((outer m false (Y.map aC)).length = k) := by rw [outer_length _ _ _ (by rw [List.length_map, own_len HOWN.out]; exact HM.out)]; exact HM.out.symm
        rw [HOL.out] at ho2
        obtain ⟨g2, cap2, rfl⟩ := own_shape ho2 h0
        have hs2 := hb2.size
        have hs1 := HBW.out.size
        have HO2 := Lib.hid ho2
        have HY2 := Lib.hid hY2
        have HB2 := Lib.hid hb2
        clear ho2 hY2 hb2
        go_wp2
        go_loopw [50] (EachA (fun x => cpower 8 cone x n) Y2 wa.heap.size (.slice (some ⟨g2, 0, none⟩) k cap2) k wa) (fun i _ => k - (intOf i).toNat)
        case atStart => exact ⟨0, Y2, Nat.zero_le _, rfl, HO2.out, fun j hj => absurd hj (Nat.not_lt_zero _), fun _ _ => rfl, HB2.out⟩
        case round =>
          obtain ⟨q, Y3, hq, rfl, hown3, h31, h32, hb3⟩ := hrel
          have HO3 := Lib.hid hown3
          have H31 := Lib.hid h31
          have H32 := Lib.hid h32
          have HB3 := Lib.hid hb3
          have hs3 := hb3.size
          clear hown3 h31 h32 hb3
          by_cases hlt3 : q < k
          · obtain ⟨x1, x2, hxx⟩ : ∃ x y, Y3.getD q (0, 0) = (x, y) := ⟨_, _, rfl⟩
            have hc3 : wr.cell? ⟨g2, q, none⟩ = some (.complex .f64 x1 x2) := by rw [own_cell HO3.out hlt3, hxx]; rfl
            have hf3 : wr.frozen? ⟨g2, q, none⟩ = false := HO3.out.frozenAt q
            have HXX := Lib.hid hxx
            clear hxx
            obtain ⟨wb, rfl⟩ : ∃ wb : World, wb = wr := ⟨_, rfl⟩
            go_wp2
            go_loopw [12, 11, 13] (PowA n (cpower 8 cone (aC (x1, x2)) n) wb) (fun _ _ k _ => (intOf k).toNat)
            case atStart => exact ⟨8, n, _, _, x1, x2, 0, by omega, Nat.le_refl _, rfl, rfl, rfl, rfl, rfl⟩
            case round =>
              obtain ⟨f, j, p1, p2, y1, y2, d, hf, hjn, rfl, rfl, rfl, he, rfl⟩ := hrel
              have HE := Lib.hid he
              have HF2 := Lib.hid hf
              clear he hf
              by_cases hj0 : j = 0
              · subst hj0
                go_wp2
                go_roundw
                case rel =>
                  refine each_step hlt3 (HO2.out.lt g2 rfl).1 HO3.out H31.out H32.out HB3.out ?_ rfl rfl rfl rfl
                  rw [← H32.out q (Nat.le_refl _), HXX.out, ← HE.out, cpower_zero]
                case measure => simp [intOf]; omega
              · obtain ⟨f', hf1, hf2, hf3', hf4⟩ := pow_round (aC (p1, p2)) (aC (y1, y2)) hj0 HF2.out hjn
                have HF3 := Lib.hid hf2
                have HF4 := Lib.hid hf4
                clear hf1 hf2 hf4
                have hjp : 0 < j := by omega
                clear hj0
                by_cases hodd : j % 2 = 1
                · have t1 : ((j : Int) % 2 == 1) = true := by simp; omega
                  have HOD := Lib.hid hodd
                  clear hodd
                  go_wp2_with fail
                  refine (times_any _ _ _ _ _).mono ?_
                  rintro e w' ⟨c1, c2, d1, rfl, hp1, rfl⟩
                  have HP1 := Lib.hid hp1
                  clear hp1
                  go_wp2_with fail
                  refine (times_any _ _ _ _ _).mono ?_
                  rintro e w' ⟨c3, c4, d2, rfl, hp2, rfl⟩
                  have HP2 := Lib.hid hp2
                  clear hp2
                  go_wp2
                  go_roundw
                  case rel =>
                    refine ⟨f', j / 2, c1, c2, c3, c4, d + d1 + d2, HF3.out, hf3', by go_num, rfl, rfl, ?_, by simp⟩
                    rw [← HE.out, HF4.out, if_pos HOD.out, HP1.out, HP2.out]
                  case measure => simp [intOf]; omega
                · have t1 : ((j : Int) % 2 == 1) = false := by simp; omega
                  have HOD := Lib.hid hodd
                  clear hodd
                  go_wp2_with fail
                  refine (times_any _ _ _ _ _).mono ?_
                  rintro e w' ⟨c3, c4, d2, rfl, hp2, rfl⟩
                  have HP2 := Lib.hid hp2
                  clear hp2
                  go_wp2
                  go_roundw
                  case rel =>
                    refine ⟨f', j / 2, p1, p2, c3, c4, d + d2, HF3.out, hf3', by go_num, rfl, rfl, ?_, by simp⟩
                    rw [← HE.out, HF4.out, if_neg HOD.out, HP2.out]
                  case measure => simp [intOf]; omega
          · obtain ⟨wb, rfl⟩ : ∃ wb : World, wb = wr := ⟨_, rfl⟩
            obtain rfl : q = k := by omega
            have hE := each_end (f := fun x => cpower 8 cone x n) (own_len HO2.out) (own_len HO3.out) H31.out
            rw [HY2.out, HY.out] at hE
            have HEE := Lib.hid hE
            clear hE
            go_wp2_with fail
            refine (Turn_yes m wa.heap.size _ Y3 true _ (by omega) (by rw [← HM.out]; exact HP.out) (by rw [← HM.out]; exact HO3.out)).mono ?_
            rintro e w4 ⟨v4, Y4, rfl, ho4, hY4, hb4⟩
            have HOL4 : Hid ((outer m true (Y3.map aC)).length = q) := by rw [outer_length _ _ _ (by rw [List.length_map, own_len HO3.out]; exact HM.out)]; exact HM.out.symm
            rw [HOL4.out] at ho4
            obtain ⟨g4, cap4, rfl⟩ := own_shape ho4 h0
            have hs4 := hb4.size
            have hg4 : g4 < w4.heap.size := (ho4.lt g4 rfl).2
            have HO4 := Lib.hid ho4
            have HY4 := Lib.hid hY4
            have HB4 := Lib.hid hb4
            clear ho4 hY4 hb4
            go_wp2_with (at_make; refine wpList_make_full (P := Tryd.prog) _ rfl _ _ 22 rfl w4.heap.size 32 i1 (.float .f64 0) 1 Tryd.underlying22 hi' hz0' hz1' _ _ _ _ q rfl rfl rfl rfl ?m4 ?m5 ?m6 ?_)
            case m4 => rw [hz2']; omega
            case m5 => unfold maxLen; omega
            case m6 => exact Nat.le_refl _
            intro w5 hown5 hgrow5
            rw [replicate_fv] at hown5
            have HO5 := Lib.hid hown5
            have HG5 := Lib.hid hgrow5
            clear hown5 hgrow5
            go_wp2
            go_loopw [87] (FillF (fun j => (aC (Y4.getD j (0, 0))).1) w4.heap.size (.slice (some ⟨w4.heap.size, 0, none⟩) q q) q w4) (fun i _ => q - (intOf i).toNat)
            case atStart => exact ⟨0, _, Nat.zero_le _, rfl, HO5.out, fun j hj => absurd hj (Nat.not_lt_zero _), (Below.refl _ _).grown HG5.out (Nat.le_refl _) (fun k hk => by cases hk)⟩
            case round =>
              obtain ⟨t, Y6, ht, rfl, hown6, h6, hb6⟩ := hrel
              have HO6 := Lib.hid hown6
              have H6 := Lib.hid h6
              have HB6 := Lib.hid hb6
              clear hown6 h6 hb6
              by_cases hlt6 : t < q
              · obtain ⟨x1, x2, hxx⟩ : ∃ x y, Y4.getD t (0, 0) = (x, y) := ⟨_, _, rfl⟩
                obtain ⟨o1, hoo⟩ : ∃ p, Y6.getD t 0 = p := ⟨_, rfl⟩
                have hc6 : wr.cell? ⟨g4, t, none⟩ = some (.complex .f64 x1 x2) := by rw [HB6.out.cell hg4, own_cell HO4.out hlt6, hxx]; rfl
                have hco : wr.cell? ⟨w4.heap.size, t, none⟩ = some (.float .f64 o1) := by
                  have hl := ownf_len HO6.out
                  rw [HO6.out.cellAt t (by omega), ← hoo]
                  simp [List.getD, List.getElem?_eq_getElem (show t < Y6.length by omega), fv]
                have hfo : wr.frozen? ⟨w4.heap.size, t, none⟩ = false := HO6.out.frozenAt t
                have HXX := Lib.hid hxx
                clear hxx hoo
                go_wp2
                go_roundw
                case rel => exact fillf_step hlt6 (Nat.le_refl _) HO6.out H6.out HB6.out (by rw [HXX.out]; rfl) rfl rfl rfl rfl
                case measure => simp [intOf]; omega
              · go_wp2
                go_ret2
                obtain rfl : t = q := by omega
                refine .inr ⟨m, by rw [HF.out]; exact HM.out, _, Y6, rfl, ?_, ?_, ?_⟩
                · rw [many_length _ _ _ (by rw [List.length_map, HF.out]; exact HM.out), ← HM.out]
                  exact own_base HO6.out (by have := HB3.out.size; omega)
                · rw [fillf_end (ownf_len HO6.out) H6.out, range_map_fst Y4 t (own_len HO4.out), HY4.out, HEE.out]; rfl
                · exact ((HBW.out.trans (HB3.out.mono hs1)).trans (HB4.out.mono (by have := HB3.out.size; omega))).trans (HB6.out.mono (by have := HB3.out.size; omega))
end Go.Proofs.YtijdmnimiipinaaDoor
