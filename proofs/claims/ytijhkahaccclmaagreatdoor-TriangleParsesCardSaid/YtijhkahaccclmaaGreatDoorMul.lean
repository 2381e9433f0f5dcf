/-
  The walk of mul over lists of 32-bit words, by ten: the answer reads as ten times the number. Condition: the second factor is the one word ten.
-/
import Derived.Test.YtijhkahaccclmaaGreatDoorAdd
set_option linter.unusedSimpArgs false
set_option linter.unusedVariables false
set_option linter.unnecessarySimpa false
namespace Go.Proofs.YtijhkahaccclmaaGreatDoor
open Go Go.RowKit

theorem below_drewN {B : Nat} {a w : World} (h : Below B a w) (n : Nat) : Below B a (w.drewN n) := ⟨h.os, h.tape, h.output, h.size, h.block⟩

/-- What holds at the head of mul's outer loop. -/
def MulA (l : List Nat) (w0 : World) (n : Nat) (i : Value) (wr : World) : Prop :=
  ∃ (k : Nat) (Y : List Nat), k ≤ l.length ∧ i = .int .i64 (k : Int) ∧ wr.ownsRow w0.heap.size 145 1 (.slice (some ⟨w0.heap.size, 0, none⟩) n n) n (Y.map uv) ∧
    worth (Y.take (k + 1)) = 10 * worth (l.take k) ∧ (∀ j, Y.getD j 0 < 4294967296) ∧ Below w0.heap.size w0 wr
/-- .. of its inner loop. -/
def MulB (Y : List Nat) (k s : Nat) (w0 : World) (n : Nat) (c i : Value) (wr : World) : Prop :=
  ∃ (j z : Nat) (Y' : List Nat), (j = 0 ∧ z = 0 ∧ Y' = Y ∨ j = 1 ∧ z = s / 4294967296 ∧ Y' = Y.set k (s % 4294967296)) ∧ c = .int .u64 (z : Int) ∧ i = .int .i64 (j : Int) ∧
    wr.ownsRow w0.heap.size 145 1 (.slice (some ⟨w0.heap.size, 0, none⟩) n n) n (Y'.map uv) ∧ Below w0.heap.size w0 wr

theorem mulb_step {Y : List Nat} {w0 wr w' : World} {n k s : Nat} {c i : Value} (hown : wr.ownsRow w0.heap.size 145 1 (.slice (some ⟨w0.heap.size, 0, none⟩) n n) n (Y.map uv)) (hb : Below w0.heap.size w0 wr)
    (hc : c = .int .u64 ((s / 4294967296 : Nat) : Int)) (hi : i = .int .i64 ((1 : Nat) : Int))
    (hheap : w'.heap = (wr.setCell ⟨w0.heap.size, k, none⟩ (uv (s % 4294967296))).heap) (hos : w'.os = wr.os) (htape : w'.tape = wr.tape) (hout : w'.output = wr.output) (hkn : k < n) : MulB Y k s w0 n c i w' := by
  refine ⟨1, s / 4294967296, Y.set k (s % 4294967296), .inr ⟨rfl, rfl, rfl⟩, hc, hi, ?_, ?_⟩
  · rw [List.map_set]
    exact own_heap (hown.stored k _).1 hheap
  · have hb' := hb.setCell (p := ⟨w0.heap.size, k, none⟩) (Nat.le_refl _) (uv (s % 4294967296))
    exact ⟨hos.trans hb.os, htape.trans hb.tape, hout.trans hb.output, by rw [hheap]; exact hb'.size, fun k hk => by rw [hheap]; exact hb'.block k hk⟩

theorem mula_step {l : List Nat} {w0 wr w' : World} {n k s : Nat} {Y : List Nat} {i : Value} (hk : k < l.length) (hn : n = l.length + 1) (hs : s = l.getD k 0 * 10 + Y.getD k 0) (hs2 : s < 4294967296 * 4294967296)
    (hown : wr.ownsRow w0.heap.size 145 1 (.slice (some ⟨w0.heap.size, 0, none⟩) n n) n ((Y.set k (s % 4294967296)).map uv)) (h1 : worth (Y.take (k + 1)) = 10 * worth (l.take k)) (h2 : ∀ j, Y.getD j 0 < 4294967296)
    (hb : Below w0.heap.size w0 wr) (hi : i = .int .i64 ((k + 1 : Nat) : Int))
    (hheap : w'.heap = (wr.setCell ⟨w0.heap.size, k + 1, none⟩ (uv (s / 4294967296))).heap) (hos : w'.os = wr.os) (htape : w'.tape = wr.tape) (hout : w'.output = wr.output) : MulA l w0 n i w' := by
  have hl := ownu_len hown
  rw [List.length_set] at hl
  have hq : s / 4294967296 < 4294967296 := Nat.div_lt_of_lt_mul hs2
  refine ⟨k + 1, (Y.set k (s % 4294967296)).set (k + 1) (s / 4294967296), hk, hi, ?_, ?_, set_lt _ hq (set_lt _ (Nat.mod_lt _ (by decide)) h2), ?_⟩
  · rw [List.map_set]
    exact own_heap (hown.stored (k + 1) _).1 hheap
  · rw [take_set_succ _ _ (by simp; omega), worth_snoc, List.length_take, List.length_set, Nat.min_eq_left (by omega), take_set_succ _ _ (by omega), worth_snoc, List.length_take, Nat.min_eq_left (by omega),
      Nat.pow_succ, Nat.mul_assoc, Nat.add_assoc, ← Nat.mul_add, Nat.mod_add_div, hs, worth_take_succ l]
    rw [worth_take_succ Y] at h1
    rw [Nat.mul_add, ← Nat.add_assoc, Nat.add_right_comm, h1, Nat.mul_add]
    have : 4294967296 ^ k * (l.getD k 0 * 10) = 10 * (4294967296 ^ k * l.getD k 0) := by rw [← Nat.mul_assoc, Nat.mul_comm _ 10]
    omega
  · have hb' := hb.setCell (p := ⟨w0.heap.size, k + 1, none⟩) (Nat.le_refl _) (uv (s / 4294967296))
    exact ⟨hos.trans hb.os, htape.trans hb.tape, hout.trans hb.output, by rw [hheap]; exact hb'.size, fun k hk => by rw [hheap]; exact hb'.block k hk⟩

set_option maxRecDepth 100000 in
set_option maxHeartbeats 4000000 in
theorem mul_walk1 (u v : Value) (l : List Nat) (w : World) (hu : WordsIn w u l) (hv : WordsIn w v [10]) (hl : l.length ≤ 100000) (h0 : 0 < l.length) :
    Calls Tryz.prog 55 #[u, v] w fun e w' => (∃ r, e = .returned r ∧ NumAt w' r (10 * worth l)) ∧ Below w.heap.size w w' := by
  obtain ⟨⟨a, c, rfl, hc, hall⟩, hlt⟩ := hu
  obtain ⟨⟨a1, c1, rfl, hc1, hall1⟩, hlt1⟩ := hv
  obtain ⟨b1, o1, rfl, hb1, hy⟩ := hall1 0 (by simp)
  rw [Nat.add_zero] at hy
  have HA := Lib.hid hall
  have LA := Lib.hid hlt
  have HT := Lib.hid hy
  clear hall hlt hall1 hlt1 hy
  obtain ⟨i0, hi, hz0, hz1, hz2⟩ := info_parts Tryz.info145
  have hl0 : ¬ l = [] := by intro e; rw [e] at h0; simp at h0
  go_enter Tryz.func55, Tryz.ntmps55
  go_wp2_with (at_make; refine wpList_make_full (P := Tryz.prog) _ rfl _ _ 70 rfl w.heap.size 145 i0 (.int .u32 0) 1 Tryz.underlying70 hi hz0 hz1 _ _ _ _ (l.length + 1) rfl rfl ?m0 ?m0' ?m1 ?m2 ?m3 ?_)
  case m1 => omega
  case m2 => unfold maxLen; omega
  intro w1 hown1 hgrow1
  rw [replicate_uv] at hown1
  have HO1 := Lib.hid hown1
  have HG1 := Lib.hid hgrow1
  clear hown1 hgrow1
  go_wp2
  go_loopw [6] (MulA l w (l.length + 1)) (fun i _ => l.length - (intOf i).toNat)
  case atStart => exact ⟨0, _, Nat.zero_le _, rfl, HO1.out, by rw [worth_take_succ]; simp [worth, List.getD], getD_rep _, (Below.refl _ _).grown HG1.out (Nat.le_refl _) (fun k hk => by cases hk)⟩
  case round =>
    obtain ⟨k, Y, hk, rfl, hown, h1, h2, hbw⟩ := hrel
    have HOWN := Lib.hid hown
    have H1 := Lib.hid h1
    have H2 := Lib.hid h2
    have HBW := Lib.hid hbw
    clear hown h1 h2 hbw
    have hk0 : (0 : Int) ≤ (k : Int) := Int.natCast_nonneg _
    by_cases hlt : k < l.length
    · obtain ⟨b, o, rfl, hb, hx⟩ := HA.out k hlt
      obtain ⟨x, hxx⟩ : ∃ x, l.getD k 0 = x := ⟨_, rfl⟩
      have hxl := LA.out k
      rw [hxx] at hx hxl
      have HX := Lib.hid hxx
      have HXC := Lib.hid hx
      clear hxx hx
      obtain ⟨y, hyy⟩ : ∃ y, Y.getD k 0 = y := ⟨_, rfl⟩
      have hyl := H2.out k
      rw [hyy] at hyl
      have HY := Lib.hid hyy
      clear hyy
      have hk1 : (k : Int) < (l.length : Int) := by omega
      have hx0 : (0 : Int) ≤ (x : Int) := Int.natCast_nonneg _
      have hx1 : (x : Int) < 4294967296 := by omega
      have hy0 : (0 : Int) ≤ (y : Int) := Int.natCast_nonneg _
      have hy1 : (y : Int) < 4294967296 := by omega
      go_wp2
      go_loopw [7, 8] (MulB Y k (x * 10 + y) w (l.length + 1)) (fun _ j _ => 1 - (intOf j).toNat)
      case atStart => exact ⟨0, 0, Y, .inl ⟨rfl, rfl, rfl⟩, rfl, rfl, HOWN.out, HBW.out⟩
      case round =>
        obtain ⟨j, z, Y1, hj, rfl, rfl, hown, hbw⟩ := hrel
        have HOWN1 := Lib.hid hown
        have HBW1 := Lib.hid hbw
        clear hown hbw
        rcases hj with ⟨rfl, rfl, rfl⟩ | ⟨rfl, rfl, rfl⟩
        · have hcx : wr.cell? ⟨b, o + k, none⟩ = some (.int .u32 (x : Int)) := by rw [HBW1.out.cell hb]; exact HXC.out
          have hct : wr.cell? ⟨b1, o1, none⟩ = some (.int .u32 10) := by rw [HBW1.out.cell hb1]; exact HT.out
          have hcy : wr.cell? ⟨w.heap.size, k, none⟩ = some (.int .u32 (y : Int)) := by rw [ownu_cell HOWN1.out (by omega), HY.out]; rfl
          have hfo : wr.frozen? ⟨w.heap.size, k, none⟩ = false := HOWN1.out.frozenAt k
          go_wp2_with fail
          go_quiet (fail)
          go_wp2
          go_roundw
          case rel => exact mulb_step HOWN1.out HBW1.out (by go_num) (by go_num) rfl rfl rfl rfl (by omega)
          case measure => simp [intOf]
        · have hs : x * 10 + y < 4294967296 * 4294967296 := by omega
          obtain ⟨q, hq⟩ : ∃ q, (x * 10 + y) / 4294967296 = q := ⟨_, rfl⟩
          have hql : q < 4294967296 := by rw [← hq]; exact Nat.div_lt_of_lt_mul hs
          have HQ := Lib.hid hq
          obtain ⟨y0, hy0'⟩ : ∃ y0, (Y.set k ((x * 10 + y) % 4294967296)).getD (k + 1) 0 = y0 := ⟨_, rfl⟩
          have hcy : wr.cell? ⟨w.heap.size, k + 1, none⟩ = some (.int .u32 (y0 : Int)) := by rw [ownu_cell HOWN1.out (by omega), hy0']; rfl
          have hfo : wr.frozen? ⟨w.heap.size, k + 1, none⟩ = false := HOWN1.out.frozenAt _
          have hq0 : (0 : Int) ≤ (q : Int) := Int.natCast_nonneg _
          have hq1 : (q : Int) < 4294967296 := by omega
          rw [hq]
          clear hy0' hq hs
          go_wp2
          go_roundw
          case rel => exact mula_step hlt rfl (s := x * 10 + y) (by rw [HX.out, HY.out]) (by omega) HOWN1.out H1.out H2.out HBW1.out (by go_num) (by rw [HQ.out]; rfl) rfl rfl rfl
          case measure => simp [intOf]; omega
    · obtain rfl : k = l.length := by omega
      have HE := Lib.hid (ownu_words HOWN.out H2.out (Nat.le_refl _))
      have hlen := ownu_len HOWN.out
      have HW : Hid (worth Y = 10 * worth l) := by
        have := H1.out
        rw [List.take_of_length_le (by omega), List.take_length] at this
        exact this
      go_wp2_with (go_at_call 78; refine (trim_walk _ _ _ HE.out (by omega)).mono ?_; rintro e w' ⟨⟨r, rfl, hr⟩, rfl⟩)
      go_ret
      exact ⟨⟨_, rfl, by rw [HW.out] at hr; exact hr⟩, HBW.out⟩

set_option maxHeartbeats 1000000 in
theorem mul_walk (u v : Value) (x k : Nat) (w : World) (hu : NumAt w u x) (hv : NumAt w v 10) (hx : x < 4294967296 ^ k) (hk : k ≤ 90000) :
    Calls Tryz.prog 55 #[u, v] w fun e w' => (∃ r, e = .returned r ∧ NumAt w' r (10 * x)) ∧ Below w.heap.size w w' := by
  obtain ⟨l, hl, rfl, h1, _⟩ := num_len hu hx
  obtain ⟨m, hm, h2, h3, h4⟩ := num_len hv (show 10 < 4294967296 ^ 1 by decide)
  have hm10 : m = [10] := by
    match m, h3 with
    | [], _ => simp [worth] at h2
    | [y], _ => simp [worth] at h2; rw [h2]
  subst hm10
  rcases Nat.eq_zero_or_pos l.length with h0 | h0
  · obtain rfl := List.eq_nil_of_length_eq_zero h0
    obtain ⟨⟨a, c, rfl, hc, hall⟩, hlt⟩ := hl
    obtain ⟨⟨a1, c1, rfl, hc1, hall1⟩, hlt1⟩ := hm
    clear hall hlt hall1 hlt1
    go_enter Tryz.func55, Tryz.ntmps55
    go_wp2
    go_ret
    exact ⟨⟨_, rfl, [], ⟨⟨none, 0, rfl, Nat.le_refl _, fun j hj => absurd hj (Nat.not_lt_zero _)⟩, fun j => by simp⟩, rfl, .inl rfl⟩, Below.refl _ _⟩
  · exact mul_walk1 u v l w hl hm (by omega) h0
end Go.Proofs.YtijhkahaccclmaaGreatDoor
