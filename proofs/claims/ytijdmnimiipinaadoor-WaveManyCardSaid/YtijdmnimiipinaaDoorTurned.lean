/-
  The walk of the reference's inner turn: of 2 ^ m numbers it answers a new slice whose readings are the plain transform of the arguments' readings, the same plain transform as the program's. Condition: 2 ^ m is at most 256.
-/
import Derived.Test.YtijdmnimiipinaaDoorTurn
import Derived.Deep.RegionHeld3
import Derived.Deep.DeepCutAuto
set_option linter.unusedSimpArgs false
set_option linter.unusedVariables false
set_option linter.unnecessarySimpa false
namespace Go.Proofs.YtijdmnimiipinaaDoor
open Go Go.RowKit

/-- In the midst of the two appends: the two rows, of n6 and n7 numbers; the blocks that hold what is to be appended. -/
def Two (B g : Nat) (w0 : World) (X Y : Value) (v6 v7 : Value) (n6 n7 : Nat) (l6 l7 : List Value) (b6 b7 : Option Nat) (W : World) : Prop :=
  W.ownsRow B 35 1 v6 n6 l6 ∧ W.ownsRow B 35 1 v7 n7 l7 ∧ (∀ k, v6.ownBlock = some k → v7.ownBlock ≠ some k) ∧ Below B w0 W ∧ B ≤ W.heap.size ∧ g < B ∧
  (∀ k, b6 = some k → W.heap[k]? = some (.cells #[X] 35 (0, 0)) ∧ v6.ownBlock ≠ some k ∧ v7.ownBlock ≠ some k) ∧
  (∀ k, b7 = some k → W.heap[k]? = some (.cells #[Y] 35 (0, 0)) ∧ v6.ownBlock ≠ some k ∧ v7.ownBlock ≠ some k)

section
variable {B g : Nat} {w0 W : World} {X Y v6 v7 : Value} {n6 n7 : Nat} {l6 l7 : List Value} {b6 b7 : Option Nat}

theorem Two.drew (h : Two B g w0 X Y v6 v7 n6 n7 l6 l7 b6 b7 W) : Two B g w0 X Y v6 v7 n6 n7 l6 l7 b6 b7 W.drew := by
  obtain ⟨h1, h2, h3, h4, h5⟩ := h
  exact ⟨h1, h2, h3, h4.drew, h5⟩

theorem Two.build6 (h : Two B g w0 X Y v6 v7 n6 n7 l6 l7 none b7 W) (k : Nat) (hk : W.heap.size = k) : Two B g w0 X Y v6 v7 n6 n7 l6 l7 (some k) b7 (W.alloc (.cells #[X] 35)) := by
  subst hk
  obtain ⟨h1, h2, h3, h4, h5, h6, _, h8⟩ := h
  refine ⟨h1.alloc _, h2.alloc _, h3, h4.alloc h5 _, by simp; omega, h6, fun k hk => ?_, fun k hk => ?_⟩
  · obtain rfl := Option.some.inj hk
    refine ⟨heap_alloc_new _ _, fun e => ?_, fun e => ?_⟩
    · have := (h1.lt _ e).2; omega
    · have := (h2.lt _ e).2; omega
  · obtain ⟨e1, e2⟩ := h8 k hk
    exact ⟨by rw [heap_alloc_old _ _ (Array.getElem?_eq_some_iff.1 e1).1]; exact e1, e2⟩

theorem Two.build7 (h : Two B g w0 X Y v6 v7 n6 n7 l6 l7 b6 none W) (k : Nat) (hk : W.heap.size = k) : Two B g w0 X Y v6 v7 n6 n7 l6 l7 b6 (some k) (W.alloc (.cells #[Y] 35)) := by
  subst hk
  obtain ⟨h1, h2, h3, h4, h5, h6, h7, _⟩ := h
  refine ⟨h1.alloc _, h2.alloc _, h3, h4.alloc h5 _, by simp; omega, h6, fun k hk => ?_, fun k hk => ?_⟩
  · obtain ⟨e1, e2⟩ := h7 k hk
    exact ⟨by rw [heap_alloc_old _ _ (Array.getElem?_eq_some_iff.1 e1).1]; exact e1, e2⟩
  · obtain rfl := Option.some.inj hk
    refine ⟨heap_alloc_new _ _, fun e => ?_, fun e => ?_⟩
    · have := (h1.lt _ e).2; omega
    · have := (h2.lt _ e).2; omega

/-- Behind the append to the first row. -/
theorem Two.app6 {W' : World} {g' cap k6 : Nat} {l6' : List Value} (h : Two B g w0 X Y v6 v7 n6 n7 l6 l7 (some k6) b7 W) (hown : W'.ownsRow B 35 1 (.slice (some ⟨g', 0, none⟩) (n6 + 1) cap) (n6 + 1) l6')
    (hgr : W.grownBy W' v6.ownBlock) (hat : v6.ownBlock = some g' ∨ g' = W.heap.size) : Two B g w0 X Y (.slice (some ⟨g', 0, none⟩) (n6 + 1) cap) v7 (n6 + 1) n7 l6' l7 none b7 W' := by
  obtain ⟨h1, h2, h3, h4, h5, h6, _, h8⟩ := h
  have hs := hgr.size
  refine ⟨hown, h2.kept hgr ?_, fun k hk e => ?_, h4.grown hgr h5 (fun k hk => (h1.lt k hk).1), by omega, h6, (fun k hk => by cases hk), fun k hk => ?_⟩
  · cases hb : v7.ownBlock with
    | none => exact .inl rfl
    | some b => exact .inr fun e => h3 b e.symm hb
  · simp only [Value.ownBlock, Option.some.injEq] at hk
    subst hk
    rcases hat with hat | hat
    · exact h3 _ hat e
    · have := (h2.lt _ e).2; omega
  · obtain ⟨e1, e2, e3⟩ := h8 k hk
    have hk1 := (Array.getElem?_eq_some_iff.1 e1).1
    refine ⟨by rw [hgr.block k hk1 (fun e => e2 e.symm)]; exact e1, ?_, e3⟩
    intro e
    simp only [Value.ownBlock, Option.some.injEq] at e
    subst e
    rcases hat with hat | hat
    · exact e2 hat
    · omega

theorem Two.app7 {W' : World} {g' cap k7 : Nat} {l7' : List Value} (h : Two B g w0 X Y v6 v7 n6 n7 l6 l7 b6 (some k7) W) (hown : W'.ownsRow B 35 1 (.slice (some ⟨g', 0, none⟩) (n7 + 1) cap) (n7 + 1) l7')
    (hgr : W.grownBy W' v7.ownBlock) (hat : v7.ownBlock = some g' ∨ g' = W.heap.size) : Two B g w0 X Y v6 (.slice (some ⟨g', 0, none⟩) (n7 + 1) cap) n6 (n7 + 1) l6 l7' b6 none W' := by
  obtain ⟨h1, h2, h3, h4, h5, h6, h7, _⟩ := h
  have hs := hgr.size
  refine ⟨h1.kept hgr ?_, hown, fun k hk e => ?_, h4.grown hgr h5 (fun k hk => (h2.lt k hk).1), by omega, h6, fun k hk => ?_, (fun k hk => by cases hk)⟩
  · cases hb : v6.ownBlock with
    | none => exact .inl rfl
    | some b => exact .inr fun e => h3 b hb e.symm
  · simp only [Value.ownBlock, Option.some.injEq] at e
    subst e
    rcases hat with hat | hat
    · exact h3 _ hk hat
    · have := (h1.lt _ hk).2; omega
  · obtain ⟨e1, e2, e3⟩ := h7 k hk
    have hk1 := (Array.getElem?_eq_some_iff.1 e1).1
    refine ⟨by rw [hgr.block k hk1 (fun e => e3 e.symm)]; exact e1, e2, ?_⟩
    intro e
    simp only [Value.ownBlock, Option.some.injEq] at e
    subst e
    rcases hat with hat | hat
    · exact e3 hat
    · omega

theorem Two.cells (h : Two B g w0 X Y v6 v7 n6 n7 l6 l7 b6 b7 W) {i j : Nat} {x y : Value} (hx : w0.cell? ⟨g, i, none⟩ = some x) (hy : w0.cell? ⟨g, j, none⟩ = some y) :
    W.cell? ⟨g, i, none⟩ = some x ∧ W.cell? ⟨g, j, none⟩ = some y := by
  obtain ⟨_, _, _, h4, _, h6, _⟩ := h
  exact ⟨(h4.cell h6).trans hx, (h4.cell h6).trans hy⟩
end

section
variable {ops : Array Oper} {o : Oper} {a : Act} {K : Act → World → Prop} {Q : Exit → Act → World → Prop} {E : Prop}
  {B g : Nat} {w0 W : World} {X Y v6 v7 : Value} {n6 n7 : Nat} {l6 l7 : List Value} {b6 b7 : Option Nat} {k6 k7 : Nat}

/-- The append to the first row, at a step of a region that draws its order. -/
theorem step_app6 (hgd : o.guard = none) (s x : Operand) (ho : o.op = .call { callee := .builtin .append, args := #[s, x], argTypes := #[34, 34] })
    (h : Two B g w0 X Y v6 v7 n6 n7 l6 l7 (some k6) b7 W) (hs : a.eval s = v6) (hx : a.eval x = .slice (some ⟨k6, 0, none⟩) 1 1) (h1 : X.oneCell' = true) (hn : n6 + 1 ≤ 1000)
    (hK : ∀ g' cap W', Two B g w0 X Y (.slice (some ⟨g', 0, none⟩) (n6 + 1) cap) v7 (n6 + 1) n7 (l6 ++ [X]) l7 none b7 W' → K (a.put o.dst (.slice (some ⟨g', 0, none⟩) (n6 + 1) cap)) W') :
    if Region.wanted o (yielded ops a.tmps) = true then Oper.wp Tryd.prog o a W K Q else E := by
  obtain ⟨i0, hi, hz0, hz1, hz2⟩ := info_parts Tryd.info35
  refine step_append_lies (P := Tryd.prog) W hgd s x 34 ho B 35 i0 (.complex .f64 0 0) 1 16 Tryd.underlying34 hi hz0 hz1 hz2 rfl (by decide) v6 n6 l6 hs h.1 ⟨k6, 0, none⟩ 1 1 [X] hx rfl ?_ ?_ (by decide) (by unfold maxLen; omega) (by omega) h.2.2.2.2.1 W.heap.size rfl ?_
  · exact World.news_of_block (cs := #[X]) (h.2.2.2.2.2.2.1 k6 rfl).1
  · intro u hu; simp at hu; subst hu; exact h1
  · intro g' cap W' hown hgr hat _
    exact hK g' cap W' (h.app6 hown hgr hat)

theorem step_app7 (hgd : o.guard = none) (s x : Operand) (ho : o.op = .call { callee := .builtin .append, args := #[s, x], argTypes := #[34, 34] })
    (h : Two B g w0 X Y v6 v7 n6 n7 l6 l7 b6 (some k7) W) (hs : a.eval s = v7) (hx : a.eval x = .slice (some ⟨k7, 0, none⟩) 1 1) (h1 : Y.oneCell' = true) (hn : n7 + 1 ≤ 1000)
    (hK : ∀ g' cap W', Two B g w0 X Y v6 (.slice (some ⟨g', 0, none⟩) (n7 + 1) cap) n6 (n7 + 1) l6 (l7 ++ [Y]) b6 none W' → K (a.put o.dst (.slice (some ⟨g', 0, none⟩) (n7 + 1) cap)) W') :
    if Region.wanted o (yielded ops a.tmps) = true then Oper.wp Tryd.prog o a W K Q else E := by
  obtain ⟨i0, hi, hz0, hz1, hz2⟩ := info_parts Tryd.info35
  refine step_append_lies (P := Tryd.prog) W hgd s x 34 ho B 35 i0 (.complex .f64 0 0) 1 16 Tryd.underlying34 hi hz0 hz1 hz2 rfl (by decide) v7 n7 l7 hs h.2.1 ⟨k7, 0, none⟩ 1 1 [Y] hx rfl ?_ ?_ (by decide) (by unfold maxLen; omega) (by omega) h.2.2.2.2.1 W.heap.size rfl ?_
  · exact World.news_of_block (cs := #[Y]) (h.2.2.2.2.2.2.2 k7 rfl).1
  · intro u hu; simp at hu; subst hu; exact h1
  · intro g' cap W' hown hgr hat _
    exact hK g' cap W' (h.app7 hown hgr hat)
end

/-- What holds at the head of the loop that parts the numbers, two a round. -/
structure EO2 (Z : List (Nat × Nat)) (w0 : World) (j : Nat) (v6 v7 : Value) (wr : World) : Prop where
  ev : wr.ownsRow w0.heap.size 35 1 v6 j ((evz Z j).map cv)
  od : wr.ownsRow w0.heap.size 35 1 v7 j ((odz Z j).map cv)
  ap : ∀ g, v6.ownBlock = some g → v7.ownBlock ≠ some g
  bel : Below w0.heap.size w0 wr

theorem EO2.two {Z : List (Nat × Nat)} {w0 wr : World} {j g : Nat} {v6 v7 : Value} (h : EO2 Z w0 j v6 v7 wr) (hg : g < w0.heap.size) (X Y : Value) :
    Two w0.heap.size g w0 X Y v6 v7 j j ((evz Z j).map cv) ((odz Z j).map cv) none none wr :=
  ⟨h.ev, h.od, h.ap, h.bel, h.bel.size, hg, (fun k hk => by cases hk), (fun k hk => by cases hk)⟩
theorem EO2.back {Z : List (Nat × Nat)} {w0 wr : World} {j g : Nat} {v6 v7 : Value} (h : Two w0.heap.size g w0 (cv (Z.getD (2 * j) (0, 0))) (cv (Z.getD (2 * j + 1) (0, 0))) v6 v7 (j + 1) (j + 1)
    ((evz Z j).map cv ++ [cv (Z.getD (2 * j) (0, 0))]) ((odz Z j).map cv ++ [cv (Z.getD (2 * j + 1) (0, 0))]) none none wr) : EO2 Z w0 (j + 1) v6 v7 wr := by
  obtain ⟨h1, h2, h3, h4, _⟩ := h
  rw [map_snoc, ← evz_succ] at h1
  rw [map_snoc, ← odz_succ] at h2
  exact ⟨h1, h2, h3, h4⟩

def TurnedA (Z : List (Nat × Nat)) (w : World) (h : Nat) (v6 v7 i : Value) (wr : World) : Prop := ∃ j q : Nat, q = 2 * j ∧ j ≤ h ∧ i = .int .i64 q ∧ EO2 Z w j v6 v7 wr

def TurnedL (z : Option Nat × Option Nat) (lo hi : Nat → Option Nat × Option Nat) (W : World) (n h : Nat) (v i : Value) (wr : World) : Prop :=
  ∃ (a b q : Nat), v = .complex .f64 a b ∧ aC (a, b) = cpw z q ∧ i = .int .i64 q ∧ TurnL lo hi W W.heap.size n h i wr

set_option maxRecDepth 100000 in
set_option maxHeartbeats 8000000 in
theorem turned_any (m : Nat) : ∀ (B : Nat) (v : Value) (Z : List (Nat × Nat)) (back : Bool) (w : World), 2 ^ m ≤ 256 → w.ownsRow B 35 1 v (2 ^ m) (Z.map cv) →
    Calls Tryd.prog 16 #[v, .bool back] w (CRowIs (dft m back (Z.map aC)) w) := by
  obtain ⟨i0, hi, hz0, hz1, hz2⟩ := info_parts Tryd.info35
  induction m with
  | zero =>
    intro B v Z back w _ hown
    obtain ⟨g, cap, rfl⟩ := own_shape hown (by decide)
    have hl := own_len hown
    have hcell := own_cell hown (show 0 < 2 ^ 0 by decide)
    obtain ⟨⟨x, y⟩, rfl⟩ : ∃ p, Z = [p] := List.length_eq_one_iff.1 hl
    have hc : w.cell? ⟨g, 0, none⟩ = some (.complex .f64 x y) := hcell
    clear hcell hl
    go_enter Tryd.func16, Tryd.ntmps16
    go_wp2
    go_ret
    exact ⟨_, [(x, y)], rfl, World.ownsRow_lit w _ 1 (Nat.le_refl _) (by decide) rfl, rfl, (Below.refl _ _).alloc (Nat.le_refl _) _⟩
  | succ m ih =>
    intro B v Z back w hle hown
    obtain ⟨g, cap, rfl⟩ := own_shape hown (Nat.two_pow_pos _)
    have hl := own_len hown
    obtain ⟨n, hn⟩ : ∃ n, n = 2 ^ (m + 1) := ⟨_, rfl⟩
    rw [← hn] at hown hle hl ⊢
    have hn2 : 2 ≤ n := by
      have : 0 < 2 ^ m := Nat.two_pow_pos _
      rw [hn, two_pow_succ']; omega
    have hm2 : 2 ^ m = n / 2 := by rw [hn, two_pow_succ']; omega
    have hev : n % 2 = 0 := by rw [hn, two_pow_succ']; omega
    have HN := Lib.hid hn
    have HM := Lib.hid hm2
    have HE := Lib.hid hev
    have HI := Lib.hid ih
    have HL := Lib.hid hl
    clear hn hm2 hev ih hl
    have t1 : ((n : Int) == 1) = false := by simp; omega
    have hcells : ∀ j, j < n → w.cell? ⟨g, j, none⟩ = some (cv (Z.getD j (0, 0))) := fun j hj => own_cell hown hj
    have hglt : g < w.heap.size := (hown.lt g rfl).2
    have HC := Lib.hid hcells
    have HG := Lib.hid hglt
    clear hcells hglt
    go_enter Tryd.func16, Tryd.ntmps16
    go_wp2
    go_loopw [6, 7, 8] (TurnedA Z w (n / 2)) (fun _ _ i _ => n - (intOf i).toNat)
    case atStart => exact ⟨0, 0, rfl, Nat.zero_le _, rfl, World.ownsRow_nil _ _ _ _, World.ownsRow_nil _ _ _ _, (fun g h => by cases h), Below.refl _ _⟩
    case round =>
      obtain ⟨j, q, hq, hj, rfl, heo⟩ := hrel
      have hsz := heo.bel.size
      have HEO := Lib.hid heo
      have HQ := Lib.hid hq
      clear heo hq
      by_cases hlt : q < n
      · have hlt2 : q + 1 < n := by have := HE.out; have := HQ.out; omega
        obtain ⟨x, y, hxy⟩ : ∃ x y, Z.getD q (0, 0) = (x, y) := ⟨_, _, rfl⟩
        obtain ⟨x', y', hxy'⟩ : ∃ x y, Z.getD (q + 1) (0, 0) = (x, y) := ⟨_, _, rfl⟩
        have hcx : w.cell? ⟨g, q, none⟩ = some (.complex .f64 x y) := by rw [HC.out _ hlt, hxy]; rfl
        have hcy : w.cell? ⟨g, q + 1, none⟩ = some (.complex .f64 x' y') := by rw [HC.out _ hlt2, hxy']; rfl
        have HT := HEO.out.two HG.out (.complex .f64 x y) (.complex .f64 x' y')
        have hc1 : wr.cell? ⟨g, q, none⟩ = some (.complex .f64 x y) := (HEO.out.bel.cell HG.out).trans hcx
        have hc2 : wr.cell? ⟨g, q + 1, none⟩ = some (.complex .f64 x' y') := (HEO.out.bel.cell HG.out).trans hcy
        have HXY := Lib.hid hxy
        have HXY' := Lib.hid hxy'
        have HCX := Lib.hid hcx
        have HCY := Lib.hid hcy
        clear hxy hxy' hcx hcy
        have hq0 : (0 : Int) ≤ (q : Int) := Int.natCast_nonneg _
        have hq1 : (q : Int) < (n : Int) := by omega
        have hq2 : (q : Int) + 1 < (n : Int) := by omega
        have hq3 : (0 : Int) ≤ (q : Int) + 1 := by omega
        have hjb : j + 1 ≤ 1000 := by have := HQ.out; omega
        have hwq : IntKind.i64.wrap ((q : Int) + 1) = (q : Int) + 1 := IntWalk.i64_in _ (by omega)
        have hwn : ((q : Int) + 1).toNat = q + 1 := by omega
        go_wp2_with fail
        go_region_held3 (fun w' => w'.cell? ⟨g, q, none⟩ = some (.complex .f64 x y) ∧ w'.cell? ⟨g, q + 1, none⟩ = some (.complex .f64 x' y'))
          (first | go_keep | exact HT.cells HCX.out HCY.out)
          (first
            | (refine step_app6 rfl _ _ rfl (HT.build6 wr.heap.size rfl).drew (by rfl) (by rfl) rfl hjb ?_; intro g6 cap6 w6 HT)
            | (refine step_app6 rfl _ _ rfl ((HT.build6 wr.heap.size rfl).build7 (wr.heap.size + 1) (by simp)).drew (by rfl) (by rfl) rfl hjb ?_; intro g6 cap6 w6 HT)
            | (refine step_app6 rfl _ _ rfl ((HT.build7 wr.heap.size rfl).build6 (wr.heap.size + 1) (by simp)).drew (by rfl) (by rfl) rfl hjb ?_; intro g6 cap6 w6 HT)
            | (refine step_app6 rfl _ _ rfl HT (by rfl) (by rfl) rfl hjb ?_; intro g6 cap6 w6 HT)
            | (refine step_app6 rfl _ _ rfl (HT.build6 _ rfl) (by rfl) (by rfl) rfl hjb ?_; intro g6 cap6 w6 HT)
            | (refine step_app7 rfl _ _ rfl (HT.build7 wr.heap.size rfl).drew (by rfl) (by rfl) rfl hjb ?_; intro g7 cap7 w7 HT)
            | (refine step_app7 rfl _ _ rfl ((HT.build6 wr.heap.size rfl).build7 (wr.heap.size + 1) (by simp)).drew (by rfl) (by rfl) rfl hjb ?_; intro g7 cap7 w7 HT)
            | (refine step_app7 rfl _ _ rfl ((HT.build7 wr.heap.size rfl).build6 (wr.heap.size + 1) (by simp)).drew (by rfl) (by rfl) rfl hjb ?_; intro g7 cap7 w7 HT)
            | (refine step_app7 rfl _ _ rfl HT (by rfl) (by rfl) rfl hjb ?_; intro g7 cap7 w7 HT)
            | (refine step_app7 rfl _ _ rfl (HT.build7 _ rfl) (by rfl) (by rfl) rfl hjb ?_; intro g7 cap7 w7 HT))
        all_goals
          have R : EO2 Z w (j + 1) _ _ _ := EO2.back (g := g) (by rw [← HQ.out, HXY.out, HXY'.out]; exact HT)
          clear HT hc1 hc2 hwq hwn
          go_wp2
          go_roundw
          case rel => exact ⟨j + 1, q + 2, by have := HQ.out; omega, by have := HQ.out; omega, by go_num, R⟩
          case measure => simp [intOf]; omega
      · have HJ : Hid (j = 2 ^ m) := by
          have h1 := HQ.out; have h2 := HE.out; have h3 := HM.out
          exact (by omega : j = 2 ^ m)
        have hev := HEO.out.ev
        have hod := HEO.out.od
        rw [HJ.out] at hev hod
        have HEV := Lib.hid hev
        have HOD := Lib.hid hod
        have HLA : Hid ((dft m back ((evz Z (2 ^ m)).map aC)).length = n / 2) := by
          rw [dft_length _ _ _ (by simp [evz]), HM.out]; exact rfl
        have HLB : Hid ((dft m back ((odz Z (2 ^ m)).map aC)).length = n / 2) := by
          rw [dft_length _ _ _ (by simp [odz]), HM.out]; exact rfl
        clear hev hod
        go_wp2_with fail
        refine (HI.out _ _ _ back _ (by rw [HM.out]; omega) HEV.out).mono ?_
        rintro e w1 ⟨va, Ya, rfl, hoa, hYa, hba⟩
        have hod1 := Lib.hid (own_below HOD.out hba)
        have hs1 := hba.size
        have HYA := Lib.hid hYa
        have HBA := Lib.hid hba
        rw [HLA.out] at hoa
        obtain ⟨ga, capa, rfl⟩ := own_shape hoa (by omega)
        have HOA := Lib.hid hoa
        clear hYa hba hoa
        go_wp2_with fail
        refine (HI.out _ _ _ back _ (by rw [HM.out]; omega) hod1.out).mono ?_
        rintro e w2 ⟨vb, Yb, rfl, hob, hYb, hbb⟩
        have HOA2 := Lib.hid (own_below HOA.out hbb)
        have hs2 := hbb.size
        have HYB := Lib.hid hYb
        have HBB := Lib.hid hbb
        rw [HLB.out] at hob
        obtain ⟨gb, capb, rfl⟩ := own_shape hob (by omega)
        have HOB := Lib.hid hob
        clear hYb hbb hob HOA hod1
        go_wp2_with (at_make; refine wpList_make_full (P := Tryd.prog) _ rfl _ _ 34 rfl w2.heap.size 35 i0 (.complex .f64 0 0) 1 Tryd.underlying34 hi hz0 hz1 _ _ _ _ n rfl rfl rfl rfl ?m1 ?m2 ?m3 ?_)
        case m1 => rw [hz2]; omega
        case m2 => unfold maxLen; omega
        case m3 => exact Nat.le_refl _
        intro w4 hown4 hgrow4
        have HO4 := Lib.hid hown4
        have HG4 := Lib.hid hgrow4
        clear hown4 hgrow4
        go_wp2
        go_loopw [12, 13] (TurnedL (croot m) (fun j => cadd ((dft m back ((evz Z (2 ^ m)).map aC)).getD j czero) (tk m back (dft m back ((odz Z (2 ^ m)).map aC)) j)) (fun j => csub ((dft m back ((evz Z (2 ^ m)).map aC)).getD j czero) (tk m back (dft m back ((odz Z (2 ^ m)).map aC)) j)) w2 n (n / 2)) (fun _ i _ => n / 2 - (intOf i).toNat)
        case atStart => exact ⟨_, _, 0, rfl, rfl, rfl, 0, _, Nat.zero_le _, rfl, HO4.out, fun j hj => absurd hj (Nat.not_lt_zero _), fun j hj => absurd hj (Nat.not_lt_zero _), (Below.refl _ _).grown HG4.out (Nat.le_refl _) (fun k hk => by cases hk)⟩
        case round =>
          obtain ⟨r1, r2, q', rfl, hcw, rfl, q, L, hq, hqq, hownL, hlo, hhi, hbel⟩ := hrel
          obtain rfl : q' = q := by simp at hqq; omega
          have EW := Lib.hid hcw
          have HOL := Lib.hid hownL
          have HLO := Lib.hid hlo
          have HHI := Lib.hid hhi
          have HBL := Lib.hid hbel
          have hLlen : Hid (L.length = n) := by have := hownL.1; exact (by omega : L.length = n)
          clear hlo hhi hownL hbel hcw hqq
          by_cases hlt : q' < n / 2
          · obtain ⟨a1, a2, hxa⟩ : ∃ a b, Ya.getD q' (0, 0) = (a, b) := ⟨_, _, rfl⟩
            obtain ⟨b1, b2, hxb⟩ : ∃ a b, Yb.getD q' (0, 0) = (a, b) := ⟨_, _, rfl⟩
            obtain ⟨o1, ho1⟩ : ∃ o1, L[q']? = some o1 := ⟨_, List.getElem?_eq_getElem (by rw [hLlen.out]; omega)⟩
            obtain ⟨o2, ho2⟩ : ∃ o2, L[q' + n / 2]? = some o2 := ⟨_, List.getElem?_eq_getElem (by rw [hLlen.out]; omega)⟩
            have hga := (HOA2.out.lt ga rfl).2
            have hca : wr.cell? ⟨ga, q', none⟩ = some (.complex .f64 a1 a2) := by
              rw [HBL.out.cell hga, own_cell HOA2.out hlt, hxa]; rfl
            have hcb : wr.cell? ⟨gb, q', none⟩ = some (.complex .f64 b1 b2) := by
              rw [HBL.out.cell (HOB.out.lt gb rfl).2, own_cell HOB.out hlt, hxb]; rfl
            have hc1 : wr.cell? ⟨w2.heap.size, q', none⟩ = some o1 := by rw [HOL.out.cellAt q' (by omega)]; exact ho1
            have hc2 : wr.cell? ⟨w2.heap.size, q' + n / 2, none⟩ = some o2 := by rw [HOL.out.cellAt (q' + n / 2) (by omega)]; exact ho2
            have hf1 : wr.frozen? ⟨w2.heap.size, q', none⟩ = false := HOL.out.frozenAt q'
            have hf2 : wr.frozen? ⟨w2.heap.size, q' + n / 2, none⟩ = false := HOL.out.frozenAt (q' + n / 2)
            have HXA := Lib.hid hxa
            have HXB := Lib.hid hxb
            have EA : Hid ((dft m back ((evz Z (2 ^ m)).map aC)).getD q' czero = aC (a1, a2)) := by
              have e := map_getD aC Ya (by rw [own_len HOA2.out]; exact hlt) (0, 0) czero
              rw [HYA.out, HXA.out] at e; exact e
            have EB : Hid ((dft m back ((odz Z (2 ^ m)).map aC)).getD q' czero = aC (b1, b2)) := by
              have e := map_getD aC Yb (by rw [own_len HOB.out]; exact hlt) (0, 0) czero
              rw [HYB.out, HXB.out] at e; exact e
            clear hxa hxb ho1 ho2
            have hqk : q' < n := by omega
            have hqk2 : q' + n / 2 < n := by omega
            have hne1 : ¬ ga = w2.heap.size := by omega
            have hne2 : ¬ w2.heap.size = ga := by omega
            have hne3 : ¬ q' = q' + n / 2 := by omega
            have hne4 : ¬ q' + n / 2 = q' := by omega
            go_upto_if 60 with fail
            go_cut [14] (fun s14 wx => ∃ x y, s14 = .complex .f64 x y ∧ aC (x, y) = twist back (aC (r1, r2)) ∧ wr = wx)
            case first =>
              cases back with
              | true => go_wp2_with fail; go_meet; exact ⟨_, _, rfl, rfl, rfl⟩
              | false => go_wp2_with fail; go_meet; exact ⟨_, _, rfl, by simp only [aC, ab_neg]; rfl, rfl⟩
            case rest =>
              obtain ⟨x, y, rfl, hxy, rfl⟩ := hcut
              have HXY := Lib.hid hxy
              clear hxy
              go_upto_region 19 with (go_at_call 11; refine (product_any _ _ _ _ _).mono ?_; rintro e w' ⟨c, c', d', rfl, hp, rfl⟩)
              have HP := Lib.hid hp
              clear hp
              have hcA : (wr.drewN d').cell? ⟨ga, q', none⟩ = some (.complex .f64 a1 a2) := hca
              go_cut [15] (fun s15 wx => s15 = .complex .f64 c c' ∧ ∃ x1 y1 d1, aC (x1, y1) = (aAdd (ab a1) (ab c), aAdd (ab a2) (ab c')) ∧ (wr.drewN d1).setCell ⟨w2.heap.size, q', none⟩ (.complex .f64 x1 y1) = wx)
              case first =>
                refine wp_region_held_drew (S := fun w' => w'.cell? ⟨ga, q', none⟩ = some (.complex .f64 a1 a2)) (by kernel_rfl) ?_ (fun hHeld => ?_)
                · exact hcA
                refine wpAnyH_take (i := 0) (v := ?_) rfl (by kernel_rfl) (by kernel_rfl) (by kernel_rfl) (fun _ _ _ h => h) (Or.inl ⟨by rfl, ?_⟩) (by assumption) ?_
                rotate_left
                · intro w' hSw; go_simp; all_goals with_reducible rfl
                try simp only [Act.put, List.setIfInBounds_toArray, List.set_cons_zero, List.set_cons_succ]
                refine wpAnyH_take (i := 1) (v := ?_) rfl (by kernel_rfl) (by kernel_rfl) (by kernel_rfl) (fun _ _ _ h => h) (Or.inl ⟨by rfl, ?_⟩) (by assumption) ?_
                rotate_left
                · intro w' hSw; go_simp; all_goals with_reducible rfl
                try simp only [Act.put, List.setIfInBounds_toArray, List.set_cons_zero, List.set_cons_succ]
                refine wpAnyH_take (i := 2) (v := ?_) rfl (by kernel_rfl) (by kernel_rfl) (by kernel_rfl) (fun _ _ _ h => h) (Or.inl ⟨by rfl, ?_⟩) (by assumption) ?_
                rotate_left
                · intro w' hSw; go_simp; all_goals with_reducible rfl
                try simp only [Act.put, List.setIfInBounds_toArray, List.set_cons_zero, List.set_cons_succ]
                refine wpAnyH_take (i := 3) (v := ?_) rfl (by kernel_rfl) (by kernel_rfl) (by kernel_rfl) (fun _ _ _ h => h) (Or.inl ⟨by rfl, ?_⟩) (by assumption) ?_
                rotate_left
                · intro w' hSw; go_simp; all_goals with_reducible rfl
                try simp only [Act.put, List.setIfInBounds_toArray, List.set_cons_zero, List.set_cons_succ]
                refine wpAnyH_take (i := 4) (v := ?_) rfl (by kernel_rfl) (by kernel_rfl) (by kernel_rfl) (fun _ _ _ h => h) (Or.inl ⟨by rfl, ?_⟩) (by assumption) ?_
                rotate_left
                · intro w' hSw; go_simp; all_goals with_reducible rfl
                try simp only [Act.put, List.setIfInBounds_toArray, List.set_cons_zero, List.set_cons_succ]
                refine wpAnyH_take (i := 5) (v := ?_) rfl (by kernel_rfl) (by kernel_rfl) (by kernel_rfl) (fun _ _ _ h => h) (Or.inl ⟨by rfl, ?_⟩) (by assumption) ?_
                rotate_left
                · intro w' hSw; go_simp; all_goals with_reducible rfl
                try simp only [Act.put, List.setIfInBounds_toArray, List.set_cons_zero, List.set_cons_succ]
                refine wpAnyH_take (i := 6) (v := ?_) rfl (by kernel_rfl) (by kernel_rfl) (by kernel_rfl) (fun _ _ _ h => h) (Or.inl ⟨by rfl, ?_⟩) (by assumption) ?_
                rotate_left
                · intro w' hSw; go_simp; all_goals with_reducible rfl
                try simp only [Act.put, List.setIfInBounds_toArray, List.set_cons_zero, List.set_cons_succ]
                refine wpAnyH_take (i := 7) (v := ?_) rfl (by kernel_rfl) (by kernel_rfl) (by kernel_rfl) (fun _ _ _ h => h) (Or.inl ⟨by rfl, ?_⟩) (by assumption) ?_
                rotate_left
                · intro w' hSw; go_simp; all_goals with_reducible rfl
                try simp only [Act.put, List.setIfInBounds_toArray, List.set_cons_zero, List.set_cons_succ]
                refine wpAnyH_take (i := 8) (v := ?_) rfl (by kernel_rfl) (by kernel_rfl) (by kernel_rfl) (fun _ _ _ h => h) (Or.inl ⟨by rfl, ?_⟩) (by assumption) ?_
                rotate_left
                · intro w' hSw; go_simp; all_goals with_reducible rfl
                try simp only [Act.put, List.setIfInBounds_toArray, List.set_cons_zero, List.set_cons_succ]
                refine wpAnyH_take (i := 10) (v := ?_) rfl (by kernel_rfl) (by kernel_rfl) (by kernel_rfl) (fun _ _ _ h => h) (Or.inl ⟨by rfl, ?_⟩) (by assumption) ?_
                rotate_left
                · intro w' hSw; go_simp; all_goals with_reducible rfl
                try simp only [Act.put, List.setIfInBounds_toArray, List.set_cons_zero, List.set_cons_succ]
                refine wpAnyH_take (i := 11) (v := ?_) rfl (by kernel_rfl) (by kernel_rfl) (by kernel_rfl) (fun _ _ _ h => h) (Or.inl ⟨by rfl, ?_⟩) (by assumption) ?_
                rotate_left
                · intro w' hSw; go_simp; all_goals with_reducible rfl
                try simp only [Act.put, List.setIfInBounds_toArray, List.set_cons_zero, List.set_cons_succ]
                refine wpAnyH_take (i := 12) (v := ?_) rfl (by kernel_rfl) (by kernel_rfl) (by kernel_rfl) (fun _ _ _ h => h) (Or.inl ⟨by rfl, ?_⟩) (by assumption) ?_
                rotate_left
                · intro w' hSw; go_simp; all_goals with_reducible rfl
                try simp only [Act.put, List.setIfInBounds_toArray, List.set_cons_zero, List.set_cons_succ]
                refine wpAnyH_take (i := 13) (v := ?_) rfl (by kernel_rfl) (by kernel_rfl) (by kernel_rfl) (fun _ _ _ h => h) (Or.inl ⟨by rfl, ?_⟩) (by assumption) ?_
                rotate_left
                · intro w' hSw; go_simp; all_goals with_reducible rfl
                try simp only [Act.put, List.setIfInBounds_toArray, List.set_cons_zero, List.set_cons_succ]
                refine wpAnyH_take (i := 14) (v := ?_) rfl (by kernel_rfl) (by kernel_rfl) (by kernel_rfl) (fun _ _ _ h => h) (Or.inl ⟨by rfl, ?_⟩) (by assumption) ?_
                rotate_left
                · intro w' hSw; go_simp; all_goals with_reducible rfl
                try simp only [Act.put, List.setIfInBounds_toArray, List.set_cons_zero, List.set_cons_succ]
                refine wpAnyH_take (i := 15) (v := ?_) rfl (by kernel_rfl) (by kernel_rfl) (by kernel_rfl) (fun _ _ _ h => h) (Or.inl ⟨by rfl, ?_⟩) (by assumption) ?_
                rotate_left
                · intro w' hSw; go_simp; all_goals with_reducible rfl
                try simp only [Act.put, List.setIfInBounds_toArray, List.set_cons_zero, List.set_cons_succ]
                refine wpAnyH_take (i := 16) (v := ?_) rfl (by kernel_rfl) (by kernel_rfl) (by kernel_rfl) (fun _ _ _ h => h) (Or.inl ⟨by rfl, ?_⟩) (by assumption) ?_
                rotate_left
                · intro w' hSw; go_simp; all_goals with_reducible rfl
                try simp only [Act.put, List.setIfInBounds_toArray, List.set_cons_zero, List.set_cons_succ]
                refine wpAnyH_ready (rs := [9, 17]) (by kernel_rfl) (by simp) ?_
                refine AllReadyH.cons rfl (fun K hK => ?_) (AllReadyH.cons rfl (fun K hK => ?_) AllReadyH.nil)
                · go_simp
                  refine hK.out _ _ ?_ (fun hHeld => ?_)
                  · exact hcA
                  clear hK K
                  try simp only [Act.put, List.setIfInBounds_toArray, List.set_cons_zero, List.set_cons_succ]
                  refine wpAnyH_ready (rs := [17]) (by kernel_rfl) (by simp) ?_
                  refine AllReadyH.cons rfl (fun K hK => ?_) AllReadyH.nil
                  go_simp
                  refine hK.out _ _ ?_ (fun hHeld => ?_)
                  · exact hcA
                  clear hK K
                  try simp only [Act.put, List.setIfInBounds_toArray, List.set_cons_zero, List.set_cons_succ]
                  refine wpAnyH_take (i := 18) (v := ?_) rfl (by kernel_rfl) (by kernel_rfl) (by kernel_rfl) (fun _ _ _ h => h) (Or.inl ⟨by rfl, ?_⟩) (by assumption) ?_
                  rotate_left
                  · intro w' hSw; go_simp; all_goals with_reducible rfl
                  try simp only [Act.put, List.setIfInBounds_toArray, List.set_cons_zero, List.set_cons_succ]
                  refine wpAnyH_take (i := 19) (v := ?_) rfl (by kernel_rfl) (by kernel_rfl) (by kernel_rfl) (fun _ _ _ h => h) (Or.inl ⟨by rfl, ?_⟩) (by assumption) ?_
                  rotate_left
                  · intro w' hSw; go_simp; all_goals with_reducible rfl
                  try simp only [Act.put, List.setIfInBounds_toArray, List.set_cons_zero, List.set_cons_succ]
                  refine wpAnyH_ready (rs := [20]) (by kernel_rfl) (by simp) ?_
                  refine AllReadyH.cons rfl (fun K hK => ?_) AllReadyH.nil
                  go_simp
                  refine hK.out _ _ ?_ (fun hHeld => ?_)
                  · go_simp
                  clear hK K
                  try simp only [Act.put, List.setIfInBounds_toArray, List.set_cons_zero, List.set_cons_succ]
                  refine wpAnyH_done (by kernel_rfl) ?_ _
                  go_wp2_with fail
                  go_meet
                  exact ⟨rfl, _, _, _, by simp only [aC, ab_fAdd], rfl⟩
                · go_simp
                  refine hK.out _ _ ?_ (fun hHeld => ?_)
                  · exact hcA
                  clear hK K
                  try simp only [Act.put, List.setIfInBounds_toArray, List.set_cons_zero, List.set_cons_succ]
                  refine wpAnyH_ready (rs := [9]) (by kernel_rfl) (by simp) ?_
                  refine AllReadyH.cons rfl (fun K hK => ?_) AllReadyH.nil
                  go_simp
                  refine hK.out _ _ ?_ (fun hHeld => ?_)
                  · exact hcA
                  clear hK K
                  try simp only [Act.put, List.setIfInBounds_toArray, List.set_cons_zero, List.set_cons_succ]
                  refine wpAnyH_take (i := 18) (v := ?_) rfl (by kernel_rfl) (by kernel_rfl) (by kernel_rfl) (fun _ _ _ h => h) (Or.inl ⟨by rfl, ?_⟩) (by assumption) ?_
                  rotate_left
                  · intro w' hSw; go_simp; all_goals with_reducible rfl
                  try simp only [Act.put, List.setIfInBounds_toArray, List.set_cons_zero, List.set_cons_succ]
                  refine wpAnyH_take (i := 19) (v := ?_) rfl (by kernel_rfl) (by kernel_rfl) (by kernel_rfl) (fun _ _ _ h => h) (Or.inl ⟨by rfl, ?_⟩) (by assumption) ?_
                  rotate_left
                  · intro w' hSw; go_simp; all_goals with_reducible rfl
                  try simp only [Act.put, List.setIfInBounds_toArray, List.set_cons_zero, List.set_cons_succ]
                  refine wpAnyH_ready (rs := [20]) (by kernel_rfl) (by simp) ?_
                  refine AllReadyH.cons rfl (fun K hK => ?_) AllReadyH.nil
                  go_simp
                  refine hK.out _ _ ?_ (fun hHeld => ?_)
                  · go_simp
                  clear hK K
                  try simp only [Act.put, List.setIfInBounds_toArray, List.set_cons_zero, List.set_cons_succ]
                  refine wpAnyH_done (by kernel_rfl) ?_ _
                  go_wp2_with fail
                  go_meet
                  exact ⟨rfl, _, _, _, by simp only [aC, ab_fAdd], rfl⟩
              case rest =>
                obtain ⟨rfl, x1, y1, d1, h1, rfl⟩ := hcut
                have H1 := Lib.hid h1
                clear h1
                have hcA2 : ((wr.drewN d1).setCell ⟨w2.heap.size, q', none⟩ (.complex .f64 x1 y1)).cell? ⟨ga, q', none⟩ = some (.complex .f64 a1 a2) := by
                  rw [World.cell?_setCell_far _ _ _ _ (by simpa using hne2)]; exact hca
                have hcO2 : ((wr.drewN d1).setCell ⟨w2.heap.size, q', none⟩ (.complex .f64 x1 y1)).cell? ⟨w2.heap.size, q' + n / 2, none⟩ = some o2 := by
                  rw [World.cell?_setCell_other _ _ _ _ (by simpa using hne3)]; exact hc2
                have hfO2 : ((wr.drewN d1).setCell ⟨w2.heap.size, q', none⟩ (.complex .f64 x1 y1)).frozen? ⟨w2.heap.size, q' + n / 2, none⟩ = false := (World.frozen?_setCell _ _ _ _).trans hf2
                obtain ⟨W1, hW1⟩ : ∃ W1, W1 = (wr.drewN d1).setCell ⟨w2.heap.size, q', none⟩ (.complex .f64 x1 y1) := ⟨_, rfl⟩
                rw [← hW1] at hcA2 hcO2 hfO2 ⊢
                have HW1 := Lib.hid hW1
                clear hW1 hca hcb hc1 hc2 hf1 hf2 hcA
                go_upto_region 20 with fail
                have f1 : IntKind.i64.wrap ((n : Int) / 2) = (n : Int) / 2 := IntWalk.i64_in _ (by omega)
                have f2 : IntKind.i64.wrap ((q' : Int) + (n : Int) / 2) = (q' : Int) + (n : Int) / 2 := IntWalk.i64_in _ (by omega)
                have f3 : (0 : Int) ≤ (q' : Int) + (n : Int) / 2 := by omega
                have f4 : (q' : Int) + (n : Int) / 2 < (n : Int) := by omega
                have f5 : ((q' : Int) + (n : Int) / 2).toNat = q' + n / 2 := by omega
                go_cut [15] (fun s15 wx => s15 = .complex .f64 c c' ∧ ∃ x2 y2 d2, aC (x2, y2) = (aSub (ab a1) (ab c), aSub (ab a2) (ab c')) ∧ (W1.drewN d2).setCell ⟨w2.heap.size, q' + n / 2, none⟩ (.complex .f64 x2 y2) = wx)
                case first =>
                  refine wp_region_held_drew (S := fun w' => w'.cell? ⟨ga, q', none⟩ = some (.complex .f64 a1 a2)) (by kernel_rfl) ?_ (fun hHeld => ?_)
                  · exact hcA2
                  refine wpAnyH_take (i := 0) (v := ?_) rfl (by kernel_rfl) (by kernel_rfl) (by kernel_rfl) (fun _ _ _ h => h) (Or.inl ⟨by rfl, ?_⟩) (by assumption) ?_
                  rotate_left
                  · intro w' hSw; go_simp; all_goals with_reducible rfl
                  try simp only [Act.put, List.setIfInBounds_toArray, List.set_cons_zero, List.set_cons_succ]
                  refine wpAnyH_take (i := 1) (v := ?_) rfl (by kernel_rfl) (by kernel_rfl) (by kernel_rfl) (fun _ _ _ h => h) (Or.inl ⟨by rfl, ?_⟩) (by assumption) ?_
                  rotate_left
                  · intro w' hSw; go_simp; all_goals with_reducible rfl
                  try simp only [Act.put, List.setIfInBounds_toArray, List.set_cons_zero, List.set_cons_succ]
                  refine wpAnyH_take (i := 2) (v := ?_) rfl (by kernel_rfl) (by kernel_rfl) (by kernel_rfl) (fun _ _ _ h => h) (Or.inl ⟨by rfl, ?_⟩) (by assumption) ?_
                  rotate_left
                  · intro w' hSw; go_simp; all_goals with_reducible rfl
                  try simp only [Act.put, List.setIfInBounds_toArray, List.set_cons_zero, List.set_cons_succ]
                  refine wpAnyH_take (i := 3) (v := ?_) rfl (by kernel_rfl) (by kernel_rfl) (by kernel_rfl) (fun _ _ _ h => h) (Or.inl ⟨by rfl, ?_⟩) (by assumption) ?_
                  rotate_left
                  · intro w' hSw; go_simp; all_goals with_reducible rfl
                  try simp only [Act.put, List.setIfInBounds_toArray, List.set_cons_zero, List.set_cons_succ]
                  refine wpAnyH_take (i := 4) (v := ?_) rfl (by kernel_rfl) (by kernel_rfl) (by kernel_rfl) (fun _ _ _ h => h) (Or.inl ⟨by rfl, ?_⟩) (by assumption) ?_
                  rotate_left
                  · intro w' hSw; go_simp; all_goals with_reducible rfl
                  try simp only [Act.put, List.setIfInBounds_toArray, List.set_cons_zero, List.set_cons_succ]
                  refine wpAnyH_take (i := 5) (v := ?_) rfl (by kernel_rfl) (by kernel_rfl) (by kernel_rfl) (fun _ _ _ h => h) (Or.inl ⟨by rfl, ?_⟩) (by assumption) ?_
                  rotate_left
                  · intro w' hSw; go_simp; all_goals with_reducible rfl
                  try simp only [Act.put, List.setIfInBounds_toArray, List.set_cons_zero, List.set_cons_succ]
                  refine wpAnyH_take (i := 6) (v := ?_) rfl (by kernel_rfl) (by kernel_rfl) (by kernel_rfl) (fun _ _ _ h => h) (Or.inl ⟨by rfl, ?_⟩) (by assumption) ?_
                  rotate_left
                  · intro w' hSw; go_simp; all_goals with_reducible rfl
                  try simp only [Act.put, List.setIfInBounds_toArray, List.set_cons_zero, List.set_cons_succ]
                  refine wpAnyH_take (i := 7) (v := ?_) rfl (by kernel_rfl) (by kernel_rfl) (by kernel_rfl) (fun _ _ _ h => h) (Or.inl ⟨by rfl, ?_⟩) (by assumption) ?_
                  rotate_left
                  · intro w' hSw; go_simp; all_goals with_reducible rfl
                  try simp only [Act.put, List.setIfInBounds_toArray, List.set_cons_zero, List.set_cons_succ]
                  refine wpAnyH_take (i := 8) (v := ?_) rfl (by kernel_rfl) (by kernel_rfl) (by kernel_rfl) (fun _ _ _ h => h) (Or.inl ⟨by rfl, ?_⟩) (by assumption) ?_
                  rotate_left
                  · intro w' hSw; go_simp; all_goals with_reducible rfl
                  try simp only [Act.put, List.setIfInBounds_toArray, List.set_cons_zero, List.set_cons_succ]
                  refine wpAnyH_take (i := 9) (v := ?_) rfl (by kernel_rfl) (by kernel_rfl) (by kernel_rfl) (fun _ _ _ h => h) (Or.inl ⟨by rfl, ?_⟩) (by assumption) ?_
                  rotate_left
                  · intro w' hSw; go_simp; all_goals with_reducible rfl
                  try simp only [Act.put, List.setIfInBounds_toArray, List.set_cons_zero, List.set_cons_succ]
                  refine wpAnyH_take (i := 10) (v := ?_) rfl (by kernel_rfl) (by kernel_rfl) (by kernel_rfl) (fun _ _ _ h => h) (Or.inl ⟨by rfl, ?_⟩) (by assumption) ?_
                  rotate_left
                  · intro w' hSw; go_simp; all_goals with_reducible rfl
                  try simp only [Act.put, List.setIfInBounds_toArray, List.set_cons_zero, List.set_cons_succ]
                  refine wpAnyH_take (i := 11) (v := ?_) rfl (by kernel_rfl) (by kernel_rfl) (by kernel_rfl) (fun _ _ _ h => h) (Or.inl ⟨by rfl, ?_⟩) (by assumption) ?_
                  rotate_left
                  · intro w' hSw; go_simp; all_goals with_reducible rfl
                  try simp only [Act.put, List.setIfInBounds_toArray, List.set_cons_zero, List.set_cons_succ]
                  refine wpAnyH_take (i := 13) (v := ?_) rfl (by kernel_rfl) (by kernel_rfl) (by kernel_rfl) (fun _ _ _ h => h) (Or.inl ⟨by rfl, ?_⟩) (by assumption) ?_
                  rotate_left
                  · intro w' hSw; go_simp; all_goals with_reducible rfl
                  try simp only [Act.put, List.setIfInBounds_toArray, List.set_cons_zero, List.set_cons_succ]
                  refine wpAnyH_take (i := 14) (v := ?_) rfl (by kernel_rfl) (by kernel_rfl) (by kernel_rfl) (fun _ _ _ h => h) (Or.inl ⟨by rfl, ?_⟩) (by assumption) ?_
                  rotate_left
                  · intro w' hSw; go_simp; all_goals with_reducible rfl
                  try simp only [Act.put, List.setIfInBounds_toArray, List.set_cons_zero, List.set_cons_succ]
                  refine wpAnyH_take (i := 15) (v := ?_) rfl (by kernel_rfl) (by kernel_rfl) (by kernel_rfl) (fun _ _ _ h => h) (Or.inl ⟨by rfl, ?_⟩) (by assumption) ?_
                  rotate_left
                  · intro w' hSw; go_simp; all_goals with_reducible rfl
                  try simp only [Act.put, List.setIfInBounds_toArray, List.set_cons_zero, List.set_cons_succ]
                  refine wpAnyH_take (i := 16) (v := ?_) rfl (by kernel_rfl) (by kernel_rfl) (by kernel_rfl) (fun _ _ _ h => h) (Or.inl ⟨by rfl, ?_⟩) (by assumption) ?_
                  rotate_left
                  · intro w' hSw; go_simp; all_goals with_reducible rfl
                  try simp only [Act.put, List.setIfInBounds_toArray, List.set_cons_zero, List.set_cons_succ]
                  refine wpAnyH_take (i := 17) (v := ?_) rfl (by kernel_rfl) (by kernel_rfl) (by kernel_rfl) (fun _ _ _ h => h) (Or.inl ⟨by rfl, ?_⟩) (by assumption) ?_
                  rotate_left
                  · intro w' hSw; go_simp; all_goals with_reducible rfl
                  try simp only [Act.put, List.setIfInBounds_toArray, List.set_cons_zero, List.set_cons_succ]
                  refine wpAnyH_take (i := 18) (v := ?_) rfl (by kernel_rfl) (by kernel_rfl) (by kernel_rfl) (fun _ _ _ h => h) (Or.inl ⟨by rfl, ?_⟩) (by assumption) ?_
                  rotate_left
                  · intro w' hSw; go_simp; all_goals with_reducible rfl
                  try simp only [Act.put, List.setIfInBounds_toArray, List.set_cons_zero, List.set_cons_succ]
                  refine wpAnyH_take (i := 19) (v := ?_) rfl (by kernel_rfl) (by kernel_rfl) (by kernel_rfl) (fun _ _ _ h => h) (Or.inl ⟨by rfl, ?_⟩) (by assumption) ?_
                  rotate_left
                  · intro w' hSw; go_simp; all_goals with_reducible rfl
                  try simp only [Act.put, List.setIfInBounds_toArray, List.set_cons_zero, List.set_cons_succ]
                  refine wpAnyH_ready (rs := [12, 20]) (by kernel_rfl) (by simp) ?_
                  refine AllReadyH.cons rfl (fun K hK => ?_) (AllReadyH.cons rfl (fun K hK => ?_) AllReadyH.nil)
                  · go_simp
                    refine hK.out _ _ ?_ (fun hHeld => ?_)
                    · exact hcA2
                    clear hK K
                    try simp only [Act.put, List.setIfInBounds_toArray, List.set_cons_zero, List.set_cons_succ]
                    refine wpAnyH_ready (rs := [20]) (by kernel_rfl) (by simp) ?_
                    refine AllReadyH.cons rfl (fun K hK => ?_) AllReadyH.nil
                    go_simp
                    refine hK.out _ _ ?_ (fun hHeld => ?_)
                    · exact hcA2
                    clear hK K
                    try simp only [Act.put, List.setIfInBounds_toArray, List.set_cons_zero, List.set_cons_succ]
                    refine wpAnyH_take (i := 21) (v := ?_) rfl (by kernel_rfl) (by kernel_rfl) (by kernel_rfl) (fun _ _ _ h => h) (Or.inl ⟨by rfl, ?_⟩) (by assumption) ?_
                    rotate_left
                    · intro w' hSw; go_simp; all_goals with_reducible rfl
                    try simp only [Act.put, List.setIfInBounds_toArray, List.set_cons_zero, List.set_cons_succ]
                    refine wpAnyH_take (i := 22) (v := ?_) rfl (by kernel_rfl) (by kernel_rfl) (by kernel_rfl) (fun _ _ _ h => h) (Or.inl ⟨by rfl, ?_⟩) (by assumption) ?_
                    rotate_left
                    · intro w' hSw; go_simp; all_goals with_reducible rfl
                    try simp only [Act.put, List.setIfInBounds_toArray, List.set_cons_zero, List.set_cons_succ]
                    refine wpAnyH_ready (rs := [23]) (by kernel_rfl) (by simp) ?_
                    refine AllReadyH.cons rfl (fun K hK => ?_) AllReadyH.nil
                    go_simp
                    refine hK.out _ _ ?_ (fun hHeld => ?_)
                    · go_simp
                    clear hK K
                    try simp only [Act.put, List.setIfInBounds_toArray, List.set_cons_zero, List.set_cons_succ]
                    refine wpAnyH_done (by kernel_rfl) ?_ _
                    go_wp2_with fail
                    go_meet
                    exact ⟨rfl, _, _, _, by simp only [aC, ab_fSub], rfl⟩
                  · go_simp
                    refine hK.out _ _ ?_ (fun hHeld => ?_)
                    · exact hcA2
                    clear hK K
                    try simp only [Act.put, List.setIfInBounds_toArray, List.set_cons_zero, List.set_cons_succ]
                    refine wpAnyH_ready (rs := [12]) (by kernel_rfl) (by simp) ?_
                    refine AllReadyH.cons rfl (fun K hK => ?_) AllReadyH.nil
                    go_simp
                    refine hK.out _ _ ?_ (fun hHeld => ?_)
                    · exact hcA2
                    clear hK K
                    try simp only [Act.put, List.setIfInBounds_toArray, List.set_cons_zero, List.set_cons_succ]
                    refine wpAnyH_take (i := 21) (v := ?_) rfl (by kernel_rfl) (by kernel_rfl) (by kernel_rfl) (fun _ _ _ h => h) (Or.inl ⟨by rfl, ?_⟩) (by assumption) ?_
                    rotate_left
                    · intro w' hSw; go_simp; all_goals with_reducible rfl
                    try simp only [Act.put, List.setIfInBounds_toArray, List.set_cons_zero, List.set_cons_succ]
                    refine wpAnyH_take (i := 22) (v := ?_) rfl (by kernel_rfl) (by kernel_rfl) (by kernel_rfl) (fun _ _ _ h => h) (Or.inl ⟨by rfl, ?_⟩) (by assumption) ?_
                    rotate_left
                    · intro w' hSw; go_simp; all_goals with_reducible rfl
                    try simp only [Act.put, List.setIfInBounds_toArray, List.set_cons_zero, List.set_cons_succ]
                    refine wpAnyH_ready (rs := [23]) (by kernel_rfl) (by simp) ?_
                    refine AllReadyH.cons rfl (fun K hK => ?_) AllReadyH.nil
                    go_simp
                    refine hK.out _ _ ?_ (fun hHeld => ?_)
                    · go_simp
                    clear hK K
                    try simp only [Act.put, List.setIfInBounds_toArray, List.set_cons_zero, List.set_cons_succ]
                    refine wpAnyH_done (by kernel_rfl) ?_ _
                    go_wp2_with fail
                    go_meet
                    exact ⟨rfl, _, _, _, by simp only [aC, ab_fSub], rfl⟩
                case rest =>
                  obtain ⟨rfl, x2, y2, d2, h2, rfl⟩ := hcut
                  have H2 := Lib.hid h2
                  clear h2 hcA2 hcO2 hfO2 f1 f2 f3 f4 f5
                  go_wp2_with fail
                  refine (root_any m n _ HN.out hle).mono ?_
                  rintro e w' ⟨z1, z2, dz, rfl, hz, rfl⟩
                  have HZ := Lib.hid hz
                  clear hz
                  go_wp2_with fail
                  refine (product_any _ _ _ _ _).mono ?_
                  rintro e w' ⟨p1, p2, dp, rfl, hpp, rfl⟩
                  have HPP := Lib.hid hpp
                  clear hpp
                  go_wp2
                  go_roundw
                  case rel =>
                    have hW1 := HW1.out
                    subst hW1
                    refine ⟨p1, p2, q' + 1, rfl, ?_, by go_num, turnl_step hlt (by have := HE.out; omega) HOL.out HLO.out HHI.out HBL.out (x1 := x1) (y1 := y1) (x2 := x2) (y2 := y2) ?_ ?_ rfl rfl rfl rfl⟩
                    · rw [HPP.out, EW.out, HZ.out]; exact rfl
                    · show _ = cadd _ (cmul (twist back (cpw (croot m) q')) _)
                      rw [EA.out, EB.out, ← EW.out, ← HXY.out, ← HP.out]; exact H1.out
                    · show _ = csub _ (cmul (twist back (cpw (croot m) q')) _)
                      rw [EA.out, EB.out, ← EW.out, ← HXY.out, ← HP.out]; exact H2.out
                  case measure => simp [intOf]; omega
          · go_wp2
            go_ret
            obtain rfl : q' = n / 2 := by omega
            obtain ⟨Y, rfl, hY⟩ := turnl_end (by rw [hLlen.out]; have := HE.out; omega) HLO.out HHI.out
            have hlen : (dft (m + 1) back (Z.map aC)).length = n := by rw [dft_length _ _ _ (by rw [List.length_map, HL.out]; exact HN.out)]; exact HN.out.symm
            refine ⟨_, Y, rfl, ?_, ?_, ?_⟩
            · rw [hlen]
              exact own_base HOL.out (by omega)
            · rw [hY, evz_map Z _ (by rw [HL.out, HM.out]; omega), odz_map Z _ (by rw [HL.out, HM.out]; omega), ← HM.out]; rfl
            · exact ((HEO.out.bel.trans (HBA.out.mono (by omega))).trans (HBB.out.mono (by omega))).trans (HBL.out.mono (by omega))
end Go.Proofs.YtijdmnimiipinaaDoor
