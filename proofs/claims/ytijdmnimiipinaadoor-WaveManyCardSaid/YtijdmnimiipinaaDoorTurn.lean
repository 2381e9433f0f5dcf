/-
  The walk of the program's inner turn: of 2 ^ m numbers it answers a new slice whose readings are the plain transform of the arguments' readings. Condition: 2 ^ m is at most 256.
-/
import Derived.Test.YtijdmnimiipinaaDoorRoots
import Derived.Deep.AppendLies
import Derived.Deep.RegionLaw
import Derived.BigRegion
namespace Go.Proofs.YtijdmnimiipinaaDoor
open Go Go.RowKit

/-! ### the plain transform -/
def cadd (p q : Option Nat × Option Nat) : Option Nat × Option Nat := (aAdd p.1 q.1, aAdd p.2 q.2)
def csub (p q : Option Nat × Option Nat) : Option Nat × Option Nat := (aSub p.1 q.1, aSub p.2 q.2)
def twist (back : Bool) (r : Option Nat × Option Nat) : Option Nat × Option Nat := if back then r else (r.1, aNeg r.2)
def evs (l : List (Option Nat × Option Nat)) (h : Nat) : List (Option Nat × Option Nat) := (List.range h).map fun i => l.getD (2 * i) czero
def ods (l : List (Option Nat × Option Nat)) (h : Nat) : List (Option Nat × Option Nat) := (List.range h).map fun i => l.getD (2 * i + 1) czero
def tk (m : Nat) (back : Bool) (b : List (Option Nat × Option Nat)) (k : Nat) : Option Nat × Option Nat := cmul (twist back (cpw (croot m) k)) (b.getD k czero)
def dft : Nat → Bool → List (Option Nat × Option Nat) → List (Option Nat × Option Nat)
  | 0, _, l => l
  | m + 1, back, l =>
    (List.range (2 ^ m)).map (fun k => cadd ((dft m back (evs l (2 ^ m))).getD k czero) (tk m back (dft m back (ods l (2 ^ m))) k)) ++
    (List.range (2 ^ m)).map (fun k => csub ((dft m back (evs l (2 ^ m))).getD k czero) (tk m back (dft m back (ods l (2 ^ m))) k))

theorem evs_length (l : List (Option Nat × Option Nat)) (h : Nat) : (evs l h).length = h := by simp [evs]
theorem ods_length (l : List (Option Nat × Option Nat)) (h : Nat) : (ods l h).length = h := by simp [ods]
theorem dft_length (m : Nat) (back : Bool) : ∀ l : List (Option Nat × Option Nat), l.length = 2 ^ m → (dft m back l).length = 2 ^ m := by
  cases m with
  | zero => intro l h; exact h
  | succ m => intro l _; simp [dft, two_pow_succ']; omega

/-! ### the parts with even and with odd numbers, gathered -/
def evz (Z : List (Nat × Nat)) (h : Nat) : List (Nat × Nat) := (List.range h).map fun i => Z.getD (2 * i) (0, 0)
def odz (Z : List (Nat × Nat)) (h : Nat) : List (Nat × Nat) := (List.range h).map fun i => Z.getD (2 * i + 1) (0, 0)
theorem evz_succ (Z : List (Nat × Nat)) (h : Nat) : evz Z (h + 1) = evz Z h ++ [Z.getD (2 * h) (0, 0)] := by simp [evz, List.range_succ]
theorem odz_succ (Z : List (Nat × Nat)) (h : Nat) : odz Z (h + 1) = odz Z h ++ [Z.getD (2 * h + 1) (0, 0)] := by simp [odz, List.range_succ]
theorem evz_map (Z : List (Nat × Nat)) (h : Nat) (hl : 2 * h ≤ Z.length) : (evz Z h).map aC = evs (Z.map aC) h := by
  simp only [evz, evs, List.map_map]
  refine List.map_congr_left fun i hi => ?_
  have hi' := List.mem_range.1 hi
  exact (map_getD aC Z (by omega) (0, 0) czero).symm
theorem odz_map (Z : List (Nat × Nat)) (h : Nat) (hl : 2 * h ≤ Z.length) : (odz Z h).map aC = ods (Z.map aC) h := by
  simp only [odz, ods, List.map_map]
  refine List.map_congr_left fun i hi => ?_
  have hi' := List.mem_range.1 hi
  exact (map_getD aC Z (by omega) (0, 0) czero).symm

/-- What holds at the head of the loop that parts the numbers. -/
structure EO (Z : List (Nat × Nat)) (w0 : World) (k : Nat) (v6 v7 : Value) (wr : World) : Prop where
  ev : wr.ownsRow w0.heap.size 35 1 v6 ((k + 1) / 2) ((evz Z ((k + 1) / 2)).map cv)
  od : wr.ownsRow w0.heap.size 35 1 v7 (k / 2) ((odz Z (k / 2)).map cv)
  ap : ∀ g, v6.ownBlock = some g → v7.ownBlock ≠ some g
  bel : Below w0.heap.size w0 wr

theorem eo_start (Z : List (Nat × Nat)) (w : World) : EO Z w 0 (.slice none 0 0) (.slice none 0 0) w :=
  ⟨World.ownsRow_nil _ _ _ _, World.ownsRow_nil _ _ _ _, (fun g h => by cases h), Below.refl _ _⟩

theorem eo_even {Z : List (Nat × Nat)} {w0 wr w1 : World} {k : Nat} {v6 v7 : Value} {o : Obj} {g cap : Nat} (h : EO Z w0 k v6 v7 wr) (hk : k % 2 = 0)
    (hown : w1.ownsRow w0.heap.size 35 1 (.slice (some ⟨g, 0, none⟩) ((k + 1) / 2 + 1) cap) ((k + 1) / 2 + 1) ((evz Z ((k + 1) / 2)).map cv ++ [cv (Z.getD k (0, 0))]))
    (hgr : (wr.alloc o).grownBy w1 v6.ownBlock) (hat : v6.ownBlock = some g ∨ g = wr.heap.size + 1) :
    EO Z w0 (k + 1) (.slice (some ⟨g, 0, none⟩) ((k + 1) / 2 + 1) cap) v7 w1 := by
  have e1 : (k + 1 + 1) / 2 = (k + 1) / 2 + 1 := by omega
  have e2 : (k + 1) / 2 = k / 2 := by omega
  have e3 : 2 * ((k + 1) / 2) = k := by omega
  have hod := (h.od.alloc o)
  refine ⟨?_, ?_, ?_, ?_⟩
  · rw [e1, evz_succ, ← map_snoc, e3]; exact hown
  · rw [e2]
    refine hod.kept hgr ?_
    cases hb : v7.ownBlock with
    | none => exact .inl rfl
    | some b =>
      refine .inr fun e => ?_
      exact h.ap b e.symm hb
  · intro b hb
    simp only [Value.ownBlock, Option.some.injEq] at hb
    intro h7
    rcases hat with hat | hat
    · exact h.ap g hat (by rw [h7, hb])
    · have := (h.od.lt b h7).2
      omega
  · exact (h.bel.alloc h.bel.size o).grown hgr (by have := h.bel.size; simp; omega) (fun b hb => (h.ev.lt b hb).1)

theorem eo_odd {Z : List (Nat × Nat)} {w0 wr w1 : World} {k : Nat} {v6 v7 : Value} {o : Obj} {g cap : Nat} (h : EO Z w0 k v6 v7 wr) (hk : k % 2 = 1)
    (hown : w1.ownsRow w0.heap.size 35 1 (.slice (some ⟨g, 0, none⟩) (k / 2 + 1) cap) (k / 2 + 1) ((odz Z (k / 2)).map cv ++ [cv (Z.getD k (0, 0))]))
    (hgr : (wr.alloc o).grownBy w1 v7.ownBlock) (hat : v7.ownBlock = some g ∨ g = wr.heap.size + 1) :
    EO Z w0 (k + 1) v6 (.slice (some ⟨g, 0, none⟩) (k / 2 + 1) cap) w1 := by
  have e1 : (k + 1) / 2 = k / 2 + 1 := by omega
  have e2 : (k + 1 + 1) / 2 = (k + 1) / 2 := by omega
  have e3 : 2 * (k / 2) + 1 = k := by omega
  refine ⟨?_, ?_, ?_, ?_⟩
  · rw [e2]
    refine (h.ev.alloc o).kept hgr ?_
    cases hb : v6.ownBlock with
    | none => exact .inl rfl
    | some b =>
      refine .inr fun e => ?_
      exact h.ap b hb e.symm
  · rw [e1, odz_succ, ← map_snoc, e3]; exact hown
  · intro b hb h7
    simp only [Value.ownBlock, Option.some.injEq] at h7
    rcases hat with hat | hat
    · exact h.ap b hb (by rw [hat, h7])
    · have := (h.ev.lt b hb).2
      omega
  · exact (h.bel.alloc h.bel.size o).grown hgr (by have := h.bel.size; simp; omega) (fun b hb => (h.od.lt b hb).1)

/-- What a call keeps of old memory is still owned. -/
theorem own_below {w w' : World} {B e size : Nat} {v : Value} {n : Nat} {xs : List Value} (h : w.ownsRow B e size v n xs) (hb : Below w.heap.size w w') : w'.ownsRow B e size v n xs := by
  refine ⟨h.1, ?_⟩
  rcases h.2 with h2 | ⟨g, cap, cur, rfl, hg, hh, r⟩
  · exact .inl h2
  · exact .inr ⟨g, cap, cur, rfl, hg, by rw [hb.block g (Array.getElem?_eq_some_iff.1 hh).1]; exact hh, r⟩
theorem own_base {w : World} {B B' e size : Nat} {v : Value} {n : Nat} {xs : List Value} (h : w.ownsRow B e size v n xs) (hB : B' ≤ B) : w.ownsRow B' e size v n xs := by
  refine ⟨h.1, ?_⟩
  rcases h.2 with h2 | ⟨g, cap, cur, rfl, hg, r⟩
  · exact .inl h2
  · exact .inr ⟨g, cap, cur, rfl, Nat.le_trans hB hg, r⟩

def TurnA (Z : List (Nat × Nat)) (w : World) (n : Nat) (v6 v7 i : Value) (wr : World) : Prop := ∃ k : Nat, k ≤ n ∧ i = .int .i64 k ∧ EO Z w k v6 v7 wr

/-- What holds at the head of the loop that puts the halves together. -/
def TurnL (lo hi : Nat → Option Nat × Option Nat) (W : World) (H n h : Nat) (i : Value) (wr : World) : Prop :=
  ∃ (k : Nat) (L : List Value), k ≤ h ∧ i = .int .i64 k ∧ wr.ownsRow H 35 1 (.slice (some ⟨H, 0, none⟩) n n) n L ∧ (∀ j, j < k → ∃ a b, L[j]? = some (.complex .f64 a b) ∧ aC (a, b) = lo j) ∧
    (∀ j, j < k → ∃ a b, L[h + j]? = some (.complex .f64 a b) ∧ aC (a, b) = hi j) ∧ Below H W wr

theorem own_heap {w w' : World} {B e size : Nat} {v : Value} {n : Nat} {xs : List Value} (h : w.ownsRow B e size v n xs) (hh : w'.heap = w.heap) : w'.ownsRow B e size v n xs := by
  unfold World.ownsRow at h ⊢
  rw [hh]; exact h

theorem turnl_step {lo hi : Nat → Option Nat × Option Nat} {W wr w' : World} {n h q : Nat} {L : List Value} {x1 y1 x2 y2 : Nat} (hq : q < h) (hn : h + h ≤ n)
    (hown : wr.ownsRow W.heap.size 35 1 (.slice (some ⟨W.heap.size, 0, none⟩) n n) n L) (hlo : ∀ j, j < q → ∃ a b, L[j]? = some (.complex .f64 a b) ∧ aC (a, b) = lo j)
    (hhi : ∀ j, j < q → ∃ a b, L[h + j]? = some (.complex .f64 a b) ∧ aC (a, b) = hi j) (hbel : Below W.heap.size W wr) (e1 : aC (x1, y1) = lo q) (e2 : aC (x2, y2) = hi q)
    (hheap : w'.heap = ((wr.setCell ⟨W.heap.size, q, none⟩ (.complex .f64 x1 y1)).setCell ⟨W.heap.size, q + h, none⟩ (.complex .f64 x2 y2)).heap)
    (hos : w'.os = wr.os) (htape : w'.tape = wr.tape) (hout : w'.output = wr.output) : TurnL lo hi W W.heap.size n h (.int .i64 ((q : Int) + 1)) w' := by
  have hlen : L.length = n := by have := hown.1; omega
  refine ⟨q + 1, (L.set q (.complex .f64 x1 y1)).set (q + h) (.complex .f64 x2 y2), hq, by go_num, own_heap (((hown.stored q _).1.stored (q + h) _).1) hheap, fun j hj => ?_, fun j hj => ?_, ?_⟩
  · rw [List.getElem?_set, if_neg (by omega), List.getElem?_set]
    by_cases hjq : q = j
    · subst hjq
      rw [if_pos rfl, if_pos (by omega)]
      exact ⟨x1, y1, rfl, e1⟩
    · rw [if_neg hjq]
      exact hlo j (by omega)
  · rw [List.getElem?_set]
    by_cases hjq : q = j
    · subst hjq
      rw [if_pos (by omega), if_pos (by rw [List.length_set]; omega)]
      exact ⟨x2, y2, rfl, e2⟩
    · rw [if_neg (by omega), List.getElem?_set, if_neg (by omega)]
      exact hhi j (by omega)
  · have hb := (hbel.setCell (p := ⟨W.heap.size, q, none⟩) (Nat.le_refl _) (.complex .f64 x1 y1)).setCell (p := ⟨W.heap.size, q + h, none⟩) (Nat.le_refl _) (.complex .f64 x2 y2)
    exact ⟨hos.trans hbel.os, htape.trans hbel.tape, hout.trans hbel.output, by rw [hheap]; exact hb.size, fun k hk => by rw [hheap]; exact hb.block k hk⟩

/-- The two halves, put together: the new slice's readings. -/
theorem turnl_end {lo hi : Nat → Option Nat × Option Nat} {h : Nat} {L : List Value} (hn : L.length = h + h) (hlo : ∀ j, j < h → ∃ a b, L[j]? = some (.complex .f64 a b) ∧ aC (a, b) = lo j)
    (hhi : ∀ j, j < h → ∃ a b, L[h + j]? = some (.complex .f64 a b) ∧ aC (a, b) = hi j) : ∃ Y : List (Nat × Nat), L = Y.map cv ∧ Y.map aC = (List.range h).map lo ++ (List.range h).map hi := by
  have hall : ∀ j, j < h + h → ∃ a b, L[j]? = some (.complex .f64 a b) ∧ aC (a, b) = if j < h then lo j else hi (j - h) := by
    intro j hj
    by_cases hjh : j < h
    · rw [if_pos hjh]; exact hlo j hjh
    · rw [if_neg hjh]
      have := hhi (j - h) (by omega)
      rw [show h + (j - h) = j from by omega] at this
      exact this
  refine ⟨L.map fun v => match v with | .complex _ a b => (a, b) | _ => (0, 0), ?_, ?_⟩
  · rw [List.map_map]
    refine (List.ext_getElem? fun j => ?_)
    rw [List.getElem?_map]
    rcases Nat.lt_or_ge j (h + h) with hj | hj
    · obtain ⟨a, b, e, _⟩ := hall j hj
      rw [e]; rfl
    · rw [List.getElem?_eq_none (by omega)]; rfl
  · rw [List.map_map]
    refine (List.ext_getElem? fun j => ?_)
    rw [List.getElem?_map]
    rcases Nat.lt_or_ge j (h + h) with hj | hj
    · obtain ⟨a, b, e, e2⟩ := hall j hj
      rw [e]
      by_cases hjh : j < h
      · rw [if_pos hjh] at e2
        rw [List.getElem?_append_left (by simpa using hjh)]
        simp [hjh, e2]
      · rw [if_neg hjh] at e2
        rw [List.getElem?_append_right (by simp; omega)]
        simp [show j - h < h by omega, e2]
    · rw [List.getElem?_eq_none (by omega), List.getElem?_eq_none (by simp; omega)]; rfl

set_option maxHeartbeats 4000000 in
theorem turn_any (m : Nat) : ∀ (B : Nat) (v : Value) (Z : List (Nat × Nat)) (back : Bool) (w : World), 2 ^ m ≤ 256 → w.ownsRow B 35 1 v (2 ^ m) (Z.map cv) →
    Calls Tryd.prog 15 #[v, .bool back] w (CRowIs (dft m back (Z.map aC)) w) := by
  obtain ⟨i0, hi, hz0, hz1, hz2⟩ := info_parts Tryd.info35
  induction m with
  | zero =>
    intro B v Z back w _ hown
    obtain ⟨g, cap, rfl⟩ := own_shape hown (by decide)
    have hl := own_len hown
    have hcell := own_cell hown (show 0 < 2 ^ 0 by decide)
    obtain ⟨⟨x, y⟩, rfl⟩ : ∃ p, Z = [p] := List.length_eq_one_iff.1 hl
    have hc : w.cell? ⟨g, 0, none⟩ = some (.complex .f64 x y) := hcell
    clear hcell hl
    go_enter Tryd.func15, Tryd.ntmps15
    go_wp2
    go_ret
    exact ⟨_, [(x, y)], rfl, World.ownsRow_lit w _ 1 (Nat.le_refl _) (by decide) rfl, rfl, (Below.refl _ _).alloc (Nat.le_refl _) _⟩
  | succ m ih =>
    intro B v Z back w hle hown
    obtain ⟨g, cap, rfl⟩ := own_shape hown (Nat.two_pow_pos _)
    have hl := own_len hown
    obtain ⟨n, hn⟩ : ∃ n, n = 2 ^ (m + 1) := ⟨_, rfl⟩
    rw [← hn] at hown hle hl ⊢
    have hn2 : 2 ≤ n := by
      have : 0 < 2 ^ m := Nat.two_pow_pos _
      rw [hn, two_pow_succ']; omega
    have hm2 : 2 ^ m = n / 2 := by rw [hn, two_pow_succ']; omega
    have hev : n % 2 = 0 := by rw [hn, two_pow_succ']; omega
    have HN := Lib.hid hn
    have HM := Lib.hid hm2
    have HE := Lib.hid hev
    have HI := Lib.hid ih
    have HL := Lib.hid hl
    clear hn hm2 hev ih hl
    have t1 : ((n : Int) == 1) = false := by simp; omega
    have hcells : ∀ j, j < n → w.cell? ⟨g, j, none⟩ = some (cv (Z.getD j (0, 0))) := fun j hj => own_cell hown hj
    have hglt : g < w.heap.size := (hown.lt g rfl).2
    have HC := Lib.hid hcells
    have HG := Lib.hid hglt
    clear hcells hglt
    go_enter Tryd.func15, Tryd.ntmps15
    go_wp2
    go_loopw [6, 7, 27] (TurnA Z w n) (fun _ _ i _ => n - (intOf i).toNat)
    case atStart => exact ⟨0, Nat.zero_le _, rfl, eo_start Z w⟩
    case round =>
      obtain ⟨k, hk, rfl, heo⟩ := hrel
      have hsz := heo.bel.size
      have HEO := Lib.hid heo
      clear heo
      by_cases hlt : k < n
      · obtain ⟨x, y, hxy⟩ : ∃ x y, Z.getD k (0, 0) = (x, y) := ⟨_, _, rfl⟩
        have hcell : wr.cell? ⟨g, k, none⟩ = some (.complex .f64 x y) := by
          rw [HEO.out.bel.cell HG.out, HC.out k hlt, hxy]; rfl
        have HXY := Lib.hid hxy
        clear hxy
        have hbw : k ≤ 256 := by omega
        by_cases hpar : k % 2 = 0
        · have t2 : ((k : Int) % 2 == 0) = true := by simp; omega
          go_wp2_with (at_builtin; refine wpList_append_lies (P := Tryd.prog) _ rfl _ _ 34 rfl w.heap.size 35 i0 (.complex .f64 0 0) 1 16 Tryd.underlying34 hi hz0 hz1 hz2 rfl (by decide) _ _ _ rfl (HEO.out.ev.alloc _) ⟨wr.heap.size, 0, none⟩ 1 1 [.complex .f64 x y] rfl rfl ?c1 ?c2 ?c6 ?c3 ?c4 ?c5 (wr.heap.size + 1) ?c7 ?_)
          case c1 => exact cell_one_new wr _ _
          case c2 => intro u hu; simp at hu; subst hu; rfl
          case c6 => decide
          case c3 => unfold maxLen; omega
          case c4 => omega
          case c5 => simp; omega
          case c7 => simp
          intro g' cap' w1 hown' hgrow hat _
          have R := eo_even HEO.out hpar (by rw [HXY.out]; exact hown') hgrow hat
          clear hown' hgrow hat
          go_wp2
          go_roundw
          case rel => exact ⟨k + 1, by omega, by go_num, R⟩
          case measure => simp [intOf]; omega
        · have t2 : ((k : Int) % 2 == 0) = false := by simp; omega
          go_wp2_with (at_builtin; refine wpList_append_lies (P := Tryd.prog) _ rfl _ _ 34 rfl w.heap.size 35 i0 (.complex .f64 0 0) 1 16 Tryd.underlying34 hi hz0 hz1 hz2 rfl (by decide) _ _ _ rfl (HEO.out.od.alloc _) ⟨wr.heap.size, 0, none⟩ 1 1 [.complex .f64 x y] rfl rfl ?d1 ?d2 ?d6 ?d3 ?d4 ?d5 (wr.heap.size + 1) ?d7 ?_)
          case d1 => exact cell_one_new wr _ _
          case d2 => intro u hu; simp at hu; subst hu; rfl
          case d6 => decide
          case d3 => unfold maxLen; omega
          case d4 => omega
          case d5 => simp; omega
          case d7 => simp
          intro g' cap' w1 hown' hgrow hat _
          have R := eo_odd HEO.out (by omega) (by rw [HXY.out]; exact hown') hgrow hat
          clear hown' hgrow hat
          go_wp2
          go_roundw
          case rel => exact ⟨k + 1, by omega, by go_num, R⟩
          case measure => simp [intOf]; omega
      · obtain rfl : k = n := by omega
        have hev := HEO.out.ev
        have hod := HEO.out.od
        rw [show (k + 1) / 2 = 2 ^ m from by rw [HM.out]; have := HE.out; omega] at hev
        rw [show k / 2 = 2 ^ m from HM.out.symm] at hod
        have HEV := Lib.hid hev
        have HOD := Lib.hid hod
        have HLA : Hid ((dft m back ((evz Z (2 ^ m)).map aC)).length = k / 2) := by
          rw [dft_length _ _ _ (by simp [evz]), HM.out]; exact rfl
        have HLB : Hid ((dft m back ((odz Z (2 ^ m)).map aC)).length = k / 2) := by
          rw [dft_length _ _ _ (by simp [odz]), HM.out]; exact rfl
        clear hev hod
        go_wp2_with fail
        refine (HI.out _ _ _ back _ (by rw [HM.out]; omega) HEV.out).mono ?_
        rintro e w1 ⟨va, Ya, rfl, hoa, hYa, hba⟩
        have hod1 := Lib.hid (own_below HOD.out hba)
        have hs1 := hba.size
        have HYA := Lib.hid hYa
        have HBA := Lib.hid hba
        rw [HLA.out] at hoa
        obtain ⟨ga, capa, rfl⟩ := own_shape hoa (by omega)
        have HOA := Lib.hid hoa
        clear hYa hba hoa
        go_wp2_with fail
        refine (HI.out _ _ _ back _ (by rw [HM.out]; omega) hod1.out).mono ?_
        rintro e w2 ⟨vb, Yb, rfl, hob, hYb, hbb⟩
        have HOA2 := Lib.hid (own_below HOA.out hbb)
        have hs2 := hbb.size
        have HYB := Lib.hid hYb
        have HBB := Lib.hid hbb
        rw [HLB.out] at hob
        obtain ⟨gb, capb, rfl⟩ := own_shape hob (by omega)
        have HOB := Lib.hid hob
        clear hYb hbb hob HOA hod1
        go_wp2_with fail
        refine (turns_any k m _ HN.out hle).mono ?_
        rintro e w3 ⟨vw, Yw, rfl, how, hYw, hbw⟩
        have HOA3 := Lib.hid (own_below HOA2.out hbw)
        have HOB3 := Lib.hid (own_below HOB.out hbw)
        have hs3 := hbw.size
        have HYW := Lib.hid hYw
        have HBW := Lib.hid hbw
        rw [powers_length] at how
        obtain ⟨gw, capw, rfl⟩ := own_shape how (by omega)
        have HOW := Lib.hid how
        clear hYw hbw how HOA2 HOB
        go_wp2_with (at_make; refine wpList_make_full (P := Tryd.prog) _ rfl _ _ 34 rfl w3.heap.size 35 i0 (.complex .f64 0 0) 1 Tryd.underlying34 hi hz0 hz1 _ _ _ _ k rfl rfl rfl rfl ?m1 ?m2 ?m3 ?_)
        case m1 => rw [hz2]; omega
        case m2 => unfold maxLen; omega
        case m3 => exact Nat.le_refl _
        intro w4 hown4 hgrow4
        have HO4 := Lib.hid hown4
        have HG4 := Lib.hid hgrow4
        clear hown4 hgrow4
        go_wp2
        go_loopw [56] (TurnL (fun j => cadd ((dft m back ((evz Z (2 ^ m)).map aC)).getD j czero) (tk m back (dft m back ((odz Z (2 ^ m)).map aC)) j)) (fun j => csub ((dft m back ((evz Z (2 ^ m)).map aC)).getD j czero) (tk m back (dft m back ((odz Z (2 ^ m)).map aC)) j)) w3 w3.heap.size k (k / 2)) (fun i _ => k / 2 - (intOf i).toNat)
        case atStart => exact ⟨0, _, Nat.zero_le _, rfl, HO4.out, fun j hj => absurd hj (Nat.not_lt_zero _), fun j hj => absurd hj (Nat.not_lt_zero _), (Below.refl _ _).grown HG4.out (Nat.le_refl _) (fun k hk => by cases hk)⟩
        case round =>
          obtain ⟨q, L, hq, rfl, hownL, hlo, hhi, hbel⟩ := hrel
          have HOL := Lib.hid hownL
          have HLO := Lib.hid hlo
          have HHI := Lib.hid hhi
          have HBL := Lib.hid hbel
          have hLlen : Hid (L.length = k) := by have := hownL.1; exact (by omega : L.length = k)
          clear hlo hhi hownL hbel
          by_cases hlt : q < k / 2
          · obtain ⟨a1, a2, hxa⟩ : ∃ a b, Ya.getD q (0, 0) = (a, b) := ⟨_, _, rfl⟩
            obtain ⟨b1, b2, hxb⟩ : ∃ a b, Yb.getD q (0, 0) = (a, b) := ⟨_, _, rfl⟩
            obtain ⟨r1, r2, hxw⟩ : ∃ a b, Yw.getD q (0, 0) = (a, b) := ⟨_, _, rfl⟩
            obtain ⟨o1, ho1⟩ : ∃ o1, L[q]? = some o1 := ⟨_, List.getElem?_eq_getElem (by rw [hLlen.out]; omega)⟩
            obtain ⟨o2, ho2⟩ : ∃ o2, L[q + k / 2]? = some o2 := ⟨_, List.getElem?_eq_getElem (by rw [hLlen.out]; omega)⟩
            have hca : wr.cell? ⟨ga, q, none⟩ = some (.complex .f64 a1 a2) := by
              rw [HBL.out.cell (HOA3.out.lt ga rfl).2, own_cell HOA3.out hlt, hxa]; rfl
            have hcb : wr.cell? ⟨gb, q, none⟩ = some (.complex .f64 b1 b2) := by
              rw [HBL.out.cell (HOB3.out.lt gb rfl).2, own_cell HOB3.out hlt, hxb]; rfl
            have hcw : wr.cell? ⟨gw, q, none⟩ = some (.complex .f64 r1 r2) := by
              rw [HBL.out.cell (HOW.out.lt gw rfl).2, own_cell HOW.out hlt, hxw]; rfl
            have hc1 : wr.cell? ⟨w3.heap.size, q, none⟩ = some o1 := by rw [HOL.out.cellAt q (by omega)]; exact ho1
            have hc2 : wr.cell? ⟨w3.heap.size, q + k / 2, none⟩ = some o2 := by rw [HOL.out.cellAt (q + k / 2) (by omega)]; exact ho2
            have hf1 : wr.frozen? ⟨w3.heap.size, q, none⟩ = false := HOL.out.frozenAt q
            have hf2 : wr.frozen? ⟨w3.heap.size, q + k / 2, none⟩ = false := HOL.out.frozenAt (q + k / 2)
            have HXA := Lib.hid hxa
            have HXB := Lib.hid hxb
            have HXW := Lib.hid hxw
            have EA : Hid ((dft m back ((evz Z (2 ^ m)).map aC)).getD q czero = aC (a1, a2)) := by
              have e := map_getD aC Ya (by rw [own_len HOA3.out]; exact hlt) (0, 0) czero
              rw [HYA.out, HXA.out] at e; exact e
            have EB : Hid ((dft m back ((odz Z (2 ^ m)).map aC)).getD q czero = aC (b1, b2)) := by
              have e := map_getD aC Yb (by rw [own_len HOB3.out]; exact hlt) (0, 0) czero
              rw [HYB.out, HXB.out] at e; exact e
            have EW : Hid (cpw (croot m) q = aC (r1, r2)) := by
              have e := map_getD aC Yw (by rw [own_len HOW.out]; exact hlt) (0, 0) czero
              rw [HYW.out, powers_get _ hlt, HXW.out] at e; exact e
            clear hxa hxb hxw ho1 ho2
            have hqk : q < k := by omega
            have hqk2 : q + k / 2 < k := by omega
            cases back with
            | true =>
              go_wp2_with (go_at_call 9; refine (times_any _ _ _ _ _).mono ?_; rintro e w' ⟨c, c', d', rfl, hp, rfl⟩)
              go_region
              all_goals go_wp2
              all_goals
                go_roundw
                case rel =>
                  refine turnl_step hlt (by have := HE.out; omega) HOL.out HLO.out HHI.out HBL.out ?_ ?_ rfl rfl rfl rfl
                  · show (ab _, ab _) = cadd _ (cmul (twist true (cpw (croot m) q)) _)
                    rw [EA.out, EB.out, EW.out]
                    show _ = cadd _ (cmul (aC (r1, r2)) (aC (b1, b2)))
                    rw [← hp]; simp only [ab_fAdd]; rfl
                  · show (ab _, ab _) = csub _ (cmul (twist true (cpw (croot m) q)) _)
                    rw [EA.out, EB.out, EW.out]
                    show _ = csub _ (cmul (aC (r1, r2)) (aC (b1, b2)))
                    rw [← hp]; simp only [ab_fSub]; rfl
                case measure => simp [intOf]; omega
            | false =>
              go_wp2_with (go_at_call 9; refine (times_any _ _ _ _ _).mono ?_; rintro e w' ⟨c, c', d', rfl, hp, rfl⟩)
              go_region
              all_goals go_wp2
              all_goals
                go_roundw
                case rel =>
                  refine turnl_step hlt (by have := HE.out; omega) HOL.out HLO.out HHI.out HBL.out ?_ ?_ rfl rfl rfl rfl
                  · show (ab _, ab _) = cadd _ (cmul (twist false (cpw (croot m) q)) _)
                    rw [EA.out, EB.out, EW.out]
                    show _ = cadd _ (cmul (ab r1, aNeg (ab r2)) (aC (b1, b2)))
                    rw [← ab_neg]
                    show _ = cadd _ (cmul (aC (r1, Op.negFloat .f64 r2)) (aC (b1, b2)))
                    rw [← hp]; simp only [ab_fAdd]; rfl
                  · show (ab _, ab _) = csub _ (cmul (twist false (cpw (croot m) q)) _)
                    rw [EA.out, EB.out, EW.out]
                    show _ = csub _ (cmul (ab r1, aNeg (ab r2)) (aC (b1, b2)))
                    rw [← ab_neg]
                    show _ = csub _ (cmul (aC (r1, Op.negFloat .f64 r2)) (aC (b1, b2)))
                    rw [← hp]; simp only [ab_fSub]; rfl
                case measure => simp [intOf]; omega
          · go_wp2
            go_ret
            obtain rfl : q = k / 2 := by omega
            obtain ⟨Y, rfl, hY⟩ := turnl_end (by rw [hLlen.out]; have := HE.out; omega) HLO.out HHI.out
            have hlen : (dft (m + 1) back (Z.map aC)).length = k := by rw [dft_length _ _ _ (by rw [List.length_map, HL.out]; exact HN.out)]; exact HN.out.symm
            refine ⟨_, Y, rfl, ?_, ?_, ?_⟩
            · rw [hlen]
              exact own_base HOL.out (by omega)
            · rw [hY, evz_map Z _ (by rw [HL.out, HM.out]; omega), odz_map Z _ (by rw [HL.out, HM.out]; omega), ← HM.out]; rfl
            · exact (((HEO.out.bel.trans (HBA.out.mono (by omega))).trans (HBB.out.mono (by omega))).trans (HBW.out.mono (by omega))).trans (HBL.out.mono (by omega))
end Go.Proofs.YtijdmnimiipinaaDoor
