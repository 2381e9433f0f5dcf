/-
  The walk of the iterator that splitSeq hands back, and the law of a loop that ranges over it. Conditions: as each theorem says.
-/
import Derived.Test.YtijhkahaccclmaaGreatDoorHeld
import Derived.RangeFuncNested
import Derived.RangeFuncBound
import Derived.RangeFuncCalls
import Derived.RangeFuncLeaves
import Derived.Shelf.Abstract
import Derived.Shelf.RegionOpen
import Derived.WalkKit
import Derived.OwnWalkIn
import Derived.TacticsInMore
import Derived.LoopNIn
import Derived.LoopIn
set_option linter.unusedSimpArgs false
set_option linter.unusedVariables false
set_option linter.unnecessarySimpa false
namespace Go.Proofs.YtijhkahaccclmaaGreatDoor
open Go Go.RowKit Go.Shelf

attribute [local go_sem] Oper.semAt_some

/-- What the loop's rounds keep for the iterator: its three variables' boxes. -/
def Keeps3 (c : Nat) (W W' : World) : Prop := ∀ k, c ≤ k → k < c + 3 → W'.heap[k]? = W.heap[k]?
/-- The three boxes of an iterator over the pieces of s at d. -/
def Boxes3 (W : World) (c : Nat) (s : List UInt8) (d : UInt8) : Prop := Boxed W c 9 (strV s) ∧ Boxed W (c + 1) 9 (strV [d]) ∧ Boxed W (c + 2) 3 (.int .i64 0)

theorem index_none {d : UInt8} {s : List UInt8} (h : Lib.indexByte s d = -1) : cuts d s = [s] := by
  refine cuts_none fun hm => ?_
  obtain ⟨k, hk, e⟩ := List.mem_iff_getElem.1 hm
  exact Lib.indexByte_none h k (by rw [List.getElem?_eq_getElem hk, e])
theorem index_some {d : UInt8} {s : List UInt8} {o : Nat} (h : Lib.indexByte s d = (o : Int)) : o < s.length ∧ cuts d s = s.take o :: cuts d (s.drop (o + 1)) := by
  obtain ⟨h1, h2⟩ := Lib.indexByte_some h
  have ho : o < s.length := by
    rcases Nat.lt_or_ge o s.length with h' | h'
    · exact h'
    · rw [List.getElem?_eq_none h'] at h1; cases h1
  refine ⟨ho, ?_⟩
  have e : s = s.take o ++ d :: s.drop (o + 1) := by
    rw [List.getElem?_eq_getElem ho] at h1
    have h3 := Option.some.inj h1
    conv => lhs; rw [← List.take_append_drop o s]
    rw [List.drop_eq_getElem_cons ho, h3]
  conv => lhs; rw [e]
  refine cuts_app fun hm => ?_
  obtain ⟨k, hk, e2⟩ := List.mem_iff_getElem.1 hm
  rw [List.length_take] at hk
  refine h2 k (by omega) ?_
  rw [List.getElem_take] at e2
  rw [List.getElem?_eq_getElem (by omega), e2]

def leftOf (c : Nat) (W : World) : Nat := match W.cell? ⟨c, 0, none⟩ with | some (.string b) => b.size | _ => 0

/-- What strings.Index answers at a byte. -/
def IndexOk : Prop := ∀ (s : List UInt8) (d : UInt8) (w : World), s.length ≤ 100000 → Calls Tryz.prog 39 #[.string ⟨s.toArray⟩, .string ⟨#[d]⟩] w fun e w' => e = .returned (.int .i64 (Lib.indexByte s d)) ∧ w = w'

set_option maxRecDepth 100000 in
set_option maxHeartbeats 4000000 in
theorem split_iter (hix : IndexOk) (n : Nat) (l c : Nat) (d : UInt8) (s : List UInt8) (hs : s.length ≤ 100000) (J Jx : List (List UInt8) → World → Prop) (hJ : ∀ pre W u, J pre W → J pre (W.setCell ⟨c, 0, none⟩ u))
    (hY : ∀ pre x W, J pre W → pre ++ [x] <+: cuts d s → YieldAt Fence.wide (n - 1) Tryz.prog l #[.string ⟨x.toArray⟩] W fun e W' =>
      (e = .returned (.bool true) ∧ J (pre ++ [x]) W' ∧ Keeps3 c W W') ∨ (e = .returned (.bool false) ∧ Jx (pre ++ [x]) W'))
    (W : World) (hB : Boxes3 W c s d) (h0 : J [] W) :
    CallsIn Fence.wide n Tryz.prog 37 #[.func (.yield l) #[] #[], .pointer (some ⟨c + 1, 0, none⟩), .pointer (some ⟨c, 0, none⟩), .pointer (some ⟨c + 2, 0, none⟩)] W fun e W' => (∃ v, e = .returned v) ∧
      (J (cuts d s) W' ∨ ∃ pre, pre <+: cuts d s ∧ Jx pre W') := by
  have HJ := Lib.hid hJ
  have HY := Lib.hid hY
  have HIX := Lib.hid hix
  have HB := Lib.hid hB
  have H0 := Lib.hid h0
  have cD : W.cell? ⟨c + 1, 0, none⟩ = some (.string ⟨#[d]⟩) := hB.2.1.cell
  clear hJ hY hix hB h0
  refine callsIn_of_wp Tryz.func37 rfl trivial ?_ rfl
  simp only [Tryz.ntmps37, List.size_toArray, List.length_cons, List.length_nil, Nat.reduceAdd, Nat.reduceSub, Array.replicate_succ, Array.replicate_zero, List.push_toArray, List.append_toArray, List.nil_append, List.cons_append]
  gi_wp2
  gi_loopw [7] (fun _ wr => ∃ pre rest, cuts d s = pre ++ cuts d rest ∧ rest.length ≤ s.length ∧ Boxes3 wr c rest d ∧ J pre wr) (fun _ wr => leftOf c wr)
  case atStart => exact ⟨[], s, rfl, Nat.le_refl _, HB.out, H0.out⟩
  case round =>
    obtain ⟨pre, rest, hcut, hrl, hbx, hj⟩ := hrel
    have HCUT := Lib.hid hcut
    have HBX := Lib.hid hbx
    have HJ0 := Lib.hid hj
    have cS : wr.cell? ⟨c, 0, none⟩ = some (.string ⟨rest.toArray⟩) := hbx.1.cell
    have fS : wr.frozen? ⟨c, 0, none⟩ = false := hbx.1.frozen
    have cE : wr.cell? ⟨c + 1, 0, none⟩ = some (.string ⟨#[d]⟩) := hbx.2.1.cell
    have cK : wr.cell? ⟨c + 2, 0, none⟩ = some (.int .i64 0) := hbx.2.2.cell
    have HC := Lib.hid ((callsIn_wide (n := n - 1)).2 (HIX.out rest d wr (by omega)))
    have hge := Lib.indexByte_ge rest d
    obtain ⟨o, ho⟩ : ∃ o, Lib.indexByte rest d = o := ⟨_, rfl⟩
    rw [ho] at HC hge
    clear hcut hbx hj
    by_cases hn : o = -1
    · subst hn
      have hc1 := index_none ho
      obtain ⟨fn, tmps, assign, body, hy, hR⟩ := HY.out pre rest wr HJ0.out (by rw [HCUT.out, hc1]; exact List.prefix_refl _)
      have HR := Lib.hid hR
      have HE : Hid (cuts d s = pre ++ [rest]) := by
        show cuts d s = _
        rw [HCUT.out, hc1]
      clear ho hc1 hR
      gi_wp2_with (refine ⟨trivial, fun h => (by cases h), ?_⟩; gi_at_call 39; refine HC.out.mono ?_; rintro e w' ⟨rfl, rfl⟩)
      refine ⟨fun h => (by cases h), HR.out.mono ?_⟩
      rintro e W' (⟨rfl, hJ', _⟩ | ⟨rfl, hJx⟩)
      · have HJ1 := Lib.hid hJ'
        clear hJ'
        gi_wp2
        go_end0
        exact ⟨⟨_, rfl⟩, .inl (by rw [HE.out]; exact HJ1.out)⟩
      · have HJ1 := Lib.hid hJx
        clear hJx
        gi_wp2
        go_end0
        exact ⟨⟨_, rfl⟩, .inr ⟨_, by rw [HE.out]; exact List.prefix_refl _, HJ1.out⟩⟩
    · obtain ⟨k, rfl⟩ : ∃ k : Nat, o = k := ⟨o.toNat, by omega⟩
      obtain ⟨hk, hc1⟩ := index_some ho
      obtain ⟨fn, tmps, assign, body, hy, hR⟩ := HY.out pre (rest.take k) wr HJ0.out (by rw [HCUT.out, hc1]; exact ⟨cuts d (rest.drop (k + 1)), by simp⟩)
      have HR := Lib.hid hR
      have HE : Hid (cuts d s = pre ++ rest.take k :: cuts d (rest.drop (k + 1))) := by
        show cuts d s = _
        rw [HCUT.out, hc1]
      clear ho hc1 hR
      have hex : (⟨rest.toArray⟩ : ByteArray).extract 0 k = ⟨(rest.take k).toArray⟩ := by rw [Lib.extract_mk]; simp
      have hk0 : (0 : Int) ≤ (k : Int) := Int.natCast_nonneg _
      have hk1 : (k : Int) ≤ (rest.length : Int) := by omega
      have hkn : ¬ (k : Int) < 0 := by omega
      gi_wp2_with (refine ⟨trivial, fun h => (by cases h), ?_⟩; gi_at_call 39; refine HC.out.mono ?_; rintro e w' ⟨rfl, rfl⟩)
      refine ⟨fun h => (by cases h), HR.out.mono ?_⟩
      rintro e W' (⟨rfl, hJ', hk3⟩ | ⟨rfl, hJx⟩)
      · have HJ1 := Lib.hid hJ'
        have bS : Boxed W' c 9 (strV rest) := (hk3 c (Nat.le_refl _) (by omega)).trans HBX.out.1
        have bE : Boxed W' (c + 1) 9 (strV [d]) := (hk3 (c + 1) (by omega) (by omega)).trans HBX.out.2.1
        have bK : Boxed W' (c + 2) 3 (.int .i64 0) := (hk3 (c + 2) (by omega) (by omega)).trans HBX.out.2.2
        have cS1 : W'.cell? ⟨c, 0, none⟩ = some (.string ⟨rest.toArray⟩) := bS.cell
        have fS1 : W'.frozen? ⟨c, 0, none⟩ = false := bS.frozen
        have cE1 : W'.cell? ⟨c + 1, 0, none⟩ = some (.string ⟨#[d]⟩) := bE.cell
        have cK1 : W'.cell? ⟨c + 2, 0, none⟩ = some (.int .i64 0) := bK.cell
        have HBN : Hid (Boxes3 (W'.setCell ⟨c, 0, none⟩ (strV (rest.drop (k + 1)))) c (rest.drop (k + 1)) d) := ⟨bS.set _, bE.other (by omega) _, bK.other (by omega) _⟩
        have hex2 : (⟨rest.toArray⟩ : ByteArray).extract (k + 1) rest.length = ⟨(rest.drop (k + 1)).toArray⟩ := by
          rw [Lib.extract_mk, List.take_of_length_le (by rw [List.length_drop]; exact Nat.le_refl _)]
        have hk5 : (k : Int) + 1 ≤ (rest.length : Int) := by omega
        have hk6 : (0 : Int) ≤ (k : Int) + 1 := by omega
        clear hJ' hk3 bS bE bK hex
        gi_wp2
        go_roundw
        case rel =>
          refine ⟨pre ++ [rest.take k], rest.drop (k + 1), by rw [HE.out]; simp, by rw [List.length_drop]; omega, ?_, ?_⟩
          · exact HBN.out
          · exact HJ.out _ _ _ HJ1.out
        case measure =>
          have e1 : (W'.setCell ⟨c, 0, none⟩ (.string ⟨(rest.drop (k + 1)).toArray⟩)).cell? ⟨c, 0, none⟩ = some (.string ⟨(rest.drop (k + 1)).toArray⟩) := HBN.out.1.cell
          simp only [leftOf, e1, cS, Lib.size_mk, List.length_drop]
          omega
      · have HJ1 := Lib.hid hJx
        clear hJx
        gi_wp2
        refine bodyPost_ret (results_none rfl _ _ _) rfl ?_
        exact ⟨⟨_, rfl⟩, .inr ⟨_, by rw [HE.out]; exact ⟨cuts d (rest.drop (k + 1)), by simp⟩, HJ1.out⟩⟩

/-! ### The loop over such an iterator -/
/-- How a round is left: the loop's record and block D lie as they lay. -/
def RoundQ (D L c : Nat) (I Ix : List (List UInt8) → World → Prop) (xs : List (List UInt8)) (W : World) : Exit → Act → World → Prop
  | .normal, _, W' => W'.heap[L]? = W.heap[L]? ∧ W'.heap[D]? = W.heap[D]? ∧ Keeps3 c W W' ∧ I xs W'
  | .ret, _, W' => W'.heap[L]? = W.heap[L]? ∧ W'.heap[D]? = W.heap[D]? ∧ Ix xs W'
  | _, _, _ => False

theorem split_rounds (hix : IndexOk) (n D L c : Nat) (d : UInt8) (s : List UInt8) (hs : s.length ≤ 100000) (hcL : c + 3 ≤ L) (hcD : c + 3 ≤ D ∨ D < c) (hDL : D ≠ L) (od : Option Obj)
    (fn : FuncId) (tmps : Array Value) (ps : Array Tmp) (assign body : Code) (df : Nat) (hps : ps.size = 1)
    (I Ix : List (List UInt8) → World → Prop) (hIc : ∀ pre W u, I pre W → I pre (W.setCell ⟨c, 0, none⟩ u))
    (hIL : ∀ pre W o o', I pre W → W.heap[L]? = some (.loop o) → I pre (W.putObj L (.loop o')))
    (hXL : ∀ pre W o o', Ix pre W → W.heap[L]? = some (.loop o) → Ix pre (W.putObj L (.loop o')))
    (a₁ : List UInt8 → Act)
    (hassign : ∀ x W (K : Act → World → Prop), K (a₁ x) W → assign.wpIn (Fence.wide.inRound L) (n - 1) Tryz.prog (Exit.then K (fun _ _ _ => False)) { tmps := (ps.zip #[.string ⟨x.toArray⟩]).foldl (fun t (p, v) => t.setIfInBounds p v) tmps, defers := [] } W)
    (hbody : ∀ pre x W, I pre W → pre ++ [x] <+: cuts d s → (∃ o, W.heap[L]? = some (.loop o)) → W.heap[D]? = od → body.wpIn (Fence.wide.inRound L) (n - 1) Tryz.prog (RoundQ D L c I Ix (pre ++ [x]) W) (a₁ x) W)
    (W : World) (hB : Boxes3 W c s d) (h0 : I [] W) (hl : W.heap[L]? = some (.loop { state := .ready, pending := none, fn, tmps, params := ps, assign, body, defers := df })) (hd : W.heap[D]? = od) :
    CallsIn Fence.wide n Tryz.prog 37 #[.func (.yield L) #[] #[], .pointer (some ⟨c + 1, 0, none⟩), .pointer (some ⟨c, 0, none⟩), .pointer (some ⟨c + 2, 0, none⟩)] W fun e W' => (∃ v, e = .returned v) ∧
      ((I (cuts d s) W' ∧ W'.heap[L]? = some (.loop { state := .ready, pending := none, fn, tmps, params := ps, assign, body, defers := df }) ∧ W'.heap[D]? = od) ∨
       ∃ pre, pre <+: cuts d s ∧ Ix pre W' ∧ W'.heap[L]? = some (.loop { state := .done, pending := some .ret, fn, tmps, params := ps, assign, body, defers := df }) ∧ W'.heap[D]? = od) := by
  refine split_iter hix n L c d s hs (fun pre W => I pre W ∧ W.heap[L]? = some (.loop { state := .ready, pending := none, fn, tmps, params := ps, assign, body, defers := df }) ∧ W.heap[D]? = od)
    (fun pre W => Ix pre W ∧ W.heap[L]? = some (.loop { state := .done, pending := some .ret, fn, tmps, params := ps, assign, body, defers := df }) ∧ W.heap[D]? = od) ?_ ?_ W hB ⟨h0, hl, hd⟩
  · rintro pre W u ⟨h1, h2, h3⟩
    exact ⟨hIc _ _ _ h1, (Below.heap_setCell _ _ _ _ (by show L ≠ c; omega)).trans h2, (Below.heap_setCell _ _ _ _ (by show D ≠ c; omega)).trans h3⟩
  · rintro pre x W ⟨hi, hl, hd⟩ hpre
    have hlt := (Array.getElem?_eq_some_iff.1 hl).1
    refine ⟨fn, _, assign, body, run_yield (P := Tryz.prog) (args := #[.string ⟨x.toArray⟩]) hl hps.symm, roundIn_of_wpIn trivial (hassign x W _ ⟨_, run_beginRound hl rfl, ?_⟩)⟩
    have hl2 := World.putObj_heap_same (w := W) (r := L) (o := .loop { state := .busy, pending := none, fn, tmps, params := ps, assign, body, defers := df }) hlt
    have hd2 : (W.putObj L (.loop { state := .busy, pending := none, fn, tmps, params := ps, assign, body, defers := df })).heap[D]? = od := (World.putObj_heap_other hDL).trans hd
    refine wpIn_mono (hbody pre x _ (hIL _ _ _ _ hi hl) hpre ⟨_, hl2⟩ hd2) ?_
    rintro e a3 W3 hp
    have fin : ∀ (jump : Option Code), W3.heap[L]? = some (.loop { state := .busy, pending := none, fn, tmps, params := ps, assign, body, defers := df }) →
        (Instr.endRound L jump).run Tryz.prog W3 = .ok (.bool jump.isNone) (W3.putObj L (.loop { state := if jump.isNone then .ready else .done, pending := jump, fn, tmps, params := ps, assign, body, defers := df })) ∧
        (W3.putObj L (.loop { state := if jump.isNone then .ready else .done, pending := jump, fn, tmps, params := ps, assign, body, defers := df })).heap[L]? = some (.loop { state := if jump.isNone then .ready else .done, pending := jump, fn, tmps, params := ps, assign, body, defers := df }) := fun jump h3 =>
      ⟨run_endRound (P := Tryz.prog) jump h3, World.putObj_heap_same (Array.getElem?_eq_some_iff.1 h3).1⟩
    cases e with
    | normal =>
      obtain ⟨k1, k2, k3, k4⟩ := hp
      obtain ⟨f1, f2⟩ := fin none (k1.trans hl2)
      refine ⟨_, _, f1, .inl ⟨rfl, ⟨hIL _ _ _ _ k4 (k1.trans hl2), f2, (World.putObj_heap_other hDL).trans (k2.trans hd2)⟩, fun k h1 h2 => ?_⟩⟩
      exact (World.putObj_heap_other (by omega)).trans ((k3 k h1 h2).trans (World.putObj_heap_other (by omega)))
    | ret =>
      obtain ⟨k1, k2, k4⟩ := hp
      obtain ⟨f1, f2⟩ := fin (some .ret) (k1.trans hl2)
      exact ⟨_, _, f1, .inr ⟨rfl, hXL _ _ _ _ k4 (k1.trans hl2), f2, (World.putObj_heap_other hDL).trans (k2.trans hd2)⟩⟩
    | exit id => exact hp.elim
    | goto t => exact hp.elim
    | panic ch => exact hp.elim
    | outgrown => exact hp.elim

/-- The loop that stands in no other. -/
theorem split_outer (hix : IndexOk) (n c : Nat) (d : UInt8) (s : List UInt8) (hs : s.length ≤ 100000) {g : Operand} {ps : Array Tmp} {assign body : Code} {Q : Exit → Act → World → Prop} {a : Act} {w : World}
    (hg : a.eval g = .func (.func 37) #[] #[.pointer (some ⟨c + 1, 0, none⟩), .pointer (some ⟨c, 0, none⟩), .pointer (some ⟨c + 2, 0, none⟩)]) (hc : c + 3 ≤ w.heap.size) (hB : Boxes3 w c s d) (hps : ps.size = 1)
    (I Ix : List (List UInt8) → World → Prop) (hIc : ∀ pre W u, I pre W → I pre (W.setCell ⟨c, 0, none⟩ u))
    (hIL : ∀ pre W o', I pre W → I pre (W.putObj (w.heap.size + 1) (.loop o')))
    (hXL : ∀ pre W o', Ix pre W → Ix pre (W.putObj (w.heap.size + 1) (.loop o')))
    (h0 : ∀ o o', I [] ((w.alloc o).alloc o'))
    (a₁ : List UInt8 → Act)
    (hassign : ∀ l x W (K : Act → World → Prop), K (a₁ x) W → assign.wpIn (Fence.wide.inRound l) (n - 1 - 1) Tryz.prog (Exit.then K (fun _ _ _ => False)) { tmps := (ps.zip #[.string ⟨x.toArray⟩]).foldl (fun t (p, v) => t.setIfInBounds p v) a.tmps, defers := [] } W)
    (hbody : ∀ pre x W, I pre W → pre ++ [x] <+: cuts d s → (∃ o, W.heap[w.heap.size + 1]? = some (.loop o)) → W.heap[w.heap.size]? = some (.deferred (some [])) → body.wpIn (Fence.wide.inRound (w.heap.size + 1)) (n - 1 - 1) Tryz.prog (RoundQ w.heap.size (w.heap.size + 1) c I Ix (pre ++ [x]) W) (a₁ x) W)
    (hdone : ∀ W, I (cuts d s) W → W.heap[w.heap.size]? = some (.deferred (some [])) → Q .normal { a with defers := { target := .collected w.heap.size, args := #[] } :: a.defers } W)
    (hstop : ∀ pre W, pre <+: cuts d s → Ix pre W → W.heap[w.heap.size]? = some (.deferred (some [])) → Code.ret.wpIn Fence.wide n Tryz.prog Q { a with defers := { target := .collected w.heap.size, args := #[] } :: a.defers } W) :
    (Code.rangeFunc g ps assign body).wpIn Fence.wide n Tryz.prog Q a w := by
  refine wpIn_rangeFunc fun fn _ => ?_
  obtain ⟨W1, hW1⟩ : ∃ W1, (w.alloc (.deferred (some []))).alloc (.loop { state := .ready, pending := none, fn, tmps := a.tmps, params := ps, assign, body, defers := w.heap.size }) = W1 := ⟨_, rfl⟩
  have hD1 : W1.heap[w.heap.size]? = some (.deferred (some [])) := by rw [← hW1]; exact (Below.heap_alloc _ _ _ (by simp)).trans (World.alloc_heap_new w _)
  have hL1 : W1.heap[w.heap.size + 1]? = some (.loop { state := .ready, pending := none, fn, tmps := a.tmps, params := ps, assign, body, defers := w.heap.size }) := by
    rw [← hW1]; have := World.alloc_heap_new (w.alloc (.deferred (some []))) (.loop { state := .ready, pending := none, fn, tmps := a.tmps, params := ps, assign, body, defers := w.heap.size }); rwa [World.size_alloc] at this
  have hI1 : I [] W1 := by rw [← hW1]; exact h0 _ _
  have hB1 : Boxes3 W1 c s d := by rw [← hW1]; exact ⟨(hB.1.alloc _).alloc _, (hB.2.1.alloc _).alloc _, (hB.2.2.alloc _).alloc _⟩
  refine ⟨w.heap.size + 1, [{ target := .collected w.heap.size, args := #[] }], W1, { target := .fn (.func 37) #[.pointer (some ⟨c + 1, 0, none⟩), .pointer (some ⟨c, 0, none⟩), .pointer (some ⟨c + 2, 0, none⟩)], args := #[.func (.yield (w.heap.size + 1)) #[] #[]] }, W1, 37,
    #[.func (.yield (w.heap.size + 1)) #[] #[], .pointer (some ⟨c + 1, 0, none⟩), .pointer (some ⟨c, 0, none⟩), .pointer (some ⟨c + 2, 0, none⟩)], W1, ?_, ?_, fun _ _ => trivial, ?_, fun h => (by cases h), ?_⟩
  · rw [← hW1]; exact run_enterLoop_outer _ _ _ _ _
  · simp only [resolve, hg]
    simp [go_sem]
  · have eg : ∀ args w, (callFunc 37 args).run Tryz.prog w = .ok (.enter 37 args) w := enters_of Tryz.func37 (by kernel_rfl) rfl
    simp [invoke, go_sem, eg]
  · refine (split_rounds hix (n - 1) w.heap.size (w.heap.size + 1) c d s hs (by omega) (.inl hc) (by omega) (some (.deferred (some []))) fn a.tmps ps assign body w.heap.size hps I Ix hIc
      (fun pre W o o' h _ => hIL pre W o' h) (fun pre W o o' h _ => hXL pre W o' h) a₁ (fun x W K hK => hassign _ x W K hK) (fun pre x W h1 h2 h3 h4 => hbody pre x W h1 h2 h3 h4) W1 hB1 hI1 hL1 hD1).mono ?_
    rintro e W2 ⟨⟨v, rfl⟩, (⟨hi, hl, hd⟩ | ⟨pre, hp, hi, hl, hd⟩)⟩
    · exact ⟨none, _, run_endLoop (P := Tryz.prog) hl (by simp), hdone _ (hIL _ _ _ hi) ((World.putObj_heap_other (by omega)).trans hd)⟩
    · exact ⟨some .ret, _, run_endLoop (P := Tryz.prog) hl (by simp), hstop pre _ hp (hXL _ _ _ hi) ((World.putObj_heap_other (by omega)).trans hd)⟩

/-- The loop in a round of another. -/
theorem split_inner (hix : IndexOk) (n c l₀ : Nat) (r₀ : Loop) (d : UInt8) (s : List UInt8) (hs : s.length ≤ 100000) {g : Operand} {ps : Array Tmp} {assign body : Code} {Q : Exit → Act → World → Prop} {a : Act} {w : World} (hl₀ : w.heap[l₀]? = some (.loop r₀)) (hl₀c : l₀ < c)
    (hg : a.eval g = .func (.func 37) #[] #[.pointer (some ⟨c + 1, 0, none⟩), .pointer (some ⟨c, 0, none⟩), .pointer (some ⟨c + 2, 0, none⟩)]) (hc : c + 3 ≤ w.heap.size) (hB : Boxes3 w c s d) (hps : ps.size = 1)
    (I Ix : List (List UInt8) → World → Prop) (hIc : ∀ pre W u, I pre W → I pre (W.setCell ⟨c, 0, none⟩ u))
    (hIL : ∀ pre W o', I pre W → I pre (W.putObj w.heap.size (.loop o')))
    (hXL : ∀ pre W o', Ix pre W → Ix pre (W.putObj w.heap.size (.loop o')))
    (h0 : ∀ o, I [] (w.alloc o))
    (a₁ : List UInt8 → Act)
    (hassign : ∀ l x W (K : Act → World → Prop), K (a₁ x) W → assign.wpIn (Fence.wide.inRound l) (n - 1 - 1) Tryz.prog (Exit.then K (fun _ _ _ => False)) { tmps := (ps.zip #[.string ⟨x.toArray⟩]).foldl (fun t (p, v) => t.setIfInBounds p v) a.tmps, defers := [] } W)
    (hbody : ∀ pre x W, I pre W → pre ++ [x] <+: cuts d s → (∃ o, W.heap[w.heap.size]? = some (.loop o)) → body.wpIn (Fence.wide.inRound w.heap.size) (n - 1 - 1) Tryz.prog (RoundQ l₀ w.heap.size c I Ix (pre ++ [x]) W) (a₁ x) W)
    (hdone : ∀ W, I (cuts d s) W → W.heap[l₀]? = some (.loop r₀) → Q .normal a W)
    (hstop : ∀ pre W, pre <+: cuts d s → Ix pre W → W.heap[l₀]? = some (.loop r₀) → Code.ret.wpIn (Fence.wide.inRound l₀) n Tryz.prog Q a W) :
    (Code.rangeFunc g ps assign body).wpIn (Fence.wide.inRound l₀) n Tryz.prog Q a w := by
  refine wpIn_rangeFunc fun fn _ => ?_
  obtain ⟨W1, hW1⟩ : ∃ W1, w.alloc (.loop { state := .ready, pending := none, fn, tmps := a.tmps, params := ps, assign, body, defers := r₀.defers }) = W1 := ⟨_, rfl⟩
  have hlt := (Array.getElem?_eq_some_iff.1 hl₀).1
  have hD1 : W1.heap[l₀]? = some (.loop r₀) := by rw [← hW1]; exact (Below.heap_alloc _ _ _ hlt).trans hl₀
  have hL1 : W1.heap[w.heap.size]? = some (.loop { state := .ready, pending := none, fn, tmps := a.tmps, params := ps, assign, body, defers := r₀.defers }) := by
    rw [← hW1]; exact World.alloc_heap_new w _
  have hI1 : I [] W1 := by rw [← hW1]; exact h0 _
  have hB1 : Boxes3 W1 c s d := by rw [← hW1]; exact ⟨hB.1.alloc _, hB.2.1.alloc _, hB.2.2.alloc _⟩
  refine ⟨w.heap.size, [], W1, { target := .fn (.func 37) #[.pointer (some ⟨c + 1, 0, none⟩), .pointer (some ⟨c, 0, none⟩), .pointer (some ⟨c + 2, 0, none⟩)], args := #[.func (.yield w.heap.size) #[] #[]] }, W1, 37,
    #[.func (.yield w.heap.size) #[] #[], .pointer (some ⟨c + 1, 0, none⟩), .pointer (some ⟨c, 0, none⟩), .pointer (some ⟨c + 2, 0, none⟩)], W1, ?_, ?_, fun _ _ => trivial, ?_, fun h => (by cases h), ?_⟩
  · rw [← hW1]; exact run_enterLoop_inner hl₀ _ _ _ _ _
  · simp only [resolve, hg]
    simp [go_sem]
  · have eg : ∀ args w, (callFunc 37 args).run Tryz.prog w = .ok (.enter 37 args) w := enters_of Tryz.func37 (by kernel_rfl) rfl
    simp [invoke, go_sem, eg]
  · refine CallsIn.inRound l₀ ((split_rounds hix (n - 1) l₀ w.heap.size c d s hs hc (.inr hl₀c) (by omega) (some (.loop r₀)) fn a.tmps ps assign body r₀.defers hps I Ix hIc
      (fun pre W o o' h _ => hIL pre W o' h) (fun pre W o o' h _ => hXL pre W o' h) a₁ (fun x W K hK => hassign _ x W K hK) (fun pre x W h1 h2 h3 _ => hbody pre x W h1 h2 h3) W1 hB1 hI1 hL1 hD1).mono ?_)
    rintro e W2 ⟨⟨v, rfl⟩, (⟨hi, hl, hd⟩ | ⟨pre, hp, hi, hl, hd⟩)⟩
    · exact ⟨none, _, run_endLoop (P := Tryz.prog) hl (by simp), hdone _ (hIL _ _ _ hi) ((World.putObj_heap_other (by omega)).trans hd)⟩
    · exact ⟨some .ret, _, run_endLoop (P := Tryz.prog) hl (by simp), hstop pre _ hp (hXL _ _ _ hi) ((World.putObj_heap_other (by omega)).trans hd)⟩
end Go.Proofs.YtijhkahaccclmaaGreatDoor
