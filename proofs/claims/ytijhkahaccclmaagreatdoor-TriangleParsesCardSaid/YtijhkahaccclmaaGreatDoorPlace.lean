/-
  The walks of plain.Place and of at: an error's number and place. Condition: the package variable errors.errorType holds the handle of error.
-/
import Derived.Test.YtijhkahaccclmaaGreatDoorAtErr
import Derived.Test.YtijhkahaccclmaaGreatDoorLib
set_option linter.unusedSimpArgs false
set_option linter.unusedVariables false
set_option linter.unnecessarySimpa false
namespace Go.Proofs.YtijhkahaccclmaaGreatDoor
open Go Go.RowKit Go.Extern.Stop Go.Stop Go.Extern

/-- What errors.As wants of the world. -/
def ErrOk (w : World) : Prop := w.cell? ⟨1, 0, none⟩ = some (.iface 120 (.agg #[.pointer (some ⟨10, 25, none⟩)]))
theorem ErrOk.below {w w' : World} (h : ErrOk w) (hb : Below w.heap.size w w') : ErrOk w' := cell_below h hb

theorem Tryz.noUnwrap28 (v : Value) (x : TypeId) (w : World) : (Instr.typeAssert (.iface 28 v) x 77 true).run Tryz.prog w = .ok (.tuple #[.nilIface, .bool false]) w := run_typeAssert_lacksB Tryz.underlying77 (by kernel_rfl) (by kernel_rfl) _ _ _

theorem Tryz.isAt28 (v : Value) (w : World) : (Instr.typeAssert (.iface 28 v) 25 47 true).run Tryz.prog w = .ok (.tuple #[.pointer none, .bool false]) w := by kernel_rfl
theorem Tryz.isAt47 (v : Value) (w : World) : (Instr.typeAssert (.iface 47 v) 25 47 true).run Tryz.prog w = .ok (.tuple #[v, .bool true]) w := by kernel_rfl

set_option maxRecDepth 100000 in
set_option maxHeartbeats 4000000 in
theorem Place_nil (w : World) : Calls Tryz.prog 19 #[.nilIface] w fun e w' => e = .returned (.tuple #[.int .i64 0, .int .i64 (-1)]) ∧ Below w.heap.size w w' := by
  go_enter Tryz.func19, Tryz.ntmps19
  go_wp2_with fail
  refine (Tell_nil w).mono ?_
  rintro e w' ⟨rfl, rfl⟩
  go_wp2
  refine wp_loop_rounds 1 ?_
  rw [rounds_succ]
  go_wp2
  go_ret2
  exact ⟨rfl, Below.refl _ _⟩

set_option maxRecDepth 100000 in
set_option maxHeartbeats 4000000 in
theorem Place_err (k : Int) (w : World) (hg : ErrOk w) : Calls Tryz.prog 19 #[.iface 28 (.int .i64 k)] w fun e w' => e = .returned (.tuple #[.int .i64 k, .int .i64 (-1)]) ∧ Below w.heap.size w w' := by
  have nU := Tryz.noUnwrap28
  have nI := Tryz.isAt28
  have HG := Lib.hid hg
  clear hg
  go_enter Tryz.func19, Tryz.ntmps19
  go_wp2_with fail
  refine (Tell_err k w HG.out).mono ?_
  rintro e w' ⟨rfl, hb⟩
  have HB := Lib.hid hb
  clear hb
  go_wp2
  refine wp_loop_rounds 1 ?_
  rw [rounds_succ]
  go_wp2
  go_ret2
  exact ⟨rfl, HB.out⟩

set_option maxRecDepth 100000 in
set_option maxHeartbeats 4000000 in
theorem Place_at (k p : Int) (B : Nat) (w : World) (hg : ErrOk w) (h0 : w.cell? ⟨B, 0, none⟩ = some (.int .i64 k)) (h1 : w.cell? ⟨B, 1, none⟩ = some (.int .i64 p)) :
    Calls Tryz.prog 19 #[.iface 47 (.pointer (some ⟨B, 0, none⟩))] w fun e w' => e = .returned (.tuple #[.int .i64 k, .int .i64 p]) ∧ Below w.heap.size w w' := by
  have HT := Lib.hid (Tell_at k B w hg h0)
  have H1 := Lib.hid h1
  have iA := Tryz.isAt47
  clear hg h0 h1
  go_enter Tryz.func19, Tryz.ntmps19
  go_wp2_with fail
  refine HT.out.mono ?_
  rintro e w' ⟨rfl, hb⟩
  have HB := Lib.hid hb
  have c1 : w'.cell? ⟨B, 1, none⟩ = some (.int .i64 p) := cell_below H1.out hb
  clear hb
  go_wp2
  refine wp_loop_rounds 1 ?_
  rw [rounds_succ]
  go_wp2
  go_quiet (fail)
  go_wp2
  go_ret2
  exact ⟨rfl, HB.out.os, HB.out.tape, HB.out.output, HB.out.size, HB.out.block⟩

set_option maxRecDepth 100000 in
set_option maxHeartbeats 4000000 in
theorem at_same (v : Value) (a b : Int) (w : World) (hP : ∀ w', Below w.heap.size w w' → Calls Tryz.prog 19 #[v] w' fun e w'' => e = .returned (.tuple #[.int .i64 a, .int .i64 b]) ∧ Below w'.heap.size w' w'') :
    Calls Tryz.prog 6 #[v, .agg #[.int .i64 a, .int .i64 b]] w fun e w' => e = .returned (.bool true) ∧ Below w.heap.size w w' := by
  have HP := Lib.hid hP
  clear hP
  have hb0 : Below w.heap.size w (w.alloc (.cells #[.int .i64 a, .int .i64 b] 30)) := (Below.refl _ _).alloc (Nat.le_refl _) _
  have d0 := cell0_two w (.int .i64 a) (.int .i64 b) 30
  have d1 := cell1_two w (.int .i64 a) (.int .i64 b) 30
  have HB0 := Lib.hid hb0
  have HC := Lib.hid (HP.out _ hb0)
  clear hb0
  go_enter Tryz.func6, Tryz.ntmps6
  go_wp2_with fail
  refine HC.out.mono ?_
  rintro e w' ⟨rfl, hb⟩
  have c0 : w'.cell? ⟨w.heap.size, 0, none⟩ = some (.int .i64 a) := cell_below d0 hb
  have c1 : w'.cell? ⟨w.heap.size, 1, none⟩ = some (.int .i64 b) := cell_below d1 hb
  have HB := Lib.hid (HB0.out.trans (hb.mono (by simp)))
  clear hb
  go_wp2
  go_ret
  exact ⟨rfl, HB.out⟩
end Go.Proofs.YtijhkahaccclmaaGreatDoor
