/-
  The walks of the functions on single complex numbers: each answers a number whose reading is the plain function of the arguments' readings; nothing but the tape's count turns. No conditions.
-/
import Derived.Test.YtijdmnimiipinaaDoorProg
import Derived.Test.YtijdmnimiipinaaDoorFloat
import Derived.Outline
import Derived.WalkSpells
import Derived.WalkLawsBesides
import Derived.Lib.Hide
namespace Go.Proofs.YtijdmnimiipinaaDoor
open Go Go.RowKit

/-- A complex number's reading. -/
def aC (p : Nat × Nat) : Option Nat × Option Nat := (ab p.1, ab p.2)
def cv (p : Nat × Nat) : Value := .complex .f64 p.1 p.2

def cmul (p q : Option Nat × Option Nat) : Option Nat × Option Nat := (aSub (aMul p.1 q.1) (aMul p.2 q.2), aAdd (aMul p.1 q.2) (aMul p.2 q.1))
def chalf (z : Option Nat × Option Nat) : Option Nat × Option Nat :=
  (aSqrt (aDiv (aAdd (ab 4607182418800017408) z.1) (ab 4611686018427387904)),
   aDiv z.2 (aMul (ab 4611686018427387904) (aSqrt (aDiv (aAdd (ab 4607182418800017408) z.1) (ab 4611686018427387904)))))

/-- The call ends with a complex number of the reading c; only the tape's count has turned. -/
def CIs (c : Option Nat × Option Nat) (w : World) (e : Ending) (w' : World) : Prop := ∃ a b n : Nat, e = .returned (.complex .f64 a b) ∧ aC (a, b) = c ∧ w' = w.drewN n

theorem times_any (a b c d : Nat) (w : World) : Calls Tryd.prog 9 #[.complex .f64 a b, .complex .f64 c d] w (CIs (cmul (aC (a, b)) (aC (c, d))) w) := by
  go_enter Tryd.func9, Tryd.ntmps9
  go_wp2
  go_ret
  exact ⟨_, _, _, rfl, by simp only [aC, cmul, ab_fSub, ab_fMul, ab_fAdd], rfl⟩

theorem product_any (a b c d : Nat) (w : World) : Calls Tryd.prog 11 #[.complex .f64 a b, .complex .f64 c d] w (CIs (cmul (aC (a, b)) (aC (c, d))) w) := by
  go_enter Tryd.func11, Tryd.ntmps11
  go_wp2
  go_ret
  exact ⟨_, _, _, rfl, by simp only [aC, cmul, ab_fSub, ab_fMul, ab_fAdd], rfl⟩

theorem sqrt_walk (x : Nat) (w : World) : Calls Tryd.prog 27 #[.float .f64 x] w fun e w' => e = .returned (.float .f64 (fSqrt x w)) ∧ w.drewN (nSqrt x) = w' := by
  have h28 := @run_callFunc_extern Tryd.prog 28 _ Extern.MathSqrt.sqrt Tryd.func28 (by kernel_rfl) (by kernel_rfl) (by kernel_rfl) (by kernel_rfl)
  have hs := fun w => run_sqrt_any (P := Tryd.prog) w x
  go_enter Tryd.func27, Tryd.ntmps27
  go_wp2
  go_ret
  exact ⟨rfl, rfl⟩

theorem half_any (a b : Nat) (w : World) : Calls Tryd.prog 26 #[.complex .f64 a b] w (CIs (chalf (aC (a, b))) w) := by
  go_enter Tryd.func26, Tryd.ntmps26
  go_wp2_with (go_at_call 27; refine (sqrt_walk _ _).mono ?_; rintro e w' ⟨rfl, rfl⟩)
  go_ret
  exact ⟨_, _, _, rfl, by simp only [aC, chalf, ab_fMul, ab_fAdd, ab_fDiv, ab_fSqrt], rfl⟩
end Go.Proofs.YtijdmnimiipinaaDoor
