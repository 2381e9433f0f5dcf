/-
  Floats by what they are up to the bits of a NaN: each operation on float64 words, at every word, answers a word whose reading ('none' for a NaN, else the bits) is a function of the operands' readings; plus the laws by which the walk runs these operations. No conditions.
-/
import Derived.WalkKit
import Derived.WalkSmall
import Derived.Deep.Draws
import Derived.Laws.Cover3
import Derived.Laws.ComplexArith
import Derived.KernelRfl
namespace Go.Proofs.YtijdmnimiipinaaDoor
open Go

/-- Is the word a NaN? -/
def isN (b : Nat) : Bool := (FloatKind.f64.decode b).isNaN
/-- The word's reading: nothing for a NaN. -/
def ab (b : Nat) : Option Nat := if isN b then none else some b

/-- What the tape answers where the operation is not valid. -/
def nanOf (w : World) (x y : Nat) : Nat := Question.cut (.nanBits .f64 x y) (w.tape w.drawn (.nanBits .f64 x y))
def pickF (o : Option Nat) (x y : Nat) (w : World) : Nat := match o with
  | some r => r
  | none => nanOf w x y
def cntF (o : Option Nat) : Nat := match o with
  | some _ => 0
  | none => 1

def dAdd (x y : Nat) : Option Nat := FloatKind.f64.format.add x y
def dSub (x y : Nat) : Option Nat := FloatKind.f64.format.sub x y
def dMul (x y : Nat) : Option Nat := FloatKind.f64.format.mul x y
def dDiv (x y : Nat) : Option Nat := FloatKind.f64.format.div x y
def dSqrt (x : Nat) : Option Nat := FloatKind.f64.format.sqrt x

def fAdd (x y : Nat) (w : World) : Nat := pickF (dAdd x y) x y w
def fSub (x y : Nat) (w : World) : Nat := pickF (dSub x y) x y w
def fMul (x y : Nat) (w : World) : Nat := pickF (dMul x y) x y w
def fDiv (x y : Nat) (w : World) : Nat := pickF (dDiv x y) x y w
def fSqrt (x : Nat) (w : World) : Nat := pickF (dSqrt x) x x w
def nAdd (x y : Nat) : Nat := cntF (dAdd x y)
def nSub (x y : Nat) : Nat := cntF (dSub x y)
def nMul (x y : Nat) : Nat := cntF (dMul x y)
def nDiv (x y : Nat) : Nat := cntF (dDiv x y)
def nSqrt (x : Nat) : Nat := cntF (dSqrt x)

def aAdd (x y : Option Nat) : Option Nat := x.bind fun x => y.bind fun y => dAdd x y
def aSub (x y : Option Nat) : Option Nat := x.bind fun x => y.bind fun y => dSub x y
def aMul (x y : Option Nat) : Option Nat := x.bind fun x => y.bind fun y => dMul x y
def aDiv (x y : Option Nat) : Option Nat := x.bind fun x => y.bind fun y => dDiv x y
def aSqrt (x : Option Nat) : Option Nat := x.bind dSqrt
def aNeg (x : Option Nat) : Option Nat := x.map (Op.negFloat .f64)

/-! ### plain facts on words -/

theorem read_word (neg : Bool) (r : Nat) (h : r ≤ Ieee.double.infRung) : (Ieee.double.read (Ieee.double.word neg r)).isNaN = false := by
  have hs : Ieee.double.infRung < Ieee.double.signWeight := Ieee.Format.infRung_lt _
  have hm : (Ieee.double.word neg r) % Ieee.double.signWeight = r := by
    unfold Ieee.Format.word
    split
    · rw [Nat.add_mod_left]; exact Nat.mod_eq_of_lt (by omega)
    · exact Nat.mod_eq_of_lt (by omega)
  unfold Ieee.Format.read
  simp only [hm]
  split
  · rfl
  · split
    · rfl
    · split
      · rfl
      · omega

theorem write_ok (d : Ieee.Datum) (h : d.isNaN = false) : isN (Ieee.double.write d) = false := by
  show (Ieee.double.read (Ieee.double.write d)).isNaN = false
  cases d with
  | number neg mag place =>
    show (Ieee.double.read (Ieee.double.nearest neg mag place)).isNaN = false
    unfold Ieee.Format.nearest
    dsimp only
    split
    · exact read_word _ _ (Nat.zero_le _)
    · exact read_word _ _ (Nat.min_le_right _ _)
  | infinity neg => exact read_word _ _ (Nat.le_refl _)
  | nan neg fr => simp [Ieee.Datum.isNaN] at h

theorem map_write_ok {o : Option Ieee.Datum} (ho : ∀ d, o = some d → d.isNaN = false) {r : Nat} (h : o.map Ieee.double.write = some r) : isN r = false := by
  cases o with
  | none => cases h
  | some d => cases h; exact write_ok d (ho d rfl)

theorem isN_cases (b : Nat) : isN b = true → ∃ s t, Ieee.double.read b = .nan s t := by
  intro h
  have h' : (Ieee.double.read b).isNaN = true := h
  cases hd : Ieee.double.read b with
  | nan s t => exact ⟨s, t, rfl⟩
  | number s m p => rw [hd] at h'; cases h'
  | infinity s => rw [hd] at h'; cases h'

theorem sum_ok (x y d : Ieee.Datum) (h : x.sum y = some d) : d.isNaN = false := by
  cases x <;> cases y <;> simp only [Ieee.Datum.sum] at h <;> first | (cases h; done) | skip
  all_goals first
    | (cases h; rfl)
    | (split at h <;> first | (cases h; done) | (cases h; rfl))
theorem product_ok (x y d : Ieee.Datum) (h : x.product y = some d) : d.isNaN = false := by
  cases x <;> cases y <;> simp only [Ieee.Datum.product] at h <;> first | (cases h; done) | skip
  all_goals first
    | (cases h; rfl)
    | (split at h <;> first | (cases h; done) | (cases h; rfl))
theorem quotient_ok (k : Nat) (x y d : Ieee.Datum) (h : Ieee.Datum.quotient k x y = some d) : d.isNaN = false := by
  cases x <;> cases y <;> simp only [Ieee.Datum.quotient] at h <;> first | (cases h; done) | skip
  all_goals first
    | (cases h; rfl)
    | (split at h <;> first | (cases h; done) | (cases h; rfl) | (split at h <;> first | (cases h; done) | (cases h; rfl)))
theorem root_ok (k : Nat) (x d : Ieee.Datum) (h : Ieee.Datum.root k x = some d) : d.isNaN = false := by
  cases x <;> simp only [Ieee.Datum.root] at h <;> first | (cases h; done) | skip
  all_goals first
    | (cases h; rfl)
    | (split at h <;> first | (cases h; done) | (cases h; rfl) | (split at h <;> first | (cases h; done) | (cases h; rfl)))

theorem dAdd_ok {x y r : Nat} (h : dAdd x y = some r) : isN r = false := map_write_ok (fun d hd => sum_ok _ _ d hd) h
theorem dSub_ok {x y r : Nat} (h : dSub x y = some r) : isN r = false := map_write_ok (fun d hd => sum_ok _ _ d hd) h
theorem dMul_ok {x y r : Nat} (h : dMul x y = some r) : isN r = false := map_write_ok (fun d hd => product_ok _ _ d hd) h
theorem dDiv_ok {x y r : Nat} (h : dDiv x y = some r) : isN r = false := map_write_ok (fun d hd => quotient_ok _ _ _ d hd) h
theorem dSqrt_ok {x r : Nat} (h : dSqrt x = some r) : isN r = false := map_write_ok (fun d hd => root_ok _ _ d hd) h

theorem sum_nan_left (s : Bool) (t : Nat) (y : Ieee.Datum) : (Ieee.Datum.nan s t).sum y = none := by cases y <;> rfl
theorem sum_nan_right (s : Bool) (t : Nat) (x : Ieee.Datum) : x.sum (Ieee.Datum.nan s t) = none := by cases x <;> rfl
theorem product_nan_left (s : Bool) (t : Nat) (y : Ieee.Datum) : (Ieee.Datum.nan s t).product y = none := by cases y <;> rfl
theorem product_nan_right (s : Bool) (t : Nat) (x : Ieee.Datum) : x.product (Ieee.Datum.nan s t) = none := by cases x <;> rfl
theorem quotient_nan_left (k : Nat) (s : Bool) (t : Nat) (y : Ieee.Datum) : Ieee.Datum.quotient k (Ieee.Datum.nan s t) y = none := by cases y <;> rfl
theorem quotient_nan_right (k : Nat) (s : Bool) (t : Nat) (x : Ieee.Datum) : Ieee.Datum.quotient k x (Ieee.Datum.nan s t) = none := by cases x <;> rfl

theorem dAdd_left {x : Nat} (y : Nat) (h : isN x = true) : dAdd x y = none := by
  obtain ⟨s, t, e⟩ := isN_cases x h
  show ((Ieee.double.read x).sum (Ieee.double.read y)).map _ = none
  rw [e, sum_nan_left]; rfl
theorem dAdd_right (x : Nat) {y : Nat} (h : isN y = true) : dAdd x y = none := by
  obtain ⟨s, t, e⟩ := isN_cases y h
  show ((Ieee.double.read x).sum (Ieee.double.read y)).map _ = none
  rw [e, sum_nan_right]; rfl
theorem dSub_left {x : Nat} (y : Nat) (h : isN x = true) : dSub x y = none := by
  obtain ⟨s, t, e⟩ := isN_cases x h
  show ((Ieee.double.read x).sum (Ieee.double.read y).opposite).map _ = none
  rw [e, sum_nan_left]; rfl
theorem dSub_right (x : Nat) {y : Nat} (h : isN y = true) : dSub x y = none := by
  obtain ⟨s, t, e⟩ := isN_cases y h
  show ((Ieee.double.read x).sum (Ieee.double.read y).opposite).map _ = none
  rw [e]
  show ((Ieee.double.read x).sum (Ieee.Datum.nan (!s) t)).map _ = none
  rw [sum_nan_right]; rfl
theorem dMul_left {x : Nat} (y : Nat) (h : isN x = true) : dMul x y = none := by
  obtain ⟨s, t, e⟩ := isN_cases x h
  show ((Ieee.double.read x).product (Ieee.double.read y)).map _ = none
  rw [e, product_nan_left]; rfl
theorem dMul_right (x : Nat) {y : Nat} (h : isN y = true) : dMul x y = none := by
  obtain ⟨s, t, e⟩ := isN_cases y h
  show ((Ieee.double.read x).product (Ieee.double.read y)).map _ = none
  rw [e, product_nan_right]; rfl
theorem dDiv_left {x : Nat} (y : Nat) (h : isN x = true) : dDiv x y = none := by
  obtain ⟨s, t, e⟩ := isN_cases x h
  show (Ieee.Datum.quotient (Ieee.double.fractionBits + 2) (Ieee.double.read x) (Ieee.double.read y)).map _ = none
  rw [e, quotient_nan_left]; rfl
theorem dDiv_right (x : Nat) {y : Nat} (h : isN y = true) : dDiv x y = none := by
  obtain ⟨s, t, e⟩ := isN_cases y h
  show (Ieee.Datum.quotient (Ieee.double.fractionBits + 2) (Ieee.double.read x) (Ieee.double.read y)).map _ = none
  rw [e, quotient_nan_right]; rfl
theorem dSqrt_nan {x : Nat} (h : isN x = true) : dSqrt x = none := by
  obtain ⟨s, t, e⟩ := isN_cases x h
  show (Ieee.Datum.root (Ieee.double.fractionBits + 2) (Ieee.double.read x)).map _ = none
  rw [e]; rfl

theorem read_nan (t : Nat) : (Ieee.double.read ((t % 2) * 2 ^ 63 + 0x7ff0000000000000 + 1 + (t / 2) % (2 ^ 52 - 1))).isNaN = true := by
  have hf : (t / 2) % (2 ^ 52 - 1) < 2 ^ 52 - 1 := Nat.mod_lt _ (by decide)
  generalize (t / 2) % (2 ^ 52 - 1) = f at hf
  have hs : Ieee.double.signWeight = 9223372036854775808 := by decide
  have hi : Ieee.double.infRung = 9218868437227405312 := by decide
  have hb : Ieee.double.binade = 4503599627370496 := by decide
  unfold Ieee.Format.read
  simp only [hs, hi, hb]
  have hm : ((t % 2) * 2 ^ 63 + 0x7ff0000000000000 + 1 + f) % 9223372036854775808 = 9218868437227405313 + f := by omega
  rw [hm, if_neg (by omega), if_neg (by omega), if_neg (by omega)]
  rfl
/-- What the tape answers is a NaN. -/
theorem nanOf_isN (w : World) (x y : Nat) : isN (nanOf w x y) = true := by
  unfold nanOf
  generalize w.tape w.drawn (.nanBits .f64 x y) = t
  exact read_nan t

theorem ab_nanOf (w : World) (x y : Nat) : ab (nanOf w x y) = none := by unfold ab; rw [if_pos (nanOf_isN w x y)]
theorem ab_ok {b : Nat} (h : isN b = false) : ab b = some b := by unfold ab; rw [if_neg (by simp [h])]
theorem ab_nan {b : Nat} (h : isN b = true) : ab b = none := by unfold ab; rw [if_pos h]


/-! ### each operation's reading -/
theorem ab_pick {o : Option Nat} {x y : Nat} {w : World} (h : ∀ r, o = some r → isN r = false) : ab (pickF o x y w) = o := by
  cases o with
  | none => exact ab_nanOf w x y
  | some r => exact ab_ok (h r rfl)

theorem ab_bind2 {f : Nat → Nat → Option Nat} (hl : ∀ x y, isN x = true → f x y = none) (hr : ∀ x y, isN y = true → f x y = none) (x y : Nat) :
    f x y = (ab x).bind fun x => (ab y).bind fun y => f x y := by
  cases hx : isN x with
  | true => rw [ab_nan hx, hl x y hx]; rfl
  | false =>
    rw [ab_ok hx]
    cases hy : isN y with
    | true => rw [ab_nan hy, hr x y hy]; rfl
    | false => rw [ab_ok hy]; rfl

theorem ab_fAdd (x y : Nat) (w : World) : ab (fAdd x y w) = aAdd (ab x) (ab y) := (ab_pick fun _ => dAdd_ok).trans (ab_bind2 (fun _ y h => dAdd_left y h) (fun x _ h => dAdd_right x h) x y)
theorem ab_fSub (x y : Nat) (w : World) : ab (fSub x y w) = aSub (ab x) (ab y) := (ab_pick fun _ => dSub_ok).trans (ab_bind2 (fun _ y h => dSub_left y h) (fun x _ h => dSub_right x h) x y)
theorem ab_fMul (x y : Nat) (w : World) : ab (fMul x y w) = aMul (ab x) (ab y) := (ab_pick fun _ => dMul_ok).trans (ab_bind2 (fun _ y h => dMul_left y h) (fun x _ h => dMul_right x h) x y)
theorem ab_fDiv (x y : Nat) (w : World) : ab (fDiv x y w) = aDiv (ab x) (ab y) := (ab_pick fun _ => dDiv_ok).trans (ab_bind2 (fun _ y h => dDiv_left y h) (fun x _ h => dDiv_right x h) x y)
theorem ab_fSqrt (x : Nat) (w : World) : ab (fSqrt x w) = aSqrt (ab x) := by
  refine (ab_pick fun _ => dSqrt_ok).trans ?_
  cases hx : isN x with
  | true => rw [ab_nan hx, dSqrt_nan hx]; rfl
  | false => rw [ab_ok hx]; rfl

theorem isN_neg (x : Nat) : isN (Op.negFloat .f64 x) = isN x := by
  show (Ieee.double.read (x ^^^ 2 ^ 63)).isNaN = (Ieee.double.read x).isNaN
  have hs : Ieee.double.signWeight = 2 ^ 63 := by decide
  have hm : (x ^^^ 2 ^ 63) % 2 ^ 63 = x % 2 ^ 63 := by rw [Nat.xor_mod_two_pow]; simp
  unfold Ieee.Format.read
  simp only [hs, hm]
  split
  · rfl
  · split
    · rfl
    · split <;> rfl
theorem ab_neg (x : Nat) : ab (Op.negFloat .f64 x) = aNeg (ab x) := by
  cases hx : isN x with
  | true => rw [ab_nan hx, ab_nan (by rw [isN_neg]; exact hx)]; rfl
  | false => rw [ab_ok hx, ab_ok (by rw [isN_neg]; exact hx)]; rfl

/-- Two words of one reading: the same, or both NaNs. -/
theorem ab_eq {x y : Nat} (h : ab x = ab y) : x = y ∨ (isN x = true ∧ isN y = true) := by
  cases hx : isN x with
  | true =>
    cases hy : isN y with
    | true => exact .inr ⟨rfl, rfl⟩
    | false => rw [ab_nan hx, ab_ok hy] at h; cases h
  | false =>
    cases hy : isN y with
    | true => rw [ab_ok hx, ab_nan hy] at h; cases h
    | false => rw [ab_ok hx, ab_ok hy] at h; exact .inl (Option.some.inj h)
/-- A NaN is not equal to itself. -/
theorem order_nan {x : Nat} (h : isN x = true) : FloatKind.f64.format.order x x = none := by
  obtain ⟨s, t, e⟩ := isN_cases x h
  show (Ieee.double.read x).order (Ieee.double.read x) = none
  rw [e]; rfl

/-! ### THE WALK's LAWS -/
section
variable {P : Program} (w : World)


theorem run_add (x y : Nat) : (Op.floatArith .add .f64 x y).run P w = .ok (.float .f64 (fAdd x y w)) (w.drewN (nAdd x y)) := by
  unfold fAdd nAdd pickF cntF
  cases h : dAdd x y with
  | none => have h' : FloatKind.f64.format.add x y = none := h; simp [Op.floatArith, h', Result.andThen]; rfl
  | some r => have h' : FloatKind.f64.format.add x y = some r := h; simp [Op.floatArith, h', World.drewN_zero]
theorem run_sub (x y : Nat) : (Op.floatArith .sub .f64 x y).run P w = .ok (.float .f64 (fSub x y w)) (w.drewN (nSub x y)) := by
  unfold fSub nSub pickF cntF
  cases h : dSub x y with
  | none => have h' : FloatKind.f64.format.sub x y = none := h; simp [Op.floatArith, h', Result.andThen]; rfl
  | some r => have h' : FloatKind.f64.format.sub x y = some r := h; simp [Op.floatArith, h', World.drewN_zero]
theorem run_mul (x y : Nat) : (Op.floatArith .mul .f64 x y).run P w = .ok (.float .f64 (fMul x y w)) (w.drewN (nMul x y)) := by
  unfold fMul nMul pickF cntF
  cases h : dMul x y with
  | none => have h' : FloatKind.f64.format.mul x y = none := h; simp [Op.floatArith, h', Result.andThen]; rfl
  | some r => have h' : FloatKind.f64.format.mul x y = some r := h; simp [Op.floatArith, h', World.drewN_zero]
theorem run_div (x y : Nat) : (Op.floatArith .quo .f64 x y).run P w = .ok (.float .f64 (fDiv x y w)) (w.drewN (nDiv x y)) := by
  unfold fDiv nDiv pickF cntF
  cases h : dDiv x y with
  | none => have h' : FloatKind.f64.format.div x y = none := h; simp [Op.floatArith, h', Result.andThen]; rfl
  | some r => have h' : FloatKind.f64.format.div x y = some r := h; simp [Op.floatArith, h', World.drewN_zero]

@[go_sem] theorem run_bin_add (t : TypeId) (x y : Nat) : (binOp .add t (.float .f64 x) (.float .f64 y)).run P w = .ok (.float .f64 (fAdd x y w)) (w.drewN (nAdd x y)) := run_add w x y
@[go_sem] theorem run_bin_sub (t : TypeId) (x y : Nat) : (binOp .sub t (.float .f64 x) (.float .f64 y)).run P w = .ok (.float .f64 (fSub x y w)) (w.drewN (nSub x y)) := run_sub w x y
@[go_sem] theorem run_bin_mul (t : TypeId) (x y : Nat) : (binOp .mul t (.float .f64 x) (.float .f64 y)).run P w = .ok (.float .f64 (fMul x y w)) (w.drewN (nMul x y)) := run_mul w x y
@[go_sem] theorem run_bin_div (t : TypeId) (x y : Nat) : (binOp .quo t (.float .f64 x) (.float .f64 y)).run P w = .ok (.float .f64 (fDiv x y w)) (w.drewN (nDiv x y)) := run_div w x y
@[go_sem] theorem run_neg_float (x : Nat) : (Op.unary .neg (.float .f64 x)).run P w = .ok (.float .f64 (Op.negFloat .f64 x)) w := rfl
@[go_sem] theorem run_bin_cadd (t : TypeId) (a b c d : Nat) : (binOp .add t (.complex .f64 a b) (.complex .f64 c d)).run P w = .ok (.complex .f64 (fAdd a c w) (fAdd b d (w.drewN (nAdd a c)))) (w.drewN (nAdd a c + nAdd b d)) := by
  simp [binOp, Op.complexOp, Op.Complex.arith, run_add, Result.andThen]
@[go_sem] theorem run_bin_csub (t : TypeId) (a b c d : Nat) : (binOp .sub t (.complex .f64 a b) (.complex .f64 c d)).run P w = .ok (.complex .f64 (fSub a c w) (fSub b d (w.drewN (nSub a c)))) (w.drewN (nSub a c + nSub b d)) := by
  simp [binOp, Op.complexOp, Op.Complex.arith, run_sub, Result.andThen]
@[go_sem] theorem run_store_float (a : Addr) (m : Mode) (k : FloatKind) (b : Nat) : (store a (.float k b) m).run P w = stored P w a (.float k b) m := run_store P w a _ m rfl
@[go_sem] theorem run_store_complex (a : Addr) (m : Mode) (k : FloatKind) (b c : Nat) : (store a (.complex k b c) m).run P w = stored P w a (.complex k b c) m := run_store P w a _ m rfl
theorem sqrt_some {x r : Nat} (h : FloatKind.f64.format.sqrt x = some r) : Extern.MathSqrt.sqrt #[.float .f64 x] = pure (.float .f64 r) := by
  show (match FloatKind.f64.format.sqrt x with
    | some r => pure (.float .f64 r)
    | none => do pure (.float .f64 (← choose (.nanBits .f64 x x))) : Sem Value) = _
  rw [h]
theorem sqrt_none {x : Nat} (h : FloatKind.f64.format.sqrt x = none) : Extern.MathSqrt.sqrt #[.float .f64 x] = (do pure (.float .f64 (← choose (.nanBits .f64 x x))) : Sem Value) := by
  show (match FloatKind.f64.format.sqrt x with
    | some r => pure (.float .f64 r)
    | none => do pure (.float .f64 (← choose (.nanBits .f64 x x))) : Sem Value) = _
  rw [h]
theorem run_sqrt_any (x : Nat) : (Extern.MathSqrt.sqrt #[.float .f64 x]).run P w = .ok (.float .f64 (fSqrt x w)) (w.drewN (nSqrt x)) := by
  unfold fSqrt nSqrt pickF cntF
  cases h : dSqrt x with
  | none => rw [sqrt_none h]; rfl
  | some r => rw [sqrt_some h]; rfl
end

attribute [irreducible] fAdd fSub fMul fDiv fSqrt nAdd nSub nMul nDiv nSqrt ab aAdd aSub aMul aDiv aSqrt aNeg

end Go.Proofs.YtijdmnimiipinaaDoor
