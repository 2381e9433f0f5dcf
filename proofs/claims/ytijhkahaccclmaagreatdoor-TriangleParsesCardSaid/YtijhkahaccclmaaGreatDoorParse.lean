/-
  The walk of triangle.Parse: rows of numbers, or the error and its place. Conditions: the text's length, the library's variables.
-/
import Derived.Test.YtijhkahaccclmaaGreatDoorLib
set_option linter.unusedSimpArgs false
set_option linter.unusedVariables false
set_option linter.unnecessarySimpa false
namespace Go.Proofs.YtijhkahaccclmaaGreatDoor
open Go Go.RowKit Go.Shelf

attribute [local go_sem] Oper.semAt_some

/-- What Parse answers: the rows' slice, the error. -/
def ParseIs (s : List UInt8) (e : Ending) (w' : World) : Prop :=
  match linesOf (cuts 10 s) with
  | .inr p => ∃ B, e = .returned (.tuple #[.slice none 0 0, .iface 47 (.pointer (some ⟨B, 0, none⟩))]) ∧ w'.heap[B]? = some (.cells #[.int .i64 3, .int .i64 (p : Int)] 48 (0, 0))
  | .inl (t, _) => if checkTri t = 0 then ∃ T, e = .returned (.tuple #[T, .nilIface]) ∧ RowsAt w' T t
    else e = .returned (.tuple #[.slice none 0 0, .iface 28 (.int .i64 (checkTri t))])

theorem below_put {n l : Nat} {w W : World} (h : Below n w W) (hl : n ≤ l) (o : Obj) : Below n w (W.putObj l o) :=
  ⟨h.os, h.tape, h.output, by rw [World.putObj_size]; exact h.size, fun k hk => (World.putObj_heap_other (by omega)).trans (h.block k hk)⟩

/-- append to a row of one's own, at a step of a region that draws its order, in a round. -/
theorem step_append_in {F : Fence} {n : Nat} {P : Program} {ops : Array Oper} {o : Oper} {a : Act} {w : World} {K : Act → World → Prop} {Q : Exit → Act → World → Prop} {E : Prop}
    (hg : o.guard = none) (s x : Operand) (t : TypeId) (hop : o.op = Op.call { callee := Callee.builtin Builtin.append, args := #[s, x], argTypes := #[t, t] })
    (base : Nat) (e : TypeId) (i : TypeInfo) (z : Value) (size bytes : Nat) (h1 : P.underlying t = some (.slice e)) (h2 : P.info? e = some i) (h3 : i.zero = some z) (h4 : i.size = size) (h5 : i.bytes = bytes) (h6 : z.cells.size = size) (h7 : 0 < size)
    (v : Value) (k : Nat) (xs : List Value) (hs : a.eval s = v) (hown : w.ownsRow base e size v k xs) (ad : Addr) (m c : Nat) (news : List Value) (hx : a.eval x = .slice (some ad) m c) (hn : news.length = m * size)
    (hc : ∀ j u, news[j]? = some u → w.cell? (ad.add j) = some u) (h1c : ∀ u ∈ news, u.oneCell' = true) (b1 : k + m ≤ maxLen) (b2 : (k + m) * bytes ≤ 140737488355328) (b3 : base ≤ w.heap.size)
    (hK : ∀ v' w', w'.ownsRow base e size v' (k + m) (xs ++ news) → w.grownBy w' v.ownBlock → K (a.put o.dst v') w') :
    if Region.wanted o (yielded ops a.tmps) = true then Oper.wpIn F n P o a w K Q else E := by
  have hw : Region.wanted o (yielded ops a.tmps) = true := by simp [Region.wanted, hg]
  rw [if_pos hw]
  obtain ⟨v', w', hrun, r1, r2, _⟩ := run_append_own (P := P) w base t o.type e i z size bytes h1 h2 h3 h4 h5 h6 h7 v k xs hown ad m c news hn hc h1c b1 b2 b3
  refine ⟨?_, ?_⟩
  · simp [Oper.about, hop, resolve, Target.leads, Sem.run_pure]
  · rw [Oper.semAt_plain F _ _ (by rw [hop]; intro c hc'; cases hc')]
    simp [execOp, hop, resolve, invoke, builtin, hs, hx, hrun, Result.andThen]
    exact hK v' w' r1 r2

/-- Between two rounds of the outer loop. -/
def ParI (w W0 : World) (pre : List (List UInt8)) (W : World) : Prop := ∃ t a T, linesOf pre = .inl (t, a) ∧ Boxed W w.heap.size 23 (.slice none 0 0) ∧ Boxed W (w.heap.size + 1) 25 .nilIface ∧ Boxed W (w.heap.size + 1 + 1) 23 T ∧
  Boxed W (w.heap.size + 1 + 1 + 1) 3 (.int .i64 (a : Nat)) ∧ RowsOwn W (W0.heap.size + 2) T t ∧ W0.heap.size + 2 ≤ W.heap.size ∧ Below w.heap.size w W
/-- Where a round has returned. -/
def ParX (w W0 : World) (pre : List (List UInt8)) (W : World) : Prop := ∃ p B : Nat, linesOf pre = .inr p ∧ Boxed W w.heap.size 23 (.slice none 0 0) ∧ Boxed W (w.heap.size + 1) 25 (.iface 47 (.pointer (some ⟨B, 0, none⟩))) ∧
  W0.heap.size + 2 ≤ B ∧ W.heap[B]? = some (.cells #[.int .i64 3, .int .i64 (p : Int)] 48 (0, 0)) ∧ Below w.heap.size w W
theorem ParI.kept {w W0 W W' : World} {pre : List (List UInt8)} (h : ParI w W0 pre W) (hk : ∀ k, k < w.heap.size + 4 ∨ W0.heap.size + 2 ≤ k → k < W.heap.size → W'.heap[k]? = W.heap[k]?) (hb : Below w.heap.size w W') (hs : W.heap.size ≤ W'.heap.size) : ParI w W0 pre W' := by
  obtain ⟨t, a, T, h1, h2, h3, h4, h5, h6, h7, _⟩ := h
  exact ⟨t, a, T, h1, (hk _ (by omega) h2.lt).trans h2, (hk _ (by omega) h3.lt).trans h3, (hk _ (by omega) h4.lt).trans h4, (hk _ (by omega) h5.lt).trans h5, h6.from fun k hk1 hk2 => hk k (.inr hk1) hk2, by omega, hb⟩
theorem ParX.kept {w W0 W W' : World} {pre : List (List UInt8)} (h : ParX w W0 pre W) (hk : ∀ k, k < w.heap.size + 4 ∨ W0.heap.size + 2 ≤ k → k < W.heap.size → W'.heap[k]? = W.heap[k]?) (hb : Below w.heap.size w W') : ParX w W0 pre W' := by
  obtain ⟨p, B, h1, h2, h3, h4, h5, _⟩ := h
  exact ⟨p, B, h1, (hk _ (by omega) h2.lt).trans h2, (hk _ (by omega) h3.lt).trans h3, h4, (hk _ (.inr h4) (Array.getElem?_eq_some_iff.1 h5).1).trans h5, hb⟩

theorem app_box {w5 w6 : World} {B base e size k : Nat} {t : TypeId} {u rv : Value} {xs : List Value} {o : Obj} (q : Boxed w5 B t u) (hB : B < base) (hown : w5.ownsRow base e size rv k xs) (hg : (w5.alloc o).grownBy w6 rv.ownBlock) : Boxed w6 B t u :=
  (q.alloc o).kept hg fun e => by have := (hown.lt _ e.symm).1; omega
theorem out_normal {w W0 W W4 : World} {pre xs : List (List UInt8)} {t : List (List Int)} {b : Nat} {T : Value} {ac : Act} (h : ParI w W0 pre W) (hN : w.heap.size + 7 = W0.heap.size) (hw : linesOf xs = .inl (t, b)) (k2 : Boxed W4 (w.heap.size + 1 + 1) 23 T) (k3 : Boxed W4 (w.heap.size + 1 + 1 + 1) 3 (.int .i64 (b : Nat)))
    (kr : RowsOwn W4 (W0.heap.size + 2) T t) (hk : ∀ k, k < W0.heap.size + 2 → k ≠ w.heap.size + 1 + 1 → k ≠ w.heap.size + 1 + 1 + 1 → W4.heap[k]? = W.heap[k]?) (hs : W.heap.size ≤ W4.heap.size) (hb : Below w.heap.size w W4) :
    RoundQ W0.heap.size (W0.heap.size + 1) (w.heap.size + 1 + 1 + 1 + 1) (ParI w W0) (ParX w W0) xs W .normal ac W4 := by
  obtain ⟨_, _, _, _, z0, z1, _, _, _, z7, _⟩ := h
  exact ⟨hk _ (by omega) (by omega) (by omega), hk _ (by omega) (by omega) (by omega), fun k h1 h2 => hk k (by omega) (by omega) (by omega),
    t, b, T, hw, (hk _ (by omega) (by omega) (by omega)).trans z0, (hk _ (by omega) (by omega) (by omega)).trans z1, k2, k3, kr, by omega, hb⟩
theorem out_ret {w W0 W W4 : World} {pre xs : List (List UInt8)} {p B : Nat} {ac : Act} (h : ParI w W0 pre W) (hN : w.heap.size + 7 = W0.heap.size) (hw : linesOf xs = .inr p) (k0 : Boxed W4 w.heap.size 23 (.slice none 0 0)) (k1 : Boxed W4 (w.heap.size + 1) 25 (.iface 47 (.pointer (some ⟨B, 0, none⟩))))
    (hB : W0.heap.size + 2 ≤ B) (k3 : W4.heap[B]? = some (.cells #[.int .i64 3, .int .i64 (p : Int)] 48 (0, 0))) (hk : ∀ k, k < W0.heap.size + 2 → k ≠ w.heap.size → k ≠ w.heap.size + 1 → k ≠ w.heap.size + 1 + 1 + 1 → W4.heap[k]? = W.heap[k]?) (hb : Below w.heap.size w W4) :
    RoundQ W0.heap.size (W0.heap.size + 1) (w.heap.size + 1 + 1 + 1 + 1) (ParI w W0) (ParX w W0) xs W .ret ac W4 :=
  ⟨hk _ (by omega) (by omega) (by omega) (by omega), hk _ (by omega) (by omega) (by omega) (by omega), p, B, hw, k0, k1, hB, k3, hb⟩

theorem out_snoc {w W0 W W4 w6 : World} {pre xs : List (List UInt8)} {t : List (List Int)} {r : List Int} {b : Nat} {T rv v' : Value} {vs : List Value} {ac : Act} (h : ParI w W0 pre W) (hN : w.heap.size + 7 = W0.heap.size) (hW : W0.heap.size + 2 ≤ W.heap.size) (hw : linesOf xs = .inl (t ++ [r], b))
    (q2 : Boxed W4 (w.heap.size + 1 + 1) 23 T) (q3 : Boxed W4 (w.heap.size + 1 + 1 + 1) 3 (.int .i64 (b : Nat))) (hv1 : W4.ownsRow (W0.heap.size + 2) 35 1 T t.length vs) (hv2 : ∀ j, j < t.length → RowAt W4 (W0.heap.size + 2) (vs.getD j undef) (t.getD j [])) (hr : RowAt W4 (W0.heap.size + 2) rv r)
    (hk : ∀ k, k < W.heap.size → k ≠ w.heap.size + 1 + 1 + 1 → W4.heap[k]? = W.heap[k]?) (hs : W.heap.size ≤ W4.heap.size) (hb : Below w.heap.size w W4) (hown' : w6.ownsRow (W0.heap.size + 2) 35 1 v' (t.length + 1) (vs ++ [rv])) (hg : (W4.alloc (.cells #[rv] 35)).grownBy w6 T.ownBlock) :
    RoundQ W0.heap.size (W0.heap.size + 1) (w.heap.size + 1 + 1 + 1 + 1) (ParI w W0) (ParX w W0) xs W .normal ac (w6.setCell ⟨w.heap.size + 1 + 1, 0, none⟩ v') := by
  have p2 : Boxed w6 (w.heap.size + 1 + 1) 23 T := app_box q2 (by omega) hv1 hg
  have p3 : Boxed w6 (w.heap.size + 1 + 1 + 1) 3 (.int .i64 (b : Nat)) := app_box q3 (by omega) hv1 hg
  have hal : Below W4.heap.size W4 (W4.alloc (.cells #[rv] 35)) := (Below.refl _ _).alloc (Nat.le_refl _) _
  have hrow := RowsOwn.snoc (hv1.alloc _) (fun j hj => (hv2 j hj).below hal) (hr.below hal) hown' hg
  have sg := hg.size
  rw [World.size_alloc] at sg
  refine out_normal h hN hw (p2.set _) (p3.other (by omega) _) (hrow.from fun k k1 k2 => Below.heap_setCell _ _ _ _ (by show k ≠ w.heap.size + 1 + 1; omega)) ?_ (by simp [World.setCell]; omega) ?_
  · intro k k1 k2 k3
    exact (Below.heap_setCell _ _ _ _ k2).trans ((hg.block k (by simp; omega) (fun e => by have := (hv1.lt _ e.symm).1; omega)).trans ((Below.heap_alloc _ _ _ (by omega)).trans (hk k (by omega) k3)))
  · exact (((hb.alloc (by have := hb.size; omega) _).grown hg (by simp; have := hb.size; omega) (fun k e => by have := (hv1.lt _ e).1; omega))).setCell (p := ⟨w.heap.size + 1 + 1, 0, none⟩) (by show w.heap.size ≤ w.heap.size + 1 + 1; omega) _

/-- Between two rounds of the inner loop, which began in W2; the line's round began in W. -/
def InI (w W W2 : World) (a : Nat) (pre : List (List UInt8)) (W' : World) : Prop := ∃ r b rv, wordsOf a pre = .inl (r, b) ∧ Boxed W' W.heap.size 35 rv ∧ W'.ownsRow (W2.heap.size + 1) 3 1 rv r.length (r.map iv) ∧
  Boxed W' (w.heap.size + 1 + 1 + 1) 3 (.int .i64 (b : Nat)) ∧ (∀ k, k < W.heap.size → k ≠ w.heap.size + 1 + 1 + 1 → W'.heap[k]? = W.heap[k]?) ∧ W2.heap.size + 1 ≤ W'.heap.size ∧ Below w.heap.size w W'
def InX (w W W2 : World) (a : Nat) (pre : List (List UInt8)) (W' : World) : Prop := ∃ p B : Nat, wordsOf a pre = .inr p ∧ Boxed W' w.heap.size 23 (.slice none 0 0) ∧ Boxed W' (w.heap.size + 1) 25 (.iface 47 (.pointer (some ⟨B, 0, none⟩))) ∧
  W2.heap.size + 1 ≤ B ∧ W'.heap[B]? = some (.cells #[.int .i64 3, .int .i64 (p : Int)] 48 (0, 0)) ∧
  (∀ k, k < W.heap.size → k ≠ w.heap.size → k ≠ w.heap.size + 1 → k ≠ w.heap.size + 1 + 1 + 1 → W'.heap[k]? = W.heap[k]?) ∧ Below w.heap.size w W'
theorem InI.kept {w W W2 W' W'' : World} {a : Nat} {pre : List (List UInt8)} (h : InI w W W2 a pre W') (hN : w.heap.size + 4 ≤ W.heap.size) (hk : ∀ k, k < W.heap.size + 1 ∨ W2.heap.size + 1 ≤ k → k < W'.heap.size → W''.heap[k]? = W'.heap[k]?) (hb : Below w.heap.size w W'') (hs : W'.heap.size ≤ W''.heap.size)
    (h2 : W.heap.size + 4 ≤ W2.heap.size) : InI w W W2 a pre W'' := by
  obtain ⟨r, b, rv, h1, h2, h3, h4, h5, h6, _⟩ := h
  exact ⟨r, b, rv, h1, (hk _ (by omega) h2.lt).trans h2, own_from h3 fun k hk1 hk2 => hk k (.inr hk1) hk2, (hk _ (by omega) h4.lt).trans h4, fun k hk1 hk2 => (hk k (by omega) (by omega)).trans (h5 k hk1 hk2), by omega, hb⟩
theorem InX.kept {w W W2 W' W'' : World} {a : Nat} {pre : List (List UInt8)} (h : InX w W W2 a pre W') (hN : w.heap.size + 4 ≤ W.heap.size) (hk : ∀ k, k < W.heap.size + 1 ∨ W2.heap.size + 1 ≤ k → k < W'.heap.size → W''.heap[k]? = W'.heap[k]?) (hb : Below w.heap.size w W'') (hW : W.heap.size ≤ W'.heap.size) : InX w W W2 a pre W'' := by
  obtain ⟨p, B, h1, h2, h3, h4, h5, h6, _⟩ := h
  exact ⟨p, B, h1, (hk _ (by omega) h2.lt).trans h2, (hk _ (by omega) h3.lt).trans h3, h4, (hk _ (.inr h4) (Array.getElem?_eq_some_iff.1 h5).1).trans h5, fun k k1 k2 k3 k4 => (hk k (by omega) (by omega)).trans (h6 k k1 k2 k3 k4), hb⟩

theorem in_normal {w W0 W W2 W3 W4 : World} {a : Nat} {pre xs : List (List UInt8)} {r : List Int} {b : Nat} {rv : Value} {ac : Act} (h : InI w W W2 a pre W3) (hN : w.heap.size + 7 = W0.heap.size) (hW : W0.heap.size + 2 ≤ W.heap.size) (hW2 : W2.heap.size = W.heap.size + 4)
    (hw : wordsOf a xs = .inl (r, b)) (k1 : Boxed W4 W.heap.size 35 rv) (k2 : W4.ownsRow (W2.heap.size + 1) 3 1 rv r.length (r.map iv)) (k3 : Boxed W4 (w.heap.size + 1 + 1 + 1) 3 (.int .i64 (b : Nat)))
    (hk : ∀ k, k < W2.heap.size + 1 → k ≠ w.heap.size + 1 + 1 + 1 → k ≠ W.heap.size → W4.heap[k]? = W3.heap[k]?) (hs : W3.heap.size ≤ W4.heap.size) (hb : Below w.heap.size w W4) :
    RoundQ (W0.heap.size + 1) W2.heap.size (W.heap.size + 1) (InI w W W2 a) (InX w W W2 a) xs W3 .normal ac W4 := by
  obtain ⟨_, _, _, _, _, _, _, g5, g6, _⟩ := h
  exact ⟨hk _ (by omega) (by omega) (by omega), hk _ (by omega) (by omega) (by omega), fun k h1 h2 => hk k (by omega) (by omega) (by omega), r, b, rv, hw, k1, k2, k3, fun k h1 h2 => (hk k (by omega) h2 (by omega)).trans (g5 k h1 h2), by omega, hb⟩
theorem in_ret {w W0 W W2 W3 W4 : World} {a : Nat} {pre xs : List (List UInt8)} {p B : Nat} {ac : Act} (h : InI w W W2 a pre W3) (hN : w.heap.size + 7 = W0.heap.size) (hW : W0.heap.size + 2 ≤ W.heap.size) (hW2 : W2.heap.size = W.heap.size + 4)
    (hw : wordsOf a xs = .inr p) (k1 : Boxed W4 w.heap.size 23 (.slice none 0 0)) (k2 : Boxed W4 (w.heap.size + 1) 25 (.iface 47 (.pointer (some ⟨B, 0, none⟩)))) (hB : W2.heap.size + 1 ≤ B) (k3 : W4.heap[B]? = some (.cells #[.int .i64 3, .int .i64 (p : Int)] 48 (0, 0)))
    (hk : ∀ k, k < W2.heap.size + 1 → k ≠ w.heap.size → k ≠ w.heap.size + 1 → W4.heap[k]? = W3.heap[k]?) (hb : Below w.heap.size w W4) :
    RoundQ (W0.heap.size + 1) W2.heap.size (W.heap.size + 1) (InI w W W2 a) (InX w W W2 a) xs W3 .ret ac W4 := by
  obtain ⟨_, _, _, _, _, _, _, g5, g6, _⟩ := h
  exact ⟨hk _ (by omega) (by omega) (by omega), hk _ (by omega) (by omega) (by omega), p, B, hw, k1, k2, hB, k3, fun k h1 h2 h3 h4 => (hk k (by omega) h2 h3).trans (g5 k h1 h4), hb⟩

theorem in_fail {w W0 W W2 W3 w4 : World} {a : Nat} {pre xs : List (List UInt8)} {b : Nat} {ac : Act} (h : InI w W W2 a pre W3) (hN : w.heap.size + 7 = W0.heap.size) (hW : W0.heap.size + 2 ≤ W.heap.size) (hW2 : W2.heap.size = W.heap.size + 4)
    (hw : wordsOf a xs = .inr b) (q0 : Boxed w4 w.heap.size 23 (.slice none 0 0)) (q1 : Boxed w4 (w.heap.size + 1) 25 .nilIface) (hb4 : Below W3.heap.size W3 w4) :
    RoundQ (W0.heap.size + 1) W2.heap.size (W.heap.size + 1) (InI w W W2 a) (InX w W W2 a) xs W3 .ret ac
      (((w4.setCell ⟨w.heap.size, 0, none⟩ (.slice none 0 0)).setCell ⟨w.heap.size + 1, 0, none⟩ (.iface 47 (.pointer (some ⟨w4.heap.size, 0, none⟩)))).alloc (.cells #[.int .i64 3, .int .i64 (b : Int)] 48)).drew := by
  have h' := h
  obtain ⟨_, _, _, _, _, _, _, _, g6, g7⟩ := h'
  have s4 := hb4.size
  have k0 : Boxed ((w4.setCell ⟨w.heap.size, 0, none⟩ (.slice none 0 0)).setCell ⟨w.heap.size + 1, 0, none⟩ (.iface 47 (.pointer (some ⟨w4.heap.size, 0, none⟩)))) w.heap.size 23 (.slice none 0 0) := (q0.set _).other (by omega) _
  have k1 : Boxed ((w4.setCell ⟨w.heap.size, 0, none⟩ (.slice none 0 0)).setCell ⟨w.heap.size + 1, 0, none⟩ (.iface 47 (.pointer (some ⟨w4.heap.size, 0, none⟩)))) (w.heap.size + 1) 25 (.iface 47 (.pointer (some ⟨w4.heap.size, 0, none⟩))) := (q1.other (by omega) _).set _
  have ks : ((w4.setCell ⟨w.heap.size, 0, none⟩ (.slice none 0 0)).setCell ⟨w.heap.size + 1, 0, none⟩ (.iface 47 (.pointer (some ⟨w4.heap.size, 0, none⟩)))).heap.size = w4.heap.size := by simp [World.setCell]
  have kb : Below w.heap.size w ((w4.setCell ⟨w.heap.size, 0, none⟩ (.slice none 0 0)).setCell ⟨w.heap.size + 1, 0, none⟩ (.iface 47 (.pointer (some ⟨w4.heap.size, 0, none⟩)))) :=
    ((g7.trans (hb4.mono g7.size)).setCell (p := ⟨w.heap.size, 0, none⟩) (Nat.le_refl _) _).setCell (p := ⟨w.heap.size + 1, 0, none⟩) (by show w.heap.size ≤ w.heap.size + 1; omega) _
  have kk : ∀ k, k < W2.heap.size + 1 → k ≠ w.heap.size → k ≠ w.heap.size + 1 → ((w4.setCell ⟨w.heap.size, 0, none⟩ (.slice none 0 0)).setCell ⟨w.heap.size + 1, 0, none⟩ (.iface 47 (.pointer (some ⟨w4.heap.size, 0, none⟩)))).heap[k]? = W3.heap[k]? :=
    fun k h1 h2 h3 => (Below.heap_setCell _ _ _ _ h3).trans ((Below.heap_setCell _ _ _ _ h2).trans (hb4.block k (by omega)))
  obtain ⟨w5, h5⟩ : ∃ w5, (w4.setCell ⟨w.heap.size, 0, none⟩ (.slice none 0 0)).setCell ⟨w.heap.size + 1, 0, none⟩ (.iface 47 (.pointer (some ⟨w4.heap.size, 0, none⟩))) = w5 := ⟨_, rfl⟩
  rw [h5] at k0 k1 ks kb kk ⊢
  refine in_ret (B := w4.heap.size) h hN hW hW2 hw (k0.alloc _) (k1.alloc _) (by omega) ?_ (fun k h1 h2 h3 => (Below.heap_alloc _ _ _ (by omega)).trans (kk k h1 h2 h3)) ((kb.alloc (by omega) _).drew)
  have := alloc_new w5 (.cells #[.int .i64 3, .int .i64 (b : Int)] 48)
  rw [ks] at this
  exact this

set_option maxRecDepth 100000 in
set_option maxHeartbeats 4000000 in
theorem parse_walk (s : List UInt8) (w : World) (hs : s.length ≤ 50000) (hw : LibOk w) :
    Calls Tryz.prog 4 #[.string ⟨s.toArray⟩] w fun e w' => ParseIs s e w' ∧ Below w.heap.size w w' := by
  have HW := Lib.hid hw
  clear hw
  have hs1 : ¬ (50000 : Int) < (s.length : Int) := by omega
  obtain ⟨i0, hi, hz0, hz1, hz2⟩ := info_parts Tryz.info35
  obtain ⟨i1, hi', hz0', hz1', hz2'⟩ := info_parts Tryz.info3
  obtain ⟨n, _⟩ : ∃ n : Nat, 0 ≤ n := ⟨3, by decide⟩
  refine (callsIn_wide (n := n)).1 ?_
  refine callsIn_of_wp_marks Tryz.func4 rfl trivial ?_ rfl
  simp only [Tryz.ntmps4, List.size_toArray, List.length_cons, List.length_nil, Nat.reduceAdd, Nat.reduceSub, Array.replicate_succ, Array.replicate_zero, List.push_toArray, List.append_toArray, List.nil_append, List.cons_append]
  gi_wp2_with (refine ⟨trivial, fun h => (by cases h), ?_⟩; gi_at_call 11; refine ((callsIn_wide (n := n - 1)).2 (SplitSeq_walk _ _ _)).mono ?_; rintro e w' ⟨rfl, rfl⟩)
  have b0 := (((Boxed.new w 23 (.slice none 0 0)).alloc (.cells #[.nilIface] 25)).alloc (.cells #[.slice none 0 0] 23)).alloc (.cells #[.int .i64 0] 3)
  have b1 := ((Boxed.new (w.alloc (.cells #[.slice none 0 0] 23)) 25 .nilIface).alloc (.cells #[.slice none 0 0] 23)).alloc (.cells #[.int .i64 0] 3)
  have b2 := (Boxed.new ((w.alloc (.cells #[.slice none 0 0] 23)).alloc (.cells #[.nilIface] 25)) 23 (.slice none 0 0)).alloc (.cells #[.int .i64 0] 3)
  have b3 := Boxed.new (((w.alloc (.cells #[.slice none 0 0] 23)).alloc (.cells #[.nilIface] 25)).alloc (.cells #[.slice none 0 0] 23)) 3 (.int .i64 0)
  simp only [World.size_alloc] at b1 b2 b3
  have hb0 : Below w.heap.size w ((((w.alloc (.cells #[.slice none 0 0] 23)).alloc (.cells #[.nilIface] 25)).alloc (.cells #[.slice none 0 0] 23)).alloc (.cells #[.int .i64 0] 3)) :=
    ((((Below.refl _ w).alloc (Nat.le_refl _) _).alloc (by simp) _).alloc (by simp; omega) _).alloc (by simp; omega) _
  have hsz : ((((w.alloc (.cells #[.slice none 0 0] 23)).alloc (.cells #[.nilIface] 25)).alloc (.cells #[.slice none 0 0] 23)).alloc (.cells #[.int .i64 0] 3)).heap.size = w.heap.size + 1 + 1 + 1 + 1 := by simp
  obtain ⟨Wa, hWa⟩ : ∃ Wa, (((w.alloc (.cells #[.slice none 0 0] 23)).alloc (.cells #[.nilIface] 25)).alloc (.cells #[.slice none 0 0] 23)).alloc (.cells #[.int .i64 0] 3) = Wa := ⟨_, rfl⟩
  rw [hWa] at b0 b1 b2 b3 hb0 hsz
  have bx := boxes_new Wa s 10
  have hsz1 : (((Wa.alloc (.cells #[.string ⟨s.toArray⟩] 9)).alloc (.cells #[.string ⟨#[10]⟩] 9)).alloc (.cells #[.int .i64 0] 3)).heap.size = Wa.heap.size + 1 + 1 + 1 := by simp
  have hb1 : Below w.heap.size w (((Wa.alloc (.cells #[.string ⟨s.toArray⟩] 9)).alloc (.cells #[.string ⟨#[10]⟩] 9)).alloc (.cells #[.int .i64 0] 3)) :=
    ((hb0.alloc (by omega) _).alloc (by simp; omega) _).alloc (by simp; omega) _
  replace b0 := ((b0.alloc (.cells #[.string ⟨s.toArray⟩] 9)).alloc (.cells #[.string ⟨#[10]⟩] 9)).alloc (.cells #[.int .i64 0] 3)
  replace b1 := ((b1.alloc (.cells #[.string ⟨s.toArray⟩] 9)).alloc (.cells #[.string ⟨#[10]⟩] 9)).alloc (.cells #[.int .i64 0] 3)
  replace b2 := ((b2.alloc (.cells #[.string ⟨s.toArray⟩] 9)).alloc (.cells #[.string ⟨#[10]⟩] 9)).alloc (.cells #[.int .i64 0] 3)
  replace b3 := ((b3.alloc (.cells #[.string ⟨s.toArray⟩] 9)).alloc (.cells #[.string ⟨#[10]⟩] 9)).alloc (.cells #[.int .i64 0] 3)
  rw [hWa]
  obtain ⟨W0, hW0⟩ : ∃ W0, ((Wa.alloc (.cells #[.string ⟨s.toArray⟩] 9)).alloc (.cells #[.string ⟨#[10]⟩] 9)).alloc (.cells #[.int .i64 0] 3) = W0 := ⟨_, rfl⟩
  rw [hW0] at b0 b1 b2 b3 bx hb1 hsz1 ⊢
  rw [hsz] at bx hsz1
  clear hW0 hWa hsz hb0
  have hI0 : ∀ o o', ParI w W0 [] ((W0.alloc o).alloc o') := fun o o' =>
    ⟨[], 0, _, rfl, (b0.alloc _).alloc _, (b1.alloc _).alloc _, (b2.alloc _).alloc _, (b3.alloc _).alloc _, RowsOwn.nil _ _, by simp, (hb1.alloc (by omega) _).alloc (by simp; omega) _⟩
  have HI0 := Lib.hid hI0
  clear hI0 b0 b1 b2 b3 hb1
  refine split_outer index_ok n (w.heap.size + 1 + 1 + 1 + 1) 10 s (by omega) rfl (by omega) bx rfl (ParI w W0) (ParX w W0)
    (fun pre W u h => h.kept (fun k hk _ => Below.heap_setCell _ _ _ _ (by show k ≠ w.heap.size + 1 + 1 + 1 + 1; omega)) ((let ⟨_, _, _, _, _, _, _, _, _, _, hb⟩ := h; hb).setCell (p := ⟨w.heap.size + 1 + 1 + 1 + 1, 0, none⟩) (by show w.heap.size ≤ w.heap.size + 1 + 1 + 1 + 1; omega) _) (by simp [World.setCell]))
    (fun pre W o' h => h.kept (fun k hk _ => World.putObj_heap_other (by omega)) (below_put (let ⟨_, _, _, _, _, _, _, _, _, _, hb⟩ := h; hb) (by omega) _) (by rw [World.putObj_size]; exact Nat.le_refl _))
    (fun pre W o' h => h.kept (fun k hk _ => World.putObj_heap_other (by omega)) (below_put (let ⟨_, _, _, _, _, _, _, hb⟩ := h; hb) (by omega) _))
    HI0.out
    (fun x => { tmps := #[.string ⟨s.toArray⟩, undef, .pointer (some ⟨w.heap.size, 0, none⟩), .pointer (some ⟨w.heap.size + 1, 0, none⟩), .pointer (some ⟨w.heap.size + 1 + 1, 0, none⟩), .pointer (some ⟨w.heap.size + 1 + 1 + 1, 0, none⟩), .string ⟨x.toArray⟩, undef, undef, undef, undef, undef,
      .string ⟨s.toArray⟩, .int .i64 (s.length : Int), .bool false, undef, .string ⟨s.toArray⟩,
      .func (.func 37) #[] #[.pointer (some ⟨w.heap.size + 1 + 1 + 1 + 1 + 1, 0, none⟩), .pointer (some ⟨w.heap.size + 1 + 1 + 1 + 1, 0, none⟩), .pointer (some ⟨w.heap.size + 1 + 1 + 1 + 1 + 2, 0, none⟩)],
      .string ⟨x.toArray⟩, undef, undef, undef, undef, undef, undef, undef, undef, undef, undef, undef, undef, undef, undef, undef, undef, undef, undef, undef, undef, undef, undef, undef, undef, undef, undef, undef, undef, undef, undef, undef, undef, undef, undef, undef, undef, undef, undef, undef, undef, undef, undef, undef, undef, undef, undef, undef], defers := [] })
    ?assign ?body ?done ?stop
  case assign =>
    intro l x W K hK
    gi_wp2
    exact hK
  case body =>
    rintro pre x W hin hpre ⟨o, hl⟩ hd
    have hin' := hin
    obtain ⟨t, a, T, h1, h2, h3, h4, h5, h6, h7, h8⟩ := hin'
    have hsp := span_prefix hpre
    rw [span_append, span_cons, span_cuts] at hsp
    have ha := (linesOf_inl h1).1
    have H1 := Lib.hid h1
    have H4 := Lib.hid h4
    have H6 := Lib.hid h6
    have HI := Lib.hid hin
    have HP := Lib.hid hpre
    have HB := Lib.hid h8
    have HLO := Lib.hid hl
    have HDO := Lib.hid hd
    clear h1 h2 h3 h4 h5 h6 hin hpre h8 hl hd bx
    gi_wp2_with (refine ⟨trivial, fun h => (by cases h), ?_⟩; gi_at_call 11; refine (CallsIn.inRound _ ((callsIn_wide (n := n - 1 - 1 - 1)).2 (SplitSeq_walk _ _ _))).mono ?_; rintro e w' ⟨rfl, rfl⟩)
    have br := Boxed.new W 35 (.slice none 0 0)
    have hrz : (W.alloc (.cells #[.slice none 0 0] 35)).heap.size = W.heap.size + 1 := by simp
    have hrb : Below w.heap.size w (W.alloc (.cells #[.slice none 0 0] 35)) := HB.out.alloc (by omega) _
    have hrk : ∀ k, k < W.heap.size → (W.alloc (.cells #[.slice none 0 0] 35)).heap[k]? = W.heap[k]? := fun k hk => Below.heap_alloc _ _ _ hk
    obtain ⟨Wr, hWr⟩ : ∃ Wr, W.alloc (.cells #[.slice none 0 0] 35) = Wr := ⟨_, rfl⟩
    rw [hWr] at br hrz hrb hrk ⊢
    have bx2 := boxes_new Wr x 32
    have hsz2 : (((Wr.alloc (.cells #[.string ⟨x.toArray⟩] 9)).alloc (.cells #[.string ⟨#[32]⟩] 9)).alloc (.cells #[.int .i64 0] 3)).heap.size = Wr.heap.size + 1 + 1 + 1 := by simp
    have hb2 : Below w.heap.size w (((Wr.alloc (.cells #[.string ⟨x.toArray⟩] 9)).alloc (.cells #[.string ⟨#[32]⟩] 9)).alloc (.cells #[.int .i64 0] 3)) :=
      ((hrb.alloc (by omega) _).alloc (by simp; omega) _).alloc (by simp; omega) _
    have hk2 : ∀ k, k < W.heap.size → (((Wr.alloc (.cells #[.string ⟨x.toArray⟩] 9)).alloc (.cells #[.string ⟨#[32]⟩] 9)).alloc (.cells #[.int .i64 0] 3)).heap[k]? = W.heap[k]? := fun k hk =>
      (Below.heap_alloc _ _ _ (by simp; omega)).trans ((Below.heap_alloc _ _ _ (by simp; omega)).trans ((Below.heap_alloc _ _ _ (by omega)).trans (hrk k hk)))
    replace br := ((br.alloc (.cells #[.string ⟨x.toArray⟩] 9)).alloc (.cells #[.string ⟨#[32]⟩] 9)).alloc (.cells #[.int .i64 0] 3)
    obtain ⟨W2, hW2⟩ : ∃ W2, ((Wr.alloc (.cells #[.string ⟨x.toArray⟩] 9)).alloc (.cells #[.string ⟨#[32]⟩] 9)).alloc (.cells #[.int .i64 0] 3) = W2 := ⟨_, rfl⟩
    rw [hW2] at bx2 hsz2 hb2 hk2 br ⊢
    rw [hrz] at bx2 hsz2
    clear hW2 hWr hrk hrb hrz
    have h5 : Boxed W2 (w.heap.size + 1 + 1 + 1) 3 (.int .i64 (a : Nat)) := by
      obtain ⟨t', a', T', g1, _, _, _, g5, _⟩ := HI.out
      have e := H1.out.symm.trans g1
      cases e
      exact (hk2 _ (by omega)).trans g5
    have HI2 : Hid (∀ o, InI w W W2 a [] (W2.alloc o)) := fun o =>
      ⟨[], a, _, rfl, br.alloc _, World.ownsRow_nil _ _ _ _, h5.alloc _, fun k hk _ => (Below.heap_alloc _ _ _ (by omega)).trans (hk2 k hk), by simp, hb2.alloc (by omega) _⟩
    have HK2 := Lib.hid hk2
    have hl2 : W2.heap[W0.heap.size + 1]? = some (.loop o) := (hk2 _ (by omega)).trans HLO.out
    clear h5 hb2 hk2 br
    refine split_inner index_ok (n - 1 - 1) (W.heap.size + 1) (W0.heap.size + 1) o 32 x (by omega) hl2 (by omega) rfl (by omega) bx2 rfl (InI w W W2 a) (InX w W W2 a)
      (fun pre W3 u h => h.kept (by omega) (fun k hk _ => Below.heap_setCell _ _ _ _ (by show k ≠ W.heap.size + 1; omega)) ((let ⟨_, _, _, _, _, _, _, _, _, hb⟩ := h; hb).setCell (p := ⟨W.heap.size + 1, 0, none⟩) (by show w.heap.size ≤ W.heap.size + 1; omega) _) (by simp [World.setCell]) (by omega))
      (fun pre W3 o' h => h.kept (by omega) (fun k hk _ => World.putObj_heap_other (by omega)) (below_put (let ⟨_, _, _, _, _, _, _, _, _, hb⟩ := h; hb) (by omega) _) (by rw [World.putObj_size]; exact Nat.le_refl _) (by omega))
      (fun pre W3 o' h => h.kept (by omega) (fun k hk _ => World.putObj_heap_other (by omega)) (below_put (let ⟨_, _, _, _, _, _, _, _, hb⟩ := h; hb) (by omega) _) (by
        obtain ⟨p, B, _, _, _, g4, g5, _⟩ := h
        have := (Array.getElem?_eq_some_iff.1 g5).1
        omega))
      HI2.out
      (fun y => { tmps := #[.string ⟨s.toArray⟩, undef, .pointer (some ⟨w.heap.size, 0, none⟩), .pointer (some ⟨w.heap.size + 1, 0, none⟩), .pointer (some ⟨w.heap.size + 1 + 1, 0, none⟩), .pointer (some ⟨w.heap.size + 1 + 1 + 1, 0, none⟩), .string ⟨x.toArray⟩, .pointer (some ⟨W.heap.size, 0, none⟩), .string ⟨y.toArray⟩, undef, undef, undef,
        .string ⟨s.toArray⟩, .int .i64 (s.length : Int), .bool false, undef, .string ⟨s.toArray⟩,
        .func (.func 37) #[] #[.pointer (some ⟨w.heap.size + 1 + 1 + 1 + 1 + 1, 0, none⟩), .pointer (some ⟨w.heap.size + 1 + 1 + 1 + 1, 0, none⟩), .pointer (some ⟨w.heap.size + 1 + 1 + 1 + 1 + 2, 0, none⟩)],
        .string ⟨x.toArray⟩, .string ⟨x.toArray⟩, .func (.func 37) #[] #[.pointer (some ⟨W.heap.size + 1 + 1, 0, none⟩), .pointer (some ⟨W.heap.size + 1, 0, none⟩), .pointer (some ⟨W.heap.size + 1 + 2, 0, none⟩)], .string ⟨y.toArray⟩, undef, undef, undef, undef, undef, undef, undef, undef, undef, undef, undef, undef, undef, undef, undef, undef, undef, undef, undef, undef, undef, undef, undef, undef, undef, undef, undef, undef, undef, undef, undef, undef, undef, undef, undef, undef, undef, undef, undef, undef, undef, undef, undef, undef], defers := [] })
      ?assign2 ?body2 ?done2 ?stop2
    case assign2 =>
      intro l y W3 K hK
      gi_wp2
      exact hK
    case body2 =>
      rintro pre' y W3 hi2 hpre2 _
      have hi2' := hi2
      obtain ⟨r, b, rv, g1, g2, g3, g4, g5, g6, g7⟩ := hi2'
      have hsp2 := span_prefix hpre2
      rw [span_append, span_cons, span_cuts] at hsp2
      have hba := wordsOf_inl g1
      have hsl := span_len pre'
      have hrl : r.length ≤ 50001 := by omega
      have hbl : b ≤ 50001 := by omega
      have hyl : y.length ≤ 50000 := by simp [span] at hsp2 hsp; omega
      have HII := Lib.hid hi2
      have HG1 := Lib.hid g1
      have HG2 := Lib.hid g2
      have HG3 := Lib.hid g3
      have HG4 := Lib.hid g4
      have HG7 := Lib.hid g7
      have HG6 := Lib.hid g6
      have hb0 : (0 : Int) ≤ (b : Int) := Int.natCast_nonneg _
      have hb1 : (b : Int) ≤ 50001 := by omega
      have HSZ : Hid (W2.heap.size = W.heap.size + 4) := by show W2.heap.size = W.heap.size + 4; omega
      clear g1 g3 g5 g7 hi2 hpre2 hba hsl
      cases y with
      | nil =>
        have c5 := g4.cell
        have f5 := g4.frozen
        clear g2 g4
        gi_wp2
        refine in_normal HII.out (by omega) h7 HSZ.out (r := r) (b := b + 1) (rv := rv) (by rw [wordsOf_snoc, HG1.out, stepW_inl, if_pos rfl]) (HG2.out.other (by omega) _) (own_from HG3.out fun k hk1 hk2 => Below.heap_setCell _ _ _ _ (by show k ≠ w.heap.size + 1 + 1 + 1; omega)) ?_
          (fun k h1 h2 h3 => Below.heap_setCell _ _ _ _ h2) (by simp [World.setCell]) (HG7.out.setCell (p := ⟨w.heap.size + 1 + 1 + 1, 0, none⟩) (by show w.heap.size ≤ w.heap.size + 1 + 1 + 1; omega) _)
        have := HG4.out.set (.int .i64 ((b + 1 : Nat) : Int))
        exact this
      | cons y0 ys =>
        obtain ⟨y, hy⟩ : ∃ y, y0 :: ys = y := ⟨_, rfl⟩
        have hyn : y ≠ [] := by rw [← hy]; simp
        have hyd : y.isEmpty = false := by rw [← hy]; rfl
        rw [hy] at hyl ⊢
        have HYN := Lib.hid hyn
        have hLW : LibOk W3 := HW.out.below HG7.out
        clear hsp2 hsp hy
        cases hn : numOf y with
        | none =>
          have HX2 : Hid (Boxed W3 w.heap.size 23 (.slice none 0 0) ∧ Boxed W3 (w.heap.size + 1) 25 .nilIface) := by
            obtain ⟨_, _, _, _, z0, z1, _⟩ := HI.out
            obtain ⟨_, _, _, _, _, _, _, z5, _⟩ := HII.out
            exact ⟨(z5 _ (by omega) (by omega)).trans z0, (z5 _ (by omega) (by omega)).trans z1⟩
          have hw' : wordsOf a (pre' ++ [y]) = .inr b := by rw [wordsOf_snoc, HG1.out, stepW_inl, if_neg HYN.out, hn]
          have HWP := Lib.hid hw'
          clear hw'
          by_cases hbad : ∃ m, Lib.atoiAll y = .ok m
          · obtain ⟨m, hat⟩ := hbad
            have hne : Lib.itoa m ≠ y := fun e => by rw [num_back hat e] at hn; cases hn
            have hvb := atoi_bounds hat
            have HAT := Lib.hid (atoi_good hat (by omega) W3)
            have HIT : Hid (∀ Wq, Below W3.heap.size W3 Wq → Calls Tryz.prog 13 #[.int .i64 m] Wq fun e w' => e = .returned (.string ⟨(Lib.itoa m).toArray⟩) ∧ Below Wq.heap.size Wq w') := fun Wq hq => itoa_ok hvb.1 hvb.2 Wq (hLW.below hq)
            obtain ⟨z, hz⟩ : ∃ z, Lib.itoa m = z := ⟨_, rfl⟩
            rw [hz] at HIT hne
            have hne2 : (z == y) = false := by simpa using hne
            clear hn hat hLW hz
            gi_wp2_with fail
            refine ⟨trivial, fun h => (by cases h), (CallsIn.inRound _ ((callsIn_wide (n := n - 1 - 1 - 1 - 1 - 1)).2 HAT.out)).mono ?_⟩
            rintro e w9 ⟨rfl, hb9⟩
            have HB9 := Lib.hid hb9
            clear hb9
            gi_wp2_with fail
            refine ⟨trivial, fun h => (by cases h), (CallsIn.inRound _ ((callsIn_wide (n := n - 1 - 1 - 1 - 1 - 1)).2 (HIT.out _ HB9.out))).mono ?_⟩
            rintro e w4 ⟨rfl, hb4'⟩
            have hb4 : Below W3.heap.size W3 w4 := HB9.out.trans (hb4'.mono HB9.out.size)
            have q0 : Boxed w4 w.heap.size 23 (.slice none 0 0) := (hb4.block _ HX2.out.1.lt).trans HX2.out.1
            have q1 : Boxed w4 (w.heap.size + 1) 25 .nilIface := (hb4.block _ HX2.out.2.lt).trans HX2.out.2
            have q4 : Boxed w4 (w.heap.size + 1 + 1 + 1) 3 (.int .i64 (b : Nat)) := (hb4.block _ g4.lt).trans g4
            have HB4 := Lib.hid hb4
            have c0 := q0.cell
            have f0 := q0.frozen
            have c1 := q1.cell
            have f1 := q1.frozen
            have c4 := q4.cell
            have Q0 := Lib.hid q0
            have Q1 := Lib.hid q1
            clear hb4 hb4' q0 q1 q4 g2 g4
            gi_wp2
            have l0 : w.heap.size < w4.heap.size := Q0.out.lt
            have l1 : w.heap.size + 1 < w4.heap.size := Q1.out.lt
            have l2 : w.heap.size ≠ w4.heap.size := by omega
            have l3 : w.heap.size + 1 ≠ w4.heap.size := by omega
            have hmix : Tryz.prog.follows Departure.mixedOrders = true := by kernel_rfl
            gi_region_o
            all_goals gi_wp2
            all_goals (try go_bits)
            all_goals exact in_fail HII.out (by omega) h7 HSZ.out HWP.out Q0.out Q1.out HB4.out
          · have HAT := Lib.hid (atoi_bad (fun m e => hbad ⟨m, e⟩) (by omega) W3 hLW)
            clear hbad hn hLW
            gi_wp2_with fail
            refine ⟨trivial, fun h => (by cases h), (CallsIn.inRound _ ((callsIn_wide (n := n - 1 - 1 - 1 - 1 - 1)).2 HAT.out)).mono ?_⟩
            rintro e w4 ⟨⟨m, N, rfl⟩, hb4⟩
            have s4 := hb4.size
            have q0 : Boxed w4 w.heap.size 23 (.slice none 0 0) := (hb4.block _ HX2.out.1.lt).trans HX2.out.1
            have q1 : Boxed w4 (w.heap.size + 1) 25 .nilIface := (hb4.block _ HX2.out.2.lt).trans HX2.out.2
            have q4 : Boxed w4 (w.heap.size + 1 + 1 + 1) 3 (.int .i64 (b : Nat)) := (hb4.block _ g4.lt).trans g4
            have HB4 := Lib.hid hb4
            have c0 := q0.cell
            have f0 := q0.frozen
            have c1 := q1.cell
            have f1 := q1.frozen
            have c4 := q4.cell
            have Q0 := Lib.hid q0
            have Q1 := Lib.hid q1
            clear hb4 q0 q1 q4 g2 g4
            gi_wp2
            refine ⟨trivial, ?_⟩
            gi_wp2
            have l0 : w.heap.size < w4.heap.size := Q0.out.lt
            have l1 : w.heap.size + 1 < w4.heap.size := Q1.out.lt
            have l2 : w.heap.size ≠ w4.heap.size := by omega
            have l3 : w.heap.size + 1 ≠ w4.heap.size := by omega
            have hmix : Tryz.prog.follows Departure.mixedOrders = true := by kernel_rfl
            gi_region_o
            all_goals gi_wp2
            all_goals (try go_bits)
            all_goals exact in_fail HII.out (by omega) h7 HSZ.out HWP.out Q0.out Q1.out HB4.out
        | some v =>
          obtain ⟨hat, hit⟩ := num_there hn
          have hvb := atoi_bounds hat
          have HAT := Lib.hid (atoi_good hat (by omega) W3)
          have HIT : Hid (∀ Wq, Below W3.heap.size W3 Wq → Calls Tryz.prog 13 #[.int .i64 v] Wq fun e w' => e = .returned (.string ⟨y.toArray⟩) ∧ Below Wq.heap.size Wq w') := fun Wq hq => by
            have := itoa_ok hvb.1 hvb.2 Wq (hLW.below hq)
            rw [hit] at this
            exact this
          have HNO := Lib.hid hn
          clear hn hat hit hLW
          gi_wp2_with fail
          refine ⟨trivial, fun h => (by cases h), (CallsIn.inRound _ ((callsIn_wide (n := n - 1 - 1 - 1 - 1 - 1)).2 HAT.out)).mono ?_⟩
          rintro e w4 ⟨rfl, hb4⟩
          have HB4 := Lib.hid hb4
          clear hb4
          gi_wp2_with fail
          refine ⟨trivial, fun h => (by cases h), (CallsIn.inRound _ ((callsIn_wide (n := n - 1 - 1 - 1 - 1 - 1)).2 (HIT.out _ HB4.out))).mono ?_⟩
          rintro e w5 ⟨rfl, hb5⟩
          have s4 := HB4.out.size
          have s5 := hb5.size
          have hb5' : Below W3.heap.size W3 w5 := HB4.out.trans (hb5.mono s4)
          have HB5 := Lib.hid hb5'
          have q2 : Boxed w5 W.heap.size 35 rv := (hb5'.block _ g2.lt).trans g2
          have q4 : Boxed w5 (w.heap.size + 1 + 1 + 1) 3 (.int .i64 (b : Nat)) := (hb5'.block _ g4.lt).trans g4
          have HQ2 := Lib.hid q2
          have HQ4 := Lib.hid q4
          have c7 := q2.cell
          have HO5 : Hid (w5.ownsRow (W2.heap.size + 1) 3 1 rv r.length (r.map iv)) := own_below HG3.out hb5'
          clear hb5 hb5' q2 q4
          gi_wp2_with (gi_at_builtin; refine wpListIn_append_own _ rfl _ _ 35 rfl (W2.heap.size + 1) 3 i1 (.int .i64 0) 1 8 Tryz.underlying35 hi' hz0' hz1' hz2' rfl (by decide) _ _ _ rfl (HO5.out.alloc _) ⟨w5.heap.size, 0, none⟩ 1 1 [.int .i64 v] rfl rfl (cell_one_new _ _ _) (by intro u hu; simp at hu; subst hu; rfl) (by unfold maxLen; omega) (by omega) (by have := HG6.out; have := HSZ.out; simp; omega) ?_; intro v' w6 hown' hgrow _; obtain ⟨g', cap', rfl⟩ := ownsRow_succ hown'; have p2 := app_box HQ2.out (by omega) HO5.out hgrow; have p4 := app_box HQ4.out (by omega) HO5.out hgrow; have c2 := p2.cell; have f2 := p2.frozen; have c4 := (p4.other (B' := W.heap.size) (by omega) (.slice (some ⟨g', 0, none⟩) (r.length + 1) cap')).cell; have f4 := p4.frozen)
          have eI : ((b + (y.length + 1) : Nat) : Int) = (b : Int) + ((y.length : Int) + 1) := by omega
          have s6 := hgrow.size
          rw [World.size_alloc] at s6
          have hsz9 := HSZ.out
          have hg9 := HG6.out
          have k3 := (p4.other (B' := W.heap.size) (by omega) (.slice (some ⟨g', 0, none⟩) (r.length + 1) cap')).set (.int .i64 ((b + (y.length + 1) : Nat) : Int))
          rw [eI] at k3
          have hw' : wordsOf a (pre' ++ [y]) = .inl (r ++ [v], b + (y.length + 1)) := by rw [wordsOf_snoc, HG1.out, stepW_inl, if_neg HYN.out, HNO.out]
          refine in_normal HII.out (by omega) h7 HSZ.out hw' ((p2.set _).other (by omega) _) ?_ (by rw [eI]; exact k3) ?_ ?_ ?_
          · rw [List.map_append, List.length_append]
            exact own_from hown' fun k hk1 hk2 => (Below.heap_setCell _ _ _ _ (by show k ≠ w.heap.size + 1 + 1 + 1; omega)).trans (Below.heap_setCell _ _ _ _ (by show k ≠ W.heap.size; omega))
          · intro k k1 k2 k4
            refine (Below.heap_setCell _ _ _ _ k2).trans ((Below.heap_setCell _ _ _ _ k4).trans ((hgrow.block k (by simp; omega) (fun e => by have := (HO5.out.lt _ e.symm).1; omega)).trans ((Below.heap_alloc _ _ _ (by omega)).trans (HB5.out.block k (by omega)))))
          · simp [World.setCell]; omega
          · refine (((((HG7.out.trans (HB5.out.mono (by omega))).alloc (by omega) _).grown hgrow (by simp; omega) (fun k e => by have := (HO5.out.lt _ e).1; omega))).setCell (p := ⟨W.heap.size, 0, none⟩) (by show w.heap.size ≤ W.heap.size; omega) _).setCell (p := ⟨w.heap.size + 1 + 1 + 1, 0, none⟩) (by show w.heap.size ≤ w.heap.size + 1 + 1 + 1; omega) _
    case done2 =>
      rintro W4 ⟨r, b, rv, g1, g2, g3, g4, g5, g6, g7⟩ _
      have c7 := g2.cell
      have HST : Hid (linesOf (pre ++ [x]) = .inl (if r = [] then t else t ++ [r], b)) := by
        show linesOf (pre ++ [x]) = _
        rw [linesOf_snoc, H1.out, stepL_inl, g1]
      have hrl : r.length ≤ 50001 := by
        have := (wordsOf_inl g1).2
        have := cuts_len 32 x
        omega
      have htl : t.length ≤ 50001 := by
        have h1 := (linesOf_inl H1.out).2
        have h2 := span_len pre
        omega
      have HG3 := Lib.hid g3
      have HG4 := Lib.hid g4
      have HG5 := Lib.hid g5
      have HG7 := Lib.hid g7
      have hx4 : Boxed W4 (w.heap.size + 1 + 1) 23 T ∧ RowsOwn W4 (W0.heap.size + 2) T t := by
        exact ⟨(g5 _ (by omega) (by omega)).trans H4.out, H6.out.from fun k hk1 hk2 => g5 k hk2 (by omega)⟩
      have HX4 := Lib.hid hx4
      clear g1 g3 g4 g5 g7 hx4
      cases r with
      | nil =>
        have hsh : ∃ a3 c3, rv = .slice a3 0 c3 := by
          rcases HG3.out.2 with ⟨h, _⟩ | ⟨g3, c3, _, h, _⟩
          · exact ⟨_, _, h⟩
          · exact ⟨_, _, h⟩
        obtain ⟨a3, c3, rfl⟩ := hsh
        have HS1 := Lib.hid hsz1
        clear g2 hsz1
        gi_wp2
        have hsz1 := HS1.out
        exact out_normal HI.out (by omega) HST.out HX4.out.1 HG4.out HX4.out.2 (fun k h1 h2 h3 => HG5.out k (by omega) h3) (by omega) HG7.out
      | cons r0 rs =>
        have HRA : Hid (RowAt W4 (W0.heap.size + 2) rv (r0 :: rs)) := (RowAt.of_own HG3.out (by simp)).mono (by omega)
        obtain ⟨g3, c3, cur3, rfl, hc3, hB3, hh3, ht3⟩ := HRA.out
        have HRC : Hid (RowAt W4 (W0.heap.size + 2) (.slice (some ⟨g3, 0, none⟩) (r0 :: rs).length (r0 :: rs).length) (r0 :: rs)) := ⟨g3, _, cur3, rfl, Nat.le_refl _, hB3, hh3, ht3⟩
        obtain ⟨vs, hvs1, hvs2⟩ := HX4.out.2
        have HV1 := Lib.hid hvs1
        have HV2 := Lib.hid hvs2
        have Q4 := Lib.hid HX4.out.1
        have c4 := HX4.out.1.cell
        have hne : (r0 :: rs) ≠ [] := by simp
        rw [if_neg hne] at HST
        obtain ⟨r, hr⟩ : ∃ r, r0 :: rs = r := ⟨_, rfl⟩
        have hrp : (0 : Int) < (r.length : Int) := by rw [← hr]; simp
        rw [hr] at c7 HST HRA HRC hc3 g2 hrl
        have HS1 := Lib.hid hsz1
        have hmix : Tryz.prog.follows Departure.mixedOrders = true := by kernel_rfl
        clear hvs1 hvs2 g2 hh3 ht3 hr hne hsz1
        gi_wp2
        refine wpIn_region_any hmix ?_
        change wpAnyIn _ _ _ _ _ _ _ _ _ (World.drew _)
        have hN2 : w.heap.size + 1 + 1 < W4.heap.size := Q4.out.lt
        have hN3 : w.heap.size + 1 + 1 ≠ W4.heap.size := by omega
        refine wpAnyIn_ready (rs := [0, 1]) (by kernel_rfl) (by simp) ?_
        refine AllReadyIn.cons rfl (fun K hK => ?_) ?_
        · go_simp
          refine hK _ _ ?_
          clear hK K
          refine wpAnyIn_ready (rs := [1]) (by kernel_rfl) (by simp) ?_
          refine AllReadyIn.cons rfl (fun K hK => ?_) ?_
          · go_simp
            refine hK _ _ ?_
            clear hK K
            refine wpAnyIn_ready (rs := [2]) (by kernel_rfl) (by simp) ?_
            refine AllReadyIn.cons rfl (fun K hK => ?_) ?_
            · go_simp
              refine ⟨trivial, fun h => (by cases h), (CallsIn.inRound _ ((callsIn_wide (n := n - 1 - 1 - 1)).2 (clip_walk _ _ _ _ hc3))).mono ?_⟩
              rintro e w9 ⟨rfl, rfl⟩
              refine hK _ _ ?_
              clear hK K
              refine wpAnyIn_ready (rs := [3]) (by kernel_rfl) (by simp) ?_
              refine AllReadyIn.cons rfl (fun K hK => ?_) ?_
              · go_simp
                refine hK _ _ ?_
                clear hK K
                refine wpAnyIn_ready (rs := [4]) (by kernel_rfl) (by simp) ?_
                refine AllReadyIn.cons rfl (fun K hK => ?_) ?_
                · refine step_append_in rfl _ _ 23 rfl (W0.heap.size + 2) 35 i0 (.slice none 0 0) 1 24 Tryz.underlying23 hi hz0 hz1 hz2 rfl (by decide) T t.length vs rfl (own_heap (w := W4.alloc (.cells #[.slice (some ⟨g3, 0, none⟩) r.length r.length] 35)) (HV1.out.alloc _) rfl) ⟨W4.heap.size, 0, none⟩ 1 1 [.slice (some ⟨g3, 0, none⟩) r.length r.length] rfl rfl (fun j u h => cell_one_new W4 _ 35 j u h) (by intro u hu; simp at hu; subst hu; rfl) (by unfold maxLen; omega) (by omega) (by simp; omega) (fun v' w6 hown' hgrow => ?_)
                  obtain ⟨g', cap', rfl⟩ := ownsRow_succ hown'
                  have p2 : Boxed w6 (w.heap.size + 1 + 1) 23 T := app_box (w5 := W4.drew) Q4.out (by have := HS1.out; omega) (own_heap HV1.out rfl) hgrow
                  have c2 := p2.cell
                  have f2 := p2.frozen
                  refine hK _ _ ?_
                  clear hK K
                  refine wpAnyIn_ready (rs := [5]) (by kernel_rfl) (by simp) ?_
                  refine AllReadyIn.cons rfl (fun K hK => ?_) ?_
                  · go_simp
                    refine hK _ _ ?_
                    clear hK K
                    refine wpAnyIn_done (by kernel_rfl) ?_ _
                    gi_wp2
                    exact out_snoc HI.out (by have := HS1.out; omega) h7 HST.out Q4.out HG4.out HV1.out HV2.out HRC.out HG5.out (by omega) HG7.out hown' ⟨hgrow.os, hgrow.tape, hgrow.output, hgrow.size, hgrow.block⟩
                  exact AllReadyIn.nil
                exact AllReadyIn.nil
              exact AllReadyIn.nil
            exact AllReadyIn.nil
          exact AllReadyIn.nil
        refine AllReadyIn.cons rfl (fun K hK => ?_) ?_
        · go_simp
          refine hK _ _ ?_
          clear hK K
          refine wpAnyIn_ready (rs := [0, 2]) (by kernel_rfl) (by simp) ?_
          refine AllReadyIn.cons rfl (fun K hK => ?_) ?_
          · go_simp
            refine hK _ _ ?_
            clear hK K
            refine wpAnyIn_ready (rs := [2]) (by kernel_rfl) (by simp) ?_
            refine AllReadyIn.cons rfl (fun K hK => ?_) ?_
            · go_simp
              refine ⟨trivial, fun h => (by cases h), (CallsIn.inRound _ ((callsIn_wide (n := n - 1 - 1 - 1)).2 (clip_walk _ _ _ _ hc3))).mono ?_⟩
              rintro e w9 ⟨rfl, rfl⟩
              refine hK _ _ ?_
              clear hK K
              refine wpAnyIn_ready (rs := [3]) (by kernel_rfl) (by simp) ?_
              refine AllReadyIn.cons rfl (fun K hK => ?_) ?_
              · go_simp
                refine hK _ _ ?_
                clear hK K
                refine wpAnyIn_ready (rs := [4]) (by kernel_rfl) (by simp) ?_
                refine AllReadyIn.cons rfl (fun K hK => ?_) ?_
                · refine step_append_in rfl _ _ 23 rfl (W0.heap.size + 2) 35 i0 (.slice none 0 0) 1 24 Tryz.underlying23 hi hz0 hz1 hz2 rfl (by decide) T t.length vs rfl (own_heap (w := W4.alloc (.cells #[.slice (some ⟨g3, 0, none⟩) r.length r.length] 35)) (HV1.out.alloc _) rfl) ⟨W4.heap.size, 0, none⟩ 1 1 [.slice (some ⟨g3, 0, none⟩) r.length r.length] rfl rfl (fun j u h => cell_one_new W4 _ 35 j u h) (by intro u hu; simp at hu; subst hu; rfl) (by unfold maxLen; omega) (by omega) (by simp; omega) (fun v' w6 hown' hgrow => ?_)
                  obtain ⟨g', cap', rfl⟩ := ownsRow_succ hown'
                  have p2 : Boxed w6 (w.heap.size + 1 + 1) 23 T := app_box (w5 := W4.drew) Q4.out (by have := HS1.out; omega) (own_heap HV1.out rfl) hgrow
                  have c2 := p2.cell
                  have f2 := p2.frozen
                  refine hK _ _ ?_
                  clear hK K
                  refine wpAnyIn_ready (rs := [5]) (by kernel_rfl) (by simp) ?_
                  refine AllReadyIn.cons rfl (fun K hK => ?_) ?_
                  · go_simp
                    refine hK _ _ ?_
                    clear hK K
                    refine wpAnyIn_done (by kernel_rfl) ?_ _
                    gi_wp2
                    exact out_snoc HI.out (by have := HS1.out; omega) h7 HST.out Q4.out HG4.out HV1.out HV2.out HRC.out HG5.out (by omega) HG7.out hown' ⟨hgrow.os, hgrow.tape, hgrow.output, hgrow.size, hgrow.block⟩
                  exact AllReadyIn.nil
                exact AllReadyIn.nil
              exact AllReadyIn.nil
            exact AllReadyIn.nil
          refine AllReadyIn.cons rfl (fun K hK => ?_) ?_
          · go_simp
            refine ⟨trivial, fun h => (by cases h), (CallsIn.inRound _ ((callsIn_wide (n := n - 1 - 1 - 1)).2 (clip_walk _ _ _ _ hc3))).mono ?_⟩
            rintro e w9 ⟨rfl, rfl⟩
            refine hK _ _ ?_
            clear hK K
            refine wpAnyIn_ready (rs := [0, 3]) (by kernel_rfl) (by simp) ?_
            refine AllReadyIn.cons rfl (fun K hK => ?_) ?_
            · go_simp
              refine hK _ _ ?_
              clear hK K
              refine wpAnyIn_ready (rs := [3]) (by kernel_rfl) (by simp) ?_
              refine AllReadyIn.cons rfl (fun K hK => ?_) ?_
              · go_simp
                refine hK _ _ ?_
                clear hK K
                refine wpAnyIn_ready (rs := [4]) (by kernel_rfl) (by simp) ?_
                refine AllReadyIn.cons rfl (fun K hK => ?_) ?_
                · refine step_append_in rfl _ _ 23 rfl (W0.heap.size + 2) 35 i0 (.slice none 0 0) 1 24 Tryz.underlying23 hi hz0 hz1 hz2 rfl (by decide) T t.length vs rfl (own_heap (w := W4.alloc (.cells #[.slice (some ⟨g3, 0, none⟩) r.length r.length] 35)) (HV1.out.alloc _) rfl) ⟨W4.heap.size, 0, none⟩ 1 1 [.slice (some ⟨g3, 0, none⟩) r.length r.length] rfl rfl (fun j u h => cell_one_new W4 _ 35 j u h) (by intro u hu; simp at hu; subst hu; rfl) (by unfold maxLen; omega) (by omega) (by simp; omega) (fun v' w6 hown' hgrow => ?_)
                  obtain ⟨g', cap', rfl⟩ := ownsRow_succ hown'
                  have p2 : Boxed w6 (w.heap.size + 1 + 1) 23 T := app_box (w5 := W4.drew) Q4.out (by have := HS1.out; omega) (own_heap HV1.out rfl) hgrow
                  have c2 := p2.cell
                  have f2 := p2.frozen
                  refine hK _ _ ?_
                  clear hK K
                  refine wpAnyIn_ready (rs := [5]) (by kernel_rfl) (by simp) ?_
                  refine AllReadyIn.cons rfl (fun K hK => ?_) ?_
                  · go_simp
                    refine hK _ _ ?_
                    clear hK K
                    refine wpAnyIn_done (by kernel_rfl) ?_ _
                    gi_wp2
                    exact out_snoc HI.out (by have := HS1.out; omega) h7 HST.out Q4.out HG4.out HV1.out HV2.out HRC.out HG5.out (by omega) HG7.out hown' ⟨hgrow.os, hgrow.tape, hgrow.output, hgrow.size, hgrow.block⟩
                  exact AllReadyIn.nil
                exact AllReadyIn.nil
              exact AllReadyIn.nil
            refine AllReadyIn.cons rfl (fun K hK => ?_) ?_
            · go_simp
              refine hK _ _ ?_
              clear hK K
              refine wpAnyIn_ready (rs := [0]) (by kernel_rfl) (by simp) ?_
              refine AllReadyIn.cons rfl (fun K hK => ?_) ?_
              · go_simp
                refine hK _ _ ?_
                clear hK K
                refine wpAnyIn_ready (rs := [4]) (by kernel_rfl) (by simp) ?_
                refine AllReadyIn.cons rfl (fun K hK => ?_) ?_
                · refine step_append_in rfl _ _ 23 rfl (W0.heap.size + 2) 35 i0 (.slice none 0 0) 1 24 Tryz.underlying23 hi hz0 hz1 hz2 rfl (by decide) T t.length vs rfl (own_heap (w := W4.alloc (.cells #[.slice (some ⟨g3, 0, none⟩) r.length r.length] 35)) (HV1.out.alloc _) rfl) ⟨W4.heap.size, 0, none⟩ 1 1 [.slice (some ⟨g3, 0, none⟩) r.length r.length] rfl rfl (fun j u h => cell_one_new W4 _ 35 j u h) (by intro u hu; simp at hu; subst hu; rfl) (by unfold maxLen; omega) (by omega) (by simp; omega) (fun v' w6 hown' hgrow => ?_)
                  obtain ⟨g', cap', rfl⟩ := ownsRow_succ hown'
                  have p2 : Boxed w6 (w.heap.size + 1 + 1) 23 T := app_box (w5 := W4.drew) Q4.out (by have := HS1.out; omega) (own_heap HV1.out rfl) hgrow
                  have c2 := p2.cell
                  have f2 := p2.frozen
                  refine hK _ _ ?_
                  clear hK K
                  refine wpAnyIn_ready (rs := [5]) (by kernel_rfl) (by simp) ?_
                  refine AllReadyIn.cons rfl (fun K hK => ?_) ?_
                  · go_simp
                    refine hK _ _ ?_
                    clear hK K
                    refine wpAnyIn_done (by kernel_rfl) ?_ _
                    gi_wp2
                    exact out_snoc HI.out (by have := HS1.out; omega) h7 HST.out Q4.out HG4.out HV1.out HV2.out HRC.out HG5.out (by omega) HG7.out hown' ⟨hgrow.os, hgrow.tape, hgrow.output, hgrow.size, hgrow.block⟩
                  exact AllReadyIn.nil
                exact AllReadyIn.nil
              exact AllReadyIn.nil
            exact AllReadyIn.nil
          exact AllReadyIn.nil
        exact AllReadyIn.nil
    case stop2 =>
      rintro pre' W4 hp ⟨p, B, g1, g2, g3, g4, g5, g6, g7⟩ _
      have HST : Hid (linesOf (pre ++ [x]) = .inr p) := by
        show linesOf (pre ++ [x]) = _
        rw [linesOf_snoc, H1.out, stepL_inl, wordsOf_stop g1 hp]
      gi_wp2
      exact out_ret HI.out (by omega) HST.out g2 g3 (by omega) g5 (fun k h1 h2 h3 h4 => g6 k (by omega) h2 h3 h4) g7
  case done =>
    rintro W ⟨t, a, T, h1, h2, h3, h4, h5, h6, h7, h8⟩ hD
    have hsh : ∃ a3 n3 c3, T = .slice a3 n3 c3 := by
      obtain ⟨vs, hv, _⟩ := h6
      rcases hv.2 with ⟨h, _⟩ | ⟨g, cap, _, h, _⟩
      · exact ⟨_, _, _, h⟩
      · exact ⟨_, _, _, h⟩
    obtain ⟨a3, n3, c3', rfl⟩ := hsh
    have hrl : ∀ r ∈ t, r.length ≤ 100000 := fun r hr => by
      have := linesOf_rows h1 r hr
      rw [span_cuts] at this
      omega
    have HC := Lib.hid (Check_walk _ t W h6.rows hrl)
    have HR := Lib.hid h6
    have H1 := Lib.hid h1
    have HB := Lib.hid h8
    have HD := Lib.hid hD
    have c4 := h4.cell
    have c2 := h2.cell
    have f2 := h2.frozen
    have c3 := h3.cell
    have f3 := h3.frozen
    have B2 := Lib.hid h2
    have B3 := Lib.hid h3
    have HS1 := Lib.hid hsz1
    clear h1 h2 h3 h4 h5 h6 h8 hD hrl hsz1 bx
    gi_wp2_with fail
    refine ⟨trivial, fun h => (by cases h), ((callsIn_wide (n := n - 1)).2 HC.out).mono ?_⟩
    rintro e w9 ⟨rfl, rfl⟩
    have HRI : Hid (∀ e w', ParseIs s e w' ↔ if checkTri t = 0 then ∃ T, e = .returned (.tuple #[T, .nilIface]) ∧ RowsAt w' T t else e = .returned (.tuple #[.slice none 0 0, .iface 28 (.int .i64 (checkTri t))])) := by
      intro e w'
      unfold ParseIs
      rw [H1.out]
    obtain ⟨q, hq⟩ : ∃ q, checkTri t = q := ⟨_, rfl⟩
    rw [hq] at HRI ⊢
    clear hq
    by_cases h0 : q = 0
    · have he : errOf q = .nilIface := by unfold errOf; rw [if_pos h0]
      rw [he]
      gi_wp2
      have hs := HS1.out
      have hD1 : ((W.setCell ⟨w.heap.size, 0, none⟩ (.slice a3 n3 c3')).setCell ⟨w.heap.size + 1, 0, none⟩ .nilIface).heap[W0.heap.size]? = some (.deferred (some [])) :=
        (Below.heap_setCell _ _ _ _ (by show W0.heap.size ≠ w.heap.size + 1; omega)).trans ((Below.heap_setCell _ _ _ _ (by show W0.heap.size ≠ w.heap.size; omega)).trans HD.out)
      have k0 : Boxed (((W.setCell ⟨w.heap.size, 0, none⟩ (.slice a3 n3 c3')).setCell ⟨w.heap.size + 1, 0, none⟩ .nilIface).putObj W0.heap.size (.deferred none)) w.heap.size 23 (.slice a3 n3 c3') := (World.putObj_heap_other (by omega)).trans ((B2.out.set _).other (by omega) _)
      have k1 : Boxed (((W.setCell ⟨w.heap.size, 0, none⟩ (.slice a3 n3 c3')).setCell ⟨w.heap.size + 1, 0, none⟩ .nilIface).putObj W0.heap.size (.deferred none)) (w.heap.size + 1) 25 .nilIface := (World.putObj_heap_other (by omega)).trans ((B3.out.other (by omega) _).set _)
      have hb5 : Below w.heap.size w (((W.setCell ⟨w.heap.size, 0, none⟩ (.slice a3 n3 c3')).setCell ⟨w.heap.size + 1, 0, none⟩ .nilIface).putObj W0.heap.size (.deferred none)) :=
        below_put ((HB.out.setCell (p := ⟨w.heap.size, 0, none⟩) (Nat.le_refl _) _).setCell (p := ⟨w.heap.size + 1, 0, none⟩) (by show w.heap.size ≤ w.heap.size + 1; omega) _) (by omega) _
      refine ⟨by simp, .inl ⟨_, _, rfl, run_takeDeferred hD1, ?_⟩⟩
      refine ⟨.tuple #[.slice a3 n3 c3', .nilIface], ?_, (HRI.out _ _).2 ?_, hb5⟩
      · have z0 := k0.cell
        have z1 := k1.cell
        simp [results, Tryz.f4, go_sem, z0, z1]
      · rw [if_pos h0]
        refine ⟨_, rfl, (HR.out.from fun k k1 k2 => ?_).rows⟩
        exact (World.putObj_heap_other (by omega)).trans ((Below.heap_setCell _ _ _ _ (by show k ≠ w.heap.size + 1; omega)).trans (Below.heap_setCell _ _ _ _ (by show k ≠ w.heap.size; omega)))
    · have he : errOf q = .iface 28 (.int .i64 q) := by unfold errOf; rw [if_neg h0]
      rw [he]
      gi_wp2
      have hs := HS1.out
      have hD1 : ((W.setCell ⟨w.heap.size, 0, none⟩ (.slice none 0 0)).setCell ⟨w.heap.size + 1, 0, none⟩ (.iface 28 (.int .i64 q))).heap[W0.heap.size]? = some (.deferred (some [])) :=
        (Below.heap_setCell _ _ _ _ (by show W0.heap.size ≠ w.heap.size + 1; omega)).trans ((Below.heap_setCell _ _ _ _ (by show W0.heap.size ≠ w.heap.size; omega)).trans HD.out)
      have k0 : Boxed (((W.setCell ⟨w.heap.size, 0, none⟩ (.slice none 0 0)).setCell ⟨w.heap.size + 1, 0, none⟩ (.iface 28 (.int .i64 q))).putObj W0.heap.size (.deferred none)) w.heap.size 23 (.slice none 0 0) := (World.putObj_heap_other (by omega)).trans ((B2.out.set _).other (by omega) _)
      have k1 : Boxed (((W.setCell ⟨w.heap.size, 0, none⟩ (.slice none 0 0)).setCell ⟨w.heap.size + 1, 0, none⟩ (.iface 28 (.int .i64 q))).putObj W0.heap.size (.deferred none)) (w.heap.size + 1) 25 (.iface 28 (.int .i64 q)) := (World.putObj_heap_other (by omega)).trans ((B3.out.other (by omega) _).set _)
      have hb5 : Below w.heap.size w (((W.setCell ⟨w.heap.size, 0, none⟩ (.slice none 0 0)).setCell ⟨w.heap.size + 1, 0, none⟩ (.iface 28 (.int .i64 q))).putObj W0.heap.size (.deferred none)) :=
        below_put ((HB.out.setCell (p := ⟨w.heap.size, 0, none⟩) (Nat.le_refl _) _).setCell (p := ⟨w.heap.size + 1, 0, none⟩) (by show w.heap.size ≤ w.heap.size + 1; omega) _) (by omega) _
      refine ⟨by simp, .inl ⟨_, _, rfl, run_takeDeferred hD1, ?_⟩⟩
      refine ⟨.tuple #[.slice none 0 0, .iface 28 (.int .i64 q)], ?_, (HRI.out _ _).2 ?_, hb5⟩
      · have z0 := k0.cell
        have z1 := k1.cell
        simp [results, Tryz.f4, go_sem, z0, z1]
      · rw [if_neg h0]
  case stop =>
    rintro pre W hp ⟨p, B, h1, h2, h3, h4, h5, h6⟩ hD
    have HS1 := Lib.hid hsz1
    clear hsz1 bx
    gi_wp2
    have hs := HS1.out
    have k0 : Boxed (W.putObj W0.heap.size (.deferred none)) w.heap.size 23 (.slice none 0 0) := (World.putObj_heap_other (by omega)).trans h2
    have k1 : Boxed (W.putObj W0.heap.size (.deferred none)) (w.heap.size + 1) 25 (.iface 47 (.pointer (some ⟨B, 0, none⟩))) := (World.putObj_heap_other (by omega)).trans h3
    refine ⟨by simp, .inl ⟨_, _, rfl, run_takeDeferred hD, ?_⟩⟩
    refine ⟨.tuple #[.slice none 0 0, .iface 47 (.pointer (some ⟨B, 0, none⟩))], ?_, ?_, below_put h6 (by omega) _⟩
    · have z0 := k0.cell
      have z1 := k1.cell
      simp [results, Tryz.f4, go_sem, z0, z1]
    · unfold ParseIs
      rw [linesOf_stop h1 hp]
      exact ⟨B, rfl, (World.putObj_heap_other (by omega)).trans h5⟩
end Go.Proofs.YtijhkahaccclmaaGreatDoor
