/-
  What a text is cut into at a byte, and the walk of cutAt. Conditions: the text's length.
-/
import Derived.Test.YtijhkahaccclmaaGreatDoorNumber
import Derived.StillTailTactics
import Derived.Maps.AppendAt
set_option linter.unusedSimpArgs false
set_option linter.unusedVariables false
set_option linter.unnecessarySimpa false
namespace Go.Proofs.YtijhkahaccclmaaGreatDoor
open Go Go.RowKit

/-- A text's pieces at a byte. -/
def cuts (d : UInt8) : List UInt8 → List (List UInt8)
  | [] => [[]]
  | c :: s => if c = d then [] :: cuts d s else
    match cuts d s with
    | [] => [[c]]
    | p :: ps => (c :: p) :: ps
theorem cuts_ne (d : UInt8) (s : List UInt8) : cuts d s ≠ [] := by
  cases s with
  | nil => simp [cuts]
  | cons c s =>
    rw [cuts]
    split
    · simp
    · split <;> simp
theorem cuts_none {d : UInt8} {s : List UInt8} (h : d ∉ s) : cuts d s = [s] := by
  induction s with
  | nil => rfl
  | cons c s ih =>
    have h1 : c ≠ d := fun e => h (by rw [e]; exact List.mem_cons_self)
    rw [cuts, if_neg h1, ih (fun hm => h (List.mem_cons_of_mem _ hm))]
theorem cuts_app {d : UInt8} {p s : List UInt8} (h : d ∉ p) : cuts d (p ++ d :: s) = p :: cuts d s := by
  induction p with
  | nil => rw [List.nil_append, cuts, if_pos rfl]
  | cons c p ih =>
    have h1 : c ≠ d := fun e => h (by rw [e]; exact List.mem_cons_self)
    rw [List.cons_append, cuts, if_neg h1, ih (fun hm => h (List.mem_cons_of_mem _ hm))]
theorem cuts_snoc_sep (d : UInt8) (s : List UInt8) : cuts d (s ++ [d]) = cuts d s ++ [[]] := by
  induction s with
  | nil => simp [cuts]
  | cons c s ih =>
    rw [List.cons_append, cuts, cuts, ih]
    split
    · rfl
    · cases h : cuts d s with
      | nil => exact absurd h (cuts_ne d s)
      | cons p ps => rfl
theorem cuts_snoc (d : UInt8) (s : List UInt8) {c : UInt8} (hc : c ≠ d) : ∃ ps p, cuts d s = ps ++ [p] ∧ cuts d (s ++ [c]) = ps ++ [p ++ [c]] := by
  induction s with
  | nil => exact ⟨[], [], rfl, by simp [cuts, hc]⟩
  | cons b s ih =>
    obtain ⟨ps, p, h1, h2⟩ := ih
    rw [List.cons_append, cuts, cuts, h1, h2]
    split
    · exact ⟨[] :: ps, p, rfl, rfl⟩
    · cases ps with
      | nil => exact ⟨[], b :: p, rfl, rfl⟩
      | cons q qs => exact ⟨(b :: q) :: qs, p, rfl, rfl⟩
theorem cuts_len (d : UInt8) (s : List UInt8) : (cuts d s).length ≤ s.length + 1 := by
  induction s with
  | nil => simp [cuts]
  | cons c s ih =>
    rw [cuts]
    split
    · simp; exact ih
    · cases h : cuts d s with
      | nil => simp
      | cons p ps => rw [h] at ih; simp at ih ⊢; omega

/-- How much of the text pieces take. -/
def span (L : List (List UInt8)) : Nat := (L.map fun p => p.length + 1).sum
theorem span_cons (p : List UInt8) (L : List (List UInt8)) : span (p :: L) = p.length + 1 + span L := rfl
theorem span_append (L M : List (List UInt8)) : span (L ++ M) = span L + span M := by simp [span]
theorem span_cuts (d : UInt8) (s : List UInt8) : span (cuts d s) = s.length + 1 := by
  induction s with
  | nil => rfl
  | cons c s ih =>
    rw [cuts]
    split
    · rw [span_cons, ih]; simp; omega
    · cases h : cuts d s with
      | nil => exact absurd h (cuts_ne d s)
      | cons p ps =>
        rw [h, span_cons] at ih
        simp only [span_cons, List.length_cons]
        omega
theorem span_len (L : List (List UInt8)) : L.length ≤ span L := by
  induction L with
  | nil => exact Nat.zero_le _
  | cons p L ih => rw [span_cons, List.length_cons]; omega

def strV (p : List UInt8) : Value := .string ⟨p.toArray⟩
/-- The value is a slice of these texts. -/
def StrsAt (w : World) (v : Value) (l : List (List UInt8)) : Prop := Reads w v l.length fun j => strV (l.getD j [])
theorem StrsAt.below {w w' : World} {v : Value} {l : List (List UInt8)} (h : StrsAt w v l) (hb : Below w.heap.size w w') : StrsAt w' v l := Reads.below h hb

theorem Tryz.info9 : (Tryz.prog.info? 9).map (fun i => (i.zero, i.size, i.bytes)) = some (some (.string ⟨#[]⟩), 1, 16) := by kernel_rfl

theorem owns_len {w : World} {B e n : Nat} {v : Value} {L : List (List UInt8)} (h : w.ownsRow B e 1 v n (L.map strV)) : L.length = n := by
  have := h.1
  simpa using this
theorem owns_cell {w : World} {B e g n cap : Nat} {L : List (List UInt8)} (h : w.ownsRow B e 1 (.slice (some ⟨g, 0, none⟩) n cap) n (L.map strV)) {j : Nat} (hj : j < n) : w.cell? ⟨g, j, none⟩ = some (strV (L.getD j [])) := by
  rw [h.cellAt j (by omega)]
  have hl := owns_len h
  simp [List.getD, List.getElem?_eq_getElem (show j < L.length by omega)]
theorem owns_strs {w : World} {B g n cap : Nat} {L : List (List UInt8)} (h : w.ownsRow B 9 1 (.slice (some ⟨g, 0, none⟩) n cap) n (L.map strV)) : StrsAt w (.slice (some ⟨g, 0, none⟩) n cap) L := by
  have hl := owns_len h
  have hcap : n ≤ cap := by
    rcases h.2 with ⟨h', _⟩ | ⟨g', cap', cur, h', _, _, hc, _⟩
    · cases h'
    · cases h'; exact hc
  refine ⟨_, cap, by rw [hl], by omega, fun j hj => ⟨g, 0, rfl, (h.lt g rfl).2, ?_⟩⟩
  rw [Nat.zero_add]
  exact owns_cell h (by omega)
/-- A row that is laid whole. -/
theorem own_laid (w : World) (e : TypeId) (vs : List Value) (hm : vs.length ≤ maxLen) : (w.alloc (.cells vs.toArray e)).ownsRow w.heap.size e 1 (.slice (some ⟨w.heap.size, 0, none⟩) vs.length vs.length) vs.length vs :=
  ⟨by simp, .inr ⟨w.heap.size, vs.length, vs.toArray, rfl, Nat.le_refl _, alloc_new w _, Nat.le_refl _, hm, by simp, by simp⟩⟩

/-- What holds at the head of cutAt's loop. -/
def CutA (d : UInt8) (s : List UInt8) (w : World) (out i : Value) (wr : World) : Prop :=
  ∃ (k g n cap : Nat) (L : List (List UInt8)), k ≤ s.length ∧ i = .int .i64 (k : Int) ∧ out = .slice (some ⟨g, 0, none⟩) n cap ∧ wr.ownsRow w.heap.size 9 1 (.slice (some ⟨g, 0, none⟩) n cap) n (L.map strV) ∧
    L = cuts d (s.take k) ∧ Below w.heap.size w wr

set_option maxRecDepth 100000 in
set_option maxHeartbeats 4000000 in
theorem cutAt_walk (d : UInt8) (s : List UInt8) (w : World) (hs : s.length ≤ 100000) :
    Calls Tryz.prog 16 #[.string ⟨s.toArray⟩, .int .u8 (d.toNat : Int)] w fun e w' => (∃ v, e = .returned v ∧ StrsAt w' v (cuts d s)) ∧ Below w.heap.size w w' := by
  obtain ⟨i0, hi, hz0, hz1, hz2⟩ := info_parts Tryz.info9
  have hsz : (⟨s.toArray⟩ : ByteArray).size = s.length := Lib.size_mk s
  go_enter Tryz.func16, Tryz.ntmps16
  go_wp2
  go_loopw [5, 6] (CutA d s w) (fun _ i _ => s.length - (intOf i).toNat)
  case atStart =>
    exact ⟨0, w.heap.size, 1, 1, [[]], Nat.zero_le _, rfl, rfl, own_laid w 9 [.string ⟨#[]⟩] (by decide), by simp [cuts], (Below.refl _ _).alloc (Nat.le_refl _) _⟩
  case round =>
    obtain ⟨k, g, n, cap, L, hk, rfl, rfl, hown, hL, hbw⟩ := hrel
    have HOWN := Lib.hid hown
    have HBW := Lib.hid hbw
    have hn : L.length = n := owns_len hown
    have hnk : n ≤ k + 1 := by rw [← hn, hL]; have := cuts_len d (s.take k); rw [List.length_take] at this; omega
    have HL := Lib.hid hL
    have HN := Lib.hid hn
    clear hown hL hbw hn
    have hk0 : (0 : Int) ≤ (k : Int) := Int.natCast_nonneg _
    have hsw := HBW.out.size
    by_cases hlt : k < s.length
    · obtain ⟨c, hc⟩ : ∃ c, s[k] = c := ⟨_, rfl⟩
      have hlt' : k < (⟨s.toArray⟩ : ByteArray).size := by rw [hsz]; exact hlt
      have hk1 : (k : Int) < ((⟨s.toArray⟩ : ByteArray).size : Int) := by omega
      have hcb : ((⟨s.toArray⟩ : ByteArray)[k]'hlt') = c := hc
      have hts : s.take (k + 1) = s.take k ++ [c] := by rw [List.take_succ_eq_append_getElem hlt, hc]
      have HTS := Lib.hid hts
      clear hts
      by_cases hcd : c = d
      · have hb : ((c.toNat : Int) == (d.toNat : Int)) = true := by rw [hcd]; simp
        go_wp2_with (at_builtin; refine wpList_append_own (P := Tryz.prog) _ rfl _ _ 51 rfl w.heap.size 9 i0 (.string ⟨#[]⟩) 1 16 Tryz.underlying51 hi hz0 hz1 hz2 rfl (by decide) _ _ _ rfl (HOWN.out.alloc _) ⟨wr.heap.size, 0, none⟩ 1 1 [.string ⟨#[]⟩] rfl rfl ?c1 ?c2 ?c3 ?c4 ?c5 ?_)
        case c1 => exact cell_one_new wr _ _
        case c2 => intro u hu; simp at hu; subst hu; rfl
        case c3 => unfold maxLen; omega
        case c4 => omega
        case c5 => simp; omega
        intro v' w1 hown' hgrow _
        have R := (HBW.out.alloc hsw _).grown hgrow (by simp; omega) (fun b h => (HOWN.out.lt b h).1)
        clear hgrow
        obtain ⟨g', cap', rfl⟩ := ownsRow_succ hown'
        have HO' : Hid (w1.ownsRow w.heap.size 9 1 (.slice (some ⟨g', 0, none⟩) (n + 1) cap') (n + 1) ((L ++ [[]]).map strV)) := by rw [List.map_append]; exact hown'
        clear hown'
        go_wp2
        go_roundw
        case rel => exact ⟨k + 1, g', n + 1, cap', L ++ [[]], hlt, by go_num, rfl, HO'.out, by rw [HTS.out, hcd, cuts_snoc_sep, HL.out], R⟩
        case measure => simp [intOf]; omega
      · have hb : ((c.toNat : Int) == (d.toNat : Int)) = false := by rw [beq_eq_false_iff_ne]; intro e; exact hcd (UInt8.toNat_inj.1 (by exact_mod_cast e))
        obtain ⟨ps, p, h1, h2⟩ := cuts_snoc d (s.take k) hcd
        have hLp : L = ps ++ [p] := HL.out.trans h1
        have hq : n = ps.length + 1 := by rw [← HN.out, hLp]; simp
        obtain ⟨q, hq'⟩ : ∃ q, ps.length = q := ⟨_, rfl⟩
        rw [hq'] at hq
        subst hq
        have hcell : wr.cell? ⟨g, q, none⟩ = some (.string ⟨p.toArray⟩) := by
          rw [owns_cell HOWN.out (by omega), hLp]
          simp [List.getD, ← hq', strV]
        have hfro : wr.frozen? ⟨g, q, none⟩ = false := HOWN.out.frozenAt _
        have hpl : ¬ 9223372036854775807 < p.length + 1 := by
          have e := span_cuts d (s.take k)
          rw [h1, span_append, span_cons, List.length_take] at e
          omega
        have HQ := Lib.hid hq'
        have HLP := Lib.hid hLp
        have H2 := Lib.hid h2
        clear h1 h2 hLp hq'
        have hq0 : (0 : Int) ≤ (q : Int) := Int.natCast_nonneg _
        have hq1 : (0 : Int) ≤ (q : Int) + 1 - 1 := by omega
        have hq2 : (q : Int) + 1 - 1 < (q : Int) + 1 := by omega
        have hq3 : (q : Int) + 1 - 1 = q := by omega
        have hkw : IntKind.i64.wrap ((k : Int) + 1) = (k : Int) + 1 := by rw [IntKind.wrap_i64]; omega
        have hq5 : (q : Int) < (q : Int) + 1 := by omega
        have hk2 : (k : Int) + 1 ≤ ((⟨s.toArray⟩ : ByteArray).size : Int) := by omega
        have hk3 : (k : Int) ≤ (k : Int) + 1 := by omega
        have hk4 : (k : Int) + 1 ≤ (s.length : Int) := by omega
        have hqw : IntKind.i64.wrap (q : Int) = q := by rw [IntKind.wrap_i64]; omega
        have hex : (⟨s.toArray⟩ : ByteArray).extract k (k + 1) = ⟨#[c]⟩ := by
          rw [Lib.extract_mk, List.drop_eq_getElem_cons hlt, Nat.add_sub_cancel_left, hc]; rfl
        go_wp2
        go_still_tail 13, (by kernel_rfl)
        change wpList _ _ _ _ _ wr.drew
        go_wp2
        go_roundw
        case rel =>
          have hap : (⟨p.toArray⟩ : ByteArray) ++ ⟨#[c]⟩ = ⟨(p ++ [c]).toArray⟩ := by
            apply ByteArray.ext
            rw [ByteArray.data_append]
            simp
          have hset : (L.map strV).set q (strV (p ++ [c])) = (ps ++ [p ++ [c]]).map strV := by
            rw [← List.map_set, HLP.out, List.set_append_right _ _ (by rw [HQ.out]; exact Nat.le_refl _), HQ.out, Nat.sub_self]; rfl
          have hst := (HOWN.out.stored q (strV (p ++ [c]))).1
          rw [hset] at hst
          refine ⟨k + 1, g, q + 1, cap, ps ++ [p ++ [c]], hlt, by go_num, rfl, own_heap hst ?_, by rw [HTS.out, H2.out], (HBW.out.setCell (p := ⟨g, q, none⟩) ?_ _).drew⟩
          · rw [hap]; rfl
          · exact (HOWN.out.lt g rfl).1
        case measure => simp [intOf]; omega
    · go_wp2
      go_ret
      obtain rfl : k = s.length := by omega
      have hL := HL.out
      rw [List.take_length] at hL
      subst hL
      exact ⟨⟨_, rfl, owns_strs HOWN.out⟩, HBW.out⟩
end Go.Proofs.YtijhkahaccclmaaGreatDoor
