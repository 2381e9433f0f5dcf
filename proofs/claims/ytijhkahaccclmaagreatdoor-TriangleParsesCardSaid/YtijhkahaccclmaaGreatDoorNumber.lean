/-
  The walk of number: what a text is worth as a whole number, or that it is none. Condition: the text's length.
-/
import Derived.Test.YtijhkahaccclmaaGreatDoorInt
import Derived.Test.YtijhkahaccclmaaGreatDoorShelf
import Derived.RangeFuncNested
import Derived.Shelf.Strings.SlTrimAscii
set_option linter.unusedSimpArgs false
set_option linter.unusedVariables false
set_option linter.unnecessarySimpa false
namespace Go.Proofs.YtijhkahaccclmaaGreatDoor
open Go Go.RowKit

def isDigit (c : UInt8) : Bool := decide (48 ≤ c.toNat) && decide (c.toNat ≤ 57)
/-- The digits' list. -/
def ten : List UInt8 := [48, 49, 50, 51, 52, 53, 54, 55, 56, 57]
theorem ten_contains (c : UInt8) : ten.contains c = isDigit c := by
  by_cases h : isDigit c = true
  · rw [h]
    unfold isDigit at h
    simp only [Bool.and_eq_true, decide_eq_true_eq] at h
    have h1 : c = UInt8.ofNat c.toNat := by simp
    have h2 : c.toNat = 48 ∨ c.toNat = 49 ∨ c.toNat = 50 ∨ c.toNat = 51 ∨ c.toNat = 52 ∨ c.toNat = 53 ∨ c.toNat = 54 ∨ c.toNat = 55 ∨ c.toNat = 56 ∨ c.toNat = 57 := by omega
    rcases h2 with e | e | e | e | e | e | e | e | e | e <;> rw [h1, e] <;> decide
  · have h' : isDigit c = false := by simpa using h
    rw [h']
    unfold isDigit at h
    simp only [Bool.and_eq_true, decide_eq_true_eq] at h
    rw [List.contains_eq_any_beq, List.any_eq_false]
    intro x hx e
    have e' : c = x := by simpa using e
    subst e'
    simp only [ten, List.mem_cons, List.not_mem_nil, or_false] at hx
    rcases hx with rfl | rfl | rfl | rfl | rfl | rfl | rfl | rfl | rfl | rfl <;> exact h (by decide)

def digitsOf (t : List UInt8) : List Nat := t.map fun c => c.toNat - 48
/-- What a text is worth as a whole number. -/
def numOf (l : List UInt8) : Option Int :=
  let t := Lib.trimPrefix l [45]
  if t = [] ∨ t.all isDigit = false ∨ (t.head? = some 48 ∧ l ≠ [48]) then none
  else if fits (decide (t ≠ l)) (digits (digitsOf t)) then some (sgn (decide (t ≠ l)) (digits (digitsOf t))) else none

theorem trim_digits (s : ByteArray) (w : World) (hs : s.size ≤ 100000) :
    Calls Tryz.prog 28 #[.string s, .string ⟨#[48, 49, 50, 51, 52, 53, 54, 55, 56, 57]⟩] w fun e w' => e = .returned (.string ⟨(Lib.trimS s.data.toList ten).toArray⟩) ∧ Below w.heap.size w w' :=
  Any.strings_Trim_laid Tryz.lays160 (by kernel_rfl) s ⟨#[48, 49, 50, 51, 52, 53, 54, 55, 56, 57]⟩ w (by omega) (by decide) (ascii_of_all (by decide))

/-- number's answer. -/
def numEnd (o : Option Int) : Value := match o with
  | some n => .tuple #[.int .i64 n, .bool true]
  | none => .tuple #[.int .i64 0, .bool false]

theorem trim_strings (s : ByteArray) (t z : List UInt8) (ht : Lib.trimPrefix s.data.toList [45] = t) (hz : Lib.trimS t ten = z) (hs : t.length ≤ 100000) :
    (∀ w, Calls Tryz.prog 27 #[.string s, .string ⟨#[45]⟩] w fun e w' => e = .returned (.string ⟨t.toArray⟩) ∧ w = w') ∧
    ∀ w, Calls Tryz.prog 28 #[.string ⟨t.toArray⟩, .string ⟨#[48, 49, 50, 51, 52, 53, 54, 55, 56, 57]⟩] w fun e w' => e = .returned (.string ⟨z.toArray⟩) ∧ Below w.heap.size w w' := by
  subst hz
  subst ht
  exact ⟨fun w => (Tryz.strings_TrimPrefix s ⟨#[45]⟩ w).mono (fun _ _ h => ⟨h.1, h.2.symm⟩), fun w => trim_digits ⟨_⟩ w (by rw [Lib.size_eq]; exact hs)⟩

theorem num_set {w : World} {v : Value} {N : Nat} {a : Addr} {u u' : Value} (h : NumAt w v N) (ha : w.cell? a = some u) (hu : ∀ n, u ≠ .int .u32 n) : NumAt (w.setCell a u') v N := by
  obtain ⟨l, ⟨⟨p, c, rfl, hc, hall⟩, hlt⟩, hw⟩ := h
  refine ⟨l, ⟨⟨p, c, rfl, hc, fun j hj => ?_⟩, hlt⟩, hw⟩
  obtain ⟨g, o, e, hg, hx⟩ := hall j hj
  refine ⟨g, o, e, by rw [World.size_setCell]; exact hg, ?_⟩
  rw [World.cell?_setCell_other]
  · exact hx
  · intro e2
    rw [e2, hx] at ha
    exact hu _ (Option.some.inj ha).symm

theorem allDigits_of {t : List UInt8} (h : t.all isDigit = true) : (∀ k (hk : k < (⟨t.toArray⟩ : ByteArray).size), ((⟨t.toArray⟩ : ByteArray)[k]'hk).toNat = 48 + (digitsOf t).getD k 0) ∧ ∀ k, (digitsOf t).getD k 0 ≤ 9 := by
  have key : ∀ k (hk : k < t.length), (digitsOf t).getD k 0 = t[k].toNat - 48 ∧ 48 ≤ t[k].toNat ∧ t[k].toNat ≤ 57 := by
    intro k hk
    have h1 := List.all_eq_true.1 h _ (List.getElem_mem hk)
    unfold isDigit at h1
    simp only [Bool.and_eq_true, decide_eq_true_eq] at h1
    exact ⟨by unfold digitsOf; rw [List.getD, List.getElem?_map, List.getElem?_eq_getElem hk]; rfl, h1⟩
  constructor
  · intro k hk
    have hk' : k < t.length := hk
    obtain ⟨e, h1, h2⟩ := key k hk'
    have e2 : ((⟨t.toArray⟩ : ByteArray)[k]'hk) = t[k] := by
      have := Lib.getElem_mk t k hk
      rw [List.getElem?_eq_getElem hk'] at this
      exact (Option.some.inj this).symm
    rw [e2, e]; omega
  · intro k
    by_cases hk : k < t.length
    · obtain ⟨e, h1, h2⟩ := key k hk
      omega
    · rw [getD_out (by simp [digitsOf]; omega)]; omega

theorem trimPrefix_minus (l t : List UInt8) (h : Lib.trimPrefix l [45] = t) : l = 45 :: t ∨ l = t := by
  unfold Lib.trimPrefix at h
  split at h
  · rename_i hp
    cases l with
    | nil => simp [Lib.hasPrefix] at hp
    | cons c l =>
      left
      simp at h
      subst h
      have : c = 45 := by
        unfold Lib.hasPrefix at hp
        simp at hp
        exact hp.symm
      rw [this]
  · exact .inr h

theorem setString_any (l t : List UInt8) (ht : Lib.trimPrefix l [45] = t) (hd : t.all isDigit = true) (h0 : t ≠ []) (hl : t.length ≤ 50000)
    (b : Nat) (w : World) (v0 v1 : Value) (hb : b < w.heap.size) (c0 : w.cell? ⟨b, 0, none⟩ = some v0) (c1 : w.cell? ⟨b, 1, none⟩ = some v1) (f0 : w.frozen? ⟨b, 0, none⟩ = false) (f1 : w.frozen? ⟨b, 1, none⟩ = false) :
    Calls Tryz.prog 29 #[.pointer (some ⟨b, 0, none⟩), .string ⟨l.toArray⟩, .int .i64 10] w (SetIs (decide (t ≠ l)) (digits (digitsOf t)) b w) := by
  obtain ⟨hd1, hd2⟩ := allDigits_of hd
  have hlen : (digitsOf t).length = t.length := by simp [digitsOf]
  have hpos : 0 < t.length := by cases t with | nil => exact absurd rfl h0 | cons c t => simp
  have hsz : (⟨t.toArray⟩ : ByteArray).size = (digitsOf t).length := by rw [hlen]; simp [ByteArray.size]
  rcases trimPrefix_minus l t ht with rfl | rfl
  · have e : decide (t ≠ 45 :: t) = true := decide_eq_true (by intro e; have := congrArg List.length e; simp at this)
    rw [e]
    have hs0 : 0 < (⟨(45 :: t).toArray⟩ : ByteArray).size := by simp [ByteArray.size]
    refine SetString_neg ⟨(45 :: t).toArray⟩ ⟨t.toArray⟩ (digitsOf t) hs0 ?_ ?_ hsz hd1 hd2 (by omega) (by omega) b w v0 v1 hb c0 c1 f0 f1
    · have := Lib.getElem_mk (45 :: t) 0 hs0
      rw [← Option.some.inj this]; rfl
    · rw [Lib.extract_mk]
      have : (⟨(45 :: t).toArray⟩ : ByteArray).size = t.length + 1 := by simp [ByteArray.size]
      rw [this]; simp
  · have e : decide (l ≠ l) = false := by simp
    rw [e]
    exact SetString_pos ⟨l.toArray⟩ (digitsOf l) hsz hd1 hd2 (by omega) (by omega) b w v0 v1 hb c0 c1 f0 f1

theorem mem_takeWhile_imp {α : Type} {p : α → Bool} {l : List α} {x : α} (h : x ∈ l.takeWhile p) : p x = true := by
  induction l with
  | nil => simp at h
  | cons y l ih =>
    by_cases hy : p y = true
    · rw [List.takeWhile_cons_of_pos hy, List.mem_cons] at h
      rcases h with rfl | h
      · exact hy
      · exact ih h
    · rw [List.takeWhile_cons_of_neg hy] at h
      simp at h
theorem dropWhile_nil {α : Type} (p : α → Bool) (l : List α) : l.dropWhile p = [] ↔ ∀ x ∈ l, p x = true := by
  induction l with
  | nil => simp
  | cons x l ih =>
    rw [List.dropWhile_cons]
    by_cases h : p x = true
    · rw [if_pos h, ih]; simp [h]
    · rw [if_neg h]; simp [h]
theorem trimS_nil_iff (t : List UInt8) : Lib.trimS t ten = [] ↔ t.all isDigit = true := by
  unfold Lib.trimS Lib.trimLeftS Lib.trimRightS
  rw [dropWhile_nil]
  constructor
  · intro h
    rw [List.all_eq_true]
    intro c hc
    by_cases hm : c ∈ (t.reverse.dropWhile (ten.contains ·)).reverse
    · have := h c hm
      rw [← ten_contains]; exact this
    · rw [List.mem_reverse] at hm
      have hc' : c ∈ t.reverse := List.mem_reverse.2 hc
      rw [← List.takeWhile_append_dropWhile (p := (ten.contains ·)) (l := t.reverse), List.mem_append] at hc'
      rcases hc' with h1 | h1
      · rw [← ten_contains]; exact mem_takeWhile_imp (p := (ten.contains ·)) h1
      · exact absurd h1 hm
  · intro h c hc
    rw [List.mem_reverse] at hc
    have hc' : c ∈ t := List.mem_reverse.1 ((List.dropWhile_sublist _).mem hc)
    rw [ten_contains]
    exact List.all_eq_true.1 h c hc'

theorem int_set {w : World} {b : Nat} {v v1 : Value} {N : Nat} {u q : Bool} (h : NumAt w v N) (h0 : w.cell? ⟨b, 0, none⟩ = some (.bool u)) (h1 : w.cell? ⟨b, 1, none⟩ = some v1) (hv1 : ∀ n, v1 ≠ .int .u32 n) :
    IntAt ((w.setCell ⟨b, 1, none⟩ v).setCell ⟨b, 0, none⟩ (.bool q)) b q N := by
  have hne : (⟨b, 0, none⟩ : Addr) ≠ ⟨b, 1, none⟩ := by intro e; cases e
  have c0 : (w.setCell ⟨b, 1, none⟩ v).cell? ⟨b, 0, none⟩ = some (.bool u) := by
    rw [World.cell?_setCell_other]
    · exact h0
    · exact hne.symm
  refine ⟨v, ?_, ?_, num_set (num_set h h1 hv1) c0 (fun n e => by cases e)⟩
  · exact World.cell?_setCell_same' _ _ _ (by rw [c0]; rfl)
  · rw [World.cell?_setCell_other]
    · exact World.cell?_setCell_same' _ _ _ (by rw [h1]; rfl)
    · exact hne
theorem alloc_new (w : World) (o : Obj) : (w.alloc o).heap[w.heap.size]? = some o := by
  show (w.heap.push o)[w.heap.size]? = some o
  simp
theorem cell0_two (w : World) (u v : Value) (t : TypeId) : (w.alloc (.cells #[u, v] t)).cell? ⟨w.heap.size, 0, none⟩ = some u := by
  unfold World.cell?
  rw [alloc_new]; rfl
theorem cell1_two (w : World) (u v : Value) (t : TypeId) : (w.alloc (.cells #[u, v] t)).cell? ⟨w.heap.size, 1, none⟩ = some v := by
  unfold World.cell?
  rw [alloc_new]; rfl
theorem frozen_two (w : World) (u v : Value) (t : TypeId) (o : Nat) : (w.alloc (.cells #[u, v] t)).frozen? ⟨w.heap.size, o, none⟩ = false := by
  unfold World.frozen?
  rw [alloc_new]
  simp
theorem fits_and (neg : Bool) (N : Nat) : fits (neg && decide (0 < N)) N = fits neg N := by
  cases neg with
  | false => rfl
  | true =>
    rcases Nat.eq_zero_or_pos N with h | h
    · subst h; rfl
    · rw [decide_eq_true h]; rfl
theorem sgn_and (neg : Bool) (N : Nat) : sgn (neg && decide (0 < N)) N = sgn neg N := by
  cases neg with
  | false => rfl
  | true =>
    rcases Nat.eq_zero_or_pos N with h | h
    · subst h; rfl
    · rw [decide_eq_true h]; rfl

set_option maxHeartbeats 1000000 in
theorem number_walk (l : List UInt8) (w : World) (hs : l.length ≤ 50000) :
    Calls Tryz.prog 17 #[.string ⟨l.toArray⟩] w fun e w' => e = .returned (numEnd (numOf l)) ∧ Below w.heap.size w w' := by
  obtain ⟨t, ht⟩ : ∃ t, Lib.trimPrefix l [45] = t := ⟨_, rfl⟩
  obtain ⟨z, hz⟩ : ∃ z, Lib.trimS t ten = z := ⟨_, rfl⟩
  have htl : t.length ≤ 50000 := by
    rcases trimPrefix_minus l t ht with rfl | rfl
    · simp at hs; omega
    · exact hs
  have HC := Lib.hid (trim_strings ⟨l.toArray⟩ t z ht hz (by omega))
  have HT := Lib.hid ht
  have HZ := Lib.hid hz
  clear ht hz
  by_cases h0 : t = []
  · have HN : Hid (numOf l = none) := by
      show numOf l = none
      unfold numOf; rw [HT.out]; exact if_pos (.inl h0)
    subst h0
    go_enter Tryz.func17, Tryz.ntmps17
    go_wp2_with (go_at_call 27; refine (HC.out.1 _).mono ?_; rintro e w' ⟨rfl, rfl⟩)
    go_ret2
    exact ⟨by rw [HN.out]; rfl, Below.refl _ _⟩
  · go_enter Tryz.func17, Tryz.ntmps17
    go_wp2_with (go_at_call 27; refine (HC.out.1 _).mono ?_; rintro e w' ⟨rfl, rfl⟩)
    refine (HC.out.2 _).mono ?_
    rintro e w1 ⟨rfl, hb1⟩
    have HB1 := Lib.hid hb1
    clear hb1
    by_cases hz0 : z = []
    · subst hz0
      have HA : Hid (t.all isDigit = true) := (trimS_nil_iff t).1 HZ.out
      by_cases hlead : t.head? = some 48 ∧ l ≠ [48]
      · have HN : Hid (numOf l = none) := by
          show numOf l = none
          unfold numOf; rw [HT.out]; exact if_pos (.inr (.inr hlead))
        obtain ⟨t', rfl⟩ : ∃ t', t = 48 :: t' := by
          cases t with
          | nil => exact absurd rfl h0
          | cons c t' => have := hlead.1; simp at this; exact ⟨t', by rw [this]⟩
        have h48 : (((⟨(48 :: t').toArray⟩ : ByteArray)[0]'(by simp [ByteArray.size])).toNat : Int) = 48 := rfl
        have hl48 : (l == [48]) = false := by simpa using hlead.2
        clear hlead
        go_wp2
        go_ret2
        exact ⟨by rw [HN.out]; rfl, HB1.out⟩
      · have HN : Hid (numOf l = if fits (decide (t ≠ l)) (digits (digitsOf t)) then some (sgn (decide (t ≠ l)) (digits (digitsOf t))) else none) := by
          show numOf l = _
          unfold numOf; rw [HT.out]; exact if_neg (by rintro (h | h | h); exact h0 h; rw [HA.out] at h; cases h; exact hlead h)
        have HB : Hid (digits (digitsOf t) < 4294967296 ^ t.length) := by
          have := digits_bound (digitsOf t) t.length (allDigits_of HA.out).2
          rw [List.take_of_length_le (by simp [digitsOf])] at this
          exact this
        have HS := fun w v0 v1 hb c0 c1 f0 f1 => Lib.hid (setString_any l t HT.out HA.out h0 htl w1.heap.size w v0 v1 hb c0 c1 f0 f1)
        obtain ⟨neg, hneg⟩ : ∃ neg, decide (t ≠ l) = neg := ⟨_, rfl⟩
        obtain ⟨N, hN⟩ : ∃ N, digits (digitsOf t) = N := ⟨_, rfl⟩
        rw [hneg, hN] at HN HS
        rw [hN] at HB
        clear hN
        by_cases h48 : t.head? = some 48
        · have hl : l = [48] := by
            by_cases h : l = [48]
            · exact h
            · exact absurd ⟨h48, h⟩ hlead
          subst hl
          have ht1 : t = [48] := HT.out.symm
          subst ht1
          clear h48 hlead hneg
          go_wp2_with fail
          have hb1 := HB1.out
          have hz1 := hb1.size
          have hS := (HS (w1.alloc (.cells #[.bool false, .slice none 0 0] 72)) (.bool false) (.slice none 0 0) (by simp) (cell0_two _ _ _ _) (cell1_two _ _ _ _) (frozen_two _ _ _ _ _) (frozen_two _ _ _ _ _)).out
          refine hS.mono ?_
          rintro e w2 ⟨rfl, wS, v, hnum, hbS, rfl⟩
          have c0 : wS.cell? ⟨w1.heap.size, 0, none⟩ = some (.bool false) := (hbS.cell (p := ⟨w1.heap.size, 0, none⟩) (by simp)).trans (cell0_two _ _ _ _)
          have c1 : wS.cell? ⟨w1.heap.size, 1, none⟩ = some (.slice none 0 0) := (hbS.cell (p := ⟨w1.heap.size, 1, none⟩) (by simp)).trans (cell1_two _ _ _ _)
          have HI := Lib.hid (int_set (q := neg && decide (0 < N)) hnum c0 c1 (fun n e => by cases e))
          have HF : Hid (Below w.heap.size w ((wS.setCell ⟨w1.heap.size, 1, none⟩ v).setCell ⟨w1.heap.size, 0, none⟩ (.bool (neg && decide (0 < N))))) :=
            ((((hb1.alloc hz1 _).trans (hbS.mono (by simp; omega)))).setCell (p := ⟨w1.heap.size, 1, none⟩) hz1 _).setCell (p := ⟨w1.heap.size, 0, none⟩) hz1 _
          clear hS hnum hbS c0 c1 HS
          obtain ⟨W2, hW2⟩ : ∃ W2, (wS.setCell ⟨w1.heap.size, 1, none⟩ v).setCell ⟨w1.heap.size, 0, none⟩ (.bool (neg && decide (0 < N))) = W2 := ⟨_, rfl⟩
          rw [hW2] at HI HF ⊢
          clear hW2
          go_wp2_with fail
          refine (isint64_walk _ _ N _ _ HI.out HB.out (by omega)).mono ?_
          rintro e w3 ⟨rfl, rfl⟩
          rw [fits_and]
          cases hf : fits neg N with
          | true =>
            have HFT := Lib.hid hf
            rw [hf] at HN
            clear hf
            go_wp2_with fail
            refine (int64_walk _ _ N _ HI.out (by rw [fits_and]; exact HFT.out)).mono ?_
            rintro e w4 ⟨rfl, rfl⟩
            rw [sgn_and]
            go_wp2
            go_ret2
            exact ⟨by rw [HN.out]; rfl, HF.out⟩
          | false =>
            rw [hf] at HN
            clear hf
            go_wp2
            go_ret2
            exact ⟨by rw [HN.out]; rfl, HF.out⟩
        · obtain ⟨c, t', rfl⟩ : ∃ c t', t = c :: t' := by
            cases t with
            | nil => exact absurd rfl h0
            | cons c t' => exact ⟨c, t', rfl⟩
          have hc48 : (((⟨(c :: t').toArray⟩ : ByteArray)[0]'(by simp [ByteArray.size])).toNat : Int) ≠ 48 := by
            intro e
            apply h48
            have e2 : c.toNat = 48 := by exact_mod_cast e
            have e3 : c = 48 := UInt8.toNat_inj.1 e2
            rw [e3]; rfl
          have hc48' : ((((⟨(c :: t').toArray⟩ : ByteArray)[0]'(by simp [ByteArray.size])).toNat : Int) == 48) = false := by rw [beq_eq_false_iff_ne]; exact hc48
          clear h48 hlead hneg hc48
          go_wp2_with fail
          have hb1 := HB1.out
          have hz1 := hb1.size
          have hS := (HS (w1.alloc (.cells #[.bool false, .slice none 0 0] 72)) (.bool false) (.slice none 0 0) (by simp) (cell0_two _ _ _ _) (cell1_two _ _ _ _) (frozen_two _ _ _ _ _) (frozen_two _ _ _ _ _)).out
          refine hS.mono ?_
          rintro e w2 ⟨rfl, wS, v, hnum, hbS, rfl⟩
          have c0 : wS.cell? ⟨w1.heap.size, 0, none⟩ = some (.bool false) := (hbS.cell (p := ⟨w1.heap.size, 0, none⟩) (by simp)).trans (cell0_two _ _ _ _)
          have c1 : wS.cell? ⟨w1.heap.size, 1, none⟩ = some (.slice none 0 0) := (hbS.cell (p := ⟨w1.heap.size, 1, none⟩) (by simp)).trans (cell1_two _ _ _ _)
          have HI := Lib.hid (int_set (q := neg && decide (0 < N)) hnum c0 c1 (fun n e => by cases e))
          have HF : Hid (Below w.heap.size w ((wS.setCell ⟨w1.heap.size, 1, none⟩ v).setCell ⟨w1.heap.size, 0, none⟩ (.bool (neg && decide (0 < N))))) :=
            ((((hb1.alloc hz1 _).trans (hbS.mono (by simp; omega)))).setCell (p := ⟨w1.heap.size, 1, none⟩) hz1 _).setCell (p := ⟨w1.heap.size, 0, none⟩) hz1 _
          clear hS hnum hbS c0 c1 HS
          obtain ⟨W2, hW2⟩ : ∃ W2, (wS.setCell ⟨w1.heap.size, 1, none⟩ v).setCell ⟨w1.heap.size, 0, none⟩ (.bool (neg && decide (0 < N))) = W2 := ⟨_, rfl⟩
          rw [hW2] at HI HF ⊢
          clear hW2
          go_wp2_with fail
          refine (isint64_walk _ _ N _ _ HI.out HB.out (by omega)).mono ?_
          rintro e w3 ⟨rfl, rfl⟩
          rw [fits_and]
          cases hf : fits neg N with
          | true =>
            have HFT := Lib.hid hf
            rw [hf] at HN
            clear hf
            go_wp2_with fail
            refine (int64_walk _ _ N _ HI.out (by rw [fits_and]; exact HFT.out)).mono ?_
            rintro e w4 ⟨rfl, rfl⟩
            rw [sgn_and]
            go_wp2
            go_ret2
            exact ⟨by rw [HN.out]; rfl, HF.out⟩
          | false =>
            rw [hf] at HN
            clear hf
            go_wp2
            go_ret2
            exact ⟨by rw [HN.out]; rfl, HF.out⟩
    · have HN : Hid (numOf l = none) := by
        show numOf l = none
        unfold numOf; rw [HT.out]
        refine if_pos (.inr (.inl ?_))
        cases h : t.all isDigit with
        | false => rfl
        | true => exact absurd (HZ.out.symm.trans ((trimS_nil_iff t).2 h)) hz0
      go_wp2
      go_ret2
      exact ⟨by rw [HN.out]; rfl, HB1.out⟩
end Go.Proofs.YtijhkahaccclmaaGreatDoor
