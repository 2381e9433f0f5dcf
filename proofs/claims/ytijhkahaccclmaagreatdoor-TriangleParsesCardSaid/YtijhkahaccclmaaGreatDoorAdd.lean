/-
  The walk of add over lists of 32-bit words: the answer reads as the sum. No conditions.
-/
import Derived.Test.YtijhkahaccclmaaGreatDoorBig
set_option linter.unusedSimpArgs false
set_option linter.unusedVariables false
set_option linter.unnecessarySimpa false
namespace Go.Proofs.YtijhkahaccclmaaGreatDoor
open Go Go.RowKit

theorem Tryz.info145 : (Tryz.prog.info? 145).map (fun i => (i.zero, i.size, i.bytes)) = some (some (.int .u32 0), 1, 4) := by kernel_rfl

def uv (x : Nat) : Value := .int .u32 (x : Int)
theorem replicate_uv (n : Nat) : (madeCells #[Value.int IntKind.u32 0] n).toList = (List.replicate n 0).map uv := by
  rw [toList_madeCells_one, List.map_replicate]; rfl
theorem own_heap {w w' : World} {B e size : Nat} {v : Value} {n : Nat} {xs : List Value} (h : w.ownsRow B e size v n xs) (hh : w'.heap = w.heap) : w'.ownsRow B e size v n xs := by
  unfold World.ownsRow at h ⊢
  rw [hh]; exact h
theorem own_below {w w' : World} {B e size : Nat} {v : Value} {n : Nat} {xs : List Value} (h : w.ownsRow B e size v n xs) (hb : Below w.heap.size w w') : w'.ownsRow B e size v n xs := by
  refine ⟨h.1, ?_⟩
  rcases h.2 with h2 | ⟨g, cap, cur, rfl, hg, hh, r⟩
  · exact .inl h2
  · exact .inr ⟨g, cap, cur, rfl, hg, by rw [hb.block g (Array.getElem?_eq_some_iff.1 hh).1]; exact hh, r⟩
theorem ownu_len {w : World} {B e : Nat} {v : Value} {n : Nat} {Y : List Nat} (h : w.ownsRow B e 1 v n (Y.map uv)) : Y.length = n := by
  have := h.1
  simpa using this
theorem ownu_cell {w : World} {B e g n cap : Nat} {Y : List Nat} (h : w.ownsRow B e 1 (.slice (some ⟨g, 0, none⟩) n cap) n (Y.map uv)) {j : Nat} (hj : j < n) : w.cell? ⟨g, j, none⟩ = some (uv (Y.getD j 0)) := by
  rw [h.cellAt j (by omega)]
  have hl := ownu_len h
  simp [List.getD, List.getElem?_eq_getElem (show j < Y.length by omega)]
theorem getD_set_nat (l : List Nat) (k j p : Nat) : (l.set k p).getD j 0 = if k = j then (if k < l.length then p else 0) else l.getD j 0 := by
  simp only [List.getD, List.getElem?_set]
  split
  · split <;> rfl
  · rfl
theorem getD_out {l : List Nat} {k : Nat} (h : l.length ≤ k) : l.getD k 0 = 0 := by simp [List.getD, List.getElem?_eq_none h]
theorem take_set_succ (l : List Nat) {k : Nat} (p : Nat) (h : k < l.length) : (l.set k p).take (k + 1) = l.take k ++ [p] := by
  rw [take_succ_getD _ (by simpa using h), getD_set_nat, if_pos rfl, if_pos h, List.take_set_of_le (Nat.le_refl _)]
theorem worth_take_succ (l : List Nat) (k : Nat) : worth (l.take (k + 1)) = worth (l.take k) + 4294967296 ^ k * l.getD k 0 := by
  by_cases h : k < l.length
  · rw [take_succ_getD l h, worth_snoc, List.length_take, Nat.min_eq_left (by omega)]
  · rw [getD_out (by omega), List.take_of_length_le (by omega), List.take_of_length_le (by omega)]; simp
theorem getD_rep (n : Nat) (j : Nat) : (List.replicate n 0).getD j 0 < 4294967296 := by
  have : (List.replicate n 0).getD j 0 = 0 := by
    simp only [List.getD, List.getElem?_replicate]
    split <;> rfl
  omega
theorem set_lt {l : List Nat} (k : Nat) {p : Nat} (hp : p < 4294967296) (h : ∀ j, l.getD j 0 < 4294967296) (j : Nat) : (l.set k p).getD j 0 < 4294967296 := by
  rw [getD_set_nat]
  split
  · split <;> omega
  · exact h j
theorem ownu_words {w : World} {B e g n cap : Nat} {Y : List Nat} (h : w.ownsRow B e 1 (.slice (some ⟨g, 0, none⟩) n cap) n (Y.map uv)) (hY : ∀ j, Y.getD j 0 < 4294967296) (hcap : n ≤ cap) : WordsIn w (.slice (some ⟨g, 0, none⟩) n cap) Y := by
  have hl := ownu_len h
  refine ⟨⟨_, cap, by rw [hl], by omega, fun j hj => ⟨g, 0, rfl, (h.lt g rfl).2, ?_⟩⟩, hY⟩
  rw [Nat.zero_add]
  exact ownu_cell h (by omega)
theorem adda_end {l m : List Nat} {w0 wr : World} {n z : Nat} {Y : List Nat} (hn : n = l.length + 1) (hlen : m.length ≤ l.length) (hz : z < 2)
    (hown : wr.ownsRow w0.heap.size 145 1 (.slice (some ⟨w0.heap.size, 0, none⟩) n n) n (Y.map uv)) (h1 : worth (Y.take l.length) + 4294967296 ^ l.length * z = worth (l.take l.length) + worth (m.take l.length))
    (h2 : ∀ j, Y.getD j 0 < 4294967296) :
    WordsIn (wr.setCell ⟨w0.heap.size, l.length, none⟩ (uv z)) (.slice (some ⟨w0.heap.size, 0, none⟩) n n) (Y.set l.length z) ∧ worth (Y.set l.length z) = worth l + worth m ∧ (Y.set l.length z).length = n := by
  have hl := ownu_len hown
  have hown' := (hown.stored l.length (uv z)).1
  rw [← List.map_set] at hown'
  refine ⟨ownu_words hown' (set_lt _ (by omega) h2) (Nat.le_refl _), ?_, by simp [hl]⟩
  have e1 : (Y.set l.length z).take (l.length + 1) = Y.set l.length z := List.take_of_length_le (by simp; omega)
  rw [← e1, take_set_succ _ _ (by omega), worth_snoc, List.length_take, Nat.min_eq_left (by omega), h1, List.take_length, List.take_of_length_le hlen]

/-- What holds at the head of add's loop. -/
def AddA (l m : List Nat) (w0 : World) (n : Nat) (c i : Value) (wr : World) : Prop :=
  ∃ (k z : Nat) (Y : List Nat), k ≤ l.length ∧ c = .int .u64 (z : Int) ∧ i = .int .i64 (k : Int) ∧ z < 2 ∧ wr.ownsRow w0.heap.size 145 1 (.slice (some ⟨w0.heap.size, 0, none⟩) n n) n (Y.map uv) ∧
    worth (Y.take k) + 4294967296 ^ k * z = worth (l.take k) + worth (m.take k) ∧ (∀ j, Y.getD j 0 < 4294967296) ∧ Below w0.heap.size w0 wr

theorem adda_step {l m : List Nat} {w0 wr w' : World} {n k z s : Nat} {Y : List Nat} {c i : Value} (hk : k < l.length) (hs : s = z + (l.getD k 0 + m.getD k 0)) (hs2 : s < 8589934592)
    (hown : wr.ownsRow w0.heap.size 145 1 (.slice (some ⟨w0.heap.size, 0, none⟩) n n) n (Y.map uv)) (h1 : worth (Y.take k) + 4294967296 ^ k * z = worth (l.take k) + worth (m.take k)) (h2 : ∀ j, Y.getD j 0 < 4294967296) (hb : Below w0.heap.size w0 wr)
    (hc : c = .int .u64 ((s / 4294967296 : Nat) : Int)) (hi : i = .int .i64 ((k + 1 : Nat) : Int))
    (hheap : w'.heap = (wr.setCell ⟨w0.heap.size, k, none⟩ (uv (s % 4294967296))).heap) (hos : w'.os = wr.os) (htape : w'.tape = wr.tape) (hout : w'.output = wr.output) (hkn : k < n) : AddA l m w0 n c i w' := by
  have hl := ownu_len hown
  refine ⟨k + 1, s / 4294967296, Y.set k (s % 4294967296), hk, hc, hi, by omega, ?_, ?_, set_lt k (Nat.mod_lt _ (by decide)) h2, ?_⟩
  · rw [List.map_set]
    exact own_heap (hown.stored k _).1 hheap
  · rw [take_set_succ _ _ (by omega), worth_snoc, List.length_take, Nat.min_eq_left (by omega), worth_take_succ, worth_take_succ, Nat.pow_succ, Nat.mul_assoc, Nat.add_assoc, ← Nat.mul_add, Nat.mod_add_div, hs, Nat.mul_add, Nat.mul_add]
    omega
  · have hb' := hb.setCell (p := ⟨w0.heap.size, k, none⟩) (Nat.le_refl _) (uv (s % 4294967296))
    exact ⟨hos.trans hb.os, htape.trans hb.tape, hout.trans hb.output, by rw [hheap]; exact hb'.size, fun k hk => by rw [hheap]; exact hb'.block k hk⟩

set_option maxRecDepth 100000 in
set_option maxHeartbeats 4000000 in
theorem add_walk1 (u v : Value) (l m : List Nat) (w : World) (hu : WordsIn w u l) (hv : WordsIn w v m) (hl : l.length ≤ 100000) (hm : m.length ≤ 100000) (hlen : ¬ l.length < m.length) :
    Calls Tryz.prog 54 #[u, v] w fun e w' => (∃ r, e = .returned r ∧ NumAt w' r (worth l + worth m)) ∧ Below w.heap.size w w' := by
  obtain ⟨⟨a, c, rfl, hc, hall⟩, hlt⟩ := hu
  obtain ⟨⟨a1, c1, rfl, hc1, hall1⟩, hlt1⟩ := hv
  have HA := Lib.hid hall
  have LA := Lib.hid hlt
  have HB := Lib.hid hall1
  have LB := Lib.hid hlt1
  clear hall hlt hall1 hlt1
  obtain ⟨i0, hi, hz0, hz1, hz2⟩ := info_parts Tryz.info145
  have hlen1 : ¬ (l.length : Int) < (m.length : Int) := by omega
  go_enter Tryz.func54, Tryz.ntmps54
  go_wp2_with (at_make; refine wpList_make_full (P := Tryz.prog) _ rfl _ _ 70 rfl w.heap.size 145 i0 (.int .u32 0) 1 Tryz.underlying70 hi hz0 hz1 _ _ _ _ (l.length + 1) rfl rfl ?m0 ?m0' ?m1 ?m2 ?m3 ?_)
  case m1 => omega
  case m2 => unfold maxLen; omega
  intro w1 hown1 hgrow1
  rw [replicate_uv] at hown1
  have HO1 := Lib.hid hown1
  have HG1 := Lib.hid hgrow1
  clear hown1 hgrow1
  go_wp2
  go_loopw [6, 7] (AddA l m w (l.length + 1)) (fun _ i _ => l.length - (intOf i).toNat)
  case atStart => exact ⟨0, 0, _, Nat.zero_le _, rfl, rfl, by omega, HO1.out, by simp [worth], getD_rep _, (Below.refl _ _).grown HG1.out (Nat.le_refl _) (fun k hk => by cases hk)⟩
  case round =>
    obtain ⟨k, z, Y, hk, rfl, rfl, hz, hown, h1, h2, hbw⟩ := hrel
    have H2 := Lib.hid h2
    have HOWN := Lib.hid hown
    have H1 := Lib.hid h1
    have HBW := Lib.hid hbw
    clear hown h1 h2 hbw
    have hz0' : (0 : Int) ≤ (z : Int) := Int.natCast_nonneg _
    have hz1' : (z : Int) < 2 := by omega
    have hk0 : (0 : Int) ≤ (k : Int) := Int.natCast_nonneg _
    by_cases hlt : k < l.length
    · obtain ⟨b, o, rfl, hb, hx⟩ := HA.out k hlt
      obtain ⟨x, hxx⟩ : ∃ x, l.getD k 0 = x := ⟨_, rfl⟩
      have hxl := LA.out k
      rw [hxx] at hx hxl
      have HX := Lib.hid hxx
      clear hxx
      have hcx : wr.cell? ⟨b, o + k, none⟩ = some (.int .u32 (x : Int)) := by rw [HBW.out.cell hb]; exact hx
      have hfo : wr.frozen? ⟨w.heap.size, k, none⟩ = false := HOWN.out.frozenAt k
      obtain ⟨y0, hy0⟩ : ∃ y, Y.getD k 0 = y := ⟨_, rfl⟩
      have hco : wr.cell? ⟨w.heap.size, k, none⟩ = some (.int .u32 (y0 : Int)) := by rw [ownu_cell HOWN.out (by omega), hy0]; rfl
      clear hy0 hx
      have hk1 : (k : Int) < (l.length : Int) := by omega
      have hx0 : (0 : Int) ≤ (x : Int) := Int.natCast_nonneg _
      have hx1 : (x : Int) < 4294967296 := by omega
      by_cases hlb : k < m.length
      · obtain ⟨b1, o1, rfl, hb1, hy⟩ := HB.out k hlb
        obtain ⟨y, hyy⟩ : ∃ y, m.getD k 0 = y := ⟨_, rfl⟩
        have hyl := LB.out k
        rw [hyy] at hy hyl
        have HY := Lib.hid hyy
        clear hyy
        have hcy : wr.cell? ⟨b1, o1 + k, none⟩ = some (.int .u32 (y : Int)) := by rw [HBW.out.cell hb1]; exact hy
        clear hy
        have hk2 : (k : Int) < (m.length : Int) := by omega
        have hy0 : (0 : Int) ≤ (y : Int) := Int.natCast_nonneg _
        have hy1 : (y : Int) < 4294967296 := by omega
        go_wp2
        go_roundw
        case rel => exact adda_step hlt (s := z + x + y) (by rw [HX.out, HY.out, Nat.add_assoc]) (by omega) HOWN.out H1.out H2.out HBW.out (by go_num) (by go_num) rfl rfl rfl rfl (by omega)
        case measure => simp [intOf]; omega
      · have hk2 : ¬ (k : Int) < (m.length : Int) := by omega
        go_wp2
        go_roundw
        case rel => exact adda_step hlt (s := z + x) (by rw [HX.out, getD_out (by omega), Nat.add_zero]) (by omega) HOWN.out H1.out H2.out HBW.out (by go_num) (by go_num) rfl rfl rfl rfl (by omega)
        case measure => simp [intOf]; omega
    · obtain rfl : k = l.length := by omega
      have hfo : wr.frozen? ⟨w.heap.size, l.length, none⟩ = false := HOWN.out.frozenAt _
      obtain ⟨y0, hy0⟩ : ∃ y, Y.getD l.length 0 = y := ⟨_, rfl⟩
      have hco : wr.cell? ⟨w.heap.size, l.length, none⟩ = some (.int .u32 (y0 : Int)) := by rw [ownu_cell HOWN.out (by omega), hy0]; rfl
      clear hy0
      have HE := Lib.hid (adda_end rfl (by omega) hz HOWN.out H1.out H2.out)
      have HS : Hid (Below w.heap.size w (wr.setCell ⟨w.heap.size, l.length, none⟩ (uv z))) := Lib.hid (HBW.out.setCell (Nat.le_refl _) _)
      go_wp2_with (go_at_call 78; refine (trim_walk _ _ _ HE.out.1 (by rw [HE.out.2.2]; omega)).mono ?_; rintro e w' ⟨⟨r, rfl, hr⟩, rfl⟩)
      go_ret
      exact ⟨⟨_, rfl, by rw [HE.out.2.1] at hr; exact hr⟩, HS.out⟩

set_option maxRecDepth 100000 in
set_option maxHeartbeats 4000000 in
theorem add_walk2 (u v : Value) (l m : List Nat) (w : World) (hu : WordsIn w u l) (hv : WordsIn w v m) (hl : l.length ≤ 100000) (hm : m.length ≤ 100000) (hlen : l.length < m.length) :
    Calls Tryz.prog 54 #[u, v] w fun e w' => (∃ r, e = .returned r ∧ NumAt w' r (worth l + worth m)) ∧ Below w.heap.size w w' := by
  obtain ⟨⟨a, c, rfl, hc, hall⟩, hlt⟩ := hu
  obtain ⟨⟨a1, c1, rfl, hc1, hall1⟩, hlt1⟩ := hv
  have HA := Lib.hid hall
  have LA := Lib.hid hlt
  have HB := Lib.hid hall1
  have LB := Lib.hid hlt1
  clear hall hlt hall1 hlt1
  obtain ⟨i0, hi, hz0, hz1, hz2⟩ := info_parts Tryz.info145
  have hlen1 : (l.length : Int) < (m.length : Int) := by omega
  go_enter Tryz.func54, Tryz.ntmps54
  go_wp2_with (at_make; refine wpList_make_full (P := Tryz.prog) _ rfl _ _ 70 rfl w.heap.size 145 i0 (.int .u32 0) 1 Tryz.underlying70 hi hz0 hz1 _ _ _ _ (m.length + 1) rfl rfl ?m0 ?m0' ?m1 ?m2 ?m3 ?_)
  case m1 => omega
  case m2 => unfold maxLen; omega
  intro w1 hown1 hgrow1
  rw [replicate_uv] at hown1
  have HO1 := Lib.hid hown1
  have HG1 := Lib.hid hgrow1
  clear hown1 hgrow1
  go_wp2
  go_loopw [6, 7] (AddA m l w (m.length + 1)) (fun _ i _ => m.length - (intOf i).toNat)
  case atStart => exact ⟨0, 0, _, Nat.zero_le _, rfl, rfl, by omega, HO1.out, by simp [worth], getD_rep _, (Below.refl _ _).grown HG1.out (Nat.le_refl _) (fun k hk => by cases hk)⟩
  case round =>
    obtain ⟨k, z, Y, hk, rfl, rfl, hz, hown, h1, h2, hbw⟩ := hrel
    have H2 := Lib.hid h2
    have HOWN := Lib.hid hown
    have H1 := Lib.hid h1
    have HBW := Lib.hid hbw
    clear hown h1 h2 hbw
    have hz0' : (0 : Int) ≤ (z : Int) := Int.natCast_nonneg _
    have hz1' : (z : Int) < 2 := by omega
    have hk0 : (0 : Int) ≤ (k : Int) := Int.natCast_nonneg _
    by_cases hlt : k < m.length
    · obtain ⟨b, o, rfl, hb, hx⟩ := HB.out k hlt
      obtain ⟨x, hxx⟩ : ∃ x, m.getD k 0 = x := ⟨_, rfl⟩
      have hxl := LB.out k
      rw [hxx] at hx hxl
      have HX := Lib.hid hxx
      clear hxx
      have hcx : wr.cell? ⟨b, o + k, none⟩ = some (.int .u32 (x : Int)) := by rw [HBW.out.cell hb]; exact hx
      have hfo : wr.frozen? ⟨w.heap.size, k, none⟩ = false := HOWN.out.frozenAt k
      obtain ⟨y0, hy0⟩ : ∃ y, Y.getD k 0 = y := ⟨_, rfl⟩
      have hco : wr.cell? ⟨w.heap.size, k, none⟩ = some (.int .u32 (y0 : Int)) := by rw [ownu_cell HOWN.out (by omega), hy0]; rfl
      clear hy0 hx
      have hk1 : (k : Int) < (m.length : Int) := by omega
      have hx0 : (0 : Int) ≤ (x : Int) := Int.natCast_nonneg _
      have hx1 : (x : Int) < 4294967296 := by omega
      by_cases hlb : k < l.length
      · obtain ⟨b1, o1, rfl, hb1, hy⟩ := HA.out k hlb
        obtain ⟨y, hyy⟩ : ∃ y, l.getD k 0 = y := ⟨_, rfl⟩
        have hyl := LA.out k
        rw [hyy] at hy hyl
        have HY := Lib.hid hyy
        clear hyy
        have hcy : wr.cell? ⟨b1, o1 + k, none⟩ = some (.int .u32 (y : Int)) := by rw [HBW.out.cell hb1]; exact hy
        clear hy
        have hk2 : (k : Int) < (l.length : Int) := by omega
        have hy0 : (0 : Int) ≤ (y : Int) := Int.natCast_nonneg _
        have hy1 : (y : Int) < 4294967296 := by omega
        go_wp2
        go_roundw
        case rel => exact adda_step hlt (s := z + x + y) (by rw [HX.out, HY.out, Nat.add_assoc]) (by omega) HOWN.out H1.out H2.out HBW.out (by go_num) (by go_num) rfl rfl rfl rfl (by omega)
        case measure => simp [intOf]; omega
      · have hk2 : ¬ (k : Int) < (l.length : Int) := by omega
        go_wp2
        go_roundw
        case rel => exact adda_step hlt (s := z + x) (by rw [HX.out, getD_out (by omega), Nat.add_zero]) (by omega) HOWN.out H1.out H2.out HBW.out (by go_num) (by go_num) rfl rfl rfl rfl (by omega)
        case measure => simp [intOf]; omega
    · obtain rfl : k = m.length := by omega
      have hfo : wr.frozen? ⟨w.heap.size, m.length, none⟩ = false := HOWN.out.frozenAt _
      obtain ⟨y0, hy0⟩ : ∃ y, Y.getD m.length 0 = y := ⟨_, rfl⟩
      have hco : wr.cell? ⟨w.heap.size, m.length, none⟩ = some (.int .u32 (y0 : Int)) := by rw [ownu_cell HOWN.out (by omega), hy0]; rfl
      clear hy0
      have HE := Lib.hid (adda_end rfl (by omega) hz HOWN.out H1.out H2.out)
      have HS : Hid (Below w.heap.size w (wr.setCell ⟨w.heap.size, m.length, none⟩ (uv z))) := Lib.hid (HBW.out.setCell (Nat.le_refl _) _)
      go_wp2_with (go_at_call 78; refine (trim_walk _ _ _ HE.out.1 (by rw [HE.out.2.2]; omega)).mono ?_; rintro e w' ⟨⟨r, rfl, hr⟩, rfl⟩)
      go_ret
      exact ⟨⟨_, rfl, by rw [HE.out.2.1] at hr; rw [Nat.add_comm (worth m)] at hr; exact hr⟩, HS.out⟩

theorem num_len {w : World} {v : Value} {n : Nat} (h : NumAt w v n) {k : Nat} (hn : n < 4294967296 ^ k) : ∃ l, WordsIn w v l ∧ worth l = n ∧ l.length ≤ k ∧ (l.length = 0 ∨ l.getD (l.length - 1) 0 ≠ 0) := by
  obtain ⟨l, h1, h2, h3⟩ := h
  refine ⟨l, h1, h2, ?_, h3⟩
  rcases h3 with h3 | h3
  · omega
  · rcases Nat.lt_or_ge k l.length with hk | hk
    · exfalso
      have e := worth_take_succ l (l.length - 1)
      rw [show l.length - 1 + 1 = l.length by omega, List.take_length, h2] at e
      have e2 : 4294967296 ^ k ≤ 4294967296 ^ (l.length - 1) := Nat.pow_le_pow_right (by decide) (by omega)
      have e3 : 4294967296 ^ (l.length - 1) * 1 ≤ 4294967296 ^ (l.length - 1) * l.getD (l.length - 1) 0 := Nat.mul_le_mul_left _ (by omega)
      omega
    · exact hk

theorem add_walk (u v : Value) (x y k : Nat) (w : World) (hu : NumAt w u x) (hv : NumAt w v y) (hx : x < 4294967296 ^ k) (hy : y < 4294967296 ^ k) (hk : k ≤ 100000) :
    Calls Tryz.prog 54 #[u, v] w fun e w' => (∃ r, e = .returned r ∧ NumAt w' r (x + y)) ∧ Below w.heap.size w w' := by
  obtain ⟨l, hl, rfl, h1, _⟩ := num_len hu hx
  obtain ⟨m, hm, rfl, h2, _⟩ := num_len hv hy
  by_cases h : l.length < m.length
  · exact add_walk2 u v l m w hl hm (by omega) (by omega) h
  · exact add_walk1 u v l m w hl hm (by omega) (by omega) h
end Go.Proofs.YtijhkahaccclmaaGreatDoor
