/-
  THE ROW OF TriangleParses, PROVED: from the walk of the law to the row: what the listed variables hold out of the condition, a witness world, the argument opened, read back unchanged behind the call.
-/
import Derived.Test.YtijhkahaccclmaaGreatDoorRows
import Derived.Test.YtijhkahaccclmaaGreatDoorLaw
import Derived.ProofKit
import Derived.OpenShut
import Derived.ChangeSame
import Derived.ChangeVars
import Derived.LaidLaws
import Derived.LaidHandle
import Derived.LaidMore
import Derived.LaidSub
import Derived.Lay
import Derived.Lib.LaidTab
import Derived.Stop.LaidErr
import Derived.Stop.Joined
import Derived.Carry
set_option linter.unusedSimpArgs false
set_option linter.unusedVariables false
set_option linter.unnecessarySimpa false
namespace Go.Proofs.YtijhkahaccclmaaGreatDoor
open Go Go.ChangeShapes Go.WideShapes Go.ChangeMaps Go.ChangeAt Go.RowKit

theorem Tryz.own : ownKnob Tryz.prog.godebug = none := by kernel_rfl
theorem Tryz.rt : (Tryz.prog.cutTypes.find? (·.1 == "internal/reflectlite.rtype")).map (·.2) = some 120 := by kernel_rfl
theorem Tryz.size : Tryz.prog.types.size = 203 := by kernel_rfl
theorem Tryz.oneRow : ((List.range 203).filter fun t => Tryz.prog.rowNamed t [101, 114, 114, 111, 114]) = [25] := by kernel_rfl
theorem Tryz.star : "*errors.errorString" = "*" ++ "errors.errorString" := by kernel_rfl
theorem Tryz.rowErr (u : TypeId) (h : Tryz.prog.typeName? 3 u = some "*errors.errorString") : u = 155 :=
  typeName_ptr_named (nm := "errors.errorString") (by rw [← Tryz.star]; kernel_rfl) (by kernel_rfl) (by decide) u (by rw [← Tryz.star]; exact h)

/-- The listed variables but the handle. -/
def plainLaid : List (String × DataW Unit) := [("math/bits.deBruijn32tab", Rows.laid_math_bits_deBruijn32tab), ("math/bits.deBruijn64tab", Rows.laid_math_bits_deBruijn64tab), ("internal/strconv.uint64pow10", Rows.laid_internal_strconv_uint64pow10), ("unicode/utf8.acceptRanges", Rows.laid_unicode_utf8_acceptRanges), ("strconv.ErrRange", Rows.laid_strconv_ErrRange), ("strconv.ErrSyntax", Rows.laid_strconv_ErrSyntax), ("tontine/tontineref.fine", Rows.laid_tontine_tontineref_fine), ("unicode/utf8.first", Rows.laid_unicode_utf8_first)]
theorem plain_eq : (Rows.triangleParsesRow.laid.filter fun x => x.2.handleName?.isNone) = plainLaid := by kernel_rfl
theorem handle_eq : (Rows.triangleParsesRow.laid.filter fun x => x.2.handleName?.isSome) = [("errors.errorType", Rows.laid_errors_errorType)] := by kernel_rfl

/-- WHAT THE CONDITION GIVES A WALK: the handle's cell. -/
theorem err_of_laid {W : World} (h : laidMetH Tryz.prog Rows.triangleParsesRow.laid W) : ErrOk W := by
  have h' := (laidMetH_iff.1 h).2
  rw [handle_eq] at h'
  obtain ⟨name, u, ty, e1, e2, e3, e4, e5⟩ := h' _ (List.mem_singleton.2 rfl)
  have en : name = [101, 114, 114, 111, 114] := (Option.some.inj e1).symm
  subst en
  obtain rfl := Option.some.inj (Tryz.rt.symm.trans e2)
  have hm : ty ∈ (List.range 203).filter fun t => Tryz.prog.rowNamed t [101, 114, 114, 111, 114] := List.mem_filter.2 ⟨List.mem_range.2 (by rw [← Tryz.size]; exact e3), e4⟩
  rw [Tryz.oneRow] at hm
  obtain rfl := List.mem_singleton.1 hm
  have hh : typeHandle Tryz.prog 25 = .pointer (some ⟨10, 25, none⟩) := by kernel_rfl
  rw [hh] at e5
  have := World.var?_cell (show Tryz.prog.globalNamed "errors.errorType" = some 1 by kernel_rfl) e5 0
  exact this

theorem fine_of_laid {W : World} {r : List (String × DataW Unit)} (h : laidMet Tryz.prog (("tontine/tontineref.fine", Rows.laid_tontine_tontineref_fine) :: r) W) : FineIs W := by
  obtain ⟨ps, ⟨g, t, cs, fuel, p, q, hg, ht, hv, hd, _, _⟩, _, _⟩ := h
  obtain rfl := Option.some.inj ((show Tryz.prog.globalNamed "tontine/tontineref.fine" = some 0 by kernel_rfl).symm.trans hg)
  obtain rfl := Option.some.inj ((show (Tryz.prog.globals[0]?).map (·.type) = some 30 by kernel_rfl).symm.trans ht)
  obtain ⟨xs, m, _, ex, hl, hxl, hel⟩ := DataW.trod_struct Tryz.underlying30 hd
  have h0 := hel 0 _ rfl
  have h1 := hel 1 _ rfl
  have hs : xs.length = 2 := hxl
  have c28 : Tryz.prog.cellsOf 28 = 1 := by kernel_rfl
  have c3 : Tryz.prog.cellsOf 3 = 1 := by kernel_rfl
  rw [List.getElem?_eq_getElem (by omega)] at h0 h1
  obtain ⟨a, ea1, ea2, _⟩ := DataW.trod_int Tryz.underlying28 h0
  obtain ⟨b, eb1, eb2, _⟩ := DataW.trod_int Tryz.underlying3 h1
  have e3 : (xs.map (·.1)) = [.lit (.int .i64 0), .lit (.int .i64 (-1))] := (DataW.agg.inj (Prod.mk.inj ex).1).symm
  have f0 : (xs.map (·.1))[0]? = some (.lit (.int .i64 a)) := by rw [List.getElem?_map, List.getElem?_eq_getElem (by omega), ea2]; rfl
  have f1 : (xs.map (·.1))[1]? = some (.lit (.int .i64 b)) := by rw [List.getElem?_map, List.getElem?_eq_getElem (by omega), eb2]; rfl
  rw [e3] at f0 f1
  obtain rfl : a = 0 := by simpa using f0.symm
  obtain rfl : b = -1 := by simpa using f1.symm
  change (cs.toList.drop 0).take (Tryz.prog.cellsOf 28) = _ at ea1
  change (cs.toList.drop 1).take (Tryz.prog.cellsOf 3) = _ at eb1
  rw [c28] at ea1
  rw [c3] at eb1
  have k0 : cs.toList[0]? = some (.int .i64 0) := by
    have h : ((cs.toList.drop 0).take 1)[0]? = some (.int .i64 0) := by rw [ea1]; rfl
    simpa using h
  have k1 : cs.toList[1]? = some (.int .i64 (-1)) := by
    have h : ((cs.toList.drop 1).take 1)[0]? = some (.int .i64 (-1)) := by rw [eb1]; rfl
    simpa using h
  constructor
  · rw [World.var?_cell hg hv 0]; simpa using k0
  · rw [World.var?_cell hg hv 1]; simpa using k1

theorem lib_of_laid {W : World} (h : laidMetH Tryz.prog Rows.triangleParsesRow.laid W) : LibOk W := by
  have h' := (laidMetH_iff.1 h).1
  rw [plain_eq] at h'
  have t2 := h'.tail.tail
  have htab : Lib.TabIs Tryz.prog W "internal/strconv.uint64pow10" .u64 Lib.pow10Tab :=
    Lib.tabIs_of_head (g := 7) (t := 159) (e := 112) (n := 20) (by kernel_rfl) (by kernel_rfl) Tryz.underlying159 Tryz.underlying112 (by kernel_rfl) (by kernel_rfl) t2
  have t4 := t2.tail.tail
  obtain ⟨a0, s0, hv0, _, _, _⟩ := laid_sentinel (g := 3) t4 (by kernel_rfl) (by kernel_rfl) Tryz.underlying25 Tryz.rowErr Tryz.underlying155 Tryz.underlying157 rfl rfl Tryz.underlying9 (by kernel_rfl) (by kernel_rfl)
  obtain ⟨a1, s1, hv1, _, _, _⟩ := laid_sentinel (g := 2) t4.tail (by kernel_rfl) (by kernel_rfl) Tryz.underlying25 Tryz.rowErr Tryz.underlying155 Tryz.underlying157 rfl rfl Tryz.underlying9 (by kernel_rfl) (by kernel_rfl)
  refine ⟨htab, ⟨155, .pointer (some a1), ?_⟩, ⟨155, .pointer (some a0), ?_⟩, fine_of_laid t4.tail.tail⟩
  · exact World.var?_cell (show Tryz.prog.globalNamed "strconv.ErrSyntax" = some 2 by kernel_rfl) hv1 0
  · exact World.var?_cell (show Tryz.prog.globalNamed "strconv.ErrRange" = some 3 by kernel_rfl) hv0 0

/-- A world that meets the condition: the settled one, the handle's cell laid, the other variables laid. -/
noncomputable def handleWorld (os : Os) : World :=
  let w0 := World.holding Tryz.prog os ⟨#[], #[], []⟩
  { w0 with heap := w0.heap.modify 1 fun
      | .cells _ t frozen => .cells #[.iface 120 (.agg #[.pointer (some ⟨10, 25, none⟩)])] t frozen
      | o => o }
noncomputable def laidWorld (os : Os) : World := (handleWorld os).layVars Tryz.prog plainLaid
theorem laidWorld_os (os : Os) : (laidWorld os).os = os := World.layVars_os _ _ _
theorem plain_all : (plainLaid.filter fun x => (plainLaid.map (·.1)).contains x.1) = plainLaid := by kernel_rfl
theorem plain_none : (plainLaid.filter fun x => !(plainLaid.map (·.1)).contains x.1) = [] := by kernel_rfl
theorem laidWorld_met (os : Os) (args : Array Value) : laidMetH Tryz.prog Rows.triangleParsesRow.laid ((laidWorld os).forCall (fun _ _ => 0) ⟨#[], args, []⟩).memory := by
  refine laidMetH_of_parts ?_ ?_
  · rw [plain_eq]
    have h : laidMet Tryz.prog plainLaid (laidWorld os) := laidMet_layVars (w0 := handleWorld os) (plainLaid.map (·.1)) [] (by rw [plain_all]; rfl) (by rw [plain_all]; kernel_rfl) (by rw [plain_all]; kernel_rfl) (by rw [plain_none]; exact LaidIn.none)
    exact h.of_heap (by simp [World.memory, World.forCall, Input.heap])
  · rw [handle_eq]
    kernel_rfl

set_option maxRecDepth 100000 in
theorem law_lifted (os : Os) (started : os.Started) (H : Type) (enc : TypeId × Value → H) :
    ReturnsInHanded {} Tryz.checked os 3 .any (fun w args => (Rows.triangleParsesSpec.pre enc Tryz.prog Tryz.f3 [] false w args ∧ laidMetH Tryz.prog Rows.triangleParsesRow.laid w) ∧ sizedMet enc Tryz.prog Tryz.f3 (OpenSpec.ofChange Rows.triangleParsesSpec) false w args)
      (Rows.triangleParsesSpec.post enc Tryz.prog Tryz.f3 false true false false) := by
  refine returnsInHanded_of_change_and (C := Tryz.checked) (X := fun w _ => laidMetH Tryz.prog Rows.triangleParsesRow.laid w) (fun _ _ _ hh h => h.of_heap hh) Tryz.own started (by kernel_rfl) Tryz.func3
    (ChangeSpec.witness_shaped (enc := enc) (C := Tryz.checked) (os := os) (X := fun w _ => laidMetH Tryz.prog Rows.triangleParsesRow.laid w) false (laidWorld os) #[.string ⟨#[]⟩] 8 (laidWorld_os os)
      (World.shaped_of_ZipB (by kernel_rfl) (by kernel_rfl)) (by kernel_rfl) (by kernel_rfl) (by kernel_rfl) (laidWorld_met os _)) ?_
  intro W base args ds gs before hval0 hW _ _ hL _
  have hval : ∀ (j : Nat) t v, Tryz.f3.params[j]? = some t → args[j]? = some v → Value.okWide Tryz.prog W .any base t v := hval0
  have hW' := hW
  obtain ⟨p, q, hA0, hV, rfl, _, _⟩ := hW
  have hA : DataW.TrodAll enc Tryz.prog W 0 (fun _ => true) true Tryz.f3.params.toList args.toList ds p := hA0
  rw [Tryz.params3] at hA hval
  obtain ⟨v0, d0, rfl, rfl, h0⟩ := trodAll_one hA
  obtain ⟨rfl, rfl⟩ := trodVars_none hV
  obtain ⟨s, rfl, rfl, rfl, hs⟩ := open_string Tryz.underlying9 (hval 0 9 v0 rfl rfl) h0
  simp only [List.append_nil] at hW'
  refine (law_walk s W (lib_of_laid hL) (err_of_laid hL)).mono fun e W' ⟨he, bel⟩ => ?_
  subst he
  refine ⟨_, rfl, _, _, _, [], [], [], hW', ?_, ?_, rfl, bel.frame _, fun h => by cases h⟩
  · exact trodAll_mk1 (shut_bool Tryz.underlying4 true)
  · exact trodAll_mk1 (shut_string Tryz.underlying9 hs)

theorem triangleParses_holds : Rows.TriangleParsesSaid :=
  OpenClaim.holds_of_wide 3 Tryz.f3 rfl rfl rfl rfl rfl rfl rfl ⟨rfl, rfl, rfl, rfl, rfl⟩ rfl rfl rfl rfl rfl (by kernel_rfl) Tryz.func3 (by kernel_rfl)
    (of_decide_eq_true (by kernel_rfl)) (by unfold Func.isWrapper; rw [if_neg (of_decide_eq_false (by kernel_rfl))]; exact ⟨rfl, rfl⟩)
    (fun os started H enc _ => law_lifted os started H enc)
#print axioms triangleParses_holds
end Go.Proofs.YtijhkahaccclmaaGreatDoor
