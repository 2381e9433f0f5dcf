/-
  THE TIED CARD OF TriangleParses: the row, proved, with its listed variables tied to the program's text by the given tie.
-/
import Derived.Test.YtijhkahaccclmaaGreatDoorProof
import Derived.Test.YtijhkahaccclmaaGreatDoorCards
import Derived.Test.YtijhkahaccclmaaGreatDoorTie
import Derived.SevenTiedAt
set_option linter.unusedSimpArgs false
set_option linter.unusedVariables false
set_option linter.unnecessarySimpa false
namespace Go.Proofs.YtijhkahaccclmaaGreatDoor
open Go

theorem triangleParses_card_holds : Rows.TriangleParsesCardSaid :=
  Claim7.holds_tied_plain_at .later [] [.data, .data, .data, .data, .handle, .sentinel, .sentinel, .data, .pinned] true (true, "955e63496111c14798aeca41b6d9598efd13e1572523e1f966063f44a9ee76d6") true
    triangleParses_holds (fun _ h => by cases h) (by kernel_rfl) (fun _ h => by cases h) triangleParses_row_tie rfl ⟨rfl, rfl⟩ (by kernel_rfl) rfl
    (fun f fn hf hfn => by
      obtain rfl : f = 3 := Option.some.inj ((show Tryz.prog.funcNamed "tontine/tontinelaw.TriangleParses" = some 3 by kernel_rfl).symm.trans hf) |>.symm
      obtain rfl : fn = Tryz.f3 := (Option.some.inj (Tryz.func3.symm.trans hfn)).symm
      exact ⟨by kernel_rfl, fun j t ht => by
        rw [Tryz.params3] at ht
        have h3 : t = 9 := by
          rcases j with _ | j
          · simpa using ht.symm
          · simp at ht
        subst h3
        exact (show Tryz.prog.wantsStandIn 9 = false by kernel_rfl)⟩)
    (by kernel_rfl)
#print axioms triangleParses_card_holds
end Go.Proofs.YtijhkahaccclmaaGreatDoor
