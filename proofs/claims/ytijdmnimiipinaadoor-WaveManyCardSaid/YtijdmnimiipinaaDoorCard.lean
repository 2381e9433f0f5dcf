/-
  THE TIED CARD OF WaveMany: the row, proved, with its one listed variable tied to the program's text by the given tie.
-/
import Derived.Test.YtijdmnimiipinaaDoorProof
import Derived.Test.YtijdmnimiipinaaDoorCards
import Derived.Test.YtijdmnimiipinaaDoorTie
import Derived.SevenTiedAt
set_option linter.unusedSimpArgs false
set_option linter.unusedVariables false
set_option linter.unnecessarySimpa false
namespace Go.Proofs.YtijdmnimiipinaaDoor
open Go

theorem waveMany_card_holds : Rows.WaveManyCardSaid :=
  Claim7.holds_tied_plain_at .later [] [.handle] true (true, "3debaf37765f823804eab4f8ff289f20d4d81f344710e30dd90467fc0c8b9882") true
    waveMany_holds (fun _ h => by cases h) (by kernel_rfl) (fun _ h => by cases h) waveMany_row_tie rfl ⟨rfl, rfl⟩ (by kernel_rfl) rfl
    (fun f fn hf hfn => by
      obtain rfl : f = 3 := Option.some.inj ((show Tryd.prog.funcNamed "tontine/tontinelaw.WaveMany" = some 3 by kernel_rfl).symm.trans hf) |>.symm
      obtain rfl : fn = Tryd.f3 := (Option.some.inj (Tryd.func3.symm.trans hfn)).symm
      exact ⟨by kernel_rfl, fun j t ht => by
        rw [Tryd.params3] at ht
        have h3 : t = 22 ∨ t = 3 := by
          rcases j with _ | _ | j
          · exact Or.inl (by simpa using ht.symm)
          · exact Or.inr (by simpa using ht.symm)
          · simp at ht
        rcases h3 with rfl | rfl
        · exact (show Tryd.prog.wantsStandIn 22 = false by kernel_rfl)
        · exact (show Tryd.prog.wantsStandIn 3 = false by kernel_rfl)⟩)
    (by kernel_rfl)
#print axioms waveMany_card_holds
end Go.Proofs.YtijdmnimiipinaaDoor
