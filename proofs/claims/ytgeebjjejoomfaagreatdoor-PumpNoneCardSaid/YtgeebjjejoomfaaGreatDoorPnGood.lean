/- The program's functions as the evaluator knows them; the document's example is true; PumpNone. Conditions: math/bits' table as it is laid. -/
import Derived.Test.YtgeebjjejoomfaaGreatDoorTabPnK
import Derived.Test.YtgeebjjejoomfaaGreatDoorEvC
import Derived.Test.YtgeebjjejoomfaaGreatDoorPnFrom1
import Derived.Test.YtgeebjjejoomfaaGreatDoorPnRep
import Derived.Test.YtgeebjjejoomfaaGreatDoorTz
set_option linter.unusedVariables false
set_option linter.unusedSimpArgs false
set_option linter.unnecessarySimpa false
set_option linter.constructorNameAsVariable false
namespace Go.Av.Tryz
open Go.RowKit Go.Proofs
def G : Emb := fun i => if i = 0 then some (0, 0) else none
def tab64 : List AV := [0, 1, 56, 2, 57, 49, 28, 3, 61, 58, 42, 50, 38, 29, 17, 4, 62, 47, 59, 36, 45, 43, 51, 22, 53, 39, 33, 30, 24, 18, 12, 5, 63, 55, 48, 27, 60, 41, 37, 16, 46, 35, 44, 21, 52, 32, 23, 11, 54, 26, 40, 15, 34, 20, 31, 10, 25, 14, 19, 9, 13, 8, 7, 6].map fun n => .int .u8 (.ofNat n)
noncomputable def H0 : Hp := ⟨.node .nil (some (.row true tab64)) .nil, 1, 1⟩
theorem base0 : Base G H0 := by
  intro i x h
  unfold G at h
  split at h
  · rename_i e; subst e
    exact ⟨Nat.zero_lt_one, tab64, rfl, by decide, by decide⟩
  · cases h

theorem tz_ok (C : Ctx) : PrimGood Tryz.prog C G 42 pTz64 := ⟨fun args H l h => tz64_ok (g := 0) rfl (fun vs w => enters_of' Tryz.func42 (by kernel_rfl) (by kernel_rfl) vs w) Tryz.tz_zero Tryz.tz_core h, fun args H l h => tz64_kept h⟩
theorem rep_ok (C : Ctx) : PrimGood Tryz.prog C G 50 pRepeat := ⟨fun args H l h => repeat_ok (fun vs w => enters_of' Tryz.func50 (by kernel_rfl) (by kernel_rfl) vs w) Tryz.strings_Repeat h, fun args H l h => repeat_kept h⟩
theorem add_ok (C : Ctx) : PrimGood Tryz.prog C G 117 pAdd64 := ⟨fun args H l h => add64_ok Tryz.func117 (by kernel_rfl) (by kernel_rfl) (by kernel_rfl) (by kernel_rfl) h, fun args H l h => add64_kept h⟩
theorem from_ok' (C : Ctx) : PrimGood Tryz.prog C G 163 pFrom := ⟨fun args H l h => from_ok (kt := 3) (fun vs w => enters_of' Tryz.func163 (by kernel_rfl) (by kernel_rfl) vs w) Tryz.underlying3 (fun b o n r ro len cap m nn D0 w a1 a2 a3 a4 a5 a6 => Tryz.gFrom b o n r ro len cap m nn D0 anyR w a1 a2 a3 a4 a5 a6) Tryz.gFromNil h, fun args H l h => from_kept h⟩
theorem idx_ok (C : Ctx) : PrimGood Tryz.prog C G 214 pIdxStr := ⟨fun args H l h => idxStr_ok Tryz.func214 (by kernel_rfl) (by kernel_rfl) (by kernel_rfl) (by kernel_rfl) h, fun args H l h => idxStr_kept h⟩
end Go.Av.Tryz
