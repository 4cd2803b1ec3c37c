/- The program's functions as the evaluator knows them: sound; the document's example is true. Conditions: math/bits' table as it is laid. -/
import Derived.Test.YtgeebjjejoomfaaGreatDoorPnGood
set_option linter.unusedVariables false
set_option linter.unusedSimpArgs false
set_option linter.unnecessarySimpa false
set_option linter.constructorNameAsVariable false
namespace Go.Av.Tryz
open Go.RowKit Go.Proofs
noncomputable def primT : T (List AV → Hp → Option (List (AV × Hp))) := (.node (.node (.node .nil none (.node (.node (.node .nil none (.node (.node .nil (some pFrom) .nil) none .nil)) none .nil) none .nil)) none (.node .nil none (.node (.node .nil none (.node .nil none (.node .nil (some pAdd64) .nil))) none .nil))) none (.node .nil none (.node (.node (.node .nil none (.node .nil (some pRepeat) .nil)) none (.node (.node .nil (some pTz64) .nil) none .nil)) none (.node (.node .nil none (.node (.node .nil none (.node .nil (some pIdxStr) .nil)) none .nil)) none .nil))))
theorem primT_ok (C : Ctx) : T.AllI (PrimGood Tryz.prog C G) primT 1 0 := ⟨⟨⟨trivial, trivial, ⟨⟨⟨trivial, trivial, ⟨⟨trivial, (from_ok' C), trivial⟩, trivial, trivial⟩⟩, trivial, trivial⟩, trivial, trivial⟩⟩, trivial, ⟨trivial, trivial, ⟨⟨trivial, trivial, ⟨trivial, trivial, ⟨trivial, (add_ok C), trivial⟩⟩⟩, trivial, trivial⟩⟩⟩, trivial, ⟨trivial, trivial, ⟨⟨⟨trivial, trivial, ⟨trivial, (rep_ok C), trivial⟩⟩, trivial, ⟨⟨trivial, (tz_ok C), trivial⟩, trivial, trivial⟩⟩, trivial, ⟨⟨trivial, trivial, ⟨⟨trivial, trivial, ⟨trivial, (idx_ok C), trivial⟩⟩, trivial, trivial⟩⟩, trivial, trivial⟩⟩⟩⟩
noncomputable def C7 : Ctx := ctx primT.get
theorem good7 : Good Tryz.prog C7 G (drawOk C7) := good_of mixed (ctx_ok _) (ctx_fn _) fun f p h => (primT_ok C7).get h
def okT : M (AV × Hp) → Bool
  | some [(.bool true, _)] => true
  | _ => false
theorem okT_eq {m : M (AV × Hp)} (h : okT m = true) : ∃ H, m = some [(.bool true, H)] := by
  unfold okT at h
  split at h
  · exact ⟨_, rfl⟩
  · cases h
theorem awake7 : okT (callA C7 600 7 [] H0) = true := by kernel_rfl
theorem awake_good (C : Ctx) (hq : C.quiet = C7.quiet) : PrimGood Tryz.prog C G 7 (pMemo H0 [0] [] (.bool true)) := by
  constructor
  · intro args H l h
    unfold pMemo at h
    cases hb : (AV.beqs [] args && [0].all fun i => beqOO (H.get i) (H0.get i)) with
    | false => rw [hb] at h; cases h
    | true =>
      rw [hb, cond_true] at h; cases h
      rw [Bool.and_eq_true] at hb
      have e1 := beqs_eq _ _ hb.1
      subst e1
      obtain ⟨H', e2⟩ := okT_eq awake7
      have h0 : CallOK Tryz.prog C G 7 [] H0 [(.bool true, H')] := by
        have := sound good7 e2
        unfold CallOK at this ⊢
        rw [hq]; exact this
      refine callOK_memo h0 (fun r hr => ?_) rfl rfl rfl rfl base0 fun i x hx => ?_
      · cases hr with
        | head => rfl
        | tail _ h => cases h
      · unfold G at hx
        split at hx
        · rename_i e; subst e
          exact beqOO_eq (by simpa using hb.2)
        · cases hx
  · intro args H l h
    unfold pMemo at h
    cases hb : (AV.beqs [] args && [0].all fun i => beqOO (H.get i) (H0.get i)) with
    | false => rw [hb] at h; cases h
    | true =>
      rw [hb, cond_true] at h; cases h
      intro r hr; cases hr with
      | head => exact ⟨Keep2.refl _, rfl⟩
      | tail _ h => cases h
noncomputable def primT8 : T (List AV → Hp → Option (List (AV × Hp))) := (.node (.node (.node (.node .nil (some (pMemo H0 [0] [] (.bool true))) .nil) none (.node (.node (.node .nil none (.node (.node .nil (some pFrom) .nil) none .nil)) none .nil) none .nil)) none (.node .nil none (.node (.node .nil none (.node .nil none (.node .nil (some pAdd64) .nil))) none .nil))) none (.node .nil none (.node (.node (.node .nil none (.node .nil (some pRepeat) .nil)) none (.node (.node .nil (some pTz64) .nil) none .nil)) none (.node (.node .nil none (.node (.node .nil none (.node .nil (some pIdxStr) .nil)) none .nil)) none .nil))))
theorem primT8_ok (C : Ctx) (hq : C.quiet = C7.quiet) : T.AllI (PrimGood Tryz.prog C G) primT8 1 0 := ⟨⟨⟨⟨trivial, (awake_good C hq), trivial⟩, trivial, ⟨⟨⟨trivial, trivial, ⟨⟨trivial, (from_ok' C), trivial⟩, trivial, trivial⟩⟩, trivial, trivial⟩, trivial, trivial⟩⟩, trivial, ⟨trivial, trivial, ⟨⟨trivial, trivial, ⟨trivial, trivial, ⟨trivial, (add_ok C), trivial⟩⟩⟩, trivial, trivial⟩⟩⟩, trivial, ⟨trivial, trivial, ⟨⟨⟨trivial, trivial, ⟨trivial, (rep_ok C), trivial⟩⟩, trivial, ⟨⟨trivial, (tz_ok C), trivial⟩, trivial, trivial⟩⟩, trivial, ⟨⟨trivial, trivial, ⟨⟨trivial, trivial, ⟨trivial, (idx_ok C), trivial⟩⟩, trivial, trivial⟩⟩, trivial, trivial⟩⟩⟩⟩
noncomputable def C8 : Ctx := ctx primT8.get
theorem good8 : Good Tryz.prog C8 G (drawOk C8) := good_of mixed (ctx_ok _) (ctx_fn _) fun f p h => (primT8_ok C8 rfl).get h
theorem none8 (k p q n : Int) (x y : List UInt8) : okT (callA C8 200 3 [.agg [.int .i64 k, .str x, .str y, .int .i64 p, .int .i64 q], .int .i64 n] H0) = true := by kernel_rfl
end Go.Av.Tryz
