/- PumpNone: of no automaton nothing comes: for every family and every position the law answers true. Conditions: none but the row's own (the table of math/bits reads as it is laid). -/
import Derived.Test.YtgeebjjejoomfaaGreatDoorCards
import Derived.Test.YtgeebjjejoomfaaGreatDoorTie
import Derived.Test.YtgeebjjejoomfaaGreatDoorPnAwake
import Derived.Test.YtgeebjjejoomfaaGreatDoorEvC
import Derived.LaidMore
import Derived.Lay
import Derived.SevenTiedAt
import Derived.Stop.Joined
set_option linter.unusedVariables false
set_option linter.unusedSimpArgs false
set_option linter.unnecessarySimpa false
set_option linter.constructorNameAsVariable false
namespace Go.Proofs.YtgeebjjejoomfaaGreatDoor
open Go.ChangeShapes Go.WideShapes Go.ChangeAt Go.RowKit Go.Av

theorem own : ownKnob Tryz.prog.godebug = none := by kernel_rfl
theorem laidOut : laidOutB Tryz.prog = true := by kernel_rfl
abbrev laidL : List (String × DataW Unit) := [("math/bits.deBruijn64tab", Rows.laid_math_bits_deBruijn64tab)]
def tabZ : List Int := [0, 1, 56, 2, 57, 49, 28, 3, 61, 58, 42, 50, 38, 29, 17, 4, 62, 47, 59, 36, 45, 43, 51, 22, 53, 39, 33, 30, 24, 18, 12, 5, 63, 55, 48, 27, 60, 41, 37, 16, 46, 35, 44, 21, 52, 32, 23, 11, 54, 26, 40, 15, 34, 20, 31, 10, 25, 14, 19, 9, 13, 8, 7, 6]

theorem table {W : World} (h : laidMetH Tryz.prog laidL W) : ∃ cs e fr, W.heap[0]? = some (.cells cs e fr) ∧ cs.toList = tabZ.map fun n => .int .u8 n := by
  rw [MakeChecks.laidMetH_plain _ _ _ (by kernel_rfl)] at h
  exact table_of_laid (tab := tabZ) (t := 149) (e := 5) (by kernel_rfl) (by kernel_rfl) Tryz.underlying149 (by kernel_rfl) Tryz.underlying5 (by kernel_rfl) h

theorem start {W : World} (h : laidMetH Tryz.prog laidL W) : R Av.Tryz.G Av.Tryz.H0 W := by
  obtain ⟨cs, e, fr, h1, h2⟩ := table h
  have hG : ∀ i b s, Av.Tryz.G i = some (b, s) → i = 0 ∧ b = 0 ∧ s = 0 := by
    intro i b s hi
    unfold Av.Tryz.G at hi
    split at hi
    · cases hi; exact ⟨by assumption, rfl, rfl⟩
    · cases hi
  refine ⟨fun i b s hi => ?_, fun i j b s s' o o' hne hi hj => ?_, fun i j b s s' ents clk hi hj _ => ?_, fun i b s o hi ho => ?_⟩
  · obtain ⟨rfl, rfl, rfl⟩ := hG i b s hi
    exact ⟨Nat.zero_lt_one, blk_lt h1⟩
  · have := (hG i b s hi).1; have := (hG j b s' hj).1; omega
  · have := (hG i b s hi).1; have := (hG j b s' hj).1; omega
  · obtain ⟨rfl, rfl, rfl⟩ := hG i b s hi
    have : o = .row true Av.Tryz.tab64 := (Option.some.inj ho).symm
    subst this
    have hl : cs.toList.length = 64 := by rw [h2]; rfl
    have hsz : cs.size = 64 := by simpa using hl
    refine ⟨cs, e, fr, h1, fun h => (by cases h), (by rw [hsz]; decide), ?_⟩
    rw [List.drop_zero, List.take_of_length_le (by rw [hl]; decide), h2]
    exact VRs.of_pure (ι := Av.Tryz.G) (w := W) Av.Tryz.tab64 (by decide) (by decide)

set_option maxRecDepth 100000 in
theorem lifted (os : Os) (started : os.Started) (H : Type) (enc : TypeId × Value → H) :
    ReturnsInHanded {} Tryz.checked os 3 .any (fun w args => (Rows.pumpNoneSpec.pre enc Tryz.prog Tryz.f3 Rows.pumpNoneRow.domain false w args ∧ laidMetH Tryz.prog laidL w) ∧ sizedMet enc Tryz.prog Tryz.f3 (OpenSpec.ofChange Rows.pumpNoneSpec) false w args)
      (Rows.pumpNoneSpec.post enc Tryz.prog Tryz.f3 false true false false) := by
  refine returnsInHanded_of_change_and (C := Tryz.checked) (X := fun w _ => laidMetH Tryz.prog laidL w) (fun _ _ _ hh h => h.of_heap hh) own started (by kernel_rfl) Tryz.func3
    (ChangeSpec.witness_shaped (enc := enc) (C := Tryz.checked) (os := os) (X := fun w _ => laidMetH Tryz.prog laidL w) false (World.laidAll Tryz.prog os laidL) #[.agg #[.int .i64 0, .string ⟨#[]⟩, .string ⟨#[]⟩, .int .i64 0, .int .i64 0], .int .i64 0] 8 (World.laidAll_os _ _ _)
      (World.shaped_of_ZipB (by kernel_rfl) (by kernel_rfl)) (by kernel_rfl) (by kernel_rfl) (by kernel_rfl)
      (by rw [MakeChecks.laidMetH_plain _ _ _ (by kernel_rfl)]; exact laidMet_laidAll _ (by kernel_rfl) (by kernel_rfl))) ?_
  intro W base args ds gs before hval0 hW hc _ hL _
  have hval : ∀ (j : Nat) t v, Tryz.f3.params[j]? = some t → args[j]? = some v → Value.okWide Tryz.prog W .any base t v := hval0
  have hW' := hW
  obtain ⟨p, q, hA0, hV, rfl, _, _⟩ := hW
  have hA : DataW.TrodAll enc Tryz.prog W 0 (fun _ => true) true Tryz.f3.params.toList args.toList ds p := hA0
  rw [Tryz.params3] at hA hval
  obtain ⟨v0, v1, d0, d1, p0, p1, rfl, rfl, rfl, h0, h1⟩ := trodAll_two hA
  obtain ⟨rfl, rfl⟩ := trodVars_none hV
  obtain ⟨n, e1, _, _, _⟩ := open_int Tryz.underlying3 (hval 1 3 v1 rfl rfl) h1
  obtain ⟨cs, e0, hcs⟩ := open_flat (fs := _) (ks := [.i .i64, .s, .s, .i .i64, .i .i64]) Tryz.underlying23 (by kernel_rfl) (hval 0 23 v0 rfl rfl) h0
  obtain ⟨_, _, rfl, ⟨k, rfl, _⟩, _, _, rfl, ⟨x, rfl, _⟩, _, _, rfl, ⟨y, rfl, _⟩, _, _, rfl, ⟨pp, rfl, _⟩, _, _, rfl, ⟨qq, rfl, _⟩, e2⟩ := hcs
  simp only [CellsAre] at e2; subst e2; subst e0; subst e1
  clear hA0 hval0
  simp only [List.append_nil] at hW'
  have hlt : ∀ z ∈ p0 ++ p1, z.block < W.heap.size := fun z hz => by simpa using hW'.lt z hz
  obtain ⟨H', hev⟩ := Av.Tryz.okT_eq (Av.Tryz.none8 k pp qq n x.data.toList y.data.toList)
  have hcall := calls_of (v := .bool true) (W := W) (vs := [.agg #[.int .i64 k, .string x, .string y, .int .i64 pp, .int .i64 qq], .int .i64 n]) (enters_of' Tryz.func3 (by kernel_rfl) (by kernel_rfl) _ _)
    (sound Av.Tryz.good8 hev) (fun r hr => by cases hr with | head => rfl | tail _ h => cases h) rfl Av.Tryz.base0 (start hL)
    ⟨_, _, rfl, ⟨_, rfl, _, _, rfl, rfl, _, _, rfl, rfl, _, _, rfl, rfl, _, _, rfl, rfl, _, _, rfl, rfl, rfl⟩, _, _, rfl, rfl, rfl⟩
  refine hcall.mono fun e W' ⟨he, hb⟩ => ?_
  refine ⟨_, he, ?_⟩
  refine ⟨_, _, _, [], p0 ++ p1, [], hW', trodAll_mk1 (shut_bool Tryz.underlying4 true), ?_, rfl, hb.frame _, fun h => by cases h⟩
  exact trodAll_mk2 (Below.trod laidOut (by kernel_rfl) (of_decide_eq_true (by kernel_rfl)) h0 hb (fun z hz => hlt z (List.mem_append_left _ hz)))
    (Below.trod laidOut (by kernel_rfl) (of_decide_eq_true (by kernel_rfl)) h1 hb (fun z hz => hlt z (List.mem_append_right _ hz)))
theorem holds : Rows.PumpNoneSaid :=
  OpenClaim.holds_of_wide 3 Tryz.f3 rfl rfl rfl rfl rfl rfl rfl ⟨rfl, rfl, rfl, rfl, rfl⟩ rfl rfl rfl rfl rfl (by kernel_rfl) Tryz.func3 (by kernel_rfl)
    (of_decide_eq_true (by kernel_rfl)) (by unfold Func.isWrapper; rw [if_neg (by decide +kernel)]; exact ⟨rfl, rfl⟩)
    (fun os started H enc _ => lifted os started H enc)
theorem pumpNone_holds : Rows.PumpNoneCardSaid :=
  Claim7.holds_tied_plain_at .later [] [.data] true (true, "4268369e5d7a69f545f6628819aff99ec36cb42104975fcc706fb571dfbb550d") false holds (fun _ h => by cases h) (by kernel_rfl) (fun _ h => by cases h) pumpNone_row_tie rfl ⟨rfl, rfl⟩ (by kernel_rfl) rfl
    (fun f fn hf hfn => by
      obtain rfl : f = 3 := Option.some.inj ((show Tryz.prog.funcNamed "caltrop/caltroplaw19.PumpNone" = some 3 by kernel_rfl).symm.trans hf) |>.symm
      obtain rfl : fn = Tryz.f3 := (Option.some.inj (Tryz.func3.symm.trans hfn)).symm
      exact ⟨by kernel_rfl, fun j t ht => by
        rw [Tryz.params3] at ht
        have hm : t ∈ [23, 3] := by simpa using Array.mem_of_getElem? ht
        have hall : ([23, 3].all fun u => !Tryz.prog.wantsStandIn u) = true := by kernel_rfl
        exact (show Tryz.prog.wantsStandIn t = false by simpa using List.all_eq_true.1 hall t hm)⟩)
    (by kernel_rfl)
#print axioms pumpNone_holds
end Go.Proofs.YtgeebjjejoomfaaGreatDoor
