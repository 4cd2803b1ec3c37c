/- graph.From by its contract: the keys of a map, rising. Conditions: those that each theorem states. -/
import Derived.Test.YtgeebjjejoomfaaGreatDoorPnFrom0
set_option linter.unusedVariables false
set_option linter.unusedSimpArgs false
set_option linter.unnecessarySimpa false
set_option linter.constructorNameAsVariable false
namespace Go.Proofs
open Go.RowKit Go.Maps Go.Sort Go.Shelf

set_option maxHeartbeats 1000000 in
theorem Tryz.gLen (b o : Nat) (p : Option Addr) (len cap : Nat) (w : World) (hc : w.cell? ⟨b, o, none⟩ = some (.slice p len cap)) :
    Calls Tryz.prog 62 #[.pointer (some ⟨b, o, none⟩)] w fun e w' => e = .returned (.int .i64 len) ∧ w' = w := by
  go_enter Tryz.func62, Tryz.ntmps62
  go_wp2
  go_ret
  exact ⟨rfl, rfl⟩
set_option maxHeartbeats 1000000 in
theorem Tryz.gHas (b o n : Nat) (p : Option Addr) (len cap : Nat) (w : World) (hc : w.cell? ⟨b, o, none⟩ = some (.slice p len cap)) (hn : n < len) :
    Calls Tryz.prog 91 #[.pointer (some ⟨b, o, none⟩), .int .i64 (n : Int)] w fun e w' => e = .returned (.bool true) ∧ w' = w := by
  go_enter Tryz.func91, Tryz.ntmps91
  go_wp2_with (go_at_call 62; refine (Tryz.gLen b o p len cap _ hc).mono ?_; rintro e w' ⟨rfl, rfl⟩)
  go_ret
  exact ⟨rfl, rfl⟩
set_option maxHeartbeats 1000000 in
theorem Tryz.gFrom {H : Type} (b o n r ro : Nat) (len cap : Nat) (m nn : Nat) (D0 : DataW H) (R : Value → Option (DataW H × List MemPlace)) (w : World) (hc : w.cell? ⟨b, o, none⟩ = some (.slice (some ⟨r, ro, none⟩) len cap)) (hn : n < len)
    (hm : w.cell? ⟨r, ro + n, none⟩ = some (.map (some m))) (hown : w.ownsMap Tryz.prog 3 R m nn D0) (hmax : Maps.size D0 ≤ maxLen) (hbytes : Maps.size D0 * 8 ≤ 140737488355328) :
    Calls Tryz.prog 163 #[.pointer (some ⟨b, o, none⟩), .int .i64 (n : Int)] w fun e w' => ∃ (v : Value) (ss : List Int), e = .returned v ∧ ss.Perm (intKeys D0) ∧
      w'.ownsRow w.heap.size 3 1 v ss.length ((ss.mergeSort (fun x y => decide (x ≤ y))).map encZ) ∧ (v = .slice none 0 0 ↔ ss = []) ∧ Below w.heap.size w w' := by
  refine (callsIn_wide (n := 6)).1 ?_
  have hbl := hown.lt
  have hseq : ∀ k : Nat, SeqGives Fence.wide 2 Tryz.prog 209 #[.pointer (some ⟨w.heap.size, 0, none⟩)] encZ (fun ss => ss.Perm (intKeys D0)) (Maps.size D0) ((w.alloc (.cells #[.map (some m)] 86))) := fun _ =>
    AnyZI.keys_gives (ρ := Tryz.keysA_ren) { Tryz.keysA with } Fence.wide _ trivial rfl (by omega) w.heap.size m nn D0 _ (by simp) (by simp) (by
      obtain ⟨es, clock, hb, Ft, hs, hD⟩ := hown
      exact ⟨es, clock, (Below.heap_alloc _ _ m hbl).trans hb, Ft, hs, hD⟩)
  have cH : CallsIn Fence.wide 5 Tryz.prog 91 #[.pointer (some ⟨b, o, none⟩), .int .i64 (n : Int)] w fun e w' => e = .returned (.bool true) ∧ w' = w := callsIn_wide.2 (Tryz.gHas b o n _ len cap w hc hn)
  have cK : ∀ mb W, CallsIn Fence.wide 5 Tryz.prog 190 #[.map mb] W fun e w' => e = .returned (.func (.func 209) #[] #[.pointer (some ⟨W.heap.size, 0, none⟩)]) ∧ w' = W.alloc (.cells #[.map mb] 86) := fun mb W => AnyZI.keys_in Tryz.keysA Fence.wide 5 trivial rfl mb W
  have cS := AnyZI.sorted_in Tryz.sortedA Fence.wide 5 trivial trivial trivial trivial rfl (by omega) (Tryz.sortsA _) (enters_of Tryz.func68 (by kernel_rfl) rfl) 209 #[.pointer (some ⟨w.heap.size, 0, none⟩)] trivial (enters_of Tryz.func209 (by kernel_rfl) rfl) _ _ hmax hbytes _ (hseq 0)
  change CallsIn _ _ Tryz.prog 189 _ _ _ at cS
  have hfH : Fence.wide.fn 91 := trivial
  have hfK : Fence.wide.fn 190 := trivial
  have hfS : Fence.wide.fn 189 := trivial
  refine callsIn_of_wp Tryz.func163 rfl trivial ?_ rfl
  simp only [Tryz.ntmps163, List.size_toArray, List.length_cons, List.length_nil, Nat.reduceAdd, Nat.reduceSub, Array.replicate_succ, Array.replicate_zero, List.push_toArray, List.append_toArray, List.nil_append, List.cons_append]
  gi_wp2_with (first
    | (gi_at_call 91; refine cH.mono ?_; rintro e w' ⟨rfl, rfl⟩)
    | (gi_at_call 190; refine (cK _ _).mono ?_; rintro e w' ⟨rfl, rfl⟩)
    | (gi_at_call 189; refine cS.mono ?_; rintro e w' ⟨v, ss, rfl, hS, hrow, hnil, hb⟩))
  go_ret
  exact ⟨v, ss, rfl, hS, ownsRow_base_a hrow (by simp), hnil, ((RowKit.Below.refl _ _).alloc (Nat.le_refl _) _).trans (hb.mono (by simp))⟩
set_option maxHeartbeats 1000000 in
theorem Tryz.gFromNil (b o n r ro : Nat) (len cap : Nat) (w : World) (hc : w.cell? ⟨b, o, none⟩ = some (.slice (some ⟨r, ro, none⟩) len cap)) (hn : n < len) (hm : w.cell? ⟨r, ro + n, none⟩ = some (.map none)) :
    Calls Tryz.prog 163 #[.pointer (some ⟨b, o, none⟩), .int .i64 (n : Int)] w fun e w' => e = .returned (.slice none 0 0) ∧ RowKit.Below w.heap.size w w' := by
  refine (callsIn_wide (n := 6)).1 ?_
  have hseq : SeqGives Fence.wide 2 Tryz.prog 209 #[.pointer (some ⟨w.heap.size, 0, none⟩)] encZ (fun ss : List Int => ss = []) 0 (w.alloc (.cells #[.map none] 86)) :=
    AnyZI.keys_gives_nil (ρ := Tryz.keysA_ren) { Tryz.keysA with } Fence.wide _ trivial rfl w.heap.size _ (by simp) (by simp)
  have cH : CallsIn Fence.wide 5 Tryz.prog 91 #[.pointer (some ⟨b, o, none⟩), .int .i64 (n : Int)] w fun e w' => e = .returned (.bool true) ∧ w' = w := callsIn_wide.2 (Tryz.gHas b o n _ len cap w hc hn)
  have cK : ∀ mb W, CallsIn Fence.wide 5 Tryz.prog 190 #[.map mb] W fun e w' => e = .returned (.func (.func 209) #[] #[.pointer (some ⟨W.heap.size, 0, none⟩)]) ∧ w' = W.alloc (.cells #[.map mb] 86) := fun mb W => AnyZI.keys_in Tryz.keysA Fence.wide 5 trivial rfl mb W
  have cS := AnyZI.sorted_in Tryz.sortedA Fence.wide 5 trivial trivial trivial trivial rfl (by omega) (Tryz.sortsA _) (enters_of Tryz.func68 (by kernel_rfl) rfl) 209 #[.pointer (some ⟨w.heap.size, 0, none⟩)] trivial (enters_of Tryz.func209 (by kernel_rfl) rfl) _ 0 (Nat.zero_le _) (by omega) _ hseq
  change CallsIn _ _ Tryz.prog 189 _ _ _ at cS
  have hfH : Fence.wide.fn 91 := trivial
  have hfK : Fence.wide.fn 190 := trivial
  have hfS : Fence.wide.fn 189 := trivial
  refine callsIn_of_wp Tryz.func163 rfl trivial ?_ rfl
  simp only [Tryz.ntmps163, List.size_toArray, List.length_cons, List.length_nil, Nat.reduceAdd, Nat.reduceSub, Array.replicate_succ, Array.replicate_zero, List.push_toArray, List.append_toArray, List.nil_append, List.cons_append]
  gi_wp2_with (first
    | (gi_at_call 91; refine cH.mono ?_; rintro e w' ⟨rfl, rfl⟩)
    | (gi_at_call 190; refine (cK _ _).mono ?_; rintro e w' ⟨rfl, rfl⟩)
    | (gi_at_call 189; refine cS.mono ?_; rintro e w' ⟨v, ss, rfl, rfl, hrow, hnil, hb⟩; obtain rfl : v = .slice none 0 0 := hnil.2 rfl))
  go_ret
  exact ⟨rfl, ((RowKit.Below.refl _ _).alloc (Nat.le_refl _) _).trans (hb.mono (by simp))⟩
end Go.Proofs
