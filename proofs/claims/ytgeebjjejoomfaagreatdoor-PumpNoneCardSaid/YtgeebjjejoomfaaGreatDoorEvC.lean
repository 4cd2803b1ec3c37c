/- Functions that are known otherwise than by their code: what they may do to the memory; entries of the model's own. Conditions: none. -/
import Derived.Test.YtgeebjjejoomfaaGreatDoorEvB
import Derived.Laws.Externs
import Derived.Below
import Derived.Laws.Bits64b
import Derived.Maps.Own
import Derived.Lib.SlKeysI
import Derived.Lib.Repeat
import Derived.ProofKit
import Derived.OpenShut
set_option linter.unusedVariables false
set_option linter.unusedSimpArgs false
set_option linter.unnecessarySimpa false
set_option linter.constructorNameAsVariable false
namespace Go.Av
open Go.RowKit

section
variable {P : Program} {C : Ctx} {G ι : Emb} {H : Hp} {w w' : World}

/-- all that was there is as it was -/
theorem below_R (r : R ι H w) (hb : Below w.heap.size w w') : R ι H w' ∧ Post ι ι H H w w' ∧ Same w w' := by
  have hk : Keeps w w' := ⟨hb.size, fun b x h => by
    have hlt : b < w.heap.size := by
      rcases Nat.lt_or_ge b w.heap.size with h' | h'
      · exact h'
      · rw [World.shape?, Array.getElem?_eq_none h'] at h; cases h
    rw [World.shape?, hb.block b hlt]; exact h⟩
  refine ⟨⟨fun i b s h => ⟨(r.dom i b s h).1, Nat.lt_of_lt_of_le (r.dom i b s h).2 hb.size⟩, r.inj, fun i j b s s' ents clk h1 h2 h3 => r.injm i j b s s' ents clk h1 h2 (by rw [← hb.block b (r.dom i b s h1).2]; exact h3), fun i b s o h1 h2 => ?_⟩, ?_, fun b h => hb.block b h⟩
  · exact OR.mono (SubE.refl _) hk (fun b' _ _ h => hb.block b' (blk_lt h)) (hb.block b (r.dom i b s h1).2) (r.obj i b s o h1 h2)
  · exact ⟨SubE.refl _, hk, hb.os, hb.tape, hb.output, Nat.le_refl _, rfl, fun i o' _ h => ⟨o', h, rfl⟩, fun i b s h1 h2 => (by rw [h1] at h2; cases h2), fun b h _ => hb.block b h, fun _ _ _ => rfl, fun i b s o _ h1 _ => hb.block b (r.dom i b s h1).2⟩

/-- and a new row -/
theorem below_new (r : R ι H w) (hb : Below w.heap.size w w') {g : Nat} {cs : List AV} (hg : w.heap.size ≤ g) (ho : OR (ι.add H.next (g, 0)) w' g 0 (.row false cs)) :
    R (ι.add H.next (g, 0)) (H.new (.row false cs)) w' ∧ Post ι (ι.add H.next (g, 0)) H (H.new (.row false cs)) w w' ∧ Same w w' := by
  obtain ⟨r1, p1, s1⟩ := below_R r hb
  have hgl := ho.blk_lt
  have hfree : ∀ x s' o, ι x = some (g, s') → H.get x = some o → False := fun x s' o h _ => by have := (r.dom x g s' h).2; omega
  refine ⟨r1.addRow hgl hfree ho, ?_, s1⟩
  refine ⟨r1.sub_add _, p1.keeps, p1.os, p1.tape, p1.output, Nat.le_succ _, rfl, fun i o' hi h => ⟨o', by rwa [Hp.get_new, if_neg (by omega)] at h, rfl⟩, ?_, p1.frame, fun i _ h => by rw [Hp.get_new, if_neg (by omega)], p1.pf⟩
  intro i b s h1 h2
  by_cases e : i = H.next
  · subst e; simp [Emb.add] at h2; obtain ⟨rfl, rfl⟩ := h2; exact ⟨Nat.le_refl _, .inl hg⟩
  · simp [Emb.add, e, h1] at h2

/-- a call that answers here and now, and touches nothing -/
theorem callOK_now {f : FuncId} {args : List AV} {v : AV}
    (h : ∀ (ι : Emb) (w : World) (vs : List Value), SubE G ι → R ι H w → VRs ι w args vs → ∃ u, (callFunc f ⟨vs⟩).run P w = .ok (.value u) w ∧ VR ι w v u) : CallOK P C G f args H [(v, H)] := by
  intro ι w vs hg r hv
  obtain ⟨u, h1, h2⟩ := h ι w vs hg r hv
  exact .inl ⟨u, w, h1, _, .head _, ι, r, Post.refl .., h2, fun _ _ _ => rfl⟩
theorem callOK_below {f : FuncId} {args : List AV} {v : AV} (he : ∀ (vs : List Value) (w : World), (callFunc f ⟨vs⟩).run P w = .ok (.enter f ⟨vs⟩) w)
    (h : ∀ (ι : Emb) (w : World) (vs : List Value), SubE G ι → R ι H w → VRs ι w args vs → Calls P f ⟨vs⟩ w fun e w' => ∃ u, e = .returned u ∧ VR ι w v u ∧ Below w.heap.size w w') : CallOK P C G f args H [(v, H)] := by
  intro ι w vs hg r hv
  refine .inr ⟨he vs w, (h ι w vs hg r hv).mono ?_⟩
  rintro e w' ⟨u, rfl, h2, h3⟩
  obtain ⟨a1, a2, a3⟩ := below_R r h3
  exact ⟨_, .head _, ι, a1, a2, VR.mono (SubE.refl _) a2.keeps _ _ h2, fun _ => a3⟩
theorem callOK_row {f : FuncId} {args : List AV} {cs : List AV} {k : Nat} {t : TypeId} (he : ∀ (vs : List Value) (w : World), (callFunc f ⟨vs⟩).run P w = .ok (.enter f ⟨vs⟩) w) (hk : 0 < k)
    (h : ∀ (ι : Emb) (w : World) (vs : List Value), SubE G ι → R ι H w → VRs ι w args vs → Calls P f ⟨vs⟩ w fun e w' => ∃ u us, e = .returned u ∧ w'.ownsRow w.heap.size t k u cs.length us ∧ 0 < cs.length ∧ k = 1 ∧ VRs ι w cs us ∧ Below w.heap.size w w') :
    CallOK P C G f args H [(.slc (some (H.next, 0)) cs.length k, H.new (.row false cs))] := by
  intro ι w vs hg r hv
  refine .inr ⟨he vs w, (h ι w vs hg r hv).mono ?_⟩
  rintro e w' ⟨u, us, rfl, h2, h3, rfl, h4, h5⟩
  obtain ⟨g1, ⟨_, g2⟩ | ⟨g, cap, cur, rfl, g2, g3, g4, g5, g6, g7⟩⟩ := h2
  · omega
  · obtain ⟨_, p0, _⟩ := below_R r h5
    have ho : OR (ι.add H.next (g, 0)) w' g 0 (.row false cs) := by
      refine ⟨cur, t, (0, 0), g3, fun _ => rfl, by omega, ?_⟩
      rw [List.drop_zero]
      rw [Nat.mul_one] at g7
      rw [g7]
      exact VRs.mono (r.sub_add _) p0.keeps _ _ h4
    obtain ⟨a1, a2, a3⟩ := below_new r h5 g2 ho
    refine ⟨_, .head _, _, a1, a2, ?_, fun _ => a3⟩
    exact ⟨g, 0, 0, cap, t, cur.size, Emb.add_same .., by simp [World.shape?, g3], by simp, by omega, by omega, g5, rfl⟩

/-! ### Entries of the model's own -/
theorem enters_of' {f : FuncId} {fn : Func} (h1 : P.funcs[f]? = some fn) (h2 : (fn.name == "runtime.NumGoroutine") = false) (h3 : fn.body.isSome = true) (vs : List Value) (w : World) : (callFunc f ⟨vs⟩).run P w = .ok (.enter f ⟨vs⟩) w := by
  have f2' : fn.name ≠ "runtime.NumGoroutine" := by simpa using h2
  cases hb : fn.body with
  | none => rw [hb] at h3; cases h3
  | some c => simp [callFunc, h1, f2', hb]

def pAdd64 (a : List AV) (H : Hp) : Option (List (AV × Hp)) :=
  match a with
  | [.int .u64 (.ofNat x), .int .u64 (.ofNat y), .int .u64 (.ofNat c)] => bif Nat.ble c 1 then some [(.tup [.int .u64 (.ofNat ((x + y + c) % 18446744073709551616)), .int .u64 (.ofNat ((x + y + c) / 18446744073709551616))], H)] else none
  | _ => none
theorem add64_ok {f : FuncId} {fn : Func} (hf : P.funcs[f]? = some fn) (h1 : (fn.name == "runtime.NumGoroutine") = false) (h2 : fn.body.isNone = true) (h3 : Extern.findNext fn = none) (h4 : Extern.find fn = some add64Entry)
    {args : List AV} {H : Hp} {l : List (AV × Hp)} (h : pAdd64 args H = some l) : CallOK P C G f args H l := by
  unfold pAdd64 at h
  split at h
  · rename_i x y c
    cases hc : Nat.ble c 1 with
    | false => rw [hc] at h; cases h
    | true =>
      rw [hc] at h; cases h
      have hc := Nat.le_of_ble_eq_true hc
      refine callOK_now fun ι w vs _ r hv => ?_
      obtain ⟨v1, _, rfl, e1, v2, _, rfl, e2, v3, _, rfl, e3, e4⟩ := hv
      cases e1; cases e2; cases e3; simp only [VRs] at e4; subst e4
      refine ⟨.tuple #[.int .u64 (.ofNat ((x + y + c) % 18446744073709551616)), .int .u64 (.ofNat ((x + y + c) / 18446744073709551616))], ?_, _, rfl, _, _, rfl, rfl, _, _, rfl, rfl, rfl⟩
      rw [run_callFunc_extern hf h1 h2 h3 h4]
      have := run_add64 (P := P) (x : Int) y c (by omega) (by omega) (by omega) (by omega) w
      show (Sem.run P (add64Entry #[Value.int IntKind.u64 (x : Int), Value.int IntKind.u64 (y : Int), Value.int IntKind.u64 (c : Int)]) w).andThen _ = _
      rw [this]
      rfl
  · cases h

def idxA (b : UInt8) : List UInt8 → Nat → Int
  | [], _ => -1
  | c :: cs, i => bif c == b then .ofNat i else idxA b cs (i + 1)
def pIdxStr (a : List AV) (H : Hp) : Option (List (AV × Hp)) :=
  match a with
  | [.str s, .int .u8 c] => some [(.int .i64 (idxA c.toNat.toUInt8 s 0), H)]
  | _ => none
theorem find_idx (c : UInt8) : ∀ (l : List UInt8) (k : Nat) (p : Nat → Bool), (∀ i x, l[i]? = some x → p (k + i) = (x == c)) →
    (match (List.range' k l.length).find? p with | some i => Int.ofNat i | none => -1) = idxA c l k
  | [], k, p, _ => rfl
  | x :: xs, k, p, h => by
    have h0 := h 0 x rfl
    rw [Nat.add_zero] at h0
    rw [List.length_cons, List.range'_succ, List.find?_cons, h0]
    simp only [idxA]
    cases hb : x == c with
    | true => rfl
    | false =>
      refine find_idx c xs (k + 1) p fun i y hi => ?_
      rw [show k + 1 + i = k + (i + 1) by omega]
      exact h (i + 1) y (by simpa using hi)
theorem firstIdx_eq (s : List UInt8) (c : UInt8) : firstIdx ⟨⟨s⟩⟩ c = idxA c s 0 := by
  unfold firstIdx
  rw [List.range_eq_range']
  refine find_idx c s 0 _ fun i x hx => ?_
  rw [Nat.zero_add]
  obtain ⟨h1, h2⟩ := List.getElem?_eq_some_iff.1 hx
  have : (⟨⟨s⟩⟩ : ByteArray)[i]! = x := by
    rw [getElem!_pos (⟨⟨s⟩⟩ : ByteArray) i h1]
    exact h2
  rw [this]
theorem idxStr_ok {f : FuncId} {fn : Func} (hf : P.funcs[f]? = some fn) (h1 : (fn.name == "runtime.NumGoroutine") = false) (h2 : fn.body.isNone = true) (h3 : Extern.findNext fn = none) (h4 : Extern.find fn = some Extern.BytealgIndexByte.indexByte)
    {args : List AV} {H : Hp} {l : List (AV × Hp)} (h : pIdxStr args H = some l) : CallOK P C G f args H l := by
  unfold pIdxStr at h
  split at h
  · rename_i s c
    cases h
    refine callOK_now fun ι w vs _ r hv => ?_
    obtain ⟨v1, _, rfl, e1, v2, _, rfl, e2, e4⟩ := hv
    cases e1; cases e2; simp only [VRs] at e4; subst e4
    refine ⟨.int .i64 (idxA c.toNat.toUInt8 s 0), ?_, rfl⟩
    rw [run_callFunc_extern hf h1 h2 h3 h4]
    rw [run_indexByte_string, firstIdx_eq]
    rfl
  · cases h
end
end Go.Av
/- math/bits.TrailingZeros64 by its table: what the evaluator answers in its place. Conditions: none (a lemma on numbers; the walk of the code is each program's). -/
namespace Go.Av
open Go.RowKit

section
variable {P : Program} {C : Ctx} {G ι : Emb} {H : Hp} {w w' : World}

def tzIdx (x : Nat) : Nat := Nat.div (Nat.mod (Nat.mul (Nat.land x (Nat.sub 18446744073709551616 x)) 285870213051353865) 18446744073709551616) 288230376151711744
noncomputable def pTz64 (a : List AV) (H : Hp) : Option (List (AV × Hp)) :=
  match a with
  | [.int .u64 (.ofNat x)] =>
    bif Nat.beq x 0 then some [(.int .i64 64, H)] else
    bif Nat.blt x 18446744073709551616 then
      match rowOf H 0 with
      | some cs => match nth cs (tzIdx x) with
        | some (.int .u8 (.ofNat k)) => bif Nat.blt k 64 then some [(.int .i64 (.ofNat k), H)] else none
        | _ => none
      | none => none
    else none
  | _ => none
theorem tz_key (x : Nat) (hx : x < 18446744073709551616) :
    IntKind.u64.wrap (bits BinOp.and IntKind.u64 (x : Int) (IntKind.u64.wrap (-(x : Int))) * 285870213051353865) / 288230376151711744 = ((tzIdx x : Nat) : Int) := by
  by_cases h0 : x = 0
  · subst h0; rfl
  · have e1 : IntKind.u64.wrap (-(x : Int)) = ((18446744073709551616 - x : Nat) : Int) := by rw [IntKind.wrap_u64]; omega
    rw [e1, bits_and_u64_nat x _ hx (by omega), IntKind.wrap_u64]
    show _ = (((x &&& (18446744073709551616 - x)) * 285870213051353865 % 18446744073709551616 / 288230376151711744 : Nat) : Int)
    omega
theorem tzIdx_lt (x : Nat) : tzIdx x < 64 := by
  show _ % 18446744073709551616 / 288230376151711744 < 64
  omega
/-- the program's walk is asked: at 0, and where the table is read -/
theorem tz64_ok {f : FuncId} {g : Nat} (hG : G 0 = some (g, 0)) (he : ∀ (vs : List Value) (w : World), (callFunc f ⟨vs⟩).run P w = .ok (.enter f ⟨vs⟩) w)
    (hz : ∀ w, Calls P f #[.int .u64 0] w fun e w' => e = .returned (.int .i64 64) ∧ w' = w)
    (hcore : ∀ (x k idx : Nat) (w : World), ((x : Int) == 0) = false → IntKind.u64.wrap (bits BinOp.and IntKind.u64 (x : Int) (IntKind.u64.wrap (-(x : Int))) * 285870213051353865) / 288230376151711744 = (idx : Int) →
      idx < 64 → k < 64 → w.cell? ⟨g, idx, none⟩ = some (.int .u8 k) → Calls P f #[.int .u64 x] w fun e w' => e = .returned (.int .i64 k) ∧ w' = w)
    {args : List AV} {H : Hp} {l : List (AV × Hp)} (h : pTz64 args H = some l) : CallOK P C G f args H l := by
  unfold pTz64 at h
  split at h
  · rename_i x
    by_cases h0 : x = 0
    · subst h0
      simp at h; subst h
      refine callOK_below he fun ι w vs hg r hv => ?_
      obtain ⟨v1, _, rfl, e1, e4⟩ := hv
      cases e1; simp only [VRs] at e4; subst e4
      refine (hz w).mono ?_
      rintro e w' ⟨rfl, rfl⟩
      exact ⟨_, rfl, rfl, Below.refl _ _⟩
    · rw [nbeq h0, cond_false] at h
      cases hb : Nat.blt x 18446744073709551616 with
      | false => rw [hb] at h; cases h
      | true =>
        rw [hb, cond_true] at h
        have hx : x < 18446744073709551616 := by simpa [Nat.blt_eq] using hb
        cases hr : rowOf H 0 with
        | none => rw [hr] at h; cases h
        | some cs =>
          rw [hr] at h
          simp only at h
          split at h
          · rename_i k hk
            cases hb2 : Nat.blt k 64 with
            | false => rw [hb2] at h; cases h
            | true =>
              rw [hb2, cond_true] at h; cases h
              have hk64 : k < 64 := by simpa [Nat.blt_eq] using hb2
              refine callOK_below he fun ι w vs hg r hv => ?_
              obtain ⟨v1, _, rfl, e1, e4⟩ := hv
              cases e1; simp only [VRs] at e4; subst e4
              have hι : ι 0 = some (g, 0) := hg _ _ hG
              have hcell : w.cell? ⟨g, tzIdx x, none⟩ = some (.int .u8 k) := by
                unfold rowOf at hr
                split at hr
                · rename_i ro cs' hget
                  cases hr
                  obtain ⟨cur, e', fr, d1, d2, d3, d4⟩ := r.obj 0 g 0 _ hι hget
                  rw [nth_eq] at hk
                  obtain ⟨u, u1, u2⟩ := d4.nth hk
                  cases u2
                  rw [List.drop_zero] at u1
                  have hlen := (List.getElem?_eq_some_iff.1 hk).1
                  rw [List.getElem?_take, if_pos hlen] at u1
                  simp only [World.cell?, d1]
                  simpa using u1
                · cases hr
              refine (hcore x k (tzIdx x) w (by simp; omega) (tz_key x hx) (tzIdx_lt x) hk64 hcell).mono ?_
              rintro e w' ⟨rfl, rfl⟩
              exact ⟨_, rfl, rfl, Below.refl _ _⟩
          · cases h
  · cases h
end
end Go.Av
/- graph.From, asked of the heap alone: the keys of a map, rising; strings.Repeat. Conditions: the program's own contracts, which each lemma names. -/
namespace Go.Av
open Go.RowKit

def ascK : List AV → Option (List Nat)
  | [] => some []
  | .int .i64 (.ofNat a) :: l => match ascK l with
    | none => none
    | some [] => bif Nat.blt a 9223372036854775808 then some [a] else none
    | some (b :: r) => bif Nat.blt a b then some (a :: b :: r) else none
  | _ => none
def keysOf : List (AV × AV) → List AV
  | [] => []
  | e :: es => e.1 :: keysOf es
/-- the keys of a map as a new slice; nil, if there is none -/
noncomputable def keysRes (H : Hp) (mm : Option Nat) : Option (List (AV × Hp)) :=
  match mm with
  | none => some [(.slc none 0 0, H)]
  | some m => match mapOf H m with
    | some (es, _) => bif Nat.ble es.length 1048576 then match ascK (keysOf es) with
        | some [] => some [(.slc none 0 0, H)]
        | some (a :: r) => some [(.slc (some (H.next, 0)) (keysOf es).length 1, H.new (.row false (keysOf es)))]
        | none => none
      else none
    | none => none
noncomputable def pFrom (a : List AV) (H : Hp) : Option (List (AV × Hp)) :=
  match a with
  | [.ptr (some (g, go)), .int .i64 (.ofNat n)] =>
    match rowOf H g with
    | some cs => match nth cs go with
      | some (.slc (some (r, o)) len sz) => bif Nat.blt n len && Nat.beq sz 1 then
          match rowOf H r with
          | some ms => match nth ms (o + n) with
            | some (.map mm) => keysRes H mm
            | _ => none
          | none => none
        else none
      | _ => none
    | none => none
  | _ => none

theorem ascK_spec : ∀ {l : List AV} {ks : List Nat}, ascK l = some ks → l = ks.map (fun n => .int .i64 (Int.ofNat n)) ∧ ks.Pairwise (· < ·) ∧ ∀ k ∈ ks, k < 9223372036854775808
  | [], ks, h => by simp [ascK] at h; subst h; exact ⟨rfl, .nil, by simp⟩
  | a :: l, ks, h => by
    unfold ascK at h
    split at h
    · rename_i heq; cases heq
    · rename_i n l' heq
      cases heq
      split at h
      · cases h
      · rename_i hl
        obtain ⟨h1, h2, h3⟩ := ascK_spec hl
        cases hb : Nat.blt n 9223372036854775808 with
        | false => rw [hb] at h; cases h
        | true =>
          rw [hb] at h; cases h
          refine ⟨by simp [h1], by simp, by simpa [Nat.blt_eq] using hb⟩
      · rename_i b r hl
        obtain ⟨h1, h2, h3⟩ := ascK_spec hl
        cases hb : Nat.blt n b with
        | false => rw [hb] at h; cases h
        | true =>
          rw [hb] at h; cases h
          have hnb : n < b := by simpa [Nat.blt_eq] using hb
          refine ⟨by simp [h1], ?_, ?_⟩
          · refine List.pairwise_cons.2 ⟨fun x hx => ?_, h2⟩
            cases hx with
            | head => exact hnb
            | tail _ hx => exact Nat.lt_trans hnb ((List.pairwise_cons.1 h2).1 x hx)
          · intro k hk
            cases hk with
            | head => have := h3 b (.head _); omega
            | tail _ hk => exact h3 k hk
    · cases h

section
variable {P : Program} {C : Ctx} {G ι : Emb} {H : Hp} {w w' : World}

theorem keysOf_map (es : List (AV × AV)) : keysOf es = es.map (·.1) := by
  induction es with
  | nil => rfl
  | cons e es ih => simp [keysOf, ih]

/-- any value at all -/
def anyR : Value → Option (DataW Unit × List MemPlace) := fun _ => some (.nil, [])
theorem MR.keys {es : List (AV × AV)} : ∀ {l : List MapEntry}, MR ι w es l → l.map (·.key) = es.map fun e => emb e.1 := by
  induction es with
  | nil => intro l h; simp only [MR] at h; subst h; rfl
  | cons e es ih =>
    intro l h
    obtain ⟨k, v⟩ := e
    obtain ⟨x, l', rfl, h1, h2, h3, h4⟩ := h
    simp [h2, ih h4]

/-- a map of int keys, in the kit's words -/
theorem owns_of {kt : TypeId} (hk : P.underlying kt = some (.int .i64)) {b clk : Nat} {es : List (AV × AV)} {ents : Array MapEntry} (hb : w.heap[b]? = some (Go.Obj.map ents clk)) (hm : MapO ι w es clk ents) {ks : List Nat} (ha : ascK (keysOf es) = some ks) (hlen : es.length ≤ 1048576) :
    ∃ D0 : DataW Unit, w.ownsMap P kt anyR b es.length D0 ∧ Maps.size D0 = es.length ∧ ∀ ss : List Int, ss.Perm (intKeys D0) → ss.mergeSort (fun x y => decide (x ≤ y)) = ks.map Int.ofNat ∧ ss.length = ks.length := by
  obtain ⟨l, hp, hr, hnd, hborn, hlt, _⟩ := hm
  obtain ⟨e1, e2, e3⟩ := ascK_spec ha
  have hkeys := hr.keys
  have hlk : l.map (·.key) = ks.map fun n => Value.int .i64 (Int.ofNat n) := by
    rw [hkeys]
    have : (es.map fun e => emb e.1) = (es.map (·.1)).map emb := by rw [List.map_map]; rfl
    rw [this, ← keysOf_map, e1, List.map_map]; rfl
  have hlen2 : l.length = es.length := by
    have := congrArg List.length hkeys
    simpa using this
  have hsz : ents.size = es.length := by rw [← hlen2, hp.length_eq]; simp
  have hkey : ∀ x ∈ ents.toList, ∃ n, n ∈ ks ∧ x.key = .int .i64 (Int.ofNat n) := by
    intro x hx
    have : x.key ∈ l.map (·.key) := List.mem_map.2 ⟨x, hp.mem_iff.2 hx, rfl⟩
    rw [hlk] at this
    obtain ⟨n, h1, h2⟩ := List.mem_map.1 this
    exact ⟨n, h1, h2.symm⟩
  have hwf : ∀ n ∈ ks, (Lit.int .i64 (Int.ofNat n)).wf = true := by
    intro n hn
    have := e3 n hn
    simp [Lit.wf, IntKind.signed, IntKind.bits, IntKind.min, IntKind.max]
    omega
  have hrd : ∀ x ∈ ents.toList, ∃ n, n ∈ ks ∧ x.key = .int .i64 (Int.ofNat n) ∧ Go.WideElems.rd P kt anyR x = some (.int .i64 (Int.ofNat n), .nil) := by
    intro x hx
    obtain ⟨n, h1, h2⟩ := hkey x hx
    refine ⟨n, h1, h2, ?_⟩
    unfold Go.WideElems.rd
    rw [h2, Go.Maps.keyOf_int_mk hk (hwf n h1)]; rfl
  refine ⟨.map ((ents.toList.map (Go.WideElems.rg P kt anyR)).foldr DataW.insert []), ⟨ents, clk, hb, ⟨by rw [hsz]; simp only [maxLen]; omega, ⟨hlt, hborn, ?_⟩, fun x hx => ?_⟩, by omega, rfl⟩, ?_, ?_⟩
  · have : (ents.toList.map (·.key)).Perm (l.map (·.key)) := (hp.map _).symm
    refine this.nodup_iff.2 ?_
    rw [hlk]
    unfold List.Nodup
    rw [List.pairwise_map]
    refine e2.imp fun {a b} h e => ?_
    injection e with _ e
    have := Int.ofNat.inj e
    omega
  · obtain ⟨n, _, _, h⟩ := hrd x hx; exact ⟨_, h⟩
  · simp only [Maps.size]
    rw [Go.WideShapes.sorted_perm _ |>.length_eq]; simp [hsz]
  · intro ss hss
    have h1 : (intKeys (.map ((ents.toList.map (Go.WideElems.rg P kt anyR)).foldr DataW.insert []))).Perm (ks.map Int.ofNat) := by
      simp only [intKeys]
      refine ((Go.WideShapes.sorted_perm _).map _).trans ?_
      rw [List.map_map]
      refine ((hp.map _).symm).trans ?_
      have : l.map ((fun p : Lit × DataW Unit => intOf p.1) ∘ Go.WideElems.rg P kt anyR) = ks.map Int.ofNat := by
        have key : ∀ (l : List MapEntry) (ks : List Nat), (∀ x ∈ l, ∃ n, x.key = .int .i64 (Int.ofNat n) ∧ Go.WideElems.rd P kt anyR x = some (.int .i64 (Int.ofNat n), .nil)) → l.map (·.key) = ks.map (fun n => Value.int .i64 (Int.ofNat n)) →
            l.map ((fun p : Lit × DataW Unit => intOf p.1) ∘ Go.WideElems.rg P kt anyR) = ks.map Int.ofNat := by
          intro l
          induction l with
          | nil => intro ks _ h; cases ks with
            | nil => rfl
            | cons _ _ => simp at h
          | cons x l ih =>
            intro ks hx h
            cases ks with
            | nil => simp at h
            | cons k ks =>
              simp only [List.map_cons, List.cons.injEq] at h ⊢
              obtain ⟨n, g1, g2⟩ := hx x (.head _)
              refine ⟨?_, ih ks (fun y hy => hx y (.tail _ hy)) h.2⟩
              have : n = k := by
                have := h.1
                rw [g1] at this
                injection this with _ h3
                exact Int.ofNat.inj h3
              subst this
              simp [Go.WideElems.rg, g2, intOf]
        exact key l ks (fun x hx => by obtain ⟨n, _, g2, g3⟩ := hrd x (hp.mem_iff.1 hx); exact ⟨n, g2, g3⟩) hlk
      rw [this]
    have h2 := hss.trans h1
    refine ⟨?_, by rw [h2.length_eq]; simp⟩
    rw [mergeSort_of_perm_i h2]
    refine List.mergeSort_of_pairwise ?_
    rw [List.pairwise_map]
    refine e2.imp fun h => ?_
    simp only [decide_eq_true_eq]
    exact Int.ofNat_le.2 (Nat.le_of_lt h)
end
end Go.Av
/- graph.From, strings.Repeat: what the evaluator answers in their place. Conditions: the program's own contracts, which each lemma names. -/
namespace Go.Av
open Go.RowKit

section
variable {P : Program} {C : Ctx} {G ι : Emb} {H : Hp} {w w' : World}

/-- a slice or nil, from a contract in the kit's words -/
theorem keysRes_ok {f : FuncId} {args : List AV} {kt : TypeId} (he : ∀ (vs : List Value) (w : World), (callFunc f ⟨vs⟩).run P w = .ok (.enter f ⟨vs⟩) w) (hk : P.underlying kt = some (.int .i64)) {mm : Option Nat} {l : List (AV × Hp)} (h : keysRes H mm = some l)
    (hnil : mm = none → ∀ (ι : Emb) (w : World) (vs : List Value), SubE G ι → R ι H w → VRs ι w args vs → Calls P f ⟨vs⟩ w fun e w' => e = .returned (.slice none 0 0) ∧ Below w.heap.size w w')
    (hmap : ∀ m, mm = some m → ∀ (ι : Emb) (w : World) (vs : List Value), SubE G ι → R ι H w → VRs ι w args vs → ∀ b s, ι m = some (b, s) → ∀ nn (D0 : DataW Unit), w.ownsMap P kt anyR b nn D0 → Maps.size D0 ≤ maxLen → Maps.size D0 * 8 ≤ 140737488355328 →
      Calls P f ⟨vs⟩ w fun e w' => ∃ (v : Value) (ss : List Int), e = .returned v ∧ ss.Perm (intKeys D0) ∧ w'.ownsRow w.heap.size kt 1 v ss.length ((ss.mergeSort (fun x y => decide (x ≤ y))).map encZ) ∧ (v = .slice none 0 0 ↔ ss = []) ∧ Below w.heap.size w w')
    (hdom : ∀ m, mm = some m → ∀ (ι : Emb) (w : World) (vs : List Value), SubE G ι → R ι H w → VRs ι w args vs → ∃ b s, ι m = some (b, s)) : CallOK P C G f args H l := by
  unfold keysRes at h
  cases mm with
  | none =>
    cases h
    refine callOK_below he fun ι w vs hg r hv => (hnil rfl ι w vs hg r hv).mono ?_
    rintro e w' ⟨rfl, hb⟩
    exact ⟨_, rfl, ⟨rfl, rfl⟩, hb⟩
  | some m =>
    simp only at h
    cases hmo : mapOf H m with
    | none => rw [hmo] at h; cases h
    | some x =>
      obtain ⟨es, clk⟩ := x
      rw [hmo] at h
      simp only at h
      cases hb : Nat.ble es.length 1048576 with
      | false => rw [hb] at h; cases h
      | true =>
        rw [hb, cond_true] at h
        have hlen := Nat.le_of_ble_eq_true hb
        have hget : H.get m = some (.map es clk) := by
          unfold mapOf at hmo
          split at hmo
          · rename_i h1; cases hmo; exact h1
          · cases hmo
        have own : ∀ (ι : Emb) (w : World) (vs : List Value), SubE G ι → R ι H w → VRs ι w args vs → ∀ ks, ascK (keysOf es) = some ks → Calls P f ⟨vs⟩ w fun e w' => ∃ (v : Value) (ss : List Int), e = .returned v ∧ ss.length = ks.length ∧ w'.ownsRow w.heap.size kt 1 v ss.length ((ks.map Int.ofNat).map encZ) ∧ (v = .slice none 0 0 ↔ ss = []) ∧ Below w.heap.size w w' := by
          intro ι w vs hg r hv ks ha
          obtain ⟨b, s, hι⟩ := hdom m rfl ι w vs hg r hv
          obtain ⟨ents, o1, o2⟩ := r.obj m b s _ hι hget
          obtain ⟨D0, d1, d2, d3⟩ := owns_of hk o1 o2 ha hlen
          refine (hmap m rfl ι w vs hg r hv b s hι _ D0 d1 (by rw [d2]; simp only [maxLen]; omega) (by rw [d2]; omega)).mono ?_
          rintro e w' ⟨v, ss, rfl, h2, h3, h4, h5⟩
          obtain ⟨g1, g2⟩ := d3 ss h2
          rw [g1] at h3
          exact ⟨v, ss, rfl, g2, h3, h4, h5⟩
        cases ha : ascK (keysOf es) with
        | none => rw [ha] at h; cases h
        | some ks =>
          rw [ha] at h
          cases ks with
          | nil =>
            cases h
            refine callOK_below he fun ι w vs hg r hv => (own ι w vs hg r hv [] ha).mono ?_
            rintro e w' ⟨v, ss, rfl, h2, h3, h4, h5⟩
            have : ss = [] := List.eq_nil_of_length_eq_zero (by simpa using h2)
            exact ⟨_, rfl, by rw [h4.2 this]; exact ⟨rfl, rfl⟩, h5⟩
          | cons a r' =>
            cases h
            obtain ⟨e1, _, _⟩ := ascK_spec ha
            refine callOK_row (t := kt) he (by omega) fun ι w vs hg r hv => (own ι w vs hg r hv (a :: r') ha).mono ?_
            rintro e w' ⟨v, ss, rfl, h2, h3, h4, h5⟩
            rw [h2] at h3
            refine ⟨v, ((a :: r').map Int.ofNat).map encZ, rfl, ?_, ?_, rfl, ?_, h5⟩
            · rw [e1]; simpa using h3
            · rw [e1]; simp
            · rw [e1, List.map_map]
              have : ∀ l : List Nat, VRs ι w (l.map fun n => .int .i64 (Int.ofNat n)) (l.map (encZ ∘ Int.ofNat)) := by
                intro l
                induction l with
                | nil => rfl
                | cons x l ih => exact ⟨_, _, rfl, rfl, ih⟩
              exact this _

theorem rowCell (r : R ι H w) {id off : Nat} {cs : List AV} {x : AV} (hr : rowOf H id = some cs) (hn : nth cs off = some x) {b s : Nat} (hι : ι id = some (b, s)) : ∃ u, w.cell? ⟨b, s + off, none⟩ = some u ∧ VR ι w x u := by
  unfold rowOf at hr
  split at hr
  · rename_i ro cs' hget
    cases hr
    obtain ⟨cur, e', fr, d1, d2, d3, d4⟩ := r.obj id b s _ hι hget
    rw [nth_eq] at hn
    obtain ⟨u, u1, u2⟩ := d4.nth hn
    have hlen := (List.getElem?_eq_some_iff.1 hn).1
    rw [List.getElem?_take, if_pos hlen, List.getElem?_drop] at u1
    refine ⟨u, ?_, u2⟩
    simp only [World.cell?, d1]
    simpa using u1
  · cases hr

theorem from_ok {f kt : Nat} (he : ∀ (vs : List Value) (w : World), (callFunc f ⟨vs⟩).run P w = .ok (.enter f ⟨vs⟩) w) (hk : P.underlying kt = some (.int .i64))
    (hmap : ∀ (b o n r ro len cap m nn : Nat) (D0 : DataW Unit) (w : World), w.cell? ⟨b, o, none⟩ = some (.slice (some ⟨r, ro, none⟩) len cap) → n < len → w.cell? ⟨r, ro + n, none⟩ = some (.map (some m)) → w.ownsMap P kt anyR m nn D0 → Maps.size D0 ≤ maxLen → Maps.size D0 * 8 ≤ 140737488355328 →
      Calls P f #[.pointer (some ⟨b, o, none⟩), .int .i64 (n : Int)] w fun e w' => ∃ (v : Value) (ss : List Int), e = .returned v ∧ ss.Perm (intKeys D0) ∧ w'.ownsRow w.heap.size kt 1 v ss.length ((ss.mergeSort (fun x y => decide (x ≤ y))).map encZ) ∧ (v = .slice none 0 0 ↔ ss = []) ∧ Below w.heap.size w w')
    (hnil : ∀ (b o n r ro len cap : Nat) (w : World), w.cell? ⟨b, o, none⟩ = some (.slice (some ⟨r, ro, none⟩) len cap) → n < len → w.cell? ⟨r, ro + n, none⟩ = some (.map none) →
      Calls P f #[.pointer (some ⟨b, o, none⟩), .int .i64 (n : Int)] w fun e w' => e = .returned (.slice none 0 0) ∧ Below w.heap.size w w')
    {args : List AV} {l : List (AV × Hp)} (h : pFrom args H = some l) : CallOK P C G f args H l := by
  unfold pFrom at h
  split at h
  · rename_i g go n
    cases hr1 : rowOf H g with
    | none => rw [hr1] at h; cases h
    | some cs =>
      rw [hr1] at h
      simp only at h
      split at h
      · rename_i r o len sz hn1
        cases hb : Nat.blt n len && Nat.beq sz 1 with
        | false => rw [hb] at h; cases h
        | true =>
          rw [hb, cond_true] at h
          have hb1 : Nat.blt n len = true ∧ Nat.beq sz 1 = true := by rw [Bool.and_eq_true] at hb; exact hb
          have hnl : n < len := by simpa [Nat.blt_eq] using hb1.1
          have hsz : sz = 1 := Nat.eq_of_beq_eq_true hb1.2
          subst hsz
          cases hr2 : rowOf H r with
          | none => rw [hr2] at h; cases h
          | some ms =>
            rw [hr2] at h
            simp only at h
            split at h
            · rename_i mm hn2
              have key : ∀ (ι : Emb) (w : World) (vs : List Value), SubE G ι → R ι H w → VRs ι w [.ptr (some (g, go)), .int .i64 (.ofNat n)] vs → ∃ b o' br ro cap u, vs = [.pointer (some ⟨b, o', none⟩), .int .i64 (n : Int)] ∧ w.cell? ⟨b, o', none⟩ = some (.slice (some ⟨br, ro, none⟩) len cap) ∧ w.cell? ⟨br, ro + n, none⟩ = some u ∧ VR ι w (.map mm) u := by
                intro ι w vs hg r hv
                obtain ⟨v1, _, rfl, ⟨b, s, b1, rfl⟩, v2, _, rfl, e2, e3⟩ := hv
                cases e2; simp only [VRs] at e3; subst e3
                obtain ⟨u1, c1, c2⟩ := rowCell r hr1 hn1 b1
                obtain ⟨br, sr, ro, cap, et, nn, d1, d2, d3, d4, d5, d6, rfl⟩ := c2
                obtain ⟨u2, c3, c4⟩ := rowCell r hr2 hn2 d1
                have hcap : cap ≠ 0 := by omega
                have := d3 hcap
                refine ⟨b, s + go, br, ro, cap, u2, rfl, c1, ?_, c4⟩
                rw [this, Nat.add_assoc]
                exact c3
              refine keysRes_ok he hk h ?_ ?_ ?_
              · rintro rfl ι w vs hg r hv
                obtain ⟨b, o', br, ro, cap, u, rfl, c1, c2, c3⟩ := key ι w vs hg r hv
                cases c3
                exact hnil b o' n br ro len cap w c1 hnl c2
              · rintro m rfl ι w vs hg r hv bm sm hbm nn D0 d1 d2 d3
                obtain ⟨b, o', br, ro, cap, u, rfl, c1, c2, c3⟩ := key ι w vs hg r hv
                obtain ⟨b2, s2, e1, rfl⟩ := c3
                rw [hbm] at e1; cases e1
                exact hmap b o' n br ro len cap bm nn D0 w c1 hnl c2 d1 d2 d3
              · rintro m rfl ι w vs hg r hv
                obtain ⟨b, o', br, ro, cap, u, rfl, c1, c2, c3⟩ := key ι w vs hg r hv
                obtain ⟨b2, s2, e1, rfl⟩ := c3
                exact ⟨b2, s2, e1⟩
            · cases h
      · cases h
  · cases h

def pRepeat (a : List AV) (H : Hp) : Option (List (AV × Hp)) :=
  match a with
  | [.str s, .int .i64 (.ofNat n)] => bif Nat.ble (s.length * n) 140737488355328 && Nat.ble n 9223372036854775807 then some [(.str (Lib.repeatL s n), H)] else none
  | _ => none
theorem repeat_ok {f : Nat} (he : ∀ (vs : List Value) (w : World), (callFunc f ⟨vs⟩).run P w = .ok (.enter f ⟨vs⟩) w)
    (hrep : ∀ (s : ByteArray) (c : Nat) (w : World), c ≤ 9223372036854775807 → s.size * c ≤ 140737488355328 → Calls P f #[.string s, .int .i64 c] w fun e w' => e = .returned (.string ⟨(Lib.repeatL s.data.toList c).toArray⟩) ∧ Below w.heap.size w w')
    {args : List AV} {l : List (AV × Hp)} (h : pRepeat args H = some l) : CallOK P C G f args H l := by
  unfold pRepeat at h
  split at h
  · rename_i s n
    cases hb : Nat.ble (s.length * n) 140737488355328 && Nat.ble n 9223372036854775807 with
    | false => rw [hb] at h; cases h
    | true =>
      rw [hb, cond_true] at h; cases h
      have hb1 : Nat.ble (s.length * n) 140737488355328 = true ∧ Nat.ble n 9223372036854775807 = true := by rw [Bool.and_eq_true] at hb; exact hb
      refine callOK_below he fun ι w vs hg r hv => ?_
      obtain ⟨v1, _, rfl, e1, v2, _, rfl, e2, e3⟩ := hv
      cases e1; cases e2; simp only [VRs] at e3; subst e3
      refine (hrep ⟨⟨s⟩⟩ n w (Nat.le_of_ble_eq_true hb1.2) (Nat.le_of_ble_eq_true hb1.1)).mono ?_
      rintro e w' ⟨rfl, hb⟩
      exact ⟨_, rfl, rfl, hb⟩
  · cases h
end
end Go.Av
/- The evaluator's law at a program: from tables and prims. A call that is known once: asked at the least heap, it is known at each. Conditions: those of 'Good'. -/
namespace Go.Av
open Go.RowKit

section
variable {P : Program} {C : Ctx} {G ι : Emb} {H : Hp} {w w' : World}

theorem add64_kept {args : List AV} {l : List (AV × Hp)} (h : pAdd64 args H = some l) : ∀ r ∈ l, Keep2 H r.2 ∧ r.2.prot = H.prot := by
  unfold pAdd64 at h
  split at h
  · cases hb : Nat.ble _ 1 <;> rw [hb] at h <;> cases h
    intro r hr; cases hr with
    | head => exact ⟨Keep2.refl _, rfl⟩
    | tail _ h => cases h
  · cases h
theorem idxStr_kept {args : List AV} {l : List (AV × Hp)} (h : pIdxStr args H = some l) : ∀ r ∈ l, Keep2 H r.2 ∧ r.2.prot = H.prot := by
  unfold pIdxStr at h
  split at h
  · cases h
    intro r hr; cases hr with
    | head => exact ⟨Keep2.refl _, rfl⟩
    | tail _ h => cases h
  · cases h
theorem repeat_kept {args : List AV} {l : List (AV × Hp)} (h : pRepeat args H = some l) : ∀ r ∈ l, Keep2 H r.2 ∧ r.2.prot = H.prot := by
  unfold pRepeat at h
  split at h
  · cases hb : (Nat.ble _ _ && Nat.ble _ _) <;> rw [hb] at h <;> cases h
    intro r hr; cases hr with
    | head => exact ⟨Keep2.refl _, rfl⟩
    | tail _ h => cases h
  · cases h
theorem tz64_kept {args : List AV} {l : List (AV × Hp)} (h : pTz64 args H = some l) : ∀ r ∈ l, Keep2 H r.2 ∧ r.2.prot = H.prot := by
  have one : ∀ {v : AV}, some [(v, H)] = some l → ∀ r ∈ l, Keep2 H r.2 ∧ r.2.prot = H.prot := by
    intro v e; cases e
    intro r hr; cases hr with
    | head => exact ⟨Keep2.refl _, rfl⟩
    | tail _ h => cases h
  unfold pTz64 at h
  split at h
  · rename_i x
    cases h0 : Nat.beq x 0 with
    | true => rw [h0, cond_true] at h; exact one h
    | false =>
      rw [h0, cond_false] at h
      cases hb : Nat.blt x 18446744073709551616 with
      | false => rw [hb] at h; cases h
      | true =>
        rw [hb, cond_true] at h
        split at h
        · split at h
          · rename_i k _
            cases hk : Nat.blt k 64 with
            | false => rw [hk] at h; cases h
            | true => rw [hk, cond_true] at h; exact one h
          · cases h
        · cases h
  · cases h
theorem keysRes_kept {mm : Option Nat} {l : List (AV × Hp)} (h : keysRes H mm = some l) : ∀ r ∈ l, Keep2 H r.2 ∧ r.2.prot = H.prot := by
  have one : ∀ {v : AV}, some [(v, H)] = some l → ∀ r ∈ l, Keep2 H r.2 ∧ r.2.prot = H.prot := by
    intro v e; cases e
    intro r hr; cases hr with
    | head => exact ⟨Keep2.refl _, rfl⟩
    | tail _ h => cases h
  unfold keysRes at h
  split at h
  · exact one h
  · split at h
    · rename_i es _ _
      cases hb : Nat.ble es.length 1048576 with
      | false => rw [hb] at h; cases h
      | true =>
        rw [hb, cond_true] at h
        split at h
        · exact one h
        · cases h
          intro r hr; cases hr with
          | head => exact ⟨Keep2.new _ _, rfl⟩
          | tail _ h => cases h
        · cases h
    · cases h
theorem from_kept {args : List AV} {l : List (AV × Hp)} (h : pFrom args H = some l) : ∀ r ∈ l, Keep2 H r.2 ∧ r.2.prot = H.prot := by
  unfold pFrom at h
  split at h
  · split at h
    · split at h
      · rename_i len sz _
        cases hb : (Nat.blt _ len && Nat.beq sz 1) with
        | false => rw [hb] at h; cases h
        | true =>
          rw [hb, cond_true] at h
          split at h
          · split at h
            · exact keysRes_kept h
            · cases h
          · cases h
      · cases h
    · cases h
  · cases h
theorem kept_of2 {H H' : Hp} (h : Keep2 H H' ∧ H'.prot = H.prot) : Kept H H' := ⟨h.1.1, h.2, fun i _ h2 => h.1.2 i h2⟩

/-- a prim that is sound, and keeps what was there -/
structure PrimGood (P : Program) (C : Ctx) (G : Emb) (f : FuncId) (p : List AV → Hp → Option (List (AV × Hp))) : Prop where
  ok : ∀ args H l, p args H = some l → CallOK P C G f args H l
  kept : ∀ args H l, p args H = some l → ∀ r ∈ l, Keep2 H r.2 ∧ r.2.prot = H.prot
theorem good_of {P : Program} {C : Ctx} {G : Emb} (hm : P.follows .mixedOrders = true) (hC : CtxOK P C) (hf : ∀ f a, C.fn f = some a → FnOK P (drawOk C) f a) (hp : ∀ f p, C.prim f = some p → PrimGood P C G f p) : Good P C G (drawOk C) :=
  have hk : PrimKept C := fun f p h args H l hl r hr => ⟨kept_of2 ((hp f p h).kept args H l hl r hr), fun _ => ((hp f p h).kept args H l hl r hr).1⟩
  ⟨hC, fun f p h => (hp f p h).ok, hk, hf, draw_ok hm hC hk⟩

/-- what a call does to the memory, where nothing but read-only rows is known of it -/
theorem below_of_post {ι' : Emb} {H' : Hp} (p : Post ι ι' H H' w w') (hro : ∀ i o x, ι i = some x → H.get i = some o → o.isRo = true) : Below w.heap.size w w' :=
  ⟨p.os, p.tape, p.output, p.keeps.size, fun b hb => p.frame b hb fun j s o h1 h2 => hro j o _ h1 h2⟩

/-- the heap that holds the package-level variables alone -/
def Base (G : Emb) (H0 : Hp) : Prop := ∀ i x, G i = some x → i < H0.next ∧ ∃ cs, H0.get i = some (.row true cs) ∧ AV.pures cs = true ∧ AV.okNils cs = true
theorem base_R {H0 : Hp} (hB : Base G H0) (hH : ∀ i x, G i = some x → H.get i = H0.get i) (hg : SubE G ι) (r : R ι H w) : R G H0 w := by
  refine ⟨fun i b s h => ⟨(hB i _ h).1, (r.dom i b s (hg _ _ h)).2⟩, fun i j b s s' o o' _ h1 h2 h3 h4 => ?_, fun i j b s s' ents clk h1 h2 h3 => r.injm i j b s s' ents clk (hg _ _ h1) (hg _ _ h2) h3, fun i b s o h1 h2 => ?_⟩
  · obtain ⟨_, cs, e, _⟩ := hB i _ h1
    obtain ⟨_, cs', e', _⟩ := hB j _ h2
    rw [e] at h3; rw [e'] at h4; cases h3; cases h4; exact ⟨rfl, rfl⟩
  · obtain ⟨_, cs, e, e1, e2⟩ := hB i _ h1
    have h3 := r.obj i b s o (hg _ _ h1) (by rw [hH i _ h1]; exact h2)
    rw [e] at h2; cases h2
    obtain ⟨cur, t, fr, d1, d2, d3, d4⟩ := h3
    refine ⟨cur, t, fr, d1, d2, d3, ?_⟩
    rw [VRs.pure _ _ e1 d4]
    exact VRs.of_pure _ e1 e2
/-- a call of values alone, of which the evaluator knows at the heap that holds the variables alone: it is known at each heap -/
theorem callOK_memo {f : FuncId} {args : List AV} {v : AV} {H0 : Hp} {l : List (AV × Hp)} (h0 : CallOK P C G f args H0 l) (hl : ∀ r ∈ l, r.1 = v) (hv1 : v.pure = true) (hv2 : v.okNil = true) (ha1 : AV.pures args = true) (ha2 : AV.okNils args = true)
    (hB : Base G H0) (hH : ∀ i x, G i = some x → H.get i = H0.get i) : CallOK P C G f args H [(v, H)] := by
  intro ι w vs hg r hv
  have r0 := base_R hB hH hg r
  have hvs : VRs G w args vs := by rw [VRs.pure _ _ ha1 hv]; exact VRs.of_pure _ ha1 ha2
  refine (h0 G w vs (SubE.refl _) r0 hvs).mono ?_
  rintro u w' ⟨rr, hm, ι', g1, g2, g3, _⟩
  rw [hl rr hm] at g3
  have hb := below_of_post g2 fun i o x h1 h2 => by
    obtain ⟨_, cs, e, _⟩ := hB i _ h1
    rw [e] at h2; cases h2; rfl
  obtain ⟨a1, a2, a3⟩ := below_R r hb
  refine ⟨_, .head _, ι, a1, a2, ?_, fun _ => a3⟩
  rw [VR.pure v u hv1 g3]
  exact VR.of_pure v hv1 hv2
/-- the prim that answers so -/
noncomputable def pMemo (H0 : Hp) (ids : List Nat) (as : List AV) (v : AV) (args : List AV) (H : Hp) : Option (List (AV × Hp)) :=
  bif AV.beqs as args && ids.all (fun i => beqOO (H.get i) (H0.get i)) then some [(v, H)] else none
end
end Go.Av
/- Arguments that can be read as data: their cells. Conditions: none. -/
namespace Go.Av
open Go.ChangeShapes Go.WideShapes Go.RowKit

def cellIs : EK → Value → Prop
  | .i q, v => ∃ n, v = .int q n ∧ (Lit.int q n).wf = true
  | .b, v => ∃ b, v = .bool b
  | .s, v => ∃ s : ByteArray, v = .string s ∧ s.size ≤ maxLen
def CellsAre : List EK → List Value → Prop
  | [], cs => cs = []
  | k :: ks, cs => ∃ c cs', cs = c :: cs' ∧ cellIs k c ∧ CellsAre ks cs'
theorem CellsAre.append : ∀ {a b : List EK} {x y : List Value}, CellsAre a x → CellsAre b y → CellsAre (a ++ b) (x ++ y)
  | [], _, _, _, h, k => by simp only [CellsAre] at h; subst h; exact k
  | _ :: _, _, _, _, ⟨c, cs, e, h1, h2⟩, k => by subst e; exact ⟨c, _, rfl, h1, h2.append k⟩
theorem CellsAre.length : ∀ {a : List EK} {x : List Value}, CellsAre a x → x.length = a.length
  | [], _, h => by simp only [CellsAre] at h; subst h; rfl
  | _ :: _, _, ⟨c, cs, e, h1, h2⟩ => by subst e; simp [h2.length]

section
variable {H : Type} {enc : TypeId × Value → H} {P : Program} {w : World} {base : Nat} {spare : Nat → Bool} {held : Bool}

theorem ek_fields {g : TypeId → Option (List EK)} {cs : List Value} : ∀ {fs : List Field} {off : Nat} {ks : List EK}, ekFields g fs off = some ks →
    (∀ f ∈ fs, ∀ y, g f.type = some y → CellsAre y ((cs.drop f.offset).take y.length)) → CellsAre ks ((cs.drop off).take ks.length)
  | [], off, ks, h, _ => by simp [ekFields] at h; subst h; simp [CellsAre]
  | f :: fs, off, ks, h, hf => by
    simp only [ekFields] at h
    split at h
    · rename_i hn
      split at h
      · rename_i y hy
        simp only [Option.map_eq_some_iff] at h
        obtain ⟨ks', h1, rfl⟩ := h
        have a := hf f (.head _) y hy
        have b := ek_fields h1 (fun f' hm => hf f' (.tail _ hm))
        rw [hn.2] at a
        have : (cs.drop off).take (y ++ ks').length = (cs.drop off).take y.length ++ (cs.drop (off + y.length)).take ks'.length := by
          rw [List.length_append, List.take_add, List.drop_drop]
        rw [this]
        exact a.append b
      · cases h
    · cases h
theorem ek_items {l : List EK} : ∀ {n : Nat} {cs : List Value}, (∀ i, i < n → CellsAre l ((cs.drop (i * l.length)).take l.length)) → cs.length = n * l.length → CellsAre (ekItems l n) cs
  | 0, cs, _, hl => by simp at hl; subst hl; rfl
  | n + 1, cs, h, hl => by
    have a := h 0 (Nat.succ_pos _)
    rw [Nat.zero_mul, List.drop_zero] at a
    have b := ek_items (n := n) (cs := cs.drop l.length) (fun i hi => by
      have := h (i + 1) (Nat.succ_lt_succ hi)
      rw [List.drop_drop, Nat.add_comm, ← Nat.succ_mul]; exact this) (by rw [List.length_drop, hl, Nat.succ_mul]; omega)
    have : cs = cs.take l.length ++ cs.drop l.length := (List.take_append_drop _ _).symm
    rw [this]
    exact a.append b
theorem ek_cells : ∀ (d : Nat) {t : TypeId} {ks : List EK} {fuel : Nat} {cs : List Value} {x : DataW H × List MemPlace}, ekOf P d t = some ks → DataW.trod enc P w base spare held fuel t cs = some x → CellsAre ks cs
  | 0, _, _, _, _, _, h, _ => by simp [ekOf] at h
  | d + 1, t, ks, fuel, cs, x, h, hd => by
    have hlen : ∀ {t ks}, ekOf P d t = some ks → P.cellsOf t = ks.length := by
      intro t ks h
      cases d with
      | zero => simp [ekOf] at h
      | succ d =>
        simp only [ekOf] at h
        split at h
        · split at h
          · rename_i hh; cases h; exact hh.1
          · cases h
        · cases h
    simp only [ekOf] at h
    split at h
    · rename_i ks' hks
      split at h
      · rename_i hh
        cases h
        split at hks
        · rename_i hu; cases hks
          obtain ⟨b, rfl, _⟩ := DataW.trod_bool hu hd
          exact ⟨_, _, rfl, ⟨b, rfl⟩, rfl⟩
        · rename_i k hu; cases hks
          obtain ⟨n, rfl, _, hw⟩ := DataW.trod_int hu hd
          exact ⟨_, _, rfl, ⟨n, rfl, hw⟩, rfl⟩
        · rename_i hu; cases hks
          obtain ⟨s, rfl, _, hw⟩ := DataW.trod_string hu hd
          exact ⟨_, _, rfl, ⟨s, rfl, hw⟩, rfl⟩
        · rename_i n e hu
          simp only [Option.map_eq_some_iff] at hks
          obtain ⟨l, h1, rfl⟩ := hks
          obtain ⟨xs, m, _, _, hcl, hxl, hel⟩ := DataW.trod_array hu hd
          refine ek_items (fun i hi => ?_) (by rw [hcl, hh.1, ekItems_length])
          have := hel i hi
          rw [List.getElem?_eq_getElem (by omega)] at this
          rw [← hlen h1]
          exact ek_cells d h1 this
        · rename_i fs hu
          split at hks
          · cases hks
          · obtain ⟨xs, n, _, _, hcl, hxl, hel⟩ := DataW.trod_struct hu hd
            have := ek_fields (cs := cs) hks (fun f hm y hy => by
              obtain ⟨i, hi⟩ := List.getElem?_of_mem hm
              have := hel i f (by simpa using hi)
              have hlt : i < xs.length := by rw [hxl]; have := (List.getElem?_eq_some_iff.1 hi).1; simpa using this
              rw [List.getElem?_eq_getElem hlt] at this
              rw [← hlen hy]
              exact ek_cells d hy this)
            rw [List.drop_zero, ← hh.1, ← hcl, List.take_length] at this
            exact this
        · cases hks
      · cases h
    · cases h
/-- a struct by value, opened: its cells -/
theorem open_flat {r : Reach} {b0 : Nat} {t : TypeId} {fs : Array Field} {ks : List EK} {v : Value} {d : DataW H} {p : List MemPlace} (hs : P.underlying t = some (.struct fs)) (hk : ekOf P 8 t = some ks)
    (hv : Value.okWide P w r b0 t v) (h : DataW.Trod enc P w base spare held t v d p) : ∃ cs : List Value, v = .agg ⟨cs⟩ ∧ CellsAre ks cs := by
  obtain ⟨cs, rfl, hsz⟩ := okWide_struct hs hv
  obtain ⟨fuel, hf⟩ := h
  exact ⟨cs.toList, rfl, ek_cells 8 hk hf⟩
end
end Go.Av
/- A law's row: the call's outcome for the evaluator's law. Conditions: none. -/
namespace Go.Av
open Go.ChangeShapes Go.WideShapes Go.RowKit

/-- a call that answers v and changes nothing that was there, from the evaluator's law at the heap that holds the variables alone -/
theorem calls_of {P : Program} {C : Ctx} {G : Emb} {H0 : Hp} {f : FuncId} {args : List AV} {vs : List Value} {v : AV} {l : List (AV × Hp)} {W : World} (he : (callFunc f ⟨vs⟩).run P W = .ok (.enter f ⟨vs⟩) W)
    (h : CallOK P C G f args H0 l) (hl : ∀ r ∈ l, r.1 = v) (hp : v.pure = true) (hB : Base G H0) (r : R G H0 W) (hv : VRs G W args vs) :
    Calls P f ⟨vs⟩ W fun e W' => e = .returned (emb v) ∧ Below W.heap.size W W' := by
  rcases h G W vs (SubE.refl _) r hv with ⟨u, w', h1, _⟩ | ⟨_, h2⟩
  · rw [he] at h1; cases h1
  · refine h2.mono fun e w' h => ?_
    cases e with
    | returned u =>
      obtain ⟨rr, hm, ι', g1, g2, g3, _⟩ := h
      rw [hl rr hm] at g3
      rw [VR.pure v u hp g3]
      exact ⟨rfl, below_of_post g2 fun i o x h1 h2 => by
        obtain ⟨_, cs, e, _⟩ := hB i _ h1
        rw [e] at h2; cases h2; rfl⟩
    | panicked c => exact h.elim
    | outgrown => exact h.elim

/-- a package-level array of numbers that is laid: its block -/
theorem table_of_laid {P : Program} {W : World} {name : String} {tab : List Int} {k : IntKind} {g t e : Nat} (hg : P.globalNamed name = some g) (ht : (P.globals[g]?).map (·.type) = some t) (ha : P.underlying t = some (.array tab.length e)) (hc : P.cellsOf t = tab.length)
    (hu : P.underlying e = some (.int k)) (hc1 : P.cellsOf e = 1) (h : laidMet P [(name, .agg (tab.map fun n => .lit (.int k n)))] W) : ∃ cs e fr, W.heap[g]? = some (.cells cs e fr) ∧ cs.toList = tab.map fun n => .int k n := by
  obtain ⟨ps, ⟨g', t', cs, fuel, p, q, hg', ht', hv, hd, _, _⟩, _, _⟩ := h
  obtain rfl := Option.some.inj (hg.symm.trans hg')
  obtain rfl := Option.some.inj (ht.symm.trans ht')
  obtain ⟨xs, m, _, ex, hcl, hl, hel⟩ := DataW.trod_array ha hd
  have e3 : (xs.map (·.1)) = tab.map fun n => .lit (.int k n) := (DataW.agg.inj (Prod.mk.inj ex).1).symm
  have hcs : cs.toList = tab.map fun n => .int k n := by
    refine List.ext_getElem? fun r => ?_
    rcases Nat.lt_or_ge r tab.length with hr | hr
    · have hE := hel r hr
      rw [hc1, Nat.mul_one, List.getElem?_eq_getElem (by omega)] at hE
      obtain ⟨z, e1, e2, _⟩ := DataW.trod_int hu hE
      have e4 : (xs.map (·.1))[r]? = (tab.map fun n => (DataW.lit (.int k n) : DataW Unit))[r]? := by rw [e3]
      rw [List.getElem?_map, List.getElem?_map, List.getElem?_eq_getElem (by omega : r < xs.length), List.getElem?_eq_getElem hr, e2] at e4
      simp only [Option.map_some, Option.some.injEq, DataW.lit.injEq, Lit.int.injEq, true_and] at e4
      have h0 : ((cs.toList.drop r).take 1)[0]? = some (.int k z) := by rw [e1]; rfl
      have h1 : cs.toList[r]? = some (.int k z) := by simpa using h0
      rw [h1, List.getElem?_map, List.getElem?_eq_getElem hr, e4]; rfl
    · rw [List.getElem?_eq_none (by rw [hcl, hc]; exact hr), List.getElem?_eq_none (by simpa using hr)]
  simp only [World.var?, hg, Option.bind_some] at hv
  split at hv
  · rename_i cs' e' fr hh
    cases hv
    exact ⟨_, e', fr, hh, hcs⟩
  · cases hv
end Go.Av
