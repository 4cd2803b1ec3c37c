/- What the machine's maps do, held against the evaluator's: what is set. Conditions: the tables of types say what the program's do. -/
import Derived.Test.YtgeebjjejoomfaaGreatDoorEvA
set_option linter.unusedVariables false
set_option linter.unusedSimpArgs false
set_option linter.unnecessarySimpa false
set_option linter.constructorNameAsVariable false
namespace Go.Av

theorem sameBits_key {k : AV} (h : k.key = true) : Instr.sameBits 10000 (emb k) (emb k) = true := by
  have atom : ∀ n (a : AV), a.atom = true → Instr.sameBits n (emb a) (emb a) = true := by
    intro n a ha
    cases a <;> simp [AV.atom] at ha <;> simp [emb, Instr.sameBits]
    exact MapKept.bytes_beq _ _ |>.2 rfl
  cases k with
  | agg as =>
    simp only [emb, Instr.sameBits, Bool.and_eq_true]
    refine ⟨by simp, ?_⟩
    have : ∀ as : List AV, as.all AV.atom = true → ((embs as).zip (embs as)).all (fun x => Instr.sameBits 9999 x.1 x.2) = true := by
      intro as
      induction as with
      | nil => intro _; rfl
      | cons a as ih =>
        intro h
        obtain ⟨h1, h2⟩ := all_cons.1 h
        simp only [embs, List.zip_cons_cons, List.all_cons, Bool.and_eq_true]
        exact ⟨atom _ _ h1, ih h2⟩
    exact this as h
  | int _ _ => exact atom _ _ h
  | bool _ => exact atom _ _ h
  | str _ => exact atom _ _ h
  | _ => simp [AV.key, AV.atom] at h

section
variable {P : Program} {w : World} {ι : Emb} {C : Ctx} {H : Hp}

theorem set_map_keeps {b : Nat} {ents ents' : Array MapEntry} {clk clk' : Nat} (h : w.heap[b]? = some (Go.Obj.map ents clk)) : Keeps w { w with heap := w.heap.setIfInBounds b (.map ents' clk') } := by
  refine ⟨by simp, fun b' x hx => ?_⟩
  simp only [World.shape?] at hx ⊢
  by_cases e : b' = b
  · subst e; rw [h] at hx; cases hx
  · rw [Array.getElem?_setIfInBounds_ne (fun h => e h.symm)]; exact hx

/-- the map of a number is replaced: when entries have come, its clock too is new -/
theorem R.setMap (r : R ι H w) {id b s : Nat} {es es' : List (AV × AV)} {clk clk' : Nat} {ents ents' : Array MapEntry} (hι : ι id = some (b, s)) (hg : H.get id = some (.map es clk)) (h1 : w.heap[b]? = some (Go.Obj.map ents clk))
    (hm : MapO ι w es' clk' ents') (hc : clk ≤ clk') (hp : H.prot ≤ id) (hit : clk' = clk → ents'.toList.map (fun e => (e.key, e.born)) = ents.toList.map (fun e => (e.key, e.born))) :
    R ι (H.put id (some (.map es' clk'))) { w with heap := w.heap.setIfInBounds b (.map ents' clk') } ∧ Post ι ι H (H.put id (some (.map es' clk'))) w { w with heap := w.heap.setIfInBounds b (.map ents' clk') } := by
  have hk := set_map_keeps (ents' := ents') (clk' := clk') h1
  obtain ⟨s1, s2⟩ := MapKept.heap_set (o' := .map ents' clk') h1
  refine r.put hι hg rfl rfl hp hk s2 ⟨rfl, rfl, rfl⟩ ?_ (fun _ _ _ => ⟨_, _, h1⟩) ⟨ents', s1, hm.mono (SubE.refl _) hk⟩
  intro j b' s' since left cur hj hjg hne
  obtain ⟨b2, s2', ents2, clk2, seen, g1, g2, g3, g4, g5, g6⟩ := r.obj _ _ _ _ hj hjg
  rw [hι] at g2; cases g2
  rw [h1] at g3; cases g3
  refine ⟨b, s, ents', clk', seen, ?_, hι, s1, by omega, fun hcs => ?_, g6⟩
  · rw [s2 _ (fun e => by subst e; rw [h1] at g1; cases g1)]; exact g1
  · have e1 : clk = since := by omega
    have hl := hit (by omega)
    obtain ⟨q1, q2, q3, q4⟩ := g5 e1
    have tr : ∀ l1 l2 : List MapEntry, l1.map (fun e => (e.key, e.born)) = l2.map (fun e => (e.key, e.born)) → ∀ e ∈ l1, ∃ e' ∈ l2, e'.key = e.key ∧ e'.born = e.born := by
      intro l1 l2 h e he
      have := List.mem_map_of_mem (f := fun e : MapEntry => (e.key, e.born)) he
      rw [h] at this
      obtain ⟨e', h1, h2⟩ := List.mem_map.1 this
      exact ⟨e', h1, by injection h2, by injection h2⟩
    refine ⟨q1, fun k hk => ?_, fun e he hb => ?_, fun k hk => ?_⟩
    · obtain ⟨a1, e, a2, a3, a4⟩ := q2 k hk
      obtain ⟨e', b1, b2, b3⟩ := tr _ _ hl.symm e a2
      exact ⟨a1, e', b1, by rw [b2, a3], by rw [b3]; exact a4⟩
    · obtain ⟨e', b1, b2, b3⟩ := tr _ _ hl e he
      obtain ⟨k, a1, a2⟩ := q3 e' b1 (by rw [b3]; exact hb)
      exact ⟨k, a1, by rw [← b2, a2]⟩
    · obtain ⟨a1, e, a2, a3, a4⟩ := q4 k hk
      obtain ⟨e', b1, b2, b3⟩ := tr _ _ hl.symm e a2
      exact ⟨a1, e', b1, by rw [b2, a3], by rw [b3]; exact a4⟩

theorem update_ok (hC : CtxOK P C) (r : R ι H w) {t : TypeId} {m k v : AV} {vm vk vv : Value} {H' : Hp} (h : updateA C H t m k v = some H') (hm : VR ι w m vm) (hk : VR ι w k vk) (hv : VR ι w v vv) :
    ∃ w', (Instr.mapUpdate t vm vk vv).run P w = .ok () w' ∧ R ι H' w' ∧ Post ι ι H H' w w' := by
  simp only [updateA, Option.bind_eq_bind, Option.bind_eq_some_iff] at h
  obtain ⟨i, hi, ⟨kt, et⟩, hmt, ki, hki, _, hkey, r0, hs, id, hid, ⟨es, clk⟩, hmo, ⟨es', n⟩, hup, hwr⟩ := h
  have hkey := chk_eq hkey
  obtain rfl := key_emb hkey hk
  have hd : i.d = .map kt et := by
    unfold TI.mapT at hmt; split at hmt
    · rename_i k e hd; simp at hmt; rw [hd, hmt.1, hmt.2]
    · cases hmt
  have hu := (hC.ty _ _ hi).map hd
  have hkt := hC.ty _ _ hki
  have hme : m = .map (some id) := by
    unfold asMap at hid; split at hid
    · rw [hid]
    · cases hid
  subst hme
  obtain ⟨b, s, hι, rfl⟩ := hm
  obtain ⟨hprot, rfl⟩ := Hp.wr_eq hwr
  have hg := mapOf_eq hmo
  obtain ⟨ents, g1, g2⟩ := r.obj _ _ _ _ hι hg
  obtain ⟨u1, u2⟩ := upd_spec hkey g2.keys hup
  have hsh := g2.shape u2
  have hf := findKey_ok (P := P) (w := w) hkt hkey hs ents.toList hsh
  obtain ⟨l, p1, p2, p3, p4, p5, sh, p6⟩ := g2
  have hck := checkKey_ok (P := P) (w := w) hkt hkey hs
  rcases u1 with ⟨rfl, es1, u, es2, rfl, rfl⟩ | ⟨rfl, un, es1, es2, rfl, rfl⟩
  · -- a key that was there
    obtain ⟨l1, l2', rfl, m1, m2⟩ := p2.split
    obtain ⟨e0, l2, rfl, n1, n2, n3, n4⟩ := m2
    have huniq := MR.uniq p2 p3
    have h0mem : e0 ∈ ents.toList := p1.mem_iff.1 (by simp)
    rcases hf with ⟨f1, f2⟩ | ⟨j, e, f1, f2, f3⟩
    · exact absurd n2 (f2 e0 h0mem)
    · have hemem := List.mem_of_getElem? f2
      have hee : e = e0 := nodup_map_inj (·.key) huniq (p1.mem_iff.2 hemem) (by simp) (by rw [f3, n2])
      subst hee
      have hjl : j < ents.size := by have := (List.getElem?_eq_some_iff.1 f2).1; simpa using this
      have hej : ents[j]? = some e := by simpa using f2
      have hmod : (ents.modify j fun e => { e with key := emb k, val := vv }).toList = ents.toList.take j ++ { e with key := emb k, val := vv } :: ents.toList.drop (j + 1) := by
        rw [Array.toList_modify, List.modify_eq_take_cons_drop (by simpa using hjl)]
        have : ents.toList[j]'(by simpa using hjl) = e := by
          have := List.getElem?_eq_some_iff.1 f2; exact this.2
        rw [this]
      have hsplit : ents.toList = ents.toList.take j ++ e :: ents.toList.drop (j + 1) := by
        have := List.getElem?_eq_some_iff.1 f2
        conv => lhs; rw [← List.take_append_drop j ents.toList, List.drop_eq_getElem_cons this.1, this.2]
      have hpairs : (ents.modify j fun e => { e with key := emb k, val := vv }).toList.map (fun e => (e.key, e.born)) = ents.toList.map (fun e => (e.key, e.born)) := by
        rw [hmod]; conv => rhs; rw [hsplit]
        simp [f3]
      have hperm : (l1 ++ { e with key := emb k, val := vv } :: l2).Perm (ents.modify j fun e => { e with key := emb k, val := vv }).toList := by
        rw [hmod]
        have q1 : (l1 ++ e :: l2).Perm (ents.toList.take j ++ e :: ents.toList.drop (j + 1)) := by rw [← hsplit]; exact p1
        have q2 := (List.perm_middle.symm.trans q1).trans List.perm_middle
        have q3 := q2.cons_inv
        exact (List.perm_middle.trans (q3.cons _)).trans List.perm_middle.symm
      have hborn : ∀ f : MapEntry → Nat, f = (·.born) → (ents.modify j fun e => { e with key := emb k, val := vv }).toList.map f = ents.toList.map f := by
        intro f hf; subst hf
        have := congrArg (List.map Prod.snd) hpairs
        simpa [List.map_map, Function.comp_def] using this
      have hM : MapO ι w (es1 ++ (k, v) :: es2) clk (ents.modify j fun e => { e with key := emb k, val := vv }) := by
        refine ⟨_, hperm, m1.join ⟨_, l2, rfl, hkey, rfl, hv, n4⟩, ?_, ?_, ?_, sh, ?_⟩
        · simpa using p3
        · rw [hborn _ rfl]; exact p4
        · intro e' he'
          have := List.mem_map_of_mem (f := (·.born)) he'
          rw [hborn _ rfl] at this
          obtain ⟨e2, a1, a2⟩ := List.mem_map.1 this
          rw [← a2]; exact p5 e2 a1
        · intro x hx
          rcases List.mem_append.1 hx with hx | hx
          · exact p6 x (by simp [hx])
          · cases hx with
            | head => exact p6 (k, u) (List.mem_append_right _ (.head _))
            | tail _ hx => exact p6 x (List.mem_append_right _ (.tail _ hx))
      obtain ⟨r1, r2⟩ := r.setMap hι hg g1 hM (Nat.le_refl _) hprot (fun _ => hpairs)
      refine ⟨_, ?_, r1, r2⟩
      have hks : (Instr.keyThatStays (((ents[j]?).map (·.key)).getD (emb k)) (emb k)).run P w = .ok (emb k) w := by
        rw [hej]; simp [Instr.keyThatStays, f3, sameBits_key hkey]
      simp [Instr.mapUpdate, run_underlying hu, MapKept.run_getObj_map g1, hck, f1, hks, MapKept.run_setObj_map _ g1]
  · -- a new key
    rcases hf with ⟨f1, f2⟩ | ⟨j, e, f1, f2, f3⟩
    · obtain ⟨l1, l2, rfl, m1, m2⟩ := p2.split
      have hM : MapO ι w (es1 ++ (k, v) :: es2) (clk + 1) (ents.push { key := emb k, val := vv, born := clk }) := by
        refine ⟨l1 ++ { key := emb k, val := vv, born := clk } :: l2, ?_, m1.join ⟨_, l2, rfl, hkey, rfl, hv, m2⟩, ?_, ?_, ?_, shapeK k, ?_⟩
        · rw [Array.toList_push]
          exact (List.perm_middle.trans (p1.cons _)).trans (List.perm_append_singleton _ _).symm
        · have hp : ((es1 ++ (k, v) :: es2).map (·.1)).Perm (k :: (es1 ++ es2).map (·.1)) := by
            have := (List.perm_middle (a := (k, v)) (l₁ := es1) (l₂ := es2)).map (·.1); simpa using this
          rw [hp.nodup_iff, List.nodup_cons]
          refine ⟨fun hm => ?_, p3⟩
          obtain ⟨x, x1, x2⟩ := List.mem_map.1 hm
          exact un x x1 x2
        · rw [Array.toList_push, List.map_append, List.nodup_append]
          refine ⟨p4, by simp, fun a ha c hc => ?_⟩
          obtain ⟨e, e1, rfl⟩ := List.mem_map.1 ha
          simp at hc; subst hc
          have := p5 e e1; omega
        · intro e he
          rw [Array.toList_push] at he
          rcases List.mem_append.1 he with he | he
          · have := p5 e he; omega
          · simp at he; subst he; exact Nat.lt_succ_self _
        · have key : ∀ x ∈ es1 ++ es2, shapeK x.1 = shapeK k := by
            intro x hx
            cases hes : es1 ++ es2 with
            | nil => rw [hes] at hx; cases hx
            | cons y ys => rw [p6 x hx, ← p6 y (by rw [hes]; exact .head _)]; exact u2 y ys hes
          intro x hx
          rcases List.mem_append.1 hx with hx | hx
          · exact key x (List.mem_append_left _ hx)
          · cases hx with
            | head => rfl
            | tail _ hx => exact key x (List.mem_append_right _ hx)
      obtain ⟨r1, r2⟩ := r.setMap hι hg g1 hM (Nat.le_succ _) hprot (fun h => by omega)
      refine ⟨_, ?_, r1, r2⟩
      simp [Instr.mapUpdate, run_underlying hu, MapKept.run_getObj_map g1, hck, f1, MapKept.run_setObj_map _ g1]
    · obtain ⟨k', v', q1, q2, q3, _⟩ := p2.mem (p1.mem_iff.2 (List.mem_of_getElem? f2))
      have := key_inj q2 hkey (by rw [← q3, f3])
      exact absurd this (un _ q1)
end
end Go.Av
/- What going through the machine's maps does, held against the evaluator's. Conditions: the tables of types say what the program's do. -/
namespace Go.Av

section
variable {P : Program} {w : World} {ι : Emb} {C : Ctx} {H : Hp}

theorem range_ok (hC : CtxOK P C) (r : R ι H w) {t : TypeId} {x a : AV} {vx : Value} {H' : Hp} (h : rangeA C H t x = some (a, H')) (hx : VR ι w x vx) :
    ∃ u w' ι', (Instr.range t vx).run P w = .ok u w' ∧ R ι' H' w' ∧ Post ι ι' H H' w w' ∧ VR ι' w' a u := by
  simp only [rangeA, Option.bind_eq_bind, Option.bind_eq_some_iff] at h
  obtain ⟨i, hi, kt, hmt, h⟩ := h
  have hd : i.d = .map kt.1 kt.2 := by
    unfold TI.mapT at hmt; split at hmt
    · rename_i k e hd; simp at hmt; rw [hd, ← hmt]
    · cases hmt
  have hu := (hC.ty _ _ hi).map hd
  cases x with
  | map mo =>
    cases mo with
    | none =>
      simp at h; obtain ⟨rfl, rfl⟩ := h
      cases hx
      have := r.alloc (.iter none 0 [] none) (.mapIter none 0 #[] 0) 0 ⟨rfl, _, _, alloc_new w _, rfl⟩
      exact ⟨_, _, _, by simp [Instr.range, run_underlying hu], this.1, this.2, _, _, Emb.add_same .., rfl⟩
    | some id =>
      simp only [Option.bind_eq_some_iff] at h
      obtain ⟨⟨es, clk⟩, hmo, h⟩ := h
      simp at h; obtain ⟨rfl, rfl⟩ := h
      obtain ⟨b, s, hι, rfl⟩ := hx
      obtain ⟨ents, g1, g2⟩ := r.obj _ _ _ _ hι (mapOf_eq hmo)
      have hkeys := g2.keys
      obtain ⟨l, p1, p2, p3, p4, p5, p6⟩ := g2
      have hit : ItO (es.map (·.1)) none ents #[] := by
        refine ⟨p3, fun k hk => ?_, fun e he _ => ?_, fun k hk => by cases hk⟩
        · obtain ⟨x, x1, rfl⟩ := List.mem_map.1 hk
          obtain ⟨q1, e, q2, q3, _⟩ := p2.of_mem (v := x.2) x1
          exact ⟨q1, e, p1.mem_iff.1 q2, q3, by simp⟩
        · obtain ⟨k, v, q1, _, q3, _⟩ := p2.mem (p1.mem_iff.2 he)
          exact ⟨k, List.mem_map_of_mem (f := (·.1)) q1, q3⟩
      have := r.alloc (.iter (some id) clk (es.map (·.1)) none) (.mapIter (some b) clk #[] clk) 0
        ⟨b, s, ents, clk, #[], alloc_new w _, (r.sub_add _) _ _ hι, by rw [alloc_old w _ (blk_lt g1)]; exact g1, Nat.le_refl _, fun _ => hit, rfl⟩
      refine ⟨_, _, _, ?_, this.1, this.2, _, _, Emb.add_same .., rfl⟩
      simp [Instr.range, run_underlying hu, MapKept.run_getObj_map g1]
  | _ => simp at h

theorem mapL_mem {α β : Type} {f : α → Option β} : ∀ {l : List α} {r : List β}, mapL f l = some r → ∀ x ∈ l, ∃ y ∈ r, f x = some y
  | [], _, _, x, h => by cases h
  | a :: l, r, h, x, hx => by
    simp only [mapL] at h
    cases h1 : f a with
    | none => simp [h1] at h
    | some y =>
      cases h2 : mapL f l with
      | none => simp [h1, h2] at h
      | some ys =>
        simp [h1, h2] at h; subst h
        cases hx with
        | head => exact ⟨y, .head _, h1⟩
        | tail _ hx => obtain ⟨y', a1, a2⟩ := mapL_mem h2 x hx; exact ⟨y', .tail _ a1, a2⟩
theorem picks_mem {α : Type} : ∀ {l : List α} {x : α}, x ∈ l → ∃ ys, (x, ys) ∈ picks l ∧ (x :: ys).Perm l
  | a :: l, x, h => by
    cases h with
    | head => exact ⟨l, .head _, List.Perm.refl _⟩
    | tail _ h =>
      obtain ⟨ys, h1, h2⟩ := picks_mem h
      refine ⟨a :: ys, .tail _ (List.mem_map.2 ⟨(x, ys), h1, rfl⟩), ?_⟩
      exact (List.Perm.swap _ _ _).trans (h2.cons a)

/-- an iterator is written -/
theorem R.setIter (r : R ι H w) {id b s since : Nat} {left left' : List AV} {cur cur' : Option AV} {m : Option Nat} {n : Nat} {O : Go.Obj} {bm : Option Nat} {sb seen st} (hι : ι id = some (b, s)) (hg : H.get id = some (.iter m since left cur))
    (h1 : w.heap[b]? = some (Go.Obj.mapIter bm sb seen st)) (hp : H.prot ≤ id) (hO : ∃ a b c d, O = Go.Obj.mapIter a b c d)
    (hm : ∀ w' : World, (∀ b', b' ≠ b → w'.heap[b']? = w.heap[b']?) → w'.heap[b]? = some O → OR ι w' b s (.iter m since left' cur')) :
    R ι (H.put id (some (.iter m since left' cur'))) { w with heap := w.heap.setIfInBounds b O, drawn := n } ∧ Post ι ι H (H.put id (some (.iter m since left' cur'))) w { w with heap := w.heap.setIfInBounds b O, drawn := n } := by
  obtain ⟨a1, a2, a3, a4, rfl⟩ := hO
  obtain ⟨s1, s2⟩ := MapKept.heap_set (w := w) (o' := .mapIter a1 a2 a3 a4) h1
  have hk : Keeps w { w with heap := w.heap.setIfInBounds b (.mapIter a1 a2 a3 a4), drawn := n } := by
    refine ⟨by simp, fun b' x hx => ?_⟩
    simp only [World.shape?] at hx ⊢
    by_cases e : b' = b
    · subst e; rw [h1] at hx; cases hx
    · rw [s2 b' e]; exact hx
  refine r.put hι hg rfl rfl hp hk s2 ⟨rfl, rfl, rfl⟩ ?_ (fun ents clk h => by rw [s1] at h; cases h) (hm _ s2 s1)
  intro j b' s' since2 left2 cur2 hj hjg hne
  obtain ⟨b2, s2', ents2, clk2, seen, g1, g2, g3, g4, g5⟩ := r.obj _ _ _ _ hj hjg
  rw [hι] at g2; cases g2
  rw [h1] at g3; cases g3
/-- an iterator's number, at the block that it was -/
theorem R.keepIter (r : R ι H w) {id b s since : Nat} {left left' : List AV} {cur cur' : Option AV} {m : Option Nat} (hι : ι id = some (b, s)) (hg : H.get id = some (.iter m since left cur)) (hp : H.prot ≤ id) (ho : OR ι w b s (.iter m since left' cur')) :
    R ι (H.put id (some (.iter m since left' cur'))) w ∧ Post ι ι H (H.put id (some (.iter m since left' cur'))) w w :=
  r.put hι hg rfl rfl hp (Keeps.refl _) (fun _ _ => rfl) ⟨rfl, rfl, rfl⟩ (fun j b' s' since2 left2 cur2 hj hjg hne => r.obj _ _ _ _ hj hjg) (fun ents clk h => ⟨_, _, h⟩) ho

theorem iterOf_eq {id : Nat} {x : Option Nat × Nat × List AV × Option AV} (h : iterOf H id = some x) : H.get id = some (.iter x.1 x.2.1 x.2.2.1 x.2.2.2) := by
  unfold iterOf at h; split at h
  · rename_i hg; cases h; exact hg
  · cases h

theorem next_ok (r : R ι H w) {it : AV} {vi : Value} {l : List (AV × Hp)} (ty : TypeId) (h : nextA H it = some l) (hi : VR ι w it vi) :
    ∃ u w' a H', (Instr.next vi false ty).run P w = .ok u w' ∧ (a, H') ∈ l ∧ R ι H' w' ∧ Post ι ι H H' w w' ∧ VR ι w' a u := by
  simp only [nextA, Option.bind_eq_bind, Option.bind_eq_some_iff] at h
  obtain ⟨⟨id, off⟩, ha, _, hoff, ⟨m, since, left, cur⟩, hit, h⟩ := h
  have := asPtr_eq ha
  subst this
  obtain ⟨b, s, hι, rfl⟩ := hi
  have hg := iterOf_eq hit
  have hoff : off = 0 := Nat.eq_of_beq_eq_true (chk_eq hoff)
  subst hoff
  cases m with
  | none =>
    simp only [Option.bind_eq_some_iff] at h
    obtain ⟨H1, hwr, h⟩ := h
    simp at h; subst h
    obtain ⟨hprot, rfl⟩ := Hp.wr_eq hwr
    obtain ⟨h1, seen, st, h2, h3⟩ := r.obj _ _ _ _ hι hg
    subst h3
    obtain ⟨r1, r2⟩ := r.keepIter (left' := []) (cur' := none) hι hg hprot ⟨rfl, seen, st, h2, rfl⟩
    refine ⟨.tuple #[.bool false], w, _, _, ?_, .head _, r1, r2, _, rfl, _, _, rfl, rfl, rfl⟩
    have : (getObj b).run P w = .ok (.mapIter none since seen st) w := by simp [getObj, Sem.run, h2]
    simp [Instr.next, this]
  | some id' =>
    simp only [Option.bind_eq_some_iff] at h
    obtain ⟨⟨es, clk⟩, hmo, _, hck, h⟩ := h
    obtain rfl : clk = since := Nat.eq_of_beq_eq_true (chk_eq hck)
    obtain ⟨b', s', ents, clk', seen, g1, g2, g3, g4, g5, g6⟩ := r.obj _ _ _ _ hι hg
    subst g6
    obtain ⟨ents', e1, e2⟩ := r.obj _ _ _ _ g2 (mapOf_eq hmo)
    rw [g3] at e1; cases e1
    obtain ⟨q1, q2, q3, q4⟩ := g5 rfl
    obtain ⟨l0, p1, p2, p3, p4, p5, p6⟩ := e2
    have hget : (getObj b).run P w = .ok (.mapIter (some b') clk seen clk) w := by simp [getObj, Sem.run, g1]
    have hgetm := MapKept.run_getObj_map (P := P) g3
    have huniq : (ents.toList.map (·.key)).Nodup := by
      have := MR.uniq p2 p3
      exact ((p1.map (·.key)).nodup_iff).1 this
    have hno : (!seen.isEmpty && !ents.isEmpty && ents.all (fun e => decide (e.born ≥ clk))) = false := by
      cases he : ents.isEmpty with
      | true => simp
      | false =>
        have hne : ents.toList ≠ [] := by intro h; simp [Array.isEmpty] at he; exact he (by simpa using congrArg List.length h)
        obtain ⟨e, es0, hl⟩ := List.exists_cons_of_ne_nil hne
        have hb := p5 e (by rw [hl]; exact .head _)
        have : ents.all (fun e => decide (e.born ≥ clk)) = false := by
          rw [← Array.all_toList, hl]; simp; intro h; omega
        simp [this]
    have hnew : (ents.filter fun e => !seen.contains e.born).filter (fun e => decide (e.born ≥ clk)) = #[] := by
      apply Array.ext'
      simp only [Array.toList_filter, List.filter_eq_nil_iff]
      intro e he
      have := p5 e (List.mem_filter.1 he).1
      simp; omega
    have hold : (ents.filter fun e => !seen.contains e.born).filter (fun e => decide (e.born < clk)) = ents.filter fun e => !seen.contains e.born := by
      apply Array.ext'
      simp only [Array.toList_filter, List.filter_eq_self]
      intro e he
      have := p5 e (List.mem_filter.1 he).1
      simpa using this
    have hmem : ∀ e, e ∈ (ents.filter fun e => !seen.contains e.born).toList ↔ e ∈ ents.toList ∧ e.born ∉ seen.toList := by
      intro e
      simp
    generalize hF : (ents.filter fun e => !seen.contains e.born) = F at hnew hold hmem
    cases left with
    | nil =>
      simp only [Option.bind_eq_some_iff] at h
      obtain ⟨H1, hwr, h⟩ := h
      simp at h; subst h
      obtain ⟨hprot, rfl⟩ := Hp.wr_eq hwr
      obtain ⟨r1, r2⟩ := r.keepIter (left' := []) (cur' := none) hι hg hprot ⟨b', s', ents, clk, seen, g1, g2, g3, g4, fun _ => ⟨.nil, by simp, q3, by simp⟩, rfl⟩
      have hFe : F = #[] := by
        apply Array.ext'
        apply List.eq_nil_iff_forall_not_mem.2
        intro e he
        obtain ⟨a1, a2⟩ := (hmem e).1 he
        obtain ⟨k, hk, _⟩ := q3 e a1 a2
        cases hk
      refine ⟨.tuple #[.bool false], w, _, _, ?_, .head _, r1, r2, _, rfl, _, _, rfl, rfl, rfl⟩
      simp only [Instr.next, Sem.run_bind, Nat.add_zero, hget, Result.andThen_ok, hgetm, hno, hF, hnew, hold, hFe]
      simp [Question.forced]
    | cons x xs =>
      have hFne : F ≠ #[] := by
        intro hFe
        obtain ⟨_, e, a1, a2, a3⟩ := q2 x (.head _)
        have := (hmem e).2 ⟨a1, a3⟩
        rw [hFe] at this; simp at this
      have hFs : 0 < F.size := Array.size_pos_iff.2 hFne
      have main : ∀ (n : Nat) (e : MapEntry), e ∈ F.toList → ∃ a H', (a, H') ∈ l ∧ R ι H' { w with heap := w.heap.setIfInBounds b (.mapIter (some b') clk (seen.push e.born) clk), drawn := n } ∧
          Post ι ι H H' w { w with heap := w.heap.setIfInBounds b (.mapIter (some b') clk (seen.push e.born) clk), drawn := n } ∧
          VR ι { w with heap := w.heap.setIfInBounds b (.mapIter (some b') clk (seen.push e.born) clk), drawn := n } a (.tuple #[.bool true, e.key, e.val]) := by
        intro n e he
        obtain ⟨he1, he2⟩ := (hmem e).1 he
        obtain ⟨k, hkl, hke⟩ := q3 e he1 he2
        obtain ⟨ys, hy1, hy2⟩ := picks_mem hkl
        obtain ⟨y, hy3, hy4⟩ := mapL_mem h _ hy1
        simp only [Option.bind_eq_some_iff] at hy4
        obtain ⟨v, hv, H1, hwr, hy4⟩ := hy4
        simp at hy4; subst hy4
        obtain ⟨hprot, rfl⟩ := Hp.wr_eq hwr
        have hkk := (q2 k hkl).1
        have hval := p2.val p3 (findKeyA_mem hv) (p1.mem_iff.2 he1) hke
        have hnd : (k :: ys).Nodup := (hy2.nodup_iff).2 q1
        rw [List.nodup_cons] at hnd
        have hyl : ∀ k', k' ∈ ys → k' ∈ x :: xs := fun k' hk' => hy2.mem_iff.1 (.tail _ hk')
        have hit : ItO ys (some k) ents (seen.push e.born) := by
          refine ⟨hnd.2, fun k' hk' => ?_, fun e' he' hb => ?_, fun k' hk' => ?_⟩
          · obtain ⟨a1, e', a2, a3, a4⟩ := q2 k' (hyl _ hk')
            refine ⟨a1, e', a2, a3, ?_⟩
            simp only [Array.toList_push, List.mem_append, List.mem_singleton]
            rintro (h | h)
            · exact a4 h
            · have := nodup_map_inj (·.born) p4 a2 he1 h
              subst this
              have := key_inj a1 hkk (by rw [← a3, hke])
              subst this
              exact hnd.1 hk'
          · simp only [Array.toList_push, List.mem_append, List.mem_singleton, not_or] at hb
            obtain ⟨k', hk', hk2⟩ := q3 e' he' hb.1
            rcases List.mem_cons.1 (hy2.mem_iff.2 hk') with rfl | hk3
            · have := nodup_map_inj (·.key) huniq he' he1 (by rw [hk2, hke])
              subst this
              exact absurd rfl hb.2
            · exact ⟨k', hk3, hk2⟩
          · cases hk'
            exact ⟨hkk, e, he1, hke, by simp⟩
        obtain ⟨r1, r2⟩ := r.setIter (n := n) (left' := ys) (cur' := some k) (O := .mapIter (some b') clk (seen.push e.born) clk) hι hg g1 hprot ⟨_, _, _, _, rfl⟩ (fun w' hw1 hw2 =>
          ⟨b', s', ents, clk, seen.push e.born, hw2, g2, by rw [hw1 b' (fun e => by subst e; rw [g1] at g3; cases g3)]; exact g3, g4, fun _ => hit, rfl⟩)
        refine ⟨_, _, hy3, r1, r2, _, rfl, _, _, rfl, rfl, _, _, rfl, ?_, _, _, rfl, ?_, rfl⟩
        · rw [hke]; exact key_VR hkk
        · exact VR.mono r2.sub r2.keeps _ _ hval
      have hFi : F.isEmpty = false := by simp [Array.isEmpty]; exact hFne
      by_cases hf : F.size ≤ 1
      · have hx : ∃ e, F[0]? = some e := ⟨F[0], by simp [hFs]⟩
        obtain ⟨e, he⟩ := hx
        obtain ⟨a, H', m1, m2, m3, m4⟩ := main w.drawn e (by exact List.mem_of_getElem? (by simpa using he))
        refine ⟨_, _, a, H', ?_, m1, m2, m3, m4⟩
        simp only [Instr.next, Sem.run_bind, Nat.add_zero, hget, Result.andThen_ok, hgetm, hno, hF, hnew, hold, hFi]
        simp [Question.forced, hf, he, setObj, Sem.run, g1]
      · have hlt : w.tape w.drawn (.mapNext F.size) % F.size < F.size := Nat.mod_lt _ hFs
        have hx : ∃ e, F[w.tape w.drawn (.mapNext F.size) % F.size]? = some e := ⟨F[w.tape w.drawn (.mapNext F.size) % F.size], by simp [hlt]⟩
        obtain ⟨e, he⟩ := hx
        obtain ⟨a, H', m1, m2, m3, m4⟩ := main (w.drawn + 1) e (by exact List.mem_of_getElem? (by simpa using he))
        refine ⟨_, _, a, H', ?_, m1, m2, m3, m4⟩
        simp only [Instr.next, Sem.run_bind, Nat.add_zero, hget, Result.andThen_ok, hgetm, hno, hF, hnew, hold, hFi]
        have g1' : w.drew.heap[b]? = some (Go.Obj.mapIter (some b') clk seen clk) := g1
        simp [Question.forced, hf, he, setObj, Sem.run, g1', Question.cut]
        exact ⟨rfl, rfl, rfl⟩

theorem entry_ok (r : R ι H w) {it a : AV} {vi : Value} (h : entryA H it = some a) (hi : VR ι w it vi) : ∃ u, (Instr.entry vi).run P w = .ok u w ∧ VR ι w a u := by
  simp only [entryA, Option.bind_eq_bind, Option.bind_eq_some_iff] at h
  obtain ⟨⟨id, off⟩, ha, _, hoff, ⟨m, since, left, cur⟩, hit, k, hk, id', hid, ⟨es, clk⟩, hmo, _, hck, v, hv, h⟩ := h
  have := asPtr_eq ha
  subst this
  obtain ⟨b, s, hι, rfl⟩ := hi
  have hg := iterOf_eq hit
  have hoff : off = 0 := Nat.eq_of_beq_eq_true (chk_eq hoff)
  subst hoff
  simp at hk hid h; subst hk; subst hid; subst h
  obtain rfl : clk = since := Nat.eq_of_beq_eq_true (chk_eq hck)
  obtain ⟨b', s', ents, clk', seen, g1, g2, g3, g4, g5, g6⟩ := r.obj _ _ _ _ hι hg
  subst g6
  obtain ⟨ents', e1, e2⟩ := r.obj _ _ _ _ g2 (mapOf_eq hmo)
  rw [g3] at e1; cases e1
  obtain ⟨q1, q2, q3, q4⟩ := g5 rfl
  obtain ⟨hkk, e, he1, he2, he3⟩ := q4 k rfl
  obtain ⟨l0, p1, p2, p3, p4, p5, p6⟩ := e2
  have hget : (getObj b).run P w = .ok (.mapIter (some b') clk seen clk) w := by simp [getObj, Sem.run, g1]
  have hgetm := MapKept.run_getObj_map (P := P) g3
  have hval := p2.val p3 (findKeyA_mem hv) (p1.mem_iff.2 he1) he2
  have hfind : ents.find? (fun x => x.born == e.born) = some e := by
    rw [← Array.find?_toList]
    have : ∃ e', ents.toList.find? (fun x => x.born == e.born) = some e' := by
      cases hf : ents.toList.find? (fun x => x.born == e.born) with
      | some e' => exact ⟨e', rfl⟩
      | none => have := List.find?_eq_none.1 hf e he1; simp at this
    obtain ⟨e', hf⟩ := this
    rw [hf]
    have h1 := List.mem_of_find?_eq_some hf
    have h2 := List.find?_some hf
    rw [nodup_map_inj (·.born) p4 h1 he1 (by simpa using h2)]
  refine ⟨.tuple #[e.key, e.val], ?_, _, rfl, _, _, rfl, by rw [he2]; exact key_VR hkk, _, _, rfl, hval, rfl⟩
  simp [Instr.entry, hget, he3, hgetm, hfind]
end
end Go.Av
/- What each operation of the machine does, held against the evaluator's. Conditions: the tables of types say what the program's do. -/
namespace Go.Av

/-- slots -/
def RE (ι : Emb) (w : World) (E : T AV) (tmps : Array Value) : Prop := ∀ t, VR ι w ((E.get t).getD undefA) (tmps.getD t undef)

theorem RE.mono {ι ι' : Emb} {w w' : World} {E : T AV} {tmps : Array Value} (hs : SubE ι ι') (hk : Keeps w w') (h : RE ι w E tmps) : RE ι' w' E tmps := fun t => VR.mono hs hk _ _ (h t)
theorem RE.put {ι : Emb} {w : World} {E : T AV} {a : Act} (h : RE ι w E a.tmps) {d : Option Tmp} {x : AV} {v : Value} (hv : VR ι w x v) (hd : ∀ t, d = some t → t < a.tmps.size) : RE ι w (putE E d x) (a.put d v).tmps := by
  cases d with
  | none => exact h
  | some d =>
    intro t
    have := hd d rfl
    simp only [putE, Act.put, T.get_set]
    by_cases e : t = d
    · subst e; simp [this]; exact hv
    · rw [if_neg e]
      have h1 := h t
      rw [Array.getD_eq_getD_getElem?] at h1 ⊢
      rw [Array.getElem?_setIfInBounds_ne (fun e' => e e'.symm)]
      exact h1

/-- what comes of an operation -/
def OpRes (P : Program) (ι : Emb) (H : Hp) (w : World) (s : Sem Next) : Nx → Prop
  | .val a H' => ∃ n u w' ι', s.run P w = .ok n w' ∧ (n = .value u ∨ (n = .skip ∧ u = undef)) ∧ R ι' H' w' ∧ Post ι ι' H H' w w' ∧ VR ι' w' a u
  | .call f args => ∃ vs, s.run P w = (callFunc f ⟨vs⟩).run P w ∧ VRs ι w args vs

section
variable {P : Program} {C : Ctx} {w : World} {ι : Emb} {H : Hp} {E : T AV} {a : Act}

theorem ofVal_ok {v : Value} {x : AV} (h : ofVal v = some x) : VR ι w x v := by
  unfold ofVal at h
  split at h <;> first | cases h | skip
  all_goals first | rfl | exact ⟨rfl, rfl⟩ | skip

theorem ev_ok (he : RE ι w E a.tmps) {o : Operand} {x : AV} (h : ev E o = some x) : VR ι w x (a.eval o) := by
  cases o with
  | tmp t => simp only [ev, Option.some.injEq] at h; subst h; exact he t
  | const v => exact ofVal_ok h
  | func f => simp only [ev, Option.some.injEq] at h; subst h; exact ⟨[], rfl, rfl⟩
  | global g => cases h
theorem evs_ok (he : RE ι w E a.tmps) : ∀ {l : List Operand} {xs : List AV}, evs E l = some xs → VRs ι w xs (l.map a.eval)
  | [], _, h => by simp [evs] at h; subst h; rfl
  | o :: l, _, h => by
    simp only [evs] at h
    cases h1 : ev E o with
    | none => simp [h1] at h
    | some x =>
      cases h2 : evs E l with
      | none => simp [h1, h2] at h
      | some xs => simp [h1, h2] at h; subst h; exact ⟨_, _, rfl, ev_ok he h1, evs_ok he h2⟩
theorem evParts_ok (he : RE ι w E a.tmps) : ∀ {l : List (Nat × Operand)} {xs : List (Nat × AV)}, evParts E l = some xs → PR ι w xs (l.map fun (i, x) => (i, a.eval x))
  | [], _, h => by simp [evParts] at h; subst h; exact ⟨rfl, by simp⟩
  | (i, o) :: l, _, h => by
    simp only [evParts] at h
    cases h1 : ev E o with
    | none => simp [h1] at h
    | some x =>
      cases h2 : evParts E l with
      | none => simp [h1, h2] at h
      | some xs =>
        simp [h1, h2] at h; subst h
        obtain ⟨g1, g2⟩ := evParts_ok he h2
        refine ⟨by simpa using g1, fun j i1 a1 i2 v h3 h4 => ?_⟩
        cases j with
        | zero => simp at h3 h4; obtain ⟨rfl, rfl⟩ := h3; obtain ⟨rfl, rfl⟩ := h4; exact ⟨rfl, ev_ok he h1⟩
        | succ j => exact g2 j i1 a1 i2 v (by simpa using h3) (by simpa using h4)
theorem optEv_ok (he : RE ι w E a.tmps) {o : Option Operand} {x : Option AV} (h : optEv E o = some x) : OptVR ι w x (o.map a.eval) := by
  cases o with
  | none => simp [optEv] at h; subst h; trivial
  | some o =>
    simp only [optEv, Option.map_eq_some_iff] at h
    obtain ⟨v, h1, rfl⟩ := h
    exact ev_ok he h1

theorem res1 (r : R ι H w) {x : Option AV} {l : List Nx} (h : val1 H x = some l) {s : Sem Value} (hs : ∀ a, x = some a → ∃ u, s.run P w = .ok u w ∧ VR ι w a u) : ∃ nx ∈ l, OpRes P ι H w (do pure (.value (← s))) nx := by
  cases x with
  | none => simp [val1] at h
  | some v =>
    simp [val1] at h; subst h
    obtain ⟨u, h1, h2⟩ := hs v rfl
    exact ⟨_, .head _, .value u, u, w, ι, by simp [h1], .inl rfl, r, Post.refl .., h2⟩
theorem res2 {x : Option (AV × Hp)} {l : List Nx} (h : val2 x = some l) {s : Sem Value} (hs : ∀ a H', x = some (a, H') → ∃ u w' ι', s.run P w = .ok u w' ∧ R ι' H' w' ∧ Post ι ι' H H' w w' ∧ VR ι' w' a u) :
    ∃ nx ∈ l, OpRes P ι H w (do pure (.value (← s))) nx := by
  cases x with
  | none => simp [val2] at h
  | some v =>
    simp [val2] at h; subst h
    obtain ⟨u, w', ι', h1, h2, h3, h4⟩ := hs v.1 v.2 rfl
    exact ⟨_, .head _, .value u, u, w', ι', by simp [h1], .inl rfl, h2, h3, h4⟩
theorem resS {x : Option Hp} {l : List Nx} (h : skip1 x = some l) {s : Sem Unit} (hs : ∀ H', x = some H' → ∃ w', s.run P w = .ok () w' ∧ R ι H' w' ∧ Post ι ι H H' w w') :
    ∃ nx ∈ l, OpRes P ι H w (do s; pure .skip) nx := by
  cases x with
  | none => simp [skip1] at h
  | some H' =>
    simp [skip1] at h; subst h
    obtain ⟨w', h1, h2, h3⟩ := hs H' rfl
    exact ⟨_, .head _, .skip, undef, w', ι, by simp [h1], .inr ⟨rfl, rfl⟩, h2, h3, [], rfl, rfl⟩

theorem builtin_ok (hC : CtxOK P C) (r : R ι H w) {b : Builtin} {ts : Array TypeId} {args : List AV} {vs : List Value} {l : List Nx} (ty : TypeId) (cs : Array Bool) (h : builtinA C H b ts.toList args = some l) (hv : VRs ι w args vs) :
    ∃ nx ∈ l, OpRes P ι H w (builtin b ts ty cs ⟨vs⟩) nx := by
  unfold builtinA at h
  split at h
  · rename_i t ts' x hts
    obtain ⟨v, _, rfl, hx, e⟩ := hv; simp only [VRs] at e; subst e
    exact res1 r h fun a ha => len_ok hC r ha hx (by rw [← Array.getElem?_toList, hts]; rfl)
  · rename_i t t2 s x hts
    obtain ⟨vs, _, rfl, h1, vx, _, rfl, h2, e⟩ := hv; simp only [VRs] at e; subst e
    have : ts = #[t, t2] := by apply Array.ext'; simpa using hts
    subst this
    exact res2 h fun a H' ha => append_ok hC r ty ha h1 h2
  · rename_i t ts' d s hts
    obtain ⟨vs, _, rfl, h1, vx, _, rfl, h2, e⟩ := hv; simp only [VRs] at e; subst e
    exact res2 h fun a H' ha => copy_ok (t2 := 0) hC r (by rw [← Array.getElem?_toList, hts]; rfl) ty ha h1 h2
  · rename_i x xs
    obtain ⟨v, vs, rfl, h1, h2⟩ := hv
    exact res1 r h fun a ha => by simpa [Builtin.min_] using foldMin_ok xs x a vs v ha h1 h2
  · rename_i x xs
    obtain ⟨v, vs, rfl, h1, h2⟩ := hv
    exact res1 r h fun a ha => by simpa [Builtin.max_] using foldMax_ok xs x a vs v ha h1 h2
  · rename_i t ts' x hts
    obtain ⟨v, _, rfl, hx, e⟩ := hv; simp only [VRs] at e; subst e
    cases hc : clearA C H t x with
    | none => simp [skip1, hc] at h
    | some H' =>
      simp [skip1, hc] at h; subst h
      obtain ⟨w', h1, h2, h3⟩ := clear_ok hC r (by rw [← Array.getElem?_toList, hts]; rfl) ty hc hx
      exact ⟨_, .head _, .value (.tuple #[]), .tuple #[], w', ι, by simp [builtin, h1], .inl rfl, h2, h3, [], rfl, rfl⟩
  · cases h
end
end Go.Av
/- What each operation of the machine does, held against the evaluator's: all of them. Conditions: the tables of types say what the program's do. -/
namespace Go.Av

section
variable {P : Program} {C : Ctx} {w : World} {ι : Emb} {H : Hp} {E : T AV} {a : Act}

theorem OpRes.congr {s s' : Sem Next} (h : s.run P w = s'.run P w) {nx : Nx} (h2 : OpRes P ι H w s' nx) : OpRes P ι H w s nx := by
  cases nx with
  | val a H' => obtain ⟨n, u, w', ι', g1, g2⟩ := h2; exact ⟨n, u, w', ι', h.trans g1, g2⟩
  | call f args => obtain ⟨vs, g1, g2⟩ := h2; exact ⟨vs, h.trans g1, g2⟩

theorem opB_ok (hC : CtxOK P C) (r : R ι H w) (he : RE ι w E a.tmps) (o : Oper) {l : List Nx} (h : opB C E H o.op = some l) : ∃ nx ∈ l, OpRes P ι H w (execOp a.eval o) nx := by
  obtain ⟨dst, op, type, pos, after, guard⟩ := o
  cases op <;> simp only [opB] at h <;> try (cases h; done)
  case pick c x y =>
    have := res1 (P := P) r h (s := do pure (if ← Go.asBool (a.eval c) then a.eval x else a.eval y)) (fun v hv => by
      simp only [Option.bind_eq_bind, Option.bind_eq_some_iff] at hv
      obtain ⟨c', h1, x', h2, y', h3, hv⟩ := hv
      exact pick_ok hv (ev_ok he h1) (ev_ok he h2) (ev_ok he h3))
    simpa [execOp] using this
  case alloc e =>
    exact res2 (P := P) h (s := Instr.alloc e true (.tuple #[])) (fun v H' hv => by
      simp only [Option.bind_eq_bind, Option.bind_eq_some_iff] at hv
      obtain ⟨i, h1, z, h2, hv⟩ := hv
      simp at hv; obtain ⟨rfl, rfl⟩ := hv
      exact alloc_ok hC r h1 h2)
  case build t ps =>
    exact res1 (P := P) r h (s := Instr.build t (ps.map fun (i, x) => (i, a.eval x))) (fun v hv => by
      simp only [Option.bind_eq_bind, Option.bind_eq_some_iff] at hv
      obtain ⟨ps', h1, hv⟩ := hv
      exact build_ok hC hv (by simpa using evParts_ok he h1))
  case buildSlice t n ps =>
    have key := res2 (P := P) (w := w) (ι := ι) (H := H) h (s := Instr.buildSlice t n (ps.map fun (i, x) => (i, a.eval x))) (fun v H' hv => by
      simp only [Option.bind_eq_bind, Option.bind_eq_some_iff] at hv
      obtain ⟨ps', h1, hv⟩ := hv
      exact buildSlice_ok hC r hv (by simpa using evParts_ok he h1))
    simp only [execOp]
    exact key
  case unOp op t x =>
    exact res1 (P := P) r h (s := Op.unary op (a.eval x)) (fun v hv => by
      simp only [Option.bind_eq_bind, Option.bind_eq_some_iff] at hv
      obtain ⟨x', h1, hv⟩ := hv
      exact un_ok hv (ev_ok he h1))
  case convert s d x =>
    exact res1 (P := P) r h (s := convert s d (a.eval x)) (fun v hv => by
      simp only [Option.bind_eq_bind, Option.bind_eq_some_iff] at hv
      obtain ⟨x', h1, hv⟩ := hv
      exact convert_ok hC r hv (ev_ok he h1))
  case makeFunc f first cap =>
    cases f with
    | func f =>
      exact res1 (P := P) r h (s := Instr.makeFunc (.func f) (first.map a.eval) (cap.map a.eval)) (fun v hv => by
        simp only [Option.bind_eq_bind, Option.bind_eq_some_iff] at hv
        obtain ⟨_, h1, b, h2, hv⟩ := hv
        simp at hv; subst hv
        have : first = #[] := by simpa using chk_eq h1
        subst this
        exact ⟨.func (.func f) (#[].map a.eval) ⟨cap.toList.map a.eval⟩, by
          have e : cap.map a.eval = ⟨cap.toList.map a.eval⟩ := by apply Array.ext'; simp
          rw [e]; rfl, _, by simp, evs_ok he h2⟩)
    | _ => cases h
  case makeMap t rs =>
    cases rs with
    | none =>
      simp only [oMakeMap] at h
      exact res2 (P := P) h (s := Instr.makeMap t none) (fun v H' hv => by cases hv; exact makeMap_ok r t)
    | some _ => cases h
  case makeSlice t x y =>
    exact res2 (P := P) h (s := Instr.makeSlice t (a.eval x) (a.eval y)) (fun v H' hv => by
      simp only [Option.bind_eq_bind, Option.bind_eq_some_iff] at hv
      obtain ⟨x', h1, y', h2, hv⟩ := hv
      exact makeSlice_ok hC r hv (ev_ok he h1) (ev_ok he h2))
  case slice t x lo hi mx =>
    exact res1 (P := P) r h (s := Instr.sliceAt t (a.eval x) (lo.map a.eval) (hi.map a.eval) (mx.map a.eval)) (fun v hv => by
      simp only [Option.bind_eq_bind, Option.bind_eq_some_iff] at hv
      obtain ⟨x', h1, lo', h2, hi', h3, mx', h4, hv⟩ := hv
      exact slice_ok hC r hv (ev_ok he h1) (optEv_ok he h2) (optEv_ok he h3) (optEv_ok he h4))
  case field t x f =>
    exact res1 (P := P) r h (s := Instr.field t (a.eval x) f) (fun v hv => by
      simp only [Option.bind_eq_bind, Option.bind_eq_some_iff] at hv
      obtain ⟨x', h1, hv⟩ := hv
      exact field_ok hC hv (ev_ok he h1))
  case index t x ix =>
    exact res1 (P := P) r h (s := Instr.index t (a.eval x) (a.eval ix)) (fun v hv => by
      simp only [Option.bind_eq_bind, Option.bind_eq_some_iff] at hv
      obtain ⟨x', h1, i', h2, hv⟩ := hv
      exact index_ok hC hv (ev_ok he h1) (ev_ok he h2))
  case lookup t m k ok =>
    exact res1 (P := P) r h (s := Instr.lookup t (a.eval m) (a.eval k) ok) (fun v hv => by
      simp only [Option.bind_eq_bind, Option.bind_eq_some_iff] at hv
      obtain ⟨x', h1, i', h2, hv⟩ := hv
      exact lookup_ok hC r hv (ev_ok he h1) (ev_ok he h2))
  case mapUpdate t m k x =>
    exact resS (P := P) h (s := Instr.mapUpdate t (a.eval m) (a.eval k) (a.eval x)) (fun H' hv => by
      simp only [Option.bind_eq_bind, Option.bind_eq_some_iff] at hv
      obtain ⟨m', h1, k', h2, x', h3, hv⟩ := hv
      exact update_ok hC r hv (ev_ok he h1) (ev_ok he h2) (ev_ok he h3))
  case insert t m k x =>
    exact resS (P := P) h (s := Instr.mapUpdate t (a.eval m) (a.eval k) (a.eval x)) (fun H' hv => by
      simp only [Option.bind_eq_bind, Option.bind_eq_some_iff] at hv
      obtain ⟨m', h1, k', h2, x', h3, hv⟩ := hv
      exact update_ok hC r hv (ev_ok he h1) (ev_ok he h2) (ev_ok he h3))
  case range t x =>
    exact res2 (P := P) h (s := Instr.range t (a.eval x)) (fun v H' hv => by
      simp only [Option.bind_eq_bind, Option.bind_eq_some_iff] at hv
      obtain ⟨x', h1, hv⟩ := hv
      exact range_ok hC r hv (ev_ok he h1))
  case next it str =>
    unfold oNext at h
    cases str with
    | true => cases h
    | false =>
      simp only [cond_false, Option.map_eq_some_iff, Option.bind_eq_bind, Option.bind_eq_some_iff] at h
      obtain ⟨l', ⟨it', h1, h2⟩, rfl⟩ := h
      obtain ⟨u, w', x, H', g1, g2, g3, g4, g5⟩ := next_ok (P := P) r type h2 (ev_ok he h1)
      exact ⟨.val x H', List.mem_map.2 ⟨_, g2, rfl⟩, .value u, u, w', ι, by simp [execOp, g1], .inl rfl, g3, g4, g5⟩
  case entry it =>
    exact res1 (P := P) r h (s := Instr.entry (a.eval it)) (fun v hv => by
      simp only [Option.bind_eq_bind, Option.bind_eq_some_iff] at hv
      obtain ⟨x', h1, hv⟩ := hv
      exact entry_ok r hv (ev_ok he h1))

theorem op_ok (hC : CtxOK P C) (r : R ι H w) (he : RE ι w E a.tmps) (o : Oper) {l : List Nx} (h : opA C E H o.op = some l) : ∃ nx ∈ l, OpRes P ι H w (execOp a.eval o) nx := by
  have hB := opB_ok (P := P) hC r he o (l := l)
  obtain ⟨dst, op, type, pos, after, guard⟩ := o
  cases op <;> simp only [opA] at h <;> try (exact hB h)
  case move x =>
    unfold val1 at h
    split at h
    · rename_i v hv; cases h
      exact ⟨_, .head _, .value (a.eval x), a.eval x, w, ι, by simp [execOp], .inl rfl, r, Post.refl .., ev_ok he hv⟩
    · cases h
  case assign x =>
    unfold val1 at h
    split at h
    · rename_i v hv; cases h
      exact ⟨_, .head _, .value (a.eval x), a.eval x, w, ι, by simp [execOp], .inl rfl, r, Post.refl .., ev_ok he hv⟩
    · cases h
  case box e x =>
    exact res2 (P := P) h (s := Instr.box e (a.eval x)) (fun v H' hv => by
      simp only [Option.bind_eq_bind, Option.bind_eq_some_iff] at hv
      obtain ⟨x', h1, hv⟩ := hv
      simp at hv; obtain ⟨rfl, rfl⟩ := hv
      exact box_ok r (ev_ok he h1) e)
  case load t x =>
    exact res1 (P := P) r h (s := Instr.loadAt t (a.eval x)) (fun v hv => by
      simp only [Option.bind_eq_bind, Option.bind_eq_some_iff] at hv
      obtain ⟨x', h1, hv⟩ := hv
      exact load_ok hC r hv (ev_ok he h1))
  case store t x y =>
    exact resS (P := P) h (s := Instr.storeAt t (a.eval x) (a.eval y)) (fun H' hv => by
      simp only [Option.bind_eq_bind, Option.bind_eq_some_iff] at hv
      obtain ⟨x', h1, y', h2, hv⟩ := hv
      exact store_ok hC r hv (ev_ok he h1) (ev_ok he h2))
  case nilCheck x =>
    unfold oNil at h
    cases hx : (do let x ← ev E x; nilCheckA x : Option AV) with
    | none => rw [hx] at h; cases h
    | some v =>
      rw [hx] at h; cases h
      simp only [Option.bind_eq_bind, Option.bind_eq_some_iff] at hx
      obtain ⟨x', h1, h2⟩ := hx
      obtain ⟨g1, g2⟩ := nilCheck_ok (P := P) h2 (ev_ok he h1) (o := ⟨dst, .nilCheck x, type, pos, after, guard⟩) rfl rfl
      exact ⟨_, .head _, .value (a.eval x), a.eval x, w, ι, g1, .inl rfl, r, Post.refl .., g2⟩
  case binOp op t x y q =>
    exact res1 (P := P) r h (s := do eqGuard op t x y (a.eval x) (a.eval y); binOp op t (a.eval x) (a.eval y)) (fun v hv => by
      simp only [Option.bind_eq_bind, Option.bind_eq_some_iff] at hv
      obtain ⟨x', h1, y', h2, hv⟩ := hv
      exact bin_ok hC hv (ev_ok he h1) (ev_ok he h2) x y)
  case fieldAddr t x f =>
    exact res1 (P := P) r h (s := Instr.fieldAt t (a.eval x) f) (fun v hv => by
      simp only [Option.bind_eq_bind, Option.bind_eq_some_iff] at hv
      obtain ⟨x', h1, hv⟩ := hv
      exact fieldAddr_ok hC hv (ev_ok he h1))
  case indexAddr t x ix =>
    exact res1 (P := P) r h (s := Instr.indexAt t (a.eval x) (a.eval ix)) (fun v hv => by
      simp only [Option.bind_eq_bind, Option.bind_eq_some_iff] at hv
      obtain ⟨x', h1, i', h2, hv⟩ := hv
      exact indexAddr_ok hC hv (ev_ok he h1) (ev_ok he h2))
  case extract x i =>
    exact res1 (P := P) r h (s := Instr.extract (a.eval x) i) (fun v hv => by
      simp only [Option.bind_eq_bind, Option.bind_eq_some_iff] at hv
      obtain ⟨x', h1, vs, h2, hv⟩ := hv
      exact extract_ok h2 hv (ev_ok he h1))
  case call c =>
    unfold oCall at h
    cases hargs : evs E c.args.toList with
    | none => simp [hargs] at h
    | some args =>
      simp only [hargs] at h
      have hvs := evs_ok he hargs
      cases hc : c.callee with
      | builtin b =>
        simp only [hc] at h
        have e : c.args.map a.eval = ⟨c.args.toList.map a.eval⟩ := by apply Array.ext'; simp
        obtain ⟨cs, e2⟩ : ∃ cs, (execOp a.eval ⟨dst, .call c, type, pos, after, guard⟩).run P w = (builtin b c.argTypes type cs ⟨c.args.toList.map a.eval⟩).run P w :=
          ⟨_, by simp only [execOp, resolve, hc, invoke, e, Sem.run_bind, Sem.run_pure, Result.andThen_ok]; rfl⟩
        obtain ⟨nx, h1, h2⟩ := builtin_ok (P := P) hC r type cs h hvs
        exact ⟨nx, h1, OpRes.congr e2 h2⟩
      | value f =>
        simp only [hc] at h
        split at h
        · rename_i f' cap hf
          cases h
          obtain ⟨vs, h1, h2⟩ := ev_ok he hf
          refine ⟨_, .head _, c.args.toList.map a.eval ++ vs, ?_, hvs.append h2⟩
          have e : c.args.map a.eval ++ (⟨vs⟩ : Array Value) = ⟨c.args.toList.map a.eval ++ vs⟩ := by apply Array.ext'; simp
          rw [← e]
          simp [execOp, resolve, hc, Deferred.ofValue, h1, invoke]
        · cases h
      | invoke r m => simp only [hc] at h; cases h
end
end Go.Av
/- What the evaluator leaves alone: numbers below the mark. Conditions: the prims leave it alone. -/
namespace Go.Av

/-! ### Outcomes -/
theorem bindL_inv {α β : Type} {k : α → M β} : ∀ {xs : List α} {l : List β}, bindL k xs = some l → (∀ x ∈ xs, ∃ l', k x = some l' ∧ ∀ y ∈ l', y ∈ l) ∧ ∀ y ∈ l, ∃ x ∈ xs, ∃ l', k x = some l' ∧ y ∈ l'
  | [], l, h => by simp [bindL] at h; subst h; simp
  | x :: xs, l, h => by
    simp only [bindL] at h
    cases h1 : k x with
    | none => simp [h1] at h
    | some a =>
      cases h2 : bindL k xs with
      | none => simp [h1, h2] at h
      | some b =>
        simp [h1, h2] at h; subst h
        obtain ⟨g1, g2⟩ := bindL_inv h2
        refine ⟨fun y hy => ?_, fun y hy => ?_⟩
        · cases hy with
          | head => exact ⟨a, h1, fun y hy => List.mem_append_left _ hy⟩
          | tail _ hy => obtain ⟨l', a1, a2⟩ := g1 y hy; exact ⟨l', a1, fun z hz => List.mem_append_right _ (a2 z hz)⟩
        · rcases List.mem_append.1 hy with hy | hy
          · exact ⟨x, .head _, a, h1, hy⟩
          · obtain ⟨x', a1, a2⟩ := g2 y hy; exact ⟨x', .tail _ a1, a2⟩
theorem bind_inv {α β : Type} {m : M α} {k : α → M β} {l : List β} (h : M.bind m k = some l) :
    ∃ xs, m = some xs ∧ (∀ x ∈ xs, ∃ l', k x = some l' ∧ ∀ y ∈ l', y ∈ l) ∧ ∀ y ∈ l, ∃ x ∈ xs, ∃ l', k x = some l' ∧ y ∈ l' := by
  unfold M.bind at h
  split at h
  · cases h
  · cases h; exact ⟨[], rfl, by simp, by simp⟩
  · rename_i x
    refine ⟨[x], rfl, fun y hy => ?_, fun y hy => ⟨x, .head _, l, h, hy⟩⟩
    cases hy with
    | head => exact ⟨l, h, fun _ h => h⟩
    | tail _ hy => cases hy
  · rename_i x y l'
    exact ⟨_, rfl, bindL_inv h⟩
theorem anyB_mem {α : Type} {p : α → Bool} : ∀ {l : List α}, anyB p l = true → ∃ x ∈ l, p x = true
  | [], h => by cases h
  | x :: xs, h => by
    simp only [anyB, Bool.or_eq_true] at h
    rcases h with h | h
    · exact ⟨x, .head _, h⟩
    · obtain ⟨y, h1, h2⟩ := anyB_mem h; exact ⟨y, .tail _ h1, h2⟩
theorem merge_sub : ∀ {l : List (AV × Hp)} {x : AV × Hp}, x ∈ merge l → x ∈ l
  | [], _, h => by cases h
  | [_], _, h => h
  | x :: y :: xs, z, h => by
    simp only [merge] at h
    cases hb : anyB (sameR x) (merge (y :: xs)) with
    | true => rw [hb, cond_true] at h; exact .tail _ (merge_sub h)
    | false =>
      rw [hb, cond_false] at h
      cases h with
      | head => exact .head _
      | tail _ h => exact .tail _ (merge_sub h)

/-! ### Equality of heaps -/
theorem beqO_eq : ∀ {a b : Option AV}, beqO a b = true → a = b
  | none, none, _ => rfl
  | none, some _, h => by cases h
  | some _, none, h => by cases h
  | some a, some b, h => by rw [beq_eq a b h]
theorem beqP_eq : ∀ {a b : List (AV × AV)}, beqP a b = true → a = b
  | [], [], _ => rfl
  | [], _ :: _, h => by cases h
  | _ :: _, [], h => by cases h
  | (a, u) :: as, (b, v) :: bs, h => by
    simp only [beqP, Bool.and_eq_true] at h
    rw [beq_eq _ _ h.1, beq_eq _ _ h.2.1, beqP_eq h.2.2]
theorem Obj.beq_eq : ∀ {a b : Obj}, Obj.beq a b = true → a = b
  | .row r a, .row s b, h => by simp [Obj.beq] at h; rw [h.1, beqs_eq _ _ h.2]
  | .map a c, .map b d, h => by simp [Obj.beq] at h; rw [h.1, beqP_eq h.2]
  | .iter a b c d, .iter e f g i, h => by simp [Obj.beq] at h; rw [h.1, h.2.1, beqs_eq _ _ h.2.2.1, beqO_eq h.2.2.2]
  | .row .., .map .., h => by cases h
  | .row .., .iter .., h => by cases h
  | .map .., .row .., h => by cases h
  | .map .., .iter .., h => by cases h
  | .iter .., .row .., h => by cases h
  | .iter .., .map .., h => by cases h
theorem beqOO_eq : ∀ {a b : Option Obj}, beqOO a b = true → a = b
  | none, none, _ => rfl
  | none, some _, h => by cases h
  | some _, none, h => by cases h
  | some a, some b, h => by rw [Obj.beq_eq (a := a) (b := b) h]
theorem T.beq_eq : ∀ {a b : T Obj}, T.beq a b = true → a = b
  | .nil, .nil, _ => rfl
  | .nil, .node .., h => by cases h
  | .node .., .nil, h => by cases h
  | .node a b c, .node d e f, h => by
    simp only [T.beq, Bool.and_eq_true] at h
    rw [beqOO_eq h.1, T.beq_eq h.2.1, T.beq_eq h.2.2]
theorem sameR_eq {a b : AV × Hp} (h : sameR a b = true) : a = b := by
  simp only [sameR, Bool.and_eq_true] at h
  obtain ⟨v, ⟨t, n, p⟩⟩ := a
  obtain ⟨v', ⟨t', n', p'⟩⟩ := b
  have h1 := beq_eq _ _ h.1
  have h2 := Nat.eq_of_beq_eq_true h.2.1
  have h3 := Nat.eq_of_beq_eq_true h.2.2.1
  have h4 := T.beq_eq h.2.2.2
  simp only at h1 h2 h3 h4
  rw [h1, h2, h3, h4]
theorem merge_mem : ∀ {l : List (AV × Hp)} {x : AV × Hp}, x ∈ l → x ∈ merge l
  | [_], _, h => h
  | x :: y :: xs, z, h => by
    simp only [merge]
    cases hb : anyB (sameR x) (merge (y :: xs)) with
    | true =>
      rw [cond_true]
      cases h with
      | head => obtain ⟨x', h1, h2⟩ := anyB_mem hb; rw [sameR_eq h2]; exact h1
      | tail _ h => exact merge_mem h
    | false =>
      rw [cond_false]
      cases h with
      | head => exact .head _
      | tail _ h => exact .tail _ (merge_mem h)

/-! ### What is left alone -/
def Kept (H H' : Hp) : Prop := H.next ≤ H'.next ∧ H'.prot = H.prot ∧ ∀ i, i < H.prot → i < H.next → H'.get i = H.get i
theorem Kept.refl (H : Hp) : Kept H H := ⟨Nat.le_refl _, rfl, fun _ _ _ => rfl⟩
theorem Kept.trans {a b c : Hp} (h : Kept a b) (k : Kept b c) : Kept a c :=
  ⟨Nat.le_trans h.1 k.1, k.2.1.trans h.2.1, fun i h1 h2 => (k.2.2 i (by rw [h.2.1]; exact h1) (Nat.lt_of_lt_of_le h2 h.1)).trans (h.2.2 i h1 h2)⟩
theorem Kept.new (H : Hp) (o : Obj) : Kept H (H.new o) := ⟨Nat.le_succ _, rfl, fun i _ h => by rw [Hp.get_new, if_neg (by omega)]⟩
theorem Kept.wr {H G : Hp} {i : Nat} {o : Option Obj} (h : H.wr i o = some G) : Kept H G := by
  obtain ⟨h1, rfl⟩ := Hp.wr_eq h
  exact ⟨Nat.le_refl _, rfl, fun j h2 _ => by rw [Hp.get_put, if_neg (by omega)]⟩

def KeptL (H : Hp) (l : List Nx) : Prop := ∀ v H', Nx.val v H' ∈ l → Kept H H'
theorem kept1 {H : Hp} {x : Option AV} {l : List Nx} (h : val1 H x = some l) : KeptL H l := by
  cases x with
  | none => cases h
  | some v => cases h; intro v' H' hm; cases hm with
    | head => exact Kept.refl _
    | tail _ h => cases h
theorem kept2 {H : Hp} {x : Option (AV × Hp)} {l : List Nx} (h : val2 x = some l) (hk : ∀ a H', x = some (a, H') → Kept H H') : KeptL H l := by
  cases x with
  | none => cases h
  | some v => cases h; intro v' H' hm; cases hm with
    | head => exact hk _ _ rfl
    | tail _ h => cases h
theorem keptS {H : Hp} {x : Option Hp} {l : List Nx} (h : skip1 x = some l) (hk : ∀ H', x = some H' → Kept H H') : KeptL H l := by
  cases x with
  | none => cases h
  | some v => cases h; intro v' H' hm; cases hm with
    | head => exact hk _ rfl
    | tail _ h => cases h

section
variable {C : Ctx} {H : Hp} {E : T AV}
theorem store_kept {t : TypeId} {a v : AV} {H' : Hp} (h : storeA C H t a v = some H') : Kept H H' := by
  simp only [storeA, Option.bind_eq_bind, Option.bind_eq_some_iff] at h
  obtain ⟨_, _, _, _, _, _, _, _, _, _, h⟩ := h
  exact Kept.wr h
theorem update_kept {t : TypeId} {m k v : AV} {H' : Hp} (h : updateA C H t m k v = some H') : Kept H H' := by
  simp only [updateA, Option.bind_eq_bind, Option.bind_eq_some_iff] at h
  obtain ⟨_, _, _, _, _, _, _, _, _, _, _, _, _, _, _, _, h⟩ := h
  exact Kept.wr h
theorem append_kept {t t2 : TypeId} {s x a : AV} {H' : Hp} (h : appendA C H t t2 s x = some (a, H')) : Kept H H' := by
  simp only [appendA, Option.bind_eq_bind, Option.bind_eq_some_iff] at h
  obtain ⟨_, _, _, _, _, _, _, _, ⟨p, _, _⟩, _, _, _, ⟨m, _⟩, _, h⟩ := h
  cases hm : Nat.beq m 0 with
  | true => rw [hm, cond_true] at h; cases h; exact Kept.refl _
  | false =>
    rw [hm, cond_false] at h
    simp only [Option.bind_eq_some_iff] at h
    obtain ⟨_, _, _, _, H1, h1, h⟩ := h
    cases h
    refine Kept.trans ?_ (Kept.new _ _)
    cases p with
    | none => cases h1; exact Kept.refl _
    | some q =>
      simp only [Option.bind_eq_some_iff] at h1
      obtain ⟨_, _, h1⟩ := h1
      exact Kept.wr h1
theorem copy_kept {t : TypeId} {d s a : AV} {H' : Hp} (h : copyA C H t d s = some (a, H')) : Kept H H' := by
  simp only [copyA, Option.bind_eq_bind, Option.bind_eq_some_iff] at h
  obtain ⟨_, _, ⟨p, _, _⟩, _, ⟨m, _⟩, _, h⟩ := h
  cases p with
  | none => cases h; exact Kept.refl _
  | some q =>
    simp only [Option.bind_eq_some_iff] at h
    obtain ⟨_, _, _, _, _, _, H1, h1, h⟩ := h
    cases h
    exact Kept.wr h1
theorem clear_kept {t : TypeId} {x : AV} {H' : Hp} (h : clearA C H t x = some H') : Kept H H' := by
  simp only [clearA, Option.bind_eq_bind, Option.bind_eq_some_iff] at h
  obtain ⟨_, _, _, _, ⟨p, _, _⟩, _, h⟩ := h
  cases p with
  | none => cases h; exact Kept.refl _
  | some q =>
    simp only [Option.bind_eq_some_iff] at h
    obtain ⟨_, _, _, _, _, _, h⟩ := h
    exact Kept.wr h
theorem range_kept {t : TypeId} {x a : AV} {H' : Hp} (h : rangeA C H t x = some (a, H')) : Kept H H' := by
  simp only [rangeA, Option.bind_eq_bind, Option.bind_eq_some_iff] at h
  obtain ⟨_, _, _, _, h⟩ := h
  split at h
  · cases h; exact Kept.new _ _
  · simp only [Option.bind_eq_some_iff] at h
    obtain ⟨_, _, h⟩ := h
    cases h; exact Kept.new _ _
  · cases h
theorem mapL_mem' {α β : Type} {f : α → Option β} : ∀ {l : List α} {r : List β}, mapL f l = some r → ∀ y ∈ r, ∃ x ∈ l, f x = some y
  | [], r, h, y, hy => by simp [mapL] at h; subst h; cases hy
  | a :: l, r, h, y, hy => by
    simp only [mapL] at h
    cases h1 : f a with
    | none => simp [h1] at h
    | some z =>
      cases h2 : mapL f l with
      | none => simp [h1, h2] at h
      | some zs =>
        simp [h1, h2] at h; subst h
        cases hy with
        | head => exact ⟨a, .head _, h1⟩
        | tail _ hy => obtain ⟨x, a1, a2⟩ := mapL_mem' h2 y hy; exact ⟨x, .tail _ a1, a2⟩
theorem next_kept {it : AV} {l : List (AV × Hp)} (h : nextA H it = some l) : ∀ r ∈ l, Kept H r.2 := by
  simp only [nextA, Option.bind_eq_bind, Option.bind_eq_some_iff] at h
  obtain ⟨_, _, _, _, ⟨m, since, left, _⟩, _, h⟩ := h
  cases m with
  | none =>
    simp only [Option.bind_eq_some_iff] at h
    obtain ⟨H1, h1, h⟩ := h
    cases h
    intro r hr; cases hr with
    | head => exact Kept.wr h1
    | tail _ h => cases h
  | some id =>
    simp only [Option.bind_eq_some_iff] at h
    obtain ⟨_, _, _, _, h⟩ := h
    cases left with
    | nil =>
      simp only [Option.bind_eq_some_iff] at h
      obtain ⟨H1, h1, h⟩ := h
      cases h
      intro r hr; cases hr with
      | head => exact Kept.wr h1
      | tail _ h => cases h
    | cons x xs =>
      intro r hr
      obtain ⟨y, _, hy⟩ := mapL_mem' h r hr
      simp only [Option.bind_eq_some_iff] at hy
      obtain ⟨_, _, H1, h1, hy⟩ := hy
      cases hy
      exact Kept.wr h1

theorem opB_kept {o : Op} {l : List Nx} (h : opB C E H o = some l) : KeptL H l := by
  cases o <;> simp only [opB] at h <;> try (first | cases h; done | exact kept1 h)
  case alloc e =>
    refine kept2 h fun a H' hv => ?_
    simp only [Option.bind_eq_bind, Option.bind_eq_some_iff] at hv
    obtain ⟨_, _, _, _, hv⟩ := hv
    cases hv; exact Kept.new _ _
  case buildSlice t n ps =>
    refine kept2 h fun a H' hv => ?_
    simp only [buildSliceA, Option.bind_eq_bind, Option.bind_eq_some_iff] at hv
    obtain ⟨_, _, _, _, _, _, _, _, _, _, hv⟩ := hv
    cases hv; exact Kept.new _ _
  case makeFunc f first cap =>
    cases f with
    | func f => exact kept1 h
    | _ => cases h
  case makeMap t r =>
    cases r with
    | none =>
      simp only [oMakeMap] at h
      exact kept2 h fun a H' hv => by cases hv; exact Kept.new _ _
    | some _ => cases h
  case makeSlice t x y =>
    refine kept2 h fun a H' hv => ?_
    simp only [makeSliceA, Option.bind_eq_bind, Option.bind_eq_some_iff] at hv
    obtain ⟨_, _, _, _, _, _, _, _, _, _, _, _, _, _, _, _, _, _, hv⟩ := hv
    cases hv; exact Kept.new _ _
  case mapUpdate t m k x =>
    refine keptS h fun H' hv => ?_
    simp only [Option.bind_eq_bind, Option.bind_eq_some_iff] at hv
    obtain ⟨_, _, _, _, _, _, hv⟩ := hv
    exact update_kept hv
  case insert t m k x =>
    refine keptS h fun H' hv => ?_
    simp only [Option.bind_eq_bind, Option.bind_eq_some_iff] at hv
    obtain ⟨_, _, _, _, _, _, hv⟩ := hv
    exact update_kept hv
  case range t x =>
    refine kept2 h fun a H' hv => ?_
    simp only [Option.bind_eq_bind, Option.bind_eq_some_iff] at hv
    obtain ⟨_, _, hv⟩ := hv
    exact range_kept hv
  case next it str =>
    unfold oNext at h
    cases str with
    | true => cases h
    | false =>
      simp only [cond_false, Option.map_eq_some_iff, Option.bind_eq_bind, Option.bind_eq_some_iff] at h
      obtain ⟨l', ⟨it', h1, h2⟩, rfl⟩ := h
      intro v H' hm
      obtain ⟨r, h3, h4⟩ := List.mem_map.1 hm
      cases h4
      exact next_kept h2 r h3

theorem op_kept {o : Op} {l : List Nx} (h : opA C E H o = some l) : KeptL H l := by
  have hB := opB_kept (C := C) (H := H) (E := E) (o := o) (l := l)
  cases o <;> simp only [opA] at h <;> try (first | exact hB h | exact kept1 h)
  case box e x =>
    refine kept2 h fun a H' hv => ?_
    simp only [Option.bind_eq_bind, Option.bind_eq_some_iff] at hv
    obtain ⟨_, _, hv⟩ := hv
    cases hv; exact Kept.new _ _
  case store t x y =>
    refine keptS h fun H' hv => ?_
    simp only [Option.bind_eq_bind, Option.bind_eq_some_iff] at hv
    obtain ⟨_, _, _, _, hv⟩ := hv
    exact store_kept hv
  case call c =>
    unfold oCall at h
    split at h
    · cases h
    · rename_i args hargs
      split at h
      · rename_i b _
        unfold builtinA at h
        split at h <;> try (first | cases h; done | exact kept1 h)
        · exact kept2 h fun a H' hv => append_kept hv
        · exact kept2 h fun a H' hv => copy_kept hv
        · exact keptS h fun H' hv => clear_kept hv
      · split at h
        · cases h
          intro v H' hm; cases hm with
          | tail _ h => cases h
        · cases h
      · cases h
end
end Go.Av
/- What the evaluator's calls leave alone: numbers below the mark. Conditions: the prims leave it alone. -/
namespace Go.Av

/-- all that was there is as it was -/
def Keep2 (H H' : Hp) : Prop := H.next ≤ H'.next ∧ ∀ i, i < H.next → H'.get i = H.get i
theorem Keep2.refl (H : Hp) : Keep2 H H := ⟨Nat.le_refl _, fun _ _ => rfl⟩
theorem Keep2.trans {a b c : Hp} (h : Keep2 a b) (k : Keep2 b c) : Keep2 a c := ⟨Nat.le_trans h.1 k.1, fun i h1 => (k.2 i (Nat.lt_of_lt_of_le h1 h.1)).trans (h.2 i h1)⟩
theorem Keep2.new (H : Hp) (o : Obj) : Keep2 H (H.new o) := ⟨Nat.le_succ _, fun i h => by rw [Hp.get_new, if_neg (by omega)]⟩
def PrimKept (C : Ctx) : Prop := ∀ f p, C.prim f = some p → ∀ args H l, p args H = some l → ∀ r ∈ l, Kept H r.2 ∧ (C.quiet f = true → Keep2 H r.2)

theorem tidyL_kept {n : Nat} {G : Hp} : ∀ {vs : List AV} {met : List Nat} {H H' : Hp} {us : List AV}, tidyL n G vs met H = some (us, H') → Kept H H'
  | [], _, H, H', us, h => by simp [tidyL] at h; rw [← h.2]; exact Kept.refl _
  | v :: vs, met, H, H', us, h => by
    simp only [tidyL] at h
    cases hu : AV.und n v with
    | true =>
      rw [hu, cond_true] at h
      cases ht : tidyL n G vs met H with
      | none => simp [ht] at h
      | some x => obtain ⟨us', H1⟩ := x; simp [ht] at h; rw [← h.2]; exact tidyL_kept ht
    | false =>
      rw [hu, cond_false] at h
      cases hf : freshRow n G v with
      | none => simp [hf] at h
      | some x =>
        obtain ⟨i, cs, len, k⟩ := x
        simp only [hf] at h
        cases hm : hasN i met with
        | true => rw [hm, cond_true] at h; cases h
        | false =>
          rw [hm, cond_false] at h
          cases ht : tidyL n G vs (i :: met) (H.new (.row false cs)) with
          | none => simp [ht] at h
          | some x => obtain ⟨us', H1⟩ := x; simp [ht] at h; rw [← h.2]; exact (Kept.new _ _).trans (tidyL_kept ht)
theorem tidy_kept {H : Hp} {r : AV × Hp} (h : Kept ⟨H.h, H.next, H.next⟩ r.2) : Kept H (tidy H r).2 := by
  unfold tidy
  split
  · rename_i us H' ht
    exact tidyL_kept ht
  · exact ⟨h.1, rfl, fun i h1 h2 => h.2.2 i h2 h2⟩

theorem tidyL_keep2 {n : Nat} {G : Hp} : ∀ {vs : List AV} {met : List Nat} {H H' : Hp} {us : List AV}, tidyL n G vs met H = some (us, H') → Keep2 H H'
  | [], _, H, H', us, h => by simp [tidyL] at h; rw [← h.2]; exact Keep2.refl _
  | v :: vs, met, H, H', us, h => by
    simp only [tidyL] at h
    cases hu : AV.und n v with
    | true =>
      rw [hu, cond_true] at h
      cases ht : tidyL n G vs met H with
      | none => simp [ht] at h
      | some x => obtain ⟨us', H1⟩ := x; simp [ht] at h; rw [← h.2]; exact tidyL_keep2 ht
    | false =>
      rw [hu, cond_false] at h
      cases hf : freshRow n G v with
      | none => simp [hf] at h
      | some x =>
        obtain ⟨i, cs, len, k⟩ := x
        simp only [hf] at h
        cases hm : hasN i met with
        | true => rw [hm, cond_true] at h; cases h
        | false =>
          rw [hm, cond_false] at h
          cases ht : tidyL n G vs (i :: met) (H.new (.row false cs)) with
          | none => simp [ht] at h
          | some x => obtain ⟨us', H1⟩ := x; simp [ht] at h; rw [← h.2]; exact (Keep2.new _ _).trans (tidyL_keep2 ht)
theorem tidy_keep2 {H : Hp} {r : AV × Hp} (h : Kept ⟨H.h, H.next, H.next⟩ r.2) : Keep2 H (tidy H r).2 := by
  unfold tidy
  split
  · rename_i us H' ht
    exact tidyL_keep2 ht
  · exact ⟨h.1, fun i h2 => h.2.2 i h2 h2⟩

structure KeptN (C : Ctx) (n : Nat) : Prop where
  call : ∀ f args H l, callA C n f args H = some l → ∀ r ∈ l, Kept H r.2
  ops : ∀ all ops E H l, opsA C n all ops E H = some l → ∀ r ∈ l, Kept H r.2
  draw : ∀ all ops E H E' H' s, drawA C n all ops E H = some (E', H', s) → Kept H H'
  code : ∀ od c E H l, codeA C n od c E H = some l → ∀ o ∈ l, Kept H o.H

theorem endA_heap {C : Ctx} {rs : List ResultVar} {o : Out} {l : List (AV × Hp)} (h : endA C rs o = some l) : ∀ r ∈ l, r.2 = o.H := by
  unfold endA at h
  intro r hr
  split at h
  · cases h
  · split at h
    · cases h
      cases hr with
      | head => rfl
      | tail _ h => cases h
    · cases h

theorem kept_all {C : Ctx} (hp : PrimKept C) : ∀ n, KeptN C n
  | 0 => ⟨fun _ _ _ _ h => by simp [callA] at h, fun _ _ _ _ _ h => by simp [opsA] at h, fun _ _ _ _ _ _ _ h => by simp [drawA] at h, fun _ _ _ _ _ h => by simp [codeA] at h⟩
  | n + 1 => by
    have ih := kept_all hp n
    refine ⟨?_, ?_, ?_, ?_⟩
    · intro f args H l h r hr
      simp only [callA] at h
      split at h
      · rename_i p hpf; exact (hp f p hpf _ _ _ h r hr).1
      · split at h
        · cases h
        · rename_i a ha
          cases hq : C.quiet f with
          | true =>
            rw [hq, cond_true] at h
            simp only [Option.map_eq_some_iff] at h
            obtain ⟨l1, h1, rfl⟩ := h
            obtain ⟨r1, h2, rfl⟩ := List.mem_map.1 (merge_sub hr)
            obtain ⟨xs, e1, e2, e3⟩ := bind_inv h1
            obtain ⟨o, g1, l', g2, g3⟩ := e3 r1 h2
            refine tidy_kept ?_
            rw [endA_heap g2 _ g3]
            exact ih.code _ _ _ _ _ e1 o g1
          | false =>
            rw [hq, cond_false] at h
            simp only [Option.map_eq_some_iff] at h
            obtain ⟨l1, h1, rfl⟩ := h
            obtain ⟨xs, e1, e2, e3⟩ := bind_inv h1
            obtain ⟨o, g1, l', g2, g3⟩ := e3 r (merge_sub hr)
            rw [endA_heap g2 _ g3]
            exact ih.code _ _ _ _ _ e1 o g1
    · intro all ops E H l h r hr
      cases ops with
      | nil => simp [opsA] at h; subst h; cases hr with
        | head => exact Kept.refl _
        | tail _ h => cases h
      | cons o rest =>
        simp only [opsA] at h
        split at h
        · cases h
        · exact ih.ops _ _ _ _ _ h r hr
        · obtain ⟨xs, e1, e2, e3⟩ := bind_inv h
          obtain ⟨x, g1, l', g2, g3⟩ := e3 r hr
          cases x with
          | val v G => exact (op_kept e1 v G g1).trans (ih.ops _ _ _ _ _ g2 r g3)
          | call f args =>
            obtain ⟨ys, a1, a2, a3⟩ := bind_inv g2
            obtain ⟨y, b1, l2, b2, b3⟩ := a3 r g3
            exact (ih.call _ _ _ _ a1 y b1).trans (ih.ops _ _ _ _ _ b2 r b3)
    · intro all ops E H E' H' s h
      cases ops with
      | nil => simp [drawA] at h; rw [← h.2.1]; exact Kept.refl _
      | cons o rest =>
        simp only [drawA] at h
        split at h
        · cases h
        · split at h
          · rename_i hd; cases h; exact ih.draw _ _ _ _ _ _ _ hd
          · cases h
        · split at h
          · rename_i v G hv
            split at h
            · rename_i hd; cases h; exact (op_kept hv v G (.head _)).trans (ih.draw _ _ _ _ _ _ _ hd)
            · cases h
          · split at h
            · rename_i r hc
              split at h
              · rename_i hd; cases h; exact (ih.call _ _ _ _ hc r (.head _)).trans (ih.draw _ _ _ _ _ _ _ hd)
              · cases h
            · cases h
          · cases h
    · intro od c E H l h o ho
      have one : ∀ x : Out, l = [x] → Kept H x.H → Kept H o.H := by
        intro x hx hk; subst hx; cases ho with
        | head => exact hk
        | tail _ h => cases h
      cases c <;> simp only [codeA] at h <;> try (cases h; done)
      case skip => cases h; exact one _ rfl (Kept.refl _)
      case exit id => cases h; exact one _ rfl (Kept.refl _)
      case ret => cases h; exact one _ rfl (Kept.refl _)
      case region id ops draw =>
        cases draw with
        | false =>
          simp only at h
          obtain ⟨xs, e1, e2, e3⟩ := bind_inv h
          obtain ⟨x, g1, l', g2, g3⟩ := e3 o ho
          cases g2
          cases g3 with
          | head => exact ih.ops _ _ _ _ _ e1 x g1
          | tail _ h => cases h
        | true =>
          simp only at h
          split at h
          · rename_i hd
            cases hb : oddOk ops.toList _ (oddOf id od) with
            | true => rw [hb, cond_true] at h; cases h; exact one _ rfl (ih.draw _ _ _ _ _ _ _ hd)
            | false => rw [hb, cond_false] at h; cases h
          · cases h
      case seq x y =>
        obtain ⟨xs, e1, e2, e3⟩ := bind_inv h
        obtain ⟨p, g1, l', g2, g3⟩ := e3 o ho
        have k1 := ih.code _ _ _ _ _ e1 p g1
        split at g2
        · exact k1.trans (ih.code _ _ _ _ _ g2 o g3)
        · cases g2; cases g3 with
          | head => exact k1
          | tail _ h => cases h
      case cond x c1 c2 =>
        split at h
        · rename_i t ht
          cases t with
          | true => exact ih.code _ _ _ _ _ h o ho
          | false => exact ih.code _ _ _ _ _ h o ho
        · cases h
      case block id c =>
        obtain ⟨xs, e1, e2, e3⟩ := bind_inv h
        obtain ⟨p, g1, l', g2, g3⟩ := e3 o ho
        have k1 := ih.code _ _ _ _ _ e1 p g1
        split at g2
        · rename_i j hj
          cases hb : Nat.beq j id with
          | true => rw [hb, cond_true] at g2; cases g2; cases g3 with
            | head => exact k1
            | tail _ h => cases h
          | false => rw [hb, cond_false] at g2; cases g2; cases g3 with
            | head => exact k1
            | tail _ h => cases h
        · cases g2; cases g3 with
          | head => exact k1
          | tail _ h => cases h
      case loop c =>
        obtain ⟨xs, e1, e2, e3⟩ := bind_inv h
        obtain ⟨p, g1, l', g2, g3⟩ := e3 o ho
        have k1 := ih.code _ _ _ _ _ e1 p g1
        split at g2
        · exact k1.trans (ih.code _ _ _ _ _ g2 o g3)
        · cases g2; cases g3 with
          | head => exact k1
          | tail _ h => cases h
theorem quiet_kept {C : Ctx} (hp : PrimKept C) {n : Nat} {f : FuncId} {args : List AV} {H : Hp} {l : List (AV × Hp)} (hq : C.quiet f = true) (h : callA C n f args H = some l) : ∀ r ∈ l, Keep2 H r.2 := by
  intro r hr
  cases n with
  | zero => simp [callA] at h
  | succ n =>
    simp only [callA] at h
    split at h
    · rename_i p hpf; exact (hp f p hpf _ _ _ h r hr).2 hq
    · split at h
      · cases h
      · rename_i a ha
        rw [hq, cond_true] at h
        simp only [Option.map_eq_some_iff] at h
        obtain ⟨l1, h1, rfl⟩ := h
        obtain ⟨r1, h2, rfl⟩ := List.mem_map.1 (merge_sub hr)
        obtain ⟨xs, e1, e2, e3⟩ := bind_inv h1
        obtain ⟨o, g1, l', g2, g3⟩ := e3 r1 h2
        refine tidy_keep2 ?_
        rw [endA_heap g2 _ g3]
        exact (kept_all hp n).code _ _ _ _ _ e1 o g1
end Go.Av
/- What is dropped behind a quiet call isn't needed. Conditions: none. -/
namespace Go.Av

section
variable {w w' : World} {ι ι' : Emb} {n : Nat}

theorem MR.und (h' : ∀ i x, i < n → ι' i = some x → ι i = some x) (hl : ∀ i x, ι i = some x → i < n) : ∀ {es : List (AV × AV)} {l l0 : List MapEntry}, MR ι w es l0 → MR ι' w' es l → MR ι w' es l
  | [], _, _, _, h => h
  | (k, v) :: es, _, _, ⟨e0, l0', a1, a2, a3, a4, a5⟩, ⟨e, l', b1, b2, b3, b4, b5⟩ => ⟨e, l', b1, b2, b3, VR.und h' v _ (VR.lt hl v _ a4) b4, MR.und h' hl a5 b5⟩

theorem OR.back (h' : ∀ i x, i < n → ι' i = some x → ι i = some x) (hl : ∀ i x, ι i = some x → i < n) (hs : SubE ι ι') {b s : Nat} : ∀ {o : Obj}, OR ι w b s o → OR ι' w' b s o → OR ι w' b s o
  | .row ro cs, ⟨_, _, _, _, _, _, h⟩, ⟨cur, e, fr, h1, h2, h3, h4⟩ => ⟨cur, e, fr, h1, h2, h3, VRs.und h' cs _ (VRs.lt hl cs _ h) h4⟩
  | .map es clk, ⟨_, _, l0, _, hm, _⟩, ⟨ents, h1, l, h2, h3, h4⟩ => ⟨ents, h1, l, h2, hm.und h' hl h3, h4⟩
  | .iter none since left cur, _, h => h
  | .iter (some m) since left cur, ⟨_, _, _, _, _, _, g2, _⟩, ⟨b', s', ents, clk, seen, h1, h2, h3⟩ => ⟨b', s', ents, clk, seen, h1, h' _ _ (hl _ _ g2) h2, h3⟩

/-- what was there is there still, in the world behind -/
theorem R.back {H G0 Gr : Hp} (r : R ι H w) (hg0 : ∀ i, G0.get i = H.get i) (hn0 : G0.next = H.next) (hp0 : G0.prot = H.next) (r' : R ι' Gr w') (p : Post ι ι' G0 Gr w w') (hk : ∀ i, i < H.next → Gr.get i = H.get i) : R ι H w' ∧ Post ι ι H H w w' := by
  have hl : ∀ i x, ι i = some x → i < H.next := fun i x h => (r.dom i x.1 x.2 h).1
  have h' : ∀ i x, i < H.next → ι' i = some x → ι i = some x := by
    intro i x hi h
    cases h0 : ι i with
    | none => have := (p.fresh i x.1 x.2 h0 h).1; omega
    | some y => have := p.sub _ _ h0; rw [h] at this; exact this.symm
  refine ⟨⟨fun i b s h => ⟨(r.dom i b s h).1, Nat.lt_of_lt_of_le (r.dom i b s h).2 p.keeps.size⟩, r.inj, fun i j b s s' ents clk hi hj hb => r'.injm i j b s s' ents clk (p.sub _ _ hi) (p.sub _ _ hj) hb, fun i b s o hi ho => ?_⟩, ?_⟩
  · exact OR.back h' hl p.sub (r.obj i b s o hi ho) (r'.obj i b s o (p.sub _ _ hi) (by rw [hk i (hl _ _ hi)]; exact ho))
  · exact ⟨SubE.refl _, p.keeps, p.os, p.tape, p.output, Nat.le_refl _, rfl, fun i o _ h => ⟨o, h, rfl⟩, fun i b s h h2 => (by rw [h] at h2; cases h2), fun b hb hf => p.frame b hb (fun j s o h1 h2 => hf j s o h1 (by rw [← hg0]; exact h2)), fun _ _ _ => rfl, fun i b s o _ h2 h3 => p.pf i b s o (by rw [hp0]; exact hl _ _ h2) h2 (by rw [hg0]; exact h3)⟩

/-- a number more, for a row that is there -/
theorem R.addRow {H : Hp} (r : R ι H w) {b s : Nat} {cs : List AV} (hb : b < w.heap.size) (hfree : ∀ x s' o, ι x = some (b, s') → H.get x = some o → False) (ho : OR (ι.add H.next (b, s)) w b s (.row false cs)) :
    R (ι.add H.next (b, s)) (H.new (.row false cs)) w := by
  have hsub := r.sub_add (b, s)
  have hadd : ∀ x y, x ≠ H.next → (ι.add H.next (b, s)) x = some y → ι x = some y := by
    intro x y hx h; simpa [Emb.add, hx] using h
  have hnew : ∀ y, (ι.add H.next (b, s)) H.next = some y → y = (b, s) := by
    intro y h; simp [Emb.add] at h; exact h.symm
  have hg : ∀ x o, (H.new (.row false cs)).get x = some o → x ≠ H.next → H.get x = some o := by
    intro x o h hx; rwa [Hp.get_new, if_neg hx] at h
  refine ⟨?_, ?_, ?_, ?_⟩
  · intro i b1 s1 h
    rw [Hp.next_new]
    by_cases e : i = H.next
    · subst e; cases hnew _ h; exact ⟨Nat.lt_succ_self _, hb⟩
    · have := r.dom i b1 s1 (hadd _ _ e h); exact ⟨by omega, this.2⟩
  · intro i j b1 s1 s2 o1 o2 hne h1 h2 h3 h4
    by_cases e : i = H.next
    · subst e
      have ej : j ≠ H.next := fun e => hne e.symm
      cases hnew _ h1
      exact (hfree j s2 o2 (hadd _ _ ej h2) (hg _ _ h4 ej)).elim
    · by_cases ej : j = H.next
      · subst ej
        cases hnew _ h2
        exact (hfree i s1 o1 (hadd _ _ e h1) (hg _ _ h3 e)).elim
      · exact r.inj i j b1 s1 s2 o1 o2 hne (hadd _ _ e h1) (hadd _ _ ej h2) (hg _ _ h3 e) (hg _ _ h4 ej)
  · intro i j b1 s1 s2 ents clk h1 h2 h3
    obtain ⟨cur, e0, fr, c1, _⟩ := ho
    have key : ∀ x s', x = H.next → (ι.add H.next (b, s)) x = some (b1, s') → False := by
      intro x s' hx h; subst hx; cases hnew _ h; rw [c1] at h3; cases h3
    by_cases e : i = H.next
    · exact (key _ _ e h1).elim
    · by_cases ej : j = H.next
      · exact (key _ _ ej h2).elim
      · exact r.injm i j b1 s1 s2 ents clk (hadd _ _ e h1) (hadd _ _ ej h2) h3
  · intro i b1 s1 o h1 h2
    by_cases e : i = H.next
    · subst e; cases hnew _ h1
      rw [Hp.get_new, if_pos rfl] at h2; cases h2; exact ho
    · exact OR.mono hsub (Keeps.refl _) (fun _ _ _ _ => rfl) rfl (r.obj i b1 s1 o (hadd _ _ e h1) (hg _ _ h2 e))

theorem hasN_iff {i : Nat} : ∀ {l : List Nat}, hasN i l = true ↔ i ∈ l
  | [] => by simp [hasN]
  | j :: js => by simp [hasN, hasN_iff (l := js)]

theorem freshRow_eq {G : Hp} {v : AV} {x : Nat × List AV × Nat × Nat} (h : freshRow n G v = some x) : v = .slc (some (x.1, 0)) x.2.2.1 x.2.2.2 ∧ n ≤ x.1 ∧ G.get x.1 = some (.row false x.2.1) ∧ AV.unds n x.2.1 = true := by
  unfold freshRow at h
  split at h
  · rename_i i len k
    cases hb : Nat.ble n i with
    | false => rw [hb, cond_false] at h; cases h
    | true =>
      rw [hb, cond_true] at h
      split at h
      · rename_i cs hg
        cases hu : AV.unds n cs with
        | false => rw [hu, cond_false] at h; cases h
        | true => rw [hu, cond_true] at h; cases h; exact ⟨rfl, Nat.le_of_ble_eq_true hb, hg, hu⟩
      · cases h
  · cases h

theorem tidyL_ok {H G0 Gr : Hp} (r : R ι H w) (hg0 : ∀ i, G0.get i = H.get i) (hn0 : G0.next = H.next) (r' : R ι' Gr w') (p : Post ι ι' G0 Gr w w') (hk : ∀ i, i < H.next → Gr.get i = H.get i) :
    ∀ {vs : List AV} {met : List Nat} {Hk H' : Hp} {us : List AV} {us' : List Value} {ιk : Emb}, tidyL H.next Gr vs met Hk = some (us, H') → VRs ι' w' vs us' →
      R ιk Hk w' → Post ι ιk H Hk w w' → (∀ i, i < H.next → ιk i = ι i) → (∀ i, i < H.next → Hk.get i = H.get i) →
      (∀ id b s, H.next ≤ id → ιk id = some (b, s) → ∃ j ∈ met, ι' j = some (b, s) ∧ ∃ cs, Gr.get j = some (.row false cs)) →
      ∃ ι'', R ι'' H' w' ∧ Post ι ι'' H H' w w' ∧ VRs ι'' w' us us' ∧ SubE ιk ι''
  | [], met, Hk, H', us, us', ιk, h, hv, rk, pk, hik, hgk, hnk => by
    simp [tidyL] at h; obtain ⟨rfl, rfl⟩ := h
    exact ⟨ιk, rk, pk, hv, SubE.refl _⟩
  | v :: vs, met, Hk, H', us, _, ιk, h, ⟨u, us', e, hv1, hv2⟩, rk, pk, hik, hgk, hnk => by
    subst e
    have h' : ∀ i x, i < H.next → ι' i = some x → ι i = some x := by
      intro i x hi h
      cases h0 : ι i with
      | none => have := (p.fresh i x.1 x.2 h0 h).1; omega
      | some y => have := p.sub _ _ h0; rw [h] at this; exact this.symm
    simp only [tidyL] at h
    cases hu : AV.und H.next v with
    | true =>
      rw [hu, cond_true] at h
      cases ht : tidyL H.next Gr vs met Hk with
      | none => simp [ht] at h
      | some x =>
        obtain ⟨us1, H1⟩ := x
        simp [ht] at h; obtain ⟨rfl, rfl⟩ := h
        obtain ⟨ι'', g1, g2, g3, g4⟩ := tidyL_ok r hg0 hn0 r' p hk ht hv2 rk pk hik hgk hnk
        refine ⟨ι'', g1, g2, ⟨u, us', rfl, ?_, g3⟩, g4⟩
        exact VR.und (fun i x hi h => g2.sub _ _ (h' i x hi h)) v u hu hv1
    | false =>
      rw [hu, cond_false] at h
      cases hf : freshRow H.next Gr v with
      | none => simp [hf] at h
      | some x =>
        obtain ⟨i, cs, len, k⟩ := x
        obtain ⟨rfl, f2, f3, f4⟩ := freshRow_eq hf
        simp only [hf] at h
        cases hm : hasN i met with
        | true => rw [hm, cond_true] at h; cases h
        | false =>
          rw [hm, cond_false] at h
          cases ht : tidyL H.next Gr vs (i :: met) (Hk.new (.row false cs)) with
          | none => simp [ht] at h
          | some x =>
            obtain ⟨us1, H1⟩ := x
            simp [ht] at h; obtain ⟨rfl, rfl⟩ := h
            obtain ⟨b, s, o, cap, e, m, c1, c2⟩ := hv1
            have hob := r'.obj _ _ _ _ c1 f3
            have hnext : H.next ≤ Hk.next := pk.next
            have hfree : ∀ x s' o, ιk x = some (b, s') → Hk.get x = some o → False := by
              intro x s' o hx ho
              by_cases hxn : x < H.next
              · rw [hik x hxn] at hx
                have := r'.inj x i b s' s o _ (by simp only at f2; omega) (p.sub _ _ hx) c1 (by rw [hk x hxn, ← hgk x hxn]; exact ho) f3
                exact absurd this.2 (by simp [Obj.isRo])
              · obtain ⟨j, j1, j2, cs', j3⟩ := hnk x b s' (by omega) hx
                have hji : j ≠ i := fun e => by subst e; rw [hasN_iff.2 j1] at hm; cases hm
                have := r'.inj j i b s' s _ _ hji j2 c1 j3 f3
                exact absurd this.2 (by simp [Obj.isRo])
            have hnn : ∀ i x, i < H.next → ι' i = some x → (ιk.add Hk.next (b, s)) i = some x := by
              intro i x hi h
              have := rk.sub_add (b, s) i x (by rw [hik i hi]; exact h' i x hi h)
              exact this
            have ho : OR (ιk.add Hk.next (b, s)) w' b s (.row false cs) := by
              obtain ⟨cur, e', fr, d1, d2, d3, d4⟩ := hob
              exact ⟨cur, e', fr, d1, d2, d3, VRs.und hnn cs _ f4 d4⟩
            have hbl : b < w'.heap.size := (r'.dom _ _ _ c1).2
            have rk2 := rk.addRow hbl hfree ho
            have hi0 : ι i = none := r.new_none f2
            have hfr := p.fresh i b s hi0 c1
            have pk2 : Post ι (ιk.add Hk.next (b, s)) H (Hk.new (.row false cs)) w w' := by
              refine ⟨pk.sub.trans (rk.sub_add _), pk.keeps, pk.os, pk.tape, pk.output, by rw [Hp.next_new]; omega, pk.prot, ?_, ?_, pk.frame, fun i h1 h2 => by rw [Hp.get_new, if_neg (by omega)]; exact pk.kp i h1 h2, pk.pf⟩
              · intro x o' hx hg
                rw [Hp.get_new, if_neg (by omega)] at hg
                exact pk.old x o' hx hg
              · intro x b1 s1 h0 h1
                by_cases e : x = Hk.next
                · subst e; simp [Emb.add] at h1; obtain ⟨rfl, rfl⟩ := h1
                  refine ⟨hnext, ?_⟩
                  rcases hfr.2 with h | ⟨j, s', o, q1, q2, q3⟩
                  · exact .inl h
                  · exact .inr ⟨j, s', o, q1, by rw [← hg0]; exact q2, q3⟩
                · simp [Emb.add, e] at h1
                  exact pk.fresh x b1 s1 h0 h1
            obtain ⟨ι'', g1, g2, g3, g4⟩ := tidyL_ok r hg0 hn0 r' p hk ht hv2 rk2 pk2
              (fun i hi => by simp only [Emb.add]; rw [if_neg (by omega)]; exact hik i hi)
              (fun i hi => by rw [Hp.get_new, if_neg (by omega)]; exact hgk i hi)
              (fun id b1 s1 hid h1 => by
                by_cases e : id = Hk.next
                · subst e; simp [Emb.add] at h1; obtain ⟨rfl, rfl⟩ := h1
                  exact ⟨i, .head _, c1, cs, f3⟩
                · simp [Emb.add, e] at h1
                  obtain ⟨j, j1, j2⟩ := hnk id b1 s1 hid h1
                  exact ⟨j, .tail _ j1, j2⟩)
            refine ⟨ι'', g1, g2, ⟨u, us', rfl, ⟨b, s, o, cap, e, m, g4 _ _ (Emb.add_same ..), c2⟩, g3⟩, (rk.sub_add _).trans g4⟩
/-- a quiet call, tidied -/
theorem tidy_ok {H Gr : Hp} {v : AV} {u : Value} (r : R ι H w) (r' : R ι' Gr w') (p : Post ι ι' ⟨H.h, H.next, H.next⟩ Gr w w') (hk : Kept ⟨H.h, H.next, H.next⟩ Gr) (hv : VR ι' w' v u) :
    ∃ ι'', R ι'' (tidy H (v, Gr)).2 w' ∧ Post ι ι'' H (tidy H (v, Gr)).2 w w' ∧ VR ι'' w' (tidy H (v, Gr)).1 u := by
  unfold tidy
  split
  · rename_i us H' ht
    have hk' : ∀ i, i < H.next → Gr.get i = H.get i := fun i hi => hk.2.2 i hi hi
    obtain ⟨q1, q2⟩ := r.back (G0 := ⟨H.h, H.next, H.next⟩) (fun _ => rfl) rfl rfl r' p hk'
    have hl : ∃ us', VRs ι' w' (listOf v) us' ∧ ∀ ι'' us2, VRs ι'' w' us2 us' → us2.length = (listOf v).length → VR ι'' w' (likeOf v us2) u := by
      cases v with
      | tup vs =>
        obtain ⟨us', rfl, h⟩ := hv
        exact ⟨us', h, fun ι'' us2 h2 _ => ⟨us', rfl, h2⟩⟩
      | _ =>
        refine ⟨[u], ⟨u, [], rfl, hv, rfl⟩, fun ι'' us2 h2 hlen => ?_⟩
        cases us2 with
        | nil => simp [listOf] at hlen
        | cons a as =>
          obtain ⟨x, xs, e, h3, _⟩ := h2
          cases e
          exact h3
    obtain ⟨us', hl1, hl2⟩ := hl
    obtain ⟨ι'', g1, g2, g3, _⟩ := tidyL_ok r (G0 := ⟨H.h, H.next, H.next⟩) (fun _ => rfl) rfl r' p hk' ht hl1 q1 q2 (fun _ _ => rfl) (fun _ _ => rfl) (fun id b s hid h => by have := (r.dom id b s h).1; omega)
    exact ⟨ι'', g1, g2, hl2 ι'' us g3 (by rw [← g3.length, hl1.length])⟩
  · exact ⟨ι', ⟨r'.dom, r'.inj, r'.injm, r'.obj⟩, ⟨p.sub, p.keeps, p.os, p.tape, p.output, p.next, rfl, p.old, p.fresh, p.frame, fun i _ h => p.kp i h h, fun i b s o _ h2 h3 => p.pf i b s o (r.dom i b s h2).1 h2 h3⟩, hv⟩
end
end Go.Av
/- What calls and operations in order do, held against the evaluator's. Conditions: the tables of types and functions say what the program's do. -/
namespace Go.Av

/-- a call comes to what K says -/
def Does (P : Program) (f : FuncId) (args : Array Value) (w : World) (K : Value → World → Prop) : Prop :=
  (∃ u w', (callFunc f args).run P w = .ok (.value u) w' ∧ K u w') ∨
  ((callFunc f args).run P w = .ok (.enter f args) w ∧ Calls P f args w fun e w' => match e with
    | .returned u => K u w'
    | _ => False)
theorem Does.mono {P : Program} {f : FuncId} {args : Array Value} {w : World} {K K' : Value → World → Prop} (h : Does P f args w K) (hk : ∀ u w', K u w' → K' u w') : Does P f args w K' := by
  rcases h with ⟨u, w', h1, h2⟩ | ⟨h1, h2⟩
  · exact .inl ⟨u, w', h1, hk _ _ h2⟩
  · refine .inr ⟨h1, h2.mono fun e w' h => ?_⟩
    cases e with
    | returned u => exact hk _ _ h
    | panicked c => exact h.elim
    | outgrown => exact h.elim

/-- all that was there is as it was -/
def Same (w w' : World) : Prop := ∀ b, b < w.heap.size → w'.heap[b]? = w.heap[b]?
/-- outcomes of a call, held against the machine's; G: where package-level variables lie -/
def CallOK (P : Program) (C : Ctx) (G : Emb) (f : FuncId) (args : List AV) (H : Hp) (l : List (AV × Hp)) : Prop :=
  ∀ (ι : Emb) (w : World) (vs : List Value), SubE G ι → R ι H w → VRs ι w args vs →
    Does P f ⟨vs⟩ w fun u w' => ∃ r ∈ l, ∃ ι', R ι' r.2 w' ∧ Post ι ι' H r.2 w w' ∧ VR ι' w' r.1 u ∧ (C.quiet f = true → Same w w')

def PrimOK (P : Program) (C : Ctx) (G : Emb) : Prop := ∀ f p, C.prim f = some p → ∀ args H l, p args H = some l → CallOK P C G f args H l

section
variable {P : Program} {C : Ctx} {G : Emb} {w : World} {ι : Emb} {H : Hp} {E : T AV} {a : Act}

theorem wanted_ok (he : RE ι w E a.tmps) {ops : Array Oper} {o : Oper} {b : Bool} (h : wantedA ops.toList E o = some b) : Region.wanted o (yielded ops a.tmps) = b := by
  unfold wantedA at h
  unfold Region.wanted
  cases hg : o.guard with
  | none => simp [hg] at h; subst h; rfl
  | some gw =>
    obtain ⟨j, want⟩ := gw
    simp only [hg, Option.bind_eq_bind, Option.bind_eq_some_iff] at h
    obtain ⟨oj, h1, d, h2, h3⟩ := h
    rw [nth_eq] at h1
    have h1' : ops[j]? = some oj := by simpa using h1
    have hv := he d
    unfold yielded
    simp only [h1', Option.bind_some, h2]
    rw [Array.getD_eq_getD_getElem?] at hv
    cases ht : a.tmps[d]? with
    | none =>
      rw [ht] at hv
      simp at hv
      split at h3
      · rename_i b' hb'; rw [hb'] at hv; simp [VR, undef] at hv
      · cases h3; rfl
    | some v =>
      rw [ht] at hv
      simp at hv
      split at h3
      · rename_i b' hb'
        rw [hb'] at hv
        cases hv
        cases h3
        rfl
      · rename_i hnb
        cases h3
        cases v <;> try rfl
        rename_i b'
        exfalso
        generalize hx : (E.get d).getD undefA = x at hv hnb
        cases x with
        | bool b2 => exact hnb b2 rfl
        | int _ _ => cases hv
        | str _ => cases hv
        | ptr p => cases p with
          | none => cases hv
          | some p => obtain ⟨_, _, _, h⟩ := hv; cases h
        | slc p _ _ => cases p with
          | none => cases hv.2
          | some p => obtain ⟨_, _, _, _, _, _, _, _, _, _, _, _, h⟩ := hv; cases h
        | map p => cases p with
          | none => cases hv
          | some p => obtain ⟨_, _, _, h⟩ := hv; cases h
        | fn _ _ => obtain ⟨_, h, _⟩ := hv; cases h
        | nilfn => cases hv
        | niliface => cases hv
        | agg _ => obtain ⟨_, h, _⟩ := hv; cases h
        | tup _ => obtain ⟨_, h, _⟩ := hv; cases h

/-- an operation of the machine's, from the evaluator's -/
theorem wp_oper (hC : CtxOK P C) (hg : SubE G ι) (r : R ι H w) (he : RE ι w E a.tmps) (o : Oper) {l : List Nx} (h : opA C E H o.op = some l) {K : Act → World → Prop} {Q : Exit → Act → World → Prop}
    (hval : ∀ v H', Nx.val v H' ∈ l → ∀ ι' w' u, R ι' H' w' → Post ι ι' H H' w w' → VR ι' w' v u → K (a.put o.dst u) w')
    (hcall : ∀ f args, Nx.call f args ∈ l → ∃ l2, CallOK P C G f args H l2 ∧ ∀ r ∈ l2, ∀ ι' w' u, R ι' r.2 w' → Post ι ι' H r.2 w w' → VR ι' w' r.1 u → K (a.put o.dst u) w') : o.wp P a w K Q := by
  obtain ⟨nx, h1, h2⟩ := op_ok (P := P) hC r he o h
  unfold Oper.wp
  cases nx with
  | val v H' =>
    obtain ⟨n, u, w', ι', g1, g2, g3, g4, g5⟩ := h2
    rw [g1]
    have := hval v H' h1 ι' w' u g3 g4 g5
    rcases g2 with rfl | ⟨rfl, rfl⟩
    · exact this
    · exact this
  | call f args =>
    obtain ⟨vs, g1, g2⟩ := h2
    obtain ⟨l2, c1, c2⟩ := hcall f args h1
    rw [g1]
    rcases c1 ι w vs hg r g2 with ⟨u, w', d1, x, x1, ι', x2, x3, x4, _⟩ | ⟨d1, d2⟩
    · rw [d1]; exact c2 x x1 ι' w' u x2 x3 x4
    · rw [d1]
      refine Calls.mono d2 fun e w' h => ?_
      cases e with
      | returned u => obtain ⟨x, x1, ι', x2, x3, x4, _⟩ := h; exact c2 x x1 ι' w' u x2 x3 x4
      | panicked c => exact h.elim
      | outgrown => exact h.elim

/-- what the code of a function must be like: its slots are there -/
def dstOk (nt : Nat) (o : Oper) : Bool := match o.dst with
  | some d => Nat.blt d nt
  | none => true
theorem dst_lt {nt : Nat} {o : Oper} (h : dstOk nt o = true) : ∀ t, o.dst = some t → t < nt := by
  intro t ht; simpa [dstOk, ht, Nat.blt_eq] using h
theorem put_size (a : Act) (d : Option Tmp) (v : Value) : (a.put d v).tmps.size = a.tmps.size := by cases d <;> simp [Act.put]
theorem put_defers' (a : Act) (d : Option Tmp) (v : Value) : (a.put d v).defers = a.defers := by cases d <;> simp [Act.put]

/-- operations in order -/
theorem ops_ok (hC : CtxOK P C) {ops : Array Oper} {Q : Exit → Act → World → Prop} {nt : Nat} (hdst : ∀ o ∈ ops.toList, dstOk nt o = true) :
    ∀ (n : Nat) (hcalls : ∀ m, m < n → ∀ f args H l, callA C m f args H = some l → CallOK P C G f args H l) (k m : Nat) {E : T AV} {H : Hp} {l : List (T AV × Hp)} {ι : Emb} {w : World} {a : Act},
      opsA C n ops.toList (ops.toList.drop k) E H = some l → k + m = ops.size → SubE G ι → R ι H w → RE ι w E a.tmps → nt ≤ a.tmps.size → a.defers = [] →
      (∀ x ∈ l, ∀ ι' w' a', R ι' x.2 w' → Post ι ι' H x.2 w w' → RE ι' w' x.1 a'.tmps → nt ≤ a'.tmps.size → a'.defers = [] → Q .normal a' w') →
      wpOps P ops Q (List.range' k m) a w
  | 0, _, _, _, _, _, _, _, _, _, h, _, _, _, _, _, _, _ => by simp [opsA] at h
  | n + 1, hcalls, k, m, E, H, l, ι, w, a, h, hk, hg, r, he, hsz, hdf, hQ => by
    cases m with
    | zero =>
      rw [List.drop_of_length_le (by simp; omega)] at h
      simp [opsA] at h; subst h
      exact hQ _ (.head _) ι w a r (Post.refl ..) he hsz hdf
    | succ m =>
      have hlt : k < ops.toList.length := by simp; omega
      rw [List.drop_eq_getElem_cons hlt] at h
      have ho : ops[k]? = some ops.toList[k] := by rw [← Array.getElem?_toList]; exact List.getElem?_eq_getElem hlt
      have hom : ops.toList[k] ∈ ops.toList := List.getElem_mem hlt
      generalize ops.toList[k] = o at h ho hom
      have hd := dst_lt (hdst o hom)
      rw [List.range'_succ]
      simp only [wpOps, ho]
      simp only [opsA] at h
      have step : ∀ {E' : T AV} {G : Hp} {l' : List (T AV × Hp)}, opsA C n ops.toList (ops.toList.drop (k + 1)) E' G = some l' → (∀ y ∈ l', y ∈ l) →
          ∀ ι' w' a', R ι' G w' → Post ι ι' H G w w' → RE ι' w' E' a'.tmps → nt ≤ a'.tmps.size → a'.defers = [] → wpOps P ops Q (List.range' (k + 1) m) a' w' := by
        intro E' G l' h1 hsub ι' w' a' r1 p1 he1 hs1 hd1
        refine ops_ok hC hdst n (fun j hj => hcalls j (by omega)) (k + 1) m h1 (by omega) (hg.trans p1.sub) r1 he1 hs1 hd1 ?_
        intro x hx ι2 w2 a2 r2 p2 he2 hs2 hd2
        exact hQ x (hsub x hx) ι2 w2 a2 r2 (p1.trans (fun i b s h => (r.dom i b s h).1) p2) he2 hs2 hd2
      cases hw : wantedA ops.toList E o with
      | none => simp [hw] at h
      | some b =>
        rw [wanted_ok he hw]
        simp only [hw] at h
        cases b with
        | false =>
          simp only [Bool.false_eq_true, if_false]
          refine step h (fun _ h => h) ι w _ r (Post.refl ..) (he.put (v := undef) (x := undefA) ⟨[], rfl, rfl⟩ (fun t ht => Nat.lt_of_lt_of_le (hd t ht) hsz)) (by rw [put_size]; exact hsz) (by rw [put_defers']; exact hdf)
        | true =>
          simp only [if_true]
          left
          simp only at h
          obtain ⟨xs, e1, e2, e3⟩ := bind_inv h
          refine wp_oper hC hg r he o e1 ?_ ?_
          · intro v H' hm ι' w' u r1 p1 hv
            obtain ⟨l', g1, g2⟩ := e2 _ hm
            exact step g1 g2 ι' w' _ r1 p1 ((he.mono p1.sub p1.keeps).put hv (fun t ht => Nat.lt_of_lt_of_le (hd t ht) hsz)) (by rw [put_size]; exact hsz) (by rw [put_defers']; exact hdf)
          · intro f args hm
            obtain ⟨l', g1, g2⟩ := e2 _ hm
            obtain ⟨ys, a1, a2, a3⟩ := bind_inv g1
            refine ⟨ys, hcalls n (Nat.lt_succ_self _) f args H ys a1, ?_⟩
            intro x hx ι' w' u r1 p1 hv
            obtain ⟨l2, b1, b2⟩ := a2 x hx
            exact step b1 (fun y hy => g2 y (b2 y hy)) ι' w' _ r1 p1 ((he.mono p1.sub p1.keeps).put hv (fun t ht => Nat.lt_of_lt_of_le (hd t ht) hsz)) (by rw [put_size]; exact hsz) (by rw [put_defers']; exact hdf)
end
end Go.Av
/- What code and functions do, held against the evaluator's. Conditions: the tables of types and functions say what the program's do; regions of open order are sound. -/
namespace Go.Av

def exM : Exit → Ex → Prop
  | .normal, .norm => True
  | .exit i, .exit j => i = j
  | .ret, .ret => True
  | _, _ => False

/-- what code must be like -/
def codeOk (dok : Array Oper → List (Nat × Nat) → Bool) (nt : Nat) (od : List (Nat × List (Nat × Nat))) : Code → Bool
  | .region id ops draw => ops.toList.all (dstOk nt) && (!draw || dok ops (oddOf id od))
  | .seq a b => codeOk dok nt od a && codeOk dok nt od b
  | .cond _ a b => codeOk dok nt od a && codeOk dok nt od b
  | .block _ c => codeOk dok nt od c
  | .loop c => codeOk dok nt od c
  | _ => true

structure FnOK (P : Program) (dok : Array Oper → List (Nat × Nat) → Bool) (f : FuncId) (a : AFn) : Prop where
  fn : ∃ fn, P.funcs[f]? = some fn ∧ (fn.name == "runtime.NumGoroutine") = false ∧ fn.body = some a.code ∧ fn.results.toList = a.results ∧ codeOk dok fn.ntmps a.odd a.code = true

/-- regions of open order are sound, if calls of less fuel are -/
def DrawOK (P : Program) (C : Ctx) (G : Emb) (dok : Array Oper → List (Nat × Nat) → Bool) : Prop :=
  ∀ (n : Nat), (∀ m, m < n → ∀ f args H l, callA C m f args H = some l → CallOK P C G f args H l) →
    ∀ (id nt : Nat) (ops : Array Oper) (odd : List (Nat × Nat)) (E E' : T AV) (H H' : Hp) (snap : List (T AV × Hp × Hp)) (ι : Emb) (w : World) (a : Act) (Q : Exit → Act → World → Prop),
      dok ops odd = true → (∀ o ∈ ops.toList, dstOk nt o = true) → drawA C n ops.toList ops.toList E H = some (E', H', snap) → oddOk ops.toList snap odd = true →
      SubE G ι → R ι H w → RE ι w E a.tmps → nt ≤ a.tmps.size → a.defers = [] →
      (∀ ι' w' a', R ι' H' w' → Post ι ι' H H' w w' → RE ι' w' E' a'.tmps → nt ≤ a'.tmps.size → a'.defers = [] → Q .normal a' w') → (Code.region id ops true).wp P Q a w

structure Good (P : Program) (C : Ctx) (G : Emb) (dok : Array Oper → List (Nat × Nat) → Bool) : Prop where
  ctx : CtxOK P C
  prim : PrimOK P C G
  keeps : PrimKept C
  fn : ∀ f a, C.fn f = some a → FnOK P dok f a
  draw : DrawOK P C G dok

section
variable {P : Program} {C : Ctx} {G : Emb} {dok : Array Oper → List (Nat × Nat) → Bool} {w : World} {ι : Emb} {H : Hp} {E : T AV} {a : Act}

def SoundC (P : Program) (C : Ctx) (G : Emb) (dok : Array Oper → List (Nat × Nat) → Bool) (n : Nat) : Prop :=
  ∀ (od : List (Nat × List (Nat × Nat))) (nt : Nat) (c : Code) (E : T AV) (H : Hp) (l : List Out), codeA C n od c E H = some l → codeOk dok nt od c = true →
    ∀ (Q : Exit → Act → World → Prop) (ι : Emb) (w : World) (a : Act), SubE G ι → R ι H w → RE ι w E a.tmps → nt ≤ a.tmps.size → a.defers = [] →
      (∀ o ∈ l, ∀ e ι' w' a', exM e o.ex → R ι' o.H w' → Post ι ι' H o.H w w' → RE ι' w' o.E a'.tmps → nt ≤ a'.tmps.size → a'.defers = [] → Q e a' w') → c.wp P Q a w
def SoundF (P : Program) (C : Ctx) (G : Emb) (n : Nat) : Prop := ∀ f args H l, callA C n f args H = some l → CallOK P C G f args H l

theorem envOf_get : ∀ (vs : List AV) (i t : Nat), (envOf vs i).get t = if i ≤ t then vs[t - i]? else none
  | [], i, t => by simp [envOf, T.get_nil]
  | v :: vs, i, t => by
    rw [envOf, T.get_set, envOf_get vs (i + 1) t]
    by_cases e : t = i
    · subst e; simp
    · rw [if_neg e]
      by_cases h : i ≤ t
      · rw [if_pos (by omega), if_pos h, show t - i = (t - (i + 1)) + 1 by omega]; simp
      · rw [if_neg (by omega), if_neg h]
theorem entry_RE {args : List AV} {vs : List Value} (h : VRs ι w args vs) (k : Nat) : RE ι w (envOf args 0) ((⟨vs⟩ : Array Value) ++ Array.replicate k undef) := by
  intro t
  rw [envOf_get, if_pos (Nat.zero_le _), Nat.sub_zero]
  have hl := h.length
  by_cases ht : t < args.length
  · obtain ⟨v, h1, h2⟩ := h.nth (List.getElem?_eq_getElem ht)
    have : ((⟨vs⟩ : Array Value) ++ Array.replicate k undef).getD t undef = v := by
      rw [Array.getD_eq_getD_getElem?, Array.getElem?_append_left (by simpa using by omega)]
      have : (⟨vs⟩ : Array Value)[t]? = some v := by simpa using h1
      rw [this]; rfl
    rw [this, List.getElem?_eq_getElem ht]; exact h2
  · rw [List.getElem?_eq_none (by omega)]
    have : ((⟨vs⟩ : Array Value) ++ Array.replicate k undef).getD t undef = undef := by
      rw [Array.getD_eq_getD_getElem?, Array.getElem?_append_right (by simpa using by omega)]
      rw [Array.getElem?_replicate]
      split <;> rfl
    rw [this]; exact ⟨[], rfl, rfl⟩

def resOf (tmps : Array Value) : ResultVar → Sem Value
  | .tmp t => pure (tmps.getD t undef)
  | .cell c t => do loadVar t (← asAddr (tmps.getD c undef))
theorem results_eq (fn : Func) (tmps : Array Value) : results fn tmps = (do
    let vs ← fn.results.mapM (resOf tmps)
    pure (if h : vs.size = 1 then vs[0] else .tuple vs) : Sem Value) := by
  unfold results
  have : ∀ f g : ResultVar → Sem Value, (∀ x, f x = g x) → (do
    let vs ← fn.results.mapM f
    pure (if h : vs.size = 1 then vs[0] else .tuple vs) : Sem Value) = (do
    let vs ← fn.results.mapM g
    pure (if h : vs.size = 1 then vs[0] else .tuple vs) : Sem Value) := by
    intro f g h; rw [funext h]
  exact this _ _ (fun x => by cases x <;> rfl)
theorem resOf_cell (tmps : Array Value) (c t : Nat) : resOf tmps (.cell c t) = (do loadVar t (← asAddr (tmps.getD c undef)) : Sem Value) := rfl
theorem results_ok (hC : CtxOK P C) (r : R ι H w) (he : RE ι w E a.tmps) : ∀ {rs : List ResultVar} {vs : List AV}, resultsA C E H rs = some vs →
    ∃ us, (rs.mapM (resOf a.tmps)).run P w = .ok us w ∧ VRs ι w vs us
  | [], vs, h => by simp [resultsA] at h; subst h; exact ⟨[], by simp, rfl⟩
  | .tmp t :: rs, vs, h => by
    simp only [resultsA, Option.bind_eq_bind, Option.bind_eq_some_iff] at h
    obtain ⟨vs', h1, h⟩ := h
    cases h
    obtain ⟨us, g1, g2⟩ := results_ok hC r he h1
    exact ⟨_ :: us, by simp only [List.mapM_cons, resOf, Sem.run_bind, Sem.run_pure, Result.andThen_ok, g1], _, _, rfl, he t, g2⟩
  | .cell c t :: rs, vs, h => by
    simp only [resultsA, Option.bind_eq_bind, Option.bind_eq_some_iff] at h
    obtain ⟨v, h0, vs', h1, h⟩ := h
    cases h
    obtain ⟨us, g1, g2⟩ := results_ok hC r he h1
    have hc := he c
    obtain ⟨u, k1, k2⟩ := load_ok (P := P) hC r h0 hc
    have : (do loadVar t (← asAddr (a.tmps.getD c undef)) : Sem Value).run P w = .ok u w := by
      have h0' := h0
      simp only [loadA, Option.bind_eq_bind, Option.bind_eq_some_iff] at h0'
      obtain ⟨⟨id, off⟩, ha, _⟩ := h0'
      rw [asPtr_eq ha] at hc
      obtain ⟨b, s, _, hv⟩ := hc
      rw [hv] at k1 ⊢
      rw [← k1]
      simp [Instr.loadAt, Instr.sureAddr, asAddr]
    exact ⟨u :: us, by simp only [List.mapM_cons, Sem.run_bind, resOf_cell, this, Sem.run_pure, Result.andThen_ok, g1], _, _, rfl, k2, g2⟩

theorem call_sound (hG : Good P C G dok) {n : Nat} (hc : SoundC P C G dok n) : SoundF P C G (n + 1) := by
  intro f args H l h ι w vs hg0 r hv
  simp only [callA] at h
  split at h
  · rename_i p hp
    exact hG.prim f p hp args H l h ι w vs hg0 r hv
  · split at h
    · cases h
    · rename_i a ha
      obtain ⟨fn, f1, f2, f3, f4, f5⟩ := (hG.fn f a ha).fn
      have henter : (callFunc f ⟨vs⟩).run P w = .ok (.enter f ⟨vs⟩) w := by
        have f2' : fn.name ≠ "runtime.NumGoroutine" := by simpa using f2
        simp [callFunc, f1, f2', f3]
      refine .inr ⟨henter, ?_⟩
      have body : ∀ (H0 : Hp) (l1 : List (AV × Hp)), H0.get = H.get → H0.next = H.next → M.bind (codeA C n a.odd a.code (envOf args 0) H0) (endA C a.results) = some l1 →
          (∀ v G, (v, G) ∈ l1 → ∀ ι' w' u, R ι' G w' → Post ι ι' H0 G w w' → VR ι' w' v u → Kept H0 G → ∃ r ∈ l, ∃ ι'', R ι'' r.2 w' ∧ Post ι ι'' H r.2 w w' ∧ VR ι'' w' r.1 u ∧ (C.quiet f = true → Same w w')) →
          Calls P f ⟨vs⟩ w (fun e w' => match e with | .returned u => ∃ r ∈ l, ∃ ι', R ι' r.2 w' ∧ Post ι ι' H r.2 w w' ∧ VR ι' w' r.1 u ∧ (C.quiet f = true → Same w w') | _ => False) := by
        intro H0 l1 hg hn hb hfin
        obtain ⟨xs, e1, e2, e3⟩ := bind_inv hb
        have r0 : R ι H0 w := ⟨fun i b s h => by rw [hn]; exact r.dom i b s h, fun i j b s s' o o' hne h1 h2 h3 h4 => r.inj i j b s s' o o' hne h1 h2 (by rw [← hg]; exact h3) (by rw [← hg]; exact h4), r.injm, fun i b s o h1 h2 => r.obj i b s o h1 (by rw [← hg]; exact h2)⟩
        refine calls_of_wp f1 f3 ?_
        refine hc a.odd fn.ntmps a.code (envOf args 0) H0 xs e1 f5 _ ι w _ hg0 r0 (entry_RE hv _) (by simp; omega) rfl ?_
        intro o ho e ι' w' a' hex r1 p1 he1 hs1 hd1
        obtain ⟨l', g1, g2⟩ := e2 o ho
        have hend : ∃ us, resultsA C o.E o.H a.results = some us ∧ l' = [(packA us, o.H)] ∧ (e = .normal ∨ e = .ret) := by
          unfold endA at g1
          cases hoe : o.ex with
          | exit i => simp [hoe] at g1
          | norm =>
            simp only [hoe] at g1 hex
            cases hr : resultsA C o.E o.H a.results with
            | none => simp [hr] at g1
            | some us => simp [hr] at g1; exact ⟨us, rfl, g1.symm, by cases e <;> simp [exM] at hex; exact .inl rfl⟩
          | ret =>
            simp only [hoe] at g1 hex
            cases hr : resultsA C o.E o.H a.results with
            | none => simp [hr] at g1
            | some us => simp [hr] at g1; exact ⟨us, rfl, g1.symm, by cases e <;> simp [exM] at hex; exact .inr rfl⟩
        obtain ⟨us, hr1, hr2, hr3⟩ := hend
        obtain ⟨uv, k1, k2⟩ := results_ok (P := P) hG.ctx r1 he1 hr1
        have hres : ∃ u, (results fn a'.tmps).run P w' = .ok u w' ∧ VR ι' w' (packA us) u := by
          have hr : (fn.results.mapM (resOf a'.tmps)).run P w' = .ok uv.toArray w' := by
            rw [Array.mapM_eq_mapM_toList, f4]; simp [k1]
          have hlen := k2.length
          cases us with
          | nil =>
            simp only [VRs] at k2; subst k2
            refine ⟨.tuple #[], ?_, [], rfl, rfl⟩
            rw [results_eq]; simp [hr]
          | cons v vs1 =>
            obtain ⟨u, us1, rfl, k3, k4⟩ := k2
            cases vs1 with
            | nil =>
              simp only [VRs] at k4; subst k4
              refine ⟨u, ?_, k3⟩
              rw [results_eq]; simp [hr]
            | cons v2 vs2 =>
              obtain ⟨u2, us2, rfl, k5, k6⟩ := k4
              refine ⟨.tuple ⟨u :: u2 :: us2⟩, ?_, _, rfl, _, _, rfl, k3, _, _, rfl, k5, k6⟩
              rw [results_eq]; simp [hr]
        obtain ⟨u, m1, m2⟩ := hres
        have hm : (packA us, o.H) ∈ l1 := g2 _ (by rw [hr2]; exact .head _)
        have := hfin _ _ hm ι' w' u r1 p1 m2 ((kept_all hG.keeps n).code _ _ _ _ _ e1 o ho)
        rcases hr3 with rfl | rfl
        · exact ⟨hd1, u, m1, this⟩
        · exact ⟨hd1, u, m1, this⟩
      rcases Bool.eq_false_or_eq_true (C.quiet f) with hq | hq
      · rw [hq, cond_true] at h
        simp only [Option.map_eq_some_iff] at h
        obtain ⟨l1, h1, rfl⟩ := h
        refine body ⟨H.h, H.next, H.next⟩ l1 rfl rfl h1 ?_
        intro v G hm ι' w' u r1 p1 hv1 hk
        obtain ⟨ι'', g1, g2, g3⟩ := tidy_ok r r1 p1 hk hv1
        exact ⟨_, merge_mem (List.mem_map.2 ⟨_, hm, rfl⟩), ι'', g1, g2, g3, fun _ b hb => (by
          by_cases hx : ∃ j s o, ι j = some (b, s) ∧ H.get j = some o
          · obtain ⟨j, s, o, x1, x2⟩ := hx
            exact p1.pf j b s o (r.dom j b s x1).1 x1 x2
          · exact p1.frame b hb (fun j s o x1 x2 => absurd ⟨j, s, o, x1, x2⟩ hx))⟩
      · rw [hq, cond_false] at h
        simp only [Option.map_eq_some_iff] at h
        obtain ⟨l1, h1, rfl⟩ := h
        refine body H l1 rfl rfl h1 ?_
        intro v G hm ι' w' u r1 p1 hv1 hk
        exact ⟨_, merge_mem hm, ι', r1, p1, hv1, fun h => (by rw [hq] at h; cases h)⟩
end
end Go.Av
/- What code and functions do, held against the evaluator's: all of it. Conditions: the tables of types and functions say what the program's do; regions of open order are sound. -/
namespace Go.Av

section
variable {P : Program} {C : Ctx} {G : Emb} {dok : Array Oper → List (Nat × Nat) → Bool}

/-- a loop, of whose rounds each leads to one of less fuel, or out -/
theorem wp_loop_n {c : Code} {Q : Exit → Act → World → Prop} (Φ : Nat → Act → World → Prop) (round : ∀ n a w, Φ n a w → ∃ m, m < n ∧ c.wp P (Exit.then (Φ m) Q) a w) {n : Nat} {a : Act} {w : World} (h : Φ n a w) : (Code.loop c).wp P Q a w := by
  intro b k cs
  have key : ∀ n a w, Φ n a w → ∃ e a' w', Q e a' w' ∧ Arrives P (lone (b.at a (.code c :: .inLoop c :: k)) cs w) b k cs e a' w' := by
    intro n
    induction n using Nat.strongRecOn with
    | _ n ih =>
      intro a w hI
      obtain ⟨m, hm, hr⟩ := round n a w hI
      obtain ⟨e, a₁, w₁, hq, harr⟩ := hr b (.inLoop c :: k) cs
      cases e with
      | normal =>
        obtain ⟨e₂, a₂, w₂, hq₂, harr₂⟩ := ih m hm a₁ w₁ hq
        exact ⟨e₂, a₂, w₂, hq₂, .of_steps (Steps.trans harr (.one step_inLoop)) harr₂⟩
      | exit id => exact ⟨_, a₁, w₁, hq, .pass (x := .inLoop c) rfl (fun _ _ => .inl (by simp)) harr⟩
      | goto l => exact ⟨_, a₁, w₁, hq, .pass (x := .inLoop c) rfl (fun _ _ => .inl (by simp)) harr⟩
      | ret => exact ⟨_, a₁, w₁, hq, .pass (x := .inLoop c) rfl (fun _ _ => .inl (by simp)) harr⟩
      | panic ch => exact ⟨_, a₁, w₁, hq, .pass (x := .inLoop c) rfl (fun _ _ => .inl (by simp)) harr⟩
      | outgrown => exact ⟨_, a₁, w₁, hq, .pass (x := .inLoop c) rfl (fun _ _ => .inl (by simp)) harr⟩
  obtain ⟨e, a', w', hq, harr⟩ := key _ a w h
  exact ⟨e, a', w', hq, .of_steps (.one step_loop) harr⟩

theorem code_sound (hG : Good P C G dok) {n : Nat} (hc : ∀ m, m ≤ n → SoundC P C G dok m) (hf : ∀ m, m ≤ n → SoundF P C G m) : SoundC P C G dok (n + 1) := by
  intro od nt c E H l h hok Q ι w a hg r he hsz hdf hQ
  have hd := fun i b s (h : ι i = some (b, s)) => (r.dom i b s h).1
  have here : ∀ ex e, l = [⟨ex, E, H⟩] → exM e ex → Q e a w := by
    intro ex e hl hm
    subst hl
    exact hQ _ (.head _) e ι w a hm r (Post.refl ..) he hsz hdf
  cases c <;> simp only [codeA] at h <;> try (cases h; done)
  case skip => cases h; exact wp_skip (here _ _ rfl trivial)
  case exit id => cases h; exact wp_exit (here _ _ rfl rfl)
  case ret => cases h; exact wp_ret (here _ _ rfl trivial)
  case region id ops draw =>
    simp only [codeOk, Bool.and_eq_true] at hok
    have hdst := List.all_eq_true.1 hok.1
    cases draw with
    | false =>
      simp only at h
      obtain ⟨xs, e1, e2, e3⟩ := bind_inv h
      refine wp_region ?_
      rw [List.range_eq_range']
      refine ops_ok hG.ctx (nt := nt) hdst n (fun m hm => hf m (by omega)) 0 ops.size (by simpa using e1) (by omega) hg r he hsz hdf ?_
      intro x hx ι' w' a' r1 p1 he1 hs1 hd1
      obtain ⟨l', g1, g2⟩ := e2 x hx
      cases g1
      exact hQ _ (g2 _ (.head _)) _ ι' w' a' trivial r1 p1 he1 hs1 hd1
    | true =>
      simp only at h
      split at h
      · rename_i E' H' snap hdr
        cases hb : oddOk ops.toList snap (oddOf id od) with
        | false => rw [hb, cond_false] at h; cases h
        | true =>
          rw [hb, cond_true] at h; cases h
          refine hG.draw n (fun m hm => hf m (by omega)) id nt ops (oddOf id od) E E' H H' snap ι w a Q (by simpa using hok.2) hdst hdr hb hg r he hsz hdf ?_
          intro ι' w' a' r1 p1 he1 hs1 hd1
          exact hQ _ (.head _) _ ι' w' a' trivial r1 p1 he1 hs1 hd1
      · cases h
  case seq x y =>
    simp only [codeOk, Bool.and_eq_true] at hok
    obtain ⟨xs, e1, e2, e3⟩ := bind_inv h
    refine wp_seq (hc n (Nat.le_refl _) od nt x E H xs e1 hok.1 _ ι w a hg r he hsz hdf ?_)
    intro o ho e ι' w' a' hex r1 p1 he1 hs1 hd1
    obtain ⟨l', g1, g2⟩ := e2 o ho
    cases hoe : o.ex with
    | norm =>
      rw [hoe] at hex g1
      cases e <;> simp [exM] at hex
      simp only [Exit.then]
      refine hc n (Nat.le_refl _) od nt y o.E o.H l' g1 hok.2 Q ι' w' a' (hg.trans p1.sub) r1 he1 hs1 hd1 ?_
      intro o2 ho2 e2 ι2 w2 a2 hex2 r2 p2 he2 hs2 hd2
      exact hQ o2 (g2 _ ho2) e2 ι2 w2 a2 hex2 r2 (p1.trans hd p2) he2 hs2 hd2
    | exit i =>
      rw [hoe] at g1; cases g1
      have := hQ o (g2 _ (.head _)) e ι' w' a' hex r1 p1 he1 hs1 hd1
      rw [hoe] at hex
      cases e <;> simp [exM] at hex
      exact this
    | ret =>
      rw [hoe] at g1; cases g1
      have := hQ o (g2 _ (.head _)) e ι' w' a' hex r1 p1 he1 hs1 hd1
      rw [hoe] at hex
      cases e <;> simp [exM] at hex
      exact this
  case cond x c1 c2 =>
    simp only [codeOk, Bool.and_eq_true] at hok
    split at h
    · rename_i t ht
      have hv := ev_ok he ht
      cases t with
      | true => exact wp_cond_true hv (hc n (Nat.le_refl _) od nt c1 E H l h hok.1 Q ι w a hg r he hsz hdf hQ)
      | false => exact wp_cond_false hv (hc n (Nat.le_refl _) od nt c2 E H l h hok.2 Q ι w a hg r he hsz hdf hQ)
    · cases h
  case block id c =>
    simp only [codeOk] at hok
    obtain ⟨xs, e1, e2, e3⟩ := bind_inv h
    refine wp_block (hc n (Nat.le_refl _) od nt c E H xs e1 hok _ ι w a hg r he hsz hdf ?_)
    intro o ho e ι' w' a' hex r1 p1 he1 hs1 hd1
    obtain ⟨l', g1, g2⟩ := e2 o ho
    cases hoe : o.ex with
    | norm =>
      rw [hoe] at g1; cases g1
      have := hQ o (g2 _ (.head _)) e ι' w' a' hex r1 p1 he1 hs1 hd1
      rw [hoe] at hex
      cases e <;> simp [exM] at hex
      exact this
    | ret =>
      rw [hoe] at g1; cases g1
      have := hQ o (g2 _ (.head _)) e ι' w' a' hex r1 p1 he1 hs1 hd1
      rw [hoe] at hex
      cases e <;> simp [exM] at hex
      exact this
    | exit j =>
      rw [hoe] at g1 
      have hex0 := hex
      rw [hoe] at hex
      cases e <;> simp [exM] at hex
      rename_i i
      obtain rfl : i = j := hex
      simp only [Exit.inBlock]
      simp only at g1
      by_cases e : i = id
      · subst e
        simp at g1; subst g1
        simp only [if_true]
        exact hQ _ (g2 _ (.head _)) _ ι' w' a' trivial r1 p1 he1 hs1 hd1
      · have hb : Nat.beq i id = false := by
          cases hb : Nat.beq i id with
          | false => rfl
          | true => exact absurd (Nat.eq_of_beq_eq_true hb) e
        rw [hb, cond_false] at g1; cases g1
        rw [if_neg e]
        exact hQ _ (g2 _ (.head _)) _ ι' w' a' hex0 r1 p1 he1 hs1 hd1
  case loop c =>
    have hok' : codeOk dok nt od c = true := hok
    let Φ : Nat → Act → World → Prop := fun m a1 w1 => m ≤ n + 1 ∧ ∃ E1 H1 l1 ι1, codeA C m od (.loop c) E1 H1 = some l1 ∧ (∀ o ∈ l1, o ∈ l) ∧ R ι1 H1 w1 ∧ Post ι ι1 H H1 w w1 ∧ RE ι1 w1 E1 a1.tmps ∧ nt ≤ a1.tmps.size ∧ a1.defers = []
    refine wp_loop_n Φ ?_ (n := n + 1) ⟨Nat.le_refl _, E, H, l, ι, by simp only [codeA]; exact h, fun _ h => h, r, Post.refl .., he, hsz, hdf⟩
    intro m a1 w1 hΦ
    obtain ⟨hm, E1, H1, l1, ι1, h1, hl1, r1, p1, he1, hs1, hd1⟩ := hΦ
    cases m with
    | zero => simp [codeA] at h1
    | succ m =>
      refine ⟨m, Nat.lt_succ_self _, ?_⟩
      simp only [codeA] at h1
      obtain ⟨xs, e1, e2, e3⟩ := bind_inv h1
      refine hc m (by omega) od nt c E1 H1 xs e1 hok' _ ι1 w1 a1 (hg.trans p1.sub) r1 he1 hs1 hd1 ?_
      intro o ho e ι' w' a' hex r2 p2 he2 hs2 hd2
      obtain ⟨l', g1, g2⟩ := e2 o ho
      cases hoe : o.ex with
      | norm =>
        rw [hoe] at hex g1
        cases e <;> simp [exM] at hex
        simp only [Exit.then]
        exact ⟨by omega, o.E, o.H, l', ι', g1, fun y hy => hl1 y (g2 y hy), r2, p1.trans hd p2, he2, hs2, hd2⟩
      | exit i =>
        rw [hoe] at g1; cases g1
        have := hQ o (hl1 _ (g2 _ (.head _))) e ι' w' a' hex r2 (p1.trans hd p2) he2 hs2 hd2
        rw [hoe] at hex
        cases e <;> simp [exM] at hex
        exact this
      | ret =>
        rw [hoe] at g1; cases g1
        have := hQ o (hl1 _ (g2 _ (.head _))) e ι' w' a' hex r2 (p1.trans hd p2) he2 hs2 hd2
        rw [hoe] at hex
        cases e <;> simp [exM] at hex
        exact this

theorem sound_all (hG : Good P C G dok) : ∀ n, SoundC P C G dok n ∧ SoundF P C G n := by
  intro n
  induction n using Nat.strongRecOn with
  | _ n ih =>
    cases n with
    | zero => exact ⟨fun od nt c E H l h => by simp [codeA] at h, fun f args H l h => by simp [callA] at h⟩
    | succ n => exact ⟨code_sound hG (fun m hm => (ih m (by omega)).1) (fun m hm => (ih m (by omega)).2), call_sound hG (ih n (Nat.lt_succ_self _)).1⟩

/-- THE LAW: what the evaluator answers of a call, the machine's call comes to -/
theorem sound (hG : Good P C G dok) {n : Nat} {f : FuncId} {args : List AV} {H : Hp} {l : List (AV × Hp)} (h : callA C n f args H = some l) : CallOK P C G f args H l := (sound_all hG n).2 f args H l h
end
end Go.Av
/- Regions of open order: which operations must be in order, and which are. Conditions: none. -/
namespace Go.Av

/-! ### The sorts of operations: 0 of values alone; 1 loads; 2 new memory; 3 what reads memory, or writes to new memory alone; 4 all others -/
def clsCall (C : Ctx) (c : Call) : Nat :=
  match c.callee with
  | .builtin .len => 3
  | .builtin .min | .builtin .max => 0
  | .value (.func f) => bif C.quiet f then 3 else 4
  | _ => 4
def clsOf (C : Ctx) (o : Op) : Nat :=
  match o with
  | .move _ | .assign _ | .pick .. | .build .. | .fieldAddr .. | .field .. | .extract .. | .unOp .. | .makeFunc .. | .binOp .. | .indexAddr .. | .index .. | .nilCheck _ => 0
  | .slice t .. => match C.ty t with
    | some i => (match i.d with
      | .array .. => 3
      | _ => 0)
    | none => 4
  | .load .. => 1
  | .alloc _ | .box .. | .buildSlice .. | .makeSlice .. | .makeMap _ none => 2
  | .convert .. | .lookup .. | .entry _ => 3
  | .call c => clsCall C c
  | _ => 4

/-! ### What is in order -/
def edgesOf (o : Oper) : List Nat := o.after.toList.filterMap fun e => if Region.binds .any e then some e.on else none
def befs : List (List Nat) → List Oper → List (List Nat)
  | acc, [] => acc
  | acc, o :: os => befs (acc ++ [edgesOf o ++ (edgesOf o).flatMap fun e => (nth acc e).getD []]) os
def inN (i : Nat) : List Nat → Bool
  | [] => false
  | j :: js => Nat.beq i j || inN i js
def inNN (i j : Nat) : List (Nat × Nat) → Bool
  | [] => false
  | (a, b) :: r => (Nat.beq i a && Nat.beq j b) || inNN i j r
theorem inN_iff {i : Nat} : ∀ {l : List Nat}, inN i l = true ↔ i ∈ l
  | [] => by simp [inN]
  | j :: js => by simp [inN, inN_iff (l := js)]
theorem inNN_iff {i j : Nat} : ∀ {l : List (Nat × Nat)}, inNN i j l = true ↔ (i, j) ∈ l
  | [] => by simp [inNN]
  | (a, b) :: r => by simp [inNN, inNN_iff (l := r)]

/-- may i and j, of which i stands ahead, be in either order? -/
def freeOk (C : Ctx) (ops : Array Oper) (odd : List (Nat × Nat)) (i j : Nat) (a b : Oper) : Bool :=
  a.apart ops b &&
  (match clsOf C a.op, clsOf C b.op with
  | 4, 4 => false
  | 3, 4 => false
  | 4, 3 => false
  | 2, 4 => false
  | 1, 4 => inNN i j odd
  | 4, 1 => inNN j i odd
  | _, _ => true)
def pairsOk (C : Ctx) (ops : Array Oper) (odd : List (Nat × Nat)) (i : Nat) (a : Oper) : Nat → List Oper → List (List Nat) → Bool
  | _, [], _ => true
  | j, b :: bs, l :: ls => (inN i l || freeOk C ops odd i j a b) && pairsOk C ops odd i a (j + 1) bs ls
  | _, _ :: _, [] => false
def allPairs (C : Ctx) (ops : Array Oper) (odd : List (Nat × Nat)) : Nat → List Oper → List (List Nat) → Bool
  | _, [], _ => true
  | i, a :: as, _ :: ls => ((edgesOf a).all fun e => Nat.blt e i) && (pairsOk C ops odd i a (i + 1) as ls && allPairs C ops odd (i + 1) as ls)
  | _, _ :: _, [] => false
def drawOk (C : Ctx) (ops : Array Oper) (odd : List (Nat × Nat)) : Bool := allPairs C ops odd 0 ops.toList (befs [] ops.toList)

/-- i is ahead of j in all orders -/
def Ahead (ops : Array Oper) (i j : Nat) : Prop :=
  ∀ S : Nat → Prop, (∀ k o, ops[k]? = some o → S k → ∀ e ∈ edgesOf o, S e) → ∀ o, ops[j]? = some o → (∀ e ∈ edgesOf o, S e) → S i

theorem befs_ok (ops : Array Oper) : ∀ (l : List Oper) (acc : List (List Nat)), ops.toList.drop acc.length = l → (∀ j b, acc[j]? = some b → ∀ i ∈ b, Ahead ops i j) →
    (befs acc l).length = acc.length + l.length ∧ ∀ j b, (befs acc l)[j]? = some b → ∀ i ∈ b, Ahead ops i j
  | [], acc, _, h => ⟨by simp [befs], h⟩
  | o :: os, acc, hl, h => by
    have ho : ops[acc.length]? = some o := by
      rw [← Array.getElem?_toList]
      have : (ops.toList.drop acc.length)[0]? = some o := by rw [hl]; rfl
      simpa using this
    have := befs_ok ops os (acc ++ [edgesOf o ++ (edgesOf o).flatMap fun e => (nth acc e).getD []]) (by
      have := congrArg (List.drop 1) hl
      simpa [List.drop_drop] using this) (fun j b hj i hi => by
      rw [List.getElem?_append] at hj
      split at hj
      · exact h j b hj i hi
      · rename_i hge
        have hj0 : j = acc.length := by
          rcases Nat.lt_or_ge (j - acc.length) 1 with h | h
          · omega
          · rw [List.getElem?_eq_none (by simpa using h)] at hj; cases hj
        subst hj0
        simp at hj; subst hj
        intro S hS o' ho' he
        rw [ho] at ho'; cases ho'
        rcases List.mem_append.1 hi with hi | hi
        · exact he i hi
        · obtain ⟨e, e1, e2⟩ := List.mem_flatMap.1 hi
          rw [nth_eq] at e2
          cases hb : acc[e]? with
          | none => rw [hb] at e2; cases e2
          | some b =>
            rw [hb] at e2
            have hlt : e < ops.size := by
              have h1 := (List.getElem?_eq_some_iff.1 hb).1
              have h2 := (Array.getElem?_eq_some_iff.1 ho).1
              omega
            have hoe : ops[e]? = some ops[e] := Array.getElem?_eq_getElem hlt
            exact h e b hb i e2 S hS _ hoe (hS e _ hoe (he e e1)))
    refine ⟨?_, this.2⟩
    rw [befs, this.1]; simp; omega
theorem befs_ahead (ops : Array Oper) {j i : Nat} {b : List Nat} (h : (befs [] ops.toList)[j]? = some b) (hi : i ∈ b) : Ahead ops i j :=
  (befs_ok ops ops.toList [] (by simp) (by simp)).2 j b h i hi

theorem pairsOk_at {C : Ctx} {ops : Array Oper} {odd : List (Nat × Nat)} {i : Nat} {a : Oper} : ∀ {bs : List Oper} {ls : List (List Nat)} {j : Nat}, pairsOk C ops odd i a j bs ls = true →
    ∀ (k : Nat) b, bs[k]? = some b → ∃ l, ls[k]? = some l ∧ (i ∈ l ∨ freeOk C ops odd i (j + k) a b = true)
  | [], _, _, _, k, b, h => by simp at h
  | b :: bs, [], j, h, _, _, _ => by simp [pairsOk] at h
  | b :: bs, l :: ls, j, h, k, b', hk => by
    simp only [pairsOk, Bool.and_eq_true, Bool.or_eq_true] at h
    cases k with
    | zero => simp at hk; subst hk; exact ⟨l, rfl, h.1.imp inN_iff.1 id⟩
    | succ k =>
      obtain ⟨l', h1, h2⟩ := pairsOk_at h.2 k b' (by simpa using hk)
      exact ⟨l', by simpa using h1, by rw [show j + (k + 1) = j + 1 + k by omega]; exact h2⟩
theorem allPairs_at {C : Ctx} {ops : Array Oper} {odd : List (Nat × Nat)} : ∀ {as : List Oper} {ls : List (List Nat)} {i : Nat}, allPairs C ops odd i as ls = true →
    ∀ (m : Nat) a, as[m]? = some a → (∀ e ∈ edgesOf a, e < i + m) ∧ ∀ (k : Nat) b, m < k → as[k]? = some b → ∃ l, ls[k]? = some l ∧ (i + m ∈ l ∨ freeOk C ops odd (i + m) (i + k) a b = true)
  | [], _, _, _, _, _, h => by simp at h
  | a :: as, [], _, h, _, _, _ => by simp [allPairs] at h
  | a :: as, l :: ls, i, h, m, a', hm => by
    simp only [allPairs, Bool.and_eq_true] at h
    cases m with
    | zero =>
      simp at hm; subst hm
      refine ⟨fun e he => by have := List.all_eq_true.1 h.1 e he; simpa [Nat.blt_eq] using this, fun k b hk hb => ?_⟩
      obtain ⟨k, rfl⟩ : ∃ q, k = q + 1 := ⟨k - 1, by omega⟩
      obtain ⟨l', h1, h2⟩ := pairsOk_at h.2.1 k b (by simpa using hb)
      exact ⟨l', by simpa using h1, by rw [Nat.add_zero, show i + (k + 1) = i + 1 + k by omega]; exact h2⟩
    | succ m =>
      obtain ⟨h1, h2⟩ := allPairs_at h.2.2 m a' (by simpa using hm)
      refine ⟨fun e he => by have := h1 e he; omega, fun k b hk hb => ?_⟩
      obtain ⟨k, rfl⟩ : ∃ q, k = q + 1 := ⟨k - 1, by omega⟩
      obtain ⟨l', g1, g2⟩ := h2 k b (by omega) (by simpa using hb)
      exact ⟨l', by simpa using g1, by rw [show i + (m + 1) = i + 1 + m by omega, show i + (k + 1) = i + 1 + k by omega]; exact g2⟩

/-- two operations of a region: in order, or free -/
theorem drawOk_pair {C : Ctx} {ops : Array Oper} {odd : List (Nat × Nat)} (h : drawOk C ops odd = true) {i j : Nat} {a b : Oper} (hij : i < j) (hi : ops[i]? = some a) (hj : ops[j]? = some b) :
    Ahead ops i j ∨ freeOk C ops odd i j a b = true := by
  obtain ⟨_, h2⟩ := allPairs_at h i a (by simpa using hi)
  obtain ⟨l, h3, h4⟩ := h2 j b hij (by simpa using hj)
  rw [Nat.zero_add, Nat.zero_add] at h4
  exact h4.imp (fun h => befs_ahead ops h3 h) id
theorem drawOk_edge {C : Ctx} {ops : Array Oper} {odd : List (Nat × Nat)} (h : drawOk C ops odd = true) {i : Nat} {a : Oper} (hi : ops[i]? = some a) : ∀ e ∈ edgesOf a, e < i := by
  obtain ⟨h1, _⟩ := allPairs_at h i a (by simpa using hi)
  intro e he; have := h1 e he; omega
end Go.Av
/- Regions of open order: the run in the one order that the evaluator takes. Conditions: none. -/
namespace Go.Av

/-- one operation of the evaluator's run -/
def StepA (C : Ctx) (n : Nat) (all : List Oper) (o : Oper) (E : T AV) (H : Hp) (E' : T AV) (H' : Hp) : Prop :=
  (wantedA all E o = some false ∧ E' = putE E o.dst undefA ∧ H' = H) ∨
  (wantedA all E o = some true ∧ ∃ v, E' = putE E o.dst v ∧ (opA C E H o.op = some [.val v H'] ∨ ∃ f args m, m < n ∧ opA C E H o.op = some [.call f args] ∧ callA C m f args H = some [(v, H')]))
theorem StepA.mono {C : Ctx} {n m : Nat} {all : List Oper} {o : Oper} {E E' : T AV} {H H' : Hp} (h : StepA C n all o E H E' H') (hm : n ≤ m) : StepA C m all o E H E' H' := by
  rcases h with h | ⟨h1, v, h2, h3⟩
  · exact .inl h
  · refine .inr ⟨h1, v, h2, ?_⟩
    rcases h3 with h3 | ⟨f, args, k, a1, a2⟩
    · exact .inl h3
    · exact .inr ⟨f, args, k, by omega, a2⟩

theorem drawA_run {C : Ctx} {all : List Oper} : ∀ (n : Nat) {ops : List Oper} {E E' : T AV} {H H' : Hp} {s : List (T AV × Hp × Hp)}, drawA C n all ops E H = some (E', H', s) →
    ∃ (Es : Nat → T AV) (Hs : Nat → Hp), Es 0 = E ∧ Hs 0 = H ∧ Es ops.length = E' ∧ Hs ops.length = H' ∧ (∀ k o, ops[k]? = some o → StepA C n all o (Es k) (Hs k) (Es (k + 1)) (Hs (k + 1))) ∧
      ∀ k, k < ops.length → s[k]? = some (Es k, Hs k, Hs (k + 1))
  | 0, _, _, _, _, _, _, h => by simp [drawA] at h
  | n + 1, [], E, E', H, H', s, h => by
    simp [drawA] at h
    obtain ⟨rfl, rfl, rfl⟩ := h
    exact ⟨fun _ => E, fun _ => H, rfl, rfl, rfl, rfl, by simp, by simp⟩
  | n + 1, o :: rest, E, E', H, H', s, h => by
    have glue : ∀ {E1 : T AV} {H1 : Hp} {s1 : List (T AV × Hp × Hp)}, drawA C n all rest E1 H1 = some (E', H', s1) → s = (E, H, H1) :: s1 → StepA C (n + 1) all o E H E1 H1 →
        ∃ (Es : Nat → T AV) (Hs : Nat → Hp), Es 0 = E ∧ Hs 0 = H ∧ Es (o :: rest).length = E' ∧ Hs (o :: rest).length = H' ∧ (∀ k o', (o :: rest)[k]? = some o' → StepA C (n + 1) all o' (Es k) (Hs k) (Es (k + 1)) (Hs (k + 1))) ∧
          ∀ k, k < (o :: rest).length → s[k]? = some (Es k, Hs k, Hs (k + 1)) := by
      intro E1 H1 s1 hd hs hst
      obtain ⟨Es, Hs, a1, a2, a3, a4, a5, a6⟩ := drawA_run n hd
      refine ⟨fun k => match k with | 0 => E | k + 1 => Es k, fun k => match k with | 0 => H | k + 1 => Hs k, rfl, rfl, a3, a4, fun k o' hk => ?_, fun k hk => ?_⟩
      · cases k with
        | zero => simp at hk; subst hk; simp only; rw [a1, a2]; exact hst
        | succ k => exact (a5 k o' (by simpa using hk)).mono (Nat.le_succ _)
      · subst hs
        cases k with
        | zero => simp [a2]
        | succ k => simpa using a6 k (by simpa using hk)
    simp only [drawA] at h
    split at h
    · cases h
    · rename_i hw
      split at h
      · rename_i hd; cases h; exact glue hd rfl (.inl ⟨hw, rfl, rfl⟩)
      · cases h
    · rename_i hw
      split at h
      · rename_i v G hv
        split at h
        · rename_i hd; cases h; exact glue hd rfl (.inr ⟨hw, v, rfl, .inl hv⟩)
        · cases h
      · rename_i f args hv
        split at h
        · rename_i r hc
          split at h
          · rename_i hd; cases h; exact glue hd rfl (.inr ⟨hw, r.1, rfl, .inr ⟨f, args, n, Nat.lt_succ_self _, hv, hc⟩⟩)
          · cases h
        · cases h
      · cases h
end Go.Av
/- Regions of open order: what operations of each sort do. Conditions: the tables of types say what the program's do. -/
namespace Go.Av

section
variable {P : Program} {C : Ctx} {w : World} {ι : Emb} {H : Hp} {E : T AV} {a : Act}

theorem resV {x : Option AV} {v : AV} {H' : Hp} (h : val1 H x = some [.val v H']) {s : Sem Value} (hs : ∀ a, x = some a → ∃ u, s.run P w = .ok u w ∧ VR ι w a u) :
    H' = H ∧ ∃ u, (do pure (.value (← s)) : Sem Next).run P w = .ok (.value u) w ∧ VR ι w v u := by
  cases x with
  | none => cases h
  | some y =>
    simp [val1] at h
    obtain ⟨rfl, rfl⟩ := h
    obtain ⟨u, h1, h2⟩ := hs y rfl
    exact ⟨rfl, u, by simp [h1], h2⟩

/-- operations of values, and those that read -/
theorem valOp_ok (hC : CtxOK P C) (r : R ι H w) (he : RE ι w E a.tmps) (o : Oper) (hc : clsOf C o.op = 0 ∨ clsOf C o.op = 1 ∨ clsOf C o.op = 3) {v : AV} {H' : Hp} (h : opA C E H o.op = some [.val v H']) :
    H' = H ∧ ∃ u, (execOp a.eval o).run P w = .ok (.value u) w ∧ VR ι w v u := by
  obtain ⟨dst, op, type, pos, after, guard⟩ := o
  cases op <;> simp only [opA, opB] at h <;> try (cases h; done)
  case move x =>
    unfold val1 at h
    split at h
    · rename_i y hy; simp at h; obtain ⟨rfl, rfl⟩ := h; exact ⟨rfl, a.eval x, by simp [execOp], ev_ok he hy⟩
    · cases h
  case assign x =>
    unfold val1 at h
    split at h
    · rename_i y hy; simp at h; obtain ⟨rfl, rfl⟩ := h; exact ⟨rfl, a.eval x, by simp [execOp], ev_ok he hy⟩
    · cases h
  case pick c x y =>
    have := resV (P := P) (w := w) (ι := ι) h (s := do pure (if ← Go.asBool (a.eval c) then a.eval x else a.eval y)) (fun v hv => by
      simp only [Option.bind_eq_bind, Option.bind_eq_some_iff] at hv
      obtain ⟨c', h1, x', h2, y', h3, hv⟩ := hv
      exact pick_ok hv (ev_ok he h1) (ev_ok he h2) (ev_ok he h3))
    simpa [execOp] using this
  case build t ps =>
    have key := resV (P := P) (w := w) (ι := ι) h (s := Instr.build t (ps.map fun (i, x) => (i, a.eval x))) (fun v hv => by
      simp only [Option.bind_eq_bind, Option.bind_eq_some_iff] at hv
      obtain ⟨ps', h1, hv⟩ := hv
      exact build_ok hC hv (by simpa using evParts_ok he h1))
    simp only [execOp]
    exact key
  case unOp op t x =>
    exact resV (P := P) h (s := Op.unary op (a.eval x)) (fun v hv => by
      simp only [Option.bind_eq_bind, Option.bind_eq_some_iff] at hv
      obtain ⟨x', h1, hv⟩ := hv
      exact un_ok hv (ev_ok he h1))
  case convert s d x =>
    exact resV (P := P) h (s := convert s d (a.eval x)) (fun v hv => by
      simp only [Option.bind_eq_bind, Option.bind_eq_some_iff] at hv
      obtain ⟨x', h1, hv⟩ := hv
      exact convert_ok hC r hv (ev_ok he h1))
  case makeFunc f first cap =>
    cases f with
    | func f =>
      exact resV (P := P) h (s := Instr.makeFunc (.func f) (first.map a.eval) (cap.map a.eval)) (fun v hv => by
        simp only [Option.bind_eq_bind, Option.bind_eq_some_iff] at hv
        obtain ⟨_, h1, b, h2, hv⟩ := hv
        simp at hv; subst hv
        have : first = #[] := by simpa using chk_eq h1
        subst this
        exact ⟨.func (.func f) (#[].map a.eval) ⟨cap.toList.map a.eval⟩, by
          have e : cap.map a.eval = ⟨cap.toList.map a.eval⟩ := by apply Array.ext'; simp
          rw [e]; rfl, _, by simp, evs_ok he h2⟩)
    | _ => cases h
  case slice t x lo hi mx =>
    exact resV (P := P) h (s := Instr.sliceAt t (a.eval x) (lo.map a.eval) (hi.map a.eval) (mx.map a.eval)) (fun v hv => by
      simp only [Option.bind_eq_bind, Option.bind_eq_some_iff] at hv
      obtain ⟨x', h1, lo', h2, hi', h3, mx', h4, hv⟩ := hv
      exact slice_ok hC r hv (ev_ok he h1) (optEv_ok he h2) (optEv_ok he h3) (optEv_ok he h4))
  case field t x f =>
    exact resV (P := P) h (s := Instr.field t (a.eval x) f) (fun v hv => by
      simp only [Option.bind_eq_bind, Option.bind_eq_some_iff] at hv
      obtain ⟨x', h1, hv⟩ := hv
      exact field_ok hC hv (ev_ok he h1))
  case index t x ix =>
    exact resV (P := P) h (s := Instr.index t (a.eval x) (a.eval ix)) (fun v hv => by
      simp only [Option.bind_eq_bind, Option.bind_eq_some_iff] at hv
      obtain ⟨x', h1, i', h2, hv⟩ := hv
      exact index_ok hC hv (ev_ok he h1) (ev_ok he h2))
  case lookup t m k ok =>
    exact resV (P := P) h (s := Instr.lookup t (a.eval m) (a.eval k) ok) (fun v hv => by
      simp only [Option.bind_eq_bind, Option.bind_eq_some_iff] at hv
      obtain ⟨x', h1, i', h2, hv⟩ := hv
      exact lookup_ok hC r hv (ev_ok he h1) (ev_ok he h2))
  case entry it =>
    exact resV (P := P) h (s := Instr.entry (a.eval it)) (fun v hv => by
      simp only [Option.bind_eq_bind, Option.bind_eq_some_iff] at hv
      obtain ⟨x', h1, hv⟩ := hv
      exact entry_ok r hv (ev_ok he h1))
  case load t x =>
    exact resV (P := P) h (s := Instr.loadAt t (a.eval x)) (fun v hv => by
      simp only [Option.bind_eq_bind, Option.bind_eq_some_iff] at hv
      obtain ⟨x', h1, hv⟩ := hv
      exact load_ok hC r hv (ev_ok he h1))
  case nilCheck x =>
    unfold oNil at h
    cases hx : (do let x ← ev E x; nilCheckA x : Option AV) with
    | none => rw [hx] at h; cases h
    | some y =>
      rw [hx] at h
      simp [val1] at h; obtain ⟨rfl, rfl⟩ := h
      simp only [Option.bind_eq_bind, Option.bind_eq_some_iff] at hx
      obtain ⟨x', h1, h2⟩ := hx
      obtain ⟨g1, g2⟩ := nilCheck_ok (P := P) h2 (ev_ok he h1) (o := ⟨dst, .nilCheck x, type, pos, after, guard⟩) rfl rfl
      exact ⟨rfl, a.eval x, g1, g2⟩
  case binOp op t x y q =>
    exact resV (P := P) h (s := do eqGuard op t x y (a.eval x) (a.eval y); binOp op t (a.eval x) (a.eval y)) (fun v hv => by
      simp only [Option.bind_eq_bind, Option.bind_eq_some_iff] at hv
      obtain ⟨x', h1, y', h2, hv⟩ := hv
      exact bin_ok hC hv (ev_ok he h1) (ev_ok he h2) x y)
  case fieldAddr t x f =>
    exact resV (P := P) h (s := Instr.fieldAt t (a.eval x) f) (fun v hv => by
      simp only [Option.bind_eq_bind, Option.bind_eq_some_iff] at hv
      obtain ⟨x', h1, hv⟩ := hv
      exact fieldAddr_ok hC hv (ev_ok he h1))
  case indexAddr t x ix =>
    exact resV (P := P) h (s := Instr.indexAt t (a.eval x) (a.eval ix)) (fun v hv => by
      simp only [Option.bind_eq_bind, Option.bind_eq_some_iff] at hv
      obtain ⟨x', h1, i', h2, hv⟩ := hv
      exact indexAddr_ok hC hv (ev_ok he h1) (ev_ok he h2))
  case extract x i =>
    exact resV (P := P) h (s := Instr.extract (a.eval x) i) (fun v hv => by
      simp only [Option.bind_eq_bind, Option.bind_eq_some_iff] at hv
      obtain ⟨x', h1, vs, h2, hv⟩ := hv
      exact extract_ok h2 hv (ev_ok he h1))
  case call c =>
    unfold oCall at h
    cases hargs : evs E c.args.toList with
    | none => simp [hargs] at h
    | some args =>
      simp only [hargs] at h
      have hvs := evs_ok he hargs
      simp only [clsOf, clsCall] at hc
      cases hcc : c.callee with
      | builtin b =>
        simp only [hcc] at h hc
        have e : c.args.map a.eval = ⟨c.args.toList.map a.eval⟩ := by apply Array.ext'; simp
        obtain ⟨cs, e2⟩ : ∃ cs, (execOp a.eval ⟨dst, .call c, type, pos, after, guard⟩).run P w = (builtin b c.argTypes type cs ⟨c.args.toList.map a.eval⟩).run P w :=
          ⟨_, by simp only [execOp, resolve, hcc, invoke, e, Sem.run_bind, Sem.run_pure, Result.andThen_ok]; rfl⟩
        rw [e2]
        unfold builtinA at h
        split at h <;> try (simp at hc; done)
        · rename_i t ts' x hts
          obtain ⟨v', _, h1, hx, e⟩ := hvs; simp only [VRs] at e; subst e
          rw [h1]
          exact resV h fun a ha => len_ok hC r ha hx (by rw [← Array.getElem?_toList, hts]; rfl)
        · rename_i x xs
          obtain ⟨v', vs, h0, h1, h2⟩ := hvs
          rw [h0]
          exact resV h fun a ha => by simpa [Builtin.min_] using foldMin_ok xs x a vs v' ha h1 h2
        · rename_i x xs
          obtain ⟨v', vs, h0, h1, h2⟩ := hvs
          rw [h0]
          exact resV h fun a ha => by simpa [Builtin.max_] using foldMax_ok xs x a vs v' ha h1 h2
        · cases h
      | value f =>
        simp only [hcc] at h
        split at h
        · cases h
        · cases h
      | invoke r m => simp only [hcc] at h; cases h
  case makeMap t rs => cases rs <;> simp [clsOf] at hc
  all_goals (simp [clsOf] at hc)

/-- operations of values alone: whatever memory there is -/
theorem pureOp_heap {o : Op} (hc : clsOf C o = 0) {v : AV} {H' : Hp} (h : opA C E H o = some [.val v H']) (H2 : Hp) : opA C E H2 o = some [.val v H2] := by
  have one : ∀ {x : Option AV}, val1 H x = some [.val v H'] → val1 H2 x = some [.val v H2] := by
    intro x hx
    cases x with
    | none => cases hx
    | some y => simp [val1] at hx ⊢; exact hx.1
  cases o <;> simp only [opA, opB] at h ⊢ <;> try (first | cases h; done | exact one h)
  case makeFunc f first cap => cases f <;> first | exact one h | cases h
  case slice t x lo hi mx =>
    simp only [clsOf] at hc
    cases hi' : C.ty t with
    | none => simp [hi'] at hc
    | some i =>
      simp only [hi'] at hc
      have : ∀ x lo hi mx, sliceA C H t x lo hi mx = some v → sliceA C H2 t x lo hi mx = some v := by
        intro x lo hi mx hs
        unfold sliceA at hs ⊢
        split at hs
        · exact hs
        · exact hs
        · exfalso
          simp only [Option.bind_eq_bind, Option.bind_eq_some_iff, elemA, hi', TI.arrayT] at hs
          obtain ⟨_, ⟨i', e1, _, e2, _⟩, _⟩ := hs
          cases e1
          cases hd : i.d <;> simp [hd] at hc e2
        · cases hs
      unfold oSlice at h ⊢
      cases hx : (do let x ← ev E x; let lo ← optEv E lo; let hi ← optEv E hi; let mx ← optEv E mx; sliceA C H t x lo hi mx : Option AV) with
      | none => rw [hx] at h; cases h
      | some y =>
        rw [hx] at h; simp [val1] at h; obtain ⟨rfl, rfl⟩ := h
        simp only [Option.bind_eq_bind, Option.bind_eq_some_iff] at hx
        obtain ⟨x', h1, lo', h2, hi2, h3, mx', h4, h5⟩ := hx
        have : (do let x ← ev E x; let lo ← optEv E lo; let hi ← optEv E hi; let mx ← optEv E mx; sliceA C H2 t x lo hi mx : Option AV) = some y := by
          simp only [Option.bind_eq_bind, Option.bind_eq_some_iff]
          exact ⟨x', h1, lo', h2, hi2, h3, mx', h4, this _ _ _ _ h5⟩
        rw [this]; rfl
  case call c =>
    unfold oCall at h ⊢
    simp only [clsOf, clsCall] at hc
    cases hargs : evs E c.args.toList with
    | none => simp [hargs] at h
    | some args =>
      simp only [hargs] at h ⊢
      cases hcc : c.callee with
      | builtin b =>
        simp only [hcc] at h hc ⊢
        unfold builtinA at h ⊢
        split at h <;> try (simp at hc; done)
        · exact one h
        · exact one h
        · cases h
      | value f =>
        simp only [hcc] at h hc ⊢
        split at h
        · cases h
        · cases h
      | invoke r m => simp only [hcc] at h; cases h
  case makeMap t rs => cases rs <;> simp [clsOf] at hc
  all_goals (simp [clsOf] at hc)

/-- operations that make memory: whatever memory there is -/
theorem freshOp_heap {o : Op} (hc : clsOf C o = 2) {v : AV} {H' : Hp} (h : opA C E H o = some [.val v H']) :
    ∃ ob, H' = H.new ob ∧ (∀ m s l c, ob ≠ .iter m s l c) ∧ ∀ H2 : Hp, H2.next = H.next → opA C E H2 o = some [.val v (H2.new ob)] := by
  cases o <;> simp only [opA, opB] at h <;> try (cases h; done)
  case alloc e =>
    unfold oAlloc at h
    cases hx : (do let i ← C.ty e; let z ← i.zero; some (.ptr (some (H.next, 0)), H.new (.row false z.cells)) : Option (AV × Hp)) with
    | none => rw [hx] at h; cases h
    | some y =>
      rw [hx] at h; simp [val2] at h; obtain ⟨rfl, rfl⟩ := h
      simp only [Option.bind_eq_bind, Option.bind_eq_some_iff] at hx
      obtain ⟨i, h1, z, h2, h3⟩ := hx
      cases h3
      refine ⟨.row false z.cells, rfl, by simp, fun H2 hn => ?_⟩
      simp [opA, opB, oAlloc, h1, h2, hn, val2]
  case box e x =>
    unfold oBox at h
    cases hx : (do let v ← ev E x; some (.ptr (some (H.next, 0)), H.new (.row false v.cells)) : Option (AV × Hp)) with
    | none => rw [hx] at h; cases h
    | some y =>
      rw [hx] at h; simp [val2] at h; obtain ⟨rfl, rfl⟩ := h
      simp only [Option.bind_eq_bind, Option.bind_eq_some_iff] at hx
      obtain ⟨i, h1, h3⟩ := hx
      cases h3
      refine ⟨.row false i.cells, rfl, by simp, fun H2 hn => ?_⟩
      simp [opA, oBox, h1, hn, val2]
  case buildSlice t n ps =>
    unfold oBuildSlice at h
    cases hx : (do let ps ← evParts E ps.toList; buildSliceA C H t n ps : Option (AV × Hp)) with
    | none => rw [hx] at h; cases h
    | some y =>
      rw [hx] at h; simp [val2] at h; obtain ⟨rfl, rfl⟩ := h
      simp only [buildSliceA, Option.bind_eq_bind, Option.bind_eq_some_iff] at hx
      obtain ⟨ps', h1, j, h2, z, h3, u, h4, cs, h5, h6⟩ := hx
      cases h6
      refine ⟨.row false cs, rfl, by simp, fun H2 hn => ?_⟩
      simp [opA, opB, oBuildSlice, buildSliceA, h1, h2, h3, h4, h5, hn, val2]
  case makeSlice t x y =>
    unfold oMakeSlice at h
    cases hx : (do let l ← ev E x; let c ← ev E y; makeSliceA C H t l c : Option (AV × Hp)) with
    | none => rw [hx] at h; cases h
    | some y =>
      rw [hx] at h; simp [val2] at h; obtain ⟨rfl, rfl⟩ := h
      simp only [makeSliceA, Option.bind_eq_bind, Option.bind_eq_some_iff] at hx
      obtain ⟨l', h1, c', h2, j, h3, z, h4, l1, h5, l2, h6, c1, h7, c2, h8, u, h9, h10⟩ := hx
      cases h10
      refine ⟨.row false (zerosOf z.cells l2), rfl, by simp, fun H2 hn => ?_⟩
      simp [opA, opB, oMakeSlice, makeSliceA, h1, h2, h3, h4, h5, h6, h7, h8, h9, hn, val2]
  case makeMap t rs =>
    cases rs with
    | none =>
      simp [oMakeMap, val2] at h; obtain ⟨rfl, rfl⟩ := h
      exact ⟨.map [] 0, rfl, by simp, fun H2 hn => by simp [opA, opB, oMakeMap, val2, hn]⟩
    | some _ => cases h
  case call c =>
    simp only [clsOf, clsCall] at hc
    split at hc <;> try cases hc
    rename_i f _
    cases hq : C.quiet f <;> simp [hq] at hc
  case slice t x lo hi mx =>
    simp only [clsOf] at hc
    split at hc
    · split at hc <;> cases hc
    · cases hc
  all_goals (simp [clsOf] at hc)
end
end Go.Av
/- Regions of open order: an operation looks at its operands alone. Conditions: none. -/
namespace Go.Av

section
variable {C : Ctx} {H : Hp} {E E2 : T AV}

theorem evs_congr : ∀ {l : List Operand}, (∀ x ∈ l, ev E x = ev E2 x) → evs E l = evs E2 l
  | [], _ => rfl
  | o :: l, h => by simp only [evs]; rw [h o (.head _), evs_congr fun x hx => h x (.tail _ hx)]
theorem evParts_congr : ∀ {l : List (Nat × Operand)}, (∀ x ∈ l.map (·.2), ev E x = ev E2 x) → evParts E l = evParts E2 l
  | [], _ => rfl
  | (i, o) :: l, h => by simp only [evParts]; rw [h o (.head _), evParts_congr fun x hx => h x (.tail _ hx)]
theorem optEv_congr {o : Option Operand} (h : ∀ x, o = some x → ev E x = ev E2 x) : optEv E o = optEv E2 o := by
  cases o with
  | none => rfl
  | some x => simp only [optEv]; rw [h x rfl]

theorem opA_congr (o : Op) (h : ∀ x ∈ o.operands, ev E x = ev E2 x) : opA C E H o = opA C E2 H o := by
  cases o <;> simp only [Op.operands] at h <;> simp only [opA, opB]
  case move x => rw [h x (by simp)]
  case assign x => rw [h x (by simp)]
  case pick c x y => simp only [oPick]; rw [h c (by simp), h x (by simp), h y (by simp)]
  case box e x => simp only [oBox]; rw [h x (by simp)]
  case build t ps => simp only [oBuild]; rw [evParts_congr (E2 := E2) (by simpa using h)]
  case buildSlice t n ps => simp only [oBuildSlice]; rw [evParts_congr (E2 := E2) (by simpa using h)]
  case load t x => simp only [oLoad]; rw [h x (by simp)]
  case store t x y => simp only [oStore]; rw [h x (by simp), h y (by simp)]
  case nilCheck x => simp only [oNil]; rw [h x (by simp)]
  case binOp op t x y q => simp only [oBin]; rw [h x (by simp), h y (by simp)]
  case unOp op t x => simp only [oUn]; rw [h x (by simp)]
  case convert s d x => simp only [oConvert]; rw [h x (by simp)]
  case makeFunc f first cap =>
    cases f <;> simp only [oFunc]
    rw [evs_congr (E2 := E2) (l := cap.toList) fun x hx => h x (by simp at hx ⊢; exact .inr hx)]
  case makeSlice t x y => simp only [oMakeSlice]; rw [h x (by simp), h y (by simp)]
  case slice t x lo hi mx =>
    simp only [oSlice]
    rw [h x (by simp), optEv_congr (E2 := E2) (o := lo) fun y hy => h y (by subst hy; simp), optEv_congr (E2 := E2) (o := hi) fun y hy => h y (by subst hy; simp), optEv_congr (E2 := E2) (o := mx) fun y hy => h y (by subst hy; simp)]
  case fieldAddr t x f => simp only [oFieldAddr]; rw [h x (by simp)]
  case field t x f => simp only [oField]; rw [h x (by simp)]
  case indexAddr t x ix => simp only [oIndexAddr]; rw [h x (by simp), h ix (by simp)]
  case index t x ix => simp only [oIndex]; rw [h x (by simp), h ix (by simp)]
  case lookup t m k ok => simp only [oLookup]; rw [h m (by simp), h k (by simp)]
  case mapUpdate t m k x => simp only [oUpdate]; rw [h m (by simp), h k (by simp), h x (by simp)]
  case insert t m k x => simp only [oUpdate]; rw [h m (by simp), h k (by simp), h x (by simp)]
  case range t x => simp only [oRange]; rw [h x (by simp)]
  case next it s => simp only [oNext]; rw [h it (by simp)]
  case entry it => simp only [oEntry]; rw [h it (by simp)]
  case extract x i => simp only [oExtract]; rw [h x (by simp)]
  case call c =>
    simp only [oCall]
    rw [evs_congr (E2 := E2) (l := c.args.toList) fun x hx => h x (by simp [Call.operands]; exact .inr (by simpa using hx))]
    cases hc : c.callee with
    | value f => simp only []; rw [h f (by simp [Call.operands, hc])]
    | _ => rfl

/-- which slots an operation looks at -/
theorem looks_op {ops : Array Oper} {o : Oper} {t : Nat} (h : Operand.tmp t ∈ o.op.operands) : t ∈ o.looksAt ops := by
  unfold Oper.looksAt
  exact List.mem_append_left _ (List.mem_filterMap.2 ⟨.tmp t, by simpa using h, rfl⟩)
theorem opA_looks {ops : Array Oper} {o : Oper} (h : ∀ t ∈ o.looksAt ops, E.get t = E2.get t) : opA C E H o.op = opA C E2 H o.op := by
  refine opA_congr o.op fun x hx => ?_
  cases x with
  | tmp t => simp only [ev]; rw [h t (looks_op hx)]
  | _ => rfl
theorem wantedA_looks {ops : Array Oper} {o : Oper} (h : ∀ t ∈ o.looksAt ops, E.get t = E2.get t) : wantedA ops.toList E o = wantedA ops.toList E2 o := by
  unfold wantedA
  cases hg : o.guard with
  | none => rfl
  | some gw =>
    obtain ⟨j, want⟩ := gw
    simp only [nth_eq, Array.getElem?_toList]
    cases hj : ops[j]? with
    | none => rfl
    | some oj =>
      cases hd : oj.dst with
      | none => simp [hd]
      | some d =>
        have : d ∈ o.looksAt ops := by
          unfold Oper.looksAt
          refine List.mem_append_right _ ?_
          simp [hg, hj, hd]
        simp [hd, h d this]
end
end Go.Av
/- Regions of open order: numbers that are left out, slots that are left out. Conditions: none. -/
namespace Go.Av

/-- a trie of given entries -/
theorem mkT {α : Type} (g : Nat → Option α) : ∀ n, ∃ t : T α, ∀ i, t.get i = if i < n then g i else none
  | 0 => ⟨.nil, fun i => by simp [T.get_nil]⟩
  | n + 1 => by
    obtain ⟨t, h⟩ := mkT g n
    refine ⟨t.set n (g n), fun i => ?_⟩
    rw [T.get_set, h]
    by_cases e : i = n
    · subst e; simp
    · rw [if_neg e]
      by_cases h1 : i < n
      · rw [if_pos h1, if_pos (by omega)]
      · rw [if_neg h1, if_neg (by omega)]
theorem mkHp (g : Nat → Option Obj) (N p : Nat) : ∃ H : Hp, H.next = N ∧ H.prot = p ∧ ∀ i, i < N → H.get i = g i := by
  obtain ⟨t, h⟩ := mkT g N
  exact ⟨⟨t, N, p⟩, rfl, rfl, fun i hi => by show t.get i = g i; rw [h, if_pos hi]⟩

/-- all that an object leads to lies below a number -/
def Obj.undO (n : Nat) : Obj → Prop
  | .row _ cs => AV.unds n cs = true
  | .map es _ => ∀ x ∈ es, AV.und n x.2 = true
  | .iter none _ _ _ => True
  | .iter (some i) _ _ _ => i < n

section
variable {w : World} {ι ι' : Emb} {n : Nat}
theorem MR.lt (hl : ∀ i x, ι i = some x → i < n) : ∀ {es : List (AV × AV)} {l : List MapEntry}, MR ι w es l → ∀ x ∈ es, AV.und n x.2 = true
  | [], _, _, _, h => by cases h
  | (k, v) :: es, _, ⟨e, l', a1, a2, a3, a4, a5⟩, x, hx => by
    cases hx with
    | head => exact VR.lt hl v _ a4
    | tail _ hx => exact MR.lt hl a5 x hx
theorem MR.restrict (h' : ∀ i x, i < n → ι i = some x → ι' i = some x) : ∀ {es : List (AV × AV)} {l : List MapEntry}, (∀ x ∈ es, AV.und n x.2 = true) → MR ι w es l → MR ι' w es l
  | [], _, _, h => h
  | (k, v) :: es, _, hu, ⟨e, l', a1, a2, a3, a4, a5⟩ => ⟨e, l', a1, a2, a3, VR.und h' v _ (hu _ (.head _)) a4, MR.restrict h' (fun x hx => hu x (.tail _ hx)) a5⟩
theorem OR.undO (hl : ∀ i x, ι i = some x → i < n) {b s : Nat} : ∀ {o : Obj}, OR ι w b s o → o.undO n
  | .row ro cs, ⟨_, _, _, _, _, _, h⟩ => VRs.lt hl cs _ h
  | .map es clk, ⟨_, _, l, _, hm, _⟩ => hm.lt hl
  | .iter none since left cur, _ => trivial
  | .iter (some m) since left cur, ⟨_, _, _, _, _, _, g2, _⟩ => hl _ _ g2
theorem OR.restrict (h' : ∀ i x, i < n → ι i = some x → ι' i = some x) {b s : Nat} : ∀ {o : Obj}, o.undO n → OR ι w b s o → OR ι' w b s o
  | .row ro cs, hu, ⟨cur, e, fr, h1, h2, h3, h4⟩ => ⟨cur, e, fr, h1, h2, h3, VRs.und h' cs _ hu h4⟩
  | .map es clk, hu, ⟨ents, h1, l, h2, h3, h4⟩ => ⟨ents, h1, l, h2, h3.restrict h' hu, h4⟩
  | .iter none since left cur, _, h => h
  | .iter (some m) since left cur, hu, ⟨b', s', ents, clk, seen, h1, h2, h3⟩ => ⟨b', s', ents, clk, seen, h1, h' _ _ hu h2, h3⟩
mutual
theorem und_mono {n m : Nat} (h : n ≤ m) : ∀ (a : AV), a.und n = true → a.und m = true
  | .int .., _ => rfl
  | .bool _, _ => rfl
  | .str _, _ => rfl
  | .ptr none, _ => rfl
  | .ptr (some p), hu => by simp [AV.und, Nat.blt_eq] at hu ⊢; omega
  | .slc none _ _, _ => rfl
  | .slc (some p) _ _, hu => by simp [AV.und, Nat.blt_eq] at hu ⊢; omega
  | .map none, _ => rfl
  | .map (some i), hu => by simp [AV.und, Nat.blt_eq] at hu ⊢; omega
  | .fn f as, hu => unds_mono h as hu
  | .nilfn, _ => rfl
  | .niliface, _ => rfl
  | .agg as, hu => unds_mono h as hu
  | .tup as, hu => unds_mono h as hu
theorem unds_mono {n m : Nat} (h : n ≤ m) : ∀ (as : List AV), AV.unds n as = true → AV.unds m as = true
  | [], _ => rfl
  | a :: as, hu => by
    simp only [AV.unds, Bool.and_eq_true] at hu ⊢
    exact ⟨und_mono h a hu.1, unds_mono h as hu.2⟩
end
theorem Obj.undO_mono {m : Nat} (h : n ≤ m) : ∀ {o : Obj}, o.undO n → o.undO m
  | .row _ cs, hu => unds_mono h cs hu
  | .map es _, hu => fun x hx => und_mono h _ (hu x hx)
  | .iter none _ _ _, _ => trivial
  | .iter (some i) _ _ _, hu => Nat.lt_of_lt_of_le hu h

/-- an operation sees of the slots what it looks at -/
theorem slots {C : Ctx} {ops : Array Oper} {o : Oper} {E : T AV} {H : Hp} {a : Act} {l : List Nx} (hop : opA C E H o.op = some l) (h : ∀ t ∈ o.looksAt ops, VR ι w ((E.get t).getD undefA) (a.tmps.getD t undef)) :
    ∃ (E2 : T AV) (a2 : Act), RE ι w E2 a2.tmps ∧ (∀ t ∈ o.looksAt ops, E2.get t = E.get t) ∧ execOp a2.eval o = execOp a.eval o := by
  have hb : ∀ l : List Nat, ∃ n, ∀ t ∈ l, t < n := by
    intro l
    induction l with
    | nil => exact ⟨0, by simp⟩
    | cons x xs ih =>
      obtain ⟨n, hn⟩ := ih
      refine ⟨n + x + 1, fun t ht => ?_⟩
      cases ht with
      | head => omega
      | tail _ ht => have := hn t ht; omega
  obtain ⟨n, hn⟩ := hb (o.looksAt ops)
  obtain ⟨E2, hE⟩ := mkT (fun t => if t ∈ o.looksAt ops then E.get t else none) n
  let a2 : Act := { a with tmps := a.tmps.mapIdx fun t v => if t ∈ o.looksAt ops then v else undef }
  have hget : ∀ t, a2.tmps.getD t undef = if t ∈ o.looksAt ops then a.tmps.getD t undef else undef := by
    intro t
    simp only [a2, Array.getD_eq_getD_getElem?, Array.getElem?_mapIdx]
    cases a.tmps[t]? with
    | none => simp
    | some v => simp
  refine ⟨E2, a2, fun t => ?_, fun t ht => by rw [hE, if_pos (hn t ht), if_pos ht], ?_⟩
  · rw [hget, hE]
    by_cases ht : t ∈ o.looksAt ops
    · rw [if_pos (hn t ht), if_pos ht, if_pos ht]; exact h t ht
    · rw [if_neg ht, if_neg ht]; simp; exact ⟨[], rfl, rfl⟩
  · refine execOp_congr o (fun cs b hs => by rw [hs] at hop; simp [opA, opB] at hop) fun x hx => ?_
    cases x with
    | tmp t =>
      have : t ∈ o.looksAt ops := looks_op hx
      show a2.tmps.getD t undef = a.tmps.getD t undef
      rw [hget, if_pos this]
    | _ => rfl
end
end Go.Av
/- Regions of open order: when numbers are born, what stays. Conditions: none. -/
namespace Go.Av

/-- the first of the heaps in which a number is met -/
def birth (nx : Nat → Nat) (id : Nat) : Nat → Nat
  | 0 => 0
  | k + 1 => if id < nx k then birth nx id k else k + 1
theorem birth_le (nx : Nat → Nat) (id : Nat) : ∀ n, birth nx id n ≤ n
  | 0 => Nat.le_refl _
  | k + 1 => by
    simp only [birth]
    split
    · have := birth_le nx id k; omega
    · exact Nat.le_refl _
theorem birth_lt {nx : Nat → Nat} {id : Nat} : ∀ {n}, id < nx n → id < nx (birth nx id n)
  | 0, h => h
  | k + 1, h => by
    simp only [birth]
    split
    · rename_i h1; exact birth_lt h1
    · exact h
theorem birth_ge {nx : Nat → Nat} (hm : ∀ i j, i ≤ j → nx i ≤ nx j) {id : Nat} : ∀ {n k}, k < birth nx id n → nx k ≤ id
  | 0, k, h => by simp [birth] at h
  | n + 1, k, h => by
    simp only [birth] at h
    split at h
    · exact birth_ge hm h
    · rename_i h1
      have := hm k n (by omega)
      omega
/-- numbers below the heap's mark at k are born by then -/
theorem birth_of_lt {nx : Nat → Nat} (hm : ∀ i j, i ≤ j → nx i ≤ nx j) {id n k : Nat} (h : id < nx k) : birth nx id n ≤ k := by
  rcases Nat.lt_or_ge k (birth nx id n) with h1 | h1
  · have := birth_ge hm h1; omega
  · exact h1

/-- over steps that keep all -/
theorem keep_chain {Hs : Nat → Hp} {id : Nat} : ∀ (d M : Nat), (∀ k, M ≤ k → k < M + d → (Hs (k + 1)).get id = (Hs k).get id) → (Hs (M + d)).get id = (Hs M).get id
  | 0, _, _ => rfl
  | d + 1, M, h => by
    rw [← Nat.add_assoc, h (M + d) (by omega) (by omega)]
    exact keep_chain d M fun k h1 h2 => h k h1 (by omega)

/-- what oddOk has looked at -/
theorem oddOk_at {ops : List Oper} {snap : List (T AV × Hp × Hp)} : ∀ {l : List (Nat × Nat)}, oddOk ops snap l = true → ∀ i j, (i, j) ∈ l →
    ∃ a E G0 H0 E0 G H, nth snap i = some (E, G0, H0) ∧ idAt E (nth ops i) = some a ∧ nth snap j = some (E0, G, H) ∧ G.get a = H.get a
  | [], _, _, _, h => by cases h
  | (x, y) :: l, h, i, j, hm => by
    simp only [oddOk] at h
    split at h
    · rename_i E G0 H0 E0 G H h1 h2
      split at h
      · rename_i a h3
        cases hb : beqOO (G.get a) (H.get a) with
        | false => rw [hb, cond_false] at h; cases h
        | true =>
          rw [hb, cond_true] at h
          cases hm with
          | head => exact ⟨a, E, G0, H0, E0, G, H, h1, h3, h2, beqOO_eq hb⟩
          | tail _ hm => exact oddOk_at h i j hm
      · cases h
    · cases h
end Go.Av
/- Regions of open order: the canonical run's heaps. Conditions: the prims leave alone what they must. -/
namespace Go.Av

/-- a region and its canonical run -/
structure Reg (C : Ctx) (ops : Array Oper) (odd : List (Nat × Nat)) (fuel : Nat) (Es : Nat → T AV) (Hs : Nat → Hp) : Prop where
  ok : drawOk C ops odd = true
  step : ∀ k o, ops[k]? = some o → StepA C fuel ops.toList o (Es k) (Hs k) (Es (k + 1)) (Hs (k + 1))
  odd : ∀ i j o, (i, j) ∈ odd → ops[i]? = some o → ∃ a, idAt (Es i) (some o) = some a ∧ (Hs (j + 1)).get a = (Hs j).get a
  keeps : PrimKept C
  stop : ∀ k, ops.size ≤ k → Hs (k + 1) = Hs k

section
variable {C : Ctx} {ops : Array Oper} {odd : List (Nat × Nat)} {fuel : Nat} {Es : Nat → T AV} {Hs : Nat → Hp}

theorem Reg.kept (g : Reg C ops odd fuel Es Hs) (k : Nat) : Kept (Hs k) (Hs (k + 1)) := by
  cases ho : ops[k]? with
  | none =>
    rw [g.stop k (by
      rcases Nat.lt_or_ge k ops.size with h | h
      · rw [Array.getElem?_eq_getElem h] at ho; cases ho
      · exact h)]
    exact Kept.refl _
  | some o =>
    rcases g.step k o ho with ⟨_, _, h⟩ | ⟨_, v, _, h | ⟨f, args, m, _, h1, h2⟩⟩
    · rw [h]; exact Kept.refl _
    · exact op_kept h v _ (.head _)
    · exact (kept_all g.keeps m).call _ _ _ _ h2 _ (.head _)
theorem Reg.mono (g : Reg C ops odd fuel Es Hs) : ∀ i j, i ≤ j → (Hs i).next ≤ (Hs j).next := by
  intro i j h
  induction h with
  | refl => exact Nat.le_refl _
  | step _ ih => exact Nat.le_trans ih (g.kept _).1

theorem val1_heap {H H' : Hp} {x : Option AV} {v : AV} (h : val1 H x = some [.val v H']) : H' = H := by
  cases x with
  | none => cases h
  | some y => simp [val1] at h; exact h.2.symm
/-- operations that read leave the heap as it is -/
theorem readOp_heap {E : T AV} {H H' : Hp} {o : Op} (hc : clsOf C o = 1 ∨ clsOf C o = 3) {v : AV} (h : opA C E H o = some [.val v H']) : H' = H := by
  cases o <;> simp only [opA, opB] at h <;> try (first | cases h; done | exact val1_heap h)
  case makeFunc f first cap => cases f <;> first | exact val1_heap h | cases h
  case makeMap t rs => cases rs <;> simp [clsOf] at hc
  case call c =>
    unfold oCall at h
    simp only [clsOf, clsCall] at hc
    cases hargs : evs E c.args.toList with
    | none => simp [hargs] at h
    | some args =>
      simp only [hargs] at h
      cases hcc : c.callee with
      | builtin b =>
        simp only [hcc] at h hc
        unfold builtinA at h
        split at h <;> try (simp at hc; done)
        all_goals first | exact val1_heap h | cases h
      | value f =>
        simp only [hcc] at h
        split at h
        · cases h
        · cases h
      | invoke r m => simp only [hcc] at h; cases h
  all_goals (simp [clsOf] at hc)

theorem call_cls {E : T AV} {H : Hp} {o : Op} {f : FuncId} {args : List AV} (h : opA C E H o = some [.call f args]) (hc : clsOf C o ≠ 4) : C.quiet f = true := by
  have no : ∀ {x : Option AV}, val1 H x = some [Nx.call f args] → False := by
    intro x hx; cases x <;> simp [val1] at hx
  have no2 : ∀ {x : Option (AV × Hp)}, val2 x = some [Nx.call f args] → False := by
    intro x hx; cases x <;> simp [val2] at hx
  have noS : ∀ {x : Option Hp}, skip1 x = some [Nx.call f args] → False := by
    intro x hx; cases x <;> simp [skip1] at hx
  cases o <;> simp only [opA, opB] at h <;> try (first | cases h; done | exact (no h).elim | exact (no2 h).elim | exact (noS h).elim)
  case makeFunc g first cap => cases g <;> first | exact (no h).elim | cases h
  case makeMap t rs => cases rs <;> first | exact (no2 h).elim | cases h
  case next it s => simp [clsOf] at hc
  case call c =>
    unfold oCall at h
    simp only [clsOf, clsCall] at hc
    cases hargs : evs E c.args.toList with
    | none => simp [hargs] at h
    | some as =>
      simp only [hargs] at h
      cases hcc : c.callee with
      | builtin b =>
        simp only [hcc] at h
        unfold builtinA at h
        split at h <;> first | exact (no h).elim | exact (no2 h).elim | exact (noS h).elim | cases h
      | value x =>
        simp only [hcc] at h hc
        cases x with
        | func g =>
          simp [ev] at h
          rw [← h.1]
          cases hq : C.quiet g with
          | true => rfl
          | false => simp [hq] at hc
        | _ => simp at hc
      | invoke r m => simp only [hcc] at h; cases h

/-- what isn't of class 4 leaves all that was there as it was -/
theorem Reg.keep2 (g : Reg C ops odd fuel Es Hs) {k : Nat} (hc : ∀ o, ops[k]? = some o → clsOf C o.op ≠ 4) : Keep2 (Hs k) (Hs (k + 1)) := by
  cases ho : ops[k]? with
  | none =>
    rw [g.stop k (by
      rcases Nat.lt_or_ge k ops.size with h | h
      · rw [Array.getElem?_eq_getElem h] at ho; cases ho
      · exact h)]
    exact Keep2.refl _
  | some o =>
    have hc := hc o ho
    rcases g.step k o ho with ⟨_, _, h⟩ | ⟨_, v, _, h | ⟨f, args, m, _, h1, h2⟩⟩
    · rw [h]; exact Keep2.refl _
    · have h5 : clsOf C o.op = 0 ∨ clsOf C o.op = 1 ∨ clsOf C o.op = 2 ∨ clsOf C o.op = 3 := by
        have : clsOf C o.op ≤ 4 := by
          cases o.op <;> simp only [clsOf, clsCall] <;> try omega
          all_goals (repeat' split) <;> try omega
          all_goals (rename_i q; cases C.quiet _ <;> simp)
        omega
      rcases h5 with h5 | h5 | h5 | h5
      · have := pureOp_heap h5 h (Hs k)
        rw [h] at this; simp at this; rw [this]; exact Keep2.refl _
      · rw [readOp_heap (.inl h5) h]; exact Keep2.refl _
      · obtain ⟨ob, h6, _⟩ := freshOp_heap h5 h; rw [h6]; exact Keep2.new _ _
      · rw [readOp_heap (.inr h5) h]; exact Keep2.refl _
    · exact quiet_kept g.keeps (call_cls h1 hc) h2 _ (.head _)
end
end Go.Av
/- Regions of open order: what has been done when an operation comes to be. Conditions: none. -/
namespace Go.Av

/-- what has been done: with each operation all those that it must follow -/
def Closed (ops : Array Oper) (S : Nat → Prop) : Prop := ∀ k o, ops[k]? = some o → S k → ∀ e ∈ edgesOf o, S e

section
variable {C : Ctx} {ops : Array Oper} {odd : List (Nat × Nat)} {S : Nat → Prop} {i j : Nat} {a b : Oper}
theorem order_before (h : drawOk C ops odd = true) (hS : Closed ops S) (hi : ops[i]? = some a) (hr : ∀ e ∈ edgesOf a, S e) (hj : ops[j]? = some b) (hij : j < i) (hn : ¬ S j) : freeOk C ops odd j i b a = true := by
  rcases drawOk_pair h hij hj hi with h1 | h1
  · exact absurd (h1 S hS a hi hr) hn
  · exact h1
theorem order_after (h : drawOk C ops odd = true) (hS : Closed ops S) (hi : ops[i]? = some a) (hni : ¬ S i) (hj : ops[j]? = some b) (hij : i < j) (hsj : S j) : freeOk C ops odd i j a b = true := by
  rcases drawOk_pair h hij hi hj with h1 | h1
  · exact absurd (h1 S hS b hj (hS j b hj hsj)) hni
  · exact h1
theorem free_apart (h : freeOk C ops odd i j a b = true) : a.apart ops b = true := by
  simp only [freeOk, Bool.and_eq_true] at h; exact h.1

theorem put_other {E : T AV} {d : Option Tmp} {v : AV} {t : Nat} (h : d ≠ some t) : (putE E d v).get t = E.get t := by
  cases d with
  | none => rfl
  | some d => simp only [putE, T.get_set]; rw [if_neg (fun e => h (by rw [e]))]
/-- a slot that an operation doesn't write -/
theorem Reg.slot {fuel : Nat} {Es : Nat → T AV} {Hs : Nat → Hp} (g : Reg C ops odd fuel Es Hs) {k : Nat} {o : Oper} (ho : ops[k]? = some o) {t : Nat} (h : o.dst ≠ some t) : (Es (k + 1)).get t = (Es k).get t := by
  rcases g.step k o ho with ⟨_, h1, _⟩ | ⟨_, v, h1, _⟩
  · rw [h1]; exact put_other h
  · rw [h1]; exact put_other h

/-- a slot that is not written for a while -/
theorem Reg.slots {fuel : Nat} {Es : Nat → T AV} {Hs : Nat → Hp} (g : Reg C ops odd fuel Es Hs) {t : Nat} : ∀ (d m : Nat), m + d ≤ ops.size → (∀ k o, m ≤ k → k < m + d → ops[k]? = some o → o.dst ≠ some t) → (Es (m + d)).get t = (Es m).get t
  | 0, _, _, _ => rfl
  | d + 1, m, hs, h => by
    have hlt : m + d < ops.size := by omega
    rw [← Nat.add_assoc, g.slot (Array.getElem?_eq_getElem hlt) (h (m + d) _ (by omega) (by omega) (Array.getElem?_eq_getElem hlt))]
    exact Reg.slots g d m (by omega) fun k o h1 h2 h3 => h k o h1 (by omega) h3

/-- m: behind the last of those done that write a slot -/
def LastW (ops : Array Oper) (S : Nat → Prop) (t m : Nat) : Prop :=
  (m = 0 ∨ ∃ o, ops[m - 1]? = some o ∧ o.dst = some t ∧ S (m - 1)) ∧ ∀ j o, ops[j]? = some o → o.dst = some t → S j → j < m

/-- what an operation looks at is what the canonical run has there -/
theorem Reg.looks {fuel : Nat} {Es : Nat → T AV} {Hs : Nat → Hp} (g : Reg C ops odd fuel Es Hs) (hS : Closed ops S) (hi : ops[i]? = some a) (hr : ∀ e ∈ edgesOf a, S e) (hni : ¬ S i) {t m : Nat} (ht : t ∈ a.looksAt ops) (hl : LastW ops S t m) :
    m ≤ i ∧ (Es i).get t = (Es m).get t := by
  have hlt : i < ops.size := (Array.getElem?_eq_some_iff.1 hi).1
  have hmi : m ≤ i := by
    rcases hl.1 with h | ⟨o, h1, h2, h3⟩
    · omega
    · rcases Nat.lt_or_ge i (m - 1) with hlt | hge
      · have := (Oper.apart_spec (free_apart (order_after g.ok hS hi hni h1 hlt h3))).2.2 t h2
        exact absurd ht this
      · rcases Nat.lt_or_ge (m - 1) i with h | h
        · omega
        · have : m - 1 = i := by omega
          rw [this] at h3; exact absurd h3 hni
  refine ⟨hmi, ?_⟩
  have := g.slots (t := t) (i - m) m (by omega) (fun k o h1 h2 h3 h4 => by
    by_cases hk : S k
    · have := hl.2 k o h3 h4 hk; omega
    · have := (Oper.apart_spec (free_apart (order_before g.ok hS hi hr h3 (by omega) hk))).1 t h4
      exact absurd ht this)
  rwa [show m + (i - m) = i by omega] at this

/-- m: behind the last of those done that write memory -/
def LastC (C : Ctx) (ops : Array Oper) (S : Nat → Prop) (m : Nat) : Prop :=
  (m = 0 ∨ ∃ o, ops[m - 1]? = some o ∧ clsOf C o.op = 4 ∧ S (m - 1)) ∧ ∀ j o, ops[j]? = some o → clsOf C o.op = 4 → S j → j < m
theorem free_cls (h : freeOk C ops odd i j a b = true) : ¬ (clsOf C b.op = 4 ∧ (clsOf C a.op = 4 ∨ clsOf C a.op = 3 ∨ clsOf C a.op = 2)) ∧ ¬ (clsOf C a.op = 4 ∧ clsOf C b.op = 3) := by
  simp only [freeOk, Bool.and_eq_true] at h
  refine ⟨fun ⟨h1, h2⟩ => ?_, fun ⟨h1, h2⟩ => ?_⟩
  · rcases h2 with h2 | h2 | h2 <;> simp [h1, h2] at h
  · simp [h1, h2] at h
/-- what is called, or writes, comes to be in order with all that writes -/
theorem heavy {m : Nat} (h : drawOk C ops odd = true) (hS : Closed ops S) (hi : ops[i]? = some a) (hr : ∀ e ∈ edgesOf a, S e) (hni : ¬ S i) (hc : clsOf C a.op = 3 ∨ clsOf C a.op = 4) (hl : LastC C ops S m) :
    m ≤ i ∧ ∀ k o, m ≤ k → k < i → ops[k]? = some o → clsOf C o.op ≠ 4 := by
  refine ⟨?_, fun k o h1 h2 h3 h4 => ?_⟩
  · rcases hl.1 with h0 | ⟨o, h1, h2, h3⟩
    · omega
    · rcases Nat.lt_or_ge i (m - 1) with hlt | hge
      · have := (free_cls (order_after h hS hi hni h1 hlt h3)).1
        exact absurd ⟨h2, by rcases hc with hc | hc <;> simp [hc]⟩ this
      · rcases Nat.lt_or_ge (m - 1) i with h | h
        · omega
        · have : m - 1 = i := by omega
          rw [this] at h3; exact absurd h3 hni
  · by_cases hk : S k
    · have := hl.2 k o h3 h4 hk; omega
    · have := free_cls (order_before h hS hi hr h3 h2 hk)
      rcases hc with hc | hc
      · exact this.2 ⟨h4, hc⟩
      · exact this.1 ⟨hc, .inl h4⟩
end
end Go.Av
/- Regions of open order: what has been done, and the state then; one step more. Conditions: none. -/
namespace Go.Av

/-- numbers below n alone -/
def Emb.cut (ι : Emb) (n : Nat) : Emb := fun i => if i < n then ι i else none
theorem Emb.cut_lt {ι : Emb} {n i : Nat} (h : i < n) : ι.cut n i = ι i := by simp [Emb.cut, h]
theorem Emb.cut_some {ι : Emb} {n i : Nat} {x : Nat × Nat} (h : ι.cut n i = some x) : i < n ∧ ι i = some x := by
  unfold Emb.cut at h
  split at h
  · exact ⟨by assumption, h⟩
  · cases h
theorem Emb.cut_sub (ι : Emb) (n : Nat) : SubE (ι.cut n) ι := fun i x h => (Emb.cut_some h).2
/-- numbers below n from the one, all others from the other one -/
def Emb.join (ι' ι : Emb) (n : Nat) : Emb := fun i => if i < n then ι' i else ι i
theorem Emb.join_lt {ι' ι : Emb} {n i : Nat} (h : i < n) : Emb.join ι' ι n i = ι' i := by simp [Emb.join, h]
theorem Emb.join_ge {ι' ι : Emb} {n i : Nat} (h : n ≤ i) : Emb.join ι' ι n i = ι i := by
  unfold Emb.join; rw [if_neg (by omega)]

/-- as Post.trans, but of numbers in between -/
theorem Post.then {ι0 ι1 ι2 : Emb} {H0 H1 H2 : Hp} {w0 w1 w2 : World} (hd : ∀ i b s, ι0 i = some (b, s) → i < H0.next) (p : Post ι0 ι1 H0 H1 w0 w1)
    (sub : SubE ι1 ι2) (keeps : Keeps w1 w2) (os : w2.os = w1.os) (tape : w2.tape = w1.tape) (output : w2.output = w1.output) (next : H0.next ≤ H2.next) (prot : H2.prot = H0.prot)
    (old : ∀ i o', i < H0.next → H2.get i = some o' → ∃ o, H1.get i = some o ∧ o.isRo = o'.isRo)
    (fresh : ∀ i b s, ι1 i = none → ι2 i = some (b, s) → H0.next ≤ i ∧ (w1.heap.size ≤ b ∨ ∃ j s' o, ι1 j = some (b, s') ∧ H1.get j = some o ∧ o.isRo = false))
    (frame : ∀ b, b < w1.heap.size → (∀ j s o, ι1 j = some (b, s) → H1.get j = some o → o.isRo = true) → w2.heap[b]? = w1.heap[b]?)
    (kp : ∀ i, i < H0.prot → i < H0.next → H2.get i = H1.get i)
    (pf : ∀ i b s o, i < H0.prot → i < H0.next → ι1 i = some (b, s) → H1.get i = some o → w2.heap[b]? = w1.heap[b]?) : Post ι0 ι2 H0 H2 w0 w2 := by
  refine ⟨p.sub.trans sub, p.keeps.trans keeps, os.trans p.os, tape.trans p.tape, output.trans p.output, next, prot, ?_, ?_, ?_, fun i h1 h2 => (kp i h1 h2).trans (p.kp i h1 h2), ?_⟩
  · intro i o' hi h
    obtain ⟨o1, h1, e1⟩ := old i o' hi h
    obtain ⟨o, h0, e0⟩ := p.old i o1 hi h1
    exact ⟨o, h0, e0.trans e1⟩
  · intro i b s h0 h2
    cases h1 : ι1 i with
    | some x =>
      obtain ⟨b', s'⟩ := x
      have := sub _ _ h1
      rw [h2] at this; cases this
      exact p.fresh i b s h0 h1
    | none =>
      obtain ⟨hi, hb⟩ := fresh i b s h1 h2
      refine ⟨hi, ?_⟩
      rcases hb with hb | ⟨j, s', o, hj, ho, hr⟩
      · exact .inl (Nat.le_trans p.keeps.size hb)
      · cases hj0 : ι0 j with
        | none => exact (p.fresh j b s' hj0 hj).2
        | some x =>
          obtain ⟨b', s''⟩ := x
          have := p.sub _ _ hj0
          rw [hj] at this; cases this
          obtain ⟨o0, h00, e0⟩ := p.old j o (hd j _ _ hj0) ho
          exact .inr ⟨j, s', o0, hj0, h00, e0.trans hr⟩
  · intro b hb hl
    have hp := p.frame b hb hl
    rw [frame b (Nat.lt_of_lt_of_le hb p.keeps.size) ?_, hp]
    intro j s o hj ho
    cases hj0 : ι0 j with
    | none =>
      rcases (p.fresh j b s hj0 hj).2 with h | ⟨j', s', o', h1, h2, h3⟩
      · omega
      · have := hl j' s' o' h1 h2; rw [h3] at this; cases this
    | some x =>
      obtain ⟨b', s''⟩ := x
      have := p.sub _ _ hj0
      rw [hj] at this; cases this
      obtain ⟨o0, h00, e0⟩ := p.old j o (hd j _ _ hj0) ho
      rw [← e0]; exact hl j s o0 hj0 h00
  · intro i b s o h1 h2 h3
    have hi := hd i _ _ h2
    exact (pf i b s o h1 hi (p.sub _ _ h2) (by rw [p.kp i h1 hi]; exact h3)).trans (p.pf i b s o h1 h2 h3)

/-- a step on a part of the heap (the numbers below n), the rest (born behind it) standing by -/
theorem merge_step {ι0 ι ι2 : Emb} {H0 HS HS' HL HL' : Hp} {w0 w w' : World} {n n' : Nat} (hd : ∀ i b s, ι0 i = some (b, s) → i < H0.next) (h0n : H0.next ≤ n) (hnn : n ≤ n')
    (r : R ι HS w) (p0 : Post ι0 ι H0 HS w0 w) (hgap : ∀ i, n ≤ i → i < n' → ι i = none) (hnx : HS'.next = HS.next) (hn' : n' ≤ HS.next) (hpr : HS'.prot = H0.prot)
    (r2 : R ι2 HL' w') (q : Post (ι.cut n) ι2 HL HL' w w') (hLn : HL.next = n) (hLn' : HL'.next = n') (hLp : H0.prot ≤ HL.prot)
    (hL : ∀ i, i < n → HL.get i = HS.get i) (hL' : ∀ i, i < n' → HL'.get i = HS'.get i) (hlate : ∀ i, n' ≤ i → i < HS.next → HS'.get i = HS.get i)
    (hit : (∀ i x, n' ≤ i → ι i = some x → ∃ o, HS.get i = some o ∧ ∀ m s l c, o ≠ .iter m s l c) ∨ Same w w') :
    R (Emb.join ι2 ι n') HS' w' ∧ Post ι0 (Emb.join ι2 ι n') H0 HS' w0 w' ∧ SubE ι (Emb.join ι2 ι n') ∧ SubE ι2 (Emb.join ι2 ι n') := by
  have hdom2 : ∀ i x, ι2 i = some x → i < n' := fun i x h => by have := (r2.dom i x.1 x.2 h).1; omega
  have hs1 : SubE ι (Emb.join ι2 ι n') := by
    intro i x h
    rcases Nat.lt_or_ge i n' with h1 | h1
    · rw [Emb.join_lt h1]
      rcases Nat.lt_or_ge i n with h2 | h2
      · exact q.sub _ _ (by rw [Emb.cut_lt h2]; exact h)
      · rw [hgap i h2 h1] at h; cases h
    · rw [Emb.join_ge h1]; exact h
  have hs2 : SubE ι2 (Emb.join ι2 ι n') := fun i x h => by rw [Emb.join_lt (hdom2 i x h)]; exact h
  have back : ∀ i x, i < n → ι2 i = some x → ι i = some x := by
    intro i x hi h
    cases h0 : ι.cut n i with
    | none => have := (q.fresh i x.1 x.2 h0 h).1; omega
    | some y => have := q.sub _ _ h0; rw [h] at this; cases this; exact (Emb.cut_some h0).2
  -- what lies late is untouched
  have lateB : ∀ i b s o, n' ≤ i → ι i = some (b, s) → HS.get i = some o → w'.heap[b]? = w.heap[b]? := by
    intro i b s o hi h1 h2
    refine q.frame b (r.dom _ _ _ h1).2 fun j s' o' hj ho => ?_
    obtain ⟨hjn, hj⟩ := Emb.cut_some hj
    rw [hL j hjn] at ho
    exact (r.inj j i b s' s o' o (by omega) hj h1 ho h2).1
  have clash : ∀ i j b s s', i < n' → n ≤ i → ι2 i = some (b, s) → n' ≤ j → ι j = some (b, s') → ∃ j' s'' o, ι.cut n j' = some (b, s'') ∧ HL.get j' = some o ∧ o.isRo = false := by
    intro i j b s s' h1 h2 h3 h4 h5
    have h6 : ι.cut n i = none := by unfold Emb.cut; rw [if_neg (by omega)]
    rcases (q.fresh i b s h6 h3).2 with h7 | h7
    · have := (r.dom j b s' h5).2; omega
    · exact h7
  have r' : R (Emb.join ι2 ι n') HS' w' := by
    refine ⟨?_, ?_, ?_, ?_⟩
    · intro i b s h
      rcases Nat.lt_or_ge i n' with h1 | h1
      · rw [Emb.join_lt h1] at h; exact ⟨by omega, (r2.dom i b s h).2⟩
      · rw [Emb.join_ge h1] at h; exact ⟨by rw [hnx]; exact (r.dom i b s h).1, Nat.lt_of_lt_of_le (r.dom i b s h).2 q.keeps.size⟩
    · -- inj
      have mixed : ∀ i j b s s' o o', i < n' → n' ≤ j → ι2 i = some (b, s) → ι j = some (b, s') → HS'.get i = some o → HS'.get j = some o' → o.isRo = true ∧ o'.isRo = true := by
        intro i j b s s' o o' hi hj h1 h2 h3 h4
        rw [hlate j hj (r.dom _ _ _ h2).1] at h4
        rcases Nat.lt_or_ge i n with hin | hin
        · have hi1 := back i _ hin h1
          rw [← hL' i hi] at h3
          obtain ⟨o1, g1, g2⟩ := q.old i o (by omega) h3
          rw [hL i hin] at g1
          have := r.inj i j b s s' o1 o' (by omega) hi1 h2 g1 h4
          rw [← g2]; exact this
        · obtain ⟨j', s'', o1, g1, g2, g3⟩ := clash i j b s s' hi hin h1 hj h2
          obtain ⟨g4, g5⟩ := Emb.cut_some g1
          rw [hL j' g4] at g2
          have := (r.inj j' j b s'' s' o1 o' (by omega) g5 h2 g2 h4).1
          rw [g3] at this; cases this
      intro i j b s s' o o' hne h1 h2 h3 h4
      rcases Nat.lt_or_ge i n' with hi | hi
      · rw [Emb.join_lt hi] at h1
        rcases Nat.lt_or_ge j n' with hj | hj
        · rw [Emb.join_lt hj] at h2
          exact r2.inj i j b s s' o o' hne h1 h2 (by rw [hL' i hi]; exact h3) (by rw [hL' j hj]; exact h4)
        · rw [Emb.join_ge hj] at h2
          exact mixed i j b s s' o o' hi hj h1 h2 h3 h4
      · rw [Emb.join_ge hi] at h1
        rcases Nat.lt_or_ge j n' with hj | hj
        · rw [Emb.join_lt hj] at h2
          exact (mixed j i b s' s o' o hj hi h2 h1 h4 h3).symm
        · rw [Emb.join_ge hj] at h2
          rw [hlate i hi (r.dom _ _ _ h1).1] at h3; rw [hlate j hj (r.dom _ _ _ h2).1] at h4
          exact r.inj i j b s s' o o' hne h1 h2 h3 h4
    · -- injm
      have lateS : ∀ j b s', n' ≤ j → ι j = some (b, s') → w'.heap[b]? = w.heap[b]? := by
        intro j b s' hj h
        rcases hit with h1 | h1
        · obtain ⟨o, h2, _⟩ := h1 j _ hj h
          exact lateB j b s' o hj h h2
        · exact h1 b (r.dom j b s' h).2
      have mixed : ∀ i j b s s' ents clk, i < n' → n' ≤ j → ι2 i = some (b, s) → ι j = some (b, s') → w'.heap[b]? = some (Go.Obj.map ents clk) → False := by
        intro i j b s s' ents clk hi hj h1 h2 h3
        rcases Nat.lt_or_ge i n with hin | hin
        · have := r.injm i j b s s' ents clk (back i _ hin h1) h2 (by rw [← lateS j b s' hj h2]; exact h3)
          omega
        · obtain ⟨j', s'', o1, g1, g2, g3⟩ := clash i j b s s' hi hin h1 hj h2
          have := r2.injm i j' b s s'' ents clk h1 (q.sub _ _ g1) h3
          have := (Emb.cut_some g1).1
          omega
      intro i j b s s' ents clk h1 h2 h3
      rcases Nat.lt_or_ge i n' with hi | hi
      · rw [Emb.join_lt hi] at h1
        rcases Nat.lt_or_ge j n' with hj | hj
        · rw [Emb.join_lt hj] at h2
          exact r2.injm i j b s s' ents clk h1 h2 h3
        · rw [Emb.join_ge hj] at h2
          exact (mixed i j b s s' ents clk hi hj h1 h2 h3).elim
      · rw [Emb.join_ge hi] at h1
        rcases Nat.lt_or_ge j n' with hj | hj
        · rw [Emb.join_lt hj] at h2
          exact (mixed j i b s' s ents clk hj hi h2 h1 h3).elim
        · rw [Emb.join_ge hj] at h2
          exact r.injm i j b s s' ents clk h1 h2 (by rw [← lateS i b s hi h1]; exact h3)
    · -- obj
      intro i b s o h1 h2
      rcases Nat.lt_or_ge i n' with hi | hi
      · rw [Emb.join_lt hi] at h1
        exact OR.mono hs2 (Keeps.refl _) (fun _ _ _ _ => rfl) rfl (r2.obj i b s o h1 (by rw [hL' i hi]; exact h2))
      · rw [Emb.join_ge hi] at h1
        rw [hlate i hi (r.dom _ _ _ h1).1] at h2
        have ho := r.obj i b s o h1 h2
        have hb := lateB i b s o hi h1 h2
        rcases hit with h3 | h3
        · obtain ⟨o', g1, g2⟩ := h3 i _ hi h1
          rw [h2] at g1; cases g1
          cases o with
          | row ro cs => obtain ⟨cur, e', fr, g1, g2, g0, g3⟩ := ho; exact ⟨cur, e', fr, hb.trans g1, g2, g0, VRs.mono hs1 q.keeps _ _ g3⟩
          | map es clk => obtain ⟨ents, g1, g2⟩ := ho; exact ⟨ents, hb.trans g1, g2.mono hs1 q.keeps⟩
          | iter m since left cur => exact absurd rfl (g2 _ _ _ _)
        · exact OR.mono hs1 q.keeps (fun b' _ _ h => h3 b' (blk_lt h)) hb ho
  refine ⟨r', ?_, hs1, hs2⟩
  refine Post.then hd p0 hs1 q.keeps q.os q.tape q.output (by rw [hnx]; omega) hpr ?_ ?_ ?_ ?_ ?_
  · intro i o' hi h
    obtain ⟨o, g1, g2⟩ := q.old i o' (by omega) (by rw [hL' i (by omega)]; exact h)
    exact ⟨o, by rw [← hL i (by omega)]; exact g1, g2⟩
  · intro i b s h1 h2
    rcases Nat.lt_or_ge i n' with hi | hi
    · rw [Emb.join_lt hi] at h2
      have h3 : ι.cut n i = none := by
        cases h4 : ι.cut n i with
        | none => rfl
        | some y => rw [(Emb.cut_some h4).2] at h1; cases h1
      obtain ⟨g1, g2⟩ := q.fresh i b s h3 h2
      refine ⟨by omega, ?_⟩
      rcases g2 with g2 | ⟨j, s', o, g3, g4, g5⟩
      · exact .inl g2
      · obtain ⟨g6, g7⟩ := Emb.cut_some g3
        exact .inr ⟨j, s', o, g7, by rw [← hL j g6]; exact g4, g5⟩
    · rw [Emb.join_ge hi] at h2; rw [h1] at h2; cases h2
  · intro b hb hl
    refine q.frame b hb fun j s o g1 g2 => ?_
    obtain ⟨g3, g4⟩ := Emb.cut_some g1
    exact hl j s o g4 (by rw [← hL j g3]; exact g2)
  · intro i h1 h2
    rw [← hL' i (by omega), q.kp i (by omega) (by omega), hL i (by omega)]
  · intro i b s o h1 h2 h3 h4
    exact q.pf i b s o (by omega) (by rw [Emb.cut_lt (by omega)]; exact h3) (by rw [hL i (by omega)]; exact h4)
end Go.Av
/- Regions of open order: the state when some operations have been done. Conditions: none. -/
namespace Go.Av

/-- the heap's mark along the canonical run -/
def nxt (Hs : Nat → Hp) (k : Nat) : Nat := (Hs k).next
/-- behind a number's birth -/
def brn (Hs : Nat → Hp) (N id : Nat) : Nat := birth (nxt Hs) id N

structure Inv (C : Ctx) (ops : Array Oper) (Es : Nat → T AV) (Hs : Nat → Hp) (nt : Nat) (ι0 : Emb) (w0 : World) (S : Nat → Prop) (ι : Emb) (HS : Hp) (ES : T AV) (m : Nat) (a : Act) (w : World) : Prop where
  r : R ι HS w
  nx : HS.next = (Hs ops.size).next
  pr : HS.prot = (Hs 0).prot
  re : RE ι w ES a.tmps
  sz : nt ≤ a.tmps.size
  df : a.defers = []
  post : Post ι0 ι (Hs 0) HS w0 w
  slot : ∀ t, ∃ k, LastW ops S t k ∧ ES.get t = (Es k).get t ∧ AV.und (Hs k).next ((ES.get t).getD undefA) = true
  last : LastC C ops S m
  get : ∀ id, id < HS.next → HS.get id = (Hs (max m (brn Hs ops.size id))).get id
  born : ∀ id x, ι id = some x → brn Hs ops.size id = 0 ∨ S (brn Hs ops.size id - 1)
  und : ∀ id x o, ι id = some x → HS.get id = some o → ∀ j, brn Hs ops.size id ≤ j → j ≤ max m (brn Hs ops.size id) →
    (∀ j', j ≤ j' → j' ≤ max m (brn Hs ops.size id) → (Hs j').get id = some o) → o.undO (Hs j).next

section
variable {P : Program} {C : Ctx} {ops : Array Oper} {odd : List (Nat × Nat)} {fuel nt : Nat} {Es : Nat → T AV} {Hs : Nat → Hp} {ι0 ι : Emb} {w0 w : World} {S : Nat → Prop} {HS : Hp} {ES : T AV} {m : Nat} {a : Act} {i : Nat} {o : Oper}

theorem Reg.birth_of (g : Reg C ops odd fuel Es Hs) {id k : Nat} (h : id < (Hs k).next) : brn Hs ops.size id ≤ k := birth_of_lt (nx := nxt Hs) g.mono h
theorem Reg.lt_birth (g : Reg C ops odd fuel Es Hs) {id : Nat} (h : id < (Hs ops.size).next) : id < (Hs (brn Hs ops.size id)).next := birth_lt (nx := nxt Hs) h
theorem Reg.ge_birth (g : Reg C ops odd fuel Es Hs) {id k : Nat} (h : k < brn Hs ops.size id) : (Hs k).next ≤ id := birth_ge (nx := nxt Hs) g.mono h

/-- over operations that leave a number alone -/
theorem Reg.chain (g : Reg C ops odd fuel Es Hs) {id M N : Nat} (hMN : M ≤ N) (hid : id < (Hs M).next)
    (h : ∀ k o, M ≤ k → k < N → ops[k]? = some o → clsOf C o.op = 4 → (Hs (k + 1)).get id = (Hs k).get id) : (Hs N).get id = (Hs M).get id := by
  have := keep_chain (Hs := Hs) (id := id) (N - M) M (fun k h1 h2 => by
    by_cases hc : ∃ o, ops[k]? = some o ∧ clsOf C o.op = 4
    · obtain ⟨o, h3, h4⟩ := hc
      exact h k o h1 (by omega) h3 h4
    · exact (g.keep2 (k := k) fun o h3 h4 => hc ⟨o, h3, h4⟩).2 id (Nat.lt_of_lt_of_le hid (g.mono M k h1)))
  rwa [show M + (N - M) = N by omega] at this

/-- all that writes and stands ahead of one that has been done has been done -/
theorem LastC.all (hok : drawOk C ops odd = true) (hS : Closed ops S) (hl : LastC C ops S m) {j : Nat} (hj : j < m) {b : Oper} (hb : ops[j]? = some b) (hc : clsOf C b.op = 4) : S j := by
  rcases hl.1 with h0 | ⟨o, h1, h2, h3⟩
  · omega
  · by_cases hs : S j
    · exact hs
    · by_cases e : j = m - 1
      · subst e; exact h3
      · have := (free_cls (order_after hok hS hb hs h1 (by omega) h3)).1
        exact absurd ⟨h2, .inl hc⟩ this

/-- one done more: its slot -/
theorem slot_step (g : Reg C ops odd fuel Es Hs) (hS : Closed ops S) (ho : ops[i]? = some o) (hni : ¬ S i) (hr : ∀ e ∈ edgesOf o, S e) {v : AV}
    (hE : Es (i + 1) = putE (Es i) o.dst v) (hv : AV.und (Hs (i + 1)).next v = true)
    (h : ∀ t, ∃ k, LastW ops S t k ∧ ES.get t = (Es k).get t ∧ AV.und (Hs k).next ((ES.get t).getD undefA) = true) :
    ∀ t, ∃ k, LastW ops (fun j => S j ∨ j = i) t k ∧ (putE ES o.dst v).get t = (Es k).get t ∧ AV.und (Hs k).next (((putE ES o.dst v).get t).getD undefA) = true := by
  intro t
  by_cases hd : o.dst = some t
  · refine ⟨i + 1, ⟨.inr ⟨o, by simpa using ho, hd, .inr rfl⟩, ?_⟩, ?_, ?_⟩
    · intro j b hb hbd hj
      rcases hj with hj | hj
      · rcases Nat.lt_or_ge i j with hij | hij
        · have := (Oper.apart_spec (free_apart (order_after g.ok hS ho hni hb hij hj))).2.1 t hd
          exact absurd hbd this
        · omega
      · omega
    · rw [hE, hd]; simp [putE, T.get_set]
    · rw [hd]; simp only [putE, T.get_set, if_true, Option.getD_some]; exact hv
  · obtain ⟨k, h1, h2, h3⟩ := h t
    refine ⟨k, ⟨?_, ?_⟩, ?_, ?_⟩
    · rcases h1.1 with h4 | ⟨b, h4, h5, h6⟩
      · exact .inl h4
      · exact .inr ⟨b, h4, h5, .inl h6⟩
    · intro j b hb hbd hj
      rcases hj with hj | hj
      · exact h1.2 j b hb hbd hj
      · subst hj; rw [ho] at hb; cases hb; exact absurd hbd hd
    · rw [put_other hd]; exact h2
    · rw [put_other hd]; exact h3

/-- the last that writes, when one of another sort is done -/
theorem LastC.light (hl : LastC C ops S m) (ho : ops[i]? = some o) (hc : clsOf C o.op ≠ 4) : LastC C ops (fun j => S j ∨ j = i) m := by
  refine ⟨?_, ?_⟩
  · rcases hl.1 with h4 | ⟨b, h4, h5, h6⟩
    · exact .inl h4
    · exact .inr ⟨b, h4, h5, .inl h6⟩
  · intro j b hb hbc hj
    rcases hj with hj | hj
    · exact hl.2 j b hb hbc hj
    · subst hj; rw [ho] at hb; cases hb; exact absurd hbc hc

/-- what an operation looks at: the canonical slots, held against the machine's, by numbers that are born -/
theorem Inv.at (g : Reg C ops odd fuel Es Hs) (hS : Closed ops S) (ho : ops[i]? = some o) (hni : ¬ S i) (hr : ∀ e ∈ edgesOf o, S e) (v : Inv C ops Es Hs nt ι0 w0 S ι HS ES m a w) :
    (∀ t ∈ o.looksAt ops, ES.get t = (Es i).get t) ∧ ∀ t ∈ o.looksAt ops, VR (ι.cut (Hs i).next) w (((Es i).get t).getD undefA) (a.tmps.getD t undef) := by
  have h1 : ∀ t ∈ o.looksAt ops, ES.get t = (Es i).get t ∧ AV.und (Hs i).next ((ES.get t).getD undefA) = true := by
    intro t ht
    obtain ⟨k, g1, g2, g3⟩ := v.slot t
    obtain ⟨g4, g5⟩ := g.looks hS ho hr hni ht g1
    exact ⟨g2.trans g5.symm, und_mono (g.mono _ _ g4) _ g3⟩
  refine ⟨fun t ht => (h1 t ht).1, fun t ht => ?_⟩
  rw [← (h1 t ht).1]
  exact VR.und (fun j x hj hx => by rw [Emb.cut_lt hj]; exact hx) _ _ (h1 t ht).2 (v.re t)

/-- the part of the memory that is born by then, if nothing behind has been written -/
theorem Inv.low (g : Reg C ops odd fuel Es Hs) (v : Inv C ops Es Hs nt ι0 w0 S ι HS ES m a w) (hmi : m ≤ i) (hi : i ≤ ops.size) {HL : Hp} (hn : HL.next = (Hs i).next) (hg : ∀ id, id < (Hs i).next → HL.get id = HS.get id) : R (ι.cut (Hs i).next) HL w := by
  refine ⟨?_, ?_, ?_, ?_⟩
  · intro id b s h
    obtain ⟨h1, h2⟩ := Emb.cut_some h
    exact ⟨by omega, (v.r.dom id b s h2).2⟩
  · intro id jd b s s' o1 o2 hne h1 h2 h3 h4
    obtain ⟨a1, a2⟩ := Emb.cut_some h1
    obtain ⟨b1, b2⟩ := Emb.cut_some h2
    exact v.r.inj id jd b s s' o1 o2 hne a2 b2 (by rw [← hg id a1]; exact h3) (by rw [← hg jd b1]; exact h4)
  · intro id jd b s s' ents clk h1 h2 h3
    exact v.r.injm id jd b s s' ents clk (Emb.cut_some h1).2 (Emb.cut_some h2).2 h3
  · intro id b s o1 h1 h2
    obtain ⟨a1, a2⟩ := Emb.cut_some h1
    rw [hg id a1] at h2
    have hb := g.birth_of a1
    have hu := v.und id _ o1 a2 h2 (max m (brn Hs ops.size id)) (Nat.le_max_right ..) (Nat.le_refl _) (fun j' h3 h4 => by
      rw [show j' = max m (brn Hs ops.size id) by omega, ← v.get id (v.r.dom id b s a2).1]; exact h2)
    exact OR.restrict (fun j x hj hx => by rw [Emb.cut_lt hj]; exact hx) (Obj.undO_mono (g.mono _ _ (by omega)) hu) (v.r.obj id b s o1 a2 h2)
end
end Go.Av
/- Regions of open order: one operation more. Conditions: none. -/
namespace Go.Av

section
variable {P : Program} {C : Ctx} {ops : Array Oper} {odd : List (Nat × Nat)} {fuel nt : Nat} {Es : Nat → T AV} {Hs : Nat → Hp} {ι0 ι : Emb} {w0 w : World} {S : Nat → Prop} {HS : Hp} {ES : T AV} {m : Nat} {a : Act} {i : Nat} {o : Oper}

theorem Closed.more (hS : Closed ops S) (ho : ops[i]? = some o) (hr : ∀ e ∈ edgesOf o, S e) : Closed ops (fun j => S j ∨ j = i) := by
  intro k b hb hk e he
  rcases hk with hk | hk
  · exact .inl (hS k b hb hk e he)
  · subst hk; rw [ho] at hb; cases hb; exact .inl (hr e he)

/-- the memory stays -/
theorem Inv.same (g : Reg C ops odd fuel Es Hs) (hS : Closed ops S) (ho : ops[i]? = some o) (hni : ¬ S i) (hr : ∀ e ∈ edgesOf o, S e) (hd : ∀ t, o.dst = some t → t < nt) (v : Inv C ops Es Hs nt ι0 w0 S ι HS ES m a w)
    (hc : clsOf C o.op ≠ 4) {x : AV} {u : Value} (hE : Es (i + 1) = putE (Es i) o.dst x) (hx : VR (ι.cut (Hs i).next) w x u) :
    Inv C ops Es Hs nt ι0 w0 (fun j => S j ∨ j = i) ι HS (putE ES o.dst x) m (a.put o.dst u) w := by
  refine ⟨v.r, v.nx, v.pr, v.re.put (VR.mono (Emb.cut_sub _ _) (Keeps.refl _) _ _ hx) (fun t ht => Nat.lt_of_lt_of_le (hd t ht) v.sz), by rw [put_size]; exact v.sz, by rw [put_defers']; exact v.df, v.post, ?_, v.last.light ho hc, v.get, fun id x h => (v.born id x h).imp (fun h => h) .inl, v.und⟩
  refine slot_step g hS ho hni hr hE (und_mono (g.mono _ _ (Nat.le_succ _)) _ ?_) v.slot
  exact VR.lt (fun j y hj => (Emb.cut_some hj).1) _ _ hx

/-- the memory is another one -/
theorem Inv.step (g : Reg C ops odd fuel Es Hs) (hd0 : ∀ j b s, ι0 j = some (b, s) → j < (Hs 0).next) (hS : Closed ops S) (ho : ops[i]? = some o) (hni : ¬ S i) (hr : ∀ e ∈ edgesOf o, S e) (hd : ∀ t, o.dst = some t → t < nt) (v : Inv C ops Es Hs nt ι0 w0 S ι HS ES m a w)
    (hmi : m ≤ i) {m' : Nat} (hm' : (m' = m ∧ clsOf C o.op ≠ 4) ∨ (m' = i + 1 ∧ clsOf C o.op = 4)) (hheavy : clsOf C o.op = 4 → ∀ k b, m ≤ k → k < i → ops[k]? = some b → clsOf C b.op ≠ 4)
    {HL HL' : Hp} {ι2 : Emb} {w' : World} {x : AV} {u : Value} (r2 : R ι2 HL' w') (q : Post (ι.cut (Hs i).next) ι2 HL HL' w w') (hLn : HL.next = (Hs i).next) (hLn' : HL'.next = (Hs (i + 1)).next) (hLp : (Hs 0).prot ≤ HL.prot)
    (hL : ∀ id, id < (Hs i).next → HL.get id = HS.get id) (hL' : ∀ id, id < (Hs (i + 1)).next → HL'.get id = (Hs (max m' (brn Hs ops.size id))).get id)
    (hit : (∀ id y, (Hs (i + 1)).next ≤ id → ι id = some y → ∃ o, HS.get id = some o ∧ ∀ m s l c, o ≠ .iter m s l c) ∨ Same w w')
    (hE : Es (i + 1) = putE (Es i) o.dst x) (hx : VR ι2 w' x u) :
    ∃ ι' HS', Inv C ops Es Hs nt ι0 w0 (fun j => S j ∨ j = i) ι' HS' (putE ES o.dst x) m' (a.put o.dst u) w' := by
  have hlt : i < ops.size := (Array.getElem?_eq_some_iff.1 ho).1
  obtain ⟨HS', n1, n2, n3⟩ := mkHp (fun id => (Hs (max m' (brn Hs ops.size id))).get id) HS.next HS.prot
  have hii := g.mono i (i + 1) (Nat.le_succ _)
  have hin := g.mono (i + 1) ops.size hlt
  have h0i := g.mono 0 i (Nat.zero_le _)
  have hm1 : m' ≤ i + 1 := by rcases hm' with h | h <;> omega
  have late : ∀ id, (Hs (i + 1)).next ≤ id → id < HS.next → i + 1 < brn Hs ops.size id := by
    intro id h1 h2
    rcases Nat.lt_or_ge (i + 1) (brn Hs ops.size id) with h | h
    · exact h
    · have := g.lt_birth (id := id) (by rw [← v.nx]; exact h2)
      have := g.mono _ _ h
      omega
  have notlow : ∀ id, (Hs i).next ≤ id → id < (Hs (i + 1)).next → brn Hs ops.size id = i + 1 := by
    intro id h1 h2
    have h3 := g.birth_of h2
    rcases Nat.lt_or_ge i (brn Hs ops.size id) with h | h
    · omega
    · have := g.lt_birth (id := id) (by omega)
      have := g.mono _ _ h
      omega
  have hlate : ∀ id, (Hs (i + 1)).next ≤ id → id < HS.next → HS'.get id = HS.get id := by
    intro id h1 h2
    rw [n3 id h2, v.get id h2]
    have := late id h1 h2
    rw [show max m' (brn Hs ops.size id) = max m (brn Hs ops.size id) by omega]
  have hgap : ∀ id, (Hs i).next ≤ id → id < (Hs (i + 1)).next → ι id = none := by
    intro id h1 h2
    cases h3 : ι id with
    | none => rfl
    | some y =>
      have h4 := notlow id h1 h2
      rcases v.born id y h3 with h5 | h5
      · omega
      · rw [h4] at h5; exact absurd h5 hni
  obtain ⟨a1, a2, a3, a4⟩ := merge_step (HS' := HS') hd0 h0i hii v.r v.post hgap n1 (by rw [v.nx]; exact hin) (by rw [n2, v.pr]) r2 q hLn hLn' hLp hL (fun id h => by rw [hL' id h, n3 id (by rw [v.nx]; omega)]) hlate hit
  have back : ∀ id y, id < (Hs i).next → ι2 id = some y → ι id = some y := by
    intro id y hi h
    cases h0 : ι.cut (Hs i).next id with
    | none => have := (q.fresh id y.1 y.2 h0 h).1; omega
    | some z => have := q.sub _ _ h0; rw [h] at this; cases this; exact (Emb.cut_some h0).2
  refine ⟨_, HS', a1, n1.trans v.nx, n2.trans v.pr, (v.re.mono a3 q.keeps).put (VR.mono a4 (Keeps.refl _) _ _ hx) (fun t ht => Nat.lt_of_lt_of_le (hd t ht) v.sz), by rw [put_size]; exact v.sz, by rw [put_defers']; exact v.df, a2, ?_, ?_, fun id h => by rw [n3 id (by rw [← n1]; exact h)], ?_, ?_⟩
  · refine slot_step g hS ho hni hr hE ?_ v.slot
    exact VR.lt (fun j y hj => by have := (r2.dom j y.1 y.2 hj).1; omega) _ _ hx
  · rcases hm' with ⟨rfl, hc⟩ | ⟨rfl, hc⟩
    · exact v.last.light ho hc
    · refine ⟨.inr ⟨o, by simpa using ho, hc, .inr rfl⟩, fun j b hb hbc hj => ?_⟩
      rcases hj with hj | hj
      · have := v.last.2 j b hb hbc hj; omega
      · omega
  · intro id y h
    rcases Nat.lt_or_ge id (Hs (i + 1)).next with h1 | h1
    · rw [Emb.join_lt h1] at h
      rcases Nat.lt_or_ge id (Hs i).next with h2 | h2
      · exact (v.born id y (back id y h2 h)).imp (fun h => h) .inl
      · rw [notlow id h2 h1]; exact .inr (.inr rfl)
    · rw [Emb.join_ge h1] at h
      exact (v.born id y h).imp (fun h => h) .inl
  · intro id y o1 h ho1 j hj1 hj2 hj3
    rcases Nat.lt_or_ge id (Hs (i + 1)).next with h1 | h1
    · rw [Emb.join_lt h1] at h
      have hb := g.birth_of h1
      have hid : id < HS.next := by rw [v.nx]; omega
      rw [n3 id hid] at ho1
      by_cases hj : j = i + 1
      · subst hj
        exact OR.undO (fun z y hz => by have := (r2.dom z y.1 y.2 hz).1; omega) (r2.obj id y.1 y.2 o1 h (by rw [hL' id h1]; exact ho1))
      · have hlow : id < (Hs i).next := by
          have := g.lt_birth (id := id) (by rw [← v.nx]; exact hid)
          have := g.mono _ i (show brn Hs ops.size id ≤ i by omega)
          omega
        have hι := back id y hlow h
        rcases hm' with ⟨rfl, hc⟩ | ⟨rfl, hc⟩
        · exact v.und id y o1 hι (by rw [v.get id hid]; exact ho1) j hj1 hj2 hj3
        · by_cases hjM : j ≤ max m (brn Hs ops.size id)
          · exact v.und id y o1 hι (by rw [v.get id hid]; exact hj3 _ hjM (by omega)) j hj1 hjM (fun j' g1 g2 => hj3 j' g1 (by omega))
          · have hM : id < (Hs (max m (brn Hs ops.size id))).next := by
              have h5 := g.lt_birth (id := id) (by rw [← v.nx]; exact hid)
              have := g.mono _ (max m (brn Hs ops.size id)) (Nat.le_max_right ..)
              omega
            have hch := g.chain (id := id) (M := max m (brn Hs ops.size id)) (N := j) (by omega) hM (fun k b g1 g2 g3 g4 => absurd g4 (hheavy hc k b (by omega) (by omega) g3))
            have hoj := hj3 j (Nat.le_refl _) hj2
            have := v.und id y o1 hι (by rw [v.get id hid, ← hch]; exact hoj) _ (Nat.le_max_right ..) (Nat.le_refl _) (fun j' g1 g2 => by
              rw [show j' = max m (brn Hs ops.size id) by omega, ← hch]; exact hoj)
            exact Obj.undO_mono (g.mono _ _ (by omega)) this
    · rw [Emb.join_ge h1] at h
      have hid := (v.r.dom id y.1 y.2 h).1
      have := late id h1 hid
      rw [hlate id h1 hid] at ho1
      rw [show max m' (brn Hs ops.size id) = max m (brn Hs ops.size id) by omega] at hj2 hj3
      exact v.und id y o1 h ho1 j hj1 hj2 hj3
end
end Go.Av
/- Regions of open order: each operation that may come next. Conditions: the tables say what the program's do; calls of less fuel are sound. -/
namespace Go.Av

section
variable {P : Program} {C : Ctx} {G : Emb} {ops : Array Oper} {odd : List (Nat × Nat)} {fuel nt : Nat} {Es : Nat → T AV} {Hs : Nat → Hp} {ι0 ι : Emb} {w0 w : World} {S : Nat → Prop} {HS : Hp} {ES : T AV} {m : Nat} {a : Act} {i : Nat} {o : Oper} {E : T AV} {H : Hp}

/-- an operation that comes to a value, from one that sees the same -/
theorem wp_val {a2 : Act} (hex : execOp a2.eval o = execOp a.eval o) {K : Act → World → Prop} {Q : Exit → Act → World → Prop} {u : Value} {w' : World} {n : Next} (h : (execOp a2.eval o).run P w = .ok n w') (hn : n = .value u ∨ (n = .skip ∧ u = undef)) (hK : K (a.put o.dst u) w') : o.wp P a w K Q := by
  unfold Oper.wp
  rw [← hex, h]
  rcases hn with rfl | ⟨rfl, rfl⟩ <;> exact hK
theorem wp_does {a2 : Act} (hex : execOp a2.eval o = execOp a.eval o) {K : Act → World → Prop} {Q : Exit → Act → World → Prop} {f : FuncId} {vs : List Value} {D : Value → World → Prop} (h : (execOp a2.eval o).run P w = (callFunc f ⟨vs⟩).run P w) (hd : Does P f ⟨vs⟩ w D)
    (hK : ∀ u w', D u w' → K (a.put o.dst u) w') : o.wp P a w K Q := by
  unfold Oper.wp
  rw [← hex, h]
  rcases hd with ⟨u, w', d1, d2⟩ | ⟨d1, d2⟩
  · rw [d1]; exact hK u w' d2
  · rw [d1]
    refine Calls.mono d2 fun e w' h => ?_
    cases e with
    | returned u => exact hK u w' h
    | panicked c => exact h.elim
    | outgrown => exact h.elim

theorem call_cls2 {o : Op} {f : FuncId} {args : List AV} (h : opA C E H o = some [.call f args]) : clsOf C o = 3 ∨ clsOf C o = 4 := by
  have no : ∀ {x : Option AV}, val1 H x = some [Nx.call f args] → False := by
    intro x hx; cases x <;> simp [val1] at hx
  have no2 : ∀ {x : Option (AV × Hp)}, val2 x = some [Nx.call f args] → False := by
    intro x hx; cases x <;> simp [val2] at hx
  have noS : ∀ {x : Option Hp}, skip1 x = some [Nx.call f args] → False := by
    intro x hx; cases x <;> simp [skip1] at hx
  cases o <;> simp only [opA, opB] at h <;> try (first | cases h; done | exact (no h).elim | exact (no2 h).elim | exact (noS h).elim)
  case makeFunc g first cap => cases g <;> first | exact (no h).elim | cases h
  case makeMap t r => cases r <;> first | exact (no2 h).elim | cases h
  case next it s => simp [clsOf]
  case call c =>
    unfold oCall at h
    simp only [clsOf, clsCall]
    cases hargs : evs E c.args.toList with
    | none => simp [hargs] at h
    | some as =>
      simp only [hargs] at h
      cases hcc : c.callee with
      | builtin b =>
        simp only [hcc] at h
        unfold builtinA at h
        split at h <;> first | exact (no h).elim | exact (no2 h).elim | exact (noS h).elim | cases h
      | value x =>
        cases x with
        | func g => cases hq : C.quiet g <;> simp [hq]
        | _ => simp
      | invoke r m => simp only [hcc] at h; cases h

/-- a load looks at one number alone -/
theorem load_one {ob : Oper} {x : Operand} {t : TypeId} (hop : ob.op = .load t x) {v : AV} {H' : Hp} (h : opA C E H ob.op = some [.val v H']) :
    H' = H ∧ ∃ id off, ev E x = some (.ptr (some (id, off))) ∧ idAt E (some ob) = some id ∧ ∀ H2 : Hp, H2.get id = H.get id → opA C E H2 ob.op = some [.val v H2] := by
  rw [hop] at h ⊢
  simp only [opA, oLoad] at h ⊢
  cases hx : ev E x with
  | none => simp [hx, val1] at h
  | some y =>
    simp only [hx, Option.bind_eq_bind, Option.bind_some] at h ⊢
    unfold loadA at h
    cases y with
    | ptr p =>
      cases p with
      | none => simp [asPtr, val1] at h
      | some p =>
        obtain ⟨id, off⟩ := p
        refine ⟨?_, id, off, rfl, ?_, ?_⟩
        · exact val1_heap h
        · simp [idAt, hop, hx]
        · intro H2 hg
          simp only [asPtr, Option.bind_eq_bind, Option.bind_some] at h
          simp only [loadA, asPtr, Option.bind_eq_bind, Option.bind_some]
          have : rowOf H2 id = rowOf H id := by unfold rowOf; rw [hg]
          rw [this]
          cases hr : ((rowOf H id).bind fun cs => (C.ty t).bind fun i => partA i cs off) with
          | none => rw [hr] at h; simp [val1] at h
          | some z => rw [hr] at h; simp [val1] at h; simp [val1, h.1]
    | _ => simp [asPtr, val1] at h

/-- the state behind one operation more -/
def Next (C : Ctx) (ops : Array Oper) (Es : Nat → T AV) (Hs : Nat → Hp) (nt : Nat) (ι0 : Emb) (w0 : World) (S : Nat → Prop) (a : Act) (w : World) : Prop :=
  ∃ ι HS ES m, Inv C ops Es Hs nt ι0 w0 S ι HS ES m a w

/-- born behind i, what is there is no map that is gone through -/
theorem Inv.lateNew (g : Reg C ops odd fuel Es Hs) (hS : Closed ops S) (ho : ops[i]? = some o) (hni : ¬ S i) (v : Inv C ops Es Hs nt ι0 w0 S ι HS ES m a w) (hmi : m ≤ i) (hc : clsOf C o.op = 4) :
    ∀ id y, (Hs (i + 1)).next ≤ id → ι id = some y → ∃ o, HS.get id = some o ∧ ∀ m s l c, o ≠ .iter m s l c := by
  intro id y h1 h2
  have hid := (v.r.dom id y.1 y.2 h2).1
  have hk := g.lt_birth (id := id) (by rw [← v.nx]; exact hid)
  have hki : i + 1 < brn Hs ops.size id := by
    rcases Nat.lt_or_ge (i + 1) (brn Hs ops.size id) with h | h
    · exact h
    · have := g.mono _ _ h; omega
  rw [v.get id hid, show max m (brn Hs ops.size id) = brn Hs ops.size id by omega]
  rcases v.born id y h2 with h3 | h3
  · omega
  · generalize hkk : brn Hs ops.size id = k at *
    obtain ⟨k, rfl⟩ : ∃ q, k = q + 1 := ⟨k - 1, by omega⟩
    simp only [Nat.add_sub_cancel] at h3
    have hkN : k + 1 ≤ ops.size := by rw [← hkk]; exact birth_le _ _ _
    obtain ⟨b, hb⟩ : ∃ b, ops[k]? = some b := ⟨_, Array.getElem?_eq_getElem (by omega)⟩
    have hf := order_after g.ok hS ho hni hb (by omega) h3
    have hge := g.ge_birth (id := id) (k := k) (by omega)
    have hcb : clsOf C b.op ≠ 4 ∧ clsOf C b.op ≠ 3 := ⟨fun e => (free_cls hf).1 ⟨e, .inl hc⟩, fun e => (free_cls hf).2 ⟨hc, e⟩⟩
    have hbad : Hs (k + 1) = Hs k → False := fun e => by rw [e] at hk; omega
    rcases g.step k b hb with ⟨_, _, h⟩ | ⟨_, v', _, h | ⟨f, args, mm, _, h5, h6⟩⟩
    · exact (hbad h).elim
    · have h5 : clsOf C b.op = 0 ∨ clsOf C b.op = 1 ∨ clsOf C b.op = 2 := by
        have : clsOf C b.op ≤ 4 := by
          cases b.op <;> simp only [clsOf, clsCall] <;> try omega
          all_goals (repeat' split) <;> try omega
          all_goals (rename_i q; cases C.quiet _ <;> simp)
        omega
      rcases h5 with h5 | h5 | h5
      · have := pureOp_heap h5 h (Hs k)
        rw [h] at this; simp at this; exact (hbad this).elim
      · exact (hbad (readOp_heap (.inl h5) h)).elim
      · obtain ⟨ob, h6, h7, _⟩ := freshOp_heap h5 h
        refine ⟨ob, ?_, h7⟩
        rw [h6, Hp.next_new] at hk
        rw [h6, Hp.get_new, if_pos (by omega)]
    · rcases call_cls2 h5 with h | h
      · exact absurd h hcb.2
      · exact absurd h hcb.1

/-- the memory that an operation in order with all that writes has -/
theorem Inv.here (g : Reg C ops odd fuel Es Hs) (v : Inv C ops Es Hs nt ι0 w0 S ι HS ES m a w) (hlt : i < ops.size) (hmi : m ≤ i) (hh : ∀ k b, m ≤ k → k < i → ops[k]? = some b → clsOf C b.op ≠ 4) :
    ∀ id, id < (Hs i).next → (Hs i).get id = HS.get id := by
  intro id hid
  have hin := g.mono i ops.size (by omega)
  have hb := g.birth_of hid
  rw [v.get id (by rw [v.nx]; omega)]
  have h5 := g.lt_birth (id := id) (by omega)
  have h6 := g.mono _ (max m (brn Hs ops.size id)) (Nat.le_max_right ..)
  exact g.chain (by omega) (by omega) fun k b g1 g2 g3 g4 => absurd g4 (hh k b (by omega) g2 g3)

theorem draw_step (hC : CtxOK P C) (hcalls : ∀ m, m < fuel → ∀ f args H l, callA C m f args H = some l → CallOK P C G f args H l) (hg0 : SubE G ι0) (g : Reg C ops odd fuel Es Hs) (hd0 : ∀ j b s, ι0 j = some (b, s) → j < (Hs 0).next)
    (hS : Closed ops S) (ho : ops[i]? = some o) (hni : ¬ S i) (hr : ∀ e ∈ edgesOf o, S e) (hd : ∀ t, o.dst = some t → t < nt) (hv : Next C ops Es Hs nt ι0 w0 S a w) {K : Act → World → Prop} {Q : Exit → Act → World → Prop}
    (hK : ∀ a' w', Next C ops Es Hs nt ι0 w0 (fun j => S j ∨ j = i) a' w' → K a' w') : wpOp P ops Q i K a w := by
  obtain ⟨ι, HS, ES, m, v⟩ := hv
  obtain ⟨hlook, hvr⟩ := v.at g hS ho hni hr
  have hlt : i < ops.size := (Array.getElem?_eq_some_iff.1 ho).1
  unfold wpOp
  simp only [ho]
  have hwant : ∀ b, wantedA ops.toList (Es i) o = some b → Region.wanted o (yielded ops a.tmps) = b := by
    intro b hb
    refine wanted_ok v.re ?_
    rw [wantedA_looks (E2 := Es i) hlook]; exact hb
  have hcls : clsOf C o.op = 0 ∨ clsOf C o.op = 1 ∨ clsOf C o.op = 2 ∨ clsOf C o.op = 3 ∨ clsOf C o.op = 4 := by
    have : clsOf C o.op ≤ 4 := by
      cases o.op <;> simp only [clsOf, clsCall] <;> try omega
      all_goals (repeat' split) <;> try omega
      all_goals (rename_i q; cases C.quiet _ <;> simp)
    omega
  -- what is in order with all that writes
  have inOrder : clsOf C o.op = 3 ∨ clsOf C o.op = 4 → m ≤ i ∧ (∀ k b, m ≤ k → k < i → ops[k]? = some b → clsOf C b.op ≠ 4) ∧ R (ι.cut (Hs i).next) (Hs i) w := by
    intro hc
    obtain ⟨h1, h2⟩ := heavy g.ok hS ho hr hni hc v.last
    exact ⟨h1, h2, v.low g h1 (by omega) rfl (v.here g hlt h1 h2)⟩
  -- behind a call, or an operation that writes
  have close : ∀ {ι2 : Emb} {w' : World} {x : AV} {u : Value}, clsOf C o.op = 3 ∨ clsOf C o.op = 4 → R ι2 (Hs (i + 1)) w' → Post (ι.cut (Hs i).next) ι2 (Hs i) (Hs (i + 1)) w w' → (clsOf C o.op = 3 → Same w w') →
      Es (i + 1) = putE (Es i) o.dst x → VR ι2 w' x u → K (a.put o.dst u) w' := by
    intro ι2 w' x u hc r2 q hsame hE hx
    obtain ⟨h1, h2, h3⟩ := inOrder hc
    have hprot : (Hs i).prot = (Hs 0).prot := by
      have : ∀ k, (Hs k).prot = (Hs 0).prot := fun k => by
        induction k with
        | zero => rfl
        | succ k ih => exact (g.kept k).2.1.trans ih
      exact this i
    rcases hc with hc | hc
    · obtain ⟨ι', HS', v'⟩ := v.step g hd0 hS ho hni hr hd h1 (m' := m) (.inl ⟨rfl, by omega⟩) (fun h => by omega) r2 q rfl rfl (by omega) (v.here g hlt h1 h2) (fun id hid => by
        have hin := g.mono (i + 1) ops.size hlt
        have hb := g.birth_of hid
        have h5 := g.lt_birth (id := id) (by omega)
        have h6 := g.mono _ (max m (brn Hs ops.size id)) (Nat.le_max_right ..)
        refine g.chain (by omega) (by omega) fun k b g1 g2 g3 g4 => ?_
        by_cases e : k = i
        · subst e; rw [ho] at g3; cases g3; omega
        · exact absurd g4 (h2 k b (by omega) (by omega) g3)) (.inr (hsame hc)) hE hx
      exact hK _ _ ⟨_, _, _, _, v'⟩
    · obtain ⟨ι', HS', v'⟩ := v.step g hd0 hS ho hni hr hd h1 (m' := i + 1) (.inr ⟨rfl, hc⟩) (fun _ => h2) r2 q rfl rfl (by omega) (v.here g hlt h1 h2) (fun id hid => by
        have hb := g.birth_of hid
        rw [show max (i + 1) (brn Hs ops.size id) = i + 1 by omega]) (.inl (v.lateNew g hS ho hni h1 hc)) hE hx
      exact hK _ _ ⟨_, _, _, _, v'⟩
  have stay : ∀ {x : AV} {u : Value}, clsOf C o.op ≠ 4 → Es (i + 1) = putE (Es i) o.dst x → VR (ι.cut (Hs i).next) w x u → K (a.put o.dst u) w := by
    intro x u hc hE hx
    exact hK _ _ ⟨_, _, _, _, v.same g hS ho hni hr hd hc hE hx⟩
  rcases g.step i o ho with ⟨hw, hE, hH⟩ | ⟨hw, x, hE, hop⟩
  · -- not wanted
    rw [hwant _ hw]
    simp only [Bool.false_eq_true, if_false]
    have hund : VR (ι.cut (Hs i).next) w undefA undef := ⟨[], rfl, rfl⟩
    by_cases hc : clsOf C o.op = 4
    · obtain ⟨h1, h2, h3⟩ := inOrder (.inr hc)
      refine close (.inr hc) (ι2 := ι.cut (Hs i).next) ?_ ?_ (fun h => by omega) hE hund
      · rw [hH]; exact h3
      · rw [hH]; exact Post.refl ..
    · exact stay hc hE hund
  · rw [hwant _ hw]
    simp only [if_true]
    left
    have hsome : ∃ l, opA C (Es i) (Hs i) o.op = some l := by
      rcases hop with h | ⟨f, args, mm, _, h, _⟩ <;> exact ⟨_, h⟩
    obtain ⟨l, hl⟩ := hsome
    obtain ⟨E2, a2, re2, hE2, hex⟩ := slots (ops := ops) hl hvr
    have hop2 : ∀ H, opA C E2 H o.op = opA C (Es i) H o.op := fun H => opA_looks (ops := ops) hE2
    rcases hop with hop | ⟨f, args, mm, hmm, hop, hca⟩
    · rcases hcls with hc | hc | hc | hc | hc
      · -- values alone
        have h0 := pureOp_heap hc hop ⟨.nil, (Hs i).next, 0⟩
        rw [← hop2] at h0
        have r0 : R (ι.cut (Hs i).next) ⟨.nil, (Hs i).next, 0⟩ w := ⟨fun j b s h => ⟨(Emb.cut_some h).1, (v.r.dom _ _ _ (Emb.cut_some h).2).2⟩, fun _ _ _ _ _ _ _ _ _ _ h _ => (by cases h), fun j k b s s' ents clk h1 h2 h3 => v.r.injm j k b s s' ents clk (Emb.cut_some h1).2 (Emb.cut_some h2).2 h3, fun _ _ _ _ _ h => (by cases h)⟩
        obtain ⟨_, u, h1, h2⟩ := valOp_ok hC r0 re2 o (.inl hc) h0
        exact wp_val hex h1 (.inl rfl) (stay (by omega) hE h2)
      · -- a load
        obtain ⟨t, p, hload⟩ : ∃ t p, o.op = .load t p := by
          revert hc
          cases o.op <;> intro hc
          case load t p => exact ⟨t, p, rfl⟩
          all_goals (exfalso; revert hc; simp only [clsOf, clsCall, Nat.reduceEqDiff, imp_self, not_false_eq_true])
          all_goals (repeat' split)
          all_goals first
            | (simp; done)
            | (cases C.quiet _ <;> simp; done)
            | (rename_i hq; cases hq; done)
        obtain ⟨_, id, off, h1, h2, h3⟩ := load_one hload hop
        have hev : ev E2 p = some (.ptr (some (id, off))) := by
          rw [← h1]
          cases p with
          | tmp t' => simp only [ev]; rw [hE2 t' (looks_op (ops := ops) (by rw [hload]; simp [Op.operands]))]
          | _ => rfl
        obtain ⟨b, s, hid, _⟩ := ev_ok re2 hev
        obtain ⟨hidn, hι⟩ := Emb.cut_some hid
        have hidn : id < (Hs i).next := hidn
        have hι : ι id = some (b, s) := hι
        have hidS := (v.r.dom id b s hι).1
        have hbi : brn Hs ops.size id ≤ i := g.birth_of hidn
        -- it is as the canonical run has it
        have hback : ∀ k b, k < i → ops[k]? = some b → clsOf C b.op = 4 → ¬ S k → (Hs (k + 1)).get id = (Hs k).get id := by
          intro k b h4 h5 h6 h7
          have hf := order_before g.ok hS ho hr h5 h4 h7
          simp only [freeOk, Bool.and_eq_true, h6, hc] at hf
          obtain ⟨a', e1, e2⟩ := g.odd i k o (inNN_iff.1 hf.2) ho
          rw [h2] at e1; cases e1; exact e2
        have hfront : ∀ k b, i < k → ops[k]? = some b → clsOf C b.op = 4 → S k → (Hs (k + 1)).get id = (Hs k).get id := by
          intro k b h4 h5 h6 h7
          have hf := order_after g.ok hS ho hni h5 h4 h7
          simp only [freeOk, Bool.and_eq_true, h6, hc] at hf
          obtain ⟨a', e1, e2⟩ := g.odd i k o (inNN_iff.1 hf.2) ho
          rw [h2] at e1; cases e1; exact e2
        have hgen : ∀ j, i ≤ j → j ≤ m → (Hs j).get id = (Hs i).get id := by
          intro j h4 h5
          refine g.chain h4 hidn fun k b g1 g2 g3 g4 => ?_
          by_cases e : k = i
          · subst e; rw [ho] at g3; cases g3; omega
          · exact hfront k b (by omega) g3 g4 (LastC.all g.ok hS v.last (by omega) g3 g4)
        have hsame : HS.get id = (Hs i).get id := by
          rw [v.get id hidS]
          rcases Nat.lt_or_ge i m with him | him
          · rw [show max m (brn Hs ops.size id) = m by omega]
            exact hgen m (by omega) (Nat.le_refl _)
          · have h5 := g.lt_birth (id := id) (by rw [← v.nx]; exact hidS)
            have h6 := g.mono _ (max m (brn Hs ops.size id)) (Nat.le_max_right ..)
            refine (g.chain (by omega) (by omega) fun k b g1 g2 g3 g4 => hback k b g2 g3 g4 fun h7 => ?_).symm
            have := v.last.2 k b g3 g4 h7
            omega
        obtain ⟨HL, n1, n2, n3⟩ := mkHp (fun j => if j = id then HS.get id else none) (Hs i).next 0
        have hHL : HL.get id = HS.get id := by rw [n3 id hidn, if_pos rfl]
        have rL : R (ι.cut (Hs i).next) HL w := by
          refine ⟨fun j b s h => ⟨by rw [n1]; exact (Emb.cut_some h).1, (v.r.dom _ _ _ (Emb.cut_some h).2).2⟩, ?_, fun j k b s s' ents clk h1 h2 h3 => v.r.injm j k b s s' ents clk (Emb.cut_some h1).2 (Emb.cut_some h2).2 h3, ?_⟩
          · intro j k b s s' o1 o2 hne g1 g2 g3 g4
            obtain ⟨g5, g6⟩ := Emb.cut_some g1
            obtain ⟨g7, g8⟩ := Emb.cut_some g2
            rw [n3 j g5] at g3; rw [n3 k g7] at g4
            split at g3
            · split at g4
              · omega
              · cases g4
            · cases g3
          · intro j b s o1 g1 g2
            obtain ⟨g3, g4⟩ := Emb.cut_some g1
            rw [n3 j g3] at g2
            split at g2
            · rename_i e; subst e
              have hu : o1.undO (Hs i).next := by
                rcases Nat.lt_or_ge i m with him | him
                · exact v.und j _ o1 g4 g2 i hbi (by omega) fun j' g5 g6 => by
                    rw [hgen j' g5 (by omega), ← hsame]; exact g2
                · exact Obj.undO_mono (g.mono _ _ (by omega)) (v.und j _ o1 g4 g2 (max m (brn Hs ops.size j)) (Nat.le_max_right ..) (Nat.le_refl _) fun j' g5 g6 => by
                    rw [show j' = max m (brn Hs ops.size j) by omega, ← v.get j hidS]; exact g2)
              exact OR.restrict (fun j x hj hx => by rw [Emb.cut_lt hj]; exact hx) hu (v.r.obj j b s o1 g4 g2)
            · cases g2
        have h0 := h3 HL (hHL.trans hsame)
        rw [← hop2] at h0
        obtain ⟨_, u, e1, e2⟩ := valOp_ok hC rL re2 o (.inr (.inl hc)) h0
        exact wp_val hex e1 (.inl rfl) (stay (by omega) hE e2)
      · -- new memory
        have hmi : m ≤ i := by
          rcases v.last.1 with h0 | ⟨b, h1, h2, h3⟩
          · omega
          · rcases Nat.lt_or_ge i (m - 1) with hlt2 | hge
            · exact absurd ⟨h2, .inr (.inr hc)⟩ (free_cls (order_after g.ok hS ho hni h1 hlt2 h3)).1
            · rcases Nat.lt_or_ge (m - 1) i with h | h
              · omega
              · have : m - 1 = i := by omega
                rw [this] at h3; exact absurd h3 hni
        obtain ⟨ob, h1, _, h2⟩ := freshOp_heap hc hop
        obtain ⟨HL, n1, n2, n3⟩ := mkHp HS.get (Hs i).next (max (Hs 0).prot (Hs i).next)
        have h0 := h2 HL n1
        rw [← hop2] at h0
        have rL := v.low g hmi (by omega) n1 n3
        obtain ⟨nx, e1, e2⟩ := op_ok (P := P) hC rL re2 o h0
        simp only [List.mem_singleton] at e1
        subst e1
        obtain ⟨n, u, w', ι2, f1, f2, f3, f4, f5⟩ := e2
        have hsm : Same w w' := by
          intro b hb
          by_cases hx : ∃ j s o, ι.cut (Hs i).next j = some (b, s) ∧ HL.get j = some o
          · obtain ⟨j, s, o, x1, x2⟩ := hx
            have := (Emb.cut_some x1).1
            exact f4.pf j b s o (by omega) x1 x2
          · exact f4.frame b hb (fun j s o x1 x2 => absurd ⟨j, s, o, x1, x2⟩ hx)
        obtain ⟨ι', HS', v'⟩ := v.step g hd0 hS ho hni hr hd hmi (m' := m) (.inl ⟨rfl, by omega⟩) (fun h => by omega) f3 f4 n1 (by rw [Hp.next_new, n1, h1, Hp.next_new]) (by omega) n3 (fun id hid => by
          have hin := g.mono (i + 1) ops.size hlt
          have hb := g.birth_of hid
          rw [h1, Hp.next_new] at hid
          rw [Hp.get_new, n1]
          by_cases e : id = (Hs i).next
          · rw [if_pos e]
            have hbi : brn Hs ops.size id = i + 1 := by
              rcases Nat.lt_or_ge i (brn Hs ops.size id) with h | h
              · omega
              · have h5 := g.lt_birth (id := id) (by rw [h1, Hp.next_new] at hin; omega)
                have := g.mono _ _ h; omega
            rw [hbi, show max m (i + 1) = i + 1 by omega, h1, Hp.get_new, if_pos e]
          · rw [if_neg e, n3 id (by omega), v.get id (by rw [v.nx]; rw [h1, Hp.next_new] at hin; omega)]) (.inr hsm) hE f5
        exact wp_val hex f1 f2 (hK _ _ ⟨_, _, _, _, v'⟩)
      · -- what reads
        obtain ⟨h1, h2, h3⟩ := inOrder (.inl hc)
        rw [← hop2] at hop
        obtain ⟨e0, u, e1, e2⟩ := valOp_ok hC h3 re2 o (.inr (.inr hc)) hop
        exact wp_val hex e1 (.inl rfl) (stay (by omega) hE e2)
      · -- what writes
        obtain ⟨h1, h2, h3⟩ := inOrder (.inr hc)
        rw [← hop2] at hop
        obtain ⟨nx, e1, e2⟩ := op_ok (P := P) hC h3 re2 o hop
        simp only [List.mem_singleton] at e1
        subst e1
        obtain ⟨n, u, w', ι2, f1, f2, f3, f4, f5⟩ := e2
        exact wp_val hex f1 f2 (close (.inr hc) f3 f4 (fun h => by omega) hE f5)
    · -- a call
      have hc := call_cls2 hop
      obtain ⟨h1, h2, h3⟩ := inOrder hc
      have hop' := hop
      rw [← hop2] at hop
      obtain ⟨nx, e1, e2⟩ := op_ok (P := P) hC h3 re2 o hop
      simp only [List.mem_singleton] at e1
      subst e1
      obtain ⟨vs, f1, f2⟩ := e2
      refine wp_does hex f1 (hcalls mm hmm f args _ _ hca _ w vs (fun j x hj => by rw [Emb.cut_lt (Nat.lt_of_lt_of_le (hd0 j x.1 x.2 (hg0 j x hj)) (g.mono 0 i (Nat.zero_le _)))]; exact v.post.sub _ _ (hg0 j x hj)) h3 f2) ?_
      rintro u w' ⟨rr, hm, ι2, g1, g2, g3, g4⟩
      simp only [List.mem_singleton] at hm
      subst hm
      exact close hc g1 g2 (fun h3 => g4 (call_cls hop' (by omega))) hE g3
end
end Go.Av
/- Regions of open order are sound. Conditions: the machine takes all orders (the program's own mark); the tables say what the program's do. -/
namespace Go.Av

section
variable {P : Program} {C : Ctx} {G : Emb} {ops : Array Oper} {odd : List (Nat × Nat)} {fuel nt : Nat} {Es : Nat → T AV} {Hs : Nat → Hp} {ι0 : Emb} {w0 : World}

theorem count_set : ∀ (l : List Bool) (i : Nat), l[i]? = some false → (l.set i true).count false + 1 = l.count false
  | [], i, h => by simp at h
  | b :: l, 0, h => by simp at h; subst h; simp
  | b :: l, i + 1, h => by
    have := count_set l i (by simpa using h)
    simp only [List.set_cons_succ, List.count_cons]
    omega
theorem count_pos {l : List Bool} {i : Nat} (h : l[i]? = some false) : 0 < l.count false := by
  have := count_set l i h; omega

theorem drawA_len {C : Ctx} {all : List Oper} : ∀ (n : Nat) {ops : List Oper} {E E' : T AV} {H H' : Hp} {s : List (T AV × Hp × Hp)}, drawA C n all ops E H = some (E', H', s) → s.length = ops.length
  | 0, _, _, _, _, _, _, h => by simp [drawA] at h
  | n + 1, [], E, E', H, H', s, h => by simp [drawA] at h; simp [← h.2.2]
  | n + 1, o :: rest, E, E', H, H', s, h => by
    simp only [drawA] at h
    split at h
    · cases h
    · split at h
      · rename_i hd; cases h; simp [drawA_len n hd]
      · cases h
    · split at h
      · split at h
        · rename_i hd; cases h; simp [drawA_len n hd]
        · cases h
      · split at h
        · split at h
          · rename_i hd; cases h; simp [drawA_len n hd]
          · cases h
        · cases h
      · cases h

def Done (listed : Array Bool) (i : Nat) : Prop := listed[i]? = some true

theorem ready_spec {listed : Array Bool} {i : Nat} (h : i ∈ Region.ready .any ops listed) : i < ops.size ∧ listed.getD i true = false ∧ ∃ o, ops[i]? = some o ∧ ∀ e ∈ edgesOf o, Done listed e := by
  unfold Region.ready at h
  simp only [List.mem_filter, List.mem_range, Bool.and_eq_true, Bool.not_eq_true'] at h
  obtain ⟨h1, h2, h3⟩ := h
  refine ⟨h1, h2, _, Array.getElem?_eq_getElem h1, ?_⟩
  rw [Array.getElem?_eq_getElem h1] at h3
  simp only [Option.map_some, Option.getD_some] at h3
  intro e he
  unfold edgesOf at he
  obtain ⟨x, hx1, hx2⟩ := List.mem_filterMap.1 he
  split at hx2
  · rename_i hb
    cases hx2
    rw [Array.all_eq_true'] at h3
    have := h3 x (by simpa using hx1)
    simp only [hb, Bool.not_true, Bool.false_or] at this
    unfold Done
    rw [Array.getD_eq_getD_getElem?] at this
    cases hh : listed[x.on]? with
    | none => rw [hh] at this; cases this
    | some b => rw [hh] at this; simp at this; subst this; rfl
  · cases hx2

/-- if nothing is ready, all has been done -/
theorem all_done (hok : drawOk C ops odd = true) {listed : Array Bool} (hsz : listed.size = ops.size) (h : Region.ready .any ops listed = []) : ∀ i, i < ops.size → Done listed i := by
  intro i
  induction i using Nat.strongRecOn with
  | _ i ih =>
    intro hi
    by_cases hd : Done listed i
    · exact hd
    · exfalso
      have hli : listed[i]? = some false := by
        have : listed[i]? = some listed[i] := Array.getElem?_eq_getElem (by omega)
        cases hb : listed[i] with
        | true => rw [hb] at this; exact absurd this hd
        | false => rw [hb] at this; exact this
      have hm : i ∈ Region.ready .any ops listed := by
        unfold Region.ready
        simp only [List.mem_filter, List.mem_range, Bool.and_eq_true, Bool.not_eq_true']
        refine ⟨hi, ?_, ?_⟩
        · rw [Array.getD_eq_getD_getElem?, hli]; rfl
        · rw [Array.getElem?_eq_getElem hi]
          simp only [Option.map_some, Option.getD_some]
          rw [Array.all_eq_true']
          intro x hx
          cases hb : Region.binds .any x with
          | false => rfl
          | true =>
            simp only [Bool.not_true, Bool.false_or]
            have he : x.on ∈ edgesOf ops[i] := by
              unfold edgesOf
              exact List.mem_filterMap.2 ⟨x, by simpa using hx, by simp [hb]⟩
            have hlt := drawOk_edge hok (Array.getElem?_eq_getElem hi) _ he
            have := ih x.on hlt (by omega)
            unfold Done at this
            rw [Array.getD_eq_getD_getElem?, this]; rfl
      rw [h] at hm; cases hm

theorem any_ok (hC : CtxOK P C) (hcalls : ∀ m, m < fuel → ∀ f args H l, callA C m f args H = some l → CallOK P C G f args H l) (hg0 : SubE G ι0) (g : Reg C ops odd fuel Es Hs) (hd0 : ∀ j b s, ι0 j = some (b, s) → j < (Hs 0).next)
    (hdst : ∀ o ∈ ops.toList, dstOk nt o = true) {Q : Exit → Act → World → Prop} (hQ : ∀ a w, Next C ops Es Hs nt ι0 w0 (fun i => i < ops.size) a w → Q .normal a w) :
    ∀ (fu : Nat) (listed : Array Bool) (a : Act) (w : World), listed.size = ops.size → listed.toList.count false ≤ fu → Closed ops (Done listed) → Next C ops Es Hs nt ι0 w0 (Done listed) a w → wpAny P .any ops Q fu listed a w := by
  have fin : ∀ (listed : Array Bool) (a : Act) (w : World), listed.size = ops.size → Region.ready .any ops listed = [] → Next C ops Es Hs nt ι0 w0 (Done listed) a w → Q .normal a w := by
    intro listed a w hsz hr h
    have : Done listed = fun i => i < ops.size := by
      funext i
      refine propext ⟨fun h => ?_, fun h => all_done g.ok hsz hr i h⟩
      unfold Done at h
      have := (Array.getElem?_eq_some_iff.1 h).1
      omega
    rw [this] at h
    exact hQ a w h
  intro fu
  induction fu with
  | zero =>
    intro listed a w hsz hc hcl h
    have hr : Region.ready .any ops listed = [] := by
      cases hr : Region.ready .any ops listed with
      | nil => rfl
      | cons i l =>
        obtain ⟨h1, h2, _⟩ := ready_spec (ops := ops) (listed := listed) (i := i) (by rw [hr]; exact .head _)
        have : listed.toList[i]? = some false := by
          rw [Array.getElem?_toList]
          have h3 : listed[i]? = some listed[i] := Array.getElem?_eq_getElem (by omega)
          rw [Array.getD_eq_getD_getElem?, h3] at h2
          rw [h3]; simpa using h2
        have := count_pos this
        omega
    exact ⟨hr, fin listed a w hsz hr h⟩
  | succ fu ih =>
    intro listed a w hsz hc hcl h
    refine ⟨fun hr => fin listed a w hsz hr h, fun i hi => ?_⟩
    obtain ⟨h1, h2, o, ho, he⟩ := ready_spec hi
    have hli : listed[i]? = some false := by
      have h3 : listed[i]? = some listed[i] := Array.getElem?_eq_getElem (by omega)
      rw [Array.getD_eq_getD_getElem?, h3] at h2
      rw [h3]; simpa using h2
    have hni : ¬ Done listed i := fun h => by unfold Done at h; rw [h] at hli; cases hli
    have hS : (fun j => Done listed j ∨ j = i) = Done (listed.setIfInBounds i true) := by
      funext j
      unfold Done
      rw [Array.getElem?_setIfInBounds]
      by_cases e : i = j
      · subst e; simp [show i < listed.size by omega]
      · simp [e]; intro h; exact absurd h.symm e
    have hmem : o ∈ ops.toList := by
      have := (Array.getElem?_eq_some_iff.1 ho)
      obtain ⟨h5, h6⟩ := this
      rw [← h6]; simp
    refine draw_step hC hcalls hg0 g hd0 hcl ho hni he (dst_lt (hdst o hmem)) h fun a' w' h' => ?_
    rw [hS] at h'
    refine ih _ a' w' (by simpa using hsz) ?_ ?_ h'
    · have := count_set listed.toList i (by rw [Array.getElem?_toList]; exact hli)
      simp only [Array.toList_setIfInBounds]
      omega
    · rw [← hS]; exact hcl.more ho he

theorem draw_ok (hm : P.follows .mixedOrders = true) (hC : CtxOK P C) (hk : PrimKept C) : DrawOK P C G (drawOk C) := by
  intro n hcalls id nt ops odd E E' H H' snap ι w a Q hok hdst hdr hodd hg r he hsz hdf hQ
  obtain ⟨Es, Hs0, e1, e2, e3, e4, e5, e6⟩ := drawA_run n hdr
  -- the run stands still behind its end
  let Hs : Nat → Hp := fun k => Hs0 (min k ops.size)
  have hHs : ∀ k, k ≤ ops.size → Hs k = Hs0 k := fun k h => by simp only [Hs]; rw [Nat.min_eq_left h]
  have hsz' : ops.toList.length = ops.size := by simp
  have g : Reg C ops odd n Es Hs := by
    refine ⟨hok, ?_, ?_, hk, ?_⟩
    · intro k o ho
      have hlt := (Array.getElem?_eq_some_iff.1 ho).1
      rw [hHs k (by omega), hHs (k + 1) (by omega)]
      exact e5 k o (by simpa using ho)
    · intro i j o hij ho
      have hi := (Array.getElem?_eq_some_iff.1 ho).1
      obtain ⟨x, E1, G0, H0, E0, G, Hx, g1, g2, g3, g4⟩ := oddOk_at hodd i j hij
      rw [nth_eq] at g1 g3
      rw [e6 i (by omega)] at g1
      cases g1
      have hj : j < ops.size := by
        rcases Nat.lt_or_ge j ops.size with h | h
        · exact h
        · exfalso
          have hlen : snap.length = ops.toList.length := drawA_len n hdr
          rw [List.getElem?_eq_none (by omega)] at g3; cases g3
      rw [e6 j (by omega)] at g3
      cases g3
      rw [nth_eq, Array.getElem?_toList, ho] at g2
      exact ⟨x, g2, by rw [hHs j (by omega), hHs (j + 1) (by omega)]; exact g4.symm⟩
    · intro k h
      simp only [Hs]; rw [Nat.min_eq_right h, Nat.min_eq_right (by omega)]
  have h0 : Hs 0 = H := by rw [hHs 0 (Nat.zero_le _)]; exact e2
  have hN : Hs ops.size = H' := by rw [hHs _ (Nat.le_refl _), ← hsz']; exact e4
  have hd0 : ∀ j b s, ι j = some (b, s) → j < (Hs 0).next := fun j b s h => by rw [h0]; exact (r.dom j b s h).1
  have hprot : ∀ k, (Hs k).prot = (Hs 0).prot := fun k => by
    induction k with
    | zero => rfl
    | succ k ih => exact (g.kept k).2.1.trans ih
  refine wp_region_any hm ?_
  refine any_ok (ι0 := ι) (w0 := w) hC hcalls hg g hd0 hdst (Q := Q) ?_ ops.size _ a _ (by simp) ?_ ?_ ?_
  · -- the end
    rintro a' w' ⟨ι', HS, ES, m, v⟩
    have hget : ∀ id, id < HS.next → HS.get id = (Hs ops.size).get id := by
      intro id hid
      rw [v.get id hid]
      have hmN : m ≤ ops.size := by
        rcases v.last.1 with h | ⟨o, h, _⟩
        · omega
        · have := (Array.getElem?_eq_some_iff.1 h).1; omega
      have hb := g.birth_of (id := id) (k := ops.size) (by rw [← v.nx]; exact hid)
      have h5 := g.lt_birth (id := id) (by rw [← v.nx]; exact hid)
      have h6 := g.mono _ (max m (brn Hs ops.size id)) (Nat.le_max_right ..)
      refine (g.chain (by omega) (by omega) fun k b g1 g2 g3 g4 => ?_).symm
      have := v.last.2 k b g3 g4 g2
      omega
    have hES : ∀ t, ES.get t = (Es ops.size).get t := by
      intro t
      obtain ⟨k, g1, g2, _⟩ := v.slot t
      rw [g2]
      have hkN : k ≤ ops.size := by
        rcases g1.1 with h | ⟨o, h, _⟩
        · omega
        · have := (Array.getElem?_eq_some_iff.1 h).1; omega
      have := g.slots (t := t) (ops.size - k) k (by omega) (fun q o h1 h2 h3 h4 => by
        have := g1.2 q o h3 h4 (by omega); omega)
      rw [show k + (ops.size - k) = ops.size by omega] at this
      exact this.symm
    refine hQ ι' w' a' ?_ ?_ ?_ v.sz v.df
    · rw [← hN]
      exact ⟨fun i b s h => by rw [← v.nx]; exact v.r.dom i b s h, fun i j b s s' o o' hne h1 h2 h3 h4 => v.r.inj i j b s s' o o' hne h1 h2 (by rw [hget i (v.r.dom i b s h1).1]; exact h3) (by rw [hget j (v.r.dom j b s' h2).1]; exact h4), v.r.injm, fun i b s o h1 h2 => v.r.obj i b s o h1 (by rw [hget i (v.r.dom i b s h1).1]; exact h2)⟩
    · have p := v.post
      rw [← hN]
      rw [h0] at p
      have hge : H.next ≤ (Hs ops.size).next := by rw [← h0]; exact g.mono 0 _ (Nat.zero_le _)
      refine ⟨p.sub, p.keeps, p.os, p.tape, p.output, hge, by rw [hprot, h0], fun i o' hi h => p.old i o' hi (by rw [hget i (by rw [v.nx]; omega)]; exact h), p.fresh, p.frame, fun i h1 h2 => by rw [← hget i (by rw [v.nx]; omega)]; exact p.kp i h1 h2, p.pf⟩
    · intro t
      have := v.re t
      rw [hES t, ← hsz', e3] at this
      exact this
  · simp
  · intro k o ho hd e he
    unfold Done at hd
    simp [Array.getElem?_replicate] at hd
  · have hnone : ∀ i, ¬ Done (Array.replicate ops.size false) i := by
      intro i h
      unfold Done at h
      simp [Array.getElem?_replicate] at h
    obtain ⟨HS, n1, n2, n3⟩ := mkHp (fun id => (Hs (brn Hs ops.size id)).get id) (Hs ops.size).next (Hs 0).prot
    have hge : (Hs 0).next ≤ (Hs ops.size).next := g.mono 0 _ (Nat.zero_le _)
    have hlow : ∀ id, id < (Hs 0).next → brn Hs ops.size id = 0 := fun id h => by have := g.birth_of h; omega
    have hget : ∀ id, id < (Hs 0).next → HS.get id = H.get id := fun id h => by
      rw [n3 id (by omega), hlow id h, h0]
    have r1 : R ι HS w := ⟨fun i b s h => ⟨by have := hd0 i b s h; omega, (r.dom i b s h).2⟩, fun i j b s s' o o' hne h1 h2 h3 h4 => r.inj i j b s s' o o' hne h1 h2 (by rw [← hget i (hd0 i b s h1)]; exact h3) (by rw [← hget j (hd0 j b s' h2)]; exact h4), r.injm, fun i b s o h1 h2 => r.obj i b s o h1 (by rw [← hget i (hd0 i b s h1)]; exact h2)⟩
    refine ⟨ι, HS, E, 0, r1.heap rfl, n1, n2, ?_, hsz, hdf, ?_, ?_, ⟨.inl rfl, fun j o h1 h2 h3 => absurd h3 (hnone j)⟩, ?_, ?_, ?_⟩
    · exact he.mono (SubE.refl _) (Keeps.drawn _ _)
    · rw [h0]
      refine Post.drew ⟨SubE.refl _, Keeps.refl _, rfl, rfl, rfl, by rw [n1, ← h0]; exact hge, by rw [n2, h0], fun i o' hi h => ⟨o', by rw [← hget i (by rw [h0]; exact hi)]; exact h, rfl⟩, fun i b s h1 h2 => (by rw [h1] at h2; cases h2), fun _ _ _ => rfl, fun i h1 h2 => hget i (by rw [h0]; exact h2), fun _ _ _ _ _ _ _ => rfl⟩ _
    · intro t
      refine ⟨0, ⟨.inl rfl, fun j o h1 h2 h3 => absurd h3 (hnone j)⟩, by rw [e1], ?_⟩
      exact VR.lt (fun j y hj => hd0 j y.1 y.2 hj) _ _ (he t)
    · intro id hid
      rw [n1] at hid
      rw [n3 id hid, Nat.zero_max]
    · intro id x h
      exact .inl (hlow id (hd0 id x.1 x.2 h))
    · intro id x o h ho j h1 h2 h3
      rw [hlow id (hd0 id x.1 x.2 h), Nat.zero_max] at h2
      have : j = 0 := by omega
      subst this
      exact OR.undO (fun z y hz => hd0 z y.1 y.2 hz) (r1.obj id x.1 x.2 o h ho)
end
end Go.Av
/- Tables as tries: what holds of each entry; functions and types of the program's, asked by one closed fact each. Conditions: none. -/
namespace Go.Av

def T.AllI {α : Type} (p : Nat → α → Prop) : T α → Nat → Nat → Prop
  | .nil, _, _ => True
  | .node l v r, a, b => T.AllI p l (2 * a) (a + b) ∧ (match v with | none => True | some x => p b x) ∧ T.AllI p r (2 * a) (2 * a + b)
theorem T.AllI.at {α : Type} {p : Nat → α → Prop} : ∀ {t : T α} {a b : Nat}, T.AllI p t a b → ∀ {n : Nat} {x : α}, t.get n = some x → p (a * n + b) x
  | .nil, _, _, _, _, _, h => by simp [T.get] at h
  | .node l v r, a, b, ⟨h1, h2, h3⟩, n, x, h => by
    simp only [T.get_node] at h
    by_cases h0 : n = 0
    · subst h0
      simp at h; subst h
      simpa using h2
    · rw [nbeq h0, cond_false] at h
      by_cases ho : n % 2 = 1
      · rw [ybeq ho, cond_true] at h
        have := h1.at h
        have e : 2 * a * ((n - 1) / 2) + (a + b) = a * n + b := by
          have : n = 2 * ((n - 1) / 2) + 1 := by omega
          generalize hk : (n - 1) / 2 = k at *
          subst this
          rw [Nat.mul_add, Nat.mul_one, ← Nat.mul_assoc, Nat.mul_comm a 2, Nat.add_assoc]
        rwa [e] at this
      · rw [nbeq ho, cond_false] at h
        have := h3.at h
        have e : 2 * a * ((n - 1) / 2) + (2 * a + b) = a * n + b := by
          have : n = 2 * ((n - 1) / 2) + 2 := by omega
          generalize hk : (n - 1) / 2 = k at *
          subst this
          rw [Nat.mul_add, ← Nat.mul_assoc, Nat.mul_comm a 2, Nat.add_assoc]
        rwa [e] at this
theorem T.AllI.get {α : Type} {p : Nat → α → Prop} {t : T α} (h : T.AllI p t 1 0) {n : Nat} {x : α} (hx : t.get n = some x) : p n x := by
  have := h.at hx
  simpa using this

def af (f : Func) (odd : List (Nat × List (Nat × Nat))) : AFn := ⟨f.body.getD .skip, f.results.toList, odd⟩
def fnChk (dok : Array Oper → List (Nat × Nat) → Bool) (fn : Func) (odd : List (Nat × List (Nat × Nat))) : Bool :=
  !(fn.name == "runtime.NumGoroutine") && (fn.body.isSome && codeOk dok fn.ntmps odd (fn.body.getD .skip))
theorem fnOK_of {P : Program} {dok : Array Oper → List (Nat × Nat) → Bool} {f : FuncId} {fn : Func} {odd : List (Nat × List (Nat × Nat))} (h : P.funcs[f]? = some fn) (hc : fnChk dok fn odd = true) : FnOK P dok f (af fn odd) := by
  simp only [fnChk, Bool.and_eq_true, Bool.not_eq_true'] at hc
  obtain ⟨h1, h2, h3⟩ := hc
  refine ⟨fn, h, h1, ?_, rfl, h3⟩
  cases hb : fn.body with
  | none => rw [hb] at h2; cases h2
  | some c => simp [af, hb]

mutual
def valEq : Value → Value → Bool
  | .int j a, .int k b => decide (j = k) && decide (a = b)
  | .bool a, .bool b => a == b
  | .string a, .string b => decide (a.data.toList = b.data.toList)
  | .pointer none, .pointer none => true
  | .slice none a b, .slice none c d => Nat.beq a c && Nat.beq b d
  | .map none, .map none => true
  | .nilFunc, .nilFunc => true
  | .nilIface, .nilIface => true
  | .agg ⟨a⟩, .agg ⟨b⟩ => valsEq a b
  | .tuple ⟨a⟩, .tuple ⟨b⟩ => valsEq a b
  | _, _ => false
def valsEq : List Value → List Value → Bool
  | [], [] => true
  | a :: as, b :: bs => valEq a b && valsEq as bs
  | _, _ => false
end
mutual
theorem valEq_eq : ∀ (a b : Value), valEq a b = true → a = b := by
  intro a b h
  unfold valEq at h
  split at h <;> try (cases h; done)
  · simp at h; rw [h.1, h.2]
  · simp at h; rw [h]
  · rename_i a b
    simp only [decide_eq_true_eq] at h
    obtain ⟨⟨a⟩⟩ := a; obtain ⟨⟨b⟩⟩ := b
    simp at h; rw [h]
  · rfl
  · simp only [Bool.and_eq_true] at h; rw [Nat.eq_of_beq_eq_true h.1, Nat.eq_of_beq_eq_true h.2]
  · rfl
  · rfl
  · rfl
  · rw [valsEq_eq _ _ h]
  · rw [valsEq_eq _ _ h]
theorem valsEq_eq : ∀ (a b : List Value), valsEq a b = true → a = b
  | [], [], _ => rfl
  | a :: as, b :: bs, h => by
    simp only [valsEq, Bool.and_eq_true] at h
    rw [valEq_eq a b h.1, valsEq_eq as bs h.2]
  | [], _ :: _, h => by simp [valsEq] at h
  | _ :: _, [], h => by simp [valsEq] at h
end
def tdEq : TD → TD → Bool
  | .bool, .bool => true
  | .int a, .int b => decide (a = b)
  | .str, .str => true
  | .ptr a, .ptr b => Nat.beq a b
  | .slice a, .slice b => Nat.beq a b
  | .array a b, .array c d => Nat.beq a c && Nat.beq b d
  | .map a b, .map c d => Nat.beq a c && Nat.beq b d
  | .struct a, .struct b => decide (a = b)
  | .func, .func => true
  | .iface, .iface => true
  | _, _ => false
theorem tdEq_eq {a b : TD} (h : tdEq a b = true) : a = b := by
  unfold tdEq at h
  split at h <;> try (cases h; done)
  all_goals first
    | rfl
    | (simp at h; rw [h]; done)
    | (simp only [Bool.and_eq_true] at h; rw [Nat.eq_of_beq_eq_true h.1, Nat.eq_of_beq_eq_true h.2]; done)
    | (rw [Nat.eq_of_beq_eq_true h]; done)
def ekEq : EK → EK → Bool
  | .i a, .i b => decide (a = b)
  | .b, .b => true
  | .s, .s => true
  | _, _ => false
def eksEq : List EK → List EK → Bool
  | [], [] => true
  | a :: as, b :: bs => ekEq a b && eksEq as bs
  | _, _ => false
theorem eksEq_eq : ∀ {a b : List EK}, eksEq a b = true → a = b
  | [], [], _ => rfl
  | a :: as, b :: bs, h => by
    simp only [eksEq, Bool.and_eq_true] at h
    have : a = b := by
      have h := h.1
      unfold ekEq at h
      split at h <;> first | rfl | (simp at h; rw [h]) | cases h
    rw [this, eksEq_eq h.2]
  | [], _ :: _, h => by simp [eksEq] at h
  | _ :: _, [], h => by simp [eksEq] at h
def tyChk (P : Program) (t : Nat) (i : TI) : Bool :=
  (match P.underlying t with | some D => tdEq (tdOf D) i.d && (match D with | .struct F => F.toList.all fun f => (P.info? f.type).isSome | _ => true) | none => false) &&
  (match P.info? t with
    | some f => Nat.beq f.size i.size && (Nat.beq f.bytes i.bytes && (match i.zero with
      | some z => z.pure && (z.okNil && (Nat.beq z.cells.length i.size && (match f.zero with | some v => valEq v (emb z) | none => false)))
      | none => true))
    | none => false) &&
  (match i.eqk with
    | [] => true
    | k :: ks => i.d.isAgg && (match ekOf P 8 t with | some l => eksEq l (k :: ks) | none => false))
theorem tyOK_of {P : Program} {t : Nat} {i : TI} (h : tyChk P t i = true) : TyOK P t i := by
  simp only [tyChk, Bool.and_eq_true] at h
  obtain ⟨⟨h1, h2⟩, h3⟩ := h
  cases hu : P.underlying t with
  | none => rw [hu] at h1; cases h1
  | some D =>
    rw [hu] at h1
    simp only [Bool.and_eq_true] at h1
    cases hf : P.info? t with
    | none => rw [hf] at h2; cases h2
    | some f =>
      rw [hf] at h2
      simp only [Bool.and_eq_true] at h2
      obtain ⟨g1, g2, g3⟩ := h2
      refine ⟨⟨D, hu, tdEq_eq h1.1⟩, ⟨f, hf, Nat.eq_of_beq_eq_true g1, Nat.eq_of_beq_eq_true g2, fun z hz => ?_⟩, fun hne => ?_, fun F hF x hx => ?_, fun z hz => ?_⟩
      · rw [hz] at g3
        simp only [Bool.and_eq_true] at g3
        refine ⟨g3.1, g3.2.1, ?_⟩
        cases hfz : f.zero with
        | none => rw [hfz] at g3; exact absurd g3.2.2.2 (by simp)
        | some v => rw [hfz] at g3; rw [valEq_eq _ _ g3.2.2.2]
      · cases hk : i.eqk with
        | nil => exact absurd hk hne
        | cons k ks =>
          rw [hk] at h3
          simp only [Bool.and_eq_true] at h3
          refine ⟨h3.1, ?_⟩
          cases he : ekOf P 8 t with
          | none => rw [he] at h3; exact absurd h3.2 (by simp)
          | some l => rw [he] at h3; rw [eksEq_eq h3.2]
      · rw [hu] at hF; cases hF
        exact List.all_eq_true.1 h1.2 x hx
      · rw [hz] at g3
        simp only [Bool.and_eq_true] at g3
        exact Nat.eq_of_beq_eq_true g3.2.2.1
end Go.Av
