/- The operations, continued. -/
import Derived.Test.YtgkopheekihkjaaDoorAMd
set_option linter.unusedVariables false
set_option linter.unusedSimpArgs false
namespace Go.AM
variable {P : Program} {π : Prot} {ρ : Ren} {H : AHeap} {w : World}
variable {e : Operand → Option AV} {eval : Operand → Value}

theorem aMove_ok (hs : Sim π ρ H w) (he : EvR π ρ e eval) {x : Operand} {r : ARes} (h : aMove e H x = some r) : OpOK P π ρ H w r (.ok (.value (eval x)) w) := by
  unfold aMove at h
  split at h
  · rename_i v hv
    cases h
    exact OpOK.pure hs rfl (he x v hv)
  · cases h
theorem aPick_ok (hs : Sim π ρ H w) (he : EvR π ρ e eval) {c a b : Operand} {r : ARes} (h : aPick P e H c a b = some r) : OpOK P π ρ H w r ((do pure (Next.value (if ← asBool (eval c) then eval a else eval b)) : Sem Next).run P w) := by
  unfold aPick at h
  split at h
  · rename_i t ht
    split at h
    · rename_i x y hx hy
      cases h
      have hc := he c _ ht
      generalize eval c = cv at *
      cases hc
      refine OpOK.pure hs (by simp [asBool]; rfl) ?_
      cases t
      · exact he b y hy
      · exact he a x hx
    · cases h
  · cases h

/-- A new row of cells. -/
theorem newRow_ok (hs : Sim π ρ H w) {cs : List AV} {vs : List Value} (hc : VRels π ρ cs vs) (h1 : ∀ v ∈ vs, vone v = true) (extra : List Value) (t : TypeId) :
    Sim π (ρ.put H.next (w.heap.size, 0, vs.length + extra.length)) (H.alloc (.cells cs)) (w.alloc (.cells (vs ++ extra).toArray t)) ∧ Stp ρ H w (ρ.put H.next (w.heap.size, 0, vs.length + extra.length)) (H.alloc (.cells cs)) (w.alloc (.cells (vs ++ extra).toArray t)) := by
  refine hs.alloc (.cells cs) (.cells (vs ++ extra).toArray t) (.cells (by have := hc.length; simp; omega) (by simp) (fun i a ha => ?_) (fun i _ hi => by simp))
  obtain ⟨v, hv, hr⟩ := hc.get i a ha
  refine ⟨v, ?_, hr, h1 v (List.mem_of_getElem? hv)⟩
  simp only [Nat.zero_add, List.getElem?_toArray]
  rw [List.getElem?_append_left (List.getElem?_eq_some_iff.1 hv).1]
  exact hv
theorem put_self (ρ : Ren) (i : Nat) (x : Nat × Nat × Nat) : (ρ.put i x) i = some x := by simp [Ren.put]

theorem aAlloc_ok (hs : Sim π ρ H w) {t : TypeId} {r : ARes} (h : aAlloc P H t = some r) : OpOK P π ρ H w r ((do pure (Next.value (← Instr.alloc t true (.tuple #[]))) : Sem Next).run P w) := by
  unfold aAlloc at h
  split at h
  · rename_i z hz
    cases hn : z.ntup with
    | false => rw [hn] at h; cases h
    | true =>
      rw [hn] at h
      simp only [cond_true, val, Option.some.injEq] at h
      subst h
      obtain ⟨v, hv, hr⟩ := zero_rel (w := w) hz
      obtain ⟨s1, s2⟩ := newRow_ok hs hr.cells (hr.cells_one hn) [] t
      refine ⟨_, _, .pointer (some ⟨w.heap.size, 0 + 0, none⟩), .inl ?_, .ptr (put_self _ _ _), s1, s2⟩
      simp [Instr.alloc, hv, newVar, newRow]
  · cases h
theorem aBox_ok (hs : Sim π ρ H w) (he : EvR π ρ e eval) {t : TypeId} {x : Operand} {r : ARes} (h : aBox e H x = some r) : OpOK P π ρ H w r ((do pure (Next.value (← Instr.box t (eval x))) : Sem Next).run P w) := by
  unfold aBox at h
  split at h
  · rename_i z hz
    cases hn : z.ntup with
    | false => rw [hn] at h; cases h
    | true =>
      rw [hn] at h
      simp only [cond_true, val, Option.some.injEq] at h
      subst h
      have hr := he x z hz
      obtain ⟨s1, s2⟩ := newRow_ok hs hr.cells (hr.cells_one hn) [] t
      refine ⟨_, _, .pointer (some ⟨w.heap.size, 0 + 0, none⟩), .inl ?_, .ptr (put_self _ _ _), s1, s2⟩
      simp [Instr.box, newVar, newRow]
  · cases h
theorem aLoad_ok (hs : Sim π ρ H w) (he : EvR π ρ e eval) {t : TypeId} {x : Operand} {r : ARes} (h : aLoad P e H t x = some r) : OpOK P π ρ H w r ((do pure (Next.value (← Instr.loadAt t (eval x))) : Sem Next).run P w) := by
  unfold aLoad at h
  split at h
  · rename_i p hp
    split at h
    · rename_i v hv
      cases h
      obtain ⟨y, hy, hr⟩ := hs.load (he x p hp) hv
      exact OpOK.pure hs (by simp [hy]) hr
    · cases h
  · cases h
theorem aStore_ok (hs : Sim π ρ H w) (he : EvR π ρ e eval) {t : TypeId} {a x : Operand} {r : ARes} (h : aStore P e H t a x = some r) : OpOK P π ρ H w r ((do Instr.storeAt t (eval a) (eval x); pure Next.skip : Sem Next).run P w) := by
  unfold aStore at h
  split at h
  · rename_i p v hp hv
    split at h
    · rename_i H' hH
      cases h
      obtain ⟨w', hw, s1, s2⟩ := hs.store (P := P) (he a p hp) (he x v hv) hH
      exact ⟨ρ, w', undef, .inr ⟨by simp [hw], rfl⟩, VRel.u, s1, s2⟩
    · cases h
  · cases h
theorem aNil_ok (hs : Sim π ρ H w) (he : EvR π ρ e eval) {x : Operand} {o : Oper} (ho : o.op = .nilCheck x) {r : ARes} (h : aNil e H x = some r) : OpOK P π ρ H w r ((execOp eval o).run P w) := by
  unfold aNil at h
  split at h
  all_goals first | (cases h; done) | skip
  all_goals
    rename_i hx
    cases h
    have hv := he x _ hx
    refine OpOK.pure hs (v' := eval x) ?_ hv
    simp only [execOp, ho]
    generalize eval x = y at *
    cases hv <;> rfl
theorem aBin_ok (hs : Sim π ρ H w) (he : EvR π ρ e eval) {op : BinOp} {t : TypeId} {x y : Operand} {r : ARes} (h : aBin P e H op t x y = some r) :
    OpOK P π ρ H w r ((do pure (Next.value (← (do eqGuard op t x y (eval x) (eval y); binOp op t (eval x) (eval y) : Sem Value))) : Sem Next).run P w) := by
  unfold aBin at h
  split at h
  · rename_i a b ha hb
    cases hg : guardOk P t x y a b with
    | false => rw [hg] at h; cases h
    | true =>
      rw [hg] at h
      simp only [cond_true] at h
      split at h
      · rename_i v hv
        cases h
        obtain ⟨v', hr, hv'⟩ := binop_rel (w := w) hv (he x a ha) (he y b hb)
        exact OpOK.pure hs (by simp [guard_rel hg (he x a ha) (he y b hb), hr]) hv'
      · cases h
  · cases h
theorem aUn_ok (hs : Sim π ρ H w) (he : EvR π ρ e eval) {op : UnOp} {x : Operand} {r : ARes} (h : aUn e H op x = some r) : OpOK P π ρ H w r ((do pure (Next.value (← Op.unary op (eval x))) : Sem Next).run P w) := by
  unfold aUn at h
  split at h
  · rename_i a ha
    split at h
    · rename_i v hv
      cases h
      obtain ⟨v', hr, hv'⟩ := unop_rel (P := P) (w := w) hv (he x a ha)
      exact OpOK.pure hs (by simp [hr]) hv'
    · cases h
  · cases h
theorem aIface_ok (hs : Sim π ρ H w) (he : EvR π ρ e eval) {t : TypeId} {x : Operand} {r : ARes} (h : aIface P e H t x = some r) : OpOK P π ρ H w r ((do pure (Next.value (← Instr.makeInterface t (eval x))) : Sem Next).run P w) := by
  unfold aIface at h
  split at h
  · cases h
  · rename_i D hn ha hD
    cases h
    refine OpOK.pure hs ?_ (.ifc (he x _ ha))
    simp only [Instr.makeInterface, Sem.run_bind, run_underlying hD, Result.andThen_ok]
    cases D <;> first | rfl | exact (hn _ rfl).elim
  · cases h
theorem aFunc_ok (hs : Sim π ρ H w) (he : EvR π ρ e eval) {fn : Fn} {first cap : Array Operand} {r : ARes} (h : aFunc e H fn first cap = some r) :
    OpOK P π ρ H w r ((do pure (Next.value (← Instr.makeFunc fn (first.map eval) (cap.map eval))) : Sem Next).run P w) := by
  unfold aFunc at h
  split at h
  · rename_i f xs ys hx hy
    cases h
    refine OpOK.pure hs (v' := .func (.func f) (first.map eval) (cap.map eval)) rfl ?_
    have h1 := evs_rel he hx
    have h2 := evs_rel he hy
    have := VRel.fnL (f := f) h1 h2
    rw [← Array.toList_map, ← Array.toList_map, Array.toArray_toList, Array.toArray_toList] at this
    exact this
  · cases h
theorem aMap_ok (hs : Sim π ρ H w) (he : EvR π ρ e eval) {t : TypeId} {x : Option Operand} {r : ARes} (h : aMap P e H t x = some r) : OpOK P π ρ H w r ((do pure (Next.value (← Instr.makeMap t (x.map eval))) : Sem Next).run P w) := by
  have key : ∀ w, Sim π ρ H w → OpOK P π ρ H w (.val (.mapv H.next) (H.alloc (.map []))) (.ok (.value (.map (some w.heap.size))) (w.alloc (.map #[] 0))) := fun w hs => by
    obtain ⟨s1, s2⟩ := hs.alloc (.map []) (.map #[] 0) (.map (by simp [All2]))
    exact ⟨_, _, _, .inl rfl, .mapv (put_self _ _ _), s1, s2⟩
  unfold aMap at h
  split at h
  · cases h
    simpa [Instr.makeMap] using key w hs
  · rename_i y
    split at h
    · rename_i k n a b hy hD
      cases h
      have hv := he y _ hy
      generalize hq : eval y = q at *
      cases hv
      simpa [Instr.makeMap, run_underlying hD, asInt, asIntOf, hq] using key w hs
    · cases h
theorem aField_ok (hs : Sim π ρ H w) (he : EvR π ρ e eval) {t : TypeId} {x : Operand} {f : Nat} {r : ARes} (h : aField P e H t x f = some r) : OpOK P π ρ H w r ((do pure (Next.value (← Instr.field t (eval x) f)) : Sem Next).run P w) := by
  unfold aField at h
  split at h
  · rename_i fields cs hD hx
    split at h
    · rename_i fd hf
      split at h
      · rename_i v hv
        cases h
        have hxv := he x _ hx
        generalize eval x = q at *
        obtain ⟨ys, rfl, hys, h1⟩ := hxv.agg_inv
        obtain ⟨y, hy, hr⟩ := part_rel (w := w) hys h1 hv
        exact OpOK.pure hs (by simp [Instr.field, run_underlying hD, hf, asAgg, hy]) hr
      · cases h
    · cases h
  · cases h
theorem addP_rel {a p : AV} {a' : Value} {n : Nat} (h : addP a n = some p) (ha : VRel π ρ a a') : ∃ b o, a' = .pointer (some ⟨b, o, none⟩) ∧ VRel π ρ p (.pointer (some ⟨b, o + n, none⟩)) := by
  unfold addP at h
  split at h
  · cases ha
    rename_i b s hr
    cases h
    exact ⟨b, _, rfl, by rw [Nat.add_assoc]; exact .ptr hr⟩
  · cases ha
    rename_i b s vs hc h1 hr
    cases h
    exact ⟨b, _, rfl, by rw [Nat.add_assoc]; exact .rptr vs hc h1 hr⟩
  · cases h
theorem aFieldAddr_ok (hs : Sim π ρ H w) (he : EvR π ρ e eval) {t : TypeId} {x : Operand} {f : Nat} {r : ARes} (h : aFieldAddr P e H t x f = some r) : OpOK P π ρ H w r ((do pure (Next.value (← Instr.fieldAt t (eval x) f)) : Sem Next).run P w) := by
  unfold aFieldAddr at h
  split at h
  · rename_i fields a hD hx
    split at h
    · rename_i fd hf
      split at h
      · rename_i n hn
        cases hz : Nat.beq n 0 with
        | true => rw [hz] at h; cases h
        | false =>
          rw [hz] at h
          simp only [cond_false] at h
          split at h
          · rename_i p hp
            cases h
            have hxv := he x _ hx
            generalize eval x = q at *
            obtain ⟨b, o, rfl, hr⟩ := addP_rel hp hxv
            obtain ⟨i, hi, rfl⟩ := Option.map_eq_some_iff.1 hn
            have hne : ¬ i.size = 0 := fun hh => by rw [hh] at hz; cases hz
            refine OpOK.pure hs ?_ hr
            simp [Instr.fieldAt, run_underlying hD, hf, Instr.sureAddr, fieldPlace, run_sizeOf hi, hne, add_spot]
          · cases h
      · cases h
    · cases h
  · cases h

/-! ### Building -/
theorem evParts_rel (he : EvR π ρ e eval) : ∀ {xs : List (Nat × Operand)} {as : List (Nat × AV)}, evParts e xs = some as → All2 (fun (p : Nat × AV) (q : Nat × Value) => p.1 = q.1 ∧ VRel π ρ p.2 q.2) as (xs.map fun p => (p.1, eval p.2))
  | [], as, h => by simp [evParts] at h; subst h; trivial
  | (i, x) :: r, as, h => by
    unfold evParts at h
    cases h1 : e x with
    | none => simp [h1] at h
    | some a =>
      cases h2 : evParts e r with
      | none => simp [h1, h2] at h
      | some as' =>
        simp [h1, h2] at h
        subst h
        exact ⟨⟨rfl, he x a h1⟩, evParts_rel he h2⟩
theorem foldl_set : ∀ (vs : List Value) (off k : Nat) (cs : Array Value), (vs.zipIdx k).foldl (fun cs (p : Value × Nat) => cs.setIfInBounds (off + p.2) p.1) cs = setArr cs (off + k) vs
  | [], _, _, _ => rfl
  | v :: r, off, k, cs => by
    simp only [List.zipIdx_cons, List.foldl_cons, setArr]
    rw [foldl_set r off (k + 1)]
    rfl
theorem setArr_rel {cs xs : List AV} {c : Array Value} {vs : List Value} {off : Nat} (hc : VRels π ρ cs c.toList) (hx : VRels π ρ xs vs) (hle : off + xs.length ≤ cs.length) : VRels π ρ (cs.take off ++ xs ++ cs.drop (off + xs.length)) (setArr c off vs).toList := by
  have hl := hx.length
  have hcl : cs.length = c.size := by have := hc.length; simpa using this
  refine All2.of_get (by simp [size_setArr]; omega) fun i a b ha hb => ?_
  rw [splice_get hle] at ha
  have hb' : (setArr c off vs)[i]? = some b := by simpa using hb
  rw [get_setArr vs off c i (by omega)] at hb'
  by_cases hi : off ≤ i ∧ i < off + xs.length
  · rw [if_pos hi] at ha
    rw [if_pos (by omega)] at hb'
    obtain ⟨y, hy, hr⟩ := hx.get _ _ ha
    rw [hb'] at hy
    cases hy
    exact hr
  · rw [if_neg hi] at ha
    rw [if_neg (by omega)] at hb'
    obtain ⟨y, hy, hr⟩ := hc.get _ _ ha
    have : c[i]? = some y := by simpa using hy
    rw [hb'] at this
    cases this
    exact hr
theorem setArr_one {c : Array Value} {vs : List Value} {off : Nat} (hc : ∀ y ∈ c.toList, vone y = true) (hv : ∀ y ∈ vs, vone y = true) (hle : off + vs.length ≤ c.size) : ∀ y ∈ (setArr c off vs).toList, vone y = true := by
  intro y hy
  obtain ⟨i, hi⟩ := List.mem_iff_getElem?.1 hy
  have hi' : (setArr c off vs)[i]? = some y := by simpa using hi
  rw [get_setArr vs off c i hle] at hi'
  split at hi'
  · exact hv y (List.mem_of_getElem? hi')
  · exact hc y (by have : c.toList[i]? = some y := by simpa using hi'
                   exact List.mem_of_getElem? this)
theorem fill_rel {place : Nat → Option (Nat × Nat)} : ∀ {ps : List (Nat × AV)} {qs : List (Nat × Value)} {cs out : List AV} {c : Array Value}, All2 (fun (p : Nat × AV) (q : Nat × Value) => p.1 = q.1 ∧ VRel π ρ p.2 q.2) ps qs →
    VRels π ρ cs c.toList → (∀ y ∈ c.toList, vone y = true) → fillA place cs ps = some out → ∃ o, Instr.fill place c qs = some o ∧ VRels π ρ out o.toList ∧ ∀ y ∈ o.toList, vone y = true
  | [], [], cs, out, c, _, hc, h1, h => by simp [fillA] at h; subst h; exact ⟨c, rfl, hc, h1⟩
  | (i, v) :: ps, (j, x) :: qs, cs, out, c, hh, hc, h1, h => by
    obtain ⟨⟨hij, hv⟩, hr⟩ := hh
    simp only at hij
    subst hij
    replace hv : VRel π ρ v x := hv
    unfold fillA at h
    cases hp : place i with
    | none => simp [hp] at h
    | some os =>
      obtain ⟨off, size⟩ := os
      simp only [hp] at h
      split at h
      · rename_i hcond
        simp only [Bool.and_eq_true, lenIs_iff, hasLen_iff] at hcond
        obtain ⟨⟨hn, hl⟩, hle⟩ := hcond
        have hvl := hv.cells.length
        have hcl : cs.length = c.size := by have := hc.length; simpa using this
        have hsz : x.cells.size = size := by rw [← hl, hvl]; simp
        have hr2 : VRels π ρ (cs.take off ++ v.cells ++ cs.drop (off + size)) (setArr c off x.cells.toList).toList := by
          have := setArr_rel (c := c) (off := off) hc hv.cells (by omega)
          rwa [hl] at this
        obtain ⟨o, ho, hr3, h3⟩ := fill_rel hr hr2 (setArr_one h1 (hv.cells_one hn) (by simp; omega)) h
        refine ⟨o, ?_, hr3, h3⟩
        simp only [Instr.fill, hp]
        rw [if_neg (by simp [hsz]; omega)]
        have := foldl_set x.cells.toList off 0 c
        rw [← ho]
        congr 1
        rw [← Array.foldl_toList, Array.toList_zipIdx]
        simpa using this
      · cases h
  | [], _ :: _, _, _, _, hh, _, _, _ => hh.elim
  | _ :: _, [], _, _, _, hh, _, _, _ => hh.elim
theorem places_rel : ∀ {l : List Field} {pl : List (Nat × Nat)}, placesOf P l = some pl → (l.mapM fun f => do pure (f.offset, ← sizeOf f.type) : Sem (List (Nat × Nat))).run P w = .ok pl w
  | [], pl, h => by simp [placesOf] at h; subst h; rfl
  | f :: r, pl, h => by
    unfold placesOf at h
    split at h
    · rename_i n l hn hl
      cases h
      obtain ⟨i, hi, rfl⟩ := Option.map_eq_some_iff.1 hn
      have ih := places_rel hl
      simp only [bind_pure_comp] at ih ⊢
      simp [List.mapM_cons, run_sizeOf hi, ih]
    · cases h
theorem aBuild_ok (hs : Sim π ρ H w) (he : EvR π ρ e eval) {t : TypeId} {parts : Array (Nat × Operand)} {r : ARes} (h : aBuild P e H t parts = some r) :
    OpOK P π ρ H w r ((do pure (Next.value (← Instr.build t (parts.map fun (i, x) => (i, eval x)))) : Sem Next).run P w) := by
  have htl : (parts.map fun (i, x) => (i, eval x)).toList = parts.toList.map fun p => (p.1, eval p.2) := by simp
  unfold aBuild at h
  split at h
  · rename_i z fields ps hz hD hps
    split at h
    · rename_i pl hpl
      cases hn : z.ntup with
      | false => rw [hn] at h; cases h
      | true =>
        rw [hn] at h
        simp only [cond_true] at h
        split at h
        · rename_i cs hcs
          cases h
          obtain ⟨v, hv, hr⟩ := zero_rel (w := w) hz
          obtain ⟨o, ho, hr2, h2⟩ := fill_rel (evParts_rel he hps) hr.cells (hr.cells_one hn) hcs
          have hm : (fields.mapM fun f => do pure (f.offset, ← sizeOf f.type) : Sem (Array (Nat × Nat))).run P w = .ok pl.toArray w := by
            have := places_rel (w := w) hpl
            have e1 : fields = fields.toList.toArray := by simp
            rw [e1, List.mapM_toArray]
            simp only [Sem.run_map, this, Result.andThen_ok]
          have hfun : (fun (i : Nat) => (pl.toArray)[i]?) = fun (i : Nat) => pl[i]? := by funext i; simp
          refine OpOK.pure hs (v' := .agg o) ?_ (by have := VRel.aggL h2 hr2; simpa using this)
          simp only [Instr.build, Sem.run_bind, hv, Result.andThen_ok, run_underlying hD, hm, hfun, htl, ho]
          rfl
        · cases h
    · cases h
  · rename_i z n el ps hz hD hps
    split at h
    · rename_i m hm
      cases hn : z.ntup with
      | false => rw [hn] at h; cases h
      | true =>
        rw [hn] at h
        simp only [cond_true] at h
        split at h
        · rename_i cs hcs
          cases h
          obtain ⟨i, hi, rfl⟩ := Option.map_eq_some_iff.1 hm
          obtain ⟨v, hv, hr⟩ := zero_rel (w := w) hz
          obtain ⟨o, ho, hr2, h2⟩ := fill_rel (evParts_rel he hps) hr.cells (hr.cells_one hn) hcs
          refine OpOK.pure hs (v' := .agg o) ?_ (by have := VRel.aggL h2 hr2; simpa using this)
          simp only [Instr.build, Sem.run_bind, hv, Result.andThen_ok, run_underlying hD, run_sizeOf hi, htl, ho]
          rfl
        · cases h
    · cases h
  · cases h
theorem flat_get {α : Type} (zs : List α) : ∀ (n i : Nat), i < n * zs.length → (List.replicate n zs).flatten[i]? = zs[i % zs.length]?
  | 0, i, h => by simp at h
  | n + 1, i, h => by
    rw [List.replicate_succ, List.flatten_cons]
    by_cases hi : i < zs.length
    · rw [List.getElem?_append_left hi, Nat.mod_eq_of_lt hi]
    · rw [List.getElem?_append_right (by omega), flat_get zs n _ (by rw [Nat.add_mul, Nat.one_mul] at h; omega)]
      congr 1
      exact (Nat.mod_eq_sub_mod (by omega)).symm
theorem len_flat {α : Type} (zs : List α) (n : Nat) : (List.replicate n zs).flatten.length = n * zs.length := by
  induction n with
  | zero => simp
  | succ n ih => rw [List.replicate_succ, List.flatten_cons, List.length_append, ih, Nat.succ_mul, Nat.add_comm]
theorem zeros_rel {zs : List AV} {c : Array Value} {n size : Nat} (hz : VRels π ρ zs c.toList) (h1 : ∀ y ∈ c.toList, vone y = true) (hl : zs.length = size) :
    VRels π ρ (List.replicate n zs).flatten ((Array.range (n * size)).map fun i => c[i % c.size]!).toList ∧ ∀ y ∈ ((Array.range (n * size)).map fun i => c[i % c.size]!).toList, vone y = true := by
  have hcl : zs.length = c.size := by have := hz.length; simpa using this
  constructor
  · refine All2.of_get (by rw [len_flat]; simp [hl]) fun i a b ha hb => ?_
    have hi : i < n * zs.length := by have := (List.getElem?_eq_some_iff.1 ha).1; rwa [len_flat] at this
    rw [flat_get zs n i hi] at ha
    have hpos : 0 < zs.length := by
      rcases Nat.eq_zero_or_pos zs.length with h0 | h0
      · rw [h0] at hi; simp at hi
      · exact h0
    obtain ⟨y, hy, hr⟩ := hz.get _ _ ha
    have hb2 : b = c[i % c.size]! := by
      simp only [Array.toList_map, List.getElem?_map, Array.toList_range] at hb
      rw [← hl] at hb
      simp [hi] at hb
      exact hb.symm
    have hm : i % c.size < c.size := Nat.mod_lt _ (by omega)
    rw [hcl] at hy
    have : c[i % c.size]! = y := by
      have h3 : c[i % c.size]? = some y := by simpa using hy
      rw [getElem!_pos c _ hm]
      rw [Array.getElem?_eq_getElem hm] at h3
      exact some_inj h3
    rw [hb2, this]
    exact hr
  · intro y hy
    simp only [Array.toList_map, List.mem_map, Array.toList_range, List.mem_range] at hy
    obtain ⟨i, hi, rfl⟩ := hy
    have hpos : 0 < c.size := by
      rcases Nat.eq_zero_or_pos c.size with h0 | h0
      · rw [← hl, hcl, h0] at hi; simp at hi
      · exact h0
    have hm : i % c.size < c.size := Nat.mod_lt _ hpos
    rw [getElem!_pos c _ hm]
    exact h1 _ (by simp)
theorem fillA_len {place : Nat → Option (Nat × Nat)} : ∀ {ps : List (Nat × AV)} {cs out : List AV}, fillA place cs ps = some out → out.length = cs.length
  | [], cs, out, h => by simp [fillA] at h; rw [h]
  | (i, v) :: ps, cs, out, h => by
    unfold fillA at h
    split at h
    · cases h
    · rename_i off size hp
      split at h
      · rename_i hcond
        simp only [Bool.and_eq_true, lenIs_iff, hasLen_iff] at hcond
        have := fillA_len h
        rw [this]
        simp
        omega
      · cases h
theorem aBuildSlice_ok (hs : Sim π ρ H w) (he : EvR π ρ e eval) {t : TypeId} {len : Nat} {parts : Array (Nat × Operand)} {r : ARes} (h : aBuildSlice P e H t len parts = some r) :
    OpOK P π ρ H w r ((do pure (Next.value (← Instr.buildSlice t len (parts.map fun (i, x) => (i, eval x)))) : Sem Next).run P w) := by
  have htl : (parts.map fun (i, x) => (i, eval x)).toList = parts.toList.map fun p => (p.1, eval p.2) := by simp
  unfold aBuildSlice at h
  split at h
  · rename_i el ps hD hps
    split at h
    · rename_i n z hn hz
      cases hc : (z.ntup && (lenIs z.cells n && Nat.ble (len * n) 16777216)) with
      | false => rw [hc] at h; cases h
      | true =>
        rw [hc] at h
        simp only [cond_true] at h
        simp only [Bool.and_eq_true, lenIs_iff] at hc
        have hle : len * n ≤ 16777216 := Nat.le_of_ble_eq_true hc.2.2
        split at h
        · rename_i cs hcs
          cases h
          obtain ⟨i, hi, rfl⟩ := Option.map_eq_some_iff.1 hn
          obtain ⟨v, hv, hr⟩ := zero_rel (w := w) hz
          obtain ⟨hz1, hz2⟩ := zeros_rel (n := len) hr.cells (hr.cells_one hc.1) hc.2.1
          obtain ⟨o, ho, hr2, h2⟩ := fill_rel (evParts_rel he hps) hz1 hz2 hcs
          obtain ⟨s1, s2⟩ := newRow_ok hs hr2 h2 [] el
          refine ⟨_, _, .slice (some ⟨w.heap.size, 0, none⟩) len len, .inl ?_, .sl (put_self _ _ _) (Nat.le_refl _) (fun _ => rfl) (Nat.le_refl _) (.inr rfl) ?_ (Nat.zero_le _), s1, s2⟩
          rotate_left
          · have := hr2.length
            have hcl2 := fillA_len hcs
            rw [len_flat, hc.2.1] at hcl2
            simp at this ⊢
            omega
          have hgt : ¬ len * i.size > 2 ^ 24 := by have : (2 : Nat) ^ 24 = 16777216 := by decide
                                                   omega
          have hz0 : len * i.size = 0 → Instr.fill (fun j => some (j * i.size, i.size)) ((Array.range (len * i.size)).map fun j => (#[] : Array Value)[j % (#[] : Array Value).size]!) (parts.toList.map fun p => (p.1, eval p.2)) = some o := fun h0 => by
            rw [← ho, h0, show Array.range 0 = #[] from rfl]
            simp
          simp only [Instr.buildSlice, Sem.run_bind, run_underlying hD, Result.andThen_ok, run_sizeOf hi, hgt, if_false, htl]
          by_cases h0 : len * i.size = 0
          · have := hz0 h0
            simp only [h0, if_true, Sem.run_bind, Sem.run_pure, Result.andThen_ok] at this ⊢
            simp only [this]
            simp [Go.newRow]
          · simp only [h0, if_false, Sem.run_bind, hv, Sem.run_pure, Result.andThen_ok, ho]
            simp [Go.newRow]
        · cases h
    · cases h
  · cases h
end Go.AM
