/- Operations of a region that draws its order: what they look at. -/
import Derived.Test.YtgkopheekihkjaaDoorAMl
set_option linter.unusedVariables false
set_option linter.unusedSimpArgs false
namespace Go.AM
variable {P : Program} {π : Prot} {G : Nat → Option (List AV)}

theorem evs_congr {e e' : Operand → Option AV} : ∀ {l : List Operand}, (∀ x ∈ l, e x = e' x) → evs e l = evs e' l
  | [], _ => rfl
  | x :: r, h => by
    have h1 := h x (by simp)
    have h2 := evs_congr (l := r) fun y hy => h y (by simp [hy])
    simp only [evs, h1, h2]
theorem evParts_congr {e e' : Operand → Option AV} : ∀ {l : List (Nat × Operand)}, (∀ x ∈ l, e x.2 = e' x.2) → evParts e l = evParts e' l
  | [], _ => rfl
  | (i, x) :: r, h => by
    have h1 := h (i, x) (by simp)
    have h2 := evParts_congr (l := r) fun y hy => h y (by simp [hy])
    simp only at h1
    simp only [evParts, h1, h2]
theorem evO_congr {e e' : Operand → Option AV} : ∀ {l : Option Operand}, (∀ x ∈ l, e x = e' x) → evO e l = evO e' l
  | none, _ => rfl
  | some x, h => by simp only [evO, h x rfl]

theorem aop_congr {e e' : Operand → Option AV} {H : AHeap} {op : Op} (h : ∀ x ∈ op.operands, e x = e' x) : aop P e H op = aop P e' H op := by
  cases op with
  | move x => simp only [aop, aMove, h x (by simp [Op.operands])]
  | assign x => simp only [aop, aMove, h x (by simp [Op.operands])]
  | pick c a b => simp only [aop, aPick, h c (by simp [Op.operands]), h a (by simp [Op.operands]), h b (by simp [Op.operands])]
  | alloc t => rfl
  | box t x => simp only [aop, aBox, h x (by simp [Op.operands])]
  | build t ps => simp only [aop, aBuild, evParts_congr (l := ps.toList) fun x hx => h x.2 (by simp only [Op.operands, List.mem_toArray, List.mem_map]; exact ⟨x, hx, rfl⟩)]
  | buildSlice t n ps => simp only [aop, aBuildSlice, evParts_congr (l := ps.toList) fun x hx => h x.2 (by simp only [Op.operands, List.mem_toArray, List.mem_map]; exact ⟨x, hx, rfl⟩)]
  | load t x => simp only [aop, aLoad, h x (by simp [Op.operands])]
  | store t a x => simp only [aop, aStore, h a (by simp [Op.operands]), h x (by simp [Op.operands])]
  | nilCheck x => simp only [aop, aNil, h x (by simp [Op.operands])]
  | binOp op t x y q => simp only [aop, aBin, h x (by simp [Op.operands]), h y (by simp [Op.operands])]
  | unOp op t x => simp only [aop, aUn, h x (by simp [Op.operands])]
  | convert s d x => simp only [aop, aConv, h x (by simp [Op.operands])]
  | makeInterface t x => simp only [aop, aIface, h x (by simp [Op.operands])]
  | makeFunc fn a c => simp only [aop, aFunc, evs_congr (l := a.toList) fun x hx => h x (by simp [Op.operands, Array.mem_toList_iff.1 hx]), evs_congr (l := c.toList) fun x hx => h x (by simp [Op.operands, Array.mem_toList_iff.1 hx])]
  | makeMap t r =>
    cases r with
    | none => rfl
    | some x => simp only [aop, aMap, h x (by simp [Op.operands])]
  | makeSlice t l c => simp only [aop, aMake, h l (by simp [Op.operands]), h c (by simp [Op.operands])]
  | slice t x lo hi mx => simp only [aop, aSlice, h x (by simp [Op.operands]), evO_congr (l := lo) fun y hy => h y (by simp at hy; simp [Op.operands, hy]), evO_congr (l := hi) fun y hy => h y (by simp at hy; simp [Op.operands, hy]), evO_congr (l := mx) fun y hy => h y (by simp at hy; simp [Op.operands, hy])]
  | fieldAddr t x f => simp only [aop, aFieldAddr, h x (by simp [Op.operands])]
  | field t x f => simp only [aop, aField, h x (by simp [Op.operands])]
  | indexAddr t x i => simp only [aop, aIndexAddr, h x (by simp [Op.operands]), h i (by simp [Op.operands])]
  | index t x i => simp only [aop, aIndex, h x (by simp [Op.operands]), h i (by simp [Op.operands])]
  | range t x => simp only [aop, aRange, h x (by simp [Op.operands])]
  | next x s => simp only [aop, aNext, h x (by simp [Op.operands])]
  | typeAssert x a b c => simp only [aop, aAssert, h x (by simp [Op.operands])]
  | extract x i => simp only [aop, aExtract, h x (by simp [Op.operands])]
  | call c =>
    have ha := evs_congr (l := c.args.toList) fun x hx => h x (by simp [Op.operands, Call.operands, Array.mem_toList_iff.1 hx])
    simp only [aop, callA, ha]
    cases evs e' c.args.toList with
    | none => rfl
    | some args =>
      cases hc : c.callee with
      | builtin b => rfl
      | invoke r n => simp only [h r (by simp [Op.operands, Call.operands, hc])]
      | value g => simp only [h g (by simp [Op.operands, Call.operands, hc])]
  | defer c =>
    have ha := evs_congr (l := c.args.toList) fun x hx => h x (by simp [Op.operands, Call.operands, Array.mem_toList_iff.1 hx])
    simp only [aop, aDefer, ha]
    cases evs e' c.args.toList with
    | none => cases c.callee <;> rfl
    | some args =>
      cases hc : c.callee with
      | builtin b => rfl
      | invoke r n => rfl
      | value g => simp only [h g (by simp [Op.operands, Call.operands, hc])]
  | _ => rfl

def idOf : Option AV → Option Nat
  | some (.ptr id _) => some id
  | some (.sl id ..) => some id
  | some (.mapv id) => some id
  | _ => none
/-- An operation that leaves memory as it is. -/
theorem aop_pure {e : Operand → Option AV} {H : AHeap} {op : Op} {r : ARes} (hc : cls op = .pure) (h : aop P e H op = some r) :
    ∃ v, r = .val v H ∧ ∀ H2, aop P e H2 op = some (.val v H2) := by
  cases op <;> try (simp only [cls, reduceCtorEq] at hc; done)
  case call c =>
    simp only [cls] at hc
    split at hc <;> simp_all
  all_goals
    simp only [aop, aMove, aPick, aBuild, aNil, aBin, aUn, aIface, aFunc, aFieldAddr, aField, aIndexAddr, aIndex, aAssert, assertA, aExtract, val, Bool.cond_eq_ite, Option.bind] at h ⊢
  all_goals
    (repeat' split at h) <;> first | (cases h; done) | (cases h; refine ⟨_, rfl, fun H2 => ?_⟩; simp_all; done)

theorem loadT_agree {H H2 : AHeap} {t : TypeId} {a v : AV} (h : loadT P H t a = some v) (hk : ∀ id, idOf (some a) = some id → ∀ o, H.get id = some o → H2.get id = some o) : loadT P H2 t a = some v := by
  have k : ∀ n r, rd H a n = some r → rd H2 a n = some r := by
    intro n r h
    unfold rd at h ⊢
    split at h
    · rename_i id off
      split at h
      · rename_i cs hg
        simp only [hk _ rfl _ hg]
        exact h
      · cases h
    · exact h
    · cases h
  unfold loadT at h ⊢
  split at h
  · rename_i d i hd hi
    split at h
    · rename_i hb
      simp only [hd, hi, hb, if_true]
      obtain ⟨r, hr, hv⟩ := Option.map_eq_some_iff.1 h
      exact Option.map_eq_some_iff.2 ⟨r, k _ _ hr, hv⟩
    · rename_i hb
      split at h
      · rename_i v hr
        simp only [hd, hi, hb, k _ _ hr]
        exact h
      · cases h
  · cases h
theorem sliceA_agree {H H2 : AHeap} {t : TypeId} {a : AV} {lo hi mx : Option AV} {r : ARes} (h : sliceA P t H a lo hi mx = some r) : ∃ v, r = .val v H ∧ ((∀ id, idOf (some a) = some id → ∀ o, H.get id = some o → H2.get id = some o) → sliceA P t H2 a lo hi mx = some (.val v H2)) := by
  unfold sliceA at h
  simp only [val, Bool.cond_eq_ite] at h
  (repeat' split at h) <;> first
    | (cases h; done)
    | (cases h; refine ⟨_, rfl, fun hk => ?_⟩; unfold sliceA; have hk2 := hk _ rfl _ (by assumption); clear hk; simp_all [val, Bool.cond_eq_ite]; done)
    | (cases h; refine ⟨_, rfl, fun hk => ?_⟩; clear hk; unfold sliceA; simp_all [val, Bool.cond_eq_ite]; done)
theorem lenA_agree {H H2 : AHeap} {t : TypeId} {a : AV} {n : Int} (h : lenA P t H a = some n) (hk : ∀ id, idOf (some a) = some id → ∀ o, H.get id = some o → H2.get id = some o) : lenA P t H2 a = some n := by
  unfold lenA at h ⊢
  (repeat' split at h) <;> first
    | (cases h; done)
    | (cases h; have hk2 := hk _ rfl _ (by assumption); clear hk; simp_all; done)
    | (cases h; clear hk; simp_all; done)
theorem aop_read {e : Operand → Option AV} {H H2 : AHeap} {op : Op} {r : ARes} (hc : cls op = .read) (h : aop P e H op = some r) :
    ∃ v, r = .val v H ∧ ((∀ x ∈ op.operands, ∀ id, idOf (e x) = some id → ∀ o, H.get id = some o → H2.get id = some o) → aop P e H2 op = some (.val v H2)) := by
  cases op <;> try (simp only [cls, reduceCtorEq] at hc; done)
  case load t x =>
    simp only [aop, aLoad, val] at h ⊢
    split at h
    · rename_i p hp
      split at h
      · rename_i v hv
        cases h
        refine ⟨v, rfl, fun hk => ?_⟩
        rw [loadT_agree hv (H2 := H2) fun id hid => hk x (by simp [Op.operands]) id (by rw [hp]; exact hid)]
      · cases h
    · cases h
  case slice t x lo hi mx =>
    simp only [aop, aSlice] at h ⊢
    split at h
    · rename_i a l hh m ha hl hh2 hm
      obtain ⟨v, hv, hk⟩ := sliceA_agree (H2 := H2) h
      exact ⟨v, hv, fun hk' => hk fun id hid => hk' x (by simp [Op.operands]) id (by rw [ha]; exact hid)⟩
    · cases h
  case call c =>
    obtain ⟨args, tys, rfl⟩ : ∃ args tys, c = { callee := .builtin .len, args := args, argTypes := tys } := by
      simp only [cls] at hc
      split at hc <;> first
        | (cases hc; done)
        | (rename_i hh; cases hh; done)
        | (rename_i hh; cases hh; exact ⟨_, _, rfl⟩)
    simp only [aop, callA, val] at h ⊢
    cases has : evs e args.toList with
    | none => rw [has] at h; cases h
    | some as =>
      rw [has] at h
      simp only [builtinA, val] at h ⊢
      match as, has, h with
      | [], _, h => cases h
      | [x], has, h =>
        cases htl : tys.toList with
        | nil => simp [htl] at h
        | cons t ts =>
          simp only [htl] at h ⊢
          cases hn : lenA P t H x with
          | none => rw [hn] at h; cases h
          | some n =>
            rw [hn] at h
            cases h
            refine ⟨_, rfl, fun hk => ?_⟩
            rw [lenA_agree hn (H2 := H2)]
            intro id hid
            cases hl : args.toList with
            | nil => rw [hl] at has; cases has
            | cons y ys =>
              rw [hl] at has
              refine hk y (by simp [Op.operands, Call.operands, ← Array.mem_toList_iff, hl]) id ?_
              simp only [evs] at has
              split at has
              · rename_i v vs hv hvs
                cases has
                rw [hv]
                exact hid
              · cases has
      | _ :: _ :: _, _, h => cases h
theorem aop_alloc {e : Operand → Option AV} {H : AHeap} {op : Op} {r : ARes} (hc : cls op = .alloc) (h : aop P e H op = some r) :
    ∃ v o, r = .val v (H.alloc o) ∧ ∀ H2 : AHeap, H2.next = H.next → aop P e H2 op = some (.val v (H2.alloc o)) := by
  cases op <;> try (simp only [cls, reduceCtorEq] at hc; done)
  case call c =>
    simp only [cls] at hc
    split at hc <;> simp_all
  all_goals
    simp only [aop, aAlloc, aBox, aBuildSlice, aMap, aMake, val, Bool.cond_eq_ite] at h ⊢
  all_goals
    (repeat' split at h) <;> first | (cases h; done) | (cases h; refine ⟨_, _, rfl, fun H2 hn => ?_⟩; simp_all; done)

/-! ### Memory by parts -/
theorem AHeap.ofF (g : Nat → Option AObj) (n : Nat) : ∃ H : AHeap, H.next = n ∧ ∀ i, H.get i = if i < n then g i else none := by
  induction n with
  | zero => exact ⟨.empty, rfl, fun i => by simp [AHeap.get_empty]⟩
  | succ n ih =>
    obtain ⟨H, h1, h2⟩ := ih
    cases hg : g n with
    | none =>
      refine ⟨⟨H.objs, n + 1⟩, rfl, fun i => ?_⟩
      have : AHeap.get ⟨H.objs, n + 1⟩ i = H.get i := rfl
      rw [this, h2]
      by_cases e : i = n
      · subst e; simp [hg]
      · by_cases hi : i < n
        · simp [hi, Nat.lt_succ_of_lt hi]
        · have : ¬ i < n + 1 := by omega
          simp [hi, this]
    | some o =>
      refine ⟨⟨(H.set n o).objs, n + 1⟩, rfl, fun i => ?_⟩
      have : AHeap.get ⟨(H.set n o).objs, n + 1⟩ i = (H.set n o).get i := rfl
      rw [this, AHeap.get_set, h2]
      by_cases e : i = n
      · subst e; simp [hg]
      · by_cases hi : i < n
        · simp [hi, Nat.lt_succ_of_lt hi, e]
        · have : ¬ i < n + 1 := by omega
          simp [hi, this, e]
theorem Sim.congr {ρ : Ren} {H H2 : AHeap} {w : World} (hs : Sim π ρ H w) (hn : H2.next = H.next) (hg : ∀ i, H2.get i = H.get i) : Sim π ρ H2 w :=
  ⟨fun i hi => hs.fresh i (hn ▸ hi), fun i hi => (hg i).trans (hs.lt i (hn ▸ hi)), fun i o b s h => hs.obj i o b s ((hg i).symm.trans h), fun i j o o' b s s' h k => hs.inj i j o o' b s s' ((hg i).symm.trans h) ((hg j).symm.trans k), hs.prot, fun i o b s h => hs.npi i o b s ((hg i).symm.trans h), fun i o h => by rw [hn]; exact hs.bd i o ((hg i).symm.trans h)⟩
theorem Owned.congr {ρ : Ren} {H H2 : AHeap} {b : Nat} (hg : ∀ i, H2.get i = H.get i) : Owned ρ H2 b ↔ Owned ρ H b :=
  ⟨fun ⟨i, o, s, h, k⟩ => ⟨i, o, s, (hg i).symm.trans h, k⟩, fun ⟨i, o, s, h, k⟩ => ⟨i, o, s, (hg i).trans h, k⟩⟩

/-- The renaming below a bound. -/
def Ren.below (ρ : Ren) (n : Nat) : Ren := fun i => if i < n then ρ i else none
theorem Ren.below_le (ρ : Ren) (n : Nat) : (ρ.below n).le ρ := fun i v h => by
  unfold Ren.below at h
  split at h
  · exact h
  · cases h
theorem Ren.below_mono {ρ ρ' : Ren} {n m : Nat} (h : ρ.le ρ') (hn : n ≤ m) : (ρ.below n).le (ρ'.below m) := fun i v k => by
  unfold Ren.below at k ⊢
  split at k
  · rename_i hi
    rw [if_pos (Nat.lt_of_lt_of_le hi hn)]
    exact h _ _ k
  · cases k

/-- What relates under a renaming, and leads nowhere beyond n, relates below n. -/
theorem VRel.cut {ρ ρ1 : Ren} {n : Nat} (hf : ∀ i, n ≤ i → ρ1 i = none) {a : AV} {v : Value} (h : VRel π ρ a v) : ∀ {v1 : Value}, VRel π ρ1 a v1 → VRel π (ρ.below n) a v := by
  have hid : ∀ {i : Nat} {x y : Nat × Nat × Nat}, ρ i = some x → ρ1 i = some y → (ρ.below n) i = some x := by
    intro i x y h1 h2
    unfold Ren.below
    rw [if_pos]
    · exact h1
    · apply Nat.lt_of_not_le
      intro hle
      rw [hf i hle] at h2
      cases h2
  induction h with
  | bool b => exact fun _ => .bool b
  | int k n => exact fun _ => .int k n
  | str s => exact fun _ => .str s
  | nilp => exact fun _ => .nilp
  | ptr h => exact fun k => by cases k with | ptr k => exact .ptr (hid h k)
  | rptr vs hc h1 h ih => exact fun k => by cases k with | rptr vs' hc' h1' k => exact .rptr vs hc h1 fun i hi => ih i hi (k i hi)
  | nils => exact fun _ => .nils
  | sl h hl he hc ho hz hs => exact fun k => by cases k with | sl k => exact .sl (hid h k) hl he hc ho hz hs
  | rsl vs hl hsp hcap hc h1 h ih => exact fun k => by cases k with | rsl vs' hl' hsp' hcap' hc' h1' k => exact .rsl vs hl hsp hcap hc h1 fun i hi => ih i hi (k i hi)
  | nilm => exact fun _ => .nilm
  | mapv h => exact fun k => by cases k with | mapv k => exact .mapv (hid h k)
  | fn hx hy h k ih ik => exact fun q => by cases q with | fn hx' hy' h' k' => exact .fn hx hy (fun i hi => ih i hi (h' i hi)) fun i hi => ik i hi (k' i hi)
  | yld h => exact fun k => by cases k with | yld k => exact .yld (hid h k)
  | nilf => exact fun _ => .nilf
  | ifc h ih => exact fun k => by cases k with | ifc k => exact .ifc (ih k)
  | nili => exact fun _ => .nili
  | agg hx h1 h ih => exact fun k => by cases k with | agg hx' h1' k => exact .agg hx h1 fun i hi => ih i hi (k i hi)
  | tup hx h ih => exact fun k => by cases k with | tup hx' k => exact .tup hx fun i hi => ih i hi (k i hi)
theorem VRels.cut {ρ ρ1 : Ren} {n : Nat} (hf : ∀ i, n ≤ i → ρ1 i = none) : ∀ {as : List AV} {vs vs1 : List Value}, VRels π ρ as vs → VRels π ρ1 as vs1 → VRels π (ρ.below n) as vs
  | [], [], _, _, _ => trivial
  | _ :: _, _ :: _, _ :: _, ⟨h1, h2⟩, ⟨k1, k2⟩ => ⟨h1.cut hf k1, VRels.cut hf h2 k2⟩
theorem Ren.below_some {ρ ρ1 : Ren} {n : Nat} (hf : ∀ i, n ≤ i → ρ1 i = none) {i : Nat} {x y : Nat × Nat × Nat} (h1 : ρ i = some x) (h2 : ρ1 i = some y) : (ρ.below n) i = some x := by
  unfold Ren.below
  rw [if_pos]
  · exact h1
  · apply Nat.lt_of_not_le
    intro hle
    rw [hf i hle] at h2
    cases h2
theorem entries_cut {ρ ρ1 : Ren} {n : Nat} (hf : ∀ i, n ≤ i → ρ1 i = none) : ∀ {es : List (AV × AV)} {xs ys : List MapEntry}, All2 (fun p (x : MapEntry) => VRel π ρ p.1 x.key ∧ VRel π ρ p.2 x.val) es xs → All2 (fun p (x : MapEntry) => VRel π ρ1 p.1 x.key ∧ VRel π ρ1 p.2 x.val) es ys →
    All2 (fun p (x : MapEntry) => VRel π (ρ.below n) p.1 x.key ∧ VRel π (ρ.below n) p.2 x.val) es xs
  | [], [], _, _, _ => trivial
  | _ :: _, _ :: _, _ :: _, ⟨h1, h2⟩, ⟨k1, k2⟩ => ⟨⟨h1.1.cut hf k1.1, h1.2.cut hf k1.2⟩, entries_cut hf h2 k2⟩
theorem ORel.cut {ρ ρ1 : Ren} {n : Nat} (hf : ∀ i, n ≤ i → ρ1 i = none) {s s1 : Nat × Nat} {o : AObj} {O O1 : Obj} (h : ORel π ρ s o O) (k : ORel π ρ1 s1 o O1) : ORel π (ρ.below n) s o O := by
  cases h with
  | cells hl hz h hfr =>
    cases k with
    | cells hl' hz' h' hfr' => exact .cells hl hz (fun i a ha => let ⟨v, hv, hr, h1⟩ := h i a ha; let ⟨v', _, hr', _⟩ := h' i a ha; ⟨v, hv, hr.cut hf hr', h1⟩) hfr
  | map h => cases k with | map k => exact .map (entries_cut hf h k)
  | siter => exact .siter
  | loop h =>
    cases k with
    | loop k =>
      obtain ⟨a, b, d, e, f, g, i⟩ := h
      obtain ⟨_, _, d', _, _, _, i'⟩ := k
      exact .loop ⟨a, b, ⟨d.1, fun t => (d.2 t).cut hf (d'.2 t)⟩, e, f, g, Ren.below_some hf i i'⟩
  | dfr => exact .dfr
theorem DRel.cut {ρ ρ1 : Ren} {n : Nat} (hf : ∀ i, n ≤ i → ρ1 i = none) : ∀ {a : ADef} {d d1 : Deferred}, DRel P π ρ a d → DRel P π ρ1 a d1 → DRel P π (ρ.below n) a d
  | .call f args, d, d1, ⟨a, c, h1, h2, h3, h4⟩, ⟨_, _, _, _, k3, _⟩ => ⟨a, c, h1, h2, h3.cut hf k3, h4⟩
  | .coll id, d, d1, ⟨l, h1, h2⟩, ⟨l1, _, k2⟩ => ⟨l, h1, Ren.below_some hf h2 k2⟩
theorem DRels.cut {ρ ρ1 : Ren} {n : Nat} (hf : ∀ i, n ≤ i → ρ1 i = none) : ∀ {as : List ADef} {ds ds1 : List Deferred}, All2 (DRel P π ρ) as ds → All2 (DRel P π ρ1) as ds1 → All2 (DRel P π (ρ.below n)) as ds
  | [], [], _, _, _ => trivial
  | _ :: _, _ :: _, _ :: _, ⟨h1, h2⟩, ⟨k1, k2⟩ => ⟨h1.cut hf k1, DRels.cut hf h2 k2⟩
end Go.AM
