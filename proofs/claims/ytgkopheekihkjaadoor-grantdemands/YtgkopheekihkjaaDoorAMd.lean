/- The operations: what the evaluator says of one holds of the machine's. -/
import Derived.Test.YtgkopheekihkjaaDoorAMc
import Derived.Laws.StructEq
import Derived.ChangeKeysEq
import Derived.WideLaws
import Derived.LaidEql
import Derived.Laws.Strings
set_option linter.unusedVariables false
set_option linter.unusedSimpArgs false
namespace Go.AM
variable {P : Program} {π : Prot} {ρ : Ren} {H : AHeap} {w : World}

def EvR (π : Prot) (ρ : Ren) (e : Operand → Option AV) (eval : Operand → Value) : Prop := ∀ x a, e x = some a → VRel π ρ a (eval x)
def OpOK (P : Program) (π : Prot) (ρ : Ren) (H : AHeap) (w : World) (r : ARes) (run : Result Next) : Prop :=
  match r with
  | .val v H' => ∃ ρ' w' v', (run = .ok (.value v') w' ∨ (run = .ok .skip w' ∧ v' = undef)) ∧ VRel π ρ' v v' ∧ Sim π ρ' H' w' ∧ Stp ρ H w ρ' H' w'
  | .enter f args => ∃ args' : List Value, run = .ok (.enter f args'.toArray) w ∧ VRels π ρ args args'
  | .round id args => ∃ (b : Nat) (args' : List Value), ρ id = some (b, 0, 0) ∧ VRels π ρ args args' ∧ run = (Instr.yield b args'.toArray).run P w
  | .dfr f args => ∃ (d : Deferred) (a c : List Value), run = .ok (.defer d) w ∧ d.target = .fn (.func f) c.toArray ∧ d.args = a.toArray ∧ VRels π ρ args (a ++ c) ∧ canEnter P f = true
  | .recov => run = .ok .recover w
theorem OpOK.pure (hs : Sim π ρ H w) {v : AV} {v' : Value} {run : Result Next} (h : run = .ok (.value v') w) (hv : VRel π ρ v v') : OpOK P π ρ H w (.val v H) run :=
  ⟨ρ, w, v', .inl h, hv, hs, Stp.refl _ _ _⟩

theorem some_inj {α : Type} {a b : α} (h : some a = some b) : a = b := by cases h; rfl

theorem evs_rel {e : Operand → Option AV} {eval : Operand → Value} (he : EvR π ρ e eval) : ∀ {xs : List Operand} {as : List AV}, evs e xs = some as → VRels π ρ as (xs.map eval)
  | [], as, h => by simp [evs] at h; subst h; trivial
  | x :: r, as, h => by
    unfold evs at h
    cases h1 : e x with
    | none => simp [h1] at h
    | some a =>
      cases h2 : evs e r with
      | none => simp [h1, h2] at h
      | some as' =>
        simp [h1, h2] at h
        subst h
        exact ⟨he x a h1, evs_rel he h2⟩

/-! ### Parts and comparison -/
theorem part_rel {t : TypeId} {cs : List AV} {ys : List Value} (h : VRels π ρ cs ys) (h1 : ∀ y ∈ ys, vone y = true) {off : Nat} {a : AV} (hp : partT P t cs off = some a) :
    ∃ y, (part t ys.toArray off).run P w = .ok y w ∧ VRel π ρ a y := by
  unfold partT at hp
  split at hp
  · rename_i d i hd hi
    by_cases hag : isAggD d = true
    · rw [if_pos hag] at hp
      simp only [Option.some.injEq] at hp
      subst hp
      refine ⟨.agg ((ys.take (off + i.size)).drop off).toArray, ?_, VRel.aggL (fun y hy => h1 y (List.mem_of_mem_take (List.mem_of_mem_drop hy))) ((h.take _).drop _)⟩
      simp [part, run_isAgg hd, hag, run_sizeOf hi]
      rw [List.drop_take, Nat.add_sub_cancel_left]
    · rw [if_neg hag] at hp
      obtain ⟨y, hy, hr⟩ := h.get _ _ hp
      have hag' : isAggD d = false := by simpa using hag
      exact ⟨y, by simp [part, run_isAgg hd, hag', hy], hr⟩
  · cases hp

theorem fields_rel {d : Nat} {f : TypeId → AV → AV → Option Bool} {xs ys : List AV} {xs' ys' : List Value} (hx : VRels π ρ xs xs') (hy : VRels π ρ ys ys') (h1 : ∀ y ∈ xs', vone y = true) (h2 : ∀ y ∈ ys', vone y = true)
    (hf : ∀ t a b a' b' r, f t a b = some r → VRel π ρ a a' → VRel π ρ b b' → (Op.equalIn d t a' b').run P w = .ok r w) : ∀ (l : List Field) (r : Bool), eqParts f P xs ys ((l.filter fun f => f.name ≠ "_").map fun f => (f.type, f.offset)) = some r →
    (Op.eqFields d xs'.toArray ys'.toArray l).run P w = .ok r w
  | [], r, h => by simp [eqParts] at h; subst h; rfl
  | fd :: l, r, h => by
    by_cases hn : fd.name ≠ "_"
    · simp only [List.filter_cons, hn, decide_true, if_true, List.map_cons, eqParts, ne_eq, not_false_eq_true] at h
      simp only [Op.eqFields, hn, if_true, ne_eq, not_false_eq_true]
      split at h
      · rename_i a b ha hb
        obtain ⟨a', hra, hva⟩ := part_rel (w := w) hx h1 ha
        obtain ⟨b', hrb, hvb⟩ := part_rel (w := w) hy h2 hb
        split at h
        · rename_i hfr
          have := hf _ _ _ _ _ _ hfr hva hvb
          simp only [Sem.run_bind, hra, hrb, this, Result.andThen_ok]
          simpa using fields_rel hx hy h1 h2 hf l r h
        · rename_i hfr
          simp only [Option.some.injEq] at h
          subst h
          have := hf _ _ _ _ _ _ hfr hva hvb
          simp [hra, hrb, this]
        · cases h
      · cases h
    · have hn' : fd.name = "_" := by simpa using hn
      simp only [List.filter_cons, hn', ne_eq, not_true_eq_false, decide_false, Bool.false_eq_true, if_false] at h
      simp only [Op.eqFields, hn', ne_eq, not_true_eq_false, if_false]
      exact fields_rel hx hy h1 h2 hf l r h
theorem partT_drop (P : Program) (e : TypeId) (cs : List AV) (m : Nat) : partT P e (cs.drop m) 0 = partT P e cs m := by
  unfold partT
  split
  · split
    · simp [List.drop_take]
    · simp
  · rfl
theorem items_rel {d n : Nat} {e : TypeId} {f : AV → AV → Option Bool} {xs ys : List AV} {xs' ys' : List Value} (hx : VRels π ρ xs xs') (hy : VRels π ρ ys ys') (h1 : ∀ y ∈ xs', vone y = true) (h2 : ∀ y ∈ ys', vone y = true)
    (hf : ∀ a b a' b' r, f a b = some r → VRel π ρ a a' → VRel π ρ b b' → (Op.equalIn d e a' b').run P w = .ok r w) : ∀ (k j : Nat) (r : Bool), eqArr f P e n k (xs.drop (j * n)) (ys.drop (j * n)) = some r →
    (Op.eqItems d e n xs'.toArray ys'.toArray (List.range' j k)).run P w = .ok r w
  | 0, j, r, h => by simp [eqArr] at h; subst h; rfl
  | k + 1, j, r, h => by
    simp only [eqArr, partT_drop, List.drop_drop] at h
    simp only [List.range'_succ, Op.eqItems]
    split at h
    · rename_i a b ha hb
      obtain ⟨a', hra, hva⟩ := part_rel (w := w) hx h1 ha
      obtain ⟨b', hrb, hvb⟩ := part_rel (w := w) hy h2 hb
      split at h
      · rename_i hfr
        have := hf _ _ _ _ _ hfr hva hvb
        simp only [Sem.run_bind, hra, hrb, this, Result.andThen_ok]
        rw [show j * n + n = (j + 1) * n by rw [Nat.succ_mul]] at h
        simpa using items_rel hx hy h1 h2 hf k (j + 1) r h
      · rename_i hfr
        simp only [Option.some.injEq] at h
        subst h
        have := hf _ _ _ _ _ hfr hva hvb
        simp [hra, hrb, this]
      · cases h
    · cases h

theorem bytesEq_beq (a b : ByteArray) : bytesEq a b = (a == b) := by
  rw [beq_toListBytes, ByteArray.toList_eq, ByteArray.toList_eq]
  rfl

set_option maxHeartbeats 4000000 in
theorem aeq_rel : ∀ (d : Nat) {t : TypeId} {x y : AV} {x' y' : Value} {r : Bool}, aeq P d t x y = some r → VRel π ρ x x' → VRel π ρ y y' → ∀ d', d ≤ d' → (Op.equalIn d' t x' y').run P w = .ok r w
  | 0, _, _, _, _, _, _, h, _, _, _, _ => by simp [aeq] at h
  | d + 1, t, x, y, x', y', r, h, hx, hy, d', hd => by
    obtain ⟨d', rfl⟩ : ∃ k, d' = k + 1 := ⟨d' - 1, by omega⟩
    simp only [aeq] at h
    split at h
    · cases h
    · rename_i D hD
      split at h
      case h_1 => cases hx; cases hy; simp at h; subst h; simp [Op.equalIn, run_underlying hD]
      case h_2 =>
        split at h
        · rename_i hk
          subst hk
          cases hx; cases hy; simp at h; subst h; simp [Op.equalIn, run_underlying hD]
        · cases h
      case h_3 => cases hx; cases hy; simp at h; subst h; simp [Op.equalIn, run_underlying hD, bytesEq_beq]
      case h_4 => cases hx; cases hy; simp at h; subst h; simp [Op.equalIn, run_underlying hD]
      case h_5 => cases hx; cases hy; simp at h; subst h; simp [Op.equalIn, run_underlying hD]
      case h_6 => cases hx; cases hy; simp at h; subst h; simp [Op.equalIn, run_underlying hD]
      case h_7 => cases hx; cases hy; simp at h; subst h; simp [Op.equalIn, run_underlying hD]
      case h_8 => cases hx; cases hy; simp at h; subst h; simp [Op.equalIn, run_underlying hD]
      case h_9 => cases hx; cases hy; simp at h; subst h; simp [Op.equalIn, run_underlying hD]
      case h_10 => cases hx; cases hy; simp at h; subst h; simp [Op.equalIn, run_underlying hD]
      case h_11 => cases hx; cases hy; simp at h; subst h; simp [Op.equalIn, run_underlying hD]
      case h_12 =>
        cases hx with
        | ifc hx =>
        cases hy with
        | ifc hy =>
        split at h
        · rename_i hne
          simp at h
          subst h
          simp [Op.equalIn, run_underlying hD, hne]
        · rename_i heq
          have heq' := Decidable.not_not.1 heq
          subst heq'
          split at h
          · rename_i i hi
            split at h
            · rename_i hc
              have := aeq_rel d h hx hy d' (by omega)
              simp [Op.equalIn, run_underlying hD, run_typeInfo' hi, hc, this]
            · cases h
          · cases h
      case h_13 fields xs ys =>
        split at h
        · cases h
        · rename_i hst
          have hst' : P.stoodInHeld t = false := by simpa using hst
          obtain ⟨xs', rfl, hxs, hx1⟩ := hx.agg_inv
          obtain ⟨ys', rfl, hys, hy1⟩ := hy.agg_inv
          have hfo : P.fieldsOf t = fields := by simp [Program.fieldsOf, hD]
          rw [run_equalIn_struct w d' t _ _ (by rw [hfo]; exact hD) hst', hfo]
          exact fields_rel hxs hys hx1 hy1 (fun t a b a' b' r hr ha hb => aeq_rel d hr ha hb d' (by omega)) _ _ h
      case h_14 len elem xs ys =>
        split at h
        · rename_i n hn
          obtain ⟨i, hi, rfl⟩ := Option.map_eq_some_iff.1 hn
          obtain ⟨xs', rfl, hxs, hx1⟩ := hx.agg_inv
          obtain ⟨ys', rfl, hys, hy1⟩ := hy.agg_inv
          rw [run_equalIn_array w d' _ _ hD hi, List.range_eq_range']
          have hc : P.cellsOf elem = i.size := by simp [Program.cellsOf, hi]
          rw [hc]
          exact items_rel hxs hys hx1 hy1 (fun a b a' b' r hr ha hb => aeq_rel d hr ha hb d' (by omega)) len 0 r (by simpa using h)
        · cases h
      case h_15 => cases hx; cases hy; simp at h; subst h; simp [Op.equalIn, run_underlying hD]
      case h_16 => cases hx; cases hy; simp at h; subst h; simp [Op.equalIn, run_underlying hD]
      case h_17 => cases hx; cases hy; simp at h; subst h; simp [Op.equalIn, run_underlying hD]
      case h_18 => cases hx; cases hy; simp at h; subst h; simp [Op.equalIn, run_underlying hD]
      case h_19 => cases hx; cases hy; simp at h; subst h; simp [Op.equalIn, run_underlying hD]
      case h_20 => cases hx; cases hy; simp at h; subst h; simp [Op.equalIn, run_underlying hD]
      case h_21 => cases hx; cases hy; simp at h; subst h; simp [Op.equalIn, run_underlying hD]
      case h_22 => cases hx; cases hy; simp at h; subst h; simp [Op.equalIn, run_underlying hD]
      case h_23 => cases hx; cases hy; simp at h; subst h; simp [Op.equalIn, run_underlying hD]
      case h_24 => cases hx; cases hy; simp at h; subst h; simp [Op.equalIn, run_underlying hD]
      case h_25 => cases hx; cases hy; simp at h; subst h; simp [Op.equalIn, run_underlying hD]
      case h_26 => cases h

/-! ### Arithmetic -/
theorem binI_rel {op : BinOp} {k : IntKind} {a b : Int} {v : AV} (h : binI op k a b = some v) (h1 : ¬ (op = .shl ∨ op = .shr)) (t : TypeId) : ∃ v', (Go.binOp op t (.int k a) (.int k b)).run P w = .ok v' w ∧ VRel π ρ v v' := by
  unfold binI at h
  cases op <;> simp at h1 h
  case quo => obtain ⟨hb, rfl⟩ := h; exact ⟨_, by simp [Go.binOp, Op.intDiv, hb], .int _ _⟩
  case rem => obtain ⟨hb, rfl⟩ := h; exact ⟨_, by simp [Go.binOp, Op.intDiv, hb], .int _ _⟩
  all_goals subst h
  case add => exact ⟨_, by simp [Go.binOp, Op.intArith], .int _ _⟩
  case sub => exact ⟨_, by simp [Go.binOp, Op.intArith], .int _ _⟩
  case mul => exact ⟨_, by simp [Go.binOp, Op.intArith], .int _ _⟩
  case and => exact ⟨_, by simp [Go.binOp, Op.intBits], .int _ _⟩
  case or => exact ⟨_, by simp [Go.binOp, Op.intBits], .int _ _⟩
  case xor => exact ⟨_, by simp [Go.binOp, Op.intBits], .int _ _⟩
  case andNot => exact ⟨_, by simp [Go.binOp, Op.intBits], .int _ _⟩
  case eql => exact ⟨_, by simp [Go.binOp, Op.intCmp], .bool _⟩
  case neq => exact ⟨_, by simp [Go.binOp, Op.intCmp], .bool _⟩
  case lss => exact ⟨_, by simp [Go.binOp, Op.intCmp], .bool _⟩
  case leq => exact ⟨_, by simp [Go.binOp, Op.intCmp], .bool _⟩
  case gtr => exact ⟨_, by simp [Go.binOp, Op.intCmp], .bool _⟩
  case geq => exact ⟨_, by simp [Go.binOp, Op.intCmp], .bool _⟩
theorem shI_rel {op : BinOp} {k k' : IntKind} {a b : Int} {v : AV} (h : shI op k a b = some v) (t : TypeId) : ∃ v', (Go.binOp op t (.int k a) (.int k' b)).run P w = .ok v' w ∧ VRel π ρ v v' := by
  unfold shI at h
  split at h
  · cases h
  · rename_i hb
    cases op <;> simp only [Option.some.injEq] at h <;> try (cases h; done)
    all_goals subst h
    · exact ⟨_, by simp [Go.binOp, Op.shift, hb], .int _ _⟩
    · exact ⟨_, by simp [Go.binOp, Op.shift, hb], .int _ _⟩
theorem strOp_rel {op : BinOp} {a b : ByteArray} {v : AV} (h : strOp op a b = some v) (t : TypeId) : ∃ v', (Go.binOp op t (.string a) (.string b)).run P w = .ok v' w ∧ VRel π ρ v v' := by
  have e : ∀ s : ByteArray, s.toList = s.data.toList := fun s => ByteArray.toList_eq s
  have hq : (a.data.toList == b.data.toList) = bytesEq a b := rfl
  unfold strOp at h
  cases op <;> simp at h
  case add =>
    obtain ⟨hl, rfl⟩ := h
    unfold limit at hl
    refine ⟨_, ?_, .str _⟩
    have hmax : ¬ ((a.size + b.size : Nat) : Int) > IntKind.i64.max := by
      have : IntKind.i64.max = 9223372036854775807 := by decide
      rw [this]
      omega
    simp only [Go.binOp, Op.stringOp, hmax, if_false, Sem.run_pure]
  all_goals subst h
  case gtr => exact ⟨.bool (!(Op.bytesLess a.data.toList b.data.toList || bytesEq a b)), by simp only [Go.binOp, Op.stringOp, e, hq, Sem.run_pure], by rw [Bool.not_or]; exact .bool _⟩
  all_goals exact ⟨_, by simp only [Go.binOp, Op.stringOp, e, hq, Sem.run_pure], .bool _⟩

theorem binop_rel {op : BinOp} {t : TypeId} {x y : AV} {x' y' : Value} {v : AV} (h : binop P op t x y = some v) (hx : VRel π ρ x x') (hy : VRel π ρ y y') : ∃ v', (Go.binOp op t x' y').run P w = .ok v' w ∧ VRel π ρ v v' := by
  unfold binop at h
  split at h
  · cases hx; cases hy
    split at h
    · exact shI_rel h t
    · rename_i hop
      split at h
      · rename_i hk
        subst hk
        exact binI_rel h hop t
      · cases h
  · cases hx; cases hy
    exact strOp_rel h t
  · rename_i hn1 hn2
    cases op <;> simp only at h <;> try (cases h; done)
    · obtain ⟨r, hr, rfl⟩ := Option.map_eq_some_iff.1 h
      have := aeq_rel (w := w) 20 hr hx hy 10000 (by omega)
      refine ⟨.bool r, ?_, .bool r⟩
      have hb : Go.binOp .eql t x' y' = (do pure (.bool (← Op.equal t x' y'))) := by
        cases hx <;> cases hy <;> first | rfl | (exfalso; first | exact hn1 _ _ _ _ rfl rfl | exact hn2 _ _ rfl rfl)
      rw [hb]
      simp [Op.equal, Op.maxDepth, this]
    · obtain ⟨r, hr, rfl⟩ := Option.map_eq_some_iff.1 h
      have := aeq_rel (w := w) 20 hr hx hy 10000 (by omega)
      refine ⟨.bool (!r), ?_, .bool (!r)⟩
      have hb : Go.binOp .neq t x' y' = (do pure (.bool (!(← Op.equal t x' y')))) := by
        cases hx <;> cases hy <;> first | rfl | (exfalso; first | exact hn1 _ _ _ _ rfl rfl | exact hn2 _ _ rfl rfl)
      rw [hb]
      simp [Op.equal, Op.maxDepth, this]

theorem guard_rel {op : BinOp} {t : TypeId} {x y : Operand} {a b : AV} {a' b' : Value} (h : guardOk P t x y a b = true) (ha : VRel π ρ a a') (hb : VRel π ρ b b') : (eqGuard op t x y a' b').run P w = .ok () w := by
  unfold guardOk at h
  split at h
  · cases ha; cases hb
    cases op <;> cases x <;> cases y <;> first | rfl | (simp [isConst] at h)
  · obtain ⟨xs', rfl, _, _⟩ := ha.agg_inv
    obtain ⟨ys', rfl, _, _⟩ := hb.agg_inv
    exact run_eqGuard_agg w op t x y _ _ (by simpa using h)
  · rename_i hn1 hn2
    cases ha <;> cases hb <;> first | (cases op <;> rfl) | (exfalso; first | exact hn1 rfl rfl | exact hn2 _ _ rfl rfl)

theorem unop_rel {op : UnOp} {x v : AV} {x' : Value} (h : unop op x = some v) (hx : VRel π ρ x x') : ∃ v', (Op.unary op x').run P w = .ok v' w ∧ VRel π ρ v v' := by
  unfold unop at h
  split at h
  · cases hx; simp at h; subst h; exact ⟨_, by simp [Op.unary, Op.intArith], .int _ _⟩
  · cases hx; simp at h; subst h; exact ⟨_, by simp [Op.unary, Op.intBits], .int _ _⟩
  · cases hx; simp at h; subst h; exact ⟨_, by simp [Op.unary], .bool _⟩
  · cases h
end Go.AM
