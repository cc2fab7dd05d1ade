/- The code: single steps of the machine, and the evaluator's rules. -/
import Derived.Test.YtgkopheekihkjaaDoorAMh
set_option linter.unusedVariables false
set_option linter.unusedSimpArgs false
namespace Go.AM

/-- What of a frame stays as it is while its code runs. -/
structure Bf where
  fn : FuncId
  kind : CallKind
  ro : Option Nat
def Bf.at (b : Bf) (tmps : Array Value) (df : List Deferred) (todo : List Item) : Frame := { fn := b.fn, tmps, todo, defers := df, mode := .run, kind := b.kind, roundOf := b.ro }
def evalT (tmps : Array Value) : Operand → Value
  | .tmp t => tmps.getD t undef
  | .const v => v
  | .global g => .pointer (some ⟨g, 0, none⟩)
  | .func f => .func (.func f) #[] #[]
def putV (tmps : Array Value) (d : Option Tmp) (v : Value) : Array Value :=
  match d with
  | some d => tmps.setIfInBounds d v
  | none => tmps
section
variable {P : Program} {b : Bf} {tmps : Array Value} {df : List Deferred} {k : List Item} {cs : List Frame} {w w' : World} {ops : Array Oper} {i : Nat} {rest : List Nat} {o : Oper}
theorem eval_at (todo : List Item) : (b.at tmps df todo).eval = evalT tmps := by funext x; cases x <;> rfl
theorem s_skip : step P (lone (b.at tmps df (.code .skip :: k)) cs w) = .next (lone (b.at tmps df k) cs w) := step_lone_go (by simp [stepG, stepG.exec, Bf.at])
theorem s_label {l : Nat} : step P (lone (b.at tmps df (.code (.label l) :: k)) cs w) = .next (lone (b.at tmps df k) cs w) := step_lone_go (by simp [stepG, stepG.exec, Bf.at])
theorem s_inBlock {l : Nat} : step P (lone (b.at tmps df (.inBlock l :: k)) cs w) = .next (lone (b.at tmps df k) cs w) := step_lone_go (by simp [stepG, stepG.exec, Bf.at])
theorem s_inScope {c : Code} : step P (lone (b.at tmps df (.inScope c :: k)) cs w) = .next (lone (b.at tmps df k) cs w) := step_lone_go (by simp [stepG, stepG.exec, Bf.at])
theorem s_seq {x y : Code} : step P (lone (b.at tmps df (.code (.seq x y) :: k)) cs w) = .next (lone (b.at tmps df (.code x :: .code y :: k)) cs w) := step_lone_go (by simp [stepG, stepG.exec, Bf.at])
theorem s_cond {c : Operand} {x y : Code} {t : Bool} (h : evalT tmps c = .bool t) : step P (lone (b.at tmps df (.code (.cond c x y) :: k)) cs w) = .next (lone (b.at tmps df (.code (if t then x else y) :: k)) cs w) :=
  step_lone_go (by
    have := congrFun (eval_at (b := b) (tmps := tmps) (df := df) (.code (.cond c x y) :: k)) c
    simp only [Bf.at] at this
    simp [stepG, stepG.exec, Bf.at, this, h])
theorem s_block {id : Nat} {c : Code} : step P (lone (b.at tmps df (.code (.block id c) :: k)) cs w) = .next (lone (b.at tmps df (.code c :: .inBlock id :: k)) cs w) := step_lone_go (by simp [stepG, stepG.exec, Bf.at])
theorem s_loop {c : Code} : step P (lone (b.at tmps df (.code (.loop c) :: k)) cs w) = .next (lone (b.at tmps df (.code c :: .inLoop c :: k)) cs w) := step_lone_go (by simp [stepG, stepG.exec, Bf.at])
theorem s_inLoop {c : Code} : step P (lone (b.at tmps df (.inLoop c :: k)) cs w) = .next (lone (b.at tmps df (.code c :: .inLoop c :: k)) cs w) := step_lone_go (by simp [stepG, stepG.exec, Bf.at])
theorem s_scope {c : Code} : step P (lone (b.at tmps df (.code (.scope c) :: k)) cs w) = .next (lone (b.at tmps df (.code c :: .inScope c :: k)) cs w) := step_lone_go (by simp [stepG, stepG.exec, Bf.at])
theorem s_exit {id : Nat} {k' : List Item} (h : exitTo id k = some k') : step P (lone (b.at tmps df (.code (.exit id) :: k)) cs w) = .next (lone (b.at tmps df k') cs w) := step_lone_go (by simp [stepG, stepG.exec, Bf.at, h])
theorem s_region {id : Nat} : step P (lone (b.at tmps df (.code (.region id ops false) :: k)) cs w) = .next (lone (b.at tmps df (.inRegion ops (List.range ops.size) :: k)) cs w) := step_lone_go (by simp [stepG, stepG.exec, Bf.at])
theorem s_draw {id : Nat} : step P (lone (b.at tmps df (.code (.region id ops true) :: k)) cs w) =
    .next (lone (b.at tmps df (.inRegion ops (Region.schedule (P.follows .mixedOrders) ops (w.tape w.drawn (.order b.fn id))) :: k)) cs w.drew) :=
  step_lone_go (by simp [stepG, stepG.exec, Bf.at, choose, Sem.run, Question.forced, Question.cut])
theorem s_regionEnd : step P (lone (b.at tmps df (.inRegion ops [] :: k)) cs w) = .next (lone (b.at tmps df k) cs w) := step_lone_go (by simp [stepG, stepG.exec, Bf.at])
theorem finish_at (v : Value) : (b.at tmps df (.inRegion ops (i :: rest) :: k)).finish v = b.at (putV tmps ((ops[i]?).bind (·.dst)) v) df (.inRegion ops rest :: k) := by
  cases h : (ops[i]?).bind (·.dst) <;> simp [Frame.finish, Bf.at, putV, h]
theorem s_opSkip (ho : ops[i]? = some o) (h : Region.wanted o (yielded ops tmps) = false) : step P (lone (b.at tmps df (.inRegion ops (i :: rest) :: k)) cs w) = .next (lone (b.at (putV tmps o.dst undef) df (.inRegion ops rest :: k)) cs w) := by
  have hf := finish_at (b := b) (tmps := tmps) (df := df) (ops := ops) (i := i) (rest := rest) (k := k) undef
  rw [ho] at hf
  simp only [Option.bind_some] at hf
  rw [← hf]
  exact step_lone_go (by simp only [Bf.at] at *; simp [stepG, stepG.exec, ho, h])
theorem g_op (ho : ops[i]? = some o) (hw : Region.wanted o (yielded ops tmps) = true) (hd : b.ro = none ∨ ∀ c, o.op ≠ .defer c) :
    stepG P true { frame := b.at tmps df (.inRegion ops (i :: rest) :: k), callers := cs, status := .running, dying := none } w = stepG.apply P true (b.at tmps df (.inRegion ops (i :: rest) :: k)) cs none (execOp (evalT tmps) o) w := by
  have he := eval_at (b := b) (tmps := tmps) (df := df) (.inRegion ops (i :: rest) :: k)
  simp only [Bf.at] at he
  obtain ⟨fn, kind, ro⟩ := b
  simp only at hd
  rcases hd with rfl | hd
  · simp [stepG, stepG.exec, stepG.oper, Frame.oper?, Bf.at, ho, hw, he]
  · cases ro with
    | none => simp [stepG, stepG.exec, stepG.oper, Frame.oper?, Bf.at, ho, hw, he]
    | some l =>
      obtain ⟨dst, op, ty, pos, after, guard⟩ := o
      cases op
      case defer c => exact (hd c rfl).elim
      all_goals simp [stepG, stepG.exec, stepG.oper, Frame.oper?, Bf.at, ho, hw, he]
theorem s_opValue (ho : ops[i]? = some o) (hw : Region.wanted o (yielded ops tmps) = true) (hd : b.ro = none ∨ ∀ c, o.op ≠ .defer c) {v : Value} (h : (execOp (evalT tmps) o).run P w = .ok (.value v) w' ∨ ((execOp (evalT tmps) o).run P w = .ok .skip w' ∧ v = undef)) :
    step P (lone (b.at tmps df (.inRegion ops (i :: rest) :: k)) cs w) = .next (lone (b.at (putV tmps o.dst v) df (.inRegion ops rest :: k)) cs w') := by
  have hf := finish_at (b := b) (tmps := tmps) (df := df) (ops := ops) (i := i) (rest := rest) (k := k) v
  rw [ho] at hf
  simp only [Option.bind_some] at hf
  rw [← hf]
  refine step_lone_go ?_
  rw [g_op ho hw hd]
  rcases h with h | ⟨h, rfl⟩ <;> simp [stepG.apply, h]
theorem s_opEnter (ho : ops[i]? = some o) (hw : Region.wanted o (yielded ops tmps) = true) (hd : b.ro = none ∨ ∀ c, o.op ≠ .defer c) {f : FuncId} {args : Array Value} (h : (execOp (evalT tmps) o).run P w = .ok (.enter f args) w') :
    step P (lone (b.at tmps df (.inRegion ops (i :: rest) :: k)) cs w) = .next (lone (Frame.enter P f args .normal) (b.at tmps df (.inRegion ops (i :: rest) :: k) :: cs) w') := by
  refine step_lone_go ?_
  rw [g_op ho hw hd]
  simp [stepG.apply, h, Bf.at]
theorem s_opRound (ho : ops[i]? = some o) (hw : Region.wanted o (yielded ops tmps) = true) (hd : b.ro = none ∨ ∀ c, o.op ≠ .defer c) {l : Nat} {f : FuncId} {ts : Array Value} {as bo : Code} (h : (execOp (evalT tmps) o).run P w = .ok (.round l f ts as bo) w') :
    step P (lone (b.at tmps df (.inRegion ops (i :: rest) :: k)) cs w) = .next (lone (Frame.round l f ts as bo .normal) (b.at tmps df (.inRegion ops (i :: rest) :: k) :: cs) w') := by
  refine step_lone_go ?_
  rw [g_op ho hw hd]
  simp [stepG.apply, h, Bf.at]
theorem s_opDefer (ho : ops[i]? = some o) (hw : Region.wanted o (yielded ops tmps) = true) (hr : b.ro = none) {d : Deferred} (h : (execOp (evalT tmps) o).run P w = .ok (.defer d) w') :
    step P (lone (b.at tmps df (.inRegion ops (i :: rest) :: k)) cs w) = .next (lone (b.at (putV tmps o.dst undef) (d :: df) (.inRegion ops rest :: k)) cs w') := by
  have hf := finish_at (b := b) (tmps := tmps) (df := d :: df) (ops := ops) (i := i) (rest := rest) (k := k) undef
  rw [ho] at hf
  simp only [Option.bind_some] at hf
  rw [← hf]
  refine step_lone_go ?_
  rw [g_op ho hw (.inl hr)]
  simp [stepG.apply, h, Bf.at]
def NoRec (kind : CallKind) (cs : List Frame) : Prop := kind = .normal ∨ (kind = .deferred ∧ ∃ c r, cs = c :: r ∧ c.mode = .returning)
theorem s_opRecover (ho : ops[i]? = some o) (hw : Region.wanted o (yielded ops tmps) = true) (hr : b.ro = none) (hn : NoRec b.kind cs) (hd : ∀ c, o.op ≠ .defer c) (h : (execOp (evalT tmps) o).run P w = .ok .recover w') :
    step P (lone (b.at tmps df (.inRegion ops (i :: rest) :: k)) cs w) = .next (lone (b.at (putV tmps o.dst .nilIface) df (.inRegion ops rest :: k)) cs w') := by
  have hf := finish_at (b := b) (tmps := tmps) (df := df) (ops := ops) (i := i) (rest := rest) (k := k) .nilIface
  rw [ho] at hf
  simp only [Option.bind_some] at hf
  rw [← hf]
  refine step_lone_go ?_
  rw [g_op ho hw (.inl hr)]
  have ht : tryRecover (b.at tmps df (.inRegion ops (i :: rest) :: k)) cs = none := by
    unfold tryRecover
    rcases hn with hk | ⟨hk, c, r, rfl, hm⟩
    · simp [Bf.at, hk]
    · simp [Bf.at, hk, hm]
  simp only [Bf.at] at ht
  obtain ⟨fn, kind, ro⟩ := b
  simp only at hr
  subst hr
  simp [stepG.apply, h, Bf.at, ht]
end

def RoRel (ρ : Ren) : Option Nat → Option Nat → Prop
  | none, none => True
  | some id, some l => ρ id = some (l, 0, 0)
  | _, _ => False
theorem RoRel.mono {ρ ρ' : Ren} (h : ρ.le ρ') : ∀ {a b : Option Nat}, RoRel ρ a b → RoRel ρ' a b
  | none, none, _ => trivial
  | some _, some _, k => h _ _ k
  | none, some _, k => k.elim
  | some _, none, k => k.elim
def DRel (P : Program) (π : Prot) (ρ : Ren) : ADef → Deferred → Prop
  | .call f args, d => ∃ a c : List Value, d.target = .fn (.func f) c.toArray ∧ d.args = a.toArray ∧ VRels π ρ args (a ++ c) ∧ canEnter P f = true
  | .coll id, d => ∃ l, d.target = .collected l ∧ ρ id = some (l, 0, 0)
theorem DRel.mono {P : Program} {π : Prot} {ρ ρ' : Ren} (h : ρ.le ρ') : ∀ {a : ADef} {d : Deferred}, DRel P π ρ a d → DRel P π ρ' a d
  | .call f args, d, ⟨a, c, h1, h2, h3, h4⟩ => ⟨a, c, h1, h2, h3.mono fun _ _ k => k.mono h, h4⟩
  | .coll id, d, ⟨l, h1, h2⟩ => ⟨l, h1, h _ _ h2⟩
structure SRel (P : Program) (π : Prot) (ρ : Ren) (st : St) (tmps : Array Value) (df : List Deferred) (w : World) : Prop where
  env : ERel π ρ st.env tmps
  sim : Sim π ρ st.heap w
  dfs : All2 (DRel P π ρ) st.dfs df
def GRel (π : Prot) (G : Nat → Option (List AV)) : Prop := ∀ g row, G g = some row → ∀ ρ, VRel π ρ (.rptr row 0) (.pointer (some ⟨g, 0, none⟩))
theorem ev_rel1 {π : Prot} {ρ : Ren} {G : Nat → Option (List AV)} (hG : GRel π G) {env : Env} {tmps : Array Value} {x : Operand} {a : AV} (he : ∀ t, x = .tmp t → VRel π ρ (env.get t) (tmps.getD t undef)) (h : ev G env x = some a) : VRel π ρ a (evalT tmps x) := by
  cases x with
  | tmp t => simp [ev] at h; subst h; exact he t rfl
  | const v =>
    cases v
    case bool b => simp [ev] at h; subst h; exact .bool _
    case int k n => simp [ev] at h; subst h; exact .int _ _
    case string s => simp [ev] at h; subst h; exact .str _
    all_goals exact ofV_rel h
  | global g =>
    simp only [ev, Option.map_eq_some_iff] at h
    obtain ⟨row, hr, rfl⟩ := h
    exact hG g row hr ρ
  | func f =>
    simp [ev] at h
    subst h
    have := VRel.fnL (π := π) (ρ := ρ) (f := f) (xs := []) (ys := []) (xs' := []) (ys' := []) trivial trivial
    simpa [evalT] using this
theorem ev_rel {π : Prot} {ρ : Ren} {G : Nat → Option (List AV)} (hG : GRel π G) {env : Env} {tmps : Array Value} (he : ERel π ρ env tmps) : EvR π ρ (ev G env) (evalT tmps) := fun x a h => ev_rel1 hG (fun t _ => he.2 t) h
theorem put_rel {π : Prot} {ρ : Ren} {env : Env} {tmps : Array Value} (he : ERel π ρ env tmps) {a : AV} {v : Value} (h : VRel π ρ a v) (d : Option Tmp) : ERel π ρ (putD env d a) (putV tmps d v) := by
  cases d with
  | none => exact he
  | some d => exact he.set h d
theorem wanted_rel1 {π : Prot} {ρ : Ren} {env : Env} {tmps : Array Value} {ops : Array Oper} {o : Oper} (he : ∀ j want t, o.guard = some (j, want) → (ops[j]?).bind (·.dst) = some t → VRel π ρ (env.get t) (tmps.getD t undef)) (h : wantedA ops env o = true) : Region.wanted o (yielded ops tmps) = true := by
  unfold wantedA at h
  unfold Region.wanted
  split at h
  · rename_i hg; simp [hg]
  · rename_i j want hg
    simp only [hg]
    split at h
    · rename_i t ht
      have hv := he _ _ _ hg ht
      split at h
      · rename_i bb hb
        rw [hb] at hv
        have hval : tmps.getD t undef = .bool bb := by
          generalize tmps.getD t undef = q at *
          cases hv; rfl
        have : tmps[t]? = some (.bool bb) := by
          by_cases hlt : t < tmps.size
          · simp [Array.getD, hlt] at hval
            rw [Array.getElem?_eq_getElem hlt, hval]
          · simp [Array.getD, hlt, undef] at hval
        simp [yielded, ht, this]
        simpa using h
      · cases h
    · cases h
theorem wanted_rel {π : Prot} {ρ : Ren} {env : Env} {tmps : Array Value} (he : ERel π ρ env tmps) {ops : Array Oper} {o : Oper} (h : wantedA ops env o = true) : Region.wanted o (yielded ops tmps) = true := wanted_rel1 (fun _ _ t _ _ => he.2 t) h
theorem unwanted_rel1 {π : Prot} {ρ : Ren} {env : Env} {tmps : Array Value} {ops : Array Oper} {o : Oper} (he : ∀ j want t, o.guard = some (j, want) → (ops[j]?).bind (·.dst) = some t → VRel π ρ (env.get t) (tmps.getD t undef)) (h : wantedA ops env o = false) : Region.wanted o (yielded ops tmps) = false := by
  unfold wantedA at h
  unfold Region.wanted
  split at h
  · cases h
  · rename_i j want hg
    simp only [hg]
    split at h
    · rename_i t ht
      have hv := he _ _ _ hg ht
      by_cases hlt : t < tmps.size
      · have hval : tmps[t]? = some (tmps.getD t undef) := by simp [Array.getD, hlt]
        simp only [yielded, ht, Option.bind_some, hval]
        split at h
        · rename_i bb hb
          rw [hb] at hv
          generalize tmps.getD t undef = q at *
          cases hv
          simpa using h
        · rename_i hnb
          generalize tmps.getD t undef = q at *
          cases q <;> first | rfl | skip
          rename_i bb
          generalize hq : env.get t = a at *
          cases hv
          exact (hnb bb rfl).elim
      · have hnone : tmps[t]? = none := Array.getElem?_eq_none (Nat.le_of_not_lt hlt)
        simp [yielded, ht, hnone]
    · rename_i hn
      simp [yielded, hn]
theorem unwanted_rel {π : Prot} {ρ : Ren} {env : Env} {tmps : Array Value} (he : ERel π ρ env tmps) {ops : Array Oper} {o : Oper} (h : wantedA ops env o = false) : Region.wanted o (yielded ops tmps) = false := unwanted_rel1 (fun _ _ t _ _ => he.2 t) h
end Go.AM
