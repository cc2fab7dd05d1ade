/- The evaluator's runs, put together by hand: rules for code with unknown parts. -/
import Derived.Test.YtgkopheekihkjaaDoorAMs
set_option linter.unusedVariables false
set_option linter.unusedSimpArgs false
namespace Go.AM
variable {P : Program} {G : Nat → Option (List AV)} {X : Ext}

/-- From some number of turns on the run ends, always alike, and so. -/
def Ev (P : Program) (G : Nat → Option (List AV)) (X : Ext) (ro : Option Nat) (c : Code) (st : St) (Q : Out → St → Prop) : Prop :=
  ∃ out st', Q out st' ∧ ∃ k0, ∀ k, k0 ≤ k → (both P G X k).ex ro c st = some (out, st')
def EvC (P : Program) (G : Nat → Option (List AV)) (X : Ext) (f : FuncId) (args : List AV) (H : AHeap) (Q : AV → AHeap → Prop) : Prop :=
  ∃ v H', Q v H' ∧ ∃ k0, ∀ k, k0 ≤ k → (both P G X k).ca f args H = some (v, H')
def EvO (P : Program) (G : Nat → Option (List AV)) (X : Ext) (ro : Option Nat) (ops : Array Oper) (l : List Oper) (st : St) (Q : St → Prop) : Prop :=
  ∃ st', Q st' ∧ ∃ k0, ∀ k, k0 ≤ k → runOps P G (both P G X k) ro ops l st = some st'

theorem both_ex (k : Nat) (ro : Option Nat) (c : Code) (st : St) : (both P G X (k + 1)).ex ro c st = exec1 P G (both P G X k) ro c st := rfl
theorem both_ca (k : Nat) (f : FuncId) (args : List AV) (H : AHeap) : (both P G X (k + 1)).ca f args H = (match X f with | some g => g args H | none => call1 P (both P G X k) f args H) := rfl

theorem Ev.mono {ro : Option Nat} {c : Code} {st : St} {Q Q' : Out → St → Prop} (h : Ev P G X ro c st Q) (hq : ∀ o s, Q o s → Q' o s) : Ev P G X ro c st Q' := by
  obtain ⟨o, s, hQ, k0, hk⟩ := h
  exact ⟨o, s, hq o s hQ, k0, hk⟩
theorem Ev.now {ro : Option Nat} {c : Code} {st st' : St} {o : Out} {Q : Out → St → Prop} (h : ∀ E, exec1 P G E ro c st = some (o, st')) (hQ : Q o st') : Ev P G X ro c st Q :=
  ⟨o, st', hQ, 1, fun k hk => by
    obtain ⟨k, rfl⟩ : ∃ j, k = j + 1 := ⟨k - 1, by omega⟩
    rw [both_ex, h]⟩
theorem Ev.skip {ro : Option Nat} {st : St} {Q : Out → St → Prop} (hQ : Q .normal st) : Ev P G X ro .skip st Q := .now (fun _ => rfl) hQ
theorem Ev.label {ro : Option Nat} {l : Nat} {st : St} {Q : Out → St → Prop} (hQ : Q .normal st) : Ev P G X ro (.label l) st Q := .now (fun _ => rfl) hQ
theorem Ev.exit {ro : Option Nat} {l : Nat} {st : St} {Q : Out → St → Prop} (hQ : Q (.exit l) st) : Ev P G X ro (.exit l) st Q := .now (fun _ => rfl) hQ
theorem Ev.ret {ro : Option Nat} {st : St} {Q : Out → St → Prop} (hQ : Q .ret st) : Ev P G X ro .ret st Q := .now (fun _ => rfl) hQ
theorem Ev.step {ro : Option Nat} {c c' : Code} {st : St} {Q Q' : Out → St → Prop} (h : Ev P G X ro c' st Q') (hs : ∀ o s, Q' o s → ∃ o' s', Q o' s' ∧ ∀ E : Evs, E.ex ro c' st = some (o, s) → exec1 P G E ro c st = some (o', s')) : Ev P G X ro c st Q := by
  obtain ⟨o, s, hQ, k0, hk⟩ := h
  obtain ⟨o', s', hQ', hE⟩ := hs o s hQ
  refine ⟨o', s', hQ', k0 + 1, fun k hk' => ?_⟩
  obtain ⟨k, rfl⟩ : ∃ j, k = j + 1 := ⟨k - 1, by omega⟩
  rw [both_ex]
  exact hE _ (hk k (by omega))
theorem Ev.scope {ro : Option Nat} {c : Code} {st : St} {Q : Out → St → Prop} (h : Ev P G X ro c st Q) : Ev P G X ro (.scope c) st Q :=
  h.step fun o s hq => ⟨o, s, hq, fun E h => h⟩
theorem Ev.block {ro : Option Nat} {id : Nat} {c : Code} {st : St} {Q : Out → St → Prop} (h : Ev P G X ro c st fun o s => match o with | .exit x => if x = id then Q .normal s else Q (.exit x) s | o => Q o s) : Ev P G X ro (.block id c) st Q := by
  refine h.step fun o s hq => ?_
  cases o with
  | normal => exact ⟨_, _, hq, fun E h => by simp only [exec1, eBlock, h]⟩
  | ret => exact ⟨_, _, hq, fun E h => by simp only [exec1, eBlock, h]⟩
  | exit x =>
    by_cases e : x = id
    · subst e
      exact ⟨.normal, s, by simpa using hq, fun E h => by simp [exec1, eBlock, h]⟩
    · have hb : Nat.beq x id = false := by cases hh : Nat.beq x id with | false => rfl | true => exact (e (Nat.eq_of_beq_eq_true hh)).elim
      exact ⟨.exit x, s, by simpa [e] using hq, fun E h => by simp [exec1, eBlock, h, hb]⟩
theorem Ev.seq {ro : Option Nat} {a b : Code} {st : St} {Q : Out → St → Prop} (h : Ev P G X ro a st fun o s => match o with | .normal => Ev P G X ro b s Q | o => Q o s) : Ev P G X ro (.seq a b) st Q := by
  obtain ⟨o, s, hQ, k0, hk⟩ := h
  cases o with
  | normal =>
    obtain ⟨o', s', hQ', k1, hk1⟩ := hQ
    refine ⟨o', s', hQ', max k0 k1 + 1, fun k hk' => ?_⟩
    obtain ⟨k, rfl⟩ : ∃ j, k = j + 1 := ⟨k - 1, by omega⟩
    rw [both_ex]
    simp only [exec1, eSeq, hk k (by omega)]
    exact hk1 k (by omega)
  | exit x =>
    refine ⟨_, _, hQ, k0 + 1, fun k hk' => ?_⟩
    obtain ⟨k, rfl⟩ : ∃ j, k = j + 1 := ⟨k - 1, by omega⟩
    rw [both_ex]
    simp only [exec1, eSeq, hk k (by omega)]
  | ret =>
    refine ⟨_, _, hQ, k0 + 1, fun k hk' => ?_⟩
    obtain ⟨k, rfl⟩ : ∃ j, k = j + 1 := ⟨k - 1, by omega⟩
    rw [both_ex]
    simp only [exec1, eSeq, hk k (by omega)]
theorem Ev.loop {ro : Option Nat} {a : Code} {st : St} {Q : Out → St → Prop} (h : Ev P G X ro a st fun o s => match o with | .normal => Ev P G X ro (.loop a) s Q | o => Q o s) : Ev P G X ro (.loop a) st Q := by
  obtain ⟨o, s, hQ, k0, hk⟩ := h
  cases o with
  | normal =>
    obtain ⟨o', s', hQ', k1, hk1⟩ := hQ
    refine ⟨o', s', hQ', max k0 k1 + 1, fun k hk' => ?_⟩
    obtain ⟨k, rfl⟩ : ∃ j, k = j + 1 := ⟨k - 1, by omega⟩
    rw [both_ex]
    simp only [exec1, eLoop, hk k (by omega)]
    exact hk1 k (by omega)
  | exit x =>
    refine ⟨_, _, hQ, k0 + 1, fun k hk' => ?_⟩
    obtain ⟨k, rfl⟩ : ∃ j, k = j + 1 := ⟨k - 1, by omega⟩
    rw [both_ex]
    simp only [exec1, eLoop, hk k (by omega)]
  | ret =>
    refine ⟨_, _, hQ, k0 + 1, fun k hk' => ?_⟩
    obtain ⟨k, rfl⟩ : ∃ j, k = j + 1 := ⟨k - 1, by omega⟩
    rw [both_ex]
    simp only [exec1, eLoop, hk k (by omega)]
theorem Ev.cond {ro : Option Nat} {c : Operand} {a b : Code} {st : St} {t : Bool} {Q : Out → St → Prop} (hc : ev G st.env c = some (.bool t)) (h : Ev P G X ro (if t then a else b) st Q) : Ev P G X ro (.cond c a b) st Q := by
  refine h.step fun o s hq => ⟨o, s, hq, fun E h => ?_⟩
  simp only [exec1, eCond, hc]
  cases t <;> exact h
theorem Ev.region {ro : Option Nat} {id : Nat} {ops : Array Oper} {st : St} {Q : Out → St → Prop} (h : EvO P G X ro ops ops.toList st fun s => Q .normal s) : Ev P G X ro (.region id ops false) st Q := by
  obtain ⟨s, hQ, k0, hk⟩ := h
  refine ⟨.normal, s, hQ, k0 + 1, fun k hk' => ?_⟩
  obtain ⟨k, rfl⟩ : ∃ j, k = j + 1 := ⟨k - 1, by omega⟩
  rw [both_ex]
  simp [exec1, eRegion, runRegion, hk k (by omega)]
theorem EvO.nil {ro : Option Nat} {ops : Array Oper} {st : St} {Q : St → Prop} (h : Q st) : EvO P G X ro ops [] st Q := ⟨st, h, 0, fun k _ => rfl⟩
theorem EvO.val {ro : Option Nat} {ops : Array Oper} {o : Oper} {l : List Oper} {st : St} {Q : St → Prop} {v : AV} {H : AHeap} (hw : wantedA ops st.env o = true) (ha : aop P (ev G st.env) st.heap o.op = some (.val v H)) (h : EvO P G X ro ops l ⟨putD st.env o.dst v, H, st.dfs⟩ Q) : EvO P G X ro ops (o :: l) st Q := by
  obtain ⟨s, hQ, k0, hk⟩ := h
  refine ⟨s, hQ, k0, fun k hk' => ?_⟩
  simp only [runOps, op1, hw, cond_true, ha, opDo]
  exact hk k hk'
theorem EvO.skip {ro : Option Nat} {ops : Array Oper} {o : Oper} {l : List Oper} {st : St} {Q : St → Prop} (hw : wantedA ops st.env o = false) (h : EvO P G X ro ops l ⟨putD st.env o.dst u, st.heap, st.dfs⟩ Q) : EvO P G X ro ops (o :: l) st Q := by
  obtain ⟨s, hQ, k0, hk⟩ := h
  refine ⟨s, hQ, k0, fun k hk' => ?_⟩
  simp only [runOps, op1, hw, cond_false]
  exact hk k hk'
theorem EvO.call {ro : Option Nat} {ops : Array Oper} {o : Oper} {l : List Oper} {st : St} {Q : St → Prop} {f : FuncId} {args : List AV} (hw : wantedA ops st.env o = true) (ha : aop P (ev G st.env) st.heap o.op = some (.enter f args)) (h : EvC P G X f args st.heap fun v H => EvO P G X ro ops l ⟨putD st.env o.dst v, H, st.dfs⟩ Q) : EvO P G X ro ops (o :: l) st Q := by
  obtain ⟨v, H, ⟨s, hQ, k0, hk⟩, k1, hk1⟩ := h
  refine ⟨s, hQ, max k0 k1, fun k hk' => ?_⟩
  simp only [runOps, op1, hw, cond_true, ha, opDo, hk1 k (by omega)]
  exact hk k (by omega)
theorem EvC.body {f : FuncId} {fn : Func} {c : Code} {args : List AV} {H : AHeap} {Q : AV → AHeap → Prop} (hX : X f = none) (hf : P.funcs[f]? = some fn) (hc : fn.body = some c)
    (h : Ev P G X none c ⟨Env.ofArgs args (args.length + (fn.ntmps - args.length)), H, []⟩ fun o s => (∀ x, o ≠ .exit x) ∧ s.dfs = [] ∧ ∃ vs, resultsA P s.env s.heap fn.results.toList = some vs ∧ Q (one vs) s.heap) : EvC P G X f args H Q := by
  obtain ⟨o, s, ⟨ho, hd, vs, hr, hQ⟩, k0, hk⟩ := h
  refine ⟨one vs, s.heap, hQ, k0 + 1, fun k hk' => ?_⟩
  obtain ⟨k, rfl⟩ : ∃ j, k = j + 1 := ⟨k - 1, by omega⟩
  rw [both_ca, hX]
  simp only [call1, hf, hc, hk k (by omega)]
  cases o with
  | exit x => exact (ho x rfl).elim
  | normal => simp [hd, runDfs, hr]
  | ret => simp [hd, runDfs, hr]
end Go.AM
