/- Runs with unknown parts: reads and stores of known types, and the call as the machine has it. -/
import Derived.Test.YtgkopheekihkjaaDoorAMt
set_option linter.unusedVariables false
set_option linter.unusedSimpArgs false
namespace Go.AM
variable {P : Program} {π : Prot} {G : Nat → Option (List AV)} {X : Ext}

theorem EvC.calls (hm : P.follows .mixedOrders = true) (hG : GRel π G) (hX : ExtOK P π X) {f : FuncId} {args : List AV} {Q : AV → AHeap → Prop} (h : EvC P G X f args .empty Q) {w : World} (hπ : ∀ b O, π b = some O → w.heap[b]? = some O)
    {args' : List Value} (ha : VRels π (fun _ => none) args args') : Calls P f args'.toArray w fun e w' => (∃ v H' v' ρ', Q v H' ∧ e = .returned v' ∧ VRel π ρ' v v' ∧ Sim π ρ' H' w') ∧ Go.RowKit.Below w.heap.size w w' := by
  obtain ⟨v, H', hQ, k0, hk⟩ := h
  refine (calls_of hm hG hX (hk k0 (Nat.le_refl _)) hπ ha).mono fun e w' hh => ?_
  obtain ⟨⟨v', ρ', he, hv, hs⟩, hb⟩ := hh
  exact ⟨⟨v, H', v', ρ', hQ, he, hv, hs⟩, hb⟩
/-- A run that was made with some number of turns, and asks no more: for the rules' sake. -/
theorem EvC.mono {f : FuncId} {args : List AV} {H : AHeap} {Q Q' : AV → AHeap → Prop} (h : EvC P G X f args H Q) (hq : ∀ v H', Q v H' → Q' v H') : EvC P G X f args H Q' := by
  obtain ⟨v, H', hQ, k0, hk⟩ := h
  exact ⟨v, H', hq v H' hQ, k0, hk⟩
theorem loadT_of {H : AHeap} {t : TypeId} {a : AV} {d : TypeDesc} {n : Nat} (hd : P.underlying t = some d) (hn : sizeT P t = some n) : loadT P H t a = if isAggD d then (rd H a n).map .agg else match rd H a 1 with
    | some [v] => some v
    | _ => none := by
  obtain ⟨i, hi, rfl⟩ := Option.map_eq_some_iff.1 hn
  simp only [loadT, hd, hi]
  rfl
theorem storeT_of {H : AHeap} {t : TypeId} {a v : AV} {n : Nat} (hn : sizeT P t = some n) : storeT P H t a v = if v.ntup && lenIs v.cells n then wr H a v.cells else none := by
  obtain ⟨i, hi, rfl⟩ := Option.map_eq_some_iff.1 hn
  simp only [storeT, hi]
/-- A part of a function's code. -/
def sub : List Nat → Code → Code
  | 0 :: p, .seq a _ => sub p a
  | 1 :: p, .seq _ b => sub p b
  | _ :: p, .block _ c => sub p c
  | _ :: p, .loop c => sub p c
  | _ :: p, .scope c => sub p c
  | 0 :: p, .cond _ a _ => sub p a
  | 1 :: p, .cond _ _ b => sub p b
  | _, c => c
def bodyOf (f : Func) : Code := f.body.getD .skip

/-- A function without arguments that says true, whatever stands in memory. -/
def saysTrue (f : FuncId) : Ext := fun f' => if f' = f then some fun args H => if args.isEmpty then some (.bool true, H) else none else none
theorem Sim.kept {ρ : Ren} {H : AHeap} {w w' : World} (hs : Sim π ρ H w) (hb : Go.RowKit.Below w.heap.size w w') : Sim π ρ H w' ∧ Stp ρ H w ρ H w' := by
  have hlt : ∀ {b : Nat} {O : Obj}, w.heap[b]? = some O → w'.heap[b]? = some O := fun {b O} h => (hb.block b (Array.getElem?_eq_some_iff.1 h).1).trans h
  exact ⟨⟨hs.fresh, hs.lt, fun i o b s h k => let ⟨O, h1, h2⟩ := hs.obj i o b s h k; ⟨O, hlt h1, h2⟩, hs.inj, fun b O h => hlt (hs.prot b O h), hs.npi, hs.bd⟩,
    ⟨Ren.le_refl _, hb.size, fun _ h _ => h, fun b h _ => hb.block b h, hb.os, hb.tape, hb.output, Nat.le_refl _, fun _ _ => rfl⟩⟩
theorem ext_true {k : Nat} {f : FuncId} (hm : P.follows .mixedOrders = true) (h : isT (call P G0 X0 k f [] .empty) = true) : ExtOK P π (saysTrue f) := by
  intro f1 g hg f2 args H v H' hc ρ w args' cs ha hs hn
  unfold saysTrue at hg
  split at hg
  case isFalse => cases hg
  rename_i hf1
  subst hf1
  cases hg
  simp only at hc
  split at hc
  case isFalse => cases hc
  rename_i hf2
  subst hf2
  split at hc
  case isFalse => cases hc
  rename_i he
  cases hc
  obtain rfl : args = [] := by simpa using he
  obtain rfl : args' = [] := by cases args' with | nil => rfl | cons _ _ => exact ha.elim
  cases hcc : call P G0 X0 k f2 [] .empty with
  | none => rw [hcc] at h; cases h
  | some r =>
    obtain ⟨v, H1⟩ := r
    rw [hcc] at h
    have hv : v = .bool true := by
      unfold isT at h
      split at h
      · rename_i he2; cases he2; rfl
      · cases h
    subst hv
    obtain ⟨ρ', w', v', fr, hv, _, hst, hsteps, hleft⟩ := (both_ok (π := π) (G := G0) glob0 (draw_ok hm glob0) ext0 k).ca f2 [] .empty _ H1 hcc (fun _ => none) w [] cs trivial (.empty hs.prot) hn
    obtain ⟨hs', hst'⟩ := hs.kept hst.below
    cases hv
    exact ⟨ρ, w', .bool true, fr, .bool true, hs', hst', hsteps, hleft⟩
end Go.AM
