/- What a run of the evaluator says of the machine. -/
import Derived.Test.YtgkopheekihkjaaDoorAMr
set_option linter.unusedVariables false
set_option linter.unusedSimpArgs false
namespace Go.AM
variable {P : Program} {π : Prot} {G : Nat → Option (List AV)}

theorem Sim.empty {w : World} (hπ : ∀ b O, π b = some O → w.heap[b]? = some O) : Sim π (fun _ => none) .empty w :=
  ⟨fun _ _ => rfl, fun _ _ => rfl, fun i o b s h => (by cases h), fun i j o o' b s s' h => (by cases h), hπ, fun i o b s h => (by cases h), fun i o h => (by cases h)⟩
theorem Stp.below {ρ : Ren} {H' : AHeap} {ρ' : Ren} {w w' : World} (h : Stp ρ .empty w ρ' H' w') : Go.RowKit.Below w.heap.size w w' :=
  ⟨h.os, h.tape, h.output, h.size, fun k hk => h.frame k hk fun ⟨i, o, s, hi, _⟩ => by cases hi⟩

/-- A run from the empty memory: over blocks that stay as they are. -/
theorem calls_of {X : Ext} (hm : P.follows .mixedOrders = true) (hG : GRel π G) (hX : ExtOK P π X) {k : Nat} {f : FuncId} {args : List AV} {v : AV} {H' : AHeap} (h : call P G X k f args .empty = some (v, H')) {w : World} (hπ : ∀ b O, π b = some O → w.heap[b]? = some O)
    {args' : List Value} (ha : VRels π (fun _ => none) args args') : Calls P f args'.toArray w fun e w' => (∃ v' ρ', e = .returned v' ∧ VRel π ρ' v v' ∧ Sim π ρ' H' w') ∧ Go.RowKit.Below w.heap.size w w' := by
  intro cs
  obtain ⟨ρ', w', v', fr, hv, hs, hst, hsteps, h1, h2, h3, h4, h5⟩ := (both_ok hG (draw_ok hm hG) hX k).ca f args .empty v H' h (fun _ => none) w args' cs ha (.empty hπ) (.inl rfl)
  exact ⟨.returned v', w', fr, ⟨⟨v', ρ', rfl, hv, hs⟩, hst.below⟩, hsteps, h4, h1, h2, h3, h5⟩

def X0 : Ext := fun _ => none
def G0 : Nat → Option (List AV) := fun _ => none
def π0 : Prot := fun _ => none
theorem ext0 : ExtOK P π X0 := fun f g h => by cases h
theorem glob0 : GRel π G0 := fun g row h => by cases h
def isT (r : Option (AV × AHeap)) : Bool := match r with | some (.bool true, _) => true | _ => false
/-- A closed run that says true. -/
theorem calls_true {k : Nat} {f : FuncId} (hm : P.follows .mixedOrders = true) (h : isT (call P G0 X0 k f [] .empty) = true) (w : World) :
    Calls P f #[] w fun e w' => e = .returned (.bool true) ∧ Go.RowKit.Below w.heap.size w w' := by
  cases hc : call P G0 X0 k f [] .empty with
  | none => rw [hc] at h; cases h
  | some r =>
    obtain ⟨v, H'⟩ := r
    rw [hc] at h
    have hv : v = .bool true := by
      unfold isT at h
      split at h
      · rename_i he; cases he; rfl
      · cases h
    subst hv
    refine (calls_of (π := π0) hm glob0 ext0 hc (w := w) (fun b O h => by cases h) (args' := []) trivial).mono fun e w' hh => ?_
    obtain ⟨⟨v', ρ', rfl, hr, _⟩, hb⟩ := hh
    cases hr
    exact ⟨rfl, hb⟩
end Go.AM
