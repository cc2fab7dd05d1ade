/- Soundness: calls; the evaluator at every number of rounds. -/
import Derived.Test.YtgkopheekihkjaaDoorAMk
set_option linter.unusedVariables false
set_option linter.unusedSimpArgs false
namespace Go.AM
variable {P : Program} {π : Prot} {G : Nat → Option (List AV)}

theorem args_env {ρ : Ren} : ∀ {as : List AV} {vs : List Value} {env : Env} {tmps : Array Value} {i : Nat}, VRels π ρ as vs → env.n = tmps.size → i + vs.length ≤ tmps.size → (∀ t, t < i → VRel π ρ (env.get t) (tmps.getD t undef)) → (∀ j v, vs[j]? = some v → tmps[i + j]? = some v) →
    (∀ t, i ≤ t → env.get t = u) → (∀ t, i + vs.length ≤ t → tmps.getD t undef = undef) → ERel π ρ (env.fill i as) tmps
  | [], [], env, tmps, i, _, hn, _, hlo, _, hu, hhi => ⟨hn, fun t => by
    by_cases h : t < i
    · exact hlo t h
    · show VRel π ρ (env.get t) _
      rw [hu t (by omega), hhi t (by simp; omega)]
      exact .u⟩
  | a :: as, v :: vs, env, tmps, i, h, hn, hle, hlo, hv, hu, hhi => by
    simp at hle
    refine args_env (as := as) (vs := vs) (env := env.set i a) (i := i + 1) h.2 (by rw [Env.n_set]; exact hn) (by omega) (fun t ht => ?_) (fun j x hj => ?_) (fun t ht => ?_) (fun t ht => hhi t (by simp; omega))
    · rw [Env.get_set]
      by_cases e : t = i ∧ i < env.n
      · rw [if_pos e]
        obtain ⟨rfl, _⟩ := e
        have : tmps[t]? = some v := by have := hv 0 v rfl; simpa using this
        have h2 : tmps.getD t undef = v := by
          obtain ⟨hlt, hval⟩ := Array.getElem?_eq_some_iff.1 this
          simp [Array.getD, hlt, hval]
        rw [h2]
        exact h.1
      · rw [if_neg e]
        exact hlo t (by omega)
    · have := hv (j + 1) x (by simpa using hj)
      rw [show i + 1 + j = i + (j + 1) by omega]
      exact this
    · rw [Env.get_set, if_neg (by omega)]
      exact hu t (by omega)
  | [], _ :: _, _, _, _, h, _, _, _, _, _, _ => h.elim
  | _ :: _, [], _, _, _, h, _, _, _, _, _, _ => h.elim
theorem enter_env {ρ : Ren} {as : List AV} {vs : List Value} (h : VRels π ρ as vs) (n : Nat) : ERel π ρ (Env.ofArgs as (as.length + (n - as.length))) (vs.toArray ++ Array.replicate (n - vs.length) undef) := by
  have hl := h.length
  unfold Env.ofArgs
  refine args_env h (by simp [hl]) (by simp) (fun t ht => by omega) (fun j v hj => ?_) (fun t _ => rfl) (fun t ht => ?_)
  · have hlt := (List.getElem?_eq_some_iff.1 hj).1
    rw [Nat.zero_add, Array.getElem?_append_left (by simpa using hlt)]
    simpa using hj
  · simp at ht
    by_cases hs : t < vs.length + (n - vs.length)
    · simp only [Array.getD]
      split
      · rw [Array.getInternal_eq_getElem, Array.getElem_append_right (by simpa using ht)]
        simp
      · rfl
    · simp [Array.getD, hs]

/-! ### Leaving a function -/
theorem s_ret {b : Bf} {tmps : Array Value} {df : List Deferred} {k : List Item} {cs : List Frame} {w : World} (hr : b.ro = none) : step P (lone (b.at tmps df (.code .ret :: k)) cs w) = .next (lone { b.at tmps df (.code .ret :: k) with mode := .returning } cs w) := by
  obtain ⟨fn, kind, ro⟩ := b
  simp only at hr
  subst hr
  exact step_lone_go (by simp [stepG, stepG.exec, Bf.at])
theorem s_end {b : Bf} {tmps : Array Value} {df : List Deferred} {cs : List Frame} {w : World} (hr : b.ro = none) : step P (lone (b.at tmps df []) cs w) = .next (lone { b.at tmps df [] with mode := .returning } cs w) := by
  obtain ⟨fn, kind, ro⟩ := b
  simp only at hr
  subst hr
  exact step_lone_go (by simp [stepG, stepG.exec, Bf.at])
/-- A frame that is being left. -/
def Bf.out (b : Bf) (tmps : Array Value) (df : List Deferred) (todo : List Item) : Frame := { b.at tmps df todo with mode := .returning }
theorem s_collected {b : Bf} {tmps : Array Value} {d : Deferred} {df ds : List Deferred} {k : List Item} {cs : List Frame} {w w' : World} {l : Nat} (hd : d.target = .collected l) (h : (Instr.takeDeferred l).run P w = .ok ds w') :
    step P (lone (b.out tmps (d :: df) k) cs w) = .next (lone (b.out tmps (ds ++ df) k) cs w') := by
  obtain ⟨t, a⟩ := d
  simp only at hd
  subst hd
  exact step_lone_go (by simp [stepG, Bf.out, Bf.at, unwind, h])
theorem s_deferred {b : Bf} {tmps : Array Value} {d : Deferred} {df : List Deferred} {k : List Item} {cs : List Frame} {w : World} {f : FuncId} {c : Array Value} (hd : d.target = .fn (.func f) c) (h : canEnter P f = true) :
    step P (lone (b.out tmps (d :: df) k) cs w) = .next (lone (Frame.enter P f (d.args ++ c) .deferred) (b.out tmps df k :: cs) w) := by
  obtain ⟨t, a⟩ := d
  simp only at hd
  subst hd
  exact step_lone_go (by simp [stepG, Bf.out, Bf.at, unwind, callDeferred, invoke, run_callFunc h])
theorem s_leaveDeferred {b : Bf} {tmps : Array Value} {df : List Deferred} {k : List Item} {cs : List Frame} {w : World} {fr : Frame} {f : FuncId} {v : Value} (h : Left P fr .deferred f v w) :
    step P (lone fr (b.out tmps df k :: cs) w) = .next (lone (b.out tmps df k) cs w) := by
  obtain ⟨h1, h2, h3, h4, fn, h5, h6⟩ := h
  exact step_lone_go (by simp [stepG, unwind, doReturn, h1, h2, h3, h5, h6, Bf.out, Bf.at])

theorem runDfs_ok {E : Evs} (hE : EvOK P π E) {b : Bf} {tmps : Array Value} {k : List Item} {cs : List Frame} : ∀ (dfs : List ADef) (H H' : AHeap) (ρ : Ren) (w : World) (df : List Deferred), runDfs E dfs H = some H' → Sim π ρ H w → All2 (DRel P π ρ) dfs df →
    ∃ ρ' w', Sim π ρ' H' w' ∧ Stp ρ H w ρ' H' w' ∧ Steps P (lone (b.out tmps df k) cs w) (lone (b.out tmps [] k) cs w')
  | [], H, H', ρ, w, [], h, hs, _ => by simp [runDfs] at h; subst h; exact ⟨ρ, w, hs, Stp.refl _ _ _, Steps.refl _ _⟩
  | .call f args :: r, H, H', ρ, w, d :: df, h, hs, hd => by
    unfold runDfs at h
    split at h
    · rename_i v H1 hcd
      obtain ⟨⟨a, c, h1, h2, h3, h4⟩, hr⟩ := hd
      obtain ⟨ρ1, w1, v1, fr, hv, hs1, hst1, hsteps, hleft⟩ := hE.cd _ _ _ _ _ hcd ρ w (a ++ c) (b.out tmps df k :: cs) h3 hs (.inr ⟨rfl, _, _, rfl, rfl⟩)
      obtain ⟨ρ2, w2, hs2, hst2, hsteps2⟩ := runDfs_ok hE r H1 H' ρ1 w1 df h hs1 (hr.mono fun _ _ kk => kk.mono hst1.le)
      refine ⟨ρ2, w2, hs2, hst1.trans hst2, .head (s_deferred h1 h4) ?_⟩
      rw [h2]
      have : a.toArray ++ c.toArray = (a ++ c).toArray := by simp
      rw [this]
      exact hsteps.trans (.head (s_leaveDeferred hleft) hsteps2)
    · cases h
  | .coll id :: r, H, H', ρ, w, d :: df, h, hs, hd => by
    unfold runDfs at h
    split at h
    · rename_i hg
      obtain ⟨⟨l, h1, h2⟩, hr⟩ := hd
      obtain ⟨O, hO, hR⟩ := hs.obj id _ l _ hg h2
      cases hR
      obtain ⟨k1, k2⟩ := hs.drop hg h2 (.deferred none)
      have htake : (Instr.takeDeferred l).run P w = .ok [] (putObj w l (.deferred none)) := by
        simp [Instr.takeDeferred, run_getObj' (P := P) hO (by intro c e f hh; cases hh), run_setObj' (P := P) hO (by intro c e f hh; cases hh)]
      obtain ⟨ρ2, w2, hs2, hst2, hsteps2⟩ := runDfs_ok hE r _ H' ρ _ df h k1 hr
      exact ⟨ρ2, w2, hs2, k2.trans hst2, .head (s_collected h1 htake) hsteps2⟩
    · cases h
  | [], _, _, _, _, _ :: _, _, _, hd => hd.elim
  | _ :: _, _, _, _, _, [], _, _, hd => hd.elim

theorem loadT_ptr {H : AHeap} {t : TypeId} {a v : AV} (h : loadT P H t a = some v) : (∃ id off, a = .ptr id off) ∨ (∃ row off, a = .rptr row off) := by
  have k : ∀ n r, rd H a n = some r → (∃ id off, a = .ptr id off) ∨ (∃ row off, a = .rptr row off) := by
    intro n r h
    unfold rd at h
    split at h
    · exact Or.inl ⟨_, _, rfl⟩
    · exact Or.inr ⟨_, _, rfl⟩
    · cases h
  unfold loadT at h
  split at h
  · split at h
    · obtain ⟨r, hr, _⟩ := Option.map_eq_some_iff.1 h
      exact k _ _ hr
    · split at h
      · rename_i hr
        exact k _ _ hr
      · cases h
  · cases h

theorem results_ok {ρ : Ren} {H : AHeap} {w : World} (hs : Sim π ρ H w) {env : Env} {tmps : Array Value} (he : ERel π ρ env tmps) : ∀ {l : List ResultVar} {vs : List AV}, resultsA P env H l = some vs →
    ∃ ys : List Value, (l.mapM fun r => (match r with
      | .tmp t => pure (tmps.getD t undef)
      | .cell a t => do loadVar t (← asAddr (tmps.getD a undef)) : Sem Value)).run P w = .ok ys w ∧ VRels π ρ vs ys
  | [], vs, h => by simp [resultsA] at h; subst h; exact ⟨[], rfl, trivial⟩
  | .tmp t :: r, vs, h => by
    simp only [resultsA, Option.map_eq_some_iff] at h
    obtain ⟨vs', h', rfl⟩ := h
    obtain ⟨ys, hy, hr⟩ := results_ok hs he h'
    refine ⟨tmps.getD t undef :: ys, ?_, he.2 t, hr⟩
    simp only [List.mapM_cons, Sem.run_bind, Sem.run_pure, Result.andThen_ok, hy]
  | .cell a t :: r, vs, h => by
    unfold resultsA at h
    split at h
    · rename_i v vs' hl h'
      cases h
      obtain ⟨ys, hy, hr⟩ := results_ok hs he h'
      have hv := he.2 a
      obtain ⟨y, hld, hrel⟩ := hs.load (P := P) hv hl
      refine ⟨y :: ys, ?_, hrel, hr⟩
      have : (do loadVar t (← asAddr (tmps.getD a undef)) : Sem Value).run P w = .ok y w := by
        rcases loadT_ptr hl with ⟨id, off, e⟩ | ⟨row, off, e⟩
        · rw [e] at hv
          generalize tmps.getD a undef = q at *
          cases hv <;> exact hld
        · rw [e] at hv
          generalize tmps.getD a undef = q at *
          cases hv <;> exact hld
      simp only [List.mapM_cons, Sem.run_bind] at this ⊢
      rw [this]
      simp only [Result.andThen_ok, hy, Sem.run_pure]
    · cases h
theorem one_rel {ρ : Ren} {vs : List AV} {ys : List Value} (h : VRels π ρ vs ys) : VRel π ρ (one vs) (if h : ys.toArray.size = 1 then ys.toArray[0] else .tuple ys.toArray) := by
  match vs, ys, h with
  | [], [], _ => exact VRel.tupL (xs := []) (ys := []) trivial
  | [a], [y], h => exact h.1
  | a :: a2 :: as, y :: y2 :: ys, h => simpa [one] using VRel.tupL h
  | [a], _ :: _ :: _, h => exact h.2.elim
  | _ :: _ :: _, [_], h => exact h.2.elim

theorem call1_ok {E : Evs} (hE : EvOK P π E) {kind : CallKind} (hk : kind = .normal ∨ kind = .deferred) : CaOK P π kind (fun f args H => call1 P E f args H) := by
  intro f args H v H' h ρ w args' cs ha hs hn
  simp only at h
  unfold call1 at h
  split at h
  case h_2 => cases h
  rename_i fn hf
  split at h
  case h_2 => cases h
  rename_i c hb
  have henter : Frame.enter P f args'.toArray kind = (⟨f, kind, none⟩ : Bf).at (args'.toArray ++ Array.replicate (fn.ntmps - args'.length) undef) [] [.code c] := by
    simp [Frame.enter, Bf.at, hf, hb]
  have hl := ha.length
  have fin : ∀ {st : St} {out : Out}, E.ex none c ⟨Env.ofArgs args (args.length + (fn.ntmps - args.length)), H, []⟩ = some (out, st) → (∀ id, out ≠ .exit id) → (match runDfs E st.dfs st.heap with
        | some H' => (resultsA P st.env H' fn.results.toList).map fun vs => (one vs, H')
        | none => none) = some (v, H') →
      ∃ ρ' w' v' fr, VRel π ρ' v v' ∧ Sim π ρ' H' w' ∧ Stp ρ H w ρ' H' w' ∧ Steps P (lone (Frame.enter P f args'.toArray kind) cs w) (lone fr cs w') ∧ Left P fr kind f v' w' := by
    intro st out hx hne h
    split at h
    case h_2 => cases h
    rename_i H1 hd
    simp only [Option.map_eq_some_iff, Prod.mk.injEq] at h
    obtain ⟨vs, hres, rfl, rfl⟩ := h
    obtain ⟨ρ1, w1, t1, d1, hS1, hst1, ha1⟩ := hE.ex _ _ _ _ _ hx ρ w ⟨f, kind, none⟩ _ [] [] cs ⟨enter_env ha fn.ntmps, hs, trivial⟩ trivial hn
    rw [← henter] at ha1
    obtain ⟨todo, hout⟩ : ∃ todo, Steps P (lone (Frame.enter P f args'.toArray kind) cs w) (lone ((⟨f, kind, none⟩ : Bf).out t1 d1 todo) cs w1) := by
      cases out with
      | normal => exact ⟨[], Steps.trans ha1 (.one (s_end rfl))⟩
      | exit id => exact (hne id rfl).elim
      | ret => obtain ⟨k', hk'⟩ := ha1; exact ⟨_, Steps.trans hk' (.one (s_ret rfl))⟩
    obtain ⟨ρ2, w2, hs2, hst2, hsteps2⟩ := runDfs_ok (b := ⟨f, kind, none⟩) (tmps := t1) (k := todo) (cs := cs) hE st.dfs st.heap _ ρ1 w1 d1 hd hS1.sim hS1.dfs
    obtain ⟨ys, hy, hr⟩ := results_ok hs2 (hS1.env.mono hst2.le) hres
    refine ⟨ρ2, w2, _, (⟨f, kind, none⟩ : Bf).out t1 [] todo, one_rel hr, hs2, hst1.trans hst2, hout.trans hsteps2, rfl, rfl, rfl, rfl, fn, hf, ?_⟩
    unfold results
    rw [← Array.toArray_toList (xs := fn.results), List.mapM_toArray]
    simp only [Sem.run_bind, Sem.run_map, Bf.out, Bf.at]
    exact congrArg (fun z => (Result.andThen z (fun a w' => Result.ok a.toArray w')).andThen (fun a w' => Sem.run P (pure (if h : a.size = 1 then a[0] else Value.tuple a)) w')) hy
  split at h
  · cases h
  · rename_i out st hne hx
    exact fin hx (fun id hh => by subst hh; exact hne _ rfl) h
  · cases h

/-- What is asked of functions that are taken by contract. -/
def ExtOK (P : Program) (π : Prot) (X : Ext) : Prop := ∀ f g, X f = some g → CaOK P π .normal (fun f' args H => if f' = f then g args H else none)
theorem both_ok {X : Ext} (hG : GRel π G) (hD : DrawOK P π G) (hX : ExtOK P π X) (k : Nat) : EvOK P π (both P G X k) := by
  induction k with
  | zero =>
    refine ⟨fun ro c st out st' h => ?_, fun f args H v H' h => ?_, fun f args H v H' h => ?_⟩ <;> cases h
  | succ k ih =>
    refine ⟨exec1_ok ih hG hD, fun f args H v H' h => ?_, call1_ok ih (.inr rfl)⟩
    have h' : (match X f with | some g => g args H | none => call1 P (both P G X k) f args H) = some (v, H') := h
    split at h'
    · rename_i g hg
      exact hX f g hg f args H v H' (by simpa using h')
    · exact call1_ok ih (.inl rfl) f args H v H' h'
end Go.AM
