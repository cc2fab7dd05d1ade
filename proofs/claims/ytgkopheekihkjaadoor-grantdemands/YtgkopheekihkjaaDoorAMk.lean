/- Soundness: operations in order, code, calls. Regions that draw their order: a premise here ('DrawOK'), proved in AMm. -/
import Derived.Test.YtgkopheekihkjaaDoorAMj
set_option linter.unusedVariables false
set_option linter.unusedSimpArgs false
namespace Go.AM
variable {P : Program} {π : Prot} {G : Nat → Option (List AV)}

theorem not_defer {e : Operand → Option AV} {H : AHeap} {o : Op} {r : ARes} (h : aop P e H o = some r) (hn : ∀ f as, r ≠ .dfr f as) : ∀ c, o ≠ .defer c := by
  rintro c rfl
  unfold aop at h
  simp only at h
  unfold aDefer at h
  split at h
  · split at h
    · split at h
      · cases h
        exact hn _ _ rfl
      · cases h
    · cases h
  · cases h

theorem op1g {E : Evs} (hE : EvOK P π E) {ro : Option Nat} {ops : Array Oper} {o : Oper} {st st' : St} (h : op1 P G E ro ops o st = some st') {ρ : Ren} {w : World} {b : Bf} {tmps : Array Value} {df : List Deferred} {k : List Item} {cs : List Frame} {i : Nat} {rest : List Nat}
    (ho : ops[i]? = some o) (hs : Sim π ρ st.heap w) (hdf : All2 (DRel P π ρ) st.dfs df) {e : Operand → Option AV} (hev : EvR π ρ e (evalT tmps)) (hea : aop P (ev G st.env) st.heap o.op = aop P e st.heap o.op)
    (hwt : Region.wanted o (yielded ops tmps) = wantedA ops st.env o) (hro : RoRel ρ ro b.ro) (hn : NoRec b.kind cs) :
    ∃ ρ' w' v v' df', st'.env = putD st.env o.dst v ∧ VRel π ρ' v v' ∧ Sim π ρ' st'.heap w' ∧ All2 (DRel P π ρ') st'.dfs df' ∧ Stp ρ st.heap w ρ' st'.heap w' ∧ Steps P (lone (b.at tmps df (.inRegion ops (i :: rest) :: k)) cs w) (lone (b.at (putV tmps o.dst v') df' (.inRegion ops rest :: k)) cs w') := by
  unfold op1 at h
  cases hw : wantedA ops st.env o with
  | false =>
    rw [hw] at h hwt
    cases h
    exact ⟨ρ, w, _, _, df, rfl, .u, hs, hdf, Stp.refl _ _ _, .one (s_opSkip ho hwt)⟩
  | true =>
    rw [hw] at h hwt
    rw [hea] at h
    simp only [cond_true] at h
    have hwd := hwt
    unfold opDo at h
    split at h
    · rename_i v H ha
      cases h
      obtain ⟨ρ', w', v', hrun, hv, hs', hst⟩ := aop_ok hs hev ha
      exact ⟨ρ', w', _, _, df, rfl, hv, hs', hdf.mono fun _ _ k => k.mono hst.le, hst, .one (s_opValue ho hwd (.inr (not_defer ha (by intro f as hh; cases hh))) hrun)⟩
    · rename_i f args ha
      split at h
      · rename_i v H hca
        cases h
        obtain ⟨args', hrun, hargs⟩ := aop_ok hs hev ha
        obtain ⟨ρ', w', v', fr, hv, hs', hst, hsteps, hleft⟩ := hE.ca _ _ _ _ _ hca ρ w args' (b.at tmps df (.inRegion ops (i :: rest) :: k) :: cs) hargs hs (.inl rfl)
        refine ⟨ρ', w', _, _, df, rfl, hv, hs', hdf.mono fun _ _ k => k.mono hst.le, hst, .head (s_opEnter ho hwd (.inr (not_defer ha (by intro f as hh; cases hh))) hrun) (hsteps.trans (.one ?_))⟩
        have := hleft.step (c := b.at tmps df (.inRegion ops (i :: rest) :: k)) (cs := cs)
        rw [finish_at, ho] at this
        exact this
      · cases h
    · rename_i id args ha
      split at h
      · rename_i v H hra
        cases h
        obtain ⟨l, args', hr, hargs, hrun⟩ := aop_ok hs hev ha
        obtain ⟨f, ts, as, bo, hy, hall⟩ := round_ok hE hra hs hr hargs
        obtain ⟨ρ', w', v', hv, hs', hst, hsteps⟩ := hall (b.at tmps df (.inRegion ops (i :: rest) :: k)) cs
        rw [hy] at hrun
        refine ⟨ρ', w', _, _, df, rfl, hv, hs', hdf.mono fun _ _ k => k.mono hst.le, hst, .head (s_opRound ho hwd (.inr (not_defer ha (by intro f as hh; cases hh))) hrun) ?_⟩
        rw [finish_at, ho] at hsteps
        exact hsteps
      · cases h
    · rename_i f args ha
      split at h
      · cases h
      · cases h
        obtain ⟨d, a, c, hrun, h1, h2, h3, h4⟩ := aop_ok hs hev ha
        have hbr : b.ro = none := by
          cases hb : b.ro with
          | none => rfl
          | some l => rw [hb] at hro; exact hro.elim
        exact ⟨ρ, w, _, _, d :: df, rfl, .u, hs, ⟨⟨a, c, h1, h2, h3, h4⟩, hdf⟩, Stp.refl _ _ _, .one (s_opDefer ho hwd hbr hrun)⟩
    · rename_i ha
      split at h
      · cases h
      · cases h
        have hrun := aop_ok hs hev ha
        have hbr : b.ro = none := by
          cases hb : b.ro with
          | none => rfl
          | some l => rw [hb] at hro; exact hro.elim
        exact ⟨ρ, w, _, _, df, rfl, .nili, hs, hdf, Stp.refl _ _ _, .one (s_opRecover ho hwd hbr hn (not_defer ha (by intro f as hh; cases hh)) hrun)⟩
    · cases h

theorem op1_ok {E : Evs} (hE : EvOK P π E) (hG : GRel π G) {ro : Option Nat} {ops : Array Oper} {o : Oper} {st st' : St} (h : op1 P G E ro ops o st = some st') {ρ : Ren} {w : World} {b : Bf} {tmps : Array Value} {df : List Deferred} {k : List Item} {cs : List Frame} {i : Nat} {rest : List Nat}
    (ho : ops[i]? = some o) (hS : SRel P π ρ st tmps df w) (hro : RoRel ρ ro b.ro) (hn : NoRec b.kind cs) :
    ∃ ρ' w' tmps' df', SRel P π ρ' st' tmps' df' w' ∧ Stp ρ st.heap w ρ' st'.heap w' ∧ Steps P (lone (b.at tmps df (.inRegion ops (i :: rest) :: k)) cs w) (lone (b.at tmps' df' (.inRegion ops rest :: k)) cs w') := by
  unfold op1 at h
  cases hw : wantedA ops st.env o with
  | false =>
    rw [hw] at h
    cases h
    exact ⟨ρ, w, _, df, ⟨put_rel hS.env .u o.dst, hS.sim, hS.dfs⟩, Stp.refl _ _ _, .one (s_opSkip ho (unwanted_rel hS.env hw))⟩
  | true =>
    rw [hw] at h
    simp only [cond_true] at h
    have hwd := wanted_rel hS.env hw
    have hev := ev_rel (G := G) hG hS.env
    unfold opDo at h
    split at h
    · rename_i v H ha
      cases h
      obtain ⟨ρ', w', v', hrun, hv, hs', hst⟩ := aop_ok hS.sim hev ha
      exact ⟨ρ', w', _, df, ⟨put_rel (hS.env.mono hst.le) hv o.dst, hs', hS.dfs.mono fun _ _ k => k.mono hst.le⟩, hst, .one (s_opValue ho hwd (.inr (not_defer ha (by intro f as hh; cases hh))) hrun)⟩
    · rename_i f args ha
      split at h
      · rename_i v H hca
        cases h
        obtain ⟨args', hrun, hargs⟩ := aop_ok hS.sim hev ha
        obtain ⟨ρ', w', v', fr, hv, hs', hst, hsteps, hleft⟩ := hE.ca _ _ _ _ _ hca ρ w args' (b.at tmps df (.inRegion ops (i :: rest) :: k) :: cs) hargs hS.sim (.inl rfl)
        refine ⟨ρ', w', _, df, ⟨put_rel (hS.env.mono hst.le) hv o.dst, hs', hS.dfs.mono fun _ _ k => k.mono hst.le⟩, hst, .head (s_opEnter ho hwd (.inr (not_defer ha (by intro f as hh; cases hh))) hrun) (hsteps.trans (.one ?_))⟩
        have := hleft.step (c := b.at tmps df (.inRegion ops (i :: rest) :: k)) (cs := cs)
        rw [finish_at, ho] at this
        exact this
      · cases h
    · rename_i id args ha
      split at h
      · rename_i v H hra
        cases h
        obtain ⟨l, args', hr, hargs, hrun⟩ := aop_ok hS.sim hev ha
        obtain ⟨f, ts, as, bo, hy, hall⟩ := round_ok hE hra hS.sim hr hargs
        obtain ⟨ρ', w', v', hv, hs', hst, hsteps⟩ := hall (b.at tmps df (.inRegion ops (i :: rest) :: k)) cs
        rw [hy] at hrun
        refine ⟨ρ', w', _, df, ⟨put_rel (hS.env.mono hst.le) hv o.dst, hs', hS.dfs.mono fun _ _ k => k.mono hst.le⟩, hst, .head (s_opRound ho hwd (.inr (not_defer ha (by intro f as hh; cases hh))) hrun) ?_⟩
        rw [finish_at, ho] at hsteps
        exact hsteps
      · cases h
    · rename_i f args ha
      split at h
      · cases h
      · cases h
        obtain ⟨d, a, c, hrun, h1, h2, h3, h4⟩ := aop_ok hS.sim hev ha
        have hbr : b.ro = none := by
          cases hb : b.ro with
          | none => rfl
          | some l => rw [hb] at hro; exact hro.elim
        exact ⟨ρ, w, _, d :: df, ⟨put_rel hS.env .u o.dst, hS.sim, ⟨⟨a, c, h1, h2, h3, h4⟩, hS.dfs⟩⟩, Stp.refl _ _ _, .one (s_opDefer ho hwd hbr hrun)⟩
    · rename_i ha
      split at h
      · cases h
      · cases h
        have hrun := aop_ok hS.sim hev ha
        have hbr : b.ro = none := by
          cases hb : b.ro with
          | none => rfl
          | some l => rw [hb] at hro; exact hro.elim
        exact ⟨ρ, w, _, df, ⟨put_rel hS.env .nili o.dst, hS.sim, hS.dfs⟩, Stp.refl _ _ _, .one (s_opRecover ho hwd hbr hn (not_defer ha (by intro f as hh; cases hh)) hrun)⟩
    · cases h

theorem runOps_ok {E : Evs} (hE : EvOK P π E) (hG : GRel π G) {ro : Option Nat} {ops : Array Oper} {b : Bf} {k : List Item} {cs : List Frame} (hn : NoRec b.kind cs) : ∀ (l : List Oper) (i : Nat) (st st' : St) (ρ : Ren) (w : World) (tmps : Array Value) (df : List Deferred),
    ops.toList.drop i = l → runOps P G E ro ops l st = some st' → SRel P π ρ st tmps df w → RoRel ρ ro b.ro →
    ∃ ρ' w' tmps' df', SRel P π ρ' st' tmps' df' w' ∧ Stp ρ st.heap w ρ' st'.heap w' ∧ Steps P (lone (b.at tmps df (.inRegion ops (List.range' i l.length) :: k)) cs w) (lone (b.at tmps' df' k) cs w')
  | [], i, st, st', ρ, w, tmps, df, hl, h, hS, hro => by
    simp [runOps] at h
    subst h
    exact ⟨ρ, w, tmps, df, hS, Stp.refl _ _ _, .one s_regionEnd⟩
  | o :: r, i, st, st', ρ, w, tmps, df, hl, h, hS, hro => by
    unfold runOps at h
    split at h
    · rename_i st1 h1
      have ho : ops[i]? = some o := by
        have : (ops.toList.drop i)[0]? = some o := by rw [hl]; rfl
        simpa using this
      obtain ⟨ρ1, w1, t1, d1, hS1, hst1, hs1⟩ := op1_ok hE hG h1 (k := k) (rest := List.range' (i + 1) r.length) ho hS hro hn
      have hl' : ops.toList.drop (i + 1) = r := by
        rw [← List.drop_drop, hl]
        rfl
      obtain ⟨ρ2, w2, t2, d2, hS2, hst2, hs2⟩ := runOps_ok hE hG hn r (i + 1) st1 st' ρ1 w1 t1 d1 hl' h hS1 (hro.mono hst1.le)
      exact ⟨ρ2, w2, t2, d2, hS2, hst1.trans hst2, by rw [List.length_cons, List.range'_succ]; exact hs1.trans hs2⟩
    · cases h

/-- What is asked of a region that draws its order. -/
def DrawOK (P : Program) (π : Prot) (G : Nat → Option (List AV)) : Prop :=
  ∀ (E : Evs), EvOK P π E → ∀ (ro : Option Nat) (ops : Array Oper) (st st' : St) (rid : Nat), runRegion P G E ro ops true st = some st' → ∀ (ρ : Ren) (w : World) (b : Bf) (tmps : Array Value) (df : List Deferred) (k : List Item) (cs : List Frame), SRel P π ρ st tmps df w → RoRel ρ ro b.ro → NoRec b.kind cs →
    ∃ ρ' w' tmps' df', SRel P π ρ' st' tmps' df' w' ∧ Stp ρ st.heap w ρ' st'.heap w' ∧ Steps P (lone (b.at tmps df (.code (.region rid ops true) :: k)) cs w) (lone (b.at tmps' df' k) cs w')

theorem exitTo_loop {id : Nat} {c : Code} {k : List Item} : exitTo id (.inLoop c :: k) = exitTo id k := rfl
theorem s_range {b : Bf} {tmps : Array Value} {df : List Deferred} {k : List Item} {cs : List Frame} {w w1 : World} {g : Operand} {ps : Array Tmp} {as bo : Code} {l : Nat} {mk : List Deferred} {f : FuncId} {first cap : Array Value} (hr : b.ro = none)
    (h1 : (Instr.enterLoop b.fn tmps ps as bo none).run P w = .ok (l, mk) w1) (hg : evalT tmps g = .func (.func f) first cap) (h2 : (callFunc f (first ++ #[.func (.yield l) #[] #[]] ++ cap)).run P w1 = .ok (.enter f (first ++ #[.func (.yield l) #[] #[]] ++ cap)) w1) :
    step P (lone (b.at tmps df (.code (.rangeFunc g ps as bo) :: k)) cs w) = .next (lone (Frame.enter P f (first ++ #[.func (.yield l) #[] #[]] ++ cap) .normal) (b.at tmps (mk ++ df) (.inRangeFunc l :: k) :: cs) w1) := by
  obtain ⟨fn, kind, ro⟩ := b
  simp only at hr
  subst hr
  have he := eval_at (b := ⟨fn, kind, none⟩) (tmps := tmps) (df := mk ++ df) (.inRangeFunc l :: k)
  simp only [Bf.at] at he
  refine step_lone_go ?_
  simp only at h1
  simp only [stepG, stepG.exec, Bf.at, Sem.runT_eq, h1, GStep.bare_after]
  simp only [stepG.apply, he, resolve, Array.map, hg, Deferred.ofValue]
  rw [show first ++ #[Value.func (.yield l) #[] #[]] = first.push (.func (.yield l) #[] #[]) from by simp] at h2 ⊢
  simp [invoke, h2, evalT, hg, Deferred.ofValue]
theorem s_endRange {b : Bf} {tmps : Array Value} {df : List Deferred} {k : List Item} {cs : List Frame} {w w1 : World} {l : Nat} {j : Option Code} (h : (Instr.endLoop l).run P w = .ok j w1) :
    step P (lone (b.at tmps df (.endRangeFunc l :: k)) cs w) = .next (lone (b.at tmps df ((j.map Item.code).toList ++ k)) cs w1) :=
  step_lone_go (by simp [stepG, stepG.exec, Bf.at, h])

theorem steps_tail {m m1 m' : Machine} (h : Steps P m m') (hs : step P m = .next m1) (hne : m ≠ m') : Steps P m1 m' := by
  obtain ⟨n, hn⟩ := h
  cases n with
  | zero => simp [runN] at hn; exact (hne hn).elim
  | succ n =>
    simp only [runN, hs] at hn
    exact ⟨n, hn⟩
theorem lone_ne {fr fr' : Frame} {cs cs' : List Frame} {w w' : World} (h : fr.todo ≠ fr'.todo) : lone fr cs w ≠ lone fr' cs' w' := by
  intro he
  have : (lone fr cs w).gs[0]? = (lone fr' cs' w').gs[0]? := by rw [he]
  simp [lone] at this
  exact h (by rw [this.1])
theorem arr_tail {b : Bf} {tmps tmps' : Array Value} {df df' : List Deferred} {k : List Item} {cs : List Frame} {w w' : World} {x : Code} {out : Out} {m1 : Machine} (h : Arr P (lone (b.at tmps df (.code (.loop x) :: k)) cs w) b tmps' df' k cs w' out)
    (hs : step P (lone (b.at tmps df (.code (.loop x) :: k)) cs w) = .next m1) : Arr P m1 b tmps' df' k cs w' out := by
  cases out with
  | normal =>
    refine steps_tail h hs (lone_ne ?_)
    intro hh
    have := congrArg List.length hh
    simp [Bf.at] at this
  | exit id =>
    obtain ⟨k', hk', h'⟩ := h
    exact ⟨k', hk', steps_tail h' hs (lone_ne (by simp [Bf.at]))⟩
  | ret =>
    obtain ⟨k', h'⟩ := h
    exact ⟨k', steps_tail h' hs (lone_ne (by simp [Bf.at]))⟩
theorem run_callFunc {f : FuncId} (h : canEnter P f = true) (args : Array Value) (w : World) : (callFunc f args).run P w = .ok (.enter f args) w := by
  unfold canEnter at h
  split at h
  · rename_i fn hf
    simp only [Bool.and_eq_true, bne_iff_ne, ne_eq] at h
    obtain ⟨bd, hb⟩ := Option.isSome_iff_exists.1 h.1
    simp [callFunc, hf, h.2, hb]
  · cases h
/-- A block that is given up, and written once more. -/
theorem Sim.drop {ρ : Ren} {H : AHeap} {w : World} (hs : Sim π ρ H w) {id b : Nat} {s : Nat × Nat} {o : AObj} (hg : H.get id = some o) (hr : ρ id = some (b, s)) (O : Obj) : Sim π ρ (H.kill id) (Go.AM.putObj w b O) ∧ Stp ρ H w ρ (H.kill id) (Go.AM.putObj w b O) := by
  have hk := hs.kill id
  have hb : ∀ b', b' ≠ b → (Go.AM.putObj w b O).heap[b']? = w.heap[b']? := fun b' h => by simp [Go.AM.putObj, Array.getElem?_setIfInBounds_ne (Ne.symm h)]
  have hget : ∀ j a, (H.kill id).get j = some a → j ≠ id ∧ H.get j = some a := fun j a h => by
    rw [AHeap.get_kill] at h
    by_cases e : j = id
    · simp [e] at h
    · rw [if_neg e] at h; exact ⟨e, h⟩
  constructor
  · refine ⟨hk.1.fresh, hk.1.lt, fun i o2 b2 s2 h4 h5 => ?_, hk.1.inj, fun b2 O2 h => ?_, hk.1.npi, hk.1.bd⟩
    · obtain ⟨hne, hg2⟩ := hget i o2 h4
      obtain ⟨O2, h6, h7⟩ := hs.obj i o2 b2 s2 hg2 h5
      exact ⟨O2, by rw [hb b2 (fun e => hne (hs.inj i id o2 o b2 s2 s hg2 hg h5 (by rw [e]; exact hr)))]; exact h6, h7⟩
    · rw [hb b2 (fun e => by rw [e, hs.npi id o b s hg hr] at h; cases h)]
      exact hs.prot b2 O2 h
  · refine ⟨Ren.le_refl _, by simp [Go.AM.putObj], hk.2.own, fun b2 h1 h2 => hb b2 (fun e => h2 ⟨id, o, s, hg, by rw [e]; exact hr⟩), rfl, rfl, rfl, by simp, fun _ _ => rfl⟩

theorem exec1_ok {E : Evs} (hE : EvOK P π E) (hG : GRel π G) (hD : DrawOK P π G) : ExOK P π (fun ro c st => exec1 P G E ro c st) := by
  intro ro c st out st' h ρ w b tmps df k cs hS hro hn
  simp only at h
  unfold exec1 at h
  cases c <;> simp only at h <;> try (cases h; done)
  case skip => cases h; exact ⟨ρ, w, tmps, df, hS, Stp.refl _ _ _, Steps.one s_skip⟩
  case label l => cases h; exact ⟨ρ, w, tmps, df, hS, Stp.refl _ _ _, Steps.one s_label⟩
  case region id ops draw =>
    unfold eRegion at h
    split at h
    · rename_i st1 hr
      cases h
      cases draw with
      | true => exact hD E hE ro ops st st' id hr ρ w b tmps df k cs hS hro hn
      | false =>
        unfold runRegion at hr
        simp only [Bool.false_eq_true, if_false] at hr
        obtain ⟨ρ', w', t', d', h1, h2, h3⟩ := runOps_ok hE hG hn (k := k) ops.toList 0 st st' ρ w tmps df rfl hr hS hro
        refine ⟨ρ', w', t', d', h1, h2, Steps.head s_region ?_⟩
        have : List.range' 0 ops.toList.length = List.range ops.size := by rw [List.range_eq_range']; simp
        rw [this] at h3
        exact h3
    · cases h
  case seq x y =>
    unfold eSeq at h
    split at h
    · rename_i st1 hx
      obtain ⟨ρ1, w1, t1, d1, hS1, hst1, ha1⟩ := hE.ex _ _ _ _ _ hx ρ w b tmps df (.code y :: k) cs hS hro hn
      obtain ⟨ρ2, w2, t2, d2, hS2, hst2, ha2⟩ := hE.ex _ _ _ _ _ h ρ1 w1 b t1 d1 k cs hS1 (hro.mono hst1.le) hn
      exact ⟨ρ2, w2, t2, d2, hS2, hst1.trans hst2, Arr.of_steps (.head s_seq ha1) ha2⟩
    · rename_i hnn
      obtain ⟨ρ1, w1, t1, d1, hS1, hst1, ha1⟩ := hE.ex _ _ _ _ _ h ρ w b tmps df (.code y :: k) cs hS hro hn
      refine ⟨ρ1, w1, t1, d1, hS1, hst1, Arr.of_steps (.one s_seq) ?_⟩
      cases out with
      | normal => exact (hnn _ h).elim
      | exit id => exact ha1
      | ret => exact ha1
  case cond c x y =>
    unfold eCond at h
    split at h
    · rename_i t ht
      have hc := ev_rel (G := G) hG hS.env c _ ht
      have hcv : evalT tmps c = .bool t := by generalize evalT tmps c = q at *; cases hc; rfl
      have hx : E.ex ro (if t then x else y) st = some (out, st') := by cases t <;> exact h
      obtain ⟨ρ1, w1, t1, d1, hS1, hst1, ha1⟩ := hE.ex _ _ _ _ _ hx ρ w b tmps df k cs hS hro hn
      exact ⟨ρ1, w1, t1, d1, hS1, hst1, Arr.of_steps (.one (s_cond hcv)) ha1⟩
    · cases h
  case block id x =>
    unfold eBlock at h
    split at h
    · rename_i xid st1 hx
      cases h
      obtain ⟨ρ1, w1, t1, d1, hS1, hst1, ha1⟩ := hE.ex _ _ _ _ _ hx ρ w b tmps df (.inBlock id :: k) cs hS hro hn
      obtain ⟨k', hk', hs'⟩ := ha1
      refine ⟨ρ1, w1, t1, d1, hS1, hst1, ?_⟩
      simp only [exitTo] at hk'
      cases hb : Nat.beq xid id with
      | true =>
        have := Nat.eq_of_beq_eq_true hb
        subst this
        simp only [beq_self_eq_true, if_true] at hk'
        exact Steps.head s_block (Steps.trans hs' (.one (s_exit hk')))
      | false =>
        have hne : (id == xid) = false := by
          have : ¬ xid = id := fun hh => by subst hh; rw [Nat.beq_refl] at hb; cases hb
          simpa using fun hh : id = xid => this hh.symm
        rw [hne] at hk'
        simp only [Bool.false_eq_true, if_false] at hk'
        exact ⟨k', hk', Steps.head s_block hs'⟩
    · rename_i hnn
      obtain ⟨ρ1, w1, t1, d1, hS1, hst1, ha1⟩ := hE.ex _ _ _ _ _ h ρ w b tmps df (.inBlock id :: k) cs hS hro hn
      refine ⟨ρ1, w1, t1, d1, hS1, hst1, ?_⟩
      cases out with
      | normal => exact Steps.head s_block (Steps.trans ha1 (.one s_inBlock))
      | exit id => exact (hnn _ _ h).elim
      | ret => exact Arr.of_steps (.one s_block) ha1
  case loop x =>
    unfold eLoop at h
    have hin : ∀ (ρ1 : Ren) (w1 : World) (t1 : Array Value) (d1 : List Deferred), Steps P (lone (b.at t1 d1 (.inLoop x :: k)) cs w1) (lone (b.at t1 d1 (.code x :: .inLoop x :: k)) cs w1) := fun _ _ _ _ => .one s_inLoop
    split at h
    · rename_i st1 hx
      obtain ⟨ρ1, w1, t1, d1, hS1, hst1, ha1⟩ := hE.ex _ _ _ _ _ hx ρ w b tmps df (.inLoop x :: k) cs hS hro hn
      obtain ⟨ρ2, w2, t2, d2, hS2, hst2, ha2⟩ := hE.ex _ _ _ _ _ h ρ1 w1 b t1 d1 k cs hS1 (hro.mono hst1.le) hn
      refine ⟨ρ2, w2, t2, d2, hS2, hst1.trans hst2, ?_⟩
      exact Arr.of_steps (Steps.head s_loop (Steps.trans ha1 (.one s_inLoop))) (arr_tail ha2 s_loop)
    · rename_i hnn
      obtain ⟨ρ1, w1, t1, d1, hS1, hst1, ha1⟩ := hE.ex _ _ _ _ _ h ρ w b tmps df (.inLoop x :: k) cs hS hro hn
      refine ⟨ρ1, w1, t1, d1, hS1, hst1, Arr.of_steps (.one s_loop) ?_⟩
      cases out with
      | normal => exact (hnn _ h).elim
      | exit id => exact ha1
      | ret => exact ha1
  case scope x =>
    obtain ⟨ρ1, w1, t1, d1, hS1, hst1, ha1⟩ := hE.ex _ _ _ _ _ h ρ w b tmps df (.inScope x :: k) cs hS hro hn
    refine ⟨ρ1, w1, t1, d1, hS1, hst1, ?_⟩
    cases out with
    | normal => exact Steps.head s_scope (Steps.trans ha1 (.one s_inScope))
    | exit id => exact Arr.of_steps (.one s_scope) ha1
    | ret => exact Arr.of_steps (.one s_scope) ha1
  case exit id => cases h; exact ⟨ρ, w, tmps, df, hS, Stp.refl _ _ _, k, rfl, Steps.refl _ _⟩
  case ret => cases h; exact ⟨ρ, w, tmps, df, hS, Stp.refl _ _ _, k, Steps.refl _ _⟩
  case rangeFunc g ps as bo =>
    unfold eRange at h
    split at h
    case h_2 => cases h
    rename_i f first cap hgv
    have hbr : b.ro = none := by
      cases hb : b.ro with
      | none => rfl
      | some l => rw [hb] at hro; exact hro.elim
    cases hce : canEnter P f with
    | false => rw [hce] at h; cases h
    | true =>
    rw [hce] at h
    simp only [cond_true] at h
    split at h
    case h_2 => cases h
    rename_i vv H3 hca
    split at h
    case h_2 => cases h
    rename_i al hg3
    have hgr := ev_rel (G := G) hG hS.env g _ hgv
    generalize hgq : evalT tmps g = q at hgr
    obtain ⟨xs, ys, rfl, hxs, hys⟩ := hgr.fn_inv
    obtain ⟨a1, a2⟩ := hS.sim.alloc .dfr (.deferred (some [])) .dfr
    have henv1 := hS.env.mono a2.le
    obtain ⟨b1, b2⟩ := a1.alloc (.loop { ready := true, pending := none, env := st.env, params := ps.toList, assign := as, body := bo, dfr := st.heap.next }) (.loop { state := .ready, pending := none, fn := b.fn, tmps, params := ps, assign := as, body := bo, defers := w.heap.size }) (z := 0)
      (.loop ⟨by simp, rfl, henv1, rfl, rfl, rfl, by simp [Ren.put]⟩)
    have hen : (Instr.enterLoop b.fn tmps ps as bo none).run P w = .ok (w.heap.size + 1, [{ target := .collected w.heap.size, args := #[] }]) ((w.alloc (.deferred (some []))).alloc (.loop { state := .ready, pending := none, fn := b.fn, tmps, params := ps, assign := as, body := bo, defers := w.heap.size })) := by
      simp [Instr.enterLoop]
    generalize hw2 : (w.alloc (.deferred (some []))).alloc (.loop { state := .ready, pending := none, fn := b.fn, tmps, params := ps, assign := as, body := bo, defers := w.heap.size }) = w2 at *
    generalize hρ2 : Ren.put (ρ.put st.heap.next (w.heap.size, 0, 0)) (st.heap.alloc .dfr).next ((w.alloc (.deferred (some []))).heap.size, 0, 0) = ρ2 at *
    have hst2 : Stp ρ st.heap w ρ2 ((st.heap.alloc .dfr).alloc (.loop { ready := true, pending := none, env := st.env, params := ps.toList, assign := as, body := bo, dfr := st.heap.next })) w2 := a2.trans b2
    have hl2 : ρ2 (st.heap.next + 1) = some (w.heap.size + 1, 0, 0) := by rw [← hρ2]; simp [Ren.put]
    have hd2 : ρ2 st.heap.next = some (w.heap.size, 0, 0) := by rw [← hρ2]; simp [Ren.put]
    have hargs : VRels π ρ2 (first ++ [.yld (st.heap.next + 1)] ++ cap) (xs ++ [Value.func (.yield (w.heap.size + 1)) #[] #[]] ++ ys) :=
      ((hxs.mono fun _ _ k => k.mono hst2.le).append (show VRels π ρ2 [.yld (st.heap.next + 1)] [Value.func (.yield (w.heap.size + 1)) #[] #[]] from ⟨.yld hl2, trivial⟩)).append (hys.mono fun _ _ k => k.mono hst2.le)
    obtain ⟨ρ3, w3, v3, fr, hv3, hs3, hst3, hsteps, hleft⟩ := hE.ca _ _ _ _ _ hca ρ2 w2 _ (b.at tmps ([{ target := .collected w.heap.size, args := #[] }] ++ df) (.inRangeFunc (w.heap.size + 1) :: k) :: cs) hargs b1 (.inl rfl)
    have hl3 := hst3.le _ _ hl2
    have hd3 := hst3.le _ _ hd2
    obtain ⟨L3, hL3, ⟨hsta, hpe, henv, hpar, has, hbo, hdfr⟩, _⟩ := loop_inv hs3 hg3 hl3
    have harr : xs.toArray ++ #[Value.func (.yield (w.heap.size + 1)) #[] #[]] ++ ys.toArray = (xs ++ [Value.func (.yield (w.heap.size + 1)) #[] #[]] ++ ys).toArray := by simp
    have h1 := s_range (P := P) (b := b) (df := df) (k := k) (cs := cs) hbr hen hgq (run_callFunc hce _ _)
    rw [harr] at h1
    have hstep1 : Steps P (lone (b.at tmps df (.code (.rangeFunc g ps as bo) :: k)) cs w) (lone (b.at tmps ({ target := .collected w.heap.size, args := #[] } :: df) (.endRangeFunc (w.heap.size + 1) :: k)) cs w3) :=
      .head h1 (hsteps.trans (.one (by have := hleft.step (c := b.at tmps ([{ target := .collected w.heap.size, args := #[] }] ++ df) (.inRangeFunc (w.heap.size + 1) :: k)) (cs := cs); simpa [Frame.finish, Bf.at] using this)))
    have hbusy : L3.state ≠ .busy → (Instr.endLoop (w.heap.size + 1)).run P w3 = .ok al.pending (putObj w3 (w.heap.size + 1) (.loop { L3 with state := .exhausted })) := fun hne => by
      have hb : (L3.state == LoopState.busy) = false := by cases hq : L3.state <;> first | rfl | exact (hne hq).elim
      have hso := run_setObj' (P := P) (O' := .loop { L3 with state := .exhausted }) hL3 (by intro c e f hh; cases hh)
      simp only [Instr.endLoop, Sem.run_bind, run_getLoop hL3, Result.andThen_ok, hb, Bool.false_eq_true, if_false, hso, Sem.run_pure]
      exact congrArg (fun j => Result.ok j _) hpe
    obtain ⟨k1, k2⟩ := hs3.drop hg3 hl3 (.loop { L3 with state := .exhausted })
    have hall := hst2.trans (hst3.trans k2)
    have hS' : SRel P π ρ3 ⟨st.env, H3.kill (st.heap.next + 1), .coll st.heap.next :: st.dfs⟩ tmps ({ target := .collected w.heap.size, args := #[] } :: df) (putObj w3 (w.heap.size + 1) (.loop { L3 with state := .exhausted })) :=
      ⟨hS.env.mono hall.le, k1, ⟨⟨_, rfl, hd3⟩, hS.dfs.mono fun _ _ kk => kk.mono hall.le⟩⟩
    split at h
    · rename_i hre hpen
      cases h
      refine ⟨ρ3, _, tmps, _, hS', hall, hstep1.trans (.one ?_)⟩
      have := s_endRange (b := b) (tmps := tmps) (df := { target := .collected w.heap.size, args := #[] } :: df) (k := k) (cs := cs) (hbusy (by rw [hsta, hre]; simp))
      rw [hpen] at this
      exact this
    · rename_i hre hpen
      cases h
      refine ⟨ρ3, _, tmps, _, hS', hall, k, hstep1.trans (.one ?_)⟩
      have := s_endRange (b := b) (tmps := tmps) (df := { target := .collected w.heap.size, args := #[] } :: df) (k := k) (cs := cs) (hbusy (by rw [hsta, hre, hpen]; simp))
      rw [hpen] at this
      exact this
    · rename_i xid hre hpen
      cases h
      refine ⟨ρ3, _, tmps, _, hS', hall, k, rfl, hstep1.trans (.one ?_)⟩
      have := s_endRange (b := b) (tmps := tmps) (df := { target := .collected w.heap.size, args := #[] } :: df) (k := k) (cs := cs) (hbusy (by rw [hsta, hre, hpen]; simp))
      rw [hpen] at this
      exact this
    · cases h
end Go.AM
