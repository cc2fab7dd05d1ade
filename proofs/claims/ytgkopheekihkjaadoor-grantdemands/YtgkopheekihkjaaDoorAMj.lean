/- Soundness: operations in order, rounds, code, calls. -/
import Derived.Test.YtgkopheekihkjaaDoorAMi
set_option linter.unusedVariables false
set_option linter.unusedSimpArgs false
namespace Go.AM
variable {P : Program} {π : Prot} {G : Nat → Option (List AV)}

def Arr (P : Program) (m : Machine) (b : Bf) (tmps : Array Value) (df : List Deferred) (k : List Item) (cs : List Frame) (w : World) : Out → Prop
  | .normal => Steps P m (lone (b.at tmps df k) cs w)
  | .exit id => ∃ k', exitTo id k' = exitTo id k ∧ Steps P m (lone (b.at tmps df (.code (.exit id) :: k')) cs w)
  | .ret => ∃ k', Steps P m (lone (b.at tmps df (.code .ret :: k')) cs w)
theorem Arr.of_steps {m m1 : Machine} {b : Bf} {tmps : Array Value} {df : List Deferred} {k : List Item} {cs : List Frame} {w : World} {o : Out} (h : Steps P m m1) (h' : Arr P m1 b tmps df k cs w o) : Arr P m b tmps df k cs w o := by
  cases o with
  | normal => exact h.trans h'
  | exit id => obtain ⟨k', h1, h2⟩ := h'; exact ⟨k', h1, h.trans h2⟩
  | ret => obtain ⟨k', h2⟩ := h'; exact ⟨k', h.trans h2⟩

def ExOK (P : Program) (π : Prot) (ex : Option Nat → Code → St → Option (Out × St)) : Prop :=
  ∀ ro c st out st', ex ro c st = some (out, st') → ∀ (ρ : Ren) (w : World) (b : Bf) (tmps : Array Value) (df : List Deferred) (k : List Item) (cs : List Frame), SRel P π ρ st tmps df w → RoRel ρ ro b.ro → NoRec b.kind cs →
    ∃ ρ' w' tmps' df', SRel P π ρ' st' tmps' df' w' ∧ Stp ρ st.heap w ρ' st'.heap w' ∧ Arr P (lone (b.at tmps df (.code c :: k)) cs w) b tmps' df' k cs w' out
def Left (P : Program) (fr : Frame) (kind : CallKind) (f : FuncId) (v : Value) (w : World) : Prop :=
  fr.mode = .returning ∧ fr.defers = [] ∧ fr.kind = kind ∧ fr.fn = f ∧ ∃ fn, P.funcs[fr.fn]? = some fn ∧ (results fn fr.tmps).run P w = .ok v w
def CaOK (P : Program) (π : Prot) (kind : CallKind) (ca : FuncId → List AV → AHeap → Option (AV × AHeap)) : Prop :=
  ∀ f args H v H', ca f args H = some (v, H') → ∀ (ρ : Ren) (w : World) (args' : List Value) (cs : List Frame), VRels π ρ args args' → Sim π ρ H w → NoRec kind cs →
    ∃ ρ' w' v' fr, VRel π ρ' v v' ∧ Sim π ρ' H' w' ∧ Stp ρ H w ρ' H' w' ∧ Steps P (lone (Frame.enter P f args'.toArray kind) cs w) (lone fr cs w') ∧ Left P fr kind f v' w'
structure EvOK (P : Program) (π : Prot) (E : Evs) : Prop where
  ex : ExOK P π E.ex
  ca : CaOK P π .normal E.ca
  cd : CaOK P π .deferred E.cd

theorem Left.step {fr c : Frame} {cs : List Frame} {f : FuncId} {v : Value} {w : World} (h : Left P fr .normal f v w) : step P (lone fr (c :: cs) w) = .next (lone (c.finish v) cs w) :=
  step_leave_returned ⟨h.1, h.2.1, h.2.2.1, h.2.2.2.2⟩

/-! ### A round -/
theorem s_begin {b : Bf} {l : Nat} {tmps : Array Value} {df : List Deferred} {k : List Item} {cs : List Frame} {w w' : World} (hr : b.ro = some l) (h : (Instr.beginRound l).run P w = .ok () w') :
    step P (lone (b.at tmps df (.beginRound :: k)) cs w) = .next (lone (b.at tmps df k) cs w') := by
  obtain ⟨fn, kind, ro⟩ := b
  simp only at hr
  subst hr
  exact step_lone_go (by simp [stepG, stepG.exec, stepG.apply, Bf.at, h, Frame.finish])
theorem s_leave {b : Bf} {l : Nat} {tmps : Array Value} {c : Frame} {cs : List Frame} {w w' : World} (hk : b.kind = .normal) (hr : b.ro = some l) {v : Value} (h : (Instr.endRound l none).run P w = .ok v w') :
    step P (lone (b.at tmps [] []) (c :: cs) w) = .next (lone (c.finish v) cs w') := by
  obtain ⟨fn, kind, ro⟩ := b
  simp only at hr hk
  subst hr hk
  exact step_lone_go (by simp [stepG, stepG.exec, Bf.at, h, doReturn])
theorem s_leaveRet {b : Bf} {l : Nat} {tmps : Array Value} {k : List Item} {c : Frame} {cs : List Frame} {w w' : World} (hk : b.kind = .normal) (hr : b.ro = some l) {v : Value} (h : (Instr.endRound l (some .ret)).run P w = .ok v w') :
    step P (lone (b.at tmps [] (.code .ret :: k)) (c :: cs) w) = .next (lone (c.finish v) cs w') := by
  obtain ⟨fn, kind, ro⟩ := b
  simp only at hr hk
  subst hr hk
  exact step_lone_go (by simp [stepG, stepG.exec, Bf.at, h, doReturn])
theorem s_leaveExit {b : Bf} {l id : Nat} {tmps : Array Value} {k : List Item} {c : Frame} {cs : List Frame} {w w' : World} (hk : b.kind = .normal) (hr : b.ro = some l) (he : exitTo id k = none) {v : Value} (h : (Instr.endRound l (some (.exit id))).run P w = .ok v w') :
    step P (lone (b.at tmps [] (.code (.exit id) :: k)) (c :: cs) w) = .next (lone (c.finish v) cs w') := by
  obtain ⟨fn, kind, ro⟩ := b
  simp only at hr hk
  subst hr hk
  exact step_lone_go (by simp [stepG, stepG.exec, Bf.at, h, doReturn, he])

theorem loop_inv {ρ : Ren} {H : AHeap} {w : World} (hs : Sim π ρ H w) {id l : Nat} {s : Nat × Nat} {al : ALoop} (hg : H.get id = some (.loop al)) (hr : ρ id = some (l, s)) : ∃ L, w.heap[l]? = some (.loop L) ∧ LRel π ρ al L ∧ s = (0, 0) := by
  obtain ⟨O, hO, hR⟩ := hs.obj id _ l s hg hr
  cases hR with
  | loop h => exact ⟨_, hO, h, rfl⟩
theorem run_getLoop {l : Nat} {L : Loop} {w : World} (h : w.heap[l]? = some (.loop L)) : (Instr.getLoop l).run P w = .ok L w := by
  unfold Instr.getLoop
  simp only [Sem.run_bind, run_getObj' (P := P) h (by intro c e f hh; cases hh), Result.andThen_ok]
  rfl
theorem params_rel {ρ : Ren} : ∀ {ts : List Tmp} {as : List AV} {vs : List Value} {env : Env} {tmps : Array Value}, as.length = ts.length → VRels π ρ as vs → ERel π ρ env tmps →
    ERel π ρ (setParams env ts as) ((ts.zip vs).foldl (fun tm (p : Tmp × Value) => tm.setIfInBounds p.1 p.2) tmps)
  | [], [], [], _, _, _, _, h => h
  | t :: ts, a :: as, v :: vs, env, tmps, hl, hv, h => params_rel (ts := ts) (as := as) (by simpa using hl) hv.2 (h.set hv.1 t)
  | [], _ :: _, _, _, _, hl, _, _ => by simp at hl
  | _ :: _, [], _, _, _, hl, _, _ => by simp at hl
  | [], [], _ :: _, _, _, _, hv, _ => hv.elim
  | _ :: _, _ :: _, [], _, _, _, hv, _ => hv.elim

theorem round_ok {E : Evs} (hE : EvOK P π E) {id : Nat} {args : List AV} {H H' : AHeap} {v : AV} (h : roundA E id args H = some (v, H')) {ρ : Ren} {w : World} (hs : Sim π ρ H w) {l : Nat} (hr : ρ id = some (l, 0, 0)) {args' : List Value} (ha : VRels π ρ args args') :
    ∃ f ts as bo, (Instr.yield l args'.toArray).run P w = .ok (.round l f ts as bo) w ∧ ∀ (c : Frame) (cs : List Frame), ∃ ρ' w' v', VRel π ρ' v v' ∧ Sim π ρ' H' w' ∧ Stp ρ H w ρ' H' w' ∧
      Steps P (lone (Frame.round l f ts as bo .normal) (c :: cs) w) (lone (c.finish v') cs w') := by
  unfold roundA at h
  split at h
  case h_2 => cases h
  rename_i al hg
  split at h
  case isFalse => cases h
  rename_i hc
  simp only [Bool.and_eq_true, beq_iff_eq, Option.isNone_iff_eq_none] at hc
  obtain ⟨⟨hready, hpend⟩, hlen⟩ := hc
  obtain ⟨L, hL, ⟨hst, hpe, henv, hpar, has, hbo, hdfr⟩, _⟩ := loop_inv hs hg hr
  split at h
  case h_2 => cases h
  rename_i st hx1
  split at h
  case h_2 => cases h
  rename_i al' hg2
  split at h
  · cases h
  rename_i hc2
  simp only [Bool.or_eq_true, Bool.not_eq_true', not_or, Bool.not_eq_false, Bool.and_eq_true, Option.isNone_iff_eq_none] at hc2
  obtain ⟨⟨hready2, hpend2⟩, hdfs2⟩ := hc2
  split at h
  case h_2 => cases h
  rename_i out st' hx2
  split at h
  case h_2 => cases h
  rename_i al'' hg3 hdfs3
  have hargs : args'.length = L.params.size := by
    have := ha.length
    have h2 : L.params.size = al.params.length := by rw [← hpar]; simp
    omega
  refine ⟨L.fn, (L.params.zip args'.toArray).foldl (fun tmps (t, a) => tmps.setIfInBounds t a) L.tmps, L.assign, L.body, ?_, ?_⟩
  · simp [Instr.yield, run_getLoop hL, hargs]
  · intro c cs
    have hE1 : ERel π ρ (setParams al.env al.params args) ((L.params.zip args'.toArray).foldl (fun tmps (t, a) => tmps.setIfInBounds t a) L.tmps) := by
      have := params_rel hlen ha henv
      rw [← hpar] at this
      rw [← hpar, ← Array.foldl_toList]
      simpa using this
    generalize (L.params.zip args'.toArray).foldl (fun tmps (t, a) => tmps.setIfInBounds t a) L.tmps = T0 at hE1 ⊢
    rw [← has] at hx1
    obtain ⟨ρ1, w1, T1, d1, hS1, hst1, har1⟩ := hE.ex _ _ _ _ _ hx1 ρ w ⟨L.fn, .normal, some l⟩ T0 [] [.beginRound, .code L.body] (c :: cs) ⟨hE1, hs, trivial⟩ hr (.inl rfl)
    have hd1 : d1 = [] := by
      have h1 := hS1.dfs.length
      have h2 : st.dfs = [] := by simpa using hdfs2
      rw [h2] at h1
      exact List.eq_nil_of_length_eq_zero h1.symm
    subst hd1
    have hr1 := hst1.le _ _ hr
    obtain ⟨L1, hL1, ⟨hst2, hpe2, henv2, hpar2, has2, hbo2, hdfr2⟩, _⟩ := loop_inv hS1.sim hg2 hr1
    have hbeg : (Instr.beginRound l).run P w1 = .ok () (putObj w1 l (.loop { L1 with state := .busy })) := by
      rw [hready2, if_pos rfl] at hst2
      simp [Instr.beginRound, run_getLoop hL1, run_setObj' (P := P) hL1 (by intro c e f hh; cases hh), hst2]
    obtain ⟨k1, k2⟩ := hS1.sim.putObj hg2 hr1 (o' := .loop { al' with ready := false }) (O' := .loop { L1 with state := .busy }) (.loop ⟨by simp [hpend2], hpe2, henv2, hpar2, has2, hbo2, hdfr2⟩)
    rw [← hbo] at hx2
    obtain ⟨ρ2, w2, T2, d2, hS2, hst3, har2⟩ := hE.ex _ _ _ _ _ hx2 ρ1 _ ⟨L.fn, .normal, some l⟩ T1 [] [] (c :: cs) ⟨hS1.env, k1, trivial⟩ hr1 (.inl rfl)
    have hd2 : d2 = [] := by
      have h1 := hS2.dfs.length
      rw [hdfs3] at h1
      exact List.eq_nil_of_length_eq_zero h1.symm
    subst hd2
    have hr2 := hst3.le _ _ hr1
    obtain ⟨L2, hL2, ⟨hst4, hpe4, henv4, hpar4, has4, hbo4, hdfr4⟩, _⟩ := loop_inv hS2.sim hg3 hr2
    have hpre : Steps P (lone (Frame.round l L.fn T0 L.assign L.body .normal) (c :: cs) w) (lone ((⟨L.fn, .normal, some l⟩ : Bf).at T1 [] [.code L.body]) (c :: cs) (putObj w1 l (.loop { L1 with state := .busy }))) :=
      Steps.trans har1 (.one (s_begin rfl hbeg))
    have hend : ∀ (j : Option Code), (Instr.endRound l j).run P w2 = .ok (.bool j.isNone) (putObj w2 l (.loop { L2 with state := if j.isNone then .ready else .done, pending := j })) := fun j => by
      simp [Instr.endRound, run_getLoop hL2, run_setObj' (P := P) hL2 (by intro c e f hh; cases hh)]
    have hall := hst1.trans (k2.trans hst3)
    cases out with
    | normal =>
      cases h
      obtain ⟨m1, m2⟩ := hS2.sim.putObj hg3 hr2 (o' := .loop { al'' with ready := true, pending := none }) (O' := .loop { L2 with state := .ready, pending := none }) (.loop ⟨by simp, rfl, henv4, hpar4, has4, hbo4, hdfr4⟩)
      refine ⟨ρ2, _, .bool true, .bool true, m1, hall.trans m2, Steps.trans hpre (Steps.trans har2 (.one (s_leave rfl rfl (by simpa using hend none))))⟩
    | exit x =>
      cases h
      obtain ⟨k', hk', hs4⟩ := har2
      obtain ⟨m1, m2⟩ := hS2.sim.putObj hg3 hr2 (o' := .loop { al'' with ready := false, pending := some (.exit x) }) (O' := .loop { L2 with state := .done, pending := some (.exit x) }) (.loop ⟨by simp, rfl, henv4, hpar4, has4, hbo4, hdfr4⟩)
      refine ⟨ρ2, _, .bool false, .bool false, m1, hall.trans m2, Steps.trans hpre (Steps.trans hs4 (.one (s_leaveExit rfl rfl (by rw [hk']; rfl) (by simpa using hend (some (.exit x))))))⟩
    | ret =>
      cases h
      obtain ⟨k', hs4⟩ := har2
      obtain ⟨m1, m2⟩ := hS2.sim.putObj hg3 hr2 (o' := .loop { al'' with ready := false, pending := some .ret }) (O' := .loop { L2 with state := .done, pending := some .ret }) (.loop ⟨by simp, rfl, henv4, hpar4, has4, hbo4, hdfr4⟩)
      refine ⟨ρ2, _, .bool false, .bool false, m1, hall.trans m2, Steps.trans hpre (Steps.trans hs4 (.one (s_leaveRet rfl rfl (by simpa using hend (some .ret)))))⟩
end Go.AM
