/- Regions that draw their order: the whole region. -/
import Derived.Test.YtgkopheekihkjaaDoorAMq
set_option linter.unusedVariables false
set_option linter.unusedSimpArgs false
namespace Go.AM
variable {P : Program} {π : Prot} {G : Nat → Option (List AV)}

def unl (n : Nat) (listed : Array Bool) : List Nat := (List.range n).filter fun i => !listed.getD i true
theorem unl_set {n : Nat} {listed : Array Bool} (hs : listed.size = n) {x : Nat} (hx : x < n) (hl : listed.getD x true = false) : (unl n (listed.setIfInBounds x true)).length < (unl n listed).length := by
  have h : unl n (listed.setIfInBounds x true) = (unl n listed).filter fun i => decide (i ≠ x) := by
    unfold unl
    rw [List.filter_filter]
    apply List.filter_congr
    intro i hi
    have hin : i < n := by simpa using hi
    by_cases e : i = x
    · subst e
      simp [Array.getD_eq_getD_getElem?, Array.getElem?_setIfInBounds, hs, hin]
    · simp [Array.getD_eq_getD_getElem?, Array.getElem?_setIfInBounds_ne (Ne.symm e), e]
  rw [h]
  apply List.length_filter_lt_length_iff_exists.2
  exact ⟨x, by unfold unl; simpa [hx, Array.getD_eq_getD_getElem?] using hl, by simp⟩

section
variable {E : Evs} {ro : Option Nat} {ops : Array Oper} {T : Nat → St} {N : Nat} (R : Reg P G E ro ops T N)
variable {ρ0 : Ren} {H0 : AHeap} {w0 : World}
include R

theorem Inv.run (X : Txt P π ops.size T) (hf0 : ∀ i, H0.next ≤ i → ρ0 i = none) (hE : EvOK P π E) (hG : GRel π G) {b : Bf} {k : List Item} {cs : List Frame} (hn : NoRec b.kind cs) (hro : RoRel ρ0 ro b.ro) : ∀ (fuel t : Nat) (listed : Array Bool) (m : Nat) (ρ : Ren) (V : AHeap) (w : World) (tmps : Array Value) (df : List Deferred),
    listed.size = ops.size → (unl ops.size listed).length ≤ fuel → Inv P π ops T N ρ0 H0 w0 (fun j => listed.getD j false) m ρ V w tmps df →
    ∃ S m' ρ' V' w' tmps' df', (∀ j, j < ops.size → S j = true) ∧ Inv P π ops T N ρ0 H0 w0 S m' ρ' V' w' tmps' df' ∧
      Steps P (lone (b.at tmps df (.inRegion ops (Region.linearise.go .any ops fuel t listed []) :: k)) cs w) (lone (b.at tmps' df' (.inRegion ops [] :: k)) cs w') := by
  intro fuel
  have hfd : ∀ (listed : Array Bool) j, listed.size = ops.size → j < ops.size → listed.getD j false = listed.getD j true := fun listed j h1 h2 => by
    simp [Array.getD, h1, h2]
  induction fuel with
  | zero =>
    intro t listed m ρ V w tmps df hsz hl I
    refine ⟨_, m, ρ, V, w, tmps, df, fun j hj => ?_, I, .refl _ _⟩
    rw [hfd listed j hsz hj]
    cases h : listed.getD j true with
    | true => rfl
    | false =>
      have : j ∈ unl ops.size listed := by unfold unl; simpa [hj, Array.getD_eq_getD_getElem?] using h
      rw [List.eq_nil_of_length_eq_zero (Nat.le_zero.1 hl)] at this
      cases this
  | succ fuel ih =>
    intro t listed m ρ V w tmps df hsz hl I
    simp only [Region.linearise.go]
    change ∃ S m' ρ' V' w' tmps' df', _ ∧ _ ∧ Steps P (lone (b.at tmps df (.inRegion ops (match (Region.ready .any ops listed)[t % (Region.ready .any ops listed).length]? with
      | some i => Region.linearise.go .any ops fuel (t / (Region.ready .any ops listed).length) (listed.setIfInBounds i true) [i]
      | none => [].reverse) :: k)) cs w) _
    cases hi : (Region.ready .any ops listed)[t % (Region.ready .any ops listed).length]? with
    | none =>
      have hnil : Region.ready .any ops listed = [] := by
        cases hr : Region.ready .any ops listed with
        | nil => rfl
        | cons x xs =>
          rw [hr] at hi
          have hlt : t % (x :: xs).length < (x :: xs).length := Nat.mod_lt _ (by simp)
          simp at hi
          simp at hlt
          omega
      refine ⟨_, m, ρ, V, w, tmps, df, ?_, I, .refl _ _⟩
      intro j
      induction j using Nat.strongRecOn with
      | _ j ihj =>
        intro hj
        cases h : listed.getD j false with
        | true => rfl
        | false =>
          have hoj : ops[j]? = some ops[j] := Array.getElem?_eq_getElem hj
          have : j ∈ Region.ready .any ops listed := by
            unfold Region.ready
            rw [hfd listed j hsz hj] at h
            simp only [List.mem_filter, List.mem_range, hj, h, hoj, Option.map_some, Option.getD_some, Bool.not_false, Bool.true_and, true_and, Array.all_eq_true']
            intro e he
            cases hb : Region.binds .any e with
            | false => rfl
            | true =>
              have hlt := R.on j _ hoj e he hb
              have := ihj e.on hlt (by omega)
              simpa using this
          rw [hnil] at this
          cases this
    | some x =>
      simp only
      have hmem := List.mem_of_getElem? hi
      unfold Region.ready at hmem
      simp only [List.mem_filter, List.mem_range, Bool.and_eq_true, Bool.not_eq_true'] at hmem
      obtain ⟨hxl, hx1, hx2⟩ := hmem
      have hx : ops[x]? = some ops[x] := Array.getElem?_eq_getElem hxl
      simp only [hx, Option.map_some, Option.getD_some, Array.all_eq_true'] at hx2
      have hS : listed.getD x false = false := (hfd listed x hsz hxl).trans hx1
      obtain ⟨m', ρ', V', w', tmps', df', I', hsteps⟩ := I.next R X hf0 hE hG hro hn (k := k) (rest := Region.linearise.go .any ops fuel (t / (Region.ready .any ops listed).length) (listed.setIfInBounds x true) []) hx hS (fun j hj => by
        obtain ⟨e, he, hb, hh⟩ := ord_edge hx hj
        have hl2 := hx2 e he
        have hb' : Region.binds .any e = true := hb
        rw [hb'] at hl2
        simp only [Bool.not_true, Bool.false_or] at hl2
        rcases hh with rfl | hh
        · exact hl2
        · exact I.clo e.on j hl2 hh)
      have hSe : (fun j => listed.getD j false || decide (j = x)) = fun j => (listed.setIfInBounds x true).getD j false := by
        funext j
        by_cases e : j = x
        · subst e
          simp [Array.getD_eq_getD_getElem?, Array.getElem?_setIfInBounds, hsz, hxl]
        · simp [Array.getD_eq_getD_getElem?, Array.getElem?_setIfInBounds_ne (Ne.symm e), e]
      rw [hSe] at I'
      obtain ⟨S, m2, ρ2, V2, w2, t2, d2, hall, I2, hs2⟩ := ih (t / (Region.ready .any ops listed).length) (listed.setIfInBounds x true) m' ρ' V' w' tmps' df' (by simp [hsz]) (by
        have := unl_set hsz hxl hx1
        omega) I'
      refine ⟨S, m2, ρ2, V2, w2, t2, d2, hall, I2, ?_⟩
      rw [linearise_go_acc, List.reverse_singleton, List.singleton_append]
      exact hsteps.trans hs2

theorem Inv.end {S : Nat → Bool} {m : Nat} {ρ : Ren} {V : AHeap} {w : World} {tmps : Array Value} {df : List Deferred} (I : Inv P π ops T N ρ0 H0 w0 S m ρ V w tmps df) (X : Txt P π ops.size T) (hall : ∀ j, j < ops.size → S j = true) :
    SRel P π ρ (T ops.size) tmps df w ∧ Stp ρ0 H0 w0 ρ (T ops.size).heap w := by
  obtain ⟨hs, hd, hg, hle⟩ := I.sync R X I.mle (Nat.le_refl _) (fun j f hm hj hf hc => by
    have := I.eff_ge j f hf hm hc
    rw [hall j hj] at this
    cases this) (fun j _ _ hj _ _ => hall j hj)
  have hlow : ∀ i, (i < (T m).heap.next ∨ ∃ j, Laid ops T S m j ∧ i = (T j).heap.next) → i < (T ops.size).heap.next := fun i h => by
    rcases h with h | ⟨j, hj, rfl⟩
    · omega
    · obtain ⟨f, hf, _⟩ := hj.2.2.1
      have hjl := (Array.getElem?_eq_some_iff.1 hf).1
      have := X.mono (j + 1) ops.size hjl (Nat.le_refl _)
      have := hj.2.2.2
      omega
  have hρ : ρ.below (T ops.size).heap.next = ρ := by
    funext i
    unfold Ren.below
    by_cases h : i < (T ops.size).heap.next
    · rw [if_pos h]
    · rw [if_neg h]
      cases hi : ρ i with
      | none => rfl
      | some y => exact absurd (hlow i (I.dom i y hi)) h
  rw [hρ] at hs
  have hg' : ∀ i, (T ops.size).heap.get i = V.get i := fun i => by
    by_cases h : i < (T ops.size).heap.next
    · exact hg i h
    · rw [X.lt _ (Nat.le_refl _) i (by omega)]
      cases hi : V.get i with
      | none => rfl
      | some y => exact absurd (hlow i (I.v2 i y hi)) h
  refine ⟨⟨⟨(R.env_n _ (Nat.le_refl _)).trans I.envn, fun d => I.env d _ (Nat.le_refl _) fun j f hf _ => ?_⟩, hs, by rw [hd]; exact I.dfs⟩, ?_⟩
  · have := (Array.getElem?_eq_some_iff.1 hf).1
    simp [this, hall j this]
  · have hb := I.base
    have hoc : ∀ b, Owned ρ V b ↔ Owned ρ (T ops.size).heap b := fun b => (Owned.congr (ρ := ρ) hg').symm
    exact { I.stp with own := fun b hb hlt => I.stp.own b ((hoc b).2 hb) hlt, next := by omega }
end

theorem traj_get {E : Evs} {ro : Option Nat} {ops : Array Oper} : ∀ {l : List Oper} {st : St} {sts : List St}, traj P G E ro ops l st = some sts → sts.length = l.length + 1 ∧ sts[0]? = some st ∧ ∀ x o, l[x]? = some o → ∃ a b, sts[x]? = some a ∧ sts[x + 1]? = some b ∧ op1 P G E ro ops o a = some b
  | [], st, sts, h => by cases h; exact ⟨rfl, rfl, fun x o h => by simp at h⟩
  | o :: r, st, sts, h => by
    unfold traj at h
    split at h
    · rename_i st' h1
      obtain ⟨q, hq, rfl⟩ := Option.map_eq_some_iff.1 h
      obtain ⟨k1, k2, k3⟩ := traj_get hq
      refine ⟨by simp [k1], rfl, fun x o' hx => ?_⟩
      cases x with
      | zero =>
        cases hx
        exact ⟨st, st', rfl, by simpa using k2, h1⟩
      | succ x =>
        obtain ⟨a, b, ha, hb, hc⟩ := k3 x o' (by simpa using hx)
        exact ⟨a, b, by simpa using ha, by simpa using hb, hc⟩
    · cases h
theorem bound (f : Nat → Nat) (n : Nat) : ∃ N, ∀ x, x ≤ n → f x ≤ N := by
  induction n with
  | zero => exact ⟨f 0, fun x hx => by rw [Nat.le_zero.1 hx]; exact Nat.le_refl _⟩
  | succ n ih =>
    obtain ⟨N, hN⟩ := ih
    refine ⟨max N (f (n + 1)), fun x hx => ?_⟩
    by_cases e : x = n + 1
    · subst e; omega
    · have := hN x (by omega); omega
theorem mem_zip {ops : Array Oper} {x : Nat} {o : Oper} (h : ops[x]? = some o) : (o, x) ∈ ops.toList.zipIdx := by
  rw [List.mem_zipIdx_iff_getElem?]
  simpa using h
theorem reg_of {E : Evs} {ro : Option Nat} {ops : Array Oper} {st st' : St} (h : runRegion P G E ro ops true st = some st') : ∃ T N, Reg P G E ro ops T N ∧ T 0 = st ∧ T ops.size = st' := by
  unfold runRegion at h
  simp only [if_true] at h
  split at h
  case isFalse => cases h
  rename_i hst
  split at h
  case h_2 => cases h
  rename_i sts ht
  split at h
  case isFalse => cases h
  rename_i hld
  obtain ⟨k1, k2, k3⟩ := traj_get ht
  obtain ⟨N, hN⟩ := bound (fun x => ((sts[x]?).getD st).heap.next) ops.size
  have hT : ∀ (x : Nat) (a : St), sts[x]? = some a → (sts[x]?).getD st = a := fun x a h => by rw [h]; rfl
  have hall : ∀ x, x ≤ ops.size → sts[x]? = some ((sts[x]?).getD st) := fun x hx => by
    have : x < sts.length := by rw [k1]; simp; omega
    simp [List.getElem?_eq_getElem this]
  refine ⟨fun x => (sts[x]?).getD st, N, ⟨fun x o hx => ?_, fun x o hx e he hb => ?_, fun i j a b hij hi hj => ?_, fun i j a b d hij hi hj hd => ?_, fun x o v H hx hc hw ha => ?_, hN⟩, hT _ _ k2, hT _ _ h⟩
  · obtain ⟨a, b, ha, hb, hc⟩ := k3 x o (by simpa using hx)
    simp only [ha, hb, Option.getD_some]
    exact hc
  · simp only [staticOk, Bool.and_eq_true, List.all_eq_true, Array.all_eq_true'] at hst
    have := hst.1 _ (mem_zip hx) e he
    rw [hb] at this
    simpa using this
  · simp only [staticOk, Bool.and_eq_true, List.all_eq_true] at hst
    have := (hst.2 _ (mem_zip hj) _ (mem_zip hi))
    simp only [hij, decide_true, Bool.not_true, Bool.false_or, Bool.and_eq_true] at this
    have hp := this.1
    unfold pairOk at hp
    rw [Bool.or_eq_true] at hp
    refine hp.imp id fun hp => ?_
    simp only [Bool.and_eq_true, Bool.not_eq_true'] at hp
    obtain ⟨⟨p1, p3⟩, p4⟩ := hp
    refine ⟨?_, fun d hd => ?_, fun d hd => ?_⟩
    · rintro ⟨q1, q2⟩
      rcases q1 with q1 | q1 <;> (rw [q1, q2] at p1; simp at p1)
    · rw [hd] at p3
      simp only [Bool.and_eq_true, Bool.not_eq_true'] at p3
      intro hm
      have := p3.1
      simp [hm] at this
    · rw [hd] at p4
      intro hm
      simp [hm] at p4
  · simp only [staticOk, Bool.and_eq_true, List.all_eq_true] at hst
    have := (hst.2 _ (mem_zip hj) _ (mem_zip hi))
    simp only [hij, decide_true, Bool.not_true, Bool.false_or, Bool.and_eq_true] at this
    have hp := this.2
    unfold dstOk at hp
    rw [hd] at hp
    simpa using hp
  · simp only [loadsOk, List.all_eq_true] at hld
    have := hld _ (mem_zip hx)
    have hxl := (Array.getElem?_eq_some_iff.1 hx).1
    obtain ⟨sx, hsx⟩ : ∃ s, sts[x]? = some s := ⟨_, hall x (by omega)⟩
    obtain ⟨sy, hsy⟩ : ∃ s, sts[x + 1]? = some s := ⟨_, hall (x + 1) (by omega)⟩
    obtain ⟨sn, hsn⟩ : ∃ s, sts[ops.size]? = some s := ⟨_, hall ops.size (by omega)⟩
    simp only [hsx, hsn, Option.getD_some] at hw ha ⊢
    simp only [hc, beq_self_eq_true, Bool.not_true, Bool.false_or, hsx, hsy, hsn, hw, ha, Bool.and_eq_true, Bool.or_eq_true, List.all_eq_true] at this
    obtain ⟨t1, t2⟩ := this
    have hany : ∀ (q : Oper × Nat → Bool), ops.toList.zipIdx.any q = true → ∃ m g, ops[m]? = some g ∧ q (g, m) = true := fun q hq => by
      obtain ⟨⟨g, m⟩, hm, hqm⟩ := List.any_eq_true.1 hq
      rw [List.mem_zipIdx_iff_getElem?] at hm
      exact ⟨m, g, by simpa using hm, hqm⟩
    have hval : ∀ r : Option ARes, (match r with | some (.val v' _) => aveq v v' | _ => false) = true → ∃ H', r = some (.val v H') := fun r hr => by
      split at hr
      · exact ⟨_, by rw [aveq_eq hr]⟩
      · cases hr
    refine ⟨fun k f hf he => ?_, ?_⟩
    · have h3 := t1 _ (mem_zip hf)
      obtain ⟨sk, hsk⟩ : ∃ s, sts[k]? = some s := ⟨_, hall k (by have := (Array.getElem?_eq_some_iff.1 hf).1; omega)⟩
      simp only [he, beq_self_eq_true, Bool.not_true, Bool.false_eq_true, false_or, hsk] at h3
      simp only [hsk, Option.getD_some]
      rcases h3 with (h3 | h3) | h3
      · exact .inl h3
      · obtain ⟨m, g, hg, hh⟩ := hany _ h3
        simp only [Bool.and_eq_true, decide_eq_true_eq, beq_iff_eq] at hh
        exact .inr (.inl ⟨m, g, hh.1.1, hg, hh.1.2, hh.2⟩)
      · exact .inr (.inr (hval _ h3))
    · rcases t2 with h3 | h3
      · obtain ⟨m, g, hg, hh⟩ := hany _ h3
        simp only [Bool.and_eq_true, decide_eq_true_eq, beq_iff_eq] at hh
        exact .inl ⟨m, g, hg, hh.1, hh.2⟩
      · exact .inr (hval _ h3)

theorem draw_ok (hm : P.follows .mixedOrders = true) (hG : GRel π G) : DrawOK P π G := by
  intro E hE ro ops st st' rid h ρ w b tmps df k cs hS hro hn
  obtain ⟨T, N0, R0, rfl, rfl⟩ := reg_of h
  have R : Reg P G E ro ops T (max N0 (T 0).heap.next) := { R0 with top := fun x hx => by have := R0.top x hx; omega }
  obtain ⟨V, hV1, hV2⟩ := AHeap.ofF (T 0).heap.get (max N0 (T 0).heap.next)
  have hg : ∀ i, V.get i = (T 0).heap.get i := fun i => by
    rw [hV2]
    split
    · rfl
    · rw [hS.sim.lt i (by omega)]
  have hsd := hS.sim.drew
  have hoc : ∀ b, Owned ρ V b ↔ Owned ρ (T 0).heap b := fun b => Owned.congr hg
  have I : Inv P π ops T (max N0 (T 0).heap.next) ρ (T 0).heap w (fun j => (Array.replicate ops.size false).getD j false) 0 ρ V w.drew tmps df := by
    have hfalse : ∀ j, (Array.replicate ops.size false).getD j false = false := fun j => by
      by_cases h : j < ops.size <;> simp [Array.getD, h]
    refine ⟨Nat.zero_le _, fun x j hx => ?_, fun j _ _ hj => absurd hj (by omega), fun j _ _ _ _ => hfalse j, ⟨fun i hi => hsd.fresh i (by omega), fun i hi => ?_, fun i o b s h => hsd.obj i o b s ((hg i).symm.trans h), fun i j o o' b s s' h k => hsd.inj i j o o' b s s' ((hg i).symm.trans h) ((hg j).symm.trans k), hsd.prot, fun i o b s h => hsd.npi i o b s ((hg i).symm.trans h), fun i o h => ?_⟩, hV1, Nat.le_refl _, hsd.lt, fun i _ => hg i, fun i o hi => .inl ?_, fun j hj => ?_, fun i y hi => .inl ?_, fun d i hi hc => ?_, hS.env.1, hS.dfs, ?_⟩
    · simp only [hfalse] at hx
      cases hx
    · rw [hg, hS.sim.lt i (by omega)]
    · obtain ⟨ρ1, s1, O1, h1, h2⟩ := hS.sim.bd i o ((hg i).symm.trans h)
      exact ⟨ρ1, s1, O1, fun j hj => h1 j (by omega), h2⟩
    · apply Nat.lt_of_not_le
      intro hle
      rw [hg, hS.sim.lt i hle] at hi
      cases hi
    · have := hj.2.1
      simp only [hfalse] at this
      cases this
    · apply Nat.lt_of_not_le
      intro hle
      rw [hS.sim.fresh i hle] at hi
      cases hi
    · rw [R.env_same (a := 0) i (Nat.zero_le _) hi fun j f _ hj hf hd => by
        have := (hc j f hf hd).1 hj
        simp only [hfalse] at this
        cases this]
      exact hS.env.2 d
    · exact { Stp.drew ρ (T 0).heap w with own := fun b hb _ => (hoc b).1 hb, next := by omega }
  have X := R.txt hE hG hS hro hn
  obtain ⟨S, m', ρ', V', w', tmps', df', hall, I', hsteps⟩ := Inv.run R X hS.sim.fresh hE hG hn hro (k := k) ops.size (w.tape w.drawn (.order b.fn rid)) _ 0 ρ V w.drew tmps df (by simp) (by
    unfold unl
    exact Nat.le_trans (List.length_filter_le _ _) (by simp)) I
  obtain ⟨hS', hst⟩ := I'.end R X hall
  refine ⟨ρ', w', tmps', df', hS', hst, ?_⟩
  refine .head (s_draw) ?_
  rw [show Region.schedule (P.follows .mixedOrders) ops (w.tape w.drawn (.order b.fn rid)) = Region.linearise.go .any ops ops.size (w.tape w.drawn (.order b.fn rid)) (Array.replicate ops.size false) [] from by simp [Region.schedule, hm, Region.linearise]]
  exact hsteps.trans (.one s_regionEnd)
end Go.AM
