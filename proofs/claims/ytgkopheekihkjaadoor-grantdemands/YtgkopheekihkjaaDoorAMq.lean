/- Regions that draw their order: one operation, and the whole region. -/
import Derived.Test.YtgkopheekihkjaaDoorAMp
set_option linter.unusedVariables false
set_option linter.unusedSimpArgs false
namespace Go.AM
variable {P : Program} {π : Prot} {G : Nat → Option (List AV)}

theorem least {p : Nat → Prop} (k : Nat) (h : p k) : ∃ k, p k ∧ ∀ j, j < k → ¬ p j := by
  induction k using Nat.strongRecOn with
  | _ k ih =>
    by_cases hh : ∃ j, j < k ∧ p j
    · obtain ⟨j, hj, hp⟩ := hh
      exact ih j hj hp
    · exact ⟨k, h, fun j hj hp => hh ⟨j, hj, hp⟩⟩
theorem idOf_rel {ρ : Ren} {a : AV} {v : Value} {id : Nat} (h : VRel π ρ a v) (hi : idOf (some a) = some id) : ∃ x, ρ id = some x := by
  cases h <;> simp only [idOf, Option.some.injEq, reduceCtorEq] at hi
  all_goals (subst hi; exact ⟨_, by assumption⟩)

section
variable {E : Evs} {ro : Option Nat} {ops : Array Oper} {T : Nat → St} {N : Nat} (R : Reg P G E ro ops T N)
variable {ρ0 : Ren} {H0 : AHeap} {w0 : World} {S : Nat → Bool} {m : Nat} {ρ : Ren} {V : AHeap} {w : World} {tmps : Array Value} {df : List Deferred}
include R

theorem Inv.noEff (I : Inv P π ops T N ρ0 H0 w0 S m ρ V w tmps df) {x : Nat} {o : Oper} (hx : ops[x]? = some o) (hc : cls o.op = .eff) (hr : ∀ j, ord (before ops.toList) j x = true → S j = true) : ∀ j f, m ≤ j → j < x → ops[j]? = some f → cls f.op ≠ .eff := by
  intro j f hm hj hf he
  rcases R.pair j x f o hj hf hx with h | ⟨h, _⟩
  · have := hr j h
    rw [I.eff_ge j f hf hm he] at this
    cases this
  · exact h ⟨.inl he, hc⟩

theorem Inv.reads (I : Inv P π ops T N ρ0 H0 w0 S m ρ V w tmps df) (X : Txt P π ops.size T) (hG : GRel π G) {x : Nat} {o : Oper} (hx : ops[x]? = some o) (hS : S x = false) (hr : ∀ j, ord (before ops.toList) j x = true → S j = true)
    (hc : cls o.op = .read) (hw : wantedA ops (T x).env o = true) (v : AV) (H : AHeap) (ha : aop P (ev G (T x).env) (T x).heap o.op = some (.val v H)) : aop P (ev G (T x).env) V o.op = some (.val v V) := by
  obtain ⟨r1, r2⟩ := R.read x o v H hx hc hw ha
  have hno : ∀ q g, q < m → ops[q]? = some g → cls g.op = .eff → ord (before ops.toList) x q = true → False := fun q g hq hg he ho => by
    have := I.clo q x (I.heavy_lt q g hg hq (.inl he)) ho
    rw [hS] at this
    cases this
  obtain ⟨k, hmk, hkn, hq, H', hk⟩ : ∃ k, m ≤ k ∧ k ≤ ops.size ∧ (∀ j f, m ≤ j → j < k → ops[j]? = some f → cls f.op ≠ .eff) ∧ ∃ H', aop P (ev G (T x).env) (T k).heap o.op = some (.val v H') := by
    by_cases hh : ∃ k f, m ≤ k ∧ ops[k]? = some f ∧ cls f.op = .eff
    · obtain ⟨k0, hk0⟩ := hh
      obtain ⟨k, ⟨f, hmk, hf, he⟩, hmin⟩ := least (p := fun k => ∃ f, m ≤ k ∧ ops[k]? = some f ∧ cls f.op = .eff) k0 hk0
      refine ⟨k, hmk, by have := (Array.getElem?_eq_some_iff.1 hf).1; omega, fun j g a b c d => hmin j b ⟨g, a, c, d⟩, ?_⟩
      rcases r1 k f hf he with h | ⟨q, g, hqk, hg, hge, ho⟩ | h
      · have := hr k h
        rw [I.eff_ge k f hf hmk he] at this
        cases this
      · by_cases hqm : q < m
        · exact (hno q g hqm hg hge ho).elim
        · exact (hmin q hqk ⟨g, by omega, hg, hge⟩).elim
      · exact h
    · refine ⟨ops.size, I.mle, Nat.le_refl _, fun j g a b c d => hh ⟨j, g, a, c, d⟩, ?_⟩
      rcases r2 with ⟨q, g, hg, hge, ho⟩ | h
      · by_cases hqm : q < m
        · exact (hno q g hqm hg hge ho).elim
        · exact (hh ⟨q, g, by omega, hg, hge⟩).elim
      · exact h
  obtain ⟨v2, he, hag⟩ := aop_read (H2 := V) hc hk
  cases he
  refine hag fun y hy id hid ob hob => ?_
  cases hey : ev G (T x).env y with
  | none => rw [hey] at hid; simp [idOf] at hid
  | some a =>
    rw [hey] at hid
    have hrel := ev_rel1 (π := π) (ρ := ρ) (tmps := tmps) hG (fun t ht => I.operand R hx hS hr (t := t) (by
      subst ht
      unfold tmpsOf
      exact List.mem_append_left _ (List.mem_filterMap.2 ⟨_, by simpa using hy, rfl⟩))) hey
    obtain ⟨q, hq'⟩ := idOf_rel hrel hid
    rcases I.dom id q hq' with h | ⟨j, hj, rfl⟩
    · rw [I.v1 id h, ← (R.seg k hmk hkn hq).2.2 id h]
      exact hob
    · by_cases hjk : j < k
      · rw [I.v3 j hj, ← (R.seg (m := j + 1) k hjk hkn fun i f a b => hq i f (by have := hj.1; omega) b).2.2 _ (by have := hj.2.2.2; omega)]
        exact hob
      · obtain ⟨oj, hoj, hcj⟩ := hj.2.2.1
        have hjl := (Array.getElem?_eq_some_iff.1 hoj).1
        have h1 := X.mono k j (by omega) (by omega)
        have h2 := (R.seg (m := m) k hmk hkn hq).2.1
        rw [(R.seg2 I.lt k hmk hkn hq _ (by omega)).2 h1] at hob
        cases hob

theorem Inv.next (I : Inv P π ops T N ρ0 H0 w0 S m ρ V w tmps df) (X : Txt P π ops.size T) (hf0 : ∀ i, H0.next ≤ i → ρ0 i = none) (hE : EvOK P π E) (hG : GRel π G) {b : Bf} {k : List Item} {cs : List Frame} {rest : List Nat} (hro : RoRel ρ0 ro b.ro) (hn : NoRec b.kind cs)
    {x : Nat} {o : Oper} (hx : ops[x]? = some o) (hS : S x = false) (hr : ∀ j, ord (before ops.toList) j x = true → S j = true) :
    ∃ m' ρ' V' w' tmps' df', Inv P π ops T N ρ0 H0 w0 (fun j => S j || decide (j = x)) m' ρ' V' w' tmps' df' ∧
      Steps P (lone (b.at tmps df (.inRegion ops (x :: rest) :: k)) cs w) (lone (b.at tmps' df' (.inRegion ops rest :: k)) cs w') := by
  classical
  have hxl : x < ops.size := (Array.getElem?_eq_some_iff.1 hx).1
  have hop : ∀ t, t ∈ tmpsOf o ops → VRel π ρ ((T x).env.get t) (tmps.getD t undef) := fun t ht => I.operand R hx hS hr ht
  obtain ⟨e, he⟩ : ∃ e : Operand → Option AV, e = fun y => if y ∈ o.op.operands then ev G (T x).env y else none := ⟨_, rfl⟩
  have hev : EvR π ρ e (evalT tmps) := by
    intro y a h
    rw [he] at h
    simp only at h
    split at h
    · rename_i hy
      exact ev_rel1 hG (fun t ht => hop t (by
        subst ht
        unfold tmpsOf
        exact List.mem_append_left _ (List.mem_filterMap.2 ⟨_, by simpa using hy, rfl⟩))) h
    · cases h
  have hea : ∀ H, aop P (ev G (T x).env) H o.op = aop P e H o.op := fun H => aop_congr fun y hy => by rw [he]; simp [hy]
  have hgd : ∀ j want t, o.guard = some (j, want) → (ops[j]?).bind (·.dst) = some t → VRel π ρ ((T x).env.get t) (tmps.getD t undef) := fun j want t h1 h2 => hop t (by
    unfold tmpsOf
    refine List.mem_append_right _ ?_
    rw [h1]
    simp [h2])
  have hwt : Region.wanted o (yielded ops tmps) = wantedA ops (T x).env o := by
    cases h : wantedA ops (T x).env o with
    | true => exact wanted_rel1 hgd h
    | false => exact unwanted_rel1 hgd h
  have hclo : ∀ y j, (S y || decide (y = x)) = true → ord (before ops.toList) j y = true → (S j || decide (j = x)) = true := by
    intro y j hy ho
    simp only [Bool.or_eq_true, decide_eq_true_eq] at hy ⊢
    rcases hy with hy | rfl
    · exact .inl (I.clo y j hy ho)
    · exact .inl (hr j ho)
  have hstep := R.step x o hx
  by_cases hE' : cls o.op = .eff
  · -- an effect
    have hmx : m ≤ x := by
      apply Nat.le_of_not_lt
      intro hlt
      rw [I.heavy_lt x o hx hlt (.inl hE')] at hS
      cases hS
    have hbeh : ∀ j f, x < j → ops[j]? = some f → cls f.op = .eff → S j = false := fun j f hj hf hc => by
      cases hSj : S j with
      | false => rfl
      | true =>
        rcases R.pair x j o f hj hx hf with h | ⟨h, _⟩
        · rw [I.clo j x hSj h] at hS
          cases hS
        · exact (h ⟨.inl hE', hc⟩).elim
    have hfore : ∀ j f, j < x → ops[j]? = some f → cls f.op = .eff ∨ cls f.op = .alloc → S j = true := fun j f hj hf hc => by
      rcases R.pair j x f o hj hf hx with h | ⟨h1, _⟩
      · exact hr j h
      · exact (h1 ⟨hc, hE'⟩).elim
    obtain ⟨hs, hd, hg, hle⟩ := I.sync R X hmx (by omega) (I.noEff R hx hE' hr) (fun j f _ hj hf hc => hfore j f hj hf (.inr hc))
    obtain ⟨ρe, te, hfe, hre⟩ := X.env x (by omega)
    have hev' : EvR π (ρ.below (T x).heap.next) e (evalT tmps) := by
      intro y a h
      have h0 := h
      rw [he] at h
      simp only at h
      split at h
      · rename_i hy
        exact ev_rel1 hG (fun t ht => (hop t (by
          subst ht
          unfold tmpsOf
          exact List.mem_append_left _ (List.mem_filterMap.2 ⟨_, by simpa using hy, rfl⟩))).cut hfe (hre.2 t)) h
      · cases h
    obtain ⟨ρd, dd, hfd, hrd⟩ := X.dfs x (by omega)
    have hdfs : All2 (DRel P π (ρ.below (T x).heap.next)) (T x).dfs df := DRels.cut hfd (by rw [hd]; exact I.dfs) hrd
    have hro' : RoRel (ρ.below (T x).heap.next) ro b.ro := by
      have hb := I.base
      have h0 : ρ0.le (ρ.below (T x).heap.next) := fun i y hi => by
        have hlt : i < H0.next := Nat.lt_of_not_le fun hh => by rw [hf0 i hh] at hi; cases hi
        unfold Ren.below
        rw [if_pos (by omega), I.stp.newid i hlt]
        exact hi
      exact hro.mono h0
    obtain ⟨ρ1, w1, v, v', df', hv, hvr, hs1, hd1, hst1, hsteps⟩ := op1g hE hstep hx hs hdfs hev' (hea _) hwt hro' hn (k := k) (rest := rest)
    have hvn := I.vnext
    have htop := R.top (x + 1) (by omega)
    have hmono := X.mono x (x + 1) (by omega) (by omega)
    have hfar : ∀ j, Laid ops T S m j → (T m).heap.next ≤ (T j).heap.next → (T j).heap.next < (T x).heap.next ∨ (x + 1 ≤ j ∧ (T (x + 1)).heap.next ≤ (T j).heap.next) := fun j hj _ => by
      obtain ⟨f, hf, hc⟩ := hj.2.2.1
      have hjl := (Array.getElem?_eq_some_iff.1 hf).1
      have hjx : j ≠ x := fun h => by subst h; rw [hj.2.1] at hS; cases hS
      rcases Nat.lt_or_gt_of_ne hjx with h | h
      · have := X.mono (j + 1) x h (by omega)
        have := hj.2.2.2
        exact .inl (by omega)
      · exact .inr ⟨h, X.mono (x + 1) j h (by omega)⟩
    obtain ⟨ρ', V', hV'n, hV', hρ', hle1, hle2, hlow, hs', hown, hframe⟩ := I.sim.merge rfl hg (X.lt x (by omega)) hs1 hst1 (fun i h1 h2 => by
      cases hi : ρ i with
      | none => rfl
      | some y =>
        rcases I.dom i y hi with h | ⟨j, hj, rfl⟩
        · omega
        · have hmj := X.mono m j hj.1 (by obtain ⟨f, hf, _⟩ := hj.2.2.1; have := (Array.getElem?_eq_some_iff.1 hf).1; omega)
          rcases hfar j hj hmj with h | ⟨_, h⟩ <;> omega) (by omega)
    have hup : ∀ i, (T (x + 1)).heap.next ≤ i → (i < (T m).heap.next ∨ ∃ j, Laid ops T S m j ∧ i = (T j).heap.next) → ∃ j, Laid ops T (fun j => S j || decide (j = x)) (x + 1) j ∧ i = (T j).heap.next := fun i hi h => by
      rcases h with h | ⟨j, hj, rfl⟩
      · omega
      · have hmj := X.mono m j hj.1 (by obtain ⟨f, hf, _⟩ := hj.2.2.1; have := (Array.getElem?_eq_some_iff.1 hf).1; omega)
        rcases hfar j hj hmj with h | ⟨h, _⟩
        · omega
        · exact ⟨j, ⟨h, by simp [hj.2.1], hj.2.2⟩, rfl⟩
    have hb := I.base
    refine ⟨x + 1, ρ', V', w1, _, df', ⟨by omega, hclo, ?_, ?_, hs', hV'n.trans hvn, by omega, X.lt (x + 1) (by omega), fun i hi => by rw [hV', if_pos hi], ?_, ?_, ?_, I.put R hx hS hle2 hv (hvr.mono hle1), ?_, hd1.mono fun _ _ h => h.mono hle1, ?_⟩, hsteps⟩
    · intro j f hf hj hc
      by_cases e : j = x
      · simp [e]
      · simp [hfore j f (by omega) hf hc]
    · intro j f hf hj hc
      have : j ≠ x := by omega
      simp [hbeh j f (by omega) hf hc, this]
    · intro i ob hi
      by_cases h : i < (T (x + 1)).heap.next
      · exact .inl h
      · rw [hV', if_neg h] at hi
        exact .inr (hup i (by omega) (I.v2 i ob hi))
    · intro j hj
      obtain ⟨f, hf, hc⟩ := hj.2.2.1
      have h1 := hj.1
      have hjl := (Array.getElem?_eq_some_iff.1 hf).1
      have hSj : S j = true := by
        have h2 := hj.2.1
        have hne : j ≠ x := by omega
        simpa [hne] using h2
      have := X.mono (x + 1) j h1 (by omega)
      rw [hV', if_neg (by omega)]
      exact I.v3 j ⟨by omega, hSj, hj.2.2⟩
    · intro i y hi
      by_cases h : i < (T (x + 1)).heap.next
      · exact .inl h
      · rw [hρ', if_neg h] at hi
        exact .inr (hup i (by omega) (I.dom i y hi))
    · cases hdst : o.dst <;> simp [putV, I.envn]
    · exact I.stp.snoc hle2 hst1.size hown hframe hst1.os hst1.tape hst1.output (by have := I.stp.next; omega) fun i hi => hlow i (by omega)
  by_cases hA : cls o.op = .pure ∨ cls o.op = .read ∨ wantedA ops (T x).env o = false
  · -- memory is left as it is
    have hheap : (T (x + 1)).heap = (T x).heap := by
      rcases (op1_quiet hstep hE').2 with h | ⟨h1, h2, _⟩
      · exact h
      · rcases hA with h | h | h
        · rw [h1] at h; cases h
        · rw [h1] at h; cases h
        · rw [h2] at h; cases h
    have hq := op1_quiet_at (V := V) (df := (T m).dfs) hstep hA fun h1 h2 v H h3 => I.reads R X hG hx hS hr h1 h2 v H h3
    obtain ⟨ρ', w', v, v', df', hv, hvr, hs', hd', hst, hsteps⟩ := op1g hE hq hx I.sim I.dfs hev (hea _) hwt (hro.mono I.stp.le) hn (k := k) (rest := rest)
    simp only at hv hs' hd' hst
    have hρ : ρ' = ρ := by
      funext i
      by_cases hi : i < V.next
      · exact hst.newid i hi
      · rw [hs'.fresh i (by omega), I.sim.fresh i (by omega)]
    subst hρ
    have hlaid : ∀ j, Laid ops T (fun j => S j || decide (j = x)) m j ↔ Laid ops T S m j := by
      intro j
      unfold Laid
      by_cases e : j = x
      · subst e
        have : (T (j + 1)).heap.next ≠ (T j).heap.next + 1 := by rw [hheap]; omega
        simp [this]
      · simp [e]
    refine ⟨m, ρ', V, w', _, df', ⟨I.mle, hclo, fun j f a b c => by simp [I.heavy_lt j f a b c], ?_, hs', I.vnext, I.base, I.lt, I.v1, ?_, ?_, ?_, I.put R hx hS hst.le hv hvr, ?_, hd', I.stp.trans hst⟩, hsteps⟩
    · intro j f hf hj hc
      have : j ≠ x := fun e => by subst e; rw [hx] at hf; cases hf; exact hE' hc
      simp [I.eff_ge j f hf hj hc, this]
    · intro i ob hi
      exact (I.v2 i ob hi).imp id fun ⟨j, hj, h⟩ => ⟨j, (hlaid j).2 hj, h⟩
    · exact fun j hj => I.v3 j ((hlaid j).1 hj)
    · intro i y hi
      exact (I.dom i y hi).imp id fun ⟨j, hj, h⟩ => ⟨j, (hlaid j).2 hj, h⟩
    · cases hdst : o.dst <;> simp [putV, I.envn]
  · -- something new
    have hca : cls o.op = .alloc := by
      cases h : cls o.op with
      | pure => exact absurd (.inl h) hA
      | read => exact absurd (.inr (.inl h)) hA
      | alloc => rfl
      | eff => exact absurd h hE'
    have hwd : wantedA ops (T x).env o = true := by
      cases h : wantedA ops (T x).env o with
      | true => rfl
      | false => exact absurd (.inr (.inr h)) hA
    have hmx : m ≤ x := by
      apply Nat.le_of_not_lt
      intro hlt
      rw [I.heavy_lt x o hx hlt (.inr hca)] at hS
      cases hS
    have hms := X.mono m x hmx (by omega)
    obtain ⟨v, ob, hao, hT⟩ : ∃ v ob, aop P (ev G (T x).env) (T x).heap o.op = some (.val v ((T x).heap.alloc ob)) ∧ T (x + 1) = ⟨putD (T x).env o.dst v, (T x).heap.alloc ob, (T x).dfs⟩ := by
      cases ha : aop P (ev G (T x).env) (T x).heap o.op with
      | none => simp [op1, hwd, ha, opDo] at hstep
      | some r =>
        obtain ⟨v, ob, rfl, _⟩ := aop_alloc hca ha
        simp [op1, hwd, ha, opDo] at hstep
        exact ⟨v, ob, rfl, hstep.symm⟩
    have hTh : (T (x + 1)).heap = (T x).heap.alloc ob := by rw [hT]
    have hTn : (T (x + 1)).heap.next = (T x).heap.next + 1 := by rw [hTh]; rfl
    rw [hea] at hao
    obtain ⟨v2, ob2, O, z, v', hreq, hrun, hO, hvr⟩ := aop_new (P := P) (π := π) (w := w) hev hca hao
    have hob : v2 = v ∧ ob2 = ob := by
      simp only [ARes.val.injEq] at hreq
      refine ⟨hreq.1.symm, ?_⟩
      have h1 := congrArg (fun H => AHeap.get H (T x).heap.next) hreq.2
      simp [AHeap.get_alloc] at h1
      exact h1.symm
    obtain ⟨rfl, rfl⟩ := hob
    have hfar : ∀ j, Laid ops T S m j → (T j).heap.next ≠ (T x).heap.next := by
      intro j hj e
      obtain ⟨f, hf, hc⟩ := hj.2.2.1
      have hjl := (Array.getElem?_eq_some_iff.1 hf).1
      have hjx : j ≠ x := fun h => by subst h; rw [hj.2.1] at hS; cases hS
      have h4 := hj.2.2.2
      rcases Nat.lt_or_gt_of_ne hjx with h | h
      · have := X.mono (j + 1) x h (by omega)
        omega
      · have := X.mono (x + 1) j h (by omega)
        omega
    have hid : ρ (T x).heap.next = none := by
      cases h : ρ (T x).heap.next with
      | none => rfl
      | some y =>
        rcases I.dom _ y h with h | ⟨j, hj, h⟩
        · omega
        · exact (hfar j hj h.symm).elim
    have htop := R.top (x + 1) (by omega)
    have hvn := I.vnext
    obtain ⟨hs', hle, hown⟩ := I.sim.allocAt (T x).heap.next (by omega) hid ob2 O hO
    have hput : (ρ.put (T x).heap.next (w.heap.size, 0, z)) (T x).heap.next = some (w.heap.size, 0, z) := put_self _ _ _
    have hpne : ∀ i, i ≠ (T x).heap.next → (ρ.put (T x).heap.next (w.heap.size, 0, z)) i = ρ i := fun i h => by simp [Ren.put, h]
    have hlx : Laid ops T (fun j => S j || decide (j = x)) m x := ⟨hmx, by simp, ⟨o, hx, hca⟩, hTn⟩
    have hl : ∀ j, Laid ops T S m j → Laid ops T (fun j => S j || decide (j = x)) m j := fun j hj => ⟨hj.1, by simp [hj.2.1], hj.2.2⟩
    have hl2 : ∀ j, Laid ops T (fun j => S j || decide (j = x)) m j → j ≠ x → Laid ops T S m j := fun j hj h => ⟨hj.1, by have := hj.2.1; simpa [h] using this, hj.2.2⟩
    have hsz : w.heap.size ≤ (w.alloc O).heap.size := by show _ ≤ (w.heap.push O).size; simp
    refine ⟨m, _, V.set (T x).heap.next ob2, w.alloc O, putV tmps o.dst v', df, ⟨I.mle, hclo, fun j f a b c => by simp [I.heavy_lt j f a b c], ?_, hs', hvn, I.base, I.lt, ?_, ?_, ?_, ?_, I.put R hx hS hle (by rw [hT]) (hvr _ hle hput), ?_, I.dfs.mono fun _ _ h => h.mono hle, ?_⟩, .one (s_opValue hx (hwt.trans hwd) (.inr (not_defer hao (by intro f as hh; cases hh))) (.inl hrun))⟩
    · intro j f hf hj hc
      have : j ≠ x := fun e => by subst e; rw [hx] at hf; cases hf; exact hE' hc
      simp [I.eff_ge j f hf hj hc, this]
    · intro i hi
      rw [AHeap.get_set, if_neg (by omega)]
      exact I.v1 i hi
    · intro i ob' hi
      by_cases e : i = (T x).heap.next
      · exact .inr ⟨x, hlx, e⟩
      · rw [AHeap.get_set, if_neg e] at hi
        exact (I.v2 i ob' hi).imp id fun ⟨j, hj, h⟩ => ⟨j, hl j hj, h⟩
    · intro j hj
      by_cases e : j = x
      · subst e
        rw [hTh, AHeap.get_set, AHeap.get_alloc]
        simp
      · rw [AHeap.get_set, if_neg (hfar j (hl2 j hj e))]
        exact I.v3 j (hl2 j hj e)
    · intro i y hi
      by_cases e : i = (T x).heap.next
      · exact .inr ⟨x, hlx, e⟩
      · rw [hpne i e] at hi
        exact (I.dom i y hi).imp id fun ⟨j, hj, h⟩ => ⟨j, hl j hj, h⟩
    · cases hdst : o.dst <;> simp [putV, I.envn]
    · have hb := I.base
      exact I.stp.snoc hle hsz hown (fun b hb _ => Go.RowKit.Below.heap_alloc w O b hb) rfl rfl rfl (by show H0.next ≤ V.next; omega) fun i hi => hpne i (by omega)
end
end Go.AM
