/- Regions that draw their order: the order that the edges give; one step of a run in any order. -/
import Derived.Test.YtgkopheekihkjaaDoorAMn
set_option linter.unusedVariables false
set_option linter.unusedSimpArgs false
namespace Go.AM
variable {P : Program} {π : Prot} {G : Nat → Option (List AV)}

/-! ### The order that the edges give -/
def bval (acc : List Nat) (o : Oper) : Nat := o.after.toList.foldl (fun m e => if bind e then m ||| 2 ^ e.on ||| acc.getD e.on 0 else m) 0
theorem beforeStep_eq (acc : List Nat) (o : Oper) : beforeStep acc o = acc ++ [bval acc o] := rfl
theorem before_fold : ∀ (r : List Oper) (acc : List Nat), ∃ q, r.foldl beforeStep acc = acc ++ q
  | [], acc => ⟨[], by simp⟩
  | o :: r, acc => by
    obtain ⟨q, hq⟩ := before_fold r (beforeStep acc o)
    exact ⟨[bval acc o] ++ q, by rw [List.foldl_cons, hq, beforeStep_eq]; simp⟩
theorem before_len : ∀ (r : List Oper) (acc : List Nat), (r.foldl beforeStep acc).length = acc.length + r.length
  | [], acc => by simp
  | o :: r, acc => by rw [List.foldl_cons, before_len r, beforeStep_eq]; simp; omega
theorem before_get {l : List Oper} {x : Nat} {o : Oper} (h : l[x]? = some o) : ∃ acc, acc.length = x ∧ (before l).getD x 0 = bval acc o ∧ ∀ i, i < x → (before l).getD i 0 = acc.getD i 0 := by
  obtain ⟨hx, rfl⟩ := List.getElem?_eq_some_iff.1 h
  have hl : l = l.take x ++ l[x] :: l.drop (x + 1) := by rw [List.getElem_cons_drop, List.take_append_drop]
  have hlen : ((l.take x).foldl beforeStep []).length = x := by
    rw [before_len]; simp; omega
  obtain ⟨q, hq⟩ := before_fold (l.drop (x + 1)) (beforeStep ((l.take x).foldl beforeStep []) l[x])
  have hb : before l = (l.take x).foldl beforeStep [] ++ ([bval ((l.take x).foldl beforeStep []) l[x]] ++ q) := by
    unfold before
    conv => lhs; rw [hl]
    rw [List.foldl_append, List.foldl_cons, hq, beforeStep_eq, List.append_assoc]
  refine ⟨(l.take x).foldl beforeStep [], hlen, ?_, fun i hi => ?_⟩
  · rw [hb, List.getD_eq_getElem?_getD, List.getElem?_append_right (by omega), hlen]
    simp
  · rw [hb, List.getD_eq_getElem?_getD, List.getElem?_append_left (by omega), List.getD_eq_getElem?_getD]
theorem bval_bit {acc : List Nat} {j : Nat} : ∀ (l : List Edge) (m : Nat), (l.foldl (fun m e => if bind e then m ||| 2 ^ e.on ||| acc.getD e.on 0 else m) m).testBit j = true → m.testBit j = true ∨ ∃ e ∈ l, bind e = true ∧ (e.on = j ∨ (acc.getD e.on 0).testBit j = true)
  | [], m, h => .inl h
  | e :: r, m, h => by
    rw [List.foldl_cons] at h
    rcases bval_bit r _ h with h | ⟨e', he, hh⟩
    · split at h
      · rename_i hb
        simp only [Nat.testBit_or, Bool.or_eq_true, Nat.testBit_two_pow, decide_eq_true_eq] at h
        rcases h with (h | h) | h
        · exact .inl h
        · exact .inr ⟨e, by simp, hb, .inl h⟩
        · exact .inr ⟨e, by simp, hb, .inr h⟩
      · exact .inl h
    · exact .inr ⟨e', by simp [he], hh⟩
theorem ord_edge {ops : Array Oper} {x j : Nat} {o : Oper} (hx : ops[x]? = some o) (h : ord (before ops.toList) j x = true) : ∃ e ∈ o.after, bind e = true ∧ (e.on = j ∨ ord (before ops.toList) j e.on = true) := by
  obtain ⟨acc, hl, hv, hi⟩ := before_get (l := ops.toList) (x := x) (o := o) (by simpa using hx)
  unfold ord at h ⊢
  rw [hv] at h
  rcases bval_bit _ _ h with h | ⟨e, he, hb, hh⟩
  · simp at h
  · refine ⟨e, by simpa using he, hb, hh.imp id fun h => ?_⟩
    have hlt : e.on < x := by
      apply Nat.lt_of_not_le
      intro hle
      rw [List.getD_eq_getElem?_getD, List.getElem?_eq_none (by omega)] at h
      simp at h
    rw [hi _ hlt]
    exact h
theorem ord_lt {ops : Array Oper} {x j : Nat} (h : ord (before ops.toList) j x = true) : x < ops.size := by
  apply Nat.lt_of_not_le
  intro hle
  unfold ord at h
  rw [List.getD_eq_getElem?_getD, List.getElem?_eq_none (by unfold before; rw [before_len]; simpa using hle)] at h
  simp at h

/-! ### A region and its run in the text's order -/
structure Reg (P : Program) (G : Nat → Option (List AV)) (E : Evs) (ro : Option Nat) (ops : Array Oper) (T : Nat → St) (N : Nat) : Prop where
  step : ∀ x o, ops[x]? = some o → op1 P G E ro ops o (T x) = some (T (x + 1))
  on : ∀ x o, ops[x]? = some o → ∀ e ∈ o.after, bind e = true → e.on < x
  pair : ∀ i j a b, i < j → ops[i]? = some a → ops[j]? = some b → ord (before ops.toList) i j = true ∨
    (¬ ((cls a.op = .eff ∨ cls a.op = .alloc) ∧ cls b.op = .eff) ∧ (∀ d, a.dst = some d → d ∉ tmpsOf b ops) ∧ (∀ d, b.dst = some d → d ∉ tmpsOf a ops))
  dst : ∀ (i j : Nat) (a b : Oper) (d : Tmp), i < j → ops[i]? = some a → ops[j]? = some b → a.dst = some d → b.dst ≠ some d
  read : ∀ x o v H, ops[x]? = some o → cls o.op = .read → wantedA ops (T x).env o = true → aop P (ev G (T x).env) (T x).heap o.op = some (.val v H) →
    (∀ k f, ops[k]? = some f → cls f.op = .eff → ord (before ops.toList) k x = true ∨ (∃ m g, m < k ∧ ops[m]? = some g ∧ cls g.op = .eff ∧ ord (before ops.toList) x m = true) ∨ ∃ H', aop P (ev G (T x).env) (T k).heap o.op = some (.val v H')) ∧
    ((∃ m g, ops[m]? = some g ∧ cls g.op = .eff ∧ ord (before ops.toList) x m = true) ∨ ∃ H', aop P (ev G (T x).env) (T ops.size).heap o.op = some (.val v H'))
  top : ∀ x, x ≤ ops.size → (T x).heap.next ≤ N

theorem op1_env {E : Evs} {ro : Option Nat} {ops : Array Oper} {o : Oper} {st st' : St} (h : op1 P G E ro ops o st = some st') : ∃ v, st'.env = putD st.env o.dst v := by
  unfold op1 at h
  cases hw : wantedA ops st.env o with
  | false => rw [hw] at h; cases h; exact ⟨_, rfl⟩
  | true =>
    rw [hw] at h
    simp only [cond_true] at h
    unfold opDo at h
    (repeat' split at h) <;> first | (cases h; done) | (cases h; exact ⟨_, rfl⟩)
theorem op1_quiet {E : Evs} {ro : Option Nat} {ops : Array Oper} {o : Oper} {st st' : St} (h : op1 P G E ro ops o st = some st') (hc : cls o.op ≠ .eff) :
    st'.dfs = st.dfs ∧ (st'.heap = st.heap ∨ (cls o.op = .alloc ∧ wantedA ops st.env o = true ∧ ∃ v ob, aop P (ev G st.env) st.heap o.op = some (.val v (st.heap.alloc ob)) ∧ st' = ⟨putD st.env o.dst v, st.heap.alloc ob, st.dfs⟩)) := by
  unfold op1 at h
  cases hw : wantedA ops st.env o with
  | false => rw [hw] at h; cases h; exact ⟨rfl, .inl rfl⟩
  | true =>
    rw [hw] at h
    simp only [cond_true] at h
    cases ha : aop P (ev G st.env) st.heap o.op with
    | none => rw [ha] at h; cases h
    | some r =>
      rw [ha] at h
      cases hcc : cls o.op with
      | eff => exact (hc hcc).elim
      | pure =>
        obtain ⟨v, rfl, _⟩ := aop_pure hcc ha
        cases h
        exact ⟨rfl, .inl rfl⟩
      | read =>
        obtain ⟨v, rfl, _⟩ := aop_read (H2 := st.heap) hcc ha
        cases h
        exact ⟨rfl, .inl rfl⟩
      | alloc =>
        obtain ⟨v, ob, rfl, _⟩ := aop_alloc hcc ha
        cases h
        exact ⟨rfl, .inr ⟨rfl, rfl, v, ob, rfl, rfl⟩⟩
theorem op1_quiet_at {E : Evs} {ro : Option Nat} {ops : Array Oper} {o : Oper} {st st' : St} (h : op1 P G E ro ops o st = some st') (hc : cls o.op = .pure ∨ cls o.op = .read ∨ wantedA ops st.env o = false) {V : AHeap} {df : List ADef}
    (hr : cls o.op = .read → wantedA ops st.env o = true → ∀ v H, aop P (ev G st.env) st.heap o.op = some (.val v H) → aop P (ev G st.env) V o.op = some (.val v V)) : op1 P G E ro ops o ⟨st.env, V, df⟩ = some ⟨st'.env, V, df⟩ := by
  unfold op1 at h ⊢
  cases hw : wantedA ops st.env o with
  | false => rw [hw] at h; cases h; rfl
  | true =>
    rw [hw] at h
    simp only [cond_true] at h ⊢
    cases ha : aop P (ev G st.env) st.heap o.op with
    | none => rw [ha] at h; cases h
    | some r =>
      rw [ha] at h
      rcases hc with hcc | hcc | hcc
      · obtain ⟨v, rfl, hk⟩ := aop_pure hcc ha
        cases h
        simp only [hk V]
        rfl
      · obtain ⟨v, rfl, _⟩ := aop_read (H2 := st.heap) hcc ha
        cases h
        simp only [hr hcc hw v _ ha]
        rfl
      · rw [hw] at hcc; cases hcc

section
variable {E : Evs} {ro : Option Nat} {ops : Array Oper} {T : Nat → St} {N : Nat} (R : Reg P G E ro ops T N)
include R
theorem Reg.seg {m : Nat} : ∀ y, m ≤ y → y ≤ ops.size → (∀ j f, m ≤ j → j < y → ops[j]? = some f → cls f.op ≠ .eff) →
    (T y).dfs = (T m).dfs ∧ (T m).heap.next ≤ (T y).heap.next ∧ ∀ i, i < (T m).heap.next → (T y).heap.get i = (T m).heap.get i := by
  intro y hy
  induction hy with
  | refl => exact fun _ _ => ⟨rfl, Nat.le_refl _, fun _ _ => rfl⟩
  | @step y hy ih =>
    intro hn hq
    replace hy : _ ≤ y := hy
    replace hn : y + 1 ≤ ops.size := hn
    simp only [Nat.succ_eq_add_one] at hq ⊢
    obtain ⟨h1, h2, h3⟩ := ih (by omega) fun j f a b => hq j f a (by omega)
    have ho : ops[y]? = some ops[y] := Array.getElem?_eq_getElem (by omega)
    obtain ⟨k1, k2⟩ := op1_quiet (R.step y _ ho) (hq y _ hy (by omega) ho)
    refine ⟨k1.trans h1, ?_, fun i hi => ?_⟩
    · rcases k2 with k | ⟨_, _, v, ob, _, k⟩ <;> rw [k] <;> (try simp) <;> omega
    · rcases k2 with k | ⟨_, _, v, ob, _, k⟩ <;> rw [k]
      · exact h3 i hi
      · rw [AHeap.get_alloc, if_neg (by omega)]
        exact h3 i hi
theorem Reg.seg2 {m : Nat} (hlt : ∀ i, (T m).heap.next ≤ i → (T m).heap.get i = none) : ∀ y, m ≤ y → y ≤ ops.size → (∀ j f, m ≤ j → j < y → ops[j]? = some f → cls f.op ≠ .eff) →
    ∀ i, (T m).heap.next ≤ i → (i < (T y).heap.next → ∃ j o, m ≤ j ∧ j < y ∧ ops[j]? = some o ∧ cls o.op = .alloc ∧ (T (j + 1)).heap.next = (T j).heap.next + 1 ∧ i = (T j).heap.next ∧ (T y).heap.get i = (T (j + 1)).heap.get i) ∧
      ((T y).heap.next ≤ i → (T y).heap.get i = none) := by
  intro y hy
  induction hy with
  | refl => exact fun _ _ i hi => ⟨fun h => absurd h (by omega), fun h => hlt i h⟩
  | @step y hy ih =>
    intro hn hq
    replace hy : _ ≤ y := hy
    replace hn : y + 1 ≤ ops.size := hn
    simp only [Nat.succ_eq_add_one] at hq ⊢
    intro i hi
    have ih' := ih (by omega) (fun j f a b => hq j f a (by omega)) i hi
    have ho : ops[y]? = some ops[y] := Array.getElem?_eq_getElem (by omega)
    obtain ⟨k1, k2⟩ := op1_quiet (R.step y _ ho) (hq y _ hy (by omega) ho)
    rcases k2 with k | ⟨hc, _, v, ob, _, k⟩
    · rw [k]
      refine ⟨fun h => ?_, ih'.2⟩
      obtain ⟨j, o, a, b, c⟩ := ih'.1 h
      exact ⟨j, o, a, by omega, c⟩
    · have kh : (T (y + 1)).heap = (T y).heap.alloc ob := by rw [k]
      refine ⟨fun h => ?_, fun h => ?_⟩
      · rw [kh] at h
        simp at h
        by_cases e : i = (T y).heap.next
        · exact ⟨y, _, hy, by omega, ho, hc, by rw [kh]; rfl, e, rfl⟩
        · obtain ⟨j, o, a, b, c, d, f, g, h'⟩ := ih'.1 (by omega)
          refine ⟨j, o, a, by omega, c, d, f, g, ?_⟩
          rw [kh, AHeap.get_alloc, if_neg e]
          exact h'
      · rw [kh] at h ⊢
        simp at h
        rw [AHeap.get_alloc, if_neg (by omega)]
        exact ih'.2 (by omega)
theorem Reg.env_same {d : Nat} {a : Nat} : ∀ y, a ≤ y → y ≤ ops.size → (∀ j f, a ≤ j → j < y → ops[j]? = some f → f.dst ≠ some d) → (T y).env.get d = (T a).env.get d := by
  intro y hy
  induction hy with
  | refl => exact fun _ _ => rfl
  | @step y hy ih =>
    intro hn hq
    replace hy : _ ≤ y := hy
    replace hn : y + 1 ≤ ops.size := hn
    simp only [Nat.succ_eq_add_one] at hq ⊢
    have ho : ops[y]? = some ops[y] := Array.getElem?_eq_getElem (by omega)
    obtain ⟨v, hv⟩ := op1_env (R.step y _ ho)
    rw [← ih (by omega) fun j f a b => hq j f a (by omega), hv]
    have := hq y _ hy (by omega) ho
    cases hd : ops[y].dst with
    | none => simp [putD]
    | some d' =>
      rw [hd] at this
      simp only [putD, Env.get_set]
      rw [if_neg]
      rintro ⟨e, _⟩
      exact this (by rw [e])
theorem Reg.env_n : ∀ y, y ≤ ops.size → (T y).env.n = (T 0).env.n := by
  intro y
  induction y with
  | zero => exact fun _ => rfl
  | succ y ih =>
    intro hn
    have ho : ops[y]? = some ops[y] := Array.getElem?_eq_getElem (by omega)
    obtain ⟨v, hv⟩ := op1_env (R.step y _ ho)
    rw [hv, ← ih (by omega)]
    cases ops[y].dst <;> simp [putD, Env.n_set]
end

/-- What the run in the text's order says of its states by themselves. -/
structure Txt (P : Program) (π : Prot) (n : Nat) (T : Nat → St) : Prop where
  env : ∀ x, x ≤ n → ∃ (ρ1 : Ren) (tmps : Array Value), (∀ i, (T x).heap.next ≤ i → ρ1 i = none) ∧ ERel π ρ1 (T x).env tmps
  dfs : ∀ x, x ≤ n → ∃ (ρ1 : Ren) (df : List Deferred), (∀ i, (T x).heap.next ≤ i → ρ1 i = none) ∧ All2 (DRel P π ρ1) (T x).dfs df
  obj : ∀ x, x ≤ n → ∀ i o, (T x).heap.get i = some o → ∃ (ρ1 : Ren) (s : Nat × Nat) (O : Obj), (∀ j, (T x).heap.next ≤ j → ρ1 j = none) ∧ ORel π ρ1 s o O
  lt : ∀ x, x ≤ n → ∀ i, (T x).heap.next ≤ i → (T x).heap.get i = none
  mono : ∀ x y, x ≤ y → y ≤ n → (T x).heap.next ≤ (T y).heap.next
theorem Reg.txt {E : Evs} {ro : Option Nat} {ops : Array Oper} {T : Nat → St} {N : Nat} (R : Reg P G E ro ops T N) (hE : EvOK P π E) (hG : GRel π G) {ρ : Ren} {w : World} {b : Bf} {tmps : Array Value} {df : List Deferred} {cs : List Frame}
    (hS : SRel P π ρ (T 0) tmps df w) (hro : RoRel ρ ro b.ro) (hn : NoRec b.kind cs) : Txt P π ops.size T := by
  have key : ∀ x, x ≤ ops.size → ∃ ρ1 w1 tmps1 df1, SRel P π ρ1 (T x) tmps1 df1 w1 ∧ RoRel ρ1 ro b.ro := by
    intro x
    induction x with
    | zero => exact fun _ => ⟨ρ, w, tmps, df, hS, hro⟩
    | succ x ih =>
      intro hx
      obtain ⟨ρ1, w1, t1, d1, hS1, hr1⟩ := ih (by omega)
      have ho : ops[x]? = some ops[x] := Array.getElem?_eq_getElem (by omega)
      obtain ⟨ρ2, w2, t2, d2, hS2, hst, _⟩ := op1_ok hE hG (R.step x _ ho) (k := []) (rest := []) (cs := cs) ho hS1 hr1 hn
      exact ⟨ρ2, w2, t2, d2, hS2, hr1.mono hst.le⟩
  have mono1 : ∀ x, x + 1 ≤ ops.size → (T x).heap.next ≤ (T (x + 1)).heap.next := fun x hx => by
    obtain ⟨ρ1, w1, t1, d1, hS1, hr1⟩ := key x (by omega)
    have ho : ops[x]? = some ops[x] := Array.getElem?_eq_getElem (by omega)
    obtain ⟨ρ2, w2, t2, d2, hS2, hst, _⟩ := op1_ok hE hG (R.step x _ ho) (k := []) (rest := []) (cs := cs) ho hS1 hr1 hn
    exact hst.next
  refine ⟨fun x hx => ?_, fun x hx => ?_, fun x hx => ?_, fun x hx => ?_, fun x y hxy => ?_⟩
  · obtain ⟨ρ1, w1, t1, d1, hS1, _⟩ := key x hx
    exact ⟨ρ1, t1, hS1.sim.fresh, hS1.env⟩
  · obtain ⟨ρ1, w1, t1, d1, hS1, _⟩ := key x hx
    exact ⟨ρ1, d1, hS1.sim.fresh, hS1.dfs⟩
  · obtain ⟨ρ1, w1, t1, d1, hS1, _⟩ := key x hx
    exact hS1.sim.bd
  · obtain ⟨ρ1, w1, t1, d1, hS1, _⟩ := key x hx
    exact hS1.sim.lt
  · induction hxy with
    | refl => exact fun _ => Nat.le_refl _
    | @step y hy ih =>
      intro hl
      replace hl : y + 1 ≤ ops.size := hl
      exact Nat.le_trans (ih (by omega)) (mono1 y hl)
end Go.AM
