/- Regions that draw their order: the invariant. -/
import Derived.Test.YtgkopheekihkjaaDoorAMo
set_option linter.unusedVariables false
set_option linter.unusedSimpArgs false
namespace Go.AM
variable {P : Program} {π : Prot} {G : Nat → Option (List AV)}

def Laid (ops : Array Oper) (T : Nat → St) (S : Nat → Bool) (m j : Nat) : Prop :=
  m ≤ j ∧ S j = true ∧ (∃ o, ops[j]? = some o ∧ cls o.op = .alloc) ∧ (T (j + 1)).heap.next = (T j).heap.next + 1

structure Inv (P : Program) (π : Prot) (ops : Array Oper) (T : Nat → St) (N : Nat) (ρ0 : Ren) (H0 : AHeap) (w0 : World) (S : Nat → Bool) (m : Nat) (ρ : Ren) (V : AHeap) (w : World) (tmps : Array Value) (df : List Deferred) : Prop where
  mle : m ≤ ops.size
  clo : ∀ x j, S x = true → ord (before ops.toList) j x = true → S j = true
  heavy_lt : ∀ j o, ops[j]? = some o → j < m → cls o.op = .eff ∨ cls o.op = .alloc → S j = true
  eff_ge : ∀ j o, ops[j]? = some o → m ≤ j → cls o.op = .eff → S j = false
  sim : Sim π ρ V w
  vnext : V.next = N
  base : H0.next ≤ (T m).heap.next
  lt : ∀ i, (T m).heap.next ≤ i → (T m).heap.get i = none
  v1 : ∀ i, i < (T m).heap.next → V.get i = (T m).heap.get i
  v2 : ∀ i o, V.get i = some o → i < (T m).heap.next ∨ ∃ j, Laid ops T S m j ∧ i = (T j).heap.next
  v3 : ∀ j, Laid ops T S m j → V.get (T j).heap.next = (T (j + 1)).heap.get (T j).heap.next
  dom : ∀ i x, ρ i = some x → i < (T m).heap.next ∨ ∃ j, Laid ops T S m j ∧ i = (T j).heap.next
  env : ∀ d i, i ≤ ops.size → (∀ (j : Nat) (o : Oper), ops[j]? = some o → o.dst = some d → (j < i ↔ S j = true)) → VRel π ρ ((T i).env.get d) (tmps.getD d undef)
  envn : (T 0).env.n = tmps.size
  dfs : All2 (DRel P π ρ) (T m).dfs df
  stp : Stp ρ0 H0 w0 ρ V w

theorem Stp.snoc {ρ0 ρ ρ' : Ren} {H0 V V' : AHeap} {w0 w w' : World} (h : Stp ρ0 H0 w0 ρ V w) (le : ρ.le ρ') (size : w.heap.size ≤ w'.heap.size) (own : ∀ b, Owned ρ' V' b → b < w.heap.size → Owned ρ V b)
    (frame : ∀ b, b < w.heap.size → ¬ Owned ρ V b → w'.heap[b]? = w.heap[b]?) (os : w'.os = w.os) (tape : w'.tape = w.tape) (output : w'.output = w.output) (next : H0.next ≤ V'.next) (newid : ∀ i, i < H0.next → ρ' i = ρ i) : Stp ρ0 H0 w0 ρ' V' w' where
  le := Ren.le_trans h.le le
  size := Nat.le_trans h.size size
  own := fun b hb hlt => h.own b (own b hb (Nat.lt_of_lt_of_le hlt h.size)) hlt
  frame := fun b hlt hn => by
    rw [frame b (Nat.lt_of_lt_of_le hlt h.size) (fun ho => hn (h.own b ho hlt))]
    exact h.frame b hlt hn
  os := os.trans h.os
  tape := tape.trans h.tape
  output := output.trans h.output
  next := next
  newid := fun i hi => (newid i hi).trans (h.newid i hi)

/-- What a step did to the lower part of a memory is done to the whole. -/
theorem Sim.merge {ρ : Ren} {V : AHeap} {w : World} (hs : Sim π ρ V w) {n : Nat} {H : AHeap} (hn : H.next = n) (hg : ∀ i, i < n → H.get i = V.get i) (hl : ∀ i, n ≤ i → H.get i = none) {ρ1 : Ren} {H1 : AHeap} {w1 : World} (hs1 : Sim π ρ1 H1 w1) (hst : Stp (ρ.below n) H w ρ1 H1 w1)
    (hgap : ∀ i, n ≤ i → i < H1.next → ρ i = none) (hle : H1.next ≤ V.next) :
    ∃ (ρ' : Ren) (V' : AHeap), V'.next = V.next ∧ (∀ i, V'.get i = if i < H1.next then H1.get i else V.get i) ∧ (∀ i, ρ' i = if i < H1.next then ρ1 i else ρ i) ∧ ρ1.le ρ' ∧ ρ.le ρ' ∧ (∀ i, i < n → ρ' i = ρ i) ∧ Sim π ρ' V' w1 ∧
      (∀ b, Owned ρ' V' b → b < w.heap.size → Owned ρ V b) ∧ ∀ b, b < w.heap.size → ¬ Owned ρ V b → w1.heap[b]? = w.heap[b]? := by
  obtain ⟨V', hv1, hv2⟩ := AHeap.ofF (fun i => if i < H1.next then H1.get i else V.get i) V.next
  have hV : ∀ i, V'.get i = if i < H1.next then H1.get i else V.get i := fun i => by
    rw [hv2]
    by_cases h : i < V.next
    · rw [if_pos h]
    · rw [if_neg h, if_neg (by omega), hs.lt i (by omega)]
  have hnn : n ≤ H1.next := hn ▸ hst.next
  have hbn : ∀ i, i < n → ρ1 i = ρ i := fun i hi => by
    rw [hst.newid i (by omega)]
    unfold Ren.below
    rw [if_pos hi]
  have hlow : ∀ b, Owned (ρ.below n) H b → Owned ρ V b := fun b ⟨i, o, s, h, k⟩ => by
    have hi : i < n := Nat.lt_of_not_le fun hle => by rw [hl i hle] at h; cases h
    exact ⟨i, o, s, (hg i hi).symm.trans h, ρ.below_le n _ _ k⟩
  have hle1 : ρ1.le (fun i => if i < H1.next then ρ1 i else ρ i) := fun i x h => by
    have : i < H1.next := Nat.lt_of_not_le fun hh => by rw [hs1.fresh i hh] at h; cases h
    simp only [this, if_true]
    exact h
  have hle2 : ρ.le (fun i => if i < H1.next then ρ1 i else ρ i) := fun i x h => by
    by_cases hi : i < H1.next
    · simp only [hi, if_true]
      by_cases hin : i < n
      · rw [hbn i hin]; exact h
      · rw [hgap i (by omega) hi] at h; cases h
    · simp only [hi, if_false]
      exact h
  -- a block that stands above is none of the lower part's
  have hup : ∀ i o b s, H1.next ≤ i → V.get i = some o → ρ i = some (b, s) → b < w.heap.size ∧ ¬ Owned (ρ.below n) H b := fun i o b s hi h k => by
    obtain ⟨O, hO, _⟩ := hs.obj i o b s h k
    refine ⟨(Array.getElem?_eq_some_iff.1 hO).1, fun ⟨j, o', s', h', k'⟩ => ?_⟩
    have hj : j < n := Nat.lt_of_not_le fun hle => by rw [hl j hle] at h'; cases h'
    have := hs.inj i j o o' b s s' h ((hg j hj).symm.trans h') k (ρ.below_le n _ _ k')
    omega
  refine ⟨_, V', hv1, hV, fun _ => rfl, hle1, hle2, fun i hi => ?_, ⟨fun i hi => ?_, fun i hi => ?_, fun i o b s h k => ?_, fun i j o o' b s s' h h' k k' => ?_, hs1.prot, fun i o b s h k => ?_, fun i o h => ?_⟩, fun b ⟨i, o, s, h, k⟩ hlt => ?_, fun b hlt hno => hst.frame b hlt fun h => hno (hlow b h)⟩
  · simp only [show i < H1.next by omega, if_true]
    exact hbn i hi
  · rw [hv1] at hi
    simp only [show ¬ i < H1.next by omega, if_false]
    exact hs.fresh i hi
  · rw [hv1] at hi
    rw [hV, if_neg (by omega)]
    exact hs.lt i hi
  · rw [hV] at h
    by_cases hi : i < H1.next
    · simp only [hi, if_true] at h k
      obtain ⟨O, hO, hR⟩ := hs1.obj i o b s h k
      exact ⟨O, hO, hR.mono hle1⟩
    · simp only [hi, if_false] at h k
      obtain ⟨O, hO, hR⟩ := hs.obj i o b s h k
      obtain ⟨u1, u2⟩ := hup i o b s (by omega) h k
      exact ⟨O, (hst.frame b u1 u2).trans hO, hR.mono hle2⟩
  · rw [hV] at h h'
    by_cases hi : i < H1.next <;> by_cases hj : j < H1.next
    · simp only [hi, hj, if_true] at h h' k k'
      exact hs1.inj i j o o' b s s' h h' k k'
    · simp only [hi, hj, if_true, if_false] at h h' k k'
      obtain ⟨u1, u2⟩ := hup j o' b s' (by omega) h' k'
      exact (u2 (hst.own b ⟨i, o, s, h, k⟩ u1)).elim
    · simp only [hi, hj, if_true, if_false] at h h' k k'
      obtain ⟨u1, u2⟩ := hup i o b s (by omega) h k
      exact (u2 (hst.own b ⟨j, o', s', h', k'⟩ u1)).elim
    · simp only [hi, hj, if_false] at h h' k k'
      exact hs.inj i j o o' b s s' h h' k k'
  · rw [hV] at h
    by_cases hi : i < H1.next
    · simp only [hi, if_true] at h k
      exact hs1.npi i o b s h k
    · simp only [hi, if_false] at h k
      exact hs.npi i o b s h k
  · rw [hV] at h
    by_cases hi : i < H1.next
    · rw [if_pos hi] at h
      obtain ⟨ρ2, s2, O2, h2, h3⟩ := hs1.bd i o h
      exact ⟨ρ2, s2, O2, fun j hj => h2 j (by omega), h3⟩
    · rw [if_neg hi] at h
      obtain ⟨ρ2, s2, O2, h2, h3⟩ := hs.bd i o h
      exact ⟨ρ2, s2, O2, fun j hj => h2 j (by omega), h3⟩
  · rw [hV] at h
    by_cases hi : i < H1.next
    · simp only [hi, if_true] at h k
      exact hlow b (hst.own b ⟨i, o, s, h, k⟩ hlt)
    · simp only [hi, if_false] at h k
      exact ⟨i, o, s, h, k⟩

section
variable {E : Evs} {ro : Option Nat} {ops : Array Oper} {T : Nat → St} {N : Nat} (R : Reg P G E ro ops T N)
variable {ρ0 : Ren} {H0 : AHeap} {w0 : World} {S : Nat → Bool} {m : Nat} {ρ : Ren} {V : AHeap} {w : World} {tmps : Array Value} {df : List Deferred}
include R

/-- What has been reached when nothing that counts stands out ahead of x. -/
theorem Inv.sync (I : Inv P π ops T N ρ0 H0 w0 S m ρ V w tmps df) (X : Txt P π ops.size T) {x : Nat} (hm : m ≤ x) (hx : x ≤ ops.size) (h1 : ∀ j f, m ≤ j → j < x → ops[j]? = some f → cls f.op ≠ .eff)
    (h2 : ∀ j f, m ≤ j → j < x → ops[j]? = some f → cls f.op = .alloc → S j = true) :
    Sim π (ρ.below (T x).heap.next) (T x).heap w ∧ (T x).dfs = (T m).dfs ∧ (∀ i, i < (T x).heap.next → (T x).heap.get i = V.get i) ∧ (T m).heap.next ≤ (T x).heap.next := by
  obtain ⟨s1, s2, s3⟩ := R.seg x hm hx h1
  have s4 := R.seg2 I.lt x hm hx h1
  have hg : ∀ i, i < (T x).heap.next → (T x).heap.get i = V.get i := fun i hi2 => by
    by_cases hi : i < (T m).heap.next
    · rw [s3 i hi, I.v1 i hi]
    · obtain ⟨j, o, a, b, c, d, e, f, g⟩ := (s4 i (by omega)).1 hi2
      rw [g, f, I.v3 j ⟨a, h2 j o a b c d, ⟨o, c, d⟩, e⟩]
  have hlt : ∀ i o, (T x).heap.get i = some o → i < (T x).heap.next := fun i o h => Nat.lt_of_not_le fun hle => by
    rw [X.lt x hx i hle] at h
    cases h
  have hv : ∀ i o, (T x).heap.get i = some o → V.get i = some o := fun i o h => (hg i (hlt i o h)).symm.trans h
  have hb := ρ.below_le (T x).heap.next
  refine ⟨⟨fun i hi => ?_, X.lt x hx, fun i o b s h k => ?_, fun i j o o' b s s' h k h' k' => I.sim.inj i j o o' b s s' (hv _ _ h) (hv _ _ k) (hb _ _ h') (hb _ _ k'), I.sim.prot, fun i o b s h k => I.sim.npi i o b s (hv _ _ h) (hb _ _ k), X.obj x hx⟩, s1, hg, s2⟩
  · unfold Ren.below
    rw [if_neg (by omega)]
  · obtain ⟨O, hO, hR⟩ := I.sim.obj i o b s (hv _ _ h) (hb _ _ k)
    obtain ⟨ρ1, s1, O1, hf, hR1⟩ := X.obj x hx i o h
    exact ⟨O, hO, hR.cut hf hR1⟩

theorem Inv.operand (I : Inv P π ops T N ρ0 H0 w0 S m ρ V w tmps df) {x : Nat} {o : Oper} (hx : ops[x]? = some o) (hS : S x = false) (hr : ∀ j, ord (before ops.toList) j x = true → S j = true) {t : Tmp} (ht : t ∈ tmpsOf o ops) :
    VRel π ρ ((T x).env.get t) (tmps.getD t undef) := by
  have hxl : x < ops.size := (Array.getElem?_eq_some_iff.1 hx).1
  refine I.env t x (by omega) fun j o' hj hd => ⟨fun hlt => ?_, fun hSj => ?_⟩
  · rcases R.pair j x o' o hlt hj hx with h | ⟨_, h, _⟩
    · exact hr j h
    · exact absurd ht (h t hd)
  · apply Nat.lt_of_not_le
    intro hle
    have hne : x ≠ j := fun e => by subst e; rw [hS] at hSj; cases hSj
    rcases R.pair x j o o' (by omega) hx hj with h | ⟨_, _, h⟩
    · have := I.clo j x hSj h
      rw [hS] at this
      cases this
    · exact absurd ht (h t hd)

theorem Inv.put (I : Inv P π ops T N ρ0 H0 w0 S m ρ V w tmps df) {x : Nat} {o : Oper} (hx : ops[x]? = some o) (hS : S x = false) {ρ' : Ren} (hle : ρ.le ρ') {v : AV} {v' : Value} (hv : (T (x + 1)).env = putD (T x).env o.dst v) (hr : VRel π ρ' v v') :
    ∀ d i, i ≤ ops.size → (∀ (j : Nat) (f : Oper), ops[j]? = some f → f.dst = some d → (j < i ↔ (S j || decide (j = x)) = true)) → VRel π ρ' ((T i).env.get d) ((putV tmps o.dst v').getD d undef) := by
  intro d i hi hc
  have hxl : x < ops.size := (Array.getElem?_eq_some_iff.1 hx).1
  by_cases hd : o.dst = some d
  · have hxi : x < i := (hc x o hx hd).2 (by simp)
    have huniq : ∀ j f, ops[j]? = some f → f.dst = some d → j = x := fun j f hj hf => by
      rcases Nat.lt_trichotomy j x with h | h | h
      · exact absurd hd (R.dst j x f o d h hj hx hf)
      · exact h
      · exact absurd hf (R.dst x j o f d h hx hj hd)
    rw [R.env_same (a := x + 1) i hxi hi fun j f a b hj hf => by have := huniq j f hj hf; omega, hv, hd]
    have hn : (T x).env.n = tmps.size := (R.env_n x (by omega)).trans I.envn
    simp only [putD, putV, Env.get_set, true_and, hn]
    by_cases hlt : d < tmps.size
    · rw [if_pos hlt]
      simpa [Array.getD, hlt] using hr
    · rw [if_neg hlt]
      have := I.env d x (by omega) fun j f hj hf => by
        have := huniq j f hj hf
        subst this
        simp [hS]
      have hq : (tmps.setIfInBounds d v').getD d undef = tmps.getD d undef := by simp [Array.getD, hlt]
      rw [hq]
      exact this.mono hle
  · have hq : (putV tmps o.dst v').getD d undef = tmps.getD d undef := by
      cases h : o.dst with
      | none => rfl
      | some d' =>
        have : d' ≠ d := fun e => hd (by rw [h, e])
        simp [putV, Array.getD_eq_getD_getElem?, Array.getElem?_setIfInBounds_ne this]
    rw [hq]
    refine (I.env d i hi fun j f hj hf => ?_).mono hle
    have hjx : j ≠ x := fun e => by subst e; rw [hx] at hj; cases hj; exact hd hf
    have := hc j f hj hf
    simpa [hjx] using this
end
end Go.AM
