/- Reading, writing and making blocks: the abstract heap against the world. -/
import Derived.Test.YtgkopheekihkjaaDoorAMb
set_option linter.unusedVariables false
set_option linter.unusedSimpArgs false
namespace Go.AM
variable {P : Program} {π : Prot} {ρ : Ren} {H : AHeap} {w : World}

theorem add_spot (b o j : Nat) : (⟨b, o, none⟩ : Addr).add j = ⟨b, o + j, none⟩ := by unfold Addr.add; split <;> simp_all
theorem vone_oneCell (v : Value) : vone v = v.oneCell' := by cases v <;> rfl

/-- 'w' is changed in block b alone. -/
theorem Sim.upd (hs : Sim π ρ H w) {id b : Nat} {s : Nat × Nat} {o o' : AObj} {O' : Obj} {w' : World} (hg : H.get id = some o) (hr : ρ id = some (b, s)) (hb : w'.heap[b]? = some O')
    (ho : ∀ b', b' ≠ b → w'.heap[b']? = w.heap[b']?) (hz : w'.heap.size = w.heap.size) (h1 : w'.os = w.os) (h2 : w'.tape = w.tape) (h3 : w'.output = w.output) (hO : ORel π ρ s o' O') :
    Sim π ρ (H.set id o') w' ∧ Stp ρ H w ρ (H.set id o') w' := by
  have hlt : id < H.next := by
    apply Nat.lt_of_not_le
    intro h
    rw [hs.lt id h] at hg
    cases hg
  constructor
  · refine ⟨hs.fresh, fun i hi => ?_, fun i o2 b2 s2 h4 h5 => ?_, fun i j a c b2 s2 s3 h4 h5 h6 h7 => ?_, fun b2 O h => ?_, fun i a b2 s2 h4 h5 => ?_, fun i a h4 => ?_⟩
    · rw [AHeap.get_set, if_neg (by simp at hi; omega)]
      exact hs.lt i hi
    · rw [AHeap.get_set] at h4
      by_cases hi : i = id
      · subst hi
        simp at h4
        subst h4
        rw [hr] at h5
        cases h5
        exact ⟨O', hb, hO⟩
      · rw [if_neg hi] at h4
        obtain ⟨O, hO2, hR⟩ := hs.obj i o2 b2 s2 h4 h5
        refine ⟨O, ?_, hR⟩
        rw [ho b2 (fun e => hi (hs.inj i id o2 o b2 s2 s h4 hg h5 (e ▸ hr)))]
        exact hO2
    · rw [AHeap.get_set] at h4 h5
      by_cases hi : i = id
      · by_cases hj : j = id
        · rw [hi, hj]
        · subst hi
          rw [if_neg hj] at h5
          exact hs.inj i j o c b2 s2 s3 hg h5 h6 h7
      · rw [if_neg hi] at h4
        by_cases hj : j = id
        · subst hj
          exact hs.inj i j a o b2 s2 s3 h4 hg h6 h7
        · rw [if_neg hj] at h5
          exact hs.inj i j a c b2 s2 s3 h4 h5 h6 h7
    · have hne : b2 ≠ b := by
        rintro rfl
        rw [hs.npi id o b2 s hg hr] at h
        cases h
      rw [ho b2 hne]
      exact hs.prot b2 O h
    · rw [AHeap.get_set] at h4
      by_cases hi : i = id
      · subst hi
        exact hs.npi i o b2 s2 hg h5
      · rw [if_neg hi] at h4
        exact hs.npi i a b2 s2 h4 h5
    · rw [AHeap.get_set] at h4
      by_cases hi : i = id
      · simp [hi] at h4
        subst h4
        exact ⟨ρ, s, O', hs.fresh, hO⟩
      · rw [if_neg hi] at h4
        exact hs.bd i a h4
  · refine ⟨Ren.le_refl _, by omega, fun b2 hb2 _ => ?_, fun b2 hb2 hn => ho b2 ?_, h1, h2, h3, by simp, fun _ _ => rfl⟩
    · obtain ⟨i, a, s2, h4, h5⟩ := hb2
      rw [AHeap.get_set] at h4
      by_cases hi : i = id
      · subst hi
        exact ⟨i, o, s2, hg, h5⟩
      · rw [if_neg hi] at h4
        exact ⟨i, a, s2, h4, h5⟩
    · rintro rfl
      exact hn ⟨id, o, s, hg, hr⟩

def Ren.put (ρ : Ren) (i : Nat) (x : Nat × Nat × Nat) : Ren := fun j => if j = i then some x else ρ j
theorem Ren.le_put {ρ : Ren} {i : Nat} (x : Nat × Nat × Nat) (h : ρ i = none) : ρ.le (ρ.put i x) := by
  intro j v hv
  unfold Ren.put
  by_cases e : j = i
  · subst e; rw [h] at hv; cases hv
  · rw [if_neg e]; exact hv

/-- A new block. -/
theorem Sim.alloc (hs : Sim π ρ H w) (o : AObj) (O : Obj) {z : Nat} (hO : ORel π ρ (0, z) o O) :
    Sim π (ρ.put H.next (w.heap.size, 0, z)) (H.alloc o) (w.alloc O) ∧ Stp ρ H w (ρ.put H.next (w.heap.size, 0, z)) (H.alloc o) (w.alloc O) := by
  have hle : ρ.le (ρ.put H.next (w.heap.size, 0, z)) := Ren.le_put _ (hs.fresh _ (Nat.le_refl _))
  have hold : ∀ b, b < w.heap.size → (w.alloc O).heap[b]? = w.heap[b]? := fun b h => Go.RowKit.Below.heap_alloc w O b h
  have hnew : (w.alloc O).heap[w.heap.size]? = some O := by show (w.heap.push O)[_]? = _; simp
  have hblk : ∀ i o b s, H.get i = some o → ρ i = some (b, s) → b < w.heap.size := fun i o b s h1 h2 => by
    obtain ⟨O, hO, _⟩ := hs.obj i o b s h1 h2
    exact (Array.getElem?_eq_some_iff.1 hO).1
  have hne : ∀ i, i ≠ H.next → (ρ.put H.next (w.heap.size, 0, z)) i = ρ i := fun i h => by simp [Ren.put, h]
  constructor
  · refine ⟨fun i hi => ?_, fun i hi => ?_, fun i o2 b2 s2 h4 h5 => ?_, fun i j a c b2 s2 s3 h4 h5 h6 h7 => ?_, fun b2 O2 h => ?_, fun i a b2 s2 h4 h5 => ?_, fun i a h4 => ?_⟩
    · simp at hi
      rw [hne i (by omega)]
      exact hs.fresh i (by omega)
    · simp at hi
      rw [AHeap.get_alloc, if_neg (by omega)]
      exact hs.lt i (by omega)
    · rw [AHeap.get_alloc] at h4
      by_cases hi : i = H.next
      · subst hi
        simp at h4
        subst h4
        simp [Ren.put] at h5
        obtain ⟨rfl, rfl⟩ := h5
        exact ⟨O, hnew, hO.mono hle⟩
      · rw [if_neg hi] at h4
        rw [hne i hi] at h5
        obtain ⟨O2, h6, h7⟩ := hs.obj i o2 b2 s2 h4 h5
        exact ⟨O2, by rw [hold b2 (hblk i o2 b2 s2 h4 h5)]; exact h6, h7.mono hle⟩
    · rw [AHeap.get_alloc] at h4 h5
      by_cases hi : i = H.next <;> by_cases hj : j = H.next
      · rw [hi, hj]
      · rw [if_neg hj] at h5
        rw [hne j hj] at h7
        subst hi
        simp [Ren.put] at h6
        have := hblk j c b2 s3 h5 h7
        omega
      · rw [if_neg hi] at h4
        rw [hne i hi] at h6
        subst hj
        simp [Ren.put] at h7
        have := hblk i a b2 s2 h4 h6
        omega
      · rw [if_neg hi] at h4
        rw [if_neg hj] at h5
        rw [hne i hi] at h6
        rw [hne j hj] at h7
        exact hs.inj i j a c b2 s2 s3 h4 h5 h6 h7
    · have := hs.prot b2 O2 h
      rw [hold b2 (Array.getElem?_eq_some_iff.1 this).1]
      exact this
    · rw [AHeap.get_alloc] at h4
      by_cases hi : i = H.next
      · subst hi
        simp [Ren.put] at h5
        obtain ⟨rfl, rfl⟩ := h5
        cases hp : π w.heap.size with
        | none => rfl
        | some O2 =>
          have := (Array.getElem?_eq_some_iff.1 (hs.prot _ _ hp)).1
          omega
      · rw [if_neg hi] at h4
        rw [hne i hi] at h5
        exact hs.npi i a b2 s2 h4 h5
    · rw [AHeap.get_alloc] at h4
      by_cases hi : i = H.next
      · simp [hi] at h4
        subst h4
        exact ⟨ρ, _, O, fun j hj => hs.fresh j (by simp at hj; omega), hO⟩
      · rw [if_neg hi] at h4
        obtain ⟨ρ1, s1, O1, h5, h6⟩ := hs.bd i a h4
        exact ⟨ρ1, s1, O1, fun j hj => h5 j (by simp at hj; omega), h6⟩
  · refine ⟨hle, by simp, fun b2 hb2 hlt => ?_, fun b2 hb2 hn => hold b2 hb2, rfl, rfl, rfl, by simp, fun i hi => hne i (by omega)⟩
    obtain ⟨i, a, s2, h4, h5⟩ := hb2
    rw [AHeap.get_alloc] at h4
    by_cases hi : i = H.next
    · subst hi
      simp [Ren.put] at h5
      omega
    · rw [if_neg hi] at h4
      rw [hne i hi] at h5
      exact ⟨i, a, s2, h4, h5⟩

/-- A draw. -/
theorem Sim.drew (hs : Sim π ρ H w) : Sim π ρ H w.drew := ⟨hs.fresh, hs.lt, hs.obj, hs.inj, hs.prot, hs.npi, hs.bd⟩
theorem Stp.drew (ρ : Ren) (H : AHeap) (w : World) : Stp ρ H w ρ H w.drew := ⟨Ren.le_refl _, Nat.le_refl _, fun _ h _ => h, fun _ _ _ => rfl, rfl, rfl, rfl, Nat.le_refl _, fun _ _ => rfl⟩

/-- A block that is looked into no more. -/
theorem Sim.kill (hs : Sim π ρ H w) (i : Nat) : Sim π ρ (H.kill i) w ∧ Stp ρ H w ρ (H.kill i) w := by
  have hget : ∀ j o, (H.kill i).get j = some o → H.get j = some o := fun j o h => by
    rw [AHeap.get_kill] at h
    by_cases e : j = i
    · simp [e] at h
    · rwa [if_neg e] at h
  constructor
  · refine ⟨hs.fresh, fun j hj => ?_, fun j o b s h1 h2 => hs.obj j o b s (hget j o h1) h2, fun j k a c b s s' h1 h2 h3 h4 => hs.inj j k a c b s s' (hget _ _ h1) (hget _ _ h2) h3 h4, hs.prot, fun j a b s h1 h2 => hs.npi j a b s (hget _ _ h1) h2, fun j a h1 => hs.bd j a (hget _ _ h1)⟩
    rw [AHeap.get_kill]
    split
    · rfl
    · exact hs.lt j hj
  · exact ⟨Ren.le_refl _, Nat.le_refl _, fun b ⟨j, o, s, h1, h2⟩ _ => ⟨j, o, s, hget _ _ h1, h2⟩, fun _ _ _ => rfl, rfl, rfl, rfl, by simp, fun _ _ => rfl⟩

/-! ### Reading -/
theorem ORel.cells_inv {s : Nat × Nat} {cs : List AV} {O : Obj} (h : ORel π ρ s (.cells cs) O) : ∃ (c : Array Value) (e : TypeId) (fr : Nat × Nat), O = .cells c e fr ∧ s.1 + cs.length ≤ c.size ∧ c.size = s.2 ∧
    (∀ i a, cs[i]? = some a → ∃ v, c[s.1 + i]? = some v ∧ VRel π ρ a v ∧ vone v = true) ∧ ∀ i, s.1 ≤ i → i < c.size → ¬ (fr.1 ≤ i ∧ i < fr.2) := by
  cases h with
  | cells hl hz h hf => exact ⟨_, _, _, rfl, hl, hz, h, hf⟩
theorem cell_of_block {w : World} {b o : Nat} {c : Array Value} {e : TypeId} {fr : Nat × Nat} (h : w.heap[b]? = some (.cells c e fr)) : w.cell? ⟨b, o, none⟩ = c[o]? := by
  simp [World.cell?, h]
theorem frozen_of_block {w : World} {b o : Nat} {c : Array Value} {e : TypeId} {fr : Nat × Nat} (h : w.heap[b]? = some (.cells c e fr)) : w.frozen? ⟨b, o, none⟩ = (decide (fr.1 ≤ o) && decide (o < fr.2)) := by
  obtain ⟨lo, hi⟩ := fr
  simp [World.frozen?, h]

theorem rdRow_spec {row : List AV} {off n : Nat} {cs : List AV} (h : rdRow row off n = some cs) : cs.length = n ∧ off + n ≤ row.length ∧ ∀ j, j < n → cs[j]? = row[off + j]? := by
  unfold rdRow at h
  cases hh : hasLen row (off + n) with
  | false => rw [hh] at h; cases h
  | true =>
    rw [hh] at h
    have hle := hasLen_iff.1 hh
    simp only [cond_true, Option.some.injEq] at h
    subst h
    refine ⟨by simp; omega, hle, fun j hj => ?_⟩
    rw [List.getElem?_take, if_pos hj, List.getElem?_drop]

theorem all2_fn {cs : List AV} {n : Nat} (f : Nat → Value) (hl : cs.length = n) (h : ∀ j a, j < n → cs[j]? = some a → VRel π ρ a (f j)) : VRels π ρ cs ((List.range n).map f) := by
  refine All2.of_get (by simp [hl]) fun i a b ha hb => ?_
  have hi : i < n := by
    have := (List.getElem?_eq_some_iff.1 ha).1
    omega
  simp [hi] at hb
  subst hb
  exact h i a hi ha

theorem Sim.read (hs : Sim π ρ H w) {a : AV} {v : Value} (hv : VRel π ρ a v) {n : Nat} {cs : List AV} (h : rd H a n = some cs) :
    ∃ b o vs, v = .pointer (some ⟨b, o, none⟩) ∧ vs.length = n ∧ VRels π ρ cs vs ∧ (∀ j x, vs[j]? = some x → w.cell? ⟨b, o + j, none⟩ = some x) ∧ (∀ x ∈ vs, vone x = true) := by
  unfold rd at h
  cases hv <;> simp only at h <;> try (cases h; done)
  case ptr id off b s hr =>
    cases hg : H.get id with
    | none => rw [hg] at h; cases h
    | some O =>
      rw [hg] at h
      cases O <;> simp only at h <;> try (cases h; done)
      rename_i row
      obtain ⟨hl, hle, hj⟩ := rdRow_spec h
      obtain ⟨O, hO, hR⟩ := hs.obj id _ b s hg hr
      obtain ⟨c, e, fr, rfl, hlen, hcsz, hcell, hfr⟩ := hR.cells_inv
      have key : ∀ j, j < n → ∃ x, c[s.1 + (off + j)]? = some x ∧ VRel π ρ (cs.getD j u) x ∧ vone x = true := fun j hjn => by
        have h1 : row[off + j]? = some (cs.getD j u) := by
          rw [← hj j hjn]
          simp [List.getD, List.getElem?_eq_getElem (show j < cs.length by omega)]
        exact hcell (off + j) _ h1
      refine ⟨b, s.1 + off, (List.range n).map fun j => c.getD (s.1 + (off + j)) undef, rfl, by simp, ?_, fun j x hx => ?_, fun x hx => ?_⟩
      · refine all2_fn _ hl fun j a hjn ha => ?_
        obtain ⟨x, hx, hrel, _⟩ := key j hjn
        simp [List.getD, ha] at hrel
        simpa [hx] using hrel
      · have hjn : j < n := by have := (List.getElem?_eq_some_iff.1 hx).1; simpa using this
        obtain ⟨y, hy, _, _⟩ := key j hjn
        simp [hjn] at hx
        rw [cell_of_block hO, show s.1 + off + j = s.1 + (off + j) by omega, hy, ← hx]
        simp [hy]
      · simp at hx
        obtain ⟨j, hjn, rfl⟩ := hx
        obtain ⟨y, hy, _, h1⟩ := key j hjn
        simpa [hy] using h1
  case rptr row off b s f hc h1 hr =>
    obtain ⟨hl, hle, hj⟩ := rdRow_spec h
    refine ⟨b, s + off, (List.range n).map fun j => f (off + j), rfl, by simp, ?_, fun j x hx => ?_, fun x hx => ?_⟩
    · refine all2_fn _ hl fun j a hjn ha => ?_
      rw [hj j hjn] at ha
      obtain ⟨hlt, rfl⟩ := List.getElem?_eq_some_iff.1 ha
      exact hr (off + j) hlt
    · have hjn : j < n := by have := (List.getElem?_eq_some_iff.1 hx).1; simpa using this
      simp [hjn] at hx
      subst hx
      have := hc (off + j) (by omega)
      unfold pcell at this
      cases hp : π b with
      | none => rw [hp] at this; cases this
      | some O =>
        rw [hp] at this
        cases O <;> simp only at this <;> try (cases this; done)
        rw [cell_of_block (hs.prot b _ hp), show s + off + j = s + (off + j) by omega]
        exact this
    · simp at hx
      obtain ⟨j, hjn, rfl⟩ := hx
      exact h1 (off + j) (by omega)

theorem run_loadCells' {b o : Nat} {vs : List Value} (h : ∀ j x, vs[j]? = some x → w.cell? ⟨b, o + j, none⟩ = some x) : (loadCells ⟨b, o, none⟩ vs.length).run P w = .ok vs.toArray w :=
  run_loadCells_list w ⟨b, o, none⟩ vs fun j v hv => by rw [add_spot]; exact h j v hv

theorem run_isAgg {t : TypeId} {d : TypeDesc} (h : P.underlying t = some d) : (isAgg t).run P w = .ok (isAggD d) w := by
  unfold isAgg
  simp only [Sem.run_bind, run_underlying h, Result.andThen_ok]
  cases d <;> rfl
theorem run_sizeOf {t : TypeId} {i : TypeInfo} (h : P.info? t = some i) : (sizeOf t).run P w = .ok i.size w := by
  simp [sizeOf, typeInfo, h]
theorem run_typeInfo' {t : TypeId} {i : TypeInfo} (h : P.info? t = some i) : (typeInfo t).run P w = .ok i w := by
  simp [typeInfo, h]

theorem Sim.load (hs : Sim π ρ H w) {a : AV} {v : Value} (hv : VRel π ρ a v) {t : TypeId} {x : AV} (h : loadT P H t a = some x) :
    ∃ y, (Instr.loadAt t v).run P w = .ok y w ∧ VRel π ρ x y := by
  unfold loadT at h
  split at h
  · rename_i d i hd hi
    by_cases hag : isAggD d = true
    · rw [if_pos hag] at h
      simp only [Option.map_eq_some_iff] at h
      obtain ⟨cs, hcs, rfl⟩ := h
      obtain ⟨b, o, vs, rfl, hl, hrel, hc, h1⟩ := hs.read hv hcs
      refine ⟨.agg vs.toArray, ?_, VRel.aggL h1 hrel⟩
      have := run_loadCells' (P := P) hc
      rw [hl] at this
      simp [Instr.loadAt, Instr.sureAddr, loadVar, run_isAgg hd, hag, run_sizeOf hi, this]
    · rw [if_neg hag] at h
      cases hcs : rd H a 1 with
      | none => rw [hcs] at h; cases h
      | some cs =>
        rw [hcs] at h
        obtain ⟨b, o, vs, rfl, hl, hrel, hc, h1⟩ := hs.read hv hcs
        match cs, vs, hl, hrel, h with
        | [c], [y], _, hrel, h =>
          simp only [Option.some.injEq] at h
          subst h
          refine ⟨y, ?_, hrel.1⟩
          have h0 : w.cell? ⟨b, o, none⟩ = some y := hc 0 y rfl
          have hag' : isAggD d = false := by simpa using hag
          simp [Instr.loadAt, Instr.sureAddr, loadVar, run_isAgg hd, hag', h0]
        | [], _, _, _, h => cases h
        | _ :: _ :: _, _, _, _, h => cases h
  · cases h

/-! ### Writing -/
def setArr (c : Array Value) : Nat → List Value → Array Value
  | _, [] => c
  | o, v :: r => setArr (c.setIfInBounds o v) (o + 1) r
theorem size_setArr : ∀ (vs : List Value) (o : Nat) (c : Array Value), (setArr c o vs).size = c.size
  | [], _, _ => rfl
  | v :: r, o, c => by simp [setArr, size_setArr r]
theorem get_setArr : ∀ (vs : List Value) (o : Nat) (c : Array Value) (i : Nat), o + vs.length ≤ c.size → (setArr c o vs)[i]? = if o ≤ i ∧ i < o + vs.length then vs[i - o]? else c[i]?
  | [], o, c, i, _ => by
    have : ¬ (o ≤ i ∧ i < o + ([] : List Value).length) := by simp only [List.length_nil]; omega
    rw [if_neg this]; rfl
  | v :: r, o, c, i, h => by
    simp only [setArr]
    simp at h
    rw [get_setArr r (o + 1) _ i (by simp; omega)]
    by_cases h1 : o + 1 ≤ i ∧ i < o + 1 + r.length
    · rw [if_pos h1, if_pos (by simp; omega)]
      obtain ⟨k, hk⟩ : ∃ k, i - o = k + 1 := ⟨i - o - 1, by omega⟩
      rw [hk, show i - (o + 1) = k by omega]
      simp
    · rw [if_neg h1]
      by_cases h2 : i = o
      · subst h2
        rw [if_pos (by simp)]
        simp [show i < c.size by omega]
      · rw [if_neg (by simp only [List.length_cons]; omega)]
        simp [Ne.symm h2]
theorem heap_setCells {b : Nat} {e : TypeId} {fr : Nat × Nat} : ∀ (vs : List Value) (o : Nat) (c : Array Value) (w : World), w.heap[b]? = some (.cells c e fr) → (w.setCells b o vs).heap[b]? = some (.cells (setArr c o vs) e fr)
  | [], _, _, _, h => h
  | v :: r, o, c, w, h => by
    simp only [World.setCells, setArr]
    refine heap_setCells r (o + 1) _ _ ?_
    simp [World.setCell, Array.getElem?_modify, h]
theorem heap_setCells_ne {b b' : Nat} (hne : b' ≠ b) : ∀ (vs : List Value) (o : Nat) (w : World), (w.setCells b o vs).heap[b']? = w.heap[b']?
  | [], _, _ => rfl
  | v :: r, o, w => by
    simp only [World.setCells]
    rw [heap_setCells_ne hne r (o + 1), Go.RowKit.Below.heap_setCell _ _ _ _ (by simpa using hne)]
theorem setCells_misc {b : Nat} : ∀ (vs : List Value) (o : Nat) (w : World), (w.setCells b o vs).heap.size = w.heap.size ∧ (w.setCells b o vs).os = w.os ∧ (w.setCells b o vs).tape = w.tape ∧ (w.setCells b o vs).output = w.output
  | [], _, _ => ⟨rfl, rfl, rfl, rfl⟩
  | v :: r, o, w => by
    simp only [World.setCells]
    obtain ⟨h1, h2, h3, h4⟩ := setCells_misc (b := b) r (o + 1) (w.setCell ⟨b, o, none⟩ v)
    exact ⟨h1.trans (by simp), h2, h3, h4⟩

theorem splice_get {cs vs : List AV} {off i : Nat} (h : off + vs.length ≤ cs.length) : (cs.take off ++ vs ++ cs.drop (off + vs.length))[i]? = if off ≤ i ∧ i < off + vs.length then vs[i - off]? else cs[i]? := by
  have ht : (cs.take off).length = off := by simp; omega
  rw [List.append_assoc]
  by_cases h1 : i < off
  · rw [List.getElem?_append_left (by omega), List.getElem?_take, if_pos h1, if_neg (by omega)]
  · rw [List.getElem?_append_right (by omega), ht]
    by_cases h2 : i < off + vs.length
    · rw [List.getElem?_append_left (by omega), if_pos (by omega)]
    · rw [List.getElem?_append_right (by omega), List.getElem?_drop, if_neg (by omega)]
      congr 1
      omega

theorem Sim.write (hs : Sim π ρ H w) {a : AV} {v : Value} (hv : VRel π ρ a v) {xs : List AV} {vs : List Value} (hx : VRels π ρ xs vs) (h1 : ∀ y ∈ vs, vone y = true) {H' : AHeap} (h : wr H a xs = some H') :
    ∃ b o, v = .pointer (some ⟨b, o, none⟩) ∧ (storeCells ⟨b, o, none⟩ vs).run P w = .ok () (w.setCells b o vs) ∧ Sim π ρ H' (w.setCells b o vs) ∧ Stp ρ H w ρ H' (w.setCells b o vs) := by
  unfold wr at h
  cases hv <;> simp only at h <;> try (cases h; done)
  case ptr id off b s hr =>
    cases hg : H.get id with
    | none => rw [hg] at h; cases h
    | some O =>
      rw [hg] at h
      cases O <;> simp only at h <;> try (cases h; done)
      rename_i row
      cases hh : hasLen row (off + xs.length) with
      | true =>
        have hle := hasLen_iff.1 hh
        rw [hh] at h
        simp only [cond_true, Option.some.injEq] at h
        subst h
        obtain ⟨O, hO, hR⟩ := hs.obj id _ b s hg hr
        obtain ⟨c, e, fr, rfl, hlen, hcsz, hcell, hfr⟩ := hR.cells_inv
        have hl : xs.length = vs.length := hx.length
        refine ⟨b, s.1 + off, rfl, ?_, ?_⟩
        · refine run_storeCells_cells b (s.1 + off) vs 0 w (fun j hj => ?_) (fun j hj => ?_) (fun y hy => by rw [← vone_oneCell]; exact h1 y hy)
          · rw [cell_of_block hO]
            simp
            omega
          · rw [frozen_of_block hO]
            have := hfr (s.1 + off + j) (by omega) (by omega)
            simp
            omega
        · obtain ⟨m1, m2, m3, m4⟩ := setCells_misc (b := b) vs (s.1 + off) w
          refine hs.upd hg hr (heap_setCells vs (s.1 + off) c w hO) (fun b' hb' => heap_setCells_ne hb' vs (s.1 + off) w) m1 m2 m3 m4 (.cells ?_ (by rw [size_setArr]; exact hcsz) (fun i a ha => ?_) (fun i hi1 hi => ?_))
          · rw [size_setArr]
            simp
            omega
          · rw [splice_get hle] at ha
            rw [get_setArr vs (s.1 + off) c _ (by omega)]
            by_cases hi : off ≤ i ∧ i < off + xs.length
            · rw [if_pos hi] at ha
              rw [if_pos (by omega)]
              obtain ⟨y, hy, hrel⟩ := hx.get _ _ ha
              refine ⟨y, ?_, hrel, h1 y (List.mem_of_getElem? hy)⟩
              rw [show s.1 + i - (s.1 + off) = i - off by omega]
              exact hy
            · rw [if_neg hi] at ha
              rw [if_neg (by omega)]
              exact hcell i a ha
          · exact hfr i hi1 (by rw [size_setArr] at hi; exact hi)
      | false => rw [hh] at h; cases h

theorem Sim.store (hs : Sim π ρ H w) {a x : AV} {v y : Value} (hv : VRel π ρ a v) (hx : VRel π ρ x y) {t : TypeId} {H' : AHeap} (h : storeT P H t a x = some H') :
    ∃ w', (Instr.storeAt t v y).run P w = .ok () w' ∧ Sim π ρ H' w' ∧ Stp ρ H w ρ H' w' := by
  unfold storeT at h
  split at h
  · rename_i i hi
    split at h
    · rename_i hc
      simp only [Bool.and_eq_true, lenIs_iff] at hc
      obtain ⟨b, o, rfl, hrun, hs', hst⟩ := hs.write (P := P) hv hx.cells (hx.cells_one hc.1) h
      refine ⟨_, ?_, hs', hst⟩
      have hl := hx.cells.length
      have : y.cells.size = i.size := by rw [← hc.2, hl]; simp
      simp [Instr.storeAt, Instr.sureAddr, storeVar, run_sizeOf hi, this, hrun]
    · cases h
  · cases h

/-! ### Constants and zero values -/
mutual
theorem toA_rel : ∀ {v : Value}, okV v = true → VRel π ρ (toA v) v
  | .bool b, h => .bool b
  | .int k n, h => .int k n
  | .string s, h => .str s
  | .pointer none, h => .nilp
  | .pointer (some _), h => by simp [okV] at h
  | .slice none 0 0, h => .nils
  | .slice none 0 (n + 1), h => by simp [okV] at h
  | .slice none (n + 1) c, h => by simp [okV] at h
  | .slice (some _) n c, h => by simp [okV] at h
  | .map none, h => .nilm
  | .map (some _), h => by simp [okV] at h
  | .nilFunc, h => .nilf
  | .nilIface, h => .nili
  | .iface t v, h => .ifc (toA_rel (by simpa [okV] using h))
  | .agg ⟨l⟩, h => VRel.aggL (toAs_rel h).2 (toAs_rel h).1
  | .float _ _, h => by simp [okV] at h
  | .complex _ _ _, h => by simp [okV] at h
  | .chan _, h => by simp [okV] at h
  | .func _ _ _, h => by simp [okV] at h
  | .tuple _, h => by simp [okV] at h
theorem toAs_rel : ∀ {l : List Value}, okVs l = true → VRels π ρ (toAs l) l ∧ ∀ y ∈ l, vone y = true
  | [], h => ⟨trivial, by simp⟩
  | v :: r, h => by
    simp only [okVs, Bool.and_eq_true] at h
    obtain ⟨h1, h2⟩ := toAs_rel h.2.2
    refine ⟨⟨toA_rel h.2.1, h1⟩, fun y hy => ?_⟩
    cases hy with
    | head => exact h.1
    | tail _ hy => exact h2 y hy
end
theorem ofV_rel {v : Value} {a : AV} (h : ofV v = some a) : VRel π ρ a v := by
  unfold ofV at h
  cases hk : okV v with
  | false => rw [hk] at h; cases h
  | true =>
    rw [hk] at h
    simp only [cond_true, Option.some.injEq] at h
    subst h
    exact toA_rel hk
theorem zero_rel {t : TypeId} {z : AV} (h : zeroT P t = some z) : ∃ v, (zeroValue t).run P w = .ok v w ∧ VRel π ρ z v := by
  unfold zeroT at h
  cases hi : P.info? t with
  | none => simp [hi] at h
  | some i =>
    cases hz : i.zero with
    | none => simp [hi, hz] at h
    | some v =>
      simp [hi, hz] at h
      exact ⟨v, by simp [zeroValue, typeInfo, hi, hz], ofV_rel h⟩
/-- Values that stand in a row of their own. -/
theorem row_rel {ρ : Ren} {cs : List AV} {vs : List Value} (hc : VRels π ρ cs vs) (h1 : ∀ v ∈ vs, vone v = true) : ORel π ρ (0, vs.length) (.cells cs) (.cells vs.toArray 0) := by
  refine .cells (by have := hc.length; simp; omega) (by simp) (fun i a ha => ?_) (fun i _ hi => by simp)
  obtain ⟨v, hv, hr⟩ := hc.get i a ha
  exact ⟨v, by simpa using hv, hr, h1 v (List.mem_of_getElem? hv)⟩
theorem all2_append {α β : Type} {r : α → β → Prop} : ∀ {a : List α} {b : List β} {c : List α} {d : List β}, All2 r a b → All2 r c d → All2 r (a ++ c) (b ++ d)
  | [], [], _, _, _, k => k
  | _ :: _, _ :: _, _, _, ⟨h1, h2⟩, k => ⟨h1, all2_append h2 k⟩
end Go.AM
