/- The operations: append, copy, make, calls; and all of them. -/
import Derived.Test.YtgkopheekihkjaaDoorAMf
set_option linter.unusedVariables false
set_option linter.unusedSimpArgs false
namespace Go.AM
variable {P : Program} {π : Prot} {ρ : Ren} {H : AHeap} {w : World}
variable {e : Operand → Option AV} {eval : Operand → Value}

/-! ### append -/
theorem growBy_le (n : Nat) : ∀ (r c : Nat), 256 ≤ c → c ≤ 2 * n → Builtin.growBy n r c ≤ 2 * n
  | 0, c, _, h => h
  | r + 1, c, h0, h => by
    unfold Builtin.growBy
    split
    · exact h
    · exact growBy_le n r _ (by omega) (by omega)
theorem nextcap_le {n c : Nat} (h : c < n) : Builtin.nextslicecap n c ≤ 2 * n := by
  unfold Builtin.nextslicecap
  split
  · omega
  · split
    · omega
    · exact growBy_le n 4 c (by omega) (by omega)
/-- What a slice's first cells are. -/
theorem sdata_rel (hs : Sim π ρ H w) {s : AV} {n : Nat} {base : Option Addr} {len cap : Nat} {cs : List AV} (h : sdata H s n = some cs) (hv : VRel π ρ s (.slice base len cap)) (hw : ∀ wd, wdOf s = some wd → n ≤ len * wd) (hq : n ≠ 0 → len ≠ 0) :
    ∃ vs : List Value, vs.length = n ∧ VRels π ρ cs vs ∧ (∀ v ∈ vs, vone v = true) ∧ (n = 0 ∨ ∃ a, base = some a ∧ (loadCells a n).run P w = .ok vs.toArray w ∧ a.spot = none) := by
  unfold sdata at h
  split at h
  · rename_i h0
    cases h
    exact ⟨[], h0.symm, trivial, by simp, .inl h0⟩
  · rename_i h0
    cases s <;> simp only at h <;> try (cases h; done)
    case sl id off l c wd ex =>
      obtain ⟨b, off', cap', sh, heq, hr, hle, hex, hcc, hoo, hzz, hss⟩ := hv.sl_inv
      cases heq
      have hc0 : c ≠ 0 := by
        rintro rfl
        have h9 := hw wd rfl
        have : len = 0 := by omega
        rw [this] at h9
        simp at h9
        omega
      have ho : off' = sh.1 + off := by
        rcases hoo with h5 | h5
        · exact absurd h5 hc0
        · exact h5
      subst ho
      obtain ⟨b2, o2, vs, heq2, hl, hrel, hcell, h1⟩ := hs.read (.ptr (off := off) hr) h
      cases heq2
      have := run_loadCells' (P := P) hcell
      rw [hl] at this
      exact ⟨vs, hl, hrel, h1, .inr ⟨_, rfl, this, rfl⟩⟩
    case rsl row off l c =>
      obtain ⟨b, s2, cap', vs2, sp, heq, hle, hsp, hcap, h3, h4, h5⟩ := hv.rsl_inv
      cases heq
      obtain rfl := hsp (by have := hq h0; omega)
      obtain ⟨b2, o2, vs, heq2, hl, hrel, hcell, h1⟩ := hs.read (.rptr (off := off) vs2 h3 h4 h5) h
      cases heq2
      have := run_loadCells' (P := P) hcell
      rw [hl] at this
      exact ⟨vs, hl, hrel, h1, .inr ⟨_, rfl, this, rfl⟩⟩
/-- What a slice or a string holds, n elements of 'size' cells. -/
theorem first_rel (hs : Sim π ρ H w) {s : AV} {n size : Nat} {base : Option Addr} {len cap : Nat} {cs : List AV} (h : sdata H s (n * size) = some cs) (hv : VRel π ρ s (.slice base len cap)) (hn : n ≤ len)
    (hw : ∀ wd, wdOf s = some wd → wd = size) (hb : base = none → n = 0) :
    ∃ vs : List Value, vs.length = n * size ∧ VRels π ρ cs vs ∧ (∀ v ∈ vs, vone v = true) ∧ (Builtin.firstCells size n (.slice base len cap)).run P w = .ok vs.toArray w := by
  obtain ⟨vs, hl, hr, h1, hc⟩ := sdata_rel (P := P) hs h hv (fun wd hwd => by
    rw [hw wd hwd]
    exact Nat.mul_le_mul_right _ hn) (fun h0 hl0 => h0 (by have : n = 0 := by omega
                                                           simp [this]))
  refine ⟨vs, hl, hr, h1, ?_⟩
  cases base with
  | none =>
    have := hb rfl
    subst this
    have : vs = [] := List.eq_nil_of_length_eq_zero (by simpa using hl)
    subst this
    simp [Builtin.firstCells]
  | some a =>
    rcases hc with h0 | ⟨a', ha, hrun, _⟩
    · have : vs = [] := List.eq_nil_of_length_eq_zero (by omega)
      subst this
      simp only [Builtin.firstCells, h0]
      rfl
    · cases ha
      simpa [Builtin.firstCells] using hrun
theorem bytes_rel (b : ByteArray) (n : Nat) : VRels π ρ ((bytesOf b).take n) ((b.extract 0 n).data.map fun x => Value.int .u8 x.toNat).toList ∧ ∀ v ∈ ((b.extract 0 n).data.map fun x => Value.int .u8 x.toNat).toList, vone v = true := by
  have e1 : (b.extract 0 n).data.toList = b.data.toList.take n := by
    rw [ByteArray.data_extract]
    simp
  constructor
  · simp only [Array.toList_map, e1, bytesOf, ← List.map_take]
    generalize b.data.toList.take n = l
    induction l with
    | nil => trivial
    | cons x l ih => exact ⟨.int _ _, ih⟩
  · intro v hv
    simp only [Array.toList_map, List.mem_map] at hv
    obtain ⟨x, _, rfl⟩ := hv
    rfl

theorem slen_nil {s : AV} {base : Option Addr} {len cap : Nat} (hv : VRel π ρ s (.slice base len cap)) (hb : base = none) : s = .nils ∧ len = 0 ∧ cap = 0 := by
  subst hb
  cases hv
  exact ⟨rfl, rfl, rfl⟩
theorem xdata_rel (hs : Sim π ρ H w) {size n : Nat} {x : AV} {x' : Value} {new : List AV} (h : xdata H size x = some (n, new)) (hl : new.length = n * size) (hx : VRel π ρ x x') (hw : ∀ wd, wdOf x = some wd → wd = size) :
    (Builtin.lenOf x').run P w = .ok n w ∧ ∃ vs : List Value, vs.length = n * size ∧ VRels π ρ new vs ∧ (∀ v ∈ vs, vone v = true) ∧ (Builtin.firstCells size n x').run P w = .ok vs.toArray w := by
  unfold xdata at h
  split at h
  · rename_i b
    simp only [Option.some.injEq, Prod.mk.injEq] at h
    obtain ⟨rfl, rfl⟩ := h
    cases hx
    refine ⟨rfl, ((b.extract 0 b.size).data.map fun x => Value.int .u8 x.toNat).toList, ?_, ?_, (bytes_rel (π := π) (ρ := ρ) b b.size).2, by simp only [Builtin.firstCells, Sem.run_pure, Array.toArray_toList]⟩
    · have := (bytes_rel (π := π) (ρ := ρ) b b.size).1.length
      rw [← this, List.take_of_length_le (by simp [bytesOf])]
      exact hl
    · have := (bytes_rel (π := π) (ρ := ρ) b b.size).1
      rwa [List.take_of_length_le (by simp [bytesOf])] at this
  · rename_i hns
    split at h
    · rename_i m hm
      simp only [Option.map_eq_some_iff, Prod.mk.injEq] at h
      obtain ⟨cs, hcs, rfl, rfl⟩ := h
      obtain ⟨a, c, rfl⟩ := slen_rel hm hx
      refine ⟨rfl, ?_⟩
      exact first_rel hs hcs hx (Nat.le_refl _) hw (fun hb => (slen_nil hx hb).2.1)
    · cases h

theorem run_storeCells' {b o : Nat} {c : Array Value} {el : TypeId} {fr : Nat × Nat} {vs : List Value} (hO : w.heap[b]? = some (.cells c el fr)) (hle : o + vs.length ≤ c.size) (hf : ∀ i, o ≤ i → i < o + vs.length → ¬ (fr.1 ≤ i ∧ i < fr.2)) (h1 : ∀ y ∈ vs, vone y = true) :
    (storeCells ⟨b, o, none⟩ vs).run P w = .ok () (w.setCells b o vs) := by
  refine run_storeCells_cells b o vs 0 w (fun j hj => ?_) (fun j hj => ?_) (fun y hy => by rw [← vone_oneCell]; exact h1 y hy)
  · rw [cell_of_block hO]
    simp
    omega
  · rw [frozen_of_block hO]
    have := hf (o + j) (by omega) (by omega)
    simp
    omega

/-- A row that grew where it lies: its old name is given up. -/
theorem Sim.regrow (hs : Sim π ρ H w) {id b : Nat} {s : Nat × Nat} {cs : List AV} {c : Array Value} {el : TypeId} {fr : Nat × Nat} (hg : H.get id = some (.cells cs)) (hr : ρ id = some (b, s)) (hO : w.heap[b]? = some (.cells c el fr)) (hsz : c.size = s.2)
    (hfr : ∀ i, s.1 ≤ i → i < c.size → ¬ (fr.1 ≤ i ∧ i < fr.2)) {off m : Nat} (hoff : s.1 ≤ off) {old new : List AV} {vo vs : List Value} (ho : VRels π ρ old vo) (ho1 : ∀ y ∈ vo, vone y = true) (hv : ∀ i v, vo[i]? = some v → c[off + i]? = some v) (hn : VRels π ρ new vs) (hn1 : ∀ y ∈ vs, vone y = true)
    (hle : off + old.length + new.length ≤ c.size) : Sim π (ρ.put H.next (b, off, s.2)) ((H.kill id).alloc (.cells (old ++ new))) (w.setCells b (off + old.length) vs) ∧ Stp ρ H w (ρ.put H.next (b, off, s.2)) ((H.kill id).alloc (.cells (old ++ new))) (w.setCells b (off + old.length) vs) := by
  have hle' : ρ.le (ρ.put H.next (b, off, s.2)) := Ren.le_put _ (hs.fresh _ (Nat.le_refl _))
  have hidlt : id < H.next := by
    apply Nat.lt_of_not_le
    intro h
    rw [hs.lt id h] at hg
    cases hg
  have hne : ∀ i, i ≠ H.next → (ρ.put H.next (b, off, s.2)) i = ρ i := fun i h => by simp [Ren.put, h]
  have hnl := hn.length
  have hol := ho.length
  obtain ⟨m1, m2, m3, m4⟩ := setCells_misc (b := b) vs (off + old.length) w
  have hO' := heap_setCells vs (off + old.length) c w hO
  have hget : ∀ i o, i ≠ H.next → ((H.kill id).alloc (.cells (old ++ new))).get i = some o → i ≠ id ∧ H.get i = some o := fun i o hi h => by
    rw [AHeap.get_alloc, if_neg (by simpa using hi), AHeap.get_kill] at h
    by_cases e : i = id
    · rw [if_pos e] at h; cases h
    · rw [if_neg e] at h; exact ⟨e, h⟩
  constructor
  · refine ⟨fun i hi => ?_, fun i hi => ?_, fun i o2 b2 s2 h4 h5 => ?_, fun i j a a2 b2 s2 s3 h4 h5 h6 h7 => ?_, fun b2 O2 h => ?_, fun i a b2 s2 h4 h5 => ?_, fun i a h4 => ?_⟩
    · simp at hi
      rw [hne i (by omega)]
      exact hs.fresh i (by omega)
    · simp at hi
      rw [AHeap.get_alloc, if_neg (by simp; omega), AHeap.get_kill]
      split
      · rfl
      · exact hs.lt i (by omega)
    · by_cases hi : i = H.next
      · subst hi
        rw [AHeap.get_alloc, if_pos (by simp)] at h4
        cases h4
        simp [Ren.put] at h5
        obtain ⟨rfl, rfl⟩ := h5
        refine ⟨_, hO', .cells (by rw [size_setArr]; simp; omega) (by rw [size_setArr]; exact hsz) (fun i a ha => ?_) (fun i h1 h2 => hfr i (by simp at h1; omega) (by rw [size_setArr] at h2; exact h2))⟩
        simp only
        rw [get_setArr vs _ c _ (by omega)]
        by_cases hio : i < old.length
        · rw [List.getElem?_append_left hio] at ha
          obtain ⟨y, hy, hrel⟩ := ho.get _ _ ha
          rw [if_neg (by omega)]
          exact ⟨y, hv i y hy, hrel.mono hle', ho1 y (List.mem_of_getElem? hy)⟩
        · rw [List.getElem?_append_right (by omega)] at ha
          obtain ⟨y, hy, hrel⟩ := hn.get _ _ ha
          have hlt := (List.getElem?_eq_some_iff.1 ha).1
          rw [if_pos (by omega)]
          refine ⟨y, ?_, hrel.mono hle', hn1 y (List.mem_of_getElem? hy)⟩
          rw [show off + i - (off + old.length) = i - old.length by omega]
          exact hy
      · obtain ⟨hne2, hg2⟩ := hget i o2 hi h4
        rw [hne i hi] at h5
        obtain ⟨O2, h6, h7⟩ := hs.obj i o2 b2 s2 hg2 h5
        refine ⟨O2, ?_, h7.mono hle'⟩
        rw [heap_setCells_ne (fun (hb : b2 = b) => hne2 (hs.inj i id o2 _ b2 s2 s hg2 hg h5 (by rw [hb]; exact hr)))]
        exact h6
    · by_cases hi : i = H.next <;> by_cases hj : j = H.next
      · rw [hi, hj]
      · obtain ⟨hne2, hg2⟩ := hget j a2 hj h5
        rw [hne j hj] at h7
        subst hi
        simp [Ren.put] at h6
        exact absurd (hs.inj j id a2 _ b2 s3 s hg2 hg h7 (h6.1 ▸ hr)) hne2
      · obtain ⟨hne2, hg2⟩ := hget i a hi h4
        rw [hne i hi] at h6
        subst hj
        simp [Ren.put] at h7
        exact absurd (hs.inj i id a _ b2 s2 s hg2 hg h6 (h7.1 ▸ hr)) hne2
      · obtain ⟨_, hg2⟩ := hget i a hi h4
        obtain ⟨_, hg3⟩ := hget j a2 hj h5
        rw [hne i hi] at h6
        rw [hne j hj] at h7
        exact hs.inj i j a a2 b2 s2 s3 hg2 hg3 h6 h7
    · have hne3 : b2 ≠ b := by
        rintro rfl
        rw [hs.npi id _ b2 s hg hr] at h
        cases h
      rw [heap_setCells_ne hne3]
      exact hs.prot b2 O2 h
    · by_cases hi : i = H.next
      · subst hi
        simp [Ren.put] at h5
        obtain ⟨rfl, _⟩ := h5
        exact hs.npi id _ _ s hg hr
      · obtain ⟨_, hg2⟩ := hget i a hi h4
        rw [hne i hi] at h5
        exact hs.npi i a b2 s2 hg2 h5
    · by_cases hi : i = H.next
      · subst hi
        rw [AHeap.get_alloc, if_pos (by simp)] at h4
        cases h4
        exact ⟨ρ, _, _, fun j hj => hs.fresh j (by simp at hj; omega), row_rel (all2_append ho hn) fun v hv => (List.mem_append.1 hv).elim (ho1 v) (hn1 v)⟩
      · obtain ⟨_, hg2⟩ := hget i a hi h4
        obtain ⟨ρ1, s1, O1, h6, h7⟩ := hs.bd i a hg2
        exact ⟨ρ1, s1, O1, fun j hj => h6 j (by simp at hj; omega), h7⟩
  · refine ⟨hle', by omega, fun b2 hb2 hlt => ?_, fun b2 hb2 hn2 => heap_setCells_ne (fun (e : b2 = b) => hn2 ⟨id, _, s, hg, by rw [e]; exact hr⟩) _ _ _, m2, m3, m4, by simp, fun i hi => hne i (by omega)⟩
    obtain ⟨i, a, s2, h4, h5⟩ := hb2
    by_cases hi : i = H.next
    · subst hi
      simp [Ren.put] at h5
      exact ⟨id, _, s, hg, h5.1 ▸ hr⟩
    · obtain ⟨_, hg2⟩ := hget i a hi h4
      rw [hne i hi] at h5
      exact ⟨i, a, s2, hg2, h5⟩

theorem slen_eq {s : AV} {n len cap : Nat} {base : Option Addr} (h : slen s = some n) (hv : VRel π ρ s (.slice base len cap)) : n = len := by
  cases hv <;> simp [slen] at h <;> exact h.symm

theorem wdIs_rel {x : AV} {n : Nat} (h : wdIs x n = true) : ∀ wd, wdOf x = some wd → wd = n := by
  intro wd hwd
  unfold wdIs at h
  rw [hwd] at h
  exact Nat.eq_of_beq_eq_true h
theorem zeroFits_rel {i : TypeInfo} (h : zeroFits i = true) : ∃ z, i.zero = some z ∧ z.cells.size = i.size := by
  unfold zeroFits at h
  split at h
  · rename_i z hz
    simp only [Bool.and_eq_true] at h
    exact ⟨z, hz, Nat.eq_of_beq_eq_true h.1⟩
  · cases h
theorem run_grow {t0 t1 ty el : TypeId} {i : TypeInfo} {z : Value} (hD : P.underlying t0 = some (.slice el)) {D1 : TypeDesc} (hD1 : P.underlying t1 = some D1) (hz1 : ∀ k, D1 ≠ .int k) (hi : P.info? el = some i) (hz : i.zero = some z)
    {base : Option Addr} {len cap' n : Nat} {x' : Value} (hlx : (Builtin.lenOf x').run P w = .ok n w) {vo vs : List Value} (ho : (Builtin.firstCells i.size len (.slice base len cap')).run P w.drew = .ok vo.toArray w.drew)
    (hn : (Builtin.firstCells i.size n x').run P w.drew = .ok vs.toArray w.drew) (hg : cap' < len + n) (hlim : len + n ≤ limit) (hby : (len + n) * i.bytes ≤ limit) (hpos : 0 < i.bytes) :
    (Builtin.append_ #[t0, t1] ty #[.slice base len cap', x']).run P w = .ok (.slice (some ⟨w.heap.size, 0, none⟩) (len + n) (grownCap w (len + n) cap' el))
      (w.drew.alloc (.cells ((vo ++ vs) ++ (Builtin.zeroCells z.cells (grownCap w (len + n) cap' el - (len + n))).toList).toArray el)) := by
  unfold limit at hlim hby
  have hng : ¬ (len + n ≤ cap') := by omega
  have h63' : ¬ (9223372036854775807 < ((len : Int) + (n : Int))) := by omega
  have hfit := growslice_fits (bytes := i.bytes) hg (by omega)
  have h48' : ¬ (281474976710656 < Builtin.nextslicecap (len + n) cap' * i.bytes) := by omega
  have hnz : (match D1 with | .int _ => true | _ => false) = false := by cases D1 <;> first | rfl | exact (hz1 _ rfl).elim
  simp [Builtin.append_, run_underlying hD, run_underlying hD1, sizeOf, typeInfo, zeroValue, hi, hz, hlx, hng, h63', h48', Question.forced, hn, ho, Go.newRow, grownCap, hnz]
  congr 2
  apply Array.ext'
  simp
theorem run_fits {t0 t1 ty el : TypeId} {i : TypeInfo} (hD : P.underlying t0 = some (.slice el)) {D1 : TypeDesc} (hD1 : P.underlying t1 = some D1) (hz1 : ∀ k, D1 ≠ .int k) (hi : P.info? el = some i)
    {base : Option Addr} {len cap' n : Nat} {x' : Value} (hlx : (Builtin.lenOf x').run P w = .ok n w) {vs : List Value} {w' : World}
    (hn : (Builtin.firstCells i.size n x').run P w = .ok vs.toArray w) (hg : len + n ≤ cap') (hb : (base = none ∧ w' = w) ∨ ∃ a, base = some a ∧ (storeCells (a.add (len * i.size)) vs).run P w = .ok () w') :
    (Builtin.append_ #[t0, t1] ty #[.slice base len cap', x']).run P w = .ok (.slice base (len + n) cap') w' := by
  have hnz : (match D1 with | .int _ => true | _ => false) = false := by cases D1 <;> first | rfl | exact (hz1 _ rfl).elim
  rcases hb with ⟨rfl, rfl⟩ | ⟨a, rfl, hst⟩
  · simp [Builtin.append_, run_underlying hD, run_underlying hD1, sizeOf, typeInfo, hi, hlx, hg, hn, hnz]
  · simp [Builtin.append_, run_underlying hD, run_underlying hD1, sizeOf, typeInfo, hi, hlx, hg, hn, hnz, hst]
theorem size_zeroCells (z : Array Value) (n : Nat) : (Builtin.zeroCells z n).size = n * z.size := by simp [Builtin.zeroCells]
theorem cap_le (w : World) (n c : Nat) (el : TypeId) : n ≤ grownCap w n c el := by
  unfold grownCap Question.cut
  exact Nat.le_add_right _ _

theorem append_ok (hs : Sim π ρ H w) {t0 t1 ty el : TypeId} {s x : AV} {s' x' : Value} {r : ARes} (hD : P.underlying t0 = some (.slice el)) {D1 : TypeDesc} (hD1 : P.underlying t1 = some D1) (hz1 : ∀ k, D1 ≠ .int k)
    (hsv : VRel π ρ s s') (hxv : VRel π ρ x x') (h : appendA P el H s x = some r) :
    OpOK P π ρ H w r ((do pure (Next.value (← Builtin.append_ #[t0, t1] ty #[s', x'])) : Sem Next).run P w) := by
  unfold appendA at h
  split at h
  case h_2 => cases h
  rename_i i len hi hlen
  split at h
  case h_2 => cases h
  rename_i n new hx
  cases hcc : (lenIs new (n * i.size) && (wdIs x i.size && wdIs s i.size)) with
  | false => rw [hcc] at h; cases h
  | true =>
  rw [hcc] at h
  simp only [cond_true] at h
  simp only [Bool.and_eq_true, lenIs_iff] at hcc
  obtain ⟨hnl, hwx, hws⟩ := hcc
  obtain ⟨base, cap', rfl⟩ := slen_rel hlen hsv
  obtain ⟨hlx, vs, hvl, hvr, hv1, hvrun⟩ := xdata_rel (P := P) hs hx hnl hxv (wdIs_rel hwx)
  obtain ⟨hlx2, vs2, hvl2, hvr2, hv12, hvrun2⟩ := xdata_rel (P := P) hs.drew hx hnl hxv (wdIs_rel hwx)
  have hnone := fun hb => slen_nil hsv hb
  -- where it grows
  have grow : ∀ (H' : AHeap), Sim π ρ H' w.drew → Stp ρ H w ρ H' w.drew → H'.next = H.next → ∀ {r : ARes}, growA i H H' s len n new = some r → cap' < len + n →
      OpOK P π ρ H w r ((do pure (Next.value (← Builtin.append_ #[t0, t1] ty #[.slice base len cap', x'])) : Sem Next).run P w) := by
    intro H' hs' hst hnx r hg hlt
    unfold growA at hg
    cases hch : (Nat.ble ((len + n) * i.bytes) limit && (Nat.ble (len + n) limit && (Nat.blt 0 i.bytes && zeroFits i))) with
    | false => rw [hch] at hg; cases hg
    | true =>
    rw [hch] at hg
    simp only [cond_true] at hg
    simp only [Bool.and_eq_true] at hch
    obtain ⟨hb1, hb2, hb3, hb4⟩ := hch
    obtain ⟨z, hz, hzs⟩ := zeroFits_rel hb4
    split at hg
    case h_2 => cases hg
    rename_i old hold
    cases hg
    obtain ⟨vo, hol, hor, ho1, horun⟩ := first_rel (P := P) hs.drew hold hsv (Nat.le_refl _) (wdIs_rel hws) (fun hb => (hnone hb).2.1)
    have hrun := run_grow (P := P) (w := w) (ty := ty) hD hD1 hz1 hi hz hlx horun hvrun2 hlt (Nat.le_of_ble_eq_true hb2) (Nat.le_of_ble_eq_true hb1) (by simpa [Nat.blt_eq] using hb3)
    have hallone : ∀ v ∈ vo ++ vs2, vone v = true := fun v hv => by
      rcases List.mem_append.1 hv with h1 | h1
      · exact ho1 v h1
      · exact hv12 v h1
    obtain ⟨s1, s2⟩ := newRow_ok hs' (hor.append hvr2) hallone (Builtin.zeroCells z.cells (grownCap w (len + n) cap' el - (len + n))).toList el
    rw [hnx] at s1 s2
    refine ⟨_, _, .slice (some ⟨w.heap.size, 0, none⟩) (len + n) (grownCap w (len + n) cap' el), .inl ?_, ?_, s1, hst.trans s2⟩
    · simp only [Sem.run_bind, hrun, Result.andThen_ok, Sem.run_pure]
    · rw [hnx]
      refine .sl (put_self _ _ _) (Nat.le_refl _) (by simp) (cap_le _ _ _ _) (.inr rfl) ?_ (Nat.le_refl _)
      simp only [List.length_append, Array.length_toList, size_zeroCells, hol, hvl2, hzs, World.size_drew]
      have hge := cap_le w (len + n) cap' el
      rw [← Nat.add_mul, ← Nat.add_mul, Nat.zero_add, Nat.add_sub_cancel' hge]
      exact Nat.le_refl _
  have same : ∀ {r : ARes} {v : AV}, n = 0 → (val v H = some r) → VRel π ρ v (.slice base (len + n) cap') → len ≤ cap' → OpOK P π ρ H w r ((do pure (Next.value (← Builtin.append_ #[t0, t1] ty #[.slice base len cap', x'])) : Sem Next).run P w) := by
    intro r v hn0 hr hvv hle
    cases hr
    subst hn0
    have hvs : vs = [] := List.eq_nil_of_length_eq_zero (by simpa using hvl)
    subst hvs
    have hrun := run_fits (P := P) (w := w) (ty := ty) (len := len) (w' := w) hD hD1 hz1 hi hlx hvrun (by omega) (base := base) (by
      cases base with
      | none => exact .inl ⟨rfl, rfl⟩
      | some a => exact .inr ⟨a, rfl, rfl⟩)
    exact OpOK.pure hs (by simp only [Sem.run_bind, hrun, Result.andThen_ok, Sem.run_pure]) hvv
  unfold appendTo at h
  split at h
  · -- nil
    obtain ⟨rfl, rfl⟩ : base = none ∧ len = 0 := by cases hsv; exact ⟨rfl, rfl⟩
    obtain ⟨_, _, rfl⟩ := hnone rfl
    cases hn0 : Nat.beq n 0 with
    | true =>
      rw [hn0] at h
      have hn0' := Nat.eq_of_beq_eq_true hn0
      subst hn0'
      exact same rfl h .nils (Nat.le_refl _)
    | false =>
      rw [hn0] at h
      have : n ≠ 0 := fun hh => by rw [hh] at hn0; cases hn0
      exact grow H hs.drew (Stp.drew _ _ _) rfl h (by omega)
  · rename_i id off l cap wd ex
    simp only [slen, Option.some.injEq] at hlen
    subst hlen
    have hwd : wd = i.size := wdIs_rel hws wd rfl
    subst hwd
    obtain ⟨b, off', cap2, sh, heq, hr, hle, hex, hcc2, hoo, hzz, hss⟩ := hsv.sl_inv
    cases heq
    cases hfit : Nat.ble (l + n) cap with
    | true =>
      rw [hfit] at h
      have hfit' := Nat.le_of_ble_eq_true hfit
      simp only [cond_true] at h
      cases hn0 : Nat.beq n 0 with
      | true =>
        rw [hn0] at h
        have hn0' := Nat.eq_of_beq_eq_true hn0
        subst hn0'
        exact same rfl h (.sl hr (by omega) hex hcc2 hoo hzz hss) (by omega)
      | false =>
        rw [hn0] at h
        have hnz : n ≠ 0 := fun hh => by rw [hh] at hn0; cases hn0
        simp only [cond_false] at h
        split at h
        case h_2 => cases h
        rename_i H' hH
        cases h
        have hoff : off' = sh.1 + off := by
          rcases hoo with h5 | h5
          · omega
          · exact h5
        subst hoff
        obtain ⟨b2, o2, heq2, hst, s1, s2⟩ := hs.write (P := P) (.ptr (off := off + l * i.size) hr) hvr hv1 hH
        cases heq2
        have hrun := run_fits (P := P) (w := w) (ty := ty) (len := l) (cap' := cap') hD hD1 hz1 hi hlx hvrun (by omega) (.inr ⟨_, rfl, by rw [add_spot, Nat.add_assoc]; exact hst⟩)
        refine ⟨ρ, _, _, .inl ?_, .sl hr (by omega) hex hcc2 hoo hzz hss, s1, s2⟩
        simp only [Sem.run_bind, hrun, Result.andThen_ok, Sem.run_pure]
    | false =>
      rw [hfit] at h
      have hfit' : ¬ l + n ≤ cap := fun hh => by rw [Nat.ble_eq_true_of_le hh] at hfit; cases hfit
      simp only [cond_false] at h
      cases ex with
      | true =>
        have := hex rfl
        subst this
        exact grow H hs.drew (Stp.drew _ _ _) rfl h (by omega)
      | false =>
        simp only [cond_false] at h
        split at h
        case h_2 => cases h
        rename_i cs hg
        by_cases hlt : cap' < l + n
        · obtain ⟨k1, k2⟩ := hs.drew.kill id
          exact grow (H.kill id) k1 ((Stp.drew _ _ _).trans k2) rfl h hlt
        · -- it has room where it lies
          have hfit2 : l + n ≤ cap' := by omega
          unfold growA at h
          cases hch : (Nat.ble ((l + n) * i.bytes) limit && (Nat.ble (l + n) limit && (Nat.blt 0 i.bytes && zeroFits i))) with
          | false => rw [hch] at h; cases h
          | true =>
          rw [hch] at h
          simp only [cond_true] at h
          split at h
          case h_2 => cases h
          rename_i old hold
          cases h
          obtain ⟨O, hO, hR⟩ := hs.obj id _ b sh hg hr
          obtain ⟨c, el', fr, rfl, hlen2, hcsz, hcell, hfr⟩ := hR.cells_inv
          have hmul : l * i.size + n * i.size ≤ cap' * i.size := by rw [← Nat.add_mul]; exact Nat.mul_le_mul_right _ hfit2
          obtain ⟨vo, hol, hor, ho1, hov⟩ : ∃ vo : List Value, vo.length = l * i.size ∧ VRels π ρ old vo ∧ (∀ y ∈ vo, vone y = true) ∧ ∀ j v, vo[j]? = some v → c[off' + j]? = some v := by
            unfold sdata at hold
            split at hold
            · rename_i h0
              cases hold
              exact ⟨[], h0.symm, trivial, by simp, by simp⟩
            · rename_i h0
              simp only at hold
              have hl0 : l ≠ 0 := by rintro rfl; simp at h0
              have hoff : off' = sh.1 + off := by
                rcases hoo with h5 | h5
                · omega
                · exact h5
              subst hoff
              obtain ⟨b2, o2, vo, heq2, hvl3, hvr3, hcell3, hone3⟩ := hs.read (.ptr (off := off) hr) hold
              cases heq2
              refine ⟨vo, hvl3, hvr3, hone3, fun j v hv => ?_⟩
              have := hcell3 j v hv
              rwa [cell_of_block hO] at this
          have hol2 := hor.length
          obtain ⟨s1, s2⟩ := hs.regrow (off := off') (m := 0) hg hr hO hcsz hfr hss hor ho1 hov hvr hv1 (by omega)
          have hst := run_storeCells' (P := P) (o := off' + l * i.size) (vs := vs) hO (by omega) (fun j h1 h2 => hfr j (by omega) (by omega)) hv1
          have hrun := run_fits (P := P) (w := w) (ty := ty) (len := l) (cap' := cap') hD hD1 hz1 hi hlx hvrun hfit2 (.inr ⟨_, rfl, by rw [add_spot]; exact hst⟩)
          rw [show off' + old.length = off' + l * i.size by omega] at s1 s2
          refine ⟨_, _, _, .inl ?_, .sl (put_self _ _ _) (Nat.le_refl _) (by simp) hfit2 (.inr rfl) hzz (Nat.le_refl _), s1, s2⟩
          simp only [Sem.run_bind, hrun, Result.andThen_ok, Sem.run_pure]
          rfl
  · rename_i row off l c
    simp only [slen, Option.some.injEq] at hlen
    subst hlen
    obtain ⟨b, s2, cap2, vs3, sp, heq, hle, hsp, hcap, h3, h4, h5⟩ := hsv.rsl_inv
    cases heq
    have := hcap c rfl
    subst this
    cases hfit : Nat.ble (l + n) cap' with
    | true =>
      rw [hfit] at h
      simp only [cond_true] at h
      cases hn0 : Nat.beq n 0 with
      | true =>
        rw [hn0] at h
        have hn0' := Nat.eq_of_beq_eq_true hn0
        subst hn0'
        exact same rfl h (.rsl vs3 hle hsp hcap h3 h4 h5) hle
      | false => rw [hn0] at h; cases h
    | false =>
      rw [hfit] at h
      have hfit' : ¬ l + n ≤ cap' := fun hh => by rw [Nat.ble_eq_true_of_le hh] at hfit; cases hfit
      exact grow H hs.drew (Stp.drew _ _ _) rfl h (by omega)
  · rename_i row off l
    simp only [slen, Option.some.injEq] at hlen
    subst hlen
    obtain ⟨b, s2, cap2, vs3, sp, heq, hle, hsp, hcap, h3, h4, h5⟩ := hsv.rsl_inv
    cases heq
    cases hn0 : Nat.beq n 0 with
    | true =>
      rw [hn0] at h
      have hn0' := Nat.eq_of_beq_eq_true hn0
      subst hn0'
      exact same rfl h (.rsl vs3 hle hsp hcap h3 h4 h5) hle
    | false => rw [hn0] at h; cases h
  · cases h
end Go.AM
