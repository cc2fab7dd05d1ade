/- Operations that lay something new: what they answer, whatever number it gets. -/
import Derived.Test.YtgkopheekihkjaaDoorAMm
set_option linter.unusedVariables false
set_option linter.unusedSimpArgs false
namespace Go.AM
variable {P : Program} {π : Prot} {ρ : Ren} {H : AHeap} {w : World}
variable {e : Operand → Option AV} {eval : Operand → Value}

def AllocOK (P : Program) (π : Prot) (ρ : Ren) (H : AHeap) (w : World) (r : ARes) (run : Result Next) : Prop :=
  ∃ v o O z v', r = .val v (H.alloc o) ∧ run = .ok (.value v') (w.alloc O) ∧ ORel π ρ (0, z) o O ∧ ∀ ρ' : Ren, ρ.le ρ' → ρ' H.next = some (w.heap.size, 0, z) → VRel π ρ' v v'

theorem newRow_rel {cs : List AV} {vs : List Value} (hc : VRels π ρ cs vs) (h1 : ∀ v ∈ vs, vone v = true) (extra : List Value) (t : TypeId) :
    ORel π ρ (0, vs.length + extra.length) (.cells cs) (.cells (vs ++ extra).toArray t) := by
  refine .cells (by have := hc.length; simp; omega) (by simp) (fun i a ha => ?_) (fun i _ hi => by simp)
  obtain ⟨v, hv, hr⟩ := hc.get i a ha
  refine ⟨v, ?_, hr, h1 v (List.mem_of_getElem? hv)⟩
  simp only [Nat.zero_add, List.getElem?_toArray]
  rw [List.getElem?_append_left (List.getElem?_eq_some_iff.1 hv).1]
  exact hv

theorem aAlloc_new {t : TypeId} {r : ARes} (h : aAlloc P H t = some r) : AllocOK P π ρ H w r ((do pure (Next.value (← Instr.alloc t true (.tuple #[]))) : Sem Next).run P w) := by
  unfold aAlloc at h
  split at h
  · rename_i z hz
    cases hn : z.ntup with
    | false => rw [hn] at h; cases h
    | true =>
      rw [hn] at h
      simp only [cond_true, val, Option.some.injEq] at h
      subst h
      obtain ⟨v, hv, hr⟩ := zero_rel (w := w) hz
      have hO := newRow_rel (π := π) (ρ := ρ) hr.cells (hr.cells_one hn) [] t
      refine ⟨_, _, _, _, .pointer (some ⟨w.heap.size, 0 + 0, none⟩), rfl, ?_, hO, fun ρ' _ hi => .ptr hi⟩
      simp [Instr.alloc, hv, newVar, newRow]
  · cases h

theorem aBox_new (he : EvR π ρ e eval) {t : TypeId} {x : Operand} {r : ARes} (h : aBox e H x = some r) : AllocOK P π ρ H w r ((do pure (Next.value (← Instr.box t (eval x))) : Sem Next).run P w) := by
  unfold aBox at h
  split at h
  · rename_i z hz
    cases hn : z.ntup with
    | false => rw [hn] at h; cases h
    | true =>
      rw [hn] at h
      simp only [cond_true, val, Option.some.injEq] at h
      subst h
      have hr := he x z hz
      have hO := newRow_rel (π := π) (ρ := ρ) hr.cells (hr.cells_one hn) [] t
      refine ⟨_, _, _, _, .pointer (some ⟨w.heap.size, 0 + 0, none⟩), rfl, ?_, hO, fun ρ' _ hi => .ptr hi⟩
      simp [Instr.box, newVar, newRow]
  · cases h

theorem aMap_new (he : EvR π ρ e eval) {t : TypeId} {x : Option Operand} {r : ARes} (h : aMap P e H t x = some r) : AllocOK P π ρ H w r ((do pure (Next.value (← Instr.makeMap t (x.map eval))) : Sem Next).run P w) := by
  have key : ∀ w, AllocOK P π ρ H w (.val (.mapv H.next) (H.alloc (.map []))) (.ok (.value (.map (some w.heap.size))) (w.alloc (.map #[] 0))) := fun w =>
    ⟨_, _, _, 0, _, rfl, rfl, .map (by simp [All2]), fun ρ' _ hi => .mapv hi⟩
  unfold aMap at h
  split at h
  · cases h
    simpa [Instr.makeMap] using key w
  · rename_i y
    split at h
    · rename_i k n a b hy hD
      cases h
      have hv := he y _ hy
      generalize hq : eval y = q at *
      cases hv
      simpa [Instr.makeMap, run_underlying hD, asInt, asIntOf, hq] using key w
    · cases h

theorem aBuildSlice_new (he : EvR π ρ e eval) {t : TypeId} {len : Nat} {parts : Array (Nat × Operand)} {r : ARes} (h : aBuildSlice P e H t len parts = some r) :
    AllocOK P π ρ H w r ((do pure (Next.value (← Instr.buildSlice t len (parts.map fun (i, x) => (i, eval x)))) : Sem Next).run P w) := by
  have htl : (parts.map fun (i, x) => (i, eval x)).toList = parts.toList.map fun p => (p.1, eval p.2) := by simp
  unfold aBuildSlice at h
  split at h
  · rename_i el ps hD hps
    split at h
    · rename_i n z hn hz
      cases hc : (z.ntup && (lenIs z.cells n && Nat.ble (len * n) 16777216)) with
      | false => rw [hc] at h; cases h
      | true =>
        rw [hc] at h
        simp only [cond_true] at h
        simp only [Bool.and_eq_true, lenIs_iff] at hc
        have hle : len * n ≤ 16777216 := Nat.le_of_ble_eq_true hc.2.2
        split at h
        · rename_i cs hcs
          cases h
          obtain ⟨i, hi, rfl⟩ := Option.map_eq_some_iff.1 hn
          obtain ⟨v, hv, hr⟩ := zero_rel (w := w) hz
          obtain ⟨hz1, hz2⟩ := zeros_rel (n := len) hr.cells (hr.cells_one hc.1) hc.2.1
          obtain ⟨o, ho, hr2, h2⟩ := fill_rel (evParts_rel he hps) hz1 hz2 hcs
          have hO := newRow_rel (π := π) (ρ := ρ) hr2 h2 [] el
          refine ⟨_, _, _, _, .slice (some ⟨w.heap.size, 0, none⟩) len len, rfl, ?_, hO, fun ρ' _ hi => .sl hi (Nat.le_refl _) (fun _ => rfl) (Nat.le_refl _) (.inr rfl) ?_ (Nat.zero_le _)⟩
          rotate_left
          · have := hr2.length
            have hcl2 := fillA_len hcs
            rw [len_flat, hc.2.1] at hcl2
            simp at this ⊢
            omega
          have hgt : ¬ len * i.size > 2 ^ 24 := by have : (2 : Nat) ^ 24 = 16777216 := by decide
                                                   omega
          have hz0 : len * i.size = 0 → Instr.fill (fun j => some (j * i.size, i.size)) ((Array.range (len * i.size)).map fun j => (#[] : Array Value)[j % (#[] : Array Value).size]!) (parts.toList.map fun p => (p.1, eval p.2)) = some o := fun h0 => by
            rw [← ho, h0, show Array.range 0 = #[] from rfl]
            simp
          simp only [Instr.buildSlice, Sem.run_bind, run_underlying hD, Result.andThen_ok, run_sizeOf hi, hgt, if_false, htl]
          by_cases h0 : len * i.size = 0
          · have := hz0 h0
            simp only [h0, if_true, Sem.run_bind, Sem.run_pure, Result.andThen_ok] at this ⊢
            simp only [this]
            simp [Go.newRow]
          · simp only [h0, if_false, Sem.run_bind, hv, Sem.run_pure, Result.andThen_ok, ho]
            simp [Go.newRow]
        · cases h
    · cases h
  · cases h

theorem aMake_new (he : EvR π ρ e eval) {t : TypeId} {l c : Operand} {r : ARes} (h : aMake P e H t l c = some r) : AllocOK P π ρ H w r ((do pure (Next.value (← Instr.makeSlice t (eval l) (eval c))) : Sem Next).run P w) := by
  unfold aMake at h
  split at h
  · rename_i el k n k' m hD hl hc
    split at h
    · rename_i i z hi hz
      split at h
      · rename_i hb
        cases h
        obtain ⟨h1, h2, h3, h4, h5, h6⟩ := hb
        have hlv := he l _ hl
        have hcv := he c _ hc
        generalize eval l = l' at *
        generalize eval c = c' at *
        cases hlv
        cases hcv
        obtain ⟨v, hv, hr⟩ := zero_rel (w := w) hz
        obtain ⟨n, rfl⟩ := Int.eq_ofNat_of_zero_le h1
        obtain ⟨m, rfl⟩ := Int.eq_ofNat_of_zero_le (a := m) (by omega)
        have h6' := lenIs_iff.1 h6
        obtain ⟨hz1, hz2⟩ := zeros_rel (n := m) hr.cells (hr.cells_one h5) h6'
        have hO := newRow_rel (π := π) (ρ := ρ) hz1 hz2 [] el
        have hlim : limit = 70368744177664 := rfl
        have hwl : IntKind.i64.wrap (n : Int) = n := by simp [IntKind.wrap, IntKind.signed, IntKind.bits]; omega
        have hwm : IntKind.i64.wrap (m : Int) = m := by simp [IntKind.wrap, IntKind.signed, IntKind.bits]; omega
        have hpos : ∃ zz : Array Value, (m * i.size = 0 → zz = #[]) ∧ (m * i.size ≠ 0 → zz = v.cells) := ⟨if m * i.size = 0 then #[] else v.cells, fun h => by simp [h], fun h => by simp [h]⟩
        refine ⟨_, _, _, _, .slice (some ⟨w.heap.size, 0, none⟩) n m, rfl, ?_, hO, fun ρ' _ hi => ?_⟩
        · have g1 : ¬ ((m : Int) < 0) := by omega
          have g2 : ¬ ((i.bytes : Int) * (m : Int) > 2 ^ 48) := by
            have : (i.bytes : Int) * (m : Int) = (m : Int) * i.bytes := Int.mul_comm _ _
            rw [this]
            have : (2 : Int) ^ 48 = 281474976710656 := by decide
            omega
          have g3 : ¬ ((n : Int) < 0) := by omega
          have g4 : ¬ ((n : Int) > (m : Int)) := by omega
          simp only [Instr.makeSlice, Sem.run_bind, run_underlying hD, Result.andThen_ok, asInt, asIntOf, Sem.run_pure, run_typeInfo' hi, hwl, hwm]
          simp only [g1, g2, g3, g4, decide_false, Bool.or_false, Bool.false_eq_true, if_false, Sem.run_bind, run_askRoom, Result.andThen_ok, Int.toNat_natCast, run_sizeOf hi]
          by_cases h0 : m * i.size = 0
          · simp [h0, Go.newRow, show Array.range 0 = #[] from rfl]
          · simp [h0, hv, Go.newRow]
            congr 2
            apply Array.ext'
            simp
        · refine .sl hi (by simp; omega) (fun _ => by simp) (by simp) (.inr rfl) ?_ (Nat.le_refl _)
          simp
      · cases h
    · cases h
  · cases h

theorem aop_new (he : EvR π ρ e eval) {o : Oper} {r : ARes} (hc : cls o.op = .alloc) (h : aop P e H o.op = some r) : AllocOK P π ρ H w r ((execOp eval o).run P w) := by
  obtain ⟨dst, op, ty, pos, after, guard⟩ := o
  unfold aop at h
  cases op <;> simp only at h <;> try (simp only [cls, reduceCtorEq] at hc; done)
  case alloc t => exact aAlloc_new h
  case box t x => exact aBox_new he h
  case buildSlice t n ps => exact aBuildSlice_new he h
  case makeMap t r => exact aMap_new he h
  case makeSlice t l c => exact aMake_new he h
  case call c =>
    simp only [cls] at hc
    split at hc <;> simp_all

theorem Sim.allocAt {V : AHeap} (hs : Sim π ρ V w) (n : Nat) (hn : n < V.next) (hρ : ρ n = none) (o : AObj) (O : Obj) {z : Nat} (hO : ORel π ρ (0, z) o O) :
    Sim π (ρ.put n (w.heap.size, 0, z)) (V.set n o) (w.alloc O) ∧ ρ.le (ρ.put n (w.heap.size, 0, z)) ∧ (∀ b, Owned (ρ.put n (w.heap.size, 0, z)) (V.set n o) b → b < w.heap.size → Owned ρ V b) := by
  have hle : ρ.le (ρ.put n (w.heap.size, 0, z)) := Ren.le_put _ hρ
  have hold : ∀ b, b < w.heap.size → (w.alloc O).heap[b]? = w.heap[b]? := fun b h => Go.RowKit.Below.heap_alloc w O b h
  have hnew : (w.alloc O).heap[w.heap.size]? = some O := by show (w.heap.push O)[_]? = _; simp
  have hblk : ∀ i o b s, V.get i = some o → ρ i = some (b, s) → b < w.heap.size := fun i o b s h1 h2 => by
    obtain ⟨O, hO, _⟩ := hs.obj i o b s h1 h2
    exact (Array.getElem?_eq_some_iff.1 hO).1
  have hne : ∀ i, i ≠ n → (ρ.put n (w.heap.size, 0, z)) i = ρ i := fun i h => by simp [Ren.put, h]
  constructor
  · refine ⟨fun i hi => ?_, fun i hi => ?_, fun i o2 b2 s2 h4 h5 => ?_, fun i j a c b2 s2 s3 h4 h5 h6 h7 => ?_, fun b2 O2 h => ?_, fun i a b2 s2 h4 h5 => ?_, fun i a h4 => ?_⟩
    · simp at hi
      rw [hne i (by omega)]
      exact hs.fresh i (by omega)
    · simp at hi
      rw [AHeap.get_set, if_neg (by omega)]
      exact hs.lt i (by omega)
    · rw [AHeap.get_set] at h4
      by_cases hi : i = n
      · subst hi
        simp at h4
        subst h4
        simp [Ren.put] at h5
        obtain ⟨rfl, rfl⟩ := h5
        exact ⟨O, hnew, hO.mono hle⟩
      · rw [if_neg hi] at h4
        rw [hne i hi] at h5
        obtain ⟨O2, h6, h7⟩ := hs.obj i o2 b2 s2 h4 h5
        exact ⟨O2, by rw [hold b2 (hblk i o2 b2 s2 h4 h5)]; exact h6, h7.mono hle⟩
    · rw [AHeap.get_set] at h4 h5
      by_cases hi : i = n <;> by_cases hj : j = n
      · rw [hi, hj]
      · rw [if_neg hj] at h5
        rw [hne j hj] at h7
        subst hi
        simp [Ren.put] at h6
        have := hblk j c b2 s3 h5 h7
        omega
      · rw [if_neg hi] at h4
        rw [hne i hi] at h6
        subst hj
        simp [Ren.put] at h7
        have := hblk i a b2 s2 h4 h6
        omega
      · rw [if_neg hi] at h4
        rw [if_neg hj] at h5
        rw [hne i hi] at h6
        rw [hne j hj] at h7
        exact hs.inj i j a c b2 s2 s3 h4 h5 h6 h7
    · have := hs.prot b2 O2 h
      rw [hold b2 (Array.getElem?_eq_some_iff.1 this).1]
      exact this
    · rw [AHeap.get_set] at h4
      by_cases hi : i = n
      · subst hi
        simp [Ren.put] at h5
        obtain ⟨rfl, rfl⟩ := h5
        cases hp : π w.heap.size with
        | none => rfl
        | some O2 =>
          have := (Array.getElem?_eq_some_iff.1 (hs.prot _ _ hp)).1
          omega
      · rw [if_neg hi] at h4
        rw [hne i hi] at h5
        exact hs.npi i a b2 s2 h4 h5
    · rw [AHeap.get_set] at h4
      by_cases hi : i = n
      · simp [hi] at h4
        subst h4
        exact ⟨ρ, _, O, hs.fresh, hO⟩
      · rw [if_neg hi] at h4
        exact hs.bd i a h4
  · refine ⟨hle, fun b2 hb2 hlt => ?_⟩
    obtain ⟨i, a, s2, h4, h5⟩ := hb2
    rw [AHeap.get_set] at h4
    by_cases hi : i = n
    · subst hi
      simp [Ren.put] at h5
      omega
    · rw [if_neg hi] at h4
      rw [hne i hi] at h5
      exact ⟨i, a, s2, h4, h5⟩

end Go.AM
