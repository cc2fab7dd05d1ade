/- What a row's reading of plain data says of the abstract values. -/
import Derived.Test.YtgkopheekihkjaaDoorAMu
import GoSem.ClaimChange
set_option linter.unusedVariables false
set_option linter.unusedSimpArgs false
namespace Go.AM
variable {P : Program} {ρ : Ren} {H : Type} {enc : TypeId × Value → H} {W : World}

def tile (P : Program) : List Field → Nat → Nat → Bool
  | [], o, m => Nat.beq o m
  | f :: r, o, m => Nat.beq f.offset o && tile P r (o + P.cellsOf f.type) m
/-- Numbers, bools, strings, and slices and structs of such. -/
def plainT (P : Program) : Nat → TypeId → Bool
  | 0, _ => false
  | n + 1, t => match P.underlying t with
    | some .bool => true
    | some (.int _) => true
    | some .string => true
    | some (.slice e) => Nat.blt 0 (P.cellsOf e) && plainT P n e
    | some (.struct fs) => tile P fs.toList 0 (P.cellsOf t) && fs.toList.all fun f => plainT P n f.type
    | _ => false
def Shape (P : Program) : Nat → TypeId → List AV → Prop
  | 0, _, _ => False
  | n + 1, t, as => match P.underlying t with
    | some .bool => ∃ b, as = [.bool b]
    | some (.int k) => ∃ x, as = [.int k x] ∧ k.min ≤ x ∧ x ≤ k.max
    | some .string => ∃ s, as = [.str s] ∧ s.size ≤ maxLen
    | some (.slice e) => as = [.nils] ∨ ∃ (row : List AV) (len cap : Nat), as = [.rsl row 0 len (some cap)] ∧ len ≤ cap ∧ cap ≤ maxLen ∧ row.length = cap * P.cellsOf e ∧
        ∀ i, i < cap → Shape P n e ((row.drop (i * P.cellsOf e)).take (P.cellsOf e))
    | some (.struct fs) => as.length = P.cellsOf t ∧ ∀ f ∈ fs.toList, Shape P n f.type ((as.drop f.offset).take (P.cellsOf f.type))
    | _ => False

theorem mapM_get {α β : Type} {f : α → Option β} : ∀ {l : List α} {r : List β}, l.mapM f = some r → r.length = l.length ∧ ∀ (i : Nat) (x : α), l[i]? = some x → ∃ y, f x = some y ∧ r[i]? = some y
  | [], r, h => by
    simp at h
    subst h
    simp
  | a :: l, r, h => by
    rw [List.mapM_cons] at h
    obtain ⟨y, hy, h⟩ := Option.bind_eq_some_iff.1 h
    obtain ⟨ys, hys, h⟩ := Option.bind_eq_some_iff.1 h
    cases h
    obtain ⟨h1, h2⟩ := mapM_get hys
    refine ⟨by simp [h1], fun i x hx => ?_⟩
    cases i with
    | zero => simp at hx; subst hx; exact ⟨y, hy, rfl⟩
    | succ i => exact h2 i x (by simpa using hx)
theorem cells_get {a : Addr} {n : Nat} {cs : List Value} (h : W.cells? 0 a n = some cs) : cs.length = n ∧ ∀ i, i < n → ∃ v, W.cell? (a.add i) = some v ∧ cs[i]? = some v := by
  unfold World.cells? at h
  rw [if_pos (Nat.zero_le _)] at h
  obtain ⟨h1, h2⟩ := mapM_get h
  rw [List.length_range] at h1
  refine ⟨h1, fun i hi => ?_⟩
  exact h2 i i (by simp [hi])
theorem cell_at {a : Addr} {i : Nat} {v : Value} (h : W.cell? (a.add i) = some v) (hs : a.spot = none) : pcell (fun b => W.heap[b]?) a.block (a.off + i) = some v := by
  have hb : (a.add i).block = a.block := by unfold Addr.add; split <;> rfl
  have ho : (a.add i).off = a.off + i := by unfold Addr.add; split <;> simp_all
  unfold World.cell? at h
  unfold pcell
  rw [hb, ho] at h
  split at h
  · rename_i hc
    split at h
    · cases h
    · simp only [hc]
      exact h
  · cases h
theorem spot_of {a : Addr} {v : Value} (h : W.cell? a = some v) : a.spot = none := by
  unfold World.cell? at h
  split at h
  · split at h
    · cases h
    · rename_i hh
      simpa using hh
  · cases h

theorem tiles (hT : TypeId → List AV → Prop) {cs : List Value} : ∀ (fs : List Field) (o m : Nat), tile P fs o m = true → m ≤ cs.length →
    (∀ f ∈ fs, ∃ as, VRels (fun b => W.heap[b]?) ρ as ((cs.drop f.offset).take (P.cellsOf f.type)) ∧ (∀ v ∈ (cs.drop f.offset).take (P.cellsOf f.type), vone v = true) ∧ hT f.type as) →
    o ≤ m ∧ ∃ as, VRels (fun b => W.heap[b]?) ρ as ((cs.drop o).take (m - o)) ∧ (∀ v ∈ (cs.drop o).take (m - o), vone v = true) ∧ ∀ f ∈ fs, o ≤ f.offset ∧ hT f.type ((as.drop (f.offset - o)).take (P.cellsOf f.type))
  | [], o, m, ht, hm, h => by
    have : o = m := Nat.eq_of_beq_eq_true ht
    subst this
    exact ⟨Nat.le_refl _, [], by simp [All2], by simp, by simp⟩
  | f :: r, o, m, ht, hm, h => by
    simp only [tile, Bool.and_eq_true] at ht
    have ho : f.offset = o := Nat.eq_of_beq_eq_true ht.1
    obtain ⟨hle, bs, hb1, hb2, hb3⟩ := tiles hT r (o + P.cellsOf f.type) m ht.2 hm fun g hg => h g (by simp [hg])
    obtain ⟨as, ha1, ha2, ha3⟩ := h f (by simp)
    rw [ho] at ha1 ha2
    have hsplit : (cs.drop o).take (m - o) = (cs.drop o).take (P.cellsOf f.type) ++ (cs.drop (o + P.cellsOf f.type)).take (m - (o + P.cellsOf f.type)) := by
      rw [show m - o = P.cellsOf f.type + (m - (o + P.cellsOf f.type)) by omega, List.take_add, List.drop_drop]
    have hlen : as.length = P.cellsOf f.type := by
      rw [ha1.length, List.length_take, List.length_drop]
      omega
    refine ⟨by omega, as ++ bs, ?_, ?_, ?_⟩
    · rw [hsplit]
      exact ha1.append hb1
    · rw [hsplit]
      intro v hv
      rcases List.mem_append.1 hv with hv | hv
      · exact ha2 v hv
      · exact hb2 v hv
    · intro g hg
      rcases List.mem_cons.1 hg with rfl | hg
      · refine ⟨by omega, ?_⟩
        rw [ho, Nat.sub_self, List.drop_zero, List.take_append_of_le_length (by omega), List.take_of_length_le (by omega)]
        exact ha3
      · obtain ⟨h1, h2⟩ := hb3 g hg
        refine ⟨by omega, ?_⟩
        rw [List.drop_append, List.drop_of_length_le (by omega), List.nil_append, hlen, show g.offset - o - P.cellsOf f.type = g.offset - (o + P.cellsOf f.type) by omega]
        exact h2

/-- Rows of elements that relate one by one relate whole. -/
theorem rows {hT : List AV → Prop} {c : Nat} {V : Nat → Value} : ∀ (k : Nat), (∀ i, i < k → ∃ as vs, VRels (fun b => W.heap[b]?) ρ as vs ∧ vs.length = c ∧ (∀ j, j < c → vs[j]? = some (V (i * c + j))) ∧ (∀ v ∈ vs, vone v = true) ∧ hT as) →
    ∃ row : List AV, row.length = k * c ∧ (∀ j (hj : j < row.length), VRel (fun b => W.heap[b]?) ρ row[j] (V j)) ∧ (∀ j, j < k * c → vone (V j) = true) ∧ ∀ i, i < k → hT ((row.drop (i * c)).take c)
  | 0, _ => ⟨[], by simp, by simp, by simp, by simp⟩
  | k + 1, h => by
    obtain ⟨row, h1, h2, h3, h4⟩ := rows k fun i hi => h i (by omega)
    obtain ⟨as, vs, ha, hl, hv, ho, ht⟩ := h k (by omega)
    have hal : as.length = c := ha.length.trans hl
    have hkc : (k + 1) * c = k * c + c := by rw [Nat.add_mul, Nat.one_mul]
    refine ⟨row ++ as, by simp [h1, hal, hkc], fun j hj => ?_, fun j hj => ?_, fun i hi => ?_⟩
    · by_cases hjl : j < row.length
      · rw [List.getElem_append_left hjl]
        exact h2 j hjl
      · rw [List.getElem_append_right (by omega)]
        have hj' : j - row.length < as.length := by simp at hj; omega
        obtain ⟨v, hv1, hv2⟩ := ha.get (j - row.length) _ (List.getElem?_eq_getElem hj')
        have := hv (j - row.length) (by omega)
        rw [this] at hv1
        cases hv1
        rw [show k * c + (j - row.length) = j by omega] at hv2
        exact hv2
    · by_cases hjl : j < k * c
      · exact h3 j hjl
      · have := hv (j - k * c) (by omega)
        rw [show k * c + (j - k * c) = j by omega] at this
        exact ho _ (List.mem_of_getElem? this)
    · by_cases hik : i < k
      · have hle : i * c + c ≤ k * c := by
          have := Nat.mul_le_mul_right c (show i + 1 ≤ k by omega)
          rw [Nat.add_mul, Nat.one_mul] at this
          exact this
        rw [List.drop_append_of_le_length (by omega), List.take_append_of_le_length (by simp; omega)]
        exact h4 i hik
      · obtain rfl : i = k := by omega
        rw [← h1, List.drop_left, List.take_of_length_le (by omega)]
        exact ht

/-- WHAT READS AS PLAIN DATA RELATES TO AN ABSTRACT VALUE OF ITS SHAPE. -/
theorem trod_shape : ∀ (n : Nat) (t : TypeId), plainT P n t = true → ∀ (fuel : Nat) (cs : List Value) (x : DataW H × List MemPlace), DataW.trod enc P W 0 (fun _ => true) true fuel t cs = some x →
    ∃ as, VRels (fun b => W.heap[b]?) ρ as cs ∧ (∀ v ∈ cs, vone v = true) ∧ Shape P n t as
  | 0, t, ht, _, _, _, _ => by cases ht
  | n + 1, t, ht, 0, cs, x, h => by simp [DataW.trod] at h
  | n + 1, t, ht, fuel + 1, cs, x, h => by
    unfold plainT at ht
    unfold Shape
    rw [DataW.trod.eq_def] at h
    simp only at h
    split at ht
    rotate_right 1
    · cases ht
    all_goals (rename_i hu; simp only [hu] at h)
    · split at h <;> rename_i heq <;> (try cases heq)
      · rename_i b
        exact ⟨[.bool b], ⟨.bool b, trivial⟩, by simp [vone], b, rfl⟩
      · cases h
    · rename_i k
      split at h <;> rename_i heq <;> (try cases heq)
      · rename_i k' m
        split at h
        · rename_i hk
          obtain ⟨rfl, hwf⟩ := hk
          refine ⟨[.int k' m], ⟨.int k' m, trivial⟩, by simp [vone], m, rfl, ?_⟩
          simpa [Lit.wf] using hwf
        · cases h
      · cases h
    · split at h <;> rename_i heq <;> (try cases heq)
      · rename_i s
        split at h
        · rename_i hs
          exact ⟨[.str s], ⟨.str s, trivial⟩, by simp [vone], s, rfl, hs⟩
        · cases h
      · cases h
    · rename_i e
      rw [Bool.and_eq_true] at ht
      have hc : 0 < P.cellsOf e := Nat.lt_of_not_le fun hh => by
        have := Nat.le_of_ble_eq_true ht.1
        omega
      split at h <;> rename_i heq <;> (try cases heq)
      · exact ⟨[.nils], ⟨.nils, trivial⟩, by simp [vone], .inl rfl⟩
      · rename_i a len cap
        split at h
        · rename_i hb
          obtain ⟨_, hlc, hcm⟩ := hb
          obtain ⟨elems, he, h⟩ := Option.bind_eq_some_iff.1 h
          simp only [if_true] at h
          obtain ⟨rest, hr, h⟩ := Option.map_eq_some_iff.1 h
          obtain ⟨hel, heg⟩ := mapM_get he
          obtain ⟨hrl, hrg⟩ := mapM_get hr
          have hat : ∀ i, i < cap → ∃ vs y, W.cells? 0 (a.add (i * P.cellsOf e)) (P.cellsOf e) = some vs ∧ DataW.trod enc P W 0 (fun _ => true) true fuel e vs = some y := by
            intro i hi
            have key : ∃ y, (W.cells? 0 (a.add (i * P.cellsOf e)) (P.cellsOf e)).bind (DataW.trod enc P W 0 (fun _ => true) true fuel e) = some y := by
              by_cases hil : i < len
              · obtain ⟨y, hy, _⟩ := heg i i (by simp [hil])
                exact ⟨y, hy⟩
              · obtain ⟨y, hy, _⟩ := hrg (i - len) (i - len) (by rw [List.getElem?_range (by omega)])
                rw [show len + (i - len) = i by omega] at hy
                exact ⟨y, hy⟩
            obtain ⟨y, hy⟩ := key
            obtain ⟨vs, h1, h2⟩ := Option.bind_eq_some_iff.1 hy
            exact ⟨vs, y, h1, h2⟩
          have hsp : cap ≠ 0 → a.spot = none := by
            intro h0
            obtain ⟨vs, y, h1, _⟩ := hat 0 (by omega)
            obtain ⟨v, hv, _⟩ := (cells_get h1).2 0 hc
            have h9 := spot_of hv
            rw [Nat.zero_mul] at h9
            exact h9
          have hrow := rows (ρ := ρ) (W := W) (hT := Shape P n e) (c := P.cellsOf e) (V := fun j => ((pcell (fun b => W.heap[b]?) a.block (a.off + j)).getD undef)) cap fun i hi => by
            obtain ⟨vs, y, h1, h2⟩ := hat i hi
            obtain ⟨as, q1, q2, q3⟩ := trod_shape n e ht.2 fuel vs y h2
            obtain ⟨hl, hg⟩ := cells_get h1
            refine ⟨as, vs, q1, hl, fun j hj => ?_, q2, q3⟩
            obtain ⟨v, hv1, hv2⟩ := hg j hj
            have hs0 : a.spot = none := hsp (by omega)
            have hs1 : (a.add (i * P.cellsOf e)).spot = none := by unfold Addr.add; split <;> simp [hs0]
            have := cell_at hv1 hs1
            have ho : (a.add (i * P.cellsOf e)).off = a.off + i * P.cellsOf e := by unfold Addr.add; split <;> simp_all
            have hb : (a.add (i * P.cellsOf e)).block = a.block := by unfold Addr.add; split <;> rfl
            rw [ho, hb, Nat.add_assoc] at this
            rw [hv2, this]
            rfl
          have hcell : ∀ j, j < cap * P.cellsOf e → ∃ v, pcell (fun b => W.heap[b]?) a.block (a.off + j) = some v := by
            intro j hj
            have hi : j / P.cellsOf e < cap := Nat.div_lt_of_lt_mul (by rw [Nat.mul_comm]; exact hj)
            obtain ⟨vs, y, h1, _⟩ := hat _ hi
            obtain ⟨v, hv1, _⟩ := (cells_get h1).2 (j % P.cellsOf e) (Nat.mod_lt _ hc)
            have hs0 : a.spot = none := hsp (Nat.ne_of_gt (Nat.lt_of_le_of_lt (Nat.zero_le _) hi))
            have hs1 : (a.add (j / P.cellsOf e * P.cellsOf e)).spot = none := by unfold Addr.add; split <;> simp [hs0]
            have := cell_at hv1 hs1
            have ho : (a.add (j / P.cellsOf e * P.cellsOf e)).off = a.off + j / P.cellsOf e * P.cellsOf e := by unfold Addr.add; split <;> simp_all
            have hb : (a.add (j / P.cellsOf e * P.cellsOf e)).block = a.block := by unfold Addr.add; split <;> rfl
            rw [ho, hb, Nat.add_assoc, Nat.div_add_mod'] at this
            exact ⟨v, this⟩
          obtain ⟨row, r1, r2, r3, r4⟩ := hrow
          refine ⟨[.rsl row 0 len (some cap)], ⟨?_, trivial⟩, by simp [vone], .inr ⟨row, len, cap, rfl, hlc, hcm, r1, r4⟩⟩
          obtain ⟨b, off, sp⟩ := a
          refine VRel.rsl (b := b) (s := off) (cap' := cap) (sp := sp) _ hlc hsp (fun c hc => by cases hc; rfl) (fun i hi => ?_) (fun i hi => r3 i (by omega)) r2
          obtain ⟨v, hv⟩ := hcell i (by omega)
          simp only at hv ⊢
          rw [hv]
          rfl
        · cases h
      · cases h
    · rename_i fs
      rw [Bool.and_eq_true] at ht
      have hgen : ∀ (hcs : cs.length = P.cellsOf t) (r : List (DataW H × List MemPlace)), (fs.toList.mapM fun f => DataW.trod enc P W 0 (fun _ => true) true fuel f.type ((cs.drop f.offset).take (P.cellsOf f.type))) = some r →
          ∃ as, VRels (fun b => W.heap[b]?) ρ as cs ∧ (∀ v ∈ cs, vone v = true) ∧ as.length = P.cellsOf t ∧ ∀ f ∈ fs.toList, Shape P n f.type ((as.drop f.offset).take (P.cellsOf f.type)) := by
        intro hcs r hr
        obtain ⟨_, hg⟩ := mapM_get hr
        obtain ⟨_, as, h1, h2, h3⟩ := tiles (ρ := ρ) (W := W) (fun t as => Shape P n t as) (cs := cs) fs.toList 0 (P.cellsOf t) ht.1 (by omega) fun f hf => by
          obtain ⟨i, hi, rfl⟩ := List.getElem_of_mem hf
          obtain ⟨y, hy, _⟩ := hg i _ (List.getElem?_eq_getElem hi)
          exact trod_shape n _ (List.all_eq_true.1 ht.2 _ hf) fuel _ y hy
        rw [List.drop_zero, Nat.sub_zero, List.take_of_length_le (by omega)] at h1 h2
        refine ⟨as, h1, h2, h1.length.trans hcs, fun f hf => ?_⟩
        have := (h3 f hf).2
        rwa [Nat.sub_zero] at this
      split at h <;> rename_i heq <;> (try cases heq)
      · obtain ⟨r, hr, _⟩ := Option.map_eq_some_iff.1 h
        exact hgen (by assumption) r hr
      · cases h
attribute [irreducible] Shape plainT
end Go.AM
