/- The operations, ended: indexes, slices, maps, append, calls. -/
import Derived.Test.YtgkopheekihkjaaDoorAMe
set_option linter.unusedVariables false
set_option linter.unusedSimpArgs false
namespace Go.AM
variable {P : Program} {π : Prot} {ρ : Ren} {H : AHeap} {w : World}
variable {e : Operand → Option AV} {eval : Operand → Value}

theorem slen_rel {s : AV} {s' : Value} {n : Nat} (h : slen s = some n) (hs : VRel π ρ s s') : ∃ a c, s' = .slice a n c := by
  unfold slen at h
  split at h <;> cases h <;> cases hs <;> exact ⟨_, _, rfl⟩
theorem sizeT_rel {t : TypeId} {n : Nat} (h : sizeT P t = some n) : ∃ i, P.info? t = some i ∧ i.size = n := by
  obtain ⟨i, hi, hn⟩ := Option.map_eq_some_iff.1 h
  exact ⟨i, hi, hn⟩
theorem aIndexAddr_ok (hs : Sim π ρ H w) (he : EvR π ρ e eval) {t : TypeId} {x ix : Operand} {r : ARes} (h : aIndexAddr P e H t x ix = some r) :
    OpOK P π ρ H w r ((do pure (Next.value (← Instr.indexAt t (eval x) (eval ix))) : Sem Next).run P w) := by
  unfold aIndexAddr at h
  split at h
  · rename_i el s k i hD hx hi
    split at h
    · rename_i n len hn hl
      obtain ⟨inf, hinf, rfl⟩ := sizeT_rel hn
      split at h
      · rename_i hb
        have hxv := he x _ hx
        have hiv := he ix _ hi
        generalize eval x = x' at *
        generalize eval ix = i' at *
        cases hiv
        split at h
        · rename_i id off len' cap wd ex
          simp only [slen, Option.some.injEq] at hl
          subst hl
          cases hw : Nat.beq wd inf.size with
          | false => rw [hw] at h; cases h
          | true =>
            rw [hw] at h
            cases h
            obtain ⟨b, off', cap', sh, rfl, h1, h2, h3, h4, h5, h6, h7⟩ := hxv.sl_inv
            have : off' = sh.1 + off := by
              rcases h5 with h5 | h5
              · omega
              · exact h5
            subst this
            refine OpOK.pure hs (v' := .pointer (some ⟨b, sh.1 + (off + i.toNat * inf.size), none⟩)) ?_ (.ptr h1)
            simp [Instr.indexAt, asIntOf, run_underlying hD, hb, run_sizeOf hinf, add_spot, Nat.add_assoc]
        · rename_i row off len' cap
          simp only [slen, Option.some.injEq] at hl
          subst hl
          cases h
          obtain ⟨b, s, cap', vs, sp, rfl, h1, hsp, h2, h3, h4, h5⟩ := hxv.rsl_inv
          obtain rfl := hsp (by omega)
          refine OpOK.pure hs (v' := .pointer (some ⟨b, s + (off + i.toNat * inf.size), none⟩)) ?_ (.rptr vs h3 h4 h5)
          simp [Instr.indexAt, asIntOf, run_underlying hD, hb, run_sizeOf hinf, add_spot, Nat.add_assoc]
        · cases h
      · cases h
    · cases h
  · rename_i len el a k i hD hx hi
    split at h
    · rename_i n hn
      obtain ⟨inf, hinf, rfl⟩ := sizeT_rel hn
      split at h
      · rename_i hb
        split at h
        · rename_i p hp
          cases h
          have hxv := he x _ hx
          have hiv := he ix _ hi
          generalize eval x = x' at *
          generalize eval ix = i' at *
          cases hiv
          obtain ⟨b, o, rfl, hr⟩ := addP_rel hp hxv
          refine OpOK.pure hs ?_ hr
          simp [Instr.indexAt, Instr.sureAddr, asIntOf, run_underlying hD, hb, run_sizeOf hinf, add_spot]
        · cases h
      · cases h
    · cases h
  · cases h
theorem bytes_get (s : ByteArray) (i : Nat) : s[i]? = s.data.toList[i]? := by
  rw [Array.getElem?_toList]
  by_cases h : i < s.size
  · rw [getElem?_pos s i h, getElem?_pos s.data i h]; rfl
  · rw [getElem?_neg s i h, getElem?_neg s.data i h]
theorem aIndex_ok (hs : Sim π ρ H w) (he : EvR π ρ e eval) {t : TypeId} {x ix : Operand} {r : ARes} (h : aIndex P e H t x ix = some r) :
    OpOK P π ρ H w r ((do pure (Next.value (← Instr.index t (eval x) (eval ix))) : Sem Next).run P w) := by
  unfold aIndex at h
  split at h
  · rename_i len el cs k i hD hx hi
    split at h
    · rename_i n hn
      obtain ⟨inf, hinf, rfl⟩ := sizeT_rel hn
      split at h
      · rename_i hb
        split at h
        · rename_i v hv
          cases h
          have hxv := he x _ hx
          have hiv := he ix _ hi
          generalize eval x = x' at *
          generalize eval ix = i' at *
          cases hiv
          obtain ⟨ys, rfl, hys, h1⟩ := hxv.agg_inv
          obtain ⟨y, hy, hr⟩ := part_rel (w := w) hys h1 hv
          exact OpOK.pure hs (by simp [Instr.index, asIntOf, run_underlying hD, hb, run_sizeOf hinf, hy]) hr
        · cases h
      · cases h
    · cases h
  · rename_i s k i hD hx hi
    split at h
    · rename_i hb
      split at h
      · rename_i b hbt
        cases h
        have hxv := he x _ hx
        have hiv := he ix _ hi
        generalize eval x = x' at *
        generalize eval ix = i' at *
        cases hiv
        cases hxv
        refine OpOK.pure hs (v' := .int .u8 b.toNat) ?_ (.int _ _)
        rw [← bytes_get] at hbt
        simp [Instr.index, asIntOf, run_underlying hD, hb, hbt]
      · cases h
    · cases h
  · cases h

/-! ### Slices -/
def OR (π : Prot) (ρ : Ren) : Option AV → Option Value → Prop
  | none, none => True
  | some a, some v => VRel π ρ a v
  | _, _ => False
theorem evO_rel (he : EvR π ρ e eval) {x : Option Operand} {a : Option AV} (h : evO e x = some a) : OR π ρ a (x.map eval) := by
  unfold evO at h
  split at h
  · cases h; trivial
  · rename_i y
    split at h
    · rename_i v hv
      cases h
      exact he y v hv
    · cases h
theorem bound_rel {x : AV} {x' : Value} {d top top' n : Nat} (h : boundA (some x) d top = some n) (hx : VRel π ρ x x') (ht : top ≤ top') (c : BoundsCode) : (Instr.sliceBound x' top' c).run P w = .ok n w ∧ n ≤ top := by
  unfold boundA at h
  split at h
  · rename_i heq; cases heq
  · rename_i k i heq
    cases heq
    split at h
    · rename_i hb
      cases h
      cases hx
      have : 0 ≤ i ∧ i ≤ (top' : Int) := by omega
      exact ⟨by simp [Instr.sliceBound, asIntOf, this], by omega⟩
    · cases h
  · cases h
theorem bounds_rel {lo hi mx : Option AV} {lo' hi' mx' : Option Value} (hlo : OR π ρ lo lo') (hhi : OR π ρ hi hi') (hmx : OR π ρ mx mx') {len cap cap' m h l : Nat} (hc : cap ≤ cap') (hl : len ≤ cap) (is : Bool)
    (h1 : boundA mx cap cap = some m) (h2 : (mx.isSome && hi.isNone) = false) (h3 : boundA hi len m = some h) (h4 : boundA lo 0 h = some l) :
    (Instr.sliceBounds is len cap' lo' hi' mx').run P w = .ok (l, h, if mx.isSome then m else cap') w ∧ l ≤ h ∧ h ≤ m ∧ m ≤ cap := by
  have b1 : ∀ c, (match mx' with | some v => Instr.sliceBound v cap' c | none => pure cap' : Sem Nat).run P w = .ok (if mx.isSome then m else cap') w ∧ m ≤ cap := fun c => by
    cases mx with
    | none =>
      cases mx' with
      | none => simp [boundA] at h1; subst h1; exact ⟨rfl, Nat.le_refl _⟩
      | some _ => exact hmx.elim
    | some a =>
      cases mx' with
      | none => exact hmx.elim
      | some v => have := bound_rel (P := P) (w := w) h1 hmx hc c; exact ⟨by simpa using this.1, this.2⟩
  have hm := (b1 .index).2
  have b3 : ((lo' = none ∧ l = 0) ∨ ∃ v, lo' = some v ∧ ∀ c, (Instr.sliceBound v h c).run P w = .ok l w) ∧ l ≤ h := by
    cases lo with
    | none =>
      cases lo' with
      | none => simp [boundA] at h4; subst h4; exact ⟨.inl ⟨rfl, rfl⟩, Nat.zero_le _⟩
      | some _ => exact hlo.elim
    | some a =>
      cases lo' with
      | none => exact hlo.elim
      | some v => exact ⟨.inr ⟨v, rfl, fun c => (bound_rel h4 hlo (Nat.le_refl _) c).1⟩, (bound_rel (P := P) (w := w) h4 hlo (Nat.le_refl _) .index).2⟩
  obtain ⟨b3, hlh⟩ := b3
  cases mx with
  | none =>
    cases mx' with
    | some _ => exact hmx.elim
    | none =>
    simp only [boundA, Option.some.injEq] at h1
    subst h1
    cases hi with
    | none =>
      cases hi' with
      | some _ => exact hhi.elim
      | none =>
      simp only [boundA, Option.some.injEq] at h3
      subst h3
      refine ⟨?_, hlh, hl, hm⟩
      rcases b3 with ⟨rfl, rfl⟩ | ⟨v, rfl, b3⟩
      · simp [Instr.sliceBounds]
      · simp [Instr.sliceBounds, b3]
    | some a =>
      cases hi' with
      | none => exact hhi.elim
      | some v =>
      have hh := fun c => bound_rel (P := P) (w := w) h3 hhi hc c
      refine ⟨?_, hlh, (hh .index).2, hm⟩
      have hh' := fun c => (hh c).1
      rcases b3 with ⟨rfl, rfl⟩ | ⟨v, rfl, b3⟩
      · simp [Instr.sliceBounds, hh']
      · simp [Instr.sliceBounds, hh', b3]
  | some a =>
    cases mx' with
    | none => exact hmx.elim
    | some v =>
    cases hi with
    | none => simp at h2
    | some a2 =>
      cases hi' with
      | none => exact hhi.elim
      | some v2 =>
      have hh := fun c => bound_rel (P := P) (w := w) h3 hhi (Nat.le_refl m) c
      refine ⟨?_, hlh, (hh .index).2, hm⟩
      have b1' := fun c => (b1 c).1
      simp only [Option.isSome_some, if_true] at b1'
      have hh' := fun c => (hh c).1
      rcases b3 with ⟨rfl, rfl⟩ | ⟨v, rfl, b3⟩
      · simp [Instr.sliceBounds, b1', hh']
      · simp [Instr.sliceBounds, b1', hh', b3]
theorem aSlice_ok (hs : Sim π ρ H w) (he : EvR π ρ e eval) {t : TypeId} {x : Operand} {lo hi mx : Option Operand} {r : ARes} (h : aSlice P e H t x lo hi mx = some r) :
    OpOK P π ρ H w r ((do pure (Next.value (← Instr.sliceAt t (eval x) (lo.map eval) (hi.map eval) (mx.map eval))) : Sem Next).run P w) := by
  unfold aSlice at h
  split at h
  · rename_i a l0 h0 m0 hx hl0 hh0 hm0
    have hxv := he x _ hx
    have hlo := evO_rel he hl0
    have hhi := evO_rel he hh0
    have hmx := evO_rel he hm0
    generalize eval x = x' at *
    generalize lo.map eval = lo' at *
    generalize hi.map eval = hi' at *
    generalize mx.map eval = mx' at *
    unfold sliceA at h
    split at h
    · rename_i n el hD
      split at h
      · rename_i size hsz
        obtain ⟨inf, hinf, rfl⟩ := sizeT_rel hsz
        split at h
        · rename_i h1 hb1
          split at h
          · rename_i l1 hb2
            have hb := bounds_rel (P := P) (w := w) (cap := n) (cap' := n) (len := n) (m := n) hlo hhi hmx (Nat.le_refl n) (Nat.le_refl n) false rfl rfl hb1 hb2
            obtain ⟨hrun, hb3, hb4, hb5⟩ := hb
            simp only [Option.isSome_none, Bool.false_eq_true, if_false] at hrun
            split at h
            · rename_i id off
              split at h
              · rename_i cs hg
                cases hlen : hasLen cs (off + n * inf.size) with
                | false => rw [hlen] at h; cases h
                | true =>
                  rw [hlen] at h
                  cases h
                  have hle := hasLen_iff.1 hlen
                  obtain ⟨b, sh, rfl, hr⟩ := hxv.ptr_inv
                  obtain ⟨O, hO, hR⟩ := hs.obj id _ b sh hg hr
                  obtain ⟨c, el', fr, rfl, hlen2, hcsz, hcell, hfr⟩ := hR.cells_inv
                  refine OpOK.pure hs (v' := .slice (some ⟨b, if n = l1 then sh.1 + off else sh.1 + off + l1 * inf.size, none⟩) (h1 - l1) (n - l1)) ?_ (.sl hr (by omega) (fun _ => rfl) (Nat.le_refl _) (.inr (by split <;> omega)) ?_ (by split <;> omega))
                  · simp only [Instr.sliceAt, Sem.run_bind, run_underlying hD, Result.andThen_ok, Instr.sureAddr, Sem.run_pure, hrun, run_sizeOf hinf]
                    split <;> simp [add_spot]
                  · split
                    · rename_i hnl
                      subst hnl
                      simp
                      omega
                    · have : l1 * inf.size + (n - l1) * inf.size = n * inf.size := by rw [← Nat.add_mul]; congr 1; omega
                      omega
              · cases h
            · rename_i row off
              cases h
              obtain ⟨b, s, vs, rfl, hc1, hc2, hc3⟩ := hxv.rptr_inv
              have := VRel.rsl (π := π) (ρ := ρ) (row := row) (off := if n = l1 then off else off + l1 * inf.size) (len := h1 - l1) (cap := some (n - l1)) (b := b) (s := s) (cap' := n - l1) (sp := none) vs (by omega) (fun _ => rfl) (fun c hc => by cases hc; rfl) hc1 hc2 hc3
              refine OpOK.pure hs (v' := .slice (some ⟨b, s + (if n = l1 then off else off + l1 * inf.size), none⟩) (h1 - l1) (n - l1)) ?_ this
              simp only [Instr.sliceAt, Sem.run_bind, run_underlying hD, Result.andThen_ok, Instr.sureAddr, Sem.run_pure, hrun, run_sizeOf hinf]
              split <;> simp [add_spot, Nat.add_assoc]
            · cases h
          · cases h
        · cases h
      · cases h
    · rename_i hD
      split at h
      · rename_i s
        split at h
        · rename_i h1 hb1
          split at h
          · rename_i l1 hb2
            cases h
            cases hxv
            have hb := bounds_rel (P := P) (w := w) (cap := s.size) (cap' := s.size) (len := s.size) (m := s.size) hlo hhi hmx (Nat.le_refl _) (Nat.le_refl _) false rfl rfl hb1 hb2
            have hmn : mx' = none := by cases mx' with | none => rfl | some _ => exact hmx.elim
            subst hmn
            refine OpOK.pure hs (v' := .string (s.extract l1 h1)) ?_ (.str _)
            simp [Instr.sliceAt, Instr.slice, run_underlying hD, hb.1]
          · cases h
        · cases h
      · cases h
    · rename_i el hD
      split at h
      · rename_i size hsz
        obtain ⟨inf, hinf, rfl⟩ := sizeT_rel hsz
        split at h
        · -- nil
          split at h
          · rename_i m hm
            split at h
            · cases h
            · rename_i h2
              split at h
              · rename_i h1 hb1
                split at h
                · rename_i l1 hb2
                  cases h
                  cases hxv
                  have hb := bounds_rel (P := P) (w := w) (cap := 0) (cap' := 0) (len := 0) (m := m) hlo hhi hmx (Nat.le_refl _) (Nat.le_refl _) true hm (Bool.eq_false_iff.2 h2) hb1 hb2
                  obtain ⟨hrun, hb3, hb4, hb5⟩ := hb
                  obtain rfl : m = 0 := by omega
                  obtain rfl : h1 = 0 := by omega
                  obtain rfl : l1 = 0 := by omega
                  have hrun' : (Instr.sliceBounds true 0 0 lo' hi' mx').run P w = .ok (0, 0, 0) w := by rw [hrun]; split <;> rfl
                  refine OpOK.pure hs (v' := .slice none 0 0) ?_ .nils
                  simp [Instr.sliceAt, Instr.slice, run_underlying hD, hrun', run_sizeOf hinf]
                · cases h
              · cases h
          · cases h
        · rename_i id off len cap wd ex
          split at h
          · cases h
          · rename_i hwd
            have hwd' : wd = inf.size := by
              have : Nat.beq wd inf.size = true := by simpa using hwd
              exact Nat.eq_of_beq_eq_true this
            subst hwd'
            split at h
            · rename_i m hm
              split at h
              · cases h
              · rename_i h2
                split at h
                · rename_i h1 hb1
                  split at h
                  · rename_i l1 hb2
                    cases h
                    obtain ⟨b, off', cap', sh, rfl, hr, hle, hex, hcc, hoo, hzz, hss⟩ := hxv.sl_inv
                    have hb := bounds_rel (P := P) (w := w) (cap := cap) (cap' := cap') (len := len) (m := m) hlo hhi hmx hcc hle true hm (Bool.eq_false_iff.2 h2) hb1 hb2
                    obtain ⟨hrun, hb3, hb4, hb5⟩ := hb
                    generalize hM : (if m0.isSome = true then m else cap') = M at hrun
                    have hMm : m ≤ M ∧ M ≤ cap' := by rw [← hM]; split <;> omega
                    refine OpOK.pure hs (v' := .slice (some ⟨b, if M = l1 then off' else off' + l1 * inf.size, none⟩) (h1 - l1) (M - l1)) ?_ (.sl hr (by omega) ?_ (by omega) ?_ ?_ (by split <;> omega))
                    · simp only [Instr.sliceAt, Instr.slice, Sem.run_bind, run_underlying hD, Result.andThen_ok, hrun, run_sizeOf hinf]
                      split <;> simp [add_spot]
                    · intro hx2
                      have : M = m := by
                        rw [← hM]
                        cases hsm : m0 with
                        | some _ => simp
                        | none =>
                          simp [hsm] at hx2
                          have := hex hx2
                          simp [hsm, boundA] at hm
                          simp
                          omega
                      rw [this]
                    · by_cases hml : m - l1 = 0
                      · exact .inl hml
                      · right
                        have hoo' : off' = sh.1 + off := by
                          rcases hoo with h5 | h5
                          · omega
                          · exact h5
                        rw [if_neg (by omega), if_neg (by omega), hoo']
                        omega
                    · split
                      · rename_i hMl
                        subst hMl
                        simp
                        have := Nat.mul_le_mul_right inf.size hMm.2
                        omega
                      · have h6 : l1 * inf.size + (M - l1) * inf.size = M * inf.size := by rw [← Nat.add_mul]; congr 1; omega
                        have := Nat.mul_le_mul_right inf.size hMm.2
                        omega
                  · cases h
                · cases h
            · cases h
        · rename_i row off len cap
          split at h
          · rename_i m hm
            split at h
            · cases h
            · rename_i h2
              split at h
              · rename_i h1 hb1
                split at h
                · rename_i l1 hb2
                  cases h
                  obtain ⟨b, s, cap', vs, sp, rfl, hle, hsp, hcap, hc1, hc2, hc3⟩ := hxv.rsl_inv
                  have hcc := hcap cap rfl
                  subst hcc
                  have hb := bounds_rel (P := P) (w := w) (cap := cap') (cap' := cap') (len := len) (m := m) hlo hhi hmx (Nat.le_refl _) hle true hm (Bool.eq_false_iff.2 h2) hb1 hb2
                  obtain ⟨hrun, hb3, hb4, hb5⟩ := hb
                  have hM : (if m0.isSome = true then m else cap') = m := by
                    cases hsm : m0 with
                    | some _ => simp
                    | none => simp [hsm, boundA] at hm; simp [hm]
                  rw [hM] at hrun
                  have := VRel.rsl (π := π) (ρ := ρ) (row := row) (off := if m = l1 then off else off + l1 * inf.size) (len := h1 - l1) (cap := some (m - l1)) (b := b) (s := s) (cap' := m - l1) (sp := sp) vs (by omega) (fun hne => hsp (by omega)) (fun c hc => by cases hc; rfl) hc1 hc2 hc3
                  refine OpOK.pure hs (v' := .slice (some ⟨b, s + (if m = l1 then off else off + l1 * inf.size), sp⟩) (h1 - l1) (m - l1)) ?_ this
                  simp only [Instr.sliceAt, Instr.slice, Sem.run_bind, run_underlying hD, Result.andThen_ok, hrun, run_sizeOf hinf]
                  split
                  · simp [*]
                  · rename_i hml
                    obtain rfl := hsp (by omega)
                    simp [add_spot, Nat.add_assoc, hml]
                · cases h
              · cases h
          · cases h
        · cases h
      · cases h
    · cases h
  · cases h
theorem aExtract_ok (hs : Sim π ρ H w) (he : EvR π ρ e eval) {x : Operand} {i : Nat} {r : ARes} (h : aExtract e H x i = some r) : OpOK P π ρ H w r ((do pure (Next.value (← Instr.extract (eval x) i)) : Sem Next).run P w) := by
  unfold aExtract at h
  split at h
  · rename_i vs hx
    split at h
    · rename_i v hv
      cases h
      have hxv := he x _ hx
      generalize eval x = x' at *
      obtain ⟨ys, rfl, hys⟩ := hxv.tup_inv
      obtain ⟨y, hy, hr⟩ := hys.get _ _ hv
      exact OpOK.pure hs (by simp [Instr.extract, hy]) hr
    · cases h
  · cases h
theorem VRel.pair {a b : AV} {x y : Value} (h : VRel π ρ a x) (k : VRel π ρ b y) : VRel π ρ (.tup [a, b]) (.tuple #[x, y]) := by
  have := VRel.tupL (π := π) (ρ := ρ) (xs := [a, b]) (ys := [x, y]) ⟨h, k, trivial⟩
  simpa using this
theorem aAssert_ok (hs : Sim π ρ H w) (he : EvR π ρ e eval) {x : Operand} {xt t : TypeId} {ok : Bool} {r : ARes} (h : aAssert P e H x t ok = some r) : OpOK P π ρ H w r ((do pure (Next.value (← Instr.typeAssert (eval x) xt t ok)) : Sem Next).run P w) := by
  unfold aAssert at h
  split at h
  · rename_i a hx
    have hxv := he x _ hx
    generalize eval x = x' at *
    unfold assertA at h
    simp only at h
    split at h
    · cases h
    · rename_i D hD
      have holds : ∀ {v : AV} {v' : Value}, VRel π ρ v v' → OpOK P π ρ H w (.val (if ok then .tup [v, .bool true] else v) H) (.ok (.value (if ok then .tuple #[v', .bool true] else v')) w) := fun hv => by
        refine OpOK.pure hs rfl ?_
        cases ok
        · simpa using hv
        · simpa using hv.pair (.bool true)
      have fails : ∀ {r : ARes}, (if ok = true then (zeroT P t).bind fun z => val (AV.tup [z, AV.bool false]) H else none) = some r → ok = true ∧ ∃ z z', r = .val (.tup [z, .bool false]) H ∧ (zeroValue t).run P w = .ok z' w ∧ VRel π ρ (.tup [z, .bool false]) (.tuple #[z', .bool false]) := fun hf => by
        split at hf
        · rename_i hok
          cases hz : zeroT P t with
          | none => rw [hz] at hf; cases hf
          | some z =>
            rw [hz] at hf
            cases hf
            obtain ⟨z', hz', hr⟩ := zero_rel (w := w) hz
            exact ⟨hok, z, z', rfl, hz', hr.pair (.bool false)⟩
        · cases hf
      split at h
      · cases hxv
        obtain ⟨hok, z, z', rfl, hz', hr⟩ := fails h
        exact OpOK.pure hs (by simp [Instr.typeAssert, run_underlying hD, hok, hz']) hr
      · split at h
        · rename_i i hi
          split at h
          · rename_i hm
            cases h
            have := holds hxv
            cases hxv
            simp only [Instr.typeAssert, Sem.run_bind, run_underlying hD, Result.andThen_ok, run_typeInfo' hi, hm]
            exact this
          · rename_i mm hm
            obtain ⟨hok, z, z', rfl, hz', hr⟩ := fails h
            cases hxv
            exact OpOK.pure hs (by simp [Instr.typeAssert, run_underlying hD, run_typeInfo' hi, hm, hok, hz']) hr
        · cases h
      · rename_i hnI
        cases hxv
        obtain ⟨hok, z, z', rfl, hz', hr⟩ := fails h
        refine OpOK.pure hs ?_ hr
        simp only [Instr.typeAssert, Sem.run_bind, run_underlying hD, Result.andThen_ok]
        cases D <;> first | (simp [hok, hz']; done) | exact (hnI _ rfl).elim
      · rename_i hnI tt v
        split at h
        · rename_i htt
          cases h
          cases hxv with
          | ifc hv =>
          have := holds hv
          simp only [Instr.typeAssert, Sem.run_bind, run_underlying hD, Result.andThen_ok]
          cases D <;> first | (simp only [htt, if_true]; exact this) | exact (hnI _ rfl).elim
        · rename_i htt
          obtain ⟨hok, z, z', rfl, hz', hr⟩ := fails h
          cases hxv
          refine OpOK.pure hs ?_ hr
          simp only [Instr.typeAssert, Sem.run_bind, run_underlying hD, Result.andThen_ok]
          cases D <;> first | (simp [hok, hz', htt]; done) | exact (hnI _ rfl).elim
      · cases h
  · cases h
theorem aRange_ok (hs : Sim π ρ H w) (he : EvR π ρ e eval) {t : TypeId} {x : Operand} {r : ARes} (h : aRange P e H t x = some r) : OpOK P π ρ H w r ((do pure (Next.value (← Instr.range t (eval x))) : Sem Next).run P w) := by
  unfold aRange at h
  split at h
  · rename_i s hD hx
    cases h
    have hxv := he x _ hx
    generalize eval x = x' at *
    cases hxv
    obtain ⟨s1, s2⟩ := hs.alloc (.siter s 0) (.stringIter s 0) .siter
    exact ⟨_, _, .pointer (some ⟨w.heap.size, 0 + 0, none⟩), .inl (by simp [Instr.range, run_underlying hD]), .ptr (put_self _ _ _), s1, s2⟩
  · cases h
theorem run_getObj' {b : Nat} {O : Obj} (h : w.heap[b]? = some O) (hn : ∀ c e f, O ≠ .cells c e f) : (getObj b).run P w = .ok O w := by
  simp only [getObj, Sem.run, h]
def putObj (w : World) (b : Nat) (O : Obj) : World := { w with heap := w.heap.setIfInBounds b O }
theorem run_setObj' {b : Nat} {O O' : Obj} (h : w.heap[b]? = some O) (hn : ∀ c e f, O ≠ .cells c e f) : (setObj b O').run P w = .ok () (putObj w b O') := by
  simp only [setObj, Sem.run, h]
  cases O <;> first | rfl | exact (hn _ _ _ rfl).elim
theorem Sim.putObj (hs : Sim π ρ H w) {id b : Nat} {s : Nat × Nat} {o o' : AObj} {O' : Obj} (hg : H.get id = some o) (hr : ρ id = some (b, s)) (hO : ORel π ρ s o' O') :
    Sim π ρ (H.set id o') (putObj w b O') ∧ Stp ρ H w ρ (H.set id o') (putObj w b O') := by
  obtain ⟨O, hb, _⟩ := hs.obj id o b s hg hr
  have hlt := (Array.getElem?_eq_some_iff.1 hb).1
  refine hs.upd hg hr ?_ (fun b' hb' => ?_) ?_ rfl rfl rfl hO
  · simp [AM.putObj, hlt]
  · simp [AM.putObj, Array.getElem?_setIfInBounds_ne (Ne.symm hb')]
  · simp [AM.putObj]
theorem aNext_ok (hs : Sim π ρ H w) (he : EvR π ρ e eval) {t : TypeId} {x : Operand} {b : Bool} {r : ARes} (h : aNext e H x b = some r) : OpOK P π ρ H w r ((do pure (Next.value (← Instr.next (eval x) b t)) : Sem Next).run P w) := by
  unfold aNext at h
  split at h
  · rename_i id hx
    split at h
    · rename_i s pos hg
      have hxv := he x _ hx
      generalize eval x = x' at *
      obtain ⟨bb, sh, rfl, hr⟩ := hxv.ptr_inv
      obtain ⟨O, hO, hR⟩ := hs.obj id _ bb sh hg hr
      cases hR
      have hget := run_getObj' (P := P) hO (by intro c e f hh; cases hh)
      cases hlt : Nat.blt pos s.size with
      | true =>
        rw [hlt] at h
        cases h
        have hlt' : pos < s.size := by simpa [Nat.blt_eq] using hlt
        obtain ⟨s1, s2⟩ := hs.putObj hg hr (o' := .siter s (pos + (Utf8.decode s pos).2)) (O' := .stringIter s (pos + (Utf8.decode s pos).2)) .siter
        refine ⟨ρ, _, .tuple #[.bool true, .int .i64 pos, .int .i32 (Utf8.decode s pos).1], .inl ?_, ?_, s1, s2⟩
        · simp [Instr.next, hget, hlt', run_setObj' (P := P) hO (by intro c e f hh; cases hh), goInt]
        · have := VRel.tupL (π := π) (ρ := ρ) (xs := [.bool true, .int .i64 pos, .int .i32 (Utf8.decode s pos).1]) (ys := [.bool true, .int .i64 pos, .int .i32 (Utf8.decode s pos).1]) ⟨.bool _, .int _ _, .int _ _, trivial⟩
          simpa using this
      | false =>
        rw [hlt] at h
        cases h
        have hlt' : ¬ pos < s.size := by
          intro hh
          rw [show Nat.blt pos s.size = true from by simpa [Nat.blt_eq] using hh] at hlt
          cases hlt
        refine OpOK.pure hs (v' := .tuple #[.bool false]) ?_ ?_
        · simp [Instr.next, hget, hlt']
        · have := VRel.tupL (π := π) (ρ := ρ) (xs := [.bool false]) (ys := [.bool false]) ⟨.bool _, trivial⟩
          simpa using this
    · cases h
  · cases h
end Go.AM
