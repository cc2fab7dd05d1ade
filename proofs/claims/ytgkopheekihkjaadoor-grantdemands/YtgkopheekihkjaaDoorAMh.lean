/- The operations: copy, make, conversions, calls; and all of them. -/
import Derived.Test.YtgkopheekihkjaaDoorAMg
set_option linter.unusedVariables false
set_option linter.unusedSimpArgs false
namespace Go.AM
variable {P : Program} {π : Prot} {ρ : Ren} {H : AHeap} {w : World}
variable {e : Operand → Option AV} {eval : Operand → Value}

theorem copy_ok (hs : Sim π ρ H w) {t0 : TypeId} {ts : List TypeId} {ty el : TypeId} {d x : AV} {d' x' : Value} {r : ARes} (hD : P.underlying t0 = some (.slice el)) (hdv : VRel π ρ d d') (hxv : VRel π ρ x x') (h : copyA P el H d x = some r) :
    OpOK P π ρ H w r ((do pure (Next.value (← Builtin.copy_ (t0 :: ts).toArray ty #[d', x'])) : Sem Next).run P w) := by
  unfold copyA at h
  split at h
  case h_2 => cases h
  rename_i i dl n hi hdl hn
  split at h
  case h_2 => cases h
  rename_i cs hcs
  cases hc : (wdIs x i.size && wdIs d i.size) with
  | false => rw [hc] at h; cases h
  | true =>
  rw [hc] at h
  simp only [Bool.and_eq_true] at hc
  simp only [cond_true] at h
  obtain ⟨db, dc, rfl⟩ := slen_rel hdl hdv
  obtain ⟨xb, xc, rfl⟩ := slen_rel hn hxv
  obtain ⟨vs, hvl, hvr, hv1, hrun⟩ := first_rel (P := P) hs hcs hxv (Nat.min_le_left _ _) (wdIs_rel hc.1) (fun hb => by have := (slen_nil hxv hb).2.1; omega)
  have hmin : n.min dl = min n dl := rfl
  have key : ∀ w', ((db = none ∧ w' = w) ∨ ∃ a, db = some a ∧ (storeCells a vs).run P w = .ok () w') → (do pure (Next.value (← Builtin.copy_ (t0 :: ts).toArray ty #[.slice db dl dc, .slice xb n xc])) : Sem Next).run P w = .ok (.value (.int .i64 (min n dl : Nat))) w' := by
    intro w' hw
    rcases hw with ⟨rfl, rfl⟩ | ⟨a, rfl, hst⟩
    · simp [Builtin.copy_, run_underlying hD, sizeOf, typeInfo, hi, Builtin.lenOf, hmin, hrun, goInt]
    · simp [Builtin.copy_, run_underlying hD, sizeOf, typeInfo, hi, Builtin.lenOf, hmin, hrun, goInt, hst]
  cases h0 : Nat.beq (min n dl * i.size) 0 with
  | true =>
    rw [h0] at h
    cases h
    have h0' := Nat.eq_of_beq_eq_true h0
    have : vs = [] := List.eq_nil_of_length_eq_zero (by rw [hvl, h0'])
    subst this
    refine OpOK.pure hs (key w ?_) (.int _ _)
    cases db with
    | none => exact .inl ⟨rfl, rfl⟩
    | some a => exact .inr ⟨a, rfl, rfl⟩
  | false =>
    rw [h0] at h
    simp only [cond_false] at h
    have hne : min n dl * i.size ≠ 0 := fun hh => by rw [hh] at h0; cases h0
    split at h
    · rename_i id off l c wd ex
      split at h
      · rename_i H' hH
        cases h
        obtain ⟨b, off', cap', sh, heq, hr, hle, hex, hcc, hoo, hzz, hss⟩ := hdv.sl_inv
        cases heq
        have hoff : off' = sh.1 + off := by
          rcases hoo with h5 | h5
          · have : dl = 0 := by omega
            subst this
            simp at hne
          · exact h5
        subst hoff
        obtain ⟨b2, o2, heq2, hst, s1, s2⟩ := hs.write (P := P) (.ptr (off := off) hr) hvr hv1 hH
        cases heq2
        exact ⟨ρ, _, _, .inl (key _ (.inr ⟨_, rfl, hst⟩)), .int _ _, s1, s2⟩
      · cases h
    · cases h

theorem aMake_ok (hs : Sim π ρ H w) (he : EvR π ρ e eval) {t : TypeId} {l c : Operand} {r : ARes} (h : aMake P e H t l c = some r) : OpOK P π ρ H w r ((do pure (Next.value (← Instr.makeSlice t (eval l) (eval c))) : Sem Next).run P w) := by
  unfold aMake at h
  split at h
  · rename_i el k n k' m hD hl hc
    split at h
    · rename_i i z hi hz
      split at h
      · rename_i hb
        cases h
        obtain ⟨h1, h2, h3, h4, h5, h6⟩ := hb
        have hlv := he l _ hl
        have hcv := he c _ hc
        generalize eval l = l' at *
        generalize eval c = c' at *
        cases hlv
        cases hcv
        obtain ⟨v, hv, hr⟩ := zero_rel (w := w) hz
        obtain ⟨n, rfl⟩ := Int.eq_ofNat_of_zero_le h1
        obtain ⟨m, rfl⟩ := Int.eq_ofNat_of_zero_le (a := m) (by omega)
        have h6' := lenIs_iff.1 h6
        obtain ⟨hz1, hz2⟩ := zeros_rel (n := m) hr.cells (hr.cells_one h5) h6'
        obtain ⟨s1, s2⟩ := newRow_ok hs hz1 hz2 [] el
        have hlim : limit = 70368744177664 := rfl
        have hwl : IntKind.i64.wrap (n : Int) = n := by simp [IntKind.wrap, IntKind.signed, IntKind.bits]; omega
        have hwm : IntKind.i64.wrap (m : Int) = m := by simp [IntKind.wrap, IntKind.signed, IntKind.bits]; omega
        have hpos : ∃ zz : Array Value, (m * i.size = 0 → zz = #[]) ∧ (m * i.size ≠ 0 → zz = v.cells) := ⟨if m * i.size = 0 then #[] else v.cells, fun h => by simp [h], fun h => by simp [h]⟩
        refine ⟨_, _, .slice (some ⟨w.heap.size, 0, none⟩) n m, .inl ?_, ?_, s1, s2⟩
        · have g1 : ¬ ((m : Int) < 0) := by omega
          have g2 : ¬ ((i.bytes : Int) * (m : Int) > 2 ^ 48) := by
            have : (i.bytes : Int) * (m : Int) = (m : Int) * i.bytes := Int.mul_comm _ _
            rw [this]
            have : (2 : Int) ^ 48 = 281474976710656 := by decide
            omega
          have g3 : ¬ ((n : Int) < 0) := by omega
          have g4 : ¬ ((n : Int) > (m : Int)) := by omega
          simp only [Instr.makeSlice, Sem.run_bind, run_underlying hD, Result.andThen_ok, asInt, asIntOf, Sem.run_pure, run_typeInfo' hi, hwl, hwm]
          simp only [g1, g2, g3, g4, decide_false, Bool.or_false, Bool.false_eq_true, if_false, Sem.run_bind, run_askRoom, Result.andThen_ok, Int.toNat_natCast, run_sizeOf hi]
          by_cases h0 : m * i.size = 0
          · simp [h0, Go.newRow, show Array.range 0 = #[] from rfl]
          · simp [h0, hv, Go.newRow]
            congr 2
            apply Array.ext'
            simp
        · refine .sl (put_self _ _ _) (by simp; omega) (fun _ => by simp) (by simp) (.inr rfl) ?_ (Nat.le_refl _)
          simp
      · cases h
    · cases h
  · cases h
theorem aConv_ok (hs : Sim π ρ H w) (he : EvR π ρ e eval) {s d : TypeId} {x : Operand} {r : ARes} (h : aConv P e H s d x = some r) : OpOK P π ρ H w r ((do pure (Next.value (← Go.convert s d (eval x))) : Sem Next).run P w) := by
  unfold aConv at h
  split at h
  · rename_i a ha
    have hxv := he x _ ha
    generalize eval x = x' at *
    unfold convA at h
    split at h
    · rename_i S k k' n hS hD
      cases h
      cases hxv
      refine OpOK.pure hs (v' := .int k (k.wrap n)) ?_ (.int _ _)
      simp only [Go.convert, Sem.run_bind, run_underlying hS, run_underlying hD, Result.andThen_ok]
      simp [Conv.intToInt]
    · rename_i S str hS hD
      split at h
      · cases h
        cases hxv
        refine OpOK.pure hs (v' := .string str) ?_ (.str _)
        simp only [Go.convert, Sem.run_bind, run_underlying hS, run_underlying hD, Result.andThen_ok]
        simp
      · cases h
    · cases h
  · cases h
theorem len_ok (hs : Sim π ρ H w) {t : TypeId} {ts : List TypeId} {ty : TypeId} {x : AV} {x' : Value} {n : Int} (hx : VRel π ρ x x') (h : lenA P t H x = some n) : (Builtin.len_ (t :: ts).toArray ty #[x']).run P w = .ok (.int .i64 n) w := by
  unfold lenA at h
  split at h
  · rename_i s hD; cases h; cases hx; simp [Builtin.len_, run_underlying hD, goInt]
  · rename_i m el hD; cases h; simp [Builtin.len_, run_underlying hD, goInt]
  · rename_i el hD
    split at h
    · rename_i k hk
      cases h
      obtain ⟨a, c, rfl⟩ := slen_rel hk hx
      simp [Builtin.len_, run_underlying hD, goInt]
    · cases h
  · rename_i kt el hD; cases h; cases hx; simp [Builtin.len_, run_underlying hD, goInt]
  · rename_i kt el id hD
    split at h
    · rename_i es hg
      cases h
      obtain ⟨b, rfl, hr⟩ := hx.mapv_inv
      obtain ⟨O, hO, hR⟩ := hs.obj id _ b _ hg hr
      cases hR
      rename_i xs clock hm
      have := hm.length
      have hget := run_getObj' (P := P) hO (by intro c e f hh; cases hh)
      simp [Builtin.len_, run_underlying hD, goInt, hget]
      have h9 : xs.size = es.length := by simpa using this.symm
      rw [h9]
    · cases h
  · cases h

/-! ### Calls -/
theorem enter_ok {f : FuncId} {args : List AV} {args' : List Value} {r : ARes} (ha : VRels π ρ args args') (h : enterA P f args = some r) : OpOK P π ρ H w r ((callFunc f args'.toArray).run P w) := by
  unfold enterA at h
  split at h
  · rename_i fn hf
    split at h
    · rename_i hc
      cases h
      simp only [Bool.and_eq_true, bne_iff_ne, ne_eq] at hc
      refine ⟨args', ?_, ha⟩
      obtain ⟨bd, hb⟩ := Option.isSome_iff_exists.1 hc.1
      simp [callFunc, hf, hc.2, hb]
    · cases h
  · cases h
theorem evs_array {xs : Array Operand} {as : List AV} (he : EvR π ρ e eval) (h : evs e xs.toList = some as) : ∃ vs : List Value, xs.map eval = vs.toArray ∧ VRels π ρ as vs :=
  ⟨xs.toList.map eval, by rw [← Array.toList_map, Array.toArray_toList], evs_rel he h⟩
theorem two_args {args : List AV} {a b : AV} {vs : List Value} (h : VRels π ρ [a, b] vs) : ∃ x y, vs = [x, y] ∧ VRel π ρ a x ∧ VRel π ρ b y := by
  match vs, h with
  | [x, y], h => exact ⟨x, y, rfl, h.1, h.2.1⟩
theorem one_arg {a : AV} {vs : List Value} (h : VRels π ρ [a] vs) : ∃ x, vs = [x] ∧ VRel π ρ a x := by
  match vs, h with
  | [x], h => exact ⟨x, rfl, h.1⟩
theorem builtin_ok (hs : Sim π ρ H w) {b : Builtin} {ts : Array TypeId} {ty : TypeId} {cs : Array Bool} {args : List AV} {vs : List Value} {r : ARes} (ha : VRels π ρ args vs) (h : builtinA P b ts H args = some r) :
    OpOK P π ρ H w r ((builtin b ts ty cs vs.toArray).run P w) := by
  unfold builtinA at h
  split at h
  · rename_i x
    obtain ⟨v, rfl, hv⟩ := one_arg ha
    split at h
    · rename_i t tr hts
      split at h
      · rename_i n hn
        cases h
        have hts' : ts = (t :: tr).toArray := by rw [← hts]
        subst hts'
        have := len_ok (ts := tr) (ty := ty) hs hv hn
        exact OpOK.pure hs (by simp only [builtin, Sem.run_bind, this, Result.andThen_ok, Sem.run_pure]) (.int _ _)
      · cases h
    · cases h
  · rename_i s x
    obtain ⟨s', x', rfl, hsv, hxv⟩ := two_args (args := []) ha
    split at h
    · rename_i t0 t1 hts
      have hts' : ts = #[t0, t1] := by rw [← Array.toArray_toList (xs := ts), hts]
      subst hts'
      split at h
      · rename_i el e2 hD hD1
        exact append_ok (ty := ty) hs hD hD1 (by intro k hk; cases hk) hsv hxv h
      · rename_i el hD hD1
        exact append_ok (ty := ty) hs hD hD1 (by intro k hk; cases hk) hsv hxv h
      · cases h
    · cases h
  · rename_i d x
    obtain ⟨d', x', rfl, hdv, hxv⟩ := two_args (args := []) ha
    split at h
    · rename_i t0 tr hts
      have hts' : ts = (t0 :: tr).toArray := by rw [← hts]
      subst hts'
      split at h
      · rename_i el hD
        exact copy_ok (ty := ty) hs hD hdv hxv h
      · cases h
    · cases h
  · rename_i k a k' b
    obtain ⟨x, y, rfl, hx, hy⟩ := two_args (args := []) ha
    split at h
    · rename_i hk
      subst hk
      cases h
      cases hx
      cases hy
      exact OpOK.pure hs (by simp [builtin, Builtin.min_, Builtin.min2]) (.int _ _)
    · cases h
  · rename_i k a k' b
    obtain ⟨x, y, rfl, hx, hy⟩ := two_args (args := []) ha
    split at h
    · rename_i hk
      subst hk
      cases h
      cases hx
      cases hy
      exact OpOK.pure hs (by simp [builtin, Builtin.max_, Builtin.max2]) (.int _ _)
    · cases h
  · cases h
    rfl
  · cases h
theorem recv_ok {t : TypeId} {D : TypeDesc} (hD : P.underlying t = some D) {pr : Bool} (h : recvOk D pr = true) (x : Value) (wn : Option String) : (receiverAt t (.val x) pr wn).run P w = .ok x w := by
  unfold recvOk at h
  unfold receiverAt
  simp only [Sem.run_bind, run_underlying hD, Result.andThen_ok]
  cases D <;> cases pr <;> first | rfl | (simp at h; done)
theorem invoke_ok {recv : AV} {rv : Value} {name : String} {args : List AV} {vs : List Value} {r : ARes} (hr : VRel π ρ recv rv) (ha : VRels π ρ args vs) (h : invokeA P recv name args = some r) :
    OpOK P π ρ H w r ((callMethod rv name vs.toArray).run P w) := by
  unfold invokeA at h
  split at h
  case h_2 => cases h
  rename_i t v
  split at h
  case h_2 => cases h
  rename_i i D hi hD
  split at h
  case h_2 => cases h
  rename_i m hm
  split at h
  case h_2 => cases h
  rename_i f pr hf
  cases hc : (m.path.isEmpty && recvOk D pr) with
  | false => rw [hc] at h; cases h
  | true =>
  rw [hc] at h
  simp only [cond_true] at h
  simp only [Bool.and_eq_true] at hc
  cases hr with
  | ifc hx =>
  rename_i x
  have hfuel : ∃ k, P.types.size + Made.depth = k + 1 := ⟨P.types.size + Made.depth - 1, by unfold Made.depth; omega⟩
  obtain ⟨k, hk⟩ := hfuel
  have hpath : m.path.toList = [] := by have := hc.1; simpa using this
  have hmeth : (method (k + 1) t x name).run P w = .ok (f, x) w := by
    simp only [method, Sem.run_bind, run_typeInfo' hi, Result.andThen_ok, hm, hpath, follow, Sem.run_pure, hf, recv_ok hD hc.2]
  have := enter_ok (P := P) (π := π) (ρ := ρ) (H := H) (w := w) (args' := x :: vs) (show VRels π ρ (v :: args) (x :: vs) from ⟨hx, ha⟩) h
  simp only [callMethod, Sem.run_bind, run_program, Result.andThen_ok, hk, hmeth]
  simpa using this
theorem call_ok (hs : Sim π ρ H w) (he : EvR π ρ e eval) {c : Call} {ty : TypeId} {r : ARes} (h : callA P H e c = some r) : OpOK P π ρ H w r ((do let d ← resolve eval c ty; invoke d.target d.args : Sem Next).run P w) := by
  unfold callA at h
  split at h
  · cases h
  · rename_i args hargs
    obtain ⟨vs, hvs, hvr⟩ := evs_array he hargs
    split at h
    · rename_i b hb
      have := builtin_ok (ty := ty) (cs := c.args.map fun | .const _ => true | _ => false) hs hvr h
      simp only [resolve, hb, hvs, Sem.run_bind, Sem.run_pure, Result.andThen_ok, invoke]
      exact this
    · rename_i rx name hb
      split at h
      · rename_i rv hrv
        have hx := he rx _ hrv
        have := invoke_ok (H := H) (w := w) hx hvr h
        simp only [resolve, hb, hvs, Sem.run_bind, Sem.run_pure, Result.andThen_ok, invoke]
        simpa using this
      · cases h
    · rename_i g hb
      split at h
      · rename_i f first cap hg
        have hgv := he g _ hg
        generalize hgv2 : eval g = gv at *
        obtain ⟨xs, ys, rfl, hx, hy⟩ := hgv.fn_inv
        have := enter_ok (P := P) (H := H) (w := w) ((hx.append hvr).append hy) h
        simp only [resolve, hb, hvs, hgv2, Deferred.ofValue, Sem.run_bind, Sem.run_pure, Result.andThen_ok, invoke]
        simpa using this
      · rename_i id hg
        cases h
        have hgv := he g _ hg
        generalize hgv2 : eval g = gv at *
        obtain ⟨b, rfl, hr⟩ := hgv.yld_inv
        refine ⟨b, vs, hr, hvr, ?_⟩
        simp only [resolve, hb, hvs, hgv2, Deferred.ofValue, Sem.run_bind, Sem.run_pure, Result.andThen_ok, invoke]
        simp
      · cases h
theorem defer_ok (he : EvR π ρ e eval) {c : Call} {ty : TypeId} {r : ARes} (h : aDefer P e c = some r) : OpOK P π ρ H w r ((do pure (Next.defer (← resolve eval c ty)) : Sem Next).run P w) := by
  unfold aDefer at h
  split at h
  · rename_i g args hb hargs
    obtain ⟨vs, hvs, hvr⟩ := evs_array he hargs
    split at h
    · rename_i f first cap hg
      split at h
      · rename_i f' as hen
        cases h
        have hgv := he g _ hg
        generalize hgv2 : eval g = gv at *
        obtain ⟨xs, ys, rfl, hx, hy⟩ := hgv.fn_inv
        unfold enterA at hen
        split at hen
        · rename_i fn hfn
          split at hen
          · rename_i hcc
            cases hen
            refine ⟨{ target := .fn (.func f) ys.toArray, args := (xs ++ vs).toArray }, xs ++ vs, ys, ?_, rfl, rfl, (hx.append hvr).append hy, by unfold canEnter; rw [hfn]; exact hcc⟩
            simp only [resolve, hb, hvs, hgv2, Deferred.ofValue, Sem.run_bind, Sem.run_pure, Result.andThen_ok]
            simp
          · cases hen
        · cases hen
      · cases h
    · cases h
  · cases h

/-- ALL OF THEM. -/
theorem aop_ok (hs : Sim π ρ H w) (he : EvR π ρ e eval) {o : Oper} {r : ARes} (h : aop P e H o.op = some r) : OpOK P π ρ H w r ((execOp eval o).run P w) := by
  obtain ⟨dst, op, ty, pos, after, guard⟩ := o
  unfold aop at h
  cases op <;> simp only at h <;> try (cases h; done)
  case move x => exact aMove_ok hs he h
  case assign x => exact aMove_ok hs he h
  case pick c a b => exact aPick_ok hs he h
  case alloc t => exact aAlloc_ok hs h
  case box t x => exact aBox_ok hs he h
  case build t ps => exact aBuild_ok hs he h
  case buildSlice t n ps => exact aBuildSlice_ok hs he h
  case load t a => exact aLoad_ok hs he h
  case store t a x => exact aStore_ok hs he h
  case nilCheck x => exact aNil_ok hs he (o := ⟨dst, .nilCheck x, ty, pos, after, guard⟩) rfl h
  case binOp op t x y u => exact aBin_ok hs he h
  case unOp op t x => exact aUn_ok hs he h
  case convert s d x => exact aConv_ok hs he h
  case makeInterface t x => exact aIface_ok hs he h
  case makeFunc f a b => exact aFunc_ok hs he h
  case makeMap t r => exact aMap_ok hs he h
  case makeSlice t l c => exact aMake_ok hs he h
  case slice t x lo hi mx => exact aSlice_ok hs he h
  case fieldAddr t x f => exact aFieldAddr_ok hs he h
  case field t x f => exact aField_ok hs he h
  case indexAddr t x i => exact aIndexAddr_ok hs he h
  case index t x i => exact aIndex_ok hs he h
  case range t x => exact aRange_ok hs he h
  case next it s => exact aNext_ok hs he h
  case typeAssert x t u ok => exact aAssert_ok hs he h
  case extract x i => exact aExtract_ok hs he h
  case call c => exact call_ok hs he h
  case defer c => exact defer_ok he h
end Go.AM
