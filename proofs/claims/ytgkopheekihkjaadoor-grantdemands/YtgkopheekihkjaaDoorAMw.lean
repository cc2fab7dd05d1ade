/- The last step of a law's row: what came in reads again, and the answer is true. -/
import Derived.Test.YtgkopheekihkjaaDoorAMv
import Derived.ProofKit
import Derived.OpenShut
import Derived.ChangeStays
import Derived.ReadAgain
import Derived.Deep.DeepHandedRow
set_option linter.unusedVariables false
set_option linter.unusedSimpArgs false
namespace Go.AM
open Go.ChangeShapes Go.WideShapes Go.ChangeAt Go.RowKit
variable {H : Type} {enc : TypeId × Value → H} {P : Program} {W : World}

theorem post_of_below {f : Func} {s : ChangeSpec} {apart fresh handsOn again : Bool} {W W' : World} {args : Array Value} {v : Value} {ds gs : List (DataW H)} {before pa pv : List MemPlace}
    (hW : DataW.Whole enc P f.params.toList s.vars apart W args.toList ds gs before)
    (hres : ∀ (b : Nat) (sp : Nat → Bool) (hd : Bool), DataW.TrodAll enc P W' b sp hd f.resultTypes.toList (v.resultList f.resultTypes.size) (s.fn H (ds ++ gs)).results [])
    (hargs : ∀ sp : Nat → Bool, (∀ p ∈ before, sp p.block = true) → DataW.TrodAll enc P W' 0 sp true f.params.toList args.toList (s.fn H (ds ++ gs)).args pa)
    (hvars : ∀ sp : Nat → Bool, (∀ p ∈ before, sp p.block = true) → DataW.TrodVars enc P W' sp s.vars (s.fn H (ds ++ gs)).vars pv)
    (hps : before = pa ++ pv) (hb : Below W.heap.size W W')
    (hok : ∀ (j : Nat) (t : TypeId) (r : Value), f.resultTypes[j]? = some t → (v.resultList f.resultTypes.size)[j]? = some r → Value.okWide P W' .any 0 t r) :
    s.post enc P f apart fresh handsOn again W args v W' := by
  have hlt : ∀ p ∈ before, p.block < W.heap.size := fun p hp => hW.lt p hp
  have hold : ∀ p ∈ before, (fun b => decide (b < W.heap.size)) p.block = true := fun p hp => by simpa using hlt p hp
  refine ⟨ds, gs, before, [], pa, pv, hW, hres _ _ _, hargs _ hold, hvars _ hold, World.keptBut_mono (fun p hp => ⟨hp, ?_⟩) (hb.frame (· ∈ before)), fun _ => ?_⟩
  · rw [hps, List.mem_append] at hp
    exact Or.inr hp
  · obtain ⟨_, _, _, _, _, hz, hn⟩ := hW
    refine ⟨hok, _, _, ([] ++ pa) ++ pv, ⟨[] ++ pa, pv, trodAll_append (hargs _ (fun _ _ => rfl)) (hres _ _ _), hvars _ (fun _ _ => rfl), rfl, ?_, ?_⟩, ?_⟩
    · intro b off hp
      have hin : MemPlace.cell b off ∈ before := by rw [hps]; simpa using hp
      rw [hb.frozen (hlt _ hin)]
      exact hz b off hin
    · intro ha
      have := hn ha
      rw [hps] at this
      simpa using this
    · intro p hp _
      rw [hps]
      simpa using hp

theorem trodAll_stays {W' : World} {sp : Nat → Bool} (K : Kids P (· < P.types.size)) (hsz : ∀ t e, t < P.types.size → P.underlying t = some (.slice e) → 0 < P.cellsOf e) : ∀ {ts : List TypeId} {vs : List Value} {ds : List (DataW H)} {ps : List MemPlace},
    (∀ t ∈ ts, t < P.types.size) → DataW.TrodAll enc P W 0 (fun _ => true) true ts vs ds ps → (∀ p ∈ ps, W.sameAt W' p) → (∀ p ∈ ps, sp p.block = true) → DataW.TrodAll enc P W' 0 sp true ts vs ds ps
  | [], [], [], _, _, h, _, _ => h
  | t :: ts, v :: vs, d :: ds, _, hts, ⟨p, q, ⟨n, hn⟩, h2, he⟩, hs, hsp => by
    subst he
    exact ⟨p, q, ⟨n, DataW.trod_stays K (fun h1 h2 => hsz _ _ h1 h2) (fun h => by cases h) (hts t (by simp)) hn (fun x hx => hs x (by simp [hx])) fun x hx => hsp x (by simp [hx])⟩,
      trodAll_stays K hsz (fun u hu => hts u (by simp [hu])) h2 (fun x hx => hs x (by simp [hx])) (fun x hx => hsp x (by simp [hx])), rfl⟩

/-- What a program's types must be: closed facts. -/
def typesFine (P : Program) : Bool := laidOutB P && mapsRowed P && (List.range P.types.size).all fun t => match P.underlying t with | some (.slice e) => decide (0 < P.cellsOf e) | _ => true

theorem post_true {f : Func} {s : ChangeSpec} {apart fresh handsOn again : Bool} {W W' : World} {args : Array Value} {ds gs : List (DataW H)} {before : List MemPlace} {tb : TypeId}
    (hP : typesFine P = true) (hvars : s.vars = []) (hts : ∀ t ∈ f.params.toList, t < P.types.size) (hrt : f.resultTypes = #[tb]) (htb : P.underlying tb = some .bool)
    (hfn : s.fn H (ds ++ gs) = { results := [.lit (.bool true)], args := ds })
    (hW : DataW.Whole enc P f.params.toList s.vars apart W args.toList ds gs before) (hb : Below W.heap.size W W') :
    s.post enc P f apart fresh handsOn again W args (.bool true) W' := by
  simp only [typesFine, Bool.and_eq_true] at hP
  obtain ⟨⟨hl, hm⟩, hsz⟩ := hP
  have hW' := hW
  obtain ⟨p, q, hA, hV, rfl, hfz, hnd⟩ := hW
  rw [hvars] at hV
  obtain ⟨rfl, rfl⟩ := trodVars_none hV
  rw [List.append_nil] at hW'
  refine post_of_below (pa := p) (pv := []) hW' (fun b sp hd => ?_) (fun sp hsp => ?_) (fun sp _ => ?_) (by simp) hb ?_
  · rw [hrt, hfn]
    exact trodAll_cons_mk (shut_bool htb true) trodAll_mk0
  · rw [hfn]
    exact trodAll_stays (kids_rows hl hm) (slices_full_of P hsz) hts hA (fun x hx => hb.same (hW'.lt x hx)) hsp
  · rw [hvars, hfn]
    exact rfl
  · exact ok_one hrt rfl (okWide_bool_mk htb true)

theorem shape_slice {n : Nat} {t e : TypeId} {as : List AV} (hu : P.underlying t = some (.slice e)) (h : Shape P (n + 1) t as) : as = [.nils] ∨ ∃ (row : List AV) (len cap : Nat), as = [.rsl row 0 len (some cap)] ∧ len ≤ cap ∧ cap ≤ maxLen ∧ row.length = cap * P.cellsOf e ∧
    ∀ i, i < cap → Shape P n e ((row.drop (i * P.cellsOf e)).take (P.cellsOf e)) := by
  unfold Shape at h
  rw [hu] at h
  exact h
theorem shape_struct {n : Nat} {t : TypeId} {fs : Array Field} {as : List AV} (hu : P.underlying t = some (.struct fs)) (h : Shape P (n + 1) t as) : as.length = P.cellsOf t ∧ ∀ f ∈ fs.toList, Shape P n f.type ((as.drop f.offset).take (P.cellsOf f.type)) := by
  unfold Shape at h
  rw [hu] at h
  exact h
theorem shape_int {n : Nat} {t : TypeId} {k : IntKind} {as : List AV} (hu : P.underlying t = some (.int k)) (h : Shape P (n + 1) t as) : ∃ x, as = [.int k x] ∧ k.min ≤ x ∧ x ≤ k.max := by
  unfold Shape at h
  rw [hu] at h
  exact h
theorem shape_bool {n : Nat} {t : TypeId} {as : List AV} (hu : P.underlying t = some .bool) (h : Shape P (n + 1) t as) : ∃ b, as = [.bool b] := by
  unfold Shape at h
  rw [hu] at h
  exact h
theorem shape_string {n : Nat} {t : TypeId} {as : List AV} (hu : P.underlying t = some .string) (h : Shape P (n + 1) t as) : ∃ s, as = [.str s] ∧ s.size ≤ maxLen := by
  unfold Shape at h
  rw [hu] at h
  exact h

/-- An argument of a type of plain data. -/
def ShapeV (P : Program) (n : Nat) (t : TypeId) (a : AV) : Prop :=
  match P.underlying t with
  | some (.struct _) => ∃ cs, a = .agg cs ∧ Shape P n t cs
  | _ => Shape P n t [a]
theorem shapeV_slice {n : Nat} {t e : TypeId} {a : AV} (hu : P.underlying t = some (.slice e)) (h : ShapeV P n t a) : Shape P n t [a] := by
  unfold ShapeV at h
  rw [hu] at h
  exact h
theorem shapeV_struct {n : Nat} {t : TypeId} {fs : Array Field} {a : AV} (hu : P.underlying t = some (.struct fs)) (h : ShapeV P n t a) : ∃ cs, a = .agg cs ∧ Shape P n t cs := by
  unfold ShapeV at h
  rw [hu] at h
  exact h
theorem arg_shape {ρ : Ren} {r : Reach} {b0 : Nat} {n : Nat} {t : TypeId} {v : Value} {d : DataW H} {ps : List MemPlace} (hp : plainT P n t = true) (hval : Value.okWide P W r b0 t v) (hd : DataW.Trod enc P W 0 (fun _ => true) true t v d ps) :
    ∃ a, VRel (fun b => W.heap[b]?) ρ a v ∧ ShapeV P n t a := by
  obtain ⟨fuel, hd⟩ := hd
  obtain ⟨as, h1, h2, h3⟩ := trod_shape (ρ := ρ) n t hp fuel _ _ hd
  have key : (∀ cs, v ≠ .agg cs) → (∀ fs, P.underlying t ≠ some (.struct fs)) → ∃ a, VRel (fun b => W.heap[b]?) ρ a v ∧ ShapeV P n t a := by
    intro hv hs
    have hc : v.cells.toList = [v] := by
      cases v <;> first | rfl | exact absurd rfl (hv _)
    rw [hc] at h1
    match as, h1 with
    | [a], h1 =>
      refine ⟨a, h1.1, ?_⟩
      unfold ShapeV
      split
      · exact absurd (by assumption) (hs _)
      · exact h3
  cases n with
  | zero => simp [plainT] at hp
  | succ n =>
    unfold plainT at hp
    unfold Value.okWide at hval
    split at hp
    rotate_right 1
    · cases hp
    all_goals (rename_i hu; simp only [hu] at hval)
    rotate_right 1
    · rename_i fs
      obtain ⟨cs, rfl, _⟩ := hval
      refine ⟨.agg as, ?_, ?_⟩
      · have := VRel.aggL (ys := cs.toList) h2 h1
        simpa using this
      · unfold ShapeV
        simp only [hu]
        exact ⟨as, rfl, h3⟩
    all_goals
      refine key (fun cs hc => ?_) (fun fs hf => by rw [hu] at hf; cases hf)
      subst hc
      unfold Cell.okWide at hval
      simp only [hu] at hval
      unfold Cell.ok at hval
      simp only [hu] at hval
end Go.AM
