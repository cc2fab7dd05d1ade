/- Proved here: for every list of clauses and every register parleylaw20.GrantDemands returns true, and its arguments read as before.
   Conditions: those of the given card alone (the two tables of unicode/utf8 hold what the program's text lays). -/
import Derived.Test.YtgkopheekihkjaaDoorD9
import Derived.Test.YtgkopheekihkjaaDoorAMw
import Derived.Test.YtgkopheekihkjaaDoorCards
import Derived.Test.YtgkopheekihkjaaDoorTie
import Derived.WalkKit
import Derived.ProofKit
import Derived.OpenShut
import Derived.Deep.DeepHandedRow
import Derived.Lib.LaidTab
set_option linter.unusedVariables false
set_option linter.unusedSimpArgs false
namespace Go.Proofs.YtgkopheekihkjaaDoor.dem
open Go Go.AM Go.ChangeShapes Go.WideShapes Go.ChangeAt Go.RowKit

theorem own : ownKnob Tryd.prog.godebug = none := by kernel_rfl
theorem types_fine : typesFine Tryd.prog = true := by kernel_rfl
theorem awake_true : isT (call Tryd.prog G0 X0 100000 16 [] .empty) = true := by kernel_rfl
theorem mixed : Tryd.prog.follows .mixedOrders = true := by kernel_rfl
theorem plain47 : plainT Tryd.prog 8 47 = true := by kernel_rfl
theorem c71 : Tryd.prog.cellsOf 71 = 3 := by kernel_rfl
theorem c75 : Tryd.prog.cellsOf 75 = 3 := by kernel_rfl
theorem c72 : Tryd.prog.cellsOf 72 = 1 := by kernel_rfl
theorem c3 : Tryd.prog.cellsOf 3 = 1 := by kernel_rfl
theorem c2 : Tryd.prog.cellsOf 2 = 1 := by kernel_rfl

theorem maxLen_eq : maxLen = 9223372036854775807 := by decide
theorem three {l : List AV} (h : l.length = 3) : ∃ a b c, l = [a, b, c] := by
  match l, h with
  | [a, b, c], _ => exact ⟨a, b, c, rfl⟩
theorem rdRow_of {row : List AV} {off n : Nat} {l : List AV} (h : (row.drop off).take (n + 1) = l) (hl : l.length = n + 1) : rdRow row off (n + 1) = some l := by
  have : off + (n + 1) ≤ row.length := by
    rw [← h, List.length_take, List.length_drop] at hl
    omega
  unfold rdRow
  rw [hasLen_iff.2 this, cond_true, h]
theorem under3 : Tryd.prog.underlying 3 = some (.int .i64) := Tryd.underlying3
theorem under2 : Tryd.prog.underlying 2 = some (.int .i64) := Tryd.underlying2
def kOf (l : List AV) (i : Nat) : Int := match l[i]? with | some (.int _ n) => n | _ => 0
theorem pat_shape {n : Nat} {p : AV} (h : Shape Tryd.prog (n + 3) 72 [p]) : ∃ m K V, PatRow p m K V ∧ m ≤ 9223372036854775807 := by
  rcases shape_slice (n := n + 2) Tryd.underlying72 h with h | ⟨row, len, cap, h, hlc, hcm, hrl, hsh⟩
  · cases h
    exact ⟨0, fun _ => 0, fun _ => 0, .inl ⟨rfl, rfl⟩, by decide⟩
  · cases h
    rw [c71] at hsh
    rw [maxLen_eq] at hcm
    refine ⟨len, fun i => kOf ((row.drop (i * 3)).take 3) 0, fun i => kOf ((row.drop (i * 3)).take 3) 1, .inr ⟨row, 0, some cap, rfl, fun i hi => ?_⟩, by omega⟩
    have h := hsh i (by omega)
    obtain ⟨hl, hf⟩ := shape_struct (n := n + 1) Tryd.underlying71 h
    rw [show Tryd.prog.cellsOf 71 = 3 from c71] at hl
    obtain ⟨a, b, c, habc⟩ := three hl
    rw [habc] at hf
    have h0 := hf _ (List.mem_cons_self ..)
    have h1 := hf _ (List.mem_cons_of_mem _ (List.mem_cons_self ..))
    obtain ⟨k, hk, _⟩ := shape_int (n := n) under3 h0
    obtain ⟨v, hv, _⟩ := shape_int (n := n) under2 h1
    simp only [c3, c2, List.drop_zero, List.take_succ_cons, List.take_zero, List.drop_succ_cons] at hk hv
    cases hk
    cases hv
    refine ⟨c, ?_⟩
    rw [Nat.zero_add, rdRow_of habc rfl]
    simp only [habc]
    rfl
theorem clause_shape {n : Nat} {t : AV} (h : Shape Tryd.prog (n + 5) 47 [t]) : ∃ m np K V, ClauseRow t m np K V ∧ m ≤ 9223372036854775807 := by
  rcases shape_slice (n := n + 4) Tryd.underlying47 h with h | ⟨row, len, cap, h, hlc, hcm, hrl, hsh⟩
  · cases h
    exact ⟨0, fun _ => 0, fun _ _ => 0, fun _ _ => 0, .inl ⟨rfl, rfl⟩, by decide⟩
  · cases h
    rw [c75] at hsh
    rw [maxLen_eq] at hcm
    have key : ∀ i, ∃ q : Nat × (Nat → Int) × (Nat → Int), i < len → ∃ p g l, rdRow row (0 + i * 3) 3 = some [p, g, l] ∧ PatRow p q.1 q.2.1 q.2.2 ∧ q.1 ≤ 9223372036854775807 := by
      intro i
      by_cases hi : i < len
      · have h := hsh i (by omega)
        obtain ⟨hl, hf⟩ := shape_struct (n := n + 3) Tryd.underlying75 h
        rw [show Tryd.prog.cellsOf 75 = 3 from c75] at hl
        obtain ⟨a, b, c, habc⟩ := three hl
        rw [habc] at hf
        have h0 := hf _ (List.mem_cons_self ..)
        simp only [c72, List.drop_zero, List.take_succ_cons, List.take_zero] at h0
        obtain ⟨m, K, V, hp, hm⟩ := pat_shape (n := n) h0
        exact ⟨(m, K, V), fun _ => ⟨a, b, c, by rw [Nat.zero_add]; exact rdRow_of habc rfl, hp, hm⟩⟩
      · exact ⟨(0, fun _ => 0, fun _ => 0), fun h => absurd h hi⟩
    refine ⟨len, fun i => (Classical.choose (key i)).1, fun i => (Classical.choose (key i)).2.1, fun i => (Classical.choose (key i)).2.2, .inr ⟨row, 0, some cap, rfl, fun i hi => ?_⟩, by omega⟩
    exact Classical.choose_spec (key i) hi

set_option maxRecDepth 100000 in
/-- WHAT THE WALK GIVES, FOR EVERY ARGUMENT. -/
theorem contract (H : Type) (enc : TypeId × Value → H) (W : World) (base : Nat) (args : Array Value) (ds gs : List (DataW H)) (before : List MemPlace)
    (hval : ∀ (j : Nat) t v, Tryd.f5.params[j]? = some t → args[j]? = some v → Value.okWide Tryd.prog W .any base t v)
    (hW : DataW.Whole enc Tryd.prog Tryd.f5.params.toList Rows.grantDemandsSpec.vars false W args.toList ds gs before) :
    Calls Tryd.prog 5 args W fun e W' => ∃ v, e = .returned v ∧ Rows.grantDemandsSpec.post enc Tryd.prog Tryd.f5 false true false false W args v W' := by
  have hW' := hW
  obtain ⟨p, q, hA0, hV, rfl, hfz, hnd⟩ := hW
  have hA : DataW.TrodAll enc Tryd.prog W 0 (fun _ => true) true Tryd.f5.params.toList args.toList ds p := hA0
  rw [Tryd.params5] at hA hval
  obtain ⟨v0, vs0, d0, ds0, p0, q0, hargs, rfl, rfl, h0, r0⟩ := trodAll_cons hA
  obtain ⟨v1, vs1, d1, ds1, p1, q1, rfl, rfl, rfl, h1, r1⟩ := trodAll_cons r0
  obtain ⟨rfl, rfl, rfl⟩ := trodAll_nil r1
  obtain rfl : args = #[v0, v1] := by cases args; simp_all
  obtain ⟨rfl, rfl⟩ := trodVars_none hV
  obtain ⟨r, rfl, rfl, rfl, hr⟩ := open_int under3 (hval 1 3 v1 rfl rfl) h1
  obtain ⟨a, ha, hsh⟩ := arg_shape (ρ := fun _ => none) plain47 (hval 0 47 v0 rfl rfl) h0
  obtain ⟨m, np, K, V, hrow, hm⟩ := clause_shape (n := 3) (shapeV_slice Tryd.underlying47 hsh)
  have hlaw := law5 a m np K V hrow hm r .empty
  refine (hlaw.calls (π := fun b => W.heap[b]?) mixed glob0 (ext_true mixed awake_true) (fun b O h => h) (args' := [v0, .int .i64 r]) ⟨ha, .int _ _, trivial⟩).mono fun e W' ⟨⟨v, H', v', ρ', hv, he, hvr, _⟩, hb⟩ => ?_
  subst hv
  cases hvr
  exact ⟨_, he, post_true types_fine rfl (by rw [Tryd.params5]; intro t ht; have : t = 47 ∨ t = 3 := by simpa using ht
                                             rcases this with rfl | rfl <;> exact of_decide_eq_true (by kernel_rfl)) rfl Tryd.underlying4 rfl hW' hb⟩

theorem gA : Tryd.prog.globalNamed "unicode/utf8.acceptRanges" = some 1 := by kernel_rfl
theorem gF : Tryd.prog.globalNamed "unicode/utf8.first" = some 0 := by kernel_rfl
mutual
def flat : DataW Unit → List Value
  | .lit (.int k n) => [.int k n]
  | .agg l => flats l
  | _ => []
def flats : List (DataW Unit) → List Value
  | [] => []
  | d :: r => flat d ++ flats r
end
def lay (d : DataW Unit) : Obj → Obj
  | .cells _ t frozen => .cells (flat d).toArray t frozen
  | o => o
/-- A WORLD FOR THE WITNESS: the settled one, the tables laid. -/
noncomputable def laidWorld (os : Os) : World :=
  { World.holding Tryd.prog os ⟨#[], #[], []⟩ with heap := ((World.holding Tryd.prog os ⟨#[], #[], []⟩).heap.modify 0 (lay Go.Pinned.utf8First)).modify 1 (lay Rows.laid_unicode_utf8_acceptRanges) }
theorem laid_met (os : Os) : laidMet Tryd.prog Rows.grantDemandsRow.laid ((laidWorld os).forCall (fun _ _ => 0) ⟨#[], #[.slice .none 0 0, .int .i64 0], []⟩).memory :=
  laidMet_of_run' 8 (by kernel_rfl) (by kernel_rfl)
theorem reads (os : Os) {H : Type} (enc : TypeId × Value → H) : ∃ places, DataW.whole enc Tryd.prog ((laidWorld os).forCall (fun _ _ => 0) ⟨#[], #[.slice .none 0 0, .int .i64 0], []⟩).memory Tryd.f5.params.toList Rows.grantDemandsSpec.vars false #[Value.slice .none 0 0, .int .i64 0].toList 8 = some ([.nil, .lit (.int .i64 0)], [], places) :=
  ⟨[], by kernel_rfl⟩

set_option maxRecDepth 100000 in
/-- THE FIRST FORM's STEP. -/
theorem lifted (os : Os) (started : os.Started) (H : Type) (enc : TypeId × Value → H) (F : Stop.Interp) :
    ReturnsInHanded {} Tryd.checked os 5 .any ((OpenSpec.ofChange Rows.grantDemandsSpec).preRow enc Tryd.prog Tryd.f5 Rows.grantDemandsRow.domain false Rows.grantDemandsRow.laid) (((OpenSpec.ofChange Rows.grantDemandsSpec).at F).post enc Tryd.prog Tryd.f5 false true false false) := by
  obtain ⟨places, hx⟩ := reads os enc
  refine returnsInHanded_of_row (C := Tryd.checked) (s := OpenSpec.ofChange Rows.grantDemandsSpec) own started (by kernel_rfl) Tryd.func5
    (witness_row_at (enc := enc) (C := Tryd.checked) false (laidWorld os) #[.slice .none 0 0, .int .i64 0] rfl (by kernel_rfl) (by kernel_rfl) (by kernel_rfl)
      (OpenSpec.preRow_of_cond 8 hx (by kernel_rfl) (fun k hk => by cases hk) (by kernel_rfl) (laid_met os))) ?_
  intro W base args ds gs before hval hW _ _ _ hL _ _
  exact contract H enc W base args ds gs before hval hW

theorem said : Rows.GrantDemandsSaid :=
  OpenClaim.holds_of_cond 5 Tryd.f5 rfl rfl rfl rfl rfl rfl rfl ⟨rfl, rfl, rfl, rfl, rfl⟩ rfl rfl rfl rfl rfl (by kernel_rfl) Tryd.func5 (by kernel_rfl)
    (of_decide_eq_true (by kernel_rfl)) (by unfold Func.isWrapper; first | (rw [if_pos (by decide +kernel)]; kernel_rfl) | (rw [if_neg (by decide +kernel)]; exact ⟨rfl, rfl⟩))
    (fun os started H enc _ F => by rw [OpenClaim.pre_eq_preRow]; exact lifted os started H enc F)

/-- No parameter wants a stand-in; the program's own looks are off. -/
theorem plain (f : FuncId) (fn : Func) (hf : Tryd.pinned.checked.prog.funcNamed "parley/parleylaw20.GrantDemands" = some f) (hfn : Tryd.pinned.checked.prog.funcs[f]? = some fn) :
    true = Tryd.pinned.checked.prog.looks [] ∧ ∀ (j : Nat) t, fn.params[j]? = some t → Tryd.pinned.checked.prog.wantsStandIn t = false := by
  obtain rfl : f = 5 := Option.some.inj ((show Tryd.prog.funcNamed "parley/parleylaw20.GrantDemands" = some 5 by kernel_rfl).symm.trans hf) |>.symm
  obtain rfl : fn = Tryd.f5 := (Option.some.inj (Tryd.func5.symm.trans hfn)).symm
  refine ⟨by kernel_rfl, fun j t ht => ?_⟩
  rw [Tryd.params5] at ht
  have hm : t ∈ #[47, 3] := Array.mem_of_getElem? ht
  have : t = 47 ∨ t = 3 := by simpa using hm
  rcases this with rfl | rfl
  · exact (show Tryd.prog.wantsStandIn 47 = false by kernel_rfl)
  · exact (show Tryd.prog.wantsStandIn 3 = false by kernel_rfl)

/-- THE CARD. -/
theorem card : Rows.GrantDemandsCardSaid :=
  Claim7.holds_tied_plain_at .later [] _ _ _ _ said (fun _ h => by cases h) (by kernel_rfl) (fun _ h => by cases h) grantDemands_row_tie rfl ⟨rfl, rfl⟩ (by kernel_rfl) rfl plain (by kernel_rfl)
end Go.Proofs.YtgkopheekihkjaaDoor.dem
