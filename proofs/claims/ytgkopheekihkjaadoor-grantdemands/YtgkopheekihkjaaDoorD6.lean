/- GrantDemands: a part of the walk. -/
import Derived.Test.YtgkopheekihkjaaDoorD5
namespace Go.Proofs.YtgkopheekihkjaaDoor.dem
open Go Go.AM Go.Proofs
set_option linter.unusedVariables false
set_option linter.unusedSimpArgs false
def ClauseRow (t : AV) (n : Nat) (np : Nat → Nat) (K V : Nat → Nat → Int) : Prop := (t = .nils ∧ n = 0) ∨ ∃ row off cap, t = .rsl row off n cap ∧ ∀ i, i < n → ∃ p g l, rdRow row (off + i * 3) 3 = some [p, g, l] ∧ PatRow p (np i) (K i) (V i) ∧ np i ≤ 9223372036854775807
def met (np : Nat → Nat) (K V : Nat → Nat → Int) (r : Int) (i : Nat) : Bool := (List.range' 0 (np i)).any fun j => K i j == 13 && V i j == r
theorem ClauseRow.slen {p : AV} {m : Nat} {np : Nat → Nat} {K V : Nat → Nat → Int} (h : ClauseRow p m np K V) : slen p = some m := by
  rcases h with ⟨rfl, rfl⟩ | ⟨row, off, cap, rfl, _⟩ <;> rfl
theorem oloop15 {X : Ext} (t : AV) (n : Nat) (np : Nat → Nat) (K V : Nat → Nat → Int) (hp : ClauseRow t n np K V) (hbig : n ≤ 9223372036854775807) (r : Int) : ∀ (d : Nat) (env : Env) (H : AHeap) (i : Nat) (Q : Out → St → Prop), i + d = n → env.n = 39 → env.get 1 = .int .i64 r → env.get 10 = t → env.get 11 = .int .i64 n → env.get 12 = .int .i64 i →
    ((List.range' i d).all (met np K V r) = true → ∀ env' H', env'.n = 39 → Q (.exit 0) ⟨env', H', []⟩) →
    ((List.range' i d).all (met np K V r) = false → ∀ env' H', env'.n = 39 → env'.get 4 = .bool false → Q .ret ⟨env', H', []⟩) →
    Ev Tryd.prog G0 X none (.loop (sub [0] o15)) ⟨env, H, []⟩ Q := by
  intro d
  induction d with
  | zero =>
    intro env H i Q hi hn h1 h10 h11 h12 hQ1 hQ2
    refine Ev.loop ?_
    simp only [o15, bodyOf, Tryd.f15, sub, Option.getD]
    refine Ev.seq (Ev.region (EvO.val rfl (by simp only [aop, aBin, ev, h11, h12, guardOk]; rfl) (EvO.nil ?_)))
    simp only [putD]
    refine Ev.seq (Ev.cond (t := false) (by simp [ev, Env.get_set, hn]; omega) (Ev.exit ?_))
    exact hQ1 rfl _ _ (by simp [Env.n_set, hn])
  | succ d ih =>
    intro env H i Q hi hn h1 h10 h11 h12 hQ1 hQ2
    rcases hp with ⟨_, h0⟩ | ⟨row, off, cap, rfl, hrow⟩
    · omega
    · obtain ⟨p, g, l, hx, hpat, hnp⟩ := hrow i (by omega)
      simp only [List.range'_succ, List.all_cons] at hQ1 hQ2
      refine Ev.loop (oround15 env H row off n cap i (np i) (K i) (V i) r p g l hn h1 h10 h11 h12 (by omega) hx hpat hnp _ (fun hb env' H' e1 e2 e3 => ?_) (fun hb env' H' e1 e2 => ?_))
      · have hm : met np K V r i = true := hb
        refine ih env' H' (i + 1) Q (by omega) e1 ((e3 1 (by omega)).trans h1) ((e3 10 (by omega)).trans h10) ((e3 11 (by omega)).trans h11) (by rw [e2, wrap_nat i n (by omega) hbig]) (fun h => hQ1 (by rw [hm, h]; rfl)) (fun h => hQ2 (by rw [hm, h]; rfl))
      · have hm : met np K V r i = false := hb
        exact hQ2 (by rw [hm]; rfl) env' H' e1 e2
theorem demands15 {X : Ext} (hX : X 15 = none) (t : AV) (n : Nat) (np : Nat → Nat) (K V : Nat → Nat → Int) (hp : ClauseRow t n np K V) (hbig : n ≤ 9223372036854775807) (r : Int) (H : AHeap) : EvC Tryd.prog G0 X 15 [t, .int .i64 r] H fun v _ => v = .bool ((List.range' 0 n).all (met np K V r)) := by
  have hsl := hp.slen
  have ho : sub [1,0,1,0] (bodyOf Tryd.f15) = o15 := rfl
  have hl : o15 = .loop (sub [0] o15) := by simp only [o15, bodyOf, Tryd.f15, sub, Option.getD]
  have hbody : Tryd.f15.body = some (.seq (sub [0] (bodyOf Tryd.f15)) (.seq (.seq (sub [1,0,0] (bodyOf Tryd.f15)) (.block 0 o15)) (sub [1,1] (bodyOf Tryd.f15)))) := by
    rw [← ho]
    simp only [bodyOf, Tryd.f15, sub, Option.getD]
  refine EvC.body hX Tryd.func15 hbody ?_
  rw [Tryd.ntmps15]
  simp only [bodyOf, Tryd.f15, sub, Option.getD, List.length_cons, List.length_nil]
  generalize hen : Env.ofArgs [t, .int .i64 r] (0 + 1 + 1 + (39 - (0 + 1 + 1))) = env
  have hn : env.n = 39 := by rw [← hen]; simp [Env.ofArgs, Env.fill, Env.n_set]
  have g0 : env.get 0 = t := by rw [← hen]; simp [Env.ofArgs, Env.fill, Env.n_set, Env.get_set]
  have g1 : env.get 1 = .int .i64 r := by rw [← hen]; simp [Env.ofArgs, Env.fill, Env.n_set, Env.get_set]
  refine Ev.seq (Ev.region (EvO.val (v := .bool false) (H := H) rfl (by simp [aop, aMove, ev, val]) (EvO.nil ?_)))
  simp only [putD]
  refine Ev.seq (Ev.seq (Ev.region ?_))
  refine EvO.val (v := t) (H := H) rfl (by simp [aop, aMove, ev, val, Env.get_set, Env.n_set, hn, g0]) ?_
  refine EvO.val (v := .int .i64 n) (H := H) rfl (by simp [aop, callA, evs, builtinA, lenA, ev, val, putD, Env.get_set, Env.n_set, hn, g0, Tryd.underlying47, hsl]) ?_
  refine EvO.val (v := .int .i64 0) (H := H) rfl (by simp [aop, aMove, ev, val]) (EvO.nil ?_)
  simp only [putD]
  rw [hl]
  refine Ev.block (oloop15 t n np K V hp hbig r n _ _ 0 _ (by omega) (by simp [Env.n_set, hn]) (by simp [Env.get_set, Env.n_set, hn, g1]) (by simp [Env.get_set, Env.n_set, hn, g0]) (by simp [Env.get_set, Env.n_set, hn]) (by simp [Env.get_set, Env.n_set, hn]) (fun hb env' H' e1 => ?_) (fun hb env' H' e1 e2 => ?_))
  · simp only [if_true]
    refine Ev.seq (Ev.region (EvO.val (v := .bool true) (H := H') rfl (by simp [aop, aMove, ev, val]) (EvO.nil ?_)))
    simp only [putD]
    refine Ev.ret ⟨fun x h => (by cases h), rfl, [.bool true], ?_, ?_⟩
    · simp [resultsA, Env.get_set, e1]
    · simp [one, hb]
  · refine ⟨fun x h => (by cases h), rfl, [.bool false], ?_, ?_⟩
    · simp [resultsA, e2]
    · simp [one, hb]
end Go.Proofs.YtgkopheekihkjaaDoor.dem
