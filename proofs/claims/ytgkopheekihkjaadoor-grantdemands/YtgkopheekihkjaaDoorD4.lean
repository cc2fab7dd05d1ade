/- GrantDemands: a part of the walk. -/
import Derived.Test.YtgkopheekihkjaaDoorD3
namespace Go.Proofs.YtgkopheekihkjaaDoor.dem
open Go Go.AM Go.Proofs
set_option linter.unusedVariables false
set_option linter.unusedSimpArgs false
theorem wrap_nat (j n : Nat) (h : j < n) (hn : n ≤ 9223372036854775807) : IntKind.i64.wrap ((j : Int) + 1) = ((j + 1 : Nat) : Int) := by
  simp [IntKind.wrap, IntKind.signed, IntKind.bits]; omega
/-- The inner loop. -/
theorem loop15 {X : Ext} (t : AV) (n : Nat) (K V : Nat → Int) (hp : PatRow t n K V) (hbig : n ≤ 9223372036854775807) (r : Int) : ∀ (d : Nat) (env : Env) (H : AHeap) (j : Nat) (met : Bool) (Q : Out → St → Prop), j + d = n → env.n = 39 → env.get 1 = .int .i64 r → env.get 7 = .bool met → env.get 17 = t → env.get 18 = .int .i64 n → env.get 19 = .int .i64 j →
    (∀ env' H', env'.n = 39 → env'.get 7 = .bool (met || (List.range' j d).any fun i => K i == 13 && V i == r) → (∀ t, t < 19 → t ≠ 7 → t ≠ 9 → env'.get t = env.get t) → Q (.exit 2) ⟨env', H', []⟩) →
    Ev Tryd.prog G0 X none (.loop (sub [0] l15)) ⟨env, H, []⟩ Q := by
  intro d
  induction d with
  | zero =>
    intro env H j met Q hj hn h1 h7 h17 h18 h19 hQ
    refine Ev.loop ?_
    simp only [l15, bodyOf, Tryd.f15, sub, Option.getD]
    refine Ev.seq (Ev.region (EvO.val rfl (by simp only [aop, aBin, ev, h18, h19, guardOk]; rfl) (EvO.nil ?_)))
    simp only [putD]
    refine Ev.seq (Ev.cond (t := false) (by simp [ev, Env.get_set, hn]; omega) (Ev.exit ?_))
    exact hQ _ _ (by simp [Env.n_set, hn]) (by simp [Env.get_set, h7]) fun t ht _ _ => by
      rw [Env.get_set, if_neg (by omega)]
  | succ d ih =>
    intro env H j met Q hj hn h1 h7 h17 h18 h19 hQ
    rcases hp with ⟨_, h0⟩ | ⟨row, off, cap, rfl, hrow⟩
    · omega
    · obtain ⟨x, hx⟩ := hrow j (by omega)
      refine Ev.loop (round15 env H row off n cap j (K j) (V j) r met x hn h1 h7 h17 h18 h19 (by omega) hx _ fun env' H' e1 e2 e3 e4 => ?_)
      refine ih env' H' (j + 1) _ Q (by omega) e1 ((e4 1 (by omega) (by omega) (by omega)).trans h1) e2 ((e4 17 (by omega) (by omega) (by omega)).trans h17) ((e4 18 (by omega) (by omega) (by omega)).trans h18) (by rw [e3, wrap_nat j n (by omega) hbig]) fun env2 H2 f1 f2 f3 => ?_
      refine hQ env2 H2 f1 ?_ fun t ht h7' h9' => (f3 t ht h7' h9').trans (e4 t ht h7' h9')
      rw [f2, List.range'_succ, List.any_cons, Bool.or_assoc]
end Go.Proofs.YtgkopheekihkjaaDoor.dem
