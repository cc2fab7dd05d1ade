/- GrantDemands: a part of the walk. -/
import Derived.Test.YtgkopheekihkjaaDoorD8
namespace Go.Proofs.YtgkopheekihkjaaDoor.dem
open Go Go.AM Go.Proofs
set_option linter.unusedVariables false
set_option linter.unusedSimpArgs false
theorem awake16 {H : AHeap} : EvC Tryd.prog G0 (saysTrue 16) 16 [] H fun v _ => v = .bool true :=
  ⟨.bool true, H, rfl, 1, fun k hk => by
    obtain ⟨k, rfl⟩ : ∃ j, k = j + 1 := ⟨k - 1, by omega⟩
    rw [both_ca]
    simp [saysTrue]⟩
/-- The law's run, from any memory. -/
theorem law5 (t : AV) (n : Nat) (np : Nat → Nat) (K V : Nat → Nat → Int) (hp : ClauseRow t n np K V) (hbig : n ≤ 9223372036854775807) (r : Int) (H : AHeap) : EvC Tryd.prog G0 (saysTrue 16) 5 [t, .int .i64 r] H fun v _ => v = .bool true := by
  have hbody : Tryd.f5.body = some (.seq (sub [0] (bodyOf Tryd.f5)) (.seq (sub [1,0] (bodyOf Tryd.f5)) (sub [1,1] (bodyOf Tryd.f5)))) := by
    simp only [bodyOf, Tryd.f5, sub, Option.getD]
  refine EvC.body rfl Tryd.func5 hbody ?_
  rw [Tryd.ntmps5]
  simp only [bodyOf, Tryd.f5, sub, Option.getD, List.length_cons, List.length_nil]
  generalize hen : Env.ofArgs [t, .int .i64 r] (0 + 1 + 1 + (15 - (0 + 1 + 1))) = env
  have hn : env.n = 15 := by rw [← hen]; simp [Env.ofArgs, Env.fill, Env.n_set]
  have g0 : env.get 0 = t := by rw [← hen]; simp [Env.ofArgs, Env.fill, Env.n_set, Env.get_set]
  have g1 : env.get 1 = .int .i64 r := by rw [← hen]; simp [Env.ofArgs, Env.fill, Env.n_set, Env.get_set]
  have c14 : canEnter Tryd.prog 14 = true := by kernel_rfl
  have c15 : canEnter Tryd.prog 15 = true := by kernel_rfl
  have c16 : canEnter Tryd.prog 16 = true := by kernel_rfl
  have en : ∀ f args, canEnter Tryd.prog f = true → enterA Tryd.prog f args = some (.enter f args) := fun f args h => by
    unfold canEnter at h
    unfold enterA
    split at h
    · rename_i fn hf
      simp only [hf, h, if_true]
    · cases h
  refine Ev.seq (Ev.region (EvO.val (v := .bool false) (H := H) rfl (by simp [aop, aMove, ev, val]) (EvO.nil ?_)))
  simp only [putD]
  refine Ev.seq (Ev.region ?_)
  refine EvO.val (v := t) (H := H) rfl (by simp [aop, aMove, ev, val, Env.get_set, Env.n_set, hn, g0]) ?_
  refine EvO.val (v := .int .i64 r) (H := H) rfl (by simp [aop, aMove, ev, val, putD, Env.get_set, Env.n_set, hn, g1]) ?_
  refine EvO.call (f := 14) (args := [t, .int .i64 r]) rfl (by simp [aop, callA, evs, ev, putD, Env.get_set, Env.n_set, hn, en 14 _ c14]) ((demands14 rfl t n np K V hp hbig r H).mono fun v H1 hv => ?_)
  subst hv
  obtain ⟨b, hb⟩ : ∃ b, b = (List.range' 0 n).all (met np K V r) := ⟨_, rfl⟩
  rw [← hb]
  refine EvO.val (v := t) (H := H1) rfl (by simp [aop, aMove, ev, val, putD, Env.get_set, Env.n_set, hn, g0]) ?_
  refine EvO.val (v := .int .i64 r) (H := H1) rfl (by simp [aop, aMove, ev, val, putD, Env.get_set, Env.n_set, hn, g1]) ?_
  refine EvO.call (f := 15) (args := [t, .int .i64 r]) rfl (by simp [aop, callA, evs, ev, putD, Env.get_set, Env.n_set, hn, en 15 _ c15]) ((demands15 rfl t n np K V hp hbig r H1).mono fun v H2 hv => ?_)
  subst hv
  rw [← hb]
  refine EvO.val (v := .bool true) (H := H2) rfl (by simp [aop, aBin, binop, aeq, Tryd.underlying4, guardOk, ev, val, putD, Env.get_set, Env.n_set, hn]) ?_
  refine EvO.val (v := .bool true) (H := H2) rfl (by simp [aop, aMove, ev, val, putD, Env.get_set, Env.n_set, hn]) ?_
  refine EvO.call (f := 16) (args := []) (by simp [wantedA, putD, Env.get_set, Env.n_set, hn]) (by simp [aop, callA, evs, ev, putD, Env.get_set, Env.n_set, hn, en 16 _ c16]) (awake16.mono fun v H3 hv => ?_)
  subst hv
  refine EvO.val (v := .bool true) (H := H3) rfl (by simp [aop, aPick, ev, val, putD, Env.get_set, Env.n_set, hn]) ?_
  refine EvO.val (v := .bool true) (H := H3) rfl (by simp [aop, aMove, ev, val, putD, Env.get_set, Env.n_set, hn]) (EvO.nil ?_)
  simp only [putD]
  exact Ev.ret ⟨fun x h => (by cases h), rfl, [.bool true], by simp [resultsA, Env.get_set, Env.n_set, hn], rfl⟩
end Go.Proofs.YtgkopheekihkjaaDoor.dem
