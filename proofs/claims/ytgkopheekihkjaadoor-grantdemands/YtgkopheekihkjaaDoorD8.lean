/- GrantDemands: a part of the walk. -/
import Derived.Test.YtgkopheekihkjaaDoorD7
namespace Go.Proofs.YtgkopheekihkjaaDoor.dem
open Go Go.AM Go.Proofs
set_option linter.unusedVariables false
set_option linter.unusedSimpArgs false
/-- One round of the outer loop. -/
theorem oround14 {X : Ext} (env : Env) (H : AHeap) (crow : List AV) (off n : Nat) (cap : Option Nat) (i m : Nat) (K V : Nat → Int) (r : Int) (p g l : AV) (hn : env.n = 33) (h1 : env.get 1 = .int .i64 r) (h9 : env.get 9 = .rsl crow off n cap) (h10 : env.get 10 = .int .i64 n) (h11 : env.get 11 = .int .i64 i) (hj : i < n)
    (hr : rdRow crow (off + i * 3) 3 = some [p, g, l]) (hp : PatRow p m K V) (hbig : m ≤ 9223372036854775807) (Q : Out → St → Prop)
    (hQ1 : ((List.range' 0 m).any fun j => K j == 13 && V j == r) = true → ∀ env' H', env'.n = 33 → env'.get 11 = .int .i64 (IntKind.i64.wrap (i + 1)) → (∀ t, t = 1 ∨ t = 9 ∨ t = 10 → env'.get t = env.get t) → Q .normal ⟨env', H', []⟩)
    (hQ2 : ((List.range' 0 m).any fun j => K j == 13 && V j == r) = false → ∀ env' H', env'.n = 33 → env'.get 4 = .bool false → Q .ret ⟨env', H', []⟩) :
    Ev Tryd.prog G0 X none (sub [0] o14) ⟨env, H, []⟩ Q := by
  have hj2 : (0:Int) ≤ (i : Int) ∧ (i : Int) < (n : Int) := by omega
  have hj3 : ((i : Int) < (n : Int)) := by omega
  have hsl := hp.slen
  have hl2 : l14 = .loop (sub [0] l14) := by simp only [l14, o14, bodyOf, Tryd.f14, sub, Option.getD]
  have hbody : sub [0] o14 = .seq (sub [0,0] o14) (.seq (sub [0,1,0] o14) (.seq (.block 1 (.seq (sub [0,1,1,0,0,0] o14) (.seq (.seq (sub [0,1,1,0,0,1,0,0] o14) (.block 2 l14)) (sub [0,1,1,0,0,1,1] o14)))) (sub [0,1,1,1] o14))) := by
    simp only [l14, o14, bodyOf, Tryd.f14, sub, Option.getD]
  rw [hbody]
  simp only [o14, bodyOf, Tryd.f14, sub, Option.getD]
  refine Ev.seq (Ev.region (EvO.val rfl (by simp only [aop, aBin, ev, h10, h11, guardOk]; rfl) (EvO.nil ?_)))
  simp only [putD]
  refine Ev.seq (Ev.cond (t := true) (by simp [ev, Env.get_set, hn, hj3]) (Ev.skip ?_))
  simp only
  refine Ev.seq (Ev.block (Ev.seq (Ev.region ?_)))
  refine EvO.val (v := .rptr crow (off + i * 3)) (H := H) rfl (by simp [u, show Nat.beq 1 0 = false from rfl, show Nat.beq 3 0 = false from rfl, aop, aMove, aBin, aUn, unop, aPick, aLoad, aStore, aAlloc, aFieldAddr, aIndexAddr, callA, evs, builtinA, lenA, ev, val, addP, guardOk, isConst, binop, binI, putD, Env.get_set, Env.n_set, AHeap.get_set, AHeap.get_alloc, isAggD, rd, wr, hasLen, lenIs, AV.cells, AV.ntup, hn, loadT_of Tryd.underlying75 s75, loadT_of Tryd.underlying72 s72, storeT_of s75, z75, s75, s72, Tryd.underlying75, Tryd.underlying72, Tryd.underlying47, h1, h9, h10, h11, hj2, hj3, hr, hsl, slen, rdRow]) ?_
  refine EvO.val (v := .agg [p, g, l]) (H := H) rfl (by simp [u, show Nat.beq 1 0 = false from rfl, show Nat.beq 3 0 = false from rfl, aop, aMove, aBin, aUn, unop, aPick, aLoad, aStore, aAlloc, aFieldAddr, aIndexAddr, callA, evs, builtinA, lenA, ev, val, addP, guardOk, isConst, binop, binI, putD, Env.get_set, Env.n_set, AHeap.get_set, AHeap.get_alloc, isAggD, rd, wr, hasLen, lenIs, AV.cells, AV.ntup, hn, loadT_of Tryd.underlying75 s75, loadT_of Tryd.underlying72 s72, storeT_of s75, z75, s75, s72, Tryd.underlying75, Tryd.underlying72, Tryd.underlying47, h1, h9, h10, h11, hj2, hj3, hr, hsl]) ?_
  refine EvO.val (v := .ptr H.next 0) (H := H.alloc (.cells [.nils, .nils, .int .i64 0])) rfl (by simp [u, show Nat.beq 1 0 = false from rfl, show Nat.beq 3 0 = false from rfl, aop, aMove, aBin, aUn, unop, aPick, aLoad, aStore, aAlloc, aFieldAddr, aIndexAddr, callA, evs, builtinA, lenA, ev, val, addP, guardOk, isConst, binop, binI, putD, Env.get_set, Env.n_set, AHeap.get_set, AHeap.get_alloc, isAggD, rd, wr, hasLen, lenIs, AV.cells, AV.ntup, hn, loadT_of Tryd.underlying75 s75, loadT_of Tryd.underlying72 s72, storeT_of s75, z75, s75, s72, Tryd.underlying75, Tryd.underlying72, Tryd.underlying47, h1, h9, h10, h11, hj2, hj3, hr, hsl, rdRow]) ?_
  refine EvO.val (v := u) (H := ((H.alloc (.cells [.nils, .nils, .int .i64 0])).set H.next (.cells [p, g, l]))) rfl (by simp [u, show Nat.beq 1 0 = false from rfl, show Nat.beq 3 0 = false from rfl, aop, aMove, aBin, aUn, unop, aPick, aLoad, aStore, aAlloc, aFieldAddr, aIndexAddr, callA, evs, builtinA, lenA, ev, val, addP, guardOk, isConst, binop, binI, putD, Env.get_set, Env.n_set, AHeap.get_set, AHeap.get_alloc, isAggD, rd, wr, hasLen, lenIs, AV.cells, AV.ntup, hn, loadT_of Tryd.underlying75 s75, loadT_of Tryd.underlying72 s72, storeT_of s75, z75, s75, s72, Tryd.underlying75, Tryd.underlying72, Tryd.underlying47, h1, h9, h10, h11, hj2, hj3, hr, hsl, rdRow]) ?_
  refine EvO.nil ?_
  simp only [putD]
  refine Ev.seq (Ev.seq (Ev.region ?_))
  refine EvO.val (v := .ptr H.next 0) (H := ((H.alloc (.cells [.nils, .nils, .int .i64 0])).set H.next (.cells [p, g, l]))) rfl (by simp [u, show Nat.beq 1 0 = false from rfl, show Nat.beq 3 0 = false from rfl, aop, aMove, aBin, aUn, unop, aPick, aLoad, aStore, aAlloc, aFieldAddr, aIndexAddr, callA, evs, builtinA, lenA, ev, val, addP, guardOk, isConst, binop, binI, putD, Env.get_set, Env.n_set, AHeap.get_set, AHeap.get_alloc, isAggD, rd, wr, hasLen, lenIs, AV.cells, AV.ntup, hn, loadT_of Tryd.underlying75 s75, loadT_of Tryd.underlying72 s72, storeT_of s75, z75, s75, s72, Tryd.underlying75, Tryd.underlying72, Tryd.underlying47, h1, h9, h10, h11, hj2, hj3, hr, hsl, rdRow]) ?_
  refine EvO.val (v := p) (H := ((H.alloc (.cells [.nils, .nils, .int .i64 0])).set H.next (.cells [p, g, l]))) rfl (by simp [u, show Nat.beq 1 0 = false from rfl, show Nat.beq 3 0 = false from rfl, aop, aMove, aBin, aUn, unop, aPick, aLoad, aStore, aAlloc, aFieldAddr, aIndexAddr, callA, evs, builtinA, lenA, ev, val, addP, guardOk, isConst, binop, binI, putD, Env.get_set, Env.n_set, AHeap.get_set, AHeap.get_alloc, isAggD, rd, wr, hasLen, lenIs, AV.cells, AV.ntup, hn, loadT_of Tryd.underlying75 s75, loadT_of Tryd.underlying72 s72, storeT_of s75, z75, s75, s72, Tryd.underlying75, Tryd.underlying72, Tryd.underlying47, h1, h9, h10, h11, hj2, hj3, hr, hsl, rdRow]) ?_
  refine EvO.val (v := .int .i64 m) (H := ((H.alloc (.cells [.nils, .nils, .int .i64 0])).set H.next (.cells [p, g, l]))) rfl (by simp [u, show Nat.beq 1 0 = false from rfl, show Nat.beq 3 0 = false from rfl, aop, aMove, aBin, aUn, unop, aPick, aLoad, aStore, aAlloc, aFieldAddr, aIndexAddr, callA, evs, builtinA, lenA, ev, val, addP, guardOk, isConst, binop, binI, putD, Env.get_set, Env.n_set, AHeap.get_set, AHeap.get_alloc, isAggD, rd, wr, hasLen, lenIs, AV.cells, AV.ntup, hn, loadT_of Tryd.underlying75 s75, loadT_of Tryd.underlying72 s72, storeT_of s75, z75, s75, s72, Tryd.underlying75, Tryd.underlying72, Tryd.underlying47, h1, h9, h10, h11, hj2, hj3, hr, hsl]) ?_
  refine EvO.val (v := .int .i64 0) (H := ((H.alloc (.cells [.nils, .nils, .int .i64 0])).set H.next (.cells [p, g, l]))) rfl (by simp [u, show Nat.beq 1 0 = false from rfl, show Nat.beq 3 0 = false from rfl, aop, aMove, aBin, aUn, unop, aPick, aLoad, aStore, aAlloc, aFieldAddr, aIndexAddr, callA, evs, builtinA, lenA, ev, val, addP, guardOk, isConst, binop, binI, putD, Env.get_set, Env.n_set, AHeap.get_set, AHeap.get_alloc, isAggD, rd, wr, hasLen, lenIs, AV.cells, AV.ntup, hn, loadT_of Tryd.underlying75 s75, loadT_of Tryd.underlying72 s72, storeT_of s75, z75, s75, s72, Tryd.underlying75, Tryd.underlying72, Tryd.underlying47, h1, h9, h10, h11, hj2, hj3, hr, hsl]) ?_
  refine EvO.nil ?_
  simp only [putD]
  rw [hl2]
  refine Ev.block (loop14 p m K V hp hbig r m _ _ 0 _ (by omega) (by simp [Env.n_set, hn]) (by simp [Env.get_set, Env.n_set, hn, h1]) (by simp [Env.get_set, Env.n_set, hn]) (by simp [Env.get_set, Env.n_set, hn]) (by simp [Env.get_set, Env.n_set, hn]) fun env' H' e1 e3 => ?_)
  have e1' : env'.get 1 = .int .i64 r := (e3 1 (by omega) (by omega)).trans (by simp [Env.get_set, Env.n_set, hn, h1])
  have e9 : env'.get 9 = env.get 9 := (e3 9 (by omega) (by omega)).trans (by simp [Env.get_set, Env.n_set, hn])
  have e10 : env'.get 10 = env.get 10 := (e3 10 (by omega) (by omega)).trans (by simp [Env.get_set, Env.n_set, hn])
  have e11 : env'.get 11 = env.get 11 := (e3 11 (by omega) (by omega)).trans (by simp [Env.get_set, Env.n_set, hn])
  generalize hb : ((List.range' 0 m).any fun j => K j == 13 && V j == r) = b at *
  cases b with
  | true =>
    simp only [cond_true, show ¬ ((1 : Nat) = 2) by omega, if_false, if_true]
    refine Ev.region (EvO.val (v := .int .i64 (IntKind.i64.wrap (i + 1))) (H := H') rfl (by simp [aop, aBin, binop, binI, ev, val, guardOk, Env.get_set, Env.n_set, e1, e11, h11]) (EvO.val (v := .int .i64 (IntKind.i64.wrap (i + 1))) (H := H') rfl (by simp [aop, aMove, ev, val, putD, Env.get_set, Env.n_set, e1]) (EvO.nil ?_)))
    simp only [putD]
    refine hQ1 rfl _ _ (by simp [Env.n_set, e1]) (by simp [Env.get_set, Env.n_set, e1]) fun t ht => ?_
    rcases ht with rfl | rfl | rfl <;> simp [Env.get_set, Env.n_set, e1, e1', e10, e9, h1]
  | false =>
    simp only [cond_false, if_true]
    refine Ev.seq (Ev.region (EvO.val (v := .bool false) (H := H') rfl (by simp [aop, aMove, ev, val]) (EvO.nil ?_)))
    simp only [putD]
    exact Ev.ret (hQ2 rfl _ _ (by simp [Env.n_set, e1]) (by simp [Env.get_set, Env.n_set, e1]))
theorem oloop14 {X : Ext} (t : AV) (n : Nat) (np : Nat → Nat) (K V : Nat → Nat → Int) (hp : ClauseRow t n np K V) (hbig : n ≤ 9223372036854775807) (r : Int) : ∀ (d : Nat) (env : Env) (H : AHeap) (i : Nat) (Q : Out → St → Prop), i + d = n → env.n = 33 → env.get 1 = .int .i64 r → env.get 9 = t → env.get 10 = .int .i64 n → env.get 11 = .int .i64 i →
    ((List.range' i d).all (met np K V r) = true → ∀ env' H', env'.n = 33 → Q (.exit 0) ⟨env', H', []⟩) →
    ((List.range' i d).all (met np K V r) = false → ∀ env' H', env'.n = 33 → env'.get 4 = .bool false → Q .ret ⟨env', H', []⟩) →
    Ev Tryd.prog G0 X none (.loop (sub [0] o14)) ⟨env, H, []⟩ Q := by
  intro d
  induction d with
  | zero =>
    intro env H i Q hi hn h1 h10 h11 h12 hQ1 hQ2
    refine Ev.loop ?_
    simp only [o14, bodyOf, Tryd.f14, sub, Option.getD]
    refine Ev.seq (Ev.region (EvO.val rfl (by simp only [aop, aBin, ev, h11, h12, guardOk]; rfl) (EvO.nil ?_)))
    simp only [putD]
    refine Ev.seq (Ev.cond (t := false) (by simp [ev, Env.get_set, hn]; omega) (Ev.exit ?_))
    exact hQ1 rfl _ _ (by simp [Env.n_set, hn])
  | succ d ih =>
    intro env H i Q hi hn h1 h10 h11 h12 hQ1 hQ2
    rcases hp with ⟨_, h0⟩ | ⟨row, off, cap, rfl, hrow⟩
    · omega
    · obtain ⟨p, g, l, hx, hpat, hnp⟩ := hrow i (by omega)
      simp only [List.range'_succ, List.all_cons] at hQ1 hQ2
      refine Ev.loop (oround14 env H row off n cap i (np i) (K i) (V i) r p g l hn h1 h10 h11 h12 (by omega) hx hpat hnp _ (fun hb env' H' e1 e2 e3 => ?_) (fun hb env' H' e1 e2 => ?_))
      · have hm : met np K V r i = true := hb
        refine ih env' H' (i + 1) Q (by omega) e1 ((e3 1 (by omega)).trans h1) ((e3 9 (by omega)).trans h10) ((e3 10 (by omega)).trans h11) (by rw [e2, wrap_nat i n (by omega) hbig]) (fun h => hQ1 (by rw [hm, h]; rfl)) (fun h => hQ2 (by rw [hm, h]; rfl))
      · have hm : met np K V r i = false := hb
        exact hQ2 (by rw [hm]; rfl) env' H' e1 e2
theorem demands14 {X : Ext} (hX : X 14 = none) (t : AV) (n : Nat) (np : Nat → Nat) (K V : Nat → Nat → Int) (hp : ClauseRow t n np K V) (hbig : n ≤ 9223372036854775807) (r : Int) (H : AHeap) : EvC Tryd.prog G0 X 14 [t, .int .i64 r] H fun v _ => v = .bool ((List.range' 0 n).all (met np K V r)) := by
  have hsl := hp.slen
  have ho : sub [1,0,1,0,1,0] (bodyOf Tryd.f14) = o14 := rfl
  have hl : o14 = .loop (sub [0] o14) := by simp only [o14, bodyOf, Tryd.f14, sub, Option.getD]
  have hbody : Tryd.f14.body = some (.seq (sub [0] (bodyOf Tryd.f14)) (.scope (.seq (sub [1,0,0] (bodyOf Tryd.f14)) (.seq (.seq (sub [1,0,1,0,0] (bodyOf Tryd.f14)) (.block 0 o14)) (sub [1,0,1,1] (bodyOf Tryd.f14)))))) := by
    rw [← ho]
    simp only [bodyOf, Tryd.f14, sub, Option.getD]
  refine EvC.body hX Tryd.func14 hbody ?_
  rw [Tryd.ntmps14]
  simp only [bodyOf, Tryd.f14, sub, Option.getD, List.length_cons, List.length_nil]
  generalize hen : Env.ofArgs [t, .int .i64 r] (0 + 1 + 1 + (33 - (0 + 1 + 1))) = env
  have hn : env.n = 33 := by rw [← hen]; simp [Env.ofArgs, Env.fill, Env.n_set]
  have g0 : env.get 0 = t := by rw [← hen]; simp [Env.ofArgs, Env.fill, Env.n_set, Env.get_set]
  have g1 : env.get 1 = .int .i64 r := by rw [← hen]; simp [Env.ofArgs, Env.fill, Env.n_set, Env.get_set]
  refine Ev.seq (Ev.region (EvO.val (v := .bool false) (H := H) rfl (by simp [aop, aMove, ev, val]) (EvO.nil ?_)))
  simp only [putD]
  refine Ev.scope (Ev.seq (Ev.label ?_))
  simp only
  refine Ev.seq (Ev.seq (Ev.region ?_))
  refine EvO.val (v := t) (H := H) rfl (by simp [aop, aMove, ev, val, Env.get_set, Env.n_set, hn, g0]) ?_
  refine EvO.val (v := .int .i64 n) (H := H) rfl (by simp [aop, callA, evs, builtinA, lenA, ev, val, putD, Env.get_set, Env.n_set, hn, g0, Tryd.underlying47, hsl]) ?_
  refine EvO.val (v := .int .i64 0) (H := H) rfl (by simp [aop, aMove, ev, val]) (EvO.nil ?_)
  simp only [putD]
  rw [hl]
  refine Ev.block (oloop14 t n np K V hp hbig r n _ _ 0 _ (by omega) (by simp [Env.n_set, hn]) (by simp [Env.get_set, Env.n_set, hn, g1]) (by simp [Env.get_set, Env.n_set, hn, g0]) (by simp [Env.get_set, Env.n_set, hn]) (by simp [Env.get_set, Env.n_set, hn]) (fun hb env' H' e1 => ?_) (fun hb env' H' e1 e2 => ?_))
  · simp only [if_true]
    refine Ev.seq (Ev.region (EvO.val (v := .bool true) (H := H') rfl (by simp [aop, aMove, ev, val]) (EvO.nil ?_)))
    simp only [putD]
    refine Ev.ret ⟨fun x h => (by cases h), rfl, [.bool true], ?_, ?_⟩
    · simp [resultsA, Env.get_set, e1]
    · simp [one, hb]
  · refine ⟨fun x h => (by cases h), rfl, [.bool false], ?_, ?_⟩
    · simp [resultsA, e2]
    · simp [one, hb]
end Go.Proofs.YtgkopheekihkjaaDoor.dem
