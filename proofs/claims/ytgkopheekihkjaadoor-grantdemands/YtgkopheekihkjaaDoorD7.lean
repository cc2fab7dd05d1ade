/- GrantDemands: a part of the walk. -/
import Derived.Test.YtgkopheekihkjaaDoorD6
namespace Go.Proofs.YtgkopheekihkjaaDoor.dem
open Go Go.AM Go.Proofs
set_option linter.unusedVariables false
set_option linter.unusedSimpArgs false
noncomputable def o14 : Code := sub [1,0,1,0,1,0] (bodyOf Tryd.f14)
noncomputable def l14 : Code := sub [0,1,1,0,0,1,0,1,0] o14
/-- One round of the inner loop. -/
theorem round14 {X : Ext} (env : Env) (H : AHeap) (prow : List AV) (off n : Nat) (cap : Option Nat) (j : Nat) (k v r : Int) (x : AV) (hn : env.n = 33) (h1 : env.get 1 = .int .i64 r) (h16 : env.get 16 = .rsl prow off n cap) (h17 : env.get 17 = .int .i64 n) (h18 : env.get 18 = .int .i64 j) (hj : j < n)
    (hr : rdRow prow (off + j * 3) 3 = some [.int .i64 k, .int .i64 v, x]) (Q : Out → St → Prop)
    (hQ1 : (k == 13 && v == r) = true → ∀ env' H', env'.n = 33 → (∀ t, t < 18 → t ≠ 8 → env'.get t = env.get t) → Q (.exit 1) ⟨env', H', []⟩)
    (hQ2 : (k == 13 && v == r) = false → ∀ env' H', env'.n = 33 → env'.get 18 = .int .i64 (IntKind.i64.wrap (j + 1)) → (∀ t, t < 18 → t ≠ 8 → env'.get t = env.get t) → Q .normal ⟨env', H', []⟩) :
    Ev Tryd.prog G0 X none (sub [0] l14) ⟨env, H, []⟩ Q := by
  have hj2 : (0:Int) ≤ (j : Int) ∧ (j : Int) < (n : Int) := by omega
  have hj3 : ((j : Int) < (n : Int)) := by omega
  simp only [l14, o14, bodyOf, Tryd.f14, sub, Option.getD]
  refine Ev.seq (Ev.region (EvO.val rfl (by simp only [aop, aBin, ev, h17, h18, guardOk]; rfl) (EvO.nil ?_)))
  simp only [putD]
  refine Ev.seq (Ev.cond (t := true) (by simp [ev, Env.get_set, hn, hj3]) (Ev.skip ?_))
  simp only
  refine Ev.seq (Ev.block (Ev.seq (Ev.region ?_)))
  refine EvO.val (v := .rptr prow (off + j * 3)) (H := H) (by rfl) (by simp [u, show Nat.beq 1 0 = false from rfl, show Nat.beq 3 0 = false from rfl, aop, aMove, aBin, aUn, unop, aPick, aLoad, aStore, aAlloc, aFieldAddr, aIndexAddr, callA, evs, builtinA, lenA, ev, val, addP, guardOk, isConst, binop, binI, putD, Env.get_set, Env.n_set, AHeap.get_set, AHeap.get_alloc, isAggD, rd, wr, hasLen, lenIs, AV.cells, AV.ntup, hn, slen, rdRow, loadT_of Tryd.underlying71 s71, loadT_of Tryd.underlying3 s3, loadT_of Tryd.underlying2 s2, storeT_of s71, z71, s71, s3, s2, Tryd.underlying71, Tryd.underlying72, h1, h16, h18, hj2, hj3, hr]) ?_
  refine EvO.val (v := .agg [.int .i64 k, .int .i64 v, x]) (H := H) (by rfl) (by simp [u, show Nat.beq 1 0 = false from rfl, show Nat.beq 3 0 = false from rfl, aop, aMove, aBin, aUn, unop, aPick, aLoad, aStore, aAlloc, aFieldAddr, aIndexAddr, callA, evs, builtinA, lenA, ev, val, addP, guardOk, isConst, binop, binI, putD, Env.get_set, Env.n_set, AHeap.get_set, AHeap.get_alloc, isAggD, rd, wr, hasLen, lenIs, AV.cells, AV.ntup, hn, slen, loadT_of Tryd.underlying71 s71, loadT_of Tryd.underlying3 s3, loadT_of Tryd.underlying2 s2, storeT_of s71, z71, s71, s3, s2, Tryd.underlying71, Tryd.underlying72, h1, h16, h18, hj2, hj3, hr]) ?_
  refine EvO.val (v := .ptr H.next 0) (H := H.alloc (.cells [.int .i64 0, .int .i64 0, .str ⟨#[]⟩])) (by rfl) (by simp [u, show Nat.beq 1 0 = false from rfl, show Nat.beq 3 0 = false from rfl, aop, aMove, aBin, aUn, unop, aPick, aLoad, aStore, aAlloc, aFieldAddr, aIndexAddr, callA, evs, builtinA, lenA, ev, val, addP, guardOk, isConst, binop, binI, putD, Env.get_set, Env.n_set, AHeap.get_set, AHeap.get_alloc, isAggD, rd, wr, hasLen, lenIs, AV.cells, AV.ntup, hn, slen, rdRow, loadT_of Tryd.underlying71 s71, loadT_of Tryd.underlying3 s3, loadT_of Tryd.underlying2 s2, storeT_of s71, z71, s71, s3, s2, Tryd.underlying71, Tryd.underlying72, h1, h16, h18, hj2, hj3, hr]) ?_
  refine EvO.val (v := u) (H := ((H.alloc (.cells [.int .i64 0, .int .i64 0, .str ⟨#[]⟩])).set H.next (.cells [.int .i64 k, .int .i64 v, x]))) (by rfl) (by simp [u, show Nat.beq 1 0 = false from rfl, show Nat.beq 3 0 = false from rfl, aop, aMove, aBin, aUn, unop, aPick, aLoad, aStore, aAlloc, aFieldAddr, aIndexAddr, callA, evs, builtinA, lenA, ev, val, addP, guardOk, isConst, binop, binI, putD, Env.get_set, Env.n_set, AHeap.get_set, AHeap.get_alloc, isAggD, rd, wr, hasLen, lenIs, AV.cells, AV.ntup, hn, slen, rdRow, loadT_of Tryd.underlying71 s71, loadT_of Tryd.underlying3 s3, loadT_of Tryd.underlying2 s2, storeT_of s71, z71, s71, s3, s2, Tryd.underlying71, Tryd.underlying72, h1, h16, h18, hj2, hj3, hr]) ?_
  refine EvO.nil ?_
  simp only [putD]
  refine Ev.seq (Ev.region ?_)
  by_cases hk : k = 13
  ·
    refine EvO.val (v := .ptr H.next 0) (H := ((H.alloc (.cells [.int .i64 0, .int .i64 0, .str ⟨#[]⟩])).set H.next (.cells [.int .i64 k, .int .i64 v, x]))) (by simp [u, wantedA, putD, Env.get_set, Env.n_set, hn, h1, hk]) (by simp [u, show Nat.beq 1 0 = false from rfl, show Nat.beq 3 0 = false from rfl, aop, aMove, aBin, aUn, unop, aPick, aLoad, aStore, aAlloc, aFieldAddr, aIndexAddr, callA, evs, builtinA, lenA, ev, val, addP, guardOk, isConst, binop, binI, putD, Env.get_set, Env.n_set, AHeap.get_set, AHeap.get_alloc, isAggD, rd, wr, hasLen, lenIs, AV.cells, AV.ntup, hn, slen, rdRow, loadT_of Tryd.underlying71 s71, loadT_of Tryd.underlying3 s3, loadT_of Tryd.underlying2 s2, storeT_of s71, z71, s71, s3, s2, Tryd.underlying71, Tryd.underlying72, h1, h16, h18, hj2, hj3, hr, hk]) ?_
    refine EvO.val (v := .int .i64 k) (H := ((H.alloc (.cells [.int .i64 0, .int .i64 0, .str ⟨#[]⟩])).set H.next (.cells [.int .i64 k, .int .i64 v, x]))) (by simp [u, wantedA, putD, Env.get_set, Env.n_set, hn, h1, hk]) (by simp [u, show Nat.beq 1 0 = false from rfl, show Nat.beq 3 0 = false from rfl, aop, aMove, aBin, aUn, unop, aPick, aLoad, aStore, aAlloc, aFieldAddr, aIndexAddr, callA, evs, builtinA, lenA, ev, val, addP, guardOk, isConst, binop, binI, putD, Env.get_set, Env.n_set, AHeap.get_set, AHeap.get_alloc, isAggD, rd, wr, hasLen, lenIs, AV.cells, AV.ntup, hn, slen, rdRow, loadT_of Tryd.underlying71 s71, loadT_of Tryd.underlying3 s3, loadT_of Tryd.underlying2 s2, storeT_of s71, z71, s71, s3, s2, Tryd.underlying71, Tryd.underlying72, h1, h16, h18, hj2, hj3, hr, hk]) ?_
    refine EvO.val (v := .bool true) (H := ((H.alloc (.cells [.int .i64 0, .int .i64 0, .str ⟨#[]⟩])).set H.next (.cells [.int .i64 k, .int .i64 v, x]))) (by simp [u, wantedA, putD, Env.get_set, Env.n_set, hn, h1, hk]) (by simp [u, show Nat.beq 1 0 = false from rfl, show Nat.beq 3 0 = false from rfl, aop, aMove, aBin, aUn, unop, aPick, aLoad, aStore, aAlloc, aFieldAddr, aIndexAddr, callA, evs, builtinA, lenA, ev, val, addP, guardOk, isConst, binop, binI, putD, Env.get_set, Env.n_set, AHeap.get_set, AHeap.get_alloc, isAggD, rd, wr, hasLen, lenIs, AV.cells, AV.ntup, hn, slen, rdRow, loadT_of Tryd.underlying71 s71, loadT_of Tryd.underlying3 s3, loadT_of Tryd.underlying2 s2, storeT_of s71, z71, s71, s3, s2, Tryd.underlying71, Tryd.underlying72, h1, h16, h18, hj2, hj3, hr, hk]) ?_
    refine EvO.val (v := .bool true) (H := ((H.alloc (.cells [.int .i64 0, .int .i64 0, .str ⟨#[]⟩])).set H.next (.cells [.int .i64 k, .int .i64 v, x]))) (by simp [u, wantedA, putD, Env.get_set, Env.n_set, hn, h1, hk]) (by simp [u, show Nat.beq 1 0 = false from rfl, show Nat.beq 3 0 = false from rfl, aop, aMove, aBin, aUn, unop, aPick, aLoad, aStore, aAlloc, aFieldAddr, aIndexAddr, callA, evs, builtinA, lenA, ev, val, addP, guardOk, isConst, binop, binI, putD, Env.get_set, Env.n_set, AHeap.get_set, AHeap.get_alloc, isAggD, rd, wr, hasLen, lenIs, AV.cells, AV.ntup, hn, slen, rdRow, loadT_of Tryd.underlying71 s71, loadT_of Tryd.underlying3 s3, loadT_of Tryd.underlying2 s2, storeT_of s71, z71, s71, s3, s2, Tryd.underlying71, Tryd.underlying72, h1, h16, h18, hj2, hj3, hr, hk]) ?_
    refine EvO.val (v := .ptr H.next 1) (H := ((H.alloc (.cells [.int .i64 0, .int .i64 0, .str ⟨#[]⟩])).set H.next (.cells [.int .i64 k, .int .i64 v, x]))) (by simp [u, wantedA, putD, Env.get_set, Env.n_set, hn, h1, hk]) (by simp [u, show Nat.beq 1 0 = false from rfl, show Nat.beq 3 0 = false from rfl, aop, aMove, aBin, aUn, unop, aPick, aLoad, aStore, aAlloc, aFieldAddr, aIndexAddr, callA, evs, builtinA, lenA, ev, val, addP, guardOk, isConst, binop, binI, putD, Env.get_set, Env.n_set, AHeap.get_set, AHeap.get_alloc, isAggD, rd, wr, hasLen, lenIs, AV.cells, AV.ntup, hn, slen, rdRow, loadT_of Tryd.underlying71 s71, loadT_of Tryd.underlying3 s3, loadT_of Tryd.underlying2 s2, storeT_of s71, z71, s71, s3, s2, Tryd.underlying71, Tryd.underlying72, h1, h16, h18, hj2, hj3, hr, hk]) ?_
    refine EvO.val (v := .int .i64 v) (H := ((H.alloc (.cells [.int .i64 0, .int .i64 0, .str ⟨#[]⟩])).set H.next (.cells [.int .i64 k, .int .i64 v, x]))) (by simp [u, wantedA, putD, Env.get_set, Env.n_set, hn, h1, hk]) (by simp [u, show Nat.beq 1 0 = false from rfl, show Nat.beq 3 0 = false from rfl, aop, aMove, aBin, aUn, unop, aPick, aLoad, aStore, aAlloc, aFieldAddr, aIndexAddr, callA, evs, builtinA, lenA, ev, val, addP, guardOk, isConst, binop, binI, putD, Env.get_set, Env.n_set, AHeap.get_set, AHeap.get_alloc, isAggD, rd, wr, hasLen, lenIs, AV.cells, AV.ntup, hn, slen, rdRow, loadT_of Tryd.underlying71 s71, loadT_of Tryd.underlying3 s3, loadT_of Tryd.underlying2 s2, storeT_of s71, z71, s71, s3, s2, Tryd.underlying71, Tryd.underlying72, h1, h16, h18, hj2, hj3, hr, hk]) ?_
    refine EvO.val (v := .int .i64 r) (H := ((H.alloc (.cells [.int .i64 0, .int .i64 0, .str ⟨#[]⟩])).set H.next (.cells [.int .i64 k, .int .i64 v, x]))) (by simp [u, wantedA, putD, Env.get_set, Env.n_set, hn, h1, hk]) (by simp [u, show Nat.beq 1 0 = false from rfl, show Nat.beq 3 0 = false from rfl, aop, aMove, aBin, aUn, unop, aPick, aLoad, aStore, aAlloc, aFieldAddr, aIndexAddr, callA, evs, builtinA, lenA, ev, val, addP, guardOk, isConst, binop, binI, putD, Env.get_set, Env.n_set, AHeap.get_set, AHeap.get_alloc, isAggD, rd, wr, hasLen, lenIs, AV.cells, AV.ntup, hn, slen, rdRow, loadT_of Tryd.underlying71 s71, loadT_of Tryd.underlying3 s3, loadT_of Tryd.underlying2 s2, storeT_of s71, z71, s71, s3, s2, Tryd.underlying71, Tryd.underlying72, h1, h16, h18, hj2, hj3, hr, hk]) ?_
    refine EvO.val (v := .bool (v == r)) (H := ((H.alloc (.cells [.int .i64 0, .int .i64 0, .str ⟨#[]⟩])).set H.next (.cells [.int .i64 k, .int .i64 v, x]))) (by simp [u, wantedA, putD, Env.get_set, Env.n_set, hn, h1, hk]) (by simp [u, show Nat.beq 1 0 = false from rfl, show Nat.beq 3 0 = false from rfl, aop, aMove, aBin, aUn, unop, aPick, aLoad, aStore, aAlloc, aFieldAddr, aIndexAddr, callA, evs, builtinA, lenA, ev, val, addP, guardOk, isConst, binop, binI, putD, Env.get_set, Env.n_set, AHeap.get_set, AHeap.get_alloc, isAggD, rd, wr, hasLen, lenIs, AV.cells, AV.ntup, hn, slen, rdRow, loadT_of Tryd.underlying71 s71, loadT_of Tryd.underlying3 s3, loadT_of Tryd.underlying2 s2, storeT_of s71, z71, s71, s3, s2, Tryd.underlying71, Tryd.underlying72, h1, h16, h18, hj2, hj3, hr, hk]) ?_
    refine EvO.val (v := .bool (v == r)) (H := ((H.alloc (.cells [.int .i64 0, .int .i64 0, .str ⟨#[]⟩])).set H.next (.cells [.int .i64 k, .int .i64 v, x]))) (by simp [u, wantedA, putD, Env.get_set, Env.n_set, hn, h1, hk]) (by simp [u, show Nat.beq 1 0 = false from rfl, show Nat.beq 3 0 = false from rfl, aop, aMove, aBin, aUn, unop, aPick, aLoad, aStore, aAlloc, aFieldAddr, aIndexAddr, callA, evs, builtinA, lenA, ev, val, addP, guardOk, isConst, binop, binI, putD, Env.get_set, Env.n_set, AHeap.get_set, AHeap.get_alloc, isAggD, rd, wr, hasLen, lenIs, AV.cells, AV.ntup, hn, slen, rdRow, loadT_of Tryd.underlying71 s71, loadT_of Tryd.underlying3 s3, loadT_of Tryd.underlying2 s2, storeT_of s71, z71, s71, s3, s2, Tryd.underlying71, Tryd.underlying72, h1, h16, h18, hj2, hj3, hr, hk]) ?_
    by_cases hv : v = r
    ·
      refine EvO.nil ?_
      simp only [putD]
      refine Ev.cond (t := true) (by simp [ev, Env.get_set, Env.n_set, hn, hv]) (Ev.exit ?_)
      refine hQ1 (by simp [hk, hv]) _ _ (by simp [Env.n_set, hn]) (fun t ht h8 => ?_)
      simp only [Env.get_set, Env.n_set, hn]
      repeat rw [if_neg (by omega)]
    ·
      refine EvO.nil ?_
      simp only [putD]
      refine Ev.cond (t := false) (by simp [ev, Env.get_set, Env.n_set, hn, hv]) (Ev.skip ?_)
      refine Ev.region ?_
      refine EvO.val (v := .int .i64 (IntKind.i64.wrap (j + 1))) (H := ((H.alloc (.cells [.int .i64 0, .int .i64 0, .str ⟨#[]⟩])).set H.next (.cells [.int .i64 k, .int .i64 v, x]))) (by rfl) (by simp [u, show Nat.beq 1 0 = false from rfl, show Nat.beq 3 0 = false from rfl, aop, aMove, aBin, aUn, unop, aPick, aLoad, aStore, aAlloc, aFieldAddr, aIndexAddr, callA, evs, builtinA, lenA, ev, val, addP, guardOk, isConst, binop, binI, putD, Env.get_set, Env.n_set, AHeap.get_set, AHeap.get_alloc, isAggD, rd, wr, hasLen, lenIs, AV.cells, AV.ntup, hn, slen, rdRow, loadT_of Tryd.underlying71 s71, loadT_of Tryd.underlying3 s3, loadT_of Tryd.underlying2 s2, storeT_of s71, z71, s71, s3, s2, Tryd.underlying71, Tryd.underlying72, h1, h16, h18, hj2, hj3, hr]) ?_
      refine EvO.val (v := .int .i64 (IntKind.i64.wrap (j + 1))) (H := ((H.alloc (.cells [.int .i64 0, .int .i64 0, .str ⟨#[]⟩])).set H.next (.cells [.int .i64 k, .int .i64 v, x]))) (by rfl) (by simp [u, show Nat.beq 1 0 = false from rfl, show Nat.beq 3 0 = false from rfl, aop, aMove, aBin, aUn, unop, aPick, aLoad, aStore, aAlloc, aFieldAddr, aIndexAddr, callA, evs, builtinA, lenA, ev, val, addP, guardOk, isConst, binop, binI, putD, Env.get_set, Env.n_set, AHeap.get_set, AHeap.get_alloc, isAggD, rd, wr, hasLen, lenIs, AV.cells, AV.ntup, hn, slen, rdRow, loadT_of Tryd.underlying71 s71, loadT_of Tryd.underlying3 s3, loadT_of Tryd.underlying2 s2, storeT_of s71, z71, s71, s3, s2, Tryd.underlying71, Tryd.underlying72, h1, h16, h18, hj2, hj3, hr]) ?_
      refine EvO.nil ?_
      simp only [putD]
      refine hQ2 (by simp [hk, hv]) _ _ (by simp [Env.n_set, hn]) (by simp [Env.get_set, Env.n_set, hn]) (fun t ht h8 => ?_)
      simp only [Env.get_set, Env.n_set, hn]
      repeat rw [if_neg (by omega)]
  ·
    refine EvO.val (v := .ptr H.next 0) (H := ((H.alloc (.cells [.int .i64 0, .int .i64 0, .str ⟨#[]⟩])).set H.next (.cells [.int .i64 k, .int .i64 v, x]))) (by simp [u, wantedA, putD, Env.get_set, Env.n_set, hn, h1, hk]) (by simp [u, show Nat.beq 1 0 = false from rfl, show Nat.beq 3 0 = false from rfl, aop, aMove, aBin, aUn, unop, aPick, aLoad, aStore, aAlloc, aFieldAddr, aIndexAddr, callA, evs, builtinA, lenA, ev, val, addP, guardOk, isConst, binop, binI, putD, Env.get_set, Env.n_set, AHeap.get_set, AHeap.get_alloc, isAggD, rd, wr, hasLen, lenIs, AV.cells, AV.ntup, hn, slen, rdRow, loadT_of Tryd.underlying71 s71, loadT_of Tryd.underlying3 s3, loadT_of Tryd.underlying2 s2, storeT_of s71, z71, s71, s3, s2, Tryd.underlying71, Tryd.underlying72, h1, h16, h18, hj2, hj3, hr, hk]) ?_
    refine EvO.val (v := .int .i64 k) (H := ((H.alloc (.cells [.int .i64 0, .int .i64 0, .str ⟨#[]⟩])).set H.next (.cells [.int .i64 k, .int .i64 v, x]))) (by simp [u, wantedA, putD, Env.get_set, Env.n_set, hn, h1, hk]) (by simp [u, show Nat.beq 1 0 = false from rfl, show Nat.beq 3 0 = false from rfl, aop, aMove, aBin, aUn, unop, aPick, aLoad, aStore, aAlloc, aFieldAddr, aIndexAddr, callA, evs, builtinA, lenA, ev, val, addP, guardOk, isConst, binop, binI, putD, Env.get_set, Env.n_set, AHeap.get_set, AHeap.get_alloc, isAggD, rd, wr, hasLen, lenIs, AV.cells, AV.ntup, hn, slen, rdRow, loadT_of Tryd.underlying71 s71, loadT_of Tryd.underlying3 s3, loadT_of Tryd.underlying2 s2, storeT_of s71, z71, s71, s3, s2, Tryd.underlying71, Tryd.underlying72, h1, h16, h18, hj2, hj3, hr, hk]) ?_
    refine EvO.val (v := .bool false) (H := ((H.alloc (.cells [.int .i64 0, .int .i64 0, .str ⟨#[]⟩])).set H.next (.cells [.int .i64 k, .int .i64 v, x]))) (by simp [u, wantedA, putD, Env.get_set, Env.n_set, hn, h1, hk]) (by simp [u, show Nat.beq 1 0 = false from rfl, show Nat.beq 3 0 = false from rfl, aop, aMove, aBin, aUn, unop, aPick, aLoad, aStore, aAlloc, aFieldAddr, aIndexAddr, callA, evs, builtinA, lenA, ev, val, addP, guardOk, isConst, binop, binI, putD, Env.get_set, Env.n_set, AHeap.get_set, AHeap.get_alloc, isAggD, rd, wr, hasLen, lenIs, AV.cells, AV.ntup, hn, slen, rdRow, loadT_of Tryd.underlying71 s71, loadT_of Tryd.underlying3 s3, loadT_of Tryd.underlying2 s2, storeT_of s71, z71, s71, s3, s2, Tryd.underlying71, Tryd.underlying72, h1, h16, h18, hj2, hj3, hr, hk]) ?_
    refine EvO.val (v := .bool false) (H := ((H.alloc (.cells [.int .i64 0, .int .i64 0, .str ⟨#[]⟩])).set H.next (.cells [.int .i64 k, .int .i64 v, x]))) (by simp [u, wantedA, putD, Env.get_set, Env.n_set, hn, h1, hk]) (by simp [u, show Nat.beq 1 0 = false from rfl, show Nat.beq 3 0 = false from rfl, aop, aMove, aBin, aUn, unop, aPick, aLoad, aStore, aAlloc, aFieldAddr, aIndexAddr, callA, evs, builtinA, lenA, ev, val, addP, guardOk, isConst, binop, binI, putD, Env.get_set, Env.n_set, AHeap.get_set, AHeap.get_alloc, isAggD, rd, wr, hasLen, lenIs, AV.cells, AV.ntup, hn, slen, rdRow, loadT_of Tryd.underlying71 s71, loadT_of Tryd.underlying3 s3, loadT_of Tryd.underlying2 s2, storeT_of s71, z71, s71, s3, s2, Tryd.underlying71, Tryd.underlying72, h1, h16, h18, hj2, hj3, hr, hk]) ?_
    refine EvO.skip (by simp [u, wantedA, putD, Env.get_set, Env.n_set, hn, h1, hk]) ?_
    refine EvO.skip (by simp [u, wantedA, putD, Env.get_set, Env.n_set, hn, h1, hk]) ?_
    refine EvO.skip (by simp [u, wantedA, putD, Env.get_set, Env.n_set, hn, h1, hk]) ?_
    refine EvO.skip (by simp [u, wantedA, putD, Env.get_set, Env.n_set, hn, h1, hk]) ?_
    refine EvO.val (v := .bool false) (H := ((H.alloc (.cells [.int .i64 0, .int .i64 0, .str ⟨#[]⟩])).set H.next (.cells [.int .i64 k, .int .i64 v, x]))) (by simp [u, wantedA, putD, Env.get_set, Env.n_set, hn, h1, hk]) (by simp [u, show Nat.beq 1 0 = false from rfl, show Nat.beq 3 0 = false from rfl, aop, aMove, aBin, aUn, unop, aPick, aLoad, aStore, aAlloc, aFieldAddr, aIndexAddr, callA, evs, builtinA, lenA, ev, val, addP, guardOk, isConst, binop, binI, putD, Env.get_set, Env.n_set, AHeap.get_set, AHeap.get_alloc, isAggD, rd, wr, hasLen, lenIs, AV.cells, AV.ntup, hn, slen, rdRow, loadT_of Tryd.underlying71 s71, loadT_of Tryd.underlying3 s3, loadT_of Tryd.underlying2 s2, storeT_of s71, z71, s71, s3, s2, Tryd.underlying71, Tryd.underlying72, h1, h16, h18, hj2, hj3, hr, hk]) ?_
    refine EvO.nil ?_
    simp only [putD]
    refine Ev.cond (t := false) (by simp [ev, Env.get_set, Env.n_set, hn]) (Ev.skip ?_)
    refine Ev.region ?_
    refine EvO.val (v := .int .i64 (IntKind.i64.wrap (j + 1))) (H := ((H.alloc (.cells [.int .i64 0, .int .i64 0, .str ⟨#[]⟩])).set H.next (.cells [.int .i64 k, .int .i64 v, x]))) (by rfl) (by simp [u, show Nat.beq 1 0 = false from rfl, show Nat.beq 3 0 = false from rfl, aop, aMove, aBin, aUn, unop, aPick, aLoad, aStore, aAlloc, aFieldAddr, aIndexAddr, callA, evs, builtinA, lenA, ev, val, addP, guardOk, isConst, binop, binI, putD, Env.get_set, Env.n_set, AHeap.get_set, AHeap.get_alloc, isAggD, rd, wr, hasLen, lenIs, AV.cells, AV.ntup, hn, slen, rdRow, loadT_of Tryd.underlying71 s71, loadT_of Tryd.underlying3 s3, loadT_of Tryd.underlying2 s2, storeT_of s71, z71, s71, s3, s2, Tryd.underlying71, Tryd.underlying72, h1, h16, h18, hj2, hj3, hr]) ?_
    refine EvO.val (v := .int .i64 (IntKind.i64.wrap (j + 1))) (H := ((H.alloc (.cells [.int .i64 0, .int .i64 0, .str ⟨#[]⟩])).set H.next (.cells [.int .i64 k, .int .i64 v, x]))) (by rfl) (by simp [u, show Nat.beq 1 0 = false from rfl, show Nat.beq 3 0 = false from rfl, aop, aMove, aBin, aUn, unop, aPick, aLoad, aStore, aAlloc, aFieldAddr, aIndexAddr, callA, evs, builtinA, lenA, ev, val, addP, guardOk, isConst, binop, binI, putD, Env.get_set, Env.n_set, AHeap.get_set, AHeap.get_alloc, isAggD, rd, wr, hasLen, lenIs, AV.cells, AV.ntup, hn, slen, rdRow, loadT_of Tryd.underlying71 s71, loadT_of Tryd.underlying3 s3, loadT_of Tryd.underlying2 s2, storeT_of s71, z71, s71, s3, s2, Tryd.underlying71, Tryd.underlying72, h1, h16, h18, hj2, hj3, hr]) ?_
    refine EvO.nil ?_
    simp only [putD]
    refine hQ2 (by simp [hk]) _ _ (by simp [Env.n_set, hn]) (by simp [Env.get_set, Env.n_set, hn]) (fun t ht h8 => ?_)
    simp only [Env.get_set, Env.n_set, hn]
    repeat rw [if_neg (by omega)]

/-- The inner loop. -/
theorem loop14 {X : Ext} (t : AV) (n : Nat) (K V : Nat → Int) (hp : PatRow t n K V) (hbig : n ≤ 9223372036854775807) (r : Int) : ∀ (d : Nat) (env : Env) (H : AHeap) (j : Nat) (Q : Out → St → Prop), j + d = n → env.n = 33 → env.get 1 = .int .i64 r → env.get 16 = t → env.get 17 = .int .i64 n → env.get 18 = .int .i64 j →
    (∀ env' H', env'.n = 33 → (∀ t, t < 18 → t ≠ 8 → env'.get t = env.get t) → Q (.exit (cond ((List.range' j d).any fun i => K i == 13 && V i == r) 1 2)) ⟨env', H', []⟩) →
    Ev Tryd.prog G0 X none (.loop (sub [0] l14)) ⟨env, H, []⟩ Q := by
  intro d
  induction d with
  | zero =>
    intro env H j Q hj hn h1 h16 h17 h18 hQ
    refine Ev.loop ?_
    simp only [l14, o14, bodyOf, Tryd.f14, sub, Option.getD]
    refine Ev.seq (Ev.region (EvO.val rfl (by simp only [aop, aBin, ev, h17, h18, guardOk]; rfl) (EvO.nil ?_)))
    simp only [putD]
    refine Ev.seq (Ev.cond (t := false) (by simp [ev, Env.get_set, hn]; omega) (Ev.exit ?_))
    exact hQ _ _ (by simp [Env.n_set, hn]) fun t ht _ => by
      rw [Env.get_set, if_neg (by omega)]
  | succ d ih =>
    intro env H j Q hj hn h1 h16 h17 h18 hQ
    rcases hp with ⟨_, h0⟩ | ⟨row, off, cap, rfl, hrow⟩
    · omega
    · obtain ⟨x, hx⟩ := hrow j (by omega)
      simp only [List.range'_succ, List.any_cons] at hQ
      refine Ev.loop (round14 env H row off n cap j (K j) (V j) r x hn h1 h16 h17 h18 (by omega) hx _ (fun hb env' H' e1 e4 => ?_) fun hb env' H' e1 e3 e4 => ?_)
      · have := hQ env' H' e1 e4
        rw [hb] at this
        exact this
      · refine ih env' H' (j + 1) Q (by omega) e1 ((e4 1 (by omega) (by omega)).trans h1) ((e4 16 (by omega) (by omega)).trans h16) ((e4 17 (by omega) (by omega)).trans h17) (by rw [e3, wrap_nat j n (by omega) hbig]) fun env2 H2 f1 f3 => ?_
        have := hQ env2 H2 f1 fun t ht h8 => (f3 t ht h8).trans (e4 t ht h8)
        rw [hb, Bool.false_or] at this
        exact this
end Go.Proofs.YtgkopheekihkjaaDoor.dem
