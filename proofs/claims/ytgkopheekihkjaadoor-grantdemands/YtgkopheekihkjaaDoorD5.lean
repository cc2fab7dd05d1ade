/- GrantDemands: a part of the walk. -/
import Derived.Test.YtgkopheekihkjaaDoorD4
namespace Go.Proofs.YtgkopheekihkjaaDoor.dem
open Go Go.AM Go.Proofs
set_option linter.unusedVariables false
set_option linter.unusedSimpArgs false
theorem s72 : sizeT Tryd.prog 72 = some 1 := by kernel_rfl
theorem z75 : zeroT Tryd.prog 75 = some (.agg [.nils, .nils, .int .i64 0]) := by kernel_rfl
noncomputable def o15 : Code := sub [1,0,1,0] (bodyOf Tryd.f15)
theorem PatRow.slen {p : AV} {m : Nat} {K V : Nat → Int} (h : PatRow p m K V) : slen p = some m := by
  rcases h with ⟨rfl, rfl⟩ | ⟨row, off, cap, rfl, _⟩ <;> rfl
/-- One round of the outer loop. -/
theorem oround15 {X : Ext} (env : Env) (H : AHeap) (crow : List AV) (off n : Nat) (cap : Option Nat) (i m : Nat) (K V : Nat → Int) (r : Int) (p g l : AV) (hn : env.n = 39) (h1 : env.get 1 = .int .i64 r) (h10 : env.get 10 = .rsl crow off n cap) (h11 : env.get 11 = .int .i64 n) (h12 : env.get 12 = .int .i64 i) (hj : i < n)
    (hr : rdRow crow (off + i * 3) 3 = some [p, g, l]) (hp : PatRow p m K V) (hbig : m ≤ 9223372036854775807) (Q : Out → St → Prop)
    (hQ1 : ((List.range' 0 m).any fun j => K j == 13 && V j == r) = true → ∀ env' H', env'.n = 39 → env'.get 12 = .int .i64 (IntKind.i64.wrap (i + 1)) → (∀ t, t = 1 ∨ t = 10 ∨ t = 11 → env'.get t = env.get t) → Q .normal ⟨env', H', []⟩)
    (hQ2 : ((List.range' 0 m).any fun j => K j == 13 && V j == r) = false → ∀ env' H', env'.n = 39 → env'.get 4 = .bool false → Q .ret ⟨env', H', []⟩) :
    Ev Tryd.prog G0 X none (sub [0] o15) ⟨env, H, []⟩ Q := by
  have hj2 : (0:Int) ≤ (i : Int) ∧ (i : Int) < (n : Int) := by omega
  have hj3 : ((i : Int) < (n : Int)) := by omega
  have hsl := hp.slen
  have hl : sub [0,1,1,0,0,1,1,0,1,0] o15 = l15 := by simp only [o15, l15, bodyOf, Tryd.f15, sub, Option.getD]
  have hl2 : l15 = .loop (sub [0] l15) := by simp only [l15, bodyOf, Tryd.f15, sub, Option.getD]
  obtain ⟨L, hL⟩ : ∃ L, L = sub [0,1,1,0,0,1,1,0,1,0] o15 := ⟨_, rfl⟩
  have hbody : sub [0] o15 = .seq (sub [0,0] o15) (.seq (sub [0,1,0] o15) (.seq (.block 1 (.seq (sub [0,1,1,0,0,0] o15) (.seq (sub [0,1,1,0,0,1,0] o15) (.seq (.seq (sub [0,1,1,0,0,1,1,0,0] o15) (.block 2 l15)) (sub [0,1,1,0,0,1,1,1] o15))))) (sub [0,1,1,1] o15))) := by
    rw [← hl]
    simp only [o15, bodyOf, Tryd.f15, sub, Option.getD]
  rw [hbody]
  simp only [o15, bodyOf, Tryd.f15, sub, Option.getD]
  refine Ev.seq (Ev.region (EvO.val rfl (by simp only [aop, aBin, ev, h11, h12, guardOk]; rfl) (EvO.nil ?_)))
  simp only [putD]
  refine Ev.seq (Ev.cond (t := true) (by simp [ev, Env.get_set, hn, hj3]) (Ev.skip ?_))
  simp only
  refine Ev.seq (Ev.block (Ev.seq (Ev.region ?_)))
  refine EvO.val (v := .rptr crow (off + i * 3)) (H := H) (by rfl) (by simp [u, show Nat.beq 1 0 = false from rfl, show Nat.beq 3 0 = false from rfl, aop, aMove, aBin, aUn, unop, aPick, aLoad, aStore, aAlloc, aFieldAddr, aIndexAddr, callA, evs, builtinA, lenA, ev, val, addP, slen, guardOk, isConst, binop, binI, putD, Env.get_set, Env.n_set, AHeap.get_set, AHeap.get_alloc, loadT_of Tryd.underlying75 s75, loadT_of Tryd.underlying72 s72, storeT_of s75, isAggD, rd, wr, rdRow, hasLen, lenIs, AV.cells, AV.ntup, z75, s75, s72, Tryd.underlying75, Tryd.underlying72, Tryd.underlying47, h1, h10, h11, h12, hn, hj2, hj3, hr, hsl]) ?_
  refine EvO.val (v := .agg [p, g, l]) (H := H) (by rfl) (by simp [u, show Nat.beq 1 0 = false from rfl, show Nat.beq 3 0 = false from rfl, aop, aMove, aBin, aUn, unop, aPick, aLoad, aStore, aAlloc, aFieldAddr, aIndexAddr, callA, evs, builtinA, lenA, ev, val, addP, slen, guardOk, isConst, binop, binI, putD, Env.get_set, Env.n_set, AHeap.get_set, AHeap.get_alloc, loadT_of Tryd.underlying75 s75, loadT_of Tryd.underlying72 s72, storeT_of s75, isAggD, rd, wr, hasLen, lenIs, AV.cells, AV.ntup, z75, s75, s72, Tryd.underlying75, Tryd.underlying72, Tryd.underlying47, h1, h10, h11, h12, hn, hj2, hj3, hr, hsl]) ?_
  refine EvO.val (v := .ptr H.next 0) (H := H.alloc (.cells [.nils, .nils, .int .i64 0])) (by rfl) (by simp [u, show Nat.beq 1 0 = false from rfl, show Nat.beq 3 0 = false from rfl, aop, aMove, aBin, aUn, unop, aPick, aLoad, aStore, aAlloc, aFieldAddr, aIndexAddr, callA, evs, builtinA, lenA, ev, val, addP, slen, guardOk, isConst, binop, binI, putD, Env.get_set, Env.n_set, AHeap.get_set, AHeap.get_alloc, loadT_of Tryd.underlying75 s75, loadT_of Tryd.underlying72 s72, storeT_of s75, isAggD, rd, wr, rdRow, hasLen, lenIs, AV.cells, AV.ntup, z75, s75, s72, Tryd.underlying75, Tryd.underlying72, Tryd.underlying47, h1, h10, h11, h12, hn, hj2, hj3, hr, hsl]) ?_
  refine EvO.val (v := u) (H := ((H.alloc (.cells [.nils, .nils, .int .i64 0])).set H.next (.cells [p, g, l]))) (by rfl) (by simp [u, show Nat.beq 1 0 = false from rfl, show Nat.beq 3 0 = false from rfl, aop, aMove, aBin, aUn, unop, aPick, aLoad, aStore, aAlloc, aFieldAddr, aIndexAddr, callA, evs, builtinA, lenA, ev, val, addP, slen, guardOk, isConst, binop, binI, putD, Env.get_set, Env.n_set, AHeap.get_set, AHeap.get_alloc, loadT_of Tryd.underlying75 s75, loadT_of Tryd.underlying72 s72, storeT_of s75, isAggD, rd, wr, rdRow, hasLen, lenIs, AV.cells, AV.ntup, z75, s75, s72, Tryd.underlying75, Tryd.underlying72, Tryd.underlying47, h1, h10, h11, h12, hn, hj2, hj3, hr, hsl]) ?_
  refine EvO.nil ?_
  simp only [putD]
  refine Ev.seq (Ev.region ?_)
  refine EvO.val (v := .bool false) (H := ((H.alloc (.cells [.nils, .nils, .int .i64 0])).set H.next (.cells [p, g, l]))) (by rfl) (by simp [u, show Nat.beq 1 0 = false from rfl, show Nat.beq 3 0 = false from rfl, aop, aMove, aBin, aUn, unop, aPick, aLoad, aStore, aAlloc, aFieldAddr, aIndexAddr, callA, evs, builtinA, lenA, ev, val, addP, slen, guardOk, isConst, binop, binI, putD, Env.get_set, Env.n_set, AHeap.get_set, AHeap.get_alloc, loadT_of Tryd.underlying75 s75, loadT_of Tryd.underlying72 s72, storeT_of s75, isAggD, rd, wr, rdRow, hasLen, lenIs, AV.cells, AV.ntup, z75, s75, s72, Tryd.underlying75, Tryd.underlying72, Tryd.underlying47, h1, h10, h11, h12, hn, hj2, hj3, hr, hsl]) ?_
  refine EvO.nil ?_
  simp only [putD]
  refine Ev.seq (Ev.seq (Ev.region ?_))
  refine EvO.val (v := .ptr H.next 0) (H := ((H.alloc (.cells [.nils, .nils, .int .i64 0])).set H.next (.cells [p, g, l]))) (by rfl) (by simp [u, show Nat.beq 1 0 = false from rfl, show Nat.beq 3 0 = false from rfl, aop, aMove, aBin, aUn, unop, aPick, aLoad, aStore, aAlloc, aFieldAddr, aIndexAddr, callA, evs, builtinA, lenA, ev, val, addP, slen, guardOk, isConst, binop, binI, putD, Env.get_set, Env.n_set, AHeap.get_set, AHeap.get_alloc, loadT_of Tryd.underlying75 s75, loadT_of Tryd.underlying72 s72, storeT_of s75, isAggD, rd, wr, rdRow, hasLen, lenIs, AV.cells, AV.ntup, z75, s75, s72, Tryd.underlying75, Tryd.underlying72, Tryd.underlying47, h1, h10, h11, h12, hn, hj2, hj3, hr, hsl]) ?_
  refine EvO.val (v := p) (H := ((H.alloc (.cells [.nils, .nils, .int .i64 0])).set H.next (.cells [p, g, l]))) (by rfl) (by simp [u, show Nat.beq 1 0 = false from rfl, show Nat.beq 3 0 = false from rfl, aop, aMove, aBin, aUn, unop, aPick, aLoad, aStore, aAlloc, aFieldAddr, aIndexAddr, callA, evs, builtinA, lenA, ev, val, addP, slen, guardOk, isConst, binop, binI, putD, Env.get_set, Env.n_set, AHeap.get_set, AHeap.get_alloc, loadT_of Tryd.underlying75 s75, loadT_of Tryd.underlying72 s72, storeT_of s75, isAggD, rd, wr, rdRow, hasLen, lenIs, AV.cells, AV.ntup, z75, s75, s72, Tryd.underlying75, Tryd.underlying72, Tryd.underlying47, h1, h10, h11, h12, hn, hj2, hj3, hr, hsl]) ?_
  refine EvO.val (v := .int .i64 m) (H := ((H.alloc (.cells [.nils, .nils, .int .i64 0])).set H.next (.cells [p, g, l]))) (by rfl) (by simp [u, show Nat.beq 1 0 = false from rfl, show Nat.beq 3 0 = false from rfl, aop, aMove, aBin, aUn, unop, aPick, aLoad, aStore, aAlloc, aFieldAddr, aIndexAddr, callA, evs, builtinA, lenA, ev, val, addP, guardOk, isConst, binop, binI, putD, Env.get_set, Env.n_set, AHeap.get_set, AHeap.get_alloc, loadT_of Tryd.underlying75 s75, loadT_of Tryd.underlying72 s72, storeT_of s75, isAggD, rd, wr, rdRow, hasLen, lenIs, AV.cells, AV.ntup, z75, s75, s72, Tryd.underlying75, Tryd.underlying72, Tryd.underlying47, h1, h10, h11, h12, hn, hj2, hj3, hr, hsl]) ?_
  refine EvO.val (v := .int .i64 0) (H := ((H.alloc (.cells [.nils, .nils, .int .i64 0])).set H.next (.cells [p, g, l]))) (by rfl) (by simp [u, show Nat.beq 1 0 = false from rfl, show Nat.beq 3 0 = false from rfl, aop, aMove, aBin, aUn, unop, aPick, aLoad, aStore, aAlloc, aFieldAddr, aIndexAddr, callA, evs, builtinA, lenA, ev, val, addP, slen, guardOk, isConst, binop, binI, putD, Env.get_set, Env.n_set, AHeap.get_set, AHeap.get_alloc, loadT_of Tryd.underlying75 s75, loadT_of Tryd.underlying72 s72, storeT_of s75, isAggD, rd, wr, rdRow, hasLen, lenIs, AV.cells, AV.ntup, z75, s75, s72, Tryd.underlying75, Tryd.underlying72, Tryd.underlying47, h1, h10, h11, h12, hn, hj2, hj3, hr, hsl]) ?_
  refine EvO.nil ?_
  simp only [putD]
  rw [hl2]
  refine Ev.block (loop15 p m K V hp hbig r m _ _ 0 false _ (by omega) (by simp [Env.n_set, hn]) (by simp [Env.get_set, Env.n_set, hn, h1]) (by simp [Env.get_set, Env.n_set, hn]) (by simp [Env.get_set, Env.n_set, hn]) (by simp [Env.get_set, Env.n_set, hn]) (by simp [Env.get_set, Env.n_set, hn]) fun env' H' e1 e2 e3 => ?_)
  have e1' : env'.get 1 = .int .i64 r := (e3 1 (by omega) (by omega) (by omega)).trans (by simp [Env.get_set, Env.n_set, hn, h1])
  have e10 : env'.get 10 = env.get 10 := (e3 10 (by omega) (by omega) (by omega)).trans (by simp [Env.get_set, Env.n_set, hn])
  have e11 : env'.get 11 = env.get 11 := (e3 11 (by omega) (by omega) (by omega)).trans (by simp [Env.get_set, Env.n_set, hn])
  have e12 : env'.get 12 = env.get 12 := (e3 12 (by omega) (by omega) (by omega)).trans (by simp [Env.get_set, Env.n_set, hn])
  simp only [Bool.false_or] at e2
  simp only [if_true]
  generalize hb : ((List.range' 0 m).any fun j => K j == 13 && V j == r) = b at *
  refine Ev.seq (Ev.region (EvO.val (v := .bool b) (H := H') rfl (by simp [aop, aMove, ev, val, e2]) (EvO.val (v := .bool (!b)) (H := H') rfl (by simp [aop, aUn, unop, ev, val, putD, Env.get_set, Env.n_set, e1]) (EvO.nil ?_))))
  simp only [putD]
  refine Ev.cond (t := !b) (by simp [ev, Env.get_set, Env.n_set, e1]) ?_
  cases b with
  | true =>
    refine Ev.skip ?_
    refine Ev.region (EvO.val (v := .int .i64 (IntKind.i64.wrap (i + 1))) (H := H') rfl (by simp [aop, aBin, binop, binI, ev, val, guardOk, Env.get_set, Env.n_set, e1, e12, h12]) (EvO.val (v := .int .i64 (IntKind.i64.wrap (i + 1))) (H := H') rfl (by simp [aop, aMove, ev, val, putD, Env.get_set, Env.n_set, e1]) (EvO.nil ?_)))
    simp only [putD]
    refine hQ1 rfl _ _ (by simp [Env.n_set, e1]) (by simp [Env.get_set, Env.n_set, e1]) fun t ht => ?_
    rcases ht with rfl | rfl | rfl <;> simp [Env.get_set, Env.n_set, e1, e1', e10, e11, h1]
  | false =>
    refine Ev.seq (Ev.region (EvO.val (v := .bool false) (H := H') rfl (by simp [aop, aMove, ev, val]) (EvO.nil ?_)))
    simp only [putD]
    exact Ev.ret (hQ2 rfl _ _ (by simp [Env.n_set, e1]) (by simp [Env.get_set, Env.n_set, e1]))
end Go.Proofs.YtgkopheekihkjaaDoor.dem
