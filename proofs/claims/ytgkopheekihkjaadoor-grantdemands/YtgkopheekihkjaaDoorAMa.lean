/- The abstract values, heap and the relation to the machine's values and worlds. -/
import Derived.Orders
import Derived.Laws.Sem
import Derived.Laws.Cells
import Derived.Laws.IdiomCopy
import Derived.Laws.CopyRow
import Derived.Laws.Entries
import Derived.Below
set_option linter.unusedVariables false
set_option linter.unusedSimpArgs false
namespace Go.AM

/-- Two lists, element by element. -/
def All2 {α β : Type} (R : α → β → Prop) : List α → List β → Prop
  | [], [] => True
  | a :: as, b :: bs => R a b ∧ All2 R as bs
  | _, _ => False

namespace All2
variable {α β : Type} {R S : α → β → Prop}
theorem length : ∀ {as : List α} {bs : List β}, All2 R as bs → as.length = bs.length
  | [], [], _ => rfl
  | _ :: _, _ :: _, h => by simp [All2] at h; simp [length h.2]
  | [], _ :: _, h => h.elim
  | _ :: _, [], h => h.elim
theorem mono (hh : ∀ a b, R a b → S a b) : ∀ {as : List α} {bs : List β}, All2 R as bs → All2 S as bs
  | [], [], _ => trivial
  | _ :: _, _ :: _, h => ⟨hh _ _ h.1, mono hh h.2⟩
  | [], _ :: _, h => h.elim
  | _ :: _, [], h => h.elim
theorem get : ∀ {as : List α} {bs : List β} (h : All2 R as bs) (i : Nat) (a : α), as[i]? = some a → ∃ b, bs[i]? = some b ∧ R a b
  | [], [], _, i, a, h => by simp at h
  | a :: as, b :: bs, h, 0, x, hx => by simp at hx; subst hx; exact ⟨b, rfl, h.1⟩
  | a :: as, b :: bs, h, i + 1, x, hx => by simpa using get h.2 i x (by simpa using hx)
  | [], _ :: _, h, _, _, _ => h.elim
  | _ :: _, [], h, _, _, _ => h.elim
theorem getD {x : α} {y : β} (hxy : R x y) : ∀ {as : List α} {bs : List β} (h : All2 R as bs) (i : Nat), R (as.getD i x) (bs.getD i y)
  | [], [], _, i => by simpa using hxy
  | a :: as, b :: bs, h, 0 => by simpa using h.1
  | a :: as, b :: bs, h, i + 1 => by simpa using getD hxy h.2 i
  | [], _ :: _, h, _ => h.elim
  | _ :: _, [], h, _ => h.elim
theorem set {x : α} {y : β} (hxy : R x y) : ∀ {as : List α} {bs : List β} (h : All2 R as bs) (i : Nat), All2 R (as.set i x) (bs.set i y)
  | [], [], _, i => trivial
  | a :: as, b :: bs, h, 0 => ⟨hxy, h.2⟩
  | a :: as, b :: bs, h, i + 1 => ⟨h.1, set hxy h.2 i⟩
  | [], _ :: _, h, _ => h.elim
  | _ :: _, [], h, _ => h.elim
theorem append : ∀ {as cs : List α} {bs ds : List β}, All2 R as bs → All2 R cs ds → All2 R (as ++ cs) (bs ++ ds)
  | [], _, [], _, _, h => h
  | _ :: _, _, _ :: _, _, h, k => ⟨h.1, append h.2 k⟩
  | [], _, _ :: _, _, h, _ => h.elim
  | _ :: _, _, [], _, h, _ => h.elim
theorem take : ∀ {as : List α} {bs : List β} (n : Nat), All2 R as bs → All2 R (as.take n) (bs.take n)
  | as, bs, 0, _ => by simp [All2]
  | [], [], _ + 1, _ => trivial
  | _ :: _, _ :: _, n + 1, h => ⟨h.1, take n h.2⟩
  | [], _ :: _, _, h => h.elim
  | _ :: _, [], _, h => h.elim
theorem drop : ∀ {as : List α} {bs : List β} (n : Nat), All2 R as bs → All2 R (as.drop n) (bs.drop n)
  | as, bs, 0, h => h
  | [], [], _ + 1, _ => trivial
  | _ :: _, _ :: _, n + 1, h => drop n h.2
  | [], _ :: _, _, h => h.elim
  | _ :: _, [], _, h => h.elim
theorem replicate {x : α} {y : β} (h : R x y) : ∀ n, All2 R (List.replicate n x) (List.replicate n y)
  | 0 => trivial
  | n + 1 => ⟨h, replicate h n⟩
theorem of_get : ∀ {as : List α} {bs : List β}, as.length = bs.length → (∀ (i : Nat) (a : α) (b : β), as[i]? = some a → bs[i]? = some b → R a b) → All2 R as bs
  | [], [], _, _ => trivial
  | a :: as, b :: bs, hl, h => ⟨h 0 a b rfl rfl, of_get (by simpa using hl) fun i x y hx hy => h (i + 1) x y (by simpa using hx) (by simpa using hy)⟩
  | [], _ :: _, hl, _ => by simp at hl
  | _ :: _, [], hl, _ => by simp at hl
theorem map_left {γ : Type} (f : γ → α) {R : α → β → Prop} : ∀ {cs : List γ} {bs : List β}, All2 (fun c b => R (f c) b) cs bs → All2 R (cs.map f) bs
  | [], [], _ => trivial
  | _ :: _, _ :: _, h => ⟨h.1, map_left f h.2⟩
  | [], _ :: _, h => h.elim
  | _ :: _, [], h => h.elim
end All2

/-- Abstract values. 'ptr', 'sl': into a block of the abstract heap. 'rptr', 'rsl': into memory that nobody writes, read as data. -/
inductive AV where
  | bool (b : Bool)
  | int (k : IntKind) (n : Int)
  | str (s : ByteArray)
  | nilp
  | ptr (id off : Nat)
  | rptr (row : List AV) (off : Nat)
  | nils
  | sl (id off len cap wd : Nat) (ex : Bool)
  | rsl (row : List AV) (off len : Nat) (cap : Option Nat)
  | nilm
  | mapv (id : Nat)
  | fn (f : FuncId) (first captured : List AV)
  | yld (id : Nat)
  | nilf
  | ifc (t : TypeId) (v : AV)
  | nili
  | agg (cs : List AV)
  | tup (vs : List AV)

instance : Inhabited AV := ⟨.tup []⟩
def u : AV := .tup []

def AV.cells : AV → List AV
  | .agg cs => cs
  | v => [v]
/-- The value of one cell. -/
def AV.one : AV → Bool
  | .agg _ | .tup _ => false
  | _ => true
def vone : Value → Bool
  | .agg _ | .tuple _ => false
  | _ => true

/-- The cell of a block that nobody writes. -/
def pcell (π : Nat → Option Obj) (b i : Nat) : Option Value :=
  match π b with
  | some (.cells c _ _) => c[i]?
  | _ => none

/-- An abstract block's place: the block, where the row begins there, how many cells the block has. -/
abbrev Ren := Nat → Option (Nat × Nat × Nat)
abbrev Prot := Nat → Option Obj

inductive VRel (π : Prot) (ρ : Ren) : AV → Value → Prop
  | bool (b : Bool) : VRel π ρ (.bool b) (.bool b)
  | int (k : IntKind) (n : Int) : VRel π ρ (.int k n) (.int k n)
  | str (s : ByteArray) : VRel π ρ (.str s) (.string s)
  | nilp : VRel π ρ .nilp (.pointer none)
  | ptr {id off b : Nat} {s : Nat × Nat} (h : ρ id = some (b, s)) : VRel π ρ (.ptr id off) (.pointer (some ⟨b, s.1 + off, none⟩))
  | rptr {row : List AV} {off b s : Nat} (vs : Nat → Value) (hc : ∀ i, i < row.length → pcell π b (s + i) = some (vs i)) (h1 : ∀ i, i < row.length → vone (vs i) = true)
      (h : ∀ i (hi : i < row.length), VRel π ρ row[i] (vs i)) : VRel π ρ (.rptr row off) (.pointer (some ⟨b, s + off, none⟩))
  | nils : VRel π ρ .nils (.slice none 0 0)
  | sl {id off len cap wd : Nat} {ex : Bool} {b off' cap' : Nat} {s : Nat × Nat} (h : ρ id = some (b, s)) (hl : len ≤ cap) (he : ex = true → cap' = cap) (hc : cap ≤ cap') (ho : cap = 0 ∨ off' = s.1 + off)
      (hz : off' + cap' * wd ≤ s.2) (hs : s.1 ≤ off') : VRel π ρ (.sl id off len cap wd ex) (.slice (some ⟨b, off', none⟩) len cap')
  | rsl {row : List AV} {off len : Nat} {cap : Option Nat} {b s cap' : Nat} {sp : Option Nat} (vs : Nat → Value) (hl : len ≤ cap') (hsp : cap' ≠ 0 → sp = none) (hcap : ∀ c, cap = some c → cap' = c)
      (hc : ∀ i, i < row.length → pcell π b (s + i) = some (vs i)) (h1 : ∀ i, i < row.length → vone (vs i) = true)
      (h : ∀ i (hi : i < row.length), VRel π ρ row[i] (vs i)) : VRel π ρ (.rsl row off len cap) (.slice (some ⟨b, s + off, sp⟩) len cap')
  | nilm : VRel π ρ .nilm (.map none)
  | mapv {id b : Nat} (h : ρ id = some (b, 0, 0)) : VRel π ρ (.mapv id) (.map (some b))
  | fn {f : FuncId} {xs ys : List AV} {xs' ys' : Array Value} (hx : xs.length = xs'.size) (hy : ys.length = ys'.size) (h : ∀ i (hi : i < xs.length), VRel π ρ xs[i] (xs'[i]'(hx ▸ hi)))
      (k : ∀ i (hi : i < ys.length), VRel π ρ ys[i] (ys'[i]'(hy ▸ hi))) : VRel π ρ (.fn f xs ys) (.func (.func f) xs' ys')
  | yld {id b : Nat} (h : ρ id = some (b, 0, 0)) : VRel π ρ (.yld id) (.func (.yield b) #[] #[])
  | nilf : VRel π ρ .nilf .nilFunc
  | ifc {t : TypeId} {v : AV} {x : Value} (h : VRel π ρ v x) : VRel π ρ (.ifc t v) (.iface t x)
  | nili : VRel π ρ .nili .nilIface
  | agg {xs : List AV} {xs' : Array Value} (hx : xs.length = xs'.size) (h1 : ∀ i (hi : i < xs'.size), vone xs'[i] = true) (h : ∀ i (hi : i < xs.length), VRel π ρ xs[i] (xs'[i]'(hx ▸ hi))) : VRel π ρ (.agg xs) (.agg xs')
  | tup {xs : List AV} {xs' : Array Value} (hx : xs.length = xs'.size) (h : ∀ i (hi : i < xs.length), VRel π ρ xs[i] (xs'[i]'(hx ▸ hi))) : VRel π ρ (.tup xs) (.tuple xs')

abbrev VRels (π : Prot) (ρ : Ren) := All2 (VRel π ρ)

def Ren.le (ρ ρ' : Ren) : Prop := ∀ i v, ρ i = some v → ρ' i = some v
theorem Ren.le_refl (ρ : Ren) : ρ.le ρ := fun _ _ h => h
theorem Ren.le_trans {a b c : Ren} (h : a.le b) (k : b.le c) : a.le c := fun i v hv => k i v (h i v hv)

theorem VRel.mono {π : Prot} {ρ ρ' : Ren} (hle : ρ.le ρ') {a : AV} {v : Value} (h : VRel π ρ a v) : VRel π ρ' a v := by
  induction h with
  | bool b => exact .bool b
  | int k n => exact .int k n
  | str s => exact .str s
  | nilp => exact .nilp
  | ptr h => exact .ptr (hle _ _ h)
  | rptr vs hc h1 _ ih => exact .rptr vs hc h1 ih
  | nils => exact .nils
  | sl h hl he hc ho hz hs => exact .sl (hle _ _ h) hl he hc ho hz hs
  | rsl vs hl hsp hcap hc h1 _ ih => exact .rsl vs hl hsp hcap hc h1 ih
  | nilm => exact .nilm
  | mapv h => exact .mapv (hle _ _ h)
  | fn hx hy _ _ ih ik => exact .fn hx hy ih ik
  | yld h => exact .yld (hle _ _ h)
  | nilf => exact .nilf
  | ifc _ ih => exact .ifc ih
  | nili => exact .nili
  | agg hx h1 _ ih => exact .agg hx h1 ih
  | tup hx _ ih => exact .tup hx ih

section
variable {π : Prot} {ρ : Ren}
theorem all2_of_array {xs : List AV} {xs' : Array Value} (hx : xs.length = xs'.size) (h : ∀ i (hi : i < xs.length), VRel π ρ xs[i] (xs'[i]'(hx ▸ hi))) : VRels π ρ xs xs'.toList :=
  All2.of_get (by simpa using hx) fun i a b ha hb => by
    obtain ⟨hi, rfl⟩ := List.getElem?_eq_some_iff.1 ha
    obtain ⟨hi', rfl⟩ := List.getElem?_eq_some_iff.1 hb
    simpa using h i hi
theorem array_of_all2 {xs : List AV} {ys : List Value} (h : VRels π ρ xs ys) : ∃ hx : xs.length = ys.toArray.size, ∀ i (hi : i < xs.length), VRel π ρ xs[i] (ys.toArray[i]'(hx ▸ hi)) := by
  refine ⟨by simpa using h.length, fun i hi => ?_⟩
  obtain ⟨b, hb, hr⟩ := h.get i xs[i] (by simp [hi])
  obtain ⟨_, rfl⟩ := List.getElem?_eq_some_iff.1 hb
  simpa using hr
theorem VRel.aggL {xs : List AV} {ys : List Value} (h1 : ∀ y ∈ ys, vone y = true) (h : VRels π ρ xs ys) : VRel π ρ (.agg xs) (.agg ys.toArray) := by
  obtain ⟨hx, hh⟩ := array_of_all2 h
  exact .agg hx (fun i hi => h1 _ (by simp)) hh
theorem VRel.tupL {xs : List AV} {ys : List Value} (h : VRels π ρ xs ys) : VRel π ρ (.tup xs) (.tuple ys.toArray) := by
  obtain ⟨hx, hh⟩ := array_of_all2 h
  exact .tup hx hh
theorem VRel.fnL {f : FuncId} {xs ys : List AV} {xs' ys' : List Value} (h : VRels π ρ xs xs') (k : VRels π ρ ys ys') : VRel π ρ (.fn f xs ys) (.func (.func f) xs'.toArray ys'.toArray) := by
  obtain ⟨hx, hh⟩ := array_of_all2 h
  obtain ⟨hy, kk⟩ := array_of_all2 k
  exact .fn hx hy hh kk
theorem VRel.agg_inv {xs : List AV} {v : Value} (h : VRel π ρ (.agg xs) v) : ∃ ys : List Value, v = .agg ys.toArray ∧ VRels π ρ xs ys ∧ ∀ y ∈ ys, vone y = true := by
  cases h with
  | agg hx h1 h =>
    rename_i xs'
    refine ⟨xs'.toList, by simp, all2_of_array hx h, fun y hy => ?_⟩
    obtain ⟨i, hi, rfl⟩ := List.getElem_of_mem hy
    simpa using h1 i (by simpa using hi)
theorem VRel.tup_inv {xs : List AV} {v : Value} (h : VRel π ρ (.tup xs) v) : ∃ ys : List Value, v = .tuple ys.toArray ∧ VRels π ρ xs ys := by
  cases h with
  | tup hx h => rename_i xs'; exact ⟨xs'.toList, by simp, all2_of_array hx h⟩
theorem VRel.fn_inv {f : FuncId} {xs ys : List AV} {v : Value} (h : VRel π ρ (.fn f xs ys) v) : ∃ xs' ys' : List Value, v = .func (.func f) xs'.toArray ys'.toArray ∧ VRels π ρ xs xs' ∧ VRels π ρ ys ys' := by
  cases h with
  | fn hx hy h k => rename_i xs' ys'; exact ⟨xs'.toList, ys'.toList, by simp, all2_of_array hx h, all2_of_array hy k⟩
theorem VRel.ptr_inv {id off : Nat} {v : Value} (h : VRel π ρ (.ptr id off) v) : ∃ (b : Nat) (s : Nat × Nat), v = .pointer (some ⟨b, s.1 + off, none⟩) ∧ ρ id = some (b, s) := by
  cases h with | ptr h => exact ⟨_, _, rfl, h⟩
theorem VRel.rptr_inv {row : List AV} {off : Nat} {v : Value} (h : VRel π ρ (.rptr row off) v) : ∃ (b s : Nat) (vs : Nat → Value), v = .pointer (some ⟨b, s + off, none⟩) ∧ (∀ i, i < row.length → pcell π b (s + i) = some (vs i)) ∧ (∀ i, i < row.length → vone (vs i) = true) ∧
    ∀ i (hi : i < row.length), VRel π ρ row[i] (vs i) := by
  cases h with | rptr vs h1 h2 h3 => exact ⟨_, _, vs, rfl, h1, h2, h3⟩
theorem VRel.sl_inv {id off len cap wd : Nat} {ex : Bool} {v : Value} (h : VRel π ρ (.sl id off len cap wd ex) v) : ∃ (b off' cap' : Nat) (s : Nat × Nat), v = .slice (some ⟨b, off', none⟩) len cap' ∧ ρ id = some (b, s) ∧ len ≤ cap ∧ (ex = true → cap' = cap) ∧ cap ≤ cap' ∧
    (cap = 0 ∨ off' = s.1 + off) ∧ off' + cap' * wd ≤ s.2 ∧ s.1 ≤ off' := by
  cases h with | sl h1 h2 h3 h4 h5 h6 h7 => exact ⟨_, _, _, _, rfl, h1, h2, h3, h4, h5, h6, h7⟩
theorem VRel.rsl_inv {row : List AV} {off len : Nat} {cap : Option Nat} {v : Value} (h : VRel π ρ (.rsl row off len cap) v) : ∃ (b s cap' : Nat) (vs : Nat → Value) (sp : Option Nat), v = .slice (some ⟨b, s + off, sp⟩) len cap' ∧ len ≤ cap' ∧ (cap' ≠ 0 → sp = none) ∧ (∀ c, cap = some c → cap' = c) ∧
    (∀ i, i < row.length → pcell π b (s + i) = some (vs i)) ∧ (∀ i, i < row.length → vone (vs i) = true) ∧ ∀ i (hi : i < row.length), VRel π ρ row[i] (vs i) := by
  cases h with | rsl vs h1 h0 h2 h3 h4 h5 => exact ⟨_, _, _, vs, _, rfl, h1, h0, h2, h3, h4, h5⟩
theorem VRel.mapv_inv {id : Nat} {v : Value} (h : VRel π ρ (.mapv id) v) : ∃ b, v = .map (some b) ∧ ρ id = some (b, 0, 0) := by
  cases h with | mapv h => exact ⟨_, rfl, h⟩
theorem VRel.yld_inv {id : Nat} {v : Value} (h : VRel π ρ (.yld id) v) : ∃ b, v = .func (.yield b) #[] #[] ∧ ρ id = some (b, 0, 0) := by
  cases h with | yld h => exact ⟨_, rfl, h⟩
theorem VRel.u : VRel π ρ u undef := VRel.tupL (xs := []) (ys := []) trivial
theorem VRel.one {a : AV} {v : Value} (h : VRel π ρ a v) : a.one = vone v := by cases h <;> rfl
theorem VRel.cells {a : AV} {v : Value} (h : VRel π ρ a v) : VRels π ρ a.cells v.cells.toList := by
  cases h
  case agg hx h1 h => exact all2_of_array hx h
  all_goals (refine ⟨?_, trivial⟩; constructor <;> assumption)
def AV.ntup : AV → Bool
  | .tup _ => false
  | _ => true
theorem VRel.cells_one {a : AV} {v : Value} (h : VRel π ρ a v) (hn : a.ntup = true) : ∀ y ∈ v.cells.toList, vone y = true := by
  cases h
  case agg hx h1 h =>
    intro y hy
    obtain ⟨i, hi, rfl⟩ := List.getElem_of_mem hy
    exact h1 i (by simpa [Value.cells] using hi)
  case tup => simp [AV.ntup] at hn
  all_goals simp [Value.cells, vone]
end

/-! ### The heap -/
inductive Tr (α : Type) where
  | lf
  | nd (v : Option α) (l r : Tr α)
namespace Tr
variable {α : Type}
def get : Tr α → Nat → Option α
  | .lf, _ => none
  | .nd v l r, i => cond (Nat.beq i 0) v (cond (Nat.beq (i % 2) 1) (l.get (i / 2)) (r.get (i / 2 - 1)))
def put : Nat → Tr α → Nat → Option α → Tr α
  | 0, t, _, _ => t
  | f + 1, .lf, i, x => cond (Nat.beq i 0) (.nd x .lf .lf) (cond (Nat.beq (i % 2) 1) (.nd none (put f .lf (i / 2) x) .lf) (.nd none .lf (put f .lf (i / 2 - 1) x)))
  | f + 1, .nd v l r, i, x => cond (Nat.beq i 0) (.nd x l r) (cond (Nat.beq (i % 2) 1) (.nd v (put f l (i / 2) x) r) (.nd v l (put f r (i / 2 - 1) x)))
theorem beq_no {i j : Nat} (h : ¬ i = j) : Nat.beq i j = false := by
  cases hb : Nat.beq i j with
  | false => rfl
  | true => exact absurd (Nat.eq_of_beq_eq_true hb) h
theorem beq_yes {i j : Nat} (h : i = j) : Nat.beq i j = true := by subst h; exact Nat.beq_refl i
theorem get_nd (v : Option α) (l r : Tr α) (i : Nat) : (Tr.nd v l r).get i = if i = 0 then v else if i % 2 = 1 then l.get (i / 2) else r.get (i / 2 - 1) := by
  show cond (Nat.beq i 0) v (cond (Nat.beq (i % 2) 1) (l.get (i / 2)) (r.get (i / 2 - 1))) = _
  by_cases h : i = 0
  · rw [beq_yes h, if_pos h]; rfl
  · by_cases k : i % 2 = 1
    · rw [beq_no h, if_neg h, beq_yes k, if_pos k]; rfl
    · rw [beq_no h, if_neg h, beq_no k, if_neg k]; rfl
theorem put_lf (f i : Nat) (x : Option α) : put (f + 1) .lf i x = if i = 0 then .nd x .lf .lf else if i % 2 = 1 then .nd none (put f .lf (i / 2) x) .lf else .nd none .lf (put f .lf (i / 2 - 1) x) := by
  rw [put]
  by_cases h : i = 0
  · rw [beq_yes h, if_pos h]; rfl
  · by_cases k : i % 2 = 1
    · rw [beq_no h, if_neg h, beq_yes k, if_pos k]; rfl
    · rw [beq_no h, if_neg h, beq_no k, if_neg k]; rfl
theorem put_nd (f i : Nat) (v : Option α) (l r : Tr α) (x : Option α) : put (f + 1) (.nd v l r) i x = if i = 0 then .nd x l r else if i % 2 = 1 then .nd v (put f l (i / 2) x) r else .nd v l (put f r (i / 2 - 1) x) := by
  rw [put]
  by_cases h : i = 0
  · rw [beq_yes h, if_pos h]; rfl
  · by_cases k : i % 2 = 1
    · rw [beq_no h, if_neg h, beq_yes k, if_pos k]; rfl
    · rw [beq_no h, if_neg h, beq_no k, if_neg k]; rfl
theorem get_put : ∀ (f : Nat) (t : Tr α) (i j : Nat) (x : Option α), i < f → (put f t i x).get j = if j = i then x else t.get j
  | 0, _, _, _, _, h => by omega
  | f + 1, .lf, i, j, x, h => by
    rw [put_lf]
    by_cases hi : i = 0
    · subst hi; by_cases hj : j = 0 <;> simp [get_nd, get, hj]
    · by_cases hm : i % 2 = 1
      · simp only [hi, hm, if_true, if_false, get_nd]
        by_cases hj : j = 0
        · simp [hj, Ne.symm hi, get]
        · by_cases hjm : j % 2 = 1
          · simp only [hj, hjm, if_true, if_false]
            rw [get_put f .lf (i / 2) (j / 2) x (by omega)]
            by_cases he : j = i
            · subst he; simp
            · have : ¬ j / 2 = i / 2 := by omega
              simp [he, this, get]
          · have : ¬ j = i := by rintro rfl; exact hjm hm
            simp [hj, hjm, this, get]
      · simp only [hi, hm, if_true, if_false, get_nd]
        by_cases hj : j = 0
        · simp [hj, Ne.symm hi, get]
        · by_cases hjm : j % 2 = 1
          · have : ¬ j = i := by rintro rfl; exact hm hjm
            simp [hj, hjm, this, get]
          · simp only [hj, hjm, if_true, if_false]
            rw [get_put f .lf (i / 2 - 1) (j / 2 - 1) x (by omega)]
            by_cases he : j = i
            · subst he; simp
            · have : ¬ j / 2 - 1 = i / 2 - 1 := by omega
              simp [he, this, get]
  | f + 1, .nd v l r, i, j, x, h => by
    rw [put_nd, get_nd]
    by_cases hi : i = 0
    · subst hi; by_cases hj : j = 0 <;> simp [get_nd, hj]
    · by_cases hm : i % 2 = 1
      · simp only [hi, hm, if_true, if_false, get_nd]
        by_cases hj : j = 0
        · simp [hj, Ne.symm hi]
        · by_cases hjm : j % 2 = 1
          · simp only [hj, hjm, if_true, if_false]
            rw [get_put f l (i / 2) (j / 2) x (by omega)]
            by_cases he : j = i
            · subst he; simp
            · have : ¬ j / 2 = i / 2 := by omega
              simp [he, this]
          · have : ¬ j = i := by rintro rfl; exact hjm hm
            simp [hj, hjm, this]
      · simp only [hi, hm, if_true, if_false, get_nd]
        by_cases hj : j = 0
        · simp [hj, Ne.symm hi]
        · by_cases hjm : j % 2 = 1
          · have : ¬ j = i := by rintro rfl; exact hm hjm
            simp [hj, hjm, this]
          · simp only [hj, hjm, if_true, if_false]
            rw [get_put f r (i / 2 - 1) (j / 2 - 1) x (by omega)]
            by_cases he : j = i
            · subst he; simp
            · have : ¬ j / 2 - 1 = i / 2 - 1 := by omega
              simp [he, this]
end Tr

/-- What the temporaries of a call hold: n of them; those that are not told hold nothing. -/
structure Env where
  m : Tr AV
  n : Nat
namespace Env
def get (e : Env) (t : Nat) : AV := match e.m.get t with | some v => v | none => u
def set (e : Env) (t : Nat) (v : AV) : Env := cond (Nat.ble e.n t) e ⟨Tr.put (t + 1) e.m t (some v), e.n⟩
def fill (e : Env) : Nat → List AV → Env
  | _, [] => e
  | i, a :: r => (e.set i a).fill (i + 1) r
def ofArgs (args : List AV) (n : Nat) : Env := (Env.mk .lf n).fill 0 args
theorem n_set (e : Env) (t : Nat) (v : AV) : (e.set t v).n = e.n := by unfold set; cases Nat.ble e.n t <;> rfl
theorem get_set (e : Env) (t j : Nat) (v : AV) : (e.set t v).get j = if j = t ∧ t < e.n then v else e.get j := by
  unfold set
  cases h : Nat.ble e.n t with
  | true =>
    have := Nat.le_of_ble_eq_true h
    rw [if_neg (by omega)]; rfl
  | false =>
    have : t < e.n := Nat.lt_of_not_le fun hh => by rw [Nat.ble_eq_true_of_le hh] at h; cases h
    simp only [cond_false, get]
    rw [Tr.get_put _ _ _ _ _ (by omega)]
    by_cases hj : j = t
    · simp [hj, this]
    · simp [hj]
end Env

/-- A loop over a function: its state, where it jumps to when it is over, and what a round is entered with. -/
structure ALoop where
  ready : Bool
  pending : Option Code
  env : Env
  params : List Tmp
  assign : Code
  body : Code
  dfr : Nat

inductive AObj where
  | cells (cs : List AV)
  | map (es : List (AV × AV))
  | siter (s : ByteArray) (pos : Nat)
  | loop (l : ALoop)
  | dfr

structure AHeap where
  objs : Tr AObj
  next : Nat
namespace AHeap
def empty : AHeap := ⟨.lf, 0⟩
def get (H : AHeap) (i : Nat) : Option AObj := H.objs.get i
def set (H : AHeap) (i : Nat) (o : AObj) : AHeap := ⟨Tr.put (i + 1) H.objs i (some o), H.next⟩
def kill (H : AHeap) (i : Nat) : AHeap := ⟨Tr.put (i + 1) H.objs i none, H.next⟩
def alloc (H : AHeap) (o : AObj) : AHeap := ⟨Tr.put (H.next + 1) H.objs H.next (some o), H.next + 1⟩
@[simp] theorem get_empty (i : Nat) : empty.get i = none := rfl
@[simp] theorem next_set (H : AHeap) (i : Nat) (o : AObj) : (H.set i o).next = H.next := rfl
@[simp] theorem next_kill (H : AHeap) (i : Nat) : (H.kill i).next = H.next := rfl
@[simp] theorem next_alloc (H : AHeap) (o : AObj) : (H.alloc o).next = H.next + 1 := rfl
theorem get_set (H : AHeap) (i j : Nat) (o : AObj) : (H.set i o).get j = if j = i then some o else H.get j := Tr.get_put _ _ _ _ _ (by omega)
theorem get_kill (H : AHeap) (i j : Nat) : (H.kill i).get j = if j = i then none else H.get j := Tr.get_put _ _ _ _ _ (by omega)
theorem get_alloc (H : AHeap) (j : Nat) (o : AObj) : (H.alloc o).get j = if j = H.next then some o else H.get j := Tr.get_put _ _ _ _ _ (by omega)
end AHeap

/-! ### Worlds -/
def ERel (π : Prot) (ρ : Ren) (e : Env) (tmps : Array Value) : Prop := e.n = tmps.size ∧ ∀ t, VRel π ρ (e.get t) (tmps.getD t undef)
theorem ERel.mono {π : Prot} {ρ ρ' : Ren} (hle : ρ.le ρ') {e : Env} {tmps : Array Value} (h : ERel π ρ e tmps) : ERel π ρ' e tmps := ⟨h.1, fun t => (h.2 t).mono hle⟩
theorem ERel.set {π : Prot} {ρ : Ren} {e : Env} {tmps : Array Value} (h : ERel π ρ e tmps) {a : AV} {v : Value} (hv : VRel π ρ a v) (t : Nat) : ERel π ρ (e.set t a) (tmps.setIfInBounds t v) := by
  refine ⟨by simp [Env.n_set, h.1], fun j => ?_⟩
  rw [Env.get_set]
  by_cases hj : j = t ∧ t < e.n
  · rw [if_pos hj]
    obtain ⟨rfl, hlt⟩ := hj
    rw [h.1] at hlt
    simpa [Array.getD, hlt] using hv
  · rw [if_neg hj]
    have : (tmps.setIfInBounds t v).getD j undef = tmps.getD j undef := by
      by_cases hjt : j = t
      · subst hjt
        have : ¬ j < tmps.size := fun hh => hj ⟨rfl, by rw [h.1]; exact hh⟩
        simp [Array.getD, this]
      · by_cases hjs : j < tmps.size
        · simp [Array.getD, hjs, Array.getElem_setIfInBounds, Ne.symm hjt]
        · simp [Array.getD, hjs]
    rw [this]
    exact h.2 j
def LRel (π : Prot) (ρ : Ren) (l : ALoop) (L : Loop) : Prop :=
  (L.state = if l.ready then .ready else (if l.pending.isSome then .done else .busy)) ∧ L.pending = l.pending ∧ ERel π ρ l.env L.tmps ∧ L.params.toList = l.params ∧ L.assign = l.assign ∧ L.body = l.body ∧
    ρ l.dfr = some (L.defers, 0, 0)

inductive ORel (π : Prot) (ρ : Ren) : Nat × Nat → AObj → Obj → Prop
  | cells {s : Nat × Nat} {cs : List AV} {c : Array Value} {e : TypeId} {fr : Nat × Nat} (hl : s.1 + cs.length ≤ c.size) (hz : c.size = s.2)
      (h : ∀ i a, cs[i]? = some a → ∃ v, c[s.1 + i]? = some v ∧ VRel π ρ a v ∧ vone v = true) (hf : ∀ i, s.1 ≤ i → i < c.size → ¬ (fr.1 ≤ i ∧ i < fr.2)) : ORel π ρ s (.cells cs) (.cells c e fr)
  | map {es : List (AV × AV)} {xs : Array MapEntry} {clock : Nat} (h : All2 (fun p (x : MapEntry) => VRel π ρ p.1 x.key ∧ VRel π ρ p.2 x.val) es xs.toList) : ORel π ρ (0, 0) (.map es) (.map xs clock)
  | siter {s : ByteArray} {pos : Nat} : ORel π ρ (0, 0) (.siter s pos) (.stringIter s pos)
  | loop {l : ALoop} {L : Loop} (h : LRel π ρ l L) : ORel π ρ (0, 0) (.loop l) (.loop L)
  | dfr : ORel π ρ (0, 0) .dfr (.deferred (some []))

theorem ORel.mono {π : Prot} {ρ ρ' : Ren} (hle : ρ.le ρ') {s : Nat × Nat} {a : AObj} {o : Obj} (h : ORel π ρ s a o) : ORel π ρ' s a o := by
  cases h with
  | cells hl hz h hf => exact .cells hl hz (fun i a ha => let ⟨v, hv, hr, h1⟩ := h i a ha; ⟨v, hv, hr.mono hle, h1⟩) hf
  | map h => exact .map (h.mono fun a b hh => ⟨hh.1.mono hle, hh.2.mono hle⟩)
  | siter => exact .siter
  | loop h => obtain ⟨a, b, d, e, f, g, i⟩ := h; exact .loop ⟨a, b, d.mono hle, e, f, g, hle _ _ i⟩
  | dfr => exact .dfr

structure Sim (π : Prot) (ρ : Ren) (H : AHeap) (w : World) : Prop where
  fresh : ∀ i, H.next ≤ i → ρ i = none
  lt : ∀ i, H.next ≤ i → H.get i = none
  obj : ∀ i o b s, H.get i = some o → ρ i = some (b, s) → ∃ O, w.heap[b]? = some O ∧ ORel π ρ s o O
  inj : ∀ i j o o' b s s', H.get i = some o → H.get j = some o' → ρ i = some (b, s) → ρ j = some (b, s') → i = j
  prot : ∀ b O, π b = some O → w.heap[b]? = some O
  npi : ∀ i o b s, H.get i = some o → ρ i = some (b, s) → π b = none
  /-- what stands in memory leads nowhere beyond it -/
  bd : ∀ i o, H.get i = some o → ∃ (ρ1 : Ren) (s : Nat × Nat) (O : Obj), (∀ j, H.next ≤ j → ρ1 j = none) ∧ ORel π ρ1 s o O

def Owned (ρ : Ren) (H : AHeap) (b : Nat) : Prop := ∃ i o s, H.get i = some o ∧ ρ i = some (b, s)

structure Stp (ρ : Ren) (H : AHeap) (w : World) (ρ' : Ren) (H' : AHeap) (w' : World) : Prop where
  le : ρ.le ρ'
  size : w.heap.size ≤ w'.heap.size
  own : ∀ b, Owned ρ' H' b → b < w.heap.size → Owned ρ H b
  frame : ∀ b, b < w.heap.size → ¬ Owned ρ H b → w'.heap[b]? = w.heap[b]?
  os : w'.os = w.os
  tape : w'.tape = w.tape
  output : w'.output = w.output
  next : H.next ≤ H'.next
  /-- what is new in the renaming is new in the heap -/
  newid : ∀ i, i < H.next → ρ' i = ρ i

theorem Stp.refl (ρ : Ren) (H : AHeap) (w : World) : Stp ρ H w ρ H w := ⟨Ren.le_refl _, Nat.le_refl _, fun _ h _ => h, fun _ _ _ => rfl, rfl, rfl, rfl, Nat.le_refl _, fun _ _ => rfl⟩
theorem Stp.trans {ρ ρ1 ρ2 : Ren} {H H1 H2 : AHeap} {w w1 w2 : World} (h : Stp ρ H w ρ1 H1 w1) (k : Stp ρ1 H1 w1 ρ2 H2 w2) : Stp ρ H w ρ2 H2 w2 where
  le := Ren.le_trans h.le k.le
  size := Nat.le_trans h.size k.size
  own := fun b hb hlt => h.own b (k.own b hb (Nat.lt_of_lt_of_le hlt h.size)) hlt
  frame := fun b hlt hn => by
    rw [k.frame b (Nat.lt_of_lt_of_le hlt h.size) (fun ho => hn (h.own b ho hlt)), h.frame b hlt hn]
  os := k.os.trans h.os
  tape := k.tape.trans h.tape
  output := k.output.trans h.output
  next := Nat.le_trans h.next k.next
  newid := fun i hi => (k.newid i (Nat.lt_of_lt_of_le hi h.next)).trans (h.newid i hi)
end Go.AM
