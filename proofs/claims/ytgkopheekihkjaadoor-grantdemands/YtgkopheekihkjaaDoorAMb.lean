/- The abstract evaluator. -/
import Derived.Test.YtgkopheekihkjaaDoorAMa
set_option linter.unusedVariables false
namespace Go.AM

mutual
def okV : Value → Bool
  | .bool _ | .int _ _ | .string _ | .pointer none | .slice none 0 0 | .map none | .nilFunc | .nilIface => true
  | .iface _ v => okV v
  | .agg ⟨l⟩ => okVs l
  | _ => false
def okVs : List Value → Bool
  | [] => true
  | v :: r => vone v && (okV v && okVs r)
end
mutual
def toA : Value → AV
  | .bool b => .bool b
  | .int k n => .int k n
  | .string s => .str s
  | .pointer _ => .nilp
  | .slice _ _ _ => .nils
  | .map _ => .nilm
  | .nilFunc => .nilf
  | .nilIface => .nili
  | .iface t v => .ifc t (toA v)
  | .agg ⟨l⟩ => .agg (toAs l)
  | _ => .tup []
def toAs : List Value → List AV
  | [] => []
  | v :: r => toA v :: toAs r
end
def ofV (v : Value) : Option AV := cond (okV v) (some (toA v)) none
/-- Has a list at least n elements; just n? -/
def hasLen {α : Type} : List α → Nat → Bool
  | _, 0 => true
  | [], _ + 1 => false
  | _ :: r, n + 1 => hasLen r n
def lenIs {α : Type} : List α → Nat → Bool
  | [], 0 => true
  | _ :: r, n + 1 => lenIs r n
  | _, _ => false
theorem hasLen_iff {α : Type} : ∀ {l : List α} {n : Nat}, hasLen l n = true ↔ n ≤ l.length
  | [], 0 => by simp [hasLen]
  | [], n + 1 => by simp [hasLen]
  | _ :: _, 0 => by simp [hasLen]
  | _ :: r, n + 1 => by simp [hasLen, hasLen_iff (l := r)]
theorem lenIs_iff {α : Type} : ∀ {l : List α} {n : Nat}, lenIs l n = true ↔ l.length = n
  | [], 0 => by simp [lenIs]
  | [], n + 1 => by simp [lenIs]
  | _ :: _, 0 => by simp [lenIs]
  | _ :: r, n + 1 => by simp [lenIs, lenIs_iff (l := r)]

/-! ### Are two abstract values alike? -/
def bytesEq (a b : ByteArray) : Bool := a.data.toList == b.data.toList
mutual
def aveq : AV → AV → Bool
  | .bool a, .bool b => a == b
  | .int k a, .int l b => decide (k = l) && decide (a = b)
  | .str a, .str b => bytesEq a b
  | .nilp, .nilp => true
  | .ptr i o, .ptr j p => i == j && o == p
  | .rptr r o, .rptr s p => o == p && aveqs r s
  | .nils, .nils => true
  | .sl i o l c d e, .sl i' o' l' c' d' e' => i == i' && o == o' && l == l' && c == c' && d == d' && e == e'
  | .rsl r o l c, .rsl r' o' l' c' => o == o' && l == l' && decide (c = c') && aveqs r r'
  | .nilm, .nilm => true
  | .mapv i, .mapv j => i == j
  | .fn f xs ys, .fn g xs' ys' => f == g && aveqs xs xs' && aveqs ys ys'
  | .yld i, .yld j => i == j
  | .nilf, .nilf => true
  | .ifc t v, .ifc t' v' => t == t' && aveq v v'
  | .nili, .nili => true
  | .agg xs, .agg ys => aveqs xs ys
  | .tup xs, .tup ys => aveqs xs ys
  | _, _ => false
def aveqs : List AV → List AV → Bool
  | [], [] => true
  | a :: as, b :: bs => aveq a b && aveqs as bs
  | _, _ => false
end
theorem bytesEq_eq {a b : ByteArray} : bytesEq a b = true ↔ a = b := by
  unfold bytesEq
  constructor
  · intro h
    have h' : a.data.toList = b.data.toList := by simpa using h
    cases a with | mk a => cases b with | mk b => cases a; cases b; simp_all
  · rintro rfl; simp
mutual
theorem aveq_eq : ∀ {a b : AV}, aveq a b = true → a = b
  | .bool a, b, h => by cases b <;> simp_all [aveq]
  | .int k a, b, h => by cases b <;> simp_all [aveq]
  | .str a, b, h => by cases b <;> simp_all [aveq, bytesEq_eq]
  | .nilp, b, h => by cases b <;> simp_all [aveq]
  | .ptr i o, b, h => by cases b <;> simp_all [aveq]
  | .rptr r o, b, h => by
    cases b <;> simp [aveq] at h
    rename_i r' o'
    rw [h.1, aveqs_eq h.2]
  | .nils, b, h => by cases b <;> simp_all [aveq]
  | .sl i o l c d e, b, h => by cases b <;> simp_all [aveq]
  | .rsl r o l c, b, h => by
    cases b <;> simp [aveq] at h
    rename_i r' o' l' c'
    rw [h.1.1.1, h.1.1.2, h.1.2, aveqs_eq h.2]
  | .nilm, b, h => by cases b <;> simp_all [aveq]
  | .mapv i, b, h => by cases b <;> simp_all [aveq]
  | .fn f xs ys, b, h => by
    cases b <;> simp [aveq] at h
    rw [h.1.1, aveqs_eq h.1.2, aveqs_eq h.2]
  | .yld i, b, h => by cases b <;> simp_all [aveq]
  | .nilf, b, h => by cases b <;> simp_all [aveq]
  | .ifc t v, b, h => by
    cases b <;> simp [aveq] at h
    rw [h.1, aveq_eq h.2]
  | .nili, b, h => by cases b <;> simp_all [aveq]
  | .agg xs, b, h => by
    cases b <;> simp [aveq] at h
    rw [aveqs_eq h]
  | .tup xs, b, h => by
    cases b <;> simp [aveq] at h
    rw [aveqs_eq h]
theorem aveqs_eq : ∀ {a b : List AV}, aveqs a b = true → a = b
  | [], b, h => by cases b <;> simp_all [aveqs]
  | a :: as, b, h => by
    cases b <;> simp [aveqs] at h
    rw [aveq_eq h.1, aveqs_eq h.2]
end
mutual
theorem aveq_refl : ∀ (a : AV), aveq a a = true
  | .bool a => by simp [aveq]
  | .int k a => by simp [aveq]
  | .str a => by simp [aveq, bytesEq]
  | .nilp => by simp [aveq]
  | .ptr i o => by simp [aveq]
  | .rptr r o => by simp [aveq, aveqs_refl r]
  | .nils => by simp [aveq]
  | .sl i o l c d e => by simp [aveq]
  | .rsl r o l c => by simp [aveq, aveqs_refl r]
  | .nilm => by simp [aveq]
  | .mapv i => by simp [aveq]
  | .fn f xs ys => by simp [aveq, aveqs_refl xs, aveqs_refl ys]
  | .yld i => by simp [aveq]
  | .nilf => by simp [aveq]
  | .ifc t v => by simp [aveq, aveq_refl v]
  | .nili => by simp [aveq]
  | .agg xs => by simp [aveq, aveqs_refl xs]
  | .tup xs => by simp [aveq, aveqs_refl xs]
theorem aveqs_refl : ∀ (a : List AV), aveqs a a = true
  | [] => by simp [aveqs]
  | a :: as => by simp [aveqs, aveq_refl a, aveqs_refl as]
end

/-! ### Memory -/
def isAggD : TypeDesc → Bool
  | .struct _ | .array _ _ => true
  | _ => false
def rdRow (row : List AV) (off n : Nat) : Option (List AV) := cond (hasLen row (off + n)) (some ((row.drop off).take n)) none
def rd (H : AHeap) (a : AV) (n : Nat) : Option (List AV) :=
  match a with
  | .ptr id off => match H.get id with
    | some (.cells cs) => rdRow cs off n
    | _ => none
  | .rptr row off => rdRow row off n
  | _ => none
def wr (H : AHeap) (a : AV) (vs : List AV) : Option AHeap :=
  match a with
  | .ptr id off => match H.get id with
    | some (.cells cs) => cond (hasLen cs (off + vs.length)) (some (H.set id (.cells (cs.take off ++ vs ++ cs.drop (off + vs.length))))) none
    | _ => none
  | _ => none
def loadT (P : Program) (H : AHeap) (t : TypeId) (a : AV) : Option AV :=
  match P.underlying t, P.info? t with
  | some d, some i => if isAggD d then (rd H a i.size).map .agg else match rd H a 1 with
    | some [v] => some v
    | _ => none
  | _, _ => none
def storeT (P : Program) (H : AHeap) (t : TypeId) (a v : AV) : Option AHeap :=
  match P.info? t with
  | some i => if v.ntup && lenIs v.cells i.size then wr H a v.cells else none
  | none => none
def zeroT (P : Program) (t : TypeId) : Option AV :=
  match P.info? t with
  | some i => match i.zero with
    | some z => ofV z
    | none => none
  | none => none
def sizeT (P : Program) (t : TypeId) : Option Nat := (P.info? t).map (·.size)
def partT (P : Program) (t : TypeId) (cs : List AV) (off : Nat) : Option AV :=
  match P.underlying t, P.info? t with
  | some d, some i => if isAggD d then some (.agg ((cs.take (off + i.size)).drop off)) else cs[off]?
  | _, _ => none
def addP (a : AV) (n : Nat) : Option AV :=
  match a with
  | .ptr id off => some (.ptr id (off + n))
  | .rptr row off => some (.rptr row (off + n))
  | _ => none
/-- The cells of a slice's first elements. -/
def sdata (H : AHeap) (s : AV) (n : Nat) : Option (List AV) :=
  if n = 0 then some [] else match s with
  | .sl id off _ _ _ _ => rd H (.ptr id off) n
  | .rsl row off _ _ => rd H (.rptr row off) n
  | _ => none
def slen : AV → Option Nat
  | .nils => some 0
  | .sl _ _ n _ _ _ => some n
  | .rsl _ _ n _ => some n
  | _ => none
def bytesOf (s : ByteArray) : List AV := s.data.toList.map fun b => .int .u8 b.toNat
def limit : Nat := 70368744177664
def asI : AV → Option Int
  | .int _ n => some n
  | _ => none

/-! ### Comparison -/
def eqParts (f : TypeId → AV → AV → Option Bool) (P : Program) (xs ys : List AV) : List (TypeId × Nat) → Option Bool
  | [] => some true
  | (t, off) :: r => match partT P t xs off, partT P t ys off with
    | some a, some b => match f t a b with
      | some true => eqParts f P xs ys r
      | some false => some false
      | none => none
    | _, _ => none
def eqArr (f : AV → AV → Option Bool) (P : Program) (e : TypeId) (n : Nat) : Nat → List AV → List AV → Option Bool
  | 0, _, _ => some true
  | k + 1, xs, ys => match partT P e xs 0, partT P e ys 0 with
    | some a, some b => match f a b with
      | some true => eqArr f P e n k (xs.drop n) (ys.drop n)
      | some false => some false
      | none => none
    | _, _ => none
def aeq (P : Program) : Nat → TypeId → AV → AV → Option Bool
  | 0, _, _, _ => none
  | d + 1, t, x, y => match P.underlying t with
    | none => none
    | some D => match D, x, y with
      | .bool, .bool a, .bool b => some (a == b)
      | .int _, .int k a, .int k' b => if k = k' then some (a == b) else none
      | .string, .str a, .str b => some (bytesEq a b)
      | .pointer _, .nilp, .nilp => some true
      | .pointer _, .nilp, .ptr _ _ => some false
      | .pointer _, .ptr _ _, .nilp => some false
      | .pointer _, .nilp, .rptr _ _ => some false
      | .pointer _, .rptr _ _, .nilp => some false
      | .interface _, .nili, .nili => some true
      | .interface _, .nili, .ifc _ _ => some false
      | .interface _, .ifc _ _, .nili => some false
      | .interface _, .ifc t a, .ifc t' b => if t ≠ t' then some false else match P.info? t with
        | some i => if i.comparable then aeq P d t a b else none
        | none => none
      | .struct fields, .agg xs, .agg ys => if P.stoodInHeld t then none else eqParts (aeq P d) P xs ys ((fields.toList.filter fun f => f.name ≠ "_").map fun f => (f.type, f.offset))
      | .array len elem, .agg xs, .agg ys => match sizeT P elem with
        | some n => eqArr (aeq P d elem) P elem n len xs ys
        | none => none
      | .slice _, .nils, .nils => some true
      | .slice _, .nils, .sl _ _ _ _ _ _ => some false
      | .slice _, .nils, .rsl _ _ _ _ => some false
      | .slice _, .sl _ _ _ _ _ _, .nils => some false
      | .slice _, .rsl _ _ _ _, .nils => some false
      | .map _ _, .nilm, .nilm => some true
      | .map _ _, .nilm, .mapv _ => some false
      | .map _ _, .mapv _, .nilm => some false
      | .func _ _ _, .nilf, .nilf => some true
      | .func _ _ _, .nilf, .fn _ _ _ => some false
      | .func _ _ _, .fn _ _ _, .nilf => some false
      | _, _, _ => none

/-! ### Operations -/
def bitsI (k : IntKind) (r : BitVec k.bits) : AV := .int k (k.wrap r.toNat)
def binI (op : BinOp) (k : IntKind) (a b : Int) : Option AV :=
  match op with
  | .add => some (.int k (k.wrap (a + b)))
  | .sub => some (.int k (k.wrap (a - b)))
  | .mul => some (.int k (k.wrap (a * b)))
  | .quo => if b = 0 then none else some (.int k (k.wrap (a.tdiv b)))
  | .rem => if b = 0 then none else some (.int k (a.tmod b))
  | .and => some (bitsI k (BitVec.ofInt k.bits a &&& BitVec.ofInt k.bits b))
  | .or => some (bitsI k (BitVec.ofInt k.bits a ||| BitVec.ofInt k.bits b))
  | .xor => some (bitsI k (BitVec.ofInt k.bits a ^^^ BitVec.ofInt k.bits b))
  | .andNot => some (bitsI k (BitVec.ofInt k.bits a &&& ~~~BitVec.ofInt k.bits b))
  | .eql => some (.bool (a == b))
  | .neq => some (.bool (a != b))
  | .lss => some (.bool (a < b))
  | .leq => some (.bool (a ≤ b))
  | .gtr => some (.bool (a > b))
  | .geq => some (.bool (a ≥ b))
  | _ => none
def shI (op : BinOp) (k : IntKind) (a b : Int) : Option AV :=
  if b < 0 then none else match op with
  | .shl => some (.int k (k.wrap (a * 2 ^ min b.toNat k.bits)))
  | .shr => some (.int k (a.fdiv (2 ^ min b.toNat k.bits)))
  | _ => none
def strOp (op : BinOp) (a b : ByteArray) : Option AV :=
  match op with
  | .add => if a.size + b.size ≤ limit then some (.str (a ++ b)) else none
  | .eql => some (.bool (bytesEq a b))
  | .neq => some (.bool (!bytesEq a b))
  | .lss => some (.bool (Op.bytesLess a.data.toList b.data.toList))
  | .leq => some (.bool (Op.bytesLess a.data.toList b.data.toList || bytesEq a b))
  | .gtr => some (.bool !(Op.bytesLess a.data.toList b.data.toList || bytesEq a b))
  | .geq => some (.bool !(Op.bytesLess a.data.toList b.data.toList))
  | _ => none
def binop (P : Program) (op : BinOp) (t : TypeId) (x y : AV) : Option AV :=
  match x, y with
  | .int k a, .int k' b => if op = .shl ∨ op = .shr then shI op k a b else if k = k' then binI op k a b else none
  | .str a, .str b => strOp op a b
  | x, y => match op with
    | .eql => (aeq P 20 t x y).map .bool
    | .neq => (aeq P 20 t x y).map fun b => .bool (!b)
    | _ => none
def unop (op : UnOp) (x : AV) : Option AV :=
  match op, x with
  | .neg, .int k n => some (.int k (k.wrap (0 - n)))
  | .xor, .int k n => some (bitsI k (BitVec.ofInt k.bits (if k.signed then -1 else k.max) ^^^ BitVec.ofInt k.bits n))
  | .not, .bool b => some (.bool (!b))
  | _, _ => none
def fillA (place : Nat → Option (Nat × Nat)) (cells : List AV) : List (Nat × AV) → Option (List AV)
  | [] => some cells
  | (i, v) :: rest => match place i with
    | none => none
    | some (off, size) => if v.ntup && lenIs v.cells size && hasLen cells (off + size) then fillA place (cells.take off ++ v.cells ++ cells.drop (off + size)) rest else none
def evs (ev : Operand → Option AV) : List Operand → Option (List AV)
  | [] => some []
  | x :: r => match ev x, evs ev r with
    | some a, some as => some (a :: as)
    | _, _ => none
def evParts (ev : Operand → Option AV) : List (Nat × Operand) → Option (List (Nat × AV))
  | [] => some []
  | (i, x) :: r => match ev x, evParts ev r with
    | some a, some as => some ((i, a) :: as)
    | _, _ => none

inductive ARes where
  | val (v : AV) (H : AHeap)
  | enter (f : FuncId) (args : List AV)
  | round (id : Nat) (args : List AV)
  | dfr (f : FuncId) (args : List AV)
  | recov

def keyScalar (P : Program) (t : TypeId) (v : AV) : Bool :=
  match P.underlying t, v with
  | some (.int _), .int _ _ | some .string, .str _ | some .bool, .bool _ => true
  | _, _ => false
def keyFields (P : Program) (cs : List AV) : List (TypeId × Nat) → Bool
  | [] => true
  | (t, off) :: r => (match partT P t cs off with
    | some a => keyScalar P t a
    | none => false) && keyFields P cs r
def keyOk (P : Program) (t : TypeId) (v : AV) : Bool :=
  keyScalar P t v || match P.underlying t, v with
  | some (.struct fields), .agg cs => cs.all (fun c => match c with | .int _ _ | .str _ | .bool _ => true | _ => false) && keyFields P cs ((fields.toList.filter fun f => f.name ≠ "_").map fun f => (f.type, f.offset))
  | _, _ => false
def findA (P : Program) (t : TypeId) (k : AV) : List (AV × AV) → Nat → Option (Option (Nat × AV))
  | [], _ => some none
  | (k', v) :: r, i => match aeq P 20 t k k' with
    | some true => if aveq k k' then some (some (i, v)) else none
    | some false => findA P t k r (i + 1)
    | none => none
def val (v : AV) (H : AHeap) : Option ARes := some (.val v H)

def wdOf : AV → Option Nat
  | .sl _ _ _ _ wd _ => some wd
  | _ => none
def wdIs (x : AV) (n : Nat) : Bool :=
  match wdOf x with
  | some wd => Nat.beq wd n
  | none => true
/-- The second operand of append, of copy. -/
def xdata (H : AHeap) (size : Nat) (x : AV) : Option (Nat × List AV) :=
  match x with
  | .str b => some (b.size, bytesOf b)
  | x => match slen x with
    | some n => (sdata H x (n * size)).map fun cs => (n, cs)
    | none => none
def zeroFits (i : TypeInfo) : Bool :=
  match i.zero with
  | some z => Nat.beq z.cells.size i.size && z.cells.all vone
  | none => false
def growA (i : TypeInfo) (H H' : AHeap) (s : AV) (len n : Nat) (new : List AV) : Option ARes :=
  cond (Nat.ble ((len + n) * i.bytes) limit && (Nat.ble (len + n) limit && (Nat.blt 0 i.bytes && zeroFits i))) (match sdata H s (len * i.size) with
    | some old => val (.sl H'.next 0 (len + n) (len + n) i.size false) (H'.alloc (.cells (old ++ new)))
    | none => none) none
def appendTo (i : TypeInfo) (H : AHeap) (s : AV) (len n : Nat) (new : List AV) : Option ARes :=
  match s with
  | .nils => cond (Nat.beq n 0) (val .nils H) (growA i H H .nils len n new)
  | .sl id off l cap wd ex =>
    cond (Nat.ble (len + n) cap) (cond (Nat.beq n 0) (val (.sl id off (len + n) cap wd ex) H) (match wr H (.ptr id (off + len * i.size)) new with
        | some H' => val (.sl id off (len + n) cap wd ex) H'
        | none => none)) (cond ex (growA i H H (.sl id off l cap wd ex) len n new) (match H.get id with
        | some (.cells _) => growA i H (H.kill id) (.sl id off l cap wd ex) len n new
        | _ => none))
  | .rsl row off l (some c) => cond (Nat.ble (len + n) c) (cond (Nat.beq n 0) (val (.rsl row off l (some c)) H) none) (growA i H H (.rsl row off l (some c)) len n new)
  | .rsl row off l none => cond (Nat.beq n 0) (val (.rsl row off l none) H) none
  | _ => none
def appendA (P : Program) (e : TypeId) (H : AHeap) (s x : AV) : Option ARes :=
  match P.info? e, slen s with
  | some i, some len => match xdata H i.size x with
    | some (n, new) => cond (lenIs new (n * i.size) && (wdIs x i.size && wdIs s i.size)) (appendTo i H s len n new) none
    | none => none
  | _, _ => none

def copyA (P : Program) (e : TypeId) (H : AHeap) (d x : AV) : Option ARes :=
  match P.info? e, slen d, slen x with
  | some i, some dl, some n => match sdata H x (min n dl * i.size) with
    | some cs => cond (wdIs x i.size && wdIs d i.size) (cond (Nat.beq (min n dl * i.size) 0) (val (.int .i64 (min n dl : Nat)) H) (match d with
      | .sl id off _ _ _ _ => match wr H (.ptr id off) cs with
        | some H' => val (.int .i64 (min n dl : Nat)) H'
        | none => none
      | _ => none)) none
    | none => none
  | _, _, _ => none

def convA (P : Program) (src dst : TypeId) (H : AHeap) (x : AV) : Option ARes :=
  match P.underlying src, P.underlying dst, x with
  | some _, some (.int k), .int _ n => val (.int k (k.wrap n)) H
  | some S, some .string, .str s => (match S with | .string => val (.str s) H | _ => none)
  | _, _, _ => none

def boundA (x : Option AV) (dflt top : Nat) : Option Nat :=
  match x with
  | none => some dflt
  | some (.int _ i) => if 0 ≤ i ∧ i ≤ top then some i.toNat else none
  | _ => none

def sliceA (P : Program) (t : TypeId) (H : AHeap) (x : AV) (lo hi mx : Option AV) : Option ARes :=
  match P.underlying t with
  | some (.array n e) => match sizeT P e, mx with
    | some size, none =>
      match boundA hi n n with
      | some h => match boundA lo 0 h with
        | some l => match x with
          | .ptr id off => (match H.get id with
            | some (.cells cs) => cond (hasLen cs (off + n * size)) (val (.sl id (if n = l then off else off + l * size) (h - l) (n - l) size true) H) none
            | _ => none)
          | .rptr row off => val (.rsl row (if n = l then off else off + l * size) (h - l) (some (n - l))) H
          | _ => none
        | none => none
      | none => none
    | _, _ => none
  | some .string => match x, mx with
    | .str s, none => match boundA hi s.size s.size with
      | some h => match boundA lo 0 h with
        | some l => val (.str (s.extract l h)) H
        | none => none
      | none => none
    | _, _ => none
  | some (.slice e) => match sizeT P e with
    | some size => match x with
      | .nils => match boundA mx 0 0 with
        | some m => if mx.isSome && hi.isNone then none else match boundA hi 0 m with
          | some h => match boundA lo 0 h with
            | some l => val .nils H
            | none => none
          | none => none
        | none => none
      | .sl id off len cap wd ex => if !(Nat.beq wd size) then none else match boundA mx cap cap with
        | some m => if mx.isSome && hi.isNone then none else match boundA hi len m with
          | some h => match boundA lo 0 h with
            | some l => val (.sl id (if m = l then off else off + l * size) (h - l) (m - l) wd (ex || mx.isSome)) H
            | none => none
          | none => none
        | none => none
      | .rsl row off len (some cap) => match boundA mx cap cap with
        | some m => if mx.isSome && hi.isNone then none else match boundA hi len m with
          | some h => match boundA lo 0 h with
            | some l => val (.rsl row (if m = l then off else off + l * size) (h - l) (some (m - l))) H
            | none => none
          | none => none
        | none => none
      | _ => none
    | none => none
  | _ => none

def lenA (P : Program) (t : TypeId) (H : AHeap) (x : AV) : Option Int :=
  match P.underlying t, x with
  | some .string, .str s => some s.size
  | some (.array n _), _ => some n
  | some (.slice _), x => match slen x with
    | some n => some (n : Int)
    | none => none
  | some (.map _ _), .nilm => some 0
  | some (.map _ _), .mapv id => match H.get id with
    | some (.map es) => some es.length
    | _ => none
  | _, _ => none

def entriesA (H : AHeap) (x : AV) : Option (List (AV × AV)) :=
  match x with
  | .nilm => some []
  | .mapv id => match H.get id with
    | some (.map es) => some es
    | _ => none
  | _ => none

def builtinA (P : Program) (b : Builtin) (ts : Array TypeId) (H : AHeap) (args : List AV) : Option ARes :=
  match b, args with
  | .len, [x] => match ts.toList with
    | t :: _ => match lenA P t H x with | some n => val (.int .i64 n) H | none => none
    | _ => none
  | .append, [s, x] => match ts.toList with
    | [t0, t1] => match P.underlying t0, P.underlying t1 with
      | some (.slice e), some (.slice _) => appendA P e H s x
      | some (.slice e), some .string => appendA P e H s x
      | _, _ => none
    | _ => none
  | .copy, [d, x] => match ts.toList with
    | t0 :: _ => match P.underlying t0 with
      | some (.slice e) => copyA P e H d x
      | _ => none
    | _ => none
  | .min, [.int k a, .int k' b] => if k = k' then val (.int k (if b < a then b else a)) H else none
  | .max, [.int k a, .int k' b] => if k = k' then val (.int k (if b > a then b else a)) H else none
  | .recover, [] => some .recov
  | _, _ => none

def enterA (P : Program) (f : FuncId) (args : List AV) : Option ARes :=
  match P.funcs[f]? with
  | some fn => if fn.body.isSome && fn.name != "runtime.NumGoroutine" then some (.enter f args) else none
  | none => none
def recvOk (D : TypeDesc) (pr : Bool) : Bool :=
  match D with
  | .pointer _ => pr
  | _ => !pr
def invokeA (P : Program) (recv : AV) (name : String) (args : List AV) : Option ARes :=
  match recv with
  | .ifc t v => match P.info? t, P.underlying t with
    | some i, some D => match i.methods.find? (·.name == name) with
      | some m => match m.func with
        | some (f, pr) => cond (m.path.isEmpty && recvOk D pr) (enterA P f (v :: args)) none
        | none => none
      | none => none
    | _, _ => none
  | _ => none

def assertA (P : Program) (H : AHeap) (x : AV) (to_ : TypeId) (ok : Bool) : Option ARes :=
  let holds (v : AV) : Option ARes := val (if ok then .tup [v, .bool true] else v) H
  let fails : Option ARes := if ok then (zeroT P to_).bind fun z => val (.tup [z, .bool false]) H else none
  match P.underlying to_ with
  | none => none
  | some D => match D, x with
    | .interface _, .nili => fails
    | .interface want, .ifc t _ => match P.info? t with
      | some i => match Instr.missingMethod want i.methods with
        | none => holds x
        | some _ => fails
      | none => none
    | _, .nili => fails
    | _, .ifc t v => if t = to_ then holds v else fails
    | _, _ => none

def callA (P : Program) (H : AHeap) (ev : Operand → Option AV) (c : Call) : Option ARes :=
  match evs ev c.args.toList with
  | none => none
  | some args => match c.callee with
    | .builtin b => builtinA P b c.argTypes H args
    | .invoke r name => match ev r with
      | some rv => invokeA P rv name args
      | none => none
    | .value g => match ev g with
      | some (.fn f first cap) => enterA P f (first ++ args ++ cap)
      | some (.yld id) => some (.round id args)
      | _ => none

def aPick (P : Program) (ev : Operand → Option AV) (H : AHeap) (c a b : Operand) : Option ARes :=
  match ev c with
  | some (.bool t) => match ev a, ev b with
    | some x, some y => val (cond t x y) H
    | _, _ => none
  | _ => none
def aAlloc (P : Program) (H : AHeap) (t : TypeId) : Option ARes :=
  match zeroT P t with
  | some z => cond z.ntup (val (.ptr H.next 0) (H.alloc (.cells z.cells))) none
  | none => none
def aBox (ev : Operand → Option AV) (H : AHeap) (x : Operand) : Option ARes :=
  match ev x with
  | some v => cond v.ntup (val (.ptr H.next 0) (H.alloc (.cells v.cells))) none
  | none => none
def placesOf (P : Program) : List Field → Option (List (Nat × Nat))
  | [] => some []
  | f :: r => match sizeT P f.type, placesOf P r with
    | some n, some l => some ((f.offset, n) :: l)
    | _, _ => none
def aBuild (P : Program) (ev : Operand → Option AV) (H : AHeap) (t : TypeId) (parts : Array (Nat × Operand)) : Option ARes :=
  match zeroT P t, P.underlying t, evParts ev parts.toList with
  | some z, some (.struct fields), some ps => match placesOf P fields.toList with
    | some pl => cond z.ntup (match fillA (fun i => pl[i]?) z.cells ps with | some cs => val (.agg cs) H | none => none) none
    | none => none
  | some z, some (.array _ e), some ps => match sizeT P e with
    | some n => cond z.ntup (match fillA (fun i => some (i * n, n)) z.cells ps with | some cs => val (.agg cs) H | none => none) none
    | none => none
  | _, _, _ => none
def aBuildSlice (P : Program) (ev : Operand → Option AV) (H : AHeap) (t : TypeId) (len : Nat) (parts : Array (Nat × Operand)) : Option ARes :=
  match P.underlying t, evParts ev parts.toList with
  | some (.slice e), some ps => match sizeT P e, zeroT P e with
    | some n, some z => cond (z.ntup && (lenIs z.cells n && Nat.ble (len * n) 16777216))
        (match fillA (fun i => some (i * n, n)) (List.replicate len z.cells).flatten ps with
        | some cs => val (.sl H.next 0 len len n true) (H.alloc (.cells cs))
        | none => none) none
    | _, _ => none
  | _, _ => none
def aLoad (P : Program) (ev : Operand → Option AV) (H : AHeap) (t : TypeId) (a : Operand) : Option ARes :=
  match ev a with
  | some p => match loadT P H t p with
    | some v => val v H
    | none => none
  | none => none
def aStore (P : Program) (ev : Operand → Option AV) (H : AHeap) (t : TypeId) (a x : Operand) : Option ARes :=
  match ev a, ev x with
  | some p, some v => match storeT P H t p v with
    | some H' => val u H'
    | none => none
  | _, _ => none
def aNil (ev : Operand → Option AV) (H : AHeap) (x : Operand) : Option ARes :=
  match ev x with
  | some (.ptr i o) => val (.ptr i o) H
  | some (.rptr r o) => val (.rptr r o) H
  | some (.ifc t v) => val (.ifc t v) H
  | some (.fn f a b) => val (.fn f a b) H
  | some (.mapv i) => val (.mapv i) H
  | some (.nilm) => val .nilm H
  | _ => none
def isConst : Operand → Bool
  | .const _ => true
  | _ => false
/-- The model's look ahead of '=='. -/
def guardOk (P : Program) (t : TypeId) (x y : Operand) (a b : AV) : Bool :=
  match a, b with
  | .nili, .nili => isConst x || isConst y
  | .agg _, .agg _ => !P.eqGuardType P.depth t
  | _, _ => true
def aBin (P : Program) (ev : Operand → Option AV) (H : AHeap) (op : BinOp) (t : TypeId) (x y : Operand) : Option ARes :=
  match ev x, ev y with
  | some a, some b => cond (guardOk P t x y a b) (match binop P op t a b with
    | some v => val v H
    | none => none) none
  | _, _ => none
def aUn (ev : Operand → Option AV) (H : AHeap) (op : UnOp) (x : Operand) : Option ARes :=
  match ev x with
  | some a => match unop op a with
    | some v => val v H
    | none => none
  | none => none
def aConv (P : Program) (ev : Operand → Option AV) (H : AHeap) (s d : TypeId) (x : Operand) : Option ARes :=
  match ev x with
  | some a => convA P s d H a
  | none => none
def aIface (P : Program) (ev : Operand → Option AV) (H : AHeap) (t : TypeId) (x : Operand) : Option ARes :=
  match ev x, P.underlying t with
  | some _, some (.interface _) => none
  | some a, some _ => val (.ifc t a) H
  | _, _ => none
def aFunc (ev : Operand → Option AV) (H : AHeap) (fn : Fn) (first cap : Array Operand) : Option ARes :=
  match fn, evs ev first.toList, evs ev cap.toList with
  | .func f, some xs, some ys => val (.fn f xs ys) H
  | _, _, _ => none
def aMap (P : Program) (ev : Operand → Option AV) (H : AHeap) (t : TypeId) (r : Option Operand) : Option ARes :=
  match r with
  | none => val (.mapv H.next) (H.alloc (.map []))
  | some x => match ev x, P.underlying t with
    | some (.int _ _), some (.map _ _) => val (.mapv H.next) (H.alloc (.map []))
    | _, _ => none
def aMake (P : Program) (ev : Operand → Option AV) (H : AHeap) (t : TypeId) (l c : Operand) : Option ARes :=
  match P.underlying t, ev l, ev c with
  | some (.slice e), some (.int _ n), some (.int _ m) => match P.info? e, zeroT P e with
    | some i, some z => if 0 ≤ n ∧ n ≤ m ∧ m ≤ limit ∧ m * i.bytes ≤ limit ∧ z.ntup = true ∧ lenIs z.cells i.size = true then
        val (.sl H.next 0 n.toNat m.toNat i.size true) (H.alloc (.cells (List.replicate m.toNat z.cells).flatten)) else none
    | _, _ => none
  | _, _, _ => none
def evO (ev : Operand → Option AV) : Option Operand → Option (Option AV)
  | none => some none
  | some x => match ev x with
    | some v => some (some v)
    | none => none
def aSlice (P : Program) (ev : Operand → Option AV) (H : AHeap) (t : TypeId) (x : Operand) (lo hi mx : Option Operand) : Option ARes :=
  match ev x, evO ev lo, evO ev hi, evO ev mx with
  | some a, some l, some h, some m => sliceA P t H a l h m
  | _, _, _, _ => none
def aFieldAddr (P : Program) (ev : Operand → Option AV) (H : AHeap) (t : TypeId) (x : Operand) (f : Nat) : Option ARes :=
  match P.underlying t, ev x with
  | some (.struct fields), some a => match fields[f]? with
    | some fd => match sizeT P fd.type with
      | some n => cond (Nat.beq n 0) none (match addP a fd.offset with | some p => val p H | none => none)
      | none => none
    | none => none
  | _, _ => none
def aField (P : Program) (ev : Operand → Option AV) (H : AHeap) (t : TypeId) (x : Operand) (f : Nat) : Option ARes :=
  match P.underlying t, ev x with
  | some (.struct fields), some (.agg cs) => match fields[f]? with
    | some fd => match partT P fd.type cs fd.offset with
      | some v => val v H
      | none => none
    | none => none
  | _, _ => none
def aIndexAddr (P : Program) (ev : Operand → Option AV) (H : AHeap) (t : TypeId) (x ix : Operand) : Option ARes :=
  match P.underlying t, ev x, ev ix with
  | some (.slice e), some s, some (.int _ i) => match sizeT P e, slen s with
    | some n, some len => if 0 ≤ i ∧ i < len then (match s with
        | .sl id off _ _ wd _ => cond (Nat.beq wd n) (val (.ptr id (off + i.toNat * n)) H) none
        | .rsl row off _ _ => val (.rptr row (off + i.toNat * n)) H
        | _ => none) else none
    | _, _ => none
  | some (.array len e), some a, some (.int _ i) => match sizeT P e with
    | some n => if 0 ≤ i ∧ i < len then (match addP a (i.toNat * n) with | some p => val p H | none => none) else none
    | none => none
  | _, _, _ => none
def aIndex (P : Program) (ev : Operand → Option AV) (H : AHeap) (t : TypeId) (x ix : Operand) : Option ARes :=
  match P.underlying t, ev x, ev ix with
  | some (.array len e), some (.agg cs), some (.int _ i) => match sizeT P e with
    | some n => if 0 ≤ i ∧ i < len then (match partT P e cs (i.toNat * n) with | some v => val v H | none => none) else none
    | none => none
  | some .string, some (.str s), some (.int _ i) => if 0 ≤ i then (match s.data.toList[i.toNat]? with | some b => val (.int .u8 b.toNat) H | none => none) else none
  | _, _, _ => none
def aLookup (P : Program) (ev : Operand → Option AV) (H : AHeap) (t : TypeId) (x k : Operand) (ok : Bool) : Option ARes :=
  match P.underlying t, ev x, ev k with
  | some (.map kt e), some m, some key => if !keyOk P kt key then none else match entriesA H m with
    | some es => match findA P kt key es 0 with
      | some (some (_, v)) => val (if ok then .tup [v, .bool true] else v) H
      | some none => match zeroT P e with
        | some z => val (if ok then .tup [z, .bool false] else z) H
        | none => none
      | none => none
    | none => none
  | _, _, _ => none
def aMapUpd (P : Program) (ev : Operand → Option AV) (H : AHeap) (t : TypeId) (m k x : Operand) : Option ARes :=
  match P.underlying t, ev m, ev k, ev x with
  | some (.map kt _), some (.mapv id), some key, some v => if !keyOk P kt key then none else match H.get id with
    | some (.map es) => match findA P kt key es 0 with
      | some (some (i, _)) => val u (H.set id (.map (es.set i (key, v))))
      | some none => val u (H.set id (.map (es ++ [(key, v)])))
      | none => none
    | _ => none
  | _, _, _, _ => none
def aRange (P : Program) (ev : Operand → Option AV) (H : AHeap) (t : TypeId) (x : Operand) : Option ARes :=
  match P.underlying t, ev x with
  | some .string, some (.str s) => val (.ptr H.next 0) (H.alloc (.siter s 0))
  | _, _ => none
def aNext (ev : Operand → Option AV) (H : AHeap) (it : Operand) (isString : Bool) : Option ARes :=
  match ev it, isString with
  | some (.ptr id 0), true => match H.get id with
    | some (.siter s pos) => cond (Nat.blt pos s.size)
        (val (.tup [.bool true, .int .i64 pos, .int .i32 (Utf8.decode s pos).1]) (H.set id (.siter s (pos + (Utf8.decode s pos).2))))
        (val (.tup [.bool false]) H)
    | _ => none
  | _, _ => none
def aAssert (P : Program) (ev : Operand → Option AV) (H : AHeap) (x : Operand) (t : TypeId) (ok : Bool) : Option ARes :=
  match ev x with
  | some a => assertA P H a t ok
  | none => none
def aExtract (ev : Operand → Option AV) (H : AHeap) (x : Operand) (i : Nat) : Option ARes :=
  match ev x with
  | some (.tup vs) => match vs[i]? with
    | some v => val v H
    | none => none
  | _ => none
def aMove (ev : Operand → Option AV) (H : AHeap) (x : Operand) : Option ARes :=
  match ev x with
  | some v => val v H
  | none => none
def aDefer (P : Program) (ev : Operand → Option AV) (c : Call) : Option ARes :=
  match c.callee, evs ev c.args.toList with
  | .value g, some args => match ev g with
    | some (.fn f first cap) => match enterA P f (first ++ args ++ cap) with
      | some (.enter f as) => some (.dfr f as)
      | _ => none
    | _ => none
  | _, _ => none

def aop (P : Program) (ev : Operand → Option AV) (H : AHeap) (o : Op) : Option ARes :=
  match o with
  | .move x => aMove ev H x
  | .assign x => aMove ev H x
  | .pick c a b => aPick P ev H c a b
  | .alloc t => aAlloc P H t
  | .box _ x => aBox ev H x
  | .build t parts => aBuild P ev H t parts
  | .buildSlice t len parts => aBuildSlice P ev H t len parts
  | .load t a => aLoad P ev H t a
  | .store t a x => aStore P ev H t a x
  | .nilCheck x => aNil ev H x
  | .binOp op t x y _ => aBin P ev H op t x y
  | .unOp op _ x => aUn ev H op x
  | .convert s d x => aConv P ev H s d x
  | .makeInterface t x => aIface P ev H t x
  | .makeFunc fn first cap => aFunc ev H fn first cap
  | .makeMap t r => aMap P ev H t r
  | .makeSlice t l c => aMake P ev H t l c
  | .slice t x lo hi mx => aSlice P ev H t x lo hi mx
  | .fieldAddr t x f => aFieldAddr P ev H t x f
  | .field t x f => aField P ev H t x f
  | .indexAddr t x ix => aIndexAddr P ev H t x ix
  | .index t x ix => aIndex P ev H t x ix
  | .range t x => aRange P ev H t x
  | .next it s => aNext ev H it s
  | .typeAssert x _ t ok => aAssert P ev H x t ok
  | .extract x i => aExtract ev H x i
  | .call c => callA P H ev c
  | .defer c => aDefer P ev c
  | _ => none

/-! ### Code -/
inductive ADef where
  | call (f : FuncId) (args : List AV)
  | coll (id : Nat)
structure St where
  env : Env
  heap : AHeap
  dfs : List ADef
inductive Out where
  | normal
  | exit (id : Nat)
  | ret

def ev (G : Nat → Option (List AV)) (env : Env) : Operand → Option AV
  | .tmp t => some (env.get t)
  | .const (.int k n) => some (.int k n)
  | .const (.bool b) => some (.bool b)
  | .const (.string s) => some (.str s)
  | .const v => ofV v
  | .global g => (G g).map (.rptr · 0)
  | .func f => some (.fn f [] [])

structure Evs where
  ex : Option Nat → Code → St → Option (Out × St)
  ca : FuncId → List AV → AHeap → Option (AV × AHeap)
  cd : FuncId → List AV → AHeap → Option (AV × AHeap)

def putD (env : Env) (d : Option Tmp) (v : AV) : Env :=
  match d with
  | some d => env.set d v
  | none => env
def wantedA (ops : Array Oper) (env : Env) (o : Oper) : Bool :=
  match o.guard with
  | none => true
  | some (j, want) => match (ops[j]?).bind (·.dst) with
    | some t => match env.get t with
      | .bool b => b == want
      | _ => false
    | none => false

def setParams (env : Env) : List Tmp → List AV → Env
  | t :: ts, a :: as => setParams (env.set t a) ts as
  | _, _ => env
/-- A round of a loop over a function. -/
def roundA (E : Evs) (id : Nat) (args : List AV) (H : AHeap) : Option (AV × AHeap) :=
  match H.get id with
  | some (.loop l) =>
    if l.ready && l.pending.isNone && args.length == l.params.length then
      match E.ex (some id) l.assign ⟨setParams l.env l.params args, H, []⟩ with
      | some (.normal, st) => match st.heap.get id with
        | some (.loop l') => if !(l'.ready && l'.pending.isNone) || !st.dfs.isEmpty then none else
          match E.ex (some id) l.body ⟨st.env, st.heap.set id (.loop { l' with ready := false }), []⟩ with
          | some (out, st') => match st'.heap.get id, st'.dfs with
            | some (.loop l''), [] => match out with
              | .normal => some (.bool true, st'.heap.set id (.loop { l'' with ready := true, pending := none }))
              | .exit x => some (.bool false, st'.heap.set id (.loop { l'' with ready := false, pending := some (.exit x) }))
              | .ret => some (.bool false, st'.heap.set id (.loop { l'' with ready := false, pending := some .ret }))
            | _, _ => none
          | none => none
        | _ => none
      | _ => none
    else none
  | _ => none

def opDo (E : Evs) (ro : Option Nat) (d : Option Tmp) (st : St) (r : Option ARes) : Option St :=
  match r with
  | some (.val v H) => some ⟨putD st.env d v, H, st.dfs⟩
  | some (.enter f args) => match E.ca f args st.heap with
    | some (v, H) => some ⟨putD st.env d v, H, st.dfs⟩
    | none => none
  | some (.round id args) => match roundA E id args st.heap with
    | some (v, H) => some ⟨putD st.env d v, H, st.dfs⟩
    | none => none
  | some (.dfr f args) => match ro with
    | some _ => none
    | none => some ⟨putD st.env d u, st.heap, .call f args :: st.dfs⟩
  | some .recov => match ro with
    | some _ => none
    | none => some ⟨putD st.env d .nili, st.heap, st.dfs⟩
  | none => none
def op1 (P : Program) (G : Nat → Option (List AV)) (E : Evs) (ro : Option Nat) (ops : Array Oper) (o : Oper) (st : St) : Option St :=
  cond (wantedA ops st.env o) (opDo E ro o.dst st (aop P (ev G st.env) st.heap o.op)) (some ⟨putD st.env o.dst u, st.heap, st.dfs⟩)

/-- The states ahead of each operation, and behind the last one. -/
def traj (P : Program) (G : Nat → Option (List AV)) (E : Evs) (ro : Option Nat) (ops : Array Oper) : List Oper → St → Option (List St)
  | [], st => some [st]
  | o :: r, st => match op1 P G E ro ops o st with
    | some st' => (traj P G E ro ops r st').map (st :: ·)
    | none => none
def runOps (P : Program) (G : Nat → Option (List AV)) (E : Evs) (ro : Option Nat) (ops : Array Oper) : List Oper → St → Option St
  | [], st => some st
  | o :: r, st => match op1 P G E ro ops o st with
    | some st' => runOps P G E ro ops r st'
    | none => none

/-! ### Regions that draw their order -/
inductive Cls where
  | pure | alloc | read | eff
  deriving DecidableEq
def cls : Op → Cls
  | .move _ | .assign _ | .pick .. | .build .. | .nilCheck _ | .binOp .. | .unOp .. | .makeInterface .. | .makeFunc .. | .fieldAddr .. | .field .. | .indexAddr .. | .index .. | .typeAssert .. | .extract .. => .pure
  | .alloc _ | .box .. | .buildSlice .. | .makeMap .. | .makeSlice .. => .alloc
  | .load .. | .slice .. => .read
  | .call { callee := .builtin .len, .. } => .read
  | _ => .eff
def bind (e : Edge) : Bool := Region.binds .any e
def beforeStep (acc : List Nat) (o : Oper) : List Nat :=
  acc ++ [o.after.toList.foldl (fun m e => if bind e then m ||| 2 ^ e.on ||| acc.getD e.on 0 else m) 0]
def before (ops : List Oper) : List Nat := ops.foldl beforeStep []
def ord (bs : List Nat) (i j : Nat) : Bool := (bs.getD j 0).testBit i
def tmpsOf (o : Oper) (ops : Array Oper) : List Tmp :=
  (o.op.operands.toList.filterMap fun | .tmp t => some t | _ => none) ++ (match o.guard with | some (j, _) => ((ops[j]?).bind (·.dst)).toList | none => [])
/-- What must hold of every two operations, i ahead of j. -/
def pairOk (bs : List Nat) (ops : Array Oper) (i j : Nat) (a b : Oper) : Bool :=
  ord bs i j ||
  (!((cls a.op == .eff || cls a.op == .alloc) && cls b.op == .eff) &&
   (match a.dst with | some d => !(tmpsOf b ops).contains d && b.dst != some d | none => true) &&
   (match b.dst with | some d => !(tmpsOf a ops).contains d | none => true))
def dstOk (a b : Oper) : Bool := match a.dst with | some d => b.dst != some d | none => true
def staticOk (ops : Array Oper) : Bool :=
  let l := ops.toList.zipIdx
  let bs := before ops.toList
  l.all (fun (o, i) => o.after.all fun e => !bind e || decide (e.on < i)) &&
  l.all fun (b, j) => l.all fun (a, i) => !decide (i < j) || (pairOk bs ops i j a b && dstOk a b)
/-- A load that may also stand elsewhere among the calls: it must read the same there. -/
def loadsOk (P : Program) (G : Nat → Option (List AV)) (ops : Array Oper) (sts : List St) : Bool :=
  let l := ops.toList.zipIdx
  let bs := before ops.toList
  l.all fun (o, i) => !(cls o.op == .read) || (match sts[i]?, sts[i + 1]? with
    | some si, some si1 => !wantedA ops si.env o || (match aop P (ev G si.env) si.heap o.op with
      | some (.val v _) =>
        -- ahead of each effect e that may find it waiting or done
        (l.all fun (e, k) => !(cls e.op == .eff) || ord bs k i ||
            (l.any fun (f, m) => decide (m < k) && cls f.op == .eff && ord bs i m) ||
            (match sts[k]? with
             | some sk => (match aop P (ev G si.env) sk.heap o.op with | some (.val v' _) => aveq v v' | _ => false)
             | none => false)) &&
        -- behind the last one
        ((l.any fun (f, m) => cls f.op == .eff && ord bs i m) ||
            (match sts[ops.size]? with
             | some sk => (match aop P (ev G si.env) sk.heap o.op with | some (.val v' _) => aveq v v' | _ => false)
             | none => false))
      | _ => false)
    | _, _ => false)

def runRegion (P : Program) (G : Nat → Option (List AV)) (E : Evs) (ro : Option Nat) (ops : Array Oper) (draw : Bool) (st : St) : Option St :=
  if draw then
    if staticOk ops then match traj P G E ro ops ops.toList st with
      | some sts => if loadsOk P G ops sts then sts[ops.size]? else none
      | none => none
    else none
  else runOps P G E ro ops ops.toList st

def eSeq (E : Evs) (ro : Option Nat) (a b : Code) (st : St) : Option (Out × St) :=
  match E.ex ro a st with
  | some (.normal, st') => E.ex ro b st'
  | r => r
def eCond (G : Nat → Option (List AV)) (E : Evs) (ro : Option Nat) (c : Operand) (a b : Code) (st : St) : Option (Out × St) :=
  match ev G st.env c with
  | some (.bool t) => cond t (E.ex ro a st) (E.ex ro b st)
  | _ => none
def eBlock (E : Evs) (ro : Option Nat) (id : Nat) (c : Code) (st : St) : Option (Out × St) :=
  match E.ex ro c st with
  | some (.exit x, st') => some (cond (Nat.beq x id) .normal (.exit x), st')
  | r => r
def eLoop (E : Evs) (ro : Option Nat) (c : Code) (st : St) : Option (Out × St) :=
  match E.ex ro c st with
  | some (.normal, st') => E.ex ro (.loop c) st'
  | r => r
def eRegion (P : Program) (G : Nat → Option (List AV)) (E : Evs) (ro : Option Nat) (ops : Array Oper) (draw : Bool) (st : St) : Option (Out × St) :=
  match runRegion P G E ro ops draw st with
  | some st' => some (.normal, st')
  | none => none
def canEnter (P : Program) (f : FuncId) : Bool :=
  match P.funcs[f]? with
  | some fn => fn.body.isSome && fn.name != "runtime.NumGoroutine"
  | none => false
def eRange (P : Program) (G : Nat → Option (List AV)) (E : Evs) (ro : Option Nat) (g : Operand) (params : Array Tmp) (assign body : Code) (st : St) : Option (Out × St) :=
  match ev G st.env g, ro with
  | some (.fn f first cap), none =>
    cond (canEnter P f)
    (match E.ca f (first ++ [.yld (st.heap.next + 1)] ++ cap)
      ((st.heap.alloc .dfr).alloc (.loop { ready := true, pending := none, env := st.env, params := params.toList, assign, body, dfr := st.heap.next })) with
    | some (_, H3) => match H3.get (st.heap.next + 1) with
      | some (.loop l) => match l.ready, l.pending with
        | true, none => some (.normal, ⟨st.env, H3.kill (st.heap.next + 1), .coll st.heap.next :: st.dfs⟩)
        | false, some .ret => some (.ret, ⟨st.env, H3.kill (st.heap.next + 1), .coll st.heap.next :: st.dfs⟩)
        | false, some (.exit x) => some (.exit x, ⟨st.env, H3.kill (st.heap.next + 1), .coll st.heap.next :: st.dfs⟩)
        | _, _ => none
      | _ => none
    | none => none) none
  | _, _ => none
def exec1 (P : Program) (G : Nat → Option (List AV)) (E : Evs) (ro : Option Nat) (c : Code) (st : St) : Option (Out × St) :=
  match c with
  | .skip => some (.normal, st)
  | .label _ => some (.normal, st)
  | .seq a b => eSeq E ro a b st
  | .cond c a b => eCond G E ro c a b st
  | .block id c => eBlock E ro id c st
  | .loop c => eLoop E ro c st
  | .scope c => E.ex ro c st
  | .exit id => some (.exit id, st)
  | .ret => some (.ret, st)
  | .region _ ops draw => eRegion P G E ro ops draw st
  | .rangeFunc g params assign body => eRange P G E ro g params assign body st
  | _ => none

/-- What is left to be called when a function is left. -/
def runDfs (E : Evs) : List ADef → AHeap → Option AHeap
  | [], H => some H
  | .call f args :: r, H => match E.cd f args H with
    | some (_, H') => runDfs E r H'
    | none => none
  | .coll id :: r, H => match H.get id with
    | some .dfr => runDfs E r (H.kill id)
    | _ => none
def resultsA (P : Program) (env : Env) (H : AHeap) : List ResultVar → Option (List AV)
  | [] => some []
  | .tmp t :: r => (resultsA P env H r).map (env.get t :: ·)
  | .cell a t :: r => match loadT P H t (env.get a), resultsA P env H r with
    | some v, some vs => some (v :: vs)
    | _, _ => none
def one (vs : List AV) : AV := match vs with | [v] => v | vs => .tup vs
def call1 (P : Program) (E : Evs) (f : FuncId) (args : List AV) (H : AHeap) : Option (AV × AHeap) :=
  match P.funcs[f]? with
  | some fn => match fn.body with
    | some c => match E.ex none c ⟨Env.ofArgs args (args.length + (fn.ntmps - args.length)), H, []⟩ with
      | some (.exit _, _) => none
      | some (_, st) => match runDfs E st.dfs st.heap with
        | some H' => (resultsA P st.env H' fn.results.toList).map fun vs => (one vs, H')
        | none => none
      | none => none
    | none => none
  | none => none

/-- Functions that are taken by contract. -/
abbrev Ext := FuncId → Option (List AV → AHeap → Option (AV × AHeap))

noncomputable def both (P : Program) (G : Nat → Option (List AV)) (X : Ext) (k : Nat) : Evs :=
  Nat.rec (motive := fun _ => Evs) ⟨fun _ _ _ => none, fun _ _ _ => none, fun _ _ _ => none⟩
    (fun _ E => ⟨fun ro c st => exec1 P G E ro c st, fun f args H => match X f with
      | some g => g args H
      | none => call1 P E f args H, fun f args H => call1 P E f args H⟩) k
noncomputable def exec (P : Program) (G : Nat → Option (List AV)) (X : Ext) (k : Nat) := (both P G X k).ex
noncomputable def call (P : Program) (G : Nat → Option (List AV)) (X : Ext) (k : Nat) := (both P G X k).ca
end Go.AM
