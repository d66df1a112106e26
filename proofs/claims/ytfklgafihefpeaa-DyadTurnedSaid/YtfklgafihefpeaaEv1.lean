/- An abstract evaluator for loaded Go functions, part 1: abstract values, the small syntax, what a step does. Generic: no program in it. -/
import Derived.Laws.OwnMore
import Derived.Laws.CopyRow
import Derived.Laws.CopyOwn
import Derived.Laws.Slices
import Derived.Laws.StructEq
import Derived.Laws.Small
import Derived.Laws.Cover3
import Derived.Laws.Shifts
import Derived.Laws.Concat
import Derived.Laws.Strings
import Derived.Laws.BytesArg
import Derived.Below
import Derived.Orders
import Derived.KernelRfl
set_option linter.unusedVariables false
set_option linter.unusedSimpArgs false
namespace Go.Ev

/-- What a slot may hold: slices by their content, owned memory by allocation site and generation. -/
inductive AV where
  | junk
  | undef
  | int (k : IntKind) (n : Int)
  | bool (b : Bool)
  | str (s : ByteArray)
  | agg (cs : List AV)
  | tup (vs : List AV)
  | sl (es : List (List AV))
  | nil
  | ptr (s g k : Nat)
  | eptr (s g sz i k : Nat)
  | view (s g sz n : Nat)
  | pcell (cs : List AV)
  | fn (f : Nat)
  | own (e sz : Nat) (es : List (List AV))
  | slN (es : List (List AV))
  | sub (s g sz off n : Nat)
  deriving Inhabited

inductive Blk where
  | box (cs : List AV)
  | arr (e sz : Nat) (es : List (List AV))
  | frz (e sz : Nat) (es : List (List AV))
  deriving Inhabited

abbrev Heap := Nat → Nat × Option Blk
abbrev Upds := List (Nat × Nat × Option Blk)
abbrev Kont := AV → Upds → Prop

def upd {α : Type} (f : Nat → α) (d : Nat) (v : α) : Nat → α := fun t => if t = d then v else f t

theorem upd_same {α : Type} (f : Nat → α) (d : Nat) (v : α) : upd f d v d = v := if_pos rfl
theorem upd_apply {α : Type} (f : Nat → α) (d : Nat) (v : α) (t : Nat) : upd f d v t = if t = d then v else f t := rfl

inductive Opd where
  | t (n : Nat)
  | c (a : AV)
  deriving Inhabited

/-- The kind of a struct's field that can be compared. -/
inductive FK where
  | i
  | b
  | s

inductive Head where
  | move
  | pick
  | alloc (z : List AV)
  | box
  | build (z : List AV) (ps : List (Nat × Nat))
  | buildSl (e sz : Nat)
  | load (sz : Option Nat)
  | store (n : Nat)
  | bin (op : BinOp)
  | binB (neg : Bool)
  | eqAgg (neg : Bool) (ks : List FK)
  | un (op : UnOp)
  | toInt (k : IntKind)
  | b2s
  | s2b
  | mkSl (e sz bytes : Nat) (z : List AV)
  | sliceS (lo hi : Bool)
  | sliceL (sz : Nat) (lo hi : Bool)
  | faddr (off : Nat)
  | field (off : Nat) (sz : Option Nat)
  | iaddr (sz : Nat)
  | index
  | extract (i : Nat)
  | call (f : Nat)
  | callv
  | lenS
  | lenL
  | app (e sz bytes : Nat)
  | copy (sz : Nat)
  | max
  | min
  | mkfn (f : Nat)
  | isNil (neg : Bool)
  | cap
  | stop
  deriving Inhabited

structure AO where
  dst : Option Nat
  head : Head
  args : List Opd
  guard : Option (Nat × Bool)
  deriving Inhabited

inductive ACode where
  | skip
  | region (ops : List AO)
  | draw (ops : List AO) (bef : List Nat)
  | seq (a b : ACode)
  | cond (c : Opd) (a b : ACode)
  | block (id : Nat) (a : ACode)
  | loop (a : ACode)
  | exit (id : Nat)
  | ret
  deriving Inhabited

inductive Ex where
  | normal
  | exit (id : Nat)
  | ret

structure St where
  env : Nat → AV
  H : Heap

def St.ev (st : St) : Opd → AV
  | .t n => st.env n
  | .c a => a

def updH (h : Heap) : Upds → Heap
  | [] => h
  | (s, gb) :: us => updH (upd h s gb) us

def St.app (st : St) (d : Option Nat) (v : AV) (us : Upds) : St :=
  ⟨match d with | some d => upd st.env d v | none => st.env, updH st.H us⟩

/-! ### small words -/
def takeAt (sz : Option Nat) (cs : List AV) (k : Nat) : Option AV :=
  match sz with
  | none => cs[k]?
  | some n => if k + n ≤ cs.length then some (.agg ((cs.drop k).take n)) else none

def setCells (cs : List AV) (k : Nat) : List AV → List AV
  | [] => cs
  | v :: vs => setCells (cs.set k v) (k + 1) vs

def cellsOf : AV → List AV
  | .agg cs => cs
  | v => [v]

/-- Is it the value of one cell, for sure? -/
def cellish : AV → Bool
  | .int .. | .bool _ | .str _ | .sl _ | .nil | .ptr .. | .eptr .. | .view .. | .pcell _ | .fn _ => true
  | _ => false

def AllLen (sz : Nat) (es : List (List AV)) : Prop := ∀ e ∈ es, e.length = sz

def bytesOfEs : List (List AV) → Option (List UInt8)
  | [] => some []
  | [.int .u8 n] :: r => (bytesOfEs r).map (UInt8.ofNat n.toNat :: ·)
  | _ => none

def esOfBytes (s : ByteArray) : List (List AV) := s.data.toList.map fun b => [.int .u8 b.toNat]

def someQ {α : Type} (x : Option α) (K : α → Prop) : Prop :=
  match x with
  | some a => K a
  | none => False

/-! ### reading owned memory -/
def loadQ (h : Heap) (sz : Option Nat) (p : AV) (K : Kont) : Prop :=
  match p with
  | .ptr s g k => match h s with
    | (g', some (.box cs)) => g = g' ∧ someQ (takeAt sz cs k) (K · [])
    | _ => False
  | .eptr s g esz i k => match h s with
    | (g', some (.arr _ sz' es)) => g = g' ∧ sz' = esz ∧ someQ es[i]? fun e => someQ (takeAt sz e k) (K · [])
    | (g', some (.frz _ sz' es)) => g = g' ∧ sz' = esz ∧ someQ es[i]? fun e => someQ (takeAt sz e k) (K · [])
    | _ => False
  | .pcell cs => someQ (takeAt sz cs 0) (K · [])
  | _ => False

/-- What is persistent: it holds no owned memory. -/
def Pers : AV → Bool
  | .int .. | .bool _ | .str _ | .sl _ | .fn _ | .nil => true
  | _ => false

/-- A slice that is nil is an empty one. -/
def denil : AV → AV
  | .nil => .sl []
  | v => v

def storeQ (h : Heap) (n : Nat) (p v : AV) (K : Kont) : Prop :=
  (cellsOf v).length = n ∧
  match p with
  | .ptr s g k => match h s with
    | (g', some (.box cs)) => g = g' ∧ (cellsOf v).all cellish = true ∧ k + n ≤ cs.length ∧ K .junk [(s, g, some (.box (setCells cs k (cellsOf v))))]
    | _ => False
  | .eptr s g esz i k => match h s with
    | (g', some (.arr e sz' es)) => g = g' ∧ sz' = esz ∧ ((cellsOf v).map denil).all Pers = true ∧ k + n ≤ esz ∧ someQ es[i]? fun x => K .junk [(s, g, some (.arr e sz' (es.set i (setCells x k ((cellsOf v).map denil)))))]
    | _ => False
  | _ => False

/-- A slice's content, for reading alone. -/
def readQ (h : Heap) (v : AV) (K : List (List AV) → Prop) : Prop :=
  match v with
  | .sl es => K es
  | .slN es => K es
  | .nil => K []
  | .view s g sz n => match h s with
    | (g', some (.arr _ sz' es)) => g = g' ∧ sz' = sz ∧ es.length = n ∧ K es
    | (g', some (.frz _ sz' es)) => g = g' ∧ sz' = sz ∧ es.length = n ∧ K es
    | _ => False
  | _ => False

/-- A value that may be handed on: what was owned is frozen. -/
def freezeQ (h : Heap) (v : AV) (K : Kont) : Prop :=
  match v with
  | .view s g sz n => match h s with
    | (g', some (.arr e sz' es)) => g = g' ∧ sz' = sz ∧ es.length = n ∧ K (.sl es) [(s, g, some (.frz e sz' es))]
    | (g', some (.frz _ sz' es)) => g = g' ∧ sz' = sz ∧ es.length = n ∧ K (.sl es) []
    | _ => False
  | .nil => K (.sl []) []
  | .int k n => K (.int k n) []
  | .bool b => K (.bool b) []
  | .str s => K (.str s) []
  | .sl es => K (.sl es) []
  | .fn f => K (.fn f) []
  | _ => False

def freezeLQ (h : Heap) : List AV → (List AV → Upds → Prop) → Prop
  | [], K => K [] []
  | v :: vs, K => freezeQ h v fun v' u => freezeLQ h vs fun vs' us => K (v' :: vs') (u ++ us)

/-- A value, or a struct's cells. -/
def freezeAQ (h : Heap) (v : AV) (K : Kont) : Prop :=
  match v with
  | .agg cs => freezeLQ h cs fun cs' us => K (.agg cs') us
  | v => freezeQ h v K

def freezeALQ (h : Heap) : List AV → (List AV → Upds → Prop) → Prop
  | [], K => K [] []
  | v :: vs, K => freezeAQ h v fun v' u => freezeALQ h vs fun vs' us => K (v' :: vs') (u ++ us)

/-- The same, but that a value that is nil stays so. -/
def freezeNQ (h : Heap) (v : AV) (K : Kont) : Prop :=
  match v with
  | .nil => K .nil []
  | v => freezeAQ h v K

def freezeNLQ (h : Heap) : List AV → (List AV → Upds → Prop) → Prop
  | [], K => K [] []
  | v :: vs, K => freezeNQ h v fun v' u => freezeNLQ h vs fun vs' us => K (v' :: vs') (u ++ us)

/-! ### arithmetic -/
def intBin (op : BinOp) (k : IntKind) (a b : Int) (K : AV → Prop) : Prop :=
  match op with
  | .add => K (.int k (k.wrap (a + b)))
  | .sub => K (.int k (k.wrap (a - b)))
  | .mul => K (.int k (k.wrap (a * b)))
  | .quo => b ≠ 0 ∧ K (.int k (k.wrap (a.tdiv b)))
  | .rem => b ≠ 0 ∧ K (.int k (a.tmod b))
  | .and => K (.int k (k.wrap (BitVec.ofInt k.bits a &&& BitVec.ofInt k.bits b).toNat))
  | .or => K (.int k (k.wrap (BitVec.ofInt k.bits a ||| BitVec.ofInt k.bits b).toNat))
  | .xor => K (.int k (k.wrap (BitVec.ofInt k.bits a ^^^ BitVec.ofInt k.bits b).toNat))
  | .andNot => K (.int k (k.wrap (BitVec.ofInt k.bits a &&& ~~~BitVec.ofInt k.bits b).toNat))
  | .eql => K (.bool (decide (a = b)))
  | .neq => K (.bool (decide (a ≠ b)))
  | .lss => K (.bool (decide (a < b)))
  | .leq => K (.bool (decide (a ≤ b)))
  | .gtr => K (.bool (decide (b < a)))
  | .geq => K (.bool (decide (b ≤ a)))
  | _ => False

def strBin (op : BinOp) (a b : ByteArray) (K : AV → Prop) : Prop :=
  match op with
  | .add => a.size + b.size ≤ 9223372036854775807 ∧ K (.str (a ++ b))
  | .eql => K (.bool (a.toList == b.toList))
  | .neq => K (.bool !(a.toList == b.toList))
  | .lss => K (.bool (Op.bytesLess a.toList b.toList))
  | _ => False

def binQ (op : BinOp) (x y : AV) (K : AV → Prop) : Prop :=
  match x, y with
  | .int k a, .int k' b => match op with
    | .shl => 0 ≤ b ∧ K (.int k (k.wrap (a * 2 ^ min b.toNat k.bits)))
    | .shr => 0 ≤ b ∧ K (.int k (a / 2 ^ min b.toNat k.bits))
    | op => k = k' ∧ intBin op k a b K
  | .str a, .str b => strBin op a b K
  | _, _ => False

def eqCells : List FK → List AV → List AV → Option Bool
  | [], [], [] => some true
  | .i :: ks, .int k a :: x, .int k' b :: y => if k = k' then (eqCells ks x y).map (decide (a = b) && ·) else none
  | .b :: ks, .bool a :: x, .bool b :: y => (eqCells ks x y).map ((a == b) && ·)
  | .s :: ks, .str a :: x, .str b :: y => (eqCells ks x y).map ((a.toList == b.toList) && ·)
  | _, _, _ => none

def unQ (op : UnOp) (x : AV) (K : AV → Prop) : Prop :=
  match op, x with
  | .neg, .int k n => K (.int k (k.wrap (0 - n)))
  | .not, .bool b => K (.bool !b)
  | .xor, .int k n => K (.int k (k.wrap (BitVec.ofInt k.bits (if k.signed then -1 else k.max) ^^^ BitVec.ofInt k.bits n).toNat))
  | _, _ => False

def pickV (b : Bool) : AV → AV → AV
  | .bool x, .bool y => .bool (if b then x else y)
  | x, y => if b then x else y

def recvQ (h : Heap) (d : Nat) (r : AV) (us : Upds) (K : Kont) : Prop :=
  match r with
  | .own e sz es => K (.view d ((h d).1 + 1) sz es.length) (us ++ [(d, (h d).1 + 1, some (.arr e sz es))])
  | r => K r us

def allocQ (h : Heap) (d : Nat) (b : Blk) (v : Nat → AV) (K : Kont) : Prop :=
  K (v ((h d).1 + 1)) [(d, (h d).1 + 1, some b)]

def appQ (h : Heap) (d e sz bytes : Nat) (x y : AV) (K : Kont) : Prop :=
  readQ h y fun es2 => AllLen sz es2 ∧
  match x with
  | .nil => es2.length * bytes ≤ 140737488355328 ∧ es2.length ≤ 1099511627776 ∧ K (.view d ((h d).1 + 1) sz es2.length) [(d, (h d).1 + 1, some (.arr e sz es2))]
  | .view s g sz0 n => match h s with
    | (g', some (.arr e' sz' es)) => g = g' ∧ sz0 = sz ∧ sz' = sz ∧ e' = e ∧ es.length = n ∧ (n + es2.length) * bytes ≤ 140737488355328 ∧ n + es2.length ≤ 1099511627776 ∧
        K (.view s (g + 1) sz (n + es2.length)) [(s, g + 1, some (.arr e sz (es ++ es2)))]
    | _ => False
  | _ => False

def copyQ (h : Heap) (sz : Nat) (x y : AV) (K : Kont) : Prop :=
  readQ h y fun es2 => AllLen sz es2 ∧
  match x with
  | .view s g sz0 n => match h s with
    | (g', some (.arr e sz' es)) => g = g' ∧ sz0 = sz ∧ sz' = sz ∧ es.length = n ∧
        K (.int .i64 (Nat.min es2.length n : Nat)) [(s, g, some (.arr e sz (es2.take n ++ es.drop es2.length)))]
    | _ => False
  | _ => False

def buildGo (z : List AV) : List (Nat × Nat) → List AV → (List AV → Prop) → Prop
  | [], [], K => K z
  | (off, size) :: ps, v :: vs, K => (cellsOf v).length = size ∧ (cellsOf v).all cellish = true ∧ off + size ≤ z.length ∧ buildGo (setCells z off (cellsOf v)) ps vs K
  | _, _, _ => False

def loOf (lo : Bool) (xs : List AV) : AV × List AV := if lo then (xs.headD .junk, xs.tail) else (.int .i64 0, xs)

def sliceQ (n : Nat) (lo hi : Bool) (xs : List AV) (K : Nat → Nat → Prop) : Prop :=
  let l := loOf lo xs
  let h := if hi then l.2.headD .junk else .int .i64 n
  match l.1, h with
  | .int _ l, .int _ h => 0 ≤ l ∧ l ≤ h ∧ h ≤ n ∧ K l.toNat h.toNat
  | _, _ => False

/-- A slice's part otherwise: to be written; or its head alone, it being one's own; or of nothing. -/
def sliceAlt (h : Heap) (sz : Nat) (lo hi : Bool) (x : AV) (xs : List AV) (K : Kont) : Prop :=
  match x with
  | .view s g sz' n => sz' = sz ∧ sliceQ n lo hi xs fun l m => (l < m ∧ K (.sub s g sz l (m - l)) []) ∨ (l = 0 ∧ match h s with
      | (g', some (.arr e sz2 es)) => g = g' ∧ sz2 = sz ∧ es.length = n ∧ K (.view s (g + 1) sz m) [(s, g + 1, some (.arr e sz (es.take m)))]
      | _ => False)
  | .nil => sliceQ 0 lo hi xs fun _ _ => K .nil []
  | _ => False

/-- A call that writes a part of a slice of one's own. -/
def callIO (F : Nat → List AV → AV → Prop) (f : Nat) (xs : List AV) (h : Heap) (K : Kont) : Prop :=
  match xs with
  | .sub s g sz off n :: xs => match h s with
    | (g', some (.arr e sz' es)) => g = g' ∧ sz' = sz ∧ off + n ≤ es.length ∧ freezeALQ h xs fun ys us => (us.all fun u => u.1 != s) = true ∧
        ∃ r es', F f (.tup [.own e sz es, .ptr off n 0] :: ys) (.tup [r, .own e sz es']) ∧ K r (us ++ [(s, g, some (.arr e sz es'))])
    | _ => False
  | _ => False

/-! ### a step. F: what is known of calls; d: the slot that is written, for new memory's site -/
def stepH (F : Nat → List AV → AV → Prop) (hd : Head) (avs : List AV) (h : Heap) (d : Nat) (K : Kont) : Prop :=
  match hd, avs with
  | .move, [x] => K x []
  | .pick, [.bool b, x, y] => K (pickV b x y) []
  | .alloc z, [] => allocQ h d (.box z) (fun g => .ptr d g 0) K
  | .box, [x] => (cellsOf x).all cellish = true ∧ allocQ h d (.box (cellsOf x)) (fun g => .ptr d g 0) K
  | .build z ps, xs => freezeNLQ h xs fun xs us => buildGo z ps xs fun cs => K (.agg cs) us
  | .buildSl e sz, xs => freezeALQ h xs fun xs us => (xs.all fun x => (cellsOf x).length == sz && (cellsOf x).all cellish) = true ∧
      K (.view d ((h d).1 + 1) sz xs.length) (us ++ [(d, (h d).1 + 1, some (.arr e sz (xs.map cellsOf)))])
  | .load sz, [p] => loadQ h sz p K
  | .store n, [p, v] => storeQ h n p v K
  | .bin op, [x, y] => binQ op x y (K · [])
  | .binB neg, [.bool a, .bool b] => K (.bool (if neg then !(a == b) else a == b)) []
  | .eqAgg neg ks, [.agg x, .agg y] => someQ (eqCells ks x y) fun b => K (.bool (if neg then !b else b)) []
  | .un op, [x] => unQ op x (K · [])
  | .toInt k, [.int _ n] => K (.int k (k.wrap n)) []
  | .b2s, [x] => readQ h x fun es => someQ (bytesOfEs es) fun l => K (.str ⟨l.toArray⟩) []
  | .s2b, [.str s] => K (.sl (esOfBytes s)) []
  | .mkSl e sz bytes z, [.int _ n, .int _ c] => 0 ≤ n ∧ n ≤ c ∧ (bytes : Int) * c ≤ 140737488355328 ∧ c ≤ 1099511627776 ∧
      allocQ h d (.arr e sz (List.replicate n.toNat z)) (fun g => .view d g sz n.toNat) K
  | .sliceS lo hi, .str s :: xs => sliceQ s.size lo hi xs fun l h => K (.str (s.extract l h)) []
  | .sliceL sz lo hi, x :: xs => (freezeQ h x fun x us => match x with
      | .sl es => AllLen sz es ∧ sliceQ es.length lo hi xs fun l h => K (.sl ((es.take h).drop l)) us
      | _ => False) ∨ sliceAlt h sz lo hi x xs K
  | .faddr off, [p] => match p with
      | .ptr s g k => K (.ptr s g (k + off)) []
      | .eptr s g sz i k => K (.eptr s g sz i (k + off)) []
      | .pcell cs => K (.pcell (cs.drop off)) []
      | _ => False
  | .field off sz, [.agg cs] => someQ (takeAt sz cs off) (K · [])
  | .iaddr sz, [x, .int _ i] => 0 ≤ i ∧ match x with
      | .sl es => AllLen sz es ∧ someQ es[i.toNat]? fun e => K (.pcell e) []
      | .view s g sz' n => sz' = sz ∧ i < n ∧ K (.eptr s g sz i.toNat 0) []
      | .sub s g sz' off n => sz' = sz ∧ i < n ∧ K (.eptr s g sz (off + i.toNat) 0) []
      | _ => False
  | .index, [.str s, .int _ i] => 0 ≤ i ∧ someQ s.data[i.toNat]? fun b => K (.int .u8 b.toNat) []
  | .extract i, [.tup vs] => someQ vs[i]? (K · [])
  | .call f, xs => (freezeALQ h xs fun xs us => ∃ r, F f xs r ∧ recvQ h d r us K) ∨ (freezeNLQ h xs fun xs us => ∃ r, F f xs r ∧ recvQ h d r us K) ∨ callIO F f xs h K
  | .callv, .fn f :: xs => freezeALQ h xs fun xs us => ∃ r, F f xs r ∧ recvQ h d r us K
  | .lenS, [.str s] => K (.int .i64 s.size) []
  | .lenL, [x] => match x with
      | .sl es => K (.int .i64 es.length) []
      | .nil => K (.int .i64 0) []
      | .view _ _ _ n => K (.int .i64 n) []
      | _ => False
  | .app e sz bytes, [x, y] => appQ h d e sz bytes x y K
  | .copy sz, [x, y] => copyQ h sz x y K
  | .max, [.int k a, .int k' b] => k = k' ∧ K (.int k (if b > a then b else a)) []
  | .min, [.int k a, .int k' b] => k = k' ∧ K (.int k (if b < a then b else a)) []
  | .mkfn f, [] => K (.fn f) []
  | .isNil neg, [.slN _, .nil] => K (.bool neg) []
  | .isNil neg, [.nil, .nil] => K (.bool (!neg)) []
  | .cap, [.nil] => K (.int .i64 0) []
  | _, _ => False

/-- One operation, its guard asked. -/
def stepG (F : Nat → List AV → AV → Prop) (o : AO) (st : St) (K : St → Prop) : Prop :=
  match o.guard with
  | none => stepH F o.head (o.args.map st.ev) st.H (o.dst.getD 0) fun v us => K (st.app o.dst v us)
  | some (t, want) => match st.env t with
    | .bool b => if b = want then stepH F o.head (o.args.map st.ev) st.H (o.dst.getD 0) fun v us => K (st.app o.dst v us) else K (st.app o.dst .undef [])
    | .undef => K (st.app o.dst .undef [])
    | _ => False

def RunOps (F : Nat → List AV → AV → Prop) : List AO → (St → Prop) → St → Prop
  | [], Q, st => Q st
  | o :: os, Q, st => stepG F o st fun st => RunOps F os Q st

end Go.Ev
