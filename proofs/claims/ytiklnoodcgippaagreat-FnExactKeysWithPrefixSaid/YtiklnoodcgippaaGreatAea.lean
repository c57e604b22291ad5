/- The abstract evaluator: what the functions of this seat compute, over a plain heap of lists; no condition. What it means that a plain heap of lists tells a world's memory, and the two steps that keep it: a new block, a store. The steps that keep the telling of a memory: a new block, a store into a block of the call's own, an append that grows or not. Each operation of the model does what the abstract evaluator computes; no condition. Each operation of the model does what the abstract evaluator computes (stores, arithmetic, slices); no condition. Each operation of the model does what the abstract evaluator computes (the other ones); no condition. Each operation of the model does what the abstract evaluator computes (rows, slices, indices); no condition. Each operation of the model does what the abstract evaluator computes (slices, indices, append, copy); no condition. Each operation of the model does what the abstract evaluator computes (append, copy, and all of them in one statement); no condition. Each operation of the model does what the abstract evaluator computes: all of them in one statement; no condition. -/
import Derived.Below
import Derived.Laws.AppendOwn
import Derived.Orders
import Derived.LoopN
import Derived.KernelRfl
import Derived.Laws.Tables
import Derived.Laws.Append
import Derived.Laws.NewFold
import Derived.Laws.Strings
import Derived.Laws.BytesString
import Derived.Great.BuildSlice
import Derived.Laws.MakeOwn
import Derived.Lib.Strings
set_option linter.unusedSimpArgs false
set_option linter.unusedVariables false
set_option linter.unusedSectionVars false
set_option linter.unusedVariables false
namespace Go.AE

structure Blk where
  cells : List Value
  es : Nat

structure AH where
  bs : List (Option Blk)
  lo : Nat

namespace AH
def get (H : AH) (i : Nat) : Option Blk := (H.bs[i]?).join
def size (H : AH) : Nat := H.bs.length
def alloc (H : AH) (b : Blk) : AH := ⟨H.bs ++ [some b], H.lo⟩
def put (H : AH) (i : Nat) (b : Option Blk) : AH := ⟨H.bs.set i b, H.lo⟩
end AH

def splice (cs : List Value) (off : Nat) (vs : List Value) : List Value := cs.take off ++ vs ++ cs.drop (off + vs.length)

def AH.read1 (H : AH) (a : Addr) : Option Value :=
  match a with
  | ⟨i, o, none⟩ => (match H.get i with | some b => b.cells[o]? | none => none)
  | _ => none

def AH.readN (H : AH) (a : Addr) (n : Nat) : Option (List Value) :=
  match a with
  | ⟨i, o, none⟩ => (match H.get i with | some b => if o + n ≤ b.cells.length then some ((b.cells.drop o).take n) else none | none => none)
  | _ => none

def AH.write (H : AH) (a : Addr) (vs : List Value) : Option AH :=
  match a with
  | ⟨i, o, none⟩ => (match H.get i with
    | some b => if H.lo ≤ i ∧ o + vs.length ≤ b.cells.length ∧ vs.all Value.oneCell' = true then some (H.put i (some ⟨splice b.cells o vs, b.es⟩)) else none
    | none => none)
  | _ => none

abbrev T := Nat → Value
def T.up (t : T) (d : Nat) (v : Value) : T := fun i => if i = d then v else t i
def T.upO (t : T) (d : Option Nat) (v : Value) : T := match d with | some d => t.up d v | none => t
def T.init (args : List Value) : T := fun i => args.getD i undef
def ev (t : T) : Operand → Value
  | .tmp i => t i
  | .const v => v
  | .func f => .func (.func f) #[] #[]
  | .global _ => undef

inductive MOp where
  | mv (x : Operand)
  | pick (c a b : Operand)
  | alloc (zero : List Value)
  | box (x : Operand)
  | build (zero : Array Value) (places : Array (Nat × Nat)) (parts : List (Nat × Operand))
  | buildSlice (es len : Nat) (zero : Array Value) (parts : List (Nat × Operand))
  | load (agg : Option Nat) (a : Operand)
  | store (n : Nat) (a x : Operand)
  | nilCheck (x : Operand)
  | bin (kd : Nat) (cst : Bool) (op : BinOp) (x y : Operand)
  | un (op : UnOp) (x : Operand)
  | conv (k : IntKind) (x : Operand)
  | bytesToStr (x : Operand)
  | mkFunc (fn : Fn) (first captured : List Operand)
  | makeSlice (es bytes : Nat) (zero : Array Value) (len cap : Operand)
  | sliceStr (x : Operand) (lo hi : Option Operand)
  | sliceSl (es : Nat) (x : Operand) (lo hi : Option Operand)
  | fieldAddr (off : Nat) (x : Operand)
  | field (agg : Option Nat) (off : Nat) (x : Operand)
  | indexAddr (es : Nat) (x i : Operand)
  | indexStr (x i : Operand)
  | extract (x : Operand) (i : Nat)
  | len (str : Bool) (x : Operand)
  | append (es bytes : Nat) (s x : Operand)
  | copy (es : Nat) (d s : Operand)
  | min2 (x y : Operand)
  | max2 (x y : Operand)
  | call (f : Operand) (args : List Operand)

structure MO where
  dst : Option Nat
  op : MOp
  guard : Option (Nat × Bool)

inductive MC where
  | skip
  | ops (l : List MO)
  | draw (l : List MO) (ps : List (Nat × Nat))
  | seq (a b : MC)
  | cond (c : Operand) (a b : MC)
  | block (id : Nat) (b : MC)
  | loop (b : MC)
  | exit (id : Nat)
  | ret

inductive MRes where
  | tmp (t : Nat)
  | cell (agg : Option Nat) (a : Nat)

structure MF where
  nt : Nat
  body : MC
  res : List MRes

/-! ### operations on values -/

def opLoad (agg : Option Nat) (p : Value) (H : AH) : Option Value :=
  match p with
  | .pointer (some a) => (match agg with
    | none => H.read1 a
    | some n => (match H.readN a n with | some l => some (.agg l.toArray) | none => none))
  | _ => none

def opStore (n : Nat) (p x : Value) (H : AH) : Option AH :=
  match p with
  | .pointer (some a) => if x.cells.size = n then H.write a x.cells.toList else none
  | _ => none

def opNew (es : Nat) (cs : List Value) (H : AH) : Value × AH := (.pointer (some ⟨H.size, 0, none⟩), H.alloc ⟨cs, es⟩)

def opIntBin (op : BinOp) (k : IntKind) (a b : Int) : Option Value :=
  match op with
  | .add => some (.int k (k.wrap (a + b)))
  | .sub => some (.int k (k.wrap (a - b)))
  | .mul => some (.int k (k.wrap (a * b)))
  | .quo => if b = 0 then none else some (.int k (k.wrap (a.tdiv b)))
  | .rem => if b = 0 then none else some (.int k (a.tmod b))
  | .and => some (.int k (k.wrap (BitVec.ofInt k.bits a &&& BitVec.ofInt k.bits b).toNat))
  | .or => some (.int k (k.wrap (BitVec.ofInt k.bits a ||| BitVec.ofInt k.bits b).toNat))
  | .xor => some (.int k (k.wrap (BitVec.ofInt k.bits a ^^^ BitVec.ofInt k.bits b).toNat))
  | .andNot => some (.int k (k.wrap (BitVec.ofInt k.bits a &&& ~~~BitVec.ofInt k.bits b).toNat))
  | .eql => some (.bool (a == b))
  | .neq => some (.bool (a != b))
  | .lss => some (.bool (a < b))
  | .leq => some (.bool (a ≤ b))
  | .gtr => some (.bool (a > b))
  | .geq => some (.bool (a ≥ b))
  | _ => none

def opStrBin (op : BinOp) (a b : ByteArray) : Option Value :=
  match op with
  | .add => if a.size + b.size ≤ 4611686018427387904 then some (.string (a ++ b)) else none
  | .eql => some (.bool (a.data.toList == b.data.toList))
  | .neq => some (.bool !(a.data.toList == b.data.toList))
  | .lss => some (.bool (Op.bytesLess a.data.toList b.data.toList))
  | .leq => some (.bool (Op.bytesLess a.data.toList b.data.toList || a.data.toList == b.data.toList))
  | .gtr => some (.bool !(Op.bytesLess a.data.toList b.data.toList || a.data.toList == b.data.toList))
  | .geq => some (.bool !(Op.bytesLess a.data.toList b.data.toList))
  | _ => none

def eqBool (x y : Value) : Option Bool := match x with | .bool a => (match y with | .bool b => some (a == b) | _ => none) | _ => none
def eqSlice (x y : Value) : Option Bool :=
  match x with
  | .slice none _ _ => (match y with | .slice b _ _ => some b.isNone | _ => none)
  | .slice (some _) _ _ => (match y with | .slice none _ _ => some false | _ => none)
  | _ => none
def eqIface (cst : Bool) (x y : Value) : Option Bool :=
  match x with
  | .nilIface => (match y with | .nilIface => if cst then some true else none | .iface _ _ => some false | _ => none)
  | .iface _ _ => (match y with | .nilIface => some false | _ => none)
  | _ => none
def eqPtr (x y : Value) : Option Bool :=
  match x with
  | .pointer none => (match y with | .pointer b => some b.isNone | _ => none)
  | .pointer (some _) => (match y with | .pointer none => some false | _ => none)
  | _ => none
def eqFunc (x y : Value) : Option Bool :=
  match x with
  | .nilFunc => (match y with | .nilFunc => some true | .func _ _ _ => some false | _ => none)
  | .func _ _ _ => (match y with | .nilFunc => some false | _ => none)
  | _ => none

/-- '==' of what is no number and no string; kd: 1 bools, 2 slices, 3 interfaces, 4 pointers, 5 functions. -/
def opEq (kd : Nat) (cst : Bool) (x y : Value) : Option Bool :=
  match kd with
  | 1 => eqBool x y
  | 2 => eqSlice x y
  | 3 => eqIface cst x y
  | 4 => eqPtr x y
  | 5 => eqFunc x y
  | _ => none

def opBin (kd : Nat) (cst : Bool) (op : BinOp) (x y : Value) : Option Value :=
  match x, y with
  | .int k a, .int k' b => (match op with
    | .shl => if b < 0 then none else some (.int k (k.wrap (a * 2 ^ (min b.toNat k.bits))))
    | .shr => if b < 0 then none else some (.int k (a.fdiv (2 ^ (min b.toNat k.bits))))
    | _ => if k = k' then opIntBin op k a b else none)
  | .string a, .string b => opStrBin op a b
  | x, y => (match op with
    | .eql => (match opEq kd cst x y with | some b => some (.bool b) | none => none)
    | .neq => (match opEq kd cst x y with | some b => some (.bool !b) | none => none)
    | _ => none)

def opUn (op : UnOp) (x : Value) : Option Value :=
  match op, x with
  | .neg, .int k n => some (.int k (k.wrap (0 - n)))
  | .not, .bool b => some (.bool !b)
  | _, _ => none

def opConv (k : IntKind) (x : Value) : Option Value :=
  match x with
  | .int _ n => some (.int k (k.wrap n))
  | _ => none

def bytesOf : List Value → Option (List UInt8)
  | [] => some []
  | .int .u8 n :: r => (match bytesOf r with | some l => some (UInt8.ofNat n.toNat :: l) | none => none)
  | _ => none

def opBytesToStr (x : Value) (H : AH) : Option Value :=
  match x with
  | .slice none _ _ => some (.string ByteArray.empty)
  | .slice (some a) n _ => (match H.readN a n with
    | some l => (match bytesOf l with | some bs => some (.string ⟨bs.toArray⟩) | none => none)
    | none => none)
  | _ => none

def zerosA (zero : Array Value) (n : Nat) : List Value := (List.range n).map (fun i => zero[i % zero.size]!)

def opMakeSlice (es bytes : Nat) (zero : Array Value) (l c : Value) (H : AH) : Option (Value × AH) :=
  match l, c with
  | .int _ l, .int _ c =>
    if 0 ≤ l ∧ l ≤ c ∧ c ≤ 1099511627776 ∧ bytes ≤ 256 then
      some (.slice (some ⟨H.size, 0, none⟩) l.toNat c.toNat, H.alloc ⟨zerosA zero (c.toNat * es), es⟩)
    else none
  | _, _ => none

def bound (x : Option Value) (d : Nat) : Option Int :=
  match x with
  | none => some d
  | some (.int _ n) => some n
  | some _ => none

def opSliceStr (x : Value) (lo hi : Option Value) : Option Value :=
  match x with
  | .string s => (match bound lo 0, bound hi s.size with
    | some l, some h => if 0 ≤ l ∧ l ≤ h ∧ h ≤ s.size then some (.string (s.extract l.toNat h.toNat)) else none
    | _, _ => none)
  | _ => none

def opSliceSl (es : Nat) (x : Value) (lo hi : Option Value) (H : AH) : Option Value :=
  match x with
  | .slice a n c => (match bound lo 0, bound hi n with
    | some l, some h => if 0 ≤ l ∧ l ≤ h ∧ h ≤ c then
        (match a with
        | none => some (.slice none (h.toNat - l.toNat) (c - l.toNat))
        | some ⟨i, o, none⟩ => if c = 0 then some (.slice (some ⟨i, o, none⟩) 0 0) else
          (match H.get i with
          | some b => if b.es = es then some (.slice (some ⟨i, o + l.toNat * es, none⟩) (h.toNat - l.toNat) (c - l.toNat)) else none
          | none => none)
        | _ => none)
      else none
    | _, _ => none)
  | _ => none

def opFieldAddr (off : Nat) (x : Value) : Option Value :=
  match x with
  | .pointer (some ⟨i, o, none⟩) => some (.pointer (some ⟨i, o + off, none⟩))
  | _ => none

def opField (agg : Option Nat) (off : Nat) (x : Value) : Option Value :=
  match x with
  | .agg cs => (match agg with
    | some n => some (.agg (cs.extract off (off + n)))
    | none => cs[off]?)
  | _ => none

def opIndexAddr (es : Nat) (x i : Value) : Option Value :=
  match x, i with
  | .slice (some ⟨b, o, none⟩) n _, .int _ i => if 0 ≤ i ∧ i < n then some (.pointer (some ⟨b, o + i.toNat * es, none⟩)) else none
  | _, _ => none

def opIndexStr (x i : Value) : Option Value :=
  match x, i with
  | .string s, .int _ i => if 0 ≤ i then (match s.data[i.toNat]? with | some b => some (.int .u8 b.toNat) | none => none) else none
  | _, _ => none

def opExtract (x : Value) (i : Nat) : Option Value :=
  match x with
  | .tuple vs => vs[i]?
  | _ => none

def opLen (str : Bool) (x : Value) : Option Value :=
  match str, x with
  | true, .string s => some (.int .i64 s.size)
  | false, .slice _ n _ => some (.int .i64 n)
  | _, _ => none

/-- what an append or a copy reads: how many elements, and the beginning of their cells -/
def srcLen (x : Value) : Option Nat :=
  match x with
  | .slice _ n _ => some n
  | .string s => some s.size
  | _ => none
def srcCells (es n : Nat) (x : Value) (H : AH) : Option (List Value) :=
  match x with
  | .slice (some a) _ _ => H.readN a (n * es)
  | .slice none _ _ => some []
  | .string s => if es = 1 then some ((s.data.toList.take n).map fun b => .int .u8 b.toNat) else none
  | _ => none

def opAppend (es bytes : Nat) (s x : Value) (H : AH) : Option (Value × AH) :=
  match s, srcLen x with
  | .slice base n c, some m => (match srcCells es m x H with
    | none => none
    | some new =>
      if n + m ≤ c then
        (match base with
        | none => if n + m = 0 then some (.slice none 0 0, H) else none
        | some a => (match H.write ⟨a.block, a.off + n * es, a.spot⟩ new with
          | some H' => some (.slice (some a) (n + m) c, H')
          | none => none))
      else if n + m ≤ 1099511627776 ∧ bytes ≤ 64 ∧ new.all Value.oneCell' = true then
        (match base with
        | none => if n = 0 then some (.slice (some ⟨H.size, 0, none⟩) m m, H.alloc ⟨new, es⟩) else none
        | some ⟨i, o, none⟩ => (match H.get i, H.readN ⟨i, o, none⟩ (n * es) with
          | some b, some old => if H.lo ≤ i ∧ b.es = es then
              some (.slice (some ⟨H.size, 0, none⟩) (n + m) (n + m), (H.put i none).alloc ⟨old ++ new, es⟩) else none
          | _, _ => none)
        | _ => none)
      else none)
  | _, _ => none

def opCopy (es : Nat) (d s : Value) (H : AH) : Option (Value × AH) :=
  match d, srcLen s with
  | .slice base n _, some m => (match srcCells es (min m n) s H with
    | none => none
    | some new => (match base with
      | none => some (.int .i64 (min m n : Nat), H)
      | some a => (match H.write a new with | some H' => some (.int .i64 (min m n : Nat), H') | none => none)))
  | _, _ => none

def opMin (x y : Value) : Option Value :=
  match x, y with | .int k a, .int k' b => if k = k' then some (.int k (if b < a then b else a)) else none | _, _ => none
def opMax (x y : Value) : Option Value :=
  match x, y with | .int k a, .int k' b => if k = k' then some (.int k (if a < b then b else a)) else none | _, _ => none

/-- An operation that is no call. -/
def aop (o : MOp) (e : Operand → Value) (H : AH) : Option (Value × AH) :=
  match o with
  | .mv x => some (e x, H)
  | .pick c a b => (match e c with | .bool true => some (e a, H) | .bool false => some (e b, H) | _ => none)
  | .alloc z => some (opNew 0 z H)
  | .box x => some (opNew 0 (e x).cells.toList H)
  | .build z ps l => (match Instr.fill (ps[·]?) z (l.map fun p => (p.1, e p.2)) with | some cs => some (.agg cs, H) | none => none)
  | .buildSlice es n z l => (match Instr.fill (fun i => some (i * es, es)) ((Array.range (n * es)).map (z[· % z.size]!)) (l.map fun p => (p.1, e p.2)) with
    | some cs => some (.slice (some ⟨H.size, 0, none⟩) n n, H.alloc ⟨cs.toList, es⟩)
    | none => none)
  | .load g a => (match opLoad g (e a) H with | some v => some (v, H) | none => none)
  | .store n a x => (match opStore n (e a) (e x) H with | some H' => some (undef, H') | none => none)
  | .nilCheck x => (match e x with | .pointer (some a) => some (.pointer (some a), H) | _ => none)
  | .bin kd cst op x y => (match opBin kd cst op (e x) (e y) with | some v => some (v, H) | none => none)
  | .un op x => (match opUn op (e x) with | some v => some (v, H) | none => none)
  | .conv k x => (match opConv k (e x) with | some v => some (v, H) | none => none)
  | .bytesToStr x => (match opBytesToStr (e x) H with | some v => some (v, H) | none => none)
  | .mkFunc fn a b => some (.func fn (a.map e).toArray (b.map e).toArray, H)
  | .makeSlice es by_ z l c => opMakeSlice es by_ z (e l) (e c) H
  | .sliceStr x l h => (match opSliceStr (e x) (l.map e) (h.map e) with | some v => some (v, H) | none => none)
  | .sliceSl es x l h => (match opSliceSl es (e x) (l.map e) (h.map e) H with | some v => some (v, H) | none => none)
  | .fieldAddr off x => (match opFieldAddr off (e x) with | some v => some (v, H) | none => none)
  | .field g off x => (match opField g off (e x) with | some v => some (v, H) | none => none)
  | .indexAddr es x i => (match opIndexAddr es (e x) (e i) with | some v => some (v, H) | none => none)
  | .indexStr x i => (match opIndexStr (e x) (e i) with | some v => some (v, H) | none => none)
  | .extract x i => (match opExtract (e x) i with | some v => some (v, H) | none => none)
  | .len q x => (match opLen q (e x) with | some v => some (v, H) | none => none)
  | .append es by_ s x => opAppend es by_ (e s) (e x) H
  | .copy es d s => opCopy es (e d) (e s) H
  | .min2 x y => (match opMin (e x) (e y) with | some v => some (v, H) | none => none)
  | .max2 x y => (match opMax (e x) (e y) with | some v => some (v, H) | none => none)
  | .call _ _ => none

abbrev CallF := Nat → List Value → AH → Option (Value × AH)

/-- An operation, a call or not. -/
def aopc (call : CallF) (o : MOp) (e : Operand → Value) (H : AH) : Option (Value × AH) :=
  match o with
  | .call f args => (match e f with
    | .func (.func g) first captured => call g (first.toList ++ args.map e ++ captured.toList) H
    | _ => none)
  | o => aop o e H

def wantedA (g : Option (Nat × Bool)) (t : T) : Bool :=
  match g with
  | none => true
  | some (j, b) => (match t j with | .bool c => c == b | _ => false)

def stepO (call : CallF) (o : MO) (t : T) (H : AH) : Option (T × AH) :=
  if wantedA o.guard t then
    (match aopc call o.op (ev t) H with | some (v, H') => some (t.upO o.dst v, H') | none => none)
  else some (t.upO o.dst undef, H)

def runOps (call : CallF) : List MO → T → AH → Option (T × AH)
  | [], t, H => some (t, H)
  | o :: r, t, H => (match stepO call o t H with | some (t', H') => runOps call r t' H' | none => none)

/-- The states of a list of operations, the first one and that behind each. -/
def runTr (call : CallF) : List MO → T → AH → Option (List (T × AH))
  | [], t, H => some [(t, H)]
  | o :: r, t, H => (match stepO call o t H with
    | some (t', H') => (match runTr call r t' H' with | some l => some ((t, H) :: l) | none => none)
    | none => none)

/-- the block that an operation reads, or makes -/
def readsBlk (o : MOp) (e : Operand → Value) (H : AH) : Option Nat :=
  match o with
  | .load _ a => (match e a with | .pointer (some p) => some p.block | _ => none)
  | .sliceSl _ x _ _ => (match e x with | .slice (some p) _ _ => some p.block | _ => none)
  | .bytesToStr x => (match e x with | .slice (some p) _ _ => some p.block | _ => none)
  | .alloc _ | .box _ | .buildSlice _ _ _ _ | .makeSlice _ _ _ _ _ => some H.size
  | _ => none

/-- What operation i reads or makes is not turned by operation e, whose order to i is open. -/
def ckPair (l : List MO) (tr : List (T × AH)) (p : Nat × Nat) : Prop :=
  match l[p.1]?, tr[p.1]?, tr[p.2]?, tr[p.2 + 1]? with
  | some o, some s, some a, some b => ∀ k, readsBlk o.op (ev s.1) s.2 = some k → b.2.get k = a.2.get k
  | _, _, _, _ => False

inductive AX where
  | normal
  | exit (id : Nat)
  | ret
  deriving DecidableEq

abbrev RC := Option (AX × T × AH)

def iter (f : T → AH → RC) : Nat → T → AH → RC
  | 0, _, _ => none
  | n + 1, t, H => (match f t H with
    | some (.normal, t', H') => iter f n t' H'
    | r => r)

open Classical in
noncomputable def exec (n : Nat) (call : CallF) : MC → T → AH → RC
  | .skip, t, H => some (.normal, t, H)
  | .ops l, t, H => (match runOps call l t H with | some (t', H') => some (.normal, t', H') | none => none)
  | .draw l ps, t, H => (match runTr call l t H with
    | some tr => if ∀ p ∈ ps, ckPair l tr p then (match tr.getLast? with | some (t', H') => some (.normal, t', H') | none => none) else none
    | none => none)
  | .seq a b, t, H => (match exec n call a t H with
    | some (.normal, t', H') => exec n call b t' H'
    | r => r)
  | .cond c a b, t, H => (match ev t c with
    | .bool true => exec n call a t H
    | .bool false => exec n call b t H
    | _ => none)
  | .block id b, t, H => (match exec n call b t H with
    | some (.exit j, t', H') => if j = id then some (.normal, t', H') else some (.exit j, t', H')
    | r => r)
  | .loop b, t, H => iter (exec n call b) n t H
  | .exit id, t, H => some (.exit id, t, H)
  | .ret, t, H => some (.ret, t, H)

def resOf (r : MRes) (t : T) (H : AH) : Option Value :=
  match r with
  | .tmp i => some (t i)
  | .cell g a => opLoad g (t a) H

def resAll : List MRes → T → AH → Option (List Value)
  | [], _, _ => some []
  | r :: rs, t, H => (match resOf r t H, resAll rs t H with | some v, some vs => some (v :: vs) | _, _ => none)

def tup (vs : List Value) : Value := match vs with | [v] => v | vs => .tuple vs.toArray

/-- The functions: what stands for each. -/
noncomputable def callK (F : Nat → Option MF) (X : Nat → Option (List Value → AH → Option (Value × AH))) : Nat → CallF
  | 0, _, _, _ => none
  | k + 1, f, args, H => (match X f with
    | some e => e args H
    | none => (match F f with
      | none => none
      | some m => if m.nt < args.length then none else (match exec k (callK F X k) m.body (T.init args) H with
        | some (.exit _, _, _) => none
        | some (_, t, H') => (match resAll m.res t H' with | some vs => some (tup vs, H') | none => none)
        | none => none)))

end Go.AE
set_option linter.unusedVariables false
namespace Go.AE
open Go.RowKit (Below)

structure Loc where
  blk : Nat
  base : Nat
  room : Nat
  es : Nat

abbrev Inj := Nat → Option Loc

inductive VR (ι : Inj) : Value → Value → Prop
  | bool (b : Bool) : VR ι (.bool b) (.bool b)
  | int (k : IntKind) (n : Int) : VR ι (.int k n) (.int k n)
  | string (s : ByteArray) : VR ι (.string s) (.string s)
  | ptrNil : VR ι (.pointer none) (.pointer none)
  | ptr {i : Nat} {L : Loc} (o : Nat) (h : ι i = some L) : VR ι (.pointer (some ⟨i, o, none⟩)) (.pointer (some ⟨L.blk, L.base + o, none⟩))
  | sliceNil : VR ι (.slice none 0 0) (.slice none 0 0)
  | sliceE (a b : Addr) : VR ι (.slice (some a) 0 0) (.slice (some b) 0 0)
  | slice {i : Nat} {L : Loc} {c c' : Nat} (o n : Nat) (h : ι i = some L) (hc : c ≤ c') (hr : o + c' * L.es ≤ L.room) :
      VR ι (.slice (some ⟨i, o, none⟩) n c) (.slice (some ⟨L.blk, L.base + o, none⟩) n c')
  | nilFunc : VR ι .nilFunc .nilFunc
  | func (fn : Fn) {xs ys us vs : Array Value} (h1 : xs.size = ys.size) (h2 : ∀ j (a : j < xs.size) (b : j < ys.size), VR ι xs[j] ys[j])
      (h3 : us.size = vs.size) (h4 : ∀ j (a : j < us.size) (b : j < vs.size), VR ι us[j] vs[j]) : VR ι (.func fn xs us) (.func fn ys vs)
  | nilIface : VR ι .nilIface .nilIface
  | iface (t : TypeId) {v v' : Value} (h : VR ι v v') : VR ι (.iface t v) (.iface t v')
  | agg {xs ys : Array Value} (h1 : xs.size = ys.size) (h2 : ∀ j (a : j < xs.size) (b : j < ys.size), VR ι xs[j] ys[j]) : VR ι (.agg xs) (.agg ys)
  | tuple {xs ys : Array Value} (h1 : xs.size = ys.size) (h2 : ∀ j (a : j < xs.size) (b : j < ys.size), VR ι xs[j] ys[j]) : VR ι (.tuple xs) (.tuple ys)

def VRA (ι : Inj) (xs ys : Array Value) : Prop := xs.size = ys.size ∧ ∀ j (a : j < xs.size) (b : j < ys.size), VR ι xs[j] ys[j]
def VRL (ι : Inj) (xs ys : List Value) : Prop := xs.length = ys.length ∧ ∀ j (a : j < xs.length) (b : j < ys.length), VR ι xs[j] ys[j]

def Sub (ι ι' : Inj) : Prop := ∀ i L, ι i = some L → ι' i = some L
theorem Sub.refl (ι : Inj) : Sub ι ι := fun _ _ h => h
theorem Sub.trans {ι ι' ι'' : Inj} (h : Sub ι ι') (k : Sub ι' ι'') : Sub ι ι'' := fun i L x => k i L (h i L x)

theorem VR.mono {ι ι' : Inj} (hs : Sub ι ι') {v v' : Value} (h : VR ι v v') : VR ι' v v' := by
  induction h with
  | bool b => exact .bool b
  | int k n => exact .int k n
  | string s => exact .string s
  | ptrNil => exact .ptrNil
  | ptr o h => exact .ptr o (hs _ _ h)
  | sliceNil => exact .sliceNil
  | sliceE a b => exact .sliceE a b
  | slice o n h hc hr => exact .slice o n (hs _ _ h) hc hr
  | nilFunc => exact .nilFunc
  | func fn h1 _ h3 _ ih2 ih4 => exact .func fn h1 ih2 h3 ih4
  | nilIface => exact .nilIface
  | iface t _ ih => exact .iface t ih
  | agg h1 _ ih => exact .agg h1 ih
  | tuple h1 _ ih => exact .tuple h1 ih

theorem VRA.mono {ι ι' : Inj} (hs : Sub ι ι') {v v' : Array Value} (h : VRA ι v v') : VRA ι' v v' := ⟨h.1, fun j a b => (h.2 j a b).mono hs⟩
theorem VRL.mono {ι ι' : Inj} (hs : Sub ι ι') {v v' : List Value} (h : VRL ι v v') : VRL ι' v v' := ⟨h.1, fun j a b => (h.2 j a b).mono hs⟩

theorem VRA.toList {ι : Inj} {xs ys : Array Value} (h : VRA ι xs ys) : VRL ι xs.toList ys.toList := ⟨by simpa using h.1, fun j a b => by simpa using h.2 j (by simpa using a) (by simpa using b)⟩
theorem VRL.toArray {ι : Inj} {xs ys : List Value} (h : VRL ι xs ys) : VRA ι xs.toArray ys.toArray := ⟨by simpa using h.1, fun j a b => by simpa using h.2 j (by simpa using a) (by simpa using b)⟩
theorem VRL.nil (ι : Inj) : VRL ι [] [] := ⟨rfl, fun j a => by simp at a⟩
theorem VRL.cons {ι : Inj} {x y : Value} {xs ys : List Value} (h : VR ι x y) (t : VRL ι xs ys) : VRL ι (x :: xs) (y :: ys) :=
  ⟨by simp [t.1], fun j a b => by cases j with | zero => exact h | succ j => simpa using t.2 j (by simpa using a) (by simpa using b)⟩
theorem VRL.append {ι : Inj} {xs ys us vs : List Value} (h : VRL ι xs ys) (k : VRL ι us vs) : VRL ι (xs ++ us) (ys ++ vs) := by
  refine ⟨by simp [h.1, k.1], fun j a b => ?_⟩
  rw [List.getElem_append, List.getElem_append]
  have h1 := h.1
  split
  · rename_i hj; rw [dif_pos (by omega)]; exact h.2 j _ _
  · rename_i hj; rw [dif_neg (by omega)]
    have := k.2 (j - xs.length) (by simp at a; omega) (by simp at b; omega)
    simpa [h1] using this
theorem VRL.map {ι : Inj} {α : Type} (f g : α → Value) (l : List α) (h : ∀ x ∈ l, VR ι (f x) (g x)) : VRL ι (l.map f) (l.map g) :=
  ⟨by simp, fun j a b => by simpa using h _ (List.getElem_mem (by simpa using a))⟩
theorem VRL.getD {ι : Inj} {xs ys : List Value} (h : VRL ι xs ys) {d d' : Value} (hd : VR ι d d') (j : Nat) : VR ι (xs.getD j d) (ys.getD j d') := by
  have h1 := h.1
  by_cases hj : j < xs.length
  · have := h.2 j hj (by omega)
    simpa [List.getD, List.getElem?_eq_getElem hj, List.getElem?_eq_getElem (show j < ys.length by omega)] using this
  · simpa [List.getD, List.getElem?_eq_none (show xs.length ≤ j by omega), List.getElem?_eq_none (show ys.length ≤ j by omega)] using hd

theorem VR.undef (ι : Inj) : VR ι undef undef := .tuple rfl fun j a => by simp at a

theorem VR.cells {ι : Inj} {v v' : Value} (h : VR ι v v') : VRA ι v.cells v'.cells := by
  have one : ∀ x y : Value, VR ι x y → VRA ι #[x] #[y] := by
    intro x y h
    refine ⟨rfl, fun j a b => ?_⟩
    have hj : j = 0 := by simp at a; omega
    subst hj
    simpa using h
  cases h with
  | agg h1 h2 => exact ⟨h1, h2⟩
  | _ => refine one _ _ ?_ ; constructor <;> assumption

theorem VR.oneCell {ι : Inj} {v v' : Value} (h : VR ι v v') : v'.oneCell' = v.oneCell' := by cases h <;> rfl

/-- closed values hold no address -/
inductive Plain : Value → Prop
  | bool (b : Bool) : Plain (.bool b)
  | int (k : IntKind) (n : Int) : Plain (.int k n)
  | string (s : ByteArray) : Plain (.string s)
  | ptrNil : Plain (.pointer none)
  | sliceNil : Plain (.slice none 0 0)
  | nilFunc : Plain .nilFunc
  | nilIface : Plain .nilIface
  | agg {xs : Array Value} (h2 : ∀ j (a : j < xs.size), Plain xs[j]) : Plain (.agg xs)

theorem Plain.vr {v : Value} (h : Plain v) (ι : Inj) : VR ι v v := by
  induction h with
  | bool b => exact .bool b
  | int k n => exact .int k n
  | string s => exact .string s
  | ptrNil => exact .ptrNil
  | sliceNil => exact .sliceNil
  | nilFunc => exact .nilFunc
  | nilIface => exact .nilIface
  | agg _ ih => exact .agg rfl fun j a b => ih j a

def plain1 : Value → Bool
  | .bool _ | .int _ _ | .string _ | .pointer none | .slice none 0 0 | .nilFunc | .nilIface => true
  | _ => false
theorem plain1_sound {v : Value} (h : plain1 v = true) : Plain v := by
  unfold plain1 at h
  split at h <;> first | constructor | cases h
def plainA (xs : Array Value) : Bool := xs.all plain1
theorem plainA_vr {xs : Array Value} (h : plainA xs = true) (ι : Inj) : VRA ι xs xs := by
  refine ⟨rfl, fun j a b => (plain1_sound ?_).vr ι⟩
  exact Array.all_eq_true.1 h j a
def plainB (v : Value) : Bool := match v with | .agg xs => plainA xs | v => plain1 v
theorem plainB_vr {v : Value} (h : plainB v = true) (ι : Inj) : VR ι v v := by
  unfold plainB at h
  split at h
  · exact .agg rfl (plainA_vr h ι).2
  · exact (plain1_sound h).vr ι

/-! ### heaps and worlds -/

structure Ctx where
  ro : Nat
  B : Nat
  w0 : World

/-- Block `blk` lies at `L` in world `w`. -/
def Lies (ι : Inj) (own : Prop) (w : World) (L : Loc) (blk : Blk) : Prop :=
  ∃ cs t fr, w.heap[L.blk]? = some (.cells cs t fr) ∧ (own → fr = (0, 0)) ∧ L.base + L.room ≤ cs.size ∧ blk.cells.length ≤ L.room ∧ L.es = blk.es ∧
    ∀ j (a : j < blk.cells.length), ∃ v', cs[L.base + j]? = some v' ∧ VR ι blk.cells[j] v'

def Apart (L M : Loc) : Prop := L.blk = M.blk → L.base + L.room ≤ M.base ∨ M.base + M.room ≤ L.base

structure Sim (C : Ctx) (ι : Inj) (H : AH) (w : World) : Prop where
  below : Below C.B C.w0 w
  top : C.B ≤ w.heap.size
  ro : C.ro ≤ H.lo
  lo : H.lo ≤ H.size
  live : ∀ i L blk, ι i = some L → H.get i = some blk → Lies ι (C.ro ≤ i) w L blk
  own : ∀ i L, ι i = some L → C.ro ≤ i → C.B ≤ L.blk
  arg : ∀ i L, ι i = some L → i < C.ro → L.blk < C.B
  inw : ∀ i L, ι i = some L → L.blk < w.heap.size
  dis : ∀ i j L M, ι i = some L → ι j = some M → C.ro ≤ i → C.ro ≤ j → i ≠ j → (H.get i).isSome → (H.get j).isSome → Apart L M
  dr : C.w0.drawn ≤ w.drawn

/-- blocks in [n, top) have no place yet -/
def Un (top : Nat) (ι : Inj) (H : AH) : Prop := ∀ i, H.size ≤ i → i < top → ι i = none

structure Step (C : Ctx) (ι : Inj) (H : AH) (w : World) (ι' : Inj) (H' : AH) (w' : World) : Prop where
  sub : Sub ι ι'
  new : ∀ i L, ι' i = some L → ι i = none → H.size ≤ i ∧ i < H'.size ∧ (w.heap.size ≤ L.blk ∨ ∃ j M, ι j = some M ∧ M.blk = L.blk ∧ H.lo ≤ j ∧ j < H.size)
  size : H.size ≤ H'.size
  lo : H'.lo = H.lo
  heap : w.heap.size ≤ w'.heap.size
  frame : ∀ b, b < w.heap.size → (∀ i L, ι i = some L → L.blk = b → i < H.lo ∨ H.size ≤ i) → w'.heap[b]? = w.heap[b]?
  sim : Sim C ι' H' w'

theorem Step.refl {C : Ctx} {ι : Inj} {H : AH} {w : World} (h : Sim C ι H w) : Step C ι H w ι H w :=
  ⟨.refl ι, fun i L h1 h2 => (by rw [h2] at h1; cases h1), Nat.le_refl _, rfl, Nat.le_refl _, fun _ _ _ => rfl, h⟩

theorem Step.un {C : Ctx} {ι ι' : Inj} {H H' : AH} {w w' : World} {top : Nat} (s : Step C ι H w ι' H' w') (hu : Un top ι H) : Un top ι' H' := by
  intro i h1 h2
  cases h : ι' i with
  | none => rfl
  | some L =>
    have := s.new i L h (hu i (Nat.le_trans s.size h1) h2)
    omega

theorem Step.trans {C : Ctx} {ι ι' ι'' : Inj} {H H' H'' : AH} {w w' w'' : World} {top : Nat} (s : Step C ι H w ι' H' w') (r : Step C ι' H' w' ι'' H'' w'')
    (hu : Un top ι H) (ht : H''.size ≤ top) : Step C ι H w ι'' H'' w'' := by
  have hsz := s.size
  have hsz' := r.size
  refine ⟨s.sub.trans r.sub, ?_, Nat.le_trans s.size r.size, r.lo.trans s.lo, Nat.le_trans s.heap r.heap, ?_, r.sim⟩
  · intro i L h1 h2
    cases h : ι' i with
    | some M =>
      have hM := r.sub i M h
      rw [h1] at hM; cases hM
      obtain ⟨a, b, c⟩ := s.new i L h h2
      exact ⟨a, by omega, c⟩
    | none =>
      obtain ⟨a, b, c⟩ := r.new i L h1 h
      refine ⟨by omega, b, ?_⟩
      rcases c with c | ⟨j, M, hj, hb, hlo, hj2⟩
      · exact .inl (Nat.le_trans s.heap c)
      · cases hj0 : ι j with
        | some N =>
          have hN := s.sub j N hj0
          rw [hj] at hN; cases hN
          by_cases hjs : j < H.size
          · exact .inr ⟨j, M, hj0, hb, by rw [← s.lo]; exact hlo, hjs⟩
          · have := hu j (by omega) (by omega)
            rw [hj0] at this; cases this
        | none =>
          obtain ⟨a', b', c'⟩ := s.new j M hj hj0
          rcases c' with c' | ⟨j', M', hj', hb', hlo', hj2'⟩
          · exact .inl (by omega)
          · exact .inr ⟨j', M', hj', hb'.trans hb, hlo', hj2'⟩
  · intro b hb hall
    have h1 := s.frame b hb hall
    rw [← h1]
    refine r.frame b (Nat.lt_of_lt_of_le hb s.heap) ?_
    intro i L hi hL
    rw [s.lo]
    cases h0 : ι i with
    | some M =>
      have hM := s.sub i M h0
      rw [hi] at hM; cases hM
      rcases hall i L h0 hL with h | h
      · exact .inl h
      · by_cases hx : H'.size ≤ i
        · exact .inr hx
        · have := hu i h (by omega)
          rw [h0] at this; cases this
    | none =>
      obtain ⟨a, b', c⟩ := s.new i L hi h0
      rcases c with c | ⟨j, M, hj, hb2, hlo, hj2⟩
      · omega
      · rcases hall j M hj (hb2.trans hL) with h | h <;> omega

/-! ### heap lemmas -/
theorem AH.get_alloc (H : AH) (b : Blk) (i : Nat) : (H.alloc b).get i = if i = H.size then some b else H.get i := by
  show ((H.bs ++ [some b])[i]?).join = _
  by_cases h : i = H.size
  · rw [if_pos h]; subst h; simp [AH.size]
  · rw [if_neg h]
    show _ = (H.bs[i]?).join
    have h' : i ≠ H.bs.length := h
    by_cases h2 : i < H.bs.length
    · rw [List.getElem?_append_left h2]
    · rw [List.getElem?_append_right (by omega), List.getElem?_eq_none (show H.bs.length ≤ i by omega)]
      rw [List.getElem?_eq_none (by simp; omega)]
theorem AH.get_put (H : AH) (i : Nat) (b : Option Blk) (j : Nat) : (H.put i b).get j = if j = i ∧ i < H.size then b else H.get j := by
  show ((H.bs.set i b)[j]?).join = _
  rw [List.getElem?_set]
  by_cases h : i = j
  · subst h
    by_cases h2 : i < H.size
    · have h3 : i < H.bs.length := h2
      simp [h3, h2]
    · have h3 : ¬ i < H.bs.length := h2
      simp [h3, h2, AH.get]
  · rw [if_neg h, if_neg (fun x => h x.1.symm)]; rfl
theorem AH.get_lt {H : AH} {i : Nat} {b : Blk} (h : H.get i = some b) : i < H.size := by
  unfold AH.get at h
  unfold AH.size
  by_cases hi : i < H.bs.length
  · exact hi
  · rw [List.getElem?_eq_none (by omega)] at h; simp at h
@[simp] theorem AH.size_alloc (H : AH) (b : Blk) : (H.alloc b).size = H.size + 1 := by simp [AH.size, AH.alloc]
@[simp] theorem AH.size_put (H : AH) (i : Nat) (b : Option Blk) : (H.put i b).size = H.size := by simp [AH.size, AH.put]
@[simp] theorem AH.lo_alloc (H : AH) (b : Blk) : (H.alloc b).lo = H.lo := rfl
@[simp] theorem AH.lo_put (H : AH) (i : Nat) (b : Option Blk) : (H.put i b).lo = H.lo := rfl

theorem Lies.mono {ι ι' : Inj} {own : Prop} {w w' : World} {L : Loc} {blk : Blk} (h : Lies ι own w L blk) (hs : Sub ι ι') (hb : w'.heap[L.blk]? = w.heap[L.blk]?) : Lies ι' own w' L blk := by
  obtain ⟨cs, t, fr, h1, h2, h3, h4, h5, h6⟩ := h
  exact ⟨cs, t, fr, hb.trans h1, h2, h3, h4, h5, fun j a => let ⟨v', x, y⟩ := h6 j a; ⟨v', x, y.mono hs⟩⟩

end Go.AE
set_option linter.unusedVariables false
namespace Go.AE
open Go.RowKit (Below)

def upd (ι : Inj) (i : Nat) (L : Loc) : Inj := fun j => if j = i then some L else ι j
theorem upd_self (ι : Inj) (i : Nat) (L : Loc) : upd ι i L i = some L := if_pos rfl
theorem upd_ne (ι : Inj) {i j : Nat} (L : Loc) (h : j ≠ i) : upd ι i L j = ι j := if_neg h
theorem sub_upd {ι : Inj} {i : Nat} (h : ι i = none) (L : Loc) : Sub ι (upd ι i L) := by
  intro j M hj
  by_cases e : j = i
  · subst e; rw [h] at hj; cases hj
  · rw [upd_ne ι L e]; exact hj

/-- the world but for draws -/
structure Same (w w' : World) : Prop where
  heap : w'.heap = w.heap
  os : w'.os = w.os
  tape : w'.tape = w.tape
  output : w'.output = w.output
  dr : w.drawn ≤ w'.drawn

theorem Same.refl (w : World) : Same w w := ⟨rfl, rfl, rfl, rfl, Nat.le_refl _⟩
theorem Same.drew (w : World) : Same w { w with drawn := w.drawn + 1 } := ⟨rfl, rfl, rfl, rfl, Nat.le_succ _⟩

theorem step_same {C : Ctx} {ι : Inj} {H : AH} {w w' : World} (h : Sim C ι H w) (e : Same w w') : Step C ι H w ι H w' := by
  have hb : Below C.B C.w0 w' := h.below.trans ⟨e.os, e.tape, e.output, Nat.le_of_eq (congrArg Array.size e.heap).symm, fun k _ => by rw [e.heap]⟩
  refine ⟨.refl ι, fun i L h1 h2 => (by rw [h2] at h1; cases h1), Nat.le_refl _, rfl, Nat.le_of_eq (congrArg Array.size e.heap).symm, fun _ _ _ => by rw [e.heap], ?_⟩
  exact ⟨hb, by rw [e.heap]; exact h.top, h.ro, h.lo, fun i L b x y => (h.live i L b x y).mono (.refl ι) (by rw [e.heap]), h.own, h.arg, fun i L x => by rw [e.heap]; exact h.inw i L x, h.dis, Nat.le_trans h.dr e.dr⟩

/-- Forgetting a block. -/
theorem Sim.kill {C : Ctx} {ι : Inj} {H : AH} {w : World} (h : Sim C ι H w) (k : Nat) : Sim C ι (H.put k none) w := by
  have hg : ∀ i b, (H.put k none).get i = some b → i ≠ k ∧ H.get i = some b := by
    intro i b hi
    rw [AH.get_put] at hi
    split at hi
    · cases hi
    · rename_i hn
      refine ⟨fun e => ?_, hi⟩
      subst e
      exact hn ⟨rfl, AH.get_lt hi⟩
  refine ⟨h.below, h.top, h.ro, by simpa using h.lo, fun i L b x y => h.live i L b x (hg i b y).2, h.own, h.arg, h.inw, fun i j L M a b c d e x y => ?_, h.dr⟩
  obtain ⟨bi, hbi⟩ := Option.isSome_iff_exists.1 x
  obtain ⟨bj, hbj⟩ := Option.isSome_iff_exists.1 y
  exact h.dis i j L M a b c d e (by rw [(hg i bi hbi).2]; rfl) (by rw [(hg j bj hbj).2]; rfl)

theorem step_kill {C : Ctx} {ι : Inj} {H : AH} {w : World} (h : Sim C ι H w) (k : Nat) : Step C ι H w ι (H.put k none) w :=
  ⟨.refl ι, fun i L h1 h2 => (by rw [h2] at h1; cases h1), by simp, rfl, Nat.le_refl _, fun _ _ _ => rfl, h.kill k⟩

/-- A new block. -/
theorem step_alloc {C : Ctx} {ι : Inj} {H : AH} {w w' : World} (h : Sim C ι H w) (hn : ι H.size = none) (blk : Blk) (cs : Array Value) (t : TypeId)
    (hh : w'.heap = w.heap.push (.cells cs t)) (ho : w'.os = w.os) (htp : w'.tape = w.tape) (hout : w'.output = w.output) (hdr : w.drawn ≤ w'.drawn)
    (hl : blk.cells.length ≤ cs.size) (hv : ∀ j (a : j < blk.cells.length), ∃ v', cs[j]? = some v' ∧ VR ι blk.cells[j] v') :
    Step C ι H w (upd ι H.size ⟨w.heap.size, 0, cs.size, blk.es⟩) (H.alloc blk) w' := by
  have hs : Sub ι (upd ι H.size ⟨w.heap.size, 0, cs.size, blk.es⟩) := sub_upd hn _
  have hold : ∀ b, b < w.heap.size → w'.heap[b]? = w.heap[b]? := by
    intro b hb; rw [hh, Array.getElem?_push, if_neg (by omega)]
  have hsz : w'.heap.size = w.heap.size + 1 := by rw [hh]; simp
  have hB : Below C.B C.w0 w' := h.below.trans ⟨ho, htp, hout, by omega, fun k hk => hold k (Nat.lt_of_lt_of_le hk h.top)⟩
  refine ⟨hs, ?_, by simp, rfl, by omega, fun b hb _ => hold b hb, ⟨hB, by have := h.top; omega, h.ro, by have := h.lo; simp; omega, ?_, ?_, ?_, ?_, ?_, Nat.le_trans h.dr hdr⟩⟩
  · intro i L h1 h2
    by_cases e : i = H.size
    · subst e
      rw [upd_self] at h1
      cases h1
      exact ⟨Nat.le_refl _, by simp, .inl (Nat.le_refl _)⟩
    · rw [upd_ne ι _ e, h2] at h1; cases h1
  · intro i L b h1 h2
    rw [AH.get_alloc] at h2
    by_cases e : i = H.size
    · subst e
      rw [upd_self] at h1
      rw [if_pos rfl] at h2
      cases h1; cases h2
      refine ⟨cs, t, (0, 0), ?_, fun _ => rfl, ?_, hl, rfl, ?_⟩
      · rw [hh]; simp
      · exact Nat.le_of_eq (Nat.zero_add _)
      · intro j a
        obtain ⟨v', x, y⟩ := hv j a
        exact ⟨v', by simpa using x, y.mono hs⟩
    · rw [upd_ne ι _ e] at h1
      rw [if_neg e] at h2
      exact (h.live i L b h1 h2).mono hs (hold _ (h.inw i L h1))
  · intro i L h1 h2
    by_cases e : i = H.size
    · subst e; rw [upd_self] at h1; cases h1; exact h.top
    · rw [upd_ne ι _ e] at h1; exact h.own i L h1 h2
  · intro i L h1 h2
    by_cases e : i = H.size
    · subst e; have := h.ro; have := h.lo; omega
    · rw [upd_ne ι _ e] at h1; exact h.arg i L h1 h2
  · intro i L h1
    by_cases e : i = H.size
    · subst e; rw [upd_self] at h1; cases h1; show w.heap.size < _; omega
    · rw [upd_ne ι _ e] at h1; have := h.inw i L h1; omega
  · intro i j L M h1 h2 r1 r2 hne g1 g2
    rw [AH.get_alloc] at g1 g2
    by_cases e : i = H.size
    · subst e
      rw [upd_self] at h1
      rw [upd_ne ι _ (Ne.symm hne)] at h2
      cases h1
      intro hb
      have := h.inw j M h2
      have hb' : w.heap.size = M.blk := hb
      omega
    · rw [upd_ne ι _ e] at h1
      rw [if_neg e] at g1
      by_cases e2 : j = H.size
      · subst e2
        rw [upd_self] at h2
        cases h2
        intro hb
        have := h.inw i L h1
        have hb' : L.blk = w.heap.size := hb
        omega
      · rw [upd_ne ι _ e2] at h2
        rw [if_neg e2] at g2
        exact h.dis i j L M h1 h2 r1 r2 hne g1 g2

theorem splice_length {cs vs : List Value} {o : Nat} (h : o + vs.length ≤ cs.length) : (splice cs o vs).length = cs.length := by
  simp [splice]; omega

theorem splice_get {cs vs : List Value} {o j : Nat} (h : o + vs.length ≤ cs.length) :
    (splice cs o vs)[j]? = if o ≤ j ∧ j < o + vs.length then vs[j - o]? else cs[j]? := by
  unfold splice
  have h1 : (cs.take o).length = o := by simp; omega
  by_cases a : j < o
  · rw [List.append_assoc, List.getElem?_append_left (by omega), List.getElem?_take, if_pos a, if_neg (by omega)]
  · by_cases b : j < o + vs.length
    · rw [if_pos (by omega), List.append_assoc, List.getElem?_append_right (by omega), h1, List.getElem?_append_left (by omega)]
    · rw [if_neg (by omega), List.getElem?_append_right (by simp; omega), List.getElem?_drop]
      congr 1
      simp
      omega

/-- A store into cells that one block has for itself; `cur'` is the row behind it. -/
theorem sim_row {C : Ctx} {ι : Inj} {H : AH} {w : World} (h : Sim C ι H w) {i : Nat} {L : Loc} (hi : ι i = some L) (hro : C.ro ≤ i) (hlive : (H.get i).isSome)
    (cur cur' : Array Value) (t : TypeId) (hc : w.heap[L.blk]? = some (.cells cur t (0, 0))) (hsz : cur'.size = cur.size)
    (hout : ∀ j, j < L.base ∨ L.base + L.room ≤ j → cur'[j]? = cur[j]?) : Sim C ι (H.put i none) (w.setRow L.blk cur') := by
  have hB : C.B ≤ L.blk := h.own i L hi hro
  have hk := h.kill i
  refine ⟨?_, by rw [setRow_size]; exact h.top, h.ro, by simpa using h.lo, ?_, h.own, h.arg, fun j M x => by rw [setRow_size]; exact h.inw j M x, hk.dis, h.dr⟩
  · refine h.below.trans ⟨rfl, rfl, rfl, by simp, fun k hk => setRow_other w L.blk k cur' (by omega)⟩
  · intro j M b h1 h2
    have hget := h2
    rw [AH.get_put] at h2
    split at h2
    · cases h2
    · rename_i hn
      have hji : j ≠ i := fun e => hn ⟨e, by subst e; exact AH.get_lt h2⟩
      have hl := h.live j M b h1 h2
      by_cases e : M.blk = L.blk
      · obtain ⟨cs, t', fr, a1, a2, a3, a4, a5, a6⟩ := hl
        rw [e, hc] at a1
        cases a1
        refine ⟨cur', t, (0, 0), by rw [e]; exact setRow_heap w L.blk cur cur' t (0, 0) hc, a2, by omega, a4, a5, fun j' a => ?_⟩
        obtain ⟨v', x, y⟩ := a6 j' a
        refine ⟨v', ?_, y⟩
        rw [hout, x]
        by_cases hj : C.ro ≤ j
        · have hd := h.dis j i M L h1 hi hj hro hji (by rw [h2]; rfl) hlive e
          omega
        · have := h.arg j M h1 (by omega)
          omega
      · exact hl.mono (.refl ι) (setRow_other w L.blk M.blk cur' e)

/-- A store of cells into a block of the call's own. -/
theorem step_write {C : Ctx} {ι : Inj} {H H' : AH} {w : World} (h : Sim C ι H w) {i o : Nat} {L : Loc} (hi : ι i = some L) {vs vs' : List Value}
    (hw : H.write ⟨i, o, none⟩ vs = some H') (hv : VRL ι vs vs') (P : Program) :
    ∃ w', (storeCells ⟨L.blk, L.base + o, none⟩ vs').run P w = .ok () w' ∧ Step C ι H w ι H' w' := by
  unfold AH.write at hw
  cases hb : H.get i with
  | none => simp [hb] at hw
  | some b =>
    simp only [hb] at hw
    split at hw
    · rename_i hc
      obtain ⟨hlo, hlen, hone⟩ := hc
      cases hw
      have hro : C.ro ≤ i := Nat.le_trans h.ro hlo
      obtain ⟨cs, t, fr, a1, a2, a3, a4, a5, a6⟩ := h.live i L b hi hb
      obtain rfl := a2 hro
      have hvl := hv.1
      have hone' : ∀ v ∈ vs', v.oneCell' = true := by
        intro v hm
        obtain ⟨j, hj, rfl⟩ := List.mem_iff_getElem.1 hm
        rw [(hv.2 j (by omega) hj).oneCell]
        exact List.all_eq_true.1 hone _ (List.getElem_mem _)
      have hst := run_storeCells_at P L.blk (L.base + o) t vs' 0 cs w a1 (by omega) hone'
      simp only [Nat.add_zero] at hst
      refine ⟨_, hst, ?_⟩
      generalize hcur : (cs.toList.take (L.base + o) ++ vs' ++ cs.toList.drop (L.base + o + vs'.length)).toArray = cur'
      have hcur' : cur'.toList = splice cs.toList (L.base + o) vs' := by rw [← hcur]; rfl
      have hget : ∀ j : Nat, cur'[j]? = if L.base + o ≤ j ∧ j < L.base + o + vs'.length then vs'[j - (L.base + o)]? else cs[j]? := by
        intro j
        rw [← Array.getElem?_toList, hcur', splice_get (by simp; omega)]
        simp
      have hsz : cur'.size = cs.size := by rw [← Array.length_toList, hcur', splice_length (by simp; omega)]; simp
      have hk := sim_row h hi hro (by rw [hb]; rfl) cs cur' t a1 hsz (fun j hj => by rw [hget, if_neg (by omega)])
      have hlies : ∀ j M b', ι j = some M → (H.put i (some ⟨splice b.cells o vs, b.es⟩)).get j = some b' → Lies ι (C.ro ≤ j) (w.setRow L.blk cur') M b' := by
        intro j M b' h1 h2
        rw [AH.get_put] at h2
        split at h2
        · rename_i hji
          obtain ⟨rfl, _⟩ := hji
          rw [hi] at h1
          cases h1; cases h2
          refine ⟨cur', t, (0, 0), setRow_heap w L.blk cs cur' t (0, 0) a1, fun _ => rfl, by omega, by rw [splice_length hlen]; exact a4, a5, fun q hq => ?_⟩
          rw [splice_length hlen] at hq
          have hsp := splice_get (j := q) hlen
          rw [List.getElem?_eq_getElem (by rw [splice_length hlen]; exact hq)] at hsp
          by_cases hr : o ≤ q ∧ q < o + vs.length
          · rw [if_pos hr, List.getElem?_eq_getElem (by omega)] at hsp
            refine ⟨vs'[q - o]'(by omega), ?_, ?_⟩
            · rw [hget, if_pos (by omega), show L.base + q - (L.base + o) = q - o by omega]
              exact List.getElem?_eq_getElem (by omega)
            · rw [Option.some.inj hsp]; exact hv.2 _ _ _
          · rw [if_neg hr, List.getElem?_eq_getElem hq] at hsp
            obtain ⟨v', x, y⟩ := a6 q hq
            exact ⟨v', by rw [hget, if_neg (by omega)]; exact x, by rw [Option.some.inj hsp]; exact y⟩
        · rename_i hn
          have hji : j ≠ i := fun e => hn ⟨e, by subst e; exact AH.get_lt h2⟩
          refine hk.live j M b' h1 ?_
          rw [AH.get_put, if_neg (fun e => hji e.1)]
          exact h2
      have hsome : ∀ j, ((H.put i (some ⟨splice b.cells o vs, b.es⟩)).get j).isSome → (H.get j).isSome := by
        intro j hj
        rw [AH.get_put] at hj
        split at hj
        · rename_i e; obtain ⟨rfl, _⟩ := e; rw [hb]; rfl
        · exact hj
      refine ⟨.refl ι, fun j M h1 h2 => (by rw [h2] at h1; cases h1), by simp, rfl, by simp, ?_, ?_⟩
      · intro q hq hall
        refine setRow_other w L.blk q cur' fun e => ?_
        have hlt := AH.get_lt hb
        rcases hall i L hi e.symm with x | x <;> omega
      · exact ⟨hk.below, hk.top, h.ro, by simpa using h.lo, hlies, h.own, h.arg, hk.inw,
          fun j k M N x y r1 r2 hne g1 g2 => h.dis j k M N x y r1 r2 hne (hsome j g1) (hsome k g2), hk.dr⟩
    · cases hw

/-- An append into the spare room of a row. -/
theorem step_appendRoom {C : Ctx} {ι : Inj} {H : AH} {w : World} (h : Sim C ι H w) (hn : ι H.size = none) {i o q : Nat} {L : Loc} {b : Blk} (hi : ι i = some L) (hb : H.get i = some b)
    (hlo : H.lo ≤ i) {old new new' : List Value} (hr : H.readN ⟨i, o, none⟩ q = some old) (hv : VRL ι new new') (hone : new.all Value.oneCell' = true)
    (hroom : o + q + new.length ≤ L.room) (P : Program) :
    ∃ w', (storeCells ⟨L.blk, L.base + o + q, none⟩ new').run P w = .ok () w' ∧
      Step C ι H w (upd ι H.size ⟨L.blk, L.base + o, L.room - o, L.es⟩) ((H.put i none).alloc ⟨old ++ new, L.es⟩) w' := by
  have hro : C.ro ≤ i := Nat.le_trans h.ro hlo
  have hlt := AH.get_lt hb
  obtain ⟨cs, t, fr, a1, a2, a3, a4, a5, a6⟩ := h.live i L b hi hb
  obtain rfl := a2 hro
  have hvl := hv.1
  have hone' : ∀ v ∈ new', v.oneCell' = true := by
    intro v hm
    obtain ⟨j, hj, rfl⟩ := List.mem_iff_getElem.1 hm
    rw [(hv.2 j (by omega) hj).oneCell]
    exact List.all_eq_true.1 hone _ (List.getElem_mem _)
  have hst := run_storeCells_at P L.blk (L.base + o + q) t new' 0 cs w a1 (by omega) hone'
  simp only [Nat.add_zero] at hst
  refine ⟨_, hst, ?_⟩
  generalize hcur : (cs.toList.take (L.base + o + q) ++ new' ++ cs.toList.drop (L.base + o + q + new'.length)).toArray = cur'
  have hcur' : cur'.toList = splice cs.toList (L.base + o + q) new' := by rw [← hcur]; rfl
  have hget : ∀ j : Nat, cur'[j]? = if L.base + o + q ≤ j ∧ j < L.base + o + q + new'.length then new'[j - (L.base + o + q)]? else cs[j]? := by
    intro j
    rw [← Array.getElem?_toList, hcur', splice_get (by simp; omega)]
    simp
  have hsz : cur'.size = cs.size := by rw [← Array.length_toList, hcur', splice_length (by simp; omega)]; simp
  have hk := sim_row h hi hro (by rw [hb]; rfl) cs cur' t a1 hsz (fun j hj => by rw [hget, if_neg (by omega)])
  have hs : Sub ι (upd ι H.size ⟨L.blk, L.base + o, L.room - o, L.es⟩) := sub_upd hn _
  have hold : old = (b.cells.drop o).take q ∧ o + q ≤ b.cells.length := by
    simp only [AH.readN, hb] at hr
    split at hr
    · rename_i hle; cases hr; exact ⟨rfl, hle⟩
    · cases hr
  have hol : old.length = q := by rw [hold.1]; simp; omega
  have hisz : i ≠ H.size := by omega
  refine ⟨hs, ?_, by simp, rfl, by simp, ?_, ⟨hk.below, hk.top, h.ro, by have := h.lo; simp; omega, ?_, ?_, ?_, ?_, ?_, hk.dr⟩⟩
  · intro j M h1 h2
    by_cases e : j = H.size
    · subst e
      rw [upd_self] at h1
      cases h1
      exact ⟨Nat.le_refl _, by simp, .inr ⟨i, L, hi, rfl, hlo, hlt⟩⟩
    · rw [upd_ne ι _ e, h2] at h1; cases h1
  · intro p hp hall
    refine setRow_other w L.blk p cur' fun e => ?_
    rcases hall i L hi e.symm with x | x <;> omega
  · intro j M b' h1 h2
    rw [AH.get_alloc] at h2
    simp only [AH.size_put] at h2
    by_cases e : j = H.size
    · subst e
      rw [upd_self] at h1
      rw [if_pos rfl] at h2
      cases h1; cases h2
      refine ⟨cur', t, (0, 0), setRow_heap w L.blk cs cur' t (0, 0) a1, fun _ => rfl, ?_, ?_, rfl, fun p hp => ?_⟩
      · show L.base + o + (L.room - o) ≤ _; omega
      · show (old ++ new).length ≤ L.room - o; simp; omega
      · simp only [List.length_append] at hp
        show ∃ v', cur'[L.base + o + p]? = some v' ∧ VR _ (old ++ new)[p] v'
        by_cases hpo : p < q
        · obtain ⟨v', x, y⟩ := a6 (o + p) (by omega)
          refine ⟨v', by rw [hget, if_neg (by omega), show L.base + o + p = L.base + (o + p) by omega]; exact x, ?_⟩
          have : (old ++ new)[p]'(by simp; omega) = b.cells[o + p]'(by omega) := by
            rw [List.getElem_append_left (by omega)]
            simp [hold.1]
          rw [this]
          exact y.mono hs
        · refine ⟨new'[p - q]'(by omega), ?_, ?_⟩
          · rw [hget, if_pos (by omega), show L.base + o + p - (L.base + o + q) = p - q by omega]
            exact List.getElem?_eq_getElem (by omega)
          · have : (old ++ new)[p]'(by simp; omega) = new[p - q]'(by omega) := by
              rw [List.getElem_append_right (by omega)]
              simp [hol]
            rw [this]
            exact (hv.2 _ _ _).mono hs
    · rw [upd_ne ι _ e] at h1
      rw [if_neg e] at h2
      exact (hk.live j M b' h1 h2).mono hs rfl
  · intro j M h1 h2
    by_cases e : j = H.size
    · subst e; rw [upd_self] at h1; cases h1; exact h.own i L hi hro
    · rw [upd_ne ι _ e] at h1; exact h.own j M h1 h2
  · intro j M h1 h2
    by_cases e : j = H.size
    · subst e; have := h.ro; have := h.lo; omega
    · rw [upd_ne ι _ e] at h1; exact h.arg j M h1 h2
  · intro j M h1
    by_cases e : j = H.size
    · subst e; rw [upd_self] at h1; cases h1; rw [setRow_size]; exact h.inw i L hi
    · rw [upd_ne ι _ e] at h1; rw [setRow_size]; exact h.inw j M h1
  · intro j k M N x y r1 r2 hne g1 g2
    rw [AH.get_alloc] at g1 g2
    simp only [AH.size_put] at g1 g2
    have away : ∀ j M, ι j = some M → C.ro ≤ j → j ≠ H.size → ((H.put i none).get j).isSome → Apart M ⟨L.blk, L.base + o, L.room - o, L.es⟩ := by
      intro j M h1 h2 h3 h4 hbk
      have hji : j ≠ i := by
        intro e
        subst e
        rw [AH.get_put, if_pos ⟨rfl, hlt⟩] at h4
        cases h4
      rw [AH.get_put, if_neg (fun e => hji e.1)] at h4
      have := h.dis j i M L h1 hi h2 hro hji h4 (by rw [hb]; rfl) hbk
      show M.base + M.room ≤ L.base + o ∨ L.base + o + (L.room - o) ≤ M.base
      omega
    by_cases e : j = H.size
    · subst e
      rw [upd_self] at x
      rw [upd_ne ι _ (Ne.symm hne)] at y
      rw [if_neg (Ne.symm hne)] at g2
      cases x
      intro hbk
      have := away k N y r2 (Ne.symm hne) g2 hbk.symm
      omega
    · rw [upd_ne ι _ e] at x
      rw [if_neg e] at g1
      by_cases e2 : k = H.size
      · subst e2
        rw [upd_self] at y
        cases y
        exact away j M x r1 e g1
      · rw [upd_ne ι _ e2] at y
        rw [if_neg e2] at g2
        exact hk.dis j k M N x y r1 r2 hne g1 g2

end Go.AE
set_option linter.unusedVariables false
namespace Go.AE
open Go.RowKit (Below)

/-! ### from the model's operations to the evaluator's -/

def okX (nt : Nat) : Operand → Bool
  | .tmp i => i < nt
  | .const v => plainB v
  | .func _ => true
  | .global _ => false

def grd {α : Type} (b : Bool) (x : Option α) : Option α := match b with | true => x | false => none
theorem grd_some {α : Type} {b : Bool} {x : Option α} {y : α} (h : grd b x = some y) : b = true ∧ x = some y := by
  cases b with
  | true => exact ⟨rfl, h⟩
  | false => cases h

/-- none: no such type; some none: one cell; some (some n): an aggregate of n cells. -/
def aggOf (P : Program) (t : TypeId) : Option (Option Nat) :=
  match P.underlying t, P.info? t with
  | some (.struct _), some i => some (some i.size)
  | some (.array _ _), some i => some (some i.size)
  | some _, some _ => some none
  | _, _ => none

def kindOf (P : Program) (t : TypeId) : Nat :=
  match P.underlying t with
  | some .bool => 1
  | some (.slice _) => 2
  | some (.interface _) => 3
  | some (.pointer _) => 4
  | some (.func _ _ _) => 5
  | _ => 0

def isConst : Operand → Bool
  | .const _ => true
  | _ => false

def elemInfo (P : Program) (t : TypeId) : Option (Nat × Nat × Array Value) :=
  match P.underlying t with
  | some (.slice e) => (match P.info? e with
    | some i => (match i.zero with
      | some z => if z.cells.size = i.size then some (i.size, i.bytes, z.cells) else none
      | none => none)
    | none => none)
  | _ => none

def okO (nt : Nat) (x : Option Operand) : Bool := match x with | some x => okX nt x | none => true

def compOp (P : Program) (nt : Nat) (o : Op) : Option MOp :=
  match o with
  | .move x => grd (okX nt x) (some (.mv x))
  | .assign x => grd (okX nt x) (some (.mv x))
  | .pick c a b => grd (okX nt c && okX nt a && okX nt b) (some (.pick c a b))
  | .alloc t => (match P.info? t with
    | some i => (match i.zero with | some z => grd (plainA z.cells) (some (.alloc z.cells.toList)) | none => none)
    | none => none)
  | .box _ x => grd (okX nt x) (some (.box x))
  | .build t parts => grd (parts.all fun p => okX nt p.2)
    (match P.info? t, P.underlying t with
    | some it, some (.struct fields) =>
      (match it.zero, fields.toList.mapM (fun f => (P.info? f.type).map fun i => (f.offset, i.size)) with
      | some z, some places => grd (plainA z.cells) (some (.build z.cells places.toArray parts.toList))
      | _, _ => none)
    | _, _ => none)
  | .buildSlice t n parts => grd (parts.all fun p => okX nt p.2)
    (match elemInfo P t with
    | some (es, _, z) => grd (plainA z && n * es ≤ 16777216) (some (.buildSlice es n (if n * es = 0 then #[] else z) parts.toList))
    | none => none)
  | .load t a => grd (okX nt a) (match aggOf P t with | some g => some (.load g a) | none => none)
  | .store t a x => grd (okX nt a && okX nt x) (match P.info? t with | some i => some (.store i.size a x) | none => none)
  | .nilCheck x => grd (okX nt x) (some (.nilCheck x))
  | .binOp op t x y _ => grd (okX nt x && okX nt y) (some (.bin (kindOf P t) (isConst x || isConst y) op x y))
  | .unOp op _ x => grd (okX nt x) (some (.un op x))
  | .convert src dst x => grd (okX nt x)
    (match P.underlying src, P.underlying dst with
    | some _, some (.int k) => some (.conv k x)
    | some (.slice e), some .string => (match P.underlying e with | some (.int .u8) => some (.bytesToStr x) | _ => none)
    | _, _ => none)
  | .makeFunc fn a b => grd (a.all (okX nt) && b.all (okX nt)) (some (.mkFunc fn a.toList b.toList))
  | .makeSlice t l c => grd (okX nt l && okX nt c)
    (match elemInfo P t with
    | some (es, by_, z) => grd (plainA z) (some (.makeSlice es by_ z l c))
    | none => none)
  | .slice t x lo hi none => grd (okX nt x && okO nt lo && okO nt hi)
    (match P.underlying t with
    | some .string => some (.sliceStr x lo hi)
    | some (.slice e) => (match P.info? e with | some i => some (.sliceSl i.size x lo hi) | none => none)
    | _ => none)
  | .fieldAddr t x f => grd (okX nt x)
    (match P.underlying t with
    | some (.struct fields) => (match fields[f]? with
      | some fd => (match P.info? fd.type with | some i => grd (i.size != 0) (some (.fieldAddr fd.offset x)) | none => none)
      | none => none)
    | _ => none)
  | .field t x f => grd (okX nt x)
    (match P.underlying t with
    | some (.struct fields) => (match fields[f]? with
      | some fd => (match aggOf P fd.type with | some g => some (.field g fd.offset x) | none => none)
      | none => none)
    | _ => none)
  | .indexAddr t x i => grd (okX nt x && okX nt i)
    (match P.underlying t with
    | some (.slice e) => (match P.info? e with | some j => some (.indexAddr j.size x i) | none => none)
    | _ => none)
  | .index t x i => grd (okX nt x && okX nt i) (match P.underlying t with | some .string => some (.indexStr x i) | _ => none)
  | .extract x i => grd (okX nt x) (some (.extract x i))
  | .call c => grd (c.args.all (okX nt))
    (match c.callee with
    | .value f => grd (okX nt f) (some (.call f c.args.toList))
    | .builtin .len => (match c.args.toList, c.argTypes.toList with
      | [x], [t] => (match P.underlying t with | some .string => some (.len true x) | some (.slice _) => some (.len false x) | _ => none)
      | _, _ => none)
    | .builtin .append => (match c.args.toList, c.argTypes.toList with
      | [s, x], [t, u] => (match elemInfo P t, P.underlying u with
        | some (es, by_, z), some (.slice _) => some (.append es by_ s x)
        | some (es, by_, z), some .string => some (.append es by_ s x)
        | _, _ => none)
      | _, _ => none)
    | .builtin .copy => (match c.args.toList, c.argTypes.toList with
      | [d, s], [t, _] => (match elemInfo P t with | some (es, _, _) => some (.copy es d s) | none => none)
      | _, _ => none)
    | .builtin .min => (match c.args.toList with | [x, y] => some (.min2 x y) | _ => none)
    | .builtin .max => (match c.args.toList with | [x, y] => some (.max2 x y) | _ => none)
    | _ => none)
  | _ => none

/-- What a frame holds is what the evaluator holds. -/
def TR (nt : Nat) (ι : Inj) (t : T) (a : Act) : Prop := (a.tmps.size = nt ∧ a.defers = []) ∧ ∀ i, i < nt → VR ι (t i) (a.tmps.getD i undef)

theorem TR.ev {nt : Nat} {ι : Inj} {t : T} {a : Act} (h : TR nt ι t a) {x : Operand} (hx : okX nt x = true) : VR ι (ev t x) (a.eval x) := by
  cases x with
  | tmp i => exact h.2 i (by simpa [okX] using hx)
  | const v => exact plainB_vr hx ι
  | func f => exact .func _ rfl (fun j a => by simp at a) rfl (fun j a => by simp at a)
  | global g => simp [okX] at hx

theorem TR.mono {nt : Nat} {ι ι' : Inj} {t : T} {a : Act} (h : TR nt ι t a) (hs : Sub ι ι') : TR nt ι' t a := ⟨h.1, fun i hi => (h.2 i hi).mono hs⟩

theorem TR.put {nt : Nat} {ι : Inj} {t : T} {a : Act} (h : TR nt ι t a) {v v' : Value} (hv : VR ι v v') (d : Option Nat) : TR nt ι (t.upO d v) (a.put d v') := by
  cases d with
  | none => exact h
  | some d =>
    refine ⟨⟨by simp [Act.put, h.1.1], by simp [Act.put, h.1.2]⟩, fun i hi => ?_⟩
    have h1 := h.1.1
    simp only [T.upO, T.up, Act.put]
    by_cases e : i = d
    · subst e
      rw [if_pos rfl]
      have : (a.tmps.setIfInBounds i v').getD i undef = v' := by simp [Array.getD, h1, hi]
      rw [this]; exact hv
    · rw [if_neg e]
      have : (a.tmps.setIfInBounds d v').getD i undef = a.tmps.getD i undef := by
        simp only [Array.getD, Array.size_setIfInBounds, h1, hi, dif_pos]
        rw [Array.getInternal_eq_getElem, Array.getInternal_eq_getElem, Array.getElem_setIfInBounds_ne (by omega) (Ne.symm e)]
      rw [this]; exact h.2 i hi

theorem add_lit (b o n : Nat) : (⟨b, o, none⟩ : Addr).add n = ⟨b, o + n, none⟩ := by unfold Addr.add; split <;> simp_all

section reads
variable {C : Ctx} {ι : Inj} {H : AH} {w : World} {P : Program}

theorem sim_cell (h : Sim C ι H w) {i o : Nat} {L : Loc} (hi : ι i = some L) {v : Value} (hr : H.read1 ⟨i, o, none⟩ = some v) :
    ∃ v', w.cell? ⟨L.blk, L.base + o, none⟩ = some v' ∧ VR ι v v' := by
  simp only [AH.read1] at hr
  cases hb : H.get i with
  | none => simp [hb] at hr
  | some b =>
    simp only [hb] at hr
    obtain ⟨cs, t, fr, a1, a2, a3, a4, a5, a6⟩ := h.live i L b hi hb
    obtain ⟨ho, hv⟩ := List.getElem?_eq_some_iff.1 hr
    obtain ⟨v', x, y⟩ := a6 o ho
    exact ⟨v', by simp [World.cell?, a1, x], by rw [← hv]; exact y⟩

theorem sim_cells (h : Sim C ι H w) {i o n : Nat} {L : Loc} (hi : ι i = some L) {l : List Value} (hr : H.readN ⟨i, o, none⟩ n = some l) :
    ∃ l', (∀ j v, l'[j]? = some v → w.cell? ((⟨L.blk, L.base + o, none⟩ : Addr).add j) = some v) ∧ l'.length = n ∧ VRL ι l l' := by
  simp only [AH.readN] at hr
  cases hb : H.get i with
  | none => simp [hb] at hr
  | some b =>
    simp only [hb] at hr
    split at hr
    · rename_i hle
      cases hr
      obtain ⟨cs, t, fr, a1, a2, a3, a4, a5, a6⟩ := h.live i L b hi hb
      refine ⟨(cs.toList.drop (L.base + o)).take n, ?_, by simp; omega, ?_, ?_⟩
      · intro j v hj
        rw [List.getElem?_take] at hj
        split at hj
        · rw [List.getElem?_drop] at hj
          rw [add_lit]
          simp [World.cell?, a1, ← hj]
        · cases hj
      · simp; omega
      · intro j a b'
        simp at a
        obtain ⟨v', x, y⟩ := a6 (o + j) (by omega)
        simp only [List.getElem_take, List.getElem_drop]
        obtain ⟨hx, rfl⟩ := Array.getElem?_eq_some_iff.1 x
        have e : L.base + o + j = L.base + (o + j) := by omega
        simp only [e, Array.getElem_toList]
        exact y
    · cases hr

theorem run_loadN (h : Sim C ι H w) {i o n : Nat} {L : Loc} (hi : ι i = some L) {l : List Value} (hr : H.readN ⟨i, o, none⟩ n = some l) :
    ∃ l' : List Value, (∀ w', w'.heap = w.heap → (loadCells ⟨L.blk, L.base + o, none⟩ n).run P w' = .ok l'.toArray w') ∧ VRL ι l l' := by
  obtain ⟨l', h1, h2, h3⟩ := sim_cells h hi hr
  refine ⟨l', fun w' e => ?_, h3⟩
  rw [← h2]
  exact run_loadCells_list w' _ l' fun j v hj => by rw [← h1 j v hj]; simp [World.cell?, e]

theorem aggOf_load {t : TypeId} {g : Option Nat} (hg : aggOf P t = some g) (a : Addr) (w : World) :
    (loadVar t a).run P w = match g with
      | none => (load a).run P w
      | some n => ((loadCells a n).run P w).andThen fun cs w => .ok (.agg cs) w := by
  unfold aggOf at hg
  cases hu : P.underlying t with
  | none => simp [hu] at hg
  | some d =>
    cases hi : P.info? t with
    | none => simp [hu, hi] at hg
    | some i =>
      cases d <;> simp only [hu, hi, Option.some.injEq] at hg <;> subst hg <;>
        simp [loadVar, isAgg, run_underlying hu, sizeOf, typeInfo, hi]

theorem run_load1 {a : Addr} {v : Value} (hc : w.cell? a = some v) : (load a).run P w = .ok v w := by
  simp [load, Sem.run, hc]

theorem op_load (h : Sim C ι H w) {t : TypeId} {g : Option Nat} (hg : aggOf P t = some g) {p p' v : Value} (hp : VR ι p p') (hl : opLoad g p H = some v) :
    ∃ v', (Instr.loadAt t p').run P w = .ok v' w ∧ VR ι v v' := by
  cases hp <;> simp only [opLoad] at hl <;> try cases hl
  rename_i i L o hi
  simp only [Instr.loadAt, Instr.sureAddr, Sem.run_bind, Sem.run_pure, Result.andThen_ok, aggOf_load hg]
  cases g with
  | none =>
    simp only at hl
    obtain ⟨v', x, y⟩ := sim_cell h hi hl
    exact ⟨v', run_load1 x, y⟩
  | some n =>
    simp only at hl
    cases hr : H.readN ⟨i, o, none⟩ n with
    | none => simp [hr] at hl
    | some l =>
      simp only [hr, Option.some.injEq] at hl
      subst hl
      obtain ⟨l', x, y⟩ := run_loadN (P := P) h hi hr
      refine ⟨.agg l'.toArray, by simp [x w rfl], ?_⟩
      have := y.toArray
      exact .agg this.1 this.2

end reads

end Go.AE
set_option linter.unusedVariables false
namespace Go.AE
open Go.RowKit (Below)

section
variable {C : Ctx} {ι : Inj} {H H' : AH} {w : World} {P : Program}

theorem op_store (h : Sim C ι H w) {t : TypeId} {i : TypeInfo} (ht : P.info? t = some i) {p p' x x' : Value} (hp : VR ι p p') (hx : VR ι x x')
    (hs : opStore i.size p x H = some H') : ∃ w', (Instr.storeAt t p' x').run P w = .ok () w' ∧ Step C ι H w ι H' w' := by
  cases hp <;> simp only [opStore] at hs <;> try cases hs
  rename_i k L o hk
  split at hs
  · rename_i hsz
    obtain ⟨w', h1, h2⟩ := step_write h hk hs hx.cells.toList P
    refine ⟨w', ?_, h2⟩
    have hsz' : x'.cells.size = i.size := by rw [← hx.cells.1]; exact hsz
    simp [Instr.storeAt, Instr.sureAddr, storeVar, sizeOf, typeInfo, ht, hsz', h1]
  · cases hs

theorem op_new (h : Sim C ι H w) (hn : ι H.size = none) (es : Nat) {cs cs' : List Value} (t : TypeId) (hv : VRL ι cs cs') :
    (newRow t cs'.toArray).run P w = .ok ⟨w.heap.size, 0, none⟩ (w.alloc (.cells cs'.toArray t)) ∧
      Step C ι H w (upd ι H.size ⟨w.heap.size, 0, cs'.length, es⟩) (H.alloc ⟨cs, es⟩) (w.alloc (.cells cs'.toArray t)) := by
  refine ⟨by simp [newRow], ?_⟩
  have := step_alloc h hn ⟨cs, es⟩ cs'.toArray t (w' := w.alloc (.cells cs'.toArray t)) rfl rfl rfl rfl (Nat.le_refl _) (by simp [hv.1]) (fun j a => ⟨cs'[j]'(by rw [← hv.1]; exact a), by simp, hv.2 j a _⟩)
  simpa using this

theorem toList_data (s : ByteArray) : s.toList = s.data.toList := ByteArray.toList_eq s

theorem op_strBin {op : BinOp} {a b : ByteArray} {v : Value} (h : opStrBin op a b = some v) : (Op.stringOp op a b).run P w = .ok v w := by
  cases op <;> simp only [opStrBin, Option.some.injEq, reduceCtorEq] at h <;> (try subst h) <;> simp only [Op.stringOp, toList_data, Sem.run_pure]
  case add =>
    split at h
    · cases h
      rename_i hle
      have : ¬ (((a.size + b.size : Nat) : Int) > IntKind.i64.max) := by
        have : IntKind.i64.max = 9223372036854775807 := rfl
        omega
      rw [if_neg this]; rfl
    · cases h

theorem op_intBin {op : BinOp} {k : IntKind} {a b : Int} {v : Value} (h : opIntBin op k a b = some v) (h1 : op ≠ .shl) (h2 : op ≠ .shr) (t : TypeId) :
    (binOp op t (.int k a) (.int k b)).run P w = .ok v w := by
  cases op <;> simp only [opIntBin, Option.some.injEq, reduceCtorEq] at h <;> (try subst h) <;> try contradiction
  case quo => split at h <;> cases h; rename_i hb; simp [binOp, Op.intDiv, hb]
  case rem => split at h <;> cases h; rename_i hb; simp [binOp, Op.intDiv, hb]
  all_goals simp [binOp, Op.intArith, Op.intBits, Op.intCmp]

theorem op_eq {t : TypeId} {cst : Bool} {x x' y y' : Value} (hx : VR ι x x') (hy : VR ι y y') {b : Bool} (h : opEq (kindOf P t) cst x y = some b) :
    (Op.equal t x' y').run P w = .ok b w := by
  show (Op.equalIn (9999 + 1) t x' y').run P w = .ok b w
  generalize 9999 = d
  unfold kindOf at h
  cases hu : P.underlying t with
  | none => simp [hu, opEq] at h
  | some dd =>
    cases dd <;> simp only [hu] at h
    case bool =>
      cases hx <;> simp only [opEq, eqBool, reduceCtorEq] at h <;>
        (cases hy <;> simp only [Option.some.injEq, reduceCtorEq] at h <;> (try (split at h)) <;> (try (cases h)) <;> (try subst h) <;> simp [Op.equalIn, run_underlying hu])
    case slice =>
      cases hx <;> simp only [opEq, eqSlice, reduceCtorEq] at h <;>
        (cases hy <;> simp only [Option.some.injEq, reduceCtorEq] at h <;> (try (split at h)) <;> (try (cases h)) <;> (try subst h) <;> simp [Op.equalIn, run_underlying hu])
    case interface =>
      cases hx <;> simp only [opEq, eqIface, reduceCtorEq] at h <;>
        (cases hy <;> simp only [Option.some.injEq, reduceCtorEq] at h <;> (try (split at h)) <;> (try (cases h)) <;> (try subst h) <;> simp [Op.equalIn, run_underlying hu])
    case pointer =>
      cases hx <;> simp only [opEq, eqPtr, reduceCtorEq] at h <;>
        (cases hy <;> simp only [Option.some.injEq, reduceCtorEq] at h <;> (try (split at h)) <;> (try (cases h)) <;> (try subst h) <;> simp [Op.equalIn, run_underlying hu])
    case func =>
      cases hx <;> simp only [opEq, eqFunc, reduceCtorEq] at h <;>
        (cases hy <;> simp only [Option.some.injEq, reduceCtorEq] at h <;> (try (split at h)) <;> (try (cases h)) <;> (try subst h) <;> simp [Op.equalIn, run_underlying hu])
    all_goals simp [opEq] at h

end
end Go.AE
set_option linter.unusedVariables false
namespace Go.AE
open Go.RowKit (Below)

section
variable {C : Ctx} {ι : Inj} {H H' : AH} {w : World} {P : Program}

theorem run_guard {op : BinOp} {t : TypeId} {X Y : Operand} {x y : Value} (hn : x = .nilIface → y = .nilIface → (isConst X || isConst Y) = true) (ha : ∀ xs ys, x = .agg xs → y = .agg ys → False) :
    (eqGuard op t X Y x y).run P w = .ok () w := by
  cases op
  case eql | neq =>
    simp only [eqGuard, Bool.not_true, Bool.false_eq_true, if_false]
    split
    · have hc := hn rfl rfl
      cases X <;> cases Y <;> first | rfl | simp [isConst] at hc
    · exact (ha _ _ rfl rfl).elim
    · rfl
  all_goals rfl

theorem opEq_nil {kd : Nat} {cst b : Bool} (h : opEq kd cst .nilIface .nilIface = some b) : cst = true := by
  unfold opEq at h
  split at h <;> simp_all [eqBool, eqSlice, eqIface, eqPtr, eqFunc]
theorem opEq_agg {kd : Nat} {cst : Bool} {xs ys : Array Value} : opEq kd cst (.agg xs) (.agg ys) = none := by
  unfold opEq
  split <;> simp [eqBool, eqSlice, eqIface, eqPtr, eqFunc]

theorem opBin_eqIface {kd : Nat} {cst : Bool} {op : BinOp} {v : Value} (h : opBin kd cst op .nilIface .nilIface = some v) : cst = true := by
  cases he : opEq kd cst .nilIface .nilIface with
  | none => cases op <;> simp [opBin, he] at h
  | some b => exact opEq_nil he

theorem opBin_agg {kd : Nat} {cst : Bool} {op : BinOp} {xs ys : Array Value} : opBin kd cst op (.agg xs) (.agg ys) = none := by
  cases op <;> simp [opBin, opEq_agg]

theorem op_bin {t : TypeId} {op : BinOp} {X Y : Operand} {x x' y y' v : Value} (hx : VR ι x x') (hy : VR ι y y') (h : opBin (kindOf P t) (isConst X || isConst Y) op x y = some v) :
    ∃ v', (do eqGuard op t X Y x' y'; binOp op t x' y').run P w = .ok v' w ∧ VR ι v v' := by
  have hg : (eqGuard op t X Y x' y').run P w = .ok () w := by
    refine run_guard ?_ ?_
    · intro e1 e2
      subst e1; subst e2
      cases hx; cases hy
      exact opBin_eqIface h
    · intro xs ys e1 e2
      subst e1; subst e2
      cases hx; cases hy
      rw [opBin_agg] at h; cases h
  simp only [Sem.run_bind, hg, Result.andThen_ok]
  unfold opBin at h
  split at h
  · -- two ints
    cases hx; cases hy
    split at h
    · split at h
      · cases h
      · cases h; rename_i hb; exact ⟨_, by simp [binOp, Op.shift, hb], .int _ _⟩
    · split at h
      · cases h
      · cases h; rename_i hb; exact ⟨_, by simp [binOp, Op.shift, hb], .int _ _⟩
    · rename_i h1 h2
      split at h
      · rename_i e
        subst e
        have hr := op_intBin (P := P) (w := w) h h1 h2 t
        refine ⟨v, hr, ?_⟩
        cases op <;> simp only [opIntBin, Option.some.injEq, reduceCtorEq] at h <;> (try split at h) <;> (try cases h) <;> (try subst h) <;> constructor
      · cases h
  · cases hx; cases hy
    have hr := op_strBin (P := P) (w := w) h
    refine ⟨v, by cases op <;> simpa [binOp] using hr, ?_⟩
    cases op <;> simp only [opStrBin, Option.some.injEq, reduceCtorEq] at h <;> (try split at h) <;> (try cases h) <;> (try subst h) <;> constructor
  · rename_i hni hns
    have hb : ∀ b, opEq (kindOf P t) (isConst X || isConst Y) x y = some b → (binOp .eql t x' y').run P w = .ok (.bool b) w ∧ (binOp .neq t x' y').run P w = .ok (.bool !b) w := by
      intro b hb
      have he := op_eq (P := P) (w := w) hx hy hb
      have h1 : binOp .eql t x' y' = (do pure (.bool (← Op.equal t x' y'))) := by
        unfold opEq at hb
        split at hb
        · unfold eqBool at hb; (split at hb <;> try cases hb); (split at hb <;> try cases hb); cases hx; cases hy; rfl
        · unfold eqSlice at hb; (split at hb <;> try cases hb) <;> (split at hb <;> try cases hb) <;> cases hx <;> cases hy <;> rfl
        · unfold eqIface at hb; (split at hb <;> try cases hb) <;> (split at hb <;> try cases hb) <;> cases hx <;> cases hy <;> rfl
        · unfold eqPtr at hb; (split at hb <;> try cases hb) <;> (split at hb <;> try cases hb) <;> cases hx <;> cases hy <;> rfl
        · unfold eqFunc at hb; (split at hb <;> try cases hb) <;> (split at hb <;> try cases hb) <;> cases hx <;> cases hy <;> rfl
        · cases hb
      have h2 : binOp .neq t x' y' = (do pure (.bool (!(← Op.equal t x' y')))) := by
        unfold opEq at hb
        split at hb
        · unfold eqBool at hb; (split at hb <;> try cases hb); (split at hb <;> try cases hb); cases hx; cases hy; rfl
        · unfold eqSlice at hb; (split at hb <;> try cases hb) <;> (split at hb <;> try cases hb) <;> cases hx <;> cases hy <;> rfl
        · unfold eqIface at hb; (split at hb <;> try cases hb) <;> (split at hb <;> try cases hb) <;> cases hx <;> cases hy <;> rfl
        · unfold eqPtr at hb; (split at hb <;> try cases hb) <;> (split at hb <;> try cases hb) <;> cases hx <;> cases hy <;> rfl
        · unfold eqFunc at hb; (split at hb <;> try cases hb) <;> (split at hb <;> try cases hb) <;> cases hx <;> cases hy <;> rfl
        · cases hb
      exact ⟨by rw [h1]; simp [he], by rw [h2]; simp [he]⟩
    split at h
    · cases hq : opEq (kindOf P t) (isConst X || isConst Y) x y with
      | none => simp [hq] at h
      | some b => simp only [hq, Option.some.injEq] at h; subst h; exact ⟨_, (hb b hq).1, .bool _⟩
    · cases hq : opEq (kindOf P t) (isConst X || isConst Y) x y with
      | none => simp [hq] at h
      | some b => simp only [hq, Option.some.injEq] at h; subst h; exact ⟨_, (hb b hq).2, .bool _⟩
    · cases h

theorem op_un {op : UnOp} {x x' v : Value} (hx : VR ι x x') (h : opUn op x = some v) : (Op.unary op x').run P w = .ok v w ∧ VR ι v v := by
  unfold opUn at h
  split at h
  · cases h; cases hx; exact ⟨by simp [Op.unary, Op.intArith], .int _ _⟩
  · cases h; cases hx; exact ⟨by simp [Op.unary], .bool _⟩
  · cases h

theorem op_conv {src dst : TypeId} {d : TypeDesc} {k : IntKind} (hs : P.underlying src = some d) (hd : P.underlying dst = some (.int k)) {x x' v : Value} (hx : VR ι x x') (h : opConv k x = some v) :
    (convert src dst x').run P w = .ok v w ∧ VR ι v v := by
  unfold opConv at h
  split at h
  · cases h; cases hx
    refine ⟨?_, .int _ _⟩
    simp [convert, run_underlying hs, run_underlying hd, Conv.intToInt]
  · cases h

theorem bytesOf_ints {l : List Value} : ∀ {bs : List UInt8}, bytesOf l = some bs → ∃ ns : List Int, l = ns.map (Value.int .u8) ∧ bs = ns.map fun n => UInt8.ofNat n.toNat := by
  induction l with
  | nil => intro bs h; simp [bytesOf] at h; subst h; exact ⟨[], rfl, rfl⟩
  | cons v l ih =>
    intro bs h
    unfold bytesOf at h
    split at h
    · simp at *
    · rename_i n r e
      cases e
      cases hr : bytesOf l with
      | none => simp [hr] at h
      | some l' =>
        simp only [hr, Option.some.injEq] at h
        subst h
        obtain ⟨ns, rfl, rfl⟩ := ih hr
        exact ⟨n :: ns, rfl, rfl⟩
    · cases h

theorem bytesOf_vr {l l' : List Value} (h : VRL ι l l') : ∀ bs, bytesOf l = some bs → l' = l := by
  intro bs hb
  induction l generalizing l' bs with
  | nil => exact List.eq_nil_of_length_eq_zero h.1.symm
  | cons v l ih =>
    cases l' with
    | nil => have := h.1; simp at this
    | cons v' l' =>
      have h0 : VR ι v v' := h.2 0 (Nat.zero_lt_succ _) (Nat.zero_lt_succ _)
      have ht : VRL ι l l' := ⟨by simpa using h.1, fun j a b => h.2 (j + 1) (Nat.succ_lt_succ a) (Nat.succ_lt_succ b)⟩
      unfold bytesOf at hb
      split at hb
      · simp at *
      · rename_i n r e
        cases e
        cases h0
        cases hr : bytesOf l with
        | none => simp [hr] at hb
        | some bs' => rw [ih ht bs' hr]
      · cases hb

theorem op_bytesToStr (h : Sim C ι H w) {src dst e : TypeId} (hs : P.underlying src = some (.slice e)) (he : P.underlying e = some (.int .u8)) (hd : P.underlying dst = some .string)
    {x x' v : Value} (hx : VR ι x x') (ho : opBytesToStr x H = some v) : (convert src dst x').run P w = .ok v w ∧ VR ι v v := by
  unfold opBytesToStr at ho
  split at ho
  · cases ho; cases hx
    exact ⟨by simp [convert, run_underlying hs, run_underlying hd, run_underlying he, Conv.bytesToString], .string _⟩
  · rename_i a n c
    cases hr : H.readN a n with
    | none => simp [hr] at ho
    | some l =>
      simp only [hr] at ho
      cases hb : bytesOf l with
      | none => simp [hb] at ho
      | some bs =>
        simp only [hb, Option.some.injEq] at ho
        subst ho
        refine ⟨?_, .string _⟩
        obtain ⟨ns, hl, hbs⟩ := bytesOf_ints hb
        have fin : ∀ (a' : Addr) (c' : Nat), (∀ j v, l[j]? = some v → w.cell? (a'.add j) = some v) → l.length = n → (convert src dst (.slice (some a') n c')).run P w = .ok (.string ⟨bs.toArray⟩) w := by
          intro a' c' hl' hn
          subst hl
          have hlc := run_loadCells_list (P := P) w a' _ hl'
          rw [hn] at hlc
          rw [run_convert_bytes_string w src dst e (some a') n c' hs he hd, run_bytesToString w a' n c' ns hlc]
          have hf : ∀ (ns : List Int) (s : ByteArray), ns.foldl (fun r n => r.push (UInt8.ofNat n.toNat)) s = ⟨s.data ++ (ns.map fun n => UInt8.ofNat n.toNat).toArray⟩ := by
            intro ns
            induction ns with
            | nil => intro s; simp
            | cons n ns ih => intro s; simp only [List.foldl_cons, ih]; simp [ByteArray.push]
          rw [hf, hbs]
          simp [ByteArray.empty, ByteArray.emptyWithCapacity]
          rfl
        cases hx with
        | sliceE a b =>
          have : l = [] := by
            obtain ⟨i, o, s⟩ := a
            cases s <;> simp only [AH.readN] at hr
            · split at hr
              · split at hr
                · cases hr; simp
                · cases hr
              · cases hr
            · cases hr
          subst this
          exact fin b 0 (by simp) rfl
        | slice o n hi hc hr' =>
          obtain ⟨l', h1, h2, h3⟩ := sim_cells h hi hr
          have := bytesOf_vr h3 bs hb
          subst this
          exact fin _ _ h1 h2
  · cases ho

end
end Go.AE
set_option linter.unusedVariables false
namespace Go.AE
open Go.RowKit (Below)

section
variable {C : Ctx} {ι : Inj} {H H' : AH} {w : World} {P : Program}

theorem VRA.set {xs ys : Array Value} (h : VRA ι xs ys) {x y : Value} (hv : VR ι x y) (i : Nat) : VRA ι (xs.setIfInBounds i x) (ys.setIfInBounds i y) := by
  refine ⟨by simp [h.1], fun j a b => ?_⟩
  rw [Array.getElem_setIfInBounds, Array.getElem_setIfInBounds]
  split
  · exact hv
  · exact h.2 j (by simpa using a) (by simpa using b)

theorem fold_vr {xs ys : Array Value} (h : VRL ι xs.toList ys.toList) (off : Nat) : ∀ (k : Nat) {cs ds : Array Value}, VRA ι cs ds →
    VRA ι ((xs.toList.zipIdx k).foldl (fun cs (p : Value × Nat) => cs.setIfInBounds (off + p.2) p.1) cs) ((ys.toList.zipIdx k).foldl (fun cs (p : Value × Nat) => cs.setIfInBounds (off + p.2) p.1) ds) := by
  generalize xs.toList = xs at h
  generalize ys.toList = ys at h
  induction xs generalizing ys with
  | nil => intro k cs ds hc; have := List.eq_nil_of_length_eq_zero h.1.symm; subst this; exact hc
  | cons x xs ih =>
    intro k cs ds hc
    cases ys with
    | nil => have := h.1; simp at this
    | cons y ys =>
      have h0 : VR ι x y := h.2 0 (Nat.zero_lt_succ _) (Nat.zero_lt_succ _)
      have ht : VRL ι xs ys := ⟨by simpa using h.1, fun j a b => h.2 (j + 1) (Nat.succ_lt_succ a) (Nat.succ_lt_succ b)⟩
      simp only [List.zipIdx_cons, List.foldl_cons]
      exact ih ys ht (k + 1) (hc.set h0 _)

theorem fold_zip (f : Array Value → Value × Nat → Array Value) (xs cs : Array Value) : Array.foldl f cs xs.zipIdx = (xs.toList.zipIdx 0).foldl f cs := by
  rw [← Array.foldl_toList, Array.toList_zipIdx]

theorem fill_vr (place : Nat → Option (Nat × Nat)) (e e' : Operand → Value) : ∀ (l : List (Nat × Operand)), (∀ p ∈ l, VR ι (e p.2) (e' p.2)) → ∀ {cs ds r : Array Value}, VRA ι cs ds →
    Instr.fill place cs (l.map fun p => (p.1, e p.2)) = some r → ∃ r', Instr.fill place ds (l.map fun p => (p.1, e' p.2)) = some r' ∧ VRA ι r r' := by
  intro l
  induction l with
  | nil => intro _ cs ds r hc h; simp [Instr.fill] at h ⊢; subst h; exact hc
  | cons p l ih =>
    intro hp cs ds r hc h
    simp only [List.map_cons, Instr.fill] at h ⊢
    cases hpl : place p.1 with
    | none => simp [hpl] at h
    | some q =>
      obtain ⟨off, size⟩ := q
      have hv := hp p (by simp)
      have hcs := hv.cells
      simp only [hpl] at h ⊢
      have e1 : (e' p.2).cells.size = (e p.2).cells.size := hcs.1.symm
      have e2 : ds.size = cs.size := hc.1.symm
      rw [e1, e2]
      split at h
      · cases h
      · rename_i hn
        rw [if_neg hn]
        refine ih (fun q hq => hp q (by simp [hq])) (cs := _) (ds := _) ?_ h
        have := fold_vr (ι := ι) hcs.toList off 0 hc
        rw [← fold_zip, ← fold_zip] at this
        exact this

theorem op_build {t : TypeId} {it : TypeInfo} {fields : Array Field} {z : Value} {places : List (Nat × Nat)} (hit : P.info? t = some it) (hu : P.underlying t = some (.struct fields)) (hz : it.zero = some z)
    (hp : fields.toList.mapM (fun f => (P.info? f.type).map fun i => (f.offset, i.size)) = some places) (hpl : plainA z.cells = true) {e e' : Operand → Value} {parts : Array (Nat × Operand)} (hv : ∀ p ∈ parts.toList, VR ι (e p.2) (e' p.2))
    {cs : Array Value} (hf : Instr.fill (places.toArray[·]?) z.cells (parts.toList.map fun p => (p.1, e p.2)) = some cs) :
    ∃ v', (Instr.build t (parts.map fun p => (p.1, e' p.2))).run P w = .ok v' w ∧ VR ι (.agg cs) v' := by
  obtain ⟨r', h1, h2⟩ := fill_vr (ι := ι) (fun x => places.toArray[x]?) e e' parts.toList hv (plainA_vr hpl ι) hf
  refine ⟨.agg r', run_build w t _ r' ?_, .agg h2.1 h2.2⟩
  unfold Program.built
  simp only [hit, hu, hz, hp]
  rw [Array.toList_map]
  exact h1

theorem elemInfo_some {t : TypeId} {es by_ : Nat} {z : Array Value} (h : elemInfo P t = some (es, by_, z)) :
    ∃ e i zv, P.underlying t = some (.slice e) ∧ P.info? e = some i ∧ i.zero = some zv ∧ i.size = es ∧ i.bytes = by_ ∧ zv.cells = z ∧ z.size = es := by
  unfold elemInfo at h
  split at h
  · rename_i e hu
    split at h
    · rename_i i hi
      split at h
      · rename_i zv hz
        split at h
        · rename_i hs
          simp only [Option.some.injEq, Prod.mk.injEq] at h
          obtain ⟨rfl, rfl, rfl⟩ := h
          exact ⟨e, i, zv, hu, hi, hz, rfl, rfl, rfl, hs⟩
        · cases h
      · cases h
    · cases h
  · cases h

theorem zeros_vr {z : Array Value} (hz : plainA z = true) (n : Nat) (hn : n = 0 ∨ 0 < z.size) : VRA ι ((Array.range n).map (z[· % z.size]!)) ((Array.range n).map (z[· % z.size]!)) := by
  refine ⟨rfl, fun j a b => ?_⟩
  simp at a
  have hlt : j % z.size < z.size := Nat.mod_lt _ (by omega)
  have := (plainA_vr hz ι).2 (j % z.size) hlt hlt
  simpa [getElem!_pos z (j % z.size) hlt] using this

theorem op_buildSlice (h : Sim C ι H w) (hn : ι H.size = none) {t : TypeId} {es by_ n : Nat} {z : Array Value} (hi : elemInfo P t = some (es, by_, z)) (hpl : plainA z = true) (hsz : n * es ≤ 16777216)
    {e e' : Operand → Value} {parts : Array (Nat × Operand)} (hv : ∀ p ∈ parts.toList, VR ι (e p.2) (e' p.2)) {cs : Array Value}
    (hf : Instr.fill (fun i => some (i * es, es)) ((Array.range (n * es)).map ((if n * es = 0 then #[] else z)[· % (if n * es = 0 then #[] else z).size]!)) (parts.toList.map fun p => (p.1, e p.2)) = some cs) :
    ∃ v' w' ι', (Instr.buildSlice t n (parts.map fun p => (p.1, e' p.2))).run P w = .ok v' w' ∧ Step C ι H w ι' (H.alloc ⟨cs.toList, es⟩) w' ∧ VR ι' (.slice (some ⟨H.size, 0, none⟩) n n) v' := by
  obtain ⟨el, i, zv, hu, hie, hz, rfl, rfl, rfl, hzs⟩ := elemInfo_some hi
  have hzr : VRA ι ((Array.range (n * i.size)).map ((if n * i.size = 0 then #[] else zv.cells)[· % (if n * i.size = 0 then #[] else zv.cells).size]!)) ((Array.range (n * i.size)).map ((if n * i.size = 0 then #[] else zv.cells)[· % (if n * i.size = 0 then #[] else zv.cells).size]!)) := by
    by_cases h0 : n * i.size = 0
    · rw [if_pos h0]
      exact zeros_vr (by simp [plainA]) _ (.inl h0)
    · rw [if_neg h0]
      exact zeros_vr hpl _ (.inr (by rw [hzs]; exact Nat.pos_of_ne_zero fun e => h0 (by rw [e]; omega)))
  obtain ⟨r', h1, h2⟩ := fill_vr (ι := ι) _ e e' parts.toList hv hzr hf
  obtain ⟨hr, hst⟩ := op_new (P := P) h hn i.size el h2.toList
  have hlen : ∀ {cs r : Array Value} {l : List (Nat × Value)} {pl : Nat → Option (Nat × Nat)}, Instr.fill pl cs l = some r → r.size = cs.size := by
    intro cs r l pl
    induction l generalizing cs with
    | nil => intro h; simp [Instr.fill] at h; rw [h]
    | cons p l ih =>
      intro h
      simp only [Instr.fill] at h
      split at h
      · cases h
      · split at h
        · cases h
        · rw [ih h]
          rename_i off size _ _
          have : ∀ (l : List (Value × Nat)) (cs : Array Value), (l.foldl (fun cs (c : Value × Nat) => cs.setIfInBounds (off + c.2) c.1) cs).size = cs.size := by
            intro l
            induction l with
            | nil => intro cs; rfl
            | cons q l ih => intro cs; simp [ih]
          have h2 := this (p.2.cells.toList.zipIdx 0) cs
          rw [← fold_zip] at h2
          exact h2
  have hsize : r'.size = n * i.size := by rw [hlen h1]; simp
  refine ⟨.slice (some ⟨w.heap.size, 0, none⟩) n n, _, _, ?_, hst, ?_⟩
  · have hsz' : ¬ n * i.size > 2 ^ 24 := by omega
    by_cases h0 : n * i.size = 0
    · have h1' := h1
      rw [if_pos h0] at h1'
      rw [← Array.toList_map] at h1'
      simp [Instr.buildSlice, run_underlying hu, sizeOf, typeInfo, hie, h0] at h1' ⊢
      simp [h1', newRow]
    · rw [if_neg h0] at h1
      have := run_buildSlice (P := P) w t el n (parts.map fun p => (p.1, e' p.2)) r' i zv hu hie hz hsz' h0 (by rw [Array.toList_map]; exact h1)
      simpa using this
  · refine (VR.slice (L := ⟨w.heap.size, 0, r'.toList.length, i.size⟩) 0 n (upd_self _ _ _) (Nat.le_refl n) ?_)
    show 0 + n * i.size ≤ r'.toList.length
    simp [hsize]

end
end Go.AE
set_option linter.unusedVariables false
namespace Go.AE
open Go.RowKit (Below)

section
variable {C : Ctx} {ι : Inj} {H H' : AH} {w : World} {P : Program}

theorem op_makeSlice (h : Sim C ι H w) (hn : ι H.size = none) {t : TypeId} {es by_ : Nat} {z : Array Value} (hi : elemInfo P t = some (es, by_, z)) (hpl : plainA z = true)
    {l l' c c' v : Value} (hl : VR ι l l') (hc : VR ι c c') (ho : opMakeSlice es by_ z l c H = some (v, H')) :
    ∃ v' w' ι', (Instr.makeSlice t l' c').run P w = .ok v' w' ∧ Step C ι H w ι' H' w' ∧ VR ι' v v' := by
  obtain ⟨el, i, zv, hu, hie, hz, rfl, rfl, rfl, hzs⟩ := elemInfo_some hi
  unfold opMakeSlice at ho
  split at ho
  · rename_i kl ln kc cn
    cases hl; cases hc
    split at ho
    · rename_i hb
      obtain ⟨h0, hlc, hcm, hby⟩ := hb
      cases ho
      have hbytes : (i.bytes : Int) * cn ≤ 281474976710656 := by
        have h1 : (i.bytes : Int) * cn ≤ 256 * cn := Int.mul_le_mul_of_nonneg_right (by omega) (by omega)
        omega
      have hr := run_make (P := P) w t el i zv hu hie hz kl kc ln cn h0 hlc hbytes (by omega)
      have hvr : VRL ι (zerosA zv.cells (cn.toNat * i.size)) (madeCells zv.cells (cn.toNat * i.size)).toList := by
        have := zeros_vr (ι := ι) (z := zv.cells) hpl (cn.toNat * i.size) (by
          rw [hzs]
          rcases Nat.eq_zero_or_pos i.size with e | e
          · left; rw [e]; omega
          · right; exact e)
        have e : (zerosA zv.cells (cn.toNat * i.size)) = ((Array.range (cn.toNat * i.size)).map (zv.cells[· % zv.cells.size]!)).toList := by
          simp [zerosA]
        rw [e]
        exact this.toList
      obtain ⟨_, hst⟩ := op_new (P := P) h hn i.size el hvr
      refine ⟨_, _, _, hr, by simpa using hst, ?_⟩
      refine (VR.slice (L := ⟨w.heap.size, 0, (madeCells zv.cells (cn.toNat * i.size)).toList.length, i.size⟩) 0 ln.toNat (upd_self _ _ _) (Nat.le_refl _) ?_)
      show 0 + cn.toNat * i.size ≤ (madeCells zv.cells (cn.toNat * i.size)).toList.length
      simp [size_madeCells]
    · cases ho
  · cases ho

theorem bound_vr {x x' : Option Value} (h : match x, x' with | none, none => True | some a, some b => VR ι a b | _, _ => False) {d : Nat} {n : Int} (hb : bound x d = some n) :
    (x = none ∧ x' = none ∧ n = d) ∨ ∃ k, x' = some (.int k n) := by
  cases x with
  | none => cases x' with | none => simp [bound] at hb; exact .inl ⟨rfl, rfl, hb.symm⟩ | some b => exact h.elim
  | some a =>
    cases x' with
    | none => exact h.elim
    | some b =>
      cases h <;> simp [bound] at hb
      subst hb
      exact .inr ⟨_, rfl⟩

def VO (ι : Inj) (x x' : Option Value) : Prop := match x, x' with | none, none => True | some a, some b => VR ι a b | _, _ => False

theorem run_sliceBound {k : IntKind} {n : Int} {y : Nat} {c : BoundsCode} (h : 0 ≤ n ∧ n ≤ y) : (Instr.sliceBound (.int k n) y c).run P w = .ok n.toNat w := by
  simp [Instr.sliceBound, asIntOf, h]

theorem run_bounds (isSlice : Bool) {lo lo' hi hi' : Option Value} (h1 : VO ι lo lo') (h2 : VO ι hi hi') {n cap : Nat} {l h : Int} (e1 : bound lo 0 = some l) (e2 : bound hi n = some h)
    (h0 : 0 ≤ l) (hlh : l ≤ h) (hc : h ≤ cap) : (Instr.sliceBounds isSlice n cap lo' hi' none).run P w = .ok (l.toNat, h.toNat, cap) w := by
  rcases bound_vr h1 e1 with ⟨_, rfl, rfl⟩ | ⟨k1, rfl⟩ <;> rcases bound_vr h2 e2 with ⟨_, rfl, rfl⟩ | ⟨k2, rfl⟩
  · simp [Instr.sliceBounds]
  · simp [Instr.sliceBounds, run_sliceBound (P := P) (w := w) (show 0 ≤ h ∧ h ≤ (cap : Int) from ⟨by omega, hc⟩)]
  · simp [Instr.sliceBounds, run_sliceBound (P := P) (w := w) (show 0 ≤ l ∧ l ≤ (n : Int) from ⟨h0, hlh⟩)]
  · have hl : 0 ≤ l ∧ l ≤ ((h.toNat : Nat) : Int) := ⟨h0, by omega⟩
    simp [Instr.sliceBounds, run_sliceBound (P := P) (w := w) (show 0 ≤ h ∧ h ≤ (cap : Int) from ⟨by omega, hc⟩), run_sliceBound (P := P) (w := w) hl]

theorem op_sliceStr {t : TypeId} (ht : P.underlying t = some .string) {x x' v : Value} {lo lo' hi hi' : Option Value} (hx : VR ι x x') (h1 : VO ι lo lo') (h2 : VO ι hi hi') (ho : opSliceStr x lo hi = some v) :
    (Instr.sliceAt t x' lo' hi' none).run P w = .ok v w ∧ VR ι v v := by
  unfold opSliceStr at ho
  split at ho
  · rename_i s
    cases hx
    split at ho
    · rename_i l h e1 e2
      split at ho
      · rename_i hb
        cases ho
        have hr := run_bounds (P := P) (w := w) false h1 h2 e1 e2 hb.1 hb.2.1 hb.2.2
        refine ⟨?_, .string _⟩
        simp [Instr.sliceAt, run_underlying ht, Instr.slice, hr]
      · cases ho
    · cases ho
  · cases ho

theorem op_sliceSl (hs : Sim C ι H w) {t e : TypeId} {i : TypeInfo} (ht : P.underlying t = some (.slice e)) (hi : P.info? e = some i) {x x' v : Value} {lo lo' up up' : Option Value} (hx : VR ι x x') (h1 : VO ι lo lo') (h2 : VO ι up up')
    (ho : opSliceSl i.size x lo up H = some v) :
    ∃ v', (Instr.sliceAt t x' lo' up' none).run P w = .ok v' w ∧ VR ι v v' := by
  unfold opSliceSl at ho
  split at ho
  · rename_i a n c
    split at ho
    · rename_i l h e1 e2
      split at ho
      · rename_i hb
        obtain ⟨h0, hlh, hc⟩ := hb
        split at ho
        · cases ho
          cases hx
          have hr := run_bounds (P := P) (w := w) true h1 h2 e1 e2 h0 hlh hc
          have hl0 : l = 0 := by omega
          have hh0 : h = 0 := by omega
          subst hl0; subst hh0
          exact ⟨.slice none 0 0, by simp [Instr.sliceAt, run_underlying ht, Instr.slice, hr, sizeOf, typeInfo, hi], .sliceNil⟩
        · rename_i k o
          split at ho
          · rename_i hc0
            subst hc0
            cases ho
            have hl0 : l = 0 := by omega
            have hh0 : h = 0 := by omega
            subst hl0; subst hh0
            cases hx with
            | sliceE a b =>
              have hr := run_bounds (P := P) (w := w) true h1 h2 e1 e2 h0 hlh hc
              exact ⟨.slice (some b) 0 0, by simp [Instr.sliceAt, run_underlying ht, Instr.slice, hr, sizeOf, typeInfo, hi], .sliceE _ _⟩
            | slice _ _ hk hcc hrr =>
              rename_i L c'
              have hr := run_bounds (P := P) (w := w) (cap := c') true h1 h2 e1 e2 h0 hlh (by omega)
              refine ⟨.slice (some ⟨L.blk, L.base + o, none⟩) 0 c', ?_, .slice o 0 hk hcc hrr⟩
              simp [Instr.sliceAt, run_underlying ht, Instr.slice, hr, sizeOf, typeInfo, hi, Addr.add]
          · rename_i hc0
            split at ho
            · rename_i b hb
              split at ho
              · rename_i hes
                cases ho
                cases hx with
                | sliceE a b => exact absurd rfl hc0
                | slice _ _ hk hcc hrr =>
                  rename_i L c'
                  have hr := run_bounds (P := P) (w := w) (cap := c') true h1 h2 e1 e2 h0 hlh (by omega)
                  obtain ⟨cs, tt, fr, a1, a2, a3, a4, a5, a6⟩ := hs.live k L b hk hb
                  by_cases hcl : c' = l.toNat
                  · subst hcl
                    refine ⟨.slice (some ⟨L.blk, L.base + o, none⟩) (h.toNat - l.toNat) (l.toNat - l.toNat), ?_, ?_⟩
                    · simp [Instr.sliceAt, run_underlying ht, Instr.slice, hr, sizeOf, typeInfo, hi]
                    · have z1 : h.toNat - l.toNat = 0 := by omega
                      have z2 : c - l.toNat = 0 := by omega
                      have z3 : l.toNat - l.toNat = 0 := by omega
                      rw [z1, z2, z3]
                      exact .sliceE _ _
                  · refine ⟨.slice (some ⟨L.blk, L.base + (o + l.toNat * i.size), none⟩) (h.toNat - l.toNat) (c' - l.toNat), ?_, .slice _ _ hk (by omega) ?_⟩
                    · simp [Instr.sliceAt, run_underlying ht, Instr.slice, hr, sizeOf, typeInfo, hi, hcl, add_lit, Nat.add_assoc]
                    · rw [← hes, ← a5]
                      have : c' * L.es = l.toNat * L.es + (c' - l.toNat) * L.es := by rw [← Nat.add_mul]; congr 1; omega
                      omega
              · cases ho
            · cases ho
        · cases ho
      · cases ho
    · cases ho
  · cases ho

theorem op_fieldAddr {t : TypeId} {fields : Array Field} {f : Nat} {fd : Field} {i : TypeInfo} (ht : P.underlying t = some (.struct fields)) (hf : fields[f]? = some fd) (hi : P.info? fd.type = some i) (hz : i.size ≠ 0)
    {x x' v : Value} (hx : VR ι x x') (ho : opFieldAddr fd.offset x = some v) : ∃ v', (Instr.fieldAt t x' f).run P w = .ok v' w ∧ VR ι v v' := by
  unfold opFieldAddr at ho
  split at ho
  · rename_i k o
    cases ho
    cases hx with
    | ptr _ hk =>
      rename_i L
      refine ⟨.pointer (some ⟨L.blk, L.base + (o + fd.offset), none⟩), ?_, .ptr _ hk⟩
      simp [Instr.fieldAt, run_underlying ht, hf, Instr.sureAddr, fieldPlace, sizeOf, typeInfo, hi, hz, add_lit, Nat.add_assoc]
  · cases ho

theorem op_field {t : TypeId} {fields : Array Field} {f : Nat} {fd : Field} {g : Option Nat} (ht : P.underlying t = some (.struct fields)) (hf : fields[f]? = some fd) (hg : aggOf P fd.type = some g)
    {x x' v : Value} (hx : VR ι x x') (ho : opField g fd.offset x = some v) : ∃ v', (Instr.field t x' f).run P w = .ok v' w ∧ VR ι v v' := by
  unfold opField at ho
  split at ho
  · rename_i cs
    cases hx with
    | agg h1 h2 =>
      rename_i ds
      unfold aggOf at hg
      cases hu : P.underlying fd.type with
      | none => simp [hu] at hg
      | some d =>
        cases hi : P.info? fd.type with
        | none => simp [hu, hi] at hg
        | some i =>
          cases g with
          | some n =>
            cases ho
            have hrun : (part fd.type ds fd.offset).run P w = .ok (.agg (ds.extract fd.offset (fd.offset + n))) w := by
              cases d <;> simp only [hu, hi, Option.some.injEq, reduceCtorEq] at hg <;> subst hg <;> simp [part, isAgg, run_underlying hu, sizeOf, typeInfo, hi]
            refine ⟨_, by simp [Instr.field, run_underlying ht, hf, asAgg, hrun]; rfl, .agg (by simp [h1]) fun j a b => ?_⟩
            simp only [Array.getElem_extract]
            exact h2 _ _ _
          | none =>
            simp only at ho
            obtain ⟨hlt, hv⟩ := Array.getElem?_eq_some_iff.1 ho
            have hd : ds[fd.offset]? = some ds[fd.offset] := Array.getElem?_eq_getElem (by omega)
            have hrun : (part fd.type ds fd.offset).run P w = .ok ds[fd.offset] w := by
              cases d <;> simp only [hu, hi, Option.some.injEq, reduceCtorEq] at hg <;> simp [part, isAgg, run_underlying hu, hd]
            exact ⟨_, by simp [Instr.field, run_underlying ht, hf, asAgg, hrun]; rfl, by rw [← hv]; exact h2 _ _ _⟩
  · cases ho

theorem op_indexAddr {t e : TypeId} {i : TypeInfo} (ht : P.underlying t = some (.slice e)) (hi : P.info? e = some i) {x x' k k' v : Value} (hx : VR ι x x') (hk : VR ι k k') (ho : opIndexAddr i.size x k = some v) :
    ∃ v', (Instr.indexAt t x' k').run P w = .ok v' w ∧ VR ι v v' := by
  unfold opIndexAddr at ho
  split at ho
  · rename_i b o n c kd m
    split at ho
    · rename_i hb
      cases ho
      cases hk
      cases hx with
      | sliceE a b => omega
      | slice _ _ hi' hcc hrr =>
        rename_i L c'
        refine ⟨.pointer (some ⟨L.blk, L.base + (o + m.toNat * i.size), none⟩), ?_, .ptr _ hi'⟩
        simp [Instr.indexAt, asIntOf, run_underlying ht, hb, sizeOf, typeInfo, hi, add_lit, Nat.add_assoc]
    · cases ho
  · cases ho

theorem op_indexStr {t : TypeId} (ht : P.underlying t = some .string) {x x' k k' v : Value} (hx : VR ι x x') (hk : VR ι k k') (ho : opIndexStr x k = some v) :
    (Instr.index t x' k').run P w = .ok v w ∧ VR ι v v := by
  unfold opIndexStr at ho
  split at ho
  · rename_i s kd m
    cases hx; cases hk
    split at ho
    · rename_i h0
      split at ho
      · rename_i b hb
        cases ho
        refine ⟨?_, .int _ _⟩
        have : s[m.toNat]? = some b := by
          obtain ⟨hlt, hv⟩ := Array.getElem?_eq_some_iff.1 hb
          have hlt' : m.toNat < s.size := hlt
          rw [getElem?_pos s m.toNat hlt', ← hv]; rfl
        simp [Instr.index, asIntOf, run_underlying ht, h0, this]
      · cases ho
    · cases ho
  · cases ho

theorem op_extract {x x' v : Value} {i : Nat} (hx : VR ι x x') (ho : opExtract x i = some v) : ∃ v', (Instr.extract x' i).run P w = .ok v' w ∧ VR ι v v' := by
  unfold opExtract at ho
  split at ho
  · cases hx with
    | tuple h1 h2 =>
      rename_i vs ds
      obtain ⟨hlt, hv⟩ := Array.getElem?_eq_some_iff.1 ho
      have hd : ds[i]? = some ds[i] := Array.getElem?_eq_getElem (by omega)
      exact ⟨ds[i], by simp [Instr.extract, hd], by rw [← hv]; exact h2 _ _ _⟩
  · cases ho

theorem op_lenStr {t ty : TypeId} (ht : P.underlying t = some .string) {x x' v : Value} (hx : VR ι x x') (ho : opLen true x = some v) :
    (Builtin.len_ #[t] ty #[x']).run P w = .ok v w ∧ VR ι v v := by
  unfold opLen at ho
  split at ho
  · cases ho; cases hx
    exact ⟨by simp [Builtin.len_, run_underlying ht, goInt], .int _ _⟩
  · contradiction
  · cases ho

theorem op_lenSl {t ty e : TypeId} (ht : P.underlying t = some (.slice e)) {x x' v : Value} (hx : VR ι x x') (ho : opLen false x = some v) :
    (Builtin.len_ #[t] ty #[x']).run P w = .ok v w ∧ VR ι v v := by
  unfold opLen at ho
  split at ho
  · contradiction
  · cases ho
    cases hx <;> exact ⟨by simp [Builtin.len_, run_underlying ht, goInt], .int _ _⟩
  · cases ho

/-- what append and copy read -/
theorem srcLen_vr {x x' : Value} (hx : VR ι x x') {n : Nat} (h : srcLen x = some n) : (Builtin.lenOf x').run P w = .ok n w := by
  unfold srcLen at h
  split at h
  · cases h; cases hx <;> rfl
  · cases h; cases hx; rfl
  · cases h

theorem readN_zero {a : Addr} {l : List Value} (h : H.readN a 0 = some l) : l = [] := by
  obtain ⟨i, o, s⟩ := a
  cases s <;> simp only [AH.readN] at h
  · split at h
    · split at h
      · cases h; simp
      · cases h
    · cases h
  · cases h

theorem readN_len {a : Addr} {n : Nat} {l : List Value} (h : H.readN a n = some l) : l.length = n := by
  obtain ⟨i, o, s⟩ := a
  cases s <;> simp only [AH.readN] at h
  · split at h
    · split at h
      · cases h; simp; omega
      · cases h
    · cases h
  · cases h

theorem srcCells_vr (hs : Sim C ι H w) {x x' : Value} (hx : VR ι x x') {es n m : Nat} (hn : srcLen x = some m) (hnm : n ≤ m) {l : List Value} (h : srcCells es n x H = some l) :
    ∃ l' : List Value, (∀ w', w'.heap = w.heap → (Builtin.firstCells es n x').run P w' = .ok l'.toArray w') ∧ VRL ι l l' ∧ l.length = n * es := by
  unfold srcCells at h
  split at h
  · rename_i a k c
    have hlen := readN_len h
    cases hx with
    | sliceE a b =>
      have hk : n = 0 := by simp [srcLen] at hn; omega
      subst hk
      simp only [Nat.zero_mul] at h
      have := readN_zero h
      subst this
      exact ⟨[], fun w' _ => by simp [Builtin.firstCells, loadCells, loadCellsFrom], .nil ι, by simp⟩
    | slice o k hi hc hr =>
      obtain ⟨l', h1, h2⟩ := run_loadN (P := P) hs hi h
      exact ⟨l', fun w' e => by simpa [Builtin.firstCells] using h1 w' e, h2, hlen⟩
  · cases h
    cases hx
    have hk : n = 0 := by simp [srcLen] at hn; omega
    subst hk
    exact ⟨[], fun w' _ => by simp [Builtin.firstCells], .nil ι, by simp⟩
  · rename_i s
    split at h
    · rename_i he
      subst he
      cases h
      cases hx
      simp only [srcLen, Option.some.injEq] at hn
      have hsz : s.data.toList.length = s.size := Array.length_toList
      have hd : (s.extract 0 n).data.toList = s.data.toList.take n := by rw [Lib.extract_data, List.drop_zero, Nat.sub_zero]
      refine ⟨(s.data.toList.take n).map fun b => .int .u8 b.toNat, fun w' _ => ?_, VRL.map _ _ _ fun b _ => .int _ _, ?_⟩
      · simp only [Builtin.firstCells, Sem.run_pure, ← hd]
        congr 1
        apply Array.toList_inj.1
        simp
      · rw [List.length_map, List.length_take, hsz]; omega
    · cases h
  · cases h

end
end Go.AE
set_option linter.unusedVariables false
namespace Go.AE
open Go.RowKit (Below)

section
variable {C : Ctx} {ι : Inj} {H H' : AH} {w : World} {P : Program}

theorem write_nil {a : Addr} (h : H.write a [] = some H') (hs : Sim C ι H w) : Step C ι H w ι H' w := by
  obtain ⟨i, o, s⟩ := a
  cases s with
  | some s => simp [AH.write] at h
  | none =>
    simp only [AH.write] at h
    cases hb : H.get i with
    | none => simp [hb] at h
    | some b =>
      simp only [hb] at h
      split at h
      · rename_i hc
        cases h
        have hsp : splice b.cells o [] = b.cells := by simp [splice]
        rw [hsp]
        have hg : ∀ j, (H.put i (some ⟨b.cells, b.es⟩)).get j = H.get j := by
          intro j
          rw [AH.get_put]
          split
          · rename_i e; rw [e.1, hb]
          · rfl
        refine ⟨.refl ι, fun j M h1 h2 => (by rw [h2] at h1; cases h1), by simp, rfl, Nat.le_refl _, fun _ _ _ => rfl, ?_⟩
        exact ⟨hs.below, hs.top, hs.ro, by simpa using hs.lo, fun j L b' x y => hs.live j L b' x (by rw [← hg]; exact y), hs.own, hs.arg, hs.inw,
          fun j k L M x y r1 r2 hne g1 g2 => hs.dis j k L M x y r1 r2 hne (by rw [← hg]; exact g1) (by rw [← hg]; exact g2), hs.dr⟩
      · cases h

theorem run_copy_gen {t e : TypeId} {i : TypeInfo} (ht : P.underlying t = some (.slice e)) (hi : P.info? e = some i) {u ty : TypeId} {base : Option Addr} {n c m q : Nat} {s' : Value}
    (hl : (Builtin.lenOf s').run P w = .ok m w) (hq : Nat.min m n = q) {l' : List Value} (h1 : (Builtin.firstCells i.size q s').run P w = .ok l'.toArray w) :
    (Builtin.copy_ #[t, u] ty #[.slice base n c, s']).run P w = (match base with
      | some a => ((storeCells a l').run P w).andThen fun _ w => .ok (.int .i64 q) w
      | none => .ok (.int .i64 q) w) := by
  have e1 : (sizeOf e).run P w = .ok i.size w := by simp [sizeOf, typeInfo, hi]
  simp only [Builtin.copy_, List.getElem?_toArray, List.getElem?_cons_zero, List.getElem?_cons_succ, Sem.run_bind, run_underlying ht, Result.andThen_ok, hl, hq, e1, h1]
  cases base with
  | none => rfl
  | some a => simp only [Sem.run_bind]; rfl

theorem op_copy (hs : Sim C ι H w) {t e : TypeId} {i : TypeInfo} (ht : P.underlying t = some (.slice e)) (hi : P.info? e = some i) {u ty : TypeId}
    {d d' s s' v : Value} (hd : VR ι d d') (hs' : VR ι s s') (ho : opCopy i.size d s H = some (v, H')) :
    ∃ w', (Builtin.copy_ #[t, u] ty #[d', s']).run P w = .ok v w' ∧ Step C ι H w ι H' w' ∧ VR ι v v := by
  unfold opCopy at ho
  split at ho
  · rename_i base n c m hm
    have hqm : min m n ≤ m := Nat.min_le_left _ _
    have hqn : min m n ≤ n := Nat.min_le_right _ _
    have hmin : Nat.min m n = min m n := rfl
    generalize min m n = q at *
    cases hc : srcCells i.size q s H with
    | none => simp [hc] at ho
    | some new =>
      simp only [hc] at ho
      obtain ⟨l', h1, h2, h3⟩ := srcCells_vr (P := P) hs hs' hm hqm hc
      have hl := srcLen_vr (P := P) (w := w) hs' hm
      cases base with
      | none =>
        simp only [Option.some.injEq, Prod.mk.injEq] at ho
        obtain ⟨rfl, rfl⟩ := ho
        cases hd
        exact ⟨w, by rw [run_copy_gen ht hi hl hmin (h1 w rfl)], .refl hs, .int _ _⟩
      | some a =>
        simp only at ho
        cases hw : H.write a new with
        | none => simp [hw] at ho
        | some H1 =>
          simp only [hw, Option.some.injEq, Prod.mk.injEq] at ho
          obtain ⟨rfl, rfl⟩ := ho
          cases hd with
          | sliceE a b =>
            have hz : new = [] := List.eq_nil_of_length_eq_zero (by rw [h3, show q = 0 by omega]; omega)
            subst hz
            have hl' : l' = [] := List.eq_nil_of_length_eq_zero h2.1.symm
            subst hl'
            exact ⟨w, by rw [run_copy_gen ht hi hl hmin (h1 w rfl)]; simp [storeCells], write_nil hw hs, .int _ _⟩
          | slice o k hk hcc hr =>
            obtain ⟨w', x, y⟩ := step_write hs hk hw h2 P
            exact ⟨w', by rw [run_copy_gen ht hi hl hmin (h1 w rfl)]; simp [x], y, .int _ _⟩
  · cases ho

theorem srcLen_some {x : Value} {n : Nat} (h : srcLen x = some n) : (∃ a c, x = .slice a n c) ∨ ∃ s, x = .string s := by
  unfold srcLen at h
  split at h
  · cases h; exact .inl ⟨_, _, rfl⟩
  · exact .inr ⟨_, rfl⟩
  · cases h

theorem run_append_pre {t u ty e : TypeId} {i : TypeInfo} (ht : P.underlying t = some (.slice e)) (hi : P.info? e = some i) {d : TypeDesc} (hu : P.underlying u = some d) (hd : ∀ k, d ≠ .int k)
    {base : Option Addr} {n c m : Nat} {x' : Value} (hl : (Builtin.lenOf x').run P w = .ok m w) {l' : List Value} (h1 : (Builtin.firstCells i.size m x').run P w = .ok l'.toArray w) (hroom : n + m ≤ c) :
    (Builtin.append_ #[t, u] ty #[.slice base n c, x']).run P w = (match base with
      | some a => ((storeCells (a.add (n * i.size)) l').run P w).andThen fun _ w => .ok (.slice base (n + m) c) w
      | none => .ok (.slice base (n + m) c) w) := by
  have e1 : ∀ w, (sizeOf e).run P w = .ok i.size w := by intro w; simp [sizeOf, typeInfo, hi]
  have e2 : (d matches .int _) = false := by cases d <;> first | rfl | exact absurd rfl (hd _)
  cases base with
  | none =>
    simp [Builtin.append_, run_underlying ht, run_underlying hu, e1, hl, h1, hroom]
  | some a =>
    simp [Builtin.append_, run_underlying ht, run_underlying hu, e1, hl, h1, hroom]

theorem run_append_big {t u ty e : TypeId} {i : TypeInfo} {z : Value} (ht : P.underlying t = some (.slice e)) (hi : P.info? e = some i) (hz : i.zero = some z) {d : TypeDesc} (hu : P.underlying u = some d) (hd : ∀ k, d ≠ .int k)
    {base : Option Addr} {n c m : Nat} {x' : Value} (hl : (Builtin.lenOf x').run P w = .ok m w) {l' old' : Array Value} (h1 : ∀ w', w'.heap = w.heap → (Builtin.firstCells i.size m x').run P w' = .ok l' w')
    (h0 : ∀ w', w'.heap = w.heap → (Builtin.firstCells i.size n (.slice base n c)).run P w' = .ok old' w') (hroom : ¬ n + m ≤ c) (hfit : Builtin.nextslicecap (n + m) c * i.bytes ≤ 281474976710656) (h63 : n + m ≤ 9223372036854775807) :
    (Builtin.append_ #[t, u] ty #[.slice base n c, x']).run P w = .ok (.slice (some ⟨w.heap.size, 0, none⟩) (n + m) (grownCap w (n + m) c e))
      (w.drew.alloc (.cells (old' ++ (l' ++ Builtin.zeroCells z.cells (grownCap w (n + m) c e - (n + m)))) e)) := by
  have e1 : ∀ w, (sizeOf e).run P w = .ok i.size w := by intro w; simp [sizeOf, typeInfo, hi]
  have e3 : ¬ ((9223372036854775807 : Int) < (n : Int) + (m : Int)) := by omega
  have e4 : ¬ (281474976710656 < Builtin.nextslicecap (n + m) c * i.bytes) := by omega
  have e5 : ∀ w, (typeInfo e).run P w = .ok i w := by intro w; simp [typeInfo, hi]
  have e6 : ∀ w, (zeroValue e).run P w = .ok z w := by intro w; simp [zeroValue, typeInfo, hi, hz]
  simp [Builtin.append_, run_underlying ht, run_underlying hu, e1, hl, hroom]
  cases d <;> first
    | exact absurd rfl (hd _)
    | simp [e3, e4, e5, e6, Question.forced, h0 w.drew rfl, h1 w.drew rfl, newRow, grownCap]

theorem op_append (hs : Sim C ι H w) (hn : H.size < H'.size → ι H.size = none) {t u ty : TypeId} {es by_ : Nat} {z : Array Value} (hi : elemInfo P t = some (es, by_, z)) {d : TypeDesc} (hu : P.underlying u = some d) (hd : ∀ k, d ≠ .int k)
    {s s' x x' v : Value} (hx : VR ι x x') (hs' : VR ι s s') (ho : opAppend es by_ s x H = some (v, H')) :
    ∃ v' w' ι', (Builtin.append_ #[t, u] ty #[s', x']).run P w = .ok v' w' ∧ Step C ι H w ι' H' w' ∧ VR ι' v v' := by
  obtain ⟨el, i, zv, hue, hie, hz, rfl, rfl, rfl, hzs⟩ := elemInfo_some hi
  unfold opAppend at ho
  split at ho
  · rename_i base n c m hm
    cases hc : srcCells i.size m x H with
    | none => simp [hc] at ho
    | some new =>
      simp only [hc] at ho
      obtain ⟨l', h1, h2, h3⟩ := srcCells_vr (P := P) hs hx hm (Nat.le_refl _) hc
      have hl := srcLen_vr (P := P) (w := w) hx hm
      have hl'len : l'.length = m * i.size := by rw [← h2.1]; exact h3
      split at ho
      · -- there is room
        rename_i hroom
        split at ho
        · split at ho
          · rename_i h0
            simp only [Option.some.injEq, Prod.mk.injEq] at ho
            obtain ⟨rfl, rfl⟩ := ho
            cases hs'
            have hm0 : m = 0 := by omega
            subst hm0
            exact ⟨.slice none 0 0, w, ι, by rw [run_append_pre hue hie hu hd hl (h1 w rfl) hroom], .refl hs, .sliceNil⟩
          · cases ho
        · rename_i a
          split at ho
          · rename_i H1 hw
            simp only [Option.some.injEq, Prod.mk.injEq] at ho
            obtain ⟨rfl, rfl⟩ := ho
            cases hs' with
            | sliceE a b =>
              have hm0 : m = 0 := by omega
              subst hm0
              have hz : new = [] := List.eq_nil_of_length_eq_zero (by rw [h3]; omega)
              subst hz
              have hl' : l' = [] := List.eq_nil_of_length_eq_zero h2.1.symm
              subst hl'
              exact ⟨.slice (some b) 0 0, w, ι, by rw [run_append_pre hue hie hu hd hl (h1 w rfl) hroom]; simp [storeCells], write_nil hw hs, .sliceE _ _⟩
            | slice o k hk hcc hr =>
              rename_i L c'
              obtain ⟨w', p, q⟩ := step_write hs hk hw h2 P
              refine ⟨.slice (some ⟨L.blk, L.base + o, none⟩) (n + m) c', w', ι, ?_, q, .slice o _ hk hcc hr⟩
              rw [run_append_pre hue hie hu hd hl (h1 w rfl) (by omega)]
              simp only [add_lit, Nat.add_assoc, p, Result.andThen_ok]
          · cases ho
      · -- it grows, as the evaluator sees it
        rename_i hroom
        split at ho
        · rename_i hb
          obtain ⟨hb1, hb2, hone⟩ := hb
          have hfit : ∀ c', c' < n + m → Builtin.nextslicecap (n + m) c' * i.bytes ≤ 281474976710656 := by
            intro c' hc'
            refine growslice_fits hc' ?_
            have : (n + m) * i.bytes ≤ 1099511627776 * 64 := Nat.mul_le_mul hb1 hb2
            omega
          have grow : ι H.size = none → ∀ (base' : Option Addr) (c' : Nat) (old old' : List Value), ¬ n + m ≤ c' → VRL ι old old' → old.length = n * i.size →
              (∀ w', w'.heap = w.heap → (Builtin.firstCells i.size n (.slice base' n c')).run P w' = .ok old'.toArray w') →
              ∀ H1, H1.size = H.size → H1.lo = H.lo → Sim C ι H1 w →
              ∃ v' w' ι', (Builtin.append_ #[t, u] ty #[.slice base' n c', x']).run P w = .ok v' w' ∧ Step C ι H w ι' (H1.alloc ⟨old ++ new, i.size⟩) w' ∧
                VR ι' (.slice (some ⟨H.size, 0, none⟩) (n + m) (n + m)) v' := by
            intro hn base' c' old old' hng hvo hol hf H1 e1 e2 hs1
            have hr := run_append_big (ty := ty) hue hie hz hu hd hl h1 hf hng (hfit c' (by omega)) (by omega)
            have hge := grownCap_ge w (n + m) c' el
            have hol' : old'.length = n * i.size := by rw [← hvo.1]; exact hol
            generalize grownCap w (n + m) c' el = cap at hr hge
            have hall := hvo.append h2
            have hsize : (old'.toArray ++ (l'.toArray ++ Builtin.zeroCells zv.cells (cap - (n + m)))).size = cap * i.size := by
              simp only [Array.size_append, List.size_toArray, size_zeroCells, hzs, hol', hl'len, ← Nat.add_mul]
              congr 1
              omega
            have hst := step_alloc hs1 (by rw [e1]; exact hn) ⟨old ++ new, i.size⟩ (old'.toArray ++ (l'.toArray ++ Builtin.zeroCells zv.cells (cap - (n + m)))) el
              (w' := w.drew.alloc (.cells (old'.toArray ++ (l'.toArray ++ Builtin.zeroCells zv.cells (cap - (n + m)))) el)) rfl rfl rfl rfl (Nat.le_succ _)
              (by rw [hsize]; simp only [List.length_append, hol, h3, ← Nat.add_mul]; exact Nat.mul_le_mul_right _ hge)
              (fun j a => by
                have ha : j < (old ++ new).length := a
                have hb' : j < (old' ++ l').length := by rw [← hall.1]; exact ha
                refine ⟨(old' ++ l')[j], ?_, hall.2 j ha hb'⟩
                rw [← Array.append_assoc, Array.getElem?_append_left (by simpa using hb')]
                simp [List.getElem?_eq_getElem hb'])
            refine ⟨_, _, upd ι H1.size ⟨w.heap.size, 0, (old'.toArray ++ (l'.toArray ++ Builtin.zeroCells zv.cells (cap - (n + m)))).size, i.size⟩, hr, ?_, ?_⟩
            · exact ⟨hst.sub, by rw [← e1, ← e2]; exact hst.new, by rw [← e1]; exact hst.size, by rw [← e2]; exact hst.lo, hst.heap, by rw [← e1, ← e2]; exact hst.frame, hst.sim⟩
            · rw [← e1]
              refine (VR.slice (L := ⟨w.heap.size, 0, (old'.toArray ++ (l'.toArray ++ Builtin.zeroCells zv.cells (cap - (n + m)))).size, i.size⟩) 0 (n + m) (upd_self _ _ _) hge ?_)
              show 0 + cap * i.size ≤ (old'.toArray ++ (l'.toArray ++ Builtin.zeroCells zv.cells (cap - (n + m)))).size
              rw [hsize]; omega
          split at ho
          · split at ho
            · rename_i hn0
              simp only [Option.some.injEq, Prod.mk.injEq] at ho
              obtain ⟨rfl, rfl⟩ := ho
              subst hn0
              cases hs'
              have := grow (hn (by simp)) none 0 [] [] (by omega) (.nil ι) (by simp) (fun w' _ => by simp [Builtin.firstCells]) H rfl rfl hs
              simpa using this
            · cases ho
          · rename_i k o
            split at ho
            · rename_i b old hb ho1
              split at ho
              · rename_i hlo
                obtain ⟨hlo, hbes⟩ := hlo
                simp only [Option.some.injEq, Prod.mk.injEq] at ho
                obtain ⟨rfl, rfl⟩ := ho
                have hol := readN_len ho1
                cases hs' with
                | sliceE a b' =>
                  have hz0 : old = [] := readN_zero (by simpa using ho1)
                  subst hz0
                  exact grow (hn (by simp)) (some b') 0 [] [] (by omega) (.nil ι) (by simp) (fun w' _ => by simp [Builtin.firstCells, loadCells, loadCellsFrom]) (H.put k none) (by simp) rfl (hs.kill k)
                | slice _ _ hk hcc hr =>
                  rename_i L c'
                  have hLes : L.es = i.size := by
                    obtain ⟨cs, t', fr, a1, a2, a3, a4, a5, a6⟩ := hs.live k L b hk hb
                    rw [a5, hbes]
                  obtain ⟨old', q1, q2⟩ := run_loadN (P := P) hs hk ho1
                  by_cases hin : n + m ≤ c'
                  · have hmul : (n + m) * L.es ≤ c' * L.es := Nat.mul_le_mul_right _ hin
                    rw [Nat.add_mul] at hmul
                    obtain ⟨w', p, q⟩ := step_appendRoom hs (hn (by simp)) hk hb hlo ho1 h2 hone (by rw [h3, ← hLes]; omega) P
                    refine ⟨.slice (some ⟨L.blk, L.base + o, none⟩) (n + m) c', w', _, ?_, by rw [← hLes]; exact q, ?_⟩
                    · rw [run_append_pre hue hie hu hd hl (h1 w rfl) hin]
                      simp only [add_lit, p, Result.andThen_ok]
                    · refine (VR.slice (L := ⟨L.blk, L.base + o, L.room - o, L.es⟩) 0 (n + m) (upd_self _ _ _) hin ?_)
                      show 0 + c' * L.es ≤ L.room - o
                      omega
                  · exact grow (hn (by simp)) (some ⟨L.blk, L.base + o, none⟩) c' old old' hin q2 hol (fun w' e => by simpa [Builtin.firstCells] using q1 w' e) (H.put k none) (by simp) rfl (hs.kill k)
              · cases ho
            · cases ho
          · cases ho
        · cases ho
  · cases ho

theorem op_min {ts : Array TypeId} {ty : TypeId} {x x' y y' v : Value} (hx : VR ι x x') (hy : VR ι y y') (ho : opMin x y = some v) : (Builtin.min_ ts ty #[x', y']).run P w = .ok v w ∧ VR ι v v := by
  unfold opMin at ho
  split at ho
  · split at ho
    · cases ho; cases hx; cases hy
      exact ⟨by simp [Builtin.min_, Builtin.min2], .int _ _⟩
    · cases ho
  · cases ho

theorem op_max {ts : Array TypeId} {ty : TypeId} {x x' y y' v : Value} (hx : VR ι x x') (hy : VR ι y y') (ho : opMax x y = some v) : (Builtin.max_ ts ty #[x', y']).run P w = .ok v w ∧ VR ι v v := by
  unfold opMax at ho
  split at ho
  · split at ho
    · cases ho; cases hx; cases hy
      exact ⟨by simp [Builtin.max_, Builtin.max2], .int _ _⟩
    · cases ho
  · cases ho

end
end Go.AE
set_option linter.unusedVariables false
namespace Go.AE
open Go.RowKit (Below)

def MOp.isCall : MOp → Bool
  | .call _ _ => true
  | _ => false

section
variable {C : Ctx} {ι : Inj} {H H' : AH} {w : World} {P : Program}

theorem vo_map {nt : Nat} {t : T} {a : Act} (h : TR nt ι t a) {x : Option Operand} (hx : okO nt x = true) : VO ι (x.map (ev t)) (x.map a.eval) := by
  cases x with
  | none => trivial
  | some x => exact h.ev (by simpa [okO] using hx)

theorem op_sound {nt : Nat} {o : Oper} {m : MOp} (hc : compOp P nt o.op = some m) (hm : m.isCall = false) {t : T} {a : Act} (htr : TR nt ι t a) (hs : Sim C ι H w) {top : Nat} (hu : Un top ι H)
    {v : Value} (ho : aop m (ev t) H = some (v, H')) (htop : H'.size ≤ top) :
    ∃ v' w' ι', ((execOp a.eval o).run P w = .ok (.value v') w' ∨ (execOp a.eval o).run P w = .ok .skip w' ∧ v' = undef) ∧ Step C ι H w ι' H' w' ∧ VR ι' v v' := by
  have pure_ : ∀ {s : Sem Value} {v v' : Value} {m'}, execOp a.eval o = (do pure (Next.value (← s))) → s.run P w = .ok v' w → VR ι v v' → some (v, H) = some (m', H') → 
      ∃ v'' w' ι', ((execOp a.eval o).run P w = .ok (.value v'') w' ∨ (execOp a.eval o).run P w = .ok .skip w' ∧ v'' = undef) ∧ Step C ι H w ι' H' w' ∧ VR ι' m' v'' := by
    intro s v v' m' he hr hv e
    cases e
    exact ⟨v', w, ι, .inl (by rw [he]; simp [hr]), .refl hs, hv⟩
  cases hop : o.op with
  | move x =>
    rw [hop] at hc
    obtain ⟨hx, hc⟩ := grd_some hc
    cases hc
    simp only [aop, Option.some.injEq, Prod.mk.injEq] at ho
    obtain ⟨rfl, rfl⟩ := ho
    exact ⟨a.eval x, w, ι, .inl (by simp [execOp, hop]), .refl hs, htr.ev hx⟩
  | assign x =>
    rw [hop] at hc
    obtain ⟨hx, hc⟩ := grd_some hc
    cases hc
    simp only [aop, Option.some.injEq, Prod.mk.injEq] at ho
    obtain ⟨rfl, rfl⟩ := ho
    exact ⟨a.eval x, w, ι, .inl (by simp [execOp, hop]), .refl hs, htr.ev hx⟩
  | pick c x y =>
    rw [hop] at hc
    obtain ⟨hx, hc⟩ := grd_some hc
    cases hc
    simp only [Bool.and_eq_true] at hx
    have hcv := htr.ev hx.1.1
    simp only [aop] at ho
    split at ho
    · rename_i e
      cases ho
      rw [e] at hcv
      cases hb : a.eval c <;> rw [hb] at hcv <;> cases hcv
      exact ⟨a.eval x, w, ι, .inl (by simp [execOp, hop, hb, asBool]), .refl hs, htr.ev hx.1.2⟩
    · rename_i e
      cases ho
      rw [e] at hcv
      cases hb : a.eval c <;> rw [hb] at hcv <;> cases hcv
      exact ⟨a.eval y, w, ι, .inl (by simp [execOp, hop, hb, asBool]), .refl hs, htr.ev hx.2⟩
    · cases ho
  | alloc ty =>
    rw [hop] at hc
    simp only [compOp] at hc
    split at hc
    · rename_i i hi
      split at hc
      · rename_i z hz
        obtain ⟨hp, hc⟩ := grd_some hc
        cases hc
        simp only [aop, opNew, Option.some.injEq, Prod.mk.injEq] at ho
        obtain ⟨rfl, rfl⟩ := ho
        have hn := hu H.size (Nat.le_refl _) (by simp at htop; omega)
        obtain ⟨h1, h2⟩ := op_new (P := P) hs hn 0 ty (plainA_vr hp ι).toList
        refine ⟨.pointer (some ⟨w.heap.size, 0, none⟩), _, _, .inl ?_, h2, ?_⟩
        · have h1' : (newVar ty z).run P w = .ok ⟨w.heap.size, 0, none⟩ (w.alloc (.cells z.cells ty)) := by simpa [newVar] using h1
          simp [execOp, hop, Instr.alloc, zeroValue, typeInfo, hi, hz, h1']
        · exact VR.ptr (L := ⟨w.heap.size, 0, _, 0⟩) 0 (upd_self _ _ _)
      · cases hc
    · cases hc
  | box ty x =>
    rw [hop] at hc
    obtain ⟨hx, hc⟩ := grd_some hc
    cases hc
    simp only [aop, opNew, Option.some.injEq, Prod.mk.injEq] at ho
    obtain ⟨rfl, rfl⟩ := ho
    have hn := hu H.size (Nat.le_refl _) (by simp at htop; omega)
    obtain ⟨h1, h2⟩ := op_new (P := P) hs hn 0 ty (htr.ev hx).cells.toList
    refine ⟨.pointer (some ⟨w.heap.size, 0, none⟩), _, _, .inl ?_, h2, ?_⟩
    · have h1' : (newVar ty (a.eval x)).run P w = .ok ⟨w.heap.size, 0, none⟩ (w.alloc (.cells (a.eval x).cells ty)) := by simpa [newVar] using h1
      simp [execOp, hop, Instr.box, h1']
    · exact VR.ptr (L := ⟨w.heap.size, 0, _, 0⟩) 0 (upd_self _ _ _)
  | build ty parts =>
    rw [hop] at hc
    obtain ⟨hx, hc⟩ := grd_some hc
    split at hc
    · rename_i it fields hit hut
      split at hc
      · rename_i z places hz hpl
        obtain ⟨hp, hc⟩ := grd_some hc
        cases hc
        simp only [aop] at ho
        split at ho
        · rename_i cs hf
          cases ho
          obtain ⟨v', h1, h2⟩ := op_build (P := P) (w := w) (ι := ι) hit hut hz hpl hp (e := ev t) (e' := a.eval) (parts := parts)
            (fun p hp => htr.ev (Array.all_eq_true_iff_forall_mem.1 hx p (by simpa using hp))) hf
          exact ⟨v', w, ι, .inl (by simp [execOp, hop, h1]), .refl hs, h2⟩
        · cases ho
      · cases hc
    · cases hc
  | buildSlice ty n parts =>
    rw [hop] at hc
    obtain ⟨hx, hc⟩ := grd_some hc
    split at hc
    · rename_i es by_ z hi
      obtain ⟨hp, hc⟩ := grd_some hc
      cases hc
      simp only [Bool.and_eq_true, decide_eq_true_eq] at hp
      simp only [aop] at ho
      split at ho
      · rename_i cs hf
        simp only [Option.some.injEq, Prod.mk.injEq] at ho
        obtain ⟨rfl, rfl⟩ := ho
        have hn := hu H.size (Nat.le_refl _) (by simp at htop; omega)
        obtain ⟨v', w', ι', h1, h2, h3⟩ := op_buildSlice (P := P) hs hn hi hp.1 hp.2 (e := ev t) (e' := a.eval) (parts := parts)
          (fun p hp => htr.ev (Array.all_eq_true_iff_forall_mem.1 hx p (by simpa using hp))) hf
        exact ⟨v', w', ι', .inl (by simp [execOp, hop, h1]), h2, h3⟩
      · cases ho
    · cases hc
  | load ty x =>
    rw [hop] at hc
    obtain ⟨hx, hc⟩ := grd_some hc
    split at hc
    · rename_i g hg
      cases hc
      simp only [aop] at ho
      split at ho
      · rename_i v1 hl
        cases ho
        obtain ⟨v', h1, h2⟩ := op_load (P := P) hs hg (htr.ev hx) hl
        exact ⟨v', w, ι, .inl (by simp [execOp, hop, h1]), .refl hs, h2⟩
      · cases ho
    · cases hc
  | store ty x y =>
    rw [hop] at hc
    obtain ⟨hx, hc⟩ := grd_some hc
    simp only [Bool.and_eq_true] at hx
    split at hc
    · rename_i i hi
      cases hc
      simp only [aop] at ho
      split at ho
      · rename_i H1 hst
        simp only [Option.some.injEq, Prod.mk.injEq] at ho
        obtain ⟨rfl, rfl⟩ := ho
        obtain ⟨w', h1, h2⟩ := op_store (P := P) hs hi (htr.ev hx.1) (htr.ev hx.2) hst
        exact ⟨undef, w', ι, .inr ⟨by simp [execOp, hop, h1], rfl⟩, h2, .undef ι⟩
      · cases ho
    · cases hc
  | nilCheck x =>
    rw [hop] at hc
    obtain ⟨hx, hc⟩ := grd_some hc
    cases hc
    have hv := htr.ev hx
    simp only [aop] at ho
    split at ho
    · rename_i p e
      cases ho
      rw [e] at hv
      cases hb : a.eval x <;> rw [hb] at hv <;> cases hv
      rename_i o hk
      exact ⟨_, w, ι, .inl (by simp [execOp, hop, hb]), .refl hs, .ptr o hk⟩
    · cases ho
  | binOp op ty x y ty' =>
    rw [hop] at hc
    obtain ⟨hx, hc⟩ := grd_some hc
    cases hc
    simp only [Bool.and_eq_true] at hx
    simp only [aop] at ho
    split at ho
    · rename_i v1 hl
      cases ho
      obtain ⟨v', h1, h2⟩ := op_bin (P := P) (w := w) (htr.ev hx.1) (htr.ev hx.2) hl
      exact ⟨v', w, ι, .inl (by
        have : execOp a.eval o = (do pure (Next.value (← (do eqGuard op ty x y (a.eval x) (a.eval y); binOp op ty (a.eval x) (a.eval y) : Sem Value)))) := by simp [execOp, hop]
        rw [this, Sem.run_bind, h1]; rfl), .refl hs, h2⟩
    · cases ho
  | unOp op ty x =>
    rw [hop] at hc
    obtain ⟨hx, hc⟩ := grd_some hc
    cases hc
    simp only [aop] at ho
    split at ho
    · rename_i v1 hl
      cases ho
      obtain ⟨h1, h2⟩ := op_un (P := P) (w := w) (htr.ev hx) hl
      exact ⟨_, w, ι, .inl (by simp [execOp, hop, h1]), .refl hs, h2⟩
    · cases ho
  | convert src dst x =>
    rw [hop] at hc
    obtain ⟨hx, hc⟩ := grd_some hc
    split at hc
    · rename_i d k hsrc hdst
      cases hc
      simp only [aop] at ho
      split at ho
      · rename_i v1 hl
        cases ho
        obtain ⟨h1, h2⟩ := op_conv (P := P) (w := w) hsrc hdst (htr.ev hx) hl
        exact ⟨_, w, ι, .inl (by simp [execOp, hop, h1]), .refl hs, h2⟩
      · cases ho
    · rename_i e hsrc hdst
      split at hc
      · rename_i he
        cases hc
        simp only [aop] at ho
        split at ho
        · rename_i v1 hl
          cases ho
          obtain ⟨h1, h2⟩ := op_bytesToStr (P := P) hs hsrc he hdst (htr.ev hx) hl
          exact ⟨_, w, ι, .inl (by simp [execOp, hop, h1]), .refl hs, h2⟩
        · cases ho
      · cases hc
    · cases hc
  | makeFunc fn x y =>
    rw [hop] at hc
    obtain ⟨hx, hc⟩ := grd_some hc
    cases hc
    simp only [Bool.and_eq_true] at hx
    simp only [aop, Option.some.injEq, Prod.mk.injEq] at ho
    obtain ⟨rfl, rfl⟩ := ho
    have hm : ∀ (z : Array Operand), z.all (okX nt) = true → VRA ι (z.toList.map (ev t)).toArray (z.map a.eval) := by
      intro z hz
      refine ⟨by simp, fun j p q => ?_⟩
      have hj : j < z.size := by simpa using p
      have := htr.ev (Array.all_eq_true.1 hz j hj)
      simpa using this
    exact ⟨_, w, ι, .inl (by simp [execOp, hop, Instr.makeFunc]), .refl hs, .func fn (hm x hx.1).1 (hm x hx.1).2 (hm y hx.2).1 (hm y hx.2).2⟩
  | makeSlice ty l c =>
    rw [hop] at hc
    obtain ⟨hx, hc⟩ := grd_some hc
    simp only [Bool.and_eq_true] at hx
    split at hc
    · rename_i es by_ z hi
      obtain ⟨hp, hc⟩ := grd_some hc
      cases hc
      simp only [aop] at ho
      have hsz : H.size < H'.size := by
        unfold opMakeSlice at ho
        split at ho
        · split at ho
          · cases ho; simp
          · cases ho
        · cases ho
      have hn := hu H.size (Nat.le_refl _) (by omega)
      obtain ⟨v', w', ι', h1, h2, h3⟩ := op_makeSlice (P := P) hs hn hi hp (htr.ev hx.1) (htr.ev hx.2) ho
      exact ⟨v', w', ι', .inl (by simp [execOp, hop, h1]), h2, h3⟩
    · cases hc
  | slice ty x lo hi mx =>
    rw [hop] at hc
    cases mx with
    | some mx => simp [compOp] at hc
    | none =>
      obtain ⟨hx, hc⟩ := grd_some hc
      simp only [Bool.and_eq_true] at hx
      split at hc
      · rename_i hty
        cases hc
        simp only [aop] at ho
        split at ho
        · rename_i v1 hl
          cases ho
          obtain ⟨h1, h2⟩ := op_sliceStr (P := P) (w := w) hty (htr.ev hx.1.1) (vo_map htr hx.1.2) (vo_map htr hx.2) hl
          exact ⟨_, w, ι, .inl (by simp [execOp, hop, h1]), .refl hs, h2⟩
        · cases ho
      · rename_i e hty
        split at hc
        · rename_i i hi'
          cases hc
          simp only [aop] at ho
          split at ho
          · rename_i v1 hl
            cases ho
            obtain ⟨v', h1, h2⟩ := op_sliceSl (P := P) hs hty hi' (htr.ev hx.1.1) (vo_map htr hx.1.2) (vo_map htr hx.2) hl
            exact ⟨v', w, ι, .inl (by simp [execOp, hop, h1]), .refl hs, h2⟩
          · cases ho
        · cases hc
      · cases hc
  | fieldAddr ty x f =>
    rw [hop] at hc
    obtain ⟨hx, hc⟩ := grd_some hc
    split at hc
    · rename_i fields hty
      split at hc
      · rename_i fd hf
        split at hc
        · rename_i i hi
          obtain ⟨hz, hc⟩ := grd_some hc
          cases hc
          simp only [aop] at ho
          split at ho
          · rename_i v1 hl
            cases ho
            obtain ⟨v', h1, h2⟩ := op_fieldAddr (P := P) (w := w) hty hf hi (by simpa using hz) (htr.ev hx) hl
            exact ⟨v', w, ι, .inl (by simp [execOp, hop, h1]), .refl hs, h2⟩
          · cases ho
        · cases hc
      · cases hc
    · cases hc
  | field ty x f =>
    rw [hop] at hc
    obtain ⟨hx, hc⟩ := grd_some hc
    split at hc
    · rename_i fields hty
      split at hc
      · rename_i fd hf
        split at hc
        · rename_i g hg
          cases hc
          simp only [aop] at ho
          split at ho
          · rename_i v1 hl
            cases ho
            obtain ⟨v', h1, h2⟩ := op_field (P := P) (w := w) hty hf hg (htr.ev hx) hl
            exact ⟨v', w, ι, .inl (by simp [execOp, hop, h1]), .refl hs, h2⟩
          · cases ho
        · cases hc
      · cases hc
    · cases hc
  | indexAddr ty x i =>
    rw [hop] at hc
    obtain ⟨hx, hc⟩ := grd_some hc
    simp only [Bool.and_eq_true] at hx
    split at hc
    · rename_i e hty
      split at hc
      · rename_i j hj
        cases hc
        simp only [aop] at ho
        split at ho
        · rename_i v1 hl
          cases ho
          obtain ⟨v', h1, h2⟩ := op_indexAddr (P := P) (w := w) hty hj (htr.ev hx.1) (htr.ev hx.2) hl
          exact ⟨v', w, ι, .inl (by simp [execOp, hop, h1]), .refl hs, h2⟩
        · cases ho
      · cases hc
    · cases hc
  | index ty x i =>
    rw [hop] at hc
    obtain ⟨hx, hc⟩ := grd_some hc
    simp only [Bool.and_eq_true] at hx
    split at hc
    · rename_i hty
      cases hc
      simp only [aop] at ho
      split at ho
      · rename_i v1 hl
        cases ho
        obtain ⟨h1, h2⟩ := op_indexStr (P := P) (w := w) hty (htr.ev hx.1) (htr.ev hx.2) hl
        exact ⟨_, w, ι, .inl (by simp [execOp, hop, h1]), .refl hs, h2⟩
      · cases ho
    · cases hc
  | extract x i =>
    rw [hop] at hc
    obtain ⟨hx, hc⟩ := grd_some hc
    cases hc
    simp only [aop] at ho
    split at ho
    · rename_i v1 hl
      cases ho
      obtain ⟨v', h1, h2⟩ := op_extract (P := P) (w := w) (htr.ev hx) hl
      exact ⟨v', w, ι, .inl (by simp [execOp, hop, h1]), .refl hs, h2⟩
    · cases ho
  | call c =>
    rw [hop] at hc
    obtain ⟨hx, hc1⟩ := grd_some hc
    clear hc
    have hc := hc1; clear hc1
    obtain ⟨callee, args, argTypes⟩ := c
    simp only at hx hc
    have hb : ∀ (b : Builtin) (s : Sem Value), callee = .builtin b → (∀ cs, builtin b argTypes o.type cs (args.map a.eval) = (do pure (Next.value (← s)))) →
        execOp a.eval o = (do pure (Next.value (← s))) := by
      intro b s e h
      subst e
      simp only [execOp, hop, resolve]
      exact h _
    split at hc
    · obtain ⟨_, hc⟩ := grd_some hc
      cases hc
      simp [MOp.isCall] at hm
    · split at hc
      · rename_i x t1 ha hts
        have hargs : args = #[x] := by rw [← Array.toArray_toList (xs := args), ha]
        have htys : argTypes = #[t1] := by rw [← Array.toArray_toList (xs := argTypes), hts]
        subst hargs; subst htys
        have hx' : okX nt x = true := by simpa using hx
        split at hc
        · rename_i hty
          cases hc
          simp only [aop] at ho
          split at ho
          · rename_i v1 hl
            cases ho
            obtain ⟨h1, h2⟩ := op_lenStr (P := P) (w := w) (ty := o.type) hty (htr.ev hx') hl
            exact pure_ (hb _ _ rfl fun cs => rfl) (by simpa using h1) h2 rfl
          · cases ho
        · rename_i e hty
          cases hc
          simp only [aop] at ho
          split at ho
          · rename_i v1 hl
            cases ho
            obtain ⟨h1, h2⟩ := op_lenSl (P := P) (w := w) (ty := o.type) hty (htr.ev hx') hl
            exact pure_ (hb _ _ rfl fun cs => rfl) (by simpa using h1) h2 rfl
          · cases ho
        · cases hc
      · cases hc
    · split at hc
      · rename_i x y t1 t2 ha hts
        have hargs : args = #[x, y] := by rw [← Array.toArray_toList (xs := args), ha]
        have htys : argTypes = #[t1, t2] := by rw [← Array.toArray_toList (xs := argTypes), hts]
        subst hargs; subst htys
        have hx' : okX nt x = true ∧ okX nt y = true := by simpa using hx
        have fin : ∀ {es by_ : Nat} {z : Array Value} {d : TypeDesc}, elemInfo P t1 = some (es, by_, z) → P.underlying t2 = some d → (∀ k, d ≠ .int k) → opAppend es by_ (ev t x) (ev t y) H = some (v, H') →
            ∃ v' w' ι', ((execOp a.eval o).run P w = .ok (.value v') w' ∨ (execOp a.eval o).run P w = .ok .skip w' ∧ v' = undef) ∧ Step C ι H w ι' H' w' ∧ VR ι' v v' := by
          intro es by_ z d hi hu2 hd ho
          have hn : H.size < H'.size → ι H.size = none := fun hlt => hu H.size (Nat.le_refl _) (by omega)
          obtain ⟨v', w', ι', h1, h2, h3⟩ := op_append (P := P) (ty := o.type) hs hn hi hu2 hd (htr.ev hx'.2) (htr.ev hx'.1) ho
          refine ⟨v', w', ι', .inl ?_, h2, h3⟩
          rw [hb .append _ rfl fun cs => rfl]
          simp [h1]
        split at hc
        · rename_i es by_ z e hi hu2
          cases hc
          exact fin hi hu2 (by simp) (by simpa [aop] using ho)
        · rename_i es by_ z hi hu2
          cases hc
          exact fin hi hu2 (by simp) (by simpa [aop] using ho)
        · cases hc
      · cases hc
    · split at hc
      · rename_i x y t1 t2 ha hts
        have hargs : args = #[x, y] := by rw [← Array.toArray_toList (xs := args), ha]
        have htys : argTypes = #[t1, t2] := by rw [← Array.toArray_toList (xs := argTypes), hts]
        subst hargs; subst htys
        have hx' : okX nt x = true ∧ okX nt y = true := by simpa using hx
        split at hc
        · rename_i es by_ z hi
          cases hc
          obtain ⟨el, i, zv, hue, hie, hz, rfl, rfl, rfl, hzs⟩ := elemInfo_some hi
          simp only [aop] at ho
          obtain ⟨w', h1, h2, h3⟩ := op_copy (P := P) hs hue hie (u := t2) (ty := o.type) (htr.ev hx'.1) (htr.ev hx'.2) ho
          refine ⟨v, w', ι, .inl ?_, h2, h3⟩
          rw [hb .copy _ rfl fun cs => rfl]
          simp [h1]
        · cases hc
      · cases hc
    · split at hc
      · rename_i x y ha
        have hargs : args = #[x, y] := by rw [← Array.toArray_toList (xs := args), ha]
        subst hargs
        have hx' : okX nt x = true ∧ okX nt y = true := by simpa using hx
        cases hc
        simp only [aop] at ho
        split at ho
        · rename_i v1 hl
          cases ho
          obtain ⟨h1, h2⟩ := op_min (P := P) (w := w) (ts := argTypes) (ty := o.type) (htr.ev hx'.1) (htr.ev hx'.2) hl
          exact pure_ (hb _ _ rfl fun cs => rfl) (by simpa using h1) h2 rfl
        · cases ho
      · cases hc
    · split at hc
      · rename_i x y ha
        have hargs : args = #[x, y] := by rw [← Array.toArray_toList (xs := args), ha]
        subst hargs
        have hx' : okX nt x = true ∧ okX nt y = true := by simpa using hx
        cases hc
        simp only [aop] at ho
        split at ho
        · rename_i v1 hl
          cases ho
          obtain ⟨h1, h2⟩ := op_max (P := P) (w := w) (ts := argTypes) (ty := o.type) (htr.ev hx'.1) (htr.ev hx'.2) hl
          exact pure_ (hb _ _ rfl fun cs => rfl) (by simpa using h1) h2 rfl
        · cases ho
      · cases hc
    · cases hc
  | _ => rw [hop] at hc; simp [compOp] at hc

end
end Go.AE
