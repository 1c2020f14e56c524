/- The evaluator over abstract values; readings, states, addresses, slices. -/
import GoSem.Step
import Derived.Calls
import Derived.Scope
import Derived.Deep.LoopGhost
import Derived.Laws.World
import Derived.Laws.Sem
set_option linter.unusedVariables false
set_option linter.unusedSimpArgs false
set_option linter.unusedSectionVars false
set_option linter.constructorNameAsVariable false
namespace Go.Ab
noncomputable section

/-- Who may append to the row that a slice lies in. -/
inductive Own where
  | no
  | tc (c : Nat)
  | gc (k off : Nat)
  | lc (k off : Nat)
  | self
  deriving DecidableEq, Inhabited

/-- Abstract values. -/
inductive AV where
  | bool (b : Bool)
  | int (k : IntKind) (n : Int)
  | str (s : List UInt8)
  | np
  | lp (k off : Nat)
  | gp (k off : Nat)
  | ep (row : List AV) (off : Nat)
  | sl (sz : Nat) (isnil : Bool) (rows : List (List AV)) (own : Own)
  | psl (sz : Nat) (rows : List (List AV))
  | vs (k off n sz : Nat)
  | bp (rows : List (List AV))
  | mp (k : Nat)
  | nm
  | fn (f : Nat) (cap : List AV)
  | nf
  | ni
  | agg (cs : List AV)
  | tup (vs : List AV)
  | und
  | junk
  deriving Inhabited

/-- Kinds of a cell. -/
inductive CK where
  | b
  | i (k : IntKind)
  | s
  | p
  | l (sz : Nat)
  | m
  | f
  | n
  | x
  deriving DecidableEq, Inhabited

/-- Shapes of types. -/
inductive Sh where
  | bool
  | int (k : IntKind)
  | str
  | uptr
  | ptr (e : Nat)
  | slice (e : Nat)
  | arr (n e : Nat)
  | map (k e : Nat)
  | struct (fs : List (Nat × Nat))
  | fn
  | iface
  | other
  deriving DecidableEq, Inhabited

/-- Global blocks. -/
inductive GB where
  | cells (cs : List AV)
  | map (es : List (List AV × AV))
  deriving Inhabited

structure St where
  tm : List AV
  L : List (List AV)
  H : List GB
  cons : List Nat
  conG : Bool
  conL : Bool
  ro : Bool
  deriving Inhabited

inductive Ex where
  | normal
  | exit (id : Nat)
  | ret
  deriving DecidableEq, Inhabited

/-- Trees of what an evaluation asks. -/
inductive R (α : Type) where
  | ret (a : α)
  | fail
  | br (b : Bool) (t e : R α)
  | call (m : Nat) (f : Nat) (args : List AV) (H : List GB) (k : AV × List GB → R α)
  | loop (fid rid : Nat) (c : Code) (st : St) (k : Ex × St → R α)

def R.bind {α β : Type} (t : R α) (f : α → R β) : R β :=
  R.rec (motive := fun _ => R β) (fun a => f a) .fail (fun b _ _ t e => .br b t e) (fun m g as H _ k => .call m g as H k)
    (fun fid rid c st _ k => .loop fid rid c st k) t

/-- Lists by place. -/
def nth (l : List AV) (n : Nat) : AV :=
  List.rec (motive := fun _ => Nat → AV) (fun _ => .junk) (fun x _ ih n => Nat.casesOn n x ih) l n
def upd {α : Type} (l : List α) (n : Nat) (v : α) : List α :=
  List.rec (motive := fun _ => Nat → List α) (fun _ => []) (fun x xs ih n => Nat.casesOn n (v :: xs) (fun m => x :: ih m)) l n
def nthL (l : List (List AV)) (n : Nat) : List AV :=
  List.rec (motive := fun _ => Nat → List AV) (fun _ => []) (fun x _ ih n => Nat.casesOn n x ih) l n

/-- The wrap of the model, a short way for what fits. -/
def wrapF (k : IntKind) (n : Int) : Int :=
  match n with
  | .ofNat m => bif Nat.ble m (match k with | .i8 => 127 | .i16 => 32767 | .i32 => 2147483647 | .i64 => 9223372036854775807 | .u8 => 255 | .u16 => 65535 | .u32 => 4294967295 | .u64 => 18446744073709551615) then .ofNat m else k.wrap (.ofNat m)
  | .negSucc m => bif Nat.ble m (match k with | .i8 => 127 | .i16 => 32767 | .i32 => 2147483647 | .i64 => 9223372036854775807 | _ => 0) && k.signed then .negSucc m else k.wrap (.negSucc m)

def chk {α : Type} (b : Bool) (k : R α) : R α := .br b k .fail

/-- Tables by the bits of a number. -/
inductive Tr (α : Type) where
  | lf
  | nd (v : Option α) (l r : Tr α)
def Tr.get {α : Type} (t : Tr α) (n : Nat) : Option α :=
  Tr.rec (motive := fun _ => Nat → Option α) (fun _ => none)
    (fun v _ _ l r n => bif Nat.beq n 0 then v else bif Nat.beq (n % 2) 0 then l (n / 2 - 1) else r (n / 2)) t n

/-- What is asked at an operation of a region whose order is drawn, so that it may change places with others. -/
structure Ck where
  plain : Bool
  /-- Local blocks that it must not know of. -/
  forb : List Nat
  /-- It makes a local block, of which nobody knows but these. -/
  alone : Bool
  spare : List Nat
  /-- Whence its address comes. -/
  root : Option Nat
  /-- These lie in different blocks. -/
  apart : List (Nat × Nat)
  deriving Inhabited

structure Tab where
  ck : Nat → Nat → Nat → Ck
  sh : Nat → Sh
  ks : Nat → List CK
  bytes : Nat → Nat
  fn : Nat → Option Func
  esc : Nat → Nat → Bool
  hm : Nat → Bool
  wr : Nat → Bool
  lv : Nat → Nat → List Nat × List Nat
  thaw : Nat → Nat → Bool
  /-- Functions that the evaluator knows: 1: hands its argument on; 2: inserts into a row of the caller's own; 3: deletes from one. -/
  known : Nat → Nat
  /-- How deep a type lies. -/
  rk : Nat → Nat
  /-- Cells of a new global block whose nil slices may be appended to. -/
  slf : Nat → Nat → List Nat

namespace AV
def strip : AV → AV
  | .sl sz n rows _ => .sl sz n rows .no
  | v => v
def cells : AV → List AV
  | .agg cs => cs
  | v => [v]
def isBool : AV → Bool | .bool _ => true | _ => false
def boolOf : AV → Bool | .bool b => b | _ => false
def isInt (k : IntKind) : AV → Bool | .int k' _ => k' == k | _ => false
def intOf : AV → Int | .int _ n => n | _ => 0
def isStr : AV → Bool | .str _ => true | _ => false
def strOf : AV → List UInt8 | .str s => s | _ => []
def isSl (sz : Nat) : AV → Bool | .sl z n _ _ => n || z == sz | _ => false
def slNil : AV → Bool | .sl _ n _ _ => n | _ => false
def slRows : AV → List (List AV) | .sl _ _ r _ => r | _ => []
def slOwn : AV → Own | .sl _ _ _ o => o | _ => .no
/-- No pointers to blocks in it (slices of pointers count as such). -/
def pure1 : AV → Bool
  | .bool _ | .int _ _ | .str _ | .np | .sl _ _ _ _ | .nm | .nf | .ni => true
  | .fn _ cap => cap.isEmpty
  | _ => false
def noRef : AV → Bool
  | .agg cs => cs.all pure1
  | .tup ws => ws.all fun | .agg cs => cs.all pure1 | v => v.pure1
  | v => v.pure1
/-- No pointers to local blocks in it. -/
def noLp1 : AV → Bool
  | .bool _ | .int _ _ | .str _ | .np | .gp _ _ | .sl _ _ _ _ | .psl _ _ | .mp _ | .nm | .nf | .ni => true
  | .fn _ _ => true
  | _ => false
def noLp : AV → Bool
  | .agg cs => cs.all noLp1
  | .tup ws => ws.all fun | .agg cs => cs.all noLp1 | v => v.noLp1
  | v => v.noLp1
def stripAll : AV → AV
  | .agg cs => .agg (cs.map strip)
  | .tup ws => .tup (ws.map fun | .agg cs => .agg (cs.map strip) | v => v.strip)
  | v => v.strip
def plainV (v : AV) : Bool := v.noLp && (match v with | .tup _ => false | _ => true)
def isGp : AV → Bool | .gp _ _ => true | _ => false
/-- One cell's value. -/
def isCell : AV → Bool
  | .agg _ | .tup _ => false
  | _ => true
/-- What the model can store. -/
def solid : AV → Bool
  | .agg _ | .tup _ | .und | .junk => false
  | _ => true
/-- What a closure may hold. -/
def capOk : AV → Bool
  | .gp _ _ => true
  | v => v.pure1
/-- All its pointers to local blocks are to such ones. -/
def cellDep (S : Nat → Bool) : AV → Bool
  | .lp k _ => S k
  | .vs k _ _ _ => S k
  | .agg _ => false
  | .tup _ => false
  | _ => true
def depOk (S : Nat → Bool) : AV → Bool
  | .agg cs => cs.all (cellDep S)
  | .tup ws => ws.all fun | .agg cs => cs.all (cellDep S) | v => cellDep S v
  | v => cellDep S v
end AV

/-- A cell of a kind: whether it is, and its outer form. -/
def canonOk : CK → AV → Bool
  | .b, v => v.isBool
  | .i k, v => v.isInt k
  | .s, v => v.isStr
  | .l sz, v => (match v with | .psl z _ => z == sz | .vs _ _ _ z => z == sz | v => v.isSl sz)
  | .x, _ => false
  | .p, v => (match v with | .np | .lp _ _ | .gp _ _ | .ep _ _ => true | _ => false)
  | .m, v => (match v with | .nm | .mp _ => true | _ => false)
  | .f, v => (match v with | .nf | .fn _ _ => true | _ => false)
  | .n, v => (match v with | .ni => true | _ => false)
def canon : CK → AV → AV
  | .b, v => .bool v.boolOf
  | .i k, v => .int k v.intOf
  | .s, v => .str v.strOf
  | .l sz, v => (match v with | .psl z r => .psl z r | .vs k o n z => .vs k o n z | v => .sl sz v.slNil v.slRows .no)
  | _, v => v

def canonOks : List CK → List AV → Bool
  | [], [] => true
  | k :: ks, v :: vs => canonOk k v && canonOks ks vs
  | _, _ => false
def canons : List CK → List AV → List AV
  | k :: ks, v :: vs => canon k v :: canons ks vs
  | _, _ => []

def zeroCell : CK → AV
  | .b => .bool false
  | .i k => .int k 0
  | .s => .str []
  | .p => .np
  | .l sz => .sl sz true [] .no
  | .m => .nm
  | .f => .nf
  | .n => .ni
  | .x => .junk

/-- A constant. -/
def ofVal : Value → AV
  | .bool b => .bool b
  | .int k n => .int k n
  | .string s => .str s.data.toList
  | .pointer none => .np
  | .slice none 0 0 => .sl 0 true [] .no
  | .map none => .nm
  | .nilFunc => .nf
  | .nilIface => .ni
  | _ => .junk

section
variable (T : Tab)

def isAgg (t : Nat) : Bool := match T.sh t with | .struct _ | .arr _ _ => true | _ => false
def size (t : Nat) : Nat := (T.ks t).length

def St.get (st : St) (t : Nat) : AV := nth st.tm t
def St.set (st : St) (t : Nat) (v : AV) : St := { st with tm := upd st.tm t v }
def St.put (st : St) (d : Option Nat) (v : AV) : St := match d with | some t => st.set t v | none => st

def rho (st : St) : Operand → AV
  | .tmp t => st.get t
  | .const v => ofVal v
  | .global _ => .junk
  | .func f => .fn f []

/-- Cells of a block or a row. -/
def readCells (st : St) (v : AV) (n : Nat) : R (List AV) :=
  match v with
  | .lp k o => chk (decide (o + n ≤ (nthL st.L k).length)) (.ret (((nthL st.L k).drop o).take n))
  | .gp k o => match st.H.getD k (.map []) with
    | .cells cs => chk (decide (o + n ≤ cs.length)) (.ret ((cs.drop o).take n))
    | .map _ => .fail
  | .ep row o => chk (decide (o + n ≤ row.length)) (.ret ((row.drop o).take n))
  | _ => .fail

def splice (cs : List AV) (o : Nat) (vs : List AV) : List AV := cs.take o ++ vs ++ cs.drop (o + vs.length)

/-- Cells of a row that need not be seen. -/
def canonOkE (k : CK) (v : AV) : Bool := canonOk k v && (match k with | .l sz => v.isSl sz | _ => true)
def canonE (k : CK) (v : AV) : AV := match k with | .l sz => .sl sz v.slNil v.slRows .no | k => canon k v
def epOks (ks : List CK) (row : List AV) (o : Nat) : Bool :=
  List.rec (motive := fun _ => Nat → Bool) (fun _ => true) (fun k _ ih o => canonOkE k (nth row o) && ih (o + 1)) ks o
def epOk (ks : List CK) (row : List AV) (o : Nat) : Bool := decide (o + ks.length ≤ row.length) && epOks ks row o
def epCells (ks : List CK) (row : List AV) (o : Nat) : List AV :=
  List.rec (motive := fun _ => Nat → List AV) (fun _ => []) (fun k _ ih o => canonE k (nth row o) :: ih (o + 1)) ks o
def loadEp (t : Nat) (row : List AV) (o : Nat) : R AV :=
  chk (epOk (T.ks t) row o)
    (if isAgg T t then .ret (.agg (epCells (T.ks t) row o))
     else match epCells (T.ks t) row o with | [c] => .ret c | _ => .fail)

def loadBlk (st : St) (t : Nat) (v : AV) : R AV :=
  (readCells st v (size T t)).bind fun cs =>
    chk (canonOks (T.ks t) cs)
      (if isAgg T t then .ret (.agg (canons (T.ks t) cs))
       else match canons (T.ks t) cs with
        | [c] => .ret (match c, cs with
          | .sl sz n rows _, [.sl _ _ _ .self] => (match v with
            | .lp k o => .sl sz n rows (.lc k o)
            | .gp k o => .sl sz n rows (.gc k o)
            | _ => .sl sz n rows .no)
          | c, _ => c)
        | _ => .fail)
/-- Types of flags, numbers and texts alone. -/
def scalK : CK → Bool
  | .b | .i _ | .s => true
  | _ => false
def scalB (ks : List CK) : Bool := List.rec (motive := fun _ => Bool) true (fun k _ ih => bif scalK k then ih else false) ks
def loadOp (st : St) (t : Nat) (v : AV) : R AV :=
  match v with
  | .ep row o => loadEp T t row o
  | .lp k o => bif scalB (T.ks t) then loadEp T t (nthL st.L k) o else loadBlk T st t (.lp k o)
  | v => loadBlk T st t v

/-- What a stored value becomes in its cells. -/
def toCells (v : AV) : List AV :=
  match v with
  | .sl sz n rows (.tc _) => [.sl sz n rows .self]
  | .agg cs => cs.map AV.strip
  | v => [v.strip]

def useUp (st : St) (o : Own) : St :=
  match o with
  | .no | .self => st
  | .tc c => { st with cons := c :: st.cons }
  | .gc _ _ => { st with conG := true }
  | .lc _ _ => { st with conL := true }

/-- The class that a store uses up. -/
def tcOf (v : AV) : Own := match v with | .sl _ _ _ (.tc c) => .tc c | _ => .no

def usable (st : St) (o : Own) : Bool :=
  match o with
  | .no | .self => false
  | .tc c => !st.cons.contains c
  | .gc _ _ => !st.conG
  | .lc _ _ => !st.conL

/-- The flag of a value is good for nothing any more if its class is used up. -/
def fresh (st : St) (v : AV) : AV :=
  match v with
  | .sl sz n rows o => if usable st o then .sl sz n rows o else .sl sz n rows .no
  | v => v

def storeOp (st : St) (t : Nat) (addr v0 : AV) : R St :=
  let v := fresh st v0
  let cs := toCells v
  chk (decide (T.sh t ≠ .other) && decide (cs.length = size T t) && cs.all AV.solid && decide (0 < cs.length))
    (match addr with
    | .lp k o => chk (decide (o + cs.length ≤ (nthL st.L k).length))
        (.ret (useUp { st with L := upd st.L k (splice (nthL st.L k) o cs) } (tcOf v)))
    | .gp k o => chk (cs.all AV.noLp1 && !st.ro) (match st.H.getD k (.map []) with
      | .cells b => chk (decide (o + cs.length ≤ b.length)) (.ret (useUp { st with H := st.H.set k (.cells (splice b o cs)) } (tcOf v)))
      | .map _ => .fail)
    | _ => .fail)

def fieldOff (t f : Nat) : R Nat :=
  match T.sh t with
  | .struct fs => match fs[f]? with | some (o, _) => .ret o | none => .fail
  | _ => .fail

def addOff (v : AV) (n : Nat) : R AV :=
  match v with
  | .lp k o => .ret (.lp k (o + n))
  | .gp k o => .ret (.gp k (o + n))
  | .ep r o => .ret (.ep r (o + n))
  | _ => .fail

def fieldAddrOp (t : Nat) (v : AV) (f : Nat) : R AV := (fieldOff T t f).bind fun n => addOff v n

def indexAddrOp (t : Nat) (v i : AV) : R AV :=
  match i with
  | .int _ n =>
    match T.sh t, v with
    | .slice e, .sl sz _ rows _ => chk (decide (0 ≤ n) && decide (n < rows.length) && decide (sz = size T e)) (.ret (.ep (rows.getD n.toNat []) 0))
    | .slice e, .psl sz rows => chk (decide (0 ≤ n) && decide (n < rows.length) && decide (sz = size T e)) (.ret (.ep (rows.getD n.toNat []) 0))
    | .slice e, .vs k o len sz => chk (decide (0 ≤ n) && decide (n < len) && decide (sz = size T e)) (.ret (.lp k (o + n.toNat * sz)))
    | .arr len e, v => chk (decide (0 ≤ n) && decide (n < len)) (addOff v (n.toNat * size T e))
    | _, _ => .fail
  | _ => .fail

def indexOp (t : Nat) (v i : AV) : R AV :=
  match i with
  | .int _ n =>
    match T.sh t, v with
    | .str, .str s => chk (decide (0 ≤ n) && decide (n < s.length)) (.ret (.int .u8 (s.getD n.toNat 0).toNat))
    | .arr len e, .agg cs => chk (decide (0 ≤ n) && decide (n < len))
        (let c := (cs.drop (n.toNat * size T e)).take (size T e)
         if isAgg T e then .ret (.agg c) else match c with | [x] => .ret x | _ => .fail)
    | _, _ => .fail
  | _ => .fail

def boundOf (d : Nat) : Option AV → R Int
  | none => .ret d
  | some (.int _ n) => .ret n
  | some _ => .fail

def sliceOp (st : St) (t : Nat) (v : AV) (lo hi mx : Option AV) : R AV :=
  match mx with
  | some _ => .fail
  | none =>
  match T.sh t, v with
  | .str, .str s => (boundOf s.length hi).bind fun h => (boundOf 0 lo).bind fun l =>
      chk (decide (0 ≤ h) && decide (h ≤ s.length)) (chk (decide (0 ≤ l) && decide (l ≤ h)) (.ret (.str ((s.take h.toNat).drop l.toNat))))
  | .slice e, .sl sz n rows _ => chk (n || decide (sz = size T e)) ((boundOf rows.length hi).bind fun h => (boundOf 0 lo).bind fun l =>
      chk (decide (0 ≤ h) && decide (h ≤ rows.length)) (chk (decide (0 ≤ l) && decide (l ≤ h)) (.ret (.sl sz n ((rows.take h.toNat).drop l.toNat) .no))))
  | .arr len e, .lp k o => (match lo, hi with
      | none, none => chk (decide (0 < len) && decide (o + len * size T e ≤ (nthL st.L k).length)) (.ret (.vs k o len (size T e)))
      | _, _ => .fail)
  | _, _ => .fail

def fillAt (place : Nat → Option (Nat × Nat)) (cs : List AV) : List (Nat × AV) → R (List AV)
  | [] => .ret cs
  | (i, v) :: rest =>
    match place i with
    | none => .fail
    | some (o, n) =>
      let vs := v.cells.map AV.strip
      chk (decide (vs.length = n) && decide (o + n ≤ cs.length) && vs.all AV.solid) (fillAt place (splice cs o vs) rest)

def zeros (t : Nat) : List AV := (T.ks t).map zeroCell

def buildOp (t : Nat) (parts : List (Nat × AV)) : R AV :=
  match T.sh t with
  | .struct fs => (fillAt (fun i => match fs[i]? with | some (o, e) => some (o, size T e) | none => none) (zeros T t) parts).bind fun cs => .ret (.agg cs)
  | .arr _ e => (fillAt (fun i => some (i * size T e, size T e)) (zeros T t) parts).bind fun cs => .ret (.agg cs)
  | _ => .fail

def chunk (sz : Nat) : Nat → List AV → List (List AV)
  | 0, _ => []
  | n + 1, l => l.take sz :: chunk sz n (l.drop sz)

def rep (n : Nat) (l : List AV) : List AV := match n with | 0 => [] | n + 1 => l ++ rep n l

def buildSliceOp (dst : Option Nat) (t len : Nat) (parts : List (Nat × AV)) : R AV :=
  match T.sh t, dst with
  | .slice e, some d =>
    chk (decide (len * size T e ≤ 16777216)) ((fillAt (fun i => some (i * size T e, size T e)) (rep len (zeros T e)) parts).bind fun cs =>
      if cs.all AV.pure1 then .ret (.sl (size T e) false (chunk (size T e) len cs) (.tc d))
      else chk (cs.all AV.noLp1) (.ret (.psl (size T e) (chunk (size T e) len cs))))
  | _, _ => .fail

def lenOp (st : St) (t : Nat) (v : AV) : R AV :=
  match T.sh t, v with
  | .slice _, .sl _ _ rows _ => .ret (.int .i64 rows.length)
  | .slice _, .psl _ rows => .ret (.int .i64 rows.length)
  | .slice _, .vs _ _ n _ => .ret (.int .i64 n)
  | .str, .str s => .ret (.int .i64 s.length)
  | .map _ _, .nm => .ret (.int .i64 0)
  | .map _ _, .mp k => (match st.H.getD k (.cells []) with | .map es => .ret (.int .i64 es.length) | _ => .fail)
  | _, _ => .fail

def byteRow (b : UInt8) : List AV := [.int .u8 b.toNat]

def bytesOfRows : List (List AV) → List UInt8
  | [] => []
  | r :: rs => (match r with | [.int _ n] => UInt8.ofNat n.toNat | _ => 0) :: bytesOfRows rs
def areBytes : List (List AV) → Bool
  | [] => true
  | r :: rs => (match r with | [.int .u8 _] => true | _ => false) && areBytes rs

def stripOwnAt (cs : List AV) (o : Nat) : List AV := cs.set o ((cs.getD o .junk).strip)

def intArith (op : BinOp) (k : IntKind) (x y : Int) : R AV :=
  match op with
  | .add => .ret (.int k (wrapF k (x + y)))
  | .sub => .ret (.int k (wrapF k (x - y)))
  | .mul => .ret (.int k (wrapF k (x * y)))
  | .quo => chk (!(y == 0)) (.ret (.int k (wrapF k (x.tdiv y))))
  | .rem => chk (!(y == 0)) (.ret (.int k (x.tmod y)))
  | .and => .ret (.int k (wrapF k (BitVec.ofInt k.bits x &&& BitVec.ofInt k.bits y).toNat))
  | .or => .ret (.int k (wrapF k (BitVec.ofInt k.bits x ||| BitVec.ofInt k.bits y).toNat))
  | .xor => .ret (.int k (wrapF k (BitVec.ofInt k.bits x ^^^ BitVec.ofInt k.bits y).toNat))
  | .andNot => .ret (.int k (wrapF k (BitVec.ofInt k.bits x &&& ~~~ BitVec.ofInt k.bits y).toNat))
  | .eql => .ret (.bool (x == y))
  | .neq => .ret (.bool (!(x == y)))
  | .lss => .ret (.bool (decide (x < y)))
  | .leq => .ret (.bool (decide (x ≤ y)))
  | .gtr => .ret (.bool (decide (y < x)))
  | .geq => .ret (.bool (decide (y ≤ x)))
  | _ => .fail

/-- Equality of cells of a kind. -/
def eqCell : CK → AV → AV → Bool
  | .b, x, y => x.boolOf == y.boolOf
  | .i _, x, y => x.intOf == y.intOf
  | .s, x, y => x.strOf == y.strOf
  | _, _, _ => false
def eqKind : CK → Bool
  | .b | .i _ | .s => true
  | _ => false
def eqCells : List CK → List AV → List AV → Bool
  | k :: ks, x :: xs, y :: ys => eqCell k x y && eqCells ks xs ys
  | _, _, _ => true

def equalOp (t : Nat) (x y : AV) : R Bool :=
  match T.sh t with
  | .bool => (match x, y with | .bool a, .bool b => .ret (a == b) | _, _ => .fail)
  | .ptr e => (match x with
    | .np => (match y with | .np => .ret true | .gp _ _ => .ret false | .lp _ _ => .ret false | _ => .fail)
    | .lp _ _ => (match y with | .np => .ret false | _ => .fail)
    | .gp k o => (match y with
      | .np => .ret false
      | .gp k' o' => chk (k == k' && decide (T.sh e ≠ .other) && decide (0 < size T e)) (.ret (o == o'))
      | _ => .fail)
    | _ => .fail)
  | .slice _ => (match y with
    | .sl _ n' _ _ => (match x with
      | .sl _ n _ _ => .br n (.ret n') (chk n' (.ret false))
      | .vs _ _ _ _ => chk n' (.ret false)
      | _ => .fail)
    | _ => .fail)
  | .struct _ => (match x, y with
    | .agg xs, .agg ys => chk ((T.ks t).all eqKind && canonOks (T.ks t) xs && canonOks (T.ks t) ys) (.ret (eqCells (T.ks t) xs ys))
    | _, _ => .fail)
  | .arr _ _ => (match x, y with
    | .agg xs, .agg ys => chk ((T.ks t).all eqKind && canonOks (T.ks t) xs && canonOks (T.ks t) ys) (.ret (eqCells (T.ks t) xs ys))
    | _, _ => .fail)
  | _ => .fail

def binOpR (op : BinOp) (t : Nat) (x y : AV) : R AV :=
  match x, y with
  | .int k a, .int k' b =>
    match op with
    | .shl => chk (decide (0 ≤ b)) (.ret (.int k (wrapF k (a * ((2 ^ (min b.toNat k.bits) : Nat) : Int)))))
    | .shr => chk (decide (0 ≤ b)) (.ret (.int k (a.fdiv ((2 ^ (min b.toNat k.bits) : Nat) : Int))))
    | _ => chk (k == k') (intArith op k a b)
  | .str a, .str b =>
    match op with
    | .add => chk (decide (a.length + b.length ≤ 4611686018427387904)) (.ret (.str (a ++ b)))
    | .eql => .ret (.bool (a == b))
    | .neq => .ret (.bool (!(a == b)))
    | _ => .fail
  | x, y =>
    match op with
    | .eql => (equalOp T t x y).bind fun b => .ret (.bool b)
    | .neq => (equalOp T t x y).bind fun b => .ret (.bool (!b))
    | _ => .fail

def unOpR (op : UnOp) (x : AV) : R AV :=
  match op, x with
  | .not, .bool b => .ret (.bool (!b))
  | .neg, .int k n => .ret (.int k (wrapF k (0 - n)))
  | _, _ => .fail

/-- The rows that a source yields. -/
def moreOf (st : St) (e : Nat) (src : AV) : Option (List (List AV)) :=
  match src with
  | .sl _ _ r2 _ => some r2
  | .str s => some (s.map byteRow)
  | .vs k o n z => if z == size T e && decide (o + n * z ≤ (nthL st.L k).length) then some (chunk z n (((nthL st.L k).drop o))) else none
  | _ => none

def convertOp (st : St) (src dst : Nat) (x : AV) : R AV :=
  chk (decide (T.sh src ≠ .other)) (match T.sh src, T.sh dst, x with
  | _, .int k, .int _ n => .ret (.int k (wrapF k n))
  | _, .str, .str s => .ret (.str s)
  | .str, .slice e, .str s => (match T.sh e with | .int .u8 => .ret (.sl 1 false (s.map byteRow) .no) | _ => .fail)
  | .slice e, .str, .sl _ _ rows _ => (match T.sh e with | .int .u8 => chk (areBytes rows) (.ret (.str (bytesOfRows rows))) | _ => .fail)
  | .slice e, .str, .vs k o n z => (match T.sh e, moreOf T st e (.vs k o n z) with
    | .int .u8, some rows => chk (areBytes rows) (.ret (.str (bytesOfRows rows)))
    | _, _ => .fail)
  | _, _, _ => .fail)

/-- Keys of maps: numbers and structs of numbers. -/
def keyOk (k : List AV) : Bool := k.all fun | .int _ _ => true | _ => false
def keyEq : List AV → List AV → Bool
  | [], [] => true
  | x :: xs, y :: ys => (x.intOf == y.intOf) && keyEq xs ys
  | _, _ => false

def findE (key : List AV) : List (List AV × AV) → Option AV
  | [] => none
  | (k, v) :: es => if keyEq key k then some v else findE key es
def hasE (key : List AV) : List (List AV × AV) → Bool
  | [] => false
  | (k, _) :: es => keyEq key k || hasE key es
def setE (key : List AV) (v : AV) : List (List AV × AV) → List (List AV × AV)
  | [] => []
  | (k, u) :: es => if keyEq key k then (key, v) :: es else (k, u) :: setE key v es
def delE (key : List AV) : List (List AV × AV) → List (List AV × AV)
  | [] => []
  | (k, u) :: es => if keyEq key k then es else (k, u) :: delE key es
def getE (key : List AV) (z : AV) : List (List AV × AV) → AV
  | [] => z
  | (k, v) :: es => if keyEq key k then v else getE key z es

/-- A key: a struct of numbers. -/
def keyCells : AV → List AV
  | .agg cs => cs
  | _ => []
def intKind : CK → Bool | .i _ => true | _ => false
def keyType (kt : Nat) : Bool :=
  (match T.sh kt with | .struct fs => fs.all (fun f => match T.sh f.2 with | .int _ => true | _ => false) | _ => false) && (T.ks kt).all intKind
def isKey (kt : Nat) (k : AV) (es : List (List AV × AV)) : Bool :=
  match k with | .agg cs => keyType T kt && canonOks (T.ks kt) cs && es.all (fun p => canonOks (T.ks kt) p.1) | _ => false

def mapAt (st : St) (m : AV) : R (Nat × List (List AV × AV)) :=
  match m with
  | .mp k => match st.H.getD k (.cells []) with | .map es => .ret (k, es) | _ => .fail
  | _ => .fail

def zeroVal (t : Nat) : AV := if isAgg T t then .agg (zeros T t) else (zeros T t).headD .junk

def lookupOp (st : St) (t : Nat) (m key : AV) (ok : Bool) : R AV :=
  match T.sh t with
  | .map kt e =>
    (mapAt st m).bind fun (_, es) => chk (isKey T kt key es) (
      let v := canonE (match T.ks e with | [c] => c | _ => .x) (getE (keyCells key) (zeroVal T e) es)
      chk (canonOkE (match T.ks e with | [c] => c | _ => .x) (getE (keyCells key) (zeroVal T e) es))
        (.ret (if ok then .tup [v, .bool (hasE (keyCells key) es)] else v)))
  | _ => .fail

def mapUpdateOp (st : St) (t : Nat) (m key v : AV) : R St :=
  match T.sh t with
  | .map kt e => (mapAt st m).bind fun (k, es) =>
      chk (isKey T kt key es && !st.ro && v.pure1 && canonOk (match T.ks e with | [c] => c | _ => .x) v)
      (.ret { st with H := st.H.set k (.map (if hasE (keyCells key) es then setE (keyCells key) v.strip es else es ++ [((keyCells key), v.strip)])) })
  | _ => .fail

def deleteOp (st : St) (t : Nat) (m key : AV) : R St :=
  match T.sh t with
  | .map kt _ => (mapAt st m).bind fun (k, es) =>
      chk (isKey T kt key es && !st.ro) (.ret { st with H := st.H.set k (.map (delE (keyCells key) es)) })
  | _ => .fail

def mm (f : Int → Int → Int) : AV → List AV → R AV
  | v, [] => .ret v
  | .int k x, .int _ y :: rest => mm f (.int k (f x y)) rest
  | _, _ => .fail

/-- All temporaries, local blocks that hold no pointer to the local block d any more. -/
def killLp (st : St) (d : Nat) : St :=
  { st with tm := st.tm.map (fun v => if v.depOk (fun k => !(k == d)) then v else .junk), L := st.L.map (fun b => b.map fun v => if v.depOk (fun k => !(k == d)) then v else .junk) }

/-- Nil slices may be appended to by who holds them. -/
def nilSelf (v : AV) : AV := match v with | .sl sz n rows o => .sl sz n rows (bif n then .self else o) | v => v
def selfAt (l : List Nat) (cs : List AV) : List AV := List.rec (motive := fun _ => List AV) cs (fun i _ ih => upd ih i (nilSelf (nth ih i))) l

def allocOp (fid : Nat) (st : St) (dst : Option Nat) (cs : List AV) : R St :=
  match dst with
  | none => .fail
  | some d =>
    if T.esc fid d then chk (cs.all AV.noLp1 && !st.ro) (.ret (St.set { st with H := st.H ++ [GB.cells (selfAt (T.slf fid d) cs)] } d (.gp st.H.length 0)))
    else chk (cs.all fun v => v.depOk (fun k => !(k == d))) (let st := killLp st d
      .ret (St.set { st with L := upd st.L d cs } d (.lp d 0)))

/-- A fresh row that nobody else holds becomes a local block. -/
def thawed (fid d : Nat) (st : St) (v : AV) : R St :=
  if T.thaw fid d then
    match v with
    | .sl sz isnil rows _ => .br isnil (.ret (st.set d (.sl sz true [] .no)))
        (let st := killLp st d
         .ret (St.set { st with L := upd st.L d (rows.flatten.map AV.strip) } d (.vs d 0 rows.length sz)))
    | _ => .fail
  else .ret (st.set d v)

/-- The class of a grown row: not the one that it uses up. -/
def nextCls (d : Nat) (o : Own) : Own := if o = .tc d then .tc (d + 100000) else .tc d

/-- append(base, src). -/
def appendOp (fid : Nat) (st : St) (dst : Option Nat) (t : Nat) (base src : AV) : R St :=
  match T.sh t, base, dst with
  | .slice e, .sl sz isnil rows own, some d =>
    match moreOf T st e src with
    | none => .fail
    | some r2 =>
      chk (decide (rows.length + r2.length ≤ 268435456)) (chk (decide (T.bytes e ≤ 4096)) (
        chk (r2.all (fun r => r.all AV.pure1 && r.length == size T e))
        (.br isnil
          (thawed T fid d st (.sl (size T e) r2.isEmpty r2 (.tc d)))
          (chk (usable st own && decide (sz = size T e))
            (let st1 := match own with
              | .gc k o => (match st.H.getD k (.map []) with | .cells cs => { st with H := st.H.set k (.cells (stripOwnAt cs o)) } | _ => st)
              | .lc k o => { st with L := upd st.L k (stripOwnAt (nthL st.L k) o) }
              | _ => st
             .ret ((useUp st1 own).set d (.sl sz false (rows ++ r2) (nextCls d own))))))))
  | _, _, _ => .fail

/-- A block of rows that is whole in a local block. -/
def wholeVs (st : St) (k o n sz : Nat) : Bool := o == 0 && (nthL st.L k).length == n * sz && decide (0 < sz)

/-- A value without slices (of one cell). -/
def noSl (v : AV) : Bool := match v with | .bool _ | .int _ _ | .str _ => true | _ => false

def insertOp (st : St) (dst : Option Nat) (args : List AV) : R St :=
  match dst, args with
  | some d, [.vs k o n sz, .int .i64 i, .sl z2 _ [x] (.tc c)] =>
    chk (wholeVs st k o n sz && z2 == 11 && x.length == 11 && x.all noSl && (nthL st.L k).all noSl && sz == 11 && usable st (.tc c)) (chk (decide (0 ≤ i) && decide (i ≤ n) && decide (n ≤ 268435456))
      (let b := nthL st.L k
       let st := killLp (killLp st k) d
       .ret (St.set { st with L := upd (upd st.L k []) d (b.take (i.toNat * 11) ++ x ++ b.drop (i.toNat * 11)) } d (.vs d 0 (n + 1) 11))))
  | some d, [.sl _ true [] _, .int .i64 i, .sl sz _ [x] (.tc c)] =>
    chk (i == 0 && x.length == 11 && sz == 11 && x.all noSl && usable st (.tc c)) (let st := killLp st d
     .ret (St.set { st with L := upd st.L d x } d (.vs d 0 1 11)))
  | _, _ => .fail

def deleteAtOp (st : St) (dst : Option Nat) (args : List AV) : R St :=
  match dst, args with
  | some d, [.vs k o n sz, .int .i64 i, .int .i64 j] =>
    chk (wholeVs st k o n sz && j == i + 1 && (nthL st.L k).all noSl && sz == 11) (chk (decide (0 ≤ i) && decide (i < n) && decide (n ≤ 268435456))
      (let b := nthL st.L k
       let st := killLp (killLp st k) d
       .ret (St.set { st with L := upd (upd st.L k []) d (b.take (i.toNat * 11) ++ b.drop ((i.toNat + 1) * 11)) } d (.vs d 0 (n - 1) 11))))
  | _, _ => .fail

/-- A view of a local array, as its elements are now. -/
def snapOf (st : St) (v : AV) : AV :=
  match v with
  | .vs k o n sz => .sl sz false (chunk sz n ((nthL st.L k).drop o)) .no
  | v => v
def snapOk (st : St) (v : AV) : Bool :=
  match v with
  | .vs k o n sz => decide (o + n * sz ≤ (nthL st.L k).length) && decide (0 < sz) && (((nthL st.L k).drop o).take (n * sz)).all AV.pure1
  | _ => true
def isVs (v : AV) : Bool := match v with | .vs _ _ _ _ => true | _ => false

/-- A block as one reads it who does not own what it holds. -/
def stripGB : GB → GB
  | .cells cs => .cells (cs.map AV.strip)
  | .map es => .map es

/-- How a call goes: 0: alone (no pointers go in or out); 1: with the global blocks; 2: with them, which it leaves as they are. -/
def callOp (fid : Nat) (st : St) (dst : Option Nat) (drawn : Bool) (f : Nat) (args : List AV) : R St :=
  match T.known f with
  | 1 => (match args.map AV.stripAll with | [v] => .ret (st.put dst v) | _ => .fail)
  | 2 => insertOp st dst args
  | 3 => deleteAtOp st dst args
  | _ =>
  chk (args.all (snapOk st) && Nat.blt f 1000000) (
  let snaps := args.any isVs
  let as := args.map fun v => (snapOf st v).stripAll
  if as.all AV.noRef && !T.hm f then
    .call 0 f as [] fun (v, _) => chk (v.noRef && (!snaps || noSl v)) (match dst with
      | none => .ret st
      | some d => match v with
        | .sl sz n rows o => (match o with | .no | .self => .ret (st.set d (.sl sz n rows .no)) | _ => chk (!T.thaw fid d || rows.all (fun r => r.all noSl)) (thawed T fid d st (.sl sz n rows (.tc d))))
        | v => .ret (st.set d v))
  else chk (as.all AV.noLp && !snaps) (
    if st.ro || (drawn && !T.wr f) then
      .call 2 (f + 1000000) as (st.H.map stripGB) fun (v, _) => chk v.noLp (.ret (st.put dst v.stripAll))
    else .call 1 f as st.H fun (v, H) => chk v.noLp (.ret (St.put { st with H, conG := true } dst v.stripAll))))

def wantedR (ops : Array Oper) (st : St) (o : Oper) (yes no : St → R St) : R St :=
  match o.guard with
  | none => yes st
  | some (j, want) =>
    match (ops[j]?).bind (·.dst) with
    | none => .fail
    | some d => match st.get d with
      | .bool b => .br b
          (if want then yes (st.set d (.bool true)) else no (st.set d (.bool true)))
          (if want then no (st.set d (.bool false)) else yes (st.set d (.bool false)))
      | .und => no st
      | _ => .fail

def litBool (st : St) (c : Operand) (b : Bool) : St :=
  match c with
  | .tmp t => st.set t (.bool b)
  | _ => st

/-- One operation. 'drawn': in a region that draws its order; 'ng': its loads are not of global blocks. -/
def evOp (fid : Nat) (drawn ng : Bool) (o : Oper) (st : St) : R St :=
  let ρ := rho st
  let v (r : R AV) : R St := r.bind fun x => .ret (st.put o.dst x)
  match o.op with
  | .move x => .ret (st.put o.dst (ρ x))
  | .assign x => .ret (st.put o.dst (ρ x))
  | .pick c a b => (match ρ c with
    | .bool t => .br t (.ret ((litBool st c true).put o.dst (ρ a))) (.ret ((litBool st c false).put o.dst (ρ b)))
    | _ => .fail)
  | .alloc e => chk (decide (T.sh e ≠ .other)) (allocOp T fid st o.dst (zeros T e))
  | .box e x => chk (decide (T.sh e ≠ .other) && decide ((ρ x).cells.length = size T e) && (ρ x).cells.all AV.solid) (allocOp T fid st o.dst ((ρ x).cells.map AV.strip))
  | .build t parts => v (buildOp T t (parts.toList.map fun (i, x) => (i, ρ x)))
  | .buildSlice t len parts => v (buildSliceOp T o.dst t len (parts.toList.map fun (i, x) => (i, ρ x)))
  | .load t a => chk (!(ng && (ρ a).isGp)) (v (loadOp T st t (ρ a)))
  | .store t a x => (storeOp T st t (ρ a) (ρ x)).bind fun st => .ret (st.put o.dst .und)
  | .nilCheck x => (match ρ x with
    | .lp k o' => .ret (st.put o.dst (.lp k o'))
    | .gp k o' => .ret (st.put o.dst (.gp k o'))
    | .ep r o' => .ret (st.put o.dst (.ep r o'))
    | _ => .fail)
  | .binOp op t x y _ => v (binOpR T op t (ρ x) (ρ y))
  | .unOp op _ x => v (unOpR op (ρ x))
  | .convert s d x => (convertOp T st s d (ρ x)).bind fun y => (match o.dst, y with
    | some t, .sl sz n rows _ => thawed T fid t st (.sl sz n rows (.tc t))
    | none, .sl _ _ _ _ => .fail
    | d, y => .ret (st.put d y))
  | .makeFunc (.func f) fs caps => chk (fs.isEmpty && (caps.toList.map fun x => (ρ x).strip).all AV.capOk) (v (.ret (.fn f (caps.toList.map fun x => (ρ x).strip))))
  | .makeMap _ none => (match o.dst with
    | some d => chk (!st.ro) (.ret (St.set { st with H := st.H ++ [GB.map []] } d (.mp st.H.length)))
    | none => .fail)
  | .slice t x lo hi mx => v (sliceOp T st t (ρ x) (lo.map ρ) (hi.map ρ) (mx.map ρ))
  | .fieldAddr t x f => v (fieldAddrOp T t (ρ x) f)
  | .indexAddr t x i => v (indexAddrOp T t (ρ x) (ρ i))
  | .index t x i => v ((indexOp T t (ρ x) (ρ i)).bind fun y => .ret y.strip)
  | .lookup t m k ok => v (lookupOp T st t (ρ m) (ρ k) ok)
  | .mapUpdate t m k x => (mapUpdateOp T st t (ρ m) (ρ k) (ρ x)).bind fun st => .ret (st.put o.dst .und)
  | .extract x i => v (match ρ x with | .tup vs => (match vs[i]? with | some y => .ret y.strip | none => .fail) | _ => .fail)
  | .call c =>
    (match c.callee with
    | .builtin b =>
      (match b, c.args.toList, c.argTypes.toList with
      | .len, [x], [t] => v (lenOp T st t (ρ x))
      | .min, x :: y :: xs, _ => v (mm (fun x y => if y < x then y else x) (ρ x) ((y :: xs).map ρ))
      | .max, x :: y :: xs, _ => v (mm (fun x y => if y > x then y else x) (ρ x) ((y :: xs).map ρ))
      | .append, [x, y], [t, t2] => (match T.sh t2 with
        | .slice _ | .str => appendOp T fid st o.dst t (ρ x) (ρ y)
        | _ => .fail)
      | .delete, [m, k], [t, _] => (deleteOp T st t (ρ m) (ρ k)).bind fun st => .ret (st.put o.dst .junk)
      | _, _, _ => .fail)
    | .value g => (match ρ g with
      | .fn f cap => callOp T fid st o.dst drawn f (c.args.toList.map ρ ++ cap.map AV.strip)
      | _ => .fail)
    | _ => .fail)
  | _ => .fail

/-- A class by its place alone. -/
def ownR (o : Own) : Own := match o with | .tc c => .tc (bif Nat.ble 100000 c then c - 100000 else c) | o => o
def avR (v : AV) : AV := match v with | .sl sz n rows o => .sl sz n rows (ownR o) | v => v
/-- At the end of a region: flags whose class is used up go. -/
def settle (st : St) : St :=
  bif st.cons.isEmpty && !st.conG && !st.conL then st else { st with tm := st.tm.map (fun v => avR (fresh st v)), cons := [], conG := false, conL := false }

def diffBlk (v u : AV) : Bool :=
  match v, u with
  | .lp k _, .lp j _ => !(k == j)
  | .lp _ _, .gp _ _ => true
  | .gp _ _, .lp _ _ => true
  | .gp k _, .gp j _ => !(k == j)
  | .sl _ _ _ _, .lp _ _ => true
  | .sl _ _ _ _, .gp _ _ => true
  | .ep _ _, .lp _ _ => true
  | .ep _ _, .gp _ _ => true
  | _, _ => false
def sameBlk (v u : AV) : Bool :=
  match v, u with
  | .lp k _, .lp j _ => k == j
  | .lp k _, .vs j _ _ _ => k == j
  | .gp k _, .gp j _ => k == j
  | .ep _ _, .sl _ _ _ _ => true
  | .ep _ _, .ep _ _ => true
  | _, _ => false
def notJunk (v : AV) : Bool := match v with | .junk => false | _ => true
def preOk (ck : Ck) (o : Oper) (st : St) : Bool :=
  (ck.forb.all fun d => o.op.operands.toList.all fun x => (rho st x).depOk (fun k => !(k == d)) && notJunk (rho st x)) &&
  (match o.dst with
    | some d => !ck.alone || ((st.tm.zipIdx.all fun p => ck.spare.contains p.2 || p.1.depOk (fun k => !(k == d))) && st.L.all fun b => b.all fun v => v.depOk (fun k => !(k == d)))
    | none => !ck.alone) &&
  (match ck.root with
    | some r => (match o.op with
      | .load _ a => sameBlk (rho st a) (st.get r)
      | .store _ a _ => sameBlk (rho st a) (st.get r)
      | _ => false)
    | none => true) &&
  ck.apart.all fun p => diffBlk (st.get p.1) (st.get p.2)
def postOk (ck : Ck) (o : Oper) (st : St) : Bool :=
  match o.dst with
  | some t => ck.forb.all fun d => (st.get t).depOk (fun k => !(k == d))
  | none => true
def withCk (ck : Ck) (o : Oper) (st : St) (r : R St) : R St :=
  bif ck.plain then r else chk (preOk ck o st) (r.bind fun st' => chk (postOk ck o st') (.ret st'))

def ngOf (_drawn : Bool) (_ops : Array Oper) (_i : Nat) : Bool := false

def evOps (fid : Nat) (drawn : Bool) (cks : Nat → Ck) (ops : Array Oper) (l : List Nat) : St → R St :=
  List.rec (motive := fun _ => St → R St) (fun st => .ret (settle st))
    (fun i _ ih st => match ops[i]? with
      | none => .fail
      | some o => (wantedR ops st o (fun st => withCk (cks i) o st (evOp T fid drawn (ngOf drawn ops i) o st)) (fun st => .ret (st.put o.dst .und))).bind ih) l

/-- How a place is kept between rounds, and behind a loop: the thousands of its number tell: 0: as it is; 1: without its class; n + 2: a nil slice as one of elements of n cells. -/
def kd (live : List Nat) (i : Nat) : Option Nat :=
  List.rec (motive := fun _ => Option Nat) none (fun e _ ih => bif Nat.beq (e % 1000) i then some (e / 1000) else ih) live
def nilFix (sz : Nat) (o : Own) (v : AV) : AV :=
  match v with
  | .sl z n rows o' => bif Nat.beq z sz then .sl z n rows o' else bif n then .sl sz n rows o else .sl z n rows o'
  | v => v
def keepAs (i : Nat) (v : AV) (k : Nat) : AV := Nat.casesOn k v (fun k => Nat.casesOn k v.strip (fun n => nilFix n (.tc i) v))
def keepAt (live : List Nat) (i : Nat) (v : AV) : AV := Option.rec .junk (keepAs i v) (kd live i)
def keepsCls (live : List Nat) (i : Nat) : Bool := Option.rec false (fun k => !(Nat.beq k 1)) (kd live i)
/-- A class is called by the first place that holds it. -/
def clsAt (live : List Nat) (c : Nat) (tm : List AV) : Nat → Nat :=
  List.rec (motive := fun _ => Nat → Nat) (fun _ => c) (fun v _ ih i =>
    bif (match v with | .sl _ _ _ (.tc c') => bif Nat.beq c c' then keepsCls live i else false | _ => false) then i else ih (i + 1)) tm
def ownN (live : List Nat) (tm : List AV) (o : Own) : Own := match o with | .tc c => .tc (clsAt live c tm 0) | o => o
def avN (live : List Nat) (tm : List AV) (v : AV) : AV := match v with | .sl sz n rows o => .sl sz n rows (ownN live tm o) | v => v
/-- Between rounds, and behind a loop: only what lives stays. -/
def norm (live : List Nat) (st : St) : St :=
  { st with tm := (st.tm.map (fresh st)).zipIdx.map (fun (v, i) => keepAt live i (avN live (st.tm.map (fresh st)) v)), L := st.L.zipIdx.map (fun (b, i) => if (kd live i).isSome then b else []), cons := [], conG := false, conL := false }

def firstRegion : Code → Nat
  | .region id _ _ => id
  | .seq a b => match firstRegion a with | 1000000 => firstRegion b | r => r
  | .cond _ a _ => firstRegion a
  | .block _ c | .loop c | .scope c => firstRegion c
  | _ => 1000000

def evCode (fid : Nat) (c : Code) : St → R (Ex × St) :=
  Code.rec (motive := fun _ => St → R (Ex × St))
    (fun st => .ret (.normal, st))
    (fun id ops drawn st => (evOps T fid drawn (T.ck fid id) ops (List.range ops.size) st).bind fun st => .ret (.normal, st))
    (fun _ _ a b st => (a st).bind fun x => match x with | (.normal, st) => b st | x => .ret x)
    (fun c _ _ a b st => match rho st c with
      | .bool t => .br t (a (litBool st c true)) (b (litBool st c false))
      | _ => .fail)
    (fun id _ c st => (c st).bind fun x => match x with | (.exit i, st) => .ret (if i == id then .normal else .exit i, st) | x => .ret x)
    (fun c _ st => .loop fid (firstRegion c) c (norm (T.lv fid (firstRegion c)).1 st) .ret)
    (fun _ _ _ _ _ _ _ => .fail)
    (fun id st => .ret (.exit id, st))
    (fun _ c st => c st)
    (fun _ st => .ret (.normal, st))
    (fun _ _ => .fail)
    (fun st => .ret (.ret, st))
    (fun _ _ => .fail) c

/-- A local block that is handed back as a row. -/
def frozenV (st : St) (v : AV) : R AV :=
  match v with
  | .vs k o n sz => chk (wholeVs st k o n sz && (nthL st.L k).all AV.pure1) (.ret (.sl sz false (chunk sz n (nthL st.L k)) .no))
  | v => .ret v
def resVal (st : St) : ResultVar → R AV
  | .tmp t => frozenV st (fresh st (st.get t))
  | .cell a t => (loadOp T st t (st.get a)).bind fun y => .ret (fresh st y)

def resVals (st : St) : List ResultVar → R (List AV)
  | [] => .ret []
  | r :: rs => (resVal T st r).bind fun v => (resVals st rs).bind fun vs => .ret (v :: vs)

/-- A result's class is the caller's matter. -/
def ownZ (o : Own) : Own := match o with | .tc _ => .tc 0 | o => o
def resOwn (sz : Nat) (v : AV) : AV :=
  match v with
  | .sl z n rows o => bif Nat.beq z sz then .sl z n rows (ownZ o) else bif n then .sl sz n rows (.tc 0) else .sl z n rows (ownZ o)
  | v => v
def elSz (t : Nat) : Nat := match T.sh t with | .slice e => size T e | _ => 0
def fixAll (szs : List Nat) (vs : List AV) : List AV :=
  List.rec (motive := fun _ => List Nat → List AV) (fun _ => []) (fun v _ ih szs => nilFix (szs.headD 0) .no v.stripAll :: ih szs.tail) vs szs
def resOf (szs : List Nat) (vs : List AV) : AV := match vs with | [v] => resOwn (szs.headD 0) v | vs => .tup (fixAll szs vs)
def resSz (fn : Func) : List Nat := fn.resultTypes.toList.map (elSz T)

def evFunc (f : Nat) (args : List AV) (H : List GB) : R (AV × List GB) :=
  let ro := Nat.ble 1000000 f
  let f := bif ro then f - 1000000 else f
  match T.fn f with
  | none => .fail
  | some fn => match fn.body with
    | none => .fail
    | some c => chk (decide (args.length ≤ fn.ntmps))
      ((evCode T f c { tm := args ++ List.replicate (fn.ntmps - args.length) .und, L := List.replicate fn.ntmps [], H, cons := [], conG := false, conL := false, ro }).bind fun (e, st) =>
        match e with
        | .exit _ => .fail
        | _ => (resVals T st fn.results.toList).bind fun vs => chk (vs.all AV.plainV) (.ret (resOf (resSz T fn) vs, st.H)))

def den {α : Type} (C : Nat → List AV → List GB → Option (AV × List GB)) (Lp : Nat → Nat → Code → St → Option (Ex × St)) (t : R α) : Option α :=
  R.rec (motive := fun _ => Option α) (fun a => some a) none (fun b _ _ t e => bif b then t else e)
    (fun _ f args H _ k => Option.rec none (fun x => k x) (C f args H)) (fun fid rid c st _ k => Option.rec none (fun x => k x) (Lp fid rid c st)) t

/-- Calls and loops, so many deep. -/
def sem (n : Nat) : (Nat → List AV → List GB → Option (AV × List GB)) × (Nat → Nat → Code → St → Option (Ex × St)) :=
  Nat.rec (fun _ _ _ => none, fun _ _ _ _ => none) (fun _ ih =>
    (fun f args H => den ih.1 ih.2 (evFunc T f args H),
     fun fid rid c st => Option.rec none (fun x => match x with
      | (.normal, st') => ih.2 fid rid c (norm (T.lv fid rid).1 st')
      | (e, st') => some (e, norm (T.lv fid rid).2 st')) (den ih.1 ih.2 (evCode T fid c st)))) n

def callN (n f : Nat) (args : List AV) (H : List GB) : Option (AV × List GB) := (sem T n).1 f args H
def loopN (n fid rid : Nat) (c : Code) (st : St) : Option (Ex × St) := (sem T n).2 fid rid c st
end
end
end Go.Ab
namespace Go.Ab

/-- What the run knows of memory: the local blocks, the global ones, how far a block's cells are never written again, who may append behind that. -/
structure Gh where
  lb : Nat → Option Nat
  gb : List Nat
  mrk : Nat → Nat
  ow : Nat → Own
  ro : Bool

/-- An abstract value reads so. -/
inductive VR (g : Gh) (w : World) : AV → Value → Prop
  | bool (b : Bool) : VR g w (.bool b) (.bool b)
  | int (k : IntKind) (n : Int) : VR g w (.int k n) (.int k n)
  | str (l : List UInt8) (s : ByteArray) (h : s.data.toList = l) : VR g w (.str l) (.string s)
  | np : VR g w .np (.pointer none)
  | nm : VR g w .nm (.map none)
  | nf : VR g w .nf .nilFunc
  | ni : VR g w .ni .nilIface
  | und : VR g w .und undef
  | junk (v : Value) : VR g w .junk v
  | lp (k off b : Nat) (h : g.lb k = some b) : VR g w (.lp k off) (.pointer (some ⟨b, off, none⟩))
  | gp (k off b : Nat) (h : g.gb[k]? = some b) : VR g w (.gp k off) (.pointer (some ⟨b, off, none⟩))
  | mp (k b : Nat) (h : g.gb[k]? = some b) : VR g w (.mp k) (.map (some b))
  | vs (k off n sz b cap : Nat) (arr : Array Value) (e : TypeId) (fr : Nat × Nat) (h : g.lb k = some b) (hcap : n ≤ cap) (hb : w.heap[b]? = some (.cells arr e fr)) (hsz : off + cap * sz ≤ arr.size) (hfr : ∀ j, j < arr.size → ¬(fr.1 ≤ j ∧ j < fr.2)) :
      VR g w (.vs k off n sz) (.slice (some ⟨b, off, none⟩) n cap)
  | ep (row : List AV) (off b o : Nat) (val : Nat → Value)
      (hc : ∀ j x, row[j]? = some x → w.cell? ⟨b, o + j, none⟩ = some (val j))
      (hv : ∀ j x, row[j]? = some x → VR g w x (val j))
      (hp : ∀ x ∈ row, x.noLp1 = true) (hm : o + row.length ≤ g.mrk b) : VR g w (.ep row off) (.pointer (some ⟨b, o + off, none⟩))
  | bp (rows : List (List AV)) (b o : Nat) (val : Nat → Nat → Value)
      (hz : ∀ r ∈ rows, r.length = 1)
      (hc : ∀ i r j x, rows[i]? = some r → r[j]? = some x → w.cell? ⟨b, o + i * 1 + j, none⟩ = some (val i j))
      (hv : ∀ i r j x, rows[i]? = some r → r[j]? = some x → VR g w x (val i j))
      (hp : ∀ r ∈ rows, ∀ x ∈ r, x.pure1 = true) (hm : o + rows.length * 1 ≤ g.mrk b) : VR g w (.bp rows) (.pointer (some ⟨b, o, none⟩))
  | slnil (sz : Nat) (own : Own) : VR g w (.sl sz true [] own) (.slice none 0 0)
  | sl (sz : Nat) (rows : List (List AV)) (own : Own) (b o cap : Nat) (val : Nat → Nat → Value) (hcap : rows.length ≤ cap)
      (hz : ∀ r ∈ rows, r.length = sz)
      (hc : ∀ i r j x, rows[i]? = some r → r[j]? = some x → w.cell? ⟨b, o + i * sz + j, none⟩ = some (val i j))
      (hv : ∀ i r j x, rows[i]? = some r → r[j]? = some x → VR g w x (val i j))
      (hp : ∀ r ∈ rows, ∀ x ∈ r, x.pure1 = true) (hm : o + rows.length * sz ≤ g.mrk b) :
      VR g w (.sl sz false rows own) (.slice (some ⟨b, o, none⟩) rows.length cap)
  | psl (sz : Nat) (rows : List (List AV)) (b o cap : Nat) (val : Nat → Nat → Value) (hcap : rows.length ≤ cap)
      (hz : ∀ r ∈ rows, r.length = sz)
      (hc : ∀ i r j x, rows[i]? = some r → r[j]? = some x → w.cell? ⟨b, o + i * sz + j, none⟩ = some (val i j))
      (hv : ∀ i r j x, rows[i]? = some r → r[j]? = some x → VR g w x (val i j))
      (hp : ∀ r ∈ rows, ∀ x ∈ r, x.noLp1 = true) (hm : o + rows.length * sz ≤ g.mrk b) :
      VR g w (.psl sz rows) (.slice (some ⟨b, o, none⟩) rows.length cap)
  | fn (f : Nat) (cap : List AV) (vals : Array Value) (val : Nat → Value) (hs : vals.size = cap.length)
      (hc : ∀ j x, cap[j]? = some x → vals[j]? = some (val j)) (hv : ∀ j x, cap[j]? = some x → VR g w x (val j))
      (hp : ∀ x ∈ cap, x.capOk = true) : VR g w (.fn f cap) (.func (.func f) #[] vals)
  | agg (cs : List AV) (vals : Array Value) (val : Nat → Value) (hs : vals.size = cs.length)
      (hc : ∀ j x, cs[j]? = some x → vals[j]? = some (val j)) (hv : ∀ j x, cs[j]? = some x → VR g w x (val j))
      (hp : ∀ x ∈ cs, x.isCell = true) : VR g w (.agg cs) (.agg vals)
  | tup (cs : List AV) (vals : Array Value) (val : Nat → Value) (hs : vals.size = cs.length)
      (hc : ∀ j x, cs[j]? = some x → vals[j]? = some (val j)) (hv : ∀ j x, cs[j]? = some x → VR g w x (val j))
      (hp : ∀ x ∈ cs, ∀ ws, x ≠ .tup ws) : VR g w (.tup cs) (.tuple vals)

theorem pure1_cellDep {x : AV} (S : Nat → Bool) (h : x.pure1 = true) : x.depOk S = true := by
  cases x <;> simp_all [AV.pure1, AV.depOk, AV.cellDep]
theorem noLp1_cellDep {x : AV} (S : Nat → Bool) (h : x.noLp1 = true) : x.depOk S = true := by
  cases x <;> simp_all [AV.noLp1, AV.depOk, AV.cellDep]
theorem capOk_cellDep {x : AV} (S : Nat → Bool) (h : x.capOk = true) : x.depOk S = true := by
  cases x <;> simp_all [AV.capOk, AV.pure1, AV.depOk, AV.cellDep]
theorem depOk_cell {x : AV} (S : Nat → Bool) (h : x.isCell = true) : x.depOk S = x.cellDep S := by
  cases x <;> simp_all [AV.isCell, AV.depOk]
theorem pure1_noLp1 {x : AV} (h : x.pure1 = true) : x.noLp1 = true := by
  cases x <;> simp_all [AV.noLp1, AV.pure1]
theorem noLp1_isCell {x : AV} (h : x.noLp1 = true) : x.isCell = true := by
  cases x <;> simp_all [AV.noLp1, AV.isCell]

/-- What a reading hangs on. -/
structure VExt (S : Nat → Bool) (g : Gh) (w : World) (g' : Gh) (w' : World) : Prop where
  lb : ∀ k b, S k = true → g.lb k = some b → g'.lb k = some b
  gb : ∀ k b : Nat, g.gb[k]? = some b → g'.gb[k]? = some b
  mrk : ∀ b, g.mrk b ≤ g'.mrk b
  cell : ∀ b j, j < g.mrk b → w'.cell? ⟨b, j, none⟩ = w.cell? ⟨b, j, none⟩
  shp : ∀ (b : Nat) (arr : Array Value) (e : TypeId) (fr : Nat × Nat), (∃ k, g.lb k = some b) → w.heap[b]? = some (.cells arr e fr) → ∃ arr' e', w'.heap[b]? = some (.cells arr' e' fr) ∧ arr'.size = arr.size

theorem mem_of_getElem? {α : Type} {l : List α} {i : Nat} {x : α} (h : l[i]? = some x) : x ∈ l := List.mem_of_getElem? h
theorem lt_of_getElem? {α : Type} {l : List α} {i : Nat} {x : α} (h : l[i]? = some x) : i < l.length := (List.getElem?_eq_some_iff.1 h).1

theorem row_lt {rows : List (List AV)} {sz o m i j : Nat} {r : List AV} {x : AV} (hz : ∀ r ∈ rows, r.length = sz) (hm : o + rows.length * sz ≤ m)
    (hi : rows[i]? = some r) (hj : r[j]? = some x) : o + i * sz + j < m := by
  have h1 := lt_of_getElem? hi
  have h2 := lt_of_getElem? hj
  rw [hz r (mem_of_getElem? hi)] at h2
  have : (i + 1) * sz ≤ rows.length * sz := Nat.mul_le_mul_right _ h1
  rw [Nat.add_mul] at this
  omega

theorem VR.mono {S : Nat → Bool} {g g' : Gh} {w w' : World} {x : AV} {v : Value} (hE : VExt S g w g' w') (h : VR g w x v) (hd : x.depOk S = true) : VR g' w' x v := by
  induction h with
  | bool b => exact .bool b
  | int k n => exact .int k n
  | str l s h => exact .str l s h
  | np => exact .np
  | nm => exact .nm
  | nf => exact .nf
  | ni => exact .ni
  | und => exact .und
  | junk v => exact .junk v
  | lp k off b h => exact .lp k off b (hE.lb k b (by simpa [AV.depOk, AV.cellDep] using hd) h)
  | gp k off b h => exact .gp k off b (hE.gb k b h)
  | mp k b h => exact .mp k b (hE.gb k b h)
  | vs k off n sz b cap arr e fr h hcap hb hsz hfr =>
    obtain ⟨arr', e', hb', hs'⟩ := hE.shp b arr e fr ⟨k, h⟩ hb
    exact .vs k off n sz b cap arr' e' fr (hE.lb k b (by simpa [AV.depOk, AV.cellDep] using hd) h) hcap hb' (by omega) (fun j hj => hfr j (by omega))
  | ep row off b o val hc hv hp hm ih =>
    refine .ep row off b o val (fun j x hx => ?_) (fun j x hx => ih j x hx (noLp1_cellDep S (hp x (mem_of_getElem? hx)))) hp (Nat.le_trans hm (hE.mrk b))
    rw [hE.cell b (o + j) (by have := lt_of_getElem? hx; omega)]
    exact hc j x hx
  | bp rows b o val hz hc hv hp hm ih =>
    refine .bp rows b o val hz (fun i r j x hi hx => ?_) (fun i r j x hi hx => ih i r j x hi hx (pure1_cellDep S (hp r (mem_of_getElem? hi) x (mem_of_getElem? hx)))) hp (Nat.le_trans hm (hE.mrk b))
    rw [hE.cell b _ (row_lt hz hm hi hx)]
    exact hc i r j x hi hx
  | slnil sz own => exact .slnil sz own
  | sl sz rows own b o cap val hcap hz hc hv hp hm ih =>
    refine .sl sz rows own b o cap val hcap hz (fun i r j x hi hx => ?_) (fun i r j x hi hx => ih i r j x hi hx (pure1_cellDep S (hp r (mem_of_getElem? hi) x (mem_of_getElem? hx)))) hp (Nat.le_trans hm (hE.mrk b))
    rw [hE.cell b _ (row_lt hz hm hi hx)]
    exact hc i r j x hi hx
  | psl sz rows b o cap val hcap hz hc hv hp hm ih =>
    refine .psl sz rows b o cap val hcap hz (fun i r j x hi hx => ?_) (fun i r j x hi hx => ih i r j x hi hx (noLp1_cellDep S (hp r (mem_of_getElem? hi) x (mem_of_getElem? hx)))) hp (Nat.le_trans hm (hE.mrk b))
    rw [hE.cell b _ (row_lt hz hm hi hx)]
    exact hc i r j x hi hx
  | fn f cap vals val hs hc hv hp ih =>
    exact .fn f cap vals val hs hc (fun j x hx => ih j x hx (capOk_cellDep S (hp x (mem_of_getElem? hx)))) hp
  | agg cs vals val hs hc hv hp ih =>
    refine .agg cs vals val hs hc (fun j x hx => ih j x hx ?_) hp
    have hm := mem_of_getElem? hx
    rw [depOk_cell S (hp x hm)]
    simp only [AV.depOk, List.all_eq_true] at hd
    exact hd x hm
  | tup cs vals val hs hc hv hp ih =>
    refine .tup cs vals val hs hc (fun j x hx => ih j x hx ?_) hp
    have hm := mem_of_getElem? hx
    simp only [AV.depOk, List.all_eq_true] at hd
    have := hd x hm
    cases x <;> simp_all [AV.depOk, AV.cellDep]

end Go.Ab
namespace Go.Ab

/-- Who holds the row may append to it. -/
def FLo (g : Gh) (w : World) (own : Own) (sz n : Nat) (v : Value) : Prop :=
  own = .no ∨ own = .self ∨ v = .slice none 0 0 ∨
    ∃ b off cap arr e fr, v = .slice (some ⟨b, off, none⟩) n cap ∧ g.ow b = own ∧ off + n * sz = g.mrk b ∧ w.heap[b]? = some (.cells arr e fr) ∧
      arr.size = off + cap * sz ∧ (∀ j, j < arr.size → ¬(fr.1 ≤ j ∧ j < fr.2)) ∧ off = 0 ∧ (1 < sz → ¬(fr.1 ≤ arr.size ∧ arr.size < fr.2))

def FL (g : Gh) (w : World) (x : AV) (v : Value) : Prop :=
  match x with
  | .sl sz _ rows own => FLo g w own sz rows.length v
  | _ => True

/-- A cell's own flag means its place. -/
def atLoc (o : Own) : AV → AV
  | .sl sz n rows .self => .sl sz n rows o
  | v => v
def okOwn : AV → Bool
  | .sl _ _ _ .no => true
  | .sl _ _ _ .self => true
  | .sl _ _ _ _ => false
  | _ => true

/-- The block b holds these cells (and it may hold more behind them). -/
def BR (g : Gh) (w : World) (b : Nat) (loc : Nat → Own) (cs : List AV) : Prop :=
  ∃ arr e fr, w.heap[b]? = some (.cells arr e fr) ∧ cs.length ≤ arr.size ∧ (∀ j, j < arr.size → ¬(fr.1 ≤ j ∧ j < fr.2)) ∧
    ∀ j x, cs[j]? = some x → ∃ v, arr[j]? = some v ∧ VR g w x v ∧ FL g w (atLoc (loc j) x) v ∧ x.isCell = true ∧ okOwn x = true

def LRel (g : Gh) (w : World) (L : List (List AV)) : Prop :=
  ∀ k cs, L[k]? = some cs → cs ≠ [] → ∃ b, g.lb k = some b ∧ BR g w b (fun j => .lc k j) cs

/-- The entries of a map. -/
def MR (g : Gh) (w : World) (es : List (List AV × AV)) (ents : Array MapEntry) : Prop :=
  ents.size = es.length ∧ ∀ (i : Nat) (k : List AV) (x : AV), es[i]? = some (k, x) → ∃ en, ents[i]? = some en ∧ VR g w (.agg k) en.key ∧ keyOk k = true ∧ VR g w x en.val ∧ x.pure1 = true ∧ x.slOwn = .no

structure HRel (g : Gh) (w : World) (H : List GB) : Prop where
  len : H.length = g.gb.length
  cells : ∀ (k : Nat) cs, H[k]? = some (.cells cs) → ∃ b, g.gb[k]? = some b ∧ BR g w b (fun j => .gc k j) cs ∧ ∀ x ∈ cs, x.noLp1 = true
  maps : ∀ (k : Nat) es, H[k]? = some (.map es) → ∃ b ents clk, g.gb[k]? = some b ∧ w.heap[b]? = some (.map ents clk) ∧ MR g w es ents

structure WF (g : Gh) (w : World) : Prop where
  inj : ∀ k k' b, g.lb k = some b → g.lb k' = some b → k = k'
  lbgb : ∀ k b, g.lb k = some b → b ∉ g.gb
  nd : g.gb.Nodup
  ltl : ∀ k b, g.lb k = some b → b < w.heap.size
  ltg : ∀ b ∈ g.gb, b < w.heap.size
  mrl : ∀ k b, g.lb k = some b → g.mrk b = 0 ∧ g.ow b = .no
  mrg : ∀ b ∈ g.gb, g.mrk b = 0 ∧ g.ow b = .no
  mrb : ∀ b, g.mrk b ≠ 0 → ∃ arr e fr, w.heap[b]? = some (.cells arr e fr) ∧ g.mrk b ≤ arr.size
  owlt : ∀ b, g.ow b ≠ .no → b < w.heap.size

structure Rel (g : Gh) (st : St) (a : Act) (w : World) : Prop where
  df : a.defers = []
  sz : a.tmps.size = st.tm.length
  tr : ∀ (i : Nat) x, st.tm[i]? = some x → ∃ v, a.tmps[i]? = some v ∧ VR g w x v ∧ FL g w (fresh st x) v
  lr : LRel g w st.L
  hr : HRel g w st.H
  wf : WF g w
  ro : st.ro = g.ro

/-- From (g, w) to (g', w'): what stays. -/
structure Ext (g : Gh) (w : World) (g' : Gh) (w' : World) : Prop where
  size : w.heap.size ≤ w'.heap.size
  gb : ∀ k b : Nat, g.gb[k]? = some b → g'.gb[k]? = some b
  mrk : ∀ b, g.mrk b ≤ g'.mrk b
  cell : ∀ b j, j < g.mrk b → w'.cell? ⟨b, j, none⟩ = w.cell? ⟨b, j, none⟩
  shp : ∀ (b : Nat) (arr : Array Value) (e : TypeId) (fr : Nat × Nat), w.heap[b]? = some (.cells arr e fr) → ∃ arr', w'.heap[b]? = some (.cells arr' e fr) ∧ arr'.size = arr.size
  keep : ∀ b : Nat, b < w.heap.size → (∀ k, g.lb k ≠ some b) → b ∉ g.gb → g.ow b = .no → w'.heap[b]? = w.heap[b]? ∧ g'.mrk b = g.mrk b ∧ g'.ow b = .no
  nlb : ∀ k b, g'.lb k = some b → (∃ k', g.lb k' = some b) ∨ w.heap.size ≤ b
  ngb : ∀ b, b ∈ g'.gb → b ∈ g.gb ∨ w.heap.size ≤ b
  os : w'.os = w.os
  out : w'.output = w.output
  tape : w'.tape = w.tape
  roe : g'.ro = g.ro
  rog : g.ro = true → g'.gb = g.gb ∧ ∀ b ∈ g.gb, w'.heap[b]? = w.heap[b]?

theorem Ext.refl (g : Gh) (w : World) : Ext g w g w where
  size := Nat.le_refl _
  gb := fun _ _ h => h
  mrk := fun _ => Nat.le_refl _
  cell := fun _ _ _ => rfl
  shp := fun b arr e fr h => ⟨arr, h, rfl⟩
  keep := fun _ _ _ _ h => ⟨rfl, rfl, h⟩
  nlb := fun k b h => .inl ⟨k, h⟩
  ngb := fun _ h => .inl h
  os := rfl
  out := rfl
  tape := rfl
  roe := rfl
  rog := fun _ => ⟨rfl, fun _ _ => rfl⟩

theorem Ext.trans {g g' g'' : Gh} {w w' w'' : World} (h : Ext g w g' w') (h' : Ext g' w' g'' w'') : Ext g w g'' w'' where
  size := Nat.le_trans h.size h'.size
  gb := fun k b hk => h'.gb k b (h.gb k b hk)
  mrk := fun b => Nat.le_trans (h.mrk b) (h'.mrk b)
  cell := fun b j hj => (h'.cell b j (Nat.lt_of_lt_of_le hj (h.mrk b))).trans (h.cell b j hj)
  shp := fun b arr e fr hb => by
    obtain ⟨arr', h1, h2⟩ := h.shp b arr e fr hb
    obtain ⟨arr'', h3, h4⟩ := h'.shp b arr' e fr h1
    exact ⟨arr'', h3, h4.trans h2⟩
  keep := fun b hb hl hg ho => by
    obtain ⟨h1, h2, h3⟩ := h.keep b hb hl hg ho
    obtain ⟨h4, h5, h6⟩ := h'.keep b (Nat.lt_of_lt_of_le hb h.size) (fun k hk => by
      rcases h.nlb k b hk with ⟨k', hk'⟩ | hk'
      · exact hl k' hk'
      · omega) (fun hk => by
      rcases h.ngb b hk with hk' | hk'
      · exact hg hk'
      · omega) h3
    exact ⟨h4.trans h1, h5.trans h2, h6⟩
  nlb := fun k b hk => by
    rcases h'.nlb k b hk with ⟨k', hk'⟩ | hk'
    · exact h.nlb k' b hk'
    · exact .inr (Nat.le_trans h.size hk')
  ngb := fun b hb => by
    rcases h'.ngb b hb with hk' | hk'
    · exact h.ngb b hk'
    · exact .inr (Nat.le_trans h.size hk')
  os := h'.os.trans h.os
  out := h'.out.trans h.out
  tape := h'.tape.trans h.tape
  roe := h'.roe.trans h.roe
  rog := fun hr => by
    obtain ⟨h1, h2⟩ := h.rog hr
    obtain ⟨h3, h4⟩ := h'.rog (h.roe.trans hr)
    exact ⟨h3.trans h1, fun b hb => (h4 b (by rw [h1]; exact hb)).trans (h2 b hb)⟩

theorem Ext.vext {S : Nat → Bool} {g g' : Gh} {w w' : World} (h : Ext g w g' w') (hl : ∀ k b, S k = true → g.lb k = some b → g'.lb k = some b) : VExt S g w g' w' where
  lb := hl
  gb := h.gb
  mrk := h.mrk
  cell := h.cell
  shp := fun b arr e fr _ hb => by
    obtain ⟨arr', h1, h2⟩ := h.shp b arr e fr hb
    exact ⟨arr', e, h1, h2⟩

/-- What comes behind an operation. -/
def Nx (g : Gh) (w : World) (st' : St) (a' : Act) (w' : World) : Prop := ∃ g', Ext g w g' w' ∧ Rel g' st' a' w'

theorem upd_eq_set {α : Type} (l : List α) (n : Nat) (v : α) : upd l n v = l.set n v := by
  induction l generalizing n with
  | nil => rfl
  | cons x xs ih =>
    cases n with
    | zero => rfl
    | succ n => exact congrArg (x :: ·) (ih n)
theorem nth_eq_getD (l : List AV) (n : Nat) : nth l n = l.getD n .junk := by
  induction l generalizing n with
  | nil => rfl
  | cons x xs ih =>
    cases n with
    | zero => rfl
    | succ n => exact (ih n)
theorem nthL_eq_getD (l : List (List AV)) (n : Nat) : nthL l n = l.getD n [] := by
  induction l generalizing n with
  | nil => rfl
  | cons x xs ih =>
    cases n with
    | zero => rfl
    | succ n => exact (ih n)

theorem FL_no {g : Gh} {w : World} {x : AV} {v : Value} (h : x.slOwn = .no) : FL g w x v := by
  cases x <;> simp_all [FL, AV.slOwn, FLo]

theorem fresh_put (st : St) (d : Option Nat) (x y : AV) : fresh (st.put d x) y = fresh st y := by
  cases d <;> rfl

theorem rel_put {g : Gh} {st : St} {a : Act} {w : World} (h : Rel g st a w) (d : Option Nat) {x : AV} {v : Value} (hx : VR g w x v) (hf : FL g w (fresh st x) v) :
    Rel g (st.put d x) (a.put d v) w := by
  cases d with
  | none => exact h
  | some t =>
    refine ⟨h.df, ?_, ?_, h.lr, h.hr, h.wf, h.ro⟩
    · simp [St.put, St.set, upd_eq_set, Act.put, h.sz]
    · intro i y hy
      simp only [St.put, St.set, upd_eq_set] at hy
      simp only [Act.put]
      rw [List.getElem?_set] at hy
      by_cases hti : t = i
      · subst hti
        simp only [if_true] at hy
        split at hy
        · rename_i hlt
          simp only [Option.some.injEq] at hy
          subst hy
          refine ⟨v, ?_, hx, hf⟩
          rw [Array.getElem?_setIfInBounds]
          simp [h.sz, hlt]
        · simp at hy
      · rw [if_neg hti] at hy
        obtain ⟨u, h1, h2, h3⟩ := h.tr i y hy
        refine ⟨u, ?_, h2, h3⟩
        rw [Array.getElem?_setIfInBounds]
        simp [hti, h1]

theorem nx_put {g : Gh} {st : St} {a : Act} {w : World} (h : Rel g st a w) (d : Option Nat) {x : AV} {v : Value} (hx : VR g w x v) (hf : FL g w (fresh st x) v) :
    Nx g w (st.put d x) (a.put d v) w := ⟨g, Ext.refl g w, rel_put h d hx hf⟩

theorem ofVal_VR (g : Gh) (w : World) (v : Value) : VR g w (ofVal v) v := by
  cases v with
  | bool b => exact .bool b
  | int k n => exact .int k n
  | string s => exact .str _ s rfl
  | pointer a => cases a <;> first | exact .np | exact .junk _
  | slice a l c =>
    cases a with
    | some a => exact .junk _
    | none =>
      cases l with
      | succ l => exact .junk _
      | zero =>
        cases c with
        | succ c => exact .junk _
        | zero => exact .slnil 0 .no
  | map r => cases r <;> first | exact .nm | exact .junk _
  | nilFunc => exact .nf
  | nilIface => exact .ni
  | _ => exact .junk _

theorem ofVal_own (v : Value) : (ofVal v).slOwn = .no := by
  unfold ofVal
  split <;> rfl

theorem fresh_no (st : St) {x : AV} (h : x.slOwn = .no) : (fresh st x).slOwn = .no := by
  cases x <;> simp_all [fresh, AV.slOwn]

theorem rel_rho {g : Gh} {st : St} {a : Act} {w : World} (h : Rel g st a w) (o : Operand) : VR g w (rho st o) (a.eval o) ∧ FL g w (fresh st (rho st o)) (a.eval o) := by
  cases o with
  | tmp t =>
    simp only [rho, St.get, nth_eq_getD, Act.eval]
    rcases hx : st.tm[t]? with _ | x
    · have : st.tm.getD t .junk = .junk := by simp [List.getD, hx]
      rw [this]
      exact ⟨.junk _, trivial⟩
    · obtain ⟨v, h1, h2, h3⟩ := h.tr t x hx
      have e1 : st.tm.getD t .junk = x := by simp [List.getD, hx]
      have e2 : a.tmps.getD t undef = v := by
        rw [Array.getD_eq_getD_getElem?, h1]; rfl
      rw [e1, e2]
      exact ⟨h2, h3⟩
  | const v => exact ⟨ofVal_VR g w v, FL_no (fresh_no st (ofVal_own v))⟩
  | global i => exact ⟨.junk _, trivial⟩
  | func f => exact ⟨.fn f [] #[] (fun _ => undef) rfl (fun j x hx => by simp at hx) (fun j x hx => by simp at hx) (fun x hx => by simp at hx), trivial⟩

end Go.Ab
namespace Go.Ab

section
variable {α β : Type} (C : Nat → List AV → List GB → Option (AV × List GB)) (Lp : Nat → Nat → Code → St → Option (Ex × St))
@[simp] theorem den_ret (a : α) : den C Lp (.ret a) = some a := rfl
@[simp] theorem den_fail : den C Lp (.fail : R α) = none := rfl
@[simp] theorem den_br (b : Bool) (t e : R α) : den C Lp (.br b t e) = bif b then den C Lp t else den C Lp e := rfl
@[simp] theorem den_call (m f : Nat) (as : List AV) (H : List GB) (k : AV × List GB → R α) : den C Lp (.call m f as H k) = (C f as H).bind fun x => den C Lp (k x) := by
  cases h : C f as H <;> simp [den, h]
@[simp] theorem den_loop (fid rid : Nat) (c : Code) (st : St) (k : Ex × St → R α) : den C Lp (.loop fid rid c st k) = (Lp fid rid c st).bind fun x => den C Lp (k x) := by
  cases h : Lp fid rid c st <;> simp [den, h]
@[simp] theorem den_bind (t : R α) (f : α → R β) : den C Lp (t.bind f) = (den C Lp t).bind fun x => den C Lp (f x) := by
  induction t with
  | ret a => rfl
  | fail => rfl
  | br b t e iht ihe =>
    show (bif b then den C Lp (t.bind f) else den C Lp (e.bind f)) = (bif b then den C Lp t else den C Lp e).bind _
    cases b <;> simp [iht, ihe]
  | call m g as H k ih =>
    show den C Lp (.call m g as H fun x => (k x).bind f) = _
    rw [den_call, den_call]
    cases C g as H <;> simp [ih]
  | loop fid rid c st k ih =>
    show den C Lp (.loop fid rid c st fun x => (k x).bind f) = _
    rw [den_loop, den_loop]
    cases Lp fid rid c st <;> simp [ih]
@[simp] theorem den_chk (b : Bool) (k : R α) : den C Lp (chk b k) = bif b then den C Lp k else none := rfl
theorem den_chk_some {b : Bool} {k : R α} {x : α} (h : den C Lp (chk b k) = some x) : b = true ∧ den C Lp k = some x := by
  cases b <;> simp_all
theorem den_bind_some {t : R α} {f : α → R β} {y : β} (h : den C Lp (t.bind f) = some y) : ∃ x, den C Lp t = some x ∧ den C Lp (f x) = some y := by
  rw [den_bind] at h
  cases h1 : den C Lp t with
  | none => simp [h1] at h
  | some x => exact ⟨x, rfl, by simpa [h1] using h⟩
end

/-- The zero value of a cell. -/
def zeroV : CK → Value
  | .b => .bool false
  | .i k => .int k 0
  | .s => .string .empty
  | .p => .pointer none
  | .l _ => .slice none 0 0
  | .m => .map none
  | .f => .nilFunc
  | .n => .nilIface
  | .x => undef

def shOk (P : Program) (t : Nat) : Sh → Prop
  | .bool => P.underlying t = some .bool
  | .int k => P.underlying t = some (.int k)
  | .str => P.underlying t = some .string
  | .uptr => P.underlying t = some .unsafePointer
  | .ptr e => P.underlying t = some (.pointer e)
  | .slice e => P.underlying t = some (.slice e)
  | .arr n e => P.underlying t = some (.array n e)
  | .map k e => P.underlying t = some (.map k e)
  | .struct fs => ∃ F, P.underlying t = some (.struct F) ∧ F.toList.map (fun f => (f.offset, f.type)) = fs ∧ ∀ f ∈ F.toList, f.name ≠ "_"
  | .fn => ∃ a b c, P.underlying t = some (.func a b c)
  | .iface => ∃ ms, P.underlying t = some (.interface ms)
  | .other => True

/-- The kinds of a type's cells, from its shape. -/
def ksOk (T : Tab) (t : Nat) : Prop :=
  match T.sh t with
  | .bool => T.ks t = [.b]
  | .int k => T.ks t = [.i k]
  | .str => T.ks t = [.s]
  | .uptr | .ptr _ => T.ks t = [.p]
  | .slice e => T.ks t = [.l (T.ks e).length] ∧ T.sh e ≠ .other
  | .arr n e => T.ks t = (List.replicate n (T.ks e)).flatten ∧ T.sh e ≠ .other ∧ 0 < (T.ks e).length
  | .map k e => T.ks t = [.m] ∧ T.sh k ≠ .other ∧ T.sh e ≠ .other
  | .struct fs => T.ks t = (fs.map fun f => T.ks f.2).flatten ∧ ∀ i o e, fs[i]? = some (o, e) → o = ((fs.take i).map fun f => (T.ks f.2).length).sum ∧ T.sh e ≠ .other ∧ 0 < (T.ks e).length
  | .fn => T.ks t = [.f]
  | .iface => T.ks t = [.n]
  | .other => T.ks t = [.x]

structure TabOK (T : Tab) (P : Program) : Prop where
  sh : ∀ t, shOk P t (T.sh t)
  ks : ∀ t, ksOk T t
  info : ∀ t, T.sh t ≠ .other → ∃ i, P.info? t = some i ∧ i.size = (T.ks t).length ∧ i.bytes = T.bytes t ∧
    i.zero = some (if isAgg T t then .agg ((T.ks t).map zeroV).toArray else (((T.ks t).map zeroV).headD undef))
  fn : ∀ f fn, T.fn f = some fn → P.funcs[f]? = some fn
  nm : ∀ f fn, T.fn f = some fn → (fn.name == "runtime.NumGoroutine") = false
  rkS : ∀ (t : Nat) (fs : List (Nat × Nat)) (i o e : Nat), T.sh t = .struct fs → fs[i]? = some (o, e) → T.rk e < T.rk t
  rkA : ∀ t n e, T.sh t = .arr n e → T.rk e < T.rk t
  rk : ∀ t, T.rk t < 9999
  held : ∀ t fs, T.sh t = .struct fs → (T.ks t).all eqKind = true → P.stoodInHeld t = false
  eqg : ∀ t, isAgg T t = true → (T.ks t).all eqKind = true → P.eqGuardType P.depth t = false

section
variable {T : Tab} {P : Program} (hT : TabOK T P)
include hT

theorem run_underlying {t : Nat} {d : TypeDesc} (h : P.underlying t = some d) (w : World) : (underlying t).run P w = .ok d w := by
  simp [underlying, h]
theorem run_sizeOf {t : Nat} (h : T.sh t ≠ .other) (w : World) : (sizeOf t).run P w = .ok (T.ks t).length w := by
  obtain ⟨i, h1, h2, _⟩ := hT.info t h
  simp [sizeOf, typeInfo, h1, h2]
theorem run_isAgg {t : Nat} (h : T.sh t ≠ .other) (w : World) : (Go.isAgg t).run P w = .ok (isAgg T t) w := by
  have := hT.sh t
  unfold Go.isAgg isAgg
  cases hs : T.sh t with
  | struct fs =>
    rw [hs] at this
    obtain ⟨F, h1, _⟩ := this
    simp [underlying, h1]
  | fn =>
    rw [hs] at this
    obtain ⟨a, b, c, h1⟩ := this
    simp [underlying, h1]
  | iface =>
    rw [hs] at this
    obtain ⟨a, h1⟩ := this
    simp [underlying, h1]
  | other => exact absurd hs h
  | _ =>
    rw [hs] at this
    simp only [shOk] at this
    simp [underlying, this]
end

end Go.Ab
namespace Go.Ab

theorem add_none (b o n : Nat) : (⟨b, o, none⟩ : Addr).add n = ⟨b, o + n, none⟩ := by
  unfold Addr.add
  split
  · rename_i h; subst h; rfl
  · rfl

section
variable {T : Tab} {P : Program} (hT : TabOK T P) {C : Nat → List AV → List GB → Option (AV × List GB)} {Lp : Nat → Nat → Code → St → Option (Ex × St)}
  {g : Gh} {w : World}

theorem addOff_sound {x y : AV} {n : Nat} {v : Value} (h : den C Lp (addOff x n) = some y) (hx : VR g w x v) :
    ∃ a : Addr, v = .pointer (some a) ∧ VR g w y (.pointer (some (a.add n))) ∧ y.slOwn = .no := by
  cases hx with
  | lp k off b hb =>
    simp only [addOff, den_ret, Option.some.injEq] at h
    subst h
    exact ⟨_, rfl, by rw [add_none]; exact .lp k (off + n) b hb, rfl⟩
  | gp k off b hb =>
    simp only [addOff, den_ret, Option.some.injEq] at h
    subst h
    exact ⟨_, rfl, by rw [add_none]; exact .gp k (off + n) b hb, rfl⟩
  | ep row off b o val hc hv hp hm =>
    simp only [addOff, den_ret, Option.some.injEq] at h
    subst h
    exact ⟨_, rfl, by rw [add_none, Nat.add_assoc]; exact .ep row (off + n) b o val hc hv hp hm, rfl⟩
  | _ => simp [addOff] at h

include hT

theorem fieldAddr_sound {t f : Nat} {x y : AV} {v : Value} (h : den C Lp (fieldAddrOp T t x f) = some y) (hx : VR g w x v) :
    ∃ u, (Instr.fieldAt t v f).run P w = .ok u w ∧ VR g w y u ∧ y.slOwn = .no := by
  unfold fieldAddrOp at h
  obtain ⟨n, h1, h2⟩ := den_bind_some C Lp h
  unfold fieldOff at h1
  have hs := hT.sh t
  have hk := hT.ks t
  unfold ksOk at hk
  cases hsh : T.sh t with
  | struct fs =>
    rw [hsh] at hs hk h1
    simp only at h1 hk
    obtain ⟨F, hu, hF, _⟩ := hs
    cases hf : fs[f]? with
    | none => simp [hf] at h1
    | some p =>
      obtain ⟨o, e⟩ := p
      simp only [hf, den_ret, Option.some.injEq] at h1
      subst h1
      obtain ⟨_, hne, hpos⟩ := hk.2 f o e hf
      rw [← hF, List.getElem?_map] at hf
      cases hFf : F.toList[f]? with
      | none => simp [hFf] at hf
      | some fl =>
        simp only [hFf, Option.map_some, Option.some.injEq, Prod.mk.injEq] at hf
        obtain ⟨ho, he⟩ := hf
        have hFa : F[f]? = some fl := by rw [← hFf]; simp
        obtain ⟨a, rfl, hy, hw⟩ := addOff_sound h2 hx
        refine ⟨.pointer (some (a.add o)), ?_, hy, hw⟩
        have hsz : (sizeOf fl.type).run P w = .ok (T.ks e).length w := by rw [he]; exact run_sizeOf hT hne w
        simp only [Instr.fieldAt, Sem.run_bind, run_underlying hT hu, Result.andThen_ok, hFa, Instr.sureAddr, Sem.run_pure, fieldPlace, hsz, Sem.run_ite]
        rw [if_neg (by omega)]
        simp [ho]
  | _ => simp [hsh] at h1

theorem run_bounds_ok (k : IntKind) (n : Int) (w : World) : (asIntOf (.int k n)).run P w = .ok (k, n) w := rfl

theorem indexAddr_sound {t : Nat} {x i y : AV} {v vi : Value} (h : den C Lp (indexAddrOp T t x i) = some y) (hx : VR g w x v) (hi : VR g w i vi) :
    ∃ u, (Instr.indexAt t v vi).run P w = .ok u w ∧ VR g w y u ∧ y.slOwn = .no := by
  unfold indexAddrOp at h
  cases hi with
  | int k n =>
    have hs := hT.sh t
    have hk := hT.ks t
    unfold ksOk at hk
    cases hsh : T.sh t with
    | slice e =>
      rw [hsh] at hs hk
      simp only [shOk] at hs
      simp only at hk
      have hse := run_sizeOf hT hk.2 w
      have key : ∀ (b o len cap : Nat), 0 ≤ n → n < (len : Int) → (Instr.indexAt t (.slice (some ⟨b, o, none⟩) len cap) (.int k n)).run P w = .ok (.pointer (some ⟨b, o + n.toNat * (T.ks e).length, none⟩)) w := by
        intro b o len cap h0 h1
        simp only [Instr.indexAt, Sem.run_bind, asIntOf, Sem.run_pure, Result.andThen_ok, run_underlying hT hs, hse, Sem.run_ite]
        rw [if_pos ⟨h0, h1⟩, add_none]
      cases hx with
      | slnil sz own =>
        simp only [hsh] at h
        obtain ⟨h1, h2⟩ := den_chk_some C Lp h
        simp at h1
        omega
      | sl sz rows own b o cap val hcap hz hc hv hp hm =>
        simp only [hsh] at h
        obtain ⟨h1, h2⟩ := den_chk_some C Lp h
        simp only [Bool.and_eq_true, decide_eq_true_eq] at h1
        obtain ⟨⟨h0, hlt⟩, hse'⟩ := h1
        obtain rfl : sz = (T.ks e).length := hse'
        simp only [den_ret, Option.some.injEq] at h2
        subst h2
        have hi : n.toNat < rows.length := by omega
        have hr : rows[n.toNat]? = some rows[n.toNat] := List.getElem?_eq_getElem hi
        have hg : rows.getD n.toNat [] = rows[n.toNat] := by simp [List.getD, hr]
        refine ⟨_, key b o rows.length cap h0 hlt, ?_, rfl⟩
        rw [hg]
        have := VR.ep (g := g) (w := w) rows[n.toNat] 0 b (o + n.toNat * (T.ks e).length) (fun j => val n.toNat j) (fun j x hx => hc _ _ j x hr hx) (fun j x hx => hv _ _ j x hr hx)
          (fun x hx => pure1_noLp1 (hp _ (mem_of_getElem? hr) x hx)) (by
            rw [hz _ (mem_of_getElem? hr)]
            have h2 : (n.toNat + 1) * (T.ks e).length ≤ rows.length * (T.ks e).length := Nat.mul_le_mul_right _ hi
            rw [Nat.add_mul] at h2
            omega)
        simpa using this
      | psl sz rows b o cap val hcap hz hc hv hp hm =>
        simp only [hsh] at h
        obtain ⟨h1, h2⟩ := den_chk_some C Lp h
        simp only [Bool.and_eq_true, decide_eq_true_eq] at h1
        obtain ⟨⟨h0, hlt⟩, hse'⟩ := h1
        obtain rfl : sz = (T.ks e).length := hse'
        simp only [den_ret, Option.some.injEq] at h2
        subst h2
        have hi : n.toNat < rows.length := by omega
        have hr : rows[n.toNat]? = some rows[n.toNat] := List.getElem?_eq_getElem hi
        have hg : rows.getD n.toNat [] = rows[n.toNat] := by simp [List.getD, hr]
        refine ⟨_, key b o rows.length cap h0 hlt, ?_, rfl⟩
        rw [hg]
        have := VR.ep (g := g) (w := w) rows[n.toNat] 0 b (o + n.toNat * (T.ks e).length) (fun j => val n.toNat j) (fun j x hx => hc _ _ j x hr hx) (fun j x hx => hv _ _ j x hr hx)
          (fun x hx => hp _ (mem_of_getElem? hr) x hx) (by
            rw [hz _ (mem_of_getElem? hr)]
            have h2 : (n.toNat + 1) * (T.ks e).length ≤ rows.length * (T.ks e).length := Nat.mul_le_mul_right _ hi
            rw [Nat.add_mul] at h2
            omega)
        simpa using this
      | vs k' off len sz b cap arr e' fr hlb hcap hb hsz =>
        simp only [hsh] at h
        obtain ⟨h1, h2⟩ := den_chk_some C Lp h
        simp only [Bool.and_eq_true, decide_eq_true_eq] at h1
        obtain ⟨⟨h0, hlt⟩, hse'⟩ := h1
        obtain rfl : sz = (T.ks e).length := hse'
        simp only [den_ret, Option.some.injEq] at h2
        subst h2
        exact ⟨_, key b off len cap h0 hlt, .lp k' _ b hlb, rfl⟩
      | _ => simp [hsh] at h
    | arr len e =>
      rw [hsh] at hs hk
      simp only [shOk] at hs
      simp only at hk
      have hse := run_sizeOf hT hk.2.1 w
      simp only [hsh] at h
      obtain ⟨h1, h2⟩ := den_chk_some C Lp h
      simp only [Bool.and_eq_true, decide_eq_true_eq] at h1
      obtain ⟨a, rfl, hy, hw⟩ := addOff_sound h2 hx
      refine ⟨_, ?_, hy, hw⟩
      simp only [Instr.indexAt, Sem.run_bind, asIntOf, Sem.run_pure, Result.andThen_ok, run_underlying hT hs, hse, Sem.run_ite, Instr.sureAddr]
      rw [if_pos h1]
      rfl
    | _ => simp [hsh] at h
  | _ => simp at h

theorem part_sound {e : Nat} (he : T.sh e ≠ .other) {cs : List AV} {vals : Array Value} {val : Nat → Value} (hs : vals.size = cs.length)
    (hc : ∀ (j : Nat) x, cs[j]? = some x → vals[j]? = some (val j)) (hv : ∀ (j : Nat) x, cs[j]? = some x → VR g w x (val j)) (hp : ∀ x ∈ cs, x.isCell = true) {o : Nat} {y : AV}
    (h : (if isAgg T e then some (.agg ((cs.drop o).take (size T e))) else match (cs.drop o).take (size T e) with | [x] => some x | _ => none) = some y) :
    ∃ u, (part e vals o).run P w = .ok u w ∧ VR g w y u := by
  have ha := run_isAgg hT he w
  have hse := run_sizeOf hT he w
  by_cases hA : isAgg T e = true
  · rw [if_pos hA] at h
    simp only [Option.some.injEq] at h
    subst h
    refine ⟨.agg (vals.extract o (o + (T.ks e).length)), by simp [part, ha, hA, hse], ?_⟩
    refine .agg _ _ (fun j => val (o + j)) ?_ ?_ ?_ ?_
    · simp only [Array.size_extract, List.length_take, List.length_drop, size]
      omega
    · intro j x hx
      rw [List.getElem?_take] at hx
      split at hx
      · rename_i hj
        rw [List.getElem?_drop] at hx
        rw [Array.getElem?_extract]
        have := lt_of_getElem? hx
        rw [if_pos (by simp only [size] at hj; omega)]
        exact hc _ _ hx
      · simp at hx
    · intro j x hx
      rw [List.getElem?_take] at hx
      split at hx
      · rw [List.getElem?_drop] at hx
        exact hv _ _ hx
      · simp at hx
    · intro x hx
      exact hp x (List.mem_of_mem_drop (List.mem_of_mem_take hx))
  · rw [if_neg hA] at h
    cases hl : (cs.drop o).take (size T e) with
    | nil => simp [hl] at h
    | cons x r =>
      cases r with
      | cons _ _ => simp [hl] at h
      | nil =>
        simp only [hl, Option.some.injEq] at h
        subst h
        have : ((cs.drop o).take (size T e))[0]? = some x := by rw [hl]; rfl
        rw [List.getElem?_take] at this
        split at this
        · rw [List.getElem?_drop] at this
          have h3 : vals[o]? = some (val o) := hc o x (by simpa using this)
          refine ⟨val o, ?_, hv o x (by simpa using this)⟩
          simp [part, ha, hA, h3]
        · simp at this

theorem index_sound {t : Nat} {x i y : AV} {v vi : Value} (h : den C Lp (indexOp T t x i) = some y) (hx : VR g w x v) (hi : VR g w i vi) :
    ∃ u, (Instr.index t v vi).run P w = .ok u w ∧ VR g w y u := by
  unfold indexOp at h
  cases hi with
  | int k n =>
    have hs := hT.sh t
    have hk := hT.ks t
    unfold ksOk at hk
    cases hsh : T.sh t with
    | str =>
      rw [hsh] at hs
      simp only [shOk] at hs
      cases hx with
      | str l s hl =>
        simp only [hsh] at h
        obtain ⟨h1, h2⟩ := den_chk_some C Lp h
        simp only [Bool.and_eq_true, decide_eq_true_eq] at h1
        simp only [den_ret, Option.some.injEq] at h2
        subst h2
        subst hl
        have hlt : n.toNat < s.size := by
          have : s.data.toList.length = s.size := by rw [Array.length_toList]; rfl
          rw [this] at h1
          omega
        have e1 : s[n.toNat]? = some s[n.toNat] := getElem?_pos s n.toNat hlt
        have e2 : s.data.toList.getD n.toNat 0 = s[n.toNat] := by
          have e3 : s.data.toList[n.toNat]? = some s[n.toNat] := by
            rw [Array.getElem?_toList]
            exact getElem?_pos s.data n.toNat hlt
          rw [List.getD, e3]
          rfl
        rw [e2]
        refine ⟨_, ?_, .int _ _⟩
        simp only [Instr.index, Sem.run_bind, asIntOf, Sem.run_pure, Result.andThen_ok, run_underlying hT hs]
        rw [if_pos h1.1, e1]
        rfl
      | _ => simp [hsh] at h
    | arr len e =>
      rw [hsh] at hs hk
      simp only [shOk] at hs
      simp only at hk
      have hse := run_sizeOf hT hk.2.1 w
      cases hx with
      | agg cs vals val hs' hc hv hp =>
        simp only [hsh] at h
        obtain ⟨h1, h2⟩ := den_chk_some C Lp h
        simp only [Bool.and_eq_true, decide_eq_true_eq] at h1
        obtain ⟨u, hu, hv'⟩ := part_sound hT (g := g) (w := w) hk.2.1 hs' hc hv hp (o := n.toNat * (T.ks e).length) (y := y) (by
          simp only [size] at h2 ⊢
          split at h2
          · rename_i hA
            rw [if_pos hA]
            simpa using h2
          · rename_i hA
            rw [if_neg hA]
            split at h2
            · rename_i hl
              try rw [hl]
              simpa using h2
            · simp at h2)
        refine ⟨u, ?_, hv'⟩
        simp only [Instr.index, Sem.run_bind, asIntOf, Sem.run_pure, Result.andThen_ok, run_underlying hT hs, hse, Sem.run_ite]
        rw [if_pos h1]
        exact hu
      | _ => simp [hsh] at h
    | _ => simp [hsh] at h
  | _ => simp at h
end
end Go.Ab
namespace Go.Ab

section
variable {T : Tab} {P : Program} (hT : TabOK T P) {C : Nat → List AV → List GB → Option (AV × List GB)} {Lp : Nat → Nat → Code → St → Option (Ex × St)}
  {g : Gh} {w : World}

/-- Bounds that are there, or not. -/
def VRo (g : Gh) (w : World) (x : Option AV) (v : Option Value) : Prop :=
  match x, v with
  | none, none => True
  | some x, some v => VR g w x v
  | _, _ => False

theorem boundOf_sound {d : Nat} {x : Option AV} {v : Option Value} {n : Int} (h : den C Lp (boundOf d x) = some n) (hx : VRo g w x v) :
    (x = none ∧ v = none ∧ n = d) ∨ ∃ k, v = some (.int k n) := by
  cases x with
  | none =>
    cases v with
    | none => simp [boundOf] at h; exact .inl ⟨rfl, rfl, h.symm⟩
    | some v => exact hx.elim
  | some x =>
    cases v with
    | none => exact hx.elim
    | some v =>
      have hx' : VR g w x v := hx
      cases hx' with
      | int k m => simp [boundOf] at h; subst h; exact .inr ⟨k, rfl⟩
      | _ => simp [boundOf] at h

theorem run_sliceBound {k : IntKind} {n : Int} {y : Nat} {code : BoundsCode} (h0 : 0 ≤ n) (h1 : n ≤ (y : Int)) : (Instr.sliceBound (.int k n) y code).run P w = .ok n.toNat w := by
  simp [Instr.sliceBound, asIntOf, h0, h1]

theorem sliceBounds_sound {isS : Bool} {len cap : Nat} (hlc : len ≤ cap) {lo hi : Option AV} {vlo vhi : Option Value} {h l : Int}
    (hh : den C Lp (boundOf len hi) = some h) (hl : den C Lp (boundOf 0 lo) = some l) (hhi : VRo g w hi vhi) (hlo : VRo g w lo vlo)
    (h0 : 0 ≤ h) (h1 : h ≤ (len : Int)) (l0 : 0 ≤ l) (l1 : l ≤ h) :
    (Instr.sliceBounds isS len cap vlo vhi none).run P w = .ok (l.toNat, h.toNat, cap) w := by
  have e1 : ((match vhi with
      | some v => Instr.sliceBound v cap (if isS then .sliceAcap else .sliceAlen)
      | none => pure len : Sem Nat)).run P w = .ok h.toNat w := by
    rcases boundOf_sound hh hhi with ⟨_, rfl, rfl⟩ | ⟨k, rfl⟩
    · simp
    · exact run_sliceBound h0 (by omega)
  have e2 : ((match vlo with
      | some v => Instr.sliceBound v h.toNat .sliceB
      | none => pure 0 : Sem Nat)).run P w = .ok l.toNat w := by
    rcases boundOf_sound hl hlo with ⟨_, rfl, rfl⟩ | ⟨k, rfl⟩
    · simp
    · exact run_sliceBound l0 (by omega)
  unfold Instr.sliceBounds
  cases vhi <;> cases vlo <;> simp_all

include hT

theorem slice_sound {st : St} {t : Nat} {x y : AV} {lo hi : Option AV} {v : Value} {vlo vhi : Option Value} (h : den C Lp (sliceOp T st t x lo hi none) = some y) (hx : VR g w x v)
    (hlo : VRo g w lo vlo) (hhi : VRo g w hi vhi) (hL : LRel g w st.L) :
    ∃ u, (Instr.sliceAt t v vlo vhi none).run P w = .ok u w ∧ VR g w y u ∧ y.slOwn = .no := by
  unfold sliceOp at h
  simp only at h
  have hs := hT.sh t
  have hk := hT.ks t
  unfold ksOk at hk
  cases hsh : T.sh t with
  | str =>
    rw [hsh] at hs
    simp only [shOk] at hs
    cases hx with
    | str l s hl =>
      subst hl
      simp only [hsh] at h
      obtain ⟨hb, e1, h⟩ := den_bind_some C Lp h
      obtain ⟨lb, e2, h⟩ := den_bind_some C Lp h
      obtain ⟨h1, h⟩ := den_chk_some C Lp h
      obtain ⟨h2, h⟩ := den_chk_some C Lp h
      simp only [Bool.and_eq_true, decide_eq_true_eq] at h1 h2
      simp only [den_ret, Option.some.injEq] at h
      subst h
      have hlen : s.data.toList.length = s.size := by rw [Array.length_toList]; rfl
      rw [hlen] at e1 h1
      refine ⟨.string (s.extract lb.toNat hb.toNat), ?_, .str _ _ ?_, rfl⟩
      · have hB := sliceBounds_sound (P := P) (w := w) (isS := false) (Nat.le_refl _) e1 e2 hhi hlo h1.1 h1.2 h2.1 h2.2
        simp [Instr.sliceAt, run_underlying hT hs, Instr.slice, hB]
      · simp [ByteArray.data_extract, List.drop_take]
    | _ => simp [hsh] at h
  | slice e =>
    rw [hsh] at hs hk
    simp only [shOk] at hs
    simp only at hk
    have hse := run_sizeOf hT hk.2 w
    cases hx with
    | slnil sz own =>
      simp only [hsh] at h
      obtain ⟨_, h⟩ := den_chk_some C Lp h
      obtain ⟨hb, e1, h⟩ := den_bind_some C Lp h
      obtain ⟨lb, e2, h⟩ := den_bind_some C Lp h
      obtain ⟨h1, h⟩ := den_chk_some C Lp h
      obtain ⟨h2, h⟩ := den_chk_some C Lp h
      simp only [Bool.and_eq_true, decide_eq_true_eq] at h1 h2
      simp only [den_ret, Option.some.injEq] at h
      subst h
      have hb0 : hb.toNat = 0 := by simp at h1; omega
      have lb0 : lb.toNat = 0 := by simp at h1; omega
      refine ⟨.slice none 0 0, ?_, ?_, rfl⟩
      · have hB := sliceBounds_sound (P := P) (w := w) (isS := true) (len := 0) (Nat.le_refl _) e1 e2 hhi hlo h1.1 h1.2 h2.1 h2.2
        simp [Instr.sliceAt, run_underlying hT hs, Instr.slice, hB, hse, hb0, lb0]
      · simpa using VR.slnil (g := g) (w := w) sz .no
    | sl sz rows own b o cap val hcap hz hc hv hp hm =>
      simp only [hsh] at h
      obtain ⟨hse', h⟩ := den_chk_some C Lp h
      obtain ⟨hb, e1, h⟩ := den_bind_some C Lp h
      obtain ⟨lb, e2, h⟩ := den_bind_some C Lp h
      obtain ⟨h1, h⟩ := den_chk_some C Lp h
      obtain ⟨h2, h⟩ := den_chk_some C Lp h
      simp only [Bool.and_eq_true, decide_eq_true_eq, Bool.false_or] at h1 h2 hse'
      obtain rfl : sz = (T.ks e).length := hse'
      simp only [den_ret, Option.some.injEq] at h
      subst h
      have hlen : ((rows.take hb.toNat).drop lb.toNat).length = hb.toNat - lb.toNat := by
        rw [List.length_drop, List.length_take]; omega
      have hmul : (hb.toNat - lb.toNat) * (T.ks e).length + lb.toNat * (T.ks e).length = hb.toNat * (T.ks e).length := by
        rw [← Nat.add_mul]; congr 1; omega
      have hle : hb.toNat * (T.ks e).length ≤ rows.length * (T.ks e).length := Nat.mul_le_mul_right _ (by omega)
      have hget : ∀ i r, ((rows.take hb.toNat).drop lb.toNat)[i]? = some r → rows[lb.toNat + i]? = some r := by
        intro i r hi
        rw [List.getElem?_drop, List.getElem?_take] at hi
        split at hi
        · exact hi
        · simp at hi
      by_cases hml : cap = lb.toNat
      · refine ⟨.slice (some ⟨b, o, none⟩) ((rows.take hb.toNat).drop lb.toNat).length (cap - lb.toNat), ?_, ?_, rfl⟩
        · have hB := sliceBounds_sound (P := P) (w := w) (isS := true) hcap e1 e2 hhi hlo h1.1 h1.2 h2.1 h2.2
          rw [hlen]
          simp [Instr.sliceAt, run_underlying hT hs, Instr.slice, hB, hse]
          simp [hml]
        · refine .sl _ _ _ b o (cap - lb.toNat) val (by rw [hlen]; omega) (fun r hr => hz r (List.mem_of_mem_take (List.mem_of_mem_drop hr))) ?_ ?_ (fun r hr => hp r (List.mem_of_mem_take (List.mem_of_mem_drop hr))) ?_
          · intro i r j x hi hx
            have := lt_of_getElem? hi
            omega
          · intro i r j x hi hx
            have := lt_of_getElem? hi
            omega
          · rw [hlen]
            have : hb.toNat - lb.toNat = 0 := by omega
            rw [this]
            have := Nat.zero_le ((rows.length) * (T.ks e).length)
            omega
      · refine ⟨.slice (some ⟨b, o + lb.toNat * (T.ks e).length, none⟩) ((rows.take hb.toNat).drop lb.toNat).length (cap - lb.toNat), ?_, ?_, rfl⟩
        · have hB := sliceBounds_sound (P := P) (w := w) (isS := true) hcap e1 e2 hhi hlo h1.1 h1.2 h2.1 h2.2
          rw [hlen]
          simp [Instr.sliceAt, run_underlying hT hs, Instr.slice, hB, hse, hml, add_none]
        · refine .sl _ _ _ b (o + lb.toNat * (T.ks e).length) (cap - lb.toNat) (fun i j => val (lb.toNat + i) j) (by rw [hlen]; omega) (fun r hr => hz r (List.mem_of_mem_take (List.mem_of_mem_drop hr))) ?_ ?_ (fun r hr => hp r (List.mem_of_mem_take (List.mem_of_mem_drop hr))) ?_
          · intro i r j x hi hx
            have := hc _ r j x (hget i r hi) hx
            rw [← this]
            congr 2
            rw [Nat.add_mul]
            omega
          · intro i r j x hi hx
            exact hv _ r j x (hget i r hi) hx
          · rw [hlen]
            omega
    | _ => simp [hsh] at h
  | arr len e =>
    rw [hsh] at hs hk
    simp only [shOk] at hs
    simp only at hk
    have hse := run_sizeOf hT hk.2.1 w
    cases hx with
    | lp k off b hlb =>
      simp only [hsh] at h
      cases lo with
      | some _ => simp at h
      | none =>
        cases hi with
        | some _ => simp at h
        | none =>
          simp only at h
          obtain ⟨h1, h⟩ := den_chk_some C Lp h
          simp only [Bool.and_eq_true, decide_eq_true_eq] at h1
          simp only [den_ret, Option.some.injEq] at h
          subst h
          cases vlo with
          | some _ => exact hlo.elim
          | none =>
            cases vhi with
            | some _ => exact hhi.elim
            | none =>
              refine ⟨.slice (some ⟨b, off, none⟩) len len, ?_, ?_, rfl⟩
              · simp only [Instr.sliceAt, Sem.run_bind, run_underlying hT hs, Result.andThen_ok, Instr.sureAddr, Sem.run_pure, Instr.sliceBounds, hse]
                simp [Addr.add]
              · rw [nthL_eq_getD] at h1
                have hne : st.L.getD k [] ≠ [] := by
                  intro h0
                  rw [h0] at h1
                  simp at h1
                  have := Nat.mul_pos h1.1 hk.2.2
                  unfold size at h1
                  omega
                cases hLk : st.L[k]? with
                | none => simp [List.getD, hLk] at hne
                | some cs =>
                  have e1 : st.L.getD k [] = cs := by simp [List.getD, hLk]
                  rw [e1] at h1 hne
                  obtain ⟨b', hb1, arr, e', fr, hb2, hle, hfr, _⟩ := hL k cs hLk hne
                  rw [hlb] at hb1
                  simp only [Option.some.injEq] at hb1
                  subst hb1
                  exact .vs k off len (size T e) b len arr e' fr hlb (Nat.le_refl _) hb2 (Nat.le_trans h1.2 hle) hfr
    | _ => simp [hsh] at h
  | _ => simp [hsh] at h
end
end Go.Ab
