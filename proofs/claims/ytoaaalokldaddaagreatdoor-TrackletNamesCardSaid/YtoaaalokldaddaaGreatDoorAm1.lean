import GoSem.Step
import Derived.Test.YtoaaalokldaddaaGreatDoorHp
namespace Go.AM
open Go
set_option linter.unusedVariables false

/-! ### A tree of numbered things -/
inductive Tr (α : Type) where
  | e
  | n (v : Option α) (l r : Tr α)

def Tr.get {α : Type} : Tr α → Nat → Option α
  | .e, _ => none
  | .n v _ _, 0 => v
  | .n _ l r, k + 1 => if k % 2 = 0 then l.get (k / 2) else r.get (k / 2)

def Tr.sing {α : Type} (x : α) : Nat → Nat → Tr α
  | _, 0 => .n (some x) .e .e
  | 0, _ + 1 => .e
  | f + 1, k + 1 => if k % 2 = 0 then .n none (Tr.sing x f (k / 2)) .e else .n none .e (Tr.sing x f (k / 2))

def Tr.set {α : Type} (x : α) : Tr α → Nat → Tr α
  | .e, k => Tr.sing x k k
  | .n _ l r, 0 => .n (some x) l r
  | .n v l r, k + 1 => if k % 2 = 0 then .n v (l.set x (k / 2)) r else .n v l (r.set x (k / 2))

/-- the memory: most things in four levels of sixteen -/
structure Hp (α : Type) where
  f : Hp4 α
  r : Tr α
noncomputable def Hp.get {α : Type} (h : Hp α) (b : Nat) : Option α := Bool.rec (motive := fun _ => Option α) (h.r.get b) (h4get h.f b) (Nat.ble b (nat_lit 65535))
noncomputable def Hp.set {α : Type} (x : α) (h : Hp α) (b : Nat) : Hp α := Bool.rec (motive := fun _ => Hp α) ⟨h.f, h.r.set x b⟩ ⟨h4set x h.f b, h.r⟩ (Nat.ble b (nat_lit 65535))
noncomputable def Hp.e {α : Type} : Hp α := ⟨h4e, .e⟩

/-! ### The state -/
inductive Blk where
  | cells (el : TypeId) (es : Nat) (own : Bool) (cs : List Value)
  | iter (s : ByteArray) (pos : Nat)
  | loop (l : Loop)
  | defs
  | dead

noncomputable section
structure St where
  hp : Hp Blk
  nx : Nat
  lim : Nat
  rd : List Nat
  wr : List Nat

def M (α : Type) : Type := St → Option (α × St)
def M.pure {α : Type} (a : α) : M α := fun s => some (a, s)
def M.bind {α β : Type} (m : M α) (f : α → M β) : M β := fun s =>
  match m s with
  | none => none
  | some (a, s) => f a s
def M.fail {α : Type} : M α := fun _ => none
def lift {α : Type} (o : Option α) : M α := fun s =>
  match o with
  | none => none
  | some a => some (a, s)
def bif_ {α : Type _} (b : Bool) (t f : α) : α := match b with
  | true => t
  | false => f
def guardM (b : Bool) : M Unit := fun s => match b with
  | true => some ((), s)
  | false => none

def addR (b : Nat) (s : St) : St := if s.lim ≤ b ∨ b ∈ s.rd then s else { s with rd := b :: s.rd }
def addW (b : Nat) (s : St) : St := if s.lim ≤ b ∨ b ∈ s.wr then s else { s with wr := b :: s.wr }

def rdB (b : Nat) : M Blk := fun s =>
  if s.nx ≤ b then none else match s.hp.get b with
    | none => none
    | some k => some (k, addR b s)
def putHp (b : Nat) (k : Blk) (s : St) : St := { s with hp := s.hp.set k b }
def wrB (b : Nat) (k : Blk) : M Unit := fun s =>
  if s.nx ≤ b then none else some ((), putHp b k (addW b (addR b s)))
def newB (k : Blk) : M Nat := fun s => some (s.nx, { s with hp := s.hp.set k s.nx, nx := s.nx + 1 })

/-! ### Values -/
structure A where
  tm : Tr Value
  n : Nat
  df : List Deferred

def A.get (a : A) (t : Nat) : Value := (a.tm.get t).getD undef
def A.put (a : A) (d : Option Nat) (v : Value) : A :=
  match d with
  | none => a
  | some d => if d < a.n then { a with tm := a.tm.set v d } else a
def A.eval (a : A) : Operand → Value
  | .tmp t => a.get t
  | .const v => v
  | .global g => .pointer (some ⟨g, 0, none⟩)
  | .func f => .func (.func f) #[] #[]

def atomV : Value → Bool
  | .bool _ | .int .. | .float .. | .complex .. | .string _ | .pointer none | .slice none 0 0 | .map none | .chan none | .nilFunc | .nilIface => true
  | _ => false
def bareV : Value → Bool
  | .func (.func _) ⟨[]⟩ ⟨[]⟩ => true
  | _ => false
/-- a value without an address -/
def flat : Nat → Value → Bool
  | 0, v => atomV v || bareV v
  | d + 1, .iface _ v => flat d v
  | d + 1, .agg cs => cs.toList.all (flat d)
  | d + 1, .tuple cs => cs.toList.all (flat d)
  | _ + 1, v => atomV v || bareV v

/-! ### What is pure of the model's own -/
def pr {α : Type} (P : Program) : Sem α → Option α
  | .pure a => some a
  | .program k => pr P (k P)
  | .mark _ k => pr P k
  | .choose q k => match q.forced with
    | true => pr P (k 0)
    | false => none
  | _ => none

/-- a function without a Go body, at values without an address -/
def extP (P : Program) (f : FuncId) (args : List Value) : Option Value :=
  match args.all (flat 0) with
  | true => match pr P (callFunc f ⟨args⟩) with
    | some (.value v) => match flat 2 v with
      | true => some v
      | false => none
    | _ => none
  | false => none

/-! ### Types -/
def sizeT (P : Program) (t : TypeId) : Option Nat := (P.info? t).map (·.size)
/-- a type's zero value, of as many cells as the type says -/
def zeroI (i : TypeInfo) : Option Value := i.zero.bind fun z => if flat 3 z && z.cells.size == i.size then some z else none
def zeroT (P : Program) (t : TypeId) : Option Value := (P.info? t).bind zeroI
def aggT (P : Program) (t : TypeId) : Option Bool :=
  match P.underlying t with
  | some (.struct _) | some (.array _ _) => some true
  | some _ => some false
  | none => none
def esT (P : Program) (t : TypeId) : Nat :=
  match P.underlying t with
  | some (.array _ e) => P.cellsOf e
  | _ => P.cellsOf t

def sliceE (P : Program) (t : TypeId) : Option TypeId := match P.underlying t with
  | some (.slice e) => some e
  | _ => none
def isByteT (P : Program) (t : TypeId) : Bool := match P.underlying t with
  | some (.int .u8) => true
  | _ => false
def isStrT (P : Program) (t : TypeId) : Bool := match P.underlying t with
  | some .string => true
  | _ => false
/-- some true: an integer type; some false: another one -/
def isIntT (P : Program) (t : TypeId) : Option Bool := match P.underlying t with
  | some (.int _) => some true
  | some _ => some false
  | none => none

def BIG : Nat := 4611686018427387904
def LIM : Nat := 1099511627776

def take? {α : Type} (n : Nat) (l : List α) : Option (List α) := if n ≤ l.length then some (l.take n) else none
def drop? {α : Type} (n : Nat) (l : List α) : Option (List α) := if n ≤ l.length then some (l.drop n) else none
def put? {α : Type} (n : Nat) (xs l : List α) : Option (List α) := if n + xs.length ≤ l.length then some (l.take n ++ xs ++ l.drop (n + xs.length)) else none
def rep {α : Type} (x : List α) : Nat → List α
  | 0 => []
  | n + 1 => x ++ rep x n
def one : Value → Bool
  | .agg _ | .tuple _ => false
  | _ => true
def allOne (l : List Value) : Bool := l.all one
def cellsOf (v : Value) : List Value := v.cells.toList

inductive R where
  | val (v : Value)
  | skip
  | enter (f : FuncId) (args : List Value)
  | yield (l : Nat) (args : List Value)
  | defer (d : Deferred)
  | recover

def cellsIn (off n : Nat) : Blk → Option (List Value)
  | .cells _ _ _ cs => (drop? off cs).bind (take? n)
  | _ => none
def rdCells (b off n : Nat) : M (List Value) := (rdB b).bind fun k => lift (cellsIn off n k)

def asPlain : Value → Option (Nat × Nat)
  | .pointer (some ⟨b, off, none⟩) => some (b, off)
  | _ => none
def head1 : List Value → Option Value
  | [v] => some v
  | _ => none

def loadAgg (P : Program) (t : TypeId) (b off : Nat) : M Value :=
  (lift (sizeT P t)).bind fun n => (rdCells b off n).bind fun l => M.pure (.agg ⟨l⟩)
def loadOne (b off : Nat) : M Value := (rdCells b off 1).bind fun l => lift (head1 l)
def loadM (P : Program) (t : TypeId) (x : Value) : M Value :=
  (lift (asPlain x)).bind fun p => (lift (aggT P t)).bind fun g => bif_ g (loadAgg P t p.1 p.2) (loadOne p.1 p.2)

def putIn (off : Nat) (xs : List Value) : Blk → Option Blk
  | .cells el es true cs => if allOne xs then (put? off xs cs).map fun cs => .cells el es true cs else none
  | _ => none
def wrCells (b off : Nat) (xs : List Value) : M Unit :=
  (rdB b).bind fun k => (lift (putIn off xs k)).bind fun k => wrB b k

def storeM (P : Program) (t : TypeId) (x v : Value) : M Unit :=
  (lift (asPlain x)).bind fun p => (lift (sizeT P t)).bind fun n => (guardM ((cellsOf v).length == n)).bind fun _ => wrCells p.1 p.2 (cellsOf v)

def ptr (b : Nat) : Value := .pointer (some ⟨b, 0, none⟩)
def allocM (P : Program) (t : TypeId) (v : Value) : M Value :=
  (guardM (allOne (cellsOf v))).bind fun _ => (newB (.cells t (esT P t) true (cellsOf v))).bind fun b => M.pure (ptr b)

def natOf : Value → Option Nat
  | .int _ (.ofNat n) => some n
  | _ => none

def sliceCap (c : Nat) : Nat × Bool := match Nat.ble BIG c with     -- a capacity and whether it is exact
  | true => (c - BIG, false)
  | false => (c, true)
def mkCap (c : Nat) (x : Bool) : Nat := match x with
  | true => c
  | false => c + BIG

def addO (b off n : Nat) : Option Addr := some ⟨b, off + n, none⟩

def optNat (d : Nat) : Option Value → Option Nat
  | none => some d
  | some v => natOf v
def bounds (len cap : Nat) (lo hi mx : Option Value) : Option (Nat × Nat × Nat) :=
  if mx.isSome && hi.isNone then none else
  (optNat 0 lo).bind fun l => (optNat len hi).bind fun h => (optNat cap mx).bind fun m =>
    if Nat.ble l h && Nat.ble h m && Nat.ble m cap then some (l, h, m) else none
def sliceOf (a : Option Addr) (l h m size : Nat) (exact : Bool) : Option Value :=
  if m = l then (if exact then some (.slice a 0 0) else if l = 0 then some (.slice a 0 (mkCap 0 false)) else none)
  else match a with
    | some ⟨b, off, none⟩ => if exact || l == 0 || size != 0 then some (.slice (addO b off (l * size)) (h - l) (mkCap (m - l) exact)) else none
    | _ => none
def sliceS (a : Option Addr) (n c size : Nat) (lo hi mx : Option Value) : Option Value :=
  (bounds n (sliceCap c).1 lo hi mx).bind fun x => if Nat.ble x.2.2 LIM then sliceOf a x.1 x.2.1 x.2.2 size ((sliceCap c).2 || mx.isSome) else none
def sliceA (b off n size : Nat) (lo hi mx : Option Value) : Option Value :=
  (bounds n n lo hi mx).bind fun x => sliceOf (some ⟨b, off, none⟩) x.1 x.2.1 x.2.2 size true
def sliceStr (s : ByteArray) (lo hi : Option Value) : Option Value :=
  (bounds s.size s.size lo hi none).map fun x => .string ⟨⟨(s.data.toList.take x.2.1).drop x.1⟩⟩
def sliceM (P : Program) (t : TypeId) (x : Value) (lo hi mx : Option Value) : Option Value :=
  match P.underlying t, x with
  | some .string, .string s => match mx with
    | none => sliceStr s lo hi
    | some _ => none
  | some (.slice e), .slice a n c => (sizeT P e).bind fun size => sliceS a n c size lo hi mx
  | some (.array n e), .pointer (some ⟨b, off, none⟩) => (sizeT P e).bind fun size => if Nat.ble n LIM then sliceA b off n size lo hi mx else none
  | _, _ => none

def at_ (b off n size i : Nat) : Option Value := if i < n then some (.pointer (addO b off (i * size))) else none
def indexAddrM (P : Program) (t : TypeId) (x i : Value) : Option Value :=
  match P.underlying t, x, natOf i with
  | some (.array n e), .pointer (some ⟨b, off, none⟩), some i => (sizeT P e).bind fun size => at_ b off n size i
  | some (.slice e), .slice (some ⟨b, off, none⟩) n _, some i => (sizeT P e).bind fun size => at_ b off n size i
  | _, _, _ => none

def fieldAt_ (P : Program) (b off : Nat) (f : Field) : Option Value := (sizeT P f.type).bind fun size => if size = 0 then none else some (.pointer (addO b off f.offset))
def fieldAddrM (P : Program) (t : TypeId) (x : Value) (f : Nat) : Option Value :=
  match P.underlying t, x with
  | some (.struct fs), .pointer (some ⟨b, off, none⟩) => (fs.toList[f]?).bind fun f => fieldAt_ P b off f
  | _, _ => none

def partAgg (P : Program) (t : TypeId) (cs : List Value) (off : Nat) : Option Value :=
  (sizeT P t).bind fun n => (drop? off cs).bind fun l => (take? n l).map fun l => .agg ⟨l⟩
def partOne (cs : List Value) (off : Nat) : Option Value := cs[off]?
def partM (P : Program) (t : TypeId) (cs : List Value) (off : Nat) : Option Value :=
  (aggT P t).bind fun g => bif_ g (partAgg P t cs off) (partOne cs off)

def indexM (P : Program) (t : TypeId) (x i : Value) : Option Value :=
  match P.underlying t, x with
  | some (.array n e), .agg cs => (natOf i).bind fun i => (sizeT P e).bind fun size => if i < n then partM P e cs.toList (i * size) else none
  | some .string, .string s => (natOf i).bind fun i => (s.data.toList[i]?).map fun b => .int .u8 b.toNat
  | _, _ => none

def fieldM (P : Program) (t : TypeId) (x : Value) (f : Nat) : Option Value :=
  match P.underlying t, x with
  | some (.struct fs), .agg cs => (fs.toList[f]?).bind fun f => partM P f.type cs.toList f.offset
  | _, _ => none

def newSlice (e size n c : Nat) (cs : List Value) : M Value :=
  (newB (.cells e size true cs)).bind fun b => M.pure (.slice (some ⟨b, 0, none⟩) n c)

def makeSlice1 (e : TypeId) (i : TypeInfo) (z : Value) (n c : Nat) : M Value :=
  (guardM (decide (n ≤ c) && decide ((i.bytes + i.size + 1) * c ≤ LIM) && allOne (cellsOf z))).bind fun _ =>
    newSlice e i.size n c (rep (cellsOf z) c)
def makeSliceM (P : Program) (t : TypeId) (n c : Value) : M Value :=
  (lift (sliceE P t)).bind fun e => (lift (natOf n)).bind fun n => (lift (natOf c)).bind fun c => (lift (P.info? e)).bind fun i => (lift (zeroI i)).bind fun z => makeSlice1 e i z n c

def firstM (size n : Nat) : Value → M (List Value)
  | .slice (some ⟨b, off, none⟩) _ _ => rdCells b off (n * size)
  | .slice none _ _ => M.pure []
  | .string s => M.pure ((s.data.toList.take n).map fun b => .int .u8 b.toNat)
  | _ => M.fail

def lenV : Value → Option Nat
  | .slice _ n _ => some n
  | .string s => some s.size
  | _ => none

def ownRow (e size : Nat) : Blk → Bool
  | .cells el es true _ => el == e && es == size
  | _ => false
def killM (e size b : Nat) : M Unit := (rdB b).bind fun k => (guardM (ownRow e size k)).bind fun _ => wrB b .dead

def appendIn (size : Nat) (a : Option Addr) (n m c : Nat) (new : List Value) : M Value :=
  (lift (asPlain (.pointer a))).bind fun p => (wrCells p.1 (p.2 + n * size) new).bind fun _ => M.pure (.slice a (n + m) c)
def headOf : Option Addr → Option Nat
  | some ⟨b, 0, none⟩ => some b
  | _ => none
def appendNew (e size : Nat) (a : Option Addr) (n m c : Nat) (exact : Bool) (new : List Value) : M Value :=
  (firstM size n (.slice a n c)).bind fun old => (guardM (allOne old)).bind fun _ =>
    bif_ exact (newSlice e size (n + m) (mkCap (n + m) false) (old ++ new))
      ((lift (headOf a)).bind fun b => (killM e size b).bind fun _ => newSlice e size (n + m) (mkCap (n + m) false) (old ++ new))
def appendCap (e size : Nat) (a : Option Addr) (n m c : Nat) (exact : Bool) (new : List Value) : M Value :=
  bif_ (exact && decide (n + m ≤ c)) (appendIn size a n m c new) (appendNew e size a n m c exact new)
def append1 (e : Nat) (i : TypeInfo) (a : Option Addr) (n c m : Nat) (new : List Value) : M Value :=
  (guardM (decide ((i.bytes + i.size + 1) * (n + m) ≤ LIM) && allOne new && new.length == m * i.size && (zeroI i).isSome)).bind fun _ =>
    bif_ (m == 0) (M.pure (.slice a n c)) (appendCap e i.size a n m (sliceCap c).1 (sliceCap c).2 new)
/-- what is appended: the elements of a slice or string; so many zero values (a 'make' in the second place) -/
def appendedL (i : TypeInfo) (x : Value) : M (Nat × List Value) := (lift (lenV x)).bind fun m => (firstM i.size m x).bind fun new => M.pure (m, new)
def appendedZ (i : TypeInfo) (x : Value) : M (Nat × List Value) :=
  (lift (natOf x)).bind fun m => (lift (zeroI i)).bind fun z => (guardM (decide ((i.bytes + i.size + 1) * m ≤ LIM))).bind fun _ => M.pure (m, rep (cellsOf z) m)
def appendedM (P : Program) (i : TypeInfo) (t1 : Option TypeId) (x : Value) : M (Nat × List Value) :=
  match t1 with
  | none => appendedL i x
  | some t1 => (lift (isIntT P t1)).bind fun b => bif_ b (appendedZ i x) (appendedL i x)
def sliceParts : Value → Option (Option Addr × Nat × Nat)
  | .slice a n c => some (a, n, c)
  | _ => none
def appendM (P : Program) (t : TypeId) (t1 : Option TypeId) (s x : Value) : M Value :=
  (lift (sliceE P t)).bind fun e => (lift (sliceParts s)).bind fun p => (lift (P.info? e)).bind fun i => (appendedM P i t1 x).bind fun q => append1 e i p.1 p.2.1 p.2.2 q.1 q.2

def copyTo (a : Option Addr) (k : Nat) (new : List Value) : M Value :=
  match asPlain (.pointer a) with
  | some p => (wrCells p.1 p.2 new).bind fun _ => M.pure (.int .i64 k)
  | none => M.pure (.int .i64 k)
def copyM (P : Program) (t : TypeId) (d x : Value) : M Value :=
  (lift (sliceE P t)).bind fun e => (lift (sliceParts d)).bind fun p => (lift (sizeT P e)).bind fun size => (lift (lenV x)).bind fun m =>
    (firstM size (Nat.min m p.2.1) x).bind fun new => copyTo p.1 (Nat.min m p.2.1) new

def bytesOfString (s : ByteArray) : List Value := s.data.toList.map fun b => .int .u8 b.toNat
def toBytes : List Value → Option (List Nat)
  | [] => some []
  | .int .u8 (.ofNat n) :: l => (toBytes l).map (n :: ·)
  | _ => none

def toBytesM (P : Program) (e : TypeId) (s : ByteArray) : M Value :=
  (guardM (isByteT P e && decide (s.size ≤ LIM))).bind fun _ => newSlice e 1 s.size (mkCap s.size false) (bytesOfString s)
def strOf (l : List Nat) : Value := .string (l.foldl (fun r n => r.push (UInt8.ofNat n)) ByteArray.empty)
def toStringM (P : Program) (e : TypeId) (a : Option Addr) (n : Nat) : M Value :=
  (guardM (isByteT P e)).bind fun _ => (firstM 1 n (.slice a n 0)).bind fun l => (lift (toBytes l)).bind fun l => M.pure (strOf l)
def flatM (v : Value) : M Value := (guardM (flat 3 v)).bind fun _ => M.pure v
def convFlat (P : Program) (src dst : TypeId) (x : Value) : M Value := (guardM (flat 3 x)).bind fun _ => (lift (pr P (convert src dst x))).bind flatM
inductive Conv_ where
  | toBytes (e : TypeId) (s : ByteArray)
  | toString (e : TypeId) (a : Option Addr) (n : Nat)
  | flat
def convKind (P : Program) (src dst : TypeId) : Value → Conv_
  | .string s => match P.underlying src, sliceE P dst with
    | some _, some e => .toBytes e s
    | _, _ => .flat
  | .slice a n c => match sliceE P src, isStrT P dst with
    | some e, true => .toString e a n
    | _, _ => .flat
  | _ => .flat
def convBy (P : Program) (src dst : TypeId) (x : Value) : Conv_ → M Value
  | .toBytes e s => toBytesM P e s
  | .toString e a n => toStringM P e a n
  | .flat => convFlat P src dst x
def convertM (P : Program) (src dst : TypeId) (x : Value) : M Value := convBy P src dst x (convKind P src dst x)

def bitsInt (k : IntKind) (f : BitVec k.bits → BitVec k.bits → BitVec k.bits) (a b : Int) : Value :=
  .int k (k.wrap (f (BitVec.ofInt k.bits a) (BitVec.ofInt k.bits b)).toNat)
def binInt (op : BinOp) (k : IntKind) (a : Int) (k' : IntKind) (b : Int) : Option Value :=
  match op with
  | .shl => if b < 0 then none else some (.int k (k.wrap (a * 2 ^ (min b.toNat k.bits))))
  | .shr => if b < 0 then none else some (.int k (a.fdiv (2 ^ (min b.toNat k.bits))))
  | .add => if k = k' then some (.int k (k.wrap (a + b))) else none
  | .sub => if k = k' then some (.int k (k.wrap (a - b))) else none
  | .mul => if k = k' then some (.int k (k.wrap (a * b))) else none
  | .quo => if k = k' then (if b = 0 then none else some (.int k (k.wrap (a.tdiv b)))) else none
  | .rem => if k = k' then (if b = 0 then none else some (.int k (a.tmod b))) else none
  | .and => if k = k' then some (bitsInt k (fun x y => x &&& y) a b) else none
  | .or => if k = k' then some (bitsInt k (fun x y => x ||| y) a b) else none
  | .xor => if k = k' then some (bitsInt k (fun x y => x ^^^ y) a b) else none
  | .andNot => if k = k' then some (bitsInt k (fun x y => x &&& ~~~y) a b) else none
  | .eql => if k = k' then some (.bool (a == b)) else none
  | .neq => if k = k' then some (.bool (a != b)) else none
  | .lss => if k = k' then some (.bool (decide (a < b))) else none
  | .leq => if k = k' then some (.bool (decide (a ≤ b))) else none
  | .gtr => if k = k' then some (.bool (decide (a > b))) else none
  | .geq => if k = k' then some (.bool (decide (a ≥ b))) else none
def binPr (P : Program) (op : BinOp) (t : TypeId) (ox oy : Operand) (x y : Value) : Option Value :=
  pr P (do eqGuard op t ox oy x y; binOp op t x y)
def binFlat (P : Program) (op : BinOp) (t : TypeId) (ox oy : Operand) (x y : Value) : Option Value :=
  if flat 3 x && flat 3 y then (binPr P op t ox oy x y).bind fun v => if flat 3 v then some v else none else none
def nilCmp (op : BinOp) (b : Bool) : Option Value :=
  match op with
  | .eql => some (.bool b)
  | .neq => some (.bool (!b))
  | _ => none
/-- a slice, or a pointer, against nil -/
def binNil (P : Program) (op : BinOp) (t : TypeId) (x y : Value) : Option Value :=
  match P.underlying t, x, y with
  | some (.slice _), .slice a _ _, .slice none _ _ => nilCmp op a.isNone
  | some (.slice _), .slice none _ _, .slice a _ _ => nilCmp op a.isNone
  | some (.pointer _), .pointer a, .pointer none => nilCmp op a.isNone
  | some (.pointer _), .pointer none, .pointer a => nilCmp op a.isNone
  | _, _, _ => none
def binM (P : Program) (op : BinOp) (t : TypeId) (ox oy : Operand) (x y : Value) : Option Value :=
  match x, y with
  | .int k a, .int k' b => binInt op k a k' b
  | .slice a n c, y => binNil P op t (.slice a n c) y
  | .pointer a, y => binNil P op t (.pointer a) y
  | x, y => binFlat P op t ox oy x y

def assertIs (P : Program) (at_ : TypeId) (ok : Bool) (t : TypeId) (v : Value) : Option Value :=
  match t == at_, ok with
  | true, true => some (.tuple #[v, .bool true])
  | true, false => some v
  | false, true => (zeroT P at_).map fun z => .tuple #[z, .bool false]
  | false, false => none
def assertNil (P : Program) (at_ : TypeId) (ok : Bool) : Option Value :=
  match ok with
  | true => (zeroT P at_).map fun z => .tuple #[z, .bool false]
  | false => none
def typeAssertM (P : Program) (x : Value) (at_ : TypeId) (ok : Bool) : Option Value :=
  match P.underlying at_, x with
  | some (.interface _), _ => none
  | some _, .iface t v => assertIs P at_ ok t v
  | some _, .nilIface => assertNil P at_ ok
  | _, _ => none

def parts (ev : Operand → Value) (ps : Array (Nat × Operand)) : List (Nat × Value) := ps.toList.map fun x => (x.1, ev x.2)

/-- the fields of a struct, or the elements of an array, laid into cells -/
def fillL (place : Nat → Option (Nat × Nat)) : List Value → List (Nat × Value) → Option (List Value)
  | cs, [] => some cs
  | cs, x :: ps => (place x.1).bind fun p =>
      if (cellsOf x.2).length = p.2 then (put? p.1 (cellsOf x.2) cs).bind fun cs => fillL place cs ps else none

def placesF (P : Program) (fs : Array Field) : Option (List (Nat × Nat)) := fs.toList.mapM fun f => (P.info? f.type).map fun i => (f.offset, i.size)
def placeE (n i : Nat) : Option (Nat × Nat) := some (i * n, n)
def aggOf (o : Option (List Value)) : Option Value := o.map fun cs => .agg ⟨cs⟩
def buildM (P : Program) (t : TypeId) (ps : List (Nat × Value)) : Option Value :=
  (zeroT P t).bind fun z => match P.underlying t with
  | some (.struct fs) => (placesF P fs).bind fun pl => aggOf (fillL (fun i => pl[i]?) (cellsOf z) ps)
  | some (.array _ e) => (sizeT P e).bind fun n => aggOf (fillL (placeE n) (cellsOf z) ps)
  | _ => none

def buildSlice1 (e n size : Nat) (z : Value) (ps : List (Nat × Value)) : M Value :=
  (guardM (decide (n * size ≤ 10000) && decide (n ≤ 10000))).bind fun _ =>
    (lift (fillL (placeE size) (rep (cellsOf z) n) ps)).bind fun cs => (guardM (allOne cs)).bind fun _ => newSlice e size n n cs
def buildSliceM (P : Program) (t : TypeId) (n : Nat) (ps : List (Nat × Value)) : M Value :=
  (lift (sliceE P t)).bind fun e => (lift (sizeT P e)).bind fun size => (lift (zeroT P e)).bind fun z => buildSlice1 e n size z ps

def Ext : Type := FuncId → List Value → Option Value

def enterF (ext : Ext) (g : FuncId) (all : List Value) (body : Option Code) : M R :=
  match body with
  | some _ => M.pure (.enter g all)
  | none => (lift (ext g all)).bind fun v => M.pure (.val v)
def callV (P : Program) (ext : Ext) (f : Value) (args : List Value) : M R :=
  match f with
  | .func (.func g) first captured => (lift (P.funcs[g]?)).bind fun fn => enterF ext g ((first.toList ++ args) ++ captured.toList) fn.body
  | .func (.yield l) ⟨[]⟩ ⟨[]⟩ => M.pure (.yield l args)
  | _ => M.fail

def flatO (v : Value) : Option Value := if flat 3 v then some v else none
def maxV (P : Program) (ts : Array TypeId) (t : TypeId) (args : List Value) : Option Value :=
  match args.all (flat 0) with
  | true => (pr P (Builtin.max_ ts t ⟨args⟩)).bind flatO
  | false => none
def minV (P : Program) (ts : Array TypeId) (t : TypeId) (args : List Value) : Option Value :=
  match args.all (flat 0) with
  | true => (pr P (Builtin.min_ ts t ⟨args⟩)).bind flatO
  | false => none

def lenM (P : Program) (t : TypeId) (x : Value) : Option Value :=
  match P.underlying t, x with
  | some .string, .string s => some (.int .i64 s.size)
  | some (.slice _), .slice _ n _ => some (.int .i64 n)
  | some (.array n _), _ => some (.int .i64 n)
  | some (.pointer a), _ => match P.underlying a with
    | some (.array n _) => some (.int .i64 n)
    | _ => none
  | _, _ => none
def capM (P : Program) (t : TypeId) (x : Value) : Option Value :=
  match P.underlying t, x with
  | some (.slice _), .slice _ _ c => match Nat.ble BIG c with
    | true => none
    | false => some (.int .i64 c)
  | some (.array n _), _ => some (.int .i64 n)
  | _, _ => none

def valO (o : Option Value) : M R := (lift o).bind fun v => M.pure (.val v)
def valM (m : M Value) : M R := m.bind fun v => M.pure (.val v)
def arg0 (l : List Value) : Option Value := match l with | [x] => some x | _ => none
def arg2 (l : List Value) : Option (Value × Value) := match l with | [x, y] => some (x, y) | _ => none
def builtinM (P : Program) (b : Builtin) (ts : Array TypeId) (t : TypeId) (args : List Value) : M R :=
  match b with
  | .len => (lift (arg0 args)).bind fun x => (lift (ts.toList[0]?)).bind fun t0 => valO (lenM P t0 x)
  | .cap => (lift (arg0 args)).bind fun x => (lift (ts.toList[0]?)).bind fun t0 => valO (capM P t0 x)
  | .append => (lift (arg2 args)).bind fun x => (lift (ts.toList[0]?)).bind fun t0 => valM (appendM P t0 (ts.toList[1]?) x.1 x.2)
  | .copy => (lift (arg2 args)).bind fun x => (lift (ts.toList[0]?)).bind fun t0 => valM (copyM P t0 x.1 x.2)
  | .recover => M.pure .recover
  | .max => valO (maxV P ts t args)
  | .min => valO (minV P ts t args)
  | _ => M.fail
def callM (P : Program) (ext : Ext) (ev : Operand → Value) (c : Call) (t : TypeId) : M R :=
  match c.callee with
  | .value f => callV P ext (ev f) (c.args.toList.map ev)
  | .invoke _ _ => M.fail
  | .builtin b => builtinM P b c.argTypes t (c.args.toList.map ev)

def pickM (c a b : Value) : M R :=
  match c with
  | .bool t => bif_ t (M.pure (.val a)) (M.pure (.val b))
  | _ => M.fail
def nilCheckV (x : Value) : Option Value :=
  match x with
  | .pointer (some a) => some (.pointer (some a))
  | .iface t x => some (.iface t x)
  | .func (.func f) a b => some (.func (.func f) a b)
  | .func (.yield l) a b => some (.func (.yield l) a b)
  | _ => none
def unaryV (P : Program) (op : UnOp) (x : Value) : Option Value :=
  if flat 3 x then (pr P (Op.unary op x)).bind fun z => if flat 3 z then some z else none else none
def ifaceV (P : Program) (t : TypeId) (x : Value) : Option Value :=
  match P.underlying t with
  | some (.interface _) => none
  | some _ => some (.iface t x)
  | none => none
def funcV (ev : Operand → Value) (fn : Fn) (first captured : Array Operand) : Option Value :=
  match fn with
  | .func f => some (.func (.func f) ⟨first.toList.map ev⟩ ⟨captured.toList.map ev⟩)
  | _ => none
def extractV (x : Value) (i : Nat) : Option Value :=
  match x with
  | .tuple vs => vs.toList[i]?
  | _ => none
def asStr : Value → Option ByteArray
  | .string s => some s
  | _ => none
def rangeM (P : Program) (t : TypeId) (x : Value) : M Value :=
  (guardM (isStrT P t)).bind fun _ => (lift (asStr x)).bind fun s => (newB (.iter s 0)).bind fun b => M.pure (ptr b)
def next2 (b : Nat) (s : ByteArray) (pos : Nat) (c : Nat × Nat) : M Value :=
  (wrB b (.iter s (pos + c.2))).bind fun _ => M.pure (.tuple #[.bool true, .int .i64 pos, .int .i32 c.1])
def next1 (b : Nat) (s : ByteArray) (pos : Nat) : M Value :=
  if pos < s.size then next2 b s pos (Utf8.decode s pos) else M.pure (.tuple #[.bool false])
def iterIn : Blk → Option (ByteArray × Nat)
  | .iter s pos => some (s, pos)
  | _ => none
def nextM (it : Value) : M Value :=
  (lift (asPlain it)).bind fun p => (guardM (p.2 == 0)).bind fun _ => (rdB p.1).bind fun k => (lift (iterIn k)).bind fun x => next1 p.1 x.1 x.2
def deferM (f : Value) (args : List Value) : M R :=
  match f with
  | .func (.func g) first captured => M.pure (.defer { target := .fn (.func g) captured, args := first ++ ⟨args⟩ })
  | _ => M.fail
def deferC (ev : Operand → Value) (c : Call) : M R :=
  match c.callee with
  | .value f => deferM (ev f) (c.args.toList.map ev)
  | _ => M.fail
def storeR (P : Program) (t : TypeId) (x v : Value) : M R := (storeM P t x v).bind fun _ => M.pure .skip
def allocZ (P : Program) (t : TypeId) : M Value := (lift (zeroT P t)).bind fun z => allocM P t z

def opM (P : Program) (ext : Ext) (o : Oper) (ev : Operand → Value) : M R :=
  match o.op with
  | .move x => M.pure (.val (ev x))
  | .assign x => M.pure (.val (ev x))
  | .pick c a b => pickM (ev c) (ev a) (ev b)
  | .alloc t => valM (allocZ P t)
  | .box t x => valM (allocM P t (ev x))
  | .build t ps => valO (buildM P t (parts ev ps))
  | .buildSlice t n ps => valM (buildSliceM P t n (parts ev ps))
  | .load t x => valM (loadM P t (ev x))
  | .store t x y => storeR P t (ev x) (ev y)
  | .nilCheck x => valO (nilCheckV (ev x))
  | .binOp op t x y _ => valO (binM P op t x y (ev x) (ev y))
  | .unOp op _ x => valO (unaryV P op (ev x))
  | .convert s d x => valM (convertM P s d (ev x))
  | .makeInterface t x => valO (ifaceV P t (ev x))
  | .makeFunc fn first captured => valO (funcV ev fn first captured)
  | .makeSlice t n c => valM (makeSliceM P t (ev n) (ev c))
  | .slice t x lo hi mx => valO (sliceM P t (ev x) (lo.map ev) (hi.map ev) (mx.map ev))
  | .fieldAddr t x f => valO (fieldAddrM P t (ev x) f)
  | .field t x f => valO (fieldM P t (ev x) f)
  | .indexAddr t x i => valO (indexAddrM P t (ev x) (ev i))
  | .index t x i => valO (indexM P t (ev x) (ev i))
  | .typeAssert x _ t ok => valO (typeAssertM P (ev x) t ok)
  | .extract x i => valO (extractV (ev x) i)
  | .range t x => valM (rangeM P t (ev x))
  | .next it true => valM (nextM (ev it))
  | .call c => callM P ext ev c o.type
  | .defer c => deferC ev c
  | _ => M.fail

/-! ### Code -/
inductive Ex where
  | normal
  | exit (id : Nat)
  | goto (l : Nat)
  | ret

inductive Task where
  | code (c : Code) (a : A) (rf : Option Nat) (fn : FuncId)
  | call (f : FuncId) (args : List Value)
  | round (l : Nat) (args : List Value)
  | leaves (fn : Func) (a : A)
  | scope (cur body : Code) (a : A) (rf : Option Nat) (fn : FuncId)

inductive Out where
  | code (e : Ex) (a : A)
  | ret (v : Value)

def boolOf : Value → Option Bool
  | .bool b => some b
  | _ => none
def yieldedA (ops : List Oper) (a : A) (j : Nat) : Option Bool :=
  (ops[j]?).bind fun o => o.dst.bind fun d => if d < a.n then boolOf (a.get d) else none
def wantedA (ops : List Oper) (o : Oper) (a : A) : Bool :=
  match o.guard with
  | none => true
  | some (j, want) => yieldedA ops a j == some want

def retV : Out → M Value
  | .code _ _ => M.fail
  | .ret v => M.pure v
/-- the value that an operation's answer comes to -/
def valR (rec : Task → M Out) (rf : Option Nat) : R → M Value
  | .val v => M.pure v
  | .skip => M.pure undef
  | .enter f args => (rec (.call f args)).bind retV
  | .yield l args => (rec (.round l args)).bind retV
  | .recover => (guardM rf.isNone).bind fun _ => M.pure .nilIface
  | .defer _ => M.fail
def opV (P : Program) (ext : Ext) (rec : Task → M Out) (rf : Option Nat) (o : Oper) (ev : Operand → Value) : M Value := (opM P ext o ev).bind (valR rec rf)
def doDefer (rf : Option Nat) (a : A) (dst : Option Nat) (d : Deferred) : M A :=
  match rf with
  | none => M.pure (A.put { a with df := d :: a.df } dst undef)
  | some _ => M.fail
def isDefer : Op → Bool
  | .defer _ => true
  | _ => false
def asDefer : R → Option Deferred
  | .defer d => some d
  | _ => none
def stepOp (P : Program) (ext : Ext) (rec : Task → M Out) (rf : Option Nat) (o : Oper) (a : A) : M A :=
  bif_ (isDefer o.op) ((opM P ext o a.eval).bind fun r => (lift (asDefer r)).bind fun d => doDefer rf a o.dst d)
    ((opV P ext rec rf o a.eval).bind fun v => M.pure (a.put o.dst v))

def runOps (P : Program) (ext : Ext) (rec : Task → M Out) (rf : Option Nat) (ops : List Oper) : List Oper → A → M A
  | [], a => M.pure a
  | o :: l, a => if wantedA ops o a then (stepOp P ext rec rf o a).bind fun a => runOps P ext rec rf ops l a
    else runOps P ext rec rf ops l (a.put o.dst undef)

def addRs (l : List Nat) (s : St) : St := l.foldr addR s
def addWs (l : List Nat) (s : St) : St := l.foldr addW s
/-- the old blocks that an operation has read and written, and the blocks that it has made -/
structure Foot where
  rd : List Nat
  wr : List Nat
  lo : Nat
  hi : Nat
/-- runs m and tells its foot -/
def listen {α : Type} (m : M α) : M (α × Foot) := fun s =>
  match m { s with lim := s.nx, rd := [], wr := [] } with
  | none => none
  | some (x, s') => some ((x, ⟨s'.rd, s'.wr, s.nx, s'.nx⟩), addWs s'.wr (addRs s'.rd { s' with lim := s.lim, rd := s.rd, wr := s.wr }))

def runDrawn (P : Program) (ext : Ext) (rec : Task → M Out) (rf : Option Nat) (ops : List Oper) : List Oper → A → M (List Foot × A)
  | [], a => M.pure ([], a)
  | o :: l, a => if wantedA ops o a then
      (listen (opV P ext rec rf o a.eval)).bind fun p => (runDrawn P ext rec rf ops l (a.put o.dst p.1)).bind fun z => M.pure (p.2 :: z.1, z.2)
    else (runDrawn P ext rec rf ops l (a.put o.dst undef)).bind fun z => M.pure (⟨[], [], 0, 0⟩ :: z.1, z.2)

/-- does x write, or make, what y reads? -/
def Foot.meets (x y : Foot) : Bool := y.rd.any fun b => decide (b ∈ x.wr) || (Nat.ble x.lo b && Nat.blt b x.hi)
/-- of each operation: those that come before it, whatever is drawn -/
def ordRow (acc : List Nat) : List Edge → Nat
  | [] => 0
  | e :: l => (if Region.binds .any e then 2 ^ e.on ||| acc.getD e.on 0 else 0) ||| ordRow acc l
def ordTab : List Oper → List Nat → List Nat
  | [], acc => acc
  | o :: l, acc => ordTab l (acc ++ [ordRow acc o.after.toList])
def ordered (tab : List Nat) (i j : Nat) : Bool := (tab.getD j 0).testBit i
/-- of operations that may come in either order none writes what the other one reads -/
def apartOk (tab : List Nat) (fs : List Foot) : Bool :=
  (List.range fs.length).all fun j => (List.range j).all fun i => ordered tab i j ||
    match fs[i]?, fs[j]? with
    | some x, some y => !(x.meets y || y.meets x)
    | _, _ => false

def startT : List Value → Nat → Tr Value → Tr Value
  | [], _, t => t
  | v :: l, i, t => startT l (i + 1) (t.set v i)
def startA (n : Nat) (args : List Value) : A := { tm := startT args 0 .e, n, df := [] }

def resultM (P : Program) (a : A) : ResultVar → M Value
  | .tmp t => M.pure (a.get t)
  | .cell x t => loadM P t (a.get x)
def resultsM (P : Program) (a : A) : List ResultVar → M (List Value)
  | [] => M.pure []
  | r :: l => (resultM P a r).bind fun v => (resultsM P a l).bind fun vs => M.pure (v :: vs)
def packR : List Value → Value
  | [v] => v
  | vs => .tuple ⟨vs⟩

/-- what follows code that ends normally -/
def onNormal (next : A → M Out) : Out → M Out
  | .code .normal a => next a
  | .code e a => M.pure (.code e a)
  | _ => M.fail
def onBlock (id : Nat) : Out → M Out
  | .code (.exit i) a => M.pure (.code (if i = id then .normal else .exit i) a)
  | .code e a => M.pure (.code e a)
  | _ => M.fail
def stCond (rec : Task → M Out) (v : Value) (x y : Code) (a : A) (rf : Option Nat) (fn : FuncId) : M Out :=
  match v with
  | .bool b => rec (.code (if b then x else y) a rf fn)
  | _ => M.fail
def stDrawn (ops : List Oper) (z : List Foot × A) : M Out := if apartOk (ordTab ops []) z.1 then M.pure (.code .normal z.2) else M.fail
def stRegion (P : Program) (ext : Ext) (rec : Task → M Out) (ops : List Oper) (draw : Bool) (a : A) (rf : Option Nat) : M Out :=
  if draw then (runDrawn P ext rec rf ops ops a).bind (stDrawn ops) else (runOps P ext rec rf ops ops a).bind fun z => M.pure (.code .normal z)

def loopIn : Blk → Option Loop
  | .loop l => some l
  | _ => none
def rdLoop (l : Nat) : M Loop := (rdB l).bind fun k => lift (loopIn k)
def rangeDefs (rf : Option Nat) (a : A) : M (Nat × A) :=
  match rf with
  | none => (newB .defs).bind fun r => M.pure (r, { a with df := { target := .collected r, args := #[] } :: a.df })
  | some l => (rdLoop l).bind fun z => M.pure (z.defers, a)
def isBusy : LoopState → Bool
  | .busy => true
  | _ => false
def isReady : LoopState → Bool
  | .ready => true
  | _ => false
def rangeJump (rec : Task → M Out) (a : A) (rf : Option Nat) (fn : FuncId) : Option Code → M Out
  | none => M.pure (.code .normal a)
  | some c => rec (.code c a rf fn)
def rangeEnd (rec : Task → M Out) (l : Nat) (a : A) (rf : Option Nat) (fn : FuncId) : Out → M Out
  | .code _ _ => M.fail
  | .ret _ => (rdLoop l).bind fun z => (guardM (!isBusy z.state)).bind fun _ => (wrB l (.loop { z with state := .exhausted })).bind fun _ => rangeJump rec a rf fn z.pending
def rangeCall (rec : Task → M Out) (l : Nat) (a : A) (rf : Option Nat) (fn : FuncId) (r : R) : M Out :=
  match r with
  | .enter g args => (rec (.call g args)).bind (rangeEnd rec l a rf fn)
  | _ => M.fail
def stRange (P : Program) (ext : Ext) (rec : Task → M Out) (f : Operand) (params : Array Tmp) (assign body : Code) (a : A) (rf : Option Nat) (fn : FuncId) : M Out :=
  (rangeDefs rf a).bind fun ra =>
    (newB (.loop { state := .ready, pending := none, fn, tmps := ⟨(List.range a.n).map a.get⟩, params, assign, body, defers := ra.1 })).bind fun l =>
      (callV P ext (a.eval f) [.func (.yield l) #[] #[]]).bind (rangeCall rec l ra.2 rf fn)

def stCode (P : Program) (ext : Ext) (rec : Task → M Out) (c : Code) (a : A) (rf : Option Nat) (fn : FuncId) : M Out :=
  match c with
  | .skip => M.pure (.code .normal a)
  | .label _ => M.pure (.code .normal a)
  | .ret => M.pure (.code .ret a)
  | .exit id => M.pure (.code (.exit id) a)
  | .goto l => M.pure (.code (.goto l) a)
  | .seq x y => (rec (.code x a rf fn)).bind (onNormal fun a => rec (.code y a rf fn))
  | .cond c x y => stCond rec (a.eval c) x y a rf fn
  | .block id x => (rec (.code x a rf fn)).bind (onBlock id)
  | .loop x => (rec (.code x a rf fn)).bind (onNormal fun a => rec (.code (.loop x) a rf fn))
  | .region _ ops draw => stRegion P ext rec ops.toList draw a rf
  | .rangeFunc f params assign body => stRange P ext rec f params assign body a rf fn
  | .scope body => rec (.scope body body a rf fn)
  | .refuse _ => M.fail

/-- a jump to a label within the scope goes on there -/
def onScope (rec : Task → M Out) (body : Code) (rf : Option Nat) (fn : FuncId) : Out → M Out
  | .code (.goto l) a => match findLabel body l with
    | some rest => rec (.scope rest body a rf fn)
    | none => M.pure (.code (.goto l) a)
  | .code e a => M.pure (.code e a)
  | _ => M.fail
def stScope (rec : Task → M Out) (cur body : Code) (a : A) (rf : Option Nat) (fn : FuncId) : M Out :=
  (rec (.code cur a rf fn)).bind (onScope rec body rf fn)

def callEnd (rec : Task → M Out) (fn : Func) : Out → M Out
  | .code .normal a => rec (.leaves fn a)
  | .code .ret a => rec (.leaves fn a)
  | _ => M.fail
def stBody (rec : Task → M Out) (f : FuncId) (fn : Func) (body : Code) (args : List Value) : M Out :=
  (guardM (decide (args.length ≤ fn.ntmps))).bind fun _ => (rec (.code body (startA fn.ntmps args) none f)).bind (callEnd rec fn)
/-- a call: what is known of it already, or its body -/
def stKnown (rec : Task → M Out) (f : FuncId) (fn : Func) (body : Code) (args : List Value) : Option Value → M Out
  | some v => M.pure (.ret v)
  | none => stBody rec f fn body args
def stCall (P : Program) (ext : Ext) (rec : Task → M Out) (f : FuncId) (args : List Value) : M Out :=
  (lift (P.funcs[f]?)).bind fun fn => (lift fn.body).bind fun body => stKnown rec f fn body args (ext f args)

def jumpLoop (z : Loop) (j : Option Code) : Loop := { z with state := (match j with | none => .ready | some _ => .done), pending := j }
def roundJump (l : Nat) (j : Option Code) : M Out := (rdLoop l).bind fun z => (wrB l (.loop (jumpLoop z j))).bind fun _ => M.pure (.ret (.bool j.isNone))
def roundEnd (l : Nat) : Out → M Out
  | .code .normal _ => roundJump l none
  | .code .ret _ => roundJump l (some .ret)
  | .code (.exit id) _ => roundJump l (some (.exit id))
  | .code (.goto t) _ => roundJump l (some (.goto t))
  | _ => M.fail
def roundBody (rec : Task → M Out) (l : Nat) (body : Code) (fn : FuncId) (o : Out) : M Out :=
  match o with
  | .code .normal a => (rdLoop l).bind fun z => (guardM (isReady z.state)).bind fun _ => (wrB l (.loop { z with state := .busy })).bind fun _ =>
      (rec (.code body a (some l) fn)).bind (roundEnd l)
  | _ => M.fail
def withParams (a : A) : List (Nat × Value) → A
  | [] => a
  | p :: l => withParams (a.put (some p.1) p.2) l
def stRound (rec : Task → M Out) (l : Nat) (args : List Value) : M Out :=
  (rdLoop l).bind fun z => (guardM (args.length == z.params.size)).bind fun _ =>
    (rec (.code z.assign (withParams (startA z.tmps.toList.length z.tmps.toList) (z.params.toList.zip args)) (some l) z.fn)).bind (roundBody rec l z.body z.fn)

def isDefs : Blk → Bool
  | .defs => true
  | _ => false
def afterDefer (rec : Task → M Out) (fn : Func) (a : A) : Out → M Out
  | .code _ _ => M.fail
  | .ret _ => rec (.leaves fn a)
def stDefer (rec : Task → M Out) (fn : Func) (a : A) (d : Deferred) : M Out :=
  match d.target with
  | .collected r => (rdB r).bind fun k => (guardM (isDefs k)).bind fun _ => (wrB r .dead).bind fun _ => rec (.leaves fn a)
  | .fn (.func g) cap => (rec (.call g (d.args.toList ++ cap.toList))).bind (afterDefer rec fn a)
  | _ => M.fail
def stLeaves (P : Program) (rec : Task → M Out) (fn : Func) (a : A) : M Out :=
  match a.df with
  | [] => (resultsM P a fn.results.toList).bind fun vs => M.pure (.ret (packR vs))
  | d :: ds => stDefer rec fn { a with df := ds } d

def step (P : Program) (ext : Ext) (rec : Task → M Out) : Task → M Out
  | .code c a rf fn => stCode P ext rec c a rf fn
  | .call f args => stCall P ext rec f args
  | .round l args => stRound rec l args
  | .leaves fn a => stLeaves P rec fn a
  | .scope cur body a rf fn => stScope rec cur body a rf fn

def run (P : Program) (ext : Ext) : Nat → Task → M Out
  | 0, _ => M.fail
  | n + 1, t => step P ext (run P ext n) t

end
end Go.AM
