import Derived.Test.YtoaaalokldaddaaGreatDoorCe1
set_option linter.unusedSimpArgs false
set_option linter.unusedVariables false
namespace Go.AM
open Go
noncomputable section

/-! ### The state: a packed number, and a store of the values that have none -/
structure X where
  o : List Value
  cnt : Nat
  df : List Deferred
abbrev Ans := Option Value
abbrev KN := Nat → X → St → Ans
abbrev KE := Ex → Nat → X → St → Ans
/-- a call's answer: its number (13: none), the value itself -/
abbrev KV := Nat → Value → St → Ans
inductive T2 where
  | call (f : FuncId) (len e : Nat) (x : X)
  | round (l : Nat) (args : List Value)
  | scope (cur body : Code) (fn nt : Nat) (rf : Option Nat) (e : Nat) (x : X) (kn : KN) (ke : KE)
abbrev H := Nat → T2 → St → KV → Ans
abbrev OF := H → Nat → Option Nat → Nat → X → St → KN → Ans
abbrev CF := H → Nat → Option Nat → Nat → X → St → KN → KE → Ans
abbrev FF := H → Nat → Nat → Nat → X → St → KV → Ans
abbrev AF := Nat → X → Nat → X → (Nat → X → Ans) → Ans
abbrev RF := Nat → X → St → KV → Ans
inductive OC where
  | mk (f : OF)
inductive CC where
  | mk (f : CF)
inductive FC where
  | mk (f : FF)
inductive AC where
  | mk (f : AF)
inductive RC where
  | mk (f : RF)
def OC.run (o : OC) : OF := OC.rec (motive := fun _ => OF) (fun f => f) o
def CC.run (o : CC) : CF := CC.rec (motive := fun _ => CF) (fun f => f) o
def FC.run (o : FC) : FF := FC.rec (motive := fun _ => FF) (fun f => f) o
def AC.run (o : AC) : AF := AC.rec (motive := fun _ => AF) (fun f => f) o
def RC.run (o : RC) : RF := RC.rec (motive := fun _ => RF) (fun f => f) o

def forceN (n : Nat) (k : Nat → Ans) : Ans := Nat.rec (motive := fun _ => Ans) (k (nat_lit 0)) (fun m _ => k (Nat.succ m)) n
def normS (s : St) (k : St → Ans) : Ans := St.rec (motive := fun _ => Ans) (fun hp nx lim rd wr => forceN nx fun nx => forceN lim fun lim => k ⟨hp, nx, lim, rd, wr⟩) s
def bnd {α : Type} (m : Option (α × St)) (k : α → St → Ans) : Ans :=
  Option.rec (motive := fun _ => Ans) none (fun p => Prod.rec (motive := fun _ => Ans) (fun a s => normS s (k a)) p) m
def obnd {α : Type} (m : Option α) (k : α → Ans) : Ans := Option.rec (motive := fun _ => Ans) none (fun p => k p) m
def nthR {α : Type} (l : List α) (n : Nat) : Option α := List.rec (motive := fun _ => Nat → Option α) (fun _ => none) (fun a _ ih n => Nat.rec (motive := fun _ => Option α) (some a) (fun m _ => ih m) n) l n

def objV (x : X) (c : Nat) : Value := X.rec (motive := fun _ => Value) (fun o cnt _ => Option.rec (motive := fun _ => Value) undef (fun v => v) (nthR o (Nat.sub cnt (Nat.succ (Nat.shiftRight c (nat_lit 4)))))) x
def decX (x : X) (c : Nat) : Value := ifV (Nat.beq (Nat.land c (nat_lit 15)) (nat_lit 13)) (objV x c) (decP c)
def evV (x : X) (e : Nat) : Operand → Value
  | .tmp t => decX x (slot e t)
  | .const v => v
  | .global g => ptr g
  | .func f => .func (.func f) #[] #[]
/-- a value put into the store -/
def putO (d : Nat) (v : Value) (e : Nat) (x : X) (k : Nat → X → Ans) : Ans :=
  X.rec (motive := fun _ => Ans) (fun o cnt df => forceN cnt fun cnt => Bool.rec (motive := fun _ => Ans) none (k (putc e d (Nat.add (Nat.mul (nat_lit 16) cnt) (nat_lit 13))) ⟨v :: o, Nat.succ cnt, df⟩) (Nat.ble cnt (nat_lit 4294967295))) x
def putD (d : Nat) (v : Value) (e : Nat) (x : X) (k : Nat → X → Ans) : Ans :=
  Bool.rec (motive := fun _ => Ans) (k (putc e d (encN v)) x) (putO d v e x k) (Nat.beq (encN v) (nat_lit 13))
def putV (d : Option Nat) (v : Value) (e : Nat) (x : X) (k : Nat → X → Ans) : Ans :=
  Option.rec (motive := fun _ => Ans) (k e x) (fun d => putD d v e x k) d
/-- what a call has answered -/
def putR (d : Option Nat) (c : Nat) (v : Value) (e : Nat) (x : X) (k : Nat → X → Ans) : Ans :=
  Option.rec (motive := fun _ => Ans) (k e x) (fun d => Bool.rec (motive := fun _ => Ans) (k (putc e d c) x) (putO d v e x k) (Nat.beq c (nat_lit 13))) d
def putN (d : Option Nat) (c e : Nat) : Nat := Option.rec (motive := fun _ => Nat) e (fun d => putc e d c) d
def effD (nt : Nat) (d : Option Nat) : Option Nat := Option.rec (motive := fun _ => Option Nat) none (fun d => Bool.rec (motive := fun _ => Option Nat) none (some d) (Nat.ble (Nat.succ d) nt)) d

/-! ### Memory -/
def getK (b : Nat) (hp : Hp Blk) : Option Blk := Hp.rec (motive := fun _ => Option Blk) (fun f r => Bool.rec (motive := fun _ => Option Blk) (r.get b) (Dg.rec (motive := fun _ => Option Blk) (fun d3 d2 d1 d0 => Bx.rec (motive := fun _ => Option Blk) (fun g0 _ _ => g0 (Bx.rec (motive := fun _ => N16 (Option Blk)) (fun g1 _ _ => g1 (Bx.rec (motive := fun _ => N16 (N16 (Option Blk))) (fun g2 _ _ => g2 (Bx.rec (motive := fun _ => N16 (N16 (N16 (Option Blk)))) (fun g3 _ _ => g3 f) (bx (N16 (N16 (N16 (Option Blk)))) d3))) (bx (N16 (N16 (Option Blk))) d2))) (bx (N16 (Option Blk)) d1))) (bx (Option Blk) d0)) (dgs b)) (Nat.ble b (nat_lit 65535))) hp
def setK (b : Nat) (x : Blk) (hp : Hp Blk) (k : Hp Blk → Ans) : Ans :=
  Hp.rec (motive := fun _ => Ans) (fun f r => Bool.rec (motive := fun _ => Ans) (k ⟨f, r.set x b⟩) (hput b x f fun f => k ⟨f, r⟩) (Nat.ble b (nat_lit 65535))) hp
def memF (b : Nat) (l : List Nat) : Bool := List.rec (motive := fun _ => Bool) false (fun a _ ih => Bool.rec (motive := fun _ => Bool) ih true (Nat.beq a b)) l
/-- a number added to a list of those below lim -/
def addF (b lim : Nat) (l : List Nat) (k : List Nat → Ans) : Ans := Bool.rec (motive := fun _ => Ans) (Bool.rec (motive := fun _ => Ans) (k (b :: l)) (k l) (memF b l)) (k l) (Nat.ble lim b)
def addFs (bs : List Nat) (lim : Nat) : List Nat → (List Nat → Ans) → Ans :=
  List.rec (motive := fun _ => List Nat → (List Nat → Ans) → Ans) (fun l k => k l) (fun b _ ih l k => ih l fun l => forceN b fun b => addF b lim l k) bs
def rdK (b : Nat) (s : St) (k : Blk → St → Ans) : Ans :=
  St.rec (motive := fun _ => Ans) (fun hp nx lim rd wr => Bool.rec (motive := fun _ => Ans)
    (Option.rec (motive := fun _ => Ans) none (fun x => addF b lim rd fun rd => k x ⟨hp, nx, lim, rd, wr⟩) (getK b hp)) none (Nat.ble nx b)) s
/-- a block that has just been read is written -/
def wrK (b : Nat) (x : Blk) (s : St) (k : St → Ans) : Ans :=
  St.rec (motive := fun _ => Ans) (fun hp nx lim rd wr => addF b lim wr fun wr => setK b x hp fun hp => k ⟨hp, nx, lim, rd, wr⟩) s
def newK (x : Blk) (s : St) (k : Nat → St → Ans) : Ans :=
  St.rec (motive := fun _ => Ans) (fun hp nx lim rd wr => forceN nx fun nx => setK nx x hp fun hp => k nx ⟨hp, Nat.succ nx, lim, rd, wr⟩) s
def cellsK (b : Blk) (k : Nat → Nat → Bool → List Value → Ans) : Ans := Blk.rec (motive := fun _ => Ans) k (fun _ _ => none) (fun _ => none) none none b
def ldB (off : Nat) (k : Value → St → Ans) (b : Blk) (s : St) : Ans := cellsK b fun _ _ _ cs => obnd (nthR cs off) fun v => k v s
def blkC (c : Nat) : Nat := Nat.shiftRight c (nat_lit 32)
def offC (c : Nat) : Nat := Nat.mod (Nat.shiftRight c (nat_lit 4)) (nat_lit 268435456)
def ldA (c : Nat) (s : St) (k : Value → St → Ans) : Ans :=
  Bool.rec (motive := fun _ => Ans) none (forceN (blkC c) fun b => rdK b s (ldB (offC c) k)) (Nat.beq (Nat.land c (nat_lit 15)) (nat_lit 10))
def dropK {α : Type} (n : Nat) : List α → (List α → Ans) → Ans :=
  Nat.rec (motive := fun _ => List α → (List α → Ans) → Ans) (fun l k => k l) (fun _ ih l k => List.rec (motive := fun _ => Ans) none (fun _ t _ => ih t k) l) n
def takeK {α : Type} (n : Nat) : List α → (List α → Ans) → Ans :=
  Nat.rec (motive := fun _ => List α → (List α → Ans) → Ans) (fun _ k => k []) (fun _ ih l k => List.rec (motive := fun _ => Ans) none (fun a t _ => ih t fun r => k (a :: r)) l) n
def lgB (off n : Nat) (k : Value → St → Ans) (b : Blk) (s : St) : Ans := cellsK b fun _ _ _ cs => dropK off cs fun l => takeK n l fun l => k (.agg ⟨l⟩) s
def lgA (n c : Nat) (s : St) (k : Value → St → Ans) : Ans :=
  Bool.rec (motive := fun _ => Ans) none (forceN (blkC c) fun b => rdK b s (lgB (offC c) n k)) (Nat.beq (Nat.land c (nat_lit 15)) (nat_lit 10))
def overK (xs : List Value) : List Value → (List Value → Ans) → Ans :=
  List.rec (motive := fun _ => List Value → (List Value → Ans) → Ans) (fun l k => k l) (fun x _ ih l k => List.rec (motive := fun _ => Ans) none (fun _ t _ => ih t fun r => k (x :: r)) l) xs
def atK (off : Nat) (xs : List Value) : List Value → (List Value → Ans) → Ans :=
  Nat.rec (motive := fun _ => List Value → (List Value → Ans) → Ans) (overK xs) (fun _ ih l k => List.rec (motive := fun _ => Ans) none (fun a t _ => ih t fun r => k (a :: r)) l) off
def stB (b off : Nat) (xs : List Value) (k : St → Ans) (x : Blk) (s : St) : Ans :=
  cellsK x fun el es own cs => Bool.rec (motive := fun _ => Ans) none (atK off xs cs fun cs => wrK b (.cells el es true cs) s k) own
def stA (c : Nat) (xs : List Value) (s : St) (k : St → Ans) : Ans :=
  Bool.rec (motive := fun _ => Ans) none (forceN (blkC c) fun b => rdK b s (stB b (offC c) xs k)) (Nat.beq (Nat.land c (nat_lit 15)) (nat_lit 10))
/-- the cells of a value -/
def oneF (v : Value) : Bool := match v with
  | .agg _ => false
  | .tuple _ => false
  | _ => true
def allF (l : List Value) : Bool := List.rec (motive := fun _ => Bool) true (fun v _ ih => Bool.rec (motive := fun _ => Bool) false ih (oneF v)) l
def aggK (v : Value) (k : List Value → Ans) : Ans :=
  match v with
  | .agg l => Bool.rec (motive := fun _ => Ans) none (k l.toList) (allF l.toList)
  | .tuple _ => none
  | v => k [v]
def lenF (l : List Value) (n : Nat) : Bool := List.rec (motive := fun _ => Nat → Bool) (fun n => Nat.beq n (nat_lit 0)) (fun _ _ ih n => Nat.rec (motive := fun _ => Bool) false (fun m _ => ih m) n) l n
def newC (d : Option Nat) (el es : Nat) (cs : List Value) (e : Nat) (x : X) (s : St) (k : KN) : Ans :=
  newK (.cells el es true cs) s fun b s => Bool.rec (motive := fun _ => Ans) (putV d (ptr b) e x fun e x => k e x s) (k (putN d (Nat.add (Nat.mul (nat_lit 4294967296) b) (nat_lit 10)) e) x s) (Nat.ble b (nat_lit 4294967295))

/-! ### Operations on numbers -/
def codeS : Operand → Nat → Nat
  | .tmp t, e => slot e t
  | .const v, _ => encN v
  | .global g, _ => encN (ptr g)
  | .func f, _ => encN (.func (.func f) #[] #[])
/-- an operand: a temporary, or a number known ahead -/
def opd (y : Operand) (a b : Nat → OC) : OC :=
  Operand.rec (motive := fun _ => OC) (fun t => a t) (fun v => b (encN v)) (fun g => b (encN (ptr g))) (fun f => b (encN (.func (.func f) #[] #[]))) y
def boolC (b : Bool) : Nat := ifN b (nat_lit 25) (nat_lit 9)

def addU (τ M cx cy : Nat) : Nat := (Bool.rec (motive := fun _ => Nat) (nat_lit 13) (Nat.mod (Nat.sub (Nat.add cx cy) τ) M) (Nat.beq (Nat.land (Nat.lor (Nat.xor cx τ) (Nat.xor cy τ)) (nat_lit 15)) (nat_lit 0)))
def addS (τ Q cx cy : Nat) : Nat := (Bool.rec (motive := fun _ => Nat) (nat_lit 13) ((fun r => (Bool.rec (motive := fun _ => Nat) r (nat_lit 13) (Nat.ble Q r))) (Nat.sub (Nat.add cx cy) τ)) (Nat.beq (Nat.land (Nat.lor (Nat.xor cx τ) (Nat.xor cy τ)) (nat_lit 15)) (nat_lit 0)))
def subU (τ M cx cy : Nat) : Nat := (Bool.rec (motive := fun _ => Nat) (nat_lit 13) (Bool.rec (motive := fun _ => Nat) (nat_lit 13) (Nat.mod (Nat.add (Nat.sub (Nat.add cx M) cy) τ) M) (Nat.ble cy (Nat.add cx M))) (Nat.beq (Nat.land (Nat.lor (Nat.xor cx τ) (Nat.xor cy τ)) (nat_lit 15)) (nat_lit 0)))
def subS (τ Q cx cy : Nat) : Nat := (Bool.rec (motive := fun _ => Nat) (nat_lit 13) (Bool.rec (motive := fun _ => Nat) (nat_lit 13) ((fun r => (Bool.rec (motive := fun _ => Nat) r (nat_lit 13) (Nat.ble Q r))) (Nat.add (Nat.sub cx cy) τ)) (Nat.ble cy cx)) (Nat.beq (Nat.land (Nat.lor (Nat.xor cx τ) (Nat.xor cy τ)) (nat_lit 15)) (nat_lit 0)))
def mulU (τ M cx cy : Nat) : Nat := (Bool.rec (motive := fun _ => Nat) (nat_lit 13) (Nat.mod (Nat.add (Nat.mul (nat_lit 16) (Nat.mul (Nat.div cx (nat_lit 16)) (Nat.div cy (nat_lit 16)))) τ) M) (Nat.beq (Nat.land (Nat.lor (Nat.xor cx τ) (Nat.xor cy τ)) (nat_lit 15)) (nat_lit 0)))
def mulS (τ Q cx cy : Nat) : Nat := (Bool.rec (motive := fun _ => Nat) (nat_lit 13) ((fun r => (Bool.rec (motive := fun _ => Nat) r (nat_lit 13) (Nat.ble Q r))) (Nat.add (Nat.mul (nat_lit 16) (Nat.mul (Nat.div cx (nat_lit 16)) (Nat.div cy (nat_lit 16)))) τ)) (Nat.beq (Nat.land (Nat.lor (Nat.xor cx τ) (Nat.xor cy τ)) (nat_lit 15)) (nat_lit 0)))
def quoC (τ Q cx cy : Nat) : Nat := (Bool.rec (motive := fun _ => Nat) (nat_lit 13) (Bool.rec (motive := fun _ => Nat) (nat_lit 13) ((fun r => (Bool.rec (motive := fun _ => Nat) r (nat_lit 13) (Nat.ble Q r))) (Nat.add (Nat.mul (nat_lit 16) (Nat.div (Nat.div cx (nat_lit 16)) (Nat.div cy (nat_lit 16)))) τ)) (Nat.ble (nat_lit 16) cy)) (Nat.beq (Nat.land (Nat.lor (Nat.xor cx τ) (Nat.xor cy τ)) (nat_lit 15)) (nat_lit 0)))
def remC (τ cx cy : Nat) : Nat := (Bool.rec (motive := fun _ => Nat) (nat_lit 13) (Bool.rec (motive := fun _ => Nat) (nat_lit 13) (Nat.add (Nat.mul (nat_lit 16) (Nat.mod (Nat.div cx (nat_lit 16)) (Nat.div cy (nat_lit 16)))) τ) (Nat.ble (nat_lit 16) cy)) (Nat.beq (Nat.land (Nat.lor (Nat.xor cx τ) (Nat.xor cy τ)) (nat_lit 15)) (nat_lit 0)))
def shrC (τ w cx cy : Nat) : Nat := (Bool.rec (motive := fun _ => Nat) (nat_lit 13) (Bool.rec (motive := fun _ => Nat) (nat_lit 13) (Bool.rec (motive := fun _ => Nat) (nat_lit 13) (Nat.add (Nat.mul (nat_lit 16) (Nat.shiftRight (Nat.div cx (nat_lit 16)) (Nat.div cy (nat_lit 16)))) τ) (Nat.ble (Nat.div cy (nat_lit 16)) w)) (Nat.ble (Nat.land (Nat.add cy (nat_lit 15)) (nat_lit 15)) (nat_lit 7))) (Nat.beq (Nat.land cx (nat_lit 15)) τ))
def shlU (τ w M cx cy : Nat) : Nat := (Bool.rec (motive := fun _ => Nat) (nat_lit 13) (Bool.rec (motive := fun _ => Nat) (nat_lit 13) (Bool.rec (motive := fun _ => Nat) (nat_lit 13) (Nat.mod (Nat.add (Nat.mul (nat_lit 16) (Nat.shiftLeft (Nat.div cx (nat_lit 16)) (Nat.div cy (nat_lit 16)))) τ) M) (Nat.ble (Nat.div cy (nat_lit 16)) w)) (Nat.ble (Nat.land (Nat.add cy (nat_lit 15)) (nat_lit 15)) (nat_lit 7))) (Nat.beq (Nat.land cx (nat_lit 15)) τ))
def shlS (τ w Q cx cy : Nat) : Nat := (Bool.rec (motive := fun _ => Nat) (nat_lit 13) (Bool.rec (motive := fun _ => Nat) (nat_lit 13) (Bool.rec (motive := fun _ => Nat) (nat_lit 13) ((fun r => (Bool.rec (motive := fun _ => Nat) r (nat_lit 13) (Nat.ble Q r))) (Nat.add (Nat.mul (nat_lit 16) (Nat.shiftLeft (Nat.div cx (nat_lit 16)) (Nat.div cy (nat_lit 16)))) τ)) (Nat.ble (Nat.div cy (nat_lit 16)) w)) (Nat.ble (Nat.land (Nat.add cy (nat_lit 15)) (nat_lit 15)) (nat_lit 7))) (Nat.beq (Nat.land cx (nat_lit 15)) τ))
def eqlC (τ cx cy : Nat) : Nat := (Bool.rec (motive := fun _ => Nat) (nat_lit 13) (Bool.rec (motive := fun _ => Nat) (nat_lit 9) (nat_lit 25) (Nat.beq cx cy)) (Nat.beq (Nat.land (Nat.lor (Nat.xor cx τ) (Nat.xor cy τ)) (nat_lit 15)) (nat_lit 0)))
def neqC (τ cx cy : Nat) : Nat := (Bool.rec (motive := fun _ => Nat) (nat_lit 13) (Bool.rec (motive := fun _ => Nat) (nat_lit 25) (nat_lit 9) (Nat.beq cx cy)) (Nat.beq (Nat.land (Nat.lor (Nat.xor cx τ) (Nat.xor cy τ)) (nat_lit 15)) (nat_lit 0)))
def leqC (τ cx cy : Nat) : Nat := (Bool.rec (motive := fun _ => Nat) (nat_lit 13) (Bool.rec (motive := fun _ => Nat) (nat_lit 9) (nat_lit 25) (Nat.ble cx cy)) (Nat.beq (Nat.land (Nat.lor (Nat.xor cx τ) (Nat.xor cy τ)) (nat_lit 15)) (nat_lit 0)))
def lssC (τ cx cy : Nat) : Nat := (Bool.rec (motive := fun _ => Nat) (nat_lit 13) (Bool.rec (motive := fun _ => Nat) (nat_lit 25) (nat_lit 9) (Nat.ble cy cx)) (Nat.beq (Nat.land (Nat.lor (Nat.xor cx τ) (Nat.xor cy τ)) (nat_lit 15)) (nat_lit 0)))
def gtrC (τ cx cy : Nat) : Nat := (Bool.rec (motive := fun _ => Nat) (nat_lit 13) (Bool.rec (motive := fun _ => Nat) (nat_lit 25) (nat_lit 9) (Nat.ble cx cy)) (Nat.beq (Nat.land (Nat.lor (Nat.xor cx τ) (Nat.xor cy τ)) (nat_lit 15)) (nat_lit 0)))
def geqC (τ cx cy : Nat) : Nat := (Bool.rec (motive := fun _ => Nat) (nat_lit 13) (Bool.rec (motive := fun _ => Nat) (nat_lit 9) (nat_lit 25) (Nat.ble cy cx)) (Nat.beq (Nat.land (Nat.lor (Nat.xor cx τ) (Nat.xor cy τ)) (nat_lit 15)) (nat_lit 0)))
/-- the operator's function on numbers, chosen ahead -/
def binW (op : BinOp) (sg : Bool) (τ w M Q : Nat) (b : (Nat → Nat → Nat) → OC) : OC := match op with
  | .add => Bool.rec (motive := fun _ => OC) (b (fun cx cy => (Bool.rec (motive := fun _ => Nat) (nat_lit 13) (Nat.mod (Nat.sub (Nat.add cx cy) τ) M) (Nat.beq (Nat.land (Nat.lor (Nat.xor cx τ) (Nat.xor cy τ)) (nat_lit 15)) (nat_lit 0))))) (b (fun cx cy => (Bool.rec (motive := fun _ => Nat) (nat_lit 13) ((fun r => (Bool.rec (motive := fun _ => Nat) r (nat_lit 13) (Nat.ble Q r))) (Nat.sub (Nat.add cx cy) τ)) (Nat.beq (Nat.land (Nat.lor (Nat.xor cx τ) (Nat.xor cy τ)) (nat_lit 15)) (nat_lit 0))))) sg
  | .sub => Bool.rec (motive := fun _ => OC) (b (fun cx cy => (Bool.rec (motive := fun _ => Nat) (nat_lit 13) (Bool.rec (motive := fun _ => Nat) (nat_lit 13) (Nat.mod (Nat.add (Nat.sub (Nat.add cx M) cy) τ) M) (Nat.ble cy (Nat.add cx M))) (Nat.beq (Nat.land (Nat.lor (Nat.xor cx τ) (Nat.xor cy τ)) (nat_lit 15)) (nat_lit 0))))) (b (fun cx cy => (Bool.rec (motive := fun _ => Nat) (nat_lit 13) (Bool.rec (motive := fun _ => Nat) (nat_lit 13) ((fun r => (Bool.rec (motive := fun _ => Nat) r (nat_lit 13) (Nat.ble Q r))) (Nat.add (Nat.sub cx cy) τ)) (Nat.ble cy cx)) (Nat.beq (Nat.land (Nat.lor (Nat.xor cx τ) (Nat.xor cy τ)) (nat_lit 15)) (nat_lit 0))))) sg
  | .mul => Bool.rec (motive := fun _ => OC) (b (fun cx cy => (Bool.rec (motive := fun _ => Nat) (nat_lit 13) (Nat.mod (Nat.add (Nat.mul (nat_lit 16) (Nat.mul (Nat.div cx (nat_lit 16)) (Nat.div cy (nat_lit 16)))) τ) M) (Nat.beq (Nat.land (Nat.lor (Nat.xor cx τ) (Nat.xor cy τ)) (nat_lit 15)) (nat_lit 0))))) (b (fun cx cy => (Bool.rec (motive := fun _ => Nat) (nat_lit 13) ((fun r => (Bool.rec (motive := fun _ => Nat) r (nat_lit 13) (Nat.ble Q r))) (Nat.add (Nat.mul (nat_lit 16) (Nat.mul (Nat.div cx (nat_lit 16)) (Nat.div cy (nat_lit 16)))) τ)) (Nat.beq (Nat.land (Nat.lor (Nat.xor cx τ) (Nat.xor cy τ)) (nat_lit 15)) (nat_lit 0))))) sg
  | .shl => Bool.rec (motive := fun _ => OC) (b (fun cx cy => (Bool.rec (motive := fun _ => Nat) (nat_lit 13) (Bool.rec (motive := fun _ => Nat) (nat_lit 13) (Bool.rec (motive := fun _ => Nat) (nat_lit 13) (Nat.mod (Nat.add (Nat.mul (nat_lit 16) (Nat.shiftLeft (Nat.div cx (nat_lit 16)) (Nat.div cy (nat_lit 16)))) τ) M) (Nat.ble (Nat.div cy (nat_lit 16)) w)) (Nat.ble (Nat.land (Nat.add cy (nat_lit 15)) (nat_lit 15)) (nat_lit 7))) (Nat.beq (Nat.land cx (nat_lit 15)) τ)))) (b (fun cx cy => (Bool.rec (motive := fun _ => Nat) (nat_lit 13) (Bool.rec (motive := fun _ => Nat) (nat_lit 13) (Bool.rec (motive := fun _ => Nat) (nat_lit 13) ((fun r => (Bool.rec (motive := fun _ => Nat) r (nat_lit 13) (Nat.ble Q r))) (Nat.add (Nat.mul (nat_lit 16) (Nat.shiftLeft (Nat.div cx (nat_lit 16)) (Nat.div cy (nat_lit 16)))) τ)) (Nat.ble (Nat.div cy (nat_lit 16)) w)) (Nat.ble (Nat.land (Nat.add cy (nat_lit 15)) (nat_lit 15)) (nat_lit 7))) (Nat.beq (Nat.land cx (nat_lit 15)) τ)))) sg
  | .quo => (b (fun cx cy => (Bool.rec (motive := fun _ => Nat) (nat_lit 13) (Bool.rec (motive := fun _ => Nat) (nat_lit 13) ((fun r => (Bool.rec (motive := fun _ => Nat) r (nat_lit 13) (Nat.ble Q r))) (Nat.add (Nat.mul (nat_lit 16) (Nat.div (Nat.div cx (nat_lit 16)) (Nat.div cy (nat_lit 16)))) τ)) (Nat.ble (nat_lit 16) cy)) (Nat.beq (Nat.land (Nat.lor (Nat.xor cx τ) (Nat.xor cy τ)) (nat_lit 15)) (nat_lit 0)))))
  | .rem => (b (fun cx cy => (Bool.rec (motive := fun _ => Nat) (nat_lit 13) (Bool.rec (motive := fun _ => Nat) (nat_lit 13) (Nat.add (Nat.mul (nat_lit 16) (Nat.mod (Nat.div cx (nat_lit 16)) (Nat.div cy (nat_lit 16)))) τ) (Nat.ble (nat_lit 16) cy)) (Nat.beq (Nat.land (Nat.lor (Nat.xor cx τ) (Nat.xor cy τ)) (nat_lit 15)) (nat_lit 0)))))
  | .shr => (b (fun cx cy => (Bool.rec (motive := fun _ => Nat) (nat_lit 13) (Bool.rec (motive := fun _ => Nat) (nat_lit 13) (Bool.rec (motive := fun _ => Nat) (nat_lit 13) (Nat.add (Nat.mul (nat_lit 16) (Nat.shiftRight (Nat.div cx (nat_lit 16)) (Nat.div cy (nat_lit 16)))) τ) (Nat.ble (Nat.div cy (nat_lit 16)) w)) (Nat.ble (Nat.land (Nat.add cy (nat_lit 15)) (nat_lit 15)) (nat_lit 7))) (Nat.beq (Nat.land cx (nat_lit 15)) τ))))
  | .eql => (b (fun cx cy => (Bool.rec (motive := fun _ => Nat) (nat_lit 13) (Bool.rec (motive := fun _ => Nat) (nat_lit 9) (nat_lit 25) (Nat.beq cx cy)) (Nat.beq (Nat.land (Nat.lor (Nat.xor cx τ) (Nat.xor cy τ)) (nat_lit 15)) (nat_lit 0)))))
  | .neq => (b (fun cx cy => (Bool.rec (motive := fun _ => Nat) (nat_lit 13) (Bool.rec (motive := fun _ => Nat) (nat_lit 25) (nat_lit 9) (Nat.beq cx cy)) (Nat.beq (Nat.land (Nat.lor (Nat.xor cx τ) (Nat.xor cy τ)) (nat_lit 15)) (nat_lit 0)))))
  | .lss => (b (fun cx cy => (Bool.rec (motive := fun _ => Nat) (nat_lit 13) (Bool.rec (motive := fun _ => Nat) (nat_lit 25) (nat_lit 9) (Nat.ble cy cx)) (Nat.beq (Nat.land (Nat.lor (Nat.xor cx τ) (Nat.xor cy τ)) (nat_lit 15)) (nat_lit 0)))))
  | .leq => (b (fun cx cy => (Bool.rec (motive := fun _ => Nat) (nat_lit 13) (Bool.rec (motive := fun _ => Nat) (nat_lit 9) (nat_lit 25) (Nat.ble cx cy)) (Nat.beq (Nat.land (Nat.lor (Nat.xor cx τ) (Nat.xor cy τ)) (nat_lit 15)) (nat_lit 0)))))
  | .gtr => (b (fun cx cy => (Bool.rec (motive := fun _ => Nat) (nat_lit 13) (Bool.rec (motive := fun _ => Nat) (nat_lit 25) (nat_lit 9) (Nat.ble cx cy)) (Nat.beq (Nat.land (Nat.lor (Nat.xor cx τ) (Nat.xor cy τ)) (nat_lit 15)) (nat_lit 0)))))
  | .geq => (b (fun cx cy => (Bool.rec (motive := fun _ => Nat) (nat_lit 13) (Bool.rec (motive := fun _ => Nat) (nat_lit 9) (nat_lit 25) (Nat.ble cy cx)) (Nat.beq (Nat.land (Nat.lor (Nat.xor cx τ) (Nat.xor cy τ)) (nat_lit 15)) (nat_lit 0)))))
  | _ => b (fun _ _ => nat_lit 13)
def binC (op : BinOp) (sg : Bool) (τ w M Q cx cy : Nat) : Nat := match op with
  | .add => ifN sg (addS τ Q cx cy) (addU τ M cx cy)
  | .sub => ifN sg (subS τ Q cx cy) (subU τ M cx cy)
  | .mul => ifN sg (mulS τ Q cx cy) (mulU τ M cx cy)
  | .quo => quoC τ Q cx cy
  | .rem => remC τ cx cy
  | .shl => ifN sg (shlS τ w Q cx cy) (shlU τ w M cx cy)
  | .shr => shrC τ w cx cy
  | .eql => eqlC τ cx cy
  | .neq => neqC τ cx cy
  | .lss => lssC τ cx cy
  | .leq => leqC τ cx cy
  | .gtr => gtrC τ cx cy
  | .geq => geqC τ cx cy
  | _ => nat_lit 13
def pickC (cc ca cb : Nat) : Nat := (Bool.rec (motive := fun _ => Nat) (Bool.rec (motive := fun _ => Nat) (nat_lit 13) cb (Nat.beq cc (nat_lit 9))) ca (Nat.beq cc (nat_lit 25)))
def lenC (c : Nat) : Nat := (Bool.rec (motive := fun _ => Nat) (Bool.rec (motive := fun _ => Nat) (nat_lit 13) (nat_lit 4) (Nat.beq c (nat_lit 30))) (Nat.add (Nat.mul (nat_lit 16) (Nat.mod (Nat.shiftRight c (nat_lit 64)) (nat_lit 268435456))) (nat_lit 4)) (Nat.beq (Nat.land c (nat_lit 15)) (nat_lit 12)))
def fieldC (n c : Nat) : Nat := (Bool.rec (motive := fun _ => Nat) (nat_lit 13) ((fun b => (Bool.rec (motive := fun _ => Nat) (nat_lit 13) (Nat.add (Nat.mul (nat_lit 16) (Nat.add b n)) (nat_lit 10)) (Nat.ble (Nat.add (Nat.mod b (nat_lit 268435456)) n) (nat_lit 268435455)))) (Nat.div c (nat_lit 16))) (Nat.beq (Nat.land c (nat_lit 15)) (nat_lit 10)))
def idxC (size c i : Nat) : Nat := (Bool.rec (motive := fun _ => Nat) (nat_lit 13) (Bool.rec (motive := fun _ => Nat) (nat_lit 13) ((fun i => (Bool.rec (motive := fun _ => Nat) ((fun b n => (Bool.rec (motive := fun _ => Nat) (nat_lit 13) (Nat.add (Nat.mul (nat_lit 16) (Nat.add b n)) (nat_lit 10)) (Nat.ble (Nat.add (Nat.mod b (nat_lit 268435456)) n) (nat_lit 268435455)))) (Nat.mod (Nat.shiftRight c (nat_lit 4)) (nat_lit 1152921504606846976)) (Nat.mul i size)) (nat_lit 13) (Nat.ble (Nat.mod (Nat.shiftRight c (nat_lit 64)) (nat_lit 268435456)) i))) (Nat.div i (nat_lit 16))) (Nat.ble (Nat.land (Nat.add i (nat_lit 15)) (nat_lit 15)) (nat_lit 7))) (Nat.beq (Nat.land c (nat_lit 15)) (nat_lit 12)))
def cvU (τ σ M c : Nat) : Nat := (Bool.rec (motive := fun _ => Nat) (nat_lit 13) (Nat.mod (Nat.add (Nat.sub c τ) σ) M) (Nat.beq (Nat.land c (nat_lit 15)) τ))
def cvS (τ σ Q c : Nat) : Nat := (Bool.rec (motive := fun _ => Nat) (nat_lit 13) ((fun r => (Bool.rec (motive := fun _ => Nat) r (nat_lit 13) (Nat.ble Q r))) (Nat.add (Nat.sub c τ) σ)) (Nat.beq (Nat.land c (nat_lit 15)) τ))

/-! ### Operations -/
section
variable (P : Program) (ext : Ext) (dom : FuncId → Bool)

/-! what the program's tables say -/
def infoF (t : TypeId) : Option TypeInfo := match nthR P.types.toList t with
  | some i => some i
  | none => P.info? t
def undF (t : TypeId) : Option TypeDesc := match infoF P t with
  | some { desc := .named _ u, .. } => (infoF P u).map (·.desc)
  | some i => some i.desc
  | none => none
def sizF (t : TypeId) : Option Nat := (infoF P t).map (·.size)
def funF (f : FuncId) : Option Func := nthR P.funcs.toList f

/-- pick, as a value -/
def pickV (c a b : Value) : Option Value := match c with
  | .bool true => some a
  | .bool false => some b
  | _ => none
def rvC (d : Option Nat) (h : H) (n : Nat) (rf : Option Nat) (e : Nat) (x : X) (k : KN) (r : R) (s : St) : Ans :=
  match r with
  | .val v => putV d v e x fun e x => k e x s
  | .skip => k (putN d (nat_lit 0) e) x s
  | .recover => match rf with
    | none => k (putN d (nat_lit 46) e) x s
    | some _ => none
  | _ => none
def slowOC (d : Option Nat) (o : Oper) : OC := OC.mk fun h n rf e x s k => bnd (opM P ext o (evV x e) s) (rvC d h n rf e x k)
def valOC (d : Option Nat) (m : (Operand → Value) → M Value) : OC := OC.mk fun h n rf e x s k => bnd (m (evV x e) s) fun v s => putV d v e x fun e x => k e x s
def optOC (d : Option Nat) (m : (Operand → Value) → Option Value) : OC := OC.mk fun h n rf e x s k => obnd (m (evV x e)) fun v => putV d v e x fun e x => k e x s
/-- a number put into a temporary, or another way where it is none -/
def fastOC (d : Option Nat) (cf : Nat → Nat) (slow : OC) : OC := OC.rec (motive := fun _ => OC) (fun sl => Option.rec (motive := fun _ => OC)
  (OC.mk fun h n rf e x s k => Bool.rec (motive := fun _ => Ans) (k e x s) (sl h n rf e x s k) (Nat.beq (cf e) (nat_lit 13)))
  (fun d => OC.mk fun h n rf e x s k => (fun r => Bool.rec (motive := fun _ => Ans) (k (Nat.xor e (Nat.shiftLeft (Nat.xor (Nat.mod (Nat.shiftRight e (sft d)) (nat_lit 1461501637330902918203684832716283019655932542976)) r) (sft d))) x s) (sl h n rf e x s k) (Nat.beq r (nat_lit 13))) (cf e)) d) slow
def constOC (d : Option Nat) (v : Value) : OC := Option.rec (motive := fun _ => OC) (OC.mk fun h n rf e x s k => k e x s)
  (fun d => Bool.rec (motive := fun _ => OC) (OC.mk fun h n rf e x s k => k (Nat.xor e (Nat.shiftLeft (Nat.xor (Nat.mod (Nat.shiftRight e (sft d)) (nat_lit 1461501637330902918203684832716283019655932542976)) (encN v)) (sft d))) x s) (OC.mk fun h n rf e x s k => putO d v e x fun e x => k e x s) (Nat.beq (encN v) (nat_lit 13))) d
def moveOC (d : Option Nat) (y : Operand) : OC :=
  Operand.rec (motive := fun _ => OC) (fun t => Option.rec (motive := fun _ => OC) (OC.mk fun h n rf e x s k => k e x s) (fun d => OC.mk fun h n rf e x s k => k (Nat.xor e (Nat.shiftLeft (Nat.xor (Nat.mod (Nat.shiftRight e (sft d)) (nat_lit 1461501637330902918203684832716283019655932542976)) (Nat.mod (Nat.shiftRight e (sft t)) (nat_lit 1461501637330902918203684832716283019655932542976))) (sft d))) x s) d)
    (fun v => constOC d v) (fun g => constOC d (ptr g)) (fun f => constOC d (.func (.func f) #[] #[])) y
def binOC (d : Option Nat) (op : BinOp) (t : TypeId) (y z : Operand) : OC :=
  match undF P t with
  | some (.int k) => binW op k.signed (tagK k) k.bits (16 * 2 ^ k.bits) (16 * 2 ^ (k.bits - (if k.signed then 1 else 0))) fun bf =>
      opd y (fun i1 => opd z (fun i2 => fastOC d (fun e => bf (Nat.mod (Nat.shiftRight e (sft i1)) (nat_lit 1461501637330902918203684832716283019655932542976)) (Nat.mod (Nat.shiftRight e (sft i2)) (nat_lit 1461501637330902918203684832716283019655932542976))) (optOC d fun ev => binM P op t y z (ev y) (ev z))) (fun c2 => fastOC d (fun e => bf (Nat.mod (Nat.shiftRight e (sft i1)) (nat_lit 1461501637330902918203684832716283019655932542976)) c2) (optOC d fun ev => binM P op t y z (ev y) (ev z)))) (fun c1 => opd z (fun i2 => fastOC d (fun e => bf c1 (Nat.mod (Nat.shiftRight e (sft i2)) (nat_lit 1461501637330902918203684832716283019655932542976))) (optOC d fun ev => binM P op t y z (ev y) (ev z))) (fun c2 => fastOC d (fun e => bf c1 c2) (optOC d fun ev => binM P op t y z (ev y) (ev z))))
  | _ => optOC d fun ev => binM P op t y z (ev y) (ev z)
def pickOC (d : Option Nat) (c a b : Operand) : OC :=
  match c with
  | .tmp c => opd a (fun t => opd b (fun u => fastOC d (fun e => (Bool.rec (motive := fun _ => Nat) (Bool.rec (motive := fun _ => Nat) (nat_lit 13) (Nat.mod (Nat.shiftRight e (sft u)) (nat_lit 1461501637330902918203684832716283019655932542976)) (Nat.beq (Nat.mod (Nat.shiftRight e (sft c)) (nat_lit 1461501637330902918203684832716283019655932542976)) (nat_lit 9))) (Nat.mod (Nat.shiftRight e (sft t)) (nat_lit 1461501637330902918203684832716283019655932542976)) (Nat.beq (Nat.mod (Nat.shiftRight e (sft c)) (nat_lit 1461501637330902918203684832716283019655932542976)) (nat_lit 25)))) (optOC d fun ev => pickV (ev (.tmp c)) (ev a) (ev b)))
        (fun u => fastOC d (fun e => (Bool.rec (motive := fun _ => Nat) (Bool.rec (motive := fun _ => Nat) (nat_lit 13) u (Nat.beq (Nat.mod (Nat.shiftRight e (sft c)) (nat_lit 1461501637330902918203684832716283019655932542976)) (nat_lit 9))) (Nat.mod (Nat.shiftRight e (sft t)) (nat_lit 1461501637330902918203684832716283019655932542976)) (Nat.beq (Nat.mod (Nat.shiftRight e (sft c)) (nat_lit 1461501637330902918203684832716283019655932542976)) (nat_lit 25)))) (optOC d fun ev => pickV (ev (.tmp c)) (ev a) (ev b))))
      (fun t => opd b (fun u => fastOC d (fun e => (Bool.rec (motive := fun _ => Nat) (Bool.rec (motive := fun _ => Nat) (nat_lit 13) (Nat.mod (Nat.shiftRight e (sft u)) (nat_lit 1461501637330902918203684832716283019655932542976)) (Nat.beq (Nat.mod (Nat.shiftRight e (sft c)) (nat_lit 1461501637330902918203684832716283019655932542976)) (nat_lit 9))) t (Nat.beq (Nat.mod (Nat.shiftRight e (sft c)) (nat_lit 1461501637330902918203684832716283019655932542976)) (nat_lit 25)))) (optOC d fun ev => pickV (ev (.tmp c)) (ev a) (ev b)))
        (fun u => fastOC d (fun e => (Bool.rec (motive := fun _ => Nat) (Bool.rec (motive := fun _ => Nat) (nat_lit 13) u (Nat.beq (Nat.mod (Nat.shiftRight e (sft c)) (nat_lit 1461501637330902918203684832716283019655932542976)) (nat_lit 9))) t (Nat.beq (Nat.mod (Nat.shiftRight e (sft c)) (nat_lit 1461501637330902918203684832716283019655932542976)) (nat_lit 25)))) (optOC d fun ev => pickV (ev (.tmp c)) (ev a) (ev b))))
  | c => optOC d fun ev => pickV (ev c) (ev a) (ev b)
def lenOC (d : Option Nat) (o : Oper) (ts : Array TypeId) (args : List Operand) : OC :=
  match args, nthR ts.toList 0 with
  | [y], some t0 => match undF P t0 with
    | some (.slice _) => opd y (fun i1 => fastOC d (fun e => (fun c => (Bool.rec (motive := fun _ => Nat) (Bool.rec (motive := fun _ => Nat) (nat_lit 13) (nat_lit 4) (Nat.beq c (nat_lit 30))) (Nat.add (Nat.mul (nat_lit 16) (Nat.mod (Nat.shiftRight c (nat_lit 64)) (nat_lit 268435456))) (nat_lit 4)) (Nat.beq (Nat.land c (nat_lit 15)) (nat_lit 12)))) (Nat.mod (Nat.shiftRight e (sft i1)) (nat_lit 1461501637330902918203684832716283019655932542976))) (slowOC P ext d o)) (fun c1 => fastOC d (fun e => (fun c => (Bool.rec (motive := fun _ => Nat) (Bool.rec (motive := fun _ => Nat) (nat_lit 13) (nat_lit 4) (Nat.beq c (nat_lit 30))) (Nat.add (Nat.mul (nat_lit 16) (Nat.mod (Nat.shiftRight c (nat_lit 64)) (nat_lit 268435456))) (nat_lit 4)) (Nat.beq (Nat.land c (nat_lit 15)) (nat_lit 12)))) c1) (slowOC P ext d o))
    | _ => slowOC P ext d o
  | _, _ => slowOC P ext d o
def fieldOC (d : Option Nat) (t : TypeId) (y : Operand) (f : Nat) : OC :=
  match undF P t with
  | some (.struct fs) => match nthR fs.toList f with
    | some fd => match sizF P fd.type with
      | some (_ + 1) => opd y (fun i1 => fastOC d (fun e => (fun c => (Bool.rec (motive := fun _ => Nat) (nat_lit 13) ((fun b => (Bool.rec (motive := fun _ => Nat) (nat_lit 13) (Nat.add (Nat.mul (nat_lit 16) (Nat.add b fd.offset)) (nat_lit 10)) (Nat.ble (Nat.add (Nat.mod b (nat_lit 268435456)) fd.offset) (nat_lit 268435455)))) (Nat.div c (nat_lit 16))) (Nat.beq (Nat.land c (nat_lit 15)) (nat_lit 10)))) (Nat.mod (Nat.shiftRight e (sft i1)) (nat_lit 1461501637330902918203684832716283019655932542976))) (optOC d fun ev => fieldAddrM P t (ev y) f)) (fun c1 => fastOC d (fun e => (fun c => (Bool.rec (motive := fun _ => Nat) (nat_lit 13) ((fun b => (Bool.rec (motive := fun _ => Nat) (nat_lit 13) (Nat.add (Nat.mul (nat_lit 16) (Nat.add b fd.offset)) (nat_lit 10)) (Nat.ble (Nat.add (Nat.mod b (nat_lit 268435456)) fd.offset) (nat_lit 268435455)))) (Nat.div c (nat_lit 16))) (Nat.beq (Nat.land c (nat_lit 15)) (nat_lit 10)))) c1) (optOC d fun ev => fieldAddrM P t (ev y) f))
      | _ => optOC d fun ev => fieldAddrM P t (ev y) f
    | none => optOC d fun ev => fieldAddrM P t (ev y) f
  | _ => optOC d fun ev => fieldAddrM P t (ev y) f
def idxOC (d : Option Nat) (t : TypeId) (y z : Operand) : OC :=
  match undF P t with
  | some (.slice el) => match sizF P el with
    | some size => opd y (fun i1 => opd z (fun i2 => fastOC d (fun e => (fun c i => (Bool.rec (motive := fun _ => Nat) (nat_lit 13) (Bool.rec (motive := fun _ => Nat) (nat_lit 13) ((fun i => (Bool.rec (motive := fun _ => Nat) ((fun b n => (Bool.rec (motive := fun _ => Nat) (nat_lit 13) (Nat.add (Nat.mul (nat_lit 16) (Nat.add b n)) (nat_lit 10)) (Nat.ble (Nat.add (Nat.mod b (nat_lit 268435456)) n) (nat_lit 268435455)))) (Nat.mod (Nat.shiftRight c (nat_lit 4)) (nat_lit 1152921504606846976)) (Nat.mul i size)) (nat_lit 13) (Nat.ble (Nat.mod (Nat.shiftRight c (nat_lit 64)) (nat_lit 268435456)) i))) (Nat.div i (nat_lit 16))) (Nat.ble (Nat.land (Nat.add i (nat_lit 15)) (nat_lit 15)) (nat_lit 7))) (Nat.beq (Nat.land c (nat_lit 15)) (nat_lit 12)))) (Nat.mod (Nat.shiftRight e (sft i1)) (nat_lit 1461501637330902918203684832716283019655932542976)) (Nat.mod (Nat.shiftRight e (sft i2)) (nat_lit 1461501637330902918203684832716283019655932542976))) (optOC d fun ev => indexAddrM P t (ev y) (ev z))) (fun c2 => fastOC d (fun e => (fun c i => (Bool.rec (motive := fun _ => Nat) (nat_lit 13) (Bool.rec (motive := fun _ => Nat) (nat_lit 13) ((fun i => (Bool.rec (motive := fun _ => Nat) ((fun b n => (Bool.rec (motive := fun _ => Nat) (nat_lit 13) (Nat.add (Nat.mul (nat_lit 16) (Nat.add b n)) (nat_lit 10)) (Nat.ble (Nat.add (Nat.mod b (nat_lit 268435456)) n) (nat_lit 268435455)))) (Nat.mod (Nat.shiftRight c (nat_lit 4)) (nat_lit 1152921504606846976)) (Nat.mul i size)) (nat_lit 13) (Nat.ble (Nat.mod (Nat.shiftRight c (nat_lit 64)) (nat_lit 268435456)) i))) (Nat.div i (nat_lit 16))) (Nat.ble (Nat.land (Nat.add i (nat_lit 15)) (nat_lit 15)) (nat_lit 7))) (Nat.beq (Nat.land c (nat_lit 15)) (nat_lit 12)))) (Nat.mod (Nat.shiftRight e (sft i1)) (nat_lit 1461501637330902918203684832716283019655932542976)) c2) (optOC d fun ev => indexAddrM P t (ev y) (ev z)))) (fun c1 => opd z (fun i2 => fastOC d (fun e => (fun c i => (Bool.rec (motive := fun _ => Nat) (nat_lit 13) (Bool.rec (motive := fun _ => Nat) (nat_lit 13) ((fun i => (Bool.rec (motive := fun _ => Nat) ((fun b n => (Bool.rec (motive := fun _ => Nat) (nat_lit 13) (Nat.add (Nat.mul (nat_lit 16) (Nat.add b n)) (nat_lit 10)) (Nat.ble (Nat.add (Nat.mod b (nat_lit 268435456)) n) (nat_lit 268435455)))) (Nat.mod (Nat.shiftRight c (nat_lit 4)) (nat_lit 1152921504606846976)) (Nat.mul i size)) (nat_lit 13) (Nat.ble (Nat.mod (Nat.shiftRight c (nat_lit 64)) (nat_lit 268435456)) i))) (Nat.div i (nat_lit 16))) (Nat.ble (Nat.land (Nat.add i (nat_lit 15)) (nat_lit 15)) (nat_lit 7))) (Nat.beq (Nat.land c (nat_lit 15)) (nat_lit 12)))) c1 (Nat.mod (Nat.shiftRight e (sft i2)) (nat_lit 1461501637330902918203684832716283019655932542976))) (optOC d fun ev => indexAddrM P t (ev y) (ev z))) (fun c2 => fastOC d (fun e => (fun c i => (Bool.rec (motive := fun _ => Nat) (nat_lit 13) (Bool.rec (motive := fun _ => Nat) (nat_lit 13) ((fun i => (Bool.rec (motive := fun _ => Nat) ((fun b n => (Bool.rec (motive := fun _ => Nat) (nat_lit 13) (Nat.add (Nat.mul (nat_lit 16) (Nat.add b n)) (nat_lit 10)) (Nat.ble (Nat.add (Nat.mod b (nat_lit 268435456)) n) (nat_lit 268435455)))) (Nat.mod (Nat.shiftRight c (nat_lit 4)) (nat_lit 1152921504606846976)) (Nat.mul i size)) (nat_lit 13) (Nat.ble (Nat.mod (Nat.shiftRight c (nat_lit 64)) (nat_lit 268435456)) i))) (Nat.div i (nat_lit 16))) (Nat.ble (Nat.land (Nat.add i (nat_lit 15)) (nat_lit 15)) (nat_lit 7))) (Nat.beq (Nat.land c (nat_lit 15)) (nat_lit 12)))) c1 c2) (optOC d fun ev => indexAddrM P t (ev y) (ev z))))
    | none => optOC d fun ev => indexAddrM P t (ev y) (ev z)
  | _ => optOC d fun ev => indexAddrM P t (ev y) (ev z)
def cvW (τ σ M Q : Nat) (sg : Bool) (b : (Nat → Nat) → OC) : OC := Bool.rec (motive := fun _ => OC) (b (fun c => (Bool.rec (motive := fun _ => Nat) (nat_lit 13) (Nat.mod (Nat.add (Nat.sub c τ) σ) M) (Nat.beq (Nat.land c (nat_lit 15)) τ)))) (b (fun c => (Bool.rec (motive := fun _ => Nat) (nat_lit 13) ((fun r => (Bool.rec (motive := fun _ => Nat) r (nat_lit 13) (Nat.ble Q r))) (Nat.add (Nat.sub c τ) σ)) (Nat.beq (Nat.land c (nat_lit 15)) τ)))) sg
def cvOC (d : Option Nat) (src dst : TypeId) (y : Operand) : OC :=
  match undF P src, undF P dst with
  | some (.int k), some (.int k') => cvW (tagK k) (tagK k') (16 * 2 ^ k'.bits) (16 * 2 ^ (k'.bits - 1)) k'.signed fun cf =>
      opd y (fun i1 => fastOC d (fun e => cf (Nat.mod (Nat.shiftRight e (sft i1)) (nat_lit 1461501637330902918203684832716283019655932542976))) (valOC d fun ev => convertM P src dst (ev y))) (fun c1 => fastOC d (fun e => cf c1) (valOC d fun ev => convertM P src dst (ev y)))
  | _, _ => valOC d fun ev => convertM P src dst (ev y)
/-- !x -/
def notOC (d : Option Nat) (o : UnOp) (y : Operand) : OC :=
  match o with
  | .not => opd y (fun i1 => fastOC d (fun e => (fun c => (Bool.rec (motive := fun _ => Nat) (Bool.rec (motive := fun _ => Nat) (nat_lit 13) (nat_lit 25) (Nat.beq c (nat_lit 9))) (nat_lit 9) (Nat.beq c (nat_lit 25)))) (Nat.mod (Nat.shiftRight e (sft i1)) (nat_lit 1461501637330902918203684832716283019655932542976))) (optOC d fun ev => unaryV P .not (ev y))) (fun c1 => fastOC d (fun e => (fun c => (Bool.rec (motive := fun _ => Nat) (Bool.rec (motive := fun _ => Nat) (nat_lit 13) (nat_lit 25) (Nat.beq c (nat_lit 9))) (nat_lit 9) (Nat.beq c (nat_lit 25)))) c1) (optOC d fun ev => unaryV P .not (ev y)))
  | o => optOC d fun ev => unaryV P o (ev y)
def ldOC (d : Option Nat) (y : Operand) (rd : Nat → St → (Value → St → Ans) → Ans) : OC :=
  opd y (fun i1 => OC.mk fun h _ rf e x s k => rd (Nat.mod (Nat.shiftRight e (sft i1)) (nat_lit 1461501637330902918203684832716283019655932542976)) s fun v s => putV d v e x fun e x => k e x s) (fun c1 => OC.mk fun h _ rf e x s k => rd c1 s fun v s => putV d v e x fun e x => k e x s)
def loadOC (d : Option Nat) (t : TypeId) (y : Operand) : OC :=
  match undF P t with
  | some (.struct _) | some (.array _ _) => match sizF P t with
    | some n => ldOC d y (lgA n)
    | none => valOC d fun ev => loadM P t (ev y)
  | some _ => ldOC d y ldA
  | none => valOC d fun ev => loadM P t (ev y)
/-- is it the number of a value of one cell? -/
def oneC (c : Nat) : Bool := Bool.rec (motive := fun _ => Bool) (Nat.ble (nat_lit 1) (Nat.land c (nat_lit 15))) false (Nat.beq (Nat.land c (nat_lit 15)) (nat_lit 13))
def storeOC (d : Option Nat) (t : TypeId) (y z : Operand) : OC :=
  match sizF P t with
  | some n => Bool.rec (motive := fun _ => OC)
      (opd y (fun i1 => opd z (fun i2 => OC.mk fun h _ rf e x s k => aggK (decX x (Nat.mod (Nat.shiftRight e (sft i2)) (nat_lit 1461501637330902918203684832716283019655932542976))) fun l => ifA (lenF l n) (stA (Nat.mod (Nat.shiftRight e (sft i1)) (nat_lit 1461501637330902918203684832716283019655932542976)) l s fun s => k (putN d (nat_lit 0) e) x s) none) (fun c2 => OC.mk fun h _ rf e x s k => aggK (decX x c2) fun l => ifA (lenF l n) (stA (Nat.mod (Nat.shiftRight e (sft i1)) (nat_lit 1461501637330902918203684832716283019655932542976)) l s fun s => k (putN d (nat_lit 0) e) x s) none)) (fun c1 => opd z (fun i2 => OC.mk fun h _ rf e x s k => aggK (decX x (Nat.mod (Nat.shiftRight e (sft i2)) (nat_lit 1461501637330902918203684832716283019655932542976))) fun l => ifA (lenF l n) (stA c1 l s fun s => k (putN d (nat_lit 0) e) x s) none) (fun c2 => OC.mk fun h _ rf e x s k => aggK (decX x c2) fun l => ifA (lenF l n) (stA c1 l s fun s => k (putN d (nat_lit 0) e) x s) none)))
      (opd y (fun i1 => opd z (fun i2 => OC.mk fun h _ rf e x s k => Bool.rec (motive := fun _ => Ans) (bnd (storeM P t (evV x e y) (evV x e z) s) fun _ s => k (putN d (nat_lit 0) e) x s) (stA (Nat.mod (Nat.shiftRight e (sft i1)) (nat_lit 1461501637330902918203684832716283019655932542976)) [decP (Nat.mod (Nat.shiftRight e (sft i2)) (nat_lit 1461501637330902918203684832716283019655932542976))] s fun s => k (putN d (nat_lit 0) e) x s) (oneC (Nat.mod (Nat.shiftRight e (sft i2)) (nat_lit 1461501637330902918203684832716283019655932542976)))) (fun c2 => OC.mk fun h _ rf e x s k => Bool.rec (motive := fun _ => Ans) (bnd (storeM P t (evV x e y) (evV x e z) s) fun _ s => k (putN d (nat_lit 0) e) x s) (stA (Nat.mod (Nat.shiftRight e (sft i1)) (nat_lit 1461501637330902918203684832716283019655932542976)) [decP c2] s fun s => k (putN d (nat_lit 0) e) x s) (oneC c2))) (fun c1 => opd z (fun i2 => OC.mk fun h _ rf e x s k => Bool.rec (motive := fun _ => Ans) (bnd (storeM P t (evV x e y) (evV x e z) s) fun _ s => k (putN d (nat_lit 0) e) x s) (stA c1 [decP (Nat.mod (Nat.shiftRight e (sft i2)) (nat_lit 1461501637330902918203684832716283019655932542976))] s fun s => k (putN d (nat_lit 0) e) x s) (oneC (Nat.mod (Nat.shiftRight e (sft i2)) (nat_lit 1461501637330902918203684832716283019655932542976)))) (fun c2 => OC.mk fun h _ rf e x s k => Bool.rec (motive := fun _ => Ans) (bnd (storeM P t (evV x e y) (evV x e z) s) fun _ s => k (putN d (nat_lit 0) e) x s) (stA c1 [decP c2] s fun s => k (putN d (nat_lit 0) e) x s) (oneC c2)))) (Nat.beq n (nat_lit 1))
  | none => OC.mk fun h _ rf e x s k => none
def boxOC (d : Option Nat) (t : TypeId) (y : Operand) : OC :=
  opd y (fun i1 => OC.mk fun h _ rf e x s k => Bool.rec (motive := fun _ => Ans) (aggK (decX x (Nat.mod (Nat.shiftRight e (sft i1)) (nat_lit 1461501637330902918203684832716283019655932542976))) fun l => newC d t (esT P t) l e x s k) (newC d t (esT P t) [decP (Nat.mod (Nat.shiftRight e (sft i1)) (nat_lit 1461501637330902918203684832716283019655932542976))] e x s k) (oneC (Nat.mod (Nat.shiftRight e (sft i1)) (nat_lit 1461501637330902918203684832716283019655932542976)))) (fun c1 => OC.mk fun h _ rf e x s k => Bool.rec (motive := fun _ => Ans) (aggK (decX x c1) fun l => newC d t (esT P t) l e x s k) (newC d t (esT P t) [decP c1] e x s k) (oneC c1))
def allocOC (d : Option Nat) (t : TypeId) : OC :=
  match zeroT P t with
  | some z => Bool.rec (motive := fun _ => OC) (OC.mk fun h _ rf e x s k => none) (OC.mk fun h _ rf e x s k => newC d t (esT P t) (cellsOf z) e x s k) (allOne (cellsOf z))
  | none => OC.mk fun h _ rf e x s k => none
/-! structs and slices written out -/
abbrev BF := Nat → X → List Value → (List Value → Ans) → Ans
inductive BC where
  | mk (f : BF)
def BC.run (o : BC) : BF := BC.rec (motive := fun _ => BF) (fun f => f) o
def cellK (x : X) (c : Nat) (k : List Value → Ans) : Ans := Bool.rec (motive := fun _ => Ans) (aggK (decX x c) k) (k [decP c]) (oneC c)
/-- one part: laid at its place, if it has so many cells -/
def partC (off n : Nat) (y : Operand) (r : BC) : BC := BC.rec (motive := fun _ => BC) (fun rf =>
  Operand.rec (motive := fun _ => BC) (fun t => BC.mk fun e x cs k => cellK x (Nat.mod (Nat.shiftRight e (sft t)) (nat_lit 1461501637330902918203684832716283019655932542976)) fun l => ifA (lenF l n) (atK off l cs fun cs => rf e x cs k) none)
    (fun v => BC.mk fun e x cs k => aggK v fun l => ifA (lenF l n) (atK off l cs fun cs => rf e x cs k) none)
    (fun g => BC.mk fun e x cs k => ifA (Nat.beq n (nat_lit 1)) (atK off [ptr g] cs fun cs => rf e x cs k) none)
    (fun f => BC.mk fun e x cs k => ifA (Nat.beq n (nat_lit 1)) (atK off [.func (.func f) #[] #[]] cs fun cs => rf e x cs k) none) y) r
def partsL (place : Nat → Option (Nat × Nat)) (l : List (Nat × Operand)) : Option BC := List.rec (motive := fun _ => Option BC) (some (BC.mk fun _ _ cs k => k cs))
  (fun p _ ih => match place p.1, ih with
    | some q, some r => some (partC q.1 q.2 p.2 r)
    | _, _ => none) l
def placesR (P : Program) (l : List Field) : Option (List (Nat × Nat)) := List.rec (motive := fun _ => Option (List (Nat × Nat))) (some [])
  (fun f _ ih => match infoF P f.type, ih with
    | some i, some r => some ((f.offset, i.size) :: r)
    | _, _ => none) l
def buildOC (d : Option Nat) (t : TypeId) (ps : List (Nat × Operand)) : OC :=
  match zeroT P t, undF P t with
  | some z, some (.struct fs) => match placesR P fs.toList with
    | some pl => match partsL (nthR pl) ps with
      | some b => BC.rec (motive := fun _ => OC) (fun bf => OC.mk fun h _ rf e x s k => bf e x (cellsOf z) fun cs => putV d (.agg ⟨cs⟩) e x fun e x => k e x s) b
      | none => optOC d fun ev => buildM P t (parts ev ⟨ps⟩)
    | none => optOC d fun ev => buildM P t (parts ev ⟨ps⟩)
  | _, _ => optOC d fun ev => buildM P t (parts ev ⟨ps⟩)
/-- a new slice of n elements: its number -/
def newL (d : Option Nat) (el es n : Nat) (cs : List Value) (e : Nat) (x : X) (s : St) (k : KN) : Ans :=
  newK (.cells el es true cs) s fun b s => Bool.rec (motive := fun _ => Ans) (putV d (.slice (some ⟨b, 0, none⟩) n n) e x fun e x => k e x s)
    (k (putN d (Nat.add (Nat.mul (nat_lit 4294967296) (Nat.add (Nat.mul (Nat.add (Nat.mul n (nat_lit 268435456)) n) (nat_lit 4294967296)) b)) (nat_lit 12)) e) x s) (Nat.ble b (nat_lit 4294967295))
def repR (l : List Value) (n : Nat) : List Value := Nat.rec (motive := fun _ => List Value) [] (fun _ ih => List.rec (motive := fun _ => List Value) ih (fun v _ r => v :: r) l) n
def buildSliceOC (d : Option Nat) (t : TypeId) (n : Nat) (ps : List (Nat × Operand)) : OC :=
  match undF P t with
  | some (.slice el) => match sizF P el, zeroT P el with
    | some size, some z => match partsL (placeE size) ps with
      | some b => Bool.rec (motive := fun _ => OC) (valOC d fun ev => buildSliceM P t n (parts ev ⟨ps⟩))
          (BC.rec (motive := fun _ => OC) (fun bf => OC.mk fun h _ rf e x s k => bf e x (repR (cellsOf z) n) fun cs => newL d el size n cs e x s k) b)
          (Nat.ble (Nat.mul n size) (nat_lit 10000) && Nat.ble n (nat_lit 10000) && allOne (cellsOf z))
      | none => valOC d fun ev => buildSliceM P t n (parts ev ⟨ps⟩)
    | _, _ => valOC d fun ev => buildSliceM P t n (parts ev ⟨ps⟩)
  | _ => valOC d fun ev => buildSliceM P t n (parts ev ⟨ps⟩)
/-- x[l:h], the number of: c the slice's -/
def cutC (size c l h : Nat) : Nat :=
  (Bool.rec (motive := fun _ => Nat) (nat_lit 13) ((fun cap => ((fun r => (Bool.rec (motive := fun _ => Nat) (nat_lit 13) (Bool.rec (motive := fun _ => Nat) (nat_lit 13) (Bool.rec (motive := fun _ => Nat) (Bool.rec (motive := fun _ => Nat) (nat_lit 13) ((fun off => (Bool.rec (motive := fun _ => Nat) (nat_lit 13) (Bool.rec (motive := fun _ => Nat) (nat_lit 13) (Nat.add (Nat.add (Nat.mod c (nat_lit 18446744073709551616)) (Nat.mul (nat_lit 16) (Nat.mul l size))) (Nat.mul (nat_lit 18446744073709551616) (Nat.add (Nat.mul (nat_lit 268435456) (Nat.sub cap l)) (Nat.sub h l)))) (Nat.ble (Nat.sub h l) (nat_lit 268435455))) (Nat.ble off (nat_lit 268435455)))) (Nat.add (Nat.mod (Nat.shiftRight c (nat_lit 4)) (nat_lit 268435456)) (Nat.mul l size))) (Nat.ble r (nat_lit 1099511627776))) (nat_lit 13) (Nat.ble r l)) (Nat.ble l h)) (Nat.ble h r))) (Bool.rec (motive := fun _ => Nat) cap (Nat.sub cap (nat_lit 4611686018427387904)) (Nat.ble (nat_lit 4611686018427387904) cap)))) (Nat.shiftRight c (nat_lit 92))) (Nat.beq (Nat.land c (nat_lit 15)) (nat_lit 12)))
def sliceOC (d : Option Nat) (t : TypeId) (y : Operand) (lo hi mx : Option Operand) : OC :=
  match undF P t, mx with
  | some (.slice el), none => match sizF P el with
    | some (size + 1) => match lo, hi with
      | none, some z => opd y (fun i1 => opd z (fun i2 => fastOC d (fun e => (fun c h => (Bool.rec (motive := fun _ => Nat) (nat_lit 13) (cutC (size + 1) c (nat_lit 0) (Nat.div h (nat_lit 16))) (Nat.ble (Nat.land (Nat.add h (nat_lit 15)) (nat_lit 15)) (nat_lit 7)))) (Nat.mod (Nat.shiftRight e (sft i1)) (nat_lit 1461501637330902918203684832716283019655932542976)) (Nat.mod (Nat.shiftRight e (sft i2)) (nat_lit 1461501637330902918203684832716283019655932542976))) (optOC d fun ev => sliceM P t (ev y) none (some (ev z)) none)) (fun c2 => fastOC d (fun e => (fun c h => (Bool.rec (motive := fun _ => Nat) (nat_lit 13) (cutC (size + 1) c (nat_lit 0) (Nat.div h (nat_lit 16))) (Nat.ble (Nat.land (Nat.add h (nat_lit 15)) (nat_lit 15)) (nat_lit 7)))) (Nat.mod (Nat.shiftRight e (sft i1)) (nat_lit 1461501637330902918203684832716283019655932542976)) c2) (optOC d fun ev => sliceM P t (ev y) none (some (ev z)) none))) (fun c1 => opd z (fun i2 => fastOC d (fun e => (fun c h => (Bool.rec (motive := fun _ => Nat) (nat_lit 13) (cutC (size + 1) c (nat_lit 0) (Nat.div h (nat_lit 16))) (Nat.ble (Nat.land (Nat.add h (nat_lit 15)) (nat_lit 15)) (nat_lit 7)))) c1 (Nat.mod (Nat.shiftRight e (sft i2)) (nat_lit 1461501637330902918203684832716283019655932542976))) (optOC d fun ev => sliceM P t (ev y) none (some (ev z)) none)) (fun c2 => fastOC d (fun e => (fun c h => (Bool.rec (motive := fun _ => Nat) (nat_lit 13) (cutC (size + 1) c (nat_lit 0) (Nat.div h (nat_lit 16))) (Nat.ble (Nat.land (Nat.add h (nat_lit 15)) (nat_lit 15)) (nat_lit 7)))) c1 c2) (optOC d fun ev => sliceM P t (ev y) none (some (ev z)) none)))
      | some z, none => opd y (fun i1 => opd z (fun i2 => fastOC d (fun e => (fun c l => (Bool.rec (motive := fun _ => Nat) (nat_lit 13) (cutC (size + 1) c (Nat.div l (nat_lit 16)) (Nat.mod (Nat.shiftRight c (nat_lit 64)) (nat_lit 268435456))) (Nat.ble (Nat.land (Nat.add l (nat_lit 15)) (nat_lit 15)) (nat_lit 7)))) (Nat.mod (Nat.shiftRight e (sft i1)) (nat_lit 1461501637330902918203684832716283019655932542976)) (Nat.mod (Nat.shiftRight e (sft i2)) (nat_lit 1461501637330902918203684832716283019655932542976))) (optOC d fun ev => sliceM P t (ev y) (some (ev z)) none none)) (fun c2 => fastOC d (fun e => (fun c l => (Bool.rec (motive := fun _ => Nat) (nat_lit 13) (cutC (size + 1) c (Nat.div l (nat_lit 16)) (Nat.mod (Nat.shiftRight c (nat_lit 64)) (nat_lit 268435456))) (Nat.ble (Nat.land (Nat.add l (nat_lit 15)) (nat_lit 15)) (nat_lit 7)))) (Nat.mod (Nat.shiftRight e (sft i1)) (nat_lit 1461501637330902918203684832716283019655932542976)) c2) (optOC d fun ev => sliceM P t (ev y) (some (ev z)) none none))) (fun c1 => opd z (fun i2 => fastOC d (fun e => (fun c l => (Bool.rec (motive := fun _ => Nat) (nat_lit 13) (cutC (size + 1) c (Nat.div l (nat_lit 16)) (Nat.mod (Nat.shiftRight c (nat_lit 64)) (nat_lit 268435456))) (Nat.ble (Nat.land (Nat.add l (nat_lit 15)) (nat_lit 15)) (nat_lit 7)))) c1 (Nat.mod (Nat.shiftRight e (sft i2)) (nat_lit 1461501637330902918203684832716283019655932542976))) (optOC d fun ev => sliceM P t (ev y) (some (ev z)) none none)) (fun c2 => fastOC d (fun e => (fun c l => (Bool.rec (motive := fun _ => Nat) (nat_lit 13) (cutC (size + 1) c (Nat.div l (nat_lit 16)) (Nat.mod (Nat.shiftRight c (nat_lit 64)) (nat_lit 268435456))) (Nat.ble (Nat.land (Nat.add l (nat_lit 15)) (nat_lit 15)) (nat_lit 7)))) c1 c2) (optOC d fun ev => sliceM P t (ev y) (some (ev z)) none none)))
      | some z, some z2 => optOC d fun ev => sliceM P t (ev y) (some (ev z)) (some (ev z2)) none
      | none, none => optOC d fun ev => sliceM P t (ev y) none none none
    | _ => optOC d fun ev => sliceM P t (ev y) (lo.map ev) (hi.map ev) none
  | _, mx => optOC d fun ev => sliceM P t (ev y) (lo.map ev) (hi.map ev) (mx.map ev)
def exK (v : Value) (i : Nat) (k : Value → Ans) : Ans :=
  match v with
  | .tuple vs => obnd (nthR vs.toList i) k
  | _ => none
def exOC (d : Option Nat) (y : Operand) (i : Nat) : OC :=
  opd y (fun i1 => OC.mk fun h _ rf e x s k => exK (decX x (Nat.mod (Nat.shiftRight e (sft i1)) (nat_lit 1461501637330902918203684832716283019655932542976))) i fun v => putV d v e x fun e x => k e x s) (fun c1 => OC.mk fun h _ rf e x s k => exK (decX x c1) i fun v => putV d v e x fun e x => k e x s)

/-! calls -/
def bodyOf (g : FuncId) : Option Bool := (funF P g).map (·.body.isSome)
def initE (l : List Value) : Nat → Nat → X → (Nat → X → Ans) → Ans := List.rec (motive := fun _ => Nat → Nat → X → (Nat → X → Ans) → Ans) (fun _ e x k => k e x) (fun v _ ih i e x k => putD i v e x fun e x => ih (Nat.succ i) e x k) l
def x0 : X := ⟨[], nat_lit 1, []⟩
def enterC (g : FuncId) (all : List Value) (h : H) (n : Nat) (s : St) (k : KV) : Ans :=
  forceN g fun g => obnd (bodyOf P g) fun b => Bool.rec (motive := fun _ => Ans) (obnd (ext g all) fun v => k (nat_lit 13) v s) (initE all (nat_lit 0) (nat_lit 0) x0 fun e x => h n (.call g all.length e x) s k) b
def applyC (f : Value) (args : List Value) (h : H) (n : Nat) (s : St) (k : KV) : Ans :=
  match f with
  | .func (.func g) first cap => enterC P ext g ((first.toList ++ args) ++ cap.toList) h n s k
  | .func (.yield l) ⟨[]⟩ ⟨[]⟩ => h n (.round l args) s k
  | _ => none
def argK (i c : Nat) (x : X) (e' : Nat) (x' : X) (k : Nat → X → Ans) : Ans :=
  Bool.rec (motive := fun _ => Ans) (k (putc e' i c) x') (putO i (objV x c) e' x' k) (Nat.beq (Nat.land c (nat_lit 15)) (nat_lit 13))
def argC (i : Nat) (y : Operand) (r : AC) : AC := AC.rec (motive := fun _ => AC) (fun rf =>
  Operand.rec (motive := fun _ => AC) (fun t => AC.mk fun e x e' x' k => argK i (slot e t) x e' x' fun e' x' => rf e x e' x' k) (fun v => AC.mk fun e x e' x' k => putD i v e' x' fun e' x' => rf e x e' x' k)
    (fun g => AC.mk fun e x e' x' k => putD i (ptr g) e' x' fun e' x' => rf e x e' x' k) (fun f => AC.mk fun e x e' x' k => putD i (.func (.func f) #[] #[]) e' x' fun e' x' => rf e x e' x' k) y) r
def argsC (l : List Operand) : Nat → AC := List.rec (motive := fun _ => Nat → AC) (fun _ => AC.mk fun _ _ e' x' k => k e' x') (fun y _ ih i => argC i y (ih (Nat.succ i))) l
def dynOC (d : Option Nat) (f : Operand) (args : List Operand) : OC :=
  OC.mk fun h n rf e x s k => applyC P ext (evV x e f) (args.map (evV x e)) h n s fun c v s => putR d c v e x fun e x => k e x s
def callG (d : Option Nat) (g : FuncId) (args : List Operand) : OC :=
  match bodyOf P g with
  | some true => AC.rec (motive := fun _ => OC) (fun af => OC.mk fun h n rf e x s k => af e x (nat_lit 0) x0 fun e' x' => h n (.call g args.length e' x') s fun c v s => putR d c v e x fun e x => k e x s) (argsC args 0)
  | some false => OC.mk fun h n rf e x s k => obnd (ext g (args.map (evV x e))) fun v => putV d v e x fun e x => k e x s
  | none => OC.mk fun h n rf e x s k => none
def callOC (d : Option Nat) (f : Operand) (args : List Operand) : OC :=
  match f with
  | .func g => callG P ext d g args
  | .const (.func (.func g) ⟨[]⟩ ⟨[]⟩) => callG P ext d g args
  | _ => dynOC P ext d f args
def deferOC (d : Option Nat) (o : Oper) : OC := OC.mk fun h n rf e x s k =>
  bnd (opM P ext o (evV x e) s) fun r s => match r with
    | .defer dd => match rf with
      | none => k (putN d (nat_lit 0) e) { x with df := dd :: x.df } s
      | some _ => none
    | _ => none

def compO (nt : Nat) (o : Oper) : OC :=
  match o.op with
  | .move y => moveOC (effD nt o.dst) y
  | .assign y => moveOC (effD nt o.dst) y
  | .pick c a b => pickOC (effD nt o.dst) c a b
  | .binOp op t y z _ => binOC P (effD nt o.dst) op t y z
  | .unOp op _ y => notOC P (effD nt o.dst) op y
  | .load t y => loadOC P (effD nt o.dst) t y
  | .store t y z => storeOC P (effD nt o.dst) t y z
  | .fieldAddr t y f => fieldOC P (effD nt o.dst) t y f
  | .indexAddr t y i => idxOC P (effD nt o.dst) t y i
  | .alloc t => allocOC P (effD nt o.dst) t
  | .box t y => boxOC P (effD nt o.dst) t y
  | .convert src dst y => cvOC P (effD nt o.dst) src dst y
  | .extract y i => exOC (effD nt o.dst) y i
  | .build t ps => buildOC P (effD nt o.dst) t ps.toList
  | .buildSlice t n ps => buildSliceOC P (effD nt o.dst) t n ps.toList
  | .makeSlice t n c => valOC (effD nt o.dst) fun ev => makeSliceM P t (ev n) (ev c)
  | .slice t y lo hi mx => sliceOC P (effD nt o.dst) t y lo hi mx
  | .makeFunc fn first captured => optOC (effD nt o.dst) fun ev => funcV ev fn first captured
  | .index t y i => optOC (effD nt o.dst) fun ev => indexM P t (ev y) (ev i)
  | .field t y f => optOC (effD nt o.dst) fun ev => fieldM P t (ev y) f
  | .defer _ => deferOC P ext (effD nt o.dst) o
  | .call c => match c.callee with
    | .value f => callOC P ext (effD nt o.dst) f c.args.toList
    | .builtin .len => lenOC P ext (effD nt o.dst) o c.argTypes c.args.toList
    | _ => slowOC P ext (effD nt o.dst) o
  | _ => slowOC P ext (effD nt o.dst) o

/-! ### Regions -/
def OC.skip : OC := OC.mk fun h n rf e x s k => k e x s
def OC.fail : OC := OC.mk fun h n rf e x s k => none
def OC.seq (a b : OC) : OC := OC.rec (motive := fun _ => OC) (fun f => OC.rec (motive := fun _ => OC) (fun g => OC.mk fun h n rf e x s k => f h n rf e x s fun e x s => g h n rf e x s k) b) a
/-- an operation under a guard: the slot that holds it, the wanted number, the other one -/
def OC.guard (g w w' : Nat) (d : Option Nat) (a : OC) : OC := OC.rec (motive := fun _ => OC) (fun f => OC.mk fun h n rf e x s k =>
  (fun c => Bool.rec (motive := fun _ => Ans) (Bool.rec (motive := fun _ => Ans) (Bool.rec (motive := fun _ => Ans) none (k (putN d (nat_lit 0) e) x s) (Nat.beq c (nat_lit 0))) (k (putN d (nat_lit 0) e) x s) (Nat.beq c w')) (f h n rf e x s k) (Nat.beq c w)) (slot e g)) a
/-- an operation whose guard never holds -/
def OC.never (d : Option Nat) : OC := OC.mk fun h n rf e x s k => k (putN d (nat_lit 0) e) x s
def guardOf (nt : Nat) (ops : List Oper) (j : Nat) : Option Nat := (ops[j]?).bind fun o => o.dst.bind fun d => if d < nt then some d else none
def compG (nt : Nat) (ops : List Oper) (o : Oper) : OC :=
  match o.guard with
  | none => compO P ext nt o
  | some (j, want) => match guardOf nt ops j with
    | some g => OC.guard g (boolC want) (boolC (!want)) (effD nt o.dst) (compO P ext nt o)
    | none => OC.never (effD nt o.dst)
def compOps (nt : Nat) (ops : List Oper) (l : List Oper) : OC := List.rec (motive := fun _ => OC) OC.skip (fun o _ ih => OC.seq (compG P ext nt ops o) ih) l

abbrev DF := H → Nat → Option Nat → Nat → X → St → (List Foot → Nat → X → St → Ans) → Ans
inductive DC where
  | mk (f : DF)
def DC.run (o : DC) : DF := DC.rec (motive := fun _ => DF) (fun f => f) o
def openS (s : St) : St := St.rec (motive := fun _ => St) (fun hp nx lim rd wr => ⟨hp, nx, nx, [], []⟩) s
def closeS (s s' : St) : St := addWs s'.wr (addRs s'.rd { s' with lim := s.lim, rd := s.rd, wr := s.wr })
def closeK (s s' : St) (k : St → Foot → Ans) : Ans :=
  St.rec (motive := fun _ => Ans) (fun hp0 nx0 lim0 rd0 wr0 => St.rec (motive := fun _ => Ans) (fun hp nx lim rd wr =>
    addFs rd lim0 rd0 fun rd1 => addFs wr lim0 wr0 fun wr1 => k ⟨hp, nx, lim0, rd1, wr1⟩ ⟨rd, wr, nx0, nx⟩) s') s
def DC.nil : DC := DC.mk fun h n rf e x s k => k [] e x s
def DC.cons (a : OC) (b : DC) : DC := DC.mk fun h n rf e x s k =>
  OC.run a h n rf e x (openS s) fun e x s' => closeK s s' fun s1 ft => DC.run b h n rf e x s1 fun fs e x s2 => k (ft :: fs) e x s2
def DC.guard (g w w' : Nat) (d : Option Nat) (a : OC) (b : DC) : DC := DC.mk fun h n rf e x s k =>
  (fun c => Bool.rec (motive := fun _ => Ans) (Bool.rec (motive := fun _ => Ans) (Bool.rec (motive := fun _ => Ans) none
    (DC.run b h n rf (putN d (nat_lit 0) e) x s fun fs e x s => k (⟨[], [], 0, 0⟩ :: fs) e x s) (Nat.beq c (nat_lit 0)))
    (DC.run b h n rf (putN d (nat_lit 0) e) x s fun fs e x s => k (⟨[], [], 0, 0⟩ :: fs) e x s) (Nat.beq c w')) (DC.run (DC.cons a b) h n rf e x s k) (Nat.beq c w)) (slot e g)
def DC.never (d : Option Nat) (b : DC) : DC := DC.mk fun h n rf e x s k => DC.run b h n rf (putN d (nat_lit 0) e) x s fun fs e x s => k (⟨[], [], 0, 0⟩ :: fs) e x s
def compD1 (nt : Nat) (ops : List Oper) (o : Oper) (b : DC) : DC :=
  match o.guard with
  | none => DC.cons (compO P ext nt o) b
  | some (j, want) => match guardOf nt ops j with
    | some g => DC.guard g (boolC want) (boolC (!want)) (effD nt o.dst) (compO P ext nt o) b
    | none => DC.never (effD nt o.dst) b
def compD (nt : Nat) (ops : List Oper) (l : List Oper) : DC := List.rec (motive := fun _ => DC) DC.nil (fun o _ ih => compD1 P ext nt ops o ih) l
def noDefer (ops : List Oper) : Bool := ops.all fun o => !isDefer o.op
/-- 0: nothing of memory; 1: reads alone; 2: anything -/
def clsO (o : Oper) : Nat := match o.op with
  | .move _ | .assign _ | .pick .. | .binOp .. | .unOp .. | .fieldAddr .. | .indexAddr .. | .extract .. | .build .. | .slice .. | .makeFunc .. | .index .. | .field .. | .nilCheck _ | .makeInterface .. | .typeAssert .. => 0
  | .load .. => 1
  | .call c => match c.callee with
    | .builtin .len => 0
    | _ => 2
  | _ => 2
def safeO (a b : Oper) : Bool := Nat.beq (clsO a) 0 || Nat.beq (clsO b) 0 || (Nat.beq (clsO a) 1 && Nat.beq (clsO b) 1)
/-- the pairs that are looked at when the region has been run -/
def risky (ops : List Oper) : List (Nat × Nat) :=
  (List.range ops.length).flatMap fun j => (List.range j).filterMap fun i => bif ordered (ordTab ops []) i j then none else
    match ops[i]?, ops[j]? with
    | some a, some b => bif safeO a b then none else some (i, j)
    | _, _ => some (i, j)
def pairOk (fs : List Foot) (i j : Nat) : Bool := match nthR fs i, nthR fs j with
  | some x, some y => !(x.meets y || y.meets x)
  | _, _ => false
inductive PC where
  | mk (f : List Foot → Bool)
def PC.run (p : PC) : List Foot → Bool := PC.rec (motive := fun _ => List Foot → Bool) (fun f => f) p
def pairsC (l : List (Nat × Nat)) : PC := List.rec (motive := fun _ => PC) (PC.mk fun _ => true)
  (fun p _ ih => PC.rec (motive := fun _ => PC) (fun f => Prod.rec (motive := fun _ => PC) (fun i j => PC.mk fun fs => Bool.rec (motive := fun _ => Bool) false (f fs) (pairOk fs i j)) p) ih) l
def compDrawn (nt : Nat) (ops : List Oper) : CC :=
  Bool.rec (motive := fun _ => CC) (CC.mk fun h n rf e x s kn ke => none)
    (CC.mk fun h n rf e x s kn ke => Nat.rec (motive := fun _ => Ans) none (fun n _ => DC.run (compD P ext nt ops ops) h n rf e x s fun fs e x s => Bool.rec (motive := fun _ => Ans) none (kn e x s) (PC.run (pairsC (risky ops)) fs)) n) (noDefer ops)

/-! ### Code -/
def loopR (b : CC) (h : H) (n : Nat) : Option Nat → Nat → X → St → KN → KE → Ans :=
  Nat.rec (motive := fun _ => Option Nat → Nat → X → St → KN → KE → Ans) (fun _ _ _ _ _ _ => none) (fun n ih rf e x s kn ke => CC.run b h n rf e x s (fun e x s => ih rf e x s kn ke) ke) n
def blockE (id : Nat) (kn : KN) (ke : KE) : KE := fun ex e x s =>
  match ex with
  | .exit i => Bool.rec (motive := fun _ => Ans) (ke (.exit i) e x s) (kn e x s) (Nat.beq i id)
  | .goto l => ke (.goto l) e x s
  | .ret => ke .ret e x s
  | .normal => none
def jumpC (n : Nat) (c : Code) (e : Nat) (x : X) (s : St) (ke : KE) : Ans :=
  Nat.rec (motive := fun _ => Ans) none (fun _ _ => match c with
    | .ret => ke .ret e x s
    | .exit i => ke (.exit i) e x s
    | .goto l => ke (.goto l) e x s
    | _ => none) n
def tmpsGo (x : X) (e n : Nat) : List Value → List Value := Nat.rec (motive := fun _ => List Value → List Value) (fun l => l) (fun n ih l => ih (decX x (slot e n) :: l)) n
def tmpsOfE (nt : Nat) (x : X) (e : Nat) : List Value := tmpsGo x e nt []
def lenR (l : List Value) : Nat := List.rec (motive := fun _ => Nat) (nat_lit 0) (fun _ _ ih => Nat.succ ih) l
def loopK (b : Blk) (k : LoopState → Option Code → FuncId → Array Value → Array Tmp → Code → Code → Nat → Ans) : Ans :=
  Blk.rec (motive := fun _ => Ans) (fun _ _ _ _ => none) (fun _ _ => none) (fun z => Loop.rec (motive := fun _ => Ans) k z) none none b
def rangeEndC (l n : Nat) (e : Nat) (x : X) (s : St) (kn : KN) (ke : KE) : Ans :=
  rdK l s fun b s => loopK b fun st pe fn tm pa as bo de => ifA (isBusy st) none (wrK l (.loop ⟨.exhausted, pe, fn, tm, pa, as, bo, de⟩) s fun s =>
    Option.rec (motive := fun _ => Ans) (kn e x s) (fun c => jumpC n c e x s ke) pe)
def rangeArgs (first cap : Array Value) (l : Nat) : List Value := (first.toList ++ [.func (.yield l) #[] #[]]) ++ cap.toList
def rangeGo (f : Operand) (params : Array Tmp) (assign body : Code) (fn nt : Nat) (h : H) (n : Nat) (e : Nat) (xa x : X) (r : Nat) (s : St) (kn : KN) (ke : KE) : Ans :=
  newK (.loop { state := .ready, pending := none, fn, tmps := ⟨tmpsOfE nt xa e⟩, params, assign, body, defers := r }) s fun l s =>
    match evV xa e f with
      | .func (.func g) first cap => forceN g fun g => obnd (bodyOf P g) fun b => Bool.rec (motive := fun _ => Ans) none
          (initE (rangeArgs first cap l) (nat_lit 0) (nat_lit 0) x0 fun e' x' => h n (.call g (rangeArgs first cap l).length e' x') s fun _ _ s => rangeEndC l n e x s kn ke) b
      | _ => none
def rangeC (f : Operand) (params : Array Tmp) (assign body : Code) (fn nt : Nat) : CC := CC.mk fun h n rf e x s kn ke =>
  Nat.rec (motive := fun _ => Ans) none (fun n _ => match rf with
    | none => newK .defs s fun r s => rangeGo P f params assign body fn nt h n e x ⟨x.o, x.cnt, { target := .collected r, args := #[] } :: x.df⟩ r s kn ke
    | some l => rdK l s fun b s => loopK b fun st pe fn' tm pa as bo de => rangeGo P f params assign body fn nt h n e x x de s kn ke) n
def condC (c : Operand) (a b : CC) : CC :=
  CC.rec (motive := fun _ => CC) (fun fa => CC.rec (motive := fun _ => CC) (fun fb =>
    Operand.rec (motive := fun _ => CC)
      (fun t => CC.mk fun h n rf e x s kn ke => Nat.rec (motive := fun _ => Ans) none (fun n _ =>
        Bool.rec (motive := fun _ => Ans) (Bool.rec (motive := fun _ => Ans) none (fb h n rf e x s kn ke) (Nat.beq (slot e t) (nat_lit 9))) (fa h n rf e x s kn ke) (Nat.beq (slot e t) (nat_lit 25))) n)
      (fun v => CC.mk fun h n rf e x s kn ke => Nat.rec (motive := fun _ => Ans) none (fun n _ =>
        Bool.rec (motive := fun _ => Ans) (Bool.rec (motive := fun _ => Ans) none (fb h n rf e x s kn ke) (Nat.beq (encN v) (nat_lit 9))) (fa h n rf e x s kn ke) (Nat.beq (encN v) (nat_lit 25))) n)
      (fun _ => CC.mk fun h n rf e x s kn ke => none) (fun _ => CC.mk fun h n rf e x s kn ke => none) c) b) a
def fuelC (f : CF) : CC := CC.mk fun h n rf e x s kn ke => Nat.rec (motive := fun _ => Ans) none (fun n _ => f h n rf e x s kn ke) n
def seqC (a b : CC) : CC := CC.rec (motive := fun _ => CC) (fun f => CC.rec (motive := fun _ => CC) (fun g => CC.mk fun h n rf e x s kn ke =>
  Nat.rec (motive := fun _ => Ans) none (fun n _ => f h n rf e x s (fun e x s => g h n rf e x s kn ke) ke) n) b) a
def opsC (a : OC) : CC := OC.rec (motive := fun _ => CC) (fun f => CC.mk fun h n rf e x s kn ke => Nat.rec (motive := fun _ => Ans) none (fun n _ => f h n rf e x s kn) n) a
def comp (fn nt : Nat) (c : Code) : CC := Code.rec (motive := fun _ => CC)
  (fuelC fun h n rf e x s kn ke => kn e x s)
  (fun id ops draw => Bool.rec (motive := fun _ => CC) (opsC (compOps P ext nt ops.toList ops.toList)) (compDrawn P ext nt ops.toList) draw)
  (fun _ _ a b => seqC a b)
  (fun c _ _ a b => condC c a b)
  (fun id _ a => fuelC fun h n rf e x s kn ke => CC.run a h n rf e x s kn (blockE id kn ke))
  (fun _ a => CC.mk fun h n rf e x s kn ke => loopR a h n rf e x s kn ke)
  (fun f params assign body _ _ => rangeC P f params assign body fn nt)
  (fun id => fuelC fun h n rf e x s kn ke => ke (.exit id) e x s)
  (fun body _ => fuelC fun h n rf e x s kn ke => h n (.scope body body fn nt rf e x kn ke) s fun _ _ _ => none)
  (fun _ => fuelC fun h n rf e x s kn ke => kn e x s)
  (fun l => fuelC fun h n rf e x s kn ke => ke (.goto l) e x s)
  (fuelC fun h n rf e x s kn ke => ke .ret e x s)
  (fun _ => fuelC fun h n rf e x s kn ke => none) c

/-! ### Calls -/
def paramE (nt : Nat) (l : List (Nat × Value)) : Nat → X → (Nat → X → Ans) → Ans :=
  List.rec (motive := fun _ => Nat → X → (Nat → X → Ans) → Ans) (fun e x k => k e x) (fun p _ ih e x k => putV (effD nt (some p.1)) p.2 e x fun e x => ih e x k) l
def allTmp : List ResultVar → Option (List Nat)
  | [] => some []
  | .tmp t :: l => (allTmp l).map (t :: ·)
  | _ => none
abbrev QF := Nat → X → St → (List Value → St → Ans) → Ans
inductive QC where
  | mk (f : QF)
def QC.run (q : QC) : QF := QC.rec (motive := fun _ => QF) (fun f => f) q
def resQ1 (t : TypeId) (y : Tmp) (q : QC) : QC := QC.rec (motive := fun _ => QC) (fun g => match undF P t with
  | some (.struct _) | some (.array _ _) => match sizF P t with
    | some n => QC.mk fun e x s k => lgA n (slot e y) s fun v s => g e x s fun vs s => k (v :: vs) s
    | none => QC.mk fun _ _ _ _ => none
  | some _ => QC.mk fun e x s k => ldA (slot e y) s fun v s => g e x s fun vs s => k (v :: vs) s
  | none => QC.mk fun _ _ _ _ => none) q
def resQ (l : List ResultVar) : QC := List.rec (motive := fun _ => QC) (QC.mk fun _ _ s k => k [] s)
  (fun r _ ih => match r with
    | .tmp t => QC.rec (motive := fun _ => QC) (fun g => QC.mk fun e x s k => g e x s fun vs s => k (decX x (slot e t) :: vs) s) ih
    | .cell y t => resQ1 P t y ih) l
def ansC (c : Nat) : Nat := ifN (Nat.beq (Nat.land c (nat_lit 15)) (nat_lit 13)) (nat_lit 13) c
def resC (l : List ResultVar) : RC :=
  match allTmp l with
  | some [t] => RC.mk fun e x s k => k (ansC (slot e t)) (decX x (slot e t)) s
  | some ts => RC.mk fun e x s k => k (nat_lit 13) (packR (ts.map fun t => decX x (slot e t))) s
  | none => QC.rec (motive := fun _ => RC) (fun g => RC.mk fun e x s k => g e x s fun vs s => k (nat_lit 13) (packR vs) s) (resQ P l)
def leavesR (fn : Func) (h : H) (n : Nat) : RF :=
  Nat.rec (motive := fun _ => RF) (fun _ _ _ _ => none) (fun n ih e x s k => X.rec (motive := fun _ => Ans) (fun o cnt df => List.rec (motive := fun _ => Ans)
    (RC.run (resC P fn.results.toList) e x s k)
    (fun d ds _ => match d.target with
      | .collected r => bnd (rdB r s) fun b s => ifA (isDefs b) (bnd (wrB r .dead s) fun _ s => ih e ⟨o, cnt, ds⟩ s k) none
      | .fn (.func g) cap => forceN g fun g => obnd (bodyOf P g) fun b => Bool.rec (motive := fun _ => Ans) none (initE (d.args.toList ++ cap.toList) (nat_lit 0) (nat_lit 0) x0 fun e' x' => h n (.call g (d.args.toList ++ cap.toList).length e' x') s fun _ _ s => ih e ⟨o, cnt, ds⟩ s k) b
      | _ => none) df) x) n
def retE (fn : Func) (h : H) (n : Nat) (k : KV) : KE := fun ex e x s =>
  match ex with
  | .ret => leavesR P fn h n e x s k
  | _ => none
def bodyC (f : FuncId) (fn : Func) (body : Code) : FF := fun h n len e x s k =>
  ifA (Nat.ble len fn.ntmps) (CC.run (comp P ext f fn.ntmps body) h n none e x s (fun e x s => leavesR P fn h n e x s k) (retE P fn h n k)) none
def fnC (f : FuncId) : FC :=
  match funF P f with
  | none => FC.mk fun _ _ _ _ _ _ _ => none
  | some fn => match fn.body with
    | none => FC.mk fun _ _ _ _ _ _ _ => none
    | some body => Bool.rec (motive := fun _ => FC)
        (FC.mk fun h n len e x s k => Nat.rec (motive := fun _ => Ans) none (fun n _ => bodyC P ext f fn body h n len e x s k) n)
        (FC.mk fun h n len e x s k => Nat.rec (motive := fun _ => Ans) none (fun n _ => Option.rec (motive := fun _ => Ans) (bodyC P ext f fn body h n len e x s k) (fun v => k (nat_lit 13) v s) (ext f ((List.range len).map fun t => decX x (slot e t)))) n) (dom f)
def roundJ (l : Nat) (j : Option Code) (k : KV) (s : St) : Ans :=
  rdK l s fun b s => loopK b fun st pe fn tm pa as bo de => wrK l (.loop ⟨Option.rec (motive := fun _ => LoopState) .ready (fun _ => .done) j, j, fn, tm, pa, as, bo, de⟩) s fun s => k (boolC j.isNone) (.bool j.isNone) s
def roundE (l : Nat) (k : KV) : KE := fun ex e x s =>
  match ex with
  | .ret => roundJ l (some .ret) k s
  | .exit id => roundJ l (some (.exit id)) k s
  | .goto t => roundJ l (some (.goto t)) k s
  | .normal => none
def roundC (l : Nat) (args : List Value) (h : H) (n : Nat) (s : St) (k : KV) : Ans :=
  Nat.rec (motive := fun _ => Ans) none (fun n _ => rdK l s fun b s => loopK b fun st pe fn tm pa as bo de => ifA (args.length == pa.size)
    (forceN fn fun fn => forceN (lenR tm.toList) fun nt => initE tm.toList (nat_lit 0) (nat_lit 0) x0 fun e x => paramE nt (pa.toList.zip args) e x fun e x =>
      CC.run (comp P ext fn nt as) h n (some l) e x s (fun e x s => rdK l s fun b s => loopK b fun st2 pe2 fn2 tm2 pa2 as2 bo2 de2 => ifA (isReady st2) (wrK l (.loop ⟨.busy, pe2, fn2, tm2, pa2, as2, bo2, de2⟩) s fun s =>
        CC.run (comp P ext fn nt bo) h n (some l) e x s (fun _ _ s => roundJ l none k s) (roundE l k)) none) (fun _ _ _ _ => none)) none) n
def scopeE (body : Code) (fn nt : Nat) (rf : Option Nat) (h : H) (n : Nat) (kn : KN) (ke : KE) : KE := fun ex e x s =>
  match ex with
  | .goto l => Option.rec (motive := fun _ => Ans) (ke (.goto l) e x s) (fun rest => h n (.scope rest body fn nt rf e x kn ke) s fun _ _ _ => none) (findLabel body l)
  | .exit i => ke (.exit i) e x s
  | .ret => ke .ret e x s
  | .normal => none
def scopeC (cur body : Code) (fn nt : Nat) (rf : Option Nat) (e : Nat) (x : X) (kn : KN) (ke : KE) (h : H) (n : Nat) (s : St) : Ans :=
  Nat.rec (motive := fun _ => Ans) none (fun n _ => CC.run (comp P ext fn nt cur) h n rf e x s kn (scopeE body fn nt rf h n kn ke)) n
def go2 (h : H) : H := fun n t s k =>
  T2.rec (motive := fun _ => Ans) (fun f len e x => FC.run (fnC P ext dom f) h n len e x s k) (fun l args => roundC P ext l args h n s k)
    (fun cur body fn nt rf e x kn ke => scopeC P ext cur body fn nt rf e x kn ke h n s) t
def fam (N : Nat) : H := Nat.rec (motive := fun _ => H) (fun _ _ _ _ => none) (fun _ ih => go2 P ext dom ih) N
end
end
end Go.AM
