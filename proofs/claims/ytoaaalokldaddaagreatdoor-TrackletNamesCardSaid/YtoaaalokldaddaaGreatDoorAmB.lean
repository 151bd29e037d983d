import Derived.Test.YtoaaalokldaddaaGreatDoorAmA
set_option linter.unusedSimpArgs false
set_option linter.unusedVariables false
namespace Go.AM
open Go

theorem Fr.rdCells (b off n : Nat) : Fr (rdCells b off n) := by
  unfold AM.rdCells
  repeat' first | exact Fr.pure _ | exact Fr.fail | exact Fr.lift _ | exact Fr.guard _ | exact Fr.rd _ | exact Fr.wr _ _ | exact Fr.new _ | refine Fr.bind ?_ (fun _ => ?_) | refine Fr.ite ?_ ?_ | refine Fr.bif ?_ ?_ | split
theorem Fr.loadAgg (P : Program) (t : TypeId) (b off : Nat) : Fr (loadAgg P t b off) := by
  unfold AM.loadAgg
  repeat' first | exact Fr.pure _ | exact Fr.fail | exact Fr.lift _ | exact Fr.guard _ | exact Fr.rd _ | exact Fr.wr _ _ | exact Fr.new _ | exact Fr.rdCells _ _ _ | refine Fr.bind ?_ (fun _ => ?_) | refine Fr.ite ?_ ?_ | refine Fr.bif ?_ ?_ | split
theorem Fr.loadOne (b off : Nat) : Fr (loadOne b off) := by
  unfold AM.loadOne
  repeat' first | exact Fr.pure _ | exact Fr.fail | exact Fr.lift _ | exact Fr.guard _ | exact Fr.rd _ | exact Fr.wr _ _ | exact Fr.new _ | exact Fr.rdCells _ _ _ | refine Fr.bind ?_ (fun _ => ?_) | refine Fr.ite ?_ ?_ | refine Fr.bif ?_ ?_ | split
theorem Fr.loadM (P : Program) (t : TypeId) (x : Value) : Fr (loadM P t x) := by
  unfold AM.loadM
  repeat' first | exact Fr.pure _ | exact Fr.fail | exact Fr.lift _ | exact Fr.guard _ | exact Fr.rd _ | exact Fr.wr _ _ | exact Fr.new _ | exact Fr.loadAgg _ _ _ _ | exact Fr.loadOne _ _ | refine Fr.bind ?_ (fun _ => ?_) | refine Fr.ite ?_ ?_ | refine Fr.bif ?_ ?_ | split
theorem Fr.wrCells (b off : Nat) (xs : List Value) : Fr (wrCells b off xs) := by
  unfold AM.wrCells
  repeat' first | exact Fr.pure _ | exact Fr.fail | exact Fr.lift _ | exact Fr.guard _ | exact Fr.rd _ | exact Fr.wr _ _ | exact Fr.new _ | refine Fr.bind ?_ (fun _ => ?_) | refine Fr.ite ?_ ?_ | refine Fr.bif ?_ ?_ | split
theorem Fr.storeM (P : Program) (t : TypeId) (x v : Value) : Fr (storeM P t x v) := by
  unfold AM.storeM
  repeat' first | exact Fr.pure _ | exact Fr.fail | exact Fr.lift _ | exact Fr.guard _ | exact Fr.rd _ | exact Fr.wr _ _ | exact Fr.new _ | exact Fr.wrCells _ _ _ | refine Fr.bind ?_ (fun _ => ?_) | refine Fr.ite ?_ ?_ | refine Fr.bif ?_ ?_ | split
theorem Fr.allocM (P : Program) (t : TypeId) (v : Value) : Fr (allocM P t v) := by
  unfold AM.allocM
  repeat' first | exact Fr.pure _ | exact Fr.fail | exact Fr.lift _ | exact Fr.guard _ | exact Fr.rd _ | exact Fr.wr _ _ | exact Fr.new _ | refine Fr.bind ?_ (fun _ => ?_) | refine Fr.ite ?_ ?_ | refine Fr.bif ?_ ?_ | split
theorem Fr.newSlice (e size n c : Nat) (cs : List Value) : Fr (newSlice e size n c cs) := by
  unfold AM.newSlice
  repeat' first | exact Fr.pure _ | exact Fr.fail | exact Fr.lift _ | exact Fr.guard _ | exact Fr.rd _ | exact Fr.wr _ _ | exact Fr.new _ | refine Fr.bind ?_ (fun _ => ?_) | refine Fr.ite ?_ ?_ | refine Fr.bif ?_ ?_ | split
theorem Fr.makeSlice1 (e : TypeId) (i : TypeInfo) (z : Value) (n c : Nat) : Fr (makeSlice1 e i z n c) := by
  unfold AM.makeSlice1
  repeat' first | exact Fr.pure _ | exact Fr.fail | exact Fr.lift _ | exact Fr.guard _ | exact Fr.rd _ | exact Fr.wr _ _ | exact Fr.new _ | exact Fr.newSlice _ _ _ _ _ | refine Fr.bind ?_ (fun _ => ?_) | refine Fr.ite ?_ ?_ | refine Fr.bif ?_ ?_ | split
theorem Fr.makeSliceM (P : Program) (t : TypeId) (n c : Value) : Fr (makeSliceM P t n c) := by
  unfold AM.makeSliceM
  repeat' first | exact Fr.pure _ | exact Fr.fail | exact Fr.lift _ | exact Fr.guard _ | exact Fr.rd _ | exact Fr.wr _ _ | exact Fr.new _ | exact Fr.makeSlice1 _ _ _ _ _ | refine Fr.bind ?_ (fun _ => ?_) | refine Fr.ite ?_ ?_ | refine Fr.bif ?_ ?_ | split
theorem Fr.firstM (size n : Nat) (v : Value) : Fr (firstM size n v) := by
  unfold AM.firstM
  repeat' first | exact Fr.pure _ | exact Fr.fail | exact Fr.lift _ | exact Fr.guard _ | exact Fr.rd _ | exact Fr.wr _ _ | exact Fr.new _ | exact Fr.rdCells _ _ _ | refine Fr.bind ?_ (fun _ => ?_) | refine Fr.ite ?_ ?_ | refine Fr.bif ?_ ?_ | split
theorem Fr.killM (e size b : Nat) : Fr (killM e size b) := by
  unfold AM.killM
  repeat' first | exact Fr.pure _ | exact Fr.fail | exact Fr.lift _ | exact Fr.guard _ | exact Fr.rd _ | exact Fr.wr _ _ | exact Fr.new _ | refine Fr.bind ?_ (fun _ => ?_) | refine Fr.ite ?_ ?_ | refine Fr.bif ?_ ?_ | split
theorem Fr.appendIn (size : Nat) (a : Option Addr) (n m c : Nat) (new : List Value) : Fr (appendIn size a n m c new) := by
  unfold AM.appendIn
  repeat' first | exact Fr.pure _ | exact Fr.fail | exact Fr.lift _ | exact Fr.guard _ | exact Fr.rd _ | exact Fr.wr _ _ | exact Fr.new _ | exact Fr.wrCells _ _ _ | refine Fr.bind ?_ (fun _ => ?_) | refine Fr.ite ?_ ?_ | refine Fr.bif ?_ ?_ | split
theorem Fr.appendNew (e size : Nat) (a : Option Addr) (n m c : Nat) (exact_ : Bool) (new : List Value) : Fr (appendNew e size a n m c exact_ new) := by
  unfold AM.appendNew
  repeat' first | exact Fr.pure _ | exact Fr.fail | exact Fr.lift _ | exact Fr.guard _ | exact Fr.rd _ | exact Fr.wr _ _ | exact Fr.new _ | exact Fr.firstM _ _ _ | exact Fr.newSlice _ _ _ _ _ | exact Fr.killM _ _ _ | refine Fr.bind ?_ (fun _ => ?_) | refine Fr.ite ?_ ?_ | refine Fr.bif ?_ ?_ | split
theorem Fr.appendCap (e size : Nat) (a : Option Addr) (n m c : Nat) (exact_ : Bool) (new : List Value) : Fr (appendCap e size a n m c exact_ new) := by
  unfold AM.appendCap
  repeat' first | exact Fr.pure _ | exact Fr.fail | exact Fr.lift _ | exact Fr.guard _ | exact Fr.rd _ | exact Fr.wr _ _ | exact Fr.new _ | exact Fr.appendIn _ _ _ _ _ _ | exact Fr.appendNew _ _ _ _ _ _ _ _ | refine Fr.bind ?_ (fun _ => ?_) | refine Fr.ite ?_ ?_ | refine Fr.bif ?_ ?_ | split
theorem Fr.append1 (e : Nat) (i : TypeInfo) (a : Option Addr) (n c m : Nat) (new : List Value) : Fr (append1 e i a n c m new) := by
  unfold AM.append1
  repeat' first | exact Fr.pure _ | exact Fr.fail | exact Fr.lift _ | exact Fr.guard _ | exact Fr.rd _ | exact Fr.wr _ _ | exact Fr.new _ | exact Fr.appendCap _ _ _ _ _ _ _ _ | refine Fr.bind ?_ (fun _ => ?_) | refine Fr.ite ?_ ?_ | refine Fr.bif ?_ ?_ | split
theorem Fr.appendedL (i : TypeInfo) (x : Value) : Fr (appendedL i x) := by
  unfold AM.appendedL
  repeat' first | exact Fr.pure _ | exact Fr.fail | exact Fr.lift _ | exact Fr.guard _ | exact Fr.rd _ | exact Fr.wr _ _ | exact Fr.new _ | exact Fr.firstM _ _ _ | refine Fr.bind ?_ (fun _ => ?_) | refine Fr.ite ?_ ?_ | refine Fr.bif ?_ ?_ | split
theorem Fr.appendedZ (i : TypeInfo) (x : Value) : Fr (appendedZ i x) := by
  unfold AM.appendedZ
  repeat' first | exact Fr.pure _ | exact Fr.fail | exact Fr.lift _ | exact Fr.guard _ | exact Fr.rd _ | exact Fr.wr _ _ | exact Fr.new _ | refine Fr.bind ?_ (fun _ => ?_) | refine Fr.ite ?_ ?_ | refine Fr.bif ?_ ?_ | split
theorem Fr.appendedM (P : Program) (i : TypeInfo) (t1 : Option TypeId) (x : Value) : Fr (appendedM P i t1 x) := by
  unfold AM.appendedM
  repeat' first | exact Fr.pure _ | exact Fr.fail | exact Fr.lift _ | exact Fr.guard _ | exact Fr.rd _ | exact Fr.wr _ _ | exact Fr.new _ | exact Fr.appendedL _ _ | exact Fr.appendedZ _ _ | refine Fr.bind ?_ (fun _ => ?_) | refine Fr.ite ?_ ?_ | refine Fr.bif ?_ ?_ | split
theorem Fr.appendM (P : Program) (t : TypeId) (t1 : Option TypeId) (s x : Value) : Fr (appendM P t t1 s x) := by
  unfold AM.appendM
  repeat' first | exact Fr.pure _ | exact Fr.fail | exact Fr.lift _ | exact Fr.guard _ | exact Fr.rd _ | exact Fr.wr _ _ | exact Fr.new _ | exact Fr.appendedM _ _ _ _ | exact Fr.append1 _ _ _ _ _ _ _ | refine Fr.bind ?_ (fun _ => ?_) | refine Fr.ite ?_ ?_ | refine Fr.bif ?_ ?_ | split
theorem Fr.copyTo (a : Option Addr) (k : Nat) (new : List Value) : Fr (copyTo a k new) := by
  unfold AM.copyTo
  repeat' first | exact Fr.pure _ | exact Fr.fail | exact Fr.lift _ | exact Fr.guard _ | exact Fr.rd _ | exact Fr.wr _ _ | exact Fr.new _ | exact Fr.wrCells _ _ _ | refine Fr.bind ?_ (fun _ => ?_) | refine Fr.ite ?_ ?_ | refine Fr.bif ?_ ?_ | split
theorem Fr.copyM (P : Program) (t : TypeId) (d x : Value) : Fr (copyM P t d x) := by
  unfold AM.copyM
  repeat' first | exact Fr.pure _ | exact Fr.fail | exact Fr.lift _ | exact Fr.guard _ | exact Fr.rd _ | exact Fr.wr _ _ | exact Fr.new _ | exact Fr.firstM _ _ _ | exact Fr.copyTo _ _ _ | refine Fr.bind ?_ (fun _ => ?_) | refine Fr.ite ?_ ?_ | refine Fr.bif ?_ ?_ | split
theorem Fr.toBytesM (P : Program) (e : TypeId) (s : ByteArray) : Fr (toBytesM P e s) := by
  unfold AM.toBytesM
  repeat' first | exact Fr.pure _ | exact Fr.fail | exact Fr.lift _ | exact Fr.guard _ | exact Fr.rd _ | exact Fr.wr _ _ | exact Fr.new _ | exact Fr.newSlice _ _ _ _ _ | refine Fr.bind ?_ (fun _ => ?_) | refine Fr.ite ?_ ?_ | refine Fr.bif ?_ ?_ | split
theorem Fr.toStringM (P : Program) (e : TypeId) (a : Option Addr) (n : Nat) : Fr (toStringM P e a n) := by
  unfold AM.toStringM
  repeat' first | exact Fr.pure _ | exact Fr.fail | exact Fr.lift _ | exact Fr.guard _ | exact Fr.rd _ | exact Fr.wr _ _ | exact Fr.new _ | exact Fr.firstM _ _ _ | refine Fr.bind ?_ (fun _ => ?_) | refine Fr.ite ?_ ?_ | refine Fr.bif ?_ ?_ | split
theorem Fr.flatM (v : Value) : Fr (flatM v) := by
  unfold AM.flatM
  repeat' first | exact Fr.pure _ | exact Fr.fail | exact Fr.lift _ | exact Fr.guard _ | exact Fr.rd _ | exact Fr.wr _ _ | exact Fr.new _ | refine Fr.bind ?_ (fun _ => ?_) | refine Fr.ite ?_ ?_ | refine Fr.bif ?_ ?_ | split
theorem Fr.convFlat (P : Program) (src dst : TypeId) (x : Value) : Fr (convFlat P src dst x) := by
  unfold AM.convFlat
  repeat' first | exact Fr.pure _ | exact Fr.fail | exact Fr.lift _ | exact Fr.guard _ | exact Fr.rd _ | exact Fr.wr _ _ | exact Fr.new _ | exact Fr.flatM _ | refine Fr.bind ?_ (fun _ => ?_) | refine Fr.ite ?_ ?_ | refine Fr.bif ?_ ?_ | split
theorem Fr.convBy (P : Program) (src dst : TypeId) (x : Value) (k : Conv_) : Fr (convBy P src dst x k) := by
  unfold AM.convBy
  repeat' first | exact Fr.pure _ | exact Fr.fail | exact Fr.lift _ | exact Fr.guard _ | exact Fr.rd _ | exact Fr.wr _ _ | exact Fr.new _ | exact Fr.toBytesM _ _ _ | exact Fr.toStringM _ _ _ _ | exact Fr.convFlat _ _ _ _ | refine Fr.bind ?_ (fun _ => ?_) | refine Fr.ite ?_ ?_ | refine Fr.bif ?_ ?_ | split
theorem Fr.convertM (P : Program) (src dst : TypeId) (x : Value) : Fr (convertM P src dst x) := by
  unfold AM.convertM
  repeat' first | exact Fr.pure _ | exact Fr.fail | exact Fr.lift _ | exact Fr.guard _ | exact Fr.rd _ | exact Fr.wr _ _ | exact Fr.new _ | exact Fr.convBy _ _ _ _ _ | refine Fr.bind ?_ (fun _ => ?_) | refine Fr.ite ?_ ?_ | refine Fr.bif ?_ ?_ | split
theorem Fr.buildSlice1 (e n size : Nat) (z : Value) (ps : List (Nat × Value)) : Fr (buildSlice1 e n size z ps) := by
  unfold AM.buildSlice1
  repeat' first | exact Fr.pure _ | exact Fr.fail | exact Fr.lift _ | exact Fr.guard _ | exact Fr.rd _ | exact Fr.wr _ _ | exact Fr.new _ | exact Fr.newSlice _ _ _ _ _ | refine Fr.bind ?_ (fun _ => ?_) | refine Fr.ite ?_ ?_ | refine Fr.bif ?_ ?_ | split
theorem Fr.buildSliceM (P : Program) (t : TypeId) (n : Nat) (ps : List (Nat × Value)) : Fr (buildSliceM P t n ps) := by
  unfold AM.buildSliceM
  repeat' first | exact Fr.pure _ | exact Fr.fail | exact Fr.lift _ | exact Fr.guard _ | exact Fr.rd _ | exact Fr.wr _ _ | exact Fr.new _ | exact Fr.buildSlice1 _ _ _ _ _ | refine Fr.bind ?_ (fun _ => ?_) | refine Fr.ite ?_ ?_ | refine Fr.bif ?_ ?_ | split
theorem Fr.enterF (ext : Ext) (g : FuncId) (all : List Value) (body : Option Code) : Fr (enterF ext g all body) := by
  unfold AM.enterF
  repeat' first | exact Fr.pure _ | exact Fr.fail | exact Fr.lift _ | exact Fr.guard _ | exact Fr.rd _ | exact Fr.wr _ _ | exact Fr.new _ | refine Fr.bind ?_ (fun _ => ?_) | refine Fr.ite ?_ ?_ | refine Fr.bif ?_ ?_ | split
theorem Fr.callV (P : Program) (ext : Ext) (f : Value) (args : List Value) : Fr (callV P ext f args) := by
  unfold AM.callV
  repeat' first | exact Fr.pure _ | exact Fr.fail | exact Fr.lift _ | exact Fr.guard _ | exact Fr.rd _ | exact Fr.wr _ _ | exact Fr.new _ | exact Fr.enterF _ _ _ _ | refine Fr.bind ?_ (fun _ => ?_) | refine Fr.ite ?_ ?_ | refine Fr.bif ?_ ?_ | split
theorem Fr.valO (o : Option Value) : Fr (valO o) := by
  unfold AM.valO
  repeat' first | exact Fr.pure _ | exact Fr.fail | exact Fr.lift _ | exact Fr.guard _ | exact Fr.rd _ | exact Fr.wr _ _ | exact Fr.new _ | refine Fr.bind ?_ (fun _ => ?_) | refine Fr.ite ?_ ?_ | refine Fr.bif ?_ ?_ | split
theorem Fr.valM {m : M Value} (h : Fr m) : Fr (valM m) := Fr.bind h fun _ => Fr.pure _
theorem Fr.builtinM (P : Program) (b : Builtin) (ts : Array TypeId) (t : TypeId) (args : List Value) : Fr (builtinM P b ts t args) := by
  unfold AM.builtinM
  repeat' first | exact Fr.pure _ | exact Fr.fail | exact Fr.lift _ | exact Fr.guard _ | exact Fr.rd _ | exact Fr.wr _ _ | exact Fr.new _ | exact Fr.valO _ | exact Fr.valM (Fr.appendM _ _ _ _ _) | exact Fr.valM (Fr.copyM _ _ _ _) | refine Fr.bind ?_ (fun _ => ?_) | refine Fr.ite ?_ ?_ | refine Fr.bif ?_ ?_ | split
theorem Fr.callM (P : Program) (ext : Ext) (ev : Operand → Value) (c : Call) (t : TypeId) : Fr (callM P ext ev c t) := by
  unfold AM.callM
  repeat' first | exact Fr.pure _ | exact Fr.fail | exact Fr.lift _ | exact Fr.guard _ | exact Fr.rd _ | exact Fr.wr _ _ | exact Fr.new _ | exact Fr.callV _ _ _ _ | exact Fr.builtinM _ _ _ _ _ | refine Fr.bind ?_ (fun _ => ?_) | refine Fr.ite ?_ ?_ | refine Fr.bif ?_ ?_ | split
theorem Fr.pickM (c a b : Value) : Fr (pickM c a b) := by
  unfold AM.pickM
  repeat' first | exact Fr.pure _ | exact Fr.fail | exact Fr.lift _ | exact Fr.guard _ | exact Fr.rd _ | exact Fr.wr _ _ | exact Fr.new _ | refine Fr.bind ?_ (fun _ => ?_) | refine Fr.ite ?_ ?_ | refine Fr.bif ?_ ?_ | split
theorem Fr.rangeM (P : Program) (t : TypeId) (x : Value) : Fr (rangeM P t x) := by
  unfold AM.rangeM
  repeat' first | exact Fr.pure _ | exact Fr.fail | exact Fr.lift _ | exact Fr.guard _ | exact Fr.rd _ | exact Fr.wr _ _ | exact Fr.new _ | refine Fr.bind ?_ (fun _ => ?_) | refine Fr.ite ?_ ?_ | refine Fr.bif ?_ ?_ | split
theorem Fr.next2 (b : Nat) (s : ByteArray) (pos : Nat) (c : Nat × Nat) : Fr (next2 b s pos c) := by
  unfold AM.next2
  repeat' first | exact Fr.pure _ | exact Fr.fail | exact Fr.lift _ | exact Fr.guard _ | exact Fr.rd _ | exact Fr.wr _ _ | exact Fr.new _ | refine Fr.bind ?_ (fun _ => ?_) | refine Fr.ite ?_ ?_ | refine Fr.bif ?_ ?_ | split
theorem Fr.next1 (b : Nat) (s : ByteArray) (pos : Nat) : Fr (next1 b s pos) := by
  unfold AM.next1
  repeat' first | exact Fr.pure _ | exact Fr.fail | exact Fr.lift _ | exact Fr.guard _ | exact Fr.rd _ | exact Fr.wr _ _ | exact Fr.new _ | exact Fr.next2 _ _ _ _ | refine Fr.bind ?_ (fun _ => ?_) | refine Fr.ite ?_ ?_ | refine Fr.bif ?_ ?_ | split
theorem Fr.nextM (it : Value) : Fr (nextM it) := by
  unfold AM.nextM
  repeat' first | exact Fr.pure _ | exact Fr.fail | exact Fr.lift _ | exact Fr.guard _ | exact Fr.rd _ | exact Fr.wr _ _ | exact Fr.new _ | exact Fr.next1 _ _ _ | refine Fr.bind ?_ (fun _ => ?_) | refine Fr.ite ?_ ?_ | refine Fr.bif ?_ ?_ | split
theorem Fr.deferM (f : Value) (args : List Value) : Fr (deferM f args) := by
  unfold AM.deferM
  repeat' first | exact Fr.pure _ | exact Fr.fail | exact Fr.lift _ | exact Fr.guard _ | exact Fr.rd _ | exact Fr.wr _ _ | exact Fr.new _ | refine Fr.bind ?_ (fun _ => ?_) | refine Fr.ite ?_ ?_ | refine Fr.bif ?_ ?_ | split
theorem Fr.deferC (ev : Operand → Value) (c : Call) : Fr (deferC ev c) := by
  unfold AM.deferC
  repeat' first | exact Fr.pure _ | exact Fr.fail | exact Fr.lift _ | exact Fr.guard _ | exact Fr.rd _ | exact Fr.wr _ _ | exact Fr.new _ | exact Fr.deferM _ _ | refine Fr.bind ?_ (fun _ => ?_) | refine Fr.ite ?_ ?_ | refine Fr.bif ?_ ?_ | split
theorem Fr.storeR (P : Program) (t : TypeId) (x v : Value) : Fr (storeR P t x v) := by
  unfold AM.storeR
  repeat' first | exact Fr.pure _ | exact Fr.fail | exact Fr.lift _ | exact Fr.guard _ | exact Fr.rd _ | exact Fr.wr _ _ | exact Fr.new _ | exact Fr.storeM _ _ _ _ | refine Fr.bind ?_ (fun _ => ?_) | refine Fr.ite ?_ ?_ | refine Fr.bif ?_ ?_ | split
theorem Fr.allocZ (P : Program) (t : TypeId) : Fr (allocZ P t) := by
  unfold AM.allocZ
  repeat' first | exact Fr.pure _ | exact Fr.fail | exact Fr.lift _ | exact Fr.guard _ | exact Fr.rd _ | exact Fr.wr _ _ | exact Fr.new _ | exact Fr.allocM _ _ _ | refine Fr.bind ?_ (fun _ => ?_) | refine Fr.ite ?_ ?_ | refine Fr.bif ?_ ?_ | split
theorem Fr.opM (P : Program) (ext : Ext) (o : Oper) (ev : Operand → Value) : Fr (opM P ext o ev) := by
  unfold AM.opM
  repeat' first | exact Fr.pure _ | exact Fr.fail | exact Fr.lift _ | exact Fr.guard _ | exact Fr.rd _ | exact Fr.wr _ _ | exact Fr.new _ | exact Fr.valO _ | exact Fr.pickM _ _ _ | exact Fr.storeR _ _ _ _ | exact Fr.callM _ _ _ _ _ | exact Fr.deferC _ _ | exact Fr.valM (Fr.allocZ _ _) | exact Fr.valM (Fr.allocM _ _ _) | exact Fr.valM (Fr.buildSliceM _ _ _ _) | exact Fr.valM (Fr.loadM _ _ _) | exact Fr.valM (Fr.convertM _ _ _ _) | exact Fr.valM (Fr.makeSliceM _ _ _ _) | exact Fr.valM (Fr.rangeM _ _ _) | exact Fr.valM (Fr.nextM _) | refine Fr.bind ?_ (fun _ => ?_) | refine Fr.ite ?_ ?_ | refine Fr.bif ?_ ?_ | split
theorem Fr.retV (o : Out) : Fr (retV o) := by
  unfold AM.retV
  repeat' first | exact Fr.pure _ | exact Fr.fail | exact Fr.lift _ | exact Fr.guard _ | exact Fr.rd _ | exact Fr.wr _ _ | exact Fr.new _ | refine Fr.bind ?_ (fun _ => ?_) | refine Fr.ite ?_ ?_ | refine Fr.bif ?_ ?_ | split
theorem Fr.valR {rec : Task → M Out} (hr : ∀ t, Fr (rec t)) (rf : Option Nat) (r : R) : Fr (valR rec rf r) := by
  unfold AM.valR
  repeat' first | exact Fr.pure _ | exact Fr.fail | exact Fr.lift _ | exact Fr.guard _ | exact Fr.rd _ | exact Fr.wr _ _ | exact Fr.new _ | exact hr _ | exact Fr.retV _ | refine Fr.bind ?_ (fun _ => ?_) | refine Fr.ite ?_ ?_ | refine Fr.bif ?_ ?_ | split
theorem Fr.opV (P : Program) (ext : Ext) {rec : Task → M Out} (hr : ∀ t, Fr (rec t)) (rf : Option Nat) (o : Oper) (ev : Operand → Value) : Fr (opV P ext rec rf o ev) := Fr.bind (Fr.opM _ _ _ _) fun _ => Fr.valR hr _ _
theorem Fr.doDefer (rf : Option Nat) (a : A) (dst : Option Nat) (d : Deferred) : Fr (doDefer rf a dst d) := by
  unfold AM.doDefer
  repeat' first | exact Fr.pure _ | exact Fr.fail | exact Fr.lift _ | exact Fr.guard _ | exact Fr.rd _ | exact Fr.wr _ _ | exact Fr.new _ | refine Fr.bind ?_ (fun _ => ?_) | refine Fr.ite ?_ ?_ | refine Fr.bif ?_ ?_ | split
theorem Fr.stepOp (P : Program) (ext : Ext) {rec : Task → M Out} (hr : ∀ t, Fr (rec t)) (rf : Option Nat) (o : Oper) (a : A) : Fr (stepOp P ext rec rf o a) :=
  Fr.bif (Fr.bind (Fr.opM _ _ _ _) fun _ => Fr.bind (Fr.lift _) fun _ => Fr.doDefer _ _ _ _) (Fr.bind (Fr.opV P ext hr _ _ _) fun _ => Fr.pure _)
theorem Fr.runOps (P : Program) (ext : Ext) {rec : Task → M Out} (hr : ∀ t, Fr (rec t)) (rf : Option Nat) (ops : List Oper) (l : List Oper) : ∀ a, Fr (runOps P ext rec rf ops l a) := by
  induction l with
  | nil => exact fun a => Fr.pure _
  | cons o l ih =>
    intro a
    unfold AM.runOps
    exact Fr.ite (Fr.bind (Fr.stepOp P ext hr rf o a) fun p => ih _) (ih _)
theorem Fr.runDrawn (P : Program) (ext : Ext) {rec : Task → M Out} (hr : ∀ t, Fr (rec t)) (rf : Option Nat) (ops : List Oper) (l : List Oper) : ∀ a, Fr (runDrawn P ext rec rf ops l a) := by
  induction l with
  | nil => exact fun a => Fr.pure _
  | cons o l ih =>
    intro a
    unfold AM.runDrawn
    exact Fr.ite (Fr.bind (Fr.listen (Fr.opV P ext hr rf o _)) fun p => Fr.bind (ih _) fun _ => Fr.pure _) (Fr.bind (ih _) fun _ => Fr.pure _)
theorem Fr.resultM (P : Program) (a : A) (r : ResultVar) : Fr (resultM P a r) := by
  unfold AM.resultM
  repeat' first | exact Fr.pure _ | exact Fr.fail | exact Fr.lift _ | exact Fr.guard _ | exact Fr.rd _ | exact Fr.wr _ _ | exact Fr.new _ | exact Fr.loadM _ _ _ | refine Fr.bind ?_ (fun _ => ?_) | refine Fr.ite ?_ ?_ | refine Fr.bif ?_ ?_ | split
theorem Fr.resultsM (P : Program) (a : A) (l : List ResultVar) : Fr (resultsM P a l) := by
  induction l with
  | nil => exact Fr.pure _
  | cons r l ih => exact Fr.bind (Fr.resultM P a r) fun _ => Fr.bind ih fun _ => Fr.pure _
theorem Fr.onNormal {next : A → M Out} (h : ∀ a, Fr (next a)) (o : Out) : Fr (onNormal next o) := by
  unfold AM.onNormal
  split
  · exact h _
  · exact Fr.pure _
  · exact Fr.fail
theorem Fr.onBlock (id : Nat) (o : Out) : Fr (onBlock id o) := by
  unfold AM.onBlock
  repeat' first | exact Fr.pure _ | exact Fr.fail | exact Fr.lift _ | exact Fr.guard _ | exact Fr.rd _ | exact Fr.wr _ _ | exact Fr.new _ | refine Fr.bind ?_ (fun _ => ?_) | refine Fr.ite ?_ ?_ | refine Fr.bif ?_ ?_ | split
theorem Fr.stCond {rec : Task → M Out} (hr : ∀ t, Fr (rec t)) (v : Value) (x y : Code) (a : A) (rf : Option Nat) (fn : FuncId) : Fr (stCond rec v x y a rf fn) := by
  unfold AM.stCond
  repeat' first | exact Fr.pure _ | exact Fr.fail | exact Fr.lift _ | exact Fr.guard _ | exact Fr.rd _ | exact Fr.wr _ _ | exact Fr.new _ | exact hr _ | refine Fr.bind ?_ (fun _ => ?_) | refine Fr.ite ?_ ?_ | refine Fr.bif ?_ ?_ | split
theorem Fr.stDrawn (ops : List Oper) (z : List Foot × A) : Fr (stDrawn ops z) := by
  unfold AM.stDrawn
  repeat' first | exact Fr.pure _ | exact Fr.fail | exact Fr.lift _ | exact Fr.guard _ | exact Fr.rd _ | exact Fr.wr _ _ | exact Fr.new _ | refine Fr.bind ?_ (fun _ => ?_) | refine Fr.ite ?_ ?_ | refine Fr.bif ?_ ?_ | split
theorem Fr.stRegion (P : Program) (ext : Ext) {rec : Task → M Out} (hr : ∀ t, Fr (rec t)) (ops : List Oper) (draw : Bool) (a : A) (rf : Option Nat) : Fr (stRegion P ext rec ops draw a rf) := by
  unfold AM.stRegion
  repeat' first | exact Fr.pure _ | exact Fr.fail | exact Fr.lift _ | exact Fr.guard _ | exact Fr.rd _ | exact Fr.wr _ _ | exact Fr.new _ | exact hr _ | exact Fr.stDrawn _ _ | exact Fr.runDrawn P ext hr _ _ _ _ | exact Fr.runOps P ext hr _ _ _ _ | refine Fr.bind ?_ (fun _ => ?_) | refine Fr.ite ?_ ?_ | refine Fr.bif ?_ ?_ | split
theorem Fr.rdLoop (l : Nat) : Fr (rdLoop l) := by
  unfold AM.rdLoop
  repeat' first | exact Fr.pure _ | exact Fr.fail | exact Fr.lift _ | exact Fr.guard _ | exact Fr.rd _ | exact Fr.wr _ _ | exact Fr.new _ | refine Fr.bind ?_ (fun _ => ?_) | refine Fr.ite ?_ ?_ | refine Fr.bif ?_ ?_ | split
theorem Fr.rangeDefs (rf : Option Nat) (a : A) : Fr (rangeDefs rf a) := by
  unfold AM.rangeDefs
  repeat' first | exact Fr.pure _ | exact Fr.fail | exact Fr.lift _ | exact Fr.guard _ | exact Fr.rd _ | exact Fr.wr _ _ | exact Fr.new _ | exact Fr.rdLoop _ | refine Fr.bind ?_ (fun _ => ?_) | refine Fr.ite ?_ ?_ | refine Fr.bif ?_ ?_ | split
theorem Fr.rangeJump {rec : Task → M Out} (hr : ∀ t, Fr (rec t)) (a : A) (rf : Option Nat) (fn : FuncId) (c : Option Code) : Fr (rangeJump rec a rf fn c) := by
  unfold AM.rangeJump
  repeat' first | exact Fr.pure _ | exact Fr.fail | exact Fr.lift _ | exact Fr.guard _ | exact Fr.rd _ | exact Fr.wr _ _ | exact Fr.new _ | exact hr _ | refine Fr.bind ?_ (fun _ => ?_) | refine Fr.ite ?_ ?_ | refine Fr.bif ?_ ?_ | split
theorem Fr.rangeEnd {rec : Task → M Out} (hr : ∀ t, Fr (rec t)) (l : Nat) (a : A) (rf : Option Nat) (fn : FuncId) (o : Out) : Fr (rangeEnd rec l a rf fn o) := by
  unfold AM.rangeEnd
  repeat' first | exact Fr.pure _ | exact Fr.fail | exact Fr.lift _ | exact Fr.guard _ | exact Fr.rd _ | exact Fr.wr _ _ | exact Fr.new _ | exact hr _ | exact Fr.rdLoop _ | exact Fr.rangeJump hr _ _ _ _ | refine Fr.bind ?_ (fun _ => ?_) | refine Fr.ite ?_ ?_ | refine Fr.bif ?_ ?_ | split
theorem Fr.rangeCall {rec : Task → M Out} (hr : ∀ t, Fr (rec t)) (l : Nat) (a : A) (rf : Option Nat) (fn : FuncId) (r : R) : Fr (rangeCall rec l a rf fn r) := by
  unfold AM.rangeCall
  repeat' first | exact Fr.pure _ | exact Fr.fail | exact Fr.lift _ | exact Fr.guard _ | exact Fr.rd _ | exact Fr.wr _ _ | exact Fr.new _ | exact hr _ | exact Fr.rangeEnd hr _ _ _ _ _ | refine Fr.bind ?_ (fun _ => ?_) | refine Fr.ite ?_ ?_ | refine Fr.bif ?_ ?_ | split
theorem Fr.stRange (P : Program) (ext : Ext) {rec : Task → M Out} (hr : ∀ t, Fr (rec t)) (f : Operand) (params : Array Tmp) (assign body : Code) (a : A) (rf : Option Nat) (fn : FuncId) : Fr (stRange P ext rec f params assign body a rf fn) := by
  unfold AM.stRange
  repeat' first | exact Fr.pure _ | exact Fr.fail | exact Fr.lift _ | exact Fr.guard _ | exact Fr.rd _ | exact Fr.wr _ _ | exact Fr.new _ | exact hr _ | exact Fr.rangeDefs _ _ | exact Fr.callV _ _ _ _ | exact Fr.rangeCall hr _ _ _ _ _ | refine Fr.bind ?_ (fun _ => ?_) | refine Fr.ite ?_ ?_ | refine Fr.bif ?_ ?_ | split
theorem Fr.stCode (P : Program) (ext : Ext) {rec : Task → M Out} (hr : ∀ t, Fr (rec t)) (c : Code) (a : A) (rf : Option Nat) (fn : FuncId) : Fr (stCode P ext rec c a rf fn) := by
  unfold AM.stCode
  repeat' first | exact Fr.pure _ | exact Fr.fail | exact Fr.lift _ | exact Fr.guard _ | exact Fr.rd _ | exact Fr.wr _ _ | exact Fr.new _ | exact hr _ | exact Fr.onBlock _ _ | exact Fr.onNormal (fun _ => hr _) _ | exact Fr.stCond hr _ _ _ _ _ _ | exact Fr.stRegion P ext hr _ _ _ _ | exact Fr.stRange P ext hr _ _ _ _ _ _ _ | refine Fr.bind ?_ (fun _ => ?_) | refine Fr.ite ?_ ?_ | refine Fr.bif ?_ ?_ | split
theorem Fr.onScope {rec : Task → M Out} (hr : ∀ t, Fr (rec t)) (body : Code) (rf : Option Nat) (fn : FuncId) (o : Out) : Fr (onScope rec body rf fn o) := by
  unfold AM.onScope
  repeat' first | exact Fr.pure _ | exact Fr.fail | exact Fr.lift _ | exact Fr.guard _ | exact Fr.rd _ | exact Fr.wr _ _ | exact Fr.new _ | exact hr _ | refine Fr.bind ?_ (fun _ => ?_) | refine Fr.ite ?_ ?_ | refine Fr.bif ?_ ?_ | split
theorem Fr.stScope {rec : Task → M Out} (hr : ∀ t, Fr (rec t)) (cur body : Code) (a : A) (rf : Option Nat) (fn : FuncId) : Fr (stScope rec cur body a rf fn) := by
  unfold AM.stScope
  repeat' first | exact Fr.pure _ | exact Fr.fail | exact Fr.lift _ | exact Fr.guard _ | exact Fr.rd _ | exact Fr.wr _ _ | exact Fr.new _ | exact hr _ | exact Fr.onScope hr _ _ _ _ | refine Fr.bind ?_ (fun _ => ?_) | refine Fr.ite ?_ ?_ | refine Fr.bif ?_ ?_ | split
theorem Fr.callEnd {rec : Task → M Out} (hr : ∀ t, Fr (rec t)) (fn : Func) (o : Out) : Fr (callEnd rec fn o) := by
  unfold AM.callEnd
  repeat' first | exact Fr.pure _ | exact Fr.fail | exact Fr.lift _ | exact Fr.guard _ | exact Fr.rd _ | exact Fr.wr _ _ | exact Fr.new _ | exact hr _ | refine Fr.bind ?_ (fun _ => ?_) | refine Fr.ite ?_ ?_ | refine Fr.bif ?_ ?_ | split
theorem Fr.stBody {rec : Task → M Out} (hr : ∀ t, Fr (rec t)) (f : FuncId) (fn : Func) (body : Code) (args : List Value) : Fr (stBody rec f fn body args) := by
  unfold AM.stBody
  repeat' first | exact Fr.pure _ | exact Fr.fail | exact Fr.lift _ | exact Fr.guard _ | exact Fr.rd _ | exact Fr.wr _ _ | exact Fr.new _ | exact hr _ | exact Fr.callEnd hr _ _ | refine Fr.bind ?_ (fun _ => ?_) | refine Fr.ite ?_ ?_ | refine Fr.bif ?_ ?_ | split
theorem Fr.stKnown {rec : Task → M Out} (hr : ∀ t, Fr (rec t)) (f : FuncId) (fn : Func) (body : Code) (args : List Value) (v : Option Value) : Fr (stKnown rec f fn body args v) := by
  cases v with
  | none => exact Fr.stBody hr _ _ _ _
  | some v => exact Fr.pure _
theorem Fr.stCall (P : Program) (ext : Ext) {rec : Task → M Out} (hr : ∀ t, Fr (rec t)) (f : FuncId) (args : List Value) : Fr (stCall P ext rec f args) := by
  unfold AM.stCall
  repeat' first | exact Fr.pure _ | exact Fr.fail | exact Fr.lift _ | exact Fr.guard _ | exact Fr.rd _ | exact Fr.wr _ _ | exact Fr.new _ | exact hr _ | exact Fr.stKnown hr _ _ _ _ _ | refine Fr.bind ?_ (fun _ => ?_) | refine Fr.ite ?_ ?_ | refine Fr.bif ?_ ?_ | split
theorem Fr.roundJump (l : Nat) (j : Option Code) : Fr (roundJump l j) := by
  unfold AM.roundJump
  repeat' first | exact Fr.pure _ | exact Fr.fail | exact Fr.lift _ | exact Fr.guard _ | exact Fr.rd _ | exact Fr.wr _ _ | exact Fr.new _ | exact Fr.rdLoop _ | refine Fr.bind ?_ (fun _ => ?_) | refine Fr.ite ?_ ?_ | refine Fr.bif ?_ ?_ | split
theorem Fr.roundEnd (l : Nat) (o : Out) : Fr (roundEnd l o) := by
  unfold AM.roundEnd
  repeat' first | exact Fr.pure _ | exact Fr.fail | exact Fr.lift _ | exact Fr.guard _ | exact Fr.rd _ | exact Fr.wr _ _ | exact Fr.new _ | exact Fr.roundJump _ _ | refine Fr.bind ?_ (fun _ => ?_) | refine Fr.ite ?_ ?_ | refine Fr.bif ?_ ?_ | split
theorem Fr.roundBody {rec : Task → M Out} (hr : ∀ t, Fr (rec t)) (l : Nat) (body : Code) (fn : FuncId) (o : Out) : Fr (roundBody rec l body fn o) := by
  unfold AM.roundBody
  repeat' first | exact Fr.pure _ | exact Fr.fail | exact Fr.lift _ | exact Fr.guard _ | exact Fr.rd _ | exact Fr.wr _ _ | exact Fr.new _ | exact hr _ | exact Fr.rdLoop _ | exact Fr.roundEnd _ _ | refine Fr.bind ?_ (fun _ => ?_) | refine Fr.ite ?_ ?_ | refine Fr.bif ?_ ?_ | split
theorem Fr.stRound {rec : Task → M Out} (hr : ∀ t, Fr (rec t)) (l : Nat) (args : List Value) : Fr (stRound rec l args) := by
  unfold AM.stRound
  repeat' first | exact Fr.pure _ | exact Fr.fail | exact Fr.lift _ | exact Fr.guard _ | exact Fr.rd _ | exact Fr.wr _ _ | exact Fr.new _ | exact hr _ | exact Fr.rdLoop _ | exact Fr.roundBody hr _ _ _ _ | refine Fr.bind ?_ (fun _ => ?_) | refine Fr.ite ?_ ?_ | refine Fr.bif ?_ ?_ | split
theorem Fr.afterDefer {rec : Task → M Out} (hr : ∀ t, Fr (rec t)) (fn : Func) (a : A) (o : Out) : Fr (afterDefer rec fn a o) := by
  unfold AM.afterDefer
  repeat' first | exact Fr.pure _ | exact Fr.fail | exact Fr.lift _ | exact Fr.guard _ | exact Fr.rd _ | exact Fr.wr _ _ | exact Fr.new _ | exact hr _ | refine Fr.bind ?_ (fun _ => ?_) | refine Fr.ite ?_ ?_ | refine Fr.bif ?_ ?_ | split
theorem Fr.stDefer {rec : Task → M Out} (hr : ∀ t, Fr (rec t)) (fn : Func) (a : A) (d : Deferred) : Fr (stDefer rec fn a d) := by
  unfold AM.stDefer
  repeat' first | exact Fr.pure _ | exact Fr.fail | exact Fr.lift _ | exact Fr.guard _ | exact Fr.rd _ | exact Fr.wr _ _ | exact Fr.new _ | exact hr _ | exact Fr.afterDefer hr _ _ _ | refine Fr.bind ?_ (fun _ => ?_) | refine Fr.ite ?_ ?_ | refine Fr.bif ?_ ?_ | split
theorem Fr.stLeaves (P : Program) {rec : Task → M Out} (hr : ∀ t, Fr (rec t)) (fn : Func) (a : A) : Fr (stLeaves P rec fn a) := by
  unfold AM.stLeaves
  repeat' first | exact Fr.pure _ | exact Fr.fail | exact Fr.lift _ | exact Fr.guard _ | exact Fr.rd _ | exact Fr.wr _ _ | exact Fr.new _ | exact hr _ | exact Fr.resultsM _ _ _ | exact Fr.stDefer hr _ _ _ | refine Fr.bind ?_ (fun _ => ?_) | refine Fr.ite ?_ ?_ | refine Fr.bif ?_ ?_ | split
theorem Fr.step (P : Program) (ext : Ext) {rec : Task → M Out} (hr : ∀ t, Fr (rec t)) (t : Task) : Fr (step P ext rec t) := by
  unfold AM.step
  split
  · exact Fr.stCode P ext hr _ _ _ _
  · exact Fr.stCall P ext hr _ _
  · exact Fr.stRound hr _ _
  · exact Fr.stLeaves P hr _ _
  · exact Fr.stScope hr _ _ _ _ _
/-- WHATEVER IS RUN: what it has not touched does not matter to it. -/
theorem Fr.run (P : Program) (ext : Ext) (n : Nat) : ∀ t, Fr (run P ext n t) := by
  induction n with
  | zero => exact fun t => Fr.fail
  | succ n ih => exact fun t => Fr.step P ext ih t
end Go.AM
