import Derived.Test.YtoaaalokldaddaaGreatDoorAmB
import Derived.Below
import Derived.Laws.IdiomCopy
import Derived.Laws.Append
set_option linter.unusedSimpArgs false
set_option linter.unusedVariables false
namespace Go.AM
open Go Go.RowKit

/-! ### Values: the machine's against ours -/
/-- where a block of ours lies: the machine's block, its cells, the cells of an element -/
structure Pl where
  r : Nat
  sz : Nat
  es : Nat
abbrev Map : Type := Nat → Pl

def CapR (p : Pl) (off c c' : Nat) : Prop := if c < BIG then c' = c else (off = 0 → c' * p.es = p.sz) ∧ c - BIG ≤ c'

inductive VR (ρ : Map) (V : Nat → Prop) : Value → Value → Prop where
  | atom (v : Value) (h : atomV v = true) : VR ρ V v v
  | ptr (b off : Nat) (h : V b) : VR ρ V (.pointer (some ⟨b, off, none⟩)) (.pointer (some ⟨(ρ b).r, off, none⟩))
  | slice (b off n c c' : Nat) (h : V b) (hn : n ≤ c') (hc : CapR (ρ b) off c c') : VR ρ V (.slice (some ⟨b, off, none⟩) n c) (.slice (some ⟨(ρ b).r, off, none⟩) n c')
  | func (f : FuncId) (xs xs' ys ys' : List Value) (hx : xs'.length = xs.length) (hy : ys'.length = ys.length)
      (kx : ∀ (i : Nat) v v', xs[i]? = some v → xs'[i]? = some v' → VR ρ V v v') (ky : ∀ (i : Nat) v v', ys[i]? = some v → ys'[i]? = some v' → VR ρ V v v') :
      VR ρ V (.func (.func f) ⟨xs⟩ ⟨ys⟩) (.func (.func f) ⟨xs'⟩ ⟨ys'⟩)
  | yield (l : Nat) (h : V l) : VR ρ V (.func (.yield l) ⟨[]⟩ ⟨[]⟩) (.func (.yield (ρ l).r) ⟨[]⟩ ⟨[]⟩)
  | iface (t : TypeId) (v v' : Value) (h : VR ρ V v v') : VR ρ V (.iface t v) (.iface t v')
  | agg (xs xs' : List Value) (hx : xs'.length = xs.length) (kx : ∀ (i : Nat) v v', xs[i]? = some v → xs'[i]? = some v' → VR ρ V v v') : VR ρ V (.agg ⟨xs⟩) (.agg ⟨xs'⟩)
  | tuple (xs xs' : List Value) (hx : xs'.length = xs.length) (kx : ∀ (i : Nat) v v', xs[i]? = some v → xs'[i]? = some v' → VR ρ V v v') : VR ρ V (.tuple ⟨xs⟩) (.tuple ⟨xs'⟩)

def LR (ρ : Map) (V : Nat → Prop) (xs xs' : List Value) : Prop := xs'.length = xs.length ∧ ∀ (i : Nat) v v', xs[i]? = some v → xs'[i]? = some v' → VR ρ V v v'

/-- two maps that agree on V -/
def SameOn (V : Nat → Prop) (ρ ρ' : Map) : Prop := ∀ b, V b → ρ' b = ρ b

theorem VR.mono {ρ ρ' : Map} {V V' : Nat → Prop} (hs : SameOn V ρ ρ') (hB : ∀ b, V b → V' b) {v v' : Value} (h : VR ρ V v v') : VR ρ' V' v v' := by
  induction h with
  | atom v h => exact .atom v h
  | ptr b off h => rw [← hs b h]; exact .ptr b off (hB b h)
  | slice b off n c c' h hn hc => rw [← hs b h] at hc ⊢; exact .slice b off n c c' (hB b h) hn hc
  | func f xs xs' ys ys' hx hy _ _ kx ky => exact .func f xs xs' ys ys' hx hy kx ky
  | yield l h => rw [← hs l h]; exact .yield l (hB l h)
  | iface t v v' _ ih => exact .iface t v v' ih
  | agg xs xs' hx _ ih => exact .agg xs xs' hx ih
  | tuple xs xs' hx _ ih => exact .tuple xs xs' hx ih
theorem LR.mono {ρ ρ' : Map} {V V' : Nat → Prop} (hs : SameOn V ρ ρ') (hB : ∀ b, V b → V' b) {l l' : List Value} (h : LR ρ V l l') : LR ρ' V' l l' :=
  ⟨h.1, fun i v v' a b => (h.2 i v v' a b).mono hs hB⟩

section
variable {ρ : Map} {V : Nat → Prop}
theorem LR.nil : LR ρ V [] [] := ⟨rfl, fun i v v' h => by simp at h⟩
theorem LR.cons {v v' : Value} {l l' : List Value} (h : VR ρ V v v') (k : LR ρ V l l') : LR ρ V (v :: l) (v' :: l') := by
  refine ⟨by simp [k.1], fun i x x' hx hx' => ?_⟩
  cases i with
  | zero => simp at hx hx'; subst hx; subst hx'; exact h
  | succ i => simp at hx hx'; exact k.2 i x x' hx hx'
theorem LR.cons_inv {v : Value} {l m : List Value} (h : LR ρ V (v :: l) m) : ∃ v' l', m = v' :: l' ∧ VR ρ V v v' ∧ LR ρ V l l' := by
  cases m with
  | nil => have := h.1; simp at this
  | cons v' l' =>
    refine ⟨v', l', rfl, h.2 0 v v' (by simp) (by simp), by have := h.1; simpa using this, fun i x x' hx hx' => h.2 (i + 1) x x' (by simpa using hx) (by simpa using hx')⟩
theorem LR.nil_inv {m : List Value} (h : LR ρ V [] m) : m = [] := List.eq_nil_of_length_eq_zero (by have := h.1; simpa using this)
theorem LR.append {l l' m m' : List Value} (h : LR ρ V l l') (k : LR ρ V m m') : LR ρ V (l ++ m) (l' ++ m') := by
  induction l generalizing l' with
  | nil => rw [h.nil_inv]; simpa using k
  | cons v l ih =>
    obtain ⟨v', l'', rfl, hv, hl⟩ := h.cons_inv
    exact LR.cons hv (ih hl)
theorem LR.take {l l' : List Value} (h : LR ρ V l l') (n : Nat) : LR ρ V (l.take n) (l'.take n) := by
  refine ⟨by simp [h.1], fun i v v' hv hv' => ?_⟩
  rw [List.getElem?_take] at hv hv'
  split at hv
  · rename_i hi; rw [if_pos hi] at hv'; exact h.2 i v v' hv hv'
  · cases hv
theorem LR.drop {l l' : List Value} (h : LR ρ V l l') (n : Nat) : LR ρ V (l.drop n) (l'.drop n) := by
  refine ⟨by simp [h.1], fun i v v' hv hv' => ?_⟩
  rw [List.getElem?_drop] at hv hv'
  exact h.2 _ v v' hv hv'
theorem LR.get {l l' : List Value} (h : LR ρ V l l') {i : Nat} {v : Value} (hv : l[i]? = some v) : ∃ v', l'[i]? = some v' ∧ VR ρ V v v' := by
  have hi : i < l.length := (List.getElem?_eq_some_iff.1 hv).1
  have hi' : i < l'.length := by rw [h.1]; exact hi
  exact ⟨l'[i], List.getElem?_eq_getElem hi', h.2 i v _ hv (List.getElem?_eq_getElem hi')⟩
theorem LR.refl_of {l : List Value} (h : ∀ v, v ∈ l → VR ρ V v v) : LR ρ V l l := by
  refine ⟨rfl, fun i v v' hv hv' => ?_⟩
  rw [hv] at hv'
  obtain rfl := Option.some.inj hv'
  exact h v (List.mem_of_getElem? hv)
theorem LR.map_of {α : Type} (l : List α) {f g : α → Value} (h : ∀ a, a ∈ l → VR ρ V (f a) (g a)) : LR ρ V (l.map f) (l.map g) := by
  induction l with
  | nil => exact LR.nil
  | cons a l ih => exact LR.cons (h a (by simp)) (ih fun b hb => h b (by simp [hb]))
theorem VR.agg_of {l l' : List Value} (h : LR ρ V l l') : VR ρ V (.agg ⟨l⟩) (.agg ⟨l'⟩) := .agg l l' h.1 h.2
theorem VR.tuple_of {l l' : List Value} (h : LR ρ V l l') : VR ρ V (.tuple ⟨l⟩) (.tuple ⟨l'⟩) := .tuple l l' h.1 h.2
theorem VR.func_of (f : FuncId) {l l' m m' : List Value} (h : LR ρ V l l') (k : LR ρ V m m') : VR ρ V (.func (.func f) ⟨l⟩ ⟨m⟩) (.func (.func f) ⟨l'⟩ ⟨m'⟩) := .func f l l' m m' h.1 k.1 h.2 k.2
theorem VR.bool (b : Bool) : VR ρ V (.bool b) (.bool b) := .atom _ rfl
theorem VR.int (k : IntKind) (n : Int) : VR ρ V (.int k n) (.int k n) := .atom _ rfl
theorem VR.str (s : ByteArray) : VR ρ V (.string s) (.string s) := .atom _ rfl
theorem VR.undef : VR ρ V undef undef := VR.tuple_of LR.nil

theorem bare_vr {v : Value} (h : (atomV v || bareV v) = true) : VR ρ V v v := by
  by_cases ha : atomV v = true
  · exact .atom v ha
  · simp only [ha, Bool.false_or] at h
    unfold bareV at h
    split at h
    · exact VR.func_of _ LR.nil LR.nil
    · cases h
theorem flat_vr : ∀ (d : Nat) (v : Value), flat d v = true → VR ρ V v v := by
  intro d
  induction d with
  | zero => intro v h; exact bare_vr (by simpa [flat] using h)
  | succ d ih =>
    intro v h
    cases v with
    | iface t v => exact .iface _ _ _ (ih _ (by simpa only [flat] using h))
    | agg cs =>
      obtain ⟨l⟩ := cs
      refine VR.agg_of (LR.refl_of fun v hv => ih v ?_)
      simp [flat] at h
      exact h v hv
    | tuple cs =>
      obtain ⟨l⟩ := cs
      refine VR.tuple_of (LR.refl_of fun v hv => ih v ?_)
      simp [flat] at h
      exact h v hv
    | _ => exact bare_vr (by simpa only [flat] using h)
/-- a flat value stands for itself alone -/
theorem bare_eq {v v' : Value} (h : (atomV v || bareV v) = true) (k : VR ρ V v v') : v' = v := by
  cases k with
  | atom v h => rfl
  | func f xs xs' ys ys' hx hy kx ky =>
    simp only [atomV, Bool.false_or] at h
    unfold bareV at h
    split at h
    · rename_i heq
      cases heq
      have h1 : xs' = [] := List.eq_nil_of_length_eq_zero (by simpa using hx)
      have h2 : ys' = [] := List.eq_nil_of_length_eq_zero (by simpa using hy)
      rw [h1, h2]
    · cases h
  | _ => simp [atomV, bareV] at h
theorem list_eq {l l' : List Value} (k : LR ρ V l l') (h : ∀ v v', v ∈ l → VR ρ V v v' → v' = v) : l' = l := by
  induction l generalizing l' with
  | nil => exact k.nil_inv
  | cons v l ih =>
    obtain ⟨v', l'', rfl, hv, hl⟩ := k.cons_inv
    rw [h v v' (by simp) hv, ih hl fun x x' hx => h x x' (by simp [hx])]
theorem flat_eq : ∀ (d : Nat) (v v' : Value), flat d v = true → VR ρ V v v' → v' = v := by
  intro d
  induction d with
  | zero => intro v v' h k; exact bare_eq (by simpa [flat] using h) k
  | succ d ih =>
    intro v v' h k
    cases v with
    | iface t v =>
      cases k with
      | atom => rfl
      | iface t v v' hk => rw [ih _ _ (by simpa only [flat] using h) hk]
    | agg cs =>
      cases k with
      | atom => rfl
      | agg xs xs' hx kx =>
        simp [flat] at h
        rw [list_eq ⟨hx, kx⟩ fun x x' hm hv => ih x x' (h x hm) hv]
    | tuple cs =>
      cases k with
      | atom => rfl
      | tuple xs xs' hx kx =>
        simp [flat] at h
        rw [list_eq ⟨hx, kx⟩ fun x x' hm hv => ih x x' (h x hm) hv]
    | _ => exact bare_eq (by simpa only [flat] using h) k
end

/-! ### What is pure -/
theorem pr_run {α : Type} (P : Program) (s : Sem α) : ∀ {a : α}, pr P s = some a → ∀ w, s.run P w = .ok a w := by
  induction s with
  | pure a => intro b h w; simp [pr] at h; subst h; rfl
  | program k ih => intro b h w; simp only [pr] at h; exact ih P h w
  | mark m k ih => intro b h w; simp only [pr] at h; exact ih h w
  | choose q k ih =>
    intro b h w
    simp only [pr] at h
    split at h
    · rename_i hq
      simp only [Sem.run, hq, if_true]
      exact ih 0 h w
    · cases h
  | _ => intro b h w; simp [pr] at h

/-! ### Memory: the machine's against ours -/
def live : Blk → Bool
  | .dead => false
  | _ => true
def frozenAt (fz : Nat × Nat) (i : Nat) : Bool := decide (fz.1 ≤ i) && decide (i < fz.2)
def okCodes : Option Code → Bool
  | none | some .ret | some (.exit _) | some (.goto _) => true
  | _ => false

/-- operands that stand for the same in both -/
def okX (ng : Nat) : Operand → Bool
  | .tmp _ => true
  | .const v => flat 3 v
  | .global g => decide (g < ng)
  | .func _ => true
def okXs (ng : Nat) (l : List Operand) : Bool := l.all (okX ng)
def okO (ng : Nat) (o : Oper) : Bool := okXs ng o.op.operands.toList
/-- the temporaries that an operation names -/
def tmpsOf : List Operand → List Nat
  | [] => []
  | .tmp t :: l => t :: tmpsOf l
  | _ :: l => tmpsOf l
def usesT (ops : List Oper) (o : Oper) : List Nat :=
  o.dst.toList ++ tmpsOf o.op.operands.toList ++ (match o.guard with | some (j, _) => ((ops[j]?).bind (·.dst)).toList | none => [])
def apartT (ops : List Oper) (a b : Oper) : Bool := (match a.dst with | none => true | some d => !decide (d ∈ usesT ops b)) && (match b.dst with | none => true | some d => !decide (d ∈ usesT ops a))
/-- an order of all that one compiler's edges allow -/
def okOrder (md : Region.Mode) (ops : List Oper) : List Nat → List Nat → Bool
  | [], done => (List.range ops.length).all fun i => decide (i ∈ done)
  | i :: l, done => (match ops[i]? with | some o => o.after.toList.all fun e => !Region.binds md e || decide (e.on ∈ done) | none => false) && okOrder md ops l (i :: done)
def okGc (ops : List Oper) : Bool := !(Region.departs ⟨ops⟩) || okOrder .gc ops (Region.linearise .gc ⟨ops⟩ 0) []
/-- what is asked of a region that draws its order: what one operation writes another names only in one order -/
def okDraw (tab : List Nat) (ops : List Oper) : Bool :=
  okGc ops &&
  (List.range ops.length).all fun j => (List.range j).all fun i => ordered tab i j ||
    match ops[i]?, ops[j]? with
    | some a, some b => apartT ops a b
    | _, _ => false
def okEdges (ops : List Oper) : Bool :=
  (List.range ops.length).all fun i => match ops[i]? with
    | some o => o.after.toList.all fun e => !Region.binds .text e || decide (e.on < i)
    | none => false
def okC (ng : Nat) : Code → Bool
  | .region _ ops draw => ops.toList.all (okO ng) && (!draw || (okDraw (ordTab ops.toList []) ops.toList && okEdges ops.toList))
  | .seq a b => okC ng a && okC ng b
  | .cond c a b => okX ng c && okC ng a && okC ng b
  | .block _ a => okC ng a
  | .loop a => okC ng a
  | .rangeFunc f _ a b => okX ng f && okC ng a && okC ng b
  | .scope a => okC ng a
  | _ => true

structure Cx where
  P : Program
  ext : Ext
  w0 : World
  ng : Nat

structure LoopR (ρ : Map) (V : Nat → Prop) (ng : Nat) (z z' : Loop) : Prop where
  state : z'.state = z.state
  pending : z'.pending = z.pending
  fn : z'.fn = z.fn
  params : z'.params = z.params
  assign : z'.assign = z.assign
  body : z'.body = z.body
  tmps : LR ρ V z.tmps.toList z'.tmps.toList
  defers : V z.defers ∧ z'.defers = (ρ z.defers).r
  oka : okC ng z.assign = true
  okb : okC ng z.body = true
  okp : okCodes z.pending = true

inductive BR (ρ : Map) (V : Nat → Prop) (ng N0 : Nat) (p : Pl) : Blk → Obj → Prop where
  | cells (el es : Nat) (own : Bool) (cs : List Value) (C : Array Value) (el' : TypeId) (fz : Nat × Nat) (h0 : own = true → el' = el) (h1 : p.sz = C.size) (h2 : p.es = es) (h3 : cs.length ≤ C.size)
      (h4 : LR ρ V cs (C.toList.take cs.length)) (h5 : own = true → N0 ≤ p.r ∧ ∀ i, i < C.size → frozenAt fz i = false) (h6 : own = false → p.r < N0) : BR ρ V ng N0 p (.cells el es own cs) (.cells C el' fz)
  | iter (s : ByteArray) (pos : Nat) (h : N0 ≤ p.r) : BR ρ V ng N0 p (.iter s pos) (.stringIter s pos)
  | loop (z z' : Loop) (h : N0 ≤ p.r) (hz : LoopR ρ V ng z z') : BR ρ V ng N0 p (.loop z) (.loop z')
  | defs (h : N0 ≤ p.r) : BR ρ V ng N0 p .defs (.deferred (some []))

structure Rel (c : Cx) (ρ : Map) (V : Nat → Prop) (hp : Hp Blk) (w : World) : Prop where
  glob : ∀ g, g < c.ng → V g ∧ (ρ g).r = g
  blk : ∀ b k, V b → hp.get b = some k → live k = true → ∃ o, w.heap[(ρ b).r]? = some o ∧ BR ρ V c.ng c.w0.heap.size (ρ b) k o
  inj : ∀ b1 k1 b2 k2, V b1 → V b2 → hp.get b1 = some k1 → hp.get b2 = some k2 → live k1 = true → live k2 = true → (ρ b1).r = (ρ b2).r → c.w0.heap.size ≤ (ρ b1).r → b1 = b2
  below : Below c.w0.heap.size c.w0 w

theorem LoopR.mono {ρ ρ' : Map} {V V' : Nat → Prop} {ng : Nat} {z z' : Loop} (hs : SameOn V ρ ρ') (hB : ∀ b, V b → V' b) (h : LoopR ρ V ng z z') : LoopR ρ' V' ng z z' :=
  { h with tmps := h.tmps.mono hs hB, defers := ⟨hB _ h.defers.1, by rw [hs _ h.defers.1]; exact h.defers.2⟩ }
theorem BR.mono {ρ ρ' : Map} {V V' : Nat → Prop} {ng N0 : Nat} {p : Pl} {k : Blk} {o : Obj} (hs : SameOn V ρ ρ') (hB : ∀ b, V b → V' b) (h : BR ρ V ng N0 p k o) : BR ρ' V' ng N0 p k o := by
  cases h with
  | cells el es own cs C el' fz h0 h1 h2 h3 h4 h5 h6 => exact .cells el es own cs C el' fz h0 h1 h2 h3 (h4.mono hs hB) h5 h6
  | iter s pos h => exact .iter s pos h
  | loop z z' h hz => exact .loop z z' h (hz.mono hs hB)
  | defs h => exact .defs h

/-- V, and what has been made since -/
def VU (V : Nat → Prop) (n m : Nat) : Nat → Prop := fun b => V b ∨ (n ≤ b ∧ b < m)
theorem VU.self (V : Nat → Prop) (n : Nat) : VU V n n = V := by
  funext b
  refine propext ⟨fun h => h.elim id fun h => by omega, .inl⟩
theorem VU.trans (V : Nat → Prop) {a b c : Nat} (h : a ≤ b) (k : b ≤ c) : VU (VU V a b) b c = VU V a c := by
  funext x
  refine propext ⟨?_, ?_⟩
  · rintro ((h1 | h1) | h1)
    · exact .inl h1
    · exact .inr (by omega)
    · exact .inr (by omega)
  · rintro (h1 | h1)
    · exact .inl (.inl h1)
    · rcases Nat.lt_or_ge x b with h2 | h2
      · exact .inl (.inr (by omega))
      · exact .inr (by omega)
/-- what is to be made is not there yet -/
def Free (V : Nat → Prop) (n m : Nat) : Prop := ∀ b, n ≤ b → b < m → ¬ V b
theorem SameOn.refl (V : Nat → Prop) (ρ : Map) : SameOn V ρ ρ := fun _ _ => rfl
theorem SameOn.trans {V V' : Nat → Prop} {a b c : Map} (h : SameOn V a b) (hV : ∀ x, V x → V' x) (k : SameOn V' b c) : SameOn V a c := fun x hx => (k x (hV x hx)).trans (h x hx)
theorem VU.sub {V : Nat → Prop} {n m : Nat} : ∀ b, V b → VU V n m b := fun _ h => .inl h

theorem Rel.drew {c : Cx} {ρ : Map} {V : Nat → Prop} {hp : Hp Blk} {w : World} (h : Rel c ρ V hp w) : Rel c ρ V hp w.drew := ⟨h.glob, h.blk, h.inj, h.below.drew⟩
/-- A NEW BLOCK. -/
theorem Rel.new {c : Cx} {ρ : Map} {V : Nat → Prop} {hp : Hp Blk} {w : World} (h : Rel c ρ V hp w) (n : Nat) (hn : ¬ V n) (p : Pl) (hr : p.r = w.heap.size) (k : Blk) (o : Obj)
    (hk : ∀ ρ', SameOn V ρ ρ' → ρ' n = p → BR ρ' (VU V n (n + 1)) c.ng c.w0.heap.size p k o) :
    Rel c (fun b => if b = n then p else ρ b) (VU V n (n + 1)) (hp.set k n) (w.alloc o) := by
  have hs : SameOn V ρ (fun b => if b = n then p else ρ b) := fun b hb => by
    simp only
    rw [if_neg]
    rintro rfl
    exact hn hb
  have hsz : ∀ b k', V b → hp.get b = some k' → live k' = true → (ρ b).r < w.heap.size := by
    intro b k' hb hg hl
    obtain ⟨o', ho, _⟩ := h.blk b k' hb hg hl
    exact (Array.getElem?_eq_some_iff.1 ho).1
  have old : ∀ b, VU V n (n + 1) b → b ≠ n → V b := by
    rintro b (hb | hb) hne
    · exact hb
    · omega
  refine ⟨fun g hg => ⟨.inl (h.glob g hg).1, (congrArg Pl.r (hs g (h.glob g hg).1)).trans (h.glob g hg).2⟩, fun b k' hb hg hl => ?_, fun b1 k1 b2 k2 v1 v2 g1 g2 l1 l2 hr12 hN => ?_, h.below.alloc h.below.size o⟩
  · rw [Hp.get_set] at hg
    by_cases e : b = n
    · subst e
      rw [if_pos rfl] at hg
      obtain rfl := Option.some.inj hg
      simp only [if_true]
      exact ⟨o, by rw [hr]; exact heap_alloc_new w o, hk _ hs (by simp)⟩
    · rw [if_neg e] at hg
      obtain ⟨o', ho, hb'⟩ := h.blk b k' (old b hb e) hg hl
      simp only [if_neg e]
      exact ⟨o', by rw [heap_alloc_old w o _ (hsz b k' (old b hb e) hg hl)]; exact ho, hb'.mono hs VU.sub⟩
  · rw [Hp.get_set] at g1 g2
    by_cases e1 : b1 = n
    · by_cases e2 : b2 = n
      · rw [e1, e2]
      · rw [if_neg e2] at g2
        simp only [if_pos e1, if_neg e2] at hr12
        have := hsz b2 k2 (old b2 v2 e2) g2 l2
        omega
    · rw [if_neg e1] at g1
      by_cases e2 : b2 = n
      · simp only [if_neg e1, if_pos e2] at hr12
        have := hsz b1 k1 (old b1 v1 e1) g1 l1
        omega
      · rw [if_neg e2] at g2
        simp only [if_neg e1, if_neg e2] at hr12 hN
        exact h.inj b1 k1 b2 k2 (old b1 v1 e1) (old b2 v2 e2) g1 g2 l1 l2 hr12 hN
/-- A BLOCK TURNED, with what it stands for. -/
theorem Rel.turn {c : Cx} {ρ : Map} {V : Nat → Prop} {hp : Hp Blk} {w w' : World} (h : Rel c ρ V hp w) (b : Nat) (hb : V b) (k k' : Blk) (hg : hp.get b = some k) (hl : live k = true)
    (hN : c.w0.heap.size ≤ (ρ b).r) (o : Obj) (hsz : w.heap.size ≤ w'.heap.size) (hos : w'.os = w.os) (htape : w'.tape = w.tape) (hout : w'.output = w.output)
    (hkeep : ∀ r, r ≠ (ρ b).r → r < w.heap.size → w'.heap[r]? = w.heap[r]?) (hnew : live k' = true → w'.heap[(ρ b).r]? = some o ∧ BR ρ V c.ng c.w0.heap.size (ρ b) k' o) :
    Rel c ρ V (hp.set k' b) w' := by
  refine ⟨h.glob, fun x kx hx hgx hlx => ?_, fun b1 k1 b2 k2 v1 v2 g1 g2 l1 l2 hr12 hN' => ?_, ?_⟩
  · rw [Hp.get_set] at hgx
    by_cases e : x = b
    · subst e
      rw [if_pos rfl] at hgx
      obtain rfl := Option.some.inj hgx
      exact ⟨o, hnew hlx⟩
    · rw [if_neg e] at hgx
      obtain ⟨o', ho, hbr⟩ := h.blk x kx hx hgx hlx
      refine ⟨o', ?_, hbr⟩
      rw [hkeep _ (fun he => e ?_) (Array.getElem?_eq_some_iff.1 ho).1]
      · exact ho
      · exact h.inj x kx b k hx hb hgx hg hlx hl he (by rw [he]; exact hN)
  · rw [Hp.get_set] at g1 g2
    have f1 : ∃ k1', hp.get b1 = some k1' ∧ live k1' = true := by
      by_cases e : b1 = b
      · rw [e]; exact ⟨k, hg, hl⟩
      · rw [if_neg e] at g1; exact ⟨k1, g1, l1⟩
    have f2 : ∃ k2', hp.get b2 = some k2' ∧ live k2' = true := by
      by_cases e : b2 = b
      · rw [e]; exact ⟨k, hg, hl⟩
      · rw [if_neg e] at g2; exact ⟨k2, g2, l2⟩
    obtain ⟨k1', g1', l1'⟩ := f1
    obtain ⟨k2', g2', l2'⟩ := f2
    exact h.inj b1 k1' b2 k2' v1 v2 g1' g2' l1' l2' hr12 hN'
  · refine ⟨hos.trans h.below.os, htape.trans h.below.tape, hout.trans h.below.output, Nat.le_trans h.below.size hsz, fun r hr => ?_⟩
    rw [hkeep r (by omega) (Nat.lt_of_lt_of_le hr h.below.size)]
    exact h.below.block r hr
end Go.AM
