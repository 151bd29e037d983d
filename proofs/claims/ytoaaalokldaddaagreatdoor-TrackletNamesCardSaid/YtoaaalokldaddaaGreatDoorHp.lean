import GoSem.Step
set_option linter.unusedVariables false
set_option linter.unusedSimpArgs false
namespace Go.AM
open Go
/-! A memory of numbered things: four levels of sixteen, and a tree behind them. -/
noncomputable section
structure N16 (α : Type) where
  c0 : α
  c1 : α
  c2 : α
  c3 : α
  c4 : α
  c5 : α
  c6 : α
  c7 : α
  c8 : α
  c9 : α
  c10 : α
  c11 : α
  c12 : α
  c13 : α
  c14 : α
  c15 : α
inductive Bx (α : Type) where
  | mk (g : N16 α → α) (p : α → N16 α → N16 α) (m : (α → (α → Option Value) → Option Value) → N16 α → (N16 α → Option Value) → Option Value)
def N16.g0 {α : Type} (n : N16 α) : α := n.c0
def N16.p0 {α : Type} (x : α) (n : N16 α) : N16 α := N16.rec (motive := fun _ => N16 α) (fun a0 a1 a2 a3 a4 a5 a6 a7 a8 a9 a10 a11 a12 a13 a14 a15 => N16.mk x a1 a2 a3 a4 a5 a6 a7 a8 a9 a10 a11 a12 a13 a14 a15) n
def N16.g1 {α : Type} (n : N16 α) : α := n.c1
def N16.p1 {α : Type} (x : α) (n : N16 α) : N16 α := N16.rec (motive := fun _ => N16 α) (fun a0 a1 a2 a3 a4 a5 a6 a7 a8 a9 a10 a11 a12 a13 a14 a15 => N16.mk a0 x a2 a3 a4 a5 a6 a7 a8 a9 a10 a11 a12 a13 a14 a15) n
def N16.g2 {α : Type} (n : N16 α) : α := n.c2
def N16.p2 {α : Type} (x : α) (n : N16 α) : N16 α := N16.rec (motive := fun _ => N16 α) (fun a0 a1 a2 a3 a4 a5 a6 a7 a8 a9 a10 a11 a12 a13 a14 a15 => N16.mk a0 a1 x a3 a4 a5 a6 a7 a8 a9 a10 a11 a12 a13 a14 a15) n
def N16.g3 {α : Type} (n : N16 α) : α := n.c3
def N16.p3 {α : Type} (x : α) (n : N16 α) : N16 α := N16.rec (motive := fun _ => N16 α) (fun a0 a1 a2 a3 a4 a5 a6 a7 a8 a9 a10 a11 a12 a13 a14 a15 => N16.mk a0 a1 a2 x a4 a5 a6 a7 a8 a9 a10 a11 a12 a13 a14 a15) n
def N16.g4 {α : Type} (n : N16 α) : α := n.c4
def N16.p4 {α : Type} (x : α) (n : N16 α) : N16 α := N16.rec (motive := fun _ => N16 α) (fun a0 a1 a2 a3 a4 a5 a6 a7 a8 a9 a10 a11 a12 a13 a14 a15 => N16.mk a0 a1 a2 a3 x a5 a6 a7 a8 a9 a10 a11 a12 a13 a14 a15) n
def N16.g5 {α : Type} (n : N16 α) : α := n.c5
def N16.p5 {α : Type} (x : α) (n : N16 α) : N16 α := N16.rec (motive := fun _ => N16 α) (fun a0 a1 a2 a3 a4 a5 a6 a7 a8 a9 a10 a11 a12 a13 a14 a15 => N16.mk a0 a1 a2 a3 a4 x a6 a7 a8 a9 a10 a11 a12 a13 a14 a15) n
def N16.g6 {α : Type} (n : N16 α) : α := n.c6
def N16.p6 {α : Type} (x : α) (n : N16 α) : N16 α := N16.rec (motive := fun _ => N16 α) (fun a0 a1 a2 a3 a4 a5 a6 a7 a8 a9 a10 a11 a12 a13 a14 a15 => N16.mk a0 a1 a2 a3 a4 a5 x a7 a8 a9 a10 a11 a12 a13 a14 a15) n
def N16.g7 {α : Type} (n : N16 α) : α := n.c7
def N16.p7 {α : Type} (x : α) (n : N16 α) : N16 α := N16.rec (motive := fun _ => N16 α) (fun a0 a1 a2 a3 a4 a5 a6 a7 a8 a9 a10 a11 a12 a13 a14 a15 => N16.mk a0 a1 a2 a3 a4 a5 a6 x a8 a9 a10 a11 a12 a13 a14 a15) n
def N16.g8 {α : Type} (n : N16 α) : α := n.c8
def N16.p8 {α : Type} (x : α) (n : N16 α) : N16 α := N16.rec (motive := fun _ => N16 α) (fun a0 a1 a2 a3 a4 a5 a6 a7 a8 a9 a10 a11 a12 a13 a14 a15 => N16.mk a0 a1 a2 a3 a4 a5 a6 a7 x a9 a10 a11 a12 a13 a14 a15) n
def N16.g9 {α : Type} (n : N16 α) : α := n.c9
def N16.p9 {α : Type} (x : α) (n : N16 α) : N16 α := N16.rec (motive := fun _ => N16 α) (fun a0 a1 a2 a3 a4 a5 a6 a7 a8 a9 a10 a11 a12 a13 a14 a15 => N16.mk a0 a1 a2 a3 a4 a5 a6 a7 a8 x a10 a11 a12 a13 a14 a15) n
def N16.g10 {α : Type} (n : N16 α) : α := n.c10
def N16.p10 {α : Type} (x : α) (n : N16 α) : N16 α := N16.rec (motive := fun _ => N16 α) (fun a0 a1 a2 a3 a4 a5 a6 a7 a8 a9 a10 a11 a12 a13 a14 a15 => N16.mk a0 a1 a2 a3 a4 a5 a6 a7 a8 a9 x a11 a12 a13 a14 a15) n
def N16.g11 {α : Type} (n : N16 α) : α := n.c11
def N16.p11 {α : Type} (x : α) (n : N16 α) : N16 α := N16.rec (motive := fun _ => N16 α) (fun a0 a1 a2 a3 a4 a5 a6 a7 a8 a9 a10 a11 a12 a13 a14 a15 => N16.mk a0 a1 a2 a3 a4 a5 a6 a7 a8 a9 a10 x a12 a13 a14 a15) n
def N16.g12 {α : Type} (n : N16 α) : α := n.c12
def N16.p12 {α : Type} (x : α) (n : N16 α) : N16 α := N16.rec (motive := fun _ => N16 α) (fun a0 a1 a2 a3 a4 a5 a6 a7 a8 a9 a10 a11 a12 a13 a14 a15 => N16.mk a0 a1 a2 a3 a4 a5 a6 a7 a8 a9 a10 a11 x a13 a14 a15) n
def N16.g13 {α : Type} (n : N16 α) : α := n.c13
def N16.p13 {α : Type} (x : α) (n : N16 α) : N16 α := N16.rec (motive := fun _ => N16 α) (fun a0 a1 a2 a3 a4 a5 a6 a7 a8 a9 a10 a11 a12 a13 a14 a15 => N16.mk a0 a1 a2 a3 a4 a5 a6 a7 a8 a9 a10 a11 a12 x a14 a15) n
def N16.g14 {α : Type} (n : N16 α) : α := n.c14
def N16.p14 {α : Type} (x : α) (n : N16 α) : N16 α := N16.rec (motive := fun _ => N16 α) (fun a0 a1 a2 a3 a4 a5 a6 a7 a8 a9 a10 a11 a12 a13 a14 a15 => N16.mk a0 a1 a2 a3 a4 a5 a6 a7 a8 a9 a10 a11 a12 a13 x a15) n
def N16.g15 {α : Type} (n : N16 α) : α := n.c15
def N16.p15 {α : Type} (x : α) (n : N16 α) : N16 α := N16.rec (motive := fun _ => N16 α) (fun a0 a1 a2 a3 a4 a5 a6 a7 a8 a9 a10 a11 a12 a13 a14 a15 => N16.mk a0 a1 a2 a3 a4 a5 a6 a7 a8 a9 a10 a11 a12 a13 a14 x) n
def N16.m0 {α : Type} (f : α → (α → Option Value) → Option Value) (n : N16 α) (k : N16 α → Option Value) : Option Value := N16.rec (motive := fun _ => Option Value) (fun a0 a1 a2 a3 a4 a5 a6 a7 a8 a9 a10 a11 a12 a13 a14 a15 => f a0 fun x => k (N16.mk x a1 a2 a3 a4 a5 a6 a7 a8 a9 a10 a11 a12 a13 a14 a15)) n
def N16.m1 {α : Type} (f : α → (α → Option Value) → Option Value) (n : N16 α) (k : N16 α → Option Value) : Option Value := N16.rec (motive := fun _ => Option Value) (fun a0 a1 a2 a3 a4 a5 a6 a7 a8 a9 a10 a11 a12 a13 a14 a15 => f a1 fun x => k (N16.mk a0 x a2 a3 a4 a5 a6 a7 a8 a9 a10 a11 a12 a13 a14 a15)) n
def N16.m2 {α : Type} (f : α → (α → Option Value) → Option Value) (n : N16 α) (k : N16 α → Option Value) : Option Value := N16.rec (motive := fun _ => Option Value) (fun a0 a1 a2 a3 a4 a5 a6 a7 a8 a9 a10 a11 a12 a13 a14 a15 => f a2 fun x => k (N16.mk a0 a1 x a3 a4 a5 a6 a7 a8 a9 a10 a11 a12 a13 a14 a15)) n
def N16.m3 {α : Type} (f : α → (α → Option Value) → Option Value) (n : N16 α) (k : N16 α → Option Value) : Option Value := N16.rec (motive := fun _ => Option Value) (fun a0 a1 a2 a3 a4 a5 a6 a7 a8 a9 a10 a11 a12 a13 a14 a15 => f a3 fun x => k (N16.mk a0 a1 a2 x a4 a5 a6 a7 a8 a9 a10 a11 a12 a13 a14 a15)) n
def N16.m4 {α : Type} (f : α → (α → Option Value) → Option Value) (n : N16 α) (k : N16 α → Option Value) : Option Value := N16.rec (motive := fun _ => Option Value) (fun a0 a1 a2 a3 a4 a5 a6 a7 a8 a9 a10 a11 a12 a13 a14 a15 => f a4 fun x => k (N16.mk a0 a1 a2 a3 x a5 a6 a7 a8 a9 a10 a11 a12 a13 a14 a15)) n
def N16.m5 {α : Type} (f : α → (α → Option Value) → Option Value) (n : N16 α) (k : N16 α → Option Value) : Option Value := N16.rec (motive := fun _ => Option Value) (fun a0 a1 a2 a3 a4 a5 a6 a7 a8 a9 a10 a11 a12 a13 a14 a15 => f a5 fun x => k (N16.mk a0 a1 a2 a3 a4 x a6 a7 a8 a9 a10 a11 a12 a13 a14 a15)) n
def N16.m6 {α : Type} (f : α → (α → Option Value) → Option Value) (n : N16 α) (k : N16 α → Option Value) : Option Value := N16.rec (motive := fun _ => Option Value) (fun a0 a1 a2 a3 a4 a5 a6 a7 a8 a9 a10 a11 a12 a13 a14 a15 => f a6 fun x => k (N16.mk a0 a1 a2 a3 a4 a5 x a7 a8 a9 a10 a11 a12 a13 a14 a15)) n
def N16.m7 {α : Type} (f : α → (α → Option Value) → Option Value) (n : N16 α) (k : N16 α → Option Value) : Option Value := N16.rec (motive := fun _ => Option Value) (fun a0 a1 a2 a3 a4 a5 a6 a7 a8 a9 a10 a11 a12 a13 a14 a15 => f a7 fun x => k (N16.mk a0 a1 a2 a3 a4 a5 a6 x a8 a9 a10 a11 a12 a13 a14 a15)) n
def N16.m8 {α : Type} (f : α → (α → Option Value) → Option Value) (n : N16 α) (k : N16 α → Option Value) : Option Value := N16.rec (motive := fun _ => Option Value) (fun a0 a1 a2 a3 a4 a5 a6 a7 a8 a9 a10 a11 a12 a13 a14 a15 => f a8 fun x => k (N16.mk a0 a1 a2 a3 a4 a5 a6 a7 x a9 a10 a11 a12 a13 a14 a15)) n
def N16.m9 {α : Type} (f : α → (α → Option Value) → Option Value) (n : N16 α) (k : N16 α → Option Value) : Option Value := N16.rec (motive := fun _ => Option Value) (fun a0 a1 a2 a3 a4 a5 a6 a7 a8 a9 a10 a11 a12 a13 a14 a15 => f a9 fun x => k (N16.mk a0 a1 a2 a3 a4 a5 a6 a7 a8 x a10 a11 a12 a13 a14 a15)) n
def N16.m10 {α : Type} (f : α → (α → Option Value) → Option Value) (n : N16 α) (k : N16 α → Option Value) : Option Value := N16.rec (motive := fun _ => Option Value) (fun a0 a1 a2 a3 a4 a5 a6 a7 a8 a9 a10 a11 a12 a13 a14 a15 => f a10 fun x => k (N16.mk a0 a1 a2 a3 a4 a5 a6 a7 a8 a9 x a11 a12 a13 a14 a15)) n
def N16.m11 {α : Type} (f : α → (α → Option Value) → Option Value) (n : N16 α) (k : N16 α → Option Value) : Option Value := N16.rec (motive := fun _ => Option Value) (fun a0 a1 a2 a3 a4 a5 a6 a7 a8 a9 a10 a11 a12 a13 a14 a15 => f a11 fun x => k (N16.mk a0 a1 a2 a3 a4 a5 a6 a7 a8 a9 a10 x a12 a13 a14 a15)) n
def N16.m12 {α : Type} (f : α → (α → Option Value) → Option Value) (n : N16 α) (k : N16 α → Option Value) : Option Value := N16.rec (motive := fun _ => Option Value) (fun a0 a1 a2 a3 a4 a5 a6 a7 a8 a9 a10 a11 a12 a13 a14 a15 => f a12 fun x => k (N16.mk a0 a1 a2 a3 a4 a5 a6 a7 a8 a9 a10 a11 x a13 a14 a15)) n
def N16.m13 {α : Type} (f : α → (α → Option Value) → Option Value) (n : N16 α) (k : N16 α → Option Value) : Option Value := N16.rec (motive := fun _ => Option Value) (fun a0 a1 a2 a3 a4 a5 a6 a7 a8 a9 a10 a11 a12 a13 a14 a15 => f a13 fun x => k (N16.mk a0 a1 a2 a3 a4 a5 a6 a7 a8 a9 a10 a11 a12 x a14 a15)) n
def N16.m14 {α : Type} (f : α → (α → Option Value) → Option Value) (n : N16 α) (k : N16 α → Option Value) : Option Value := N16.rec (motive := fun _ => Option Value) (fun a0 a1 a2 a3 a4 a5 a6 a7 a8 a9 a10 a11 a12 a13 a14 a15 => f a14 fun x => k (N16.mk a0 a1 a2 a3 a4 a5 a6 a7 a8 a9 a10 a11 a12 a13 x a15)) n
def N16.m15 {α : Type} (f : α → (α → Option Value) → Option Value) (n : N16 α) (k : N16 α → Option Value) : Option Value := N16.rec (motive := fun _ => Option Value) (fun a0 a1 a2 a3 a4 a5 a6 a7 a8 a9 a10 a11 a12 a13 a14 a15 => f a15 fun x => k (N16.mk a0 a1 a2 a3 a4 a5 a6 a7 a8 a9 a10 a11 a12 a13 a14 x)) n
def bx (α : Type) (d : Nat) : Bx α := (Bool.rec (motive := fun _ => Bx α) (Bool.rec (motive := fun _ => Bx α) (Bool.rec (motive := fun _ => Bx α) (Bool.rec (motive := fun _ => Bx α) (Bx.mk N16.g0 N16.p0 N16.m0) (Bx.mk N16.g1 N16.p1 N16.m1) (Nat.ble (nat_lit 1) d)) (Bool.rec (motive := fun _ => Bx α) (Bx.mk N16.g2 N16.p2 N16.m2) (Bx.mk N16.g3 N16.p3 N16.m3) (Nat.ble (nat_lit 3) d)) (Nat.ble (nat_lit 2) d)) (Bool.rec (motive := fun _ => Bx α) (Bool.rec (motive := fun _ => Bx α) (Bx.mk N16.g4 N16.p4 N16.m4) (Bx.mk N16.g5 N16.p5 N16.m5) (Nat.ble (nat_lit 5) d)) (Bool.rec (motive := fun _ => Bx α) (Bx.mk N16.g6 N16.p6 N16.m6) (Bx.mk N16.g7 N16.p7 N16.m7) (Nat.ble (nat_lit 7) d)) (Nat.ble (nat_lit 6) d)) (Nat.ble (nat_lit 4) d)) (Bool.rec (motive := fun _ => Bx α) (Bool.rec (motive := fun _ => Bx α) (Bool.rec (motive := fun _ => Bx α) (Bx.mk N16.g8 N16.p8 N16.m8) (Bx.mk N16.g9 N16.p9 N16.m9) (Nat.ble (nat_lit 9) d)) (Bool.rec (motive := fun _ => Bx α) (Bx.mk N16.g10 N16.p10 N16.m10) (Bx.mk N16.g11 N16.p11 N16.m11) (Nat.ble (nat_lit 11) d)) (Nat.ble (nat_lit 10) d)) (Bool.rec (motive := fun _ => Bx α) (Bool.rec (motive := fun _ => Bx α) (Bx.mk N16.g12 N16.p12 N16.m12) (Bx.mk N16.g13 N16.p13 N16.m13) (Nat.ble (nat_lit 13) d)) (Bool.rec (motive := fun _ => Bx α) (Bx.mk N16.g14 N16.p14 N16.m14) (Bx.mk N16.g15 N16.p15 N16.m15) (Nat.ble (nat_lit 15) d)) (Nat.ble (nat_lit 14) d)) (Nat.ble (nat_lit 12) d)) (Nat.ble (nat_lit 8) d))
def Bx.g {α : Type} (b : Bx α) (n : N16 α) : α := Bx.rec (motive := fun _ => α) (fun g p _ => g n) b
def Bx.p {α : Type} (b : Bx α) (x : α) (n : N16 α) : N16 α := Bx.rec (motive := fun _ => N16 α) (fun g p _ => p x n) b
def Bx.m {α : Type} (b : Bx α) (f : α → (α → Option Value) → Option Value) (n : N16 α) (k : N16 α → Option Value) : Option Value := Bx.rec (motive := fun _ => Option Value) (fun g p q => q f n k) b
def dg {β : Type} (n : Nat) (k : Nat → β) : β := Nat.rec (motive := fun _ => β) (k (nat_lit 0)) (fun m _ => k (Nat.succ m)) n
theorem dg_eq {β : Type} (n : Nat) (k : Nat → β) : dg n k = k n := by cases n <;> rfl
theorem bx_gp {α : Type} (d d' : Nat) (h : d < 16) (h' : d' < 16) (x : α) (n : N16 α) : (bx α d').g ((bx α d).p x n) = if d' = d then x else (bx α d').g n := by
  have hd : d = 0 ∨ d = 1 ∨ d = 2 ∨ d = 3 ∨ d = 4 ∨ d = 5 ∨ d = 6 ∨ d = 7 ∨ d = 8 ∨ d = 9 ∨ d = 10 ∨ d = 11 ∨ d = 12 ∨ d = 13 ∨ d = 14 ∨ d = 15 := by omega
  have hd' : d' = 0 ∨ d' = 1 ∨ d' = 2 ∨ d' = 3 ∨ d' = 4 ∨ d' = 5 ∨ d' = 6 ∨ d' = 7 ∨ d' = 8 ∨ d' = 9 ∨ d' = 10 ∨ d' = 11 ∨ d' = 12 ∨ d' = 13 ∨ d' = 14 ∨ d' = 15 := by omega
  cases n
  rcases hd with h | h | h | h | h | h | h | h | h | h | h | h | h | h | h | h <;> subst h <;>
    rcases hd' with h | h | h | h | h | h | h | h | h | h | h | h | h | h | h | h <;> subst h <;> rfl


theorem bx_m {α : Type} (d : Nat) (h : d < 16) (f : α → (α → Option Value) → Option Value) (n : N16 α) (k : N16 α → Option Value) : (bx α d).m f n k = f ((bx α d).g n) fun x => k ((bx α d).p x n) := by
  have hd : d = 0 ∨ d = 1 ∨ d = 2 ∨ d = 3 ∨ d = 4 ∨ d = 5 ∨ d = 6 ∨ d = 7 ∨ d = 8 ∨ d = 9 ∨ d = 10 ∨ d = 11 ∨ d = 12 ∨ d = 13 ∨ d = 14 ∨ d = 15 := by omega
  cases n
  rcases hd with h | h | h | h | h | h | h | h | h | h | h | h | h | h | h | h <;> subst h <;> rfl
abbrev Hp4 (α : Type) : Type := N16 (N16 (N16 (N16 (Option α))))
def hd3 (b : Nat) : Nat := Nat.mod (Nat.shiftRight b (nat_lit 12)) (nat_lit 16)
def hd2 (b : Nat) : Nat := Nat.mod (Nat.shiftRight b (nat_lit 8)) (nat_lit 16)
def hd1 (b : Nat) : Nat := Nat.mod (Nat.shiftRight b (nat_lit 4)) (nat_lit 16)
def hd0 (b : Nat) : Nat := Nat.mod b (nat_lit 16)
def h4get {α : Type} (h : Hp4 α) (b : Nat) : Option α :=
  dg (hd3 b) fun d3 => dg (hd2 b) fun d2 => dg (hd1 b) fun d1 => dg (hd0 b) fun d0 => (bx _ d0).g ((bx _ d1).g ((bx _ d2).g ((bx _ d3).g h)))
def h4set {α : Type} (x : α) (h : Hp4 α) (b : Nat) : Hp4 α :=
  dg (hd3 b) fun d3 => dg (hd2 b) fun d2 => dg (hd1 b) fun d1 => dg (hd0 b) fun d0 =>
    (bx _ d3).p ((bx _ d2).p ((bx _ d1).p ((bx _ d0).p (some x) ((bx _ d1).g ((bx _ d2).g ((bx _ d3).g h)))) ((bx _ d2).g ((bx _ d3).g h))) ((bx _ d3).g h)) h
/-- a number's four digits -/
inductive Dg where
  | mk (d3 d2 d1 d0 : Nat)
def dgs (b : Nat) : Dg := dg (hd3 b) fun d3 => dg (hd2 b) fun d2 => dg (hd1 b) fun d1 => dg (hd0 b) fun d0 => Dg.mk d3 d2 d1 d0
def hget {α : Type} (b : Nat) (h : Hp4 α) : Option α := Dg.rec (motive := fun _ => Option α) (fun d3 d2 d1 d0 => Bx.g (bx _ d0) (Bx.g (bx _ d1) (Bx.g (bx _ d2) (Bx.g (bx _ d3) h)))) (dgs b)
def hput {α : Type} (b : Nat) (x : α) (h : Hp4 α) (k : Hp4 α → Option Value) : Option Value := Dg.rec (motive := fun _ => Option Value)
  (fun d3 d2 d1 d0 => Bx.m (bx _ d3) (Bx.m (bx _ d2) (Bx.m (bx _ d1) (Bx.m (bx _ d0) fun _ kk => kk (some x)))) h k) (dgs b)
theorem hget_eq {α : Type} (b : Nat) (h : Hp4 α) : hget b h = h4get h b := by
  simp only [hget, dgs, dg_eq, h4get]
theorem hput_eq {α : Type} (b : Nat) (x : α) (h : Hp4 α) (k : Hp4 α → Option Value) : hput b x h k = k (h4set x h b) := by
  have m (n : Nat) : Nat.mod n 16 < 16 := Nat.mod_lt n (by decide)
  simp only [hput, dgs, dg_eq, h4set]
  rw [bx_m (hd3 b) (m _), bx_m (hd2 b) (m _), bx_m (hd1 b) (m _), bx_m (hd0 b) (m _)]
def h4e0 {α : Type} : N16 (Option α) := ⟨none, none, none, none, none, none, none, none, none, none, none, none, none, none, none, none⟩
def h4e1 {α : Type} : N16 (N16 (Option α)) := ⟨h4e0, h4e0, h4e0, h4e0, h4e0, h4e0, h4e0, h4e0, h4e0, h4e0, h4e0, h4e0, h4e0, h4e0, h4e0, h4e0⟩
def h4e2 {α : Type} : N16 (N16 (N16 (Option α))) := ⟨h4e1, h4e1, h4e1, h4e1, h4e1, h4e1, h4e1, h4e1, h4e1, h4e1, h4e1, h4e1, h4e1, h4e1, h4e1, h4e1⟩
def h4e {α : Type} : Hp4 α := ⟨h4e2, h4e2, h4e2, h4e2, h4e2, h4e2, h4e2, h4e2, h4e2, h4e2, h4e2, h4e2, h4e2, h4e2, h4e2, h4e2⟩
theorem h4get_e {α : Type} (b : Nat) : h4get (h4e : Hp4 α) b = none := by
  have bg : ∀ (α : Type) (d : Nat) (hd : d < 16) (x : α), (bx α d).g ⟨x, x, x, x, x, x, x, x, x, x, x, x, x, x, x, x⟩ = x := by
    intro α d hd x
    have hd : d = 0 ∨ d = 1 ∨ d = 2 ∨ d = 3 ∨ d = 4 ∨ d = 5 ∨ d = 6 ∨ d = 7 ∨ d = 8 ∨ d = 9 ∨ d = 10 ∨ d = 11 ∨ d = 12 ∨ d = 13 ∨ d = 14 ∨ d = 15 := by omega
    rcases hd with h | h | h | h | h | h | h | h | h | h | h | h | h | h | h | h <;> subst h <;> rfl
  have m (n : Nat) : Nat.mod n 16 < 16 := Nat.mod_lt n (by decide)
  simp only [h4get, dg_eq, h4e]
  rw [bg _ (hd3 b) (m _), h4e2, bg _ (hd2 b) (m _), h4e1, bg _ (hd1 b) (m _), h4e0, bg _ (hd0 b) (m _)]
theorem h4get_set {α : Type} (x : α) (h : Hp4 α) (b j : Nat) (hb : b < 65536) (hj : j < 65536) : h4get (h4set x h b) j = if j = b then some x else h4get h j := by
  have m (n : Nat) : Nat.mod n 16 < 16 := Nat.mod_lt n (by decide)
  simp only [h4get, h4set, dg_eq]
  rw [bx_gp (hd3 b) (hd3 j) (m _) (m _)]
  by_cases e3 : hd3 j = hd3 b
  · rw [if_pos e3, bx_gp (hd2 b) (hd2 j) (m _) (m _)]
    by_cases e2 : hd2 j = hd2 b
    · rw [if_pos e2, bx_gp (hd1 b) (hd1 j) (m _) (m _)]
      by_cases e1 : hd1 j = hd1 b
      · rw [if_pos e1, bx_gp (hd0 b) (hd0 j) (m _) (m _)]
        by_cases e0 : hd0 j = hd0 b
        · have : j = b := by
            have e3 : j >>> 12 % 16 = b >>> 12 % 16 := e3
            have e2 : j >>> 8 % 16 = b >>> 8 % 16 := e2
            have e1 : j >>> 4 % 16 = b >>> 4 % 16 := e1
            have e0 : j % 16 = b % 16 := e0
            simp only [Nat.shiftRight_eq_div_pow] at e3 e2 e1
            omega
          rw [if_pos e0, if_pos this]
        · rw [if_neg e0, if_neg (fun h => e0 (by rw [h])), e1, e2, e3]
      · rw [if_neg e1, if_neg (fun h => e1 (by rw [h])), e2, e3]
    · rw [if_neg e2, if_neg (fun h => e2 (by rw [h])), e3]
  · rw [if_neg e3, if_neg (fun h => e3 (by rw [h]))]
end
end Go.AM
