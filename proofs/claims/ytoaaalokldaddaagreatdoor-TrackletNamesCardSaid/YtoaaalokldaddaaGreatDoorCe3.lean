import Derived.Test.YtoaaalokldaddaaGreatDoorCe2
import Derived.Test.YtoaaalokldaddaaGreatDoorAmE
set_option linter.unusedSimpArgs false
set_option linter.unusedVariables false
namespace Go.AM
open Go

/-! ### Small laws -/
theorem forceN_eq (n : Nat) (k : Nat → Ans) : forceN n k = k n := by cases n <;> rfl
theorem normS_eq (s : St) (k : St → Ans) : normS s k = k s := by
  cases s
  simp only [normS, forceN_eq]
theorem bnd_some {α : Type} {m : Option (α × St)} {k : α → St → Ans} {r : Value} (h : bnd m k = some r) : ∃ a s, m = some (a, s) ∧ k a s = some r := by
  cases m with
  | none => cases h
  | some p => exact ⟨p.1, p.2, rfl, by simpa only [bnd, normS_eq] using h⟩
theorem obnd_some {α : Type} {m : Option α} {k : α → Ans} {r : Value} (h : obnd m k = some r) : ∃ a, m = some a ∧ k a = some r := by
  cases m with
  | none => cases h
  | some p => exact ⟨p, rfl, h⟩
theorem nthR_eq {α : Type} (l : List α) (n : Nat) : nthR l n = l[n]? := by
  induction l generalizing n with
  | nil => rfl
  | cons a l ih =>
    cases n with
    | zero => rfl
    | succ n => exact ih n
theorem ifA_some {b : Bool} {x : Ans} {r : Value} (h : ifA b x none = some r) : b = true ∧ x = some r := by
  cases b with
  | false => cases h
  | true => exact ⟨rfl, h⟩
theorem brec_some {b : Bool} {x : Ans} {r : Value} (h : (Bool.rec (motive := fun _ => Ans) none x b) = some r) : b = true ∧ x = some r := by
  cases b with
  | false => cases h
  | true => exact ⟨rfl, h⟩
theorem brecf_some {b : Bool} {x : Ans} {r : Value} (h : (Bool.rec (motive := fun _ => Ans) x none b) = some r) : b = false ∧ x = some r := by
  cases b with
  | true => cases h
  | false => exact ⟨rfl, h⟩
theorem brec_cases {b : Bool} {x y : Ans} {r : Value} (h : (Bool.rec (motive := fun _ => Ans) x y b) = some r) : (b = false ∧ x = some r) ∨ (b = true ∧ y = some r) := by
  cases b with
  | false => exact .inl ⟨rfl, h⟩
  | true => exact .inr ⟨rfl, h⟩
theorem land15 (c : Nat) : Nat.land c 15 = c % 16 := by
  show c &&& 15 = c % 16
  exact Nat.and_two_pow_sub_one_eq_mod c 4
theorem ble_iff {a b : Nat} : Nat.ble a b = true ↔ a ≤ b := ⟨Nat.le_of_ble_eq_true, Nat.ble_eq_true_of_le⟩
theorem ble_false {a b : Nat} (h : Nat.ble a b = false) : b < a := by
  rcases Nat.lt_or_ge b a with h' | h'
  · exact h'
  · rw [Nat.ble_eq_true_of_le h'] at h; cases h
theorem beq_false {a b : Nat} (h : Nat.beq a b = false) : a ≠ b := by
  rintro rfl
  simp at h

/-! ### A temporary's number -/
/-- a number that stands for a value, by itself or by the store -/
def okc (x : X) (c : Nat) : Prop := c % 16 = 13 → 1 ≤ c / 16 ∧ c / 16 < x.cnt
theorem shr4 (c : Nat) : Nat.shiftRight c 4 = c / 16 := by
  show c >>> 4 = c / 16
  rw [Nat.shiftRight_eq_div_pow]
theorem objV_eq (x : X) (c : Nat) : objV x c = (x.o[x.cnt - (c / 16 + 1)]?).getD undef := by
  obtain ⟨o, cnt, df⟩ := x
  simp only [objV, nthR_eq, shr4]
  show Option.rec (motive := fun _ => Value) undef (fun v => v) (o[cnt - (c / 16 + 1)]?) = (o[cnt - (c / 16 + 1)]?).getD undef
  cases o[cnt - (c / 16 + 1)]? <;> rfl
theorem decX_plain {x : X} {c : Nat} {v : Value} (h : Plain c v) : decX x c = v := by
  unfold decX
  rw [land15, ifV_eq, beq_eq]
  rw [if_neg (by simpa using h.tag)]
  exact h.val
theorem okc_plain {x : X} {c : Nat} {v : Value} (h : Plain c v) : okc x c := fun e => absurd e h.tag
theorem decX_obj {x : X} {c : Nat} (h : c % 16 = 13) : decX x c = objV x c := by
  unfold decX
  rw [land15, ifV_eq, beq_eq, if_pos (by simpa using h)]
theorem decX_not {x : X} {c : Nat} (h : c % 16 ≠ 13) : decX x c = decP c := by
  unfold decX
  rw [land15, ifV_eq, beq_eq, if_neg (by simpa using h)]

/-- the store grown by one value -/
def X.push (x : X) (v : Value) : X := ⟨v :: x.o, x.cnt + 1, x.df⟩
theorem objV_push {x : X} {v : Value} {c : Nat} (hl : x.o.length + 1 = x.cnt) (h1 : 1 ≤ c / 16) (h2 : c / 16 < x.cnt) : objV (x.push v) c = objV x c := by
  rw [objV_eq, objV_eq]
  have : (x.push v).cnt - (c / 16 + 1) = x.cnt - (c / 16 + 1) + 1 := by simp only [X.push]; omega
  rw [this]
  simp [X.push]
theorem decX_push {x : X} {v : Value} {c : Nat} (hl : x.o.length + 1 = x.cnt) (h : okc x c) : decX (x.push v) c = decX x c := by
  by_cases hc : c % 16 = 13
  · rw [decX_obj hc, decX_obj hc]
    exact objV_push hl (h hc).1 (h hc).2
  · rw [decX_not hc, decX_not hc]
theorem okc_push {x : X} {v : Value} {c : Nat} (h : okc x c) : okc (x.push v) c := fun e => ⟨(h e).1, Nat.lt_succ_of_lt (h e).2⟩
theorem decX_new {x : X} {v : Value} (hl : x.o.length + 1 = x.cnt) : decX (x.push v) (16 * x.cnt + 13) = v := by
  rw [decX_obj (by omega), objV_eq]
  have : (x.push v).cnt - ((16 * x.cnt + 13) / 16 + 1) = 0 := by simp only [X.push]; omega
  rw [this]
  rfl
theorem okc_new {x : X} {v : Value} (hl : x.o.length + 1 = x.cnt) : okc (x.push v) (16 * x.cnt + 13) := fun _ => by
  simp only [X.push]; omega

/-- an activation of ours, and its number and store -/
structure EA (nt : Nat) (a : A) (e : Nat) (x : X) : Prop where
  n : a.n = nt
  df : a.df = x.df
  len : x.o.length + 1 = x.cnt
  get : ∀ t, a.get t = decX x (slot e t)
  ok : ∀ t, okc x (slot e t)
theorem EA.eval {nt : Nat} {a : A} {e : Nat} {x : X} (h : EA nt a e x) : a.eval = evV x e := by
  funext o
  cases o with
  | tmp t => exact h.get t
  | _ => rfl
theorem A.get_put (a : A) (d t : Nat) (v : Value) (hd : d < a.n) : (a.put (some d) v).get t = if t = d then v else a.get t := by
  simp only [A.put, if_pos hd, A.get, Tr.get_set]
  by_cases h : t = d
  · rw [if_pos h, if_pos h]; rfl
  · rw [if_neg h, if_neg h]
theorem A.put_n (a : A) (d : Option Nat) (v : Value) : (a.put d v).n = a.n := by
  cases d with
  | none => rfl
  | some d => simp only [A.put]; split <;> rfl
theorem A.put_df (a : A) (d : Option Nat) (v : Value) : (a.put d v).df = a.df := by
  cases d with
  | none => rfl
  | some d => simp only [A.put]; split <;> rfl
theorem EA.put {nt : Nat} {a : A} {e : Nat} {x : X} (h : EA nt a e x) {d c : Nat} {v : Value} (hd : d < nt) (hc : c < 2 ^ 160) (hv : v = decX x c) (ho : okc x c) : EA nt (a.put (some d) v) (putc e d c) x := by
  refine ⟨by rw [A.put_n]; exact h.n, by rw [A.put_df]; exact h.df, h.len, fun t => ?_, fun t => ?_⟩
  · rw [A.get_put a d t v (by rw [h.n]; exact hd), slot_putc hc]
    by_cases ht : t = d
    · rw [if_pos ht, if_pos ht]; exact hv
    · rw [if_neg ht, if_neg ht]; exact h.get t
  · rw [slot_putc hc]
    by_cases ht : t = d
    · rw [if_pos ht]; exact ho
    · rw [if_neg ht]; exact h.ok t
theorem EA.push {nt : Nat} {a : A} {e : Nat} {x : X} (h : EA nt a e x) (v : Value) : EA nt a e (x.push v) :=
  ⟨h.n, h.df, by have := h.len; simp only [X.push, List.length_cons]; omega, fun t => by rw [decX_push h.len (h.ok t)]; exact h.get t, fun t => okc_push (h.ok t)⟩
theorem EA.putObj {nt : Nat} {a : A} {e : Nat} {x : X} (h : EA nt a e x) {d : Nat} (v : Value) (hd : d < nt) (hc : x.cnt ≤ 4294967295) : EA nt (a.put (some d) v) (putc e d (16 * x.cnt + 13)) (x.push v) :=
  (h.push v).put hd (by omega) (decX_new h.len).symm (okc_new h.len)

theorem effD_cases (nt : Nat) (d : Option Nat) : (∃ d', d = some d' ∧ d' < nt ∧ effD nt d = some d') ∨ (effD nt d = none ∧ ∀ d', d = some d' → ¬ d' < nt) := by
  cases d with
  | none => exact .inr ⟨rfl, fun _ h => by cases h⟩
  | some d =>
    simp only [effD]
    cases hb : Nat.ble (Nat.succ d) nt with
    | true => exact .inl ⟨d, rfl, Nat.le_of_ble_eq_true hb, rfl⟩
    | false => exact .inr ⟨rfl, fun d' h => by cases h; have := ble_false hb; omega⟩
theorem EA.eff_none {nt : Nat} {a : A} {e : Nat} {x : X} (h : EA nt a e x) {d : Option Nat} (hd : ∀ d', d = some d' → ¬ d' < nt) (v : Value) : a.put d v = a := by
  cases d with
  | none => rfl
  | some d => simp only [A.put]; rw [if_neg]; rw [h.n]; exact hd d rfl
theorem putO_some {d : Nat} {v : Value} {e : Nat} {x : X} {k : Nat → X → Ans} {r : Value} (h : putO d v e x k = some r) : x.cnt ≤ 4294967295 ∧ k (putc e d (16 * x.cnt + 13)) (x.push v) = some r := by
  cases x
  simp only [putO, forceN_eq] at h
  obtain ⟨h1, h2⟩ := brec_some h
  exact ⟨Nat.le_of_ble_eq_true h1, h2⟩
theorem putD_sound {nt : Nat} {a : A} {e : Nat} {x : X} (h : EA nt a e x) {d : Nat} {v : Value} (hd : d < nt) {k : Nat → X → Ans} {r : Value} (hk : putD d v e x k = some r) :
    ∃ e' x', EA nt (a.put (some d) v) e' x' ∧ k e' x' = some r := by
  unfold putD at hk
  rcases brec_cases hk with ⟨hb, hk⟩ | ⟨hb, hk⟩
  · have hp := encN_plain (beq_false hb)
    exact ⟨_, _, h.put hd hp.lt (decX_plain hp).symm (okc_plain hp), hk⟩
  · obtain ⟨h1, h2⟩ := putO_some hk
    exact ⟨_, _, h.putObj v hd h1, h2⟩
theorem putV_sound {nt : Nat} {a : A} {e : Nat} {x : X} (h : EA nt a e x) {d : Option Nat} {v : Value} {k : Nat → X → Ans} {r : Value} (hk : putV (effD nt d) v e x k = some r) :
    ∃ e' x', EA nt (a.put d v) e' x' ∧ k e' x' = some r := by
  rcases effD_cases nt d with ⟨d', rfl, hd, he⟩ | ⟨he, hn⟩
  · rw [he] at hk
    exact putD_sound h hd hk
  · rw [he] at hk
    rw [h.eff_none hn]
    exact ⟨_, _, h, hk⟩
theorem putR_sound {nt : Nat} {a : A} {e : Nat} {x : X} (h : EA nt a e x) {d : Option Nat} {c : Nat} {v : Value} (hc : c = 13 ∨ Plain c v) {k : Nat → X → Ans} {r : Value} (hk : putR (effD nt d) c v e x k = some r) :
    ∃ e' x', EA nt (a.put d v) e' x' ∧ k e' x' = some r := by
  rcases effD_cases nt d with ⟨d', rfl, hd, he⟩ | ⟨he, hn⟩
  · rw [he] at hk
    rcases brec_cases hk with ⟨hb, hk⟩ | ⟨hb, hk⟩
    · rcases hc with hc | hp
      · exact (beq_false hb hc).elim
      · exact ⟨_, _, h.put hd hp.lt (decX_plain hp).symm (okc_plain hp), hk⟩
    · obtain ⟨h1, h2⟩ := putO_some hk
      exact ⟨_, _, h.putObj v hd h1, h2⟩
  · rw [he] at hk
    rw [h.eff_none hn]
    exact ⟨_, _, h, hk⟩
theorem putN_sound {nt : Nat} {a : A} {e : Nat} {x : X} (h : EA nt a e x) {d : Option Nat} {c : Nat} {v : Value} (hc : c < 2 ^ 160) (hv : v = decX x c) (ho : okc x c) : EA nt (a.put d v) (putN (effD nt d) c e) x := by
  rcases effD_cases nt d with ⟨d', rfl, hd, he⟩ | ⟨he, hn⟩
  · rw [he]
    exact h.put hd hc hv ho
  · rw [he, h.eff_none hn]
    exact h
theorem plain_undef : Plain 0 undef := ⟨by decide, by decide, rfl⟩
theorem putN_undef {nt : Nat} {a : A} {e : Nat} {x : X} (h : EA nt a e x) (d : Option Nat) : EA nt (a.put d undef) (putN (effD nt d) 0 e) x :=
  putN_sound h plain_undef.lt (decX_plain plain_undef).symm (okc_plain plain_undef)
theorem codeS_ok {nt : Nat} {a : A} {e : Nat} {x : X} (h : EA nt a e x) (y : Operand) : codeS y e = 13 ∨ (codeS y e < 2 ^ 160 ∧ okc x (codeS y e) ∧ evV x e y = decX x (codeS y e)) := by
  have hv : ∀ v : Value, encN v = 13 ∨ (encN v < 2 ^ 160 ∧ okc x (encN v) ∧ v = decX x (encN v)) := by
    intro v
    by_cases hn : encN v = 13
    · exact .inl hn
    · have := encN_plain hn
      exact .inr ⟨this.lt, okc_plain this, (decX_plain this).symm⟩
  cases y with
  | tmp t => exact .inr ⟨slot_lt e t, h.ok t, rfl⟩
  | const v => exact hv v
  | global g => exact hv (ptr g)
  | func f => exact hv (.func (.func f) #[] #[])
end Go.AM
