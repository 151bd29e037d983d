import Derived.Test.YtoaaalokldaddaaGreatDoorNamesWalk
import Derived.Test.YtoaaalokldaddaaGreatDoorCe13
import Derived.KernelRfl
set_option linter.unusedVariables false
namespace Go.Proofs.YtoaaalokldaddaaGreatDoor
open Go Go.AM Go.RowKit
/-- what is known is known of the functions that a table names -/
theorem domOK {memo : Ext} {dom : FuncId → Bool} (W : World) (h : ∀ f l, dom f = false → memo f l = none) : DomOK Tryz.prog (extOf Tryz.prog memo) dom := by
  intro f fn body args hf hb hd
  unfold extOf
  rw [h f args hd]
  simp only
  cases he : extP Tryz.prog f args with
  | none => rfl
  | some v =>
    obtain ⟨_, _, d⟩ := extP_some he
    have h1 := pr_run Tryz.prog _ d W
    have hn : (fn.name == "runtime.NumGoroutine") = false := by
      have := all_funcs names_ok hf
      simpa [nameOk] using this
    rw [callFunc_enter hf hb hn] at h1
    cases h1
def noMemo : Ext := fun _ _ => none
noncomputable def ext0 : Ext := extOf Tryz.prog noMemo
def noDom : FuncId → Bool := fun _ => false
theorem domOK0 (W : World) : DomOK Tryz.prog ext0 noDom := domOK W fun _ _ _ => rfl
/-- a call that the kernel has evaluated -/
theorem known0 {f : FuncId} {args : List Value} {v : Value} (ha : args.all (flat 0) = true) (hv : flat 2 v = true) (h : ce Tryz.prog ext0 noDom 1000 100000 f args (AM.start hp0 7) = some v) {W : World} (hL : laidMetH Tryz.prog laidT W) (ext : Ext) :
    AM.Known { P := Tryz.prog, ext := ext, w0 := W, ng := 7 } f args v := by
  obtain ⟨s', hs⟩ := ce_run (domOK0 W) h
  exact known memo_none ha hv hs hL
set_option maxRecDepth 1000000
def timeS : Value := .string ⟨⟨[50, 48, 50, 54, 45, 49, 49, 45, 49, 54, 84, 48, 51, 58, 48, 48, 58, 48, 48, 90]⟩⟩
def dateV (y m d h mi s mu : Nat) : Value := .tuple ⟨[.agg ⟨[.int .i64 (.ofNat y), .int .i64 (.ofNat m), .int .i64 (.ofNat d), .int .i64 (.ofNat h), .int .i64 (.ofNat mi), .int .i64 (.ofNat s), .int .i64 (.ofNat mu)]⟩, .int .i64 (.ofNat 0)]⟩
theorem parse_ce : ce Tryz.prog ext0 noDom 1000 100000 59 [timeS] (AM.start hp0 7) = some (.tuple ⟨[.int .i64 (.ofNat 848070069184000), .int .i64 (.ofNat 0)]⟩) := by kernel_rfl
theorem utc0_ce : ce Tryz.prog ext0 noDom 1000 100000 124 [.int .i64 (.ofNat 848070069184000)] (AM.start hp0 7) = some (dateV 2026 11 16 3 0 0 0) := by kernel_rfl
theorem utc1_ce : ce Tryz.prog ext0 noDom 1000 100000 124 [.int .i64 (.ofNat 848073669184000)] (AM.start hp0 7) = some (dateV 2026 11 16 4 0 0 0) := by kernel_rfl
theorem utc2_ce : ce Tryz.prog ext0 noDom 1000 100000 124 [.int .i64 (.ofNat 848080869184000)] (AM.start hp0 7) = some (dateV 2026 11 16 6 0 0 0) := by kernel_rfl
theorem utc3_ce : ce Tryz.prog ext0 noDom 1000 100000 124 [.int .i64 (.ofNat 848070069184001)] (AM.start hp0 7) = some (dateV 2026 11 16 3 0 0 1) := by kernel_rfl
theorem utc4_ce : ce Tryz.prog ext0 noDom 1000 100000 124 [.int .i64 (.ofNat 848253669184000)] (AM.start hp0 7) = some (dateV 2026 11 18 6 0 0 0) := by kernel_rfl
theorem utc5_ce : ce Tryz.prog ext0 noDom 1000 100000 124 [.int .i64 (.ofNat 0)] (AM.start hp0 7) = some (dateV 2000 1 1 11 58 55 816000) := by kernel_rfl
/-! ### A table of what has been evaluated -/
def timeB : List Nat := [50, 48, 50, 54, 45, 49, 49, 45, 49, 54, 84, 48, 51, 58, 48, 48, 58, 48, 48, 90]
def eqB : List UInt8 → List Nat → Bool
  | [], [] => true
  | b :: l, n :: m => Nat.beq b.toNat n && eqB l m
  | _, _ => false
theorem eqB_eq : ∀ {l : List UInt8} {m : List Nat}, eqB l m = true → l.map (·.toNat) = m
  | [], [], _ => rfl
  | [], _ :: _, h => by cases h
  | _ :: _, [], h => by cases h
  | b :: l, n :: m, h => by
    simp only [eqB, Bool.and_eq_true] at h
    rw [List.map_cons, Nat.eq_of_beq_eq_true h.1, eqB_eq h.2]
def utcT : List (Nat × Value) := [(848070069184000, dateV 2026 11 16 3 0 0 0), (848073669184000, dateV 2026 11 16 4 0 0 0), (848080869184000, dateV 2026 11 16 6 0 0 0), (848070069184001, dateV 2026 11 16 3 0 0 1), (848253669184000, dateV 2026 11 18 6 0 0 0), (0, dateV 2000 1 1 11 58 55 816000)]
def look : List (Nat × Value) → Nat → Option Value
  | [], _ => none
  | p :: l, n => bif Nat.beq n p.1 then some p.2 else look l n
theorem look_mem : ∀ {l : List (Nat × Value)} {n : Nat} {v : Value}, look l n = some v → (n, v) ∈ l
  | [], n, v, h => by cases h
  | p :: l, n, v, h => by
    simp only [look] at h
    cases hb : Nat.beq n p.1 with
    | true =>
      rw [hb] at h
      cases h
      rw [Nat.eq_of_beq_eq_true hb]
      simp
    | false => rw [hb] at h; exact List.mem_cons_of_mem _ (look_mem h)
def parseV : Value := .tuple ⟨[.int .i64 (.ofNat 848070069184000), .int .i64 (.ofNat 0)]⟩
def memoP : List Value → Option Value
  | [.string s] => bif eqB s.data.toList timeB then some parseV else none
  | _ => none
def memoU : List Value → Option Value
  | [.int .i64 (.ofNat n)] => look utcT n
  | _ => none
def memo1 : Ext := fun g l => bif Nat.beq g 59 then memoP l else bif Nat.beq g 124 then memoU l else none
def dom1 : FuncId → Bool := fun g => Nat.beq g 59 || Nat.beq g 124
theorem body59 : (Tryz.prog.funcs[59]?).map (·.body.isSome) = some true := by kernel_rfl
theorem body124 : (Tryz.prog.funcs[124]?).map (·.body.isSome) = some true := by kernel_rfl
theorem body_of {g : FuncId} (h : (Tryz.prog.funcs[g]?).map (·.body.isSome) = some true) : ∀ fn, Tryz.prog.funcs[g]? = some fn → fn.body.isSome = true := by
  intro fn hf
  rw [hf] at h
  exact Option.some.inj h
theorem timeS_of {s : ByteArray} (h : eqB s.data.toList timeB = true) : (.string s : Value) = timeS := by
  have h1 := eqB_eq h
  obtain ⟨⟨l⟩⟩ := s
  have h2 : l = timeB.map UInt8.ofNat := by
    rw [← h1, List.map_map]
    have h3 : (UInt8.ofNat ∘ fun x : UInt8 => x.toNat) = id := by
      funext b
      simp
    rw [h3, List.map_id]
  rw [timeS]
  congr 2
  rw [h2]
  rfl
theorem memo1_ok : MemoOk memo1 := by
  intro W hL g l v h
  unfold memo1 at h
  cases h1 : Nat.beq g 59 with
  | true =>
    rw [h1] at h
    have hg : g = 59 := Nat.eq_of_beq_eq_true h1
    subst hg
    unfold memoP at h
    simp only [cond_true] at h
    split at h
    · rename_i s
      cases he : eqB s.data.toList timeB with
      | false => rw [he] at h; cases h
      | true =>
        rw [he] at h
        cases h
        rw [timeS_of he]
        exact ⟨by decide, by decide, body_of body59, known0 (by decide) (by decide) parse_ce hL _⟩
    · cases h
  | false =>
    rw [h1] at h
    cases h2 : Nat.beq g 124 with
    | true =>
      rw [h2] at h
      have hg : g = 124 := Nat.eq_of_beq_eq_true h2
      subst hg
      unfold memoU at h
      simp only [cond_false, cond_true] at h
      split at h
      · rename_i n
        have hm := look_mem h
        simp only [utcT, List.mem_cons, Prod.mk.injEq, List.not_mem_nil, or_false] at hm
        have key : ∀ {m : Nat} {d : Value}, n = m ∧ v = d → flat 2 d = true → ce Tryz.prog ext0 noDom 1000 100000 124 [.int .i64 (.ofNat m)] (AM.start hp0 7) = some d →
            ([(.int .i64 (.ofNat n) : Value)].all (flat 0) = true ∧ flat 2 v = true ∧ (∀ fn, Tryz.prog.funcs[124]? = some fn → fn.body.isSome = true) ∧ AM.Known { P := Tryz.prog, ext := extOf Tryz.prog memo1, w0 := W, ng := 7 } 124 [.int .i64 (.ofNat n)] v) := by
          rintro m d ⟨rfl, rfl⟩ hd hc
          exact ⟨rfl, hd, body_of body124, known0 rfl hd hc hL _⟩
        rcases hm with h | h | h | h | h | h
        · exact key h rfl utc0_ce
        · exact key h rfl utc1_ce
        · exact key h rfl utc2_ce
        · exact key h rfl utc3_ce
        · exact key h rfl utc4_ce
        · exact key h rfl utc5_ce
      · cases h
    | false => rw [h2] at h; cases h
noncomputable def ext1 : Ext := extOf Tryz.prog memo1
theorem domOK1 (W : World) : DomOK Tryz.prog ext1 dom1 := domOK W fun f l h => by
  simp only [dom1, Bool.or_eq_false_iff] at h
  simp only [memo1, h.1, h.2, cond_false]
end Go.Proofs.YtoaaalokldaddaaGreatDoor
