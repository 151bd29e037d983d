import Derived.Test.YtoaaalokldaddaaGreatDoorCe4
set_option linter.unusedSimpArgs false
set_option linter.unusedVariables false
namespace Go.AM
open Go

theorem infoF_eq (P : Program) (t : TypeId) : infoF P t = P.info? t := by
  unfold infoF
  rw [nthR_eq]
  cases h : P.types.toList[t]? with
  | none => rfl
  | some i =>
    have h' : P.types[t]? = some i := by simpa using h
    have hlt : t < P.types.size := (Array.getElem?_eq_some_iff.1 h').1
    show some i = P.toTables.info? t
    unfold Tables.info?
    rw [if_pos hlt, h']
theorem undF_eq (P : Program) (t : TypeId) : undF P t = P.underlying t := by
  unfold undF Program.underlying
  simp only [infoF_eq]
  cases P.info? t with
  | none => rfl
  | some i => obtain ⟨d, _⟩ := i; cases d <;> rfl
theorem sizF_eq (P : Program) (t : TypeId) : sizF P t = sizeT P t := by
  unfold sizF sizeT
  rw [infoF_eq]
theorem funF_eq (P : Program) (f : FuncId) : funF P f = P.funcs[f]? := by
  unfold funF
  rw [nthR_eq]
  simp

/-! ### Integers -/
theorem tagK_lt (k : IntKind) : 1 ≤ tagK k ∧ tagK k ≤ 8 := by cases k <;> exact ⟨by decide, by decide⟩
theorem xor_zero {a b : Nat} (h : a ^^^ b = 0) : a = b := by
  have : a = (a ^^^ b) ^^^ b := by rw [Nat.xor_assoc, Nat.xor_self, Nat.xor_zero]
  rw [this, h, Nat.zero_xor]
theorem chk_tags {τ cx cy : Nat} (hτ : τ < 16) (h : Nat.beq (Nat.land (Nat.lor (Nat.xor cx τ) (Nat.xor cy τ)) 15) 0 = true) : cx % 16 = τ ∧ cy % 16 = τ := by
  rw [land15, beq_eq] at h
  have h' : ((cx ^^^ τ) ||| (cy ^^^ τ)) % 2 ^ 4 = 0 := by simpa using h
  rw [Nat.or_mod_two_pow, Nat.or_eq_zero_iff, Nat.xor_mod_two_pow, Nat.xor_mod_two_pow] at h'
  have : τ % 2 ^ 4 = τ := Nat.mod_eq_of_lt hτ
  rw [this] at h'
  exact ⟨xor_zero h'.1, xor_zero h'.2⟩
theorem tag_eq {c τ : Nat} (h : Nat.beq (Nat.land c 15) τ = true) : c % 16 = τ := by
  rw [land15, beq_eq] at h
  simpa using h
/-- the number of an integer that is not negative -/
theorem int_code {x : X} {c : Nat} {k : IntKind} (h : c % 16 = tagK k) : decX x c = .int k (.ofNat (c / 16)) := by
  have ht := tagK_lt k
  rw [decX_not (by omega), decP_eq c _ h]
  have hd : Nat.div c 16 = c / 16 := rfl
  cases k <;> simp [decT_eq, tagK, kindT, hd]
theorem plain_int' {k : IntKind} {n : Nat} (hn : n < 2 ^ 156) : Plain (16 * n + tagK k) (.int k (.ofNat n)) := by
  have ht := tagK_lt k
  refine ⟨by omega, by omega, ?_⟩
  have := int_code (x := ⟨[], 1, []⟩) (c := 16 * n + tagK k) (k := k) (by omega)
  rw [decX_not (by omega)] at this
  rw [this]
  congr 2
  omega
theorem plain_code {k : IntKind} {n c : Nat} (hc : c = 16 * n + tagK k) (hn : n < 2 ^ 156) : Plain c (.int k (.ofNat n)) := hc ▸ plain_int' hn
theorem wrap_u {k : IntKind} (hs : k.signed = false) (n : Nat) : k.wrap (n : Int) = ((n % 2 ^ k.bits : Nat) : Int) := by
  cases k <;> first | (cases hs; done) | (simp only [IntKind.wrap, IntKind.signed, IntKind.bits, Bool.false_and, Bool.false_eq_true, if_false]; omega)
theorem wrap_s {k : IntKind} (hs : k.signed = true) {n : Nat} (hn : n < 2 ^ (k.bits - 1)) : k.wrap (n : Int) = (n : Int) := by
  have h1 : 2 ^ (k.bits - 1) ≤ 2 ^ k.bits := Nat.pow_le_pow_right (by decide) (Nat.sub_le _ _)
  have h2 : (n : Int) % ((2 : Int) ^ k.bits) = (n : Int) := by
    have : ((2 : Int) ^ k.bits) = ((2 ^ k.bits : Nat) : Int) := by simp
    rw [this, ← Int.natCast_emod, Nat.mod_eq_of_lt (by omega)]
  have h3 : ¬ ((n : Int) ≥ ((2 : Int) ^ (k.bits - 1))) := by
    have : ((2 : Int) ^ (k.bits - 1)) = ((2 ^ (k.bits - 1) : Nat) : Int) := by simp
    rw [this]
    omega
  show (if (k.signed && decide ((n : Int) % ((2 : Int) ^ k.bits) ≥ ((2 : Int) ^ (k.bits - 1)))) = true then (n : Int) % ((2 : Int) ^ k.bits) - ((2 : Int) ^ k.bits) else (n : Int) % ((2 : Int) ^ k.bits)) = (n : Int)
  rw [h2, decide_eq_false h3]
  simp
theorem bits_le (k : IntKind) : k.bits ≤ 64 ∧ 8 ≤ k.bits := by cases k <;> exact ⟨by decide, by decide⟩
theorem ifN13 {b : Bool} {x : Nat} (h : (Bool.rec (motive := fun _ => Nat) 13 x b) ≠ 13) : b = true ∧ (Bool.rec (motive := fun _ => Nat) 13 x b) = x ∧ x ≠ 13 := by
  cases b with
  | false => exact (h rfl).elim
  | true => exact ⟨rfl, rfl, h⟩
theorem ifN13' {b : Bool} {x : Nat} (h : (Bool.rec (motive := fun _ => Nat) x 13 b) ≠ 13) : b = false ∧ (Bool.rec (motive := fun _ => Nat) x 13 b) = x ∧ x ≠ 13 := by
  cases b with
  | true => exact (h rfl).elim
  | false => exact ⟨rfl, rfl, h⟩

/-- how an operator on numbers fits the machine's -/
def BinOk (op : BinOp) (k : IntKind) (cx cy r : Nat) : Prop := r ≠ 13 → ∃ k' v, cx % 16 = tagK k ∧ cy % 16 = tagK k' ∧ binInt op k (.ofNat (cx / 16)) k' (.ofNat (cy / 16)) = some v ∧ Plain r v
theorem pow_bits_lt (k : IntKind) : 2 ^ k.bits ≤ 2 ^ 64 := Nat.pow_le_pow_right (by decide) (bits_le k).1
theorem mod16 {n M τ : Nat} (hM : 0 < M) (hτ : τ < 16) : (16 * n + τ) % (16 * M) = 16 * (n % M) + τ := by
  have h1 : (16 * n + τ) % 16 = τ := by omega
  have h2 : (16 * n + τ) / 16 = n := by omega
  rw [Nat.mod_mul, h1, h2, Nat.add_comm]
theorem addU_ok {k : IntKind} (hs : k.signed = false) {cx cy : Nat} : BinOk .add k cx cy (addU (tagK k) (16 * 2 ^ k.bits) cx cy) := by
  intro h
  have ht := tagK_lt k
  obtain ⟨h1, h2, h3⟩ := ifN13 h
  obtain ⟨hx, hy⟩ := chk_tags (by omega) h1
  refine ⟨k, _, hx, hy, if_pos rfl, ?_⟩
  have e : k.wrap (Int.ofNat (cx / 16) + Int.ofNat (cy / 16)) = ((cx / 16 + cy / 16 : Nat) % 2 ^ k.bits : Nat) := by
    rw [← wrap_u hs]; rfl
  rw [e]
  have hp := pow_bits_lt k
  have h4 : addU (tagK k) (16 * 2 ^ k.bits) cx cy = 16 * ((cx / 16 + cy / 16) % 2 ^ k.bits) + tagK k := by
    rw [← mod16 (Nat.two_pow_pos _) (by omega)]
    refine h2.trans ?_
    show (cx + cy - tagK k) % (16 * 2 ^ k.bits) = _
    congr 1
    omega
  have := Nat.mod_lt (cx / 16 + cy / 16) (Nat.two_pow_pos k.bits)
  exact plain_code h4 (by omega)
theorem low_ok {Q r : Nat} (h : ((fun r => (Bool.rec (motive := fun _ => Nat) r 13 (Nat.ble Q r) : Nat)) r) ≠ 13) : r < Q ∧ ((fun r => (Bool.rec (motive := fun _ => Nat) r 13 (Nat.ble Q r) : Nat)) r) = r := by
  obtain ⟨h1, h2, h3⟩ := ifN13' h
  exact ⟨ble_false h1, h2⟩
theorem low_pow {k : IntKind} {n : Nat} (h : 16 * n + tagK k < 16 * 2 ^ (k.bits - 1)) : n < 2 ^ (k.bits - 1) := by omega
theorem pow_bits1_lt (k : IntKind) : 2 ^ (k.bits - 1) ≤ 2 ^ 64 := Nat.pow_le_pow_right (by decide) (by have := (bits_le k).1; omega)
theorem addS_ok {k : IntKind} (hs : k.signed = true) {cx cy : Nat} : BinOk .add k cx cy (addS (tagK k) (16 * 2 ^ (k.bits - 1)) cx cy) := by
  intro h
  have ht := tagK_lt k
  obtain ⟨h1, h2, h3⟩ := ifN13 h
  obtain ⟨hx, hy⟩ := chk_tags (by omega) h1
  obtain ⟨h4, h5⟩ := low_ok h3
  have h5' : addS (tagK k) (16 * 2 ^ (k.bits - 1)) cx cy = cx + cy - tagK k := h2.trans h5
  have h4' : cx + cy - tagK k < 16 * 2 ^ (k.bits - 1) := h4
  have e6 : cx + cy - tagK k = 16 * (cx / 16 + cy / 16) + tagK k := by omega
  have h6 : cx / 16 + cy / 16 < 2 ^ (k.bits - 1) := low_pow (e6 ▸ h4')
  refine ⟨k, _, hx, hy, if_pos rfl, ?_⟩
  have e : k.wrap (Int.ofNat (cx / 16) + Int.ofNat (cy / 16)) = ((cx / 16 + cy / 16 : Nat) : Int) := wrap_s hs h6
  rw [e]
  have := pow_bits1_lt k
  exact plain_code (h5'.trans e6) (by omega)
theorem isI_tag {c : Nat} (h : Nat.ble (Nat.land (Nat.add c 15) 15) 7 = true) : ∃ k, c % 16 = tagK k := by
  rw [land15] at h
  have h' : (c + 15) % 16 ≤ 7 := Nat.le_of_ble_eq_true h
  have hc : c % 16 = 1 ∨ c % 16 = 2 ∨ c % 16 = 3 ∨ c % 16 = 4 ∨ c % 16 = 5 ∨ c % 16 = 6 ∨ c % 16 = 7 ∨ c % 16 = 8 := by omega
  rcases hc with h | h | h | h | h | h | h | h
  · exact ⟨.i8, h⟩
  · exact ⟨.i16, h⟩
  · exact ⟨.i32, h⟩
  · exact ⟨.i64, h⟩
  · exact ⟨.u8, h⟩
  · exact ⟨.u16, h⟩
  · exact ⟨.u32, h⟩
  · exact ⟨.u64, h⟩
theorem subU_ok {k : IntKind} (hs : k.signed = false) {cx cy : Nat} : BinOk .sub k cx cy (subU (tagK k) (16 * 2 ^ k.bits) cx cy) := by
  intro h
  have ht := tagK_lt k
  obtain ⟨h1, h2, h3⟩ := ifN13 h
  obtain ⟨hx, hy⟩ := chk_tags (by omega) h1
  obtain ⟨g1, g2, g3⟩ := ifN13 h3
  have g1' : cy ≤ cx + 16 * 2 ^ k.bits := Nat.le_of_ble_eq_true g1
  refine ⟨k, _, hx, hy, if_pos rfl, ?_⟩
  have hp := pow_bits_lt k
  have hle : cy / 16 ≤ cx / 16 + 2 ^ k.bits := by omega
  have e : k.wrap (Int.ofNat (cx / 16) - Int.ofNat (cy / 16)) = (((cx / 16 + 2 ^ k.bits - cy / 16) % 2 ^ k.bits : Nat) : Int) := by
    rw [← wrap_u hs]
    have e1 : ((cx / 16 + 2 ^ k.bits - cy / 16 : Nat) : Int) = ((cx / 16 : Nat) : Int) - ((cy / 16 : Nat) : Int) + (2 : Int) ^ k.bits := by
      have e0 : ((2 ^ k.bits : Nat) : Int) = (2 : Int) ^ k.bits := by simp
      rw [Int.ofNat_sub hle, Int.natCast_add, e0]
      omega
    rw [e1]
    show (let m := (Int.ofNat (cx / 16) - Int.ofNat (cy / 16)) % ((2 : Int) ^ k.bits); if (k.signed && decide (m ≥ ((2 : Int) ^ (k.bits - 1)))) = true then m - ((2 : Int) ^ k.bits) else m) =
      (let m := (((cx / 16 : Nat) : Int) - ((cy / 16 : Nat) : Int) + (2 : Int) ^ k.bits) % ((2 : Int) ^ k.bits); if (k.signed && decide (m ≥ ((2 : Int) ^ (k.bits - 1)))) = true then m - ((2 : Int) ^ k.bits) else m)
    rw [Int.add_emod_right]
    rfl
  rw [e]
  have h4 : subU (tagK k) (16 * 2 ^ k.bits) cx cy = 16 * ((cx / 16 + 2 ^ k.bits - cy / 16) % 2 ^ k.bits) + tagK k := by
    rw [← mod16 (Nat.two_pow_pos _) (by omega)]
    refine (h2.trans g2).trans ?_
    show (cx + 16 * 2 ^ k.bits - cy + tagK k) % (16 * 2 ^ k.bits) = _
    congr 1
    omega
  have := Nat.mod_lt (cx / 16 + 2 ^ k.bits - cy / 16) (Nat.two_pow_pos k.bits)
  exact plain_code h4 (by omega)
theorem subS_ok {k : IntKind} (hs : k.signed = true) {cx cy : Nat} : BinOk .sub k cx cy (subS (tagK k) (16 * 2 ^ (k.bits - 1)) cx cy) := by
  intro h
  have ht := tagK_lt k
  obtain ⟨h1, h2, h3⟩ := ifN13 h
  obtain ⟨hx, hy⟩ := chk_tags (by omega) h1
  obtain ⟨g1, g2, g3⟩ := ifN13 h3
  have g1' : cy ≤ cx := Nat.le_of_ble_eq_true g1
  obtain ⟨h4, h5⟩ := low_ok g3
  have h5' : subS (tagK k) (16 * 2 ^ (k.bits - 1)) cx cy = cx - cy + tagK k := (h2.trans g2).trans h5
  have h4' : cx - cy + tagK k < 16 * 2 ^ (k.bits - 1) := h4
  have e6 : cx - cy + tagK k = 16 * (cx / 16 - cy / 16) + tagK k := by omega
  have h6 : cx / 16 - cy / 16 < 2 ^ (k.bits - 1) := low_pow (e6 ▸ h4')
  refine ⟨k, _, hx, hy, if_pos rfl, ?_⟩
  have e : k.wrap (Int.ofNat (cx / 16) - Int.ofNat (cy / 16)) = ((cx / 16 - cy / 16 : Nat) : Int) := by
    rw [← wrap_s hs h6]
    congr 1
    rw [Int.ofNat_sub (by omega)]
    rfl
  rw [e]
  have := pow_bits1_lt k
  exact plain_code (h5'.trans e6) (by omega)
theorem mulU_ok {k : IntKind} (hs : k.signed = false) {cx cy : Nat} : BinOk .mul k cx cy (mulU (tagK k) (16 * 2 ^ k.bits) cx cy) := by
  intro h
  have ht := tagK_lt k
  obtain ⟨h1, h2, h3⟩ := ifN13 h
  obtain ⟨hx, hy⟩ := chk_tags (by omega) h1
  refine ⟨k, _, hx, hy, if_pos rfl, ?_⟩
  have e : k.wrap (Int.ofNat (cx / 16) * Int.ofNat (cy / 16)) = ((cx / 16 * (cy / 16)) % 2 ^ k.bits : Nat) := by
    rw [← wrap_u hs]; rfl
  rw [e]
  have hp := pow_bits_lt k
  have h4 : mulU (tagK k) (16 * 2 ^ k.bits) cx cy = 16 * ((cx / 16 * (cy / 16)) % 2 ^ k.bits) + tagK k := by
    rw [← mod16 (Nat.two_pow_pos _) (by omega)]
    exact h2
  have := Nat.mod_lt (cx / 16 * (cy / 16)) (Nat.two_pow_pos k.bits)
  exact plain_code h4 (by omega)
theorem mulS_ok {k : IntKind} (hs : k.signed = true) {cx cy : Nat} : BinOk .mul k cx cy (mulS (tagK k) (16 * 2 ^ (k.bits - 1)) cx cy) := by
  intro h
  have ht := tagK_lt k
  obtain ⟨h1, h2, h3⟩ := ifN13 h
  obtain ⟨hx, hy⟩ := chk_tags (by omega) h1
  obtain ⟨h4, h5⟩ := low_ok h3
  have h5' : mulS (tagK k) (16 * 2 ^ (k.bits - 1)) cx cy = 16 * (cx / 16 * (cy / 16)) + tagK k := h2.trans h5
  have h4' : 16 * (cx / 16 * (cy / 16)) + tagK k < 16 * 2 ^ (k.bits - 1) := h4
  have h6 : cx / 16 * (cy / 16) < 2 ^ (k.bits - 1) := low_pow h4'
  refine ⟨k, _, hx, hy, if_pos rfl, ?_⟩
  have e : k.wrap (Int.ofNat (cx / 16) * Int.ofNat (cy / 16)) = ((cx / 16 * (cy / 16) : Nat) : Int) := wrap_s hs h6
  rw [e]
  have := pow_bits1_lt k
  exact plain_code h5' (by omega)
/-- a bound that serves both kinds -/
theorem wrap_low {k : IntKind} {n : Nat} (hn : n < 2 ^ (k.bits - (if k.signed then 1 else 0))) : k.wrap (n : Int) = (n : Int) := by
  cases hs : k.signed with
  | true => rw [hs] at hn; exact wrap_s hs hn
  | false =>
    rw [hs] at hn
    have hn' : n < 2 ^ k.bits := by simpa using hn
    rw [wrap_u hs, Nat.mod_eq_of_lt hn']
theorem quoC_ok {k : IntKind} {cx cy : Nat} : BinOk .quo k cx cy (quoC (tagK k) (16 * 2 ^ (k.bits - (if k.signed then 1 else 0))) cx cy) := by
  intro h
  have ht := tagK_lt k
  obtain ⟨h1, h2, h3⟩ := ifN13 h
  obtain ⟨hx, hy⟩ := chk_tags (by omega) h1
  obtain ⟨g1, g2, g3⟩ := ifN13 h3
  have g1' : 16 ≤ cy := Nat.le_of_ble_eq_true g1
  obtain ⟨h4, h5⟩ := low_ok g3
  have h5' : quoC (tagK k) (16 * 2 ^ (k.bits - (if k.signed then 1 else 0))) cx cy = 16 * (cx / 16 / (cy / 16)) + tagK k := (h2.trans g2).trans h5
  have h4' : 16 * (cx / 16 / (cy / 16)) + tagK k < 16 * 2 ^ (k.bits - (if k.signed then 1 else 0)) := h4
  have h6 : cx / 16 / (cy / 16) < 2 ^ (k.bits - (if k.signed then 1 else 0)) := by omega
  have hne : ¬ (Int.ofNat (cy / 16) = 0) := by
    intro he
    have : cy / 16 = 0 := Int.ofNat.inj he
    omega
  refine ⟨k, _, hx, hy, (if_pos rfl).trans (if_neg hne), ?_⟩
  have e : k.wrap ((Int.ofNat (cx / 16)).tdiv (Int.ofNat (cy / 16))) = ((cx / 16 / (cy / 16) : Nat) : Int) := wrap_low h6
  rw [e]
  have : 2 ^ (k.bits - (if k.signed then 1 else 0)) ≤ 2 ^ 64 := Nat.pow_le_pow_right (by decide) (by have := (bits_le k).1; omega)
  exact plain_code h5' (by omega)
theorem remC_ok {k : IntKind} {cx cy : Nat} (hc : cx < 2 ^ 160) : BinOk .rem k cx cy (remC (tagK k) cx cy) := by
  intro h
  have ht := tagK_lt k
  obtain ⟨h1, h2, h3⟩ := ifN13 h
  obtain ⟨hx, hy⟩ := chk_tags (by omega) h1
  obtain ⟨g1, g2, g3⟩ := ifN13 h3
  have g1' : 16 ≤ cy := Nat.le_of_ble_eq_true g1
  have hne : ¬ (Int.ofNat (cy / 16) = 0) := by
    intro he
    have : cy / 16 = 0 := Int.ofNat.inj he
    omega
  refine ⟨k, _, hx, hy, (if_pos rfl).trans (if_neg hne), ?_⟩
  have h5 : remC (tagK k) cx cy = 16 * (cx / 16 % (cy / 16)) + tagK k := h2.trans g2
  have := Nat.mod_le (cx / 16) (cy / 16)
  exact plain_code h5 (by omega)
theorem sh_tags {k : IntKind} {cx cy w x : Nat} (h : (Bool.rec (motive := fun _ => Nat) 13 (Bool.rec (motive := fun _ => Nat) 13 (Bool.rec (motive := fun _ => Nat) 13 x (Nat.ble (Nat.div cy 16) w)) (Nat.ble (Nat.land (Nat.add cy 15) 15) 7)) (Nat.beq (Nat.land cx 15) (tagK k))) ≠ 13) :
    cx % 16 = tagK k ∧ (∃ k', cy % 16 = tagK k') ∧ cy / 16 ≤ w ∧ x ≠ 13 ∧
    (Bool.rec (motive := fun _ => Nat) 13 (Bool.rec (motive := fun _ => Nat) 13 (Bool.rec (motive := fun _ => Nat) 13 x (Nat.ble (Nat.div cy 16) w)) (Nat.ble (Nat.land (Nat.add cy 15) 15) 7)) (Nat.beq (Nat.land cx 15) (tagK k))) = x := by
  obtain ⟨h1, h2, h3⟩ := ifN13 h
  obtain ⟨g1, g2, g3⟩ := ifN13 h3
  obtain ⟨f1, f2, f3⟩ := ifN13 g3
  exact ⟨tag_eq h1, isI_tag g1, Nat.le_of_ble_eq_true f1, f3, (h2.trans g2).trans f2⟩
theorem shr_val (a b w : Nat) (hb : b ≤ w) : (Int.ofNat a).fdiv (2 ^ (min (Int.ofNat b).toNat w)) = ((a >>> b : Nat) : Int) := by
  have e1 : (Int.ofNat b).toNat = b := rfl
  have e2 : ((2 : Int) ^ b) = ((2 ^ b : Nat) : Int) := by simp
  rw [e1, Nat.min_eq_left hb, e2, Nat.shiftRight_eq_div_pow]
  exact (Int.ofNat_fdiv a (2 ^ b)).symm
theorem shrC_ok {k : IntKind} {cx cy : Nat} (hc : cx < 2 ^ 160) : BinOk .shr k cx cy (shrC (tagK k) k.bits cx cy) := by
  intro h
  obtain ⟨hx, ⟨k', hy⟩, hw, h3, h4⟩ := sh_tags h
  refine ⟨k', _, hx, hy, if_neg (t := none) (Int.not_lt.2 (Int.natCast_nonneg (cy / 16))), ?_⟩
  rw [shr_val _ _ _ hw]
  have h5 : shrC (tagK k) k.bits cx cy = 16 * ((cx / 16) >>> (cy / 16)) + tagK k := h4
  have h6 : (cx / 16) >>> (cy / 16) ≤ cx / 16 := by rw [Nat.shiftRight_eq_div_pow]; exact Nat.div_le_self _ _
  exact plain_code h5 (by omega)
theorem shl_val (a b w : Nat) (hb : b ≤ w) : Int.ofNat a * 2 ^ (min (Int.ofNat b).toNat w) = ((a <<< b : Nat) : Int) := by
  have e1 : (Int.ofNat b).toNat = b := rfl
  rw [e1, Nat.min_eq_left hb, Nat.shiftLeft_eq]
  simp
theorem shlU_ok {k : IntKind} (hs : k.signed = false) {cx cy : Nat} : BinOk .shl k cx cy (shlU (tagK k) k.bits (16 * 2 ^ k.bits) cx cy) := by
  intro h
  have ht := tagK_lt k
  obtain ⟨hx, ⟨k', hy⟩, hw, h3, h4⟩ := sh_tags h
  refine ⟨k', _, hx, hy, if_neg (t := none) (Int.not_lt.2 (Int.natCast_nonneg (cy / 16))), ?_⟩
  rw [shl_val _ _ _ hw, wrap_u hs]
  have h5 : shlU (tagK k) k.bits (16 * 2 ^ k.bits) cx cy = 16 * (((cx / 16) <<< (cy / 16)) % 2 ^ k.bits) + tagK k := by
    rw [← mod16 (Nat.two_pow_pos _) (by omega)]
    exact h4
  have hp := pow_bits_lt k
  have := Nat.mod_lt ((cx / 16) <<< (cy / 16)) (Nat.two_pow_pos k.bits)
  exact plain_code h5 (by omega)
theorem shlS_ok {k : IntKind} (hs : k.signed = true) {cx cy : Nat} : BinOk .shl k cx cy (shlS (tagK k) k.bits (16 * 2 ^ (k.bits - 1)) cx cy) := by
  intro h
  obtain ⟨hx, ⟨k', hy⟩, hw, h3, h4⟩ := sh_tags h
  obtain ⟨h6, h7⟩ := low_ok h3
  have h5 : shlS (tagK k) k.bits (16 * 2 ^ (k.bits - 1)) cx cy = 16 * ((cx / 16) <<< (cy / 16)) + tagK k := h4.trans h7
  have h6' : 16 * ((cx / 16) <<< (cy / 16)) + tagK k < 16 * 2 ^ (k.bits - 1) := h6
  have h8 := low_pow h6'
  refine ⟨k', _, hx, hy, if_neg (t := none) (Int.not_lt.2 (Int.natCast_nonneg (cy / 16))), ?_⟩
  rw [shl_val _ _ _ hw, wrap_s hs h8]
  have := pow_bits1_lt k
  exact plain_code h5 (by omega)
/-! comparisons -/
theorem code_split {c : Nat} {k : IntKind} (h : c % 16 = tagK k) : c = 16 * (c / 16) + tagK k := by omega
theorem plain_true : Plain 25 (.bool true) := plain_bool true
theorem plain_false : Plain 9 (.bool false) := plain_bool false
theorem cmp_ok {op : BinOp} {k : IntKind} {cx cy a b : Nat} {q : Bool} {v : Bool} (ha : Plain a (.bool v)) (hb : Plain b (.bool (!v)))
    (hop : ∀ m n : Nat, cx = 16 * m + tagK k → cy = 16 * n + tagK k → binInt op k (.ofNat m) k (.ofNat n) = some (.bool (if q then !v else v))) :
    BinOk op k cx cy (Bool.rec (motive := fun _ => Nat) 13 (Bool.rec (motive := fun _ => Nat) a b q) (Nat.beq (Nat.land (Nat.lor (Nat.xor cx (tagK k)) (Nat.xor cy (tagK k))) 15) 0)) := by
  intro h
  have ht := tagK_lt k
  obtain ⟨h1, h2, h3⟩ := ifN13 h
  obtain ⟨hx, hy⟩ := chk_tags (by omega) h1
  refine ⟨k, _, hx, hy, hop _ _ (code_split hx) (code_split hy), ?_⟩
  rw [h2]
  cases q
  · exact ha
  · exact hb
theorem cmpP {m n : Int} {p : Prop} [Decidable p] {b : Bool} (h : p ↔ b = true) : decide p = b := by
  cases b with
  | true => exact decide_eq_true (h.2 rfl)
  | false => exact decide_eq_false (fun hp => by have := h.1 hp; cases this)
theorem eqlC_ok {k : IntKind} {cx cy : Nat} : BinOk .eql k cx cy (eqlC (tagK k) cx cy) := by
  refine cmp_ok (v := false) (q := Nat.beq cx cy) plain_false plain_true fun m n hm hn => ?_
  refine (if_pos rfl).trans ?_
  congr 2
  rw [beq_eq]
  by_cases e : m = n
  · subst e; rw [decide_eq_true (by omega)]; simp
  · rw [decide_eq_false (by omega)]
    have : ¬ (Int.ofNat m = Int.ofNat n) := fun he => e (Int.ofNat.inj he)
    simp [this]
    exact fun he => e (Int.ofNat.inj he)
theorem neqC_ok {k : IntKind} {cx cy : Nat} : BinOk .neq k cx cy (neqC (tagK k) cx cy) := by
  refine cmp_ok (v := true) (q := Nat.beq cx cy) plain_true plain_false fun m n hm hn => ?_
  refine (if_pos rfl).trans ?_
  congr 2
  rw [beq_eq]
  by_cases e : m = n
  · subst e; rw [decide_eq_true (by omega)]; simp
  · rw [decide_eq_false (by omega)]
    have : ¬ (Int.ofNat m = Int.ofNat n) := fun he => e (Int.ofNat.inj he)
    simp [this]
    exact fun he => e (Int.ofNat.inj he)
theorem leqC_ok {k : IntKind} {cx cy : Nat} : BinOk .leq k cx cy (leqC (tagK k) cx cy) := by
  refine cmp_ok (v := false) (q := Nat.ble cx cy) plain_false plain_true fun m n hm hn => ?_
  refine (if_pos rfl).trans ?_
  congr 2
  rw [ble_eq]
  by_cases e : m ≤ n
  · have h1 : decide (cx ≤ cy) = true := decide_eq_true (by omega)
    have h2 : decide (Int.ofNat m ≤ Int.ofNat n) = true := decide_eq_true (Int.ofNat_le.2 e)
    rw [h1, h2]; rfl
  · have h1 : decide (cx ≤ cy) = false := decide_eq_false (by omega)
    have h2 : decide (Int.ofNat m ≤ Int.ofNat n) = false := decide_eq_false (fun h => e (Int.ofNat_le.1 h))
    rw [h1, h2]; rfl
theorem geqC_ok {k : IntKind} {cx cy : Nat} : BinOk .geq k cx cy (geqC (tagK k) cx cy) := by
  refine cmp_ok (v := false) (q := Nat.ble cy cx) plain_false plain_true fun m n hm hn => ?_
  refine (if_pos rfl).trans ?_
  congr 2
  rw [ble_eq]
  by_cases e : n ≤ m
  · have h1 : decide (cy ≤ cx) = true := decide_eq_true (by omega)
    have h2 : decide (Int.ofNat m ≥ Int.ofNat n) = true := decide_eq_true (Int.ofNat_le.2 e)
    rw [h1, h2]; rfl
  · have h1 : decide (cy ≤ cx) = false := decide_eq_false (by omega)
    have h2 : decide (Int.ofNat m ≥ Int.ofNat n) = false := decide_eq_false (fun h => e (Int.ofNat_le.1 h))
    rw [h1, h2]; rfl
theorem lssC_ok {k : IntKind} {cx cy : Nat} : BinOk .lss k cx cy (lssC (tagK k) cx cy) := by
  refine cmp_ok (v := true) (q := Nat.ble cy cx) plain_true plain_false fun m n hm hn => ?_
  refine (if_pos rfl).trans ?_
  congr 2
  rw [ble_eq]
  by_cases e : n ≤ m
  · have h1 : decide (cy ≤ cx) = true := decide_eq_true (by omega)
    have h2 : decide (Int.ofNat m < Int.ofNat n) = false := decide_eq_false (fun h => by have := Int.ofNat_lt.1 h; omega)
    rw [h1, h2]; rfl
  · have h1 : decide (cy ≤ cx) = false := decide_eq_false (by omega)
    have h2 : decide (Int.ofNat m < Int.ofNat n) = true := decide_eq_true (Int.ofNat_lt.2 (by omega))
    rw [h1, h2]; rfl
theorem gtrC_ok {k : IntKind} {cx cy : Nat} : BinOk .gtr k cx cy (gtrC (tagK k) cx cy) := by
  refine cmp_ok (v := true) (q := Nat.ble cx cy) plain_true plain_false fun m n hm hn => ?_
  refine (if_pos rfl).trans ?_
  congr 2
  rw [ble_eq]
  by_cases e : m ≤ n
  · have h1 : decide (cx ≤ cy) = true := decide_eq_true (by omega)
    have h2 : decide (Int.ofNat m > Int.ofNat n) = false := decide_eq_false (fun h => by have := Int.ofNat_lt.1 h; omega)
    rw [h1, h2]; rfl
  · have h1 : decide (cx ≤ cy) = false := decide_eq_false (by omega)
    have h2 : decide (Int.ofNat m > Int.ofNat n) = true := decide_eq_true (Int.ofNat_lt.2 (by omega))
    rw [h1, h2]; rfl
end Go.AM
