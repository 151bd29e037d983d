import Derived.Test.YtoaaalokldaddaaGreatDoorAmK
set_option linter.unusedSimpArgs false
set_option linter.unusedVariables false
namespace Go.AM
open Go Go.RowKit

section
variable {c : Cx} {ρ : Map} {V : Nat → Prop} {s s' : St} {w : World} {P : Program}

theorem eqGuard_int (op : BinOp) (t : TypeId) (ox oy : Operand) (k k' : IntKind) (a b : Int) (w : World) : (eqGuard op t ox oy (.int k a) (.int k' b)).run P w = .ok () w := by
  cases op <;> simp [eqGuard]

theorem binInt_sound {op : BinOp} {t : TypeId} {k k' : IntKind} {a b : Int} {v : Value} (h : binInt op k a k' b = some v) : (∀ w, (binOp op t (.int k a) (.int k' b)).run P w = .ok v w) ∧ VR ρ V v v := by
  cases op <;> simp only [binInt] at h <;> (repeat' split at h) <;> (first | cases h | skip) <;>
    (refine ⟨fun w => ?_, ?_⟩) <;> first
      | exact VR.int _ _
      | exact VR.bool _
      | (simp_all [binOp, Op.shift, Op.intArith, Op.intDiv, Op.intBits, Op.intCmp, bitsInt]; done)
      | (simp_all [binOp, Op.shift, Op.intArith, Op.intDiv, Op.intBits, Op.intCmp, bitsInt] <;> omega)

theorem flatPr {m : Sem Value} {v : Value} (h : pr P m = some v) (hf : flat 3 v = true) : Gives P ρ V v m := ⟨v, pr_run P m h, flat_vr 3 v hf⟩

theorem eqS1 {t : TypeId} (d : Nat) (e : TypeId) (a : Option Addr) (n k : Nat) (w : World) (hu : P.underlying t = some (.slice e)) : (Op.equalIn (d + 1) t (.slice a n k) (.slice none 0 0)).run P w = .ok a.isNone w := by
  cases a <;> simp [Op.equalIn, run_underlying hu]
theorem eqS2 {t : TypeId} (d : Nat) (e : TypeId) (a : Option Addr) (n k : Nat) (w : World) (hu : P.underlying t = some (.slice e)) : (Op.equalIn (d + 1) t (.slice none 0 0) (.slice a n k)).run P w = .ok a.isNone w := by
  cases a <;> simp [Op.equalIn, run_underlying hu]
theorem eqP1 {t : TypeId} (d : Nat) (e : TypeId) (a : Option Addr) (w : World) (hu : P.underlying t = some (.pointer e)) : (Op.equalIn (d + 1) t (.pointer a) (.pointer none)).run P w = .ok a.isNone w := by
  cases a <;> simp [Op.equalIn, run_underlying hu]
theorem eqP2 {t : TypeId} (d : Nat) (e : TypeId) (a : Option Addr) (w : World) (hu : P.underlying t = some (.pointer e)) : (Op.equalIn (d + 1) t (.pointer none) (.pointer a)).run P w = .ok a.isNone w := by
  cases a <;> simp [Op.equalIn, run_underlying hu]
theorem binNil_sound {op : BinOp} {t : TypeId} {ox oy : Operand} {x y x' y' v : Value} (h : binNil P op t x y = some v) (hx : VR ρ V x x') (hy : VR ρ V y y') :
    Gives P ρ V v (do eqGuard op t ox oy x' y'; binOp op t x' y') := by
  have hs : ∀ (e : TypeId) (a : Option Addr) (n k : Nat) (w : World), P.underlying t = some (.slice e) → (Op.equal t (.slice a n k) (.slice none 0 0)).run P w = .ok a.isNone w := fun e a n k w hu => eqS1 9999 e a n k w hu
  have hs' : ∀ (e : TypeId) (a : Option Addr) (n k : Nat) (w : World), P.underlying t = some (.slice e) → (Op.equal t (.slice none 0 0) (.slice a n k)).run P w = .ok a.isNone w := fun e a n k w hu => eqS2 9999 e a n k w hu
  have hp : ∀ (e : TypeId) (a : Option Addr) (w : World), P.underlying t = some (.pointer e) → (Op.equal t (.pointer a) (.pointer none)).run P w = .ok a.isNone w := fun e a w hu => eqP1 9999 e a w hu
  have hp' : ∀ (e : TypeId) (a : Option Addr) (w : World), P.underlying t = some (.pointer e) → (Op.equal t (.pointer none) (.pointer a)).run P w = .ok a.isNone w := fun e a w hu => eqP2 9999 e a w hu
  have nil0 : ∀ {n k : Nat} {z : Value}, VR ρ V (.slice none n k) z → z = .slice none 0 0 := by
    intro n k z hz
    rcases slice_inv hz with ⟨_, _, _, e⟩ | ⟨b, off, k2, e, _⟩
    · exact e
    · cases e
  have nilp : ∀ {z : Value}, VR ρ V (.pointer none) z → z = .pointer none := by
    intro z hz
    cases hz with
    | atom v h => rfl
  have any : ∀ {a : Option Addr} {n k : Nat} {z : Value}, VR ρ V (.slice a n k) z → ∃ a' k', z = .slice a' n k' ∧ a'.isNone = a.isNone := by
    intro a n k z hz
    rcases slice_inv hz with ⟨rfl, rfl, rfl, e⟩ | ⟨b, off, k2, rfl, hb, hnk, hc, e⟩
    · exact ⟨_, _, e, rfl⟩
    · exact ⟨_, _, e, rfl⟩
  have anyp : ∀ {a : Option Addr} {z : Value}, VR ρ V (.pointer a) z → ∃ a', z = .pointer a' ∧ a'.isNone = a.isNone := by
    intro a z hz
    cases hz with
    | atom v h => exact ⟨_, rfl, rfl⟩
    | ptr b off h => exact ⟨_, rfl, rfl⟩
  unfold binNil at h
  split at h
  · rename_i e a n k n2 k2 hu
    obtain ⟨a', k', rfl, ha⟩ := any hx
    obtain rfl := nil0 hy
    cases op <;> simp only [nilCmp] at h <;> cases h
    · exact ⟨_, fun w => by simp [eqGuard, binOp, hs e a' n k' w hu, ha], VR.bool _⟩
    · exact ⟨_, fun w => by simp [eqGuard, binOp, hs e a' n k' w hu, ha], VR.bool _⟩
  · rename_i e n k a n2 k2 hne hu
    obtain ⟨a', k', rfl, ha⟩ := any hy
    obtain rfl := nil0 hx
    cases op <;> simp only [nilCmp] at h <;> cases h
    · exact ⟨_, fun w => by simp [eqGuard, binOp, hs' e a' _ k' w hu, ha], VR.bool _⟩
    · exact ⟨_, fun w => by simp [eqGuard, binOp, hs' e a' _ k' w hu, ha], VR.bool _⟩
  · rename_i e a hu
    obtain ⟨a', rfl, ha⟩ := anyp hx
    obtain rfl := nilp hy
    cases op <;> simp only [nilCmp] at h <;> cases h
    · exact ⟨_, fun w => by simp [eqGuard, binOp, hp e a' w hu, ha], VR.bool _⟩
    · exact ⟨_, fun w => by simp [eqGuard, binOp, hp e a' w hu, ha], VR.bool _⟩
  · rename_i e a hne hu
    obtain ⟨a', rfl, ha⟩ := anyp hy
    obtain rfl := nilp hx
    cases op <;> simp only [nilCmp] at h <;> cases h
    · exact ⟨_, fun w => by simp [eqGuard, binOp, hp' e a' w hu, ha], VR.bool _⟩
    · exact ⟨_, fun w => by simp [eqGuard, binOp, hp' e a' w hu, ha], VR.bool _⟩
  · cases h

theorem binFlat_sound {op : BinOp} {t : TypeId} {ox oy : Operand} {x y x' y' v : Value} (h : binFlat P op t ox oy x y = some v) (hx : VR ρ V x x') (hy : VR ρ V y y') :
    Gives P ρ V v (do eqGuard op t ox oy x' y'; binOp op t x' y') := by
  unfold binFlat at h
  split at h
  · rename_i hf
    simp only [Bool.and_eq_true] at hf
    simp only [Option.bind_eq_some_iff] at h
    obtain ⟨u, h1, h2⟩ := h
    split at h2
    · rename_i hu
      cases h2
      rw [flat_eq 3 _ _ hf.1 hx, flat_eq 3 _ _ hf.2 hy]
      exact flatPr h1 hu
    · cases h2
  · cases h
theorem bin_sound {op : BinOp} {t : TypeId} {ox oy : Operand} {x y x' y' v : Value} (h : binM P op t ox oy x y = some v) (hx : VR ρ V x x') (hy : VR ρ V y y') :
    Gives P ρ V v (do eqGuard op t ox oy x' y'; binOp op t x' y') := by
  unfold binM at h
  split at h
  · rename_i k a k' b
    rw [int_inv hx, int_inv hy]
    obtain ⟨h1, h2⟩ := binInt_sound (P := P) (ρ := ρ) (V := V) (t := t) h
    exact ⟨v, fun w => by simp [eqGuard_int, h1], h2⟩
  · exact binNil_sound h hx hy
  · exact binNil_sound h hx hy
  · exact binFlat_sound h hx hy

theorem unary_sound {op : UnOp} {x x' v : Value} (h : unaryV P op x = some v) (hx : VR ρ V x x') : Gives P ρ V v (Op.unary op x') := by
  unfold unaryV at h
  split at h
  · rename_i hf
    simp only [Option.bind_eq_some_iff] at h
    obtain ⟨u, h1, h2⟩ := h
    split at h2
    · rename_i hu
      cases h2
      rw [flat_eq 3 _ _ hf hx]
      exact flatPr h1 hu
    · cases h2
  · cases h

theorem assert_sound {x x' v : Value} {t xt : TypeId} {ok : Bool} (h : typeAssertM P x t ok = some v) (hx : VR ρ V x x') : Gives P ρ V v (Instr.typeAssert x' xt t ok) := by
  unfold typeAssertM at h
  split at h
  · cases h
  · rename_i d u u' hne hu
    cases hx with
    | atom v h => simp [atomV] at h
    | iface t1 v1 v1' hv =>
    unfold assertIs at h
    split at h
    · rename_i ht
      cases h
      have ht' := eq_of_beq ht
      refine ⟨.tuple #[v1', .bool true], fun w => ?_, VR.tuple_of (LR.cons hv (LR.cons (VR.bool true) LR.nil))⟩
      cases d <;> first | (exact (hne _ rfl).elim) | simp_all [Instr.typeAssert, run_underlying hu]
    · rename_i ht
      cases h
      have ht' := eq_of_beq ht
      refine ⟨v1', fun w => ?_, hv⟩
      cases d <;> first | (exact (hne _ rfl).elim) | simp_all [Instr.typeAssert, run_underlying hu]
    · rename_i ht
      simp only [Option.map_eq_some_iff] at h
      obtain ⟨z, hz, rfl⟩ := h
      obtain ⟨i, _, hz'⟩ := zeroT_some hz
      obtain ⟨_, z2, _⟩ := zeroI_some hz'
      have ht' : ¬ u = t := by simpa using ht
      refine ⟨.tuple #[z, .bool false], fun w => ?_, VR.tuple_of (LR.cons (flat_vr 3 z z2) (LR.cons (VR.bool false) LR.nil))⟩
      cases d <;> first | (exact (hne _ rfl).elim) | simp [Instr.typeAssert, run_underlying hu, ht', run_zero hz]
    · cases h
  · rename_i d hne hu
    cases hx with
    | atom v hat =>
    unfold assertNil at h
    split at h
    · simp only [Option.map_eq_some_iff] at h
      obtain ⟨z, hz, rfl⟩ := h
      obtain ⟨i, _, hz'⟩ := zeroT_some hz
      obtain ⟨_, z2, _⟩ := zeroI_some hz'
      refine ⟨.tuple #[z, .bool false], fun w => ?_, VR.tuple_of (LR.cons (flat_vr 3 z z2) (LR.cons (VR.bool false) LR.nil))⟩
      cases d <;> first | (exact (hne _ rfl).elim) | simp [Instr.typeAssert, run_underlying hu, run_zero hz]
    · cases h
  · cases h

theorem iface_sound {t : TypeId} {x x' v : Value} (h : ifaceV P t x = some v) (hx : VR ρ V x x') : Gives P ρ V v (Instr.makeInterface t x') := by
  unfold ifaceV at h
  split at h
  · cases h
  · rename_i d hne hu
    cases h
    refine ⟨.iface t x', fun w => ?_, .iface t x x' hx⟩
    cases d <;> first | (exact (hne _ rfl).elim) | simp [Instr.makeInterface, run_underlying hu]
  · cases h

theorem extract_sound {x x' v : Value} {i : Nat} (h : extractV x i = some v) (hx : VR ρ V x x') : Gives P ρ V v (Instr.extract x' i) := by
  unfold extractV at h
  split at h
  · obtain ⟨cs', rfl, hc⟩ := tuple_inv hx
    obtain ⟨v', h1, h2⟩ := hc.get h
    have h3 : (⟨cs'⟩ : Array Value)[i]? = some v' := by simpa using h1
    exact ⟨v', fun w => by simp [Instr.extract, h3], h2⟩
  · cases h

theorem len_sound {ts : Array TypeId} {ty t : TypeId} {x x' v : Value} (h0 : ts[0]? = some t) (h : lenM P t x = some v) (hx : VR ρ V x x') : Gives P ρ V v (Builtin.len_ ts ty #[x']) := by
  unfold lenM at h
  split at h
  · rename_i s hu
    cases h
    rw [str_inv hx]
    exact ⟨_, fun w => by simp [Builtin.len_, h0, run_underlying hu, goInt], VR.int _ _⟩
  · rename_i e a n k hu
    cases h
    rcases slice_inv hx with ⟨rfl, rfl, rfl, rfl⟩ | ⟨b, off, k2, rfl, hb, hnk, hc, rfl⟩
    · exact ⟨_, fun w => by simp [Builtin.len_, h0, run_underlying hu, goInt], VR.int _ _⟩
    · exact ⟨_, fun w => by simp [Builtin.len_, h0, run_underlying hu, goInt], VR.int _ _⟩
  · rename_i n e hu
    cases h
    exact ⟨_, fun w => by simp [Builtin.len_, h0, run_underlying hu, goInt], VR.int _ _⟩
  · rename_i a hu
    split at h
    · rename_i n e hu2
      cases h
      exact ⟨_, fun w => by simp [Builtin.len_, h0, run_underlying hu, run_underlying hu2, goInt], VR.int _ _⟩
    · cases h
  · cases h

theorem cap_sound {ts : Array TypeId} {ty t : TypeId} {x x' v : Value} (h0 : ts[0]? = some t) (h : capM P t x = some v) (hx : VR ρ V x x') : Gives P ρ V v (Builtin.cap_ ts ty #[x']) := by
  unfold capM at h
  split at h
  · rename_i e a n k hu
    split at h
    · cases h
    · rename_i hb
      cases h
      have hk : k < BIG := by
        rcases Nat.lt_or_ge k BIG with h1 | h1
        · exact h1
        · rw [Nat.ble_eq_true_of_le h1] at hb; cases hb
      rcases slice_inv hx with ⟨rfl, rfl, rfl, rfl⟩ | ⟨b, off, k2, rfl, hb, hnk, hc, rfl⟩
      · exact ⟨_, fun w => by simp [Builtin.cap_, h0, run_underlying hu, goInt], VR.int _ _⟩
      · unfold CapR at hc
        rw [if_pos hk] at hc
        subst hc
        exact ⟨_, fun w => by simp [Builtin.cap_, h0, run_underlying hu, goInt], VR.int _ _⟩
  · rename_i n e hu
    cases h
    exact ⟨_, fun w => by simp [Builtin.cap_, h0, run_underlying hu, goInt], VR.int _ _⟩
  · cases h

theorem flats_eq {l l' : List Value} (h : l.all (flat 0) = true) (k : LR ρ V l l') : l' = l := by
  refine list_eq k fun v v' hm hv => flat_eq 0 v v' ?_ hv
  simp only [List.all_eq_true] at h
  exact h v hm
theorem max_sound {ts : Array TypeId} {ty : TypeId} {l l' : List Value} {v : Value} (h : maxV P ts ty l = some v) (hl : LR ρ V l l') : Gives P ρ V v (Builtin.max_ ts ty ⟨l'⟩) := by
  unfold maxV at h
  split at h
  · rename_i hf
    rw [flats_eq hf hl]
    simp only [Option.bind_eq_some_iff, flatO] at h
    obtain ⟨u, h1, h2⟩ := h
    split at h2
    · rename_i hu; cases h2; exact flatPr h1 hu
    · cases h2
  · cases h
theorem min_sound {ts : Array TypeId} {ty : TypeId} {l l' : List Value} {v : Value} (h : minV P ts ty l = some v) (hl : LR ρ V l l') : Gives P ρ V v (Builtin.min_ ts ty ⟨l'⟩) := by
  unfold minV at h
  split at h
  · rename_i hf
    rw [flats_eq hf hl]
    simp only [Option.bind_eq_some_iff, flatO] at h
    obtain ⟨u, h1, h2⟩ := h
    split at h2
    · rename_i hu; cases h2; exact flatPr h1 hu
    · cases h2
  · cases h
end
end Go.AM
