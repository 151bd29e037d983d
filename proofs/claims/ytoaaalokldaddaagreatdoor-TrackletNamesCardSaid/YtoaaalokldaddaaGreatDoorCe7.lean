import Derived.Test.YtoaaalokldaddaaGreatDoorCe6
set_option linter.unusedSimpArgs false
set_option linter.unusedVariables false
namespace Go.AM
open Go

section
variable {P : Program} {ext : Ext} {dom : FuncId → Bool} {nt : Nat}

theorem slowOC_vok {o : Oper} (hv : ∀ ev s r s', opM P ext o ev s = some (r, s') → ∃ v, r = .val v) : VOK P ext nt (slowOC P ext (effD nt o.dst) o) o := by
  refine ⟨fun {h n rf e x s k r a} hE hr => ?_⟩
  have hr' : bnd (opM P ext o (evV x e) s) (rvC (effD nt o.dst) h n rf e x k) = some r := hr
  obtain ⟨q, s', h1, h2⟩ := bnd_some hr'
  obtain ⟨v, rfl⟩ := hv _ _ _ _ h1
  have h2' : putV (effD nt o.dst) v e x (fun e x => k e x s') = some r := h2
  obtain ⟨e', x', h3, h4⟩ := putV_sound hE h2'
  exact ⟨v, e', x', s', h1, h3, h4⟩
theorem valO_val {o : Option Value} {s s' : St} {r : R} (h : valO o s = some (r, s')) : ∃ v, r = .val v := by
  cases o with
  | none => cases h
  | some v => cases h; exact ⟨v, rfl⟩
theorem plain_slice_code {x : X} {c : Nat} (h : c % 16 = 12) : decX x c = .slice (some ⟨(c / 2 ^ 32) % 4294967296, (c / 2 ^ 4) % 268435456, none⟩) ((c / 2 ^ 64) % 268435456) (c / 2 ^ 92) := by
  rw [decX_not (by omega), decP_eq c 12 h]
  simp only [decT_eq]
  simp only [sliceC, shr_eq]
  rfl
theorem lenOC_ok {o : Oper} {ts : Array TypeId} {args : Array Operand} (ho : o.op = .call ⟨.builtin .len, args, ts⟩) : VOK P ext nt (lenOC P ext (effD nt o.dst) o ts args.toList) o := by
  have hm : ∀ ev s, opM P ext o ev s = (lift (arg0 (args.toList.map ev))).bind (fun x => (lift (ts.toList[0]?)).bind fun t0 => valO (lenM P t0 x)) s := fun ev s => by unfold opM; rw [ho]; rfl
  have hv : ∀ ev s r s', opM P ext o ev s = some (r, s') → ∃ v, r = .val v := by
    intro ev s r s' h
    rw [hm] at h
    obtain ⟨_, _, _, h2⟩ := bind_some h
    obtain ⟨_, _, _, h3⟩ := bind_some h2
    exact valO_val h3
  have hslow := slowOC_vok (nt := nt) hv
  unfold lenOC
  rw [nthR_eq]
  split
  · rename_i y t0 hy ht0
    rw [undF_eq]
    split
    · rename_i el hel
      refine opd_ok1 (fun oc => VOK P ext nt oc o) (b := fun fy => fastOC (effD nt o.dst) (fun e => (fun c => (Bool.rec (motive := fun _ => Nat) (Bool.rec (motive := fun _ => Nat) 13 4 (Nat.beq c 30)) (Nat.add (Nat.mul 16 (Nat.mod (Nat.shiftRight c 64) 268435456)) 4) (Nat.beq (Nat.land c 15) 12))) (fy e)) (slowOC P ext (effD nt o.dst) o)) fun fy hfy => ?_
      refine fastOC_plain hslow fun {e x a} hE hc => ?_
      simp only [hfy] at hc ⊢
      have hrun : ∀ v, lenM P t0 (evV x e y) = some v → ∀ s, opM P ext o (evV x e) s = some (.val v, s) := by
        intro v hv s
        rw [hm, hy]
        simp only [List.map_cons, List.map_nil, arg0, M.bind, lift_ok, ht0]
        exact valO_ok hv s
      cases h12 : Nat.beq (Nat.land (codeS y e) 15) 12 with
      | true =>
        have ht := tag_eq h12
        rcases codeS_ok hE y with h1 | ⟨h1, h2, h3⟩
        · rw [h1] at ht; cases ht
        · refine ⟨.int .i64 (.ofNat ((codeS y e / 2 ^ 64) % 268435456)), hrun _ ?_, ?_⟩
          · rw [h3, plain_slice_code ht]
            simp only [lenM, hel]
            rfl
          · have e1 : Nat.shiftRight (codeS y e) 64 = codeS y e / 2 ^ 64 := shr_eq _ _
            rw [e1]
            exact plain_int' (k := .i64) (n := (codeS y e / 2 ^ 64) % 268435456) (by have := Nat.mod_lt (codeS y e / 2 ^ 64) (show 0 < 268435456 by decide); omega)
      | false =>
        rw [h12] at hc
        cases h30 : Nat.beq (codeS y e) 30 with
        | true =>
          have h30' : codeS y e = 30 := Nat.eq_of_beq_eq_true h30
          rcases codeS_ok hE y with h1 | ⟨h1, h2, h3⟩
          · omega
          · refine ⟨.int .i64 (.ofNat 0), hrun _ ?_, plain_int' (k := .i64) (n := 0) (by decide)⟩
            rw [h3, h30']
            have : decX x 30 = .slice none 0 0 := decX_plain ⟨by decide, by decide, rfl⟩
            rw [this]
            simp only [lenM, hel]
            rfl
        | false => rw [h30] at hc; exact (hc rfl).elim
    · exact hslow
  · exact hslow

/-- so many cells on -/
theorem addr_ok {p n : Nat} (hp : p < 2 ^ 156) (h : (Bool.rec (motive := fun _ => Nat) 13 (Nat.add (Nat.mul 16 (Nat.add p n)) 10) (Nat.ble (Nat.add (Nat.mod p 268435456) n) 268435455)) ≠ 13) :
    Plain (Bool.rec (motive := fun _ => Nat) 13 (Nat.add (Nat.mul 16 (Nat.add p n)) 10) (Nat.ble (Nat.add (Nat.mod p 268435456) n) 268435455)) (.pointer (some ⟨p / 268435456, p % 268435456 + n, none⟩)) := by
  obtain ⟨h1, h2, h3⟩ := ifN13 h
  have h1' : p % 268435456 + n ≤ 268435455 := Nat.le_of_ble_eq_true h1
  rw [h2]
  show Plain (16 * (p + n) + 10) _
  refine ⟨by omega, by omega, ?_⟩
  rw [decP_eq _ 10 (by omega)]
  simp only [decT_eq]
  simp only [ptrC, shr_eq]
  have e1 : (16 * (p + n) + 10) / 2 ^ 32 = p / 268435456 := by omega
  have e2 : Nat.mod ((16 * (p + n) + 10) / 2 ^ 4) 268435456 = p % 268435456 + n := by show (16 * (p + n) + 10) / 2 ^ 4 % 268435456 = _; omega
  simp [e1, e2]
theorem fieldOC_ok {o : Oper} {t : TypeId} {y : Operand} {f : Nat} (ho : o.op = .fieldAddr t y f) : VOK P ext nt (fieldOC P (effD nt o.dst) t y f) o := by
  have hm : ∀ ev s, opM P ext o ev s = valO (fieldAddrM P t (ev y) f) s := fun ev s => by unfold opM; rw [ho]
  have hslow := optOC_ok (nt := nt) hm
  unfold fieldOC
  rw [undF_eq]
  split
  · rename_i fs hfs
    rw [nthR_eq]
    split
    · rename_i fd hfd
      rw [sizF_eq]
      split
      · rename_i sz hsz
        refine opd_ok1 (fun oc => VOK P ext nt oc o) (b := fun fy => fastOC (effD nt o.dst) (fun e => (fun c => (Bool.rec (motive := fun _ => Nat) 13 ((fun b => (Bool.rec (motive := fun _ => Nat) 13 (Nat.add (Nat.mul 16 (Nat.add b fd.offset)) 10) (Nat.ble (Nat.add (Nat.mod b 268435456) fd.offset) 268435455))) (Nat.div c 16)) (Nat.beq (Nat.land c 15) 10))) (fy e)) (optOC (effD nt o.dst) fun ev => fieldAddrM P t (ev y) f)) fun fy hfy => ?_
        refine fastOC_plain hslow fun {e x a} hE hc => ?_
        simp only [hfy] at hc ⊢
        obtain ⟨h1, h2, h3⟩ := ifN13 hc
        rw [h2]
        have ht := tag_eq h1
        rcases codeS_ok hE y with g1 | ⟨g1, g2, g3⟩
        · rw [g1] at ht; cases ht
        · have hp := addr_ok (p := codeS y e / 16) (by omega) h3
          refine ⟨_, fun s => ?_, hp⟩
          rw [hm, g3, ptr_code h1]
          refine valO_ok ?_ s
          simp only [fieldAddrM, hfs, hfd, Option.bind_some, fieldAt_, hsz]
          rw [if_neg (by omega)]
          simp only [addO, blkC, offC, shr_eq]
          have e1 : codeS y e / 2 ^ 32 = codeS y e / 16 / 268435456 := by omega
          have e2 : Nat.mod (codeS y e / 2 ^ 4) 268435456 = codeS y e / 16 % 268435456 := rfl
          rw [e1, e2]
      · exact hslow
    · exact hslow
  · exact hslow
theorem natOf_int (k : IntKind) (n : Nat) : natOf (.int k (.ofNat n)) = some n := rfl
theorem idxOC_ok {o : Oper} {t : TypeId} {y z : Operand} (ho : o.op = .indexAddr t y z) : VOK P ext nt (idxOC P (effD nt o.dst) t y z) o := by
  have hm : ∀ ev s, opM P ext o ev s = valO (indexAddrM P t (ev y) (ev z)) s := fun ev s => by unfold opM; rw [ho]
  have hslow := optOC_ok (nt := nt) hm
  unfold idxOC
  rw [undF_eq]
  split
  · rename_i el hel
    rw [sizF_eq]
    split
    · rename_i size hsz
      refine opd_ok2 (fun oc => VOK P ext nt oc o) (b := fun fy fz => fastOC (effD nt o.dst) (fun e => (fun c i => (Bool.rec (motive := fun _ => Nat) 13 (Bool.rec (motive := fun _ => Nat) 13 ((fun i => (Bool.rec (motive := fun _ => Nat) ((fun b n => (Bool.rec (motive := fun _ => Nat) 13 (Nat.add (Nat.mul 16 (Nat.add b n)) 10) (Nat.ble (Nat.add (Nat.mod b 268435456) n) 268435455))) (Nat.mod (Nat.shiftRight c 4) 1152921504606846976) (Nat.mul i size)) 13 (Nat.ble (Nat.mod (Nat.shiftRight c 64) 268435456) i))) (Nat.div i 16)) (Nat.ble (Nat.land (Nat.add i 15) 15) 7)) (Nat.beq (Nat.land c 15) 12))) (fy e) (fz e)) (optOC (effD nt o.dst) fun ev => indexAddrM P t (ev y) (ev z))) fun fy fz hfy hfz => ?_
      refine fastOC_plain hslow fun {e x a} hE hc => ?_
      simp only [hfy, hfz] at hc ⊢
      obtain ⟨h1, h2, h3⟩ := ifN13 hc
      obtain ⟨f1, f2, f3⟩ := ifN13 h3
      obtain ⟨q1, q2, q3⟩ := ifN13' f3
      rw [h2, f2]
      simp only [q2]
      have ht := tag_eq h1
      obtain ⟨k, hk⟩ := isI_tag f1
      have hi := (codeS_int hE hk).1
      have q1' : codeS z e / 16 < codeS y e / 2 ^ 64 % 268435456 := by
        have := ble_false q1
        rw [shr_eq] at this
        exact this
      rcases codeS_ok hE y with g1 | ⟨g1, g2, g3⟩
      · rw [g1] at ht; cases ht
      · have ep : Nat.mod (Nat.shiftRight (codeS y e) 4) 1152921504606846976 = codeS y e / 2 ^ 4 % 1152921504606846976 := by rw [shr_eq]; rfl
        rw [ep] at q3 ⊢
        have hp := addr_ok (p := codeS y e / 2 ^ 4 % 1152921504606846976) (n := Nat.mul (Nat.div (codeS z e) 16) size) (by omega) q3
        refine ⟨_, fun s => ?_, hp⟩
        rw [hm, g3, plain_slice_code ht, hi]
        refine valO_ok ?_ s
        simp only [indexAddrM, hel, natOf_int, hsz, Option.bind_some, at_]
        rw [if_pos q1']
        simp only [addO]
        have e1 : codeS y e / 2 ^ 32 % 4294967296 = codeS y e / 2 ^ 4 % 1152921504606846976 / 268435456 := by omega
        have e2 : codeS y e / 2 ^ 4 % 268435456 = codeS y e / 2 ^ 4 % 1152921504606846976 % 268435456 := by omega
        rw [e1, ← e2]
        rfl
    · exact hslow
  · exact hslow
end
end Go.AM
