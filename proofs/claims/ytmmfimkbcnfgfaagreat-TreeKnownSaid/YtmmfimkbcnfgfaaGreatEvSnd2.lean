import Derived.Test.YtmmfimkbcnfgfaaGreatEvSnd1
/- Each operation of the abstract evaluator does what the model's does: arithmetic. -/
namespace Go.Ev

theorem modOf_eq (k : IntKind) : (modOf k : Nat) = 2 ^ k.bits := by cases k <;> rfl
theorem bitsOf_eq (k : IntKind) (n : Int) : (bitsOf (modOf k) n : Int) = n % (2 ^ k.bits : Int) := by
  cases n with
  | ofNat m =>
    show ((m % modOf k : Nat) : Int) = (m : Int) % _
    rw [modOf_eq]; simp
  | negSucc m =>
    show ((modOf k - 1 - m % modOf k : Nat) : Int) = _
    have hpos : 0 < modOf k := by cases k <;> decide
    have hlt : m % modOf k < modOf k := Nat.mod_lt _ hpos
    have e : (2 ^ k.bits : Int) = (modOf k : Int) := by rw [modOf_eq]; simp
    rw [e, Int.negSucc_emod _ (by exact_mod_cast hpos)]
    have : ((m % modOf k : Nat) : Int) = (m : Int) % (modOf k : Int) := by simp
    omega
theorem bitsOf_lt (k : IntKind) (n : Int) : bitsOf (modOf k) n < modOf k := by
  have h := bitsOf_eq k n
  have hpos : (0 : Int) < 2 ^ k.bits := by cases k <;> decide
  have := Int.emod_lt_of_pos n hpos
  rw [← h] at this
  have e : (2 ^ k.bits : Int) = (modOf k : Int) := by rw [modOf_eq]; simp
  rw [e] at this
  exact_mod_cast this
theorem wrap_signed (k : IntKind) (n M h : Int) (hs : k.signed = true) (hM : (2 ^ k.bits : Int) = M) (hh : (2 ^ (k.bits - 1) : Int) = h) : k.wrap n = if h ≤ n % M then n % M - M else n % M := by
  simp only [IntKind.wrap, hs, hM, hh, Bool.true_and, ge_iff_le, decide_eq_true_eq]
theorem wrap_unsigned (k : IntKind) (n M : Int) (hs : k.signed = false) (hM : (2 ^ k.bits : Int) = M) : k.wrap n = n % M := by
  simp only [IntKind.wrap, hs, hM, Bool.false_and, Bool.false_eq_true, if_false]
theorem ofBits_eq (M h r : Nat) (hr : r < M) : ofBits M h r = if (h : Int) ≤ r then (r : Int) - M else r := by
  unfold ofBits
  cases hle : Nat.ble h r with
  | true =>
    have := Nat.le_of_ble_eq_true hle
    rw [if_pos (by omega)]
    show Int.negSucc (M - r - 1) = _
    omega
  | false =>
    have : ¬ h ≤ r := fun h' => by rw [Nat.ble_eq_true_of_le h'] at hle; cases hle
    rw [if_neg (by omega)]
    rfl
theorem wrapF_eq (k : IntKind) (n : Int) : wrapF k n = k.wrap n := by
  have hb := bitsOf_eq k n
  have hlt := bitsOf_lt k n
  unfold wrapF
  rw [ofBits_eq _ _ _ hlt, hb]
  cases k with
  | i8 => rw [wrap_signed .i8 n 256 128 rfl rfl rfl]; rfl
  | i16 => rw [wrap_signed .i16 n 65536 32768 rfl rfl rfl]; rfl
  | i32 => rw [wrap_signed .i32 n 4294967296 2147483648 rfl rfl rfl]; rfl
  | i64 => rw [wrap_signed .i64 n 18446744073709551616 9223372036854775808 rfl rfl rfl]; rfl
  | u8 => rw [wrap_unsigned .u8 n 256 rfl rfl, if_neg (by have := Int.emod_lt_of_pos n (show (0:Int) < 256 by decide); exact Int.not_le.2 this)]; rfl
  | u16 => rw [wrap_unsigned .u16 n 65536 rfl rfl, if_neg (by have := Int.emod_lt_of_pos n (show (0:Int) < 65536 by decide); exact Int.not_le.2 this)]; rfl
  | u32 => rw [wrap_unsigned .u32 n 4294967296 rfl rfl, if_neg (by have := Int.emod_lt_of_pos n (show (0:Int) < 4294967296 by decide); exact Int.not_le.2 this)]; rfl
  | u64 => rw [wrap_unsigned .u64 n 18446744073709551616 rfl rfl, if_neg (by have := Int.emod_lt_of_pos n (show (0:Int) < 18446744073709551616 by decide); exact Int.not_le.2 this)]; rfl
theorem mkInt_eq {β : Type} (k : IntKind) (n : Int) (c : AV → β) : mkInt k n c = c (.int k (k.wrap n)) := by unfold mkInt; rw [intF_eq, wrapF_eq]
theorem kindIs_eq {a b : IntKind} (h : kindIs a b = true) : a = b := by cases a <;> cases b <;> first | rfl | cases h
theorem ltI_eq (x y : Int) : ltI x y = decide (x < y) := by
  cases x with
  | ofNat a =>
    cases y with
    | ofNat b =>
      show Nat.ble (a + 1) b = _
      rw [Bool.eq_iff_iff, Nat.ble_eq]; simp; omega
    | negSucc b =>
      show false = _
      symm; simp; omega
  | negSucc a =>
    cases y with
    | ofNat b => show true = _; symm; simp; omega
    | negSucc b =>
      show Nat.ble (b + 1) a = _
      rw [Bool.eq_iff_iff, Nat.ble_eq]; simp; omega
theorem eqI_eq (x y : Int) : eqI x y = (x == y) := by
  cases x with
  | ofNat a =>
    cases y with
    | ofNat b =>
      show Nat.beq a b = _
      rw [Bool.eq_iff_iff, Nat.beq_eq]; simp; omega
    | negSucc b => show false = _; symm; simp
  | negSucc a =>
    cases y with
    | ofNat b => show false = _; symm; simp
    | negSucc b =>
      show Nat.beq a b = _
      rw [Bool.eq_iff_iff, Nat.beq_eq]; simp
theorem addI_eq (x y : Int) : addI x y = x + y := by cases x <;> cases y <;> rfl
theorem mulI_eq (x y : Int) : mulI x y = x * y := by cases x <;> cases y <;> rfl
theorem subI_eq (x y : Int) : subI x y = x - y := by
  cases x with
  | negSucc a => cases y <;> rfl
  | ofNat a =>
    cases y with
    | negSucc b => rfl
    | ofNat b =>
      show Bool.rec (motive := fun _ => Int) (Int.negSucc (b - a - 1)) (.ofNat (a - b)) (Nat.ble b a) = _
      cases h : Nat.ble b a with
      | true => have := Nat.le_of_ble_eq_true h; show ((a - b : Nat) : Int) = (a : Int) - (b : Int); omega
      | false =>
        have : ¬ b ≤ a := fun h' => by rw [Nat.ble_eq_true_of_le h'] at h; cases h
        show Int.negSucc (b - a - 1) = (a : Int) - (b : Int); omega

theorem bits_ofInt (k : IntKind) (n : Int) : (BitVec.ofInt k.bits n).toNat = bitsOf (modOf k) n := by
  rw [BitVec.toNat_ofInt]
  have := bitsOf_eq k n
  have e : ((2 ^ k.bits : Nat) : Int) = (2 ^ k.bits : Int) := by simp
  rw [e, ← this]; rfl
theorem toNat_compl (k : IntKind) (n : Int) : (~~~(BitVec.ofInt k.bits n)).toNat = modOf k - 1 - bitsOf (modOf k) n := by
  rw [BitVec.toNat_not, bits_ofInt, modOf_eq]

section
variable {P : Program} {o : Oper}
/-- What an operator does to two whole numbers of one kind. -/
def IntOpSnd (P : Program) (op : BinOp) (f : IntKind → Int → Int → (AV → R) → R) : Prop :=
  ∀ (k : IntKind) (x y : Int) (c : AV → R) (r : R), f k x y c = r → r.Good → ∀ (ι : Inj) (w : World) (t : TypeId), ∃ v v', c v = r ∧ AVRel ι v v' ∧ (binOp op t (.int k x) (.int k y)).run P w = .ok v' w
theorem div_good {f : Int → Int → Int} {k : IntKind} {x y : Int} {c : AV → R} {r : R} (e : divF f k x y c = r) (hr : r.Good) : y ≠ 0 ∧ mkInt k (f x y) c = r := by
  unfold divF at e
  cases h0 : eqI y 0 with
  | true => rw [h0] at e; subst e; exact hr.elim
  | false => rw [h0] at e; rw [eqI_eq] at h0; exact ⟨by simpa using h0, e⟩
theorem not_lt_b (x y : Int) : (!decide (y < x)) = decide (x ≤ y) := by rw [Bool.eq_iff_iff]; simp
theorem bool_rec_not (b : Bool) : (Bool.rec true false b : Bool) = !b := by cases b <;> rfl
theorem intOp_snd {op : BinOp} {f : IntKind → Int → Int → (AV → R) → R} (h : intF2 op = some f) : IntOpSnd P op f := fun k x y c r e hr ι w t => by
  cases op <;> simp only [intF2, Option.some.injEq, reduceCtorEq] at h
  all_goals subst h
  · exact ⟨_, _, by rw [← e]; exact (mkInt_eq _ _ _).symm, .int _ _, by simp [binOp, Op.intArith, addI_eq]⟩
  · exact ⟨_, _, by rw [← e]; exact (mkInt_eq _ _ _).symm, .int _ _, by simp [binOp, Op.intArith, subI_eq]⟩
  · exact ⟨_, _, by rw [← e]; exact (mkInt_eq _ _ _).symm, .int _ _, by simp [binOp, Op.intArith, mulI_eq]⟩
  · obtain ⟨h0, e⟩ := div_good e hr
    exact ⟨_, _, by rw [← e]; exact (mkInt_eq _ _ _).symm, .int _ _, by simp [binOp, Op.intDiv, h0]⟩
  · dsimp only at e
    cases h0 : eqI y 0 with
    | true => rw [h0] at e; subst e; exact hr.elim
    | false =>
      rw [h0] at e
      have e : intF (Int.tmod x y) (fun n => c (.int k n)) = r := e
      rw [intF_eq] at e
      rw [eqI_eq] at h0
      exact ⟨_, _, e, .int _ _, by simp [binOp, Op.intDiv, by simpa using h0]⟩
  · refine ⟨_, _, by rw [← e]; exact (mkInt_eq _ _ _).symm, .int _ _, ?_⟩
    simp only [binOp, Op.intBits, ne_eq, not_true_eq_false, if_false, Sem.run_pure]
    rw [BitVec.toNat_and, bits_ofInt, bits_ofInt]; rfl
  · refine ⟨_, _, by rw [← e]; exact (mkInt_eq _ _ _).symm, .int _ _, ?_⟩
    simp only [binOp, Op.intBits, ne_eq, not_true_eq_false, if_false, Sem.run_pure]
    rw [BitVec.toNat_or, bits_ofInt, bits_ofInt]; rfl
  · refine ⟨_, _, by rw [← e]; exact (mkInt_eq _ _ _).symm, .int _ _, ?_⟩
    simp only [binOp, Op.intBits, ne_eq, not_true_eq_false, if_false, Sem.run_pure]
    rw [BitVec.toNat_xor, bits_ofInt, bits_ofInt]; rfl
  · refine ⟨_, _, by rw [← e]; exact (mkInt_eq _ _ _).symm, .int _ _, ?_⟩
    simp only [binOp, Op.intBits, ne_eq, not_true_eq_false, if_false, Sem.run_pure]
    rw [BitVec.toNat_and, bits_ofInt, toNat_compl]; rfl
  · exact ⟨_, _, e, .bool _, by simp [binOp, Op.intCmp, eqI_eq]⟩
  · exact ⟨_, _, e, .bool _, by simp [binOp, Op.intCmp, eqI_eq, bool_rec_not, bne]⟩
  · exact ⟨_, _, e, .bool _, by simp [binOp, Op.intCmp, ltI_eq]⟩
  · exact ⟨_, _, e, .bool _, by simp only [binOp, Op.intCmp, ne_eq, not_true_eq_false, if_false, Sem.run_pure, ltI_eq, bool_rec_not, not_lt_b]⟩
  · exact ⟨_, _, e, .bool _, by simp [binOp, Op.intCmp, ltI_eq]⟩
  · exact ⟨_, _, e, .bool _, by simp only [binOp, Op.intCmp, ne_eq, not_true_eq_false, if_false, Sem.run_pure, ltI_eq, bool_rec_not, not_lt_b, ge_iff_le]⟩
theorem int_inv {ι : Inj} {k : IntKind} {m : Int} {v : Value} (h : AVRel ι (.int k m) v) : v = .int k m := by cases h; rfl
theorem snd_binInt {s : String} {op : BinOp} {t u : TypeId} {x y : Operand} {f : IntKind → Int → Int → (AV → R) → R} (ho : o.op = .binOp op t x y u) (hf : intF2 op = some f) :
    OpSnd P (binIntF s f (px x) (px y)) o := .quiet fun n T H k r h hr ι a w ht hh => by
  obtain ⟨v, h, hv⟩ := withO_good h hr ht
  obtain ⟨z, h, hz⟩ := withO_good h hr ht
  obtain ⟨j, m, e0, h1'⟩ := asInt_good h hr; clear h; subst e0; have h := h1'; clear h1'
  obtain ⟨i, q, e0, h1'⟩ := asInt_good h hr; clear h; subst e0; have h := h1'; clear h1'
  obtain ⟨hk, h1'⟩ := onB_good h hr; clear h; have h := h1'; clear h1'
  cases kindIs_eq hk
  obtain ⟨v, v', hc, hr', hrun⟩ := intOp_snd (P := P) hf j m q _ _ h hr ι w t
  refine ⟨v, v', hc, hr', ?_⟩
  have hg : (eqGuard op t x y (.int j m) (.int j q)).run P w = .ok () w := by
    unfold eqGuard; split <;> rfl
  simp only [execOp, ho, int_inv hv, int_inv hz, Sem.run_bind, hg, Result.andThen_ok, hrun, Sem.run_pure]
theorem bitsK_eq (k : IntKind) : bitsK k = k.bits := by cases k <;> rfl
theorem shift_amount (q : Nat) (j : IntKind) : (Bool.rec (motive := fun _ => Nat) (bitsK j) q (Nat.ble q (bitsK j)) : Nat) = min q j.bits := by
  rw [bitsK_eq]
  cases hle : Nat.ble q j.bits with
  | true => have := Nat.le_of_ble_eq_true hle; show q = _; omega
  | false =>
    have : ¬ q ≤ j.bits := fun h' => by rw [Nat.ble_eq_true_of_le h'] at hle; cases hle
    show j.bits = _; omega
theorem shift_good {s : String} {f : IntKind → Nat → Nat → (AV → R) → R} {x y : Operand} {n : Nat} {T : Tm} {H : AH} {k : AV → AH → R} {r : R} {ι : Inj} {a : Act} (h : shiftF s f (px x) (px y) T H k = r) (hr : r.Good)
    (ht : TRel n ι T a) : ∃ (j i : IntKind) (m q : Nat), a.eval x = .int j m ∧ a.eval y = .int i q ∧ f j m (min q j.bits) (fun v => k v H) = r := by
  obtain ⟨v, h, hv⟩ := withO_good h hr ht
  obtain ⟨z, h, hz⟩ := withO_good h hr ht
  obtain ⟨j, m, e0, h1'⟩ := asInt_good h hr; clear h; subst e0; have h := h1'; clear h1'
  obtain ⟨i, q, e0, h1'⟩ := natOf_good h hr; clear h; subst e0; have h := h1'; clear h1'
  cases m with
  | negSucc m => exact (not_good_bad "" (by have h' : bad s = r := h; rw [← h'] at hr; exact hr)).elim
  | ofNat m =>
    have h' : natF (Bool.rec (motive := fun _ => Nat) (bitsK j) q (Nat.ble q (bitsK j))) (fun n => f j m n fun v => k v H) = r := h
    rw [natF_eq, shift_amount] at h'
    exact ⟨j, i, m, q, int_inv hv, int_inv hz, h'⟩
theorem run_eqGuard_int (op : BinOp) (t : TypeId) (x y : Operand) (j i : IntKind) (m q : Int) (w : World) : (eqGuard op t x y (.int j m) (.int i q)).run P w = .ok () w := by
  unfold eqGuard; split <;> rfl
theorem snd_shl {s : String} {t u : TypeId} {x y : Operand} (ho : o.op = .binOp .shl t x y u) : OpSnd P (shiftF s shlN (px x) (px y)) o := .quiet fun n T H k r h hr ι a w ht hh => by
  obtain ⟨j, i, m, q, hx, hy, h⟩ := shift_good h hr ht
  unfold shlN at h
  rw [mkInt_eq] at h
  refine ⟨_, _, h, .int _ _, ?_⟩
  have : ¬ ((q : Int) < 0) := by omega
  simp only [execOp, ho, hx, hy, Sem.run_bind, run_eqGuard_int, Result.andThen_ok, binOp, Op.shift, if_neg this, Int.toNat_natCast, Sem.run_pure]
  have e : ((m.mul (Nat.pow 2 (min q j.bits)) : Nat) : Int) = (m : Int) * 2 ^ (min q j.bits) := by
    show ((m * 2 ^ (min q j.bits) : Nat) : Int) = _; push_cast; rfl
  rw [show (Int.ofNat (m.mul (Nat.pow 2 (min q j.bits)))) = (m : Int) * 2 ^ (min q j.bits) from e]
theorem snd_shr {s : String} {t u : TypeId} {x y : Operand} (ho : o.op = .binOp .shr t x y u) : OpSnd P (shiftF s shrN (px x) (px y)) o := .quiet fun n T H k r h hr ι a w ht hh => by
  obtain ⟨j, i, m, q, hx, hy, h⟩ := shift_good h hr ht
  unfold shrN at h
  rw [natF_eq] at h
  refine ⟨_, _, h, .int _ _, ?_⟩
  have : ¬ ((q : Int) < 0) := by omega
  simp only [execOp, ho, hx, hy, Sem.run_bind, run_eqGuard_int, Result.andThen_ok, binOp, Op.shift, if_neg this, Int.toNat_natCast, Sem.run_pure]
  have e : ((m.div (Nat.pow 2 (min q j.bits)) : Nat) : Int) = Int.fdiv (m : Int) (2 ^ (min q j.bits)) := by
    show ((m / 2 ^ (min q j.bits) : Nat) : Int) = _
    rw [Int.fdiv_eq_ediv_of_nonneg _ (by exact Int.pow_nonneg (by decide))]; push_cast; rfl
  rw [show (Int.ofNat (m.div (Nat.pow 2 (min q j.bits)))) = Int.fdiv (m : Int) (2 ^ (min q j.bits)) from e]
end
end Go.Ev
