import Derived.Test.YtmmfimkbcnfgfaaGreatEvLay2
/- Words by which the abstract evaluator's code is walked with open values. -/
namespace Go.Ev

theorem getP_updP {α : Type} (t : Fr α) (p q : Pth) (o : Option α) : (t.updP p o).getP q = if q = p then o else t.getP q := by
  obtain ⟨lo, hi⟩ := t
  cases p with
  | s a b c =>
    cases q with
    | s d e f =>
      show N8.selD (N8.selD (N8.selD (N8.putD lo a (N8.putD (N8.selD lo a) b (N8.putD (N8.selD (N8.selD lo a) b) c o))) d) e) f = if _ then o else N8.selD (N8.selD (N8.selD lo d) e) f
      rw [N8.selD_putD]
      by_cases h : d = a
      · subst h
        rw [if_pos rfl, N8.selD_putD]
        by_cases h : e = b
        · subst h
          rw [if_pos rfl, N8.selD_putD]
          by_cases h : f = c
          · subst h; rw [if_pos rfl, if_pos rfl]
          · rw [if_neg h, if_neg (by simpa using h)]
        · rw [if_neg h, if_neg (by simp [h])]
      · rw [if_neg h, if_neg (by simp [h])]
    | b n => rw [if_neg (by simp)]; rfl
  | b m =>
    cases q with
    | s d e f => rw [if_neg (by simp)]; rfl
    | b n =>
      show (hi.upd m o).get n = if _ then o else hi.get n
      rw [Tq.get_upd]
      by_cases h : n = m
      · subst h; rw [if_pos rfl, if_pos rfl]
      · rw [if_neg h, if_neg (by simpa using h)]
section
variable {β : Type}
theorem withO_tmp (p : Pth) (t : Fr AV) (ds : List (AV × List AV)) (rm : Rm) (k : AV → R) : withO (.tmp p) ⟨t, ds, rm⟩ k = k ((t.getP p).getD undefA) := by
  show Option.rec (motive := fun _ => R) (k undefA) k (t.getP p) = _
  cases t.getP p <;> rfl
theorem withO_const (v : AV) (T : Tm) (k : AV → R) : withO (.const v) T k = k v := rfl
theorem withAll_nil (T : Tm) (k : List AV → R) : withAll [] T k = k [] := rfl
theorem withAll_cons (x : PX) (xs : List PX) (T : Tm) (k : List AV → R) : withAll (x :: xs) T k = withO x T fun v => withAll xs T fun l => k (v :: l) := rfl
theorem withParts_nil (T : Tm) (k : List (Nat × AV) → R) : withParts [] T k = k [] := rfl
theorem withParts_cons (x : Nat × PX) (xs : List (Nat × PX)) (T : Tm) (k : List (Nat × AV) → R) : withParts (x :: xs) T k = withO x.2 T fun v => withParts xs T fun l => k ((x.1, v) :: l) := rfl
theorem withOpt_none (T : Tm) (k : Option AV → R) : withOpt none T k = k none := rfl
theorem withOpt_some (x : PX) (T : Tm) (k : Option AV → R) : withOpt (some x) T k = withO x T fun v => k (some v) := rfl
theorem putD_none (v : AV) (T : Tm) (k : Tm → R) : putD none v T k = k T := rfl
theorem putD_some (p : Pth) (v : AV) (t : Fr AV) (ds : List (AV × List AV)) (rm : Rm) (k : Tm → R) : putD (some p) v ⟨t, ds, rm⟩ k = k ⟨t.updP p (some v), ds, rm⟩ := rfl
theorem mkInt_ev (j : IntKind) (n : Int) (c : AV → β) : mkInt j n c = c (.int j (wrapF j n)) := by unfold mkInt; rw [intF_eq]
theorem asInt_int (j : IntKind) (n : Int) (c : IntKind → Int → β) (d : β) : asInt (.int j n) c d = c j n := rfl
theorem asBool_bool (b : Bool) (c : Bool → β) (d : β) : asBool (.bool b) c d = c b := rfl
theorem asPtr_ptr (b o : Nat) (c : Nat → Nat → β) (d : β) : asPtr (.ptr b o) c d = c b o := rfl
theorem asSlice_slice (b o l n : Nat) (c : Nat → Nat → Nat → Nat → β) (d : β) : asSlice (.slice b o l n) c d = c b o l n := rfl
theorem asTup_tup (l : List AV) (c : List AV → β) (d : β) : asTup (.tup l) c d = c l := rfl
theorem natOf_int (j : IntKind) (n : Nat) (c : Nat → β) (d : β) : natOf (.int j (.ofNat n)) c d = c n := rfl
theorem aggOf_agg (l : List AV) (c : List AV → β) (d : β) : aggOf (.agg l) c d = c l := rfl
theorem strOf_str (l : List UInt8) (c : List UInt8 → β) (d : β) : strOf (.str l) c d = c l := rfl
end
theorem cellsAt_get {w : String} {H : AH} {b : Nat} {k : List AV → TypeId → Bool → R} {c : List AV} {e : TypeId} {z : Bool} (h : H.m.get b = some (.cells c e z)) : cellsAt w H b k = k c e z := by
  unfold cellsAt; rw [h]; rfl
theorem wcellsAt_get {w : String} {H : AH} {b : Nat} {k : List AV → TypeId → R} {c : List AV} {e : TypeId} (h : H.m.get b = some (.cells c e true)) : wcellsAt w H b k = k c e := by
  unfold wcellsAt; rw [cellsAt_get h]; rfl
section
variable {P : Program} {call : CallT} {n : Nat} {T : Tm} {H : AH}
theorem evOps_nil (k : Tm → AH → R) : evOps P [] call T H k = k T H := rfl
theorem evOps_plain (f : F) (ft : Tm → List Nat) (d : Option Pth) (r : List PO) (k : Tm → AH → R) : evOps P (.plain f ft d :: r) call T H k = f T H fun v H => putD d v T fun T => evOps P r call T H k := rfl
theorem evOps_call (c : PC) (as : List PX) (d : Option Pth) (w : String) (r : List PO) (k : Tm → AH → R) :
    evOps P (.call c as d w :: r) call T H k = callee P c as call T H fun res => ofRes T res (fun v H => putD d v T fun T => evOps P r call T H k) w := rfl
theorem evOps_guard (p : Pth) (want : Bool) (d : Option Pth) (o : PO) (r : List PO) (k : Tm → AH → R) :
    evOps P (.guarded p want d o :: r) call T H k = onB (told p want T) (evOp P o call T H fun T H => evOps P r call T H k) (putD d undefA T fun T => evOps P r call T H k) := rfl
theorem evOp_plain (f : F) (ft : Tm → List Nat) (d : Option Pth) (k : Tm → AH → R) : evOp P (.plain f ft d) call T H k = f T H fun v H => putD d v T fun T => k T H := rfl
theorem callee_func (f : FuncId) (as : List PX) (k : Res → R) : callee P (.func f) as call T H k = withAll as T fun l => k (call f l H) := rfl
theorem ofRes_ok (v : AV) (k : AV → AH → R) (w : String) : ofRes T (.ok v H) k w = k v H := rfl
theorem evC_skip (k : Tm → AH → R) : evC P .skip call n T H k = k T H := rfl
theorem evC_ret (k : Tm → AH → R) : evC P .ret call n T H k = .ok .ret T H := rfl
theorem evC_exit (i : Nat) (t : Fr AV) (ds : List (AV × List AV)) (k : Tm → AH → R) : evC P (.exit i) call n ⟨t, ds, .no⟩ H k = .ok (.exit i) ⟨t, ds, .no⟩ H := rfl
theorem evC_region (ops : List PO) (k : Tm → AH → R) : evC P (.region ops) call n T H k = evOps P ops call T H k := rfl
theorem evC_seq (a b : CC) (k : Tm → AH → R) : evC P (.seq a b) call n T H k = evC P a call n T H fun T H => evC P b call n T H k := rfl
theorem evC_cond (o : PX) (a b : CC) (k : Tm → AH → R) : evC P (.cond o a b) call n T H k = withO o T fun v => asBool v (fun t => onB t (evC P a call n T H k) (evC P b call n T H k)) (bad "cond") := rfl
theorem evC_block (i : Nat) (b : CC) (t : Fr AV) (ds : List (AV × List AV)) (k : Tm → AH → R) : evC P (.block i b) call n ⟨t, ds, .no⟩ H k = afterBlock i k (evC P b call n ⟨t, ds, .no⟩ H nrm) := rfl
theorem evC_loop (b : CC) (t : Fr AV) (ds : List (AV × List AV)) (k : Tm → AH → R) : evC P (.loop b) call n ⟨t, ds, .no⟩ H k = rounds (evC P b) call n n ⟨t, ds, .no⟩ H := rfl
theorem rounds_succ (f : CodeT) (m : Nat) : rounds f call n (m + 1) T H = afterLoop (rounds f call n m) (f call n T H nrm) := rfl
theorem nrm_eq : nrm T H = .ok .normal T H := rfl
theorem afterLoop_normal (g : Tm → AH → R) : afterLoop g (.ok .normal T H) = g T H := rfl
theorem afterLoop_exit (g : Tm → AH → R) (i : Nat) : afterLoop g (.ok (.exit i) T H) = .ok (.exit i) T H := rfl
theorem afterLoop_ret (g : Tm → AH → R) : afterLoop g (.ok .ret T H) = .ok .ret T H := rfl
theorem afterBlock_normal (i : Nat) (k : Tm → AH → R) : afterBlock i k (.ok .normal T H) = k T H := rfl
theorem afterBlock_ret (i : Nat) (k : Tm → AH → R) : afterBlock i k (.ok .ret T H) = .ok .ret T H := rfl
theorem afterBlock_exit (i j : Nat) (k : Tm → AH → R) : afterBlock i k (.ok (.exit j) T H) = if j = i then k T H else .ok (.exit j) T H := by
  show onB (Nat.beq j i) _ _ = _
  by_cases h : j = i
  · rw [if_pos h, show Nat.beq j i = true from by rw [Nat.beq_eq]; exact h]; rfl
  · rw [if_neg h, show Nat.beq j i = false from by rw [← Bool.not_eq_true, Nat.beq_eq]; exact h]; rfl
/-- A function's run, from its prepared code. -/
theorem evCall_body {ovr : FuncId → Option (List AV → AH → Res)} {f : FuncId} {p : PF} {d : Nat} {args : List AV} (ho : ovr f = none) (hp : prepF P f = some p) (hl : Nat.ble (lenL args) p.n = true) :
    evCall P ovr n (d + 1) f args H = callEnd P (evCall P ovr n d) n p.rs (evC P p.c (evCall P ovr n d) n (initT .no args) H nrm) := by
  show (match ovr f with | some g => g args H | none => bodyA P (evCall P ovr n d) n f .no args H (callEnd P (evCall P ovr n d) n)) = _
  rw [ho]
  show (match prepF P f with | some p => (match Nat.ble (lenL args) p.n with | true => _ | false => _) | none => _) = _
  rw [hp]
  simp only [hl]
theorem callEnd_ret (rs : List PR) (t : Fr AV) : callEnd P call n rs (.ok .ret ⟨t, [], .no⟩ H) = resultsA P rs ⟨t, [], .no⟩ H := rfl
theorem callEnd_normal (rs : List PR) (t : Fr AV) : callEnd P call n rs (.ok .normal ⟨t, [], .no⟩ H) = resultsA P rs ⟨t, [], .no⟩ H := rfl
theorem results_one (p : Pth) (t : Fr AV) (ds : List (AV × List AV)) (rm : Rm) : resultsA P [.tmp (.tmp p)] ⟨t, ds, rm⟩ H = .ok ((t.getP p).getD undefA) H := by
  unfold resultsA resAll resAll resOne valO
  cases h : t.getP p <;> simp only [h] <;> rfl
end
/-! Whole numbers. -/
theorem wrapF_u {j : IntKind} {M : Nat} (hm : modOf j = M) (hh : halfOf j = M) {n : Nat} (h : n < M) : wrapF j (.ofNat n) = .ofNat n := by
  unfold wrapF ofBits bitsOf
  rw [hm, hh]
  show Bool.rec (motive := fun _ => Int) _ _ (Nat.ble M (n % M)) = _
  rw [Nat.mod_eq_of_lt h, show Nat.ble M n = false from by rw [← Bool.not_eq_true, Nat.ble_eq]; omega]
  show Int.ofNat (n % M) = _
  rw [Nat.mod_eq_of_lt h]
theorem wrapF_u32 {n : Nat} (h : n < 4294967296) : wrapF .u32 (.ofNat n) = .ofNat n := wrapF_u rfl rfl h
theorem wrapF_u64 {n : Nat} (h : n < 18446744073709551616) : wrapF .u64 (.ofNat n) = .ofNat n := wrapF_u rfl rfl h
theorem wrapF_u8 {n : Nat} (h : n < 256) : wrapF .u8 (.ofNat n) = .ofNat n := wrapF_u rfl rfl h
theorem wrapF_i64 {n : Nat} (h : n < 9223372036854775808) : wrapF .i64 (.ofNat n) = .ofNat n := by
  unfold wrapF ofBits bitsOf
  show Bool.rec (motive := fun _ => Int) _ _ (Nat.ble 9223372036854775808 (n % 18446744073709551616)) = _
  rw [Nat.mod_eq_of_lt (by omega), show Nat.ble 9223372036854775808 n = false from by rw [← Bool.not_eq_true, Nat.ble_eq]; omega]
  show Int.ofNat (n % 18446744073709551616) = _
  rw [Nat.mod_eq_of_lt (by omega)]
theorem bitsOf_nat {M n : Nat} (h : n < M) : bitsOf M (.ofNat n) = n := Nat.mod_eq_of_lt h
theorem addI_nat (a b : Nat) : addI (.ofNat a) (.ofNat b) = .ofNat (a + b) := rfl
theorem ltI_nat (a b : Nat) : ltI (.ofNat a) (.ofNat b) = decide (a < b) := by
  show Nat.ble (Nat.succ a) b = _
  by_cases h : a < b
  · rw [ble_t h, decide_eq_true h]
  · rw [ble_f h, decide_eq_false h]
theorem eqI_nat (a b : Nat) : eqI (.ofNat a) (.ofNat b) = decide (a = b) := by
  show Nat.beq a b = _
  by_cases h : a = b
  · rw [decide_eq_true h, Nat.beq_eq]; exact h
  · rw [decide_eq_false h, ← Bool.not_eq_true, Nat.beq_eq]; exact h
end Go.Ev
