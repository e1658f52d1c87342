/-
  crc.More, as the kernel may reckon it (EvCrc), does what the program's function does.
-/
import Derived.Test.YtmmfimkbcnfgfaaGreatEvSym
import Derived.Test.YtmmfimkbcnfgfaaGreatEvCrc
import Derived.Test.YtmmfimkbcnfgfaaGreatChecked
namespace Go.Ev
open Go.Proofs
set_option linter.unusedSimpArgs false
theorem land_one (x : Nat) : Nat.land x 1 = x % 2 := by
  have := Nat.and_one_is_mod x
  exact this
/-- One round, as the program has it. -/
theorem crc1_eq {x : Nat} (h : x < 4294967296) : Nat.xor (x / 2) (Nat.land 2197175160 ((4294967296 - x % 2) % 4294967296)) = crc1 x ∧ crc1 x < 4294967296 := by
  unfold crc1
  rw [land_one, show Nat.shiftRight x 1 = x / 2 from Nat.shiftRight_eq_div_pow x 1]
  rcases Nat.mod_two_eq_zero_or_one x with e | e
  · rw [e]
    refine ⟨rfl, ?_⟩
    show x / 2 ^^^ (2197175160 * 0) < 4294967296
    rw [Nat.mul_zero, Nat.xor_zero]; omega
  · rw [e]
    refine ⟨rfl, ?_⟩
    show x / 2 ^^^ (2197175160 * 1) < 2 ^ 32
    exact Nat.xor_lt_two_pow (by omega) (by decide)
noncomputable def crcK : Nat → Nat → Nat
  | 0, x => x
  | k + 1, x => crcK k (crc1 x)
theorem crcK_lt : ∀ (k x : Nat), x < 4294967296 → crcK k x < 4294967296
  | 0, _, h => h
  | k + 1, _, h => crcK_lt k _ (crc1_eq h).2
theorem crc8_eq {β : Type} (x : Nat) (k : Nat → β) : crc8 x k = k (crcK 8 x) := by
  unfold crc8
  simp only [natF_eq]
  rfl
noncomputable def b99 : CC := (.seq (.region [(.plain (binIntF "crc.go:9" (cmpF ltI) (.tmp (.s .c0 .c0 .c3)) (.const (.int .i64 (Int.ofNat 8)))) (fun _ => []) (.some (.s .c0 .c0 .c4)))]) (.seq (.cond (.tmp (.s .c0 .c0 .c4)) .skip (.exit 0)) (.seq (.block 1 (.region [(.plain (moveF (.tmp (.s .c0 .c0 .c0))) (fun _ => []) (.some (.s .c0 .c0 .c5))), (.plain (shiftF "crc.go:10" shrN (.tmp (.s .c0 .c0 .c5)) (.const (.int .u64 (Int.ofNat 1)))) (fun _ => []) (.some (.s .c0 .c0 .c6))), (.plain (moveF (.tmp (.s .c0 .c0 .c0))) (fun _ => []) (.some (.s .c0 .c0 .c7))), (.plain (binIntF "crc.go:10" (bitF Nat.land) (.tmp (.s .c0 .c0 .c7)) (.const (.int .u32 (Int.ofNat 1)))) (fun _ => []) (.some (.s .c0 .c1 .c0))), (.plain (negF "crc.go:10" (.tmp (.s .c0 .c1 .c0))) (fun _ => []) (.some (.s .c0 .c1 .c1))), (.plain (binIntF "crc.go:10" (bitF Nat.land) (.const (.int .u32 (Int.ofNat 2197175160))) (.tmp (.s .c0 .c1 .c1))) (fun _ => []) (.some (.s .c0 .c1 .c2))), (.plain (binIntF "crc.go:10" (bitF Nat.xor) (.tmp (.s .c0 .c0 .c6)) (.tmp (.s .c0 .c1 .c2))) (fun _ => []) (.some (.s .c0 .c1 .c3))), (.plain (moveF (.tmp (.s .c0 .c1 .c3))) (fun _ => []) (.some (.s .c0 .c0 .c0)))])) (.region [(.plain (binIntF "crc.go:9" (arithF addI) (.tmp (.s .c0 .c0 .c3)) (.const (.int .i64 (Int.ofNat 1)))) (fun _ => []) (.some (.s .c0 .c1 .c4))), (.plain (moveF (.tmp (.s .c0 .c1 .c4))) (fun _ => []) (.some (.s .c0 .c0 .c3)))]))))
theorem behind_loop (call : CallT) (n : Nat) (H : AH) : ∀ (k m x : Nat) (t : Fr AV), k ≤ 8 → x < 4294967296 → t.getP (.s .c0 .c0 .c0) = some (.int .u32 (.ofNat x)) → t.getP (.s .c0 .c0 .c3) = some (.int .i64 (.ofNat (8 - k))) → k < m →
    ∃ t', rounds (evC Tryz.prog b99) call n m ⟨t, [], .no⟩ H = .ok (.exit 0) ⟨t', [], .no⟩ H ∧ t'.getP (.s .c0 .c0 .c0) = some (.int .u32 (.ofNat (crcK k x)))
  | 0, m, x, t, _, hx, h0, h3, hm => by
    obtain ⟨m, rfl⟩ : ∃ j, m = j + 1 := ⟨m - 1, by omega⟩
    have h3' : t.getP (.s .c0 .c0 .c3) = some (.int .i64 (.ofNat 8)) := h3
    refine ⟨t.updP (.s .c0 .c0 .c4) (some (.bool false)), ?_, by rw [getP_updP, if_neg (by decide)]; exact h0⟩
    rw [rounds_succ]
    unfold b99
    simp -implicitDefEqProofs only [withO_tmp, withO_const, withAll_nil, withAll_cons, withParts_nil, withParts_cons, withOpt_none, withOpt_some, putD_none, putD_some, mkInt_ev, asInt_int, asBool_bool, asPtr_ptr, asSlice_slice, asTup_tup, natOf_int, aggOf_agg, strOf_str, evOps_nil, evOps_plain, evOps_call, evOps_guard, evOp_plain, callee_func, ofRes_ok, evC_skip, evC_ret, evC_exit, evC_region, evC_seq, evC_cond, evC_block, evC_loop, nrm_eq, afterLoop_normal, afterLoop_exit, afterLoop_ret, afterBlock_normal, afterBlock_ret, afterBlock_exit, onB_true, onB_false, onO_some, onO_none, natF_eq, intF_eq, getP_updP, Option.getD_some, Pth.s.injEq, reduceCtorEq, and_true, true_and, and_false, false_and, if_true, if_false, moveF, binIntF, shiftF, negF, comF, cmpF, arithF, bitF, kindIs, binIntF, cmpF, h3', kindIs]
    rfl
  | k + 1, m, x, t, hk, hx, h0, h3, hm => by
    obtain ⟨m, rfl⟩ : ∃ j, m = j + 1 := ⟨m - 1, by omega⟩
    have hc := crc1_eq hx
    have hlt : ltI (.ofNat (8 - (k + 1))) (.ofNat 8) = true := by rw [ltI_nat]; simp; omega
    have e1 : wrapF .u32 (.ofNat (Nat.land (bitsOf (modOf .u32) (.ofNat x)) (bitsOf (modOf .u32) (.ofNat 1)))) = .ofNat (x % 2) := by
      have : bitsOf (modOf .u32) (.ofNat x) = x := bitsOf_nat hx
      rw [this, show bitsOf (modOf .u32) (.ofNat 1) = 1 from rfl, land_one, wrapF_u32 (by omega)]
    have e2 : wrapF .u32 (subI 0 (.ofNat (x % 2))) = .ofNat ((4294967296 - x % 2) % 4294967296) := by
      rcases Nat.mod_two_eq_zero_or_one x with e | e <;> rw [e] <;> rfl
    have e3 : wrapF .u32 (.ofNat (Nat.land (bitsOf (modOf .u32) (.ofNat 2197175160)) (bitsOf (modOf .u32) (.ofNat ((4294967296 - x % 2) % 4294967296))))) = .ofNat (Nat.land 2197175160 ((4294967296 - x % 2) % 4294967296)) := by
      rw [show bitsOf (modOf .u32) (.ofNat 2197175160) = 2197175160 from rfl, show bitsOf (modOf .u32) (.ofNat ((4294967296 - x % 2) % 4294967296)) = (4294967296 - x % 2) % 4294967296 from bitsOf_nat (Nat.mod_lt _ (by decide))]
      exact wrapF_u32 (Nat.and_lt_two_pow (n := 32) _ (by omega))
    have e4 : wrapF .u32 (.ofNat (Nat.xor (bitsOf (modOf .u32) (.ofNat (x / 2))) (bitsOf (modOf .u32) (.ofNat (Nat.land 2197175160 ((4294967296 - x % 2) % 4294967296)))))) = .ofNat (crc1 x) := by
      have h1 : bitsOf (modOf .u32) (.ofNat (x / 2)) = x / 2 := bitsOf_nat (show x / 2 < 4294967296 by omega)
      have h2 : bitsOf (modOf .u32) (.ofNat (Nat.land 2197175160 ((4294967296 - x % 2) % 4294967296))) = Nat.land 2197175160 ((4294967296 - x % 2) % 4294967296) := bitsOf_nat (Nat.and_lt_two_pow (n := 32) _ (by omega))
      rw [h1, h2, hc.1, wrapF_u32 hc.2]
    have e5 : wrapF .i64 (addI (.ofNat (8 - (k + 1))) (.ofNat 1)) = .ofNat (8 - k) := by
      rw [addI_nat, wrapF_i64 (by omega)]; congr 1; omega
    have e6 : Nat.div x (Nat.pow 2 1) = x / 2 := rfl
    have e7 : (Bool.rec (bitsK .u32) 1 (Nat.ble 1 (bitsK .u32)) : Nat) = 1 := rfl
    rw [rounds_succ]
    have step : ∃ t1, evC Tryz.prog b99 call n ⟨t, [], .no⟩ H nrm = .ok .normal ⟨t1, [], .no⟩ H ∧ t1.getP (.s .c0 .c0 .c0) = some (.int .u32 (.ofNat (crc1 x))) ∧ t1.getP (.s .c0 .c0 .c3) = some (.int .i64 (.ofNat (8 - k))) := by
      unfold b99
      simp -implicitDefEqProofs only [withO_tmp, withO_const, withAll_nil, withAll_cons, withParts_nil, withParts_cons, withOpt_none, withOpt_some, putD_none, putD_some, mkInt_ev, asInt_int, asBool_bool, asPtr_ptr, asSlice_slice, asTup_tup, natOf_int, aggOf_agg, strOf_str, evOps_nil, evOps_plain, evOps_call, evOps_guard, evOp_plain, callee_func, ofRes_ok, evC_skip, evC_ret, evC_exit, evC_region, evC_seq, evC_cond, evC_block, evC_loop, nrm_eq, afterLoop_normal, afterLoop_exit, afterLoop_ret, afterBlock_normal, afterBlock_ret, afterBlock_exit, onB_true, onB_false, onO_some, onO_none, natF_eq, intF_eq, getP_updP, Option.getD_some, Pth.s.injEq, reduceCtorEq, and_true, true_and, and_false, false_and, if_true, if_false, moveF, binIntF, shiftF, negF, comF, cmpF, arithF, bitF, kindIs, shrN, h0, h3, hlt, e1, e2, e3, e4, e5, e6, e7]
      exact ⟨_, rfl, by simp [getP_updP], by simp [getP_updP]⟩
    obtain ⟨t1, h1, h2, h4⟩ := step
    rw [h1, afterLoop_normal]
    exact behind_loop call n H k m (crc1 x) t1 (by omega) hc.2 h2 h4 (by omega)
noncomputable def c99 : PF := (PF.mk 14 [(.tmp (.tmp (.s .c0 .c0 .c2)))] (.seq (.region [(.plain (moveF (.const (.int .u32 (Int.ofNat 0)))) (fun _ => []) (.some (.s .c0 .c0 .c2)))]) (.seq (.seq (.region [(.plain (moveF (.const (.int .i64 (Int.ofNat 0)))) (fun _ => []) (.some (.s .c0 .c0 .c3)))]) (.block 0 (.loop b99))) (.seq (.region [(.plain (moveF (.tmp (.s .c0 .c0 .c0))) (fun _ => []) (.some (.s .c0 .c1 .c5))), (.plain (moveF (.tmp (.s .c0 .c1 .c5))) (fun _ => []) (.some (.s .c0 .c0 .c2)))]) .ret))))
theorem code99 : prepF Tryz.prog 99 = some c99 := by kernel_rfl
theorem initT_one (v : AV) : initT .no [v] = ⟨Fr.nil.updP (.s .c0 .c0 .c0) (some v), [], .no⟩ := rfl
theorem initT_two (v u : AV) : initT .no [v, u] = ⟨(Fr.nil.updP (.s .c0 .c0 .c0) (some v)).updP (.s .c0 .c0 .c1) (some u), [], .no⟩ := rfl
theorem behind_spec {N d x : Nat} {H : AH} (hN : 9 ≤ N) (hx : x < 4294967296) : evCall Tryz.prog ovr0 N (d + 1) 99 [.int .u32 (.ofNat x)] H = .ok (.int .u32 (.ofNat (crcK 8 x))) H := by
  rw [evCall_body rfl code99 rfl]
  unfold c99
  simp -implicitDefEqProofs only [withO_tmp, withO_const, withAll_nil, withAll_cons, withParts_nil, withParts_cons, withOpt_none, withOpt_some, putD_none, putD_some, mkInt_ev, asInt_int, asBool_bool, asPtr_ptr, asSlice_slice, asTup_tup, natOf_int, aggOf_agg, strOf_str, evOps_nil, evOps_plain, evOps_call, evOps_guard, evOp_plain, callee_func, ofRes_ok, evC_skip, evC_ret, evC_exit, evC_region, evC_seq, evC_cond, evC_block, evC_loop, nrm_eq, afterLoop_normal, afterLoop_exit, afterLoop_ret, afterBlock_normal, afterBlock_ret, afterBlock_exit, onB_true, onB_false, onO_some, onO_none, natF_eq, intF_eq, getP_updP, Option.getD_some, Pth.s.injEq, reduceCtorEq, and_true, true_and, and_false, false_and, if_true, if_false, moveF, binIntF, shiftF, negF, comF, cmpF, arithF, bitF, kindIs, initT_one]
  generalize hT : ((Fr.nil.updP (.s .c0 .c0 .c0) (some (AV.int .u32 (.ofNat x)))).updP (.s .c0 .c0 .c2) (some (.int .u32 (.ofNat 0)))).updP (.s .c0 .c0 .c3) (some (.int .i64 (.ofNat 0))) = t
  obtain ⟨t', h1, h2⟩ := behind_loop (evCall Tryz.prog ovr0 N d) N H 8 N x t (Nat.le_refl _) hx (by rw [← hT]; simp -implicitDefEqProofs only [withO_tmp, withO_const, withAll_nil, withAll_cons, withParts_nil, withParts_cons, withOpt_none, withOpt_some, putD_none, putD_some, mkInt_ev, asInt_int, asBool_bool, asPtr_ptr, asSlice_slice, asTup_tup, natOf_int, aggOf_agg, strOf_str, evOps_nil, evOps_plain, evOps_call, evOps_guard, evOp_plain, callee_func, ofRes_ok, evC_skip, evC_ret, evC_exit, evC_region, evC_seq, evC_cond, evC_block, evC_loop, nrm_eq, afterLoop_normal, afterLoop_exit, afterLoop_ret, afterBlock_normal, afterBlock_ret, afterBlock_exit, onB_true, onB_false, onO_some, onO_none, natF_eq, intF_eq, getP_updP, Option.getD_some, Pth.s.injEq, reduceCtorEq, and_true, true_and, and_false, false_and, if_true, if_false, moveF, binIntF, shiftF, negF, comF, cmpF, arithF, bitF, kindIs]) (by rw [← hT]; simp -implicitDefEqProofs only [withO_tmp, withO_const, withAll_nil, withAll_cons, withParts_nil, withParts_cons, withOpt_none, withOpt_some, putD_none, putD_some, mkInt_ev, asInt_int, asBool_bool, asPtr_ptr, asSlice_slice, asTup_tup, natOf_int, aggOf_agg, strOf_str, evOps_nil, evOps_plain, evOps_call, evOps_guard, evOp_plain, callee_func, ofRes_ok, evC_skip, evC_ret, evC_exit, evC_region, evC_seq, evC_cond, evC_block, evC_loop, nrm_eq, afterLoop_normal, afterLoop_exit, afterLoop_ret, afterBlock_normal, afterBlock_ret, afterBlock_exit, onB_true, onB_false, onO_some, onO_none, natF_eq, intF_eq, getP_updP, Option.getD_some, Pth.s.injEq, reduceCtorEq, and_true, true_and, and_false, false_and, if_true, if_false, moveF, binIntF, shiftF, negF, comF, cmpF, arithF, bitF, kindIs]) (by omega)
  rw [h1]
  simp -implicitDefEqProofs only [withO_tmp, withO_const, withAll_nil, withAll_cons, withParts_nil, withParts_cons, withOpt_none, withOpt_some, putD_none, putD_some, mkInt_ev, asInt_int, asBool_bool, asPtr_ptr, asSlice_slice, asTup_tup, natOf_int, aggOf_agg, strOf_str, evOps_nil, evOps_plain, evOps_call, evOps_guard, evOp_plain, callee_func, ofRes_ok, evC_skip, evC_ret, evC_exit, evC_region, evC_seq, evC_cond, evC_block, evC_loop, nrm_eq, afterLoop_normal, afterLoop_exit, afterLoop_ret, afterBlock_normal, afterBlock_ret, afterBlock_exit, onB_true, onB_false, onO_some, onO_none, natF_eq, intF_eq, getP_updP, Option.getD_some, Pth.s.injEq, reduceCtorEq, and_true, true_and, and_false, false_and, if_true, if_false, moveF, binIntF, shiftF, negF, comF, cmpF, arithF, bitF, kindIs, h2, callEnd_ret, results_one]
noncomputable def b89 : CC := (.seq (.region [(.plain (binIntF "crc.go:18" (cmpF ltI) (.tmp (.s .c0 .c1 .c4)) (.tmp (.s .c0 .c1 .c3))) (fun _ => []) (.some (.s .c0 .c1 .c5)))]) (.seq (.cond (.tmp (.s .c0 .c1 .c5)) .skip (.exit 0)) (.seq (.block 1 (.seq (.region [(.plain (indexSlF "crc.go:18" 1 (.tmp (.s .c0 .c1 .c2)) (.tmp (.s .c0 .c1 .c4))) (fun _ => []) (.some (.s .c0 .c1 .c6))), (.plain (load1F "crc.go:18" (.tmp (.s .c0 .c1 .c6))) (fun T => idsOfAll T [(.tmp (.s .c0 .c1 .c6))]) (.some (.s .c0 .c1 .c7))), (.plain (moveF (.tmp (.s .c0 .c1 .c7))) (fun _ => []) (.some (.s .c0 .c0 .c7)))]) (.region [(.plain (moveF (.tmp (.s .c0 .c0 .c5))) (fun _ => []) (.some (.s .c0 .c2 .c0))), (.plain (moveF (.tmp (.s .c0 .c0 .c7))) (fun _ => []) (.some (.s .c0 .c2 .c1))), (.plain (convIntF "crc.go:19" .u32 (.tmp (.s .c0 .c2 .c1))) (fun T => idsOfAll T [(.tmp (.s .c0 .c2 .c1))]) (.some (.s .c0 .c2 .c2))), (.plain (binIntF "crc.go:19" (bitF Nat.xor) (.tmp (.s .c0 .c2 .c0)) (.tmp (.s .c0 .c2 .c2))) (fun _ => []) (.some (.s .c0 .c2 .c3))), (.call (.func 99) [(.tmp (.s .c0 .c2 .c3))] (.some (.s .c0 .c2 .c4)) "crc.go:19"), (.plain (moveF (.tmp (.s .c0 .c2 .c4))) (fun _ => []) (.some (.s .c0 .c0 .c5)))]))) (.region [(.plain (binIntF "crc.go:18" (arithF addI) (.tmp (.s .c0 .c1 .c4)) (.const (.int .i64 (Int.ofNat 1)))) (fun _ => []) (.some (.s .c0 .c2 .c5))), (.plain (moveF (.tmp (.s .c0 .c2 .c5))) (fun _ => []) (.some (.s .c0 .c1 .c4)))]))))
noncomputable def c89 : PF := (PF.mk 24 [(.tmp (.tmp (.s .c0 .c0 .c4)))] (.seq (.region [(.plain (moveF (.const (.int .u32 (Int.ofNat 0)))) (fun _ => []) (.some (.s .c0 .c0 .c4)))]) (.seq (.region [(.plain (moveF (.tmp (.s .c0 .c0 .c0))) (fun _ => []) (.some (.s .c0 .c1 .c0))), (.plain (comF "crc.go:17" (.tmp (.s .c0 .c1 .c0))) (fun _ => []) (.some (.s .c0 .c1 .c1))), (.plain (moveF (.tmp (.s .c0 .c1 .c1))) (fun _ => []) (.some (.s .c0 .c0 .c5)))]) (.seq (.seq (.region [(.plain (moveF (.tmp (.s .c0 .c0 .c1))) (fun _ => []) (.some (.s .c0 .c1 .c2))), (.plain (lenSlF "crc.go:18" (.tmp (.s .c0 .c1 .c2))) (fun T => mapIdsOfAll T [(.tmp (.s .c0 .c1 .c2))]) (.some (.s .c0 .c1 .c3))), (.plain (moveF (.const (.int .i64 (Int.ofNat 0)))) (fun _ => []) (.some (.s .c0 .c1 .c4)))]) (.block 0 (.loop b89))) (.seq (.region [(.plain (moveF (.tmp (.s .c0 .c0 .c5))) (fun _ => []) (.some (.s .c0 .c2 .c6))), (.plain (comF "crc.go:21" (.tmp (.s .c0 .c2 .c6))) (fun _ => []) (.some (.s .c0 .c2 .c7))), (.plain (moveF (.tmp (.s .c0 .c2 .c7))) (fun _ => []) (.some (.s .c0 .c0 .c4)))]) .ret)))))
theorem code89 : prepF Tryz.prog 89 = some c89 := by kernel_rfl
theorem crcCells_cons {v : AV} {l : List AV} {n : Nat} {k : Nat → Res} (h : (crcCells (v :: l) n k).Good) : ∃ j x, v = .int j (.ofNat x) ∧ x < 256 ∧ crcCells (v :: l) n k = crcCells l (crcK 8 (Nat.xor n x)) k := by
  have e : crcCells (v :: l) n k = asInt v (fun _ x => Int.rec (fun x => onB (Nat.ble (Nat.succ x) 256) (natF (Nat.xor n x) fun n => crc8 n fun n => crcCells l n k) (.fail ["crc: a byte"])) (fun _ => .fail ["crc: a byte"]) x) (.fail ["crc: a byte"]) := rfl
  rw [e] at h ⊢
  cases v with
  | int j y =>
    cases y with
    | ofNat x =>
      have e2 : asInt (.int j (.ofNat x)) (fun _ x => Int.rec (fun x => onB (Nat.ble (Nat.succ x) 256) (natF (Nat.xor n x) fun n => crc8 n fun n => crcCells l n k) (.fail ["crc: a byte"])) (fun _ => .fail ["crc: a byte"]) x) (.fail ["crc: a byte"])
        = onB (Nat.ble (Nat.succ x) 256) (natF (Nat.xor n x) fun n => crc8 n fun n => crcCells l n k) (.fail ["crc: a byte"]) := rfl
      rw [e2] at h ⊢
      by_cases hx : x < 256
      · rw [ble_t hx, onB_true, natF_eq, crc8_eq]
        exact ⟨j, x, rfl, hx, rfl⟩
      · rw [ble_f hx] at h; exact h.elim
    | negSucc x => exact h.elim
  | _ => exact h.elim
theorem more_loop {N d : Nat} {H : AH} (hN : 9 ≤ N) {b o cap len : Nat} {c : List AV} {e : TypeId} {z : Bool} (hg : H.m.get b = some (.cells c e z)) (hlen : len < 9223372036854775807) : ∀ (rest : List AV) (i m x : Nat) (t : Fr AV) (k : Nat → Res),
    (∀ (j : Nat) v, rest[j]? = some v → nth c (o + (i + j)) = some v) → i + rest.length = len → rest.length < m → x < 4294967296 → (crcCells rest x k).Good →
    t.getP (.s .c0 .c0 .c5) = some (.int .u32 (.ofNat x)) → t.getP (.s .c0 .c1 .c2) = some (.slice b o len cap) → t.getP (.s .c0 .c1 .c3) = some (.int .i64 (.ofNat len)) → t.getP (.s .c0 .c1 .c4) = some (.int .i64 (.ofNat i)) →
    ∃ t' y, rounds (evC Tryz.prog b89) (evCall Tryz.prog ovr0 N (d + 1)) N m ⟨t, [], .no⟩ H = .ok (.exit 0) ⟨t', [], .no⟩ H ∧ t'.getP (.s .c0 .c0 .c5) = some (.int .u32 (.ofNat y)) ∧ y < 4294967296 ∧ crcCells rest x k = k y
  | [], i, m, x, t, k, _, hl, hm, hx, _, h5, h10, h11, h12 => by
    obtain ⟨m, rfl⟩ : ∃ j, m = j + 1 := ⟨m - 1, by omega⟩
    have hlt : ltI (.ofNat i) (.ofNat len) = false := by rw [ltI_nat]; simp at hl; simp; omega
    refine ⟨t.updP (.s .c0 .c1 .c5) (some (.bool false)), x, ?_, by rw [getP_updP, if_neg (by decide)]; exact h5, hx, rfl⟩
    rw [rounds_succ]
    unfold b89
    simp -implicitDefEqProofs only [withO_tmp, withO_const, withAll_nil, withAll_cons, withParts_nil, withParts_cons, withOpt_none, withOpt_some, putD_none, putD_some, mkInt_ev, asInt_int, asBool_bool, asPtr_ptr, asSlice_slice, asTup_tup, natOf_int, aggOf_agg, strOf_str, evOps_nil, evOps_plain, evOps_call, evOps_guard, evOp_plain, callee_func, ofRes_ok, evC_skip, evC_ret, evC_exit, evC_region, evC_seq, evC_cond, evC_block, evC_loop, nrm_eq, afterLoop_normal, afterLoop_exit, afterLoop_ret, afterBlock_normal, afterBlock_ret, afterBlock_exit, onB_true, onB_false, onO_some, onO_none, natF_eq, intF_eq, getP_updP, Option.getD_some, Pth.s.injEq, reduceCtorEq, and_true, true_and, and_false, false_and, if_true, if_false, moveF, binIntF, shiftF, negF, comF, cmpF, arithF, bitF, kindIs, h11, h12, hlt]
  | v :: rest, i, m, x, t, k, hc, hl, hm, hx, hgood, h5, h10, h11, h12 => by
    obtain ⟨m, rfl⟩ : ∃ j, m = j + 1 := ⟨m - 1, by omega⟩
    obtain ⟨jk, q, rfl, hq, he⟩ := crcCells_cons hgood
    simp only [List.length_cons] at hl hm
    have hlt : ltI (.ofNat i) (.ofNat len) = true := by rw [ltI_nat]; simp; omega
    have hble : Nat.ble (Nat.succ i) len = true := ble_t (by omega)
    have hnth : nth c (Nat.add o (Nat.mul i 1)) = some (.int jk (.ofNat q)) := by
      have := hc 0 _ rfl
      rw [← this]; congr 1; show o + i * 1 = _; omega
    have e1 : wrapF .u32 (.ofNat q) = .ofNat q := wrapF_u32 (by omega)
    have hxq : Nat.xor x q < 4294967296 := Nat.xor_lt_two_pow (n := 32) hx (by omega)
    have e2 : wrapF .u32 (.ofNat (Nat.xor (bitsOf (modOf .u32) (.ofNat x)) (bitsOf (modOf .u32) (.ofNat q)))) = .ofNat (Nat.xor x q) := by
      rw [show bitsOf (modOf .u32) (.ofNat x) = x from bitsOf_nat hx, show bitsOf (modOf .u32) (.ofNat q) = q from bitsOf_nat (show q < 4294967296 by omega), wrapF_u32 hxq]
    have e3 : wrapF .i64 (addI (.ofNat i) (.ofNat 1)) = .ofNat (i + 1) := by rw [addI_nat, wrapF_i64 (by omega)]
    have hb := behind_spec (N := N) (d := d) (H := H) hN hxq
    rw [rounds_succ]
    have step : ∃ t1, evC Tryz.prog b89 (evCall Tryz.prog ovr0 N (d + 1)) N ⟨t, [], .no⟩ H nrm = .ok .normal ⟨t1, [], .no⟩ H ∧ t1.getP (.s .c0 .c0 .c5) = some (.int .u32 (.ofNat (crcK 8 (Nat.xor x q)))) ∧ t1.getP (.s .c0 .c1 .c2) = some (.slice b o len cap) ∧
        t1.getP (.s .c0 .c1 .c3) = some (.int .i64 (.ofNat len)) ∧ t1.getP (.s .c0 .c1 .c4) = some (.int .i64 (.ofNat (i + 1))) := by
      unfold b89
      simp -implicitDefEqProofs only [withO_tmp, withO_const, withAll_nil, withAll_cons, withParts_nil, withParts_cons, withOpt_none, withOpt_some, putD_none, putD_some, mkInt_ev, asInt_int, asBool_bool, asPtr_ptr, asSlice_slice, asTup_tup, natOf_int, aggOf_agg, strOf_str, evOps_nil, evOps_plain, evOps_call, evOps_guard, evOp_plain, callee_func, ofRes_ok, evC_skip, evC_ret, evC_exit, evC_region, evC_seq, evC_cond, evC_block, evC_loop, nrm_eq, afterLoop_normal, afterLoop_exit, afterLoop_ret, afterBlock_normal, afterBlock_ret, afterBlock_exit, onB_true, onB_false, onO_some, onO_none, natF_eq, intF_eq, getP_updP, Option.getD_some, Pth.s.injEq, reduceCtorEq, and_true, true_and, and_false, false_and, if_true, if_false, moveF, binIntF, shiftF, negF, comF, cmpF, arithF, bitF, kindIs, indexSlF, load1F, convIntF, cellsAt_get hg, h5, h10, h11, h12, hlt, hble, hnth, e1, e2, e3, hb]
      exact ⟨_, rfl, by simp [getP_updP], by simp [getP_updP, h10], by simp [getP_updP, h11], by simp [getP_updP]⟩
    obtain ⟨t1, s1, s2, s3, s4, s5⟩ := step
    rw [s1, afterLoop_normal, he]
    rw [he] at hgood
    exact more_loop hN hg hlen rest (i + 1) m _ t1 k (fun j v hv => by
      have := hc (j + 1) v (by rw [List.getElem?_cons_succ]; exact hv)
      rw [← this, show o + (i + 1 + j) = o + (i + (j + 1)) from by omega]) (by omega) (by omega) (crcK_lt 8 _ hxq) hgood s2 s3 s4 s5
theorem more_empty {N d : Nat} {H : AH} {x m : Nat} {t : Fr AV} (hm : 0 < m) (h11 : t.getP (.s .c0 .c1 .c3) = some (.int .i64 (.ofNat 0))) (h12 : t.getP (.s .c0 .c1 .c4) = some (.int .i64 (.ofNat 0))) (h5 : t.getP (.s .c0 .c0 .c5) = some (.int .u32 (.ofNat x))) :
    ∃ t', rounds (evC Tryz.prog b89) (evCall Tryz.prog ovr0 N (d + 1)) N m ⟨t, [], .no⟩ H = .ok (.exit 0) ⟨t', [], .no⟩ H ∧ t'.getP (.s .c0 .c0 .c5) = some (.int .u32 (.ofNat x)) := by
  obtain ⟨m, rfl⟩ : ∃ j, m = j + 1 := ⟨m - 1, by omega⟩
  have hlt : ltI (.ofNat 0) (.ofNat 0) = false := rfl
  refine ⟨t.updP (.s .c0 .c1 .c5) (some (.bool false)), ?_, by rw [getP_updP, if_neg (by decide)]; exact h5⟩
  rw [rounds_succ]
  unfold b89
  simp -implicitDefEqProofs only [withO_tmp, withO_const, withAll_nil, withAll_cons, withParts_nil, withParts_cons, withOpt_none, withOpt_some, putD_none, putD_some, mkInt_ev, asInt_int, asBool_bool, asPtr_ptr, asSlice_slice, asTup_tup, natOf_int, aggOf_agg, strOf_str, evOps_nil, evOps_plain, evOps_call, evOps_guard, evOp_plain, callee_func, ofRes_ok, evC_skip, evC_ret, evC_exit, evC_region, evC_seq, evC_cond, evC_block, evC_loop, nrm_eq, afterLoop_normal, afterLoop_exit, afterLoop_ret, afterBlock_normal, afterBlock_ret, afterBlock_exit, onB_true, onB_false, onO_some, onO_none, natF_eq, intF_eq, getP_updP, Option.getD_some, Pth.s.injEq, reduceCtorEq, and_true, true_and, and_false, false_and, if_true, if_false, moveF, binIntF, shiftF, negF, comF, cmpF, arithF, bitF, kindIs, h11, h12, hlt]
theorem com_eq {y : Nat} (hy : y < 4294967296) : wrapF .u32 (.ofNat (Nat.sub (Nat.sub (modOf .u32) 1) (bitsOf (modOf .u32) (.ofNat y)))) = .ofNat (Nat.sub 4294967295 y) ∧ Nat.sub 4294967295 y < 4294967296 := by
  have e : bitsOf (modOf .u32) (.ofNat y) = y := bitsOf_nat hy
  have e2 : Nat.sub (modOf .u32) 1 = 4294967295 := rfl
  have h : Nat.sub 4294967295 y < 4294967296 := Nat.lt_of_le_of_lt (Nat.sub_le 4294967295 y) (by decide)
  rw [e, e2]
  exact ⟨wrapF_u32 h, h⟩
theorem more_nil {N d n : Nat} {H : AH} (hN : 9 ≤ N) (hn : n < 4294967296) : evCall Tryz.prog ovr0 N (d + 1 + 1) 89 [.int .u32 (.ofNat n), .nil .slice] H = .ok (.int .u32 (.ofNat (Nat.sub 4294967295 (Nat.sub 4294967295 n)))) H := by
  obtain ⟨e1, hx0⟩ := com_eq hn
  obtain ⟨e2, _⟩ := com_eq hx0
  rw [evCall_body rfl code89 rfl]
  unfold c89
  simp -implicitDefEqProofs only [withO_tmp, withO_const, withAll_nil, withAll_cons, withParts_nil, withParts_cons, withOpt_none, withOpt_some, putD_none, putD_some, mkInt_ev, asInt_int, asBool_bool, asPtr_ptr, asSlice_slice, asTup_tup, natOf_int, aggOf_agg, strOf_str, evOps_nil, evOps_plain, evOps_call, evOps_guard, evOp_plain, callee_func, ofRes_ok, evC_skip, evC_ret, evC_exit, evC_region, evC_seq, evC_cond, evC_block, evC_loop, nrm_eq, afterLoop_normal, afterLoop_exit, afterLoop_ret, afterBlock_normal, afterBlock_ret, afterBlock_exit, onB_true, onB_false, onO_some, onO_none, natF_eq, intF_eq, getP_updP, Option.getD_some, Pth.s.injEq, reduceCtorEq, and_true, true_and, and_false, false_and, if_true, if_false, moveF, binIntF, shiftF, negF, comF, cmpF, arithF, bitF, kindIs, initT_two, e1, lenSlF, intN]
  generalize hT : Fr.updP _ (.s .c0 .c1 .c4) _ = t
  obtain ⟨t', h1, h2⟩ := more_empty (N := N) (d := d) (H := H) (x := Nat.sub 4294967295 n) (m := N) (t := t) (by omega) (by rw [← hT]; simp -implicitDefEqProofs only [withO_tmp, withO_const, withAll_nil, withAll_cons, withParts_nil, withParts_cons, withOpt_none, withOpt_some, putD_none, putD_some, mkInt_ev, asInt_int, asBool_bool, asPtr_ptr, asSlice_slice, asTup_tup, natOf_int, aggOf_agg, strOf_str, evOps_nil, evOps_plain, evOps_call, evOps_guard, evOp_plain, callee_func, ofRes_ok, evC_skip, evC_ret, evC_exit, evC_region, evC_seq, evC_cond, evC_block, evC_loop, nrm_eq, afterLoop_normal, afterLoop_exit, afterLoop_ret, afterBlock_normal, afterBlock_ret, afterBlock_exit, onB_true, onB_false, onO_some, onO_none, natF_eq, intF_eq, getP_updP, Option.getD_some, Pth.s.injEq, reduceCtorEq, and_true, true_and, and_false, false_and, if_true, if_false, moveF, binIntF, shiftF, negF, comF, cmpF, arithF, bitF, kindIs]) (by rw [← hT]; simp -implicitDefEqProofs only [withO_tmp, withO_const, withAll_nil, withAll_cons, withParts_nil, withParts_cons, withOpt_none, withOpt_some, putD_none, putD_some, mkInt_ev, asInt_int, asBool_bool, asPtr_ptr, asSlice_slice, asTup_tup, natOf_int, aggOf_agg, strOf_str, evOps_nil, evOps_plain, evOps_call, evOps_guard, evOp_plain, callee_func, ofRes_ok, evC_skip, evC_ret, evC_exit, evC_region, evC_seq, evC_cond, evC_block, evC_loop, nrm_eq, afterLoop_normal, afterLoop_exit, afterLoop_ret, afterBlock_normal, afterBlock_ret, afterBlock_exit, onB_true, onB_false, onO_some, onO_none, natF_eq, intF_eq, getP_updP, Option.getD_some, Pth.s.injEq, reduceCtorEq, and_true, true_and, and_false, false_and, if_true, if_false, moveF, binIntF, shiftF, negF, comF, cmpF, arithF, bitF, kindIs]) (by rw [← hT]; simp -implicitDefEqProofs only [withO_tmp, withO_const, withAll_nil, withAll_cons, withParts_nil, withParts_cons, withOpt_none, withOpt_some, putD_none, putD_some, mkInt_ev, asInt_int, asBool_bool, asPtr_ptr, asSlice_slice, asTup_tup, natOf_int, aggOf_agg, strOf_str, evOps_nil, evOps_plain, evOps_call, evOps_guard, evOp_plain, callee_func, ofRes_ok, evC_skip, evC_ret, evC_exit, evC_region, evC_seq, evC_cond, evC_block, evC_loop, nrm_eq, afterLoop_normal, afterLoop_exit, afterLoop_ret, afterBlock_normal, afterBlock_ret, afterBlock_exit, onB_true, onB_false, onO_some, onO_none, natF_eq, intF_eq, getP_updP, Option.getD_some, Pth.s.injEq, reduceCtorEq, and_true, true_and, and_false, false_and, if_true, if_false, moveF, binIntF, shiftF, negF, comF, cmpF, arithF, bitF, kindIs])
  rw [h1]
  simp -implicitDefEqProofs only [withO_tmp, withO_const, withAll_nil, withAll_cons, withParts_nil, withParts_cons, withOpt_none, withOpt_some, putD_none, putD_some, mkInt_ev, asInt_int, asBool_bool, asPtr_ptr, asSlice_slice, asTup_tup, natOf_int, aggOf_agg, strOf_str, evOps_nil, evOps_plain, evOps_call, evOps_guard, evOp_plain, callee_func, ofRes_ok, evC_skip, evC_ret, evC_exit, evC_region, evC_seq, evC_cond, evC_block, evC_loop, nrm_eq, afterLoop_normal, afterLoop_exit, afterLoop_ret, afterBlock_normal, afterBlock_ret, afterBlock_exit, onB_true, onB_false, onO_some, onO_none, natF_eq, intF_eq, getP_updP, Option.getD_some, Pth.s.injEq, reduceCtorEq, and_true, true_and, and_false, false_and, if_true, if_false, moveF, binIntF, shiftF, negF, comF, cmpF, arithF, bitF, kindIs, h2, callEnd_ret, results_one, e2]
theorem more_slice {N d n : Nat} {H : AH} (hn : n < 4294967296) {b o l c : Nat} {cs : List AV} {ee : TypeId} {z : Bool} (hg : H.m.get b = some (.cells cs ee z)) (hbig : l < 9223372036854775807) (hle : l ≤ (cs.drop o).length) {k : Nat → Res}
    (hk : k = fun n => .ok (.int .u32 (.ofNat (Nat.sub 4294967295 n))) H) (h : (crcCells ((cs.drop o).take l) (Nat.sub 4294967295 n) k).Good) (hN : l + 9 ≤ N) :
    evCall Tryz.prog ovr0 N (d + 1 + 1) 89 [.int .u32 (.ofNat n), .slice b o l c] H = crcCells ((cs.drop o).take l) (Nat.sub 4294967295 n) k := by
  obtain ⟨e1, hx0⟩ := com_eq hn
  have hll : ((cs.drop o).take l).length = l := by rw [List.length_take]; omega
  rw [evCall_body rfl code89 rfl]
  unfold c89
  simp -implicitDefEqProofs only [withO_tmp, withO_const, withAll_nil, withAll_cons, withParts_nil, withParts_cons, withOpt_none, withOpt_some, putD_none, putD_some, mkInt_ev, asInt_int, asBool_bool, asPtr_ptr, asSlice_slice, asTup_tup, natOf_int, aggOf_agg, strOf_str, evOps_nil, evOps_plain, evOps_call, evOps_guard, evOp_plain, callee_func, ofRes_ok, evC_skip, evC_ret, evC_exit, evC_region, evC_seq, evC_cond, evC_block, evC_loop, nrm_eq, afterLoop_normal, afterLoop_exit, afterLoop_ret, afterBlock_normal, afterBlock_ret, afterBlock_exit, onB_true, onB_false, onO_some, onO_none, natF_eq, intF_eq, getP_updP, Option.getD_some, Pth.s.injEq, reduceCtorEq, and_true, true_and, and_false, false_and, if_true, if_false, moveF, binIntF, shiftF, negF, comF, cmpF, arithF, bitF, kindIs, initT_two, e1, lenSlF, intN]
  generalize hT : Fr.updP _ (.s .c0 .c1 .c4) _ = t
  obtain ⟨t', y, h1, h2, h3, h4⟩ := more_loop (N := N) (d := d) (H := H) (cap := c) (by omega) hg hbig ((cs.drop o).take l) 0 N (Nat.sub 4294967295 n) t k (fun j v hv => by
    rw [nth_eq, show o + (0 + j) = o + j from by omega]
    rw [List.getElem?_take] at hv
    split at hv
    · rw [List.getElem?_drop] at hv; exact hv
    · cases hv) (by rw [hll]; omega) (by rw [hll]; omega) hx0 h (by rw [← hT]; simp -implicitDefEqProofs only [withO_tmp, withO_const, withAll_nil, withAll_cons, withParts_nil, withParts_cons, withOpt_none, withOpt_some, putD_none, putD_some, mkInt_ev, asInt_int, asBool_bool, asPtr_ptr, asSlice_slice, asTup_tup, natOf_int, aggOf_agg, strOf_str, evOps_nil, evOps_plain, evOps_call, evOps_guard, evOp_plain, callee_func, ofRes_ok, evC_skip, evC_ret, evC_exit, evC_region, evC_seq, evC_cond, evC_block, evC_loop, nrm_eq, afterLoop_normal, afterLoop_exit, afterLoop_ret, afterBlock_normal, afterBlock_ret, afterBlock_exit, onB_true, onB_false, onO_some, onO_none, natF_eq, intF_eq, getP_updP, Option.getD_some, Pth.s.injEq, reduceCtorEq, and_true, true_and, and_false, false_and, if_true, if_false, moveF, binIntF, shiftF, negF, comF, cmpF, arithF, bitF, kindIs]) (by rw [← hT]; simp -implicitDefEqProofs only [withO_tmp, withO_const, withAll_nil, withAll_cons, withParts_nil, withParts_cons, withOpt_none, withOpt_some, putD_none, putD_some, mkInt_ev, asInt_int, asBool_bool, asPtr_ptr, asSlice_slice, asTup_tup, natOf_int, aggOf_agg, strOf_str, evOps_nil, evOps_plain, evOps_call, evOps_guard, evOp_plain, callee_func, ofRes_ok, evC_skip, evC_ret, evC_exit, evC_region, evC_seq, evC_cond, evC_block, evC_loop, nrm_eq, afterLoop_normal, afterLoop_exit, afterLoop_ret, afterBlock_normal, afterBlock_ret, afterBlock_exit, onB_true, onB_false, onO_some, onO_none, natF_eq, intF_eq, getP_updP, Option.getD_some, Pth.s.injEq, reduceCtorEq, and_true, true_and, and_false, false_and, if_true, if_false, moveF, binIntF, shiftF, negF, comF, cmpF, arithF, bitF, kindIs]) (by rw [← hT]; simp -implicitDefEqProofs only [withO_tmp, withO_const, withAll_nil, withAll_cons, withParts_nil, withParts_cons, withOpt_none, withOpt_some, putD_none, putD_some, mkInt_ev, asInt_int, asBool_bool, asPtr_ptr, asSlice_slice, asTup_tup, natOf_int, aggOf_agg, strOf_str, evOps_nil, evOps_plain, evOps_call, evOps_guard, evOp_plain, callee_func, ofRes_ok, evC_skip, evC_ret, evC_exit, evC_region, evC_seq, evC_cond, evC_block, evC_loop, nrm_eq, afterLoop_normal, afterLoop_exit, afterLoop_ret, afterBlock_normal, afterBlock_ret, afterBlock_exit, onB_true, onB_false, onO_some, onO_none, natF_eq, intF_eq, getP_updP, Option.getD_some, Pth.s.injEq, reduceCtorEq, and_true, true_and, and_false, false_and, if_true, if_false, moveF, binIntF, shiftF, negF, comF, cmpF, arithF, bitF, kindIs]) (by rw [← hT]; simp -implicitDefEqProofs only [withO_tmp, withO_const, withAll_nil, withAll_cons, withParts_nil, withParts_cons, withOpt_none, withOpt_some, putD_none, putD_some, mkInt_ev, asInt_int, asBool_bool, asPtr_ptr, asSlice_slice, asTup_tup, natOf_int, aggOf_agg, strOf_str, evOps_nil, evOps_plain, evOps_call, evOps_guard, evOp_plain, callee_func, ofRes_ok, evC_skip, evC_ret, evC_exit, evC_region, evC_seq, evC_cond, evC_block, evC_loop, nrm_eq, afterLoop_normal, afterLoop_exit, afterLoop_ret, afterBlock_normal, afterBlock_ret, afterBlock_exit, onB_true, onB_false, onO_some, onO_none, natF_eq, intF_eq, getP_updP, Option.getD_some, Pth.s.injEq, reduceCtorEq, and_true, true_and, and_false, false_and, if_true, if_false, moveF, binIntF, shiftF, negF, comF, cmpF, arithF, bitF, kindIs])
  obtain ⟨e2, _⟩ := com_eq h3
  rw [h1, h4, hk]
  simp -implicitDefEqProofs only [withO_tmp, withO_const, withAll_nil, withAll_cons, withParts_nil, withParts_cons, withOpt_none, withOpt_some, putD_none, putD_some, mkInt_ev, asInt_int, asBool_bool, asPtr_ptr, asSlice_slice, asTup_tup, natOf_int, aggOf_agg, strOf_str, evOps_nil, evOps_plain, evOps_call, evOps_guard, evOp_plain, callee_func, ofRes_ok, evC_skip, evC_ret, evC_exit, evC_region, evC_seq, evC_cond, evC_block, evC_loop, nrm_eq, afterLoop_normal, afterLoop_exit, afterLoop_ret, afterBlock_normal, afterBlock_ret, afterBlock_exit, onB_true, onB_false, onO_some, onO_none, natF_eq, intF_eq, getP_updP, Option.getD_some, Pth.s.injEq, reduceCtorEq, and_true, true_and, and_false, false_and, if_true, if_false, moveF, binIntF, shiftF, negF, comF, cmpF, arithF, bitF, kindIs, h2, callEnd_ret, results_one, e2]
theorem more_spec (args : List AV) (H : AH) (h : (crcMore args H).Good) : ∃ N, evCall Tryz.prog ovr0 N (0 + 1 + 1) 89 args H = crcMore args H := by
  have key : ∀ (n : Nat) (s : AV), (crcMore [.int .u32 (.ofNat n), s] H).Good → ∃ N, evCall Tryz.prog ovr0 N (0 + 1 + 1) 89 [.int .u32 (.ofNat n), s] H = crcMore [.int .u32 (.ofNat n), s] H := by
    intro n s h
    have e : crcMore [.int .u32 (.ofNat n), s] H = onB (Nat.ble (Nat.succ n) 4294967296) (natF (Nat.sub 4294967295 n) fun n => crcOn s H n fun n => natF (Nat.sub 4294967295 n) fun n => .ok (.int .u32 (.ofNat n)) H) (.fail ["crc"]) := rfl
    rw [e] at h ⊢
    by_cases hn : n < 4294967296
    case neg => rw [ble_f hn] at h; exact h.elim
    rw [ble_t hn, onB_true, natF_eq] at h ⊢
    simp only [natF_eq] at h ⊢
    generalize hk : (fun n : Nat => Res.ok (.int .u32 (.ofNat (Nat.sub 4294967295 n))) H) = k at h ⊢
    have hkn : ∀ y, k y = .ok (.int .u32 (.ofNat (Nat.sub 4294967295 y))) H := fun y => by rw [← hk]
    generalize hx : Nat.sub 4294967295 n = x at h ⊢
    cases s with
    | nil nw =>
      cases nw with
      | slice =>
        have e3 : crcOn (.nil .slice) H x k = k x := rfl
        refine ⟨9, ?_⟩
        rw [e3, hkn, more_nil (Nat.le_refl 9) hn, hx]
      | _ => exact h.elim
    | slice b o l c =>
      have e3 : crcOn (.slice b o l c) H x k = onB (capKnown l) (onO (H.m.get b) (fun y => asCells y (fun c _ _ => onO (takeL l (dropL o c)) (fun l => crcCells l x k) (.fail ["crc: cells"])) (.fail ["crc: cells"])) (.fail ["crc: cells"])) (.fail ["crc: cells"]) := rfl
      rw [e3] at h ⊢
      cases hc : capKnown l with
      | false => rw [hc] at h; exact h.elim
      | true =>
      have hbig : l < 9223372036854775807 := by have := capKnown_iff.1 hc; omega
      rw [hc, onB_true] at h
      rw [onB_true]
      cases hg : H.m.get b with
      | none => rw [hg] at h; exact h.elim
      | some ob =>
        rw [hg] at h
        cases ob with
        | cells cs ee z =>
          have e4 : onO (some (AObj.cells cs ee z)) (fun y => asCells y (fun c _ _ => onO (takeL l (dropL o c)) (fun l => crcCells l x k) (.fail ["crc: cells"])) (.fail ["crc: cells"])) (.fail ["crc: cells"]) = onO (takeL l (dropL o cs)) (fun l => crcCells l x k) (.fail ["crc: cells"]) := rfl
          rw [e4] at h ⊢
          cases ht : takeL l (dropL o cs) with
          | none => rw [ht] at h; exact h.elim
          | some L =>
            rw [ht, onO_some] at h
            rw [onO_some]
            rw [takeL_eq, dropL_eq] at ht
            split at ht
            case isFalse => cases ht
            rename_i hle
            cases ht
            subst hx
            exact ⟨l + 9, more_slice hn hg hbig hle hk.symm h (Nat.le_refl _)⟩
        | _ => exact h.elim
    | _ => exact h.elim
  unfold crcMore at h
  split at h
  · exact key _ _ h
  · exact h.elim
theorem crc_snd (hP : ProgOk Tryz.prog) : FnSnd Tryz.prog 89 crcMore := by
  intro args H hg ι args' w ha hh
  obtain ⟨N, hN⟩ := more_spec args H hg
  have := evaluator hP ovr0_snd N (0 + 1 + 1) 89 args H (by rw [hN]; exact hg) ι args' w ha hh
  rw [hN] at this
  exact this
end Go.Ev
