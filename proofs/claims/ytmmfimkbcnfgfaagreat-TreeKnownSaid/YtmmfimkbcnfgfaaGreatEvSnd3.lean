import Derived.Test.YtmmfimkbcnfgfaaGreatEvSnd2
import Derived.Laws.StructEq
import Derived.ChangeKeysEq
/- Each operation of the abstract evaluator does what the model's does: comparisons, texts, unary operators. -/
namespace Go.Ev

theorem eqBytes_eq (x y : List UInt8) : eqBytes x y = (x == y) := by
  induction x generalizing y with
  | nil => cases y <;> rfl
  | cons a x ih =>
    cases y with
    | nil => rfl
    | cons b y =>
      show Bool.rec (motive := fun _ => Bool) false (eqBytes x y) (Nat.beq a.toNat b.toNat) = _
      rw [ih]
      by_cases h : a = b
      · subst h
        rw [Nat.beq_refl]
        show (x == y) = _
        simp
      · have : Nat.beq a.toNat b.toNat = false := by
          rw [← Bool.not_eq_true, Nat.beq_eq]; intro e; exact h (UInt8.toNat_inj.1 e)
        rw [this]
        symm
        show _ = false
        simp [h]
theorem ltBytes_eq (x y : List UInt8) : ltBytes x y = Op.bytesLess x y := by
  induction x generalizing y with
  | nil => cases y <;> rfl
  | cons a x ih =>
    cases y with
    | nil => rfl
    | cons b y =>
      show Bool.rec (motive := fun _ => Bool) (Bool.rec (motive := fun _ => Bool) false (ltBytes x y) (Nat.beq a.toNat b.toNat)) true (Nat.ble (a.toNat + 1) b.toNat) = (a < b || (a == b && Op.bytesLess x y))
      rw [ih]
      by_cases h : a < b
      · have : Nat.ble (a.toNat + 1) b.toNat = true := Nat.ble_eq_true_of_le (UInt8.lt_iff_toNat_lt.1 h)
        rw [this]; simp [h]
      · have : Nat.ble (a.toNat + 1) b.toNat = false := by
          rw [← Bool.not_eq_true, Nat.ble_eq]; intro e; exact h (UInt8.lt_iff_toNat_lt.2 e)
        rw [this]
        by_cases e : a = b
        · subst e; rw [Nat.beq_refl]; simp
        · have : Nat.beq a.toNat b.toNat = false := by
            rw [← Bool.not_eq_true, Nat.beq_eq]; intro e'; exact e (UInt8.toNat_inj.1 e')
          rw [this]; simp [h, e]

section
variable {P : Program} {o : Oper}
theorem bytes_toList (l : List UInt8) : (⟨⟨l⟩⟩ : ByteArray).toList = l := by rw [ByteArray.toList_eq]
theorem strOp_snd {op : BinOp} {x y : List UInt8} {v : AV} (h : strOp op x y = some v) (ι : Inj) (t : TypeId) (w : World) :
    ∃ v', (binOp op t (.string ⟨⟨x⟩⟩) (.string ⟨⟨y⟩⟩)).run P w = .ok v' w ∧ AVRel ι v v' := by
  cases op <;> simp only [strOp, Option.some.injEq, reduceCtorEq] at h
  · cases hb : Nat.ble ((lenL x).add (lenL y)) 4611686018427387904 with
    | false => rw [hb] at h; cases h
    | true =>
      rw [hb] at h
      cases h
      have hle := Nat.le_of_ble_eq_true hb
      rw [lenL_eq, lenL_eq] at hle
      have e : (⟨⟨x⟩⟩ : ByteArray) ++ ⟨⟨y⟩⟩ = ⟨⟨x ++ y⟩⟩ := by
        apply ByteArray.ext; rw [ByteArray.data_append]; simp
      refine ⟨.string (⟨⟨x⟩⟩ ++ ⟨⟨y⟩⟩), ?_, by rw [e]; exact .str _⟩
      have hs : ¬ ((((⟨⟨x⟩⟩ : ByteArray).size + (⟨⟨y⟩⟩ : ByteArray).size : Nat) : Int) > IntKind.i64.max) := by
        show ¬ (((x.length + y.length : Nat) : Int) > 9223372036854775807)
        have : x.length + y.length ≤ 4611686018427387904 := hle
        omega
      simp only [binOp, Op.stringOp, if_neg hs, Sem.run_pure]
  all_goals subst h
  all_goals exact ⟨_, by simp only [binOp, Op.stringOp, bytes_toList, Sem.run_pure, ← eqBytes_eq, ← ltBytes_eq], .bool _⟩
theorem snd_binStr {s : String} {op : BinOp} {t u : TypeId} {x y : Operand} (ho : o.op = .binOp op t x y u) : OpSnd P (binStrF s op (px x) (px y)) o := .quiet fun n T H k r h hr ι a w ht hh => by
  obtain ⟨v, h, hv⟩ := withO_good h hr ht
  obtain ⟨z, h, hz⟩ := withO_good h hr ht
  obtain ⟨l, e0, h1'⟩ := strOf_good h hr; clear h; subst e0; have h := h1'; clear h1'
  obtain ⟨m, e0, h1'⟩ := strOf_good h hr; clear h; subst e0; have h := h1'; clear h1'
  obtain ⟨v, hs, h⟩ := onO_good h hr
  obtain ⟨v', hrun, hr'⟩ := strOp_snd (P := P) hs ι t w
  refine ⟨v, v', h, hr', ?_⟩
  have hg : (eqGuard op t x y (.string ⟨⟨l⟩⟩) (.string ⟨⟨m⟩⟩)).run P w = .ok () w := by
    unfold eqGuard; split <;> rfl
  simp only [execOp, ho, str_inv hv, str_inv hz, Sem.run_bind, hg, Result.andThen_ok, hrun, Sem.run_pure]

theorem nilIs_inv {ι : Inj} {w : Nil} {v : Value} (h : AVRel ι (.nil w) v) :
    (w = .ptr ∧ v = .pointer none) ∨ (w = .slice ∧ v = .slice none 0 0) ∨ (w = .map ∧ v = .map none) ∨ (w = .func ∧ v = .nilFunc) ∨ (w = .iface ∧ v = .nilIface) := by
  cases h <;> simp
theorem shape_run {t : TypeId} {sh : Option Nat} (hs : shapeA P t = some sh) {ι : Inj} {c : List AV} {cs : Array Value} (hl : LRel ι c cs.toList) {off : Nat} {v : AV} (h : readS sh c off = some v) (w : World) :
    ∃ v', (part t cs off).run P w = .ok v' w ∧ AVRel ι v v' := by
  obtain ⟨cs⟩ := cs
  exact readS_part hs hl h w
theorem cellsOf_of {e : TypeId} {s : Nat} (h : szA P e = some s) : P.cellsOf e = s ∧ ∃ i, P.info? e = some i := by
  unfold szA at h
  split at h
  · rename_i i hi; cases h; exact ⟨by simp [Program.cellsOf, hi], i, hi⟩
  · cases h
theorem eqFieldsA_snd {ι : Inj} {cmp : TypeId → AV → AV → Option Bool} {d : Nat} {w : World}
    (hc : ∀ t x y b x' y', cmp t x y = some b → AVRel ι x x' → AVRel ι y y' → (Op.equalIn d t x' y').run P w = .ok b w)
    {xs ys : List AV} {xs' ys' : Array Value} (hx : LRel ι xs xs'.toList) (hy : LRel ι ys ys'.toList) :
    ∀ {fs : List Field} {b : Bool}, eqFieldsA P cmp xs ys fs = some b → (Op.eqFields d xs' ys' fs).run P w = .ok b w
  | [], b, h => by simp only [eqFieldsA] at h; cases h; simp [Op.eqFields]
  | f :: fs, b, h => by
    simp only [eqFieldsA] at h
    split at h
    · rename_i hn
      have hn' : ¬ (f.name ≠ "_") := by simpa using hn
      rw [Op.eqFields, if_neg hn']
      exact eqFieldsA_snd hc hx hy h
    · rename_i hn
      have hn' : f.name ≠ "_" := by simpa using hn
      split at h
      · rename_i sh hsh
        split at h
        · rename_i u v hu hv
          obtain ⟨u', ru, hu'⟩ := shape_run hsh hx hu w
          obtain ⟨v', rv, hv'⟩ := shape_run hsh hy hv w
          rw [Op.eqFields]
          split at h
          · rename_i hcm
            have he := hc _ _ _ _ _ _ hcm hu' hv'
            simp only [if_pos hn', Sem.run_bind, ru, rv, he, Result.andThen_ok, Bool.not_true, Bool.false_eq_true, if_false]
            exact eqFieldsA_snd hc hx hy h
          · rename_i hne
            have hcm := h
            cases b with
            | true => exact (hne hcm).elim
            | false =>
              have he := hc _ _ _ _ _ _ hcm hu' hv'
              simp only [if_pos hn', Sem.run_bind, ru, rv, he, Result.andThen_ok, Bool.not_false, if_true, Sem.run_pure]
        · cases h
      · cases h
theorem eqItemsA_snd {ι : Inj} {cmp : AV → AV → Option Bool} {d : Nat} {w : World} {e : TypeId} {sh : Option Nat} {s : Nat} (hsh : shapeA P e = some sh) (hs : szA P e = some s)
    (hc : ∀ x y b x' y', cmp x y = some b → AVRel ι x x' → AVRel ι y y' → (Op.equalIn d e x' y').run P w = .ok b w)
    {xs ys : List AV} {xs' ys' : Array Value} (hx : LRel ι xs xs'.toList) (hy : LRel ι ys ys'.toList) :
    ∀ {n i : Nat} {b : Bool}, eqItemsA cmp sh s xs ys n i = some b → (Op.eqItems d e (P.cellsOf e) xs' ys' (List.range' i n)).run P w = .ok b w
  | 0, i, b, h => by simp only [eqItemsA] at h; cases h; simp [Op.eqItems]
  | n + 1, i, b, h => by
    simp only [eqItemsA] at h
    split at h
    · rename_i u v hu hv
      obtain ⟨u', ru, hu'⟩ := shape_run hsh hx hu w
      obtain ⟨v', rv, hv'⟩ := shape_run hsh hy hv w
      have ec : P.cellsOf e = s := (cellsOf_of hs).1
      rw [List.range'_succ, Op.eqItems, ec]
      split at h
      · rename_i hcm
        have he := hc _ _ _ _ _ hcm hu' hv'
        have ru' : (part e xs' (i * s)).run P w = .ok u' w := ru
        have rv' : (part e ys' (i * s)).run P w = .ok v' w := rv
        simp only [Sem.run_bind, ru', rv', he, Result.andThen_ok, Bool.not_true, Bool.false_eq_true, if_false]
        rw [← ec]
        exact eqItemsA_snd hsh hs hc hx hy h
      · rename_i hne
        cases b with
        | true => exact (hne h).elim
        | false =>
          have he := hc _ _ _ _ _ h hu' hv'
          have ru' : (part e xs' (i * s)).run P w = .ok u' w := ru
          have rv' : (part e ys' (i * s)).run P w = .ok v' w := rv
          simp only [Sem.run_bind, ru', rv', he, Result.andThen_ok, Bool.not_false, if_true, Sem.run_pure]
    · cases h
theorem fieldsOf_of {t : TypeId} {fs : Array Field} (h : P.underlying t = some (.struct fs)) : P.fieldsOf t = fs := by simp [Program.fieldsOf, h]
set_option maxHeartbeats 1000000 in
theorem eqA_snd {ι : Inj} : ∀ {d D : Nat} {t : TypeId} {x y : AV} {b : Bool} {x' y' : Value}, eqA P d t x y = some b → AVRel ι x x' → AVRel ι y y' → d ≤ D → ∀ w, (Op.equalIn D t x' y').run P w = .ok b w
  | 0, _, _, _, _, _, _, _, h, _, _, _, _ => by simp [eqA] at h
  | d + 1, 0, _, _, _, _, _, _, _, _, _, hle, _ => by omega
  | d + 1, D + 1, t, x, y, b, x', y', h, hx, hy, hle, w => by
    have ih : ∀ {t : TypeId} {x y : AV} {b : Bool} {x' y' : Value}, eqA P d t x y = some b → AVRel ι x x' → AVRel ι y y' → ∀ w, (Op.equalIn D t x' y').run P w = .ok b w :=
      fun h hx hy w => eqA_snd (D := D) h hx hy (by omega) w
    rw [eqA] at h
    split at h
    · cases h
    · rename_i u hu
      have hun := run_underlying (P := P) hu w
      split at h
      · -- bool
        split at h
        · cases h
          cases hx; cases hy
          have e : ∀ p q : Bool, (match p with | true => q | false => !q) = (p == q) := by decide
          rw [run_equalIn_bool w D t _ _ hu]
          exact congrArg (fun z => Result.ok z w) (e _ _).symm
        · cases h
      · split at h
        · rename_i hk
          cases h
          cases kindIs_eq hk
          cases hx; cases hy
          rw [run_equalIn_int w D t _ _ _ _ hu, eqI_eq]
        · cases h
      · split at h
        · cases h
          cases hx; cases hy
          rw [run_equalIn_string w D t _ _ hu, bytes_toList, bytes_toList, eqBytes_eq]
        · cases h
      · -- nil nil
        split at h
        · rename_i h1 h2
          cases h
          rcases nilIs_inv hx with ⟨rfl, rfl⟩ | ⟨rfl, rfl⟩ | ⟨rfl, rfl⟩ | ⟨rfl, rfl⟩ | ⟨rfl, rfl⟩ <;>
            rcases nilIs_inv hy with ⟨rfl, rfl⟩ | ⟨rfl, rfl⟩ | ⟨rfl, rfl⟩ | ⟨rfl, rfl⟩ | ⟨rfl, rfl⟩ <;>
            cases u <;> simp only [nilIs, Bool.false_eq_true] at h1 h2 <;>
            simp [Op.equalIn, hun]
        · cases h
      iterate 6
        · split at h
          · rename_i h1
            cases h
            cases hy
            rcases nilIs_inv hx with ⟨rfl, rfl⟩ | ⟨rfl, rfl⟩ | ⟨rfl, rfl⟩ | ⟨rfl, rfl⟩ | ⟨rfl, rfl⟩ <;>
              simp only [nilIs, Bool.false_eq_true] at h1 <;> simp [Op.equalIn, hun]
          · cases h
        · split at h
          · rename_i h1
            cases h
            cases hx
            rcases nilIs_inv hy with ⟨rfl, rfl⟩ | ⟨rfl, rfl⟩ | ⟨rfl, rfl⟩ | ⟨rfl, rfl⟩ | ⟨rfl, rfl⟩ <;>
              simp only [nilIs, Bool.false_eq_true] at h1 <;> simp [Op.equalIn, hun]
          · cases h
      · -- iface iface
        split at h
        · cases hx with | iface hx => cases hy with | iface hy =>
          rename_i s p v q _ _ x1 y1
          split at h
          · rename_i hne
            cases h
            have : s ≠ v := fun e => by subst e; rw [Nat.beq_refl] at hne; cases hne
            simp [Op.equalIn, hun, this]
          · rename_i heq
            have e : s = v := Nat.eq_of_beq_eq_true heq
            subst e
            split at h
            · rename_i i hi
              split at h
              · rename_i hcmp
                have hr := ih h hx hy w
                simp only [Op.equalIn, Sem.run_bind, hun, Result.andThen_ok, ne_eq, not_true_eq_false, if_false, typeInfo, run_program, hi, Sem.run_pure, hcmp, Bool.not_true, Bool.false_eq_true, hr, Sem.run_ite]
              · cases h
            · cases h
        · cases h
      · -- agg agg
        split at h
        · rename_i fs
          split at h
          · cases h
          · rename_i hst
            cases hx with | agg hl1 h1 => cases hy with | agg hl2 h2 =>
            rw [run_equalIn_struct w D t _ _ (by rw [fieldsOf_of hu]; exact hu) hst, fieldsOf_of hu]
            exact eqFieldsA_snd (cmp := eqA P d) (fun t x y b x' y' hc a c => ih hc a c w) ⟨hl1, h1⟩ ⟨hl2, h2⟩ h
        · rename_i n e
          split at h
          · rename_i s sh hs hsh
            cases hx with | agg hl1 h1 => cases hy with | agg hl2 h2 =>
            obtain ⟨i, hi⟩ := (cellsOf_of hs).2
            rw [run_equalIn_array w D _ _ hu hi, List.range_eq_range']
            exact eqItemsA_snd (cmp := eqA P d e) hsh hs (fun x y b x' y' hc a c => ih hc a c w) ⟨hl1, h1⟩ ⟨hl2, h2⟩ h
          · cases h
        · cases h
      · cases h
theorem run_equal {ι : Inj} {t : TypeId} {x y : AV} {b : Bool} {x' y' : Value} (h : eqA P 12 t x y = some b) (hx : AVRel ι x x') (hy : AVRel ι y y') (w : World) : (Op.equal t x' y').run P w = .ok b w :=
  eqA_snd h hx hy (by decide) w
/-- Two values that a comparison takes are not those that binOp takes by itself. -/
theorem binOp_eql {op : BinOp} (hop : op = .eql ∨ op = .neq) {ι : Inj} {t : TypeId} {x y : AV} {b : Bool} {x' y' : Value} (h : eqA P 12 t x y = some b) (hx : AVRel ι x x') (hy : AVRel ι y y')
    (hu : ∀ k, P.underlying t ≠ some (.int k)) (hs : P.underlying t ≠ some .string) (w : World) :
    (binOp op t x' y').run P w = .ok (.bool (match op with | .neq => !b | _ => b)) w := by
  have he := run_equal h hx hy w
  have hx2 : (∀ k m, x' ≠ .int k m) ∧ (∀ s, x' ≠ .string s) ∧ (∀ k m, x' ≠ .float k m) ∧ (∀ k m q, x' ≠ .complex k m q) := by
    rw [eqA] at h
    split at h
    · cases h
    · rename_i u hu'
      refine ⟨fun k m e => ?_, fun s e => ?_, fun k m e => (by subst e; cases hx), fun k m q e => (by subst e; cases hx)⟩
      · subst e; cases hx
        cases y <;> simp only [reduceCtorEq] at h
        split at h
        · rename_i k' _ _ _ _; exact hu _ hu'
        · cases h
      · subst e; cases hx
        cases y <;> simp only [reduceCtorEq] at h
        split at h
        · exact hs hu'
        · cases h
  rcases hop with rfl | rfl
  · cases x' <;> first
      | exact ((hx2.1 _ _) rfl).elim
      | exact ((hx2.2.1 _) rfl).elim
      | exact ((hx2.2.2.1 _ _) rfl).elim
      | exact ((hx2.2.2.2 _ _ _) rfl).elim
      | (simp only [binOp, Sem.run_bind, he, Result.andThen_ok, Sem.run_pure]; done)
      | (cases y' <;> simp only [binOp, Sem.run_bind, he, Result.andThen_ok, Sem.run_pure])
  · cases x' <;> first
      | exact ((hx2.1 _ _) rfl).elim
      | exact ((hx2.2.1 _) rfl).elim
      | exact ((hx2.2.2.1 _ _) rfl).elim
      | exact ((hx2.2.2.2 _ _ _) rfl).elim
      | (simp only [binOp, Sem.run_bind, he, Result.andThen_ok, Sem.run_pure]; done)
      | (cases y' <;> simp only [binOp, Sem.run_bind, he, Result.andThen_ok, Sem.run_pure])
theorem run_eqGuard_body {ι : Inj} {t : TypeId} {k : Bool} {v u : AV} {v' u' : Value} {b : Bool} (hs : eqStat P t k = true) (h : eqA P 12 t v u = some b) (hv : AVRel ι v v') (hu : AVRel ι u u') :
    (v' = .nilIface ∧ u' = .nilIface ∧ (k = true ∨ ∀ w, (Op.eqGuardIn Op.maxDepth t .nilIface .nilIface).run P w = .ok false w)) ∨
    (∃ p q, v' = .agg p ∧ u' = .agg q ∧ P.eqGuardType P.depth t = false) ∨ ((¬ (v' = .nilIface ∧ u' = .nilIface)) ∧ ∀ p q, ¬ (v' = .agg p ∧ u' = .agg q)) := by
  by_cases h1 : v' = .nilIface ∧ u' = .nilIface
  · refine .inl ⟨h1.1, h1.2, ?_⟩
    obtain ⟨rfl, rfl⟩ := h1
    cases hv; cases hu
    rw [eqA] at h
    unfold eqStat at hs
    split at h
    · cases h
    · rename_i d hd
      simp only [hd] at hs
      cases d <;> simp only [nilIs, reduceCtorEq] at h
      rename_i ms
      obtain ⟨ms⟩ := ms
      cases ms with
      | cons => exact .inl hs
      | nil =>
        refine .inr fun w => ?_
        show (Op.eqGuardIn (9999 + 1) t .nilIface .nilIface).run P w = _
        rw [Op.eqGuardIn]
        simp only [Sem.run_bind, run_underlying hd, Result.andThen_ok]
        rfl
  · by_cases h2 : ∃ p q, v' = .agg p ∧ u' = .agg q
    · obtain ⟨p, q, rfl, rfl⟩ := h2
      refine .inr (.inl ⟨p, q, rfl, rfl, ?_⟩)
      cases hv; cases hu
      rw [eqA] at h
      unfold eqStat at hs
      split at h
      · cases h
      · rename_i d hd
        simp only [hd] at hs
        cases d <;> simp only [reduceCtorEq] at h <;> simpa using hs
    · exact .inr (.inr ⟨h1, fun p q e => h2 ⟨p, q, e⟩⟩)
theorem isK_match (x : Operand) : (match x with | .const _ => true | _ => false) = isK x := by cases x <;> rfl
theorem run_eqGuard {ι : Inj} {op : BinOp} {t : TypeId} {x y : Operand} {v u : AV} {v' u' : Value} {b : Bool} (hop : op = .eql ∨ op = .neq) (hs : eqStat P t (isK x || isK y) = true) (h : eqA P 12 t v u = some b)
    (hv : AVRel ι v v') (hu : AVRel ι u u') (w : World) : (eqGuard op t x y v' u').run P w = .ok () w := by
  have hb := run_eqGuard_body hs h hv hu
  have hred : eqGuard op t x y v' u' = eqGuard .eql t x y v' u' := by rcases hop with rfl | rfl <;> rfl
  rw [hred]
  unfold eqGuard
  rw [if_neg (by decide)]
  rcases hb with ⟨rfl, rfl, hk⟩ | ⟨p, q, rfl, rfl, hg⟩ | ⟨h1, h2⟩
  · have fin : ∀ s, (∀ w, (Op.eqGuardIn Op.maxDepth t .nilIface .nilIface).run P w = .ok false w) →
        ((do if ← Op.eqGuardIn Op.maxDepth t .nilIface .nilIface then unsupported s) : Sem Unit).run P w = .ok () w := by
      intro s hk
      simp only [Sem.run_bind, hk w, Result.andThen_ok, Bool.false_eq_true, if_false, Sem.run_pure]
    rcases hk with hk | hk
    · cases x <;> cases y <;> first | rfl | cases hk
    · cases x <;> cases y <;> first | rfl | exact fin _ hk
  · simp only [Sem.run_bind, run_program, Result.andThen_ok, hg, Bool.not_false, if_true, Sem.run_pure]
  · split
    · exact (h1 ⟨rfl, rfl⟩).elim
    · exact (h2 _ _ ⟨rfl, rfl⟩).elim
    · rfl
theorem snd_eq {s : String} {t u : TypeId} {x y : Operand} {want : Bool} {op : BinOp} (ho : o.op = .binOp op t x y u) (hop : (op = .eql ∧ want = true) ∨ (op = .neq ∧ want = false))
    (hu : ∀ k, P.underlying t ≠ some (.int k)) (hs : P.underlying t ≠ some .string) (hst : eqStat P t (isK x || isK y) = true) : OpSnd P (eqF P s t want (px x) (px y)) o := .quiet fun n T H k r h hr ι a w ht hh => by
  obtain ⟨v, h, hv⟩ := withO_good h hr ht
  obtain ⟨z, h, hz⟩ := withO_good h hr ht
  obtain ⟨b, hb, h⟩ := onO_good h hr
  have hop' : op = .eql ∨ op = .neq := by rcases hop with ⟨h, _⟩ | ⟨h, _⟩ <;> simp [h]
  have hg := run_eqGuard (op := op) hop' hst hb hv hz w
  have hrun := binOp_eql (op := op) hop' hb hv hz hu hs w
  refine ⟨_, _, h, .bool _, ?_⟩
  simp only [execOp, ho, Sem.run_bind, hg, Result.andThen_ok, hrun, Sem.run_pure]
  rcases hop with ⟨rfl, rfl⟩ | ⟨rfl, rfl⟩ <;> cases b <;> rfl
theorem bool_inv {ι : Inj} {b : Bool} {v : Value} (h : AVRel ι (.bool b) v) : v = .bool b := by cases h; rfl
theorem snd_not {s : String} {t : TypeId} {x : Operand} (ho : o.op = .unOp .not t x) : OpSnd P (notF s (px x)) o := .quiet fun n T H k r h hr ι a w ht hh => by
  obtain ⟨v, h, hv⟩ := withO_good h hr ht
  obtain ⟨b, e0, h1'⟩ := asBool_good h hr; clear h; subst e0; have h := h1'; clear h1'
  refine ⟨_, _, h, .bool _, ?_⟩
  simp only [execOp, ho, bool_inv hv, Op.unary, Sem.run_bind, Sem.run_pure, Result.andThen_ok]
  cases b <;> rfl
theorem snd_neg {s : String} {t : TypeId} {x : Operand} (ho : o.op = .unOp .neg t x) : OpSnd P (negF s (px x)) o := .quiet fun n T H k r h hr ι a w ht hh => by
  obtain ⟨v, h, hv⟩ := withO_good h hr ht
  obtain ⟨j, m, e0, h1'⟩ := asInt_good h hr; clear h; subst e0; have h := h1'; clear h1'
  rw [mkInt_eq, subI_eq] at h
  refine ⟨_, _, h, .int _ _, ?_⟩
  simp only [execOp, ho, int_inv hv, Op.unary, Op.intArith, Sem.run_bind, Sem.run_pure, Result.andThen_ok]
theorem snd_com {s : String} {t : TypeId} {x : Operand} (ho : o.op = .unOp .xor t x) : OpSnd P (comF s (px x)) o := .quiet fun n T H k r h hr ι a w ht hh => by
  obtain ⟨v, h, hv⟩ := withO_good h hr ht
  obtain ⟨j, m, e0, h1'⟩ := asInt_good h hr; clear h; subst e0; have h := h1'; clear h1'
  rw [mkInt_eq] at h
  refine ⟨_, _, h, .int _ _, ?_⟩
  simp only [execOp, ho, int_inv hv, Op.unary, Op.intBits, Sem.run_bind, Sem.run_pure, Result.andThen_ok]
  have e : (BitVec.ofInt j.bits (if j.signed = true then -1 else j.max) ^^^ BitVec.ofInt j.bits m).toNat = modOf j - 1 - bitsOf (modOf j) m := by
    have : BitVec.ofInt j.bits (if j.signed = true then -1 else j.max) = BitVec.allOnes j.bits := by cases j <;> decide
    rw [this, ← toNat_compl, BitVec.allOnes_xor]
  rw [e]; rfl
theorem snd_convInt {s : String} {src dst : TypeId} {x : Operand} {i j : IntKind} (ho : o.op = .convert src dst x) (hs : P.underlying src = some (.int i)) (hd : P.underlying dst = some (.int j)) : OpSnd P (convIntF s j (px x)) o := .quiet fun n T H k r h hr ι a w ht hh => by
  obtain ⟨v, h, hv⟩ := withO_good h hr ht
  obtain ⟨l, m, e0, h1'⟩ := asInt_good h hr; clear h; subst e0; have h := h1'; clear h1'
  rw [mkInt_eq] at h
  refine ⟨_, _, h, .int _ _, ?_⟩
  simp only [execOp, ho, int_inv hv, convert, run_underlying hs, run_underlying hd, Conv.intToInt, Sem.run_bind, Sem.run_pure, Result.andThen_ok]
theorem snd_convStr {s : String} {src dst : TypeId} {x : Operand} (ho : o.op = .convert src dst x) (hs : P.underlying src = some .string) (hd : P.underlying dst = some .string) : OpSnd P (convStrF s (px x)) o := .quiet fun n T H k r h hr ι a w ht hh => by
  obtain ⟨v, h, hv⟩ := withO_good h hr ht
  obtain ⟨l, e0, h1'⟩ := strOf_good h hr; clear h; subst e0; have h := h1'; clear h1'
  refine ⟨_, _, h, .str _, ?_⟩
  simp only [execOp, ho, str_inv hv, convert, run_underlying hs, run_underlying hd, Sem.run_bind, Sem.run_pure, Result.andThen_ok]
end
end Go.Ev
