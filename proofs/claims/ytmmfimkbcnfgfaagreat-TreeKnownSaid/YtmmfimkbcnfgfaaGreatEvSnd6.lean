import Derived.Test.YtmmfimkbcnfgfaaGreatEvSnd5
/- Each operation of the abstract evaluator does what the model's does: texts cut and converted, append, copy, clear. -/
namespace Go.Ev

section
variable {P : Program} {o : Oper}
theorem extract_list (l : List UInt8) (a b : Nat) : (⟨⟨l⟩⟩ : ByteArray).extract a b = ⟨⟨(l.drop a).take (b - a)⟩⟩ := by
  apply ByteArray.ext
  rw [ByteArray.data_extract]
  apply Array.ext'
  simp [List.extract_eq_take_drop]
theorem snd_sliceStr {s : String} {t : TypeId} {x : Operand} {lo hi : Option Operand} (ho : o.op = .slice t x lo hi none) (hu : P.underlying t = some .string) :
    OpSnd P (sliceStrF s (px x) (optX lo) (optX hi)) o := .quiet fun n T H k r h hr ι a w ht hh => by
  obtain ⟨v, h, hv⟩ := withO_good h hr ht
  obtain ⟨ul, h, hl⟩ := withOpt_rel h hr ht
  obtain ⟨uh, h, hhi⟩ := withOpt_rel h hr ht
  obtain ⟨c, e0, h1'⟩ := strOf_good h hr; clear h; subst e0; have h := h1'; clear h1'
  obtain ⟨l, h, bl⟩ := optNat_good h hr
  obtain ⟨hi1, h, bh⟩ := optNat_good h hr
  obtain ⟨hb, h⟩ := onB_good h hr
  obtain ⟨hb1, hb2⟩ := and_rec hb
  have h1 := ble_le hb1
  have h2 := ble_le hb2
  obtain ⟨u, hu1, h⟩ := onO_good h hr
  rw [lenL_eq] at h2
  have hun := run_underlying (P := P) hu w
  have hlen : lenL c = c.length := lenL_eq c
  rw [hlen] at bh
  have hbounds := run_bounds2 (P := P) (isS := false) (len := c.length) (cap := c.length) (bound_of bl hl) (bound_of bh hhi) h1 h2 w
  refine ⟨_, _, h, .str _, ?_⟩
  rw [takeL_eq, dropL_eq] at hu1
  split at hu1
  · cases hu1
    have hb' : (Instr.sliceBounds false (⟨⟨c⟩⟩ : ByteArray).size (⟨⟨c⟩⟩ : ByteArray).size (lo.map a.eval) (hi.map a.eval) none).run P w = .ok (l, hi1, c.length) w := hbounds
    simp only [execOp, ho, Instr.sliceAt, Sem.run_bind, hun, Result.andThen_ok, Instr.slice, str_inv hv, Option.map_none, Option.isSome_none, Bool.false_eq_true, if_false, Sem.run_pure]
    rw [hb']
    simp only [Result.andThen_ok, extract_list]
    rfl
  · cases hu1
theorem snd_sliceArr {s : String} {t e : TypeId} {x : Operand} {lo hi : Option Operand} {len m : Nat} (ho : o.op = .slice t x lo hi none) (hu : P.underlying t = some (.array len e)) (hz : szA P e = some m) (hlen : len < 4611686018427387904) :
    OpSnd P (sliceArrF s len m (px x) (optX lo) (optX hi)) o := .quiet fun n T H k r h hr ι a w ht hh => by
  obtain ⟨v, h, hv⟩ := withO_good h hr ht
  obtain ⟨ul, h, hl⟩ := withOpt_rel h hr ht
  obtain ⟨uh, h, hhi⟩ := withOpt_rel h hr ht
  obtain ⟨b, off, e0, h1'⟩ := asPtr_good h hr; clear h; subst e0; have h := h1'; clear h1'
  obtain ⟨l, h, bl⟩ := optNat_good h hr
  obtain ⟨hi1, h, bh⟩ := optNat_good h hr
  obtain ⟨hb, h1'⟩ := onB_good h hr; clear h; have h := h1'; clear h1'
  obtain ⟨hb1, hb2⟩ := and_rec hb
  have h1 := ble_le hb1
  have h2 := ble_le hb2
  rw [natF_eq, natF_eq, natF_eq] at h
  obtain ⟨y, hy, hev⟩ := ptr_inv hv
  have hun := run_underlying (P := P) hu w
  have hbounds := run_bounds2 (P := P) (isS := false) (len := len) (cap := len) (bound_of bl hl) (bound_of bh hhi) h1 h2 w
  by_cases hml : len = l
  · subst hml
    have e0 : off + (Bool.rec len 0 (Nat.beq len len) : Nat) * m = off := by rw [Nat.beq_refl]; simp
    refine ⟨_, .slice (some ⟨y.1, y.2 + (off + (Bool.rec len 0 (Nat.beq len len) : Nat) * m), none⟩) (hi1 - len) (len - len), h, .slice hy (capOk_exact (show len - len < 4611686018427387904 by omega)), ?_⟩
    rw [e0]
    simp only [execOp, ho, Instr.sliceAt, Sem.run_bind, hun, Result.andThen_ok, hev, Instr.sureAddr, Option.map_none, hbounds, run_sizeOf' hz w, Sem.run_pure, if_true]
  · have e0 : (Bool.rec l 0 (Nat.beq len l) : Nat) = l := by
      have : Nat.beq len l = false := by rw [← Bool.not_eq_true, Nat.beq_eq]; exact hml
      rw [this]
    refine ⟨_, .slice (some ⟨y.1, y.2 + (off + (Bool.rec l 0 (Nat.beq len l) : Nat) * m), none⟩) (hi1 - l) (len - l), h, .slice hy (capOk_exact (show len - l < 4611686018427387904 by omega)), ?_⟩
    rw [e0]
    simp only [execOp, ho, Instr.sliceAt, Sem.run_bind, hun, Result.andThen_ok, hev, Instr.sureAddr, Option.map_none, hbounds, run_sizeOf' hz w, Sem.run_pure, if_neg hml, addr_add, Nat.add_assoc]
theorem byteCells_map (l : List UInt8) : byteCells l = l.map fun b => AV.int .u8 (.ofNat b.toNat) := by
  induction l with
  | nil => rfl
  | cons b l ih => show AV.int .u8 (.ofNat b.toNat) :: byteCells l = _; rw [ih]; rfl
theorem byteCells_rel (ι : Inj) (l : List UInt8) : LRel ι (byteCells l) (l.map fun b => Value.int .u8 b.toNat) := by
  rw [byteCells_map]
  induction l with
  | nil => exact LRel.nil ι
  | cons b l ih => exact LRel.cons (.int _ _) ih
/-- What lenA tells. -/
theorem lenA_good {w : String} {x : AV} {k : Nat → R} {r : R} (h : lenA w x k = r) (hr : r.Good) {ι : Inj} {x' : Value} (hx : AVRel ι x x') :
    ∃ n, k n = r ∧ (∀ W, (Builtin.lenOf x').run P W = .ok n W) ∧ ((x = .nil .slice ∧ n = 0) ∨ (∃ b o c, x = .slice b o n c) ∨ (∃ l, x = .str l ∧ n = l.length) ∨ (x = .hollow ∧ n = 0)) := by
  cases x with
  | nil nw =>
    cases nw with
    | slice => cases hx; exact ⟨0, h, fun W => rfl, .inl ⟨rfl, rfl⟩⟩
    | _ => exact (not_good_bad w (by have h' : bad w = r := h; rw [h']; exact hr)).elim
  | slice b o l c =>
    obtain ⟨y, c', hy, rfl, _⟩ := slice_inv hx
    exact ⟨l, h, fun W => rfl, .inr (.inl ⟨b, o, c, rfl⟩)⟩
  | str l =>
    have h' : natF (lenL l) k = r := h
    rw [natF_eq, lenL_eq] at h'
    cases hx
    exact ⟨l.length, h', fun W => rfl, .inr (.inr (.inl ⟨l, rfl, rfl⟩))⟩
  | hollow =>
    cases hx
    exact ⟨0, h, fun W => rfl, .inr (.inr (.inr ⟨rfl, rfl⟩))⟩
  | _ => exact (not_good_bad w (by have h' : bad w = r := h; rw [h']; exact hr)).elim
theorem run_loadCells' {b off : Nat} {c' : Array Value} {e : TypeId} {fz : Nat × Nat} {w : World} (hw : w.heap[b]? = some (.cells c' e fz)) {l : List Value} {m : Nat} (hl : l.length = m)
    (h : ∀ (j : Nat) v, l[j]? = some v → c'[off + j]? = some v) : (loadCells ⟨b, off, none⟩ m).run P w = .ok ⟨l⟩ w := by
  subst hl
  exact run_loadCells_list (P := P) w ⟨b, off, none⟩ l (fun j v hv => by rw [addr_add, cell_at hw]; exact h j v hv)
/-- What firstA tells. -/
theorem firstA_good {ws : String} {size m : Nat} {x : AV} {H : AH} {k : List AV → R} {r : R} (h : firstA ws size m x H k = r) (hr : r.Good) {ι : Inj} {x' : Value} {w : World} (hx : AVRel ι x x') (hh : HRel ι H w) :
    ∃ l l', k l = r ∧ LRel ι l l' ∧ (∀ W : World, W.heap = w.heap → (Builtin.firstCells size m x').run P W = .ok ⟨l'⟩ W) ∧ (x ≠ .nil .slice → l.length = m * size) ∧ (x = .nil .slice → l = []) := by
  cases x with
  | nil nw =>
    cases nw with
    | slice => cases hx; exact ⟨[], [], h, LRel.nil ι, fun W _ => rfl, fun e => (e rfl).elim, fun _ => rfl⟩
    | _ => exact (not_good_bad ws (by have h' : bad ws = r := h; rw [h']; exact hr)).elim
  | slice b o l c =>
    obtain ⟨y, c', hy, rfl, _⟩ := slice_inv hx
    have h' : natF (Nat.mul m size) (fun m => onB (Nat.beq m 0) (k []) (cellsAt ws H b fun c _ _ => onO (takeL m (dropL o c)) k (bad ws))) = r := h
    rw [natF_eq] at h'
    cases h0 : Nat.beq (Nat.mul m size) 0 with
    | true =>
      rw [h0] at h'
      rw [Nat.beq_eq] at h0
      have h0' : m * size = 0 := h0
      refine ⟨[], [], h', LRel.nil ι, fun W _ => ?_, fun _ => by rw [h0']; rfl, fun e => by cases e⟩
      simp only [Builtin.firstCells, h0']
      rfl
    | false =>
      rw [h0] at h'
      obtain ⟨c, e, z, hg, h'⟩ := cellsAt_good h' hr
      obtain ⟨l1, hl1, h'⟩ := onO_good h' hr
      obtain ⟨cc, e1, fz, hw, hc, hf, hn⟩ := cells_of hh hg hy
      obtain ⟨l', hln, hlr, hcell⟩ := row_rel hc hl1
      refine ⟨l1, l', h', hlr, fun W hW => ?_, fun _ => hlr.1.trans hln, fun e => by cases e⟩
      have hW' : W.heap[y.1]? = some (.cells cc e1 fz) := by rw [hW]; exact hw
      simp only [Builtin.firstCells]
      exact run_loadCells' hW' hln hcell
  | hollow =>
    obtain ⟨h0, h'⟩ := onB_good (b := Nat.beq (Nat.mul m size) 0) (x := k []) (w := ws) h hr
    rw [Nat.beq_eq] at h0
    have h0' : m * size = 0 := h0
    cases hx
    refine ⟨[], [], h', LRel.nil ι, fun W _ => ?_, fun _ => by rw [h0']; rfl, fun e => by cases e⟩
    simp only [Builtin.firstCells, h0']
    rfl
  | str l =>
    obtain ⟨h1, h⟩ := onB_good (b := Nat.beq size 1) (x := onO (takeL m l) (fun s => k (byteCells s)) (bad ws)) (w := ws) h hr
    rw [Nat.beq_eq] at h1
    obtain ⟨s1, hs1, h'⟩ := onO_good (o := takeL m l) (c := fun s => k (byteCells s)) (w := ws) h hr
    rw [takeL_eq] at hs1
    split at hs1
    · rename_i hle
      cases hs1
      cases hx
      refine ⟨_, _, h', byteCells_rel ι _, fun W _ => ?_, fun _ => by rw [byteCells_map, h1]; simp; omega, fun e => by cases e⟩
      simp only [Builtin.firstCells, extract_list, List.drop_zero, Nat.sub_zero, Sem.run_pure]
      congr 1
      apply Array.ext'
      simp
    · cases hs1
  | _ => exact (not_good_bad ws (by have h' : bad ws = r := h; rw [h']; exact hr)).elim
theorem run_builtin {b : Builtin} {as : List Operand} {ts : List TypeId} (ho : o.op = .call ⟨.builtin b, ⟨as⟩, ⟨ts⟩⟩) (a : Act) (w : World) :
    (execOp a.eval o).run P w = (builtin b ⟨ts⟩ o.type ((⟨as⟩ : Array Operand).map fun | .const _ => true | _ => false) ⟨as.map a.eval⟩).run P w := by
  simp only [execOp, ho, resolve, invoke, Sem.run_bind, Sem.run_pure, Result.andThen_ok]
  congr 2
  simp
theorem bad_elim {w : String} {r : R} {p : Prop} (h : bad w = r) (hr : r.Good) : p := by subst h; exact hr.elim
theorem snd_lenSl {s : String} {t e : TypeId} {x : Operand} (ho : o.op = .call ⟨.builtin .len, ⟨[x]⟩, ⟨[t]⟩⟩) (hu : P.underlying t = some (.slice e)) : OpSnd P (lenSlF s (px x)) o := .quiet fun n T H k r h hr ι a w ht hh => by
  obtain ⟨v, h, hv⟩ := withO_good h hr ht
  have hun := run_underlying (P := P) hu w
  have hrun : ∀ aa l c, a.eval x = .slice aa l c → (execOp a.eval o).run P w = .ok (.value (goInt l)) w := by
    intro aa l c he
    rw [run_builtin ho]
    simp only [builtin, Builtin.len_, Sem.run_bind, List.map_cons, List.map_nil, List.getElem?_toArray, List.getElem?_cons_zero, hun, Result.andThen_ok, he, Sem.run_pure]
  cases v with
  | nil nw =>
    cases nw with
    | slice =>
      generalize hev : a.eval x = x' at hv
      cases hv
      exact ⟨_, _, h, .int _ _, hrun _ _ _ hev⟩
    | _ => exact bad_elim (w := s) h hr
  | slice b off l c =>
    obtain ⟨y, c', hy, hev, _⟩ := slice_inv hv
    exact ⟨_, _, h, .int _ _, hrun _ _ _ hev⟩
  | hollow =>
    generalize hev : a.eval x = x' at hv
    cases hv
    exact ⟨_, _, h, .int _ _, hrun _ _ _ hev⟩
  | _ => exact bad_elim (w := s) h hr
theorem snd_lenStr {s : String} {t : TypeId} {x : Operand} (ho : o.op = .call ⟨.builtin .len, ⟨[x]⟩, ⟨[t]⟩⟩) (hu : P.underlying t = some .string) : OpSnd P (lenStrF s (px x)) o := .quiet fun n T H k r h hr ι a w ht hh => by
  obtain ⟨v, h, hv⟩ := withO_good h hr ht
  obtain ⟨c, e0, h1'⟩ := strOf_good h hr; clear h; subst e0; have h := h1'; clear h1'
  rw [natF_eq, lenL_eq] at h
  have hun := run_underlying (P := P) hu w
  refine ⟨_, _, h, .int _ _, ?_⟩
  rw [run_builtin ho]
  simp only [builtin, Builtin.len_, Sem.run_bind, List.map_cons, List.map_nil, List.getElem?_toArray, List.getElem?_cons_zero, hun, Result.andThen_ok, str_inv hv, Sem.run_pure]
  rfl
theorem snd_cap {s : String} {t e : TypeId} {x : Operand} (ho : o.op = .call ⟨.builtin .cap, ⟨[x]⟩, ⟨[t]⟩⟩) (hu : P.underlying t = some (.slice e)) : OpSnd P (capF s (px x)) o := .quiet fun n T H k r h hr ι a w ht hh => by
  obtain ⟨v, h, hv⟩ := withO_good h hr ht
  have hun := run_underlying (P := P) hu w
  have hrun : ∀ aa l c, a.eval x = .slice aa l c → (execOp a.eval o).run P w = .ok (.value (goInt c)) w := by
    intro aa l c he
    rw [run_builtin ho]
    simp only [builtin, Builtin.cap_, Sem.run_bind, List.map_cons, List.map_nil, List.getElem?_toArray, List.getElem?_cons_zero, hun, Result.andThen_ok, he, Sem.run_pure]
  cases v with
  | nil nw =>
    cases nw with
    | slice =>
      generalize hev : a.eval x = x' at hv
      cases hv
      exact ⟨_, _, h, .int _ _, hrun _ _ _ hev⟩
    | _ => exact bad_elim (w := s) h hr
  | slice b off l c =>
    obtain ⟨y, c', hy, hev, hc⟩ := slice_inv hv
    obtain ⟨hk, h⟩ := onB_good (b := capKnown c) (x := k (intN c) H) (w := s) h hr
    refine ⟨_, _, h, .int _ _, ?_⟩
    rw [hrun _ _ _ hev, capOk_exact' (capKnown_iff.1 hk) hc]; rfl
  | _ => exact bad_elim (w := s) h hr
theorem snd_min {s : String} {mx : Bool} {ts : List TypeId} {x y : Operand} (ho : o.op = .call ⟨.builtin (if mx then .max else .min), ⟨[x, y]⟩, ⟨ts⟩⟩) : OpSnd P (minF s mx (px x) (px y)) o := .quiet fun n T H k r h hr ι a w ht hh => by
  obtain ⟨v, h, hv⟩ := withO_good h hr ht
  obtain ⟨u, h, hu⟩ := withO_good h hr ht
  obtain ⟨j, m, e0, h1'⟩ := asInt_good h hr; clear h; subst e0; have h := h1'; clear h1'
  obtain ⟨i, q, e0, h1'⟩ := asInt_good h hr; clear h; subst e0; have h := h1'; clear h1'
  obtain ⟨hk, h1'⟩ := onB_good h hr; clear h; have h := h1'; clear h1'
  cases kindIs_eq hk
  refine ⟨_, _, h, .int _ _, ?_⟩
  rw [run_builtin ho]
  cases mx with
  | true =>
    simp only [if_true, builtin, Builtin.max_, List.map_cons, List.map_nil, int_inv hv, int_inv hu, List.foldlM_cons, List.foldlM_nil, Builtin.max2, Sem.run_bind, Sem.run_pure, Result.andThen_ok, ltI_eq]
    by_cases hlt : m < q
    · rw [if_pos (by first | exact hlt | omega), decide_eq_true hlt]
    · rw [if_neg (by first | exact hlt | omega), decide_eq_false hlt]
  | false =>
    simp only [Bool.false_eq_true, if_false, builtin, Builtin.min_, List.map_cons, List.map_nil, int_inv hv, int_inv hu, List.foldlM_cons, List.foldlM_nil, Builtin.min2, Sem.run_bind, Sem.run_pure, Result.andThen_ok, ltI_eq]
    by_cases hlt : q < m
    · rw [if_pos hlt, decide_eq_true hlt]
    · rw [if_neg hlt, decide_eq_false hlt]
theorem snd_lenArr {t : TypeId} {x : Operand} {m : Nat} (ho : o.op = .call ⟨.builtin .len, ⟨[x]⟩, ⟨[t]⟩⟩)
    (hu : (∃ e, P.underlying t = some (.array m e)) ∨ ∃ p e, P.underlying t = some (.pointer p) ∧ P.underlying p = some (.array m e)) :
    OpSnd P (lenArrF m (px x)) o := .quiet fun n T H k r h hr ι a w ht hh => by
  obtain ⟨v, h, hv⟩ := withO_good h hr ht
  refine ⟨_, _, h, .int _ _, ?_⟩
  rw [run_builtin ho]
  rcases hu with ⟨e, hu⟩ | ⟨p, e, hu, hp⟩
  · have hun := run_underlying (P := P) hu w
    simp only [builtin, Builtin.len_, Sem.run_bind, List.map_cons, List.map_nil, List.getElem?_toArray, List.getElem?_cons_zero, hun, Result.andThen_ok]
    cases a.eval x <;> rfl
  · have hun := run_underlying (P := P) hu w
    have hup := run_underlying (P := P) hp w
    simp only [builtin, Builtin.len_, Sem.run_bind, List.map_cons, List.map_nil, List.getElem?_toArray, List.getElem?_cons_zero, hun, hup, Result.andThen_ok]
    cases a.eval x <;> rfl
/-- Two texts of append's that do not part: the row in place, or a new one. -/
theorem growBy_le (need : Nat) : ∀ (n c : Nat), 256 ≤ c → c ≤ 2 * need → Builtin.growBy need n c ≤ 2 * need
  | 0, c, _, h => h
  | n + 1, c, h0, h => by
    rw [Builtin.growBy]
    split
    · exact h
    · exact growBy_le need n _ (by omega) (by omega)
theorem nextcap_le {need old : Nat} (h : old < need) : Builtin.nextslicecap need old ≤ 2 * need := by
  unfold Builtin.nextslicecap
  split
  · omega
  · split
    · omega
    · exact growBy_le need 4 old (by omega) (by omega)
/-- The model's append where there is room. -/
theorem run_append_room {t u e : TypeId} {i : TypeInfo} {s x : Value} {base : Option Addr} {len cap n : Nat} {ty : TypeId} {l : List Value} {w w1 : World} (hu : P.underlying t = some (.slice e)) (hx : ∃ d, P.underlying u = some d ∧ ∀ k, d ≠ .int k)
    (hi : P.info? e = some i) (hs : s = .slice base len cap) (hlen : ∀ W, (Builtin.lenOf x).run P W = .ok n W) (hroom : len + n ≤ cap) (hf : (Builtin.firstCells i.size n x).run P w = .ok ⟨l⟩ w)
    (hst : match base with | some a => (storeCells (a.add (len * i.size)) l 0).run P w = .ok () w1 | none => w1 = w) :
    (Builtin.append_ ⟨[t, u]⟩ ty ⟨[s, x]⟩).run P w = .ok (.slice base (len + n) cap) w1 := by
  subst hs
  obtain ⟨d, hd, hnd⟩ := hx
  have hun := run_underlying (P := P) hu w
  have hud := run_underlying (P := P) hd w
  have hsz : (sizeOf e).run P w = .ok i.size w := by simp [sizeOf, typeInfo, hi]
  unfold Builtin.append_
  simp only [List.getElem?_toArray, List.getElem?_cons_zero, List.getElem?_cons_succ, Sem.run_bind, hun, hud, hsz, Result.andThen_ok, Sem.run_pure, Bool.false_eq_true, if_false, hlen, if_pos hroom, Bool.not_false, if_true, hf, Sem.run_ite]
  cases base with
  | none => simp only at hst; subst hst; rfl
  | some a =>
    simp only at hst
    show ((do storeCells (a.add (len * i.size)) l; pure (Value.slice (some a) (len + n) cap)) : Sem Value).run P w = _
    simp only [Sem.run_bind, hst, Result.andThen_ok, Sem.run_pure]
/-- The model's append where there is none. -/
theorem run_append_grow {t u e : TypeId} {i : TypeInfo} {zv : Value} {s x : Value} {base : Option Addr} {len cap n : Nat} {ty : TypeId} {l1 l2 : List Value} {w : World} (hu : P.underlying t = some (.slice e)) (hx : ∃ d, P.underlying u = some d ∧ ∀ k, d ≠ .int k)
    (hi : P.info? e = some i) (hzv : i.zero = some zv) (hs : s = .slice base len cap) (hlen : ∀ W, (Builtin.lenOf x).run P W = .ok n W) (hroom : ¬ (len + n ≤ cap)) (hmax : (len + n) * (2 * (i.bytes + 1)) ≤ 140737488355328)
    (hf1 : ∀ W : World, W.heap = w.heap → (Builtin.firstCells i.size len s).run P W = .ok ⟨l1⟩ W) (hf2 : ∀ W : World, W.heap = w.heap → (Builtin.firstCells i.size n x).run P W = .ok ⟨l2⟩ W) :
    ∃ N rest w1, len + n ≤ N ∧ (Builtin.append_ ⟨[t, u]⟩ ty ⟨[s, x]⟩).run P w = .ok (.slice (some ⟨w.heap.size, 0, none⟩) (len + n) N) w1 ∧
      w1.heap = w.heap.push (.cells (⟨l1⟩ ++ ⟨l2⟩ ++ rest) e) ∧ rest.size = (N - (len + n)) * zv.cells.size ∧ w1.os = w.os ∧ w1.output = w.output ∧ w1.tape = w.tape := by
  subst hs
  obtain ⟨d, hd, hnd⟩ := hx
  have hun := run_underlying (P := P) hu
  have hud := run_underlying (P := P) hd
  have hsz : ∀ w, (sizeOf e).run P w = .ok i.size w := fun w => by simp [sizeOf, typeInfo, hi]
  have hti : ∀ w, (typeInfo e).run P w = .ok i w := fun w => by simp [typeInfo, hi]
  have hsmall : len + n ≤ 140737488355328 := by
    have : (len + n) * 1 ≤ (len + n) * (2 * (i.bytes + 1)) := Nat.mul_le_mul_left _ (by omega)
    omega
  have hnx : ¬ (Builtin.nextslicecap (len + n) cap * i.bytes > 2 ^ 48) := by
    have h1 := nextcap_le (need := len + n) (old := cap) (by omega)
    have h2 : Builtin.nextslicecap (len + n) cap * i.bytes ≤ 2 * (len + n) * i.bytes := Nat.mul_le_mul_right _ h1
    have h3 : 2 * (len + n) * i.bytes ≤ (len + n) * (2 * (i.bytes + 1)) := by
      rw [Nat.mul_comm 2 (len + n), Nat.mul_assoc]; exact Nat.mul_le_mul_left _ (by omega)
    have h4 : (2 : Nat) ^ 48 = 281474976710656 := by decide
    omega
  have hbig : ¬ (((len + n : Nat) : Int) > IntKind.i64.max ∧ i.bytes = 0) := by
    intro h
    have : ((len + n : Nat) : Int) ≤ ((140737488355328 : Nat) : Int) := Int.ofNat_le.2 hsmall
    have h9 : IntKind.i64.max = ((9223372036854775807 : Nat) : Int) := rfl
    rw [h9] at h
    omega
  refine ⟨(len + n) + w.tape w.drawn (.appendCap (len + n) cap e) % (2 ^ 63 - (len + n)), Builtin.zeroCells zv.cells ((len + n) + w.tape w.drawn (.appendCap (len + n) cap e) % (2 ^ 63 - (len + n)) - (len + n)),
    { w with drawn := w.drawn + 1, heap := w.heap.push (.cells (⟨l1⟩ ++ ⟨l2⟩ ++ Builtin.zeroCells zv.cells ((len + n) + w.tape w.drawn (.appendCap (len + n) cap e) % (2 ^ 63 - (len + n)) - (len + n))) e) }, Nat.le_add_right _ _, ?_, rfl, ?_, rfl, rfl, rfl⟩
  · unfold Builtin.append_
    simp only [List.getElem?_toArray, List.getElem?_cons_zero, List.getElem?_cons_succ, Sem.run_bind, hun, hud, hsz, hti, Result.andThen_ok, Sem.run_pure, Bool.false_eq_true, if_false, hlen, if_neg hroom, Bool.not_false, if_true, if_neg hnx,
      run_choose, Question.forced, Question.cut, run_askRoom, Sem.run_ite, run_zeroValue' hi hzv, false_or]
    rw [if_neg hbig, hf1 { w with drawn := w.drawn + 1 } rfl]
    simp only [Result.andThen_ok]
    rw [hf2 { w with drawn := w.drawn + 1 } rfl]
    simp only [Result.andThen_ok, newRow, Sem.run_bind, run_newObj, Sem.run_pure]
  · simp [Builtin.zeroCells]
end
end Go.Ev
