import Derived.Test.YtmmfimkbcnfgfaaGreatEvSnd7
import Derived.Laws.BytesString
/- Each operation of the abstract evaluator does what the model's does: copy, clear, texts and bytes, the letters of a text. -/
namespace Go.Ev

section
variable {P : Program} {o : Oper}
theorem snd_copy {s : String} {t : TypeId} {ts : List TypeId} {e : TypeId} {x y : Operand} {m : Nat} (ho : o.op = .call ⟨.builtin .copy, ⟨[x, y]⟩, ⟨t :: ts⟩⟩) (hu : P.underlying t = some (.slice e)) (hz : szA P e = some m) :
    OpSnd P (copyF s m (px x) (px y)) o := fun n T H k r h hr ι a w ht hh => by
  obtain ⟨v, h, hv⟩ := withO_good h hr ht
  obtain ⟨vx, h, hvx⟩ := withO_good h hr ht
  obtain ⟨dn, h, hdn, hdc⟩ := lenA_good (P := P) h hr hv
  obtain ⟨xn, h, hxn, hxc⟩ := lenA_good (P := P) h hr hvx
  rw [natF_eq] at h
  have hmin : (Bool.rec dn xn (Nat.ble xn dn) : Nat) = Nat.min xn dn := by
    show _ = min xn dn
    cases hb : Nat.ble xn dn with
    | true => have := ble_le hb; show xn = _; omega
    | false => have : ¬ xn ≤ dn := fun h => by rw [Nat.ble_eq_true_of_le h] at hb; cases hb
               show dn = _; omega
  rw [hmin] at h
  obtain ⟨new, new', h, hnew, hfirst, hlnew, hnil⟩ := firstA_good (P := P) h hr hvx hh
  have hun := run_underlying (P := P) hu w
  have hrun : ∀ base c w1, a.eval x = .slice base dn c → (match base with | some b => (storeCells b new' 0).run P w = .ok () w1 | none => w1 = w) →
      (execOp a.eval o).run P w = .ok (.value (.int .i64 (Nat.min xn dn))) w1 := by
    intro base c w1 hev hst
    rw [run_builtin ho]
    show ((do pure (Next.value (← Builtin.copy_ ⟨t :: ts⟩ o.type ⟨[a.eval x, a.eval y]⟩))) : Sem Next).run P w = _
    have hc : (Builtin.copy_ ⟨t :: ts⟩ o.type ⟨[a.eval x, a.eval y]⟩).run P w = .ok (.int .i64 (Nat.min xn dn)) w1 := by
      simp only [Builtin.copy_, List.getElem?_toArray, List.getElem?_cons_zero, List.getElem?_cons_succ, Sem.run_bind, hun, hev, hxn, Result.andThen_ok, run_sizeOf' hz w]
      rw [hfirst w rfl]
      simp only [Result.andThen_ok]
      cases base with
      | none => simp only at hst; subst hst; rfl
      | some b =>
        simp only at hst
        simp only [Sem.run_bind, hst, Result.andThen_ok, Sem.run_pure]
        rfl
    simp only [Sem.run_bind, hc, Result.andThen_ok, Sem.run_pure]
  cases v with
  | nil nw =>
    cases nw with
    | slice =>
      obtain ⟨h0, h⟩ := onB_good (b := Nat.beq (lenL new) 0) (x := k (intN (Nat.min xn dn)) H) (w := s) h hr
      generalize hev : a.eval x = x' at hv
      cases hv
      have hd0 : dn = 0 := by
        rcases hdc with ⟨_, h⟩ | ⟨_, _, _, h⟩ | ⟨_, h, _⟩ | ⟨h, _⟩
        · exact h
        · cases h
        · cases h
        · cases h
      exact ⟨_, H, ι, _, w, h, .refl hh, .int _ _, .inl (hrun none 0 w (by rw [hev, hd0]) rfl)⟩
    | _ => exact bad_elim (w := s) h hr
  | hollow =>
    obtain ⟨h0, h⟩ := onB_good (b := Nat.beq (lenL new) 0) (x := k (intN (Nat.min xn dn)) H) (w := s) h hr
    generalize hev : a.eval x = x' at hv
    cases hv with
    | hollow p c' =>
    have hd0 : dn = 0 := by
      rcases hdc with ⟨h, _⟩ | ⟨_, _, _, h⟩ | ⟨_, h, _⟩ | ⟨_, h⟩
      · cases h
      · cases h
      · cases h
      · exact h
    rw [Nat.beq_eq, lenL_eq, List.length_eq_zero_iff] at h0
    subst h0
    have : new' = [] := hnew.nil_inv
    subst this
    exact ⟨_, H, ι, _, w, h, .refl hh, .int _ _, .inl (hrun _ _ w (by rw [hev, hd0]) rfl)⟩
  | slice b off len cap =>
    obtain ⟨yl, cap', hy, hev, hcap⟩ := slice_inv hv
    have hd0 : dn = len := by
      rcases hdc with ⟨h, _⟩ | ⟨_, _, _, h⟩ | ⟨_, h, _⟩ | ⟨h, _⟩
      · cases h
      · injection h with _ _ h _; exact h.symm
      · cases h
      · cases h
    have h' : onB (Nat.beq (lenL new) 0) (k (intN (Nat.min xn dn)) H) (wcellsAt s H b fun c e => onB (allOne new) (onO (splice off new c) (fun c => H.put b (.cells c e true) (k (intN (Nat.min xn dn)))) (bad s)) (bad s)) = r := h
    cases h0 : Nat.beq (lenL new) 0 with
    | true =>
      rw [h0, onB_true] at h'
      rw [Nat.beq_eq, lenL_eq, List.length_eq_zero_iff] at h0
      subst h0
      have : new' = [] := hnew.nil_inv
      subst this
      exact ⟨_, H, ι, _, w, h', .refl hh, .int _ _, .inl (hrun _ _ w (by rw [hev, hd0]) rfl)⟩
    | false =>
      rw [h0, onB_false] at h'
      obtain ⟨c, e', hg, h'⟩ := wcellsAt_good h' hr
      obtain ⟨hone, h'⟩ := onB_good h' hr
      obtain ⟨c1, hc1, h'⟩ := onO_good h' hr
      obtain ⟨w1, hst1, hst⟩ := put_splice (P := P) hh hg hy hc1 hnew (allOne_rel hone hnew) (b :: H.log)
      rw [put_eq] at h'
      exact ⟨_, _, ι, _, w1, h', hst, .int _ _, .inl (hrun _ _ w1 (by rw [hev, hd0]) hst1)⟩
  | _ => exact bad_elim (w := s) h hr
theorem snd_clear {s : String} {t e : TypeId} {x : Operand} {z : AV} (ho : o.op = .call ⟨.builtin .clear, ⟨[x]⟩, ⟨[t]⟩⟩) (hu : P.underlying t = some (.slice e)) (hz : zeroA P e = some z) :
    OpSnd P (clearF s (cellsV z) (px x)) o := fun n T H k r h hr ι a w ht hh => by
  obtain ⟨v, h, hv⟩ := withO_good h hr ht
  obtain ⟨i, zv, hi, hzv, hof⟩ := zeroA_of hz
  have hun := run_underlying (P := P) hu w
  cases v with
  | nil nw =>
    cases nw with
    | slice =>
      generalize hev : a.eval x = x' at hv
      cases hv
      refine ⟨_, H, ι, _, w, h, .refl hh, undef_rel ι, .inl ?_⟩
      rw [run_builtin ho]
      show ((do pure (Next.value (← Builtin.clear_ ⟨[t]⟩ o.type ⟨[a.eval x]⟩))) : Sem Next).run P w = _
      simp only [Builtin.clear_, List.getElem?_toArray, List.getElem?_cons_zero, Sem.run_bind, hun, hev, Result.andThen_ok, Sem.run_pure]
      rfl
    | _ => exact bad_elim (w := s) h hr
  | slice b off len cap =>
    obtain ⟨yl, cap', hy, hev, hcap⟩ := slice_inv hv
    have h' : onB (Nat.beq len 0) (k undefA H) (wcellsAt s H b fun c e => onB (allOne (cellsV z)) (onO (splice off (repL (cellsV z) len) c) (fun c => H.put b (.cells c e true) (k undefA)) (bad s)) (bad s)) = r := h
    cases h0 : Nat.beq len 0 with
    | true =>
      rw [h0, onB_true] at h'
      rw [Nat.beq_eq] at h0
      subst h0
      refine ⟨_, H, ι, _, w, h', .refl hh, undef_rel ι, .inl ?_⟩
      rw [run_builtin ho]
      show ((do pure (Next.value (← Builtin.clear_ ⟨[t]⟩ o.type ⟨[a.eval x]⟩))) : Sem Next).run P w = _
      simp only [Builtin.clear_, List.getElem?_toArray, List.getElem?_cons_zero, Sem.run_bind, hun, hev, Result.andThen_ok, Sem.run_pure]
      rfl
    | false =>
      rw [h0, onB_false] at h'
      obtain ⟨c, e', hg, h'⟩ := wcellsAt_good h' hr
      obtain ⟨hone, h'⟩ := onB_good h' hr
      obtain ⟨c1, hc1, h'⟩ := onO_good h' hr
      have hzr := cellsV_rel (ofV_rel (ι := ι) hof)
      have hrep := rep_rel hzr len
      obtain ⟨w1, hst1, hst⟩ := put_splice (P := P) hh hg hy hc1 hrep (by
        intro v hv
        have hall := allOne_rel hone hzr
        simp only [List.mem_map, Array.toList_map, Array.toList_range, List.mem_range] at hv
        obtain ⟨j, hj, rfl⟩ := hv
        have hpos : 0 < zv.cells.size := by
          rcases Nat.eq_zero_or_pos zv.cells.size with h | h
          · rw [h] at hj; omega
          · exact h
        have hlt : j % zv.cells.size < zv.cells.size := Nat.mod_lt _ hpos
        rw [getElem!_pos zv.cells _ hlt]
        exact hall _ (by simp)) (b :: H.log)
      rw [put_eq] at h'
      have hl : 0 < len := by
        rcases Nat.eq_zero_or_pos len with e | e
        · subst e; cases h0
        · exact e
      refine ⟨_, _, ι, _, w1, h', hst, undef_rel ι, .inl ?_⟩
      rw [run_builtin ho]
      show ((do pure (Next.value (← Builtin.clear_ ⟨[t]⟩ o.type ⟨[a.eval x]⟩))) : Sem Next).run P w = _
      obtain ⟨len, rfl⟩ : ∃ l, len = l + 1 := ⟨len - 1, by omega⟩
      simp only [Builtin.clear_, List.getElem?_toArray, List.getElem?_cons_zero, Sem.run_bind, hun, hev, Result.andThen_ok, Sem.run_pure, run_zeroValue' hi hzv]
      have hst1' : (storeCells ⟨yl.1, yl.2 + off, none⟩ (Builtin.zeroCells zv.cells (len + 1)).toList 0).run P w = .ok () w1 := hst1
      simp only [hst1', Result.andThen_ok]
      rfl
  | _ => exact bad_elim (w := s) h hr
theorem snd_strBytes {s : String} {src dst e : TypeId} {x : Operand} (ho : o.op = .convert src dst x) (hs : P.underlying src = some .string) (hd : P.underlying dst = some (.slice e)) (he : P.underlying e = some (.int .u8)) :
    OpSnd P (strBytesF s e (px x)) o := fun n T H k r h hr ι a w ht hh => by
  obtain ⟨v, h, hv⟩ := withO_good h hr ht
  obtain ⟨l, e0, h1'⟩ := strOf_good h hr; clear h; subst e0; have h := h1'; clear h1'
  rw [natF_eq, lenL_eq] at h
  obtain ⟨hmax, h1'⟩ := onB_good h hr; clear h; have h := h1'; clear h1'
  have hmax := ble_le hmax
  obtain ⟨m, nx, lg⟩ := H
  have h' : natF nx (fun n => natF (capOpen 1 l.length) fun c => k (.slice n 0 l.length c) ⟨m.upd n (some (.cells (byteCells l) e true)), n + 1, lg⟩) = r := h
  rw [natF_eq, natF_eq] at h'
  have hev := str_inv hv
  generalize hq : w.tape w.drawn (.appendCap l.length 0 e) % (2 ^ 63 - l.length) = q
  let c' : Array Value := (⟨l⟩ : Array UInt8).map (fun b => Value.int .u8 b.toNat) ++ Array.replicate (l.length + q - l.length) (.int .u8 0)
  have hc' : c'.size = l.length + q := by simp [c']
  let w1 : World := { w with drawn := w.drawn + 1, heap := w.heap.push (.cells c' e (l.length + q, l.length + q + 1)) }
  refine ⟨_, _, _, .slice (some ⟨w.heap.size, 0 + 0, none⟩) l.length (l.length + q), w1, h',
    St.new (H := ⟨m, nx, lg⟩) (w' := w1) (m := c'.size) hh (.cells (c' := c') (fz := (l.length + q, l.length + q + 1)) rfl (fun i v hi => ?_) (fun _ => ⟨rfl, rfl⟩) (fun _ => .inr (Nat.le_of_eq hc'))) rfl rfl rfl rfl lg,
    .slice (x := ⟨w.heap.size, 0, c'.size, false⟩) (Inj.ext_self _ _ _) (capOk_open (by omega) (by omega) (by show 0 + 0 + (l.length + q) * 1 ≤ c'.size; rw [hc']; omega)), .inl ?_⟩
  · obtain ⟨y, hy, hr⟩ := (byteCells_rel ι l).get hi
    refine ⟨y, ?_, hr⟩
    show c'[0 + i]? = some y
    rw [Nat.zero_add]
    have hil : i < l.length := by
      rcases Nat.lt_or_ge i l.length with h | h
      · exact h
      · rw [List.getElem?_eq_none (by simpa using h)] at hy; cases hy
    rw [← hy]
    simp [c', Array.getElem?_append, hil]
  · have hl : (⟨⟨l⟩⟩ : ByteArray).size = l.length := rfl
    simp only [execOp, ho, Sem.run_bind, convert, run_underlying hs w, run_underlying hd w, run_underlying he w, hev, Result.andThen_ok, Conv.stringToBytes, run_choose, Question.forced, Question.cut, hl,
      newRow, run_newObj, Sem.run_pure, markStringish, run_shape, World.shape?, Bool.false_eq_true, if_false]
    rw [hq, Array.getElem?_push_size]
    show (Result.andThen (Result.andThen (Result.ok () (World.freeze { w with drawn := w.drawn + 1, heap := w.heap.push (.cells c' e) } ⟨w.heap.size, c'.size, none⟩ 1)) _) _) = _
    simp only [Result.andThen_ok]
    congr 1
    show World.freeze _ _ _ = w1
    simp only [World.freeze, w1, Nat.one_ne_zero, if_false, hc']
    congr 1
    apply Array.ext_getElem?
    intro j
    rw [Array.getElem?_modify]
    by_cases hj : w.heap.size = j
    · subst hj; simp
    · rw [if_neg hj, Array.getElem?_push, Array.getElem?_push]
      simp [Ne.symm hj]
theorem cellBytes_cons (v : AV) (l : List AV) : cellBytes (v :: l) = (match v with
      | .int .u8 (.ofNat n) => (match Nat.ble (Nat.succ n) 256, cellBytes l with | true, some r => some (UInt8.ofNat n :: r) | _, _ => none)
      | _ => none) := rfl
theorem cellBytes_snd {ι : Inj} : ∀ {l : List AV} {s : List UInt8} {l' : List Value}, cellBytes l = some s → LRel ι l l' → ∃ ns : List Int, l' = ns.map (Value.int .u8) ∧ s = ns.map (fun n => UInt8.ofNat n.toNat)
  | [], s, l', h, hr => by cases h; exact ⟨[], by rw [hr.nil_inv]; rfl, rfl⟩
  | v :: l, s, l', h, hr => by
    obtain ⟨y, t, rfl, hx, hl⟩ := hr.head
    rw [cellBytes_cons] at h
    split at h
    · rename_i n
      split at h
      · rename_i r _ hc
        cases h
        obtain ⟨ns, rfl, rfl⟩ := cellBytes_snd hc hl
        rw [int_inv hx]
        exact ⟨(n : Int) :: ns, rfl, rfl⟩
      · cases h
    · cases h
theorem foldl_push : ∀ (ns : List Int) (l : List UInt8), ns.foldl (fun r n => r.push (UInt8.ofNat n.toNat)) (⟨⟨l⟩⟩ : ByteArray) = ⟨⟨l ++ ns.map fun n => UInt8.ofNat n.toNat⟩⟩
  | [], l => by simp
  | n :: ns, l => by
    have : (⟨⟨l⟩⟩ : ByteArray).push (UInt8.ofNat n.toNat) = ⟨⟨l ++ [UInt8.ofNat n.toNat]⟩⟩ := by simp [ByteArray.push]
    rw [List.foldl_cons, this, foldl_push ns]
    simp
theorem snd_bytes {s : String} {src e1 e : TypeId} {x : Operand} (ho : o.op = .convert src src x) (hs : P.underlying src = some (.slice e1)) (hd : P.underlying src = some (.slice e)) (he : P.underlying e = some (.int .u8)) :
    OpSnd P (bytesF s (px x)) o := fun n T H k r h hr ι a w ht hh => by
  obtain ⟨v, h, hv⟩ := withO_good h hr ht
  obtain ⟨b, off, l, c, e0, h1'⟩ := asSlice_good h hr; clear h; subst e0; have h := h1'; clear h1'
  obtain ⟨cs, e', hg, h'⟩ := wcellsAt_good h hr
  rw [put_eq] at h'
  obtain ⟨y, cap', hy, hev, hcap⟩ := slice_inv hv
  obtain ⟨cc, e2, fz, hw, hc, hrf, hn⟩ := cells_of hh hg hy
  obtain ⟨⟨hro, he2⟩, hf⟩ := hrf rfl
  have he2 := he2.symm
  subst he2
  obtain ⟨lo, hi⟩ := fz
  let fz' : Nat × Nat := if lo == hi then (cc.size, cc.size + 1) else (min lo cc.size, max hi (cc.size + 1))
  let w1 : World := { w with heap := w.heap.setIfInBounds y.1 (.cells cc e' fz') }
  have hlt : y.1 < w.heap.size := (Array.getElem?_eq_some_iff.1 hw).1
  have hfz : FzOk cc.size fz' := by
    show FzOk cc.size (if lo == hi then (cc.size, cc.size + 1) else (min lo cc.size, max hi (cc.size + 1)))
    by_cases hlh : lo = hi
    · rw [if_pos (by simpa using hlh)]; exact .inr (Nat.le_refl _)
    · rw [if_neg (by simpa using hlh)]
      have : cc.size ≤ lo := by
        rcases hf with h | h
        · exact (hlh h).elim
        · exact h
      exact .inr (by show cc.size ≤ min lo cc.size; omega)
  refine ⟨_, _, ι, _, w1, h', St.put (w' := w1) hh hg hy hro (.cells (c' := cc) (fz := fz') hn hc (fun _ => ⟨hro, rfl⟩) (fun _ => hfz)) rfl rfl rfl rfl _, .slice hy hcap, .inl ?_⟩
  have hmod : w.freeze ⟨y.1, cc.size, none⟩ 1 = w1 := by
    unfold World.freeze
    rw [if_neg (by decide)]
    show ({ w with heap := w.heap.modify y.1 _ } : World) = { w with heap := w.heap.setIfInBounds y.1 _ }
    congr 1
    apply Array.ext (by simp)
    intro j h1 h2
    have hj : j < w.heap.size := by simpa using h1
    rw [Array.getElem_modify, Array.getElem_setIfInBounds]
    by_cases e : y.1 = j
    · subst e
      rw [if_pos rfl, if_pos rfl]
      rw [Array.getElem?_eq_getElem hlt] at hw
      have := Option.some.inj hw
      rw [this]
    · rw [if_neg e, if_neg e]
  have hmark : (markStringish ⟨y.1, y.2 + off, none⟩).run P w = .ok () w1 := by
    have hshape : (Go.shape y.1).run P w = .ok (some (e', cc.size)) w := by simp [Go.shape, Sem.run, World.shape?, hw]
    unfold markStringish
    simp only [Sem.run_bind, hshape, Result.andThen_ok]
    show (Go.freeze ⟨y.1, cc.size, none⟩ 1).run P w = _
    simp only [Go.freeze, Sem.run, hmod]
  simp only [execOp, ho, convert, Sem.run_bind, run_underlying hs w, hev, Result.andThen_ok, beq_self_eq_true]
  rw [hd] at hs
  cases hs
  simp only [run_underlying he w, Result.andThen_ok, Sem.run_bind, hmark, Sem.run_pure]
theorem snd_bytesStr {s : String} {src dst e : TypeId} {x : Operand} (ho : o.op = .convert src dst x) (hs : P.underlying src = some (.slice e)) (hd : P.underlying dst = some .string) (he : P.underlying e = some (.int .u8)) :
    OpSnd P (bytesStrF s (px x)) o := .quiet fun n T H k r h hr ι a w ht hh => by
  obtain ⟨v, h, hv⟩ := withO_good h hr ht
  cases v with
  | nil nw =>
    cases nw with
    | slice =>
      generalize hev : a.eval x = x' at hv
      cases hv
      refine ⟨_, _, h, .str _, ?_⟩
      simp only [execOp, ho, Sem.run_bind, hev, run_convert_bytes_string w src dst e none 0 0 hs he hd, Conv.bytesToString, Sem.run_pure, Result.andThen_ok]
      rfl
    | _ => exact bad_elim (w := s) h hr
  | hollow =>
    generalize hev : a.eval x = x' at hv
    cases hv with
    | hollow p c' =>
    refine ⟨_, _, h, .str _, ?_⟩
    have hload : (loadCells p 0).run P w = .ok ⟨[]⟩ w := by rfl
    have hb := run_bytesToString (P := P) w p 0 c' [] hload
    simp only [execOp, ho, Sem.run_bind, hev, run_convert_bytes_string w src dst e _ _ _ hs he hd, hb, Result.andThen_ok, Sem.run_pure]
    rfl
  | slice b off len cap =>
    obtain ⟨yl, cap', hy, hev, hcap⟩ := slice_inv hv
    obtain ⟨c, e', z', hg, h'⟩ := cellsAt_good (w := s) (k := fun c _ _ => onO (takeL len (dropL off c)) (fun l => onO (cellBytes l) (fun s => k (.str s) H) (bad s)) (bad s)) h hr
    obtain ⟨l1, hl1, h'⟩ := onO_good h' hr
    obtain ⟨bs, hbs, h'⟩ := onO_good h' hr
    obtain ⟨cc, e1, fz, hw, hc, hf, hn⟩ := cells_of hh hg hy
    obtain ⟨l', hln, hlr, hcell⟩ := row_rel hc hl1
    obtain ⟨ns, rfl, rfl⟩ := cellBytes_snd hbs hlr
    refine ⟨_, _, h', .str _, ?_⟩
    have hload := run_loadCells' (P := P) hw hln hcell
    have hb := run_bytesToString (P := P) w ⟨yl.1, yl.2 + off, none⟩ len cap' ns hload
    simp only [execOp, ho, Sem.run_bind, hev, run_convert_bytes_string w src dst e _ _ _ hs he hd, hb, Result.andThen_ok, Sem.run_pure]
    have := foldl_push ns []
    rw [show (ByteArray.empty : ByteArray) = ⟨⟨[]⟩⟩ from rfl, this, List.nil_append]
  | _ => exact bad_elim (w := s) h hr
end
end Go.Ev
