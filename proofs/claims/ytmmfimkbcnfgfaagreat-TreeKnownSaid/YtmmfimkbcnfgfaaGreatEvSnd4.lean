import Derived.Test.YtmmfimkbcnfgfaaGreatEvSnd3
/- Each operation of the abstract evaluator does what the model's does: values built, slices made and cut. -/
namespace Go.Ev

theorem LRel.splice {ι : Inj} {o : Nat} {vs c c1 : List AV} {vs' c' : List Value} (h : splice o vs c = some c1) (hv : LRel ι vs vs') (hc : LRel ι c c') :
    o + vs'.length ≤ c'.length ∧ LRel ι c1 (c'.take o ++ vs' ++ c'.drop (o + vs'.length)) := by
  rw [splice_eq] at h
  split at h
  · rename_i hle
    cases h
    rw [hv.1, hc.1] at hle
    refine ⟨hle, ?_⟩
    rw [hv.1]
    exact ((hc.take o).append hv).append (hc.drop _)
  · cases h
theorem foldl_set (off : Nat) : ∀ (vs : List Value) (k : Nat) (cells : Array Value), off + k + vs.length ≤ cells.size →
    ((vs.zipIdx k).foldl (fun cs (p : Value × Nat) => cs.setIfInBounds (off + p.2) p.1) cells).toList = cells.toList.take (off + k) ++ vs ++ cells.toList.drop (off + k + vs.length)
  | [], k, cells, _ => by simp
  | v :: vs, k, cells, h => by
    simp only [List.length_cons] at h
    simp only [List.zipIdx_cons, List.foldl_cons]
    rw [foldl_set off vs (k + 1) (cells.setIfInBounds (off + k) v) (by simp; omega)]
    simp only [Array.toList_setIfInBounds, List.length_cons]
    have hlt : off + k < cells.toList.length := by simp; omega
    rw [show off + (k + 1) = off + k + 1 from by omega, List.take_succ_eq_append_getElem (by simpa using hlt), List.getElem_set_self, List.take_set_of_le (Nat.le_refl _), List.drop_set_of_lt (by omega)]
    simp [Nat.add_assoc, Nat.add_comm 1]
section
variable {P : Program} {o : Oper}
theorem fill_snd {ι : Inj} {place : Nat → Option (Nat × Nat)} : ∀ {ps : List (Nat × AV)} {ps' : List (Nat × Value)} {c c1 : List AV} {c' : Array Value}, fillA place c ps = some c1 → LRel ι c c'.toList →
    ps.map (·.1) = ps'.map (·.1) → LRel ι (ps.map (·.2)) (ps'.map (·.2)) → ∃ c1', Instr.fill place c' ps' = some c1' ∧ LRel ι c1 c1'.toList
  | [], [], c, c1, c', h, hc, _, _ => by simp only [fillA] at h; cases h; exact ⟨c', rfl, hc⟩
  | [], _ :: _, _, _, _, _, _, hi, _ => by simp at hi
  | _ :: _, [], _, _, _, _, _, hi, _ => by simp at hi
  | (i, v) :: ps, (i', v') :: ps', c, c1, c', h, hc, hi, hv => by
    simp only [List.map_cons, List.cons.injEq] at hi
    obtain ⟨rfl, hi⟩ := hi
    obtain ⟨y, t, e, hv1, hv2⟩ := LRel.head (x := v) (l := ps.map (·.2)) hv
    simp only [List.map_cons, List.cons.injEq] at e
    obtain ⟨rfl, rfl⟩ := e
    simp only [fillA] at h
    split at h
    · cases h
    · rename_i off n hp
      split at h
      · rename_i hn
        split at h
        · rename_i c2 hs
          have hcv := cellsV_rel hv1
          obtain ⟨hle, hc2⟩ := LRel.splice hs hcv hc
          rw [Nat.beq_eq, lenL_eq, hcv.1] at hn
          simp only [Array.length_toList] at hn hle
          have hsz : v'.cells.size = n := by simpa using hn
          have e2 : (v'.cells.zipIdx.foldl (fun cs (p : Value × Nat) => cs.setIfInBounds (off + p.2) p.1) c').toList = c'.toList.take off ++ v'.cells.toList ++ c'.toList.drop (off + v'.cells.toList.length) := by
            have := foldl_set off v'.cells.toList 0 c' (by simpa using hle)
            rw [Nat.add_zero] at this
            rw [← this, ← Array.foldl_toList]
            simp
          obtain ⟨c3, h3, hc3⟩ := fill_snd (c' := v'.cells.zipIdx.foldl (fun cs (p : Value × Nat) => cs.setIfInBounds (off + p.2) p.1) c') h (by rw [e2]; exact hc2) hi hv2
          refine ⟨c3, ?_, hc3⟩
          simp only [Instr.fill, hp]
          rw [if_neg (by simp [hsz]; rw [← hsz]; exact hle)]
          exact h3
        · cases h
      · cases h
theorem run_places : ∀ {fs : List Field}, (∀ f ∈ fs, ∃ n, szA P f.type = some n) → ∀ w, (fs.mapM (m := Sem) fun f => do pure (f.offset, ← sizeOf f.type)).run P w = .ok (fs.map fun f => (f.offset, (szA P f.type).getD 0)) w
  | [], _, w => by simp
  | f :: fs, h, w => by
    obtain ⟨n, hn⟩ := h f (by simp)
    rw [List.mapM_cons]
    have ih := run_places (fs := fs) (fun g hg => h g (List.mem_cons_of_mem _ hg)) w
    simp only [Sem.run_bind, run_sizeOf' hn w, Result.andThen_ok, Sem.run_pure]
    rw [ih]
    simp [hn]
theorem parts_map (a : Act) (ps : Array (Nat × Operand)) : (ps.map fun (x : Nat × Operand) => (x.1, a.eval x.2)).toList = ps.toList.map fun x => (x.1, a.eval x.2) := by simp
theorem snd_buildStruct {s : String} {t : TypeId} {ps : Array (Nat × Operand)} {z : AV} {fs : Array Field} (ho : o.op = .build t ps) (hz : zeroA P t = some z) (hu : P.underlying t = some (.struct fs))
    (hall : ∀ f ∈ fs.toList, ∃ n, szA P f.type = some n) : OpSnd P (buildF s (placeStruct P fs.toList) (cellsV z) (pxParts ps.toList)) o := .quiet fun n T H k r h hr ι a w ht hh => by
  obtain ⟨l, h, hi, hl⟩ := withParts_good h hr ht
  obtain ⟨c, hc, h⟩ := onO_good h hr
  obtain ⟨i, zv, hin, hzv, hof⟩ := zeroA_of hz
  obtain ⟨c1, hf, hr'⟩ := fill_snd (c' := zv.cells) (ps' := ps.toList.map fun x => (x.1, a.eval x.2)) hc (cellsV_rel (ofV_rel (ι := ι) hof)) (by rw [hi]; simp) (by rw [List.map_map]; exact hl)
  refine ⟨.agg c, .agg c1, h, by obtain ⟨c1⟩ := c1; exact .agg hr'.1 hr'.2, ?_⟩
  have hpl : ∀ j, (fs.toList.map fun f => (f.offset, (szA P f.type).getD 0))[j]? = placeStruct P fs.toList j := by
    intro j
    unfold placeStruct
    rw [nth_eq, List.getElem?_map]
    cases hj : fs.toList[j]? with
    | none => rfl
    | some f =>
      obtain ⟨m, hm⟩ := hall f (List.mem_of_getElem? hj)
      simp [hm]
  simp only [execOp, ho, Instr.build, Sem.run_bind, run_zeroValue' hin hzv, Result.andThen_ok, run_underlying hu, Array.mapM_eq_mapM_toList, Sem.run_map, run_places hall w]
  have e : (fun x => (fs.toList.map fun f => (f.offset, (szA P f.type).getD 0)).toArray[x]?) = placeStruct P fs.toList := by
    funext j; rw [← hpl j]; simp
  rw [e]
  have e2 : (Array.map (fun (x : Nat × Operand) => match x with | (i, x) => (i, a.eval x)) ps).toList = ps.toList.map fun x => (x.1, a.eval x.2) := by simp
  rw [e2, hf]
  rfl
theorem snd_buildArr {s : String} {t e : TypeId} {ps : Array (Nat × Operand)} {z : AV} {len m : Nat} (ho : o.op = .build t ps) (hz : zeroA P t = some z) (hu : P.underlying t = some (.array len e)) (hs : szA P e = some m) :
    OpSnd P (buildF s (fun i => some (Nat.mul i m, m)) (cellsV z) (pxParts ps.toList)) o := .quiet fun n T H k r h hr ι a w ht hh => by
  obtain ⟨l, h, hi, hl⟩ := withParts_good h hr ht
  obtain ⟨c, hc, h⟩ := onO_good h hr
  obtain ⟨i, zv, hin, hzv, hof⟩ := zeroA_of hz
  obtain ⟨c1, hf, hr'⟩ := fill_snd (c' := zv.cells) (ps' := ps.toList.map fun x => (x.1, a.eval x.2)) hc (cellsV_rel (ofV_rel (ι := ι) hof)) (by rw [hi]; simp) (by rw [List.map_map]; exact hl)
  refine ⟨.agg c, .agg c1, h, by obtain ⟨c1⟩ := c1; exact .agg hr'.1 hr'.2, ?_⟩
  simp only [execOp, ho, Instr.build, Sem.run_bind, run_zeroValue' hin hzv, Result.andThen_ok, run_underlying hu, run_sizeOf' hs w]
  have e2 : (Array.map (fun (x : Nat × Operand) => match x with | (i, x) => (i, a.eval x)) ps).toList = ps.toList.map fun x => (x.1, a.eval x.2) := by simp
  rw [e2]
  have hf' : Instr.fill (fun i => some (i * m, m)) zv.cells (ps.toList.map fun x => (x.1, a.eval x.2)) = some c1 := hf
  rw [hf']
  rfl
theorem repL_succ (z : List AV) (n : Nat) : repL z (n + 1) = z ++ repL z n := rfl
theorem repL_get (z : List AV) : ∀ (n i : Nat), i < n * z.length → (repL z n)[i]? = z[i % z.length]?
  | 0, i, h => by simp at h
  | n + 1, i, h => by
    rw [repL_succ]
    by_cases hi : i < z.length
    · rw [List.getElem?_append_left hi, Nat.mod_eq_of_lt hi]
    · rw [List.getElem?_append_right (by omega), repL_get z n (i - z.length) (by rw [Nat.succ_mul] at h; omega), Nat.mod_eq_sub_mod (by omega : z.length ≤ i)]
theorem repL_length (z : List AV) : ∀ n, (repL z n).length = n * z.length
  | 0 => by rw [Nat.zero_mul]; rfl
  | n + 1 => by rw [repL_succ, List.length_append, repL_length z n, Nat.succ_mul]; omega
/-- A row of zeros. -/
theorem rep_rel {ι : Inj} {z : List AV} {zs : Array Value} (h : LRel ι z zs.toList) (n : Nat) : LRel ι (repL z n) ((Array.range (n * zs.size)).map (zs[· % zs.size]!)).toList := by
  have hsz : z.length = zs.size := by simpa using h.1
  refine ⟨by simp [repL_length, hsz], fun i x y hx hy => ?_⟩
  have hi : i < n * z.length := by
    rw [← repL_length]
    rcases Nat.lt_or_ge i (repL z n).length with h | h
    · exact h
    · rw [List.getElem?_eq_none h] at hx; cases hx
  rw [repL_get z n i hi] at hx
  have hpos : 0 < z.length := by
    rcases Nat.eq_zero_or_pos z.length with h0 | h0
    · rw [h0] at hi; omega
    · exact h0
  obtain ⟨y', hy', hr⟩ := h.get hx
  have hlt : i % zs.size < zs.size := Nat.mod_lt _ (by omega)
  have : y = y' := by
    rw [Array.getElem?_toList, Array.getElem?_map, Array.getElem?_range] at hy
    rw [if_pos (by rw [← hsz]; exact hi)] at hy
    simp only [Option.map_some, Option.some.injEq] at hy
    rw [← hy, getElem!_pos zs (i % zs.size) hlt]
    rw [hsz, Array.getElem?_toList, Array.getElem?_eq_getElem hlt] at hy'
    exact Option.some.inj hy'
  rw [this]; exact hr
/-- A new block whose value is a slice of it. -/
theorem capOk_exact {c n m : Nat} (h : c < 4611686018427387904) : capOk c c n m := by unfold capOk; rw [if_pos h]
theorem snd_buildSlice {s : String} {t e : TypeId} {ps : Array (Nat × Operand)} {z : AV} {len m : Nat} (ho : o.op = .buildSlice t len ps) (hu : P.underlying t = some (.slice e)) (hs : szA P e = some m)
    (hz : zeroA P e = some z) (hlen : len ≤ 65536) (hmax : len * m ≤ 16777216) (hzm : (cellsV z).length = m) :
    OpSnd P (buildSliceF s e m len (repL (cellsV z) len) (pxParts ps.toList)) o := fun n T H k r h hr ι a w ht hh => by
  obtain ⟨l, h, hi, hl⟩ := withParts_good h hr ht
  obtain ⟨c, hc, h⟩ := onO_good h hr
  obtain ⟨i, zv, hin, hzv, hof⟩ := zeroA_of hz
  have hzr := cellsV_rel (ofV_rel (ι := ι) hof)
  have hzs : zv.cells.size = m := by rw [← hzm, hzr.1]; simp
  have h0 := rep_rel hzr len
  obtain ⟨c1, hf, hr'⟩ := fill_snd (c' := (Array.range (len * zv.cells.size)).map (zv.cells[· % zv.cells.size]!)) (ps' := ps.toList.map fun x => (x.1, a.eval x.2)) hc h0 (by rw [hi]; simp) (by rw [List.map_map]; exact hl)
  obtain ⟨κ, H1, hk, hst, hκ⟩ := new_row hh (c' := c1) hr' h
  refine ⟨_, H1, κ, .slice (some ⟨w.heap.size, 0 + 0, none⟩) len len, _, hk, hst, .slice hκ (capOk_exact (by omega)), .inl ?_⟩
  have e2 : (Array.map (fun (x : Nat × Operand) => match x with | (i, x) => (i, a.eval x)) ps).toList = ps.toList.map fun x => (x.1, a.eval x.2) := by simp
  have hf' : Instr.fill (fun i => some (i * m, m)) ((Array.range (len * m)).map (zv.cells[· % zv.cells.size]!)) (ps.toList.map fun x => (x.1, a.eval x.2)) = some c1 := by
    rw [← hf, hzs]; rfl
  simp only [execOp, ho, Instr.buildSlice, Sem.run_bind, run_underlying hu, run_sizeOf' hs w, Result.andThen_ok, if_neg (show ¬ (len * m > 2 ^ 24) from Nat.not_lt.2 hmax), e2, Sem.run_ite]
  by_cases hz0 : len * m = 0
  · rw [if_pos hz0]
    have e3 : (Array.range (len * m)).map (fun x => (#[] : Array Value)[x % (#[] : Array Value).size]!) = (Array.range (len * m)).map (zv.cells[· % zv.cells.size]!) := by rw [hz0]; simp
    simp only [Sem.run_pure, Result.andThen_ok]
    rw [e3, hf']
    rfl
  · rw [if_neg hz0]
    simp only [run_zeroValue' hin hzv, Sem.run_pure, Result.andThen_ok]
    rw [hf']
    rfl
theorem snd_makeMap {t : TypeId} (ho : o.op = .makeMap t none) : OpSnd P makeMapF o := fun n T H k r h hr ι a w ht hh => by
  obtain ⟨m, nx, l⟩ := H
  have hk' : natF nx (fun n => k (.map n) ⟨m.upd n (some (.map [] 0)), n + 1, l⟩) = r := h
  rw [natF_eq] at hk'
  refine ⟨_, _, ι.ext nx ⟨w.heap.size, 0, 0, false⟩, .map (some w.heap.size), { w with heap := w.heap.push (.map #[] 0) }, hk',
    St.new (H := ⟨m, nx, l⟩) (w' := { w with heap := w.heap.push (.map #[] 0) }) hh (.map rfl rfl rfl fun i x y h => by simp at h) rfl rfl rfl rfl l, .map (Inj.ext_self _ _ _) rfl, .inl ?_⟩
  simp [execOp, ho, Instr.makeMap]
theorem wrap_small {n : Int} (h0 : 0 ≤ n) (h1 : n < 9223372036854775808) : IntKind.i64.wrap n = n := by
  rw [wrap_signed .i64 n 18446744073709551616 9223372036854775808 rfl rfl rfl, Int.emod_eq_of_lt h0 (by omega), if_neg (by omega)]
theorem snd_makeSlice {s : String} {t e : TypeId} {z : AV} {i : TypeInfo} {x y : Operand} (ho : o.op = .makeSlice t x y) (hu : P.underlying t = some (.slice e)) (hin : P.info? e = some i)
    (hz : zeroA P e = some z) (hzm : (cellsV z).length = i.size) : OpSnd P (makeSliceF s e i.bytes (cellsV z) (px x) (px y)) o := fun n T H k r h hr ι a w ht hh => by
  obtain ⟨v, h, hv⟩ := withO_good h hr ht
  obtain ⟨u, h, hu'⟩ := withO_good h hr ht
  obtain ⟨j1, l, e0, h1'⟩ := natOf_good h hr; clear h; subst e0; have h := h1'; clear h1'
  obtain ⟨j2, c, e0, h1'⟩ := natOf_good h hr; clear h; subst e0; have h := h1'; clear h1'
  obtain ⟨hb, h1'⟩ := onB_good h hr; clear h; have h := h1'; clear h1'
  rw [natF_eq, natF_eq] at h
  have hb2 : l ≤ c ∧ i.bytes * c ≤ 281474976710656 ∧ c ≤ 1099511627776 := by
    cases h1 : Nat.ble l c with
    | false => rw [h1] at hb; cases hb
    | true =>
      rw [h1] at hb
      cases h2 : Nat.ble (i.bytes.mul c) 281474976710656 with
      | false => rw [h2] at hb; cases hb
      | true =>
        rw [h2] at hb
        exact ⟨Nat.le_of_ble_eq_true h1, Nat.le_of_ble_eq_true h2, Nat.le_of_ble_eq_true hb⟩
  obtain ⟨hlc, hby, hc40⟩ := hb2
  obtain ⟨i', zv, hin', hzv, hof⟩ := zeroA_of hz
  rw [hin] at hin'; cases hin'
  have hzr := cellsV_rel (ofV_rel (ι := ι) hof)
  have hzs : zv.cells.size = i.size := by rw [← hzm, hzr.1]; simp
  obtain ⟨κ, H1, hk, hst, hκ⟩ := new_row hh (c' := (Array.range (c * zv.cells.size)).map (zv.cells[· % zv.cells.size]!)) (rep_rel hzr c) h
  refine ⟨_, H1, κ, .slice (some ⟨w.heap.size, 0 + 0, none⟩) l c, _, hk, hst, .slice hκ (capOk_exact (by omega)), .inl ?_⟩
  have wl : IntKind.i64.wrap (l : Int) = l := wrap_small (by omega) (by omega)
  have wc : IntKind.i64.wrap (c : Int) = c := wrap_small (by omega) (by omega)
  have t1 : ¬ ((i.bytes : Int) * (c : Int) > 2 ^ 48) := by
    have h3 : ((i.bytes * c : Nat) : Int) ≤ ((281474976710656 : Nat) : Int) := Int.ofNat_le.2 hby
    rw [Int.natCast_mul] at h3
    have h4 : (2 : Int) ^ 48 = ((281474976710656 : Nat) : Int) := rfl
    rw [h4]
    exact Int.not_lt.2 h3
  have hsz : (sizeOf e).run P w = .ok i.size w := by simp [sizeOf, typeInfo, hin]
  have al : (Go.asInt (.int j1 l)).run P w = .ok (l : Int) w := rfl
  have ac : (Go.asInt (.int j2 c)).run P w = .ok (c : Int) w := rfl
  simp only [execOp, ho, Instr.makeSlice, Sem.run_bind, run_underlying hu, intOf_inv hv, intOf_inv hu', al, ac, typeInfo, run_program, hin, Sem.run_pure, Result.andThen_ok, wl, wc, Sem.run_ite,
    run_askRoom, hsz, Int.toNat_natCast]
  have hc : ¬ ((decide ((c : Int) < 0) || decide ((i.bytes : Int) * (c : Int) > 2 ^ 48) || decide ((l : Int) < 0) || decide ((l : Int) > c)) = true) := by
    rw [decide_eq_false (by omega), decide_eq_false t1, decide_eq_false (by omega), decide_eq_false (by omega)]; decide
  rw [if_neg hc]
  by_cases hz0 : c * i.size = 0
  · rw [if_pos hz0]
    have e3 : (Array.range (c * i.size)).map (fun x => (#[] : Array Value)[x % (#[] : Array Value).size]!) = (Array.range (c * zv.cells.size)).map (zv.cells[· % zv.cells.size]!) := by rw [hzs, hz0]; simp
    simp only [Sem.run_pure, Result.andThen_ok, newRow, Sem.run_bind, run_newObj]
    rw [e3]
  · rw [if_neg hz0]
    simp only [Sem.run_bind, run_zeroValue' hin hzv, Sem.run_pure, Result.andThen_ok, newRow, run_newObj]
    rw [hzs]
end
end Go.Ev
