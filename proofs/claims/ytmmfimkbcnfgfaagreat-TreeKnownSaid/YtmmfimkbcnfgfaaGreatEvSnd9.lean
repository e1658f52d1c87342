import Derived.Test.YtmmfimkbcnfgfaaGreatEvSnd8
/- Each operation of the abstract evaluator does what the model's does: maps, types asked for, the letters of a text. -/
namespace Go.Ev

section
variable {P : Program} {o : Oper}
/-- A map that a value leads to. -/
theorem map_of {ι : Inj} {H : AH} {w : World} (hh : HRel ι H w) {r : Nat} {es : List AEnt} {clock : Nat} {x : Loc} (hg : H.m.get r = some (.map es clock)) (hx : ι r = some x) :
    ∃ es', w.heap[x.1]? = some (.map es' clock) ∧ x.2 = 0 ∧ es.length = es'.toList.length ∧
      ∀ (i : Nat) p q, es[i]? = some p → es'.toList[i]? = some q → AVRel ι p.key q.key ∧ AVRel ι p.val q.val ∧ p.born = q.born := by
  obtain ⟨y, o', hy, hw, hr⟩ := hh.get r _ hg
  rw [hx] at hy; cases hy
  cases hr with
  | map hk hs hl h => exact ⟨_, hw, hs, hl, h⟩
theorem mapAt_good {w : String} {H : AH} {b : Nat} {k : List AEnt → Nat → R} {r : R} (h : mapAt w H b k = r) (hr : r.Good) : ∃ es c, H.m.get b = some (.map es c) ∧ k es c = r := by
  unfold mapAt at h
  split at h
  · rename_i es c hg; exact ⟨es, c, hg, h⟩
  · exact bad_elim h hr
theorem map_inv {ι : Inj} {r : Nat} {v : Value} (h : AVRel ι (.map r) v) : ∃ x, ι r = some x ∧ v = .map (some x.1) := by
  cases h with
  | map h h0 => exact ⟨_, h, rfl⟩
theorem run_getMap {r : Nat} {w : World} {es : Array MapEntry} {c : Nat} (h : w.heap[r]? = some (.map es c)) : (getObj r).run P w = .ok (.map es c) w := by simp [getObj, Sem.run, h]
theorem run_setMap {r : Nat} {w : World} {es : Array MapEntry} {c : Nat} (h : w.heap[r]? = some (.map es c)) (o : Obj) : (setObj r o).run P w = .ok () { w with heap := w.heap.setIfInBounds r o } := by simp [setObj, Sem.run, h]
theorem snd_lenMap {s : String} {t kt e : TypeId} {x : Operand} (ho : o.op = .call ⟨.builtin .len, ⟨[x]⟩, ⟨[t]⟩⟩) (hu : P.underlying t = some (.map kt e)) : OpSnd P (lenMapF s (px x)) o := .quiet fun n T H k r h hr ι a w ht hh => by
  obtain ⟨v, h, hv⟩ := withO_good h hr ht
  have hun := run_underlying (P := P) hu w
  cases v with
  | nil nw =>
    cases nw with
    | map =>
      generalize hev : a.eval x = x' at hv
      cases hv
      refine ⟨_, _, h, .int _ _, ?_⟩
      rw [run_builtin ho]
      simp only [builtin, Builtin.len_, Sem.run_bind, List.map_cons, List.map_nil, List.getElem?_toArray, List.getElem?_cons_zero, hun, hev, Result.andThen_ok]
      rfl
    | _ => exact bad_elim (w := s) h hr
  | map m =>
    obtain ⟨y, hy, hev⟩ := map_inv hv
    obtain ⟨es, c, hg, h'⟩ := mapAt_good (w := s) (k := fun es _ => k (intN (lenL es)) H) h hr
    obtain ⟨es', hw, hs, hl, he⟩ := map_of hh hg hy
    refine ⟨_, _, h', .int _ _, ?_⟩
    rw [run_builtin ho]
    simp only [builtin, Builtin.len_, Sem.run_bind, List.map_cons, List.map_nil, List.getElem?_toArray, List.getElem?_cons_zero, hun, hev, Result.andThen_ok, run_getMap hw, Sem.run_pure]
    rw [lenL_eq, hl]
    rfl
  | _ => exact bad_elim (w := s) h hr
theorem bytes_beq_list (a c : List UInt8) : ((⟨⟨a⟩⟩ : ByteArray) == ⟨⟨c⟩⟩) = (a == c) := by
  show ((⟨a⟩ : Array UInt8) == ⟨c⟩) = _
  simp
/-- Two plain keys, compared. -/
theorem eqA_plain {ι : Inj} {kt : TypeId} {k e : AV} {k' e' : Value} {b : Bool} {u : TypeDesc} (h : eqA P 12 kt k e = some b) (hk : plainKey k = true) (hu : P.underlying kt = some u) (hkr : AVRel ι k k') (her : AVRel ι e e') :
    Instr.sameNow u k' e' = some b ∧ (b = true → Instr.sameBits 10000 e' k' = true) := by
  rw [eqA] at h
  rw [hu] at h
  cases k with
  | int j a =>
    cases e with
    | int i c =>
      simp only at h
      split at h
      · rename_i hki
        cases h
        cases kindIs_eq hki
        rw [int_inv hkr, int_inv her, eqI_eq]
        refine ⟨by simp [Instr.sameNow], fun hb => ?_⟩
        have : a = c := by simpa using hb
        subst this
        simp [Instr.sameBits]
      · cases h
    | _ => cases h
  | bool a =>
    cases e with
    | bool c =>
      simp only at h
      split at h
      · cases h
        rw [bool_inv hkr, bool_inv her]
        cases a <;> cases c <;> simp [Instr.sameNow, Instr.sameBits]
      · cases h
    | _ => cases h
  | str a =>
    cases e with
    | str c =>
      simp only at h
      split at h
      · cases h
        rw [str_inv hkr, str_inv her, eqBytes_eq]
        have hb := bytes_beq_list a c
        refine ⟨by simp only [Instr.sameNow, hb], fun he => ?_⟩
        have : a = c := by simpa using he
        subst this
        simp only [Instr.sameBits, hb, he]
      · cases h
    | _ => cases h
  | _ => cases hk
def EntsRel (ι : Inj) (es : List AEnt) (es' : List MapEntry) : Prop :=
  es.length = es'.length ∧ ∀ (i : Nat) p q, es[i]? = some p → es'[i]? = some q → AVRel ι p.key q.key ∧ AVRel ι p.val q.val ∧ p.born = q.born
theorem findA_snd {ι : Inj} {kt : TypeId} {k : AV} {k' : Value} {u : TypeDesc} (hk : plainKey k = true) (hu : P.underlying kt = some u) (hkr : AVRel ι k k') :
    ∀ {es : List AEnt} {es' : List MapEntry} {i : Nat} {res : Option (Nat × AEnt)}, findA P kt k es i = some res → EntsRel ι es es' →
      (res = none ∧ Instr.findNow u k' es' i = some none) ∨
      (∃ j e q, res = some (i + j, e) ∧ es[j]? = some e ∧ es'[j]? = some q ∧ Instr.findNow u k' es' i = some (some (i + j, q.val)) ∧ Instr.sameBits 10000 q.key k' = true)
  | [], es', i, res, h, hr => by
    have : es' = [] := List.length_eq_zero_iff.1 (by rw [← hr.1]; rfl)
    subst this
    cases h
    exact .inl ⟨rfl, rfl⟩
  | e :: es, [], i, res, h, hr => by have := hr.1; simp at this
  | e :: es, q :: es', i, res, h, hr => by
    obtain ⟨h0, h1, h2⟩ := hr.2 0 e q rfl rfl
    have hr' : EntsRel ι es es' := ⟨by have := hr.1; simpa using this, fun i p q hp hq => hr.2 (i + 1) p q (by simpa using hp) (by simpa using hq)⟩
    rw [findA] at h
    split at h
    · rename_i heq
      cases h
      obtain ⟨h3, h4⟩ := eqA_plain heq hk hu hkr h0
      refine .inr ⟨0, e, q, rfl, rfl, rfl, ?_, h4 rfl⟩
      simp [Instr.findNow, h3]
    · rename_i heq
      obtain ⟨h3, _⟩ := eqA_plain heq hk hu hkr h0
      rcases findA_snd hk hu hkr h hr' with ⟨h4, h5⟩ | ⟨j, e1, q1, h4, h5, h6, h7, h8⟩
      · exact .inl ⟨h4, by simp [Instr.findNow, h3]; exact h5⟩
      · refine .inr ⟨j + 1, e1, q1, by rw [h4]; congr 2; omega, by simpa using h5, by simpa using h6, ?_, h8⟩
        simp only [Instr.findNow, h3]
        rw [h7]; congr 3; omega
    · cases h
theorem plainKt_of {kt : TypeId} (h : plainKt P kt = true) : ∃ u, P.underlying kt = some u ∧ ((∃ k, u = .int k) ∨ u = .string ∨ u = .bool) := by
  unfold plainKt at h
  split at h
  · rename_i k hk; exact ⟨_, hk, .inl ⟨k, rfl⟩⟩
  · rename_i hk; exact ⟨_, hk, .inr (.inl rfl)⟩
  · rename_i hk; exact ⟨_, hk, .inr (.inr rfl)⟩
  · cases h
theorem run_checkKey {kt : TypeId} {u : TypeDesc} (hu : P.underlying kt = some u) (hp : (∃ k, u = .int k) ∨ u = .string ∨ u = .bool) (b : Bool) (v : Value) (w : World) : (Instr.checkKey b 10000 kt v).run P w = .ok () w := by
  rw [Instr.checkKey]
  simp only [Sem.run_bind, run_underlying hu w, Result.andThen_ok]
  rcases hp with ⟨k, rfl⟩ | rfl | rfl <;> rfl
theorem run_findKey {kt : TypeId} {u : TypeDesc} (hu : P.underlying kt = some u) {k : Value} {es : List MapEntry} {r : Option (Nat × Value)} (h : Instr.findNow u k es 0 = some r) (w : World) : (Instr.findKey kt k es).run P w = .ok r w := by
  simp only [Instr.findKey, Sem.run_bind, run_underlying hu w, Result.andThen_ok, h, Sem.run_pure]
theorem snd_lookup {s : String} {t kt e : TypeId} {m x : Operand} {ok : Bool} {z : AV} (ho : o.op = .lookup t m x ok) (hu : P.underlying t = some (.map kt e)) (hp : plainKt P kt = true) (hz : zeroA P e = some z) :
    OpSnd P (lookupF P s kt z ok (px m) (px x)) o := .quiet fun n T H k r h hr ι a w ht hh => by
  obtain ⟨v, h, hv⟩ := withO_good h hr ht
  obtain ⟨key, h, hkey⟩ := withO_good h hr ht
  obtain ⟨hpk, h'⟩ := onB_good h hr
  clear h
  obtain ⟨u, hku, hpu⟩ := plainKt_of hp
  obtain ⟨i, zv, hi, hzv, hof⟩ := zeroA_of hz
  have hun := run_underlying (P := P) hu w
  -- what is found among the entries
  have hgo : ∀ (es : List AEnt) (es' : Array MapEntry), EntsRel ι es es'.toList → (match findA P kt key es 0 with
      | some (some (_, x)) => k (Bool.rec x.val (.tup [x.val, .bool true]) ok) H
      | some none => k (Bool.rec z (.tup [z, .bool false]) ok) H
      | none => bad s) = r → ((a.eval m = .map none ∧ es' = #[]) ∨ ∃ r c, a.eval m = .map (some r) ∧ w.heap[r]? = some (.map es' c)) →
      ∃ v v', k v H = r ∧ AVRel ι v v' ∧ (execOp a.eval o).run P w = .ok (.value v') w := by
    intro es es' her hgo hrun
    split at hgo
    · rename_i j p hf
      rcases findA_snd hpk hku hkey hf her with ⟨h, _⟩ | ⟨j', e1, q, h4, h5, h6, h7, _⟩
      · cases h
      · cases h4
        have hval := (her.2 j' p q h5 h6).2.1
        refine ⟨_, (if ok then .tuple #[q.val, .bool true] else q.val), hgo, ?_, ?_⟩
        · cases ok with
          | true => exact .tup rfl (LRel.cons hval (LRel.cons (.bool true) (LRel.nil ι))).2
          | false => exact hval
        · rcases hrun with ⟨hm, rfl⟩ | ⟨r1, c1, hm, hw⟩
          · simp at h6
          · simp only [execOp, ho, Sem.run_bind, Instr.lookup, hun, hm, Result.andThen_ok, run_getMap hw, run_checkKey hku hpu, run_findKey hku h7, Sem.run_pure]
    · rename_i hf
      rcases findA_snd hpk hku hkey hf her with ⟨_, h7⟩ | ⟨_, _, _, h, _⟩
      · refine ⟨_, (if ok then .tuple #[zv, .bool false] else zv), hgo, ?_, ?_⟩
        · cases ok with
          | true => exact .tup rfl (LRel.cons (ofV_rel hof) (LRel.cons (.bool false) (LRel.nil ι))).2
          | false => exact ofV_rel hof
        · rcases hrun with ⟨hm, rfl⟩ | ⟨r1, c1, hm, hw⟩
          · simp only [execOp, ho, Sem.run_bind, Instr.lookup, hun, hm, Result.andThen_ok, run_checkKey hku hpu, run_findKey hku h7, run_zeroValue' hi hzv, Sem.run_pure]
          · simp only [execOp, ho, Sem.run_bind, Instr.lookup, hun, hm, Result.andThen_ok, run_getMap hw, run_checkKey hku hpu, run_findKey hku h7, run_zeroValue' hi hzv, Sem.run_pure]
      · cases h
    · exact bad_elim hgo hr
  cases v with
  | nil nw =>
    cases nw with
    | map =>
      generalize hev : a.eval m = x' at hv
      cases hv
      exact hgo [] #[] ⟨rfl, fun i p q h => by simp at h⟩ h' (.inl ⟨hev, rfl⟩)
    | _ => exact bad_elim (w := s) h' hr
  | map m1 =>
    obtain ⟨y, hy, hev⟩ := map_inv hv
    obtain ⟨es, c, hg, h1⟩ := mapAt_good (w := s) (k := fun es _ => (match findA P kt key es 0 with
      | some (some (_, x)) => k (Bool.rec x.val (.tup [x.val, .bool true]) ok) H
      | some none => k (Bool.rec z (.tup [z, .bool false]) ok) H
      | none => bad s)) h' hr
    obtain ⟨es', hw, hs, hl, he⟩ := map_of hh hg hy
    exact hgo es es' ⟨hl, he⟩ h1 (.inr ⟨_, _, hev, hw⟩)
  | _ => exact bad_elim (w := s) h' hr
theorem putNth_get (x : AEnt) : ∀ (n : Nat) (l : List AEnt) (i : Nat), (putNth x n l)[i]? = if i = n ∧ i < l.length then some x else l[i]?
  | n, [], i => by simp [putNth]
  | 0, y :: r, i => by
    cases i with
    | zero => simp [putNth]
    | succ i => simp [putNth]
  | n + 1, y :: r, i => by
    cases i with
    | zero => simp [putNth]
    | succ i =>
      have := putNth_get x n r i
      simp [putNth, this]
theorem putNth_length (x : AEnt) : ∀ (n : Nat) (l : List AEnt), (putNth x n l).length = l.length
  | _, [] => by simp [putNth]
  | 0, y :: r => by simp [putNth]
  | n + 1, y :: r => by simp [putNth, putNth_length x n r]
theorem dropNth_eq : ∀ (n : Nat) (l : List AEnt), dropNth n l = l.eraseIdx n
  | _, [] => by simp [dropNth]
  | 0, y :: r => by simp [dropNth]
  | n + 1, y :: r => by simp [dropNth, dropNth_eq n r]
theorem EntsRel.put {ι : Inj} {es : List AEnt} {es' : List MapEntry} (h : EntsRel ι es es') {x : AEnt} {n : Nat} {f : MapEntry → MapEntry} {q : MapEntry} (hq : es'[n]? = some q)
    (hx : AVRel ι x.key (f q).key ∧ AVRel ι x.val (f q).val ∧ x.born = (f q).born) : EntsRel ι (putNth x n es) (es'.modify n f) := by
  refine ⟨by rw [putNth_length]; simpa using h.1, fun i p r hp hr => ?_⟩
  rw [putNth_get] at hp
  rw [List.getElem?_modify] at hr
  by_cases hi : i = n
  · subst hi
    have hlt : i < es.length := by
      rw [h.1]
      rcases Nat.lt_or_ge i es'.length with h | h
      · exact h
      · rw [List.getElem?_eq_none h] at hq; cases hq
    rw [if_pos ⟨rfl, hlt⟩] at hp
    cases hp
    rw [hq] at hr
    simp at hr
    subst hr
    exact hx
  · rw [if_neg (fun h => hi h.1)] at hp
    have : (fun a => if n = i then f a else a) = (id : MapEntry → MapEntry) := by funext a; rw [if_neg (fun e : n = i => hi e.symm)]; rfl
    rw [this] at hr
    exact h.2 i p r hp (by simpa using hr)
theorem EntsRel.snoc {ι : Inj} {es : List AEnt} {es' : List MapEntry} (h : EntsRel ι es es') {x : AEnt} {q : MapEntry} (hx : AVRel ι x.key q.key ∧ AVRel ι x.val q.val ∧ x.born = q.born) : EntsRel ι (es ++ [x]) (es' ++ [q]) := by
  refine ⟨by simp [h.1], fun i p r hp hr => ?_⟩
  by_cases hi : i < es.length
  · rw [List.getElem?_append_left hi] at hp
    rw [List.getElem?_append_left (by rw [← h.1]; exact hi)] at hr
    exact h.2 i p r hp hr
  · rw [List.getElem?_append_right (by omega)] at hp
    rw [List.getElem?_append_right (by rw [← h.1]; omega)] at hr
    rw [← h.1] at hr
    cases hd : i - es.length with
    | zero => rw [hd] at hp hr; cases hp; cases hr; exact hx
    | succ j => rw [hd] at hp; simp at hp
theorem EntsRel.drop {ι : Inj} {es : List AEnt} {es' : List MapEntry} (h : EntsRel ι es es') (n : Nat) : EntsRel ι (es.eraseIdx n) (es'.eraseIdx n) := by
  refine ⟨by simp [List.length_eraseIdx, h.1], fun i p r hp hr => ?_⟩
  rw [List.getElem?_eraseIdx] at hp hr
  by_cases hi : i < n
  · rw [if_pos hi] at hp hr; exact h.2 i p r hp hr
  · rw [if_neg hi] at hp hr; exact h.2 _ p r hp hr
/-- A map is written. -/
theorem put_map {ι : Inj} {H : AH} {w : World} (hh : HRel ι H w) {r : Nat} {es es1 : List AEnt} {clock c1 : Nat} {x : Loc} {es1' : Array MapEntry} (hg : H.m.get r = some (.map es clock)) (hx : ι r = some x) (h0 : x.2 = 0)
    (h1 : EntsRel ι es1 es1'.toList) : St ι H w ι ⟨H.m.upd r (some (.map es1 c1)), H.nxt, r :: H.log⟩ { w with heap := w.heap.setIfInBounds x.1 (.map es1' c1) } :=
  have hro : x.ro = false := by
    obtain ⟨y, o', hy, hw, hr⟩ := hh.get r _ hg
    rw [hx] at hy; cases hy
    cases hr with
    | map hk hs hl h => exact hk
  St.put (w' := { w with heap := w.heap.setIfInBounds x.1 (.map es1' c1) }) hh hg hx hro (.map hro h0 h1.1 h1.2) rfl rfl rfl rfl _
theorem execOp_unit {s : Sem Unit} {w w1 : World} (h : s.run P w = .ok () w1) : ((do s; pure Next.skip) : Sem Next).run P w = .ok .skip w1 := by
  simp only [Sem.run_bind, h, Result.andThen_ok, Sem.run_pure]
theorem snd_mapUpdate {s : String} {t kt e : TypeId} {m x y : Operand} (ho : o.op = .mapUpdate t m x y ∨ o.op = .insert t m x y) (hu : P.underlying t = some (.map kt e)) (hp : plainKt P kt = true) :
    OpSnd P (mapUpdateF P s kt (px m) (px x) (px y)) o := fun n T H k r h hr ι a w ht hh => by
  obtain ⟨v, h, hv⟩ := withO_good h hr ht
  obtain ⟨key, h, hkey⟩ := withO_good h hr ht
  obtain ⟨val, h, hval⟩ := withO_good h hr ht
  obtain ⟨hpk, h'⟩ := onB_good h hr
  clear h
  obtain ⟨u, hku, hpu⟩ := plainKt_of hp
  have hun := run_underlying (P := P) hu w
  have hex : (execOp a.eval o) = (do Instr.mapUpdate t (a.eval m) (a.eval x) (a.eval y); pure Next.skip) := by
    rcases ho with ho | ho <;> simp only [execOp, ho]
  cases v with
  | map m1 =>
    obtain ⟨yl, hy, hev⟩ := map_inv hv
    obtain ⟨es, c, hg, h1⟩ := mapAt_good (w := s) (k := fun es clock => (match findA P kt key es 0 with
      | some (some (i, e)) => H.put m1 (.map (putNth ⟨key, val, e.born⟩ i es) clock) (k undefA)
      | some none => natF (Nat.succ clock) fun c => H.put m1 (.map (es ++ [⟨key, val, clock⟩]) c) (k undefA)
      | none => bad s)) h' hr
    obtain ⟨es', hw, hs, hl, he⟩ := map_of hh hg hy
    have her : EntsRel ι es es'.toList := ⟨hl, he⟩
    split at h1
    · rename_i j p hf
      rcases findA_snd hpk hku hkey hf her with ⟨h, _⟩ | ⟨j', e1, q, h4, h5, h6, h7, h8⟩
      · cases h
      · cases h4
        rw [put_eq] at h1
        refine ⟨_, _, ι, _, _, h1, put_map (es1' := es'.modify (0 + j') fun e => { e with key := a.eval x, val := a.eval y }) hh hg hy hs ?_, undef_rel ι, .inr ⟨rfl, ?_⟩⟩
        · rw [Array.toList_modify]
          exact her.put (q := q) (by rw [Nat.zero_add]; exact h6) ⟨hkey, hval, (her.2 j' p q h5 h6).2.2⟩
        · rw [hex]
          apply execOp_unit
          have hq : es'[0 + j']? = some q := by rw [Nat.zero_add, ← Array.getElem?_toList]; exact h6
          have h8' : Instr.keyThatStays q.key (a.eval x) = (pure (a.eval x) : Sem Value) := by simp only [Instr.keyThatStays, h8, if_true]
          simp only [Instr.mapUpdate, Sem.run_bind, hun, hev, Result.andThen_ok, run_getMap hw, run_checkKey hku hpu, run_findKey hku h7, hq, Option.map_some, Option.getD_some, h8', Sem.run_pure, run_setMap hw]
    · rename_i hf
      rcases findA_snd hpk hku hkey hf her with ⟨_, h7⟩ | ⟨_, _, _, h, _⟩
      · rw [natF_eq, put_eq] at h1
        refine ⟨_, _, ι, _, _, h1, put_map (es1' := es'.push { key := a.eval x, val := a.eval y, born := c }) hh hg hy hs ?_, undef_rel ι, .inr ⟨rfl, ?_⟩⟩
        · rw [Array.toList_push]
          exact her.snoc ⟨hkey, hval, rfl⟩
        · rw [hex]
          apply execOp_unit
          simp only [Instr.mapUpdate, Sem.run_bind, hun, hev, Result.andThen_ok, run_getMap hw, run_checkKey hku hpu, run_findKey hku h7, run_setMap hw]
      · cases h
    · exact bad_elim h1 hr
  | nil nw => cases nw <;> exact bad_elim (w := s) h' hr
  | _ => exact bad_elim (w := s) h' hr
theorem snd_delete {s : String} {t kt e : TypeId} {ts : List TypeId} {m x : Operand} (ho : o.op = .call ⟨.builtin .delete, ⟨[m, x]⟩, ⟨t :: ts⟩⟩) (hu : P.underlying t = some (.map kt e)) (hp : plainKt P kt = true) :
    OpSnd P (deleteF P s kt (px m) (px x)) o := fun n T H k r h hr ι a w ht hh => by
  obtain ⟨v, h, hv⟩ := withO_good h hr ht
  obtain ⟨key, h, hkey⟩ := withO_good h hr ht
  obtain ⟨hpk, h'⟩ := onB_good h hr
  clear h
  obtain ⟨u, hku, hpu⟩ := plainKt_of hp
  have hun := run_underlying (P := P) hu w
  have hex : ∀ w1, (Builtin.delete_ ⟨t :: ts⟩ o.type ⟨[a.eval m, a.eval x]⟩).run P w = .ok undef w1 → (execOp a.eval o).run P w = .ok (.value undef) w1 := by
    intro w1 h1
    rw [run_builtin ho]
    show ((do pure (Next.value (← Builtin.delete_ ⟨t :: ts⟩ o.type ⟨[a.eval m, a.eval x]⟩))) : Sem Next).run P w = _
    simp only [Sem.run_bind, h1, Result.andThen_ok, Sem.run_pure]
  cases v with
  | nil nw =>
    cases nw with
    | map =>
      generalize hev : a.eval m = x' at hv
      cases hv
      refine ⟨_, H, ι, _, w, h', .refl hh, undef_rel ι, .inl (hex _ ?_)⟩
      simp only [Builtin.delete_, List.getElem?_toArray, List.getElem?_cons_zero, List.getElem?_cons_succ, Sem.run_bind, hun, hev, Result.andThen_ok, run_checkKey hku hpu, Sem.run_pure]
      rfl
    | _ => exact bad_elim (w := s) h' hr
  | map m1 =>
    obtain ⟨yl, hy, hev⟩ := map_inv hv
    obtain ⟨es, c, hg, h1⟩ := mapAt_good (w := s) (k := fun es clock => (match findA P kt key es 0 with
      | some (some (i, _)) => H.put m1 (.map (dropNth i es) clock) (k undefA)
      | some none => H.put m1 (.map es clock) (k undefA)
      | none => bad s)) h' hr
    obtain ⟨es', hw, hs, hl, he⟩ := map_of hh hg hy
    have her : EntsRel ι es es'.toList := ⟨hl, he⟩
    split at h1
    · rename_i j p hf
      rcases findA_snd hpk hku hkey hf her with ⟨h, _⟩ | ⟨j', e1, q, h4, h5, h6, h7, h8⟩
      · cases h
      · cases h4
        rw [put_eq] at h1
        refine ⟨_, _, ι, _, _, h1, put_map (es1' := es'.eraseIdxIfInBounds (0 + j')) hh hg hy hs ?_, undef_rel ι, .inl (hex _ ?_)⟩
        · rw [dropNth_eq]
          have : (es'.eraseIdxIfInBounds (0 + j')).toList = es'.toList.eraseIdx (0 + j') := by simp
          rw [this]
          exact her.drop _
        · simp only [Builtin.delete_, List.getElem?_toArray, List.getElem?_cons_zero, List.getElem?_cons_succ, Sem.run_bind, hun, hev, Result.andThen_ok, run_getMap hw, run_checkKey hku hpu, run_findKey hku h7, run_setMap hw, Sem.run_pure]
          rfl
    · rename_i hf
      rcases findA_snd hpk hku hkey hf her with ⟨_, h7⟩ | ⟨_, _, _, h, _⟩
      · rw [put_eq] at h1
        refine ⟨_, _, ι, _, _, h1, put_map (es1' := es') hh hg hy hs her, undef_rel ι, .inl (hex _ ?_)⟩
        simp only [Builtin.delete_, List.getElem?_toArray, List.getElem?_cons_zero, List.getElem?_cons_succ, Sem.run_bind, hun, hev, Result.andThen_ok, run_getMap hw, run_checkKey hku hpu, run_findKey hku h7, run_setMap hw, Sem.run_pure]
        rfl
      · cases h
    · exact bad_elim h1 hr
  | _ => exact bad_elim (w := s) h' hr
theorem holdsA_rel {ι : Inj} {ok : Bool} {v u : AV} {v' : Value} (h : holdsA ok v = some u) (hv : AVRel ι v v') : AVRel ι u (if ok then .tuple #[v', .bool true] else v') := by
  cases h
  cases ok with
  | true => exact .tup rfl (LRel.cons hv (LRel.cons (.bool true) (LRel.nil ι))).2
  | false => exact hv
theorem failsA_rel {ok : Bool} {as : TypeId} {u : AV} (h : failsA ok (zeroA P as) = some u) : ok = true ∧ ∃ i zv, P.info? as = some i ∧ i.zero = some zv ∧ ∀ ι, AVRel ι u (.tuple #[zv, .bool false]) := by
  unfold failsA at h
  split at h
  · rename_i z hz
    cases h
    obtain ⟨i, zv, hi, hzv, hof⟩ := zeroA_of hz
    exact ⟨rfl, i, zv, hi, hzv, fun ι => .tup rfl (LRel.cons (ofV_rel hof) (LRel.cons (.bool false) (LRel.nil ι))).2⟩
  · cases h
theorem assertA_snd {ι : Inj} {ok : Bool} {t as : TypeId} {v u : AV} {v' : Value} (h : assertA P as (zeroA P as) ok v = some u) (hv : AVRel ι v v') (w : World) :
    ∃ u', (Instr.typeAssert v' t as ok).run P w = .ok u' w ∧ AVRel ι u u' := by
  unfold assertA at h
  split at h
  · rename_i want hus
    unfold assertI at h
    split at h
    · rename_i d y
      cases hv with
      | iface hy =>
        split at h
        · rename_i i hi
          have hti : (typeInfo d).run P w = .ok i w := by simp [typeInfo, hi]
          split at h
          · rename_i hm
            refine ⟨_, ?_, holdsA_rel h (.iface hy)⟩
            simp only [Instr.typeAssert, Sem.run_bind, run_underlying hus w, Result.andThen_ok, hti, hm, Sem.run_pure]
          · rename_i mm hm
            obtain ⟨rfl, i', zv, hi', hzv, hr'⟩ := failsA_rel h
            refine ⟨_, ?_, hr' ι⟩
            simp only [Instr.typeAssert, Sem.run_bind, run_underlying hus w, Result.andThen_ok, hti, hm, Sem.run_pure, if_true, run_zeroValue' hi' hzv]
        · cases h
    · obtain ⟨rfl, i', zv, hi', hzv, hr'⟩ := failsA_rel h
      cases hv
      refine ⟨_, ?_, hr' ι⟩
      simp only [Instr.typeAssert, Sem.run_bind, run_underlying hus w, Result.andThen_ok, if_true, run_zeroValue' hi' hzv, Sem.run_pure]
    · cases h
  · rename_i d hnot hus
    have hni : ∀ ms, d ≠ .interface ms := fun ms e => hnot ms e
    unfold assertT at h
    split at h
    · rename_i d' y
      cases hv with
      | iface hy =>
        split at h
        · rename_i hb
          rw [Nat.beq_eq] at hb
          subst hb
          refine ⟨_, ?_, holdsA_rel h hy⟩
          simp only [Instr.typeAssert, Sem.run_bind, run_underlying hus w, Result.andThen_ok]
          cases d <;> first | (exact (hni _ rfl).elim) | simp
        · rename_i hb
          have hne : ¬ d' = as := fun e => by rw [e, Nat.beq_refl] at hb; cases hb
          obtain ⟨rfl, i', zv, hi', hzv, hr'⟩ := failsA_rel h
          refine ⟨_, ?_, hr' ι⟩
          simp only [Instr.typeAssert, Sem.run_bind, run_underlying hus w, Result.andThen_ok]
          cases d <;> first | (exact (hni _ rfl).elim) | simp [hne, run_zeroValue' hi' hzv]
    · obtain ⟨rfl, i', zv, hi', hzv, hr'⟩ := failsA_rel h
      cases hv
      refine ⟨_, ?_, hr' ι⟩
      simp only [Instr.typeAssert, Sem.run_bind, run_underlying hus w, Result.andThen_ok]
      cases d <;> first | (exact (hni _ rfl).elim) | simp [run_zeroValue' hi' hzv]
    · cases h
  · cases h
theorem snd_typeAssert {s : String} {x : Operand} {t as : TypeId} {ok : Bool} (ho : o.op = .typeAssert x t as ok) : OpSnd P (typeAssertF P s as ok (px x)) o := .quiet fun n T H k r h hr ι a w ht hh => by
  obtain ⟨v, h, hv⟩ := withO_good h hr ht
  obtain ⟨u, hu, h'⟩ := onO_good h hr
  obtain ⟨u', hrun, hur⟩ := assertA_snd (t := t) hu hv w
  refine ⟨_, _, h', hur, ?_⟩
  simp only [execOp, ho, Sem.run_bind, hrun, Result.andThen_ok, Sem.run_pure]
theorem snd_rangeStr {s : String} {t : TypeId} {x : Operand} (ho : o.op = .range t x) (hu : P.underlying t = some .string) : OpSnd P (rangeStrF s (px x)) o := fun n T H k r h hr ι a w ht hh => by
  obtain ⟨v, h, hv⟩ := withO_good h hr ht
  obtain ⟨l, e0, h1'⟩ := strOf_good h hr; clear h; subst e0; have h := h1'; clear h1'
  obtain ⟨m, nx, lg⟩ := H
  have h' : natF nx (fun n => k (.ptr n 0) ⟨m.upd n (some (.strIter l 0)), n + 1, lg⟩) = r := h
  rw [natF_eq] at h'
  refine ⟨_, _, _, .pointer (some ⟨w.heap.size, 0 + 0, none⟩), _, h',
    St.new (H := ⟨m, nx, lg⟩) (w' := { w with heap := w.heap.push (.stringIter ⟨⟨l⟩⟩ 0) }) (m := 0) hh (.strIter rfl rfl) rfl rfl rfl rfl lg, .ptr (x := ⟨w.heap.size, 0, 0, false⟩) (Inj.ext_self _ _ _), .inl ?_⟩
  simp only [execOp, ho, Sem.run_bind, Instr.range, run_underlying hu w, str_inv hv, Result.andThen_ok, run_newObj, Sem.run_pure]
theorem snd_nextStr {s : String} {x : Operand} (ho : o.op = .next x true) : OpSnd P (nextStrF s (px x)) o := fun n T H k r h hr ι a w ht hh => by
  obtain ⟨v, h, hv⟩ := withO_good h hr ht
  obtain ⟨b, off, e0, h1'⟩ := asPtr_good h hr; clear h; subst e0; have h := h1'; clear h1'
  obtain ⟨h0, h1'⟩ := onB_good h hr; clear h
  rw [Nat.beq_eq] at h0
  subst h0
  have h := h1'; clear h1'
  obtain ⟨y, hy, hev⟩ := ptr_inv hv
  split at h
  · rename_i l pos hg
    obtain ⟨y', o', hy', hw, hrel⟩ := hh.get b _ hg
    rw [hy] at hy'; cases hy'
    cases hrel with
    | strIter hro hs =>
    have hget : (getObj y.1).run P w = .ok (.stringIter ⟨⟨l⟩⟩ pos) w := by simp [getObj, Sem.run, hw]
    have hl : (⟨⟨l⟩⟩ : ByteArray).size = l.length := rfl
    have hev' : a.eval x = .pointer (some ⟨y.1, 0, none⟩) := by rw [hev, hs]
    split at h
    · rename_i hn
      rw [nth_eq, List.getElem?_eq_none_iff] at hn
      refine ⟨_, H, ι, .tuple #[.bool false], w, h, .refl hh, .tup rfl (LRel.cons (.bool false) (LRel.nil ι)).2, .inl ?_⟩
      simp only [execOp, ho, Instr.next, Sem.run_bind, hev', hget, Result.andThen_ok, hl, if_neg (Nat.not_lt.2 hn), Sem.run_pure]
    · rename_i c hn
      obtain ⟨hc, h'⟩ := onB_good h hr
      have hc := ble_le hc
      rw [natF_eq, put_eq] at h'
      rw [nth_eq] at hn
      have hlt : pos < l.length := by
        rcases Nat.lt_or_ge pos l.length with h | h
        · exact h
        · rw [List.getElem?_eq_none h] at hn; cases hn
      have hb : ((⟨⟨l⟩⟩ : ByteArray).get! (pos + 0)) = c := by
        show (⟨l⟩ : Array UInt8)[pos]! = c
        rw [getElem!_pos (⟨l⟩ : Array UInt8) pos hlt]
        rw [List.getElem?_eq_getElem hlt] at hn
        exact Option.some.inj hn
      have hdec : Utf8.decode ⟨⟨l⟩⟩ pos = (c.toNat, 1) := by
        unfold Utf8.decode
        simp only [hb]
        rw [if_pos (by omega)]
      refine ⟨_, _, ι, .tuple #[.bool true, .int .i64 pos, .int .i32 c.toNat], { w with heap := w.heap.setIfInBounds y.1 (.stringIter ⟨⟨l⟩⟩ (pos + 1)) }, h',
        St.put (w' := { w with heap := w.heap.setIfInBounds y.1 (.stringIter ⟨⟨l⟩⟩ (pos + 1)) }) hh hg hy hro (.strIter hro hs) rfl rfl rfl rfl _,
        .tup rfl (LRel.cons (.bool true) (LRel.cons (.int _ _) (LRel.cons (.int _ _) (LRel.nil ι)))).2, .inl ?_⟩
      have hset : (setObj y.1 (.stringIter ⟨⟨l⟩⟩ (pos + 1))).run P w = .ok () { w with heap := w.heap.setIfInBounds y.1 (.stringIter ⟨⟨l⟩⟩ (pos + 1)) } := by simp [setObj, Sem.run, hw]
      simp only [execOp, ho, Instr.next, Sem.run_bind, hev', hget, Result.andThen_ok, hl, if_pos hlt, hdec, hset, Sem.run_pure]
      rfl
  · exact bad_elim h hr
end
end Go.Ev
