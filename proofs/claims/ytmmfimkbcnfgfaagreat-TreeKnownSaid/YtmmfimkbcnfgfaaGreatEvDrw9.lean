import Derived.Test.YtmmfimkbcnfgfaaGreatEvDrw8
import Derived.Orders
/- Regions whose order is drawn: whatever the order, the abstract evaluator's run tells what comes of it. -/
namespace Go.Ev

theorem evV_noSelect {P : Program} {call : CallT} {all : List Oper} {o : Oper} {T : Tm} {H : AH} {kk : AV → AH → R} {r : R} (h : evV P (prep P all o) call T H kk = r) (hr : r.Good) : ∀ cs b, o.op ≠ .select cs b := by
  intro cs b e
  have hk : prepK P o = .bad o.pos := by
    unfold prepK
    rw [e]
    rfl
  unfold prep at h
  rw [hk] at h
  split at h
  · exact bad_elim (w := "drawn: what may not stand there") h hr
  · split at h
    · split at h
      · exact bad_elim (w := "drawn: what may not stand there") h hr
      · exact bad_elim (w := "drawn: what may not stand there") h hr
    · exact bad_elim (w := "drawn: what may not stand there") h hr

/-- What holds of the temporaries when the operations of S are done. -/
structure TInv (n : Nat) (all : List Oper) (st : Nat → Stp) (H0 : AH) (T : Tm) (a : Act) (S : Nat → Bool) (κ : Inj) (a' : Act) : Prop where
  size : a'.tmps.size = n
  defers : a'.defers = a.defers
  hit : ∀ j o t, all[j]? = some o → S j = true → o.dst = some t → AVRel (cut κ (st j).E.nxt) (st j).v (a'.tmps.getD t undef)
  miss : ∀ t, t < n → (∀ j o, all[j]? = some o → S j = true → o.dst ≠ some t) → AVRel (cut κ H0.nxt) ((T.t.get t).getD undefA) (a'.tmps.getD t undef)

theorem put_getD {a : Act} {d : Option Tmp} {v : Value} {t : Nat} (h : d ≠ some t) : (a.put d v).tmps.getD t undef = a.tmps.getD t undef := by
  cases d with
  | none => rfl
  | some d =>
    show (a.tmps.setIfInBounds d v).getD t undef = _
    simp only [Array.getD_eq_getD_getElem?]
    rw [Array.getElem?_setIfInBounds_ne (fun e => h (by rw [e]))]
theorem put_getD_self {a : Act} {v : Value} {t : Nat} (h : t < a.tmps.size) : (a.put (some t) v).tmps.getD t undef = v := by
  show (a.tmps.setIfInBounds t v).getD t undef = v
  simp [h]
theorem put_size {a : Act} {d : Option Tmp} {v : Value} : (a.put d v).tmps.size = a.tmps.size := by
  cases d with
  | none => rfl
  | some d => show (a.tmps.setIfInBounds d v).size = _; simp
theorem put_defers' {a : Act} {d : Option Tmp} {v : Value} : (a.put d v).defers = a.defers := by
  cases d <;> rfl
theorem yielded_of {all : List Oper} {tmps tmps' : Array Value} {j : Nat} (h : ∀ p t, all[j]? = some p → p.dst = some t → tmps[t]? = tmps'[t]?) : yielded ⟨all⟩ tmps j = yielded ⟨all⟩ tmps' j := by
  unfold yielded
  cases hp : (⟨all⟩ : Array Oper)[j]? with
  | none => rfl
  | some p =>
    cases hd : p.dst with
    | none => simp [hd]
    | some t =>
      have h1 : all[j]? = some p := by simpa using hp
      simp only [Option.bind_some, hd]
      rw [h p t h1 hd]
theorem dstsOk_spec {n : Nat} {ops : List Oper} (h : dstsOk n ops = true) {i : Nat} {o : Oper} {t : Tmp} (ho : ops[i]? = some o) (hd : o.dst = some t) : t < n := by
  have := List.all_eq_true.1 h o (List.mem_of_getElem? ho)
  simp only [hd, succ_ble] at this
  exact this
theorem setD_true {l : Array Bool} {i j : Nat} (hi : i < l.size) : (l.setIfInBounds i true).getD j false = true ↔ (l.getD j false = true ∨ j = i) := by
  by_cases h : j = i
  · subst h; simp [hi]
  · simp only [Array.getD_eq_getD_getElem?]
    rw [Array.getElem?_setIfInBounds_ne (fun e => h e.symm)]
    simp [h]

section
variable {P : Program} {n : Nat} {call : CallT} (hP : ProgOk P) (hC : CallSnd P call)
variable {all : List Oper} {bef : List Nat} {st : Nat → Stp} {rs : List DRec} (F : Facts P call all bef all.length st rs) (hM : modesOk (modesOf all bef) bef = true)
variable (hO : dstsOnce all = true) (hT : tmpsOk all bef = true) (hds : dstsOk n all = true)
variable {ι0 : Inj} {H0 : AH} {w0 w : World} {T : Tm} {a : Act} {S : Nat → Bool} {κ : Inj} (hI : Inv all.length st ι0 H0 w0 S κ w) (h0 : (st 0).H = H0) (hT0 : (st 0).T = T) (hlt : ∀ b x, H0.m.get b = some x → b < H0.nxt)
variable (ht0 : TRel n ι0 T a) (hfr : ∀ b, H0.nxt ≤ b → ι0 b = none)
variable {i : Nat} (hi : i < all.length) (hSi : S i = false) (hup : ∀ j, j < i → ahead bef i j = true → S j = true) (hdown : ∀ j, j < all.length → S j = true → ahead bef j i = false)
variable {a' : Act} (hA : TInv n all st H0 T a S κ a')
include F hO hT hds hI h0 hT0 ht0 hfr hi hSi hup hdown hA
omit hlt hds in
/-- The temporaries that an operation looks at, as the run in the written order has them. -/
theorem TInv.one {o : Oper} (ho : all[i]? = some o) (t : Nat) (ht : t < n) : ∃ y, AVRel (cut κ (st i).H.nxt) (((erasedT (st i).T (delOf all bef i)).t.get t).getD undefA) y ∧ (t ∈ looksA all o → y = a'.tmps.getD t undef) := by
  obtain ⟨D, hD, hDs⟩ := delOf_spec (all := all) (bef := bef) i
  rw [hD, erasedT_get]
  have h0lo : H0.nxt ≤ (st i).H.nxt := by rw [← h0]; exact F.lo_mono (Nat.zero_le i) (Nat.le_of_lt hi)
  by_cases hdel : t ∈ D
  · rw [if_pos hdel]
    refine ⟨undef, undef_rel _, fun hl => ?_⟩
    obtain ⟨j, p, hp, hji, hna, hpd⟩ := (hDs t).1 hdel
    have := tmpsOk_spec hT ho hp (Nat.ne_of_gt hji) hpd hl
    rw [Nat.max_eq_left (Nat.le_of_lt hji), Nat.min_eq_right (Nat.le_of_lt hji), hna] at this
    cases this
  · rw [if_neg hdel]
    by_cases hw : ∃ j p, j < i ∧ all[j]? = some p ∧ p.dst = some t
    · obtain ⟨j, p, hji, hp, hpd⟩ := hw
      have hah : ahead bef i j = true := by
        cases h : ahead bef i j with
        | true => rfl
        | false => exact (hdel ((hDs t).2 ⟨j, p, hp, hji, h, hpd⟩)).elim
      have hSj := hup j hji hah
      have h1 := F.T_hit hO hp hpd (i - (j + 1)) (by omega)
      rw [show j + 1 + (i - (j + 1)) = i by omega] at h1
      rw [h1]
      exact ⟨_, (hA.hit j p t hp hSj hpd).mono (cut_le (F.hi_le hji (Nat.le_of_lt hi))), fun _ => rfl⟩
    · have h1 := F.T_miss (t := t) i (Nat.le_of_lt hi) fun j hj p hp hd => hw ⟨j, p, hj, hp, hd⟩
      rw [h1, hT0]
      by_cases hl : t ∈ looksA all o
      · refine ⟨_, (hA.miss t ht fun j p hp hS hd => ?_).mono (cut_le h0lo), fun _ => rfl⟩
        have hne : i ≠ j := fun e => by rw [← e, hSi] at hS; cases hS
        have := tmpsOk_spec hT ho hp hne hd hl
        have hij : i < j := by
          rcases Nat.lt_or_ge j i with h | h
          · exact (hw ⟨j, p, h, hp, hd⟩).elim
          · omega
        rw [Nat.max_eq_right (Nat.le_of_lt hij), Nat.min_eq_left (Nat.le_of_lt hij), hdown j (List.getElem?_eq_some_iff.1 hp).1 hS] at this
        cases this
      · refine ⟨a.tmps.getD t undef, (ht0.get t ht).mono fun b x e => ?_, fun h => (hl h).elim⟩
        have hb : b < H0.nxt := by
          rcases Nat.lt_or_ge b H0.nxt with h | h
          · exact h
          · rw [hfr b h] at e; cases e
        rw [cut_lt (Nat.lt_of_lt_of_le hb h0lo), hI.own b hb]; exact e
include hM hP hC hlt
/-- An operation of a drawn region, in whatever state it is run. -/
theorem drawn_step {K : Act → World → Prop} {Q : Exit → Act → World → Prop} {S' : Nat → Bool} (hS' : ∀ j, S' j = true ↔ (S j = true ∨ j = i))
    (hK : ∀ κ' a2 w2, Inv all.length st ι0 H0 w0 S' κ' w2 → TInv n all st H0 T a S' κ' a2 → K a2 w2) : wpOp P ⟨all⟩ Q i K a' w := by
  obtain ⟨o, ho⟩ : ∃ o, all[i]? = some o := ⟨_, List.getElem?_eq_getElem hi⟩
  obtain ⟨T0, hev⟩ := F.ev i hi o ho
  have hgood : (R.panic (st i).v T0 (st i).E).Good := trivial
  have hone := TInv.one F hO hT hI h0 hT0 ht0 hfr hi hSi hup hdown hA ho
  -- the state in which it is run, with related temporaries
  let y : Nat → Value := fun t => if h : t < n then (hone t h).choose else undef
  have hy : ∀ t (h : t < n), AVRel (cut κ (st i).H.nxt) (((erasedT (st i).T (delOf all bef i)).t.get t).getD undefA) (y t) ∧ (t ∈ looksA all o → y t = a'.tmps.getD t undef) := fun t h => by
    show AVRel _ _ (dite _ _ _) ∧ (_ → dite _ _ _ = _)
    rw [dif_pos h]; exact (hone t h).choose_spec
  let a2 : Act := { a' with tmps := ⟨(List.range n).map y⟩ }
  have ha2 : ∀ t, t < n → a2.tmps[t]? = some (y t) := fun t h => by
    show (⟨(List.range n).map y⟩ : Array Value)[t]? = _
    simp [h]
  have hlook : ∀ t, t ∈ looksA all o → t < n → a2.tmps[t]? = a'.tmps[t]? := fun t hl h => by
    rw [ha2 t h, (hy t h).2 hl]
    have : t < a'.tmps.size := by rw [hA.size]; exact h
    simp [this]
  have hlook' : ∀ t, t ∈ looksA all o → a2.tmps[t]? = a'.tmps[t]? := fun t hl => by
    rcases Nat.lt_or_ge t n with h | h
    · exact hlook t hl h
    · rw [Array.getElem?_eq_none (by show (⟨(List.range n).map y⟩ : Array Value).size ≤ t; simpa using h), Array.getElem?_eq_none (by rw [hA.size]; exact h)]
  have hlo0 : H0.nxt ≤ (st i).H.nxt := by rw [← h0]; exact F.lo_mono (Nat.zero_le i) (Nat.le_of_lt hi)
  have ht2 : TRel n (cut κ (st i).H.nxt) (erasedT (st i).T (delOf all bef i)) a2 := by
    refine ⟨by show (⟨(List.range n).map y⟩ : Array Value).size = n; simp, fun t h => ?_, fun t h => ?_, ?_, cut_glob (Nat.le_trans hI.low hlo0) hI.glob⟩
    · have e : a2.tmps.getD t undef = y t := by simp only [Array.getD_eq_getD_getElem?, ha2 t h]; rfl
      rw [e]; exact (hy t h).1
    · obtain ⟨D, hD, hDs⟩ := delOf_spec (all := all) (bef := bef) i
      rw [hD, erasedT_get]
      split
      · rfl
      · rw [F.T_miss (t := t) i (Nat.le_of_lt hi) fun j hj p hp hd => absurd (dstsOk_spec hds hp hd) (Nat.not_lt.2 h), hT0]
        exact ht0.out t h
    · rw [(erasedT_ds _ _).1, (F.T_ds i (Nat.le_of_lt hi)).1, hT0]
      show DsRel _ _ a'.defers
      rw [hA.defers]
      refine ht0.ds.mono fun b x e => ?_
      have hb : b < H0.nxt := by
        rcases Nat.lt_or_ge b H0.nxt with h | h
        · exact h
        · rw [hfr b h] at e; cases e
      rw [cut_lt (Nat.lt_of_lt_of_le hb hlo0), hI.own b hb]; exact e
  have hh := hI.hrel F hM h0 hlt hi hSi hup hdown
  have hsnd := evV_snd hP hC hev hgood ht2 hh
  have hexec : execOp a2.eval o = execOp a'.eval o := execOp_congr o (evV_noSelect hev hgood) fun x hx => by
    cases x with
    | tmp t =>
      have hl : t ∈ looksA all o := by
        unfold looksA
        refine List.mem_append_right _ (List.mem_filterMap.2 ⟨.tmp t, by simpa using hx, rfl⟩)
      simp only [Act.eval, Array.getD_eq_getD_getElem?]
      rw [hlook' t hl]
    | _ => rfl
  have hwant : Region.wanted o (yielded ⟨all⟩ a2.tmps) = Region.wanted o (yielded ⟨all⟩ a'.tmps) := by
    unfold Region.wanted
    cases hg : o.guard with
    | none => rfl
    | some gw =>
      obtain ⟨g, want⟩ := gw
      show (yielded ⟨all⟩ a2.tmps g == some want) = (yielded ⟨all⟩ a'.tmps g == some want)
      rw [yielded_of fun p t hp hd => hlook' t ?_]
      unfold looksA
      refine List.mem_append_left _ (List.mem_append_left _ ?_)
      rw [hg]
      show t ∈ (match nth all g with | some p => p.dst.toList | none => [])
      rw [nth_eq, hp]
      simp [hd]
  rw [hwant, hexec] at hsnd
  -- behind it
  have hnext : ∀ (v' : Value) (w' : World) (κ' : Inj), AVRel κ' (st i).v v' → St (cut κ (st i).H.nxt) (st i).K w κ' (st i).E w' → K (a'.put o.dst v') w' := by
    intro v' w' κ' hv hst
    have hle := hI.glue_le (κ' := κ') F h0 hi hSi
    have hcut : ∀ m, (cut κ m).le (cut (glue κ κ' (st i).H.nxt (st i).E.nxt) m) := fun m c y e => by
      obtain ⟨h1, h2⟩ := cut_some e
      rw [cut_lt h1]; exact hle c y h2
    refine hK _ _ _ (hI.step F hM h0 hlt hi hSi hup hdown hst hS') ⟨by rw [put_size]; exact hA.size, by rw [put_defers']; exact hA.defers, fun j p t hp hS hd => ?_, fun t ht hn => ?_⟩
    · by_cases hji : j = i
      · subst hji
        rw [ho] at hp; cases hp
        have htn := dstsOk_spec hds ho hd
        rw [hd, put_getD_self (by rw [hA.size]; exact htn)]
        exact hv.mono (new_le F hi hst (Nat.le_refl _))
      · have hSj : S j = true := ((hS' j).1 hS).resolve_right hji
        rw [put_getD fun e => hji (dstsOnce_spec hO hp ho hd e)]
        exact (hA.hit j p t hp hSj hd).mono (hcut _)
    · rw [put_getD (hn i o ho ((hS' i).2 (.inr rfl)))]
      exact (hA.miss t ht fun j p hp hS => hn j p hp ((hS' j).2 (.inl hS))).mono (hcut _)
  unfold wpOp
  have ho' : (⟨all⟩ : Array Oper)[i]? = some o := by simpa using ho
  simp only [ho']
  split
  · rename_i hw
    rw [if_pos hw] at hsnd
    refine .inl ?_
    unfold Oper.wp
    refine hsnd.upon fun v' w' ⟨v, E, κ', hk, hv, hst⟩ => ?_
    have hk' : R.panic v ⟨.nil, [], .no⟩ E = .panic (st i).v T0 (st i).E := hk
    injection hk' with h1 h2 h3
    subst h1; subst h3
    exact hnext v' w' κ' hv hst
  · rename_i hw
    rw [if_neg hw] at hsnd
    have hk' : R.panic undefA ⟨.nil, [], .no⟩ (st i).K = .panic (st i).v T0 (st i).E := hsnd
    injection hk' with h1 h2 h3
    refine hnext undef w (cut κ (st i).H.nxt) (by rw [← h1]; exact undef_rel _) ?_
    rw [← h3]
    exact .refl hh
end
theorem cut_of_fresh {ι : Inj} {m : Nat} (h : ∀ b, m ≤ b → ι b = none) {k : Nat} (hk : m ≤ k) : ι.le (cut ι k) := fun b x e => by
  have hb : b < m := by
    rcases Nat.lt_or_ge b m with h' | h'
    · exact h'
    · rw [h b h'] at e; cases e
  rw [cut_lt (by omega)]; exact e
section
variable {P : Program} {n : Nat} {call : CallT} {all : List Oper} {bef : List Nat} {st : Nat → Stp} {rs : List DRec} (F : Facts P call all bef all.length st rs)
include F
/-- The log of the run in the written order. -/
theorem Facts.logs (hd : ∀ j, j < all.length → Done (st j)) : ∀ m, m ≤ all.length → ∃ l, (st m).H.log = l ++ (st 0).H.log ∧ (∀ b, b < (st 0).H.nxt → b ∉ l → (st m).H.m.get b = (st 0).H.m.get b) ∧ ∀ b ∈ l, b < (st m).H.nxt
  | 0, _ => ⟨[], rfl, fun _ _ _ => rfl, by simp⟩
  | m + 1, hm => by
    obtain ⟨l, h1, h2, h3⟩ := Facts.logs hd m (by omega)
    have hlo : (st 0).H.nxt ≤ (st m).H.nxt := F.lo_mono (Nat.zero_le m) (by omega)
    have hup := F.up m (by omega)
    have hn := F.hn m (by omega)
    have hD := hd m (by omega)
    obtain ⟨o, ho⟩ : ∃ o, all[m]? = some o := ⟨_, List.getElem?_eq_getElem (by omega)⟩
    rcases F.cs m (by omega) o ho with ⟨g1, g2, g3, g4, g5, g6⟩ | ⟨g1, g2, g3, g4, g5, g6⟩ | ⟨g1, g2, g3⟩ | ⟨rd, bb, g1, g2, g3, g4, g5, g6⟩
    · rw [g6]; exact ⟨l, h1, h2, h3⟩
    · rw [g6]; exact ⟨l, h1, h2, h3⟩
    · refine ⟨(st m).lg ++ l, by rw [g3, hD.log, g2, h1, List.append_assoc], fun b hb hl => ?_, fun b hb => ?_⟩
      · rw [List.mem_append, not_or] at hl
        rw [g3, hD.stay b (by rw [g2]; omega) hl.1, g2, h2 b hb hl.2]
      · rw [hn]
        rcases List.mem_append.1 hb with hb | hb
        · exact hD.lgs b hb
        · exact Nat.lt_of_lt_of_le (h3 b hb) hup
    · have hlg : (st m).lg = (st m).E.log := Stp.lg_nil g2
      refine ⟨(st m).E.log ++ l, by rw [g6]; show (st m).E.log ++ (st m).H.log = _; rw [h1, List.append_assoc], fun b hb hl => ?_, fun b hb => ?_⟩
      · rw [List.mem_append, not_or] at hl
        rw [g6, merged_get, if_neg, h2 b hb hl.2]
        rintro (h | h)
        · exact hl.1 h
        · omega
      · rw [hn]
        rcases List.mem_append.1 hb with hb | hb
        · exact hD.lgs b (by rw [hlg]; exact hb)
        · exact Nat.lt_of_lt_of_le (h3 b hb) hup
end
theorem count_false_set {l : List Bool} {i : Nat} (h : l[i]? = some false) : (l.set i true).count false + 1 = l.count false := by
  induction l generalizing i with
  | nil => simp at h
  | cons x l ih =>
    cases i with
    | zero => simp at h; subst h; simp
    | succ i =>
      simp at h
      have := ih h
      simp only [List.set_cons_succ, List.count_cons]
      omega
theorem drawn_snd {P : Program} {n : Nat} {call : CallT} (hP : ProgOk P) (hC : CallSnd P call) : DrawnSnd P n call := by
  intro id ops hok hds fuel T H k r h hr hrm ι a w ht hh Q hQ hN
  obtain ⟨all⟩ := ops
  have h' : evDrawn P (prepD P all (Region.before ⟨all⟩).toList all 0) call 0 [] T H k = r := by
    have h0 : plainFrame T (evDrawn P (prepD P all (Region.before ⟨all⟩).toList all 0) call 0 [] T H k) = r := h
    rwa [plainFrame_eq hrm] at h0
  generalize hbef : (Region.before ⟨all⟩).toList = bef at h'
  have hok' : (edgesOk all && dstsOnce all && tmpsOk all bef && modesOk (modesOf all bef) bef) = true := by rw [← hbef]; exact hok
  simp only [Bool.and_eq_true] at hok'
  obtain ⟨⟨⟨hE, hO⟩, hT⟩, hM⟩ := hok'
  have hds' : dstsOk n all = true := hds
  have hF0 : Facts P call all bef 0 (fun _ => ⟨T, H, H, H, undefA⟩) [] := ⟨fun i h => by omega, fun i h => by omega, fun i h => by omega, fun i h => by omega, fun i h => by omega, fun i h => by omega, fun i h => by omega⟩
  obtain ⟨st, rs, F, hT0, h0, hk⟩ := trace hr all 0 [] (fun _ => ⟨T, H, H, H, undefA⟩) rfl (Nat.zero_le _) hF0 h'
  have hT0 : (st 0).T = T := hT0
  have h0 : (st 0).H = H := h0
  have hlt : ∀ b x, H.m.get b = some x → b < H.nxt := fun b x e => hh.lt e
  -- what stands ahead
  have hedge : ∀ i o, all[i]? = some o → ∀ e ∈ o.after.toList, Region.binds .any e = true → e.on < i := by
    intro i o ho e he hb
    have hi : (o, i) ∈ all.zipIdx := by rw [List.mem_zipIdx_iff_getElem?]; exact ho
    have h1 := List.all_eq_true.1 (List.all_eq_true.1 hE _ hi) e he
    simp only [hb, Bool.not_true, Bool.false_or, succ_ble] at h1
    exact h1
  have hah : ∀ i j, ahead bef i j = Nat.testBit ((Region.before ⟨all⟩).getD i 0) j := by
    intro i j
    unfold ahead
    rw [nth_eq, ← hbef]
    simp
  have hspec := (before_spec all.length all rfl).2
  let Q' := Q
  have hmix : P.follows .mixedOrders = true := hP.mixed
  let w0 : World := { w with drawn := w.drawn + 1 }
  have hw0 : St ι H w ι H w0 := St.drawn hh rfl rfl rfl rfl
  refine wp_region_any hmix ?_
  show wpAny P .any ⟨all⟩ Q all.length (Array.replicate all.length false) a w0
  -- the end
  have hend : ∀ (S : Nat → Bool) κ w1 a1, (∀ j, j < all.length → S j = true) → Inv all.length st ι H w0 S κ w1 → TInv n all st H T a S κ a1 → Q .normal a1 w1 := by
    intro S κ w1 a1 hall hI hA
    have hd : ∀ j, j < all.length → Done (st j) := fun j hj => hI.done j hj (hall j hj)
    have hlo : H.nxt ≤ (st all.length).H.nxt := by rw [← h0]; exact F.lo_mono (Nat.zero_le _) (Nat.le_refl _)
    have hle : ι.le κ := fun b x e => by
      have hb : b < H.nxt := by
        rcases Nat.lt_or_ge b H.nxt with h | h
        · exact h
        · rw [hh.fresh b h] at e; cases e
      rw [hI.own b hb]; exact e
    have hov : ∀ b, (st all.length).H.m.get b = ov H st S all.length b := fun b => F.is_ov (fun j hj _ => hd j hj) h0 all.length (Nat.le_refl _) (fun j hj _ => hall j hj) (fun j hj _ _ _ => hall j hj)
    have hst : St ι H w0 κ (st all.length).H w1 := by
      refine ⟨hle, ⟨fun b o hb => ?_, fun c d p q x y hc hd' => ?_, fun b x c o y ex hx hc => ?_, hI.rod, fun b hb => ?_, hI.glob, Nat.le_trans hI.low hlo⟩, hI.size, hI.frame, fun b x e hx => hI.roh b x e hx, fun b o x hb hk => ?_, hI.os, hI.out, hI.tape, hlo, ?_, fun b hb => hI.own b hb, hI.nro⟩
      · rw [hov] at hb
        obtain ⟨x, o', h1, h2, h3⟩ := hI.get all.length (Nat.le_refl _) b o (fun j h1 h2 => by omega) hb
        exact ⟨x, o', h1, h2, h3.mono cut_le_self⟩
      · rw [hov] at hc hd'
        exact hI.sep c d p q x y hc hd'
      · rw [hov] at hc
        exact hI.ro b x c o y ex hx hc
      · cases hk : κ b with
        | none => rfl
        | some x =>
          rcases hI.inn b x hk with h1 | ⟨j, hj, _, h1, h2⟩
          · omega
          · have := F.hi_le hj (Nat.le_refl _); omega
      · rw [hov] at hb
        exact hI.img b o x hb hk
      · have := F.logs hd all.length (Nat.le_refl _)
        rw [h0] at this
        exact this
    refine hN (st all.length).T (st all.length).H κ a1 w1 hk ?_ ?_ (hw0.trans hst)
    · rw [(F.T_ds all.length (Nat.le_refl _)).2, hT0]; exact hrm
    · refine ⟨hA.size, fun t htn => ?_, fun t htn => ?_, ?_, hI.glob⟩
      · by_cases hw : ∃ (j : Nat) (p : Oper), all[j]? = some p ∧ p.dst = some t
        · obtain ⟨j, p, hp, hpd⟩ := hw
          have hj : j < all.length := (List.getElem?_eq_some_iff.1 hp).1
          have h1 := F.T_hit hO hp hpd (all.length - (j + 1)) (by omega)
          rw [show j + 1 + (all.length - (j + 1)) = all.length by omega] at h1
          rw [h1]
          exact (hA.hit j p t hp (hall j hj) hpd).mono cut_le_self
        · rw [F.T_miss (t := t) all.length (Nat.le_refl _) fun j hj p hp hd => hw ⟨j, p, hp, hd⟩, hT0]
          exact (hA.miss t htn fun j p hp _ hd => hw ⟨j, p, hp, hd⟩).mono cut_le_self
      · rw [F.T_miss (t := t) all.length (Nat.le_refl _) fun j hj p hp hd => absurd (dstsOk_spec hds' hp hd) (Nat.not_lt.2 htn), hT0]
        exact ht.out t htn
      · rw [(F.T_ds all.length (Nat.le_refl _)).1, hT0, hA.defers]
        exact ht.ds.mono hle
  -- one after the other
  have hmain : ∀ (f : Nat) (listed : Array Bool) κ a1 w1, listed.size = all.length → listed.toList.count false = f → (∀ j, listed.getD j false = true → ∀ m, ahead bef j m = true → listed.getD m false = true) →
      Inv all.length st ι H w0 (fun j => listed.getD j false) κ w1 → TInv n all st H T a (fun j => listed.getD j false) κ a1 → wpAny P .any ⟨all⟩ Q f listed a1 w1 := by
    intro f
    induction f with
    | zero =>
      intro listed κ a1 w1 hsz hc hcl hI hA
      have hall : ∀ j, j < all.length → listed.getD j false = true := by
        intro j hj
        have hj' : j < listed.size := by rw [hsz]; exact hj
        have : listed[j] ∈ listed.toList := by simp
        have h1 := List.count_eq_zero.1 hc
        cases hb : listed[j] with
        | true => simp [hj', hb]
        | false => rw [hb] at this; exact (h1 this).elim
      refine ⟨?_, hend _ κ w1 a1 hall hI hA⟩
      rw [List.eq_nil_iff_forall_not_mem]
      intro j hj
      obtain ⟨h1, o, ho, _⟩ := mem_ready.1 hj
      have hj' : j < all.length := by
        have := (Array.getElem?_eq_some_iff.1 ho).1
        simpa using this
      have h2 := hall j hj'
      have hj2 : j < listed.size := by rw [hsz]; exact hj'
      simp [hj2] at h1 h2
      rw [h1] at h2; cases h2
    | succ f ih =>
      intro listed κ a1 w1 hsz hc hcl hI hA
      refine ⟨fun hnil => ?_, fun i hir => ?_⟩
      · -- some operation is ready
        exfalso
        have hpos : 0 < listed.toList.count false := by omega
        have hmem := List.count_pos_iff.1 hpos
        have hex : ∃ j, j < all.length ∧ listed.getD j false = false := by
          obtain ⟨j, hj, he⟩ := List.getElem_of_mem hmem
          have hj' : j < listed.size := by simpa using hj
          refine ⟨j, by rw [← hsz]; exact hj', ?_⟩
          have : listed[j] = false := by simpa using he
          simp [hj', this]
        obtain ⟨j, ⟨hj, hjf⟩, hmin⟩ := exists_min hex
        have : j ∈ Region.ready .any ⟨all⟩ listed := by
          rw [mem_ready]
          have hj2 : j < listed.size := by rw [hsz]; exact hj
          refine ⟨by simpa [hj2] using hjf, all[j], by simp [hj], fun e he hb => ?_⟩
          have h1 := hedge j all[j] (List.getElem?_eq_getElem hj) e (by simpa using he) hb
          have h2 := hmin e.on h1
          cases h3 : listed.getD e.on false with
          | true => rfl
          | false => exact (h2 ⟨by omega, h3⟩).elim
        rw [hnil] at this
        cases this
      · obtain ⟨h1, o, ho, hrd⟩ := mem_ready.1 hir
        have ho' : all[i]? = some o := by simpa using ho
        have hi : i < all.length := (List.getElem?_eq_some_iff.1 ho').1
        have hi2 : i < listed.size := by rw [hsz]; exact hi
        have hSi : listed.getD i false = false := by simpa [hi2] using h1
        have hclose : ∀ j, ahead bef i j = true → listed.getD j false = true := by
          intro j hj
          rw [hah] at hj
          obtain ⟨e, he, hb, h2⟩ := hspec i o ho' (hedge i o ho') j hj
          have h3 := hrd e (by simpa using he) hb
          rcases h2 with h2 | h2
          · rw [← h2]; exact h3
          · exact hcl e.on h3 j (by rw [hah]; exact h2)
        refine drawn_step hP hC F hM hO hT hds' hI h0 hT0 hlt ht hh.fresh hi hSi (fun j _ hj => hclose j hj) (fun j hj hS => ?_) hA (S' := fun j => (listed.setIfInBounds i true).getD j false) (fun j => setD_true hi2) (fun κ' a2 w2 hI2 hA2 => ?_)
        · cases h2 : ahead bef j i with
          | false => rfl
          | true => have := hcl j hS i h2; rw [hSi] at this; cases this
        · refine ih _ κ' a2 w2 (by simpa using hsz) ?_ (fun j hj m hm => ?_) hI2 hA2
          · have h3 : listed.toList[i]? = some false := by
              rw [Array.getElem?_toList]
              have : listed[i] = false := by simpa [hi2] using hSi
              rw [Array.getElem?_eq_getElem hi2, this]
            have h4 := count_false_set h3
            have h5 : (listed.setIfInBounds i true).toList = listed.toList.set i true := by simp
            rw [h5]; omega
          · rw [setD_true hi2] at hj ⊢
            rcases hj with hj | hj
            · exact .inl (hcl j hj m hm)
            · subst hj; exact .inl (hclose m hm)
  -- the beginning
  have hrep : ∀ j, (Array.replicate all.length false).getD j false = false := by
    intro j
    simp only [Array.getD_eq_getD_getElem?, Array.getElem?_replicate]
    split <;> rfl
  have hov0 : ∀ m b, ov H st (fun j => (Array.replicate all.length false).getD j false) m b = H.m.get b := by
    intro m b
    exact (ov_skip' (Nat.zero_le m) fun j _ _ hS => by have := hrep j; rw [hS] at this; cases this)
  refine hmain all.length (Array.replicate all.length false) ι a w0 (by simp) (by simp) (fun j hj => by rw [hrep] at hj; cases hj) ?_ ?_
  · refine ⟨fun _ _ => rfl, hh.glob, hh.low, fun b x e => ?_, fun m hm b o _ hb => ?_, fun c d p q x y hc hd => ?_, fun b x c o y ex hx hc => ?_, hh.rod, fun _ _ _ _ => rfl, hh.nro, hh.fresh, (fun j _ hS => by rw [hrep] at hS; cases hS), Nat.le_refl _, fun _ _ _ => rfl, fun b o x hb e => ?_, rfl, rfl, rfl⟩
    · left
      rcases Nat.lt_or_ge b H.nxt with h | h
      · exact h
      · rw [hh.fresh b h] at e; cases e
    · rw [hov0] at hb
      obtain ⟨x, o', h1, h2, h3⟩ := hh.get b o hb
      refine ⟨x, o', h1, h2, h3.mono (cut_of_fresh hh.fresh ?_)⟩
      rw [← h0]; exact F.lo_mono (Nat.zero_le _) hm
    · rw [hov0] at hc hd
      exact hh.sep c d p q x y hc hd
    · rw [hov0] at hc
      exact hh.ro b x c o y ex hx hc
    · rw [hov0] at hb
      exact .inl ⟨b, o, x, hb, e, rfl⟩
  · exact ⟨ht.size, rfl, (fun j o t _ hS => by rw [hrep] at hS; cases hS), fun t htn _ => (ht.get t htn).mono (cut_of_fresh hh.fresh (Nat.le_refl _))⟩
/-- What the abstract evaluator computes the model computes. -/
theorem evaluator {P : Program} (hP : ProgOk P) {ovr : FuncId → Option (List AV → AH → Res)} (hO : ∀ f g, ovr f = some g → FnSnd P f g) (fuel depth : Nat) : CallSnd P (evCall P ovr fuel depth) :=
  evCall_snd hP (fun _ hC _ => drawn_snd hP hC) hO fuel depth
end Go.Ev
