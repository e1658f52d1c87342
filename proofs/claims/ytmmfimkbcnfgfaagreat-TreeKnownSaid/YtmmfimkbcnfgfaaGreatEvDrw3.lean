import Derived.Test.YtmmfimkbcnfgfaaGreatEvDrw2
/- Regions whose order is drawn: what the abstract evaluator's run in the written order says of each operation. -/
namespace Go.Ev

section
variable {P : Program} {call : CallT}
theorem caught_good {q r : R} {k : AV → AH → R} (h : caught q k = r) (hr : r.Good) : ∃ v T E, q = .panic v T E ∧ k v E = r := by
  cases q with
  | ok e T H => exact bad_elim (w := "drawn") h hr
  | panic v T E => exact ⟨v, T, E, rfl, h⟩
  | fail l => have h' : R.fail l = r := h; subst h'; exact hr.elim
theorem rd_rec {rd x y : Bool} (h : (Bool.rec y x rd : Bool) = true) : (rd = true → x = true) ∧ (rd = false → y = true) := by cases rd <;> simp_all
/-- What one operation's run says. -/
theorem oneD_good {md : Md} {po : PO} {i : Nat} {T : Tm} {H : AH} {rs : List DRec} {kk : AV → AH → List DRec → R} {r : R} (h : oneD P md po call i T H rs kk = r) (hr : r.Good) :
    ∃ v T0 K E H' rs', kk v H' rs' = r ∧ evV P po call T K ret0 = .panic v T0 E ∧ K.nxt = H.nxt ∧ H'.nxt = E.nxt ∧ H.nxt ≤ E.nxt ∧
      ((md = .quiet ∧ K.m = .nil ∧ K.log = [] ∧ E.log = [] ∧ E.nxt = H.nxt ∧ H' = H ∧ rs' = rs) ∨
       (md = .reads ∧ K.m = H.m ∧ K.log = [] ∧ E.log = [] ∧ E.nxt = H.nxt ∧ H' = H ∧ rs' = rs) ∨
       (md = .more ∧ K = H ∧ H' = E ∧ rs' = rs) ∨
       (∃ rd b fp all, md = .apart rd b ∧ K.log = [] ∧ (∀ c o, K.m.get c = some o → H.m.get c = some o ∧ (∀ q ∈ unordered b rs, ¬ q.tch c) ∧ (all = false → c ∈ fp)) ∧ (rd = true → E.log = [] ∧ E.nxt = H.nxt) ∧
          writesOk H.nxt E.log (unordered b rs) = true ∧ H' = merged H E ∧ rs' = ⟨i, E.log, H.nxt, E.nxt, fp, all⟩ :: rs)) := by
  have hap : ∀ rd b fp all K, K.nxt = H.nxt → K.log = [] → (∀ c o, K.m.get c = some o → H.m.get c = some o ∧ (∀ q ∈ unordered b rs, ¬ q.tch c) ∧ (all = false → c ∈ fp)) → md = .apart rd b →
      oneApart P rd b po call i T H rs kk fp all K = r → ∃ v T0 K E H' rs', kk v H' rs' = r ∧ evV P po call T K ret0 = .panic v T0 E ∧ K.nxt = H.nxt ∧ H'.nxt = E.nxt ∧ H.nxt ≤ E.nxt ∧
      ((md = .quiet ∧ K.m = .nil ∧ K.log = [] ∧ E.log = [] ∧ E.nxt = H.nxt ∧ H' = H ∧ rs' = rs) ∨
       (md = .reads ∧ K.m = H.m ∧ K.log = [] ∧ E.log = [] ∧ E.nxt = H.nxt ∧ H' = H ∧ rs' = rs) ∨
       (md = .more ∧ K = H ∧ H' = E ∧ rs' = rs) ∨
       (∃ rd b fp all, md = .apart rd b ∧ K.log = [] ∧ (∀ c o, K.m.get c = some o → H.m.get c = some o ∧ (∀ q ∈ unordered b rs, ¬ q.tch c) ∧ (all = false → c ∈ fp)) ∧ (rd = true → E.log = [] ∧ E.nxt = H.nxt) ∧
          writesOk H.nxt E.log (unordered b rs) = true ∧ H' = merged H E ∧ rs' = ⟨i, E.log, H.nxt, E.nxt, fp, all⟩ :: rs)) := by
    intro rd b fp all K h1 h2 h3 hmd h
    obtain ⟨v, T0, E, he, h⟩ := caught_good h hr
    obtain ⟨h4, h⟩ := onB_good h hr
    obtain ⟨h5, h⟩ := onB_good h hr
    have h4' := rd_rec (x := still H.nxt E) (y := Nat.ble H.nxt E.nxt) h4
    have hle : H.nxt ≤ E.nxt := by
      cases rd with
      | true => rw [((still_iff _ _).1 (h4'.1 rfl)).2]; exact Nat.le_refl _
      | false => exact Nat.le_of_ble_eq_true (h4'.2 rfl)
    exact ⟨v, T0, K, E, merged H E, _, h, he, h1, rfl, hle, .inr (.inr (.inr ⟨rd, b, fp, all, hmd, h2, h3, fun e => (still_iff _ _).1 (h4'.1 e), h5, rfl, rfl⟩))⟩
  cases md with
  | quiet =>
    obtain ⟨v, T0, E, he, h⟩ := caught_good (q := evV P po call T ⟨.nil, H.nxt, []⟩ ret0) (k := fun v E => onB (still H.nxt E) (kk v H rs) (bad "drawn: not quiet")) h hr
    obtain ⟨h4, h⟩ := onB_good h hr
    have := (still_iff _ _).1 h4
    exact ⟨v, T0, _, E, H, rs, h, he, rfl, this.2.symm, Nat.le_of_eq this.2.symm, .inl ⟨rfl, rfl, rfl, this.1, this.2, rfl, rfl⟩⟩
  | reads =>
    obtain ⟨v, T0, E, he, h⟩ := caught_good (q := evV P po call T ⟨H.m, H.nxt, []⟩ ret0) (k := fun v E => onB (still H.nxt E) (kk v H rs) (bad "drawn: not only read")) h hr
    obtain ⟨h4, h⟩ := onB_good h hr
    have := (still_iff _ _).1 h4
    exact ⟨v, T0, _, E, H, rs, h, he, rfl, this.2.symm, Nat.le_of_eq this.2.symm, .inr (.inl ⟨rfl, rfl, rfl, this.1, this.2, rfl, rfl⟩)⟩
  | more =>
    obtain ⟨v, T0, E, he, h⟩ := caught_good (q := evV P po call T H ret0) (k := fun v E => onB (Nat.ble H.nxt E.nxt) (kk v E rs) (bad "drawn: names")) h hr
    obtain ⟨h4, h⟩ := onB_good h hr
    exact ⟨v, T0, H, E, E, rs, h, he, rfl, rfl, Nat.le_of_ble_eq_true h4, .inr (.inr (.inl ⟨rfl, rfl, rfl, rfl⟩))⟩
  | apart rd b =>
    have h' : (match footV po T with
      | some fp => onB (untouched fp (unordered b rs)) (oneApart P rd b po call i T H rs kk fp false (restrictTo H fp)) (bad "drawn: a read")
      | none => oneApart P rd b po call i T H rs kk [] true (minusR H (unordered b rs))) = r := h
    split at h'
    · rename_i fp hfp
      obtain ⟨h1, h2⟩ := onB_good h' hr
      rw [untouched_iff] at h1
      refine hap rd b fp false (restrictTo H fp) rfl rfl (fun c o hc => ?_) rfl h2
      rw [restrict_get] at hc
      split at hc
      · rename_i hm; exact ⟨hc, h1 c hm, fun _ => hm⟩
      · cases hc
    · refine hap rd b [] true (minusR H (unordered b rs)) rfl rfl (fun c o hc => ?_) rfl h'
      have hc' : (minusAll H.m (unordered b rs)).get c = some o := hc
      rw [minusAll_get] at hc'
      split at hc'
      · cases hc'
      · rename_i hn
        exact ⟨hc', fun q hq ht => hn ⟨q, hq, ht⟩, fun e => by cases e⟩
/-- What is held of an operation: the temporaries and the heap ahead of it, the heap that it was run on and left, its value. -/
structure Stp where
  T : Tm
  H : AH
  K : AH
  E : AH
  v : AV
def Stp.lg (s : Stp) : List Nat := s.E.log.take (s.E.log.length - s.K.log.length)
def Stp.tch (s : Stp) (b : Nat) : Prop := b ∈ s.lg ∨ (s.H.nxt ≤ b ∧ b < s.E.nxt)
theorem Stp.lg_nil {s : Stp} (h : s.K.log = []) : s.lg = s.E.log := by unfold Stp.lg; rw [h]; simp
noncomputable def putTm (d : Option Tmp) (v : AV) (T : Tm) : Tm := match d with | none => T | some d => ⟨T.t.upd d (some v), T.ds, T.rm⟩
theorem putD_eq (d : Option Tmp) (v : AV) (T : Tm) (k : Tm → R) : putD (pdOf d) v T k = k (putTm d v T) := by
  cases d with
  | none => rfl
  | some d =>
    obtain ⟨t, ds, rm⟩ := T
    show k ⟨t.updP (pathOf d) (some v), ds, rm⟩ = _
    rw [Fr.updP_pathOf]; rfl
/-- Whether the one stands ahead of the other. -/
noncomputable def ahead (bef : List Nat) (i j : Nat) : Bool := Nat.testBit ((nth bef i).getD 0) j
variable (P call)
/-- What the run in the written order says of the first m operations. -/
structure Facts (all : List Oper) (bef : List Nat) (m : Nat) (st : Nat → Stp) (rs : List DRec) : Prop where
  ev : ∀ i, i < m → ∀ o, all[i]? = some o → ∃ T0, evV P (prep P all o) call (erasedT (st i).T (delOf all bef i)) (st i).K ret0 = .panic (st i).v T0 (st i).E
  tm : ∀ i, i < m → ∀ o, all[i]? = some o → (st (i + 1)).T = putTm o.dst (st i).v (st i).T
  kn : ∀ i, i < m → (st i).K.nxt = (st i).H.nxt
  hn : ∀ i, i < m → (st (i + 1)).H.nxt = (st i).E.nxt
  up : ∀ i, i < m → (st i).H.nxt ≤ (st i).E.nxt
  cs : ∀ i, i < m → ∀ o, all[i]? = some o →
    ((modeOf all bef o i = .quiet ∧ (st i).K.m = .nil ∧ (st i).K.log = [] ∧ (st i).E.log = [] ∧ (st i).E.nxt = (st i).H.nxt ∧ (st (i + 1)).H = (st i).H) ∨
     (modeOf all bef o i = .reads ∧ (st i).K.m = (st i).H.m ∧ (st i).K.log = [] ∧ (st i).E.log = [] ∧ (st i).E.nxt = (st i).H.nxt ∧ (st (i + 1)).H = (st i).H) ∨
     (modeOf all bef o i = .more ∧ (st i).K = (st i).H ∧ (st (i + 1)).H = (st i).E) ∨
     (∃ rd b, modeOf all bef o i = .apart rd b ∧ (st i).K.log = [] ∧
        (∀ c x, (st i).K.m.get c = some x → (st i).H.m.get c = some x ∧ ∀ j, j < i → Nat.testBit b j = false → ∀ p q e, all[j]? = some p → modeOf all bef p j = .apart q e → ¬ (st j).tch c) ∧
        (rd = true → (st i).E.log = [] ∧ (st i).E.nxt = (st i).H.nxt) ∧
        (∀ c, c ∈ (st i).E.log → ∀ j, j < i → Nat.testBit b j = false → ∀ p q e, all[j]? = some p → modeOf all bef p j = .apart q e → ¬ (st j).tch c ∧ ((st j).K.m.get c = none ∨ (st i).H.nxt ≤ c)) ∧
        (st (i + 1)).H = merged (st i).H (st i).E))
  rc : ∀ j, j < m → ∀ o rd b, all[j]? = some o → modeOf all bef o j = .apart rd b → ∃ r ∈ rs, r.i = j ∧ (∀ c, r.tch c ↔ (st j).tch c) ∧ (∀ c x, (st j).K.m.get c = some x → r.all = false → c ∈ r.fp)
variable {P call}
theorem trace {all : List Oper} {bef : List Nat} {k : Tm → AH → R} {r : R} (hr : r.Good) : ∀ (rest : List Oper) (i : Nat) (rs : List DRec) (st : Nat → Stp), all.drop i = rest → i ≤ all.length → Facts P call all bef i st rs →
    evDrawn P (prepD P all bef rest i) call i rs (st i).T (st i).H k = r →
    ∃ st' rs', Facts P call all bef all.length st' rs' ∧ (st' 0).T = (st 0).T ∧ (st' 0).H = (st 0).H ∧ k (st' all.length).T (st' all.length).H = r
  | [], i, rs, st, hd, hi, hF, h => by
    have : i = all.length := by
      have := List.drop_eq_nil_iff.1 hd
      omega
    subst this
    exact ⟨st, rs, hF, rfl, rfl, h⟩
  | o :: rest, i, rs, st, hd, hi, hF, h => by
    have hoi : all[i]? = some o := by
      have h1 : (all.drop i)[0]? = some o := by rw [hd]; rfl
      rw [List.getElem?_drop] at h1
      simpa using h1
    have hlt : i < all.length := by
      rcases Nat.lt_or_ge i all.length with h' | h'
      · exact h'
      · rw [List.getElem?_eq_none h'] at hoi; cases hoi
    have hd' : all.drop (i + 1) = rest := by rw [← List.drop_drop, hd]; rfl
    have h' : oneD P (modeOf all bef o i) (prep P all o) call i (erasedT (st i).T (delOf all bef i)) (st i).H rs (fun v H rs => putD (pdOf o.dst) v (st i).T fun T => evDrawn P (prepD P all bef rest (i + 1)) call (i + 1) rs T H k) = r := h
    obtain ⟨v, T0, K, E, H', rs', hk, hev, hkn, hhn, hup, hcs⟩ := oneD_good h' hr
    rw [putD_eq] at hk
    let st2 : Nat → Stp := fun j => if j = i then ⟨(st i).T, (st i).H, K, E, v⟩ else if j = i + 1 then ⟨putTm o.dst v (st i).T, H', H', H', v⟩ else st j
    have hs : ∀ j, j < i → st2 j = st j := fun j hj => by
      show (if j = i then _ else _) = _
      rw [if_neg (by omega), if_neg (by omega)]
    have hsi : st2 i = ⟨(st i).T, (st i).H, K, E, v⟩ := if_pos rfl
    have hs1 : st2 (i + 1) = ⟨putTm o.dst v (st i).T, H', H', H', v⟩ := by
      show (if i + 1 = i then _ else _) = _
      rw [if_neg (by omega), if_pos rfl]
    have hT : ∀ j, j ≤ i → (st2 j).T = (st j).T ∧ (st2 j).H = (st j).H := fun j hj => by
      by_cases e : j = i
      · subst e; rw [hsi]; exact ⟨rfl, rfl⟩
      · rw [hs j (by omega)]; exact ⟨rfl, rfl⟩
    have hcase : ∀ {p : Nat → Prop}, (∀ j, j < i → p j) → p i → ∀ j, j < i + 1 → p j := fun h1 h2 j hj => by
      rcases Nat.lt_or_ge j i with h | h
      · exact h1 j h
      · have : j = i := by omega
        subst this; exact h2
    have hF2 : Facts P call all bef (i + 1) st2 rs' := by
      refine ⟨hcase (fun j hj o' ho' => ?_) (fun o' ho' => ?_), hcase (fun j hj o' ho' => ?_) (fun o' ho' => ?_), hcase (fun j hj => ?_) ?_, hcase (fun j hj => ?_) ?_, hcase (fun j hj => ?_) ?_, hcase (fun j hj o' ho' => ?_) (fun o' ho' => ?_), hcase (fun j hj o' rd b ho' hm => ?_) (fun o' rd b ho' hm => ?_)⟩
      · rw [hs j hj]; exact hF.ev j hj o' ho'
      · rw [hoi] at ho'; cases ho'; rw [hsi]; exact ⟨T0, hev⟩
      · rw [(hT (j + 1) (by omega)).1, hs j hj]; exact hF.tm j hj o' ho'
      · rw [hoi] at ho'; cases ho'; rw [hs1, hsi]
      · rw [hs j hj]; exact hF.kn j hj
      · rw [hsi]; exact hkn
      · rw [(hT (j + 1) (by omega)).2, hs j hj]; exact hF.hn j hj
      · rw [hs1, hsi]; exact hhn
      · rw [hs j hj]; exact hF.up j hj
      · rw [hsi]; exact hup
      · have := hF.cs j hj o' ho'
        rw [(hT (j + 1) (by omega)).2, hs j hj]
        rcases this with h | h | h | ⟨rd, b, h1, h2, h3, h4, h5, h6⟩
        · exact .inl h
        · exact .inr (.inl h)
        · exact .inr (.inr (.inl h))
        · exact .inr (.inr (.inr ⟨rd, b, h1, h2, fun c x hc => ⟨(h3 c x hc).1, fun l hl hb p q e hp hm => by rw [hs l (by omega)]; exact (h3 c x hc).2 l hl hb p q e hp hm⟩, h4,
            fun c hc l hl hb p q e hp hm => by rw [hs l (by omega)]; exact h5 c hc l hl hb p q e hp hm, h6⟩))
      · rw [hoi] at ho'; cases ho'
        rw [hs1, hsi]
        rcases hcs with ⟨h1, h2, h3, h4, h5, h6, h7⟩ | ⟨h1, h2, h3, h4, h5, h6, h7⟩ | ⟨h1, h2, h3, h4⟩ | ⟨rd, b, fp, al, h1, h2, h3, h4, h5, h6, h7⟩
        · exact .inl ⟨h1, h2, h3, h4, h5, h6⟩
        · exact .inr (.inl ⟨h1, h2, h3, h4, h5, h6⟩)
        · exact .inr (.inr (.inl ⟨h1, h2, h3⟩))
        · rw [writesOk_iff] at h5
          refine .inr (.inr (.inr ⟨rd, b, h1, h2, fun c x hc => ⟨(h3 c x hc).1, fun l hl hb p q e hp hm => ?_⟩, h4, fun c hc l hl hb p q e hp hm => ?_, h6⟩))
          · obtain ⟨rr, hrr, hri, hrt, _⟩ := hF.rc l hl p q e hp hm
            rw [hs l hl, ← hrt c]
            exact (h3 c x hc).2.1 rr ((unordered_mem b rr rs).2 ⟨hrr, by rw [hri]; exact hb⟩)
          · obtain ⟨rr, hrr, hri, hrt, hrf⟩ := hF.rc l hl p q e hp hm
            have hun := (unordered_mem b rr rs).2 ⟨hrr, by rw [hri]; exact hb⟩
            obtain ⟨h8, h9⟩ := h5 c hc
            rw [hs l hl, ← hrt c]
            refine ⟨h9 rr hun, ?_⟩
            cases hal : rr.all with
            | true => exact .inr ((h8 rr hun).1 hal)
            | false =>
              left
              cases hg : (st l).K.m.get c with
              | none => rfl
              | some x => exact ((h8 rr hun).2 hal (hrf c x hg hal)).elim
      · rw [hs j hj]
        obtain ⟨rr, hrr, h⟩ := hF.rc j hj o' rd b ho' hm
        refine ⟨rr, ?_, h⟩
        rcases hcs with ⟨_, _, _, _, _, _, h7⟩ | ⟨_, _, _, _, _, _, h7⟩ | ⟨_, _, _, h7⟩ | ⟨_, _, _, _, _, _, _, _, _, _, h7⟩
        · rw [h7]; exact hrr
        · rw [h7]; exact hrr
        · rw [h7]; exact hrr
        · rw [h7]; exact List.mem_cons_of_mem _ hrr
      · rw [hoi] at ho'; cases ho'
        rw [hsi]
        rcases hcs with ⟨h1, _⟩ | ⟨h1, _⟩ | ⟨h1, _⟩ | ⟨rd', b', fp, al, h1, h2, h3, h4, h5, h6, h7⟩
        · rw [h1] at hm; cases hm
        · rw [h1] at hm; cases hm
        · rw [h1] at hm; cases hm
        · rw [h7]
          refine ⟨_, List.mem_cons_self .., rfl, fun c => ?_, fun c x hc hal => (h3 c x hc).2.2 hal⟩
          have : (⟨(st i).T, (st i).H, K, E, v⟩ : Stp).lg = E.log := Stp.lg_nil h2
          unfold DRec.tch Stp.tch
          rw [this]
    have h2 : evDrawn P (prepD P all bef rest (i + 1)) call (i + 1) rs' (st2 (i + 1)).T (st2 (i + 1)).H k = r := by rw [hs1]; exact hk
    obtain ⟨st', rs2, h3, h4, h5, h6⟩ := trace hr rest (i + 1) rs' st2 hd' (by omega) hF2 h2
    exact ⟨st', rs2, h3, h4.trans (hT 0 (by omega)).1, h5.trans (hT 0 (by omega)).2, h6⟩
end
end Go.Ev
