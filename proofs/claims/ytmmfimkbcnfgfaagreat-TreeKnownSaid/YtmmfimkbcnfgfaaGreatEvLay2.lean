import Derived.Test.YtmmfimkbcnfgfaaGreatEvLay
import GoSem.ClaimJoined
/- Data that are read, listed variables among them: the abstract heap in which a call begins. -/
namespace Go.Ev

/-- Package-level variables and values, with the blocks that they lead to. -/
def LaidG (w : World) (n : Nat) (gs : List (Nat × List AV)) (l : List AV) (bs : List AObj) (cs : List Value) : Prop :=
  ∃ locs : List Loc, locs.length = bs.length ∧ (∀ x ∈ locs, x.ro = true ∧ x.1 < w.heap.size) ∧ ∀ κ : Inj, (∀ (i : Nat) (x : Loc), locs[i]? = some x → κ (n + i) = some x) →
    LRel κ l cs ∧ (∀ (i : Nat) (o : AObj) (x : Loc), bs[i]? = some o → locs[i]? = some x → ∃ o', w.heap[x.1]? = some o' ∧ ORel κ x o o') ∧
    ∀ g c, (g, c) ∈ gs → g < gN ∧ ∃ cs' e' fz, w.heap[g]? = some (.cells cs' e' fz) ∧ LRel κ c cs'.toList
theorem LaidG.nil (w : World) (n : Nat) : LaidG w n [] [] [] [] := ⟨[], rfl, by simp, fun κ _ => ⟨LRel.nil κ, by simp, by simp⟩⟩
theorem LaidG.both {w : World} {n : Nat} {gs : List (Nat × List AV)} {l m : List AV} {bs ds : List AObj} {cs es : List Value} (h : LaidG w n gs l bs cs) (g : Laid w (n + bs.length) m ds es) :
    ∃ locs : List Loc, locs.length = (bs ++ ds).length ∧ (∀ x ∈ locs, x.ro = true ∧ x.1 < w.heap.size) ∧ ∀ κ : Inj, (∀ (i : Nat) (x : Loc), locs[i]? = some x → κ (n + i) = some x) →
      (LRel κ l cs ∧ LRel κ m es) ∧ (∀ (i : Nat) (o : AObj) (x : Loc), (bs ++ ds)[i]? = some o → locs[i]? = some x → ∃ o', w.heap[x.1]? = some o' ∧ ORel κ x o o') ∧
      ∀ g c, (g, c) ∈ gs → g < gN ∧ ∃ cs' e' fz, w.heap[g]? = some (.cells cs' e' fz) ∧ LRel κ c cs'.toList := by
  obtain ⟨x, hx, hr, h⟩ := h
  obtain ⟨y, hy, gr, g⟩ := g
  refine ⟨x ++ y, by simp [hx, hy], fun z hz => ?_, fun κ hκ => ?_⟩
  · rcases List.mem_append.1 hz with hz | hz
    · exact hr z hz
    · exact gr z hz
  · obtain ⟨h1, h2, h3⟩ := h κ fun i z hz => hκ i z (by rw [List.getElem?_append_left (List.getElem?_eq_some_iff.1 hz).1]; exact hz)
    obtain ⟨g1, g2⟩ := g κ fun i z hz => by
      have := hκ (x.length + i) z (by rw [List.getElem?_append_right (by omega)]; simpa using hz)
      rw [hx, ← Nat.add_assoc] at this; exact this
    refine ⟨⟨h1, g1⟩, fun i o z ho hz => ?_, h3⟩
    by_cases hi : i < bs.length
    · rw [List.getElem?_append_left hi] at ho
      rw [List.getElem?_append_left (by omega)] at hz
      exact h2 i o z ho hz
    · rw [List.getElem?_append_right (by omega)] at ho
      rw [List.getElem?_append_right (by omega), hx] at hz
      exact g2 _ o z ho hz
theorem LaidG.args {w : World} {n : Nat} {gs : List (Nat × List AV)} {l m : List AV} {bs ds : List AObj} {cs es : List Value} (h : LaidG w n gs l bs cs) (g : Laid w (n + bs.length) m ds es) :
    LaidG w n gs (l ++ m) (bs ++ ds) (cs ++ es) := by
  obtain ⟨locs, h1, h2, h3⟩ := h.both g
  exact ⟨locs, h1, h2, fun κ hκ => let ⟨⟨a, b⟩, c, d⟩ := h3 κ hκ; ⟨a.append b, c, d⟩⟩
theorem LaidG.var {w : World} {n : Nat} {gs : List (Nat × List AV)} {l m : List AV} {bs ds : List AObj} {cs : List Value} {g : Nat} {es : Array Value} {e' : TypeId} {fz : Nat × Nat} (h : LaidG w n gs l bs cs)
    (hg : g < gN) (hw : w.heap[g]? = some (.cells es e' fz)) (hm : Laid w (n + bs.length) m ds es.toList) : LaidG w n ((g, m) :: gs) l (bs ++ ds) cs := by
  obtain ⟨locs, h1, h2, h3⟩ := h.both hm
  refine ⟨locs, h1, h2, fun κ hκ => ?_⟩
  obtain ⟨⟨a, b⟩, c, d⟩ := h3 κ hκ
  refine ⟨a, c, fun g' c' hm' => ?_⟩
  rcases List.mem_cons.1 hm' with hm' | hm'
  · cases hm'
    exact ⟨hg, es, e', fz, hw, b⟩
  · exact d g' c' hm'
noncomputable def addB (bs : List AObj) : Nat → Tr AObj → Tr AObj := List.rec (motive := fun _ => Nat → Tr AObj → Tr AObj) (fun _ t => t) (fun o _ ih n t => ih (Nat.succ n) (t.upd n (some o))) bs
noncomputable def addG (gs : List (Nat × List AV)) : Tr AObj := List.rec (motive := fun _ => Tr AObj) .nil (fun x _ ih => ih.upd x.1 (some (.cells x.2 0 false))) gs
noncomputable def heapOf (gs : List (Nat × List AV)) (bs : List AObj) : AH := ⟨addB bs gN (addG gs), Nat.add gN (lenL bs), []⟩
theorem addB_get : ∀ (bs : List AObj) (n : Nat) (t : Tr AObj) (b : Nat), (addB bs n t).get b = if n ≤ b ∧ b < n + bs.length then bs[b - n]? else t.get b
  | [], n, t, b => by rw [if_neg (by simp)]; rfl
  | o :: bs, n, t, b => by
    show (addB bs (n + 1) (t.upd n (some o))).get b = _
    rw [addB_get bs, Tr.get_upd]
    by_cases h1 : b = n
    · subst h1
      rw [if_neg (by omega), if_pos rfl, if_pos (by simp)]
      simp
    · by_cases h2 : n + 1 ≤ b ∧ b < n + 1 + bs.length
      · rw [if_pos h2, if_pos (by simp; omega), show b - n = (b - (n + 1)) + 1 from by omega]
        simp
      · rw [if_neg h2, if_neg h1, if_neg (by simp; omega)]
theorem addG_get : ∀ (gs : List (Nat × List AV)) (b : Nat) (o : AObj), (addG gs).get b = some o → ∃ c, (b, c) ∈ gs ∧ o = .cells c 0 false
  | [], b, o, h => by
    have h' : (Tr.nil : Tr AObj).get b = some o := h
    rw [Tr.get_nil] at h'; cases h'
  | (g, c) :: gs, b, o, h => by
    have h' : ((addG gs).upd g (some (.cells c 0 false))).get b = some o := h
    rw [Tr.get_upd] at h'
    by_cases e : b = g
    · subst e
      rw [if_pos rfl] at h'; cases h'
      exact ⟨c, by simp, rfl⟩
    · rw [if_neg e] at h'
      obtain ⟨c', h1, h2⟩ := addG_get gs b o h'
      exact ⟨c', by simp [h1], h2⟩
open Classical in
/-- A call can begin so. -/
theorem HRel.of_laid {w : World} {gs : List (Nat × List AV)} {l : List AV} {bs : List AObj} {cs : List Value} (h : LaidG w gN gs l bs cs) : ∃ ι, HRel ι (heapOf gs bs) w ∧ LRel ι l cs ∧ ∀ b o x, (heapOf gs bs).m.get b = some o → ι b = some x → x.ro = true := by
  obtain ⟨locs, hl, hr, h⟩ := h
  let sz : Nat → Nat := fun b => match w.heap[b]? with | some (.cells c _ _) => c.size | _ => 0
  let ι : Inj := fun b => if b < gN then some ⟨b, 0, sz b, decide (∃ c, (b, c) ∈ gs)⟩ else locs[b - gN]?
  obtain ⟨h1, h2, h3⟩ := h ι fun i x hx => by
    show (if gN + i < gN then _ else _) = _
    rw [if_neg (by omega), Nat.add_sub_cancel_left]; exact hx
  have hnl : Nat.add gN (lenL bs) = gN + bs.length := by rw [lenL_eq]; rfl
  have hget : ∀ b o, (heapOf gs bs).m.get b = some o → ∃ x o', ι b = some x ∧ x.ro = true ∧ w.heap[x.1]? = some o' ∧ ORel ι x o o' := by
    intro b o hb
    have hb' : (addB bs gN (addG gs)).get b = some o := hb
    rw [addB_get] at hb'
    by_cases hin : gN ≤ b ∧ b < gN + bs.length
    · rw [if_pos hin] at hb'
      have hi : b - gN < locs.length := by omega
      have hx : locs[b - gN]? = some locs[b - gN] := List.getElem?_eq_getElem hi
      obtain ⟨o', hw, ho⟩ := h2 (b - gN) o _ hb' hx
      exact ⟨_, o', by show (if b < gN then _ else _) = _; rw [if_neg (by omega)]; exact hx, (hr _ (List.getElem_mem hi)).1, hw, ho⟩
    · rw [if_neg hin] at hb'
      obtain ⟨c, hm, rfl⟩ := addG_get gs b o hb'
      obtain ⟨hg, cs', e', fz, hw, hc⟩ := h3 b c hm
      refine ⟨⟨b, 0, sz b, decide (∃ c, (b, c) ∈ gs)⟩, _, if_pos hg, by simp only [decide_eq_true_eq]; exact ⟨c, hm⟩, hw, .cells ?_ (fun i v hi => ?_) (fun e => by cases e) (fun e => by cases e)⟩
      · show cs'.size = sz b
        simp only [sz, hw]
      · obtain ⟨y, hy, hyr⟩ := hc.get hi
        exact ⟨y, by rw [Nat.zero_add, ← Array.getElem?_toList]; exact hy, hyr⟩
  refine ⟨ι, ⟨fun b o hb => ?_, fun a b p q x y ha hb ex ey e => ?_, fun b x a o y ex hx ha ey e => ?_, fun b x e hx => ?_, fun b hb => ?_, fun g hg => ⟨_, _, if_pos hg⟩, ?_⟩, h1, fun b o x hb e => ?_⟩
  · obtain ⟨x, o', h4, _, h5, h6⟩ := hget b o hb
    exact ⟨x, o', h4, h5, h6⟩
  · obtain ⟨z, _, h4, h5, _⟩ := hget a p ha
    rw [ex] at h4; cases h4
    exact .inr h5
  · obtain ⟨z, _, h4, h5, _⟩ := hget a o ha
    rw [ey] at h4; cases h4
    exact h5
  · by_cases hb : b < gN
    · have e' : ι b = some ⟨b, 0, sz b, decide (∃ c, (b, c) ∈ gs)⟩ := if_pos hb
      rw [e'] at e; cases e
      simp only [decide_eq_true_eq] at hx
      obtain ⟨c, hc⟩ := hx
      obtain ⟨_, _, _, _, hw, _⟩ := h3 b c hc
      exact (Array.getElem?_eq_some_iff.1 hw).1
    · have e' : ι b = locs[b - gN]? := if_neg hb
      rw [e'] at e
      exact (hr x (List.mem_of_getElem? e)).2
  · have hb' : gN + bs.length ≤ b := by rw [← hnl]; exact hb
    show (if b < gN then _ else _) = none
    rw [if_neg (by omega), List.getElem?_eq_none (by omega)]
  · show gN ≤ Nat.add gN (lenL bs)
    rw [hnl]; omega
  · obtain ⟨z, _, h4, h5, _⟩ := hget b o hb
    rw [e] at h4; cases h4
    exact h5
section
variable (P : Program)
/-- The listed variables, laid. -/
noncomputable def layV (f : Nat) : List (String × DataW Unit) → List (Nat × List AV) → List AObj → Option (List (Nat × List AV) × List AObj)
  | [], gs, bs => some (gs, bs)
  | x :: r, gs, bs => match P.globalNamed x.1 with
    | some g => (match (P.globals[g]?).map (·.type), Nat.ble (Nat.succ g) gN with
      | some t, true => (match layD P f t x.2 (Nat.add gN (lenL bs)) with
        | some y => layV f r ((g, y.1) :: gs) (bs ++ y.2)
        | none => none)
      | _, _ => none)
    | none => none
variable {P}
theorem layV_snd {w : World} {f : Nat} : ∀ (laid : List (String × DataW Unit)) (ps : List MemPlace) (gs : List (Nat × List AV)) (bs : List AObj) (y : List (Nat × List AV) × List AObj), DataW.LaidVars P w laid ps → LaidG w gN gs [] bs [] → layV P f laid gs bs = some y → LaidG w gN y.1 [] y.2 []
  | [], ps, gs, bs, y, _, hg, h => by simp only [layV] at h; cases h; exact hg
  | x :: r, ps, gs, bs, y, hl, hg, h => by
    obtain ⟨nm, d⟩ := x
    obtain ⟨g, t, cs, fuel, p, q, h1, h2, h3, h4, h5, _⟩ := hl
    simp only [layV, h1, h2] at h
    split at h
    · rename_i t2 e1 e2
      cases e1
      split at h
      · rename_i z hz
        have hg' : g < gN := Nat.le_of_ble_eq_true e2
        have hw : ∃ e' fz, w.heap[g]? = some (.cells cs e' fz) := by
          unfold World.var? at h3
          rw [h1] at h3
          simp only [Option.bind_some] at h3
          split at h3
          · rename_i c e' fz hc; cases h3; exact ⟨e', fz, hc⟩
          · cases h3
        obtain ⟨e', fz, hw⟩ := hw
        rw [lenL_eq] at hz
        have hL := layD_snd (fun _ => rfl) f fuel t cs.toList d p (gN + bs.length) z h4 hz
        exact layV_snd r q _ _ y h5 (hg.var hg' hw hL) h
      · cases h
    · cases h
end
/-- Where a law without arguments begins that reads listed variables. -/
noncomputable def startV (P : Program) (f : Nat) (laid : List (String × DataW Unit)) : Option AH := match layV P f laid [] [] with
  | some y => some (heapOf y.1 y.2)
  | none => none
theorem startV_snd {P : Program} {f : Nat} {laid : List (String × DataW Unit)} {w : World} {H : AH} (h : startV P f laid = some H) (hL : laidMet P laid w) : ∃ ι, HRel ι H w ∧ ∀ b o x, H.m.get b = some o → ι b = some x → x.ro = true := by
  unfold startV at h
  split at h
  · rename_i y hy
    cases h
    obtain ⟨ps, hv, _⟩ := hL
    obtain ⟨ι, h1, _, h2⟩ := HRel.of_laid (layV_snd laid ps [] [] y hv (LaidG.nil w gN) hy)
    exact ⟨ι, h1, h2⟩
  · cases h
/-- All blocks that are there are read alone. -/
theorem HRel.still {ι κ : Inj} {H H' : AH} {w w' : World} (hr : ∀ b o x, H.m.get b = some o → ι b = some x → x.ro = true) (h : St ι H w κ H' w') (k : Nat) (hk : k < w.heap.size) : w'.heap[k]? = w.heap[k]? := by
  by_cases hx : ∃ b o x, H.m.get b = some o ∧ ι b = some x ∧ x.1 = k
  · obtain ⟨b, o, x, h1, h2, rfl⟩ := hx
    exact h.ro b x h2 (hr b o x h1 h2)
  · exact h.frame k hk fun b o x h1 h2 e => hx ⟨b, o, x, h1, h2, e⟩
open Go.RowKit Go.WideShapes Go.ChangeShapes in
/-- A law without arguments that reads listed variables, walked. -/
theorem law_listed {P : Program} {call : CallT} (hC : CallSnd P call) {f : FuncId} {n : Nat} {laid : List (String × DataW Unit)} {H0 : AH} (h0 : startV P n laid = some H0) (h : saysTrue (call f [] H0) = true) (w : World) (hL : laidMet P laid w) :
    Calls P f #[] w fun e w' => e = .returned (.bool true) ∧ Below w.heap.size w w' := by
  obtain ⟨H, hH⟩ := saysTrue_spec h
  obtain ⟨ι, hr, hro⟩ := startV_snd h0 hL
  have hg : (call f [] H0).Good := by rw [hH]; trivial
  refine (hC f [] H0 hg ι [] w (LRel.nil _) hr).2.mono fun e w' he => ?_
  rw [hH] at he
  cases e with
  | returned v =>
    obtain ⟨κ, hst, hv⟩ := he
    cases hv with
    | bool =>
    exact ⟨rfl, hst.os, hst.tape, hst.out, hst.size, fun k hk => HRel.still hro hst k hk⟩
  | _ => exact he.elim
end Go.Ev
