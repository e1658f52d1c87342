import Derived.Test.YtmmfimkbcnfgfaaGreatEvLaw
import Derived.ChangeArms
/- Data that are read: how they lie in the abstract heap. -/
namespace Go.Ev

section
variable {H : Type}
abbrev LayT (H : Type) := TypeId → DataW H → Nat → Option (List AV × List AObj)
noncomputable def layL (g : LayT H) : List (TypeId × DataW H) → Nat → Option (List AV × List AObj)
  | [], _ => some ([], [])
  | x :: r, n => match g x.1 x.2 n with
    | some y => (match layL g r (Nat.add n (lenL y.2)) with | some z => some (y.1 ++ z.1, y.2 ++ z.2) | none => none)
    | none => none
variable (P : Program)
noncomputable def tiles : List Field → Nat → Nat → Bool
  | [], o, m => Nat.beq o m
  | f :: fs, o, m => Bool.rec false (tiles fs (Nat.add o (P.cellsOf f.type)) m) (Nat.beq f.offset o)
noncomputable def layD : Nat → LayT H
  | 0, _, _, _ => none
  | f + 1, t, d, n => match P.underlying t with
    | some .bool => (match d with | .lit (.bool b) => some ([.bool b], []) | _ => none)
    | some (.int k) => (match d with | .lit (.int _ m) => some ([.int k m], []) | _ => none)
    | some .string => (match d with | .lit (.string s) => some ([.str s], []) | _ => none)
    | some (.slice e) => (match d with
      | .nil => some ([.nil .slice], [])
      | .slice [] _ => some ([.hollow], [])
      | .slice (x :: xs) sp => (match (Bool.rec true (Nat.beq (P.cellsOf e) 0) (capKnown (Nat.add (lenL (x :: xs)) (lenL sp))) : Bool), layL (layD f) ((x :: xs).map fun x => (e, x)) n with
        | false, some y => some ([.slice (Nat.add n (lenL y.2)) 0 (lenL (x :: xs)) (Nat.add (lenL (x :: xs)) (lenL sp))], y.2 ++ [.cells y.1 e false])
        | _, _ => none)
      | _ => none)
    | some (.struct fs) => (match d with
      | .agg xs => (match Nat.beq (lenL xs) fs.size && tiles P fs.toList 0 (P.cellsOf t) with | true => layL (layD f) (fs.toList.zipWith (fun f x => (f.type, x)) xs) n | false => none)
      | _ => none)
    | some (.array m e) => (match d with
      | .agg xs => (match Nat.beq (P.cellsOf t) (Nat.mul m (P.cellsOf e)) with | true => layL (layD f) (xs.map fun x => (e, x)) n | false => none)
      | _ => none)
    | _ => none
end
/-- Cells and blocks that stand for values of the model's. -/
def Laid (w : World) (n : Nat) (l : List AV) (bs : List AObj) (cs : List Value) : Prop :=
  ∃ locs : List Loc, locs.length = bs.length ∧ (∀ x ∈ locs, x.ro = true ∧ x.1 < w.heap.size) ∧ ∀ κ : Inj, (∀ (i : Nat) (x : Loc), locs[i]? = some x → κ (n + i) = some x) →
    LRel κ l cs ∧ ∀ (i : Nat) (o : AObj) (x : Loc), bs[i]? = some o → locs[i]? = some x → ∃ o', w.heap[x.1]? = some o' ∧ ORel κ x o o'
theorem Laid.nil (w : World) (n : Nat) : Laid w n [] [] [] := ⟨[], rfl, by simp, fun κ _ => ⟨LRel.nil κ, by simp⟩⟩
theorem Laid.append {w : World} {n : Nat} {l m : List AV} {bs ds : List AObj} {cs es : List Value} (h : Laid w n l bs cs) (g : Laid w (n + bs.length) m ds es) : Laid w n (l ++ m) (bs ++ ds) (cs ++ es) := by
  obtain ⟨x, hx, hr, h⟩ := h
  obtain ⟨y, hy, gr, g⟩ := g
  refine ⟨x ++ y, by simp [hx, hy], fun z hz => ?_, fun κ hκ => ?_⟩
  · rcases List.mem_append.1 hz with hz | hz
    · exact hr z hz
    · exact gr z hz
  · obtain ⟨h1, h2⟩ := h κ fun i z hz => hκ i z (by rw [List.getElem?_append_left (List.getElem?_eq_some_iff.1 hz).1]; exact hz)
    obtain ⟨g1, g2⟩ := g κ fun i z hz => by
      have := hκ (x.length + i) z (by rw [List.getElem?_append_right (by omega)]; simpa using hz)
      rw [hx, ← Nat.add_assoc] at this; exact this
    refine ⟨h1.append g1, fun i o z ho hz => ?_⟩
    by_cases hi : i < bs.length
    · rw [List.getElem?_append_left hi] at ho
      rw [List.getElem?_append_left (by omega)] at hz
      exact h2 i o z ho hz
    · rw [List.getElem?_append_right (by omega)] at ho
      rw [List.getElem?_append_right (by omega), hx] at hz
      exact g2 _ o z ho hz
theorem Laid.one {w : World} {n : Nat} {v : AV} {c : Value} (h : ∀ κ, AVRel κ v c) : Laid w n [v] [] [c] := ⟨[], rfl, by simp, fun κ _ => ⟨LRel.cons (h κ) (LRel.nil κ), by simp⟩⟩
section
variable {H : Type} {enc : TypeId × Value → H} {P : Program} {w : World} {base : Nat} {spare : Nat → Bool} {held : Bool} {fuel m : Nat} {t : TypeId} {cs : List Value} {x : DataW H × List MemPlace}
theorem trod_array {e : TypeId} (ht : P.underlying t = some (.array m e)) (h : DataW.trod enc P w base spare held fuel t cs = some x) :
    ∃ (xs : List (DataW H × List MemPlace)) (n : Nat), fuel = n + 1 ∧ x = (.agg (xs.map (·.1)), xs.flatMap (·.2)) ∧ cs.length = P.cellsOf t ∧ xs.length = m ∧
      ∀ (i : Nat), i < m → DataW.trod enc P w base spare held n e ((cs.drop (i * P.cellsOf e)).take (P.cellsOf e)) = xs[i]? := by
  cases fuel with
  | zero => simp [DataW.trod] at h
  | succ n =>
    unfold DataW.trod at h
    rw [ht] at h
    split at h <;> simp_all
    obtain ⟨hl, xs, hp, hd⟩ := h
    exact ⟨xs, hd.symm, by simpa using mapM_some_length hp, fun i hi => mapM_some_get hp i i (by simp [hi])⟩
/-- What layD does of one datum. -/
def LaySnd (enc : TypeId × Value → H) (P : Program) (w : World) (base : Nat) (spare : Nat → Bool) (held : Bool) (g : LayT H) : Prop :=
  ∀ (fuel : Nat) (t : TypeId) (cs : List Value) (d : DataW H) (ps : List MemPlace) (n : Nat) (y : List AV × List AObj), DataW.trod enc P w base spare held fuel t cs = some (d, ps) → g t d n = some y → Laid w n y.1 y.2 cs
theorem layL_snd {g : LayT H} (hg : LaySnd enc P w base spare held g) : ∀ (items : List (TypeId × DataW H)) (css : List (List Value)) (n : Nat) (y : List AV × List AObj), items.length = css.length →
    (∀ (i : Nat) it c, items[i]? = some it → css[i]? = some c → ∃ fuel ps, DataW.trod enc P w base spare held fuel it.1 c = some (it.2, ps)) → layL g items n = some y → Laid w n y.1 y.2 css.flatten
  | [], [], n, y, _, _, h => by simp only [layL] at h; cases h; exact Laid.nil w n
  | [], _ :: _, _, _, hl, _, _ => by simp at hl
  | _ :: _, [], _, _, hl, _, _ => by simp at hl
  | it :: items, c :: css, n, y, hl, ht, h => by
    simp only [layL] at h
    split at h
    · rename_i y1 hy1
      split at h
      · rename_i z hz
        cases h
        obtain ⟨fuel, ps, h1⟩ := ht 0 it c rfl rfl
        rw [lenL_eq] at hz
        have h2 := hg fuel it.1 c it.2 ps n y1 h1 hy1
        have h3 := layL_snd hg items css (n + y1.2.length) z (by simpa using hl) (fun i it c hi hc => ht (i + 1) it c (by simpa using hi) (by simpa using hc)) hz
        rw [List.flatten_cons]
        exact h2.append h3
      · cases h
    · cases h
theorem tiles_flat : ∀ (fs : List Field) (o tot : Nat) (cs : List Value), tiles P fs o tot = true → cs.length = tot → (fs.map fun f => (cs.drop f.offset).take (P.cellsOf f.type)).flatten = cs.drop o
  | [], o, tot, cs, h, hl => by
    have h' : Nat.beq o tot = true := h
    rw [Nat.beq_eq] at h'
    subst h'; subst hl
    simp
  | f :: fs, o, tot, cs, h, hl => by
    have h' : (Bool.rec false (tiles P fs (Nat.add o (P.cellsOf f.type)) tot) (Nat.beq f.offset o) : Bool) = true := h
    cases hb : Nat.beq f.offset o with
    | false => rw [hb] at h'; cases h'
    | true =>
      rw [hb] at h'
      rw [Nat.beq_eq] at hb
      have ih := tiles_flat fs _ tot cs h' hl
      rw [List.map_cons, List.flatten_cons, ih, hb]
      show List.take (P.cellsOf f.type) (List.drop o cs) ++ List.drop (o + P.cellsOf f.type) cs = _
      rw [← List.drop_drop, List.take_append_drop]
theorem rows_flat (k : Nat) : ∀ (n : Nat) (cs : List Value), cs.length = n * k → ((List.range n).map fun i => (cs.drop (i * k)).take k).flatten = cs
  | 0, cs, h => by
    have : cs = [] := List.length_eq_zero_iff.1 (by simpa using h)
    subst this; rfl
  | n + 1, cs, h => by
    rw [List.range_succ_eq_map, List.map_cons, List.flatten_cons, List.map_map]
    have ih := rows_flat k n (cs.drop k) (by rw [List.length_drop, h, Nat.add_mul]; omega)
    have e : ((fun i => List.take k (List.drop (i * k) cs)) ∘ Nat.succ) = fun i => List.take k (List.drop (i * k) (cs.drop k)) := by
      funext i
      show List.take k (List.drop ((i + 1) * k) cs) = _
      rw [List.drop_drop]
      congr 2
      rw [Nat.add_mul]; omega
    rw [e, ih]
    simp
theorem flat_get {α : Type} {k : Nat} : ∀ {css : List (List α)}, (∀ c ∈ css, c.length = k) → ∀ (j : Nat) y, css.flatten[j]? = some y → ∃ i c q, css[i]? = some c ∧ c[q]? = some y ∧ q < k ∧ j = i * k + q
  | [], _, j, y, h => by simp at h
  | c :: css, hk, j, y, h => by
    rw [List.flatten_cons] at h
    have hc := hk c (by simp)
    by_cases hj : j < k
    · rw [List.getElem?_append_left (by omega)] at h
      exact ⟨0, c, j, rfl, h, hj, by simp⟩
    · rw [List.getElem?_append_right (by omega), hc] at h
      obtain ⟨i, c', q, h1, h2, h3, h4⟩ := flat_get (fun c hc => hk c (by simp [hc])) (j - k) y h
      exact ⟨i + 1, c', q, by simpa using h1, h2, h3, by rw [Nat.add_mul]; omega⟩
theorem cells?_get {a : Addr} {n : Nat} {l : List Value} (h : w.cells? base a n = some l) : l.length = n ∧ ∀ i, i < n → w.cell? (a.add i) = l[i]? := by
  unfold World.cells? at h
  split at h
  · exact ⟨by simpa using mapM_some_length h, fun i hi => mapM_some_get h i i (by simp [hi])⟩
  · cases h
theorem cell?_some {a : Addr} {v : Value} (h : w.cell? a = some v) : a.spot = none ∧ ∃ c e fz, w.heap[a.block]? = some (.cells c e fz) ∧ c[a.off]? = some v := by
  unfold World.cell? at h
  split at h
  · rename_i c e fz hc
    split at h
    · cases h
    · rename_i hs
      exact ⟨by cases hsp : a.spot <;> simp_all, c, e, fz, hc, h⟩
  · cases h
theorem add_block (a : Addr) (n : Nat) : (a.add n).block = a.block ∧ (a.add n).off = a.off + n := by
  unfold Addr.add
  split
  · rename_i h; subst h; exact ⟨rfl, rfl⟩
  · exact ⟨rfl, rfl⟩
theorem layD_snd (hspare : ∀ b, spare b = true) : ∀ (f : Nat), LaySnd enc P w base spare held (layD P f)
  | 0 => fun fuel t cs d ps n y _ h => by simp [layD] at h
  | f + 1 => fun fuel t cs d ps n y ht h => by
    have ih : LaySnd enc P w base spare held (layD P f) := layD_snd hspare f
    simp only [layD] at h
    split at h
    · rename_i hu
      obtain ⟨b, rfl, hd⟩ := DataW.trod_bool hu ht
      cases hd
      cases h
      exact Laid.one fun κ => .bool b
    · rename_i k hu
      obtain ⟨m, rfl, hd, _⟩ := DataW.trod_int hu ht
      cases hd
      cases h
      exact Laid.one fun κ => .int k m
    · rename_i hu
      obtain ⟨s, rfl, hd, _⟩ := DataW.trod_string hu ht
      cases hd
      cases h
      exact Laid.one fun κ => .str s.data.toList
    · rename_i e hu
      rcases DataW.trod_slice hu ht with ⟨rfl, hd⟩ | ⟨a, len, cap, elems, rest, k, rfl, rfl, hd, hbase, hlc, hcm, hel, hcell, hsp, hnsp⟩
      · cases hd
        cases h
        exact Laid.one fun κ => .nilSlice
      · cases hd
        cases elems with
        | nil =>
          cases h
          have : len = 0 := by simpa using hel.symm
          subst this
          exact Laid.one fun κ => .hollow a cap
        | cons e0 es =>
          simp only [List.map_cons] at h
          split at h
          · rename_i y1 hz hy1
            cases h
            have hcapk : capKnown (Nat.add (lenL (e0.1 :: es.map (·.1))) (lenL (rest.map (·.1)))) = true := by
              cases hk : capKnown (Nat.add (lenL (e0.1 :: es.map (·.1))) (lenL (rest.map (·.1)))) with
              | true => rfl
              | false => rw [hk] at hz; cases hz
            rw [hcapk] at hz
            have hm : P.cellsOf e ≠ 0 := fun h0 => by rw [h0] at hz; cases hz
            obtain ⟨hrl, _⟩ := hsp (hspare _)
            -- the elements' cells
            have hex : ∀ i, i < len → ∃ c el, w.cells? base (a.add (i * P.cellsOf e)) (P.cellsOf e) = some c ∧ (e0 :: es)[i]? = some el ∧ DataW.trod enc P w base spare held k e c = some el := by
              intro i hi
              have h1 := hcell i hi
              have hi' : i < (e0 :: es).length := by rw [hel]; exact hi
              rw [List.getElem?_eq_getElem hi', Option.bind_eq_some_iff] at h1
              obtain ⟨c, h2, h3⟩ := h1
              exact ⟨c, _, h2, List.getElem?_eq_getElem hi', h3⟩
            let css : List (List Value) := (List.range len).map fun i => (w.cells? base (a.add (i * P.cellsOf e)) (P.cellsOf e)).getD []
            have hcss : ∀ i c, css[i]? = some c → i < len ∧ w.cells? base (a.add (i * P.cellsOf e)) (P.cellsOf e) = some c := by
              intro i c hc
              have hi : i < len := by
                have := (List.getElem?_eq_some_iff.1 hc).1
                simpa [css] using this
              obtain ⟨c', el, h1, _, _⟩ := hex i hi
              have : css[i]? = some c' := by simp [css, hi, h1]
              rw [this] at hc; cases hc
              exact ⟨hi, h1⟩
            have hflat := layL_snd ih ((e, e0.1) :: (es.map (·.1)).map fun x => (e, x)) css n y1 (by simp [css, ← hel]) (fun i it c hi hc => by
              obtain ⟨hil, h1⟩ := hcss i c hc
              obtain ⟨c', el, h2, h3, h4⟩ := hex i hil
              rw [h1] at h2; cases h2
              have : it = (e, el.1) := by
                have h5 : ((e0 :: es).map fun x => (e, x.1))[i]? = some (e, el.1) := by rw [List.getElem?_map, h3]; rfl
                have h6 : ((e, e0.1) :: (es.map (·.1)).map fun x => (e, x)) = (e0 :: es).map fun x => (e, x.1) := by simp
                rw [h6, h5] at hi; exact (Option.some.inj hi).symm
              subst this
              exact ⟨k, el.2, h4⟩) hy1
            -- the block
            obtain ⟨c0, el0, h01, _, _⟩ := hex 0 (by rw [← hel]; simp)
            have h02 := (cells?_get h01).2 0 (by omega)
            have hl0 := (cells?_get h01).1
            rw [List.getElem?_eq_getElem (by omega)] at h02
            obtain ⟨hspot, cc, e', fz, hblk, _⟩ := cell?_some h02
            have hablk : (((a.add (0 * P.cellsOf e)).add 0)).block = a.block := by rw [(add_block _ _).1, (add_block _ _).1]
            rw [hablk] at hblk
            have haspot : a.spot = none := by
              have : (a.add (0 * P.cellsOf e)).add 0 = a := by simp [Addr.add]
              rw [this] at hspot; exact hspot
            obtain ⟨ablk, aoff, aspot⟩ := a
            simp only at haspot
            subst haspot
            obtain ⟨locs, hx, hr, hL⟩ := hflat
            refine ⟨locs ++ [⟨ablk, aoff, cc.size, true⟩], by simp [hx], fun z hz => ?_, fun κ hκ => ?_⟩
            · rcases List.mem_append.1 hz with hz | hz
              · exact hr z hz
              · have : z = ⟨ablk, aoff, cc.size, true⟩ := by simpa using hz
                subst this
                exact ⟨rfl, (Array.getElem?_eq_some_iff.1 hblk).1⟩
            · obtain ⟨g1, g2⟩ := hL κ fun i z hz => hκ i z (by rw [List.getElem?_append_left (List.getElem?_eq_some_iff.1 hz).1]; exact hz)
              have hself := hκ locs.length ⟨ablk, aoff, cc.size, true⟩ (by simp)
              rw [hx] at hself
              refine ⟨LRel.cons ?_ (LRel.nil κ), fun i o z ho hz => ?_⟩
              · have e1 : Nat.add n (lenL y1.2) = n + y1.2.length := by rw [lenL_eq]; rfl
                have e2 : Nat.add (lenL (e0.1 :: es.map (·.1))) (lenL (rest.map (·.1))) = cap := by
                  rw [lenL_eq, lenL_eq]
                  simp only [List.length_cons, List.length_map] at hel ⊢
                  show es.length + 1 + rest.length = cap
                  omega
                have e3 : lenL (e0.1 :: es.map (·.1)) = len := by rw [lenL_eq]; simpa using hel
                rw [e1, e2, e3]
                exact .slice hself (capOk_exact (by rw [e2] at hcapk; exact capKnown_iff.1 hcapk))
              · by_cases hi : i < y1.2.length
                · rw [List.getElem?_append_left hi] at ho
                  rw [List.getElem?_append_left (by omega)] at hz
                  exact g2 i o z ho hz
                · rw [List.getElem?_append_right (by omega)] at ho
                  rw [List.getElem?_append_right (by omega), hx] at hz
                  cases hd : i - y1.2.length with
                  | succ q => rw [hd] at ho; simp at ho
                  | zero =>
                    rw [hd] at ho hz
                    simp at ho hz
                    subst ho; subst hz
                    refine ⟨_, hblk, .cells rfl (fun j v hv => ?_) (fun e => by cases e) (fun e => by cases e)⟩
                    obtain ⟨y', hy', hvr⟩ := g1.get hv
                    refine ⟨y', ?_, hvr⟩
                    obtain ⟨i2, c2, q, h1, h2, h3, h4⟩ := flat_get (k := P.cellsOf e) (fun c hc => by
                      obtain ⟨j2, hj2⟩ := List.mem_iff_getElem?.1 hc
                      exact (cells?_get (hcss j2 c hj2).2).1) j y' hy'
                    have h5 := (cells?_get (hcss i2 c2 h1).2).2 q h3
                    rw [h2] at h5
                    obtain ⟨_, c3, e3, fz3, h6, h7⟩ := cell?_some h5
                    rw [(add_block _ _).1, (add_block _ _).1] at h6
                    rw [hblk] at h6; cases h6
                    rw [(add_block _ _).2, (add_block _ _).2] at h7
                    rw [← h7]
                    show cc[aoff + j]? = cc[aoff + i2 * P.cellsOf e + q]?
                    rw [h4, Nat.add_assoc]
          · cases h
    · rename_i fs hu
      obtain ⟨xs, k, rfl, hd, hcl, hxl, hfld⟩ := DataW.trod_struct hu ht
      cases hd
      simp only at h
      split at h
      · rename_i hb
        rw [Bool.and_eq_true] at hb
        have hflat := layL_snd ih (fs.toList.zipWith (fun f x => (f.type, x)) (xs.map (·.1))) (fs.toList.map fun f => (cs.drop f.offset).take (P.cellsOf f.type)) n y (by simp [hxl]) (fun i it c hi hc => by
          rw [List.getElem?_map, Option.map_eq_some_iff] at hc
          obtain ⟨fl, hf, rfl⟩ := hc
          have h1 := hfld i fl (by rw [← Array.getElem?_toList]; exact hf)
          have hi2 : i < xs.length := by
            have := (List.getElem?_eq_some_iff.1 hf).1
            rw [hxl]; simpa using this
          rw [List.getElem?_eq_getElem hi2] at h1
          rw [List.getElem?_zipWith, hf, List.getElem?_map, List.getElem?_eq_getElem hi2] at hi
          simp only [Option.map_some] at hi
          cases hi
          exact ⟨k, xs[i].2, h1⟩) h
        rw [tiles_flat fs.toList 0 _ cs hb.2 hcl] at hflat
        exact hflat
      · cases h
    · rename_i m e hu
      obtain ⟨xs, k, rfl, hd, hcl, hxl, hfld⟩ := trod_array hu ht
      cases hd
      simp only at h
      split at h
      · rename_i hb
        rw [Nat.beq_eq] at hb
        have hflat := layL_snd ih ((xs.map (·.1)).map fun x => (e, x)) ((List.range m).map fun i => (cs.drop (i * P.cellsOf e)).take (P.cellsOf e)) n y (by simp [hxl]) (fun i it c hi hc => by
          rw [List.getElem?_map, Option.map_eq_some_iff] at hc
          obtain ⟨i2, hf, rfl⟩ := hc
          have hi2 : i < m := by
            have := (List.getElem?_eq_some_iff.1 hf).1
            simpa using this
          rw [List.getElem?_range hi2] at hf
          cases hf
          have h1 := hfld i hi2
          have hi3 : i < xs.length := by omega
          rw [List.getElem?_eq_getElem hi3] at h1
          rw [List.getElem?_map, List.getElem?_map, List.getElem?_eq_getElem hi3] at hi
          simp only [Option.map_some] at hi
          cases hi
          exact ⟨k, xs[i].2, h1⟩) h
        rw [rows_flat (P.cellsOf e) m cs (hcl.trans hb)] at hflat
        exact hflat
      · cases h
    · cases h
end
end Go.Ev
