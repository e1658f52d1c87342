import Derived.Test.YtmmfimkbcnfgfaaGreatEvSnd9
/- Every operation that the abstract evaluator knows does what the model's does. -/
namespace Go.Ev

section
variable {P : Program} {o : Oper}
theorem pxs_two : ∀ {l : List Operand} {a b : PX}, pxs l = [a, b] → ∃ x y, l = [x, y] ∧ a = px x ∧ b = px y
  | [], _, _, h => by simp [pxs] at h
  | [x], _, _, h => by simp [pxs] at h
  | [x, y], _, _, h => by simp [pxs] at h; exact ⟨x, y, rfl, h.1.symm, h.2.symm⟩
  | x :: y :: z :: l, _, _, h => by simp [pxs] at h
theorem pxs_one : ∀ {l : List Operand} {a : PX}, pxs l = [a] → ∃ x, l = [x] ∧ a = px x
  | [], _, h => by simp [pxs] at h
  | [x], _, h => by simp [pxs] at h; exact ⟨x, rfl, h.symm⟩
  | x :: y :: l, _, h => by simp [pxs] at h
theorem beq_of {a b : Nat} (h : Nat.beq a b = true) : a = b := by rwa [Nat.beq_eq] at h
theorem lenL_beq {α : Type} {l : List α} {n : Nat} (h : Nat.beq (lenL l) n = true) : l.length = n := by rw [← lenL_eq]; exact beq_of h
theorem builtinF_snd {s : String} {b : Builtin} {ts : List TypeId} {as : List Operand} {f : F} (h : builtinF P s b ts (pxs as) = some f) (ho : o.op = .call ⟨.builtin b, ⟨as⟩, ⟨ts⟩⟩) : OpSnd P f o := by
  unfold builtinF at h
  split at h
  · rename_i t u x' y' hpx
    obtain ⟨x, y, rfl, rfl, rfl⟩ := pxs_two hpx
    split at h
    · cases h
    · rename_i e d hnot hu hd
      split at h
      · rename_i i hi
        split at h
        · rename_i z hz
          split at h
          · rename_i hb
            cases h
            exact snd_append ho hu ⟨d, hd, fun k e => hnot k e⟩ hi hz (lenL_beq hb)
          · cases h
        · cases h
      · cases h
    · cases h
  · rename_i t ts' x' y' hpx
    obtain ⟨x, y, rfl, rfl, rfl⟩ := pxs_two hpx
    split at h
    · rename_i e hu
      split at h
      · rename_i n hz
        cases h
        exact snd_copy ho hu hz
      · cases h
    · cases h
  · rename_i t x' hpx
    obtain ⟨x, rfl, rfl⟩ := pxs_one hpx
    split at h
    · rename_i hu; cases h; exact snd_lenStr ho hu
    · rename_i e hu; cases h; exact snd_lenSl ho hu
    · rename_i n e hu; cases h; exact snd_lenArr ho (.inl ⟨e, hu⟩)
    · rename_i kt e hu; cases h; exact snd_lenMap ho hu
    · rename_i p hu
      split at h
      · rename_i n e hp; cases h; exact snd_lenArr ho (.inr ⟨p, e, hu, hp⟩)
      · cases h
    · cases h
  · rename_i t x' hpx
    obtain ⟨x, rfl, rfl⟩ := pxs_one hpx
    split at h
    · rename_i e hu; cases h; exact snd_cap ho hu
    · cases h
  · rename_i t x' hpx
    obtain ⟨x, rfl, rfl⟩ := pxs_one hpx
    split at h
    · rename_i e hu
      split at h
      · rename_i z hz; cases h; exact snd_clear ho hu hz
      · cases h
    · cases h
  · rename_i t ts' x' y' hpx
    obtain ⟨x, y, rfl, rfl, rfl⟩ := pxs_two hpx
    split at h
    · rename_i kt e hu
      split at h
      · rename_i hp; cases h; exact snd_delete ho hu hp
      · cases h
    · cases h
  · rename_i ts' x' y' hpx
    obtain ⟨x, y, rfl, rfl, rfl⟩ := pxs_two hpx
    cases h
    exact snd_min (mx := false) ho
  · rename_i ts' x' y' hpx
    obtain ⟨x, y, rfl, rfl, rfl⟩ := pxs_two hpx
    cases h
    exact snd_min (mx := true) ho
  · cases h
theorem binOpF_snd {s : String} {op : BinOp} {t u : TypeId} {x y : Operand} {f : F} (h : binOpF P s op t (isK x || isK y) (px x) (px y) = some f) (ho : o.op = .binOp op t x y u) : OpSnd P f o := by
  unfold binOpF at h
  split at h
  · split at h
    · cases h; exact snd_shl ho
    · cases h; exact snd_shr ho
    · split at h
      · rename_i f' hf; cases h; exact snd_binInt ho hf
      · cases h
  · cases h; exact snd_binStr ho
  · rename_i d hni hns hd
    have h1 : ∀ k, P.underlying t ≠ some (.int k) := fun k e => by rw [hd] at e; exact hni k (Option.some.inj e)
    have h2 : P.underlying t ≠ some .string := fun e => by rw [hd] at e; exact hns (Option.some.inj e)
    split at h
    · split at h
      · rename_i hst; cases h; exact snd_eq ho (.inl ⟨rfl, rfl⟩) h1 h2 hst
      · cases h
    · split at h
      · rename_i hst; cases h; exact snd_eq ho (.inr ⟨rfl, rfl⟩) h1 h2 hst
      · cases h
    · cases h
  · cases h
theorem unOpF_snd {s : String} {op : UnOp} {t : TypeId} {x : Operand} {f : F} (h : unOpF s op (px x) = some f) (ho : o.op = .unOp op t x) : OpSnd P f o := by
  unfold unOpF at h
  split at h
  · cases h; exact snd_not ho
  · cases h; exact snd_neg ho
  · cases h; exact snd_com ho
  · cases h
theorem convertF_snd {s : String} {src dst : TypeId} {x : Operand} {f : F} (h : convertF P s src dst (px x) = some f) (ho : o.op = .convert src dst x) : OpSnd P f o := by
  unfold convertF at h
  split at h
  · rename_i j k hs hd; cases h; exact snd_convInt ho hs hd
  · rename_i hs hd; cases h; exact snd_convStr ho hs hd
  · rename_i e hs hd
    split at h
    · rename_i he; cases h; exact snd_strBytes ho hs hd he
    · cases h
  · rename_i e hs hd
    split at h
    · rename_i he; cases h; exact snd_bytesStr ho hs hd he
    · cases h
  · rename_i e1 e hs hd
    split at h
    · rename_i hb he
      rw [Nat.beq_eq] at hb
      subst hb
      cases h; exact snd_bytes ho hs hd he
    · cases h
  · cases h
theorem sliceF_snd {s : String} {t : TypeId} {x : Operand} {lo hi mx : Option Operand} {f : F} (h : sliceF P s t (px x) (optX lo) (optX hi) (optX mx) = some f) (ho : o.op = .slice t x lo hi mx) : OpSnd P f o := by
  unfold sliceF at h
  split at h
  · rename_i hu
    split at h
    · rename_i hm
      cases mx with
      | none => cases h; exact snd_sliceStr ho hu
      | some y => simp [optX] at hm
    · cases h
  · rename_i e hu
    split at h
    · rename_i n hz; cases h; exact snd_sliceSl ho hu hz
    · cases h
  · rename_i n e hu
    split at h
    · rename_i m hz hm hb
      have hle := Nat.le_of_ble_eq_true hb
      cases mx with
      | none => cases h; exact snd_sliceArr ho hu hz (by omega)
      | some y => simp [optX] at hm
    · cases h
  · cases h
theorem opF_snd {s : String} {op : Op} {f : F} (h : opF P s op = some f) (ho : o.op = op) : OpSnd P f o := by
  unfold opF at h
  split at h
  · cases h; exact snd_move (.inl ho)
  · cases h; exact snd_move (.inr ho)
  · cases h; exact snd_pick ho
  · split at h
    · rename_i z hz; cases h; exact snd_alloc ho hz
    · cases h
  · cases h; exact snd_box ho
  · rename_i t ps
    split at h
    · rename_i z fs hz hu
      split at h
      · rename_i hall
        cases h
        refine snd_buildStruct ho hz hu fun f hf => ?_
        have := List.all_eq_true.1 hall f hf
        exact Option.isSome_iff_exists.1 this
      · cases h
    · rename_i z n e hz hu
      split at h
      · rename_i m hm; cases h; exact snd_buildArr ho hz hu hm
      · cases h
    · cases h
  · rename_i t len ps
    split at h
    · rename_i e hu
      split at h
      · rename_i n z hs hz hl
        split at h
        · rename_i hb
          rw [Bool.and_eq_true] at hb
          cases h
          exact snd_buildSlice ho hu hs hz (Nat.le_of_ble_eq_true hl) (Nat.le_of_ble_eq_true hb.1) (lenL_beq hb.2)
        · cases h
      · cases h
    · cases h
  · split at h
    · rename_i hs; cases h; exact snd_load1 ho hs
    · rename_i n hs; cases h; exact snd_loadN ho hs
    · cases h
  · split at h
    · rename_i hs hz; cases h; exact snd_store1 ho hz
    · rename_i n hs; cases h; exact snd_storeN ho hs
    · cases h
  · cases h; exact snd_nilCheck ho
  · exact binOpF_snd h ho
  · exact unOpF_snd h ho
  · exact convertF_snd h ho
  · split at h
    · cases h
    · rename_i d hni hu; cases h; exact snd_makeInterface ho hu fun ms e => hni ms e
    · cases h
  · rename_i fn xs ys
    cases fn with
    | yield l => cases h
    | func f => cases h; exact snd_makeFunc ho (show True from True.intro)
    | method s => cases h; exact snd_makeFunc ho (show True from True.intro)
    | methodOf t s => cases h; exact snd_makeFunc ho (show True from True.intro)
    | via t p f b => cases h; exact snd_makeFunc ho (show True from True.intro)
  · cases h; exact snd_makeMap ho
  · split at h
    · rename_i e hu
      split at h
      · rename_i i z hi hz
        split at h
        · rename_i hb; cases h; exact snd_makeSlice ho hu hi hz (lenL_beq hb)
        · cases h
      · cases h
    · cases h
  · exact sliceF_snd h ho
  · split at h
    · rename_i fd hf
      split at h
      · cases h
      · rename_i m hne hz; cases h; exact snd_fieldAddr ho hf hz (fun e => hne e)
      · cases h
    · cases h
  · split at h
    · rename_i fd hf
      split at h
      · rename_i sh hs; cases h; exact snd_field ho hf hs
      · cases h
    · cases h
  · split at h
    · rename_i n e hu
      split at h
      · rename_i m hz; cases h; exact snd_indexArr ho hu hz
      · cases h
    · rename_i e hu
      split at h
      · rename_i m hz; cases h; exact snd_indexSl ho hu hz
      · cases h
    · cases h
  · split at h
    · rename_i n e hu
      split at h
      · rename_i m sh hz hs; cases h; exact snd_indexVal ho hu hz hs
      · cases h
    · rename_i hu; cases h; exact snd_indexStr ho hu
    · cases h
  · split at h
    · rename_i kt e hu
      split at h
      · rename_i z hp hz; cases h; exact snd_lookup ho hu hp hz
      · cases h
    · cases h
  · split at h
    · rename_i kt e hu
      split at h
      · rename_i hp; cases h; exact snd_mapUpdate (.inl ho) hu hp
      · cases h
    · cases h
  · split at h
    · rename_i kt e hu
      split at h
      · rename_i hp; cases h; exact snd_mapUpdate (.inr ho) hu hp
      · cases h
    · cases h
  · split at h
    · rename_i hu; cases h; exact snd_rangeStr ho hu
    · cases h
  · cases h; exact snd_nextStr ho
  · cases h; exact snd_typeAssert ho
  · cases h; exact snd_extract ho
  · exact builtinF_snd h ho
  · cases h
end
end Go.Ev
