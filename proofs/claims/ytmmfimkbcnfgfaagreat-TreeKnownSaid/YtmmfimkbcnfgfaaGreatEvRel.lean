import Derived.Test.YtmmfimkbcnfgfaaGreatEvRun
/- The abstract heap and the model's: when they agree. -/
namespace Go.Ev

/-- Where a name lies: the block, the place in it, how many cells the block has; whether the block is read alone. -/
structure Loc where
  blk : Nat
  base : Nat
  size : Nat
  ro : Bool
abbrev Inj := Nat → Option Loc
def Inj.le (ι κ : Inj) : Prop := ∀ b x, ι b = some x → κ b = some x
theorem Inj.le_refl (ι : Inj) : ι.le ι := fun _ _ h => h
theorem Inj.le_trans {ι κ μ : Inj} (h : ι.le κ) (h' : κ.le μ) : ι.le μ := fun b x e => h' b x (h b x e)

/-- The capacity of a slice that begins at a place of a block of so many cells. -/
def capOk (c c' at_ n : Nat) : Prop := if c < 4611686018427387904 then c' = c else c % 4611686018427387904 ≤ c' ∧ at_ + c' * (c / 4611686018427387904 - 1) ≤ n
def fnPlain : Fn → Prop
  | .yield _ => False
  | _ => True

inductive AVRel (ι : Inj) : AV → Value → Prop
  | int (k : IntKind) (n : Int) : AVRel ι (.int k n) (.int k n)
  | bool (b : Bool) : AVRel ι (.bool b) (.bool b)
  | str (l : List UInt8) : AVRel ι (.str l) (.string ⟨⟨l⟩⟩)
  | nilPtr : AVRel ι (.nil .ptr) (.pointer none)
  | nilSlice : AVRel ι (.nil .slice) (.slice none 0 0)
  | nilMap : AVRel ι (.nil .map) (.map none)
  | nilFunc : AVRel ι (.nil .func) .nilFunc
  | nilIface : AVRel ι (.nil .iface) .nilIface
  | ptr {b o : Nat} {x : Loc} (h : ι b = some x) : AVRel ι (.ptr b o) (.pointer (some ⟨x.1, x.2 + o, none⟩))
  | slice {b o l c c' : Nat} {x : Loc} (h : ι b = some x) (hc : capOk c c' (x.2 + o) x.3) : AVRel ι (.slice b o l c) (.slice (some ⟨x.1, x.2 + o, none⟩) l c')
  | map {r : Nat} {x : Loc} (h : ι r = some x) (h0 : x.2 = 0) : AVRel ι (.map r) (.map (some x.1))
  | func {fn : Fn} {f c : List AV} {f' c' : List Value} (hp : fnPlain fn) (lf : f.length = f'.length) (hf : ∀ (i : Nat) x y, f[i]? = some x → f'[i]? = some y → AVRel ι x y)
      (lc : c.length = c'.length) (hc : ∀ (i : Nat) x y, c[i]? = some x → c'[i]? = some y → AVRel ι x y) : AVRel ι (.func fn f c) (.func fn ⟨f'⟩ ⟨c'⟩)
  | iface {t : TypeId} {v : AV} {v' : Value} (h : AVRel ι v v') : AVRel ι (.iface t v) (.iface t v')
  | agg {l : List AV} {l' : List Value} (hl : l.length = l'.length) (h : ∀ (i : Nat) x y, l[i]? = some x → l'[i]? = some y → AVRel ι x y) : AVRel ι (.agg l) (.agg ⟨l'⟩)
  | tup {l : List AV} {l' : List Value} (hl : l.length = l'.length) (h : ∀ (i : Nat) x y, l[i]? = some x → l'[i]? = some y → AVRel ι x y) : AVRel ι (.tup l) (.tuple ⟨l'⟩)
  | hollow (p : Addr) (c' : Nat) : AVRel ι .hollow (.slice (some p) 0 c')

def LRel (ι : Inj) (l : List AV) (l' : List Value) : Prop := l.length = l'.length ∧ ∀ (i : Nat) x y, l[i]? = some x → l'[i]? = some y → AVRel ι x y

theorem AVRel.mono {ι κ : Inj} (h : ι.le κ) {v : AV} {v' : Value} (r : AVRel ι v v') : AVRel κ v v' := by
  induction r with
  | int => exact .int _ _
  | bool => exact .bool _
  | str => exact .str _
  | nilPtr => exact .nilPtr
  | nilSlice => exact .nilSlice
  | nilMap => exact .nilMap
  | nilFunc => exact .nilFunc
  | nilIface => exact .nilIface
  | ptr e => exact .ptr (h _ _ e)
  | slice e hc => exact .slice (h _ _ e) hc
  | map e h0 => exact .map (h _ _ e) h0
  | func hp lf _ lc _ ihf ihc => exact .func hp lf ihf lc ihc
  | iface _ ih => exact .iface ih
  | agg hl _ ih => exact .agg hl ih
  | tup hl _ ih => exact .tup hl ih
  | hollow => exact .hollow _ _

theorem LRel.mono {ι κ : Inj} (h : ι.le κ) {l : List AV} {l' : List Value} (r : LRel ι l l') : LRel κ l l' := ⟨r.1, fun i x y hx hy => (r.2 i x y hx hy).mono h⟩
theorem LRel.nil (ι : Inj) : LRel ι [] [] := ⟨rfl, fun i x y h => by simp at h⟩
theorem LRel.cons {ι : Inj} {x : AV} {y : Value} {l : List AV} {l' : List Value} (h : AVRel ι x y) (r : LRel ι l l') : LRel ι (x :: l) (y :: l') := by
  refine ⟨by simp [r.1], fun i a b ha hb => ?_⟩
  cases i with
  | zero => simp at ha hb; subst ha; subst hb; exact h
  | succ i => simp at ha hb; exact r.2 i a b ha hb
theorem LRel.head {ι : Inj} {x : AV} {l : List AV} {m : List Value} (r : LRel ι (x :: l) m) : ∃ y l', m = y :: l' ∧ AVRel ι x y ∧ LRel ι l l' := by
  cases m with
  | nil => have := r.1; simp at this
  | cons y l' =>
    refine ⟨y, l', rfl, r.2 0 x y rfl rfl, by have := r.1; simpa using this, fun i a b ha hb => r.2 (i + 1) a b (by simpa using ha) (by simpa using hb)⟩
theorem LRel.nil_inv {ι : Inj} {m : List Value} (r : LRel ι [] m) : m = [] := by
  have := r.1; cases m with
  | nil => rfl
  | cons => simp at this
theorem LRel.get {ι : Inj} {l : List AV} {l' : List Value} (r : LRel ι l l') {i : Nat} {x : AV} (h : l[i]? = some x) : ∃ y, l'[i]? = some y ∧ AVRel ι x y := by
  have hi : i < l.length := by
    rcases Nat.lt_or_ge i l.length with h' | h'
    · exact h'
    · rw [List.getElem?_eq_none h'] at h; cases h
  have hi' : i < l'.length := r.1 ▸ hi
  exact ⟨l'[i], List.getElem?_eq_getElem hi', r.2 i x _ h (List.getElem?_eq_getElem hi')⟩
theorem LRel.append {ι : Inj} {l m : List AV} {l' m' : List Value} (r : LRel ι l l') (q : LRel ι m m') : LRel ι (l ++ m) (l' ++ m') := by
  induction l generalizing l' with
  | nil => rw [r.nil_inv]; exact q
  | cons x l ih =>
    obtain ⟨y, t, rfl, hx, hl⟩ := r.head
    exact LRel.cons hx (ih hl)
theorem LRel.take {ι : Inj} {l : List AV} {l' : List Value} (r : LRel ι l l') (n : Nat) : LRel ι (l.take n) (l'.take n) := by
  induction l generalizing l' n with
  | nil => rw [r.nil_inv]; simpa using LRel.nil ι
  | cons x l ih =>
    obtain ⟨y, t, rfl, hx, hl⟩ := r.head
    cases n with
    | zero => exact LRel.nil ι
    | succ n => exact LRel.cons hx (ih hl n)
theorem LRel.drop {ι : Inj} {l : List AV} {l' : List Value} (r : LRel ι l l') (n : Nat) : LRel ι (l.drop n) (l'.drop n) := by
  induction l generalizing l' n with
  | nil => rw [r.nil_inv]; simpa using LRel.nil ι
  | cons x l ih =>
    obtain ⟨y, t, rfl, hx, hl⟩ := r.head
    cases n with
    | zero => exact LRel.cons hx hl
    | succ n => exact ih hl n

/-- No cell is frozen. -/
def FzOk (n : Nat) (fz : Nat × Nat) : Prop := fz.1 = fz.2 ∨ n ≤ fz.1
theorem FzOk.free {n : Nat} {fz : Nat × Nat} (h : FzOk n fz) : ∀ i, i < n → ¬(fz.1 ≤ i ∧ i < fz.2) := fun i hi => by
  rcases h with h | h <;> omega
/-- A block of the abstract heap and one of the model's, from a place on. -/
inductive ORel (ι : Inj) (x : Loc) : AObj → Obj → Prop
  | cells {c : List AV} {c' : Array Value} {e e' : TypeId} {k : Bool} {fz : Nat × Nat} (hn : c'.size = x.3) (h : ∀ (i : Nat) v, c[i]? = some v → ∃ y, c'[x.2 + i]? = some y ∧ AVRel ι v y)
      (hk : k = true → x.ro = false ∧ e' = e) (hf : k = true → FzOk c'.size fz) : ORel ι x (.cells c e k) (.cells c' e' fz)
  | map {es : List AEnt} {es' : Array MapEntry} {clock : Nat} (hk : x.ro = false) (hs : x.2 = 0) (hl : es.length = es'.toList.length)
      (h : ∀ (i : Nat) p q, es[i]? = some p → es'.toList[i]? = some q → AVRel ι p.key q.key ∧ AVRel ι p.val q.val ∧ p.born = q.born) : ORel ι x (.map es clock) (.map es' clock)
  | strIter {l : List UInt8} {pos : Nat} (hk : x.ro = false) (hs : x.2 = 0) : ORel ι x (.strIter l pos) (.stringIter ⟨⟨l⟩⟩ pos)
theorem ORel.mono {ι κ : Inj} (h : ι.le κ) {x : Loc} {o : AObj} {o' : Obj} (r : ORel ι x o o') : ORel κ x o o' := by
  cases r with
  | cells hn hc hk hf => exact .cells hn (fun i x hx => let ⟨y, e, r⟩ := hc i x hx; ⟨y, e, r.mono h⟩) hk hf
  | map hk hs hl he => exact .map hk hs hl fun i x y hx hy => let ⟨a, b, c⟩ := he i x y hx hy; ⟨a.mono h, b.mono h, c⟩
  | strIter hk hs => exact .strIter hk hs

/-- The names below gN are the package-level variables'. -/
def Gl (ι : Inj) : Prop := ∀ g, g < gN → ∃ s r, ι g = some ⟨g, 0, s, r⟩
theorem Gl.mono {ι κ : Inj} (h : ι.le κ) (r : Gl ι) : Gl κ := fun g hg => let ⟨s, q, e⟩ := r g hg; ⟨s, q, h g _ e⟩
structure HRel (ι : Inj) (H : AH) (w : World) : Prop where
  get : ∀ b o, H.m.get b = some o → ∃ x o', ι b = some x ∧ w.heap[x.1]? = some o' ∧ ORel ι x o o'
  sep : ∀ a b p q x y, H.m.get a = some p → H.m.get b = some q → ι a = some x → ι b = some y → x.1 = y.1 → a = b ∨ x.ro = true
  ro : ∀ b x a o y, ι b = some x → x.ro = true → H.m.get a = some o → ι a = some y → x.1 = y.1 → y.ro = true
  rod : ∀ b x, ι b = some x → x.ro = true → x.1 < w.heap.size
  fresh : ∀ b, H.nxt ≤ b → ι b = none
  glob : Gl ι
  low : gN ≤ H.nxt

theorem HRel.dom {ι : Inj} {H : AH} {w : World} (r : HRel ι H w) {b : Nat} {o : AObj} {x : Loc} (h : H.m.get b = some o) (e : ι b = some x) : x.1 < w.heap.size := by
  obtain ⟨y, o', hy, hw, _⟩ := r.get b o h
  rw [e] at hy; cases hy
  exact (Array.getElem?_eq_some_iff.1 hw).1

theorem HRel.lt {ι : Inj} {H : AH} {w : World} (r : HRel ι H w) {b : Nat} {o : AObj} (h : H.m.get b = some o) : b < H.nxt := by
  obtain ⟨x, _, hx, _⟩ := r.get b o h
  rcases Nat.lt_or_ge b H.nxt with h' | h'
  · exact h'
  · rw [r.fresh b h'] at hx; cases hx

/-- From one state to a later one. -/
structure St (ι : Inj) (H : AH) (w : World) (κ : Inj) (H' : AH) (w' : World) : Prop where
  le : ι.le κ
  rel : HRel κ H' w'
  size : w.heap.size ≤ w'.heap.size
  frame : ∀ b', b' < w.heap.size → (∀ b o x, H.m.get b = some o → ι b = some x → x.1 ≠ b') → w'.heap[b']? = w.heap[b']?
  ro : ∀ b x, ι b = some x → x.ro = true → w'.heap[x.1]? = w.heap[x.1]?
  img : ∀ b o x, H'.m.get b = some o → κ b = some x → (∃ c p y, H.m.get c = some p ∧ ι c = some y ∧ y.1 = x.1) ∨ w.heap.size ≤ x.1
  os : w'.os = w.os
  out : w'.output = w.output
  tape : w'.tape = w.tape
  nxt : H.nxt ≤ H'.nxt
  log : ∃ l, H'.log = l ++ H.log ∧ (∀ b, b < H.nxt → b ∉ l → H'.m.get b = H.m.get b) ∧ ∀ b ∈ l, b < H'.nxt
  old : ∀ b, b < H.nxt → κ b = ι b
  nro : ∀ b x, H.nxt ≤ b → κ b = some x → x.ro = false

theorem HRel.nro {ι : Inj} {H : AH} {w : World} (r : HRel ι H w) (b : Nat) (x : Loc) (hb : H.nxt ≤ b) (e : ι b = some x) : x.ro = false := by rw [r.fresh b hb] at e; cases e
theorem St.refl {ι : Inj} {H : AH} {w : World} (r : HRel ι H w) : St ι H w ι H w :=
  ⟨ι.le_refl, r, Nat.le_refl _, fun _ _ _ => rfl, fun _ _ _ _ => rfl, fun b o x h e => .inl ⟨b, o, x, h, e, rfl⟩, rfl, rfl, rfl, Nat.le_refl _, ⟨[], rfl, fun _ _ _ => rfl, by simp⟩, fun _ _ => rfl, r.nro⟩
theorem St.trans {ι κ μ : Inj} {H H' H'' : AH} {w w' w'' : World} (a : St ι H w κ H' w') (b : St κ H' w' μ H'' w'') : St ι H w μ H'' w'' := by
  refine ⟨Inj.le_trans a.le b.le, b.rel, Nat.le_trans a.size b.size, fun b' hb hn => ?_, fun c x e q => (b.ro c x (a.le c x e) q).trans (a.ro c x e q), fun c o x hc e => ?_, b.os.trans a.os, b.out.trans a.out, b.tape.trans a.tape, Nat.le_trans a.nxt b.nxt, ?_, fun c hc => (b.old c (Nat.lt_of_lt_of_le hc a.nxt)).trans (a.old c hc), fun c x hc e => (by
    rcases Nat.lt_or_ge c H'.nxt with h | h
    · rw [b.old c h] at e; exact a.nro c x hc e
    · exact b.nro c x h e)⟩
  · rw [b.frame b' (Nat.lt_of_lt_of_le hb a.size) fun c o x hc e hx => ?_]
    · exact a.frame b' hb hn
    · rcases a.img c o x hc e with ⟨d, p, y, hd, ey, hy⟩ | h
      · exact hn d p y hd ey (hy.trans hx)
      · omega
  · rcases b.img c o x hc e with ⟨d, p, y, hd, ey, hy⟩ | h
    · rcases a.img d p y hd ey with ⟨d', p', y', hd', ey', hy'⟩ | h
      · exact .inl ⟨d', p', y', hd', ey', hy'.trans hy⟩
      · exact .inr (hy ▸ h)
    · exact .inr (Nat.le_trans a.size h)
  · obtain ⟨l, h1, h2, h5⟩ := a.log
    obtain ⟨l', h3, h4, h6⟩ := b.log
    refine ⟨l' ++ l, by rw [h3, h1, List.append_assoc], fun b' hb hn => ?_, fun b' hb => by
      rcases List.mem_append.1 hb with hb | hb
      · exact h6 b' hb
      · exact Nat.lt_of_lt_of_le (h5 b' hb) b.nxt⟩
    rw [List.mem_append, not_or] at hn
    rw [h4 b' (Nat.lt_of_lt_of_le hb a.nxt) hn.1, h2 b' hb hn.2]

/-- The model's draw moves nothing. -/
theorem HRel.drew {ι : Inj} {H : AH} {w w' : World} (r : HRel ι H w) (h : w'.heap = w.heap) : HRel ι H w' :=
  ⟨fun b o e => by rw [h]; exact r.get b o e, r.sep, r.ro, fun b x e q => (by rw [h]; exact r.rod b x e q), r.fresh, r.glob, r.low⟩
theorem St.drawn {ι : Inj} {H : AH} {w w' : World} (r : HRel ι H w) (h : w'.heap = w.heap) (h1 : w'.os = w.os) (h2 : w'.output = w.output) (h3 : w'.tape = w.tape) : St ι H w ι H w' :=
  ⟨ι.le_refl, r.drew h, by rw [h]; exact Nat.le_refl _, fun _ _ _ => by rw [h], fun _ _ _ _ => by rw [h], fun b o x e q => .inl ⟨b, o, x, e, q, rfl⟩, h1, h2, h3, Nat.le_refl _, ⟨[], rfl, fun _ _ _ => rfl, by simp⟩, fun _ _ => rfl, r.nro⟩

/-- A block is written. -/
theorem St.put {ι : Inj} {H : AH} {w w' : World} (r : HRel ι H w) {b : Nat} {o o1 : AObj} {x : Loc} {o1' : Obj} (hb : H.m.get b = some o) (hx : ι b = some x) (hro : x.ro = false)
    (ho : ORel ι x o1 o1') (hw : w'.heap = w.heap.setIfInBounds x.1 o1') (h1 : w'.os = w.os) (h2 : w'.output = w.output) (h3 : w'.tape = w.tape) (l : List Nat) (hl : l = b :: H.log := by rfl) :
    St ι H w ι ⟨H.m.upd b (some o1), H.nxt, l⟩ w' := by
  subst hl
  have hlt : x.1 < w.heap.size := r.dom hb hx
  have hget : ∀ a p, (H.m.upd b (some o1)).get a = some p → (a = b ∧ p = o1) ∨ (a ≠ b ∧ H.m.get a = some p) := by
    intro a p ha
    rw [Tr.get_upd] at ha
    by_cases e : a = b
    · rw [if_pos e] at ha; exact .inl ⟨e, (Option.some.inj ha).symm⟩
    · rw [if_neg e] at ha; exact .inr ⟨e, ha⟩
  have hold : ∀ a p, (H.m.upd b (some o1)).get a = some p → ∃ q, H.m.get a = some q := by
    intro a p ha
    rcases hget a p ha with ⟨rfl, _⟩ | ⟨_, h⟩
    · exact ⟨o, hb⟩
    · exact ⟨p, h⟩
  have hne : ∀ a y, ι a = some y → y.ro = true → y.1 ≠ x.1 := fun a y ey hy e => by
    have := r.ro a y b o x ey hy hb hx e
    rw [hro] at this; cases this
  refine ⟨ι.le_refl, ⟨fun a p ha => ?_, fun a c p q y z ha hc ey ez e => ?_, fun a y c p z ey hy hc ez e => ?_, fun a y ey hy => by rw [hw]; simpa using r.rod a y ey hy, r.fresh, r.glob, r.low⟩, by rw [hw]; simp, fun b' hb' hn => ?_,
    fun a y ey hy => by rw [hw, Array.getElem?_setIfInBounds_ne (fun e => hne a y ey hy e.symm)], fun a p y ha e => ?_, h1, h2, h3, Nat.le_refl _, ⟨[b], rfl, fun a _ ha => ?_, fun a ha => by
      have e : a = b := by simpa using ha
      subst e; exact r.lt hb⟩, fun _ _ => rfl, r.nro⟩
  · rcases hget a p ha with ⟨rfl, rfl⟩ | ⟨hnb, h⟩
    · exact ⟨x, o1', hx, by rw [hw]; simp [hlt], ho⟩
    · obtain ⟨y, p', ey, hy, hr⟩ := r.get a p h
      refine ⟨y, p', ey, ?_, hr⟩
      rw [hw, Array.getElem?_setIfInBounds_ne]
      · exact hy
      · intro e
        rcases r.sep a b p o y x h hb ey hx e.symm with h1 | h1
        · exact hnb h1
        · exact hne a y ey h1 e.symm
  · obtain ⟨p', hp⟩ := hold a p ha
    obtain ⟨q', hq⟩ := hold c q hc
    exact r.sep a c p' q' y z hp hq ey ez e
  · obtain ⟨p', hp⟩ := hold c p hc
    exact r.ro a y c p' z ey hy hp ez e
  · rw [hw, Array.getElem?_setIfInBounds_ne (fun e => hn b o x hb hx e)]
  · obtain ⟨p', hp⟩ := hold a p ha
    exact .inl ⟨a, p', y, hp, e, rfl⟩
  · show (H.m.upd b (some o1)).get a = _
    rw [Tr.get_upd, if_neg (by simpa using ha)]

def Inj.ext (ι : Inj) (n : Nat) (x : Loc) : Inj := fun b => if b = n then some x else ι b
theorem Inj.le_ext {ι : Inj} {n : Nat} {x : Loc} (h : ι n = none) : ι.le (ι.ext n x) := fun b y e => by
  unfold Inj.ext
  by_cases hb : b = n
  · subst hb; rw [h] at e; cases e
  · rw [if_neg hb]; exact e
theorem Inj.ext_self (ι : Inj) (n : Nat) (x : Loc) : ι.ext n x n = some x := if_pos rfl

/-- A new block. -/
theorem St.new {ι : Inj} {H : AH} {w w' : World} (r : HRel ι H w) {o : AObj} {o' : Obj} {m : Nat} (ho : ORel ι ⟨w.heap.size, 0, m, false⟩ o o') (hw : w'.heap = w.heap.push o')
    (h1 : w'.os = w.os) (h2 : w'.output = w.output) (h3 : w'.tape = w.tape) (l : List Nat) (hl : l = H.log := by rfl) :
    St ι H w (ι.ext H.nxt ⟨w.heap.size, 0, m, false⟩) ⟨H.m.upd H.nxt (some o), H.nxt + 1, l⟩ w' := by
  subst hl
  have hf := r.fresh H.nxt (Nat.le_refl _)
  have hle : ι.le (ι.ext H.nxt ⟨w.heap.size, 0, m, false⟩) := Inj.le_ext hf
  have hget : ∀ a p, (H.m.upd H.nxt (some o)).get a = some p → (a = H.nxt ∧ p = o) ∨ (a ≠ H.nxt ∧ H.m.get a = some p) := by
    intro a p ha
    rw [Tr.get_upd] at ha
    by_cases e : a = H.nxt
    · rw [if_pos e] at ha; exact .inl ⟨e, (Option.some.inj ha).symm⟩
    · rw [if_neg e] at ha; exact .inr ⟨e, ha⟩
  have hval : ∀ a y, ι.ext H.nxt ⟨w.heap.size, 0, m, false⟩ a = some y → (a = H.nxt ∧ y = ⟨w.heap.size, 0, m, false⟩) ∨ (a ≠ H.nxt ∧ ι a = some y) := by
    intro a y e
    unfold Inj.ext at e
    by_cases ha : a = H.nxt
    · rw [if_pos ha] at e; exact .inl ⟨ha, (Option.some.inj e).symm⟩
    · rw [if_neg ha] at e; exact .inr ⟨ha, e⟩
  refine ⟨hle, ⟨fun a p ha => ?_, fun a c p q y z ha hc ey ez e => ?_, fun a y c p z ey hy hc ez e => ?_, fun a y ey hy => ?_, fun b hb => ?_, r.glob.mono hle, ?_⟩, by rw [hw]; simp, fun b' hb' _ => ?_, fun a y ey hy => by rw [hw, Array.getElem?_push, if_neg (Nat.ne_of_lt (r.rod a y ey hy))], fun a p y ha e => ?_, h1, h2, h3, Nat.le_succ _, ⟨[], rfl, fun a ha _ => ?_, by simp⟩, fun a ha => if_neg (Nat.ne_of_lt ha), fun a y ha e => (by
    rcases hval a y e with ⟨_, rfl⟩ | ⟨_, h⟩
    · rfl
    · exact r.nro a y ha h)⟩
  · rcases hget a p ha with ⟨rfl, rfl⟩ | ⟨_, h⟩
    · exact ⟨_, o', Inj.ext_self _ _ _, by rw [hw]; simp, ho.mono hle⟩
    · obtain ⟨y, p', ey, hy, hr⟩ := r.get a p h
      refine ⟨y, p', hle _ _ ey, ?_, hr.mono hle⟩
      rw [hw, Array.getElem?_push, if_neg (Nat.ne_of_lt (r.dom h ey))]; exact hy
  · rcases hval a y ey with ⟨ha', hy⟩ | ⟨ha', hy⟩ <;> rcases hval c z ez with ⟨hc', hz⟩ | ⟨hc', hz⟩
    · exact .inl (by rw [ha', hc'])
    · rcases hget c q hc with ⟨h', _⟩ | ⟨_, h'⟩
      · exact absurd h' hc'
      · have := r.dom h' hz; rw [hy] at e; simp at e; omega
    · rcases hget a p ha with ⟨h', _⟩ | ⟨_, h'⟩
      · exact absurd h' ha'
      · have := r.dom h' hy; rw [hz] at e; simp at e; omega
    · rcases hget a p ha with ⟨h, _⟩ | ⟨_, h⟩
      · exact absurd h ha'
      · rcases hget c q hc with ⟨h', _⟩ | ⟨_, h'⟩
        · exact absurd h' hc'
        · exact r.sep a c p q y z h h' hy hz e
  · rcases hval a y ey with ⟨_, hy'⟩ | ⟨_, hy'⟩
    · rw [hy'] at hy; cases hy
    · rcases hval c z ez with ⟨hc', hz⟩ | ⟨hc', hz⟩
      · have := r.rod a y hy' hy; rw [hz] at e; simp at e; omega
      · rcases hget c p hc with ⟨h, _⟩ | ⟨_, h⟩
        · exact absurd h hc'
        · exact r.ro a y c p z hy' hy h hz e
  · rcases hval a y ey with ⟨_, hy'⟩ | ⟨_, hy'⟩
    · rw [hy'] at hy; cases hy
    · have := r.rod a y hy' hy; rw [hw]; simp; omega
  · unfold Inj.ext
    have hb' : H.nxt + 1 ≤ b := hb
    rw [if_neg (by omega)]
    exact r.fresh b (by omega)
  · exact Nat.le_succ_of_le r.low
  · rw [hw, Array.getElem?_push, if_neg (Nat.ne_of_lt hb')]
  · rcases hval a y e with ⟨_, rfl⟩ | ⟨hne, h⟩
    · exact .inr (Nat.le_refl _)
    · rcases hget a p ha with ⟨h', _⟩ | ⟨_, h'⟩
      · exact absurd h' hne
      · exact .inl ⟨a, p, y, h', h, rfl⟩
  · show (H.m.upd H.nxt (some o)).get a = _
    rw [Tr.get_upd, if_neg (Nat.ne_of_lt ha)]

/-- A name goes. -/
theorem St.kill {ι : Inj} {H : AH} {w : World} (r : HRel ι H w) (b : Nat) (hb : b < H.nxt) (l : List Nat) (hl : l = b :: H.log := by rfl) : St ι H w ι ⟨H.m.upd b none, H.nxt, l⟩ w := by
  subst hl
  have hold : ∀ a p, (H.m.upd b none).get a = some p → H.m.get a = some p := by
    intro a p ha
    rw [Tr.get_upd] at ha
    by_cases e : a = b
    · rw [if_pos e] at ha; cases ha
    · rw [if_neg e] at ha; exact ha
  exact ⟨ι.le_refl, ⟨fun a p ha => r.get a p (hold a p ha), fun a c p q y z ha hc => r.sep a c p q y z (hold a p ha) (hold c q hc), fun a y c p z ey hy hc => r.ro a y c p z ey hy (hold c p hc), r.rod, r.fresh, r.glob, r.low⟩, Nat.le_refl _, fun _ _ _ => rfl, fun _ _ _ _ => rfl,
    fun a p y ha e => .inl ⟨a, p, y, hold a p ha, e, rfl⟩, rfl, rfl, rfl, Nat.le_refl _, ⟨[b], rfl, fun a _ ha => by
      show (H.m.upd b none).get a = _
      rw [Tr.get_upd, if_neg (by simpa using ha)], fun a ha => by
      have e : a = b := by simpa using ha
      subst e; exact hb⟩, fun _ _ => rfl, r.nro⟩
/-- A block that went by its name gets another name, from a place in it on. -/
theorem St.rename {ι : Inj} {H : AH} {w w' : World} (r : HRel ι H w) {b : Nat} {o o1 : AObj} {x : Loc} {s : Nat} {o1' : Obj} (hb : H.m.get b = some o) (hx : ι b = some x) (hro : x.ro = false)
    (ho : ORel ι ⟨x.1, s, x.3, false⟩ o1 o1') (hw : w'.heap = w.heap.setIfInBounds x.1 o1') (h1 : w'.os = w.os) (h2 : w'.output = w.output) (h3 : w'.tape = w.tape) (l : List Nat) (hl : l = b :: H.log := by rfl) :
    St ι H w (ι.ext H.nxt ⟨x.1, s, x.3, false⟩) ⟨(H.m.upd b none).upd H.nxt (some o1), H.nxt + 1, l⟩ w' := by
  subst hl
  have hf := r.fresh H.nxt (Nat.le_refl _)
  have hle : ι.le (ι.ext H.nxt ⟨x.1, s, x.3, false⟩) := Inj.le_ext hf
  have hlt : x.1 < w.heap.size := r.dom hb hx
  have hget : ∀ a p, ((H.m.upd b none).upd H.nxt (some o1)).get a = some p → (a = H.nxt ∧ p = o1) ∨ (a ≠ H.nxt ∧ a ≠ b ∧ H.m.get a = some p) := by
    intro a p ha
    rw [Tr.get_upd] at ha
    by_cases e : a = H.nxt
    · rw [if_pos e] at ha; exact .inl ⟨e, (Option.some.inj ha).symm⟩
    · rw [if_neg e, Tr.get_upd] at ha
      by_cases e' : a = b
      · rw [if_pos e'] at ha; cases ha
      · rw [if_neg e'] at ha; exact .inr ⟨e, e', ha⟩
  have hval : ∀ a y, ι.ext H.nxt ⟨x.1, s, x.3, false⟩ a = some y → (a = H.nxt ∧ y = ⟨x.1, s, x.3, false⟩) ∨ (a ≠ H.nxt ∧ ι a = some y) := by
    intro a y e
    unfold Inj.ext at e
    by_cases ha : a = H.nxt
    · rw [if_pos ha] at e; exact .inl ⟨ha, (Option.some.inj e).symm⟩
    · rw [if_neg ha] at e; exact .inr ⟨ha, e⟩
  have hner : ∀ a y, ι a = some y → y.ro = true → y.1 ≠ x.1 := fun a y ey hy e => by
    have := r.ro a y b o x ey hy hb hx e
    rw [hro] at this; cases this
  have hsep : ∀ a p y, H.m.get a = some p → ι a = some y → y.1 = x.1 → a = b := fun a p y h ey e => by
    rcases r.sep a b p o y x h hb ey hx e with h1 | h1
    · exact h1
    · exact (hner a y ey h1 e).elim
  refine ⟨hle, ⟨fun a p ha => ?_, fun a c p q y z ha hc ey ez e => ?_, fun a y c p z ey hy hc ez e => ?_, fun a y ey hy => ?_, fun c hc => ?_, r.glob.mono hle, ?_⟩, by rw [hw]; simp, fun b' hb' hn => ?_,
    fun a y ey hy => by rw [hw, Array.getElem?_setIfInBounds_ne (fun e => hner a y ey hy e.symm)], fun a p y ha e => ?_, h1, h2, h3, Nat.le_succ _, ⟨[b], rfl, fun a ha hn => ?_, fun a ha => by
      have e : a = b := by simpa using ha
      subst e; exact Nat.lt_succ_of_lt (r.lt hb)⟩, fun a ha => if_neg (Nat.ne_of_lt ha), fun a y ha e => (by
    rcases hval a y e with ⟨_, rfl⟩ | ⟨_, h⟩
    · rfl
    · exact r.nro a y ha h)⟩
  · rcases hget a p ha with ⟨rfl, rfl⟩ | ⟨_, hne, h⟩
    · exact ⟨_, o1', Inj.ext_self _ _ _, by rw [hw]; simp [hlt], ho.mono hle⟩
    · obtain ⟨y, p', ey, hy, hr⟩ := r.get a p h
      refine ⟨y, p', hle _ _ ey, ?_, hr.mono hle⟩
      rw [hw, Array.getElem?_setIfInBounds_ne]
      · exact hy
      · intro e; exact hne (hsep a p y h ey e.symm)
  · rcases hget a p ha with ⟨ha', _⟩ | ⟨ha', hna, h⟩ <;> rcases hget c q hc with ⟨hc', _⟩ | ⟨hc', hnc, h'⟩
    · exact .inl (by rw [ha', hc'])
    · rcases hval a y ey with ⟨_, hy⟩ | ⟨h2, _⟩
      · rcases hval c z ez with ⟨h3, _⟩ | ⟨_, hz⟩
        · exact absurd h3 hc'
        · rw [hy] at e; exact absurd (hsep c q z h' hz e.symm) hnc
      · exact absurd ha' h2
    · rcases hval c z ez with ⟨_, hz⟩ | ⟨h2, _⟩
      · rcases hval a y ey with ⟨h3, _⟩ | ⟨_, hy⟩
        · exact absurd h3 ha'
        · rw [hz] at e; exact absurd (hsep a p y h hy e) hna
      · exact absurd hc' h2
    · rcases hval a y ey with ⟨h2, _⟩ | ⟨_, hy⟩
      · exact absurd h2 ha'
      · rcases hval c z ez with ⟨h2, _⟩ | ⟨_, hz⟩
        · exact absurd h2 hc'
        · exact r.sep a c p q y z h h' hy hz e
  · rcases hval a y ey with ⟨_, hy'⟩ | ⟨_, hy'⟩
    · rw [hy'] at hy; cases hy
    · rcases hval c z ez with ⟨hc', hz⟩ | ⟨hc', hz⟩
      · rw [hz] at e; exact absurd e (hner a y hy' hy)
      · rcases hget c p hc with ⟨h, _⟩ | ⟨_, _, h⟩
        · exact absurd h hc'
        · exact r.ro a y c p z hy' hy h hz e
  · rcases hval a y ey with ⟨_, hy'⟩ | ⟨_, hy'⟩
    · rw [hy'] at hy; cases hy
    · rw [hw]; simpa using r.rod a y hy' hy
  · unfold Inj.ext
    have hc' : H.nxt + 1 ≤ c := hc
    rw [if_neg (by omega)]
    exact r.fresh c (by omega)
  · exact Nat.le_succ_of_le r.low
  · rw [hw, Array.getElem?_setIfInBounds_ne (fun e => hn b o x hb hx e)]
  · rcases hval a y e with ⟨_, rfl⟩ | ⟨hne, h⟩
    · exact .inl ⟨b, o, x, hb, hx, rfl⟩
    · rcases hget a p ha with ⟨h', _⟩ | ⟨_, _, h'⟩
      · exact absurd h' hne
      · exact .inl ⟨a, p, y, h', h, rfl⟩
  · show ((H.m.upd b none).upd H.nxt (some o1)).get a = _
    rw [Tr.get_upd, if_neg (Nat.ne_of_lt ha), Tr.get_upd, if_neg (by simpa using hn)]

/-- The temporaries, and the calls that are deferred. -/
def DRel (ι : Inj) (d : AV × List AV) (d' : Deferred) : Prop := ∃ fn f c f' c' l', d.1 = .func fn f c ∧ fnPlain fn ∧ d'.target = .fn fn ⟨c'⟩ ∧ LRel ι c c' ∧ LRel ι f f' ∧ LRel ι d.2 l' ∧ d'.args = ⟨f' ++ l'⟩
def DsRel (ι : Inj) : List (AV × List AV) → List Deferred → Prop
  | [], [] => True
  | d :: ds, d' :: ds' => DRel ι d d' ∧ DsRel ι ds ds'
  | _, _ => False
theorem DsRel.mono {ι κ : Inj} (h : ι.le κ) : ∀ {ds : List (AV × List AV)} {ds' : List Deferred}, DsRel ι ds ds' → DsRel κ ds ds'
  | [], [], _ => trivial
  | [], _ :: _, r => r.elim
  | _ :: _, [], r => r.elim
  | _ :: _, _ :: _, ⟨⟨fn, f, c, f', c', l', h1, h2, h3, h4, h5, h6, h7⟩, r⟩ => ⟨⟨fn, f, c, f', c', l', h1, h2, h3, h4.mono h, h5.mono h, h6.mono h, h7⟩, r.mono h⟩
structure TRel (n : Nat) (ι : Inj) (T : Tm) (a : Act) : Prop where
  size : a.tmps.size = n
  get : ∀ t, t < n → AVRel ι ((T.t.get t).getD undefA) (a.tmps.getD t undef)
  out : ∀ t, n ≤ t → T.t.get t = none
  ds : DsRel ι T.ds a.defers
  glob : Gl ι
theorem TRel.mono {n : Nat} {ι κ : Inj} (h : ι.le κ) {T : Tm} {a : Act} (r : TRel n ι T a) : TRel n κ T a := ⟨r.size, fun t ht => (r.get t ht).mono h, r.out, r.ds.mono h, r.glob.mono h⟩
theorem undef_rel (ι : Inj) : AVRel ι undefA undef := .tup rfl fun i x y h => by simp at h

def R.Good : R → Prop | .fail _ => False | _ => True
def Res.Good : Res → Prop | .fail _ => False | _ => True

end Go.Ev
