import Derived.Test.YtmmfimkbcnfgfaaGreatEvBase
/- The abstract evaluator: one operation. -/
namespace Go.Ev

def modOf : IntKind → Nat
  | .i8 | .u8 => 256
  | .i16 | .u16 => 65536
  | .i32 | .u32 => 4294967296
  | .i64 | .u64 => 18446744073709551616
def halfOf : IntKind → Nat
  | .i8 => 128
  | .i16 => 32768
  | .i32 => 2147483648
  | .i64 => 9223372036854775808
  | .u8 => 256
  | .u16 => 65536
  | .u32 => 4294967296
  | .u64 => 18446744073709551616
/-- The unsigned remainder of a number: its bits. -/
noncomputable def bitsOf (M : Nat) (n : Int) : Nat :=
  Int.rec (fun m => Nat.mod m M) (fun m => Nat.sub (Nat.sub M 1) (Nat.mod m M)) n
/-- What bits r < M say, from h on negative. -/
noncomputable def ofBits (M h r : Nat) : Int := Bool.rec (Int.ofNat r) (Int.negSucc (Nat.sub (Nat.sub M r) 1)) (Nat.ble h r)
noncomputable def wrapF (k : IntKind) (n : Int) : Int := ofBits (modOf k) (halfOf k) (bitsOf (modOf k) n)

noncomputable def natF {β : Type} (n : Nat) (k : Nat → β) : β := Nat.rec (k 0) (fun m _ => k (Nat.succ m)) n
noncomputable def intF {β : Type} (n : Int) (k : Int → β) : β := Int.rec (fun m => natF m fun m => k (.ofNat m)) (fun m => natF m fun m => k (.negSucc m)) n
/-- An int of a kind, of whatever number. -/
noncomputable def mkInt {β : Type} (k : IntKind) (n : Int) (c : AV → β) : β := intF (wrapF k n) fun n => c (.int k n)
def intN (n : Nat) : AV := .int .i64 (.ofNat n)

noncomputable def ltI (x y : Int) : Bool := Int.rec (fun a => Int.rec (fun b => Nat.ble (Nat.succ a) b) (fun _ => false) y) (fun a => Int.rec (fun _ => true) (fun b => Nat.ble (Nat.succ b) a) y) x
noncomputable def eqI (x y : Int) : Bool := Int.rec (fun a => Int.rec (fun b => Nat.beq a b) (fun _ => false) y) (fun a => Int.rec (fun _ => false) (fun b => Nat.beq a b) y) x
noncomputable def addI (x y : Int) : Int := Int.rec (fun a => Int.rec (fun b => .ofNat (Nat.add a b)) (fun b => Int.add (.ofNat a) (.negSucc b)) y) (fun a => Int.add (.negSucc a) y) x
noncomputable def subI (x y : Int) : Int := Int.rec (fun a => Int.rec (fun b => Bool.rec (Int.negSucc (Nat.sub (Nat.sub b a) 1)) (.ofNat (Nat.sub a b)) (Nat.ble b a)) (fun b => Int.sub (.ofNat a) (.negSucc b)) y) (fun a => Int.sub (.negSucc a) y) x
noncomputable def mulI (x y : Int) : Int := Int.rec (fun a => Int.rec (fun b => .ofNat (Nat.mul a b)) (fun b => Int.mul (.ofNat a) (.negSucc b)) y) (fun a => Int.mul (.negSucc a) y) x

noncomputable def eqBytes (x : List UInt8) : List UInt8 → Bool :=
  List.rec (motive := fun _ => List UInt8 → Bool) (fun y => List.rec (motive := fun _ => Bool) true (fun _ _ _ => false) y)
    (fun a _ ih y => List.rec (motive := fun _ => Bool) false (fun b s _ => Bool.rec false (ih s) (Nat.beq a.toNat b.toNat)) y) x
noncomputable def ltBytes (x : List UInt8) : List UInt8 → Bool :=
  List.rec (motive := fun _ => List UInt8 → Bool) (fun y => List.rec (motive := fun _ => Bool) false (fun _ _ _ => true) y)
    (fun a _ ih y => List.rec (motive := fun _ => Bool) false (fun b s _ => Bool.rec (Bool.rec false (ih s) (Nat.beq a.toNat b.toNat)) true (Nat.ble (Nat.succ a.toNat) b.toNat)) y) x
noncomputable def lenL {α : Type} (l : List α) : Nat := List.rec 0 (fun _ _ n => Nat.succ n) l

def kindIs (a b : IntKind) : Bool := match a, b with
  | .i8, .i8 | .i16, .i16 | .i32, .i32 | .i64, .i64 | .u8, .u8 | .u16, .u16 | .u32, .u32 | .u64, .u64 => true
  | _, _ => false

/-! What a value is, for the kernel: a case each. -/
section
variable {β : Type}
noncomputable def asInt (x : AV) (c : IntKind → Int → β) (d : β) : β :=
  AV.rec (motive_1 := fun _ => (IntKind → Int → β) → β → β) (motive_2 := fun _ => PUnit) (fun k n c _ => c k n) (fun _ _ d => d) (fun _ _ d => d) (fun _ _ d => d)
    (fun _ _ _ d => d) (fun _ _ _ _ _ d => d) (fun _ _ d => d) (fun _ _ _ _ _ _ d => d) (fun _ _ _ _ d => d) (fun _ _ _ d => d) (fun _ _ _ d => d) (fun _ d => d) .unit (fun _ _ _ _ => .unit) x c d
noncomputable def asBool (x : AV) (c : Bool → β) (d : β) : β :=
  AV.rec (motive_1 := fun _ => (Bool → β) → β → β) (motive_2 := fun _ => PUnit) (fun _ _ _ d => d) (fun b c _ => c b) (fun _ _ d => d) (fun _ _ d => d)
    (fun _ _ _ d => d) (fun _ _ _ _ _ d => d) (fun _ _ d => d) (fun _ _ _ _ _ _ d => d) (fun _ _ _ _ d => d) (fun _ _ _ d => d) (fun _ _ _ d => d) (fun _ d => d) .unit (fun _ _ _ _ => .unit) x c d
noncomputable def asPtr (x : AV) (c : Nat → Nat → β) (d : β) : β :=
  AV.rec (motive_1 := fun _ => (Nat → Nat → β) → β → β) (motive_2 := fun _ => PUnit) (fun _ _ _ d => d) (fun _ _ d => d) (fun _ _ d => d) (fun _ _ d => d)
    (fun b o c _ => c b o) (fun _ _ _ _ _ d => d) (fun _ _ d => d) (fun _ _ _ _ _ _ d => d) (fun _ _ _ _ d => d) (fun _ _ _ d => d) (fun _ _ _ d => d) (fun _ d => d) .unit (fun _ _ _ _ => .unit) x c d
noncomputable def asSlice (x : AV) (c : Nat → Nat → Nat → Nat → β) (d : β) : β :=
  AV.rec (motive_1 := fun _ => (Nat → Nat → Nat → Nat → β) → β → β) (motive_2 := fun _ => PUnit) (fun _ _ _ d => d) (fun _ _ d => d) (fun _ _ d => d) (fun _ _ d => d)
    (fun _ _ _ d => d) (fun b o l n c _ => c b o l n) (fun _ _ d => d) (fun _ _ _ _ _ _ d => d) (fun _ _ _ _ d => d) (fun _ _ _ d => d) (fun _ _ _ d => d) (fun _ d => d) .unit (fun _ _ _ _ => .unit) x c d
noncomputable def asTup (x : AV) (c : List AV → β) (d : β) : β :=
  AV.rec (motive_1 := fun _ => (List AV → β) → β → β) (motive_2 := fun _ => PUnit) (fun _ _ _ d => d) (fun _ _ d => d) (fun _ _ d => d) (fun _ _ d => d)
    (fun _ _ _ d => d) (fun _ _ _ _ _ d => d) (fun _ _ d => d) (fun _ _ _ _ _ _ d => d) (fun _ _ _ _ d => d) (fun _ _ _ d => d) (fun l _ c _ => c l) (fun _ d => d) .unit (fun _ _ _ _ => .unit) x c d
/-- The cells of an aggregate, or the one cell that a value is. -/
noncomputable def cellsV (x : AV) : List AV :=
  AV.rec (motive_1 := fun _ => AV → List AV) (motive_2 := fun _ => PUnit) (fun _ _ x => [x]) (fun _ x => [x]) (fun _ x => [x]) (fun _ x => [x])
    (fun _ _ x => [x]) (fun _ _ _ _ x => [x]) (fun _ x => [x]) (fun _ _ _ _ _ x => [x]) (fun _ _ _ x => [x]) (fun l _ _ => l) (fun _ _ x => [x]) (fun x => [x]) .unit (fun _ _ _ _ => .unit) x x
/-- A value of one cell. -/
noncomputable def isOne (x : AV) : Bool :=
  AV.rec (motive_1 := fun _ => Bool) (motive_2 := fun _ => PUnit) (fun _ _ => true) (fun _ => true) (fun _ => true) (fun _ => true)
    (fun _ _ => true) (fun _ _ _ _ => true) (fun _ => true) (fun _ _ _ _ _ => true) (fun _ _ _ => true) (fun _ _ => false) (fun _ _ => false) true .unit (fun _ _ _ _ => .unit) x
noncomputable def onO {α : Type} (o : Option α) (c : α → β) (d : β) : β := Option.rec d c o
noncomputable def onB (b : Bool) (t f : β) : β := Bool.rec f t b
noncomputable def asCells (o : AObj) (c : List AV → TypeId → Bool → β) (d : β) : β :=
  AObj.rec (motive := fun _ => (List AV → TypeId → Bool → β) → β → β) (fun l e k c _ => c l e k) (fun _ _ _ d => d) (fun _ _ _ d => d) o c d
end
noncomputable def allOne (l : List AV) : Bool := List.rec true (fun v _ ih => Bool.rec false ih (isOne v)) l

/-- A constant, or a zero, of one cell. -/
def ofCell : Value → Option AV
  | .int k n => some (.int k n)
  | .bool b => some (.bool b)
  | .string s => some (.str s.data.toList)
  | .pointer none => some (.nil .ptr)
  | .slice none 0 0 => some (.nil .slice)
  | .map none => some (.nil .map)
  | .nilFunc => some (.nil .func)
  | .nilIface => some (.nil .iface)
  | _ => none
def ofCells : List Value → Option (List AV)
  | [] => some []
  | v :: r => match ofCell v, ofCells r with
    | some x, some l => some (x :: l)
    | _, _ => none
def ofV : Value → Option AV
  | .agg cs => (match ofCells cs.toList with | some l => some (.agg l) | none => none)
  | .iface t v => (match ofCell v with | some x => some (.iface t x) | none => none)
  | .tuple cs => (match cs.toList with | [] => some undefA | _ => none)
  | v => ofCell v

/-- An operand, prepared. -/
inductive PX | tmp (p : Pth) | const (v : AV) | none
noncomputable def px : Operand → PX
  | .tmp t => .tmp (pathOf t)
  | .const v => (match ofV v with | some x => .const x | none => .none)
  | .global g => Bool.rec .none (.const (.ptr g 0)) (Nat.ble (Nat.succ g) gN)
  | .func f => .const (.func (.func f) [] [])
noncomputable def pxs : List Operand → List PX
  | [] => []
  | x :: r => px x :: pxs r
noncomputable def optX (o : Option Operand) : Option PX := match o with
  | none => none
  | some x => some (px x)
noncomputable def pxParts : List (Nat × Operand) → List (Nat × PX)
  | [] => []
  | (i, x) :: r => (i, px x) :: pxParts r

abbrev F := Tm → AH → (AV → AH → R) → R
noncomputable def bad (w : String) : R := .fail [w]
noncomputable def tmpO (p : Pth) (T : Tm) (k : AV → R) : R := Option.rec (k undefA) k (Fr.getP p T.t)
/-- What an operand holds, handed on. -/
noncomputable def withO (x : PX) (T : Tm) (k : AV → R) : R :=
  PX.rec (motive := fun _ => Tm → (AV → R) → R) tmpO (fun v _ k => k v) (fun _ _ => bad "operand") x T k
noncomputable def withAll (xs : List PX) (T : Tm) (k : List AV → R) : R :=
  List.rec (motive := fun _ => (List AV → R) → R) (fun k => k []) (fun x _ ih k => withO x T fun v => ih fun l => k (v :: l)) xs k
noncomputable def withOpt (x : Option PX) (T : Tm) (k : Option AV → R) : R := match x with
  | none => k none
  | some x => withO x T fun v => k (some v)
noncomputable def withParts (xs : List (Nat × PX)) (T : Tm) (k : List (Nat × AV) → R) : R :=
  List.rec (motive := fun _ => (List (Nat × AV) → R) → R) (fun k => k []) (fun x _ ih k => withO x.2 T fun v => ih fun l => k ((x.1, v) :: l)) xs k

/-- A value at its place, and on. -/
noncomputable def putT (p : Pth) (v : AV) (T : Tm) (k : Tm → R) : R := Tm.rec (fun t ds rm => k ⟨t.updP p (some v), ds, rm⟩) T
noncomputable def putD (d : Option Pth) (v : AV) (T : Tm) (k : Tm → R) : R := Option.rec (motive := fun _ => AV → Tm → (Tm → R) → R) (fun _ T k => k T) putT d v T k

noncomputable def AH.put (H : AH) (b : Nat) (o : AObj) (k : AH → R) : R := AH.rec (fun m n l => k ⟨m.upd b (some o), n, b :: l⟩) H
noncomputable def AH.kill (H : AH) (b : Nat) (k : AH → R) : R := AH.rec (fun m n l => k ⟨m.upd b none, n, b :: l⟩) H
noncomputable def AH.new (H : AH) (o : AObj) (k : Nat → AH → R) : R := AH.rec (fun m n l => natF n fun n => k n ⟨m.upd n (some o), Nat.succ n, l⟩) H
/-- The cells of a block, handed on. -/
noncomputable def cellsAt (w : String) (H : AH) (b : Nat) (k : List AV → TypeId → Bool → R) : R := onO (H.m.get b) (fun o => asCells o k (bad w)) (bad w)

/-- The cells of a block that may be written. -/
noncomputable def wcellsAt (w : String) (H : AH) (b : Nat) (k : List AV → TypeId → R) : R := cellsAt w H b fun c e z => onB z (k c e) (bad w)

section
variable (P : Program)
noncomputable def isAggA (t : TypeId) : Option Bool := match P.underlying t with
  | some (.struct _) | some (.array _ _) => some true
  | some _ => some false
  | none => none
noncomputable def szA (t : TypeId) : Option Nat := match P.info? t with | some i => some i.size | none => none
noncomputable def zeroA (t : TypeId) : Option AV := match P.info? t with
  | some i => (match i.zero with | some z => ofV z | none => none)
  | none => none
noncomputable def fieldOf (s : TypeId) (f : Nat) : Option Field := match P.underlying s with
  | some (.struct fs) => nth fs.toList f
  | _ => none
/-- How a type's value lies in cells: none: it is one cell; some n: n cells. -/
noncomputable def shapeA (t : TypeId) : Option (Option Nat) := match isAggA P t, szA P t with
  | some true, some n => some (some n)
  | some false, some _ => some none
  | _, _ => none
noncomputable def readS (s : Option Nat) (c : List AV) (off : Nat) : Option AV :=
  Option.rec (motive := fun _ => Option AV) (nth c off) (fun n => Option.rec (motive := fun _ => Option AV) none (fun l => some (.agg l)) (takeL n (dropL off c))) s
end

noncomputable def setNth {α : Type} (n : Nat) (v : α) : List α → Option (List α) :=
  Nat.rec (motive := fun _ => List α → Option (List α)) (fun l => List.rec (motive := fun _ => Option (List α)) none (fun _ r _ => some (v :: r)) l)
    (fun _ ih l => List.rec (motive := fun _ => Option (List α)) none (fun x r _ => Option.rec (motive := fun _ => Option (List α)) none (fun y => some (x :: y)) (ih r)) l) n

/-! The operations. -/
noncomputable def moveF (x : PX) : F := fun T H k => withO x T fun v => k v H
noncomputable def pickF (w : String) (c a b : PX) : F := fun T H k => withO c T fun v => asBool v (fun z => onB z (withO a T fun v => k v H) (withO b T fun v => k v H)) (bad w)
noncomputable def newF (e : TypeId) (c : List AV) (H : AH) (k : AV → AH → R) : R := H.new (.cells c e true) fun n H => k (.ptr n 0) H
noncomputable def allocF (e : TypeId) (z : List AV) : F := fun _ H k => newF e z H k
noncomputable def boxF (e : TypeId) (x : PX) : F := fun T H k => withO x T fun v => newF e (cellsV v) H k
noncomputable def load1F (w : String) (a : PX) : F := fun T H k => withO a T fun v => asPtr v (fun b o => cellsAt w H b fun c _ _ => onO (nth c o) (fun v => k v H) (bad w)) (bad w)
noncomputable def loadNF (w : String) (n : Nat) (a : PX) : F := fun T H k => withO a T fun v => asPtr v (fun b o => cellsAt w H b fun c _ _ => onO (takeL n (dropL o c)) (fun l => k (.agg l) H) (bad w)) (bad w)
noncomputable def store1F (w : String) (a x : PX) : F := fun T H k => withO a T fun v => withO x T fun u => asPtr v (fun b o => wcellsAt w H b fun c e =>
  onB (isOne u) (onO (setNth o u c) (fun c => H.put b (.cells c e true) (k undefA)) (bad w)) (bad w)) (bad w)
noncomputable def storeNF (w : String) (n : Nat) (a x : PX) : F := fun T H k => withO a T fun v => withO x T fun u => asPtr v (fun b o => wcellsAt w H b fun c e =>
  onB (Nat.beq (lenL (cellsV u)) n) (onB (allOne (cellsV u)) (onO (splice o (cellsV u) c) (fun c => H.put b (.cells c e true) (k undefA)) (bad w)) (bad w)) (bad w)) (bad w)
noncomputable def fieldAddrF (w : String) (off : Nat) (x : PX) : F := fun T H k => withO x T fun v => asPtr v (fun b o => natF (Nat.add o off) fun o => k (.ptr b o) H) (bad w)
noncomputable def aggOf {β : Type} (x : AV) (c : List AV → β) (d : β) : β := match x with | .agg l => c l | _ => d
noncomputable def fieldF (w : String) (s : Option Nat) (off : Nat) (x : PX) : F := fun T H k => withO x T fun v => aggOf v (fun c => onO (readS s c off) (fun v => k v H) (bad w)) (bad w)
noncomputable def natOf {β : Type} (v : AV) (c : Nat → β) (d : β) : β := asInt v (fun _ n => Int.rec c (fun _ => d) n) d
noncomputable def indexArrF (w : String) (len s : Nat) (x i : PX) : F := fun T H k => withO x T fun v => withO i T fun j => asPtr v (fun b o => natOf j (fun n =>
  onB (Nat.ble (Nat.succ n) len) (natF (Nat.add o (Nat.mul n s)) fun o => k (.ptr b o) H) (bad w)) (bad w)) (bad w)
noncomputable def indexSlF (w : String) (s : Nat) (x i : PX) : F := fun T H k => withO x T fun v => withO i T fun j => asSlice v (fun b o l _ => natOf j (fun n =>
  onB (Nat.ble (Nat.succ n) l) (natF (Nat.add o (Nat.mul n s)) fun o => k (.ptr b o) H) (bad w)) (bad w)) (bad w)
noncomputable def indexValF (w : String) (len s : Nat) (sh : Option Nat) (x i : PX) : F := fun T H k => withO x T fun v => withO i T fun j => aggOf v (fun c => natOf j (fun n =>
  onB (Nat.ble (Nat.succ n) len) (onO (readS sh c (Nat.mul n s)) (fun v => k v H) (bad w)) (bad w)) (bad w)) (bad w)
noncomputable def strOf {β : Type} (x : AV) (c : List UInt8 → β) (d : β) : β := match x with | .str l => c l | _ => d
noncomputable def indexStrF (w : String) (x i : PX) : F := fun T H k => withO x T fun v => withO i T fun j => strOf v (fun l => natOf j (fun n =>
  onO (nth l n) (fun b => k (.int .u8 (.ofNat b.toNat)) H) (bad w)) (bad w)) (bad w)

/-! Arithmetic. -/
noncomputable def arithF (f : Int → Int → Int) (k : IntKind) (x y : Int) (c : AV → R) : R := mkInt k (f x y) c
noncomputable def bitF (f : Nat → Nat → Nat) (k : IntKind) (x y : Int) (c : AV → R) : R := mkInt k (.ofNat (f (bitsOf (modOf k) x) (bitsOf (modOf k) y))) c
noncomputable def cmpF (f : Int → Int → Bool) (_ : IntKind) (x y : Int) (c : AV → R) : R := c (.bool (f x y))
noncomputable def divF (f : Int → Int → Int) (k : IntKind) (x y : Int) (c : AV → R) : R := onB (eqI y 0) (bad "/ 0") (mkInt k (f x y) c)
noncomputable def intF2 (op : BinOp) : Option (IntKind → Int → Int → (AV → R) → R) := match op with
  | .add => some (arithF addI)
  | .sub => some (arithF subI)
  | .mul => some (arithF mulI)
  | .quo => some (divF Int.tdiv)
  | .rem => some fun k x y c => onB (eqI y 0) (bad "/ 0") (intF (Int.tmod x y) fun n => c (.int k n))
  | .and => some (bitF Nat.land)
  | .or => some (bitF Nat.lor)
  | .xor => some (bitF Nat.xor)
  | .andNot => some fun k x y c => mkInt k (.ofNat (Nat.land (bitsOf (modOf k) x) (Nat.sub (Nat.sub (modOf k) 1) (bitsOf (modOf k) y)))) c
  | .eql => some (cmpF eqI)
  | .neq => some (cmpF fun x y => Bool.rec true false (eqI x y))
  | .lss => some (cmpF ltI)
  | .leq => some (cmpF fun x y => Bool.rec true false (ltI y x))
  | .gtr => some (cmpF fun x y => ltI y x)
  | .geq => some (cmpF fun x y => Bool.rec true false (ltI x y))
  | .shl | .shr => none
/-- Two whole numbers of one kind. -/
noncomputable def binIntF (w : String) (f : IntKind → Int → Int → (AV → R) → R) (x y : PX) : F := fun T H k => withO x T fun v => withO y T fun u =>
  asInt v (fun j a => asInt u (fun i b => onB (kindIs j i) (f j a b fun v => k v H) (bad w)) (bad w)) (bad w)
noncomputable def shlN (k : IntKind) (m n : Nat) (c : AV → R) : R := mkInt k (.ofNat (Nat.mul m (Nat.pow 2 n))) c
noncomputable def shrN (k : IntKind) (m n : Nat) (c : AV → R) : R := natF (Nat.div m (Nat.pow 2 n)) fun n => c (.int k (.ofNat n))
def bitsK : IntKind → Nat
  | .i8 | .u8 => 8
  | .i16 | .u16 => 16
  | .i32 | .u32 => 32
  | .i64 | .u64 => 64
noncomputable def shiftF (w : String) (f : IntKind → Nat → Nat → (AV → R) → R) (x y : PX) : F := fun T H k => withO x T fun v => withO y T fun u =>
  asInt v (fun j a => natOf u (fun n => Int.rec (fun m => natF (Bool.rec (bitsK j) n (Nat.ble n (bitsK j))) fun n => f j m n fun v => k v H) (fun _ => bad w) a) (bad w)) (bad w)
noncomputable def strOp (op : BinOp) (x y : List UInt8) : Option AV := match op with
  | .add => Bool.rec none (some (.str (x ++ y))) (Nat.ble (Nat.add (lenL x) (lenL y)) 4611686018427387904)
  | .eql => some (.bool (eqBytes x y))
  | .neq => some (.bool (!(eqBytes x y)))
  | .lss => some (.bool (ltBytes x y))
  | .leq => some (.bool (ltBytes x y || eqBytes x y))
  | .gtr => some (.bool (!(ltBytes x y || eqBytes x y)))
  | .geq => some (.bool (!(ltBytes x y)))
  | _ => none
noncomputable def binStrF (w : String) (op : BinOp) (x y : PX) : F := fun T H k => withO x T fun v => withO y T fun u =>
  strOf v (fun a => strOf u (fun b => onO (strOp op a b) (fun v => k v H) (bad w)) (bad w)) (bad w)

section
variable (P : Program)
noncomputable def eqFieldsA (cmp : TypeId → AV → AV → Option Bool) (xs ys : List AV) : List Field → Option Bool
  | [] => some true
  | f :: fs => match f.name == "_" with
    | true => eqFieldsA cmp xs ys fs
    | false => (match shapeA P f.type with
      | some s => (match readS s xs f.offset, readS s ys f.offset with
        | some a, some b => (match cmp f.type a b with
          | some true => eqFieldsA cmp xs ys fs
          | r => r)
        | _, _ => none)
      | none => none)
noncomputable def eqItemsA (cmp : AV → AV → Option Bool) (sh : Option Nat) (s : Nat) (xs ys : List AV) : Nat → Nat → Option Bool
  | 0, _ => some true
  | n + 1, i => (match readS sh xs (Nat.mul i s), readS sh ys (Nat.mul i s) with
      | some a, some b => (match cmp a b with
        | some true => eqItemsA cmp sh s xs ys n (Nat.succ i)
        | r => r)
      | _, _ => none)
def nilIs : Nil → TypeDesc → Bool
  | .ptr, .pointer _ => true
  | .slice, .slice _ => true
  | .map, .map _ _ => true
  | .func, .func _ _ _ => true
  | .iface, .interface _ => true
  | _, _ => false
/-- x == y, of a type that can be compared. -/
noncomputable def eqA : Nat → TypeId → AV → AV → Option Bool
  | 0, _, _, _ => none
  | d + 1, t, x, y => match P.underlying t with
    | none => none
    | some u => (match x, y with
      | .bool a, .bool b => (match u with | .bool => some (match a with | true => b | false => !b) | _ => none)
      | .int j a, .int k b => (match u, kindIs j k with | .int _, true => some (eqI a b) | _, _ => none)
      | .str a, .str b => (match u with | .string => some (eqBytes a b) | _ => none)
      | .nil a, .nil b => (match nilIs a u, nilIs b u with | true, true => some true | _, _ => none)
      | .nil a, .ptr _ _ => (match nilIs a u, u with | true, .pointer _ => some false | _, _ => none)
      | .ptr _ _, .nil a => (match nilIs a u, u with | true, .pointer _ => some false | _, _ => none)
      | .nil a, .slice _ _ _ _ => (match nilIs a u, u with | true, .slice _ => some false | _, _ => none)
      | .slice _ _ _ _, .nil a => (match nilIs a u, u with | true, .slice _ => some false | _, _ => none)
      | .nil a, .hollow => (match nilIs a u, u with | true, .slice _ => some false | _, _ => none)
      | .hollow, .nil a => (match nilIs a u, u with | true, .slice _ => some false | _, _ => none)
      | .nil a, .map _ => (match nilIs a u, u with | true, .map _ _ => some false | _, _ => none)
      | .map _, .nil a => (match nilIs a u, u with | true, .map _ _ => some false | _, _ => none)
      | .nil a, .func _ _ _ => (match nilIs a u, u with | true, .func _ _ _ => some false | _, _ => none)
      | .func _ _ _, .nil a => (match nilIs a u, u with | true, .func _ _ _ => some false | _, _ => none)
      | .nil a, .iface _ _ => (match nilIs a u, u with | true, .interface _ => some false | _, _ => none)
      | .iface _ _, .nil a => (match nilIs a u, u with | true, .interface _ => some false | _, _ => none)
      | .iface s a, .iface v b => (match u with
        | .interface _ => (match Nat.beq s v with
          | false => some false
          | true => (match P.info? s with
            | some i => (match i.comparable with | true => eqA d s a b | false => none)
            | none => none))
        | _ => none)
      | .agg xs, .agg ys => (match u with
        | .struct fs => (match P.stoodInHeld t with
          | true => none
          | false => eqFieldsA P (eqA d) xs ys fs.toList)
        | .array n e => (match szA P e, shapeA P e with
          | some s, some sh => eqItemsA (eqA d e) sh s xs ys n 0
          | _, _ => none)
        | _ => none)
      | _, _ => none)
noncomputable def eqF (w : String) (t : TypeId) (want : Bool) (x y : PX) : F := fun T H k => withO x T fun v => withO y T fun u =>
  onO (eqA P 12 t v u) (fun b => k (.bool (Bool.rec (Bool.rec true false want) want b)) H) (bad w)
def isK : Operand → Bool
  | .const _ => true
  | _ => false
/-- A comparison that the model lets be. -/
noncomputable def eqStat (t : TypeId) (k : Bool) : Bool := match P.underlying t with
  | some (.interface ms) => (match ms.toList with | [] => true | _ => k)
  | some (.struct _) | some (.array _ _) => !(P.eqGuardType P.depth t)
  | some _ => true
  | none => false
/-- x op y: chosen by the type's kind. -/
noncomputable def binOpF (w : String) (op : BinOp) (t : TypeId) (c : Bool) (x y : PX) : Option F := match P.underlying t with
  | some (.int _) => (match op with
    | .shl => some (shiftF w shlN x y)
    | .shr => some (shiftF w shrN x y)
    | _ => (match intF2 op with | some f => some (binIntF w f x y) | none => none))
  | some .string => some (binStrF w op x y)
  | some _ => (match op with
    | .eql => (match eqStat P t c with | true => some (eqF P w t true x y) | false => none)
    | .neq => (match eqStat P t c with | true => some (eqF P w t false x y) | false => none)
    | _ => none)
  | none => none
noncomputable def notF (w : String) (x : PX) : F := fun T H k => withO x T fun v => asBool v (fun b => k (.bool (Bool.rec true false b)) H) (bad w)
noncomputable def negF (w : String) (x : PX) : F := fun T H k => withO x T fun v => asInt v (fun j n => mkInt j (subI 0 n) fun v => k v H) (bad w)
noncomputable def comF (w : String) (x : PX) : F := fun T H k => withO x T fun v => asInt v (fun j n => mkInt j (.ofNat (Nat.sub (Nat.sub (modOf j) 1) (bitsOf (modOf j) n))) fun v => k v H) (bad w)
noncomputable def unOpF (w : String) (op : UnOp) (x : PX) : Option F := match op with
  | .not => some (notF w x)
  | .neg => some (negF w x)
  | .xor => some (comF w x)
  | .plus => none
noncomputable def convIntF (w : String) (j : IntKind) (x : PX) : F := fun T H k => withO x T fun v => asInt v (fun _ n => mkInt j n fun v => k v H) (bad w)
noncomputable def convStrF (w : String) (x : PX) : F := fun T H k => withO x T fun v => strOf v (fun l => k (.str l) H) (bad w)
noncomputable def byteCells (l : List UInt8) : List AV := List.rec [] (fun b _ ih => AV.int .u8 (.ofNat b.toNat) :: ih) l
noncomputable def cellBytes (l : List AV) : Option (List UInt8) :=
  List.rec (some []) (fun v _ ih => match v with
    | .int .u8 (.ofNat n) => (match Nat.ble (Nat.succ n) 256, ih with | true, some r => some (UInt8.ofNat n :: r) | _, _ => none)
    | _ => none) l
noncomputable def strBytesF (w : String) (e : TypeId) (x : PX) : F := fun T H k => withO x T fun v => strOf v (fun l => natF (lenL l) fun n =>
  onB (Nat.ble n 1099511627776) (H.new (.cells (byteCells l) e true) fun b H => natF (capOpen 1 n) fun c => k (.slice b 0 n c) H) (bad w)) (bad w)
noncomputable def bytesStrF (w : String) (x : PX) : F := fun T H k => withO x T fun v => (match v with
  | .nil .slice => k (.str []) H
  | .hollow => k (.str []) H
  | .slice b o l _ => cellsAt w H b fun c _ _ => onO (takeL l (dropL o c)) (fun l => onO (cellBytes l) (fun s => k (.str s) H) (bad w)) (bad w)
  | _ => bad w)
/-- []byte as []byte: how a literal's conversion from a text looks. -/
noncomputable def bytesF (w : String) (x : PX) : F := fun T H k => withO x T fun v => asSlice v (fun b o l c => wcellsAt w H b fun cs e => H.put b (.cells cs e true) (k (.slice b o l c))) (bad w)
noncomputable def convertF (w : String) (s d : TypeId) (x : PX) : Option F := match P.underlying s, P.underlying d with
  | some (.int _), some (.int k) => some (convIntF w k x)
  | some .string, some .string => some (convStrF w x)
  | some .string, some (.slice e) => (match P.underlying e with | some (.int .u8) => some (strBytesF w e x) | _ => none)
  | some (.slice e), some .string => (match P.underlying e with | some (.int .u8) => some (bytesStrF w x) | _ => none)
  | some (.slice _), some (.slice e) => (match Nat.beq s d, P.underlying e with | true, some (.int .u8) => some (bytesF w x) | _, _ => none)
  | _, _ => none

/-- Parts of a value laid into its cells. -/
noncomputable def fillA (place : Nat → Option (Nat × Nat)) : List AV → List (Nat × AV) → Option (List AV)
  | c, [] => some c
  | c, (i, v) :: r => match place i with
    | none => none
    | some (off, n) => (match Nat.beq (lenL (cellsV v)) n with
      | true => (match splice off (cellsV v) c with | some c => fillA place c r | none => none)
      | false => none)
noncomputable def placeStruct (fs : List Field) (i : Nat) : Option (Nat × Nat) := match nth fs i with
  | some f => (match szA P f.type with | some n => some (f.offset, n) | none => none)
  | none => none
noncomputable def buildF (w : String) (place : Nat → Option (Nat × Nat)) (z : List AV) (ps : List (Nat × PX)) : F := fun T H k => withParts ps T fun l =>
  onO (fillA place z l) (fun c => k (.agg c) H) (bad w)
noncomputable def repL (z : List AV) (n : Nat) : List AV := Nat.rec [] (fun _ ih => z ++ ih) n
noncomputable def buildSliceF (w : String) (e : TypeId) (n len : Nat) (z : List AV) (ps : List (Nat × PX)) : F := fun T H k => withParts ps T fun l =>
  onO (fillA (fun i => some (Nat.mul i n, n)) z l) (fun c => H.new (.cells c e true) fun b H => k (.slice b 0 len len) H) (bad w)
noncomputable def makeSliceF (w : String) (e : TypeId) (bytes : Nat) (z : List AV) (l c : PX) : F := fun T H k => withO l T fun l => withO c T fun c => natOf l (fun l => natOf c (fun c =>
  onB (Bool.rec false (Bool.rec false (Nat.ble c 1099511627776) (Nat.ble (Nat.mul bytes c) 281474976710656)) (Nat.ble l c))
    (natF l fun l => natF c fun c => H.new (.cells (repL z c) e true) fun b H => k (.slice b 0 l c) H) (bad w)) (bad w)) (bad w)

noncomputable def optNat (o : Option AV) (d : Nat) (c : Nat → R) (e : R) : R := match o with | none => c d | some v => natOf v c e
/-- s[l:h] of cells of n. -/
noncomputable def slice2 (w : String) (n b o len cap : Nat) (lo hi : Option AV) (k : AV → R) : R := optNat lo 0 (fun l => optNat hi len (fun h =>
  onB (Bool.rec false (Nat.ble h (capLow cap)) (Nat.ble l h))
    (onB (Bool.rec false (Nat.beq cap l) (capKnown cap))
      (k (.slice b o 0 0))
      (onB (Bool.rec (Bool.rec false (Nat.beq (capCells cap) n) (Nat.ble (Nat.succ l) (capLow cap))) true (capKnown cap))
        (natF (Nat.add o (Nat.mul l n)) fun o => natF (Nat.sub h l) fun hl => natF (Nat.sub cap l) fun cl => k (.slice b o hl cl)) (onB (Nat.beq h l) (k .hollow) (bad w)))) (bad w)) (bad w)) (bad w)
noncomputable def slice3 (w : String) (n b o cap : Nat) (lo : Option AV) (h m : AV) (k : AV → R) : R := optNat lo 0 (fun l => natOf h (fun h => natOf m (fun m =>
  onB (Bool.rec false (Bool.rec false (Nat.ble m (capLow cap)) (Nat.ble h m)) (Nat.ble l h))
    (natF (Nat.add o (Nat.mul (Bool.rec l 0 (Nat.beq m l)) n)) fun o => natF (Nat.sub h l) fun hl => natF (Nat.sub m l) fun ml => k (.slice b o hl ml)) (bad w)) (bad w)) (bad w)) (bad w)
noncomputable def sliceSlF (w : String) (n : Nat) (x : PX) (lo hi mx : Option PX) : F := fun T H k => withO x T fun v => withOpt lo T fun lo => withOpt hi T fun hi => withOpt mx T fun mx => (match v with
  | .nil .slice => (match mx with
    | none => optNat lo 0 (fun l => optNat hi 0 (fun h => onB (Bool.rec false (Nat.beq h 0) (Nat.beq l 0)) (k (.nil .slice) H) (bad w)) (bad w)) (bad w)
    | some _ => bad w)
  | .hollow => (match mx with
    | none => optNat lo 0 (fun l => optNat hi 0 (fun h => onB (Bool.rec false (Nat.beq h 0) (Nat.beq l 0)) (k .hollow H) (bad w)) (bad w)) (bad w)
    | some _ => bad w)
  | .slice b o len cap => (match mx, hi with
    | none, hi => slice2 w n b o len cap lo hi fun v => k v H
    | some m, some h => slice3 w n b o cap lo h m fun v => k v H
    | some _, none => bad w)
  | _ => bad w)
noncomputable def sliceStrF (w : String) (x : PX) (lo hi : Option PX) : F := fun T H k => withO x T fun v => withOpt lo T fun lo => withOpt hi T fun hi => strOf v (fun s =>
  optNat lo 0 (fun l => optNat hi (lenL s) (fun h => onB (Bool.rec false (Nat.ble h (lenL s)) (Nat.ble l h)) (onO (takeL (Nat.sub h l) (dropL l s)) (fun b => k (.str b) H) (bad w)) (bad w)) (bad w)) (bad w)) (bad w)
noncomputable def sliceArrF (w : String) (len s : Nat) (x : PX) (lo hi : Option PX) : F := fun T H k => withO x T fun v => withOpt lo T fun lo => withOpt hi T fun hi => asPtr v (fun b o =>
  optNat lo 0 (fun l => optNat hi len (fun h => onB (Bool.rec false (Nat.ble h len) (Nat.ble l h))
    (natF (Nat.add o (Nat.mul (Bool.rec l 0 (Nat.beq len l)) s)) fun o => natF (Nat.sub h l) fun hl => natF (Nat.sub len l) fun nl => k (.slice b o hl nl) H) (bad w)) (bad w)) (bad w)) (bad w)
noncomputable def sliceF (w : String) (t : TypeId) (x : PX) (lo hi mx : Option PX) : Option F := match P.underlying t with
  | some .string => (match mx with | none => some (sliceStrF w x lo hi) | some _ => none)
  | some (.slice e) => (match szA P e with | some n => some (sliceSlF w n x lo hi mx) | none => none)
  | some (.array n e) => (match szA P e, mx, Nat.ble n 1099511627776 with | some s, none, true => some (sliceArrF w n s x lo hi) | _, _, _ => none)
  | _ => none

/-- The first n elements of what is appended or copied, of size cells each. -/
noncomputable def firstA (w : String) (size n : Nat) (x : AV) (H : AH) (k : List AV → R) : R := match x with
  | .nil .slice => k []
  | .hollow => onB (Nat.beq (Nat.mul n size) 0) (k []) (bad w)
  | .slice b o _ _ => natF (Nat.mul n size) fun m => onB (Nat.beq m 0) (k []) (cellsAt w H b fun c _ _ => onO (takeL m (dropL o c)) k (bad w))
  | .str s => onB (Nat.beq size 1) (onO (takeL n s) (fun s => k (byteCells s)) (bad w)) (bad w)
  | _ => bad w
noncomputable def lenA (w : String) (x : AV) (k : Nat → R) : R := match x with
  | .nil .slice => k 0
  | .hollow => k 0
  | .slice _ _ n _ => k n
  | .str s => natF (lenL s) k
  | _ => bad w
/-- A slice that is appended to and finds no room: a new block. -/
noncomputable def growA (w : String) (e : TypeId) (size bytes need : Nat) (c : List AV) (H : AH) (k : AV → AH → R) : R :=
  onB (Nat.ble (Nat.mul need (Nat.mul 2 (Nat.succ bytes))) 140737488355328)
    (H.new (.cells c e true) fun n H => natF (capOpen size need) fun cap => k (.slice n 0 need cap) H) (bad w)
/-- A block of the abstract heap goes where a slice whose room is not known is appended to. -/
noncomputable def appendA (w : String) (e : TypeId) (size bytes : Nat) (s x : AV) (H : AH) (k : AV → AH → R) : R := lenA w x fun n => firstA w size n x H fun new =>
  onB (allOne new) (match s with
  | .nil .slice => onB (Nat.beq n 0) (k (.nil .slice) H) (growA w e size bytes n new H k)
  | .hollow => onB (Nat.beq n 0) (k .hollow H) (bad w)
  | .slice b o len cap => natF (Nat.add len n) fun need => onB (Nat.ble need (capLow cap))
    (onB (Nat.beq n 0) (k (.slice b o need cap) H)
      (wcellsAt w H b fun c e' => onO (splice (Nat.add o (Nat.mul len size)) new c) (fun c => H.put b (.cells c e' true) (k (.slice b o need cap))) (bad w)))
    (firstA w size len s H fun old => onB (capKnown cap) (growA w e size bytes need (old ++ new) H k)
      (wcellsAt w H b fun _ e' => onB (Bool.rec false (Nat.beq (capCells cap) size) (Nat.beq e' e)) (H.kill b fun H => growA w e size bytes need (old ++ new) H k) (bad w)))
  | _ => bad w) (bad w)
noncomputable def appendF (w : String) (e : TypeId) (size bytes : Nat) (s x : PX) : F := fun T H k => withO s T fun s => withO x T fun x => appendA w e size bytes s x H k
noncomputable def copyF (w : String) (size : Nat) (d x : PX) : F := fun T H k => withO d T fun d => withO x T fun x => lenA w d fun dn => lenA w x fun xn =>
  natF (Bool.rec dn xn (Nat.ble xn dn)) fun n => firstA w size n x H fun new => (match d with
    | .nil .slice => onB (Nat.beq (lenL new) 0) (k (intN n) H) (bad w)
    | .hollow => onB (Nat.beq (lenL new) 0) (k (intN n) H) (bad w)
    | .slice b o _ _ => onB (Nat.beq (lenL new) 0) (k (intN n) H) (wcellsAt w H b fun c e => onB (allOne new) (onO (splice o new c) (fun c => H.put b (.cells c e true) (k (intN n))) (bad w)) (bad w))
    | _ => bad w)
noncomputable def clearF (w : String) (z : List AV) (x : PX) : F := fun T H k => withO x T fun x => (match x with
  | .nil .slice => k undefA H
  | .slice b o n _ => onB (Nat.beq n 0) (k undefA H) (wcellsAt w H b fun c e => onB (allOne z) (onO (splice o (repL z n) c) (fun c => H.put b (.cells c e true) (k undefA)) (bad w)) (bad w))
  | _ => bad w)
noncomputable def lenSlF (w : String) (x : PX) : F := fun T H k => withO x T fun x => (match x with
  | .nil .slice => k (intN 0) H
  | .hollow => k (intN 0) H
  | .slice _ _ n _ => k (intN n) H
  | _ => bad w)
noncomputable def lenStrF (w : String) (x : PX) : F := fun T H k => withO x T fun x => strOf x (fun l => natF (lenL l) fun n => k (intN n) H) (bad w)
noncomputable def lenArrF (n : Nat) (x : PX) : F := fun T H k => withO x T fun _ => k (intN n) H
noncomputable def mapAt (w : String) (H : AH) (r : Nat) (k : List AEnt → Nat → R) : R := match H.m.get r with | some (.map es c) => k es c | _ => bad w
noncomputable def lenMapF (w : String) (x : PX) : F := fun T H k => withO x T fun x => (match x with
  | .nil .map => k (intN 0) H
  | .map r => mapAt w H r fun es _ => k (intN (lenL es)) H
  | _ => bad w)
noncomputable def capF (w : String) (x : PX) : F := fun T H k => withO x T fun x => (match x with
  | .nil .slice => k (intN 0) H
  | .slice _ _ _ c => onB (capKnown c) (k (intN c) H) (bad w)
  | _ => bad w)
noncomputable def minF (w : String) (mx : Bool) (x y : PX) : F := fun T H k => withO x T fun v => withO y T fun u => asInt v (fun j a => asInt u (fun i b => onB (kindIs j i)
  (k (.int j (Bool.rec a b (Bool.rec (ltI b a) (ltI a b) mx))) H) (bad w)) (bad w)) (bad w)

/-- The entry of a key: its place and it. -/
noncomputable def findA (kt : TypeId) (k : AV) : List AEnt → Nat → Option (Option (Nat × AEnt))
  | [], _ => some none
  | e :: es, i => match eqA P 12 kt k e.key with
    | some true => some (some (i, e))
    | some false => findA kt k es (Nat.succ i)
    | none => none
/-- A key that is a whole number, a bool or a text: it can be asked for without more. -/
def plainKey : AV → Bool
  | .int _ _ | .str _ | .bool _ => true
  | _ => false
/-- A type of plain keys. -/
noncomputable def plainKt (kt : TypeId) : Bool := match P.underlying kt with
  | some (.int _) | some .string | some .bool => true
  | _ => false
noncomputable def lookupF (w : String) (kt : TypeId) (z : AV) (ok : Bool) (m x : PX) : F := fun T H k => withO m T fun m => withO x T fun key => onB (plainKey key)
  ((fun go => match m with | .nil .map => go [] | .map r => mapAt w H r fun es _ => go es | _ => bad w) fun es => (match findA P kt key es 0 with
    | some (some (_, x)) => k (Bool.rec x.val (.tup [x.val, .bool true]) ok) H
    | some none => k (Bool.rec z (.tup [z, .bool false]) ok) H
    | none => bad w)) (bad w)
noncomputable def putNth (x : AEnt) : Nat → List AEnt → List AEnt
  | _, [] => []
  | 0, _ :: r => x :: r
  | n + 1, y :: r => y :: putNth x n r
noncomputable def dropNth : Nat → List AEnt → List AEnt
  | _, [] => []
  | 0, _ :: r => r
  | n + 1, y :: r => y :: dropNth n r
noncomputable def mapUpdateF (w : String) (kt : TypeId) (m x v : PX) : F := fun T H k => withO m T fun m => withO x T fun key => withO v T fun v => onB (plainKey key) (match m with
  | .map r => mapAt w H r fun es clock => (match findA P kt key es 0 with
    | some (some (i, e)) => H.put r (.map (putNth ⟨key, v, e.born⟩ i es) clock) (k undefA)
    | some none => natF (Nat.succ clock) fun c => H.put r (.map (es ++ [⟨key, v, clock⟩]) c) (k undefA)
    | none => bad w)
  | _ => bad w) (bad w)
noncomputable def deleteF (w : String) (kt : TypeId) (m x : PX) : F := fun T H k => withO m T fun m => withO x T fun key => onB (plainKey key) (match m with
  | .nil .map => k undefA H
  | .map r => mapAt w H r fun es clock => (match findA P kt key es 0 with
    | some (some (i, _)) => H.put r (.map (dropNth i es) clock) (k undefA)
    | some none => H.put r (.map es clock) (k undefA)
    | none => bad w)
  | _ => bad w) (bad w)
/-- What x.(T) tells. -/
noncomputable def holdsA (ok : Bool) (v : AV) : Option AV := some (Bool.rec v (.tup [v, .bool true]) ok)
noncomputable def failsA (ok : Bool) (z : Option AV) : Option AV := match ok, z with | true, some z => some (.tup [z, .bool false]) | _, _ => none
noncomputable def assertI (want : Array (String × TypeId)) (z : Option AV) (ok : Bool) (x : AV) : Option AV := match x with
  | .iface t v => (match P.info? t with
    | some i => (match Instr.missingMethod want i.methods with | none => holdsA ok (.iface t v) | some _ => failsA ok z)
    | none => none)
  | .nil .iface => failsA ok z
  | _ => none
noncomputable def assertT (as : TypeId) (z : Option AV) (ok : Bool) (x : AV) : Option AV := match x with
  | .iface t v => (match Nat.beq t as with | true => holdsA ok v | false => failsA ok z)
  | .nil .iface => failsA ok z
  | _ => none
noncomputable def assertA (as : TypeId) (z : Option AV) (ok : Bool) (x : AV) : Option AV := match P.underlying as with
  | some (.interface want) => assertI P want z ok x
  | some _ => assertT as z ok x
  | none => none
noncomputable def typeAssertF (w : String) (as : TypeId) (ok : Bool) (x : PX) : F := fun T H k => withO x T fun x => onO (assertA P as (zeroA P as) ok x) (fun v => k v H) (bad w)
noncomputable def extractF (w : String) (i : Nat) (x : PX) : F := fun T H k => withO x T fun x => asTup x (fun l => onO (nth l i) (fun v => k v H) (bad w)) (bad w)
noncomputable def nilCheckF (w : String) (x : PX) : F := fun T H k => withO x T fun x => asPtr x (fun b o => k (.ptr b o) H) (match x with
  | .iface t v => k (.iface t v) H
  | .func (.func f) a b => k (.func (.func f) a b) H
  | _ => bad w)
noncomputable def makeInterfaceF (t : TypeId) (x : PX) : F := fun T H k => withO x T fun x => k (.iface t x) H
noncomputable def makeFuncF (f : Fn) (a b : List PX) : F := fun T H k => withAll a T fun a => withAll b T fun b => k (.func f a b) H
noncomputable def makeMapF : F := fun _ H k => H.new (.map [] 0) fun r H => k (.map r) H
noncomputable def rangeStrF (w : String) (x : PX) : F := fun T H k => withO x T fun x => strOf x (fun s => H.new (.strIter s 0) fun b H => k (.ptr b 0) H) (bad w)
/-- The next letter, where it is one byte. -/
noncomputable def nextStrF (w : String) (x : PX) : F := fun T H k => withO x T fun x => asPtr x (fun b o => onB (Nat.beq o 0) (match H.m.get b with
  | some (.strIter s pos) => (match nth s pos with
    | none => k (.tup [.bool false]) H
    | some c => onB (Nat.ble (Nat.succ c.toNat) 128) (natF (Nat.succ pos) fun p => H.put b (.strIter s p) (k (.tup [.bool true, intN pos, .int .i32 (.ofNat c.toNat)]))) (bad w))
  | _ => bad w) (bad w)) (bad w)

noncomputable def builtinF (w : String) (b : Builtin) (ts : List TypeId) (as : List PX) : Option F := match b, ts, as with
  | .append, [t, u], [s, x] => (match P.underlying t, P.underlying u with
    | some (.slice _), some (.int _) => none
    | some (.slice e), some _ => (match P.info? e with
      | some i => (match zeroA P e with | some z => (match Nat.beq (lenL (cellsV z)) i.size with | true => some (appendF w e i.size i.bytes s x) | false => none) | none => none)
      | none => none)
    | _, _ => none)
  | .copy, t :: _, [d, x] => (match P.underlying t with
    | some (.slice e) => (match szA P e with | some n => some (copyF w n d x) | none => none)
    | _ => none)
  | .len, [t], [x] => (match P.underlying t with
    | some .string => some (lenStrF w x)
    | some (.slice _) => some (lenSlF w x)
    | some (.array n _) => some (lenArrF n x)
    | some (.map _ _) => some (lenMapF w x)
    | some (.pointer a) => (match P.underlying a with | some (.array n _) => some (lenArrF n x) | _ => none)
    | _ => none)
  | .cap, [t], [x] => (match P.underlying t with | some (.slice _) => some (capF w x) | _ => none)
  | .clear, [t], [x] => (match P.underlying t with
    | some (.slice e) => (match zeroA P e with | some z => some (clearF w (cellsV z) x) | none => none)
    | _ => none)
  | .delete, t :: _, [m, x] => (match P.underlying t with | some (.map kt _) => (match plainKt P kt with | true => some (deleteF P w kt m x) | false => none) | _ => none)
  | .min, _, [x, y] => some (minF w false x y)
  | .max, _, [x, y] => some (minF w true x y)
  | _, _, _ => none
/-- One operation that is no call of a function: what it does. -/
noncomputable def opF (w : String) (op : Op) : Option F := match op with
  | .move x | .assign x => some (moveF (px x))
  | .pick c a b => some (pickF w (px c) (px a) (px b))
  | .alloc e => (match zeroA P e with | some z => some (allocF e (cellsV z)) | none => none)
  | .box e x => some (boxF e (px x))
  | .build t ps => (match zeroA P t, P.underlying t with
    | some z, some (.struct fs) => (match fs.toList.all (fun f => (szA P f.type).isSome) with | true => some (buildF w (placeStruct P fs.toList) (cellsV z) (pxParts ps.toList)) | false => none)
    | some z, some (.array _ e) => (match szA P e with | some n => some (buildF w (fun i => some (Nat.mul i n, n)) (cellsV z) (pxParts ps.toList)) | none => none)
    | _, _ => none)
  | .buildSlice t len ps => (match P.underlying t with
    | some (.slice e) => (match szA P e, zeroA P e, Nat.ble len 65536 with
      | some n, some z, true => (match Nat.ble (Nat.mul len n) 16777216 && Nat.beq (lenL (cellsV z)) n with | true => some (buildSliceF w e n len (repL (cellsV z) len) (pxParts ps.toList)) | false => none)
      | _, _, _ => none)
    | _ => none)
  | .load t a => (match shapeA P t with | some none => some (load1F w (px a)) | some (some n) => some (loadNF w n (px a)) | none => none)
  | .store t a x => (match shapeA P t, szA P t with | some none, some 1 => some (store1F w (px a) (px x)) | some (some n), _ => some (storeNF w n (px a) (px x)) | _, _ => none)
  | .nilCheck x => some (nilCheckF w (px x))
  | .binOp op t x y _ => binOpF P w op t (isK x || isK y) (px x) (px y)
  | .unOp op _ x => unOpF w op (px x)
  | .convert s d x => convertF P w s d (px x)
  | .makeInterface t x => (match P.underlying t with | some (.interface _) => none | some _ => some (makeInterfaceF t (px x)) | none => none)
  | .makeFunc f a b => (match f with | .yield _ => none | f => some (makeFuncF f (pxs a.toList) (pxs b.toList)))
  | .makeMap _ none => some makeMapF
  | .makeSlice t l c => (match P.underlying t with
    | some (.slice e) => (match P.info? e, zeroA P e with | some i, some z => (match Nat.beq (lenL (cellsV z)) i.size with | true => some (makeSliceF w e i.bytes (cellsV z) (px l) (px c)) | false => none) | _, _ => none)
    | _ => none)
  | .slice t x lo hi mx => sliceF P w t (px x) (optX lo) (optX hi) (optX mx)
  | .fieldAddr t x f => (match fieldOf P t f with
    | some fd => (match szA P fd.type with | some 0 => none | some _ => some (fieldAddrF w fd.offset (px x)) | none => none)
    | none => none)
  | .field t x f => (match fieldOf P t f with
    | some fd => (match shapeA P fd.type with | some s => some (fieldF w s fd.offset (px x)) | none => none)
    | none => none)
  | .indexAddr t x i => (match P.underlying t with
    | some (.array n e) => (match szA P e with | some s => some (indexArrF w n s (px x) (px i)) | none => none)
    | some (.slice e) => (match szA P e with | some s => some (indexSlF w s (px x) (px i)) | none => none)
    | _ => none)
  | .index t x i => (match P.underlying t with
    | some (.array n e) => (match szA P e, shapeA P e with | some s, some sh => some (indexValF w n s sh (px x) (px i)) | _, _ => none)
    | some .string => some (indexStrF w (px x) (px i))
    | _ => none)
  | .lookup t m x ok => (match P.underlying t with
    | some (.map kt e) => (match plainKt P kt, zeroA P e with | true, some z => some (lookupF P w kt z ok (px m) (px x)) | _, _ => none)
    | _ => none)
  | .mapUpdate t m x v | .insert t m x v => (match P.underlying t with | some (.map kt _) => (match plainKt P kt with | true => some (mapUpdateF P w kt (px m) (px x) (px v)) | false => none) | _ => none)
  | .range t x => (match P.underlying t with | some .string => some (rangeStrF w (px x)) | _ => none)
  | .next x true => some (nextStrF w (px x))
  | .typeAssert x _ as ok => some (typeAssertF P w as ok (px x))
  | .extract x i => some (extractF w i (px x))
  | .call { callee := .builtin b, args := as, argTypes := ts } => builtinF P w b ts.toList (pxs as.toList)
  | _ => none
end

end Go.Ev
