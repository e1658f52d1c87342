import Derived.Test.YtmmfimkbcnfgfaaGreatEvOps
/- The abstract evaluator: code and calls. -/
namespace Go.Ev

abbrev CallT := FuncId → List AV → AH → Res

noncomputable def findMethod (name : String) : List Method → Option Method :=
  List.rec (motive := fun _ => Option Method) none (fun m _ ih => Bool.rec ih (some m) (m.name == name))
section
variable (P : Program)
/-- A value of type t behind an address. -/
noncomputable def loadA (t : TypeId) (v : AV) (H : AH) : Option AV := match v, shapeA P t with
  | .ptr b o, some s => (match H.m.get b with | some (.cells c _ _) => readS s c o | _ => none)
  | _, _ => none
/-- How the method of a dynamic type is reached: its function; none: the receiver is the value; some e: what it points to, of type e. -/
noncomputable def methodOf (t : TypeId) (name : String) : Option (FuncId × Option TypeId) := match P.info? t with
  | some i => (match findMethod name i.methods.toList with
    | some m => (match m.path.toList, m.func with
      | [], some (f, ptr) => (match P.underlying t, ptr with
        | some (.pointer _), true => some (f, none)
        | some (.pointer e), false => some (f, some e)
        | some _, false => some (f, none)
        | _, _ => none)
      | _, _ => none)
    | none => none)
  | none => none
noncomputable def recvA (v : AV) (e : Option TypeId) (H : AH) : Option AV := match e with | none => some v | some e => loadA P e v H
noncomputable def callM (call : CallT) (t : TypeId) (v : AV) (name : String) (args : List AV) (H : AH) : Res := match methodOf P t name with
  | some (f, e) => (match recvA P v e H with | some r => call f (r :: args) H | none => .fail ["method: receiver", name])
  | none => .fail ["no such method", name]
noncomputable def viaA (call : CallT) (t : TypeId) (path : List FieldStep) (f : FuncId) (ptr : Bool) (l : List AV) (H : AH) : Res := match l, path, P.underlying t, ptr with
  | v :: rest, [], some (.pointer _), true => call f (v :: rest) H
  | v :: rest, [], some (.pointer e), false => (match loadA P e v H with | some x => call f (x :: rest) H | none => .fail ["via"])
  | v :: rest, [], some _, false => call f (v :: rest) H
  | _, _, _, _ => .fail ["via"]
noncomputable def callV (call : CallT) (fv : AV) (args : List AV) (H : AH) : Res := match fv with
  | .func (.func f) fst cap => call f ((fst ++ args) ++ cap) H
  | .func (.method name) fst _ => (match fst ++ args with
    | .iface t v :: rest => callM P call t v name rest H
    | _ => .fail ["a method value", name])
  | .func (.methodOf t name) fst _ => (match P.underlying t, fst ++ args with
    | some (.interface _), .iface u v :: rest => callM P call u v name rest H
    | some (.interface _), _ => .fail ["a method expression", name]
    | some _, v :: rest => callM P call t v name rest H
    | _, _ => .fail ["a method expression", name])
  | .func (.via t path f ptr) fst _ => viaA P call t path.toList f ptr (fst ++ args) H
  | _ => .fail ["no function value"]
end

/-- What is called, prepared. -/
inductive PC | func (f : FuncId) | value (x : PX) | invoke (r : PX) (name : String)

/-- An operation, prepared. plain: with the names that it may look at; guarded: with what tells whether it is done, and the place of its value. -/
inductive PO
  | plain (f : F) (ft : Tm → List Nat) (d : Option Pth)
  | call (c : PC) (as : List PX) (d : Option Pth) (w : String)
  | guarded (p : Pth) (want : Bool) (d : Option Pth) (o : PO)
  | defer (x : PX) (as : List PX) (d : Option Pth)
  | panic (x : PX)
  | recover (d : Option Pth)
  | bad (w : String)

noncomputable def memN (b : Nat) (l : List Nat) : Bool := List.rec false (fun x _ ih => Bool.rec ih true (Nat.beq x b)) l
def idsOf : AV → List Nat
  | .ptr b _ | .slice b _ _ _ | .map b => [b]
  | _ => []
noncomputable def valO (x : PX) (T : Tm) : Option AV := match x with
  | .tmp p => (match T.t.getP p with | some v => some v | none => some undefA)
  | .const v => some v
  | .none => none
noncomputable def idsOfAll (T : Tm) : List PX → List Nat
  | [] => []
  | x :: r => (match valO x T with | some v => idsOf v | none => []) ++ idsOfAll T r
def mapIds : AV → List Nat
  | .map r => [r]
  | _ => []
noncomputable def mapIdsOfAll (T : Tm) : List PX → List Nat
  | [] => []
  | x :: r => (match valO x T with | some v => mapIds v | none => []) ++ mapIdsOfAll T r
/-- The names that an operation may look at or write: those in what it is given, if it looks at memory at all. -/
noncomputable def footOf (o : Op) : Tm → List Nat := match o with
  | .load _ _ | .store _ _ _ | .lookup _ _ _ _ | .mapUpdate _ _ _ _ | .insert _ _ _ _ | .convert _ _ _ | .next _ _ => fun T => idsOfAll T (pxs o.operands.toList)
  | .call { callee := .builtin .len, args := as, argTypes := _ } => fun T => mapIdsOfAll T (pxs as.toList)
  | .call { callee := .builtin .cap, args := _, argTypes := _ } => fun _ => []
  | .call c => fun T => idsOfAll T (pxs c.args.toList)
  | _ => fun _ => []
noncomputable def pdOf (d : Option Tmp) : Option Pth := match d with | some d => some (pathOf d) | none => none
noncomputable def prepK (P : Program) (o : Oper) : PO := match o.op with
  | .call { callee := .builtin .recover, args := _, argTypes := _ } => .recover (pdOf o.dst)
  | .call { callee := .value (.func f), args := as, argTypes := _ } => .call (.func f) (pxs as.toList) (pdOf o.dst) o.pos
  | .call { callee := .value x, args := as, argTypes := _ } => .call (.value (px x)) (pxs as.toList) (pdOf o.dst) o.pos
  | .call { callee := .invoke r name, args := as, argTypes := _ } => .call (.invoke (px r) name) (pxs as.toList) (pdOf o.dst) o.pos
  | .defer { callee := .value x, args := as, argTypes := _ } => .defer (px x) (pxs as.toList) (pdOf o.dst)
  | .panic x => .panic (px x)
  | op => (match opF P o.pos op with
    | some f => .plain f (footOf op) (pdOf o.dst)
    | none => .bad o.pos)
noncomputable def prep (P : Program) (all : List Oper) (o : Oper) : PO := match o.guard with
  | none => prepK P o
  | some (j, want) => (match nth all j with
      | some p => (match p.dst with | some d => .guarded (pathOf d) want (pdOf o.dst) (prepK P o) | none => .bad o.pos)
      | none => .bad o.pos)
noncomputable def prepAll (P : Program) (all : List Oper) : List Oper → List PO
  | [] => []
  | o :: r => prep P all o :: prepAll P all r

section
variable (P : Program)
noncomputable def ofRes (T : Tm) (r : Res) (k : AV → AH → R) (w : String) : R := Res.rec k (fun v H => .panic v T H) (fun l => .fail (w :: l)) r
noncomputable def callee (c : PC) (as : List PX) (call : CallT) (T : Tm) (H : AH) (k : Res → R) : R := withAll as T fun l => (match c with
  | .func f => k (call f l H)
  | .value x => withO x T fun v => k (callV P call v l H)
  | .invoke r name => withO r T fun v => (match v with | .iface t x => k (callM P call t x name l H) | _ => bad name))
abbrev OpT := CallT → Tm → AH → (Tm → AH → R) → R
noncomputable def plainK (f : F) (_ : Tm → List Nat) (d : Option Pth) : OpT := fun _ T H k => f T H fun v H => putD d v T fun T => k T H
noncomputable def callK (c : PC) (as : List PX) (d : Option Pth) (w : String) : OpT := fun call T H k => callee P c as call T H fun r => ofRes T r (fun v H => putD d v T fun T => k T H) w
noncomputable def told (p : Pth) (want : Bool) (T : Tm) : Bool := onO (Fr.getP p T.t) (fun v => asBool v (fun b => Bool.rec (Bool.rec true false want) want b) false) false
noncomputable def guardK (p : Pth) (want : Bool) (d : Option Pth) (_ : PO) (ih : OpT) : OpT := fun call T H k => onB (told p want T) (ih call T H k) (putD d undefA T fun T => k T H)
noncomputable def deferK (x : PX) (as : List PX) (d : Option Pth) : OpT := fun _ T H k => withO x T fun v => withAll as T fun l => (match v, T.rm with
  | .func fn f c, .no => putD d undefA ⟨T.t, (.func fn f c, l) :: T.ds, .no⟩ fun T => k T H
  | _, _ => bad "defer")
noncomputable def panicK (x : PX) : OpT := fun _ T H _ => withO x T fun v => (match v with | .iface t v => .panic (.iface t v) T H | _ => bad "panic")
noncomputable def recoverK (d : Option Pth) : OpT := fun _ T H k => (match T.rm with
  | .no => bad "recover"
  | .panicking v => putD d v ⟨T.t, T.ds, .recovered⟩ fun T => k T H
  | _ => putD d (.nil .iface) T fun T => k T H)
noncomputable def evOp (o : PO) : OpT := PO.rec (motive := fun _ => OpT) plainK (callK P) guardK deferK panicK recoverK (fun w _ _ _ _ => bad w) o
noncomputable def evOps (ops : List PO) : OpT :=
  List.rec (motive := fun _ => OpT) (fun _ T H k => k T H) (fun o _ ih call T H k => evOp P o call T H fun T H => ih call T H k) ops
end

/-- What an operation of a drawn region did: its number, the names that it wrote, those that it made (lo to hi), those that it could read, or all. -/
structure DRec where
  i : Nat
  log : List Nat
  lo : Nat
  hi : Nat
  fp : List Nat
  all : Bool
noncomputable def DRec.touch (r : DRec) (b : Nat) : Bool := Bool.rec (Bool.rec false (Nat.ble (Nat.succ b) r.hi) (Nat.ble r.lo b)) true (memN b r.log)
noncomputable def touchAny (b : Nat) (rs : List DRec) : Bool := List.rec false (fun r _ ih => Bool.rec ih true (r.touch b)) rs
noncomputable def untouched (l : List Nat) (rs : List DRec) : Bool := List.rec true (fun b _ ih => Bool.rec ih false (touchAny b rs)) l
/-- The records of operations that do not stand ahead. -/
noncomputable def unordered (bef : Nat) (rs : List DRec) : List DRec := List.rec [] (fun r _ ih => Bool.rec (r :: ih) ih (Nat.testBit bef r.i)) rs
noncomputable def restrictTo (H : AH) (ids : List Nat) : AH :=
  ⟨List.rec .nil (fun b _ ih => Option.rec ih (fun o => ih.upd b (some o)) (H.m.get b)) ids, H.nxt, []⟩
noncomputable def eraseL (t : Tr AObj) (ids : List Nat) : Tr AObj := List.rec t (fun b _ ih => ih.upd b none) ids
noncomputable def eraseR (t : Tr AObj) (lo n : Nat) : Tr AObj := Nat.rec t (fun k ih => ih.upd (Nat.add lo k) none) n
noncomputable def minusAll (t : Tr AObj) (rs : List DRec) : Tr AObj := List.rec t (fun r _ ih => eraseR (eraseL ih r.log) r.lo (Nat.sub r.hi r.lo)) rs
noncomputable def minusR (H : AH) (rs : List DRec) : AH := ⟨minusAll H.m rs, H.nxt, []⟩
noncomputable def copyL (t u : Tr AObj) (ids : List Nat) : Tr AObj := List.rec t (fun b _ ih => ih.upd b (u.get b)) ids
noncomputable def copyR (t u : Tr AObj) (lo n : Nat) : Tr AObj := Nat.rec t (fun k ih => ih.upd (Nat.add lo k) (u.get (Nat.add lo k))) n
noncomputable def merged (H E : AH) : AH := ⟨copyR (copyL H.m E.m E.log) E.m H.nxt (Nat.sub E.nxt H.nxt), E.nxt, E.log ++ H.log⟩
/-- What was written must not have been read, or touched, by what does not stand ahead. -/
noncomputable def writeOk (nxt b : Nat) (rs : List DRec) : Bool := List.rec true (fun r _ ih => Bool.rec (Bool.rec ih false (memN b r.fp)) (Bool.rec false ih (Nat.ble nxt b)) r.all) rs
noncomputable def writesOk (nxt : Nat) (log : List Nat) (rs : List DRec) : Bool :=
  List.rec true (fun b _ ih => Bool.rec false (Bool.rec ih false (touchAny b rs)) (writeOk nxt b rs)) log

/-- How an operation of a drawn region is run: it leaves memory alone; it reads it, and so does all that may change places with it; it has to do with memory, and nothing that may change places with it has;
  it is kept apart from what may change places with it (rd: it reads only; bef: what stands ahead). -/
inductive Md | quiet | reads | more | apart (rd : Bool) (bef : Nat)
/-- An operation of a drawn region, prepared: with the temporaries that what may change places with it writes. -/
structure DO where
  po : PO
  md : Md
  del : List Pth
  dst : Option Pth
section
variable (P : Program)
noncomputable def resV (k : AV → AH → R) (w : String) (res : Res) : R := Res.rec k (fun _ _ => .fail [w, "drawn: a panic"]) (fun l => .fail (w :: l)) res
/-- An operation's value. -/
noncomputable def evV (o : PO) (call : CallT) (T : Tm) (H : AH) (k : AV → AH → R) : R := match o with
  | .plain f _ _ => f T H k
  | .call c as _ w => callee P c as call T H (resV k w)
  | .guarded p want _ (.plain f _ _) => onB (told p want T) (f T H k) (k undefA H)
  | .guarded p want _ (.call c as _ w) => onB (told p want T) (callee P c as call T H (resV k w)) (k undefA H)
  | _ => bad "drawn: what may not stand there"
/-- The names that it may look at; none: any. -/
noncomputable def footV (o : PO) (T : Tm) : Option (List Nat) := match o with
  | .plain _ ft _ => some (ft T)
  | .guarded _ _ _ (.plain _ ft _) => some (ft T)
  | _ => none
def ret0 (v : AV) (E : AH) : R := .panic v ⟨.nil, [], .no⟩ E
noncomputable def caught (r : R) (k : AV → AH → R) : R := R.rec (fun _ _ _ => bad "drawn") (fun v _ E => k v E) (fun l => .fail l) r
noncomputable def isNilL {α : Type} (l : List α) : Bool := List.rec true (fun _ _ _ => false) l
/-- Nothing was written or made. -/
noncomputable def still (n : Nat) (E : AH) : Bool := Bool.rec false (Nat.beq E.nxt n) (isNilL E.log)
noncomputable def erasedT (T : Tm) (ps : List Pth) : Tm := Tm.rec (fun t ds rm => ⟨List.rec t (fun p _ ih => ih.updP p none) ps, ds, rm⟩) T
noncomputable def oneApart (rd : Bool) (bef : Nat) (o : PO) (call : CallT) (i : Nat) (T : Tm) (H : AH) (rs : List DRec) (k : AV → AH → List DRec → R) (fp : List Nat) (all : Bool) (K : AH) : R :=
  caught (evV P o call T K ret0) fun v E => onB (Bool.rec (Nat.ble H.nxt E.nxt) (still H.nxt E) rd) (onB (writesOk H.nxt E.log (unordered bef rs)) (k v (merged H E) (⟨i, E.log, H.nxt, E.nxt, fp, all⟩ :: rs)) (bad "drawn: a write")) (bad "drawn: not only read")
noncomputable def oneD (m : Md) (o : PO) (call : CallT) (i : Nat) (T : Tm) (H : AH) (rs : List DRec) (k : AV → AH → List DRec → R) : R := match m with
  | .quiet => caught (evV P o call T ⟨.nil, H.nxt, []⟩ ret0) fun v E => onB (still H.nxt E) (k v H rs) (bad "drawn: not quiet")
  | .reads => caught (evV P o call T ⟨H.m, H.nxt, []⟩ ret0) fun v E => onB (still H.nxt E) (k v H rs) (bad "drawn: not only read")
  | .more => caught (evV P o call T H ret0) fun v E => onB (Nat.ble H.nxt E.nxt) (k v E rs) (bad "drawn: names")
  | .apart rd bef => (match footV o T with
    | some fp => onB (untouched fp (unordered bef rs)) (oneApart P rd bef o call i T H rs k fp false (restrictTo H fp)) (bad "drawn: a read")
    | none => oneApart P rd bef o call i T H rs k [] true (minusR H (unordered bef rs)))
noncomputable def evDrawn (ops : List DO) : CallT → Nat → List DRec → Tm → AH → (Tm → AH → R) → R :=
  List.rec (motive := fun _ => CallT → Nat → List DRec → Tm → AH → (Tm → AH → R) → R) (fun _ _ _ T H k => k T H)
    (fun o _ ih call i rs T H k => oneD P o.md o.po call i (erasedT T o.del) H rs fun v H rs => putD o.dst v T fun T => ih call (Nat.succ i) rs T H k) ops
end

/-- Whether an operation leaves memory alone, looks at it, or more. -/
inductive Loud | quiet | reads | more
def loudOf (o : Op) : Loud := match o with
  | .move _ | .assign _ | .pick _ _ _ | .build _ _ | .nilCheck _ | .binOp _ _ _ _ _ | .unOp _ _ _ | .makeInterface _ _ | .makeFunc _ _ _ | .slice _ _ _ _ _ | .fieldAddr _ _ _ | .field _ _ _
  | .indexAddr _ _ _ | .index _ _ _ | .typeAssert _ _ _ _ | .extract _ _ => .quiet
  | .call { callee := .builtin .cap, args := _, argTypes := _ } | .call { callee := .builtin .min, args := _, argTypes := _ } | .call { callee := .builtin .max, args := _, argTypes := _ } => .quiet
  | .load _ _ | .lookup _ _ _ _ => .reads
  | .call { callee := .builtin .len, args := _, argTypes := _ } => .reads
  | _ => .more
def disturb (a b : Loud) : Bool := match a, b with
  | .more, .reads | .reads, .more | .more, .more => true
  | _, _ => false

/-- The temporaries that an operation looks at. -/
noncomputable def looksA (all : List Oper) (o : Oper) : List Nat :=
  (match o.guard with
   | none => []
   | some (j, _) => (match nth all j with | some p => p.dst.toList | none => [])) ++
  o.dst.toList ++ o.op.operands.toList.filterMap fun | .tmp t => some t | _ => none
noncomputable def ordered (bef : List Nat) (i j : Nat) : Bool := match nth bef (Nat.max i j) with | some b => Nat.testBit b (Nat.min i j) | none => false
/-- Ahead of an operation stand all whose temporaries it looks at; behind it all that write what it looks at. -/
noncomputable def tmpsOk (all : List Oper) (bef : List Nat) : Bool :=
  all.zipIdx.all fun (x, i) => all.zipIdx.all fun (y, j) =>
    Nat.beq i j || (match y.dst with
      | none => true
      | some d => !(memN d (looksA all x)) || ordered bef i j)
noncomputable def edgesOk (all : List Oper) : Bool :=
  all.zipIdx.all fun (x, i) => x.after.toList.all fun e => !(Region.binds .any e) || Nat.ble (Nat.succ e.on) i
noncomputable def apartOk (a b : Md) : Bool := match a, b with
  | .quiet, _ | _, .quiet | .reads, .reads | .reads, .apart true _ | .apart true _, .reads | .apart _ _, .apart _ _ => true
  | _, _ => false
/-- How each operation is run. -/
noncomputable def modeOf (all : List Oper) (bef : List Nat) (x : Oper) (i : Nat) : Md := match loudOf x.op with
  | .quiet => .quiet
  | l => (match all.zipIdx.any fun (y, j) => disturb l (loudOf y.op) && !(Nat.beq i j) && !(ordered bef i j) with
    | true => .apart (match l with | .reads => true | _ => false) ((nth bef i).getD 0)
    | false => (match l with | .reads => .reads | _ => .more))
noncomputable def modesOf (all : List Oper) (bef : List Nat) : List Md := all.zipIdx.map fun (x, i) => modeOf all bef x i
noncomputable def befIs (bef : List Nat) (i : Nat) (m : Md) : Bool := match m with
  | .apart _ b => Nat.beq b ((nth bef i).getD 0)
  | _ => true
noncomputable def modesOk (ms : List Md) (bef : List Nat) : Bool :=
  ms.zipIdx.all fun (x, i) => befIs bef i x && ms.zipIdx.all fun (y, j) => !(Nat.ble (Nat.succ j) i) || Nat.testBit ((nth bef i).getD 0) j || apartOk y x
/-- Each temporary is written once. -/
noncomputable def dstsOnce (all : List Oper) : Bool :=
  all.zipIdx.all fun (x, i) => all.zipIdx.all fun (y, j) => Nat.beq i j || (match x.dst, y.dst with | some a, some b => !(Nat.beq a b) | _, _ => true)
noncomputable def delOf (all : List Oper) (bef : List Nat) (i : Nat) : List Pth :=
  all.zipIdx.filterMap fun (y, j) => match y.dst, Nat.ble (Nat.succ j) i && !(Nat.testBit ((nth bef i).getD 0) j) with | some d, true => some (pathOf d) | _, _ => none
noncomputable def prepD (P : Program) (all : List Oper) (bef : List Nat) : List Oper → Nat → List DO
  | [], _ => []
  | o :: r, i => ⟨prep P all o, modeOf all bef o i, delOf all bef i, pdOf o.dst⟩ :: prepD P all bef r (Nat.succ i)
noncomputable def drawnOk (ops : Array Oper) : Bool := edgesOk ops.toList && dstsOnce ops.toList && tmpsOk ops.toList (Region.before ops).toList && modesOk (modesOf ops.toList (Region.before ops).toList) (Region.before ops).toList
/-- All drawn regions of code are such that temporaries tell no order apart. -/
noncomputable def codeOk : Code → Bool
  | .region _ ops true => drawnOk ops
  | .seq a b => codeOk a && codeOk b
  | .cond _ a b => codeOk a && codeOk b
  | .block _ b => codeOk b
  | .loop b => codeOk b
  | .scope b => codeOk b
  | _ => true
noncomputable def progOk (P : Program) : Bool := P.funcs.toList.all fun fn => match fn.body with | some c => codeOk c | none => true
noncomputable def dstsOk (n : Nat) (ops : List Oper) : Bool := ops.all fun o => match o.dst with | some d => Nat.ble (Nat.succ d) n | none => true

/-- Code, prepared. -/
inductive CC
  | skip | label | ret | bad
  | exit (i : Nat)
  | region (ops : List PO)
  | drawn (ops : List DO)
  | seq (a b : CC)
  | cond (o : PX) (a b : CC)
  | block (i : Nat) (b : CC)
  | loop (b : CC)
  | scope (b : CC)
noncomputable def prepC (P : Program) (n : Nat) : Code → CC
  | .skip => .skip
  | .label _ => .label
  | .ret => .ret
  | .exit i => .exit i
  | .region _ ops d => (match dstsOk n ops.toList, d with
    | true, false => .region (prepAll P ops.toList ops.toList)
    | true, true => .drawn (prepD P ops.toList (Region.before ops).toList ops.toList 0)
    | false, _ => .bad)
  | .seq a b => .seq (prepC P n a) (prepC P n b)
  | .cond o a b => .cond (px o) (prepC P n a) (prepC P n b)
  | .block i b => .block i (prepC P n b)
  | .loop b => .loop (prepC P n b)
  | .scope b => .scope (prepC P n b)
  | _ => .bad
/-- A result, prepared. -/
inductive PR | tmp (x : PX) | cell (x : PX) (t : TypeId)
noncomputable def prepR : List ResultVar → List PR
  | [] => []
  | .tmp t :: r => .tmp (px (.tmp t)) :: prepR r
  | .cell a t :: r => .cell (px (.tmp a)) t :: prepR r
/-- A function, prepared: its number of temporaries, its results, its body. -/
structure PF where
  n : Nat
  rs : List PR
  c : CC
noncomputable def prepF (P : Program) (f : FuncId) : Option PF := match P.funcs[f]? with
  | some fn => (match fn.body with
    | some c => some ⟨fn.ntmps, prepR fn.results.toList, prepC P fn.ntmps c⟩
    | none => none)
  | none => none

noncomputable def initT (rm : Rm) (args : List AV) : Tm :=
  ⟨(List.rec (motive := fun _ => Nat → Fr AV → Fr AV) (fun _ t => t) (fun v _ ih i t => ih (Nat.succ i) (t.upd i (some v))) args) 0 .nil, [], rm⟩
noncomputable def resOne (P : Program) (T : Tm) (H : AH) (r : PR) : Option AV := match r with
  | .tmp x => valO x T
  | .cell x t => (match valO x T with | some v => loadA P t v H | none => none)
noncomputable def resAll (P : Program) (T : Tm) (H : AH) : List PR → Option (List AV)
  | [] => some []
  | r :: rs => match resOne P T H r, resAll P T H rs with
    | some v, some l => some (v :: l)
    | _, _ => none
noncomputable def resultsA (P : Program) (rs : List PR) (T : Tm) (H : AH) : Res := match resAll P T H rs with
  | some [v] => .ok v H
  | some l => .ok (.tup l) H
  | none => .fail ["results"]

section
variable (P : Program)
abbrev CodeT := CallT → Nat → Tm → AH → (Tm → AH → R) → R
noncomputable def plainFrame (T : Tm) (k : R) : R := Rm.rec k (bad "a deferred call's code") (fun _ => bad "a deferred call's code") (bad "a deferred call's code") T.rm
def nrm (T : Tm) (H : AH) : R := .ok .normal T H
noncomputable def afterLoop (again : Tm → AH → R) (r : R) : R :=
  R.rec (fun e T H => Ex.rec (again T H) (fun i => .ok (.exit i) T H) (.ok .ret T H) e) (fun v T H => .panic v T H) (fun w => .fail w) r
noncomputable def afterBlock (i : Nat) (k : Tm → AH → R) (r : R) : R :=
  R.rec (fun e T H => Ex.rec (k T H) (fun j => onB (Nat.beq j i) (k T H) (.ok (.exit j) T H)) (.ok .ret T H) e) (fun v T H => .panic v T H) (fun w => .fail w) r
noncomputable def seqK (_ _ : CC) (a b : CodeT) : CodeT := fun call n T H k => a call n T H fun T H => b call n T H k
noncomputable def condK (o : PX) (_ _ : CC) (a b : CodeT) : CodeT := fun call n T H k => withO o T fun v => asBool v (fun t => onB t (a call n T H k) (b call n T H k)) (bad "cond")
noncomputable def blockK (i : Nat) (_ : CC) (b : CodeT) : CodeT := fun call n T H k => plainFrame T (afterBlock i k (b call n T H nrm))
noncomputable def loopK (_ : CC) (b : CodeT) : CodeT := fun call n T H _ => plainFrame T
  ((Nat.rec (motive := fun _ => Tm → AH → R) (fun _ _ => bad "a loop's rounds") (fun _ again T H => afterLoop again (b call n T H nrm)) n) T H)
noncomputable def regionK (ops : List PO) : CodeT := fun call _ T H k => evOps P ops call T H k
noncomputable def drawnK (ops : List DO) : CodeT := fun call _ T H k => plainFrame T (evDrawn P ops call 0 [] T H k)
noncomputable def evC (c : CC) : CodeT :=
  CC.rec (motive := fun _ => CodeT) (fun _ _ T H k => k T H) (fun _ _ T H k => plainFrame T (k T H)) (fun _ _ T H _ => .ok .ret T H) (fun _ _ _ _ _ => bad "no such code")
    (fun i _ _ T H _ => plainFrame T (.ok (.exit i) T H)) (regionK P) (drawnK P) seqK condK blockK loopK (fun _ b call n T H k => plainFrame T (b call n T H k)) c

/-- A function's body run from its arguments on. -/
noncomputable def bodyA (call : CallT) (n : Nat) (f : FuncId) (rm : Rm) (args : List AV) (H : AH) (k : List PR → R → Res) : Res := match prepF P f with
  | some p => (match Nat.ble (lenL args) p.n with
      | true => k p.rs (evC P p.c call n (initT rm args) H nrm)
      | false => .fail ["too many arguments"])
  | none => .fail ["no body"]
def afterRm : Rm → Rm
  | .recovered => .returning
  | m => m
/-- How a deferred call ends. -/
noncomputable def defEnd (k : Rm → AH → Res) (rs : List PR) (r : R) : Res := match r with
  | .ok (.exit _) _ _ => .fail ["deferred: exit"]
  | .ok _ T H => (match T.ds, rs with | [], [] => k (afterRm T.rm) H | _, _ => .fail ["deferred: results"])
  | .panic _ _ _ => .fail ["deferred: a panic"]
  | .fail w => .fail w
noncomputable def leaveOne (call : CallT) (n : Nat) (fv : AV) (args : List AV) (m : Rm) (H : AH) (k : Rm → AH → Res) : Res := match fv with
  | .func (.func f) fst cap => bodyA P call n f m ((fst ++ args) ++ cap) H (defEnd k)
  | _ => .fail ["deferred: no plain function"]
noncomputable def leaveEnd (rs : List PR) (T : Tm) (m : Rm) (H : AH) : Res := match m with
  | .returning => resultsA P rs T H
  | .panicking v => .panic v H
  | _ => .fail ["leave"]
/-- The deferred calls of a frame, one behind the other; then its results, or its panic. -/
noncomputable def leave (call : CallT) (n : Nat) (rs : List PR) (T : Tm) (ds : List (AV × List AV)) : Rm → AH → Res :=
  List.rec (motive := fun _ => Rm → AH → Res) (leaveEnd P rs T) (fun d _ ih m H => leaveOne P call n d.1 d.2 m H ih) ds

variable (ovr : FuncId → Option (List AV → AH → Res))
noncomputable def callEnd (call : CallT) (n : Nat) (rs : List PR) (r : R) : Res := match r with
  | .ok (.exit _) _ _ => .fail ["callWith: exit"]
  | .ok _ T H => leave P call n rs T T.ds .returning H
  | .panic v T H => leave P call n rs T T.ds (.panicking v) H
  | .fail w => .fail w
noncomputable def callWith (call : CallT) (n : Nat) (f : FuncId) (args : List AV) (H : AH) : Res := match ovr f with
  | some g => g args H
  | none => bodyA P call n f .no args H (callEnd P call n)
/-- A call: so many calls within calls, so many rounds of a loop. -/
noncomputable def evCall (n : Nat) (depth : Nat) : CallT :=
  Nat.rec (motive := fun _ => CallT) (fun _ _ _ => .fail ["depth"]) (fun _ ih => callWith P ovr ih n) depth
end

def AH.empty : AH := ⟨.nil, gN, []⟩

end Go.Ev
