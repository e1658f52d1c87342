import Derived.Test.YtmmfimkbcnfgfaaGreatEvLaw
/- The sum of bytes, as the kernel reckons it. -/
namespace Go.Ev

/-- One bit goes out. -/
noncomputable def crc1 (n : Nat) : Nat := Nat.xor (Nat.shiftRight n 1) (Nat.mul 2197175160 (Nat.land n 1))
noncomputable def crc8 {β : Type} (n : Nat) (k : Nat → β) : β :=
  natF (crc1 n) fun n => natF (crc1 n) fun n => natF (crc1 n) fun n => natF (crc1 n) fun n =>
  natF (crc1 n) fun n => natF (crc1 n) fun n => natF (crc1 n) fun n => natF (crc1 n) k
/-- The sum behind cells that are bytes. -/
noncomputable def crcCells (l : List AV) : Nat → (Nat → Res) → Res :=
  List.rec (motive := fun _ => Nat → (Nat → Res) → Res) (fun n k => k n)
    (fun v _ ih n k => asInt v (fun _ x => Int.rec (fun x => onB (Nat.ble (Nat.succ x) 256) (natF (Nat.xor n x) fun n => crc8 n fun n => ih n k) (.fail ["crc: a byte"])) (fun _ => .fail ["crc: a byte"]) x) (.fail ["crc: a byte"])) l
noncomputable def crcOn (s : AV) (H : AH) (n : Nat) (k : Nat → Res) : Res := match s with
  | .nil .slice => k n
  | .slice b o l _ => onB (capKnown l) (onO (H.m.get b) (fun x => asCells x (fun c _ _ => onO (takeL l (dropL o c)) (fun l => crcCells l n k) (.fail ["crc: cells"])) (.fail ["crc: cells"])) (.fail ["crc: cells"])) (.fail ["crc: cells"])
  | _ => .fail ["crc: no slice"]
/-- crc.More. -/
noncomputable def crcMore (args : List AV) (H : AH) : Res := match args with
  | [.int .u32 (.ofNat n), s] => onB (Nat.ble (Nat.succ n) 4294967296) (natF (Nat.sub 4294967295 n) fun n => crcOn s H n fun n => natF (Nat.sub 4294967295 n) fun n => .ok (.int .u32 (.ofNat n)) H) (.fail ["crc"])
  | _ => .fail ["crc"]
end Go.Ev
