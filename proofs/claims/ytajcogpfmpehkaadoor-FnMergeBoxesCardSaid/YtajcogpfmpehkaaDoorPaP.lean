/- Parts of all packets, witnesses, newly open packets: plain definitions and laws. -/
import Derived.Test.YtajcogpfmpehkaaDoorMbMf
import Derived.Test.YtajcogpfmpehkaaDoorDt
import Derived.Test.YtajcogpfmpehkaaDoorCuW
namespace Go.Proofs.YtajcogpfmpehkaaDoor
open Go.RowKit
/-- What the rules before place k leave: of the rule's box, or, behind all rules, of all packets. -/
def liveAt (fs : List Ft) (k : Nat) : Option (List Bx) := match fs[k]? with
  | some f => blessB f.box (fboxes (fs.take k))
  | none => blessB ball (fboxes (fs.take k))
def accAt (fs : List Ft) (r : Bool) (k : Nat) : Bool := match fs[k]? with
  | some f => f.acc
  | none => r
def addp (out : List Ft) (live : List Bx) (a : Bool) : List Ft := out ++ live.map (fun b => ⟨b, a⟩)
def partl (fs : List Ft) (r : Bool) : Nat → Option (List Ft)
  | 0 => some []
  | k + 1 => match partl fs r k with
    | none => none
    | some out => match liveAt fs k with
      | none => none
      | some live => if (addp out live (accAt fs r k)).length ≤ 400 then some (addp out live (accAt fs r k)) else none
def parts (fs : List Ft) (r : Bool) : Option (List Ft) := partl fs r (fs.length + 1)
def psel (out : List Ft) (a : Bool) : List Bx := (out.filter (fun f => decide (f.acc = a))).map Ft.box
def fparts (fs : List Ft) (r : Bool) : Option (List Ft) := if fvalid fs then parts fs r else none
def fpart (fs : List Ft) (r a : Bool) : List Bx := match fparts fs r with
  | some o => psel o a
  | none => []
/-- A common packet of two boxes, the smallest one. -/
def bcom (a b : Bx) : Option Pk := if bempty (bmeet a b) then none else some ⟨fcv a b 0, fcv a b 1, fcv a b 2, fcv a b 3⟩
def pk0 : Pk := ⟨0, 0, 0, 0⟩
def pkV (p : Pk) : Value := .agg #[.int .i64 p.from_, .int .i64 p.to_, .int .i64 p.port, .int .i64 p.proto]
/-- The first two boxes, one of each list, that have a common packet. -/
def ftouch (A B : List Bx) : Option Pk := A.findSome? (fun x => B.findSome? (bcom x))
def fdif (fs : List Ft) (r : Bool) (gs : List Ft) (c : Bool) : Option Pk := match fparts fs r, fparts gs c with
  | some x, some y => match ftouch (psel x true) (psel y false) with
    | some p => some p
    | none => ftouch (psel x false) (psel y true)
  | _, _ => none
def fdifP (fs : List Ft) (r : Bool) (gs : List Ft) (c : Bool) : Pk := (fdif fs r gs c).getD pk0
def fsame (fs : List Ft) (r : Bool) (gs : List Ft) (c : Bool) : Int := match fparts fs r, fparts gs c with
  | some _, some _ => if (fdif fs r gs c).isSome then 0 else 1
  | _, _ => -1
def BV2 (A : List Bx) : Prop := ∀ z ∈ A, bvalid z = true
/-- What the first list drops and the second one accepts. -/
def bopen (A B : List Bx) : List Bx := A.flatMap (fun a => (B.map (bmeet a)).filter (fun m => !bempty m))
def nopenO (fs : List Ft) (r : Bool) (gs : List Ft) (c : Bool) : Option (List Bx) := match fparts fs r, fparts gs c with
  | some x, some y => if rvalid (bopen (psel x false) (psel y true)) then some (bopen (psel x false) (psel y true)) else none
  | _, _ => none
def nopen (fs : List Ft) (r : Bool) (gs : List Ft) (c : Bool) : List Bx := (nopenO fs r gs c).getD []
end Go.Proofs.YtajcogpfmpehkaaDoor
