/- Lists of boxes in the exact laws; live parts and dead rules: plain laws. -/
import Derived.Test.YtajcogpfmpehkaaDoorDxBT
import Derived.Test.YtajcogpfmpehkaaDoorFnX
import Derived.Test.YtajcogpfmpehkaaDoorFtW
import Derived.Test.YtajcogpfmpehkaaDoorCuW
import Derived.Test.YtajcogpfmpehkaaDoorDxAJ
namespace Go.Proofs.YtajcogpfmpehkaaDoor
open Go.RowKit
/-- Boxes of the call's own. -/
def GBs : World → Nat → Nat → Value → List Bx → Prop := OwnG 32 1 enc1 GRw
theorem GBs.kind : Kind GBs := OwnG.kind GRw.kind
theorem GBs.bxs {w : World} {lo hi : Nat} {v : Value} {bs : List Bx} (h : GBs w lo hi v bs) : Bxs lo w v bs := by
  obtain ⟨vs, h1, h2, h3, h4⟩ := h
  exact ⟨vs, OwnSl.fr (sz := 1) (enc := enc1) (fun _ => rfl) h1, h4.all2 (GRw.kind.leO w _) (fun l m x y g1 _ g3 => Rws.mono g3.1.rws g1)⟩
theorem GBs.form {w : World} {lo hi : Nat} {v : Value} {bs : List Bx} (h : GBs w lo hi v bs) : ∃ a cap, v = .slice a bs.length cap ∧ bs.length ≤ cap ∧ cap ≤ maxLen := Bxs.form h.bxs
theorem GBs.nil (w : World) {lo hi : Nat} (h : lo ≤ hi) : GBs w lo hi (.slice none 0 0) [] := ⟨[], World.ownsRow_nil _ _ _ _, (fun z hz => by cases hz), h, h⟩
/-- What the rules before rule k leave of its box. -/
def livek (fs : List Ft) (k : Nat) : Option (List Bx) := match fs[k]? with
  | some f => blessB f.box (fboxes (fs.take k))
  | none => none
def livep (fs : List Ft) (n : Int) : Option (List Bx) := if fvalid fs && inB n 0 ((fs.length : Int) - 1) then livek fs n.toNat else none
def livef (fs : List Ft) (n : Int) : List Bx := (livep fs n).getD []
theorem blessB_valid {b : Bx} {xs ys : List Bx} (hb : bvalid b = true) (h : blessB b xs = some ys) : rvalid ys = true := bless_valid (bstart_valid hb) h
/-- Rule k decides about nothing. -/
def deadk (fs : List Ft) (k : Nat) : Bool := match livek fs k with
  | some [] => true
  | _ => false
def deadl (fs : List Ft) : Nat → List Int
  | 0 => []
  | k + 1 => deadl fs k ++ (if deadk fs k then [(k : Int)] else [])
def deads (fs : List Ft) : List Int := if fvalid fs then deadl fs fs.length else []
def dropl (fs : List Ft) : Nat → List Ft
  | 0 => []
  | k + 1 => dropl fs k ++ (if deadk fs k then [] else (fs[k]?).toList)
def dropd (fs : List Ft) : List Ft := if fvalid fs then dropl fs fs.length else []
end Go.Proofs.YtajcogpfmpehkaaDoor
