/- Rules without the dead ones: both walks. -/
import Derived.Test.YtfcbbahlhjdefaaGreatDoorFnX
import Derived.Test.YtfcbbahlhjdefaaGreatDoorCuW
import Derived.Test.YtfcbbahlhjdefaaGreatDoorPaI
/- Counts of hits: plain definitions and laws. -/
namespace Go.Proofs.YtfcbbahlhjdefaaGreatDoor
open Go.RowKit
def hinc (c : List Int) (i : Nat) : List Int := c.set i (c.getD i 0 + 1)
def hidx (fs : List Ft) (p : Pk) : Nat := if fwith fs p 0 < 0 then fs.length else (fwith fs p 0).toNat
def hits (fs : List Ft) (ps : List Pk) : Nat → List Int
  | 0 => List.replicate (fs.length + 1) 0
  | k + 1 => match ps[k]? with
    | some p => hinc (hits fs ps k) (hidx fs p)
    | none => hits fs ps k
def pvalid (ps : List Pk) : Bool := decide (ps.length ≤ 50) && ps.all Pk.ok
def hcount (fs : List Ft) (ps : List Pk) : List Int := if fvalid fs && pvalid ps then hits fs ps ps.length else []
set_option maxRecDepth 20000
theorem infoInt : (Tryz.prog.info? 3).map (fun i => (i.zero, i.size, i.bytes)) = some (some (.int .i64 0), 1, 8) := by kernel_rfl
def Pks (w : World) (v : Value) (xs : List Pk) : Prop := SlAt 4 Pk.enc w v xs
theorem Pks.below {w w' : World} {v : Value} {xs : List Pk} (h : Pks w v xs) (hb : Below w.heap.size w w') : Pks w' v xs := SlAt.below h hb
theorem Pks.at {w : World} {a : Option Addr} {n cap : Nat} {xs : List Pk} (h : Pks w (.slice a n cap) xs) {k : Nat} (hk : k < xs.length) :
    ∃ b o f1 f2 f3 f4, a = some ⟨b, o, none⟩ ∧ b < w.heap.size ∧ xs[k]? = some ⟨f1, f2, f3, f4⟩ ∧
      w.cell? ⟨b, o + k * 4, none⟩ = some (.int .i64 f1) ∧ w.cell? ⟨b, o + k * 4 + 1, none⟩ = some (.int .i64 f2) ∧ w.cell? ⟨b, o + k * 4 + 2, none⟩ = some (.int .i64 f3) ∧
      w.cell? ⟨b, o + k * 4 + 3, none⟩ = some (.int .i64 f4) := by
  obtain ⟨a', cap', he, _, _, hx⟩ := h
  obtain ⟨rfl, _, _⟩ := Value.slice.inj he
  obtain ⟨b, o, ha, hb, hc⟩ := hx k xs[k] (List.getElem?_eq_getElem hk)
  exact ⟨b, o, xs[k].from_, xs[k].to_, xs[k].port, xs[k].proto, ha, hb, List.getElem?_eq_getElem hk, hc 0 _ rfl, hc 1 _ rfl, hc 2 _ rfl, hc 3 _ rfl⟩
def OwnPk (base : Nat) (w : World) (v : Value) (ys : List Pk) : Prop := OwnSl base 33 4 Pk.enc w v ys
def RetPk (ys : List Pk) (w : World) (e : Ending) (w' : World) : Prop := ∃ v, e = .returned v ∧ OwnPk w.heap.size w' v ys ∧ Below w.heap.size w w'
/-- Numbers. -/
abbrev encI (n : Int) : List Value := [.int .i64 n]
def Ins (w : World) (v : Value) (xs : List Int) : Prop := SlAt 1 encI w v xs
theorem Ins.below {w w' : World} {v : Value} {xs : List Int} (h : Ins w v xs) (hb : Below w.heap.size w w') : Ins w' v xs := SlAt.below h hb
theorem Ins.at {w : World} {a : Option Addr} {n cap : Nat} {xs : List Int} (h : Ins w (.slice a n cap) xs) {k : Nat} (hk : k < xs.length) :
    ∃ b o f, a = some ⟨b, o, none⟩ ∧ b < w.heap.size ∧ xs[k]? = some f ∧ w.cell? ⟨b, o + k, none⟩ = some (.int .i64 f) := by
  obtain ⟨a', cap', he, _, _, hx⟩ := h
  obtain ⟨rfl, _, _⟩ := Value.slice.inj he
  obtain ⟨b, o, ha, hb, hc⟩ := hx k xs[k] (List.getElem?_eq_getElem hk)
  exact ⟨b, o, _, ha, hb, List.getElem?_eq_getElem hk, by simpa using hc 0 _ rfl⟩
def OwnIn (base : Nat) (w : World) (v : Value) (ys : List Int) : Prop := OwnSl base 3 1 encI w v ys
theorem OwnIn.ins {base : Nat} {w : World} {v : Value} {ys : List Int} (h : OwnIn base w v ys) : Ins w v ys := OwnSl.at (sz := 1) (enc := encI) (fun _ => rfl) h
def inmarks (k n : Nat) : List Int := (List.range n).map fun i => ((k + i : Nat) : Int)
end Go.Proofs.YtfcbbahlhjdefaaGreatDoor
/- Dead rules: both walks; lists of numbers in an interval of blocks. -/
namespace Go.Proofs.YtfcbbahlhjdefaaGreatDoor
open Go.RowKit
/-- Numbers of the call's own. -/
def GIn (w : World) (lo hi : Nat) (v : Value) (xs : List Int) : Prop := OwnI 3 1 encI w lo hi v xs
theorem GIn.kind : Kind GIn := ⟨fun _ _ _ _ _ h => h.2.2, fun _ _ _ _ _ _ h hw => OwnI.keep h hw⟩
theorem GIn.rd {w : World} {lo hi : Nat} {v : Value} {xs : List Int} (h : GIn w lo hi v xs) : Ins w v xs := OwnIn.ins h.1
theorem GIn.of {w : World} {lo hi : Nat} {v : Value} {xs : List Int} (h : OwnIn lo w v xs) (h1 : w.heap.size ≤ hi) (h2 : lo ≤ hi) : GIn w lo hi v xs := ⟨h, fun z hz => Nat.lt_of_lt_of_le (World.ownsRow.lt h z hz).2 h1, h2⟩
end Go.Proofs.YtfcbbahlhjdefaaGreatDoor
namespace Go.Proofs.YtfcbbahlhjdefaaGreatDoor
open Go.RowKit
/-- The numbers of the dead rules from k on, m rules long. -/
def deadr (fs : List Ft) : Nat → Nat → List Int
  | _, 0 => []
  | k, m + 1 => (if deadk fs k then [(k : Int)] else []) ++ deadr fs (k + 1) m
theorem Ins.atI {w : World} {a : Option Addr} {n cap : Nat} {xs : List Int} (h : Ins w (.slice a n cap) xs) {k : Nat} {x : Int} (hk : xs[k]? = some x) : ∃ b o, a = some ⟨b, o, none⟩ ∧ b < w.heap.size ∧ w.cell? ⟨b, o + k, none⟩ = some (.int .i64 x) := by
  obtain ⟨a', cap', he, _, _, hx⟩ := h
  obtain ⟨rfl, _, _⟩ := Value.slice.inj he
  obtain ⟨b, o, ha, hb, hc⟩ := hx k x hk
  exact ⟨b, o, ha, hb, by simpa using hc 0 _ rfl⟩
theorem Ins.formI {w : World} {v : Value} {xs : List Int} (h : Ins w v xs) : ∃ a cap, v = .slice a xs.length cap ∧ xs.length ≤ cap ∧ cap ≤ maxLen := by
  obtain ⟨a, cap, he, h1, h2, _⟩ := h
  exact ⟨a, cap, he, h1, h2⟩
end Go.Proofs.YtfcbbahlhjdefaaGreatDoor
