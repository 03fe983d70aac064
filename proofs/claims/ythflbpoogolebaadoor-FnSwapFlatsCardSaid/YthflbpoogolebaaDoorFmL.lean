/- Sets of numbers: the laws' own helpers. -/
import Derived.Test.YthflbpoogolebaaDoorFmX
namespace Go.Proofs.YthflbpoogolebaaDoor
open Go.RowKit
def Spz (w : World) (v : Value) (xs : List Sp) : Prop := SlAt 2 Sp.enc w v xs
theorem Spz.below {w w' : World} {v : Value} {xs : List Sp} (h : Spz w v xs) (hb : Below w.heap.size w w') : Spz w' v xs := SlAt.below h hb
theorem Sps.z {lo : Nat} {w : World} {v : Value} {xs : List Sp} (h : Sps lo w v xs) : Spz w v xs := SlFr.at h
theorem Spz.s {w : World} {v : Value} {xs : List Sp} (h : Spz w v xs) : Sps 0 w v xs := SlFr.of h
theorem Spz.at {w : World} {a : Option Addr} {n cap : Nat} {xs : List Sp} (h : Spz w (.slice a n cap) xs) {k : Nat} (hk : k < xs.length) :
    ∃ b o f1 f2, a = some ⟨b, o, none⟩ ∧ b < w.heap.size ∧ xs[k]? = some ⟨f1, f2⟩ ∧ w.cell? ⟨b, o + k * 2, none⟩ = some (.int .i64 f1) ∧ w.cell? ⟨b, o + k * 2 + 1, none⟩ = some (.int .i64 f2) := Sps.at h.s hk
theorem OwnSp.z {base : Nat} {w : World} {v : Value} {ys : List Sp} (h : OwnSp base w v ys) : Spz w v ys := OwnSl.at (sz := 2) (enc := Sp.enc) (fun _ => rfl) h
theorem Sp_eqd (a b c d : Int) : decide ((⟨a, b⟩ : Sp) = ⟨c, d⟩) = (decide (a = c) && decide (b = d)) := by
  by_cases h1 : a = c <;> by_cases h2 : b = d <;> simp [h1, h2]
end Go.Proofs.YthflbpoogolebaaDoor
