/- Whether two rules can be exchanged: the reference's walk. -/
import Derived.Test.YtajcogpfmpehkaaDoorFsM
import Derived.Test.YtajcogpfmpehkaaDoorRgX
import Derived.Test.YtajcogpfmpehkaaDoorFmZ
namespace Go.Proofs.YtajcogpfmpehkaaDoor
open Go.RowKit
theorem bvalid_len2 {b : Bx} (h : bvalid b = true) (k : Nat) (xs : List Sp) (hx : b[k]? = some xs) : xs.length ≤ 2000 := by
  obtain ⟨h4, hb⟩ := bvalid_four h
  have hk := (List.getElem?_eq_some_iff.1 hx).1
  have := hb k xs (by omega) hx
  unfold svalid at this
  simp only [Bool.and_eq_true, decide_eq_true_eq] at this
  omega
theorem l10Meet_e {lo lo' : Nat} {a b c : Bx} {u v : Value} {w : World} (hs : Rws lo w u a) (ht : Rws lo' w v b) (ha : bvalid a = true) (hb : bvalid b = true) (h : bmeet a b = c) :
    Calls Tryd.prog 46 #[.agg #[u], .agg #[v]] w fun e w' => ∃ v', e = .returned (.agg #[v']) ∧ Rws 0 w' v' c ∧ Below w.heap.size w w' := by
  subst h
  refine (l10Meet_any a b u v w hs ht (bvalid_four ha).1 (bvalid_four hb).1 (bvalid_len2 ha) (bvalid_len2 hb)).mono ?_
  rintro e w' ⟨v', rfl, h1, h2⟩
  exact ⟨v', rfl, (GRw.rws h1).mono (Nat.zero_le _), h2⟩
end Go.Proofs.YtajcogpfmpehkaaDoor
