/- JudgeFlat, both walks. -/
import Derived.Test.YtnnmkdaioajkkaaDoorDxA
namespace Go.Proofs.YtnnmkdaioajkkaaDoor
open Go.RowKit
theorem jw_none {p : Pk} {r : Bool} : ∀ (fs : List Ft), (∀ (i : Nat) g, fs[i]? = some g → bhas g.box p = false) → jw fs r p = r
  | [], _ => rfl
  | f :: fs, h => by
    unfold jw
    rw [h 0 f rfl]
    simp only [Bool.false_eq_true, if_false]
    exact jw_none fs (fun i g hg => h (i + 1) g (by simpa using hg))
theorem jw_hit {p : Pk} {r : Bool} : ∀ (fs : List Ft) (k : Nat) (f : Ft), (∀ (i : Nat) g, i < k → fs[i]? = some g → bhas g.box p = false) → fs[k]? = some f → bhas f.box p = true → jw fs r p = f.acc
  | [], _, _, _, h, _ => by simp at h
  | x :: fs, 0, f, _, h, hb => by
    simp at h
    subst h
    unfold jw
    rw [hb]; rfl
  | x :: fs, k + 1, f, hn, h, hb => by
    unfold jw
    rw [hn 0 x (by omega) rfl]
    simp only [Bool.false_eq_true, if_false]
    exact jw_hit fs k f (fun i g hi hg => hn (i + 1) g (by omega) (by simpa using hg)) (by simpa using h) hb
end Go.Proofs.YtnnmkdaioajkkaaDoor
