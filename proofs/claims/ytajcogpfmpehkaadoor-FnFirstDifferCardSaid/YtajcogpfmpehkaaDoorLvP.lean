/- Lists of boxes in the exact laws; live parts and dead rules: plain laws. -/
import Derived.Test.YtajcogpfmpehkaaDoorDxBT
import Derived.Test.YtajcogpfmpehkaaDoorFnX
import Derived.Test.YtajcogpfmpehkaaDoorFtW
import Derived.Test.YtajcogpfmpehkaaDoorCuW
import Derived.Test.YtajcogpfmpehkaaDoorDxAJ
namespace Go.Proofs.YtajcogpfmpehkaaDoor
open Go.RowKit
/-- Boxes of the call's own. -/
def GBs : World → Nat → Nat → Value → List Bx → Prop := OwnG 32 1 enc1 GRw
theorem GBs.kind : Kind GBs := OwnG.kind GRw.kind
theorem GBs.bxs {w : World} {lo hi : Nat} {v : Value} {bs : List Bx} (h : GBs w lo hi v bs) : Bxs lo w v bs := by
  obtain ⟨vs, h1, h2, h3, h4⟩ := h
  exact ⟨vs, OwnSl.fr (sz := 1) (enc := enc1) (fun _ => rfl) h1, h4.all2 (GRw.kind.leO w _) (fun l m x y g1 _ g3 => Rws.mono g3.1.rws g1)⟩
theorem GBs.form {w : World} {lo hi : Nat} {v : Value} {bs : List Bx} (h : GBs w lo hi v bs) : ∃ a cap, v = .slice a bs.length cap ∧ bs.length ≤ cap ∧ cap ≤ maxLen := Bxs.form h.bxs
theorem GBs.nil (w : World) {lo hi : Nat} (h : lo ≤ hi) : GBs w lo hi (.slice none 0 0) [] := ⟨[], World.ownsRow_nil _ _ _ _, (fun z hz => by cases hz), h, h⟩
theorem fboxes_valid {fs : List Ft} (h : fvalid fs = true) : ∀ z ∈ fboxes fs, bvalid z = true := by
  intro z hz
  unfold fboxes at hz
  obtain ⟨f, hf, rfl⟩ := List.mem_map.1 hz
  obtain ⟨k, hk⟩ := List.getElem?_of_mem hf
  exact fvalid_at h hk
theorem fvalid_take {fs : List Ft} (h : fvalid fs = true) (k : Nat) : fvalid (fs.take k) = true := fvalid_sub h (List.length_take_le' _ _) (fun _ hg => List.mem_of_mem_take hg)
/-- What the rules before rule k leave of its box. -/
def livek (fs : List Ft) (k : Nat) : Option (List Bx) := match fs[k]? with
  | some f => blessB f.box (fboxes (fs.take k))
  | none => none
def livep (fs : List Ft) (n : Int) : Option (List Bx) := if fvalid fs && inB n 0 ((fs.length : Int) - 1) then livek fs n.toNat else none
def livef (fs : List Ft) (n : Int) : List Bx := (livep fs n).getD []
theorem blessB_valid {b : Bx} {xs ys : List Bx} (hb : bvalid b = true) (h : blessB b xs = some ys) : rvalid ys = true := bless_valid (bstart_valid hb) h
/-- Rule k decides about nothing. -/
def deadk (fs : List Ft) (k : Nat) : Bool := match livek fs k with
  | some [] => true
  | _ => false
def deadl (fs : List Ft) : Nat → List Int
  | 0 => []
  | k + 1 => deadl fs k ++ (if deadk fs k then [(k : Int)] else [])
def deads (fs : List Ft) : List Int := if fvalid fs then deadl fs fs.length else []
def dropl (fs : List Ft) : Nat → List Ft
  | 0 => []
  | k + 1 => dropl fs k ++ (if deadk fs k then [] else (fs[k]?).toList)
def dropd (fs : List Ft) : List Ft := if fvalid fs then dropl fs fs.length else []
theorem deadk_of {fs : List Ft} {k : Nat} {o : Option (List Bx)} (h : livek fs k = o) : deadk fs k = (o.isSome && (o.getD []).isEmpty) := by
  unfold deadk
  rw [h]
  cases o with
  | none => rfl
  | some ys => cases ys <;> rfl
theorem dropl_mem (fs : List Ft) : ∀ n, ∀ g ∈ dropl fs n, g ∈ fs
  | 0, g, hg => by simp [dropl] at hg
  | n + 1, g, hg => by
    simp only [dropl, List.mem_append] at hg
    rcases hg with hg | hg
    · exact dropl_mem fs n g hg
    · split at hg
      · simp at hg
      · cases hx : fs[n]? with
        | none => rw [hx] at hg; simp at hg
        | some f => rw [hx] at hg; simp at hg; subst hg; exact List.mem_of_getElem? hx
theorem dropl_len (fs : List Ft) : ∀ n, n ≤ fs.length → (dropl fs n).length + (deadl fs n).length = n
  | 0, _ => rfl
  | n + 1, h => by
    have ih := dropl_len fs n (by omega)
    simp only [dropl, deadl, List.length_append]
    rw [List.getElem?_eq_getElem (by omega : n < fs.length)]
    split <;> simp <;> omega
theorem dropd_valid (fs : List Ft) : fvalid (dropd fs) = true := by
  unfold dropd
  split
  · rename_i h
    have := dropl_len fs fs.length (Nat.le_refl _)
    exact fvalid_sub h (by omega) (dropl_mem fs _)
  · rfl
theorem any_boxes (fs : List Ft) (p : Pk) : (fboxes fs).any (fun z => bhas z p) = fs.any (fun f => bhas f.box p) := by
  unfold fboxes
  rw [List.any_map]
  rfl
/-- Without the dead rules every packet is decided as before. -/
theorem jw_append (p : Pk) (r : Bool) : ∀ (xs ys : List Ft), jw (xs ++ ys) r p = if xs.any (fun f => bhas f.box p) then jw xs r p else jw ys r p
  | [], ys => rfl
  | x :: xs, ys => by
    rw [List.cons_append, List.any_cons]
    simp only [jw]
    rw [jw_append p r xs ys]
    cases bhas x.box p <;> simp
theorem take_any_succ {fs : List Ft} {p : Pk} {n : Nat} {f : Ft} (h : fs[n]? = some f) : (fs.take (n + 1)).any (fun f => bhas f.box p) = ((fs.take n).any (fun f => bhas f.box p) || bhas f.box p) := by
  rw [List.take_add_one, h, List.any_append]; simp
end Go.Proofs.YtajcogpfmpehkaaDoor
