/- Counts of hits: plain definitions and laws. -/
import Derived.Test.YtojafgooobpoiaaDoorFnX
import Derived.Test.YtojafgooobpoiaaDoorCuW
namespace Go.Proofs.YtojafgooobpoiaaDoor
open Go.RowKit
def hinc (c : List Int) (i : Nat) : List Int := c.set i (c.getD i 0 + 1)
def hidx (fs : List Ft) (p : Pk) : Nat := if fwith fs p 0 < 0 then fs.length else (fwith fs p 0).toNat
def hits (fs : List Ft) (ps : List Pk) : Nat → List Int
  | 0 => List.replicate (fs.length + 1) 0
  | k + 1 => match ps[k]? with
    | some p => hinc (hits fs ps k) (hidx fs p)
    | none => hits fs ps k
def pvalid (ps : List Pk) : Bool := decide (ps.length ≤ 50) && ps.all Pk.ok
def hcount (fs : List Ft) (ps : List Pk) : List Int := if fvalid fs && pvalid ps then hits fs ps ps.length else []
theorem hits_succ {fs : List Ft} {ps : List Pk} {k : Nat} {p : Pk} (h : ps[k]? = some p) : hits fs ps (k + 1) = hinc (hits fs ps k) (hidx fs p) := by
  conv => lhs; unfold hits
  rw [h]
theorem hits_len (fs : List Ft) (ps : List Pk) : ∀ k, (hits fs ps k).length = fs.length + 1
  | 0 => by simp [hits]
  | k + 1 => by
    have := hits_len fs ps k
    unfold hits
    split
    · simp [hinc, this]
    · exact this
theorem hits_bound (fs : List Ft) (ps : List Pk) : ∀ (k i : Nat) (x : Int), (hits fs ps k)[i]? = some x → 0 ≤ x ∧ x ≤ k
  | 0, i, x, h => by
    unfold hits at h
    rw [List.getElem?_replicate] at h
    split at h
    · cases h; omega
    · cases h
  | k + 1, i, x, h => by
    unfold hits at h
    split at h
    · rename_i p hp
      unfold hinc at h
      rw [List.getElem?_set] at h
      split at h
      · split at h
        · cases h
          rename_i hlt
          have := hits_bound fs ps k (hidx fs p) ((hits fs ps k).getD (hidx fs p) 0) (by
            rw [List.getD_eq_getElem?_getD, List.getElem?_eq_getElem hlt]; simp)
          omega
        · cases h
      · have := hits_bound fs ps k i x h
        omega
    · have := hits_bound fs ps k i x h
      omega
theorem fwith_range : ∀ (fs : List Ft) (p : Pk) (k : Nat), fwith fs p k = -1 ∨ ((k : Int) ≤ fwith fs p k ∧ fwith fs p k < (k : Int) + fs.length)
  | [], p, k => by simp [fwith]
  | f :: fs, p, k => by
    have := fwith_range fs p (k + 1)
    unfold fwith
    split
    · right; simp; omega
    · rcases this with h | ⟨h1, h2⟩
      · left; exact h
      · right; simp only [List.length_cons]; omega
theorem hidx_lt (fs : List Ft) (p : Pk) : hidx fs p ≤ fs.length := by
  unfold hidx
  split
  · exact Nat.le_refl _
  · rcases fwith_range fs p 0 with h | h <;> omega
theorem pvalid_at {ps : List Pk} (h : pvalid ps = true) {k : Nat} {p : Pk} (hx : ps[k]? = some p) : Pk.ok p = true := by
  unfold pvalid at h
  rw [Bool.and_eq_true, List.all_eq_true] at h
  exact h.2 p (List.mem_of_getElem? hx)
theorem pvalid_50 {ps : List Pk} (h : pvalid ps = true) : ps.length ≤ 50 := by
  unfold pvalid at h
  rw [Bool.and_eq_true] at h
  exact of_decide_eq_true h.1
theorem pvalid_no {ps : List Pk} {k : Nat} {p : Pk} (hx : ps[k]? = some p) (h : Pk.ok p = false) : pvalid ps = false := by
  unfold pvalid
  rw [Bool.and_eq_false_iff]
  right
  rw [List.all_eq_false]
  exact ⟨p, List.mem_of_getElem? hx, by simp [h]⟩
theorem pvalid_big {ps : List Pk} (h : 50 < ps.length) : pvalid ps = false := by
  unfold pvalid
  rw [decide_eq_false (by omega)]
  rfl
theorem pvalid_yes {ps : List Pk} (h : ps.length ≤ 50) (ha : ∀ (k : Nat) p, ps[k]? = some p → Pk.ok p = true) : pvalid ps = true := by
  unfold pvalid
  rw [Bool.and_eq_true, List.all_eq_true]
  refine ⟨decide_eq_true h, fun p hp => ?_⟩
  obtain ⟨k, hk⟩ := List.getElem?_of_mem hp
  exact ha k p hk
set_option maxRecDepth 20000
theorem infoPk : (Tryd.prog.info? 30).map (fun i => (i.zero, i.size, i.bytes)) = some (some (.agg #[.int .i64 0, .int .i64 0, .int .i64 0, .int .i64 0]), 4, 32) := by kernel_rfl
theorem infoInt : (Tryd.prog.info? 3).map (fun i => (i.zero, i.size, i.bytes)) = some (some (.int .i64 0), 1, 8) := by kernel_rfl
def Pks (w : World) (v : Value) (xs : List Pk) : Prop := SlAt 4 Pk.enc w v xs
theorem Pks.below {w w' : World} {v : Value} {xs : List Pk} (h : Pks w v xs) (hb : Below w.heap.size w w') : Pks w' v xs := SlAt.below h hb
theorem Pks.at {w : World} {a : Option Addr} {n cap : Nat} {xs : List Pk} (h : Pks w (.slice a n cap) xs) {k : Nat} (hk : k < xs.length) :
    ∃ b o f1 f2 f3 f4, a = some ⟨b, o, none⟩ ∧ b < w.heap.size ∧ xs[k]? = some ⟨f1, f2, f3, f4⟩ ∧
      w.cell? ⟨b, o + k * 4, none⟩ = some (.int .i64 f1) ∧ w.cell? ⟨b, o + k * 4 + 1, none⟩ = some (.int .i64 f2) ∧ w.cell? ⟨b, o + k * 4 + 2, none⟩ = some (.int .i64 f3) ∧
      w.cell? ⟨b, o + k * 4 + 3, none⟩ = some (.int .i64 f4) := by
  obtain ⟨a', cap', he, _, _, hx⟩ := h
  obtain ⟨rfl, _, _⟩ := Value.slice.inj he
  obtain ⟨b, o, ha, hb, hc⟩ := hx k xs[k] (List.getElem?_eq_getElem hk)
  exact ⟨b, o, xs[k].from_, xs[k].to_, xs[k].port, xs[k].proto, ha, hb, List.getElem?_eq_getElem hk, hc 0 _ rfl, hc 1 _ rfl, hc 2 _ rfl, hc 3 _ rfl⟩
def OwnPk (base : Nat) (w : World) (v : Value) (ys : List Pk) : Prop := OwnSl base 30 4 Pk.enc w v ys
theorem OwnPk.pks {base : Nat} {w : World} {v : Value} {ys : List Pk} (h : OwnPk base w v ys) : Pks w v ys := OwnSl.at (sz := 4) (enc := Pk.enc) (fun _ => rfl) h
def RetPk (ys : List Pk) (w : World) (e : Ending) (w' : World) : Prop := ∃ v, e = .returned v ∧ OwnPk w.heap.size w' v ys ∧ Below w.heap.size w w'
/-- Numbers. -/
abbrev encI (n : Int) : List Value := [.int .i64 n]
def Ins (w : World) (v : Value) (xs : List Int) : Prop := SlAt 1 encI w v xs
theorem Ins.below {w w' : World} {v : Value} {xs : List Int} (h : Ins w v xs) (hb : Below w.heap.size w w') : Ins w' v xs := SlAt.below h hb
theorem Ins.at {w : World} {a : Option Addr} {n cap : Nat} {xs : List Int} (h : Ins w (.slice a n cap) xs) {k : Nat} (hk : k < xs.length) :
    ∃ b o f, a = some ⟨b, o, none⟩ ∧ b < w.heap.size ∧ xs[k]? = some f ∧ w.cell? ⟨b, o + k, none⟩ = some (.int .i64 f) := by
  obtain ⟨a', cap', he, _, _, hx⟩ := h
  obtain ⟨rfl, _, _⟩ := Value.slice.inj he
  obtain ⟨b, o, ha, hb, hc⟩ := hx k xs[k] (List.getElem?_eq_getElem hk)
  exact ⟨b, o, _, ha, hb, List.getElem?_eq_getElem hk, by simpa using hc 0 _ rfl⟩
def OwnIn (base : Nat) (w : World) (v : Value) (ys : List Int) : Prop := OwnSl base 3 1 encI w v ys
theorem OwnIn.ins {base : Nat} {w : World} {v : Value} {ys : List Int} (h : OwnIn base w v ys) : Ins w v ys := OwnSl.at (sz := 1) (enc := encI) (fun _ => rfl) h
def inmarks (k n : Nat) : List Int := (List.range n).map fun i => ((k + i : Nat) : Int)
theorem inmarks_get {k n i : Nat} (h : i < n) : (inmarks k n)[i]? = some ((k + i : Nat) : Int) := by simp [inmarks, h]
theorem inmarks_len (k n : Nat) : (inmarks k n).length = n := by simp [inmarks]
end Go.Proofs.YtojafgooobpoiaaDoor
