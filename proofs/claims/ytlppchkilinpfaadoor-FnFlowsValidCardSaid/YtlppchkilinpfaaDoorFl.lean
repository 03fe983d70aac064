/- Lists of flows: the reference's functions. -/
import Derived.Test.YtlppchkilinpfaaDoorPkEq
namespace Go.Proofs.YtlppchkilinpfaaDoor
open Go.RowKit
structure Fl where
  who : Pk
  til : Int
  deriving DecidableEq
abbrev Fl.enc (f : Fl) : List Value := [.int .i64 f.who.from_, .int .i64 f.who.to_, .int .i64 f.who.port, .int .i64 f.who.proto, .int .i64 f.til]
def fok (f : Fl) : Bool := f.who.ok && inB f.til 0 1000000
def FGood (xs : List Fl) (k : Nat) : Prop := ∀ i x, i < k → xs[i]? = some x → fok x = true ∧ ∀ j y, j < i → xs[j]? = some y → sameP y.who x.who = false
def fvalid (xs : List Fl) : Bool := decide (xs.length ≤ 20) && (List.range xs.length).all fun i => match xs[i]? with
  | some x => fok x && (List.range i).all fun j => match xs[j]? with
    | some y => !sameP y.who x.who
    | none => true
  | none => true
theorem fvalid_iff (xs : List Fl) : fvalid xs = true ↔ xs.length ≤ 20 ∧ FGood xs xs.length := by
  unfold fvalid FGood
  simp only [Bool.and_eq_true, decide_eq_true_eq, List.all_eq_true, List.mem_range]
  refine and_congr Iff.rfl ⟨fun h i x hi hx => ?_, fun h i hi => ?_⟩
  · have := h i hi
    rw [hx] at this
    simp only [Bool.and_eq_true, List.all_eq_true, List.mem_range] at this
    refine ⟨this.1, fun j y hj hy => ?_⟩
    have := this.2 j hj
    rw [hy] at this
    simpa using this
  · cases hx : xs[i]? with
    | none => rfl
    | some x =>
      obtain ⟨h1, h2⟩ := h i x hi hx
      simp only [Bool.and_eq_true, List.all_eq_true, List.mem_range]
      refine ⟨h1, fun j hj => ?_⟩
      cases hy : xs[j]? with
      | none => rfl
      | some y => simp [h2 j y hj hy]
theorem fvalid_bad {xs : List Fl} {i : Nat} {x : Fl} (hx : xs[i]? = some x) (h : fok x = false ∨ ∃ j y, j < i ∧ xs[j]? = some y ∧ sameP y.who x.who = true) : fvalid xs = false := by
  cases hv : fvalid xs
  · rfl
  · obtain ⟨h1, h2⟩ := (fvalid_iff xs).1 hv
    have hi : i < xs.length := (List.getElem?_eq_some_iff.1 hx).1
    obtain ⟨g1, g2⟩ := h2 i x hi hx
    rcases h with h | ⟨j, y, hj, hy, hs⟩
    · rw [g1] at h; cases h
    · rw [g2 j y hj hy] at hs; cases hs
theorem fvalid_end {xs : List Fl} (h : FGood xs xs.length) : decide ((xs.length : Int) ≤ 20) = fvalid xs := by
  by_cases h20 : xs.length ≤ 20
  · rw [(fvalid_iff xs).2 ⟨h20, h⟩]; simp; omega
  · have : fvalid xs = false := by unfold fvalid; simp [h20]
    rw [this]; simp; omega
/-- A slice of flows. -/
def Fls (w : World) (v : Value) (xs : List Fl) : Prop := SlAt 5 Fl.enc w v xs
theorem Fls.below {w w' : World} {v : Value} {xs : List Fl} (h : Fls w v xs) (hb : Below w.heap.size w w') : Fls w' v xs := SlAt.below h hb
/-- The cells of one flow. -/
theorem Fls.at {w : World} {a : Option Addr} {n cap : Nat} {xs : List Fl} (h : Fls w (.slice a n cap) xs) {k : Nat} (hk : k < xs.length) :
    ∃ b o f1 f2 f3 f4 t, a = some ⟨b, o, none⟩ ∧ b < w.heap.size ∧ xs[k]? = some ⟨⟨f1, f2, f3, f4⟩, t⟩ ∧
      w.cell? ⟨b, o + k * 5, none⟩ = some (.int .i64 f1) ∧ w.cell? ⟨b, o + k * 5 + 1, none⟩ = some (.int .i64 f2) ∧ w.cell? ⟨b, o + k * 5 + 2, none⟩ = some (.int .i64 f3) ∧
      w.cell? ⟨b, o + k * 5 + 3, none⟩ = some (.int .i64 f4) ∧ w.cell? ⟨b, o + k * 5 + 4, none⟩ = some (.int .i64 t) := by
  obtain ⟨a', cap', he, _, _, hx⟩ := h
  obtain ⟨rfl, _, _⟩ := Value.slice.inj he
  obtain ⟨b, o, ha, hb, hc⟩ := hx k xs[k] (List.getElem?_eq_getElem hk)
  exact ⟨b, o, xs[k].who.from_, xs[k].who.to_, xs[k].who.port, xs[k].who.proto, xs[k].til, ha, hb, List.getElem?_eq_getElem hk, hc 0 _ rfl, hc 1 _ rfl, hc 2 _ rfl, hc 3 _ rfl, hc 4 _ rfl⟩
theorem Fls.get {w : World} {b o n cap : Nat} {xs : List Fl} (h : Fls w (.slice (some ⟨b, o, none⟩) n cap) xs) {k : Nat} {f1 f2 f3 f4 t : Int} (hx : xs[k]? = some ⟨⟨f1, f2, f3, f4⟩, t⟩) :
    b < w.heap.size ∧ w.cell? ⟨b, o + k * 5, none⟩ = some (.int .i64 f1) ∧ w.cell? ⟨b, o + k * 5 + 1, none⟩ = some (.int .i64 f2) ∧ w.cell? ⟨b, o + k * 5 + 2, none⟩ = some (.int .i64 f3) ∧
      w.cell? ⟨b, o + k * 5 + 3, none⟩ = some (.int .i64 f4) ∧ w.cell? ⟨b, o + k * 5 + 4, none⟩ = some (.int .i64 t) := by
  obtain ⟨a', cap', he, _, _, hx'⟩ := h
  obtain ⟨rfl, _, _⟩ := Value.slice.inj he
  obtain ⟨b', o', ha, hb, hc⟩ := hx' k _ hx
  obtain ⟨rfl, rfl, _⟩ := Addr.mk.inj (Option.some.inj ha)
  exact ⟨hb, hc 0 _ rfl, hc 1 _ rfl, hc 2 _ rfl, hc 3 _ rfl, hc 4 _ rfl⟩
theorem Fls.ex {xs : List Fl} {k : Nat} (hk : k < xs.length) : ∃ f1 f2 f3 f4 t, xs[k]? = some ⟨⟨f1, f2, f3, f4⟩, t⟩ := ⟨_, _, _, _, _, List.getElem?_eq_getElem hk⟩
theorem Fls.len {w : World} {a : Option Addr} {n cap : Nat} {xs : List Fl} (h : Fls w (.slice a n cap) xs) : n = xs.length ∧ n ≤ cap ∧ cap ≤ maxLen := by
  obtain ⟨a', cap', he, h1, h2, hx⟩ := h
  obtain ⟨rfl, rfl, rfl⟩ := Value.slice.inj he
  exact ⟨rfl, h1, h2⟩

set_option maxHeartbeats 1000000 in
theorem specFV_any (xs : List Fl) (v : Value) (w : World) (hs : Fls w v xs) :
    Calls Tryd.prog 19 #[v] w fun e w' => e = .returned (.bool (fvalid xs)) ∧ Below w.heap.size w w' := by
  obtain ⟨a, cap, rfl, hlc, hcm, -⟩ := id hs
  unfold maxLen at hcm
  go_enter Tryd.func19, Tryd.ntmps19
  go_wp2_with fail
  go_loopw [3] (fun i wr => ∃ k : Nat, k ≤ xs.length ∧ i = .int .i64 k ∧ FGood xs k ∧ Below w.heap.size w wr) (fun i _ => xs.length - (intOf i).toNat)
  case atStart => exact ⟨0, by omega, rfl, fun i x hi => by omega, by (repeat' (first | with_reducible exact Below.refl _ _ | with_reducible assumption | with_reducible refine Below.setCell ?_ ?_ _ | with_reducible refine Below.alloc ?_ ?_ _ | with_reducible refine Below.drew ?_ | with_reducible refine belDrewN ?_ _ | with_reducible refine Below.trans ?_ (Below.mono (by assumption) ?_) | omega | (simp; omega) | (simp; done)))⟩
  case round =>
    obtain ⟨k, hk, rfl, hg, hb2⟩ := hrel
    have HG := Lib.hid hg; clear hg
    have hs2 := Lib.hid (hs.below hb2)
    have hz2 := hb2.size
    by_cases hlt : k < xs.length
    · obtain ⟨b, o, f1, f2, f3, f4, t, rfl, hbl, hx, c0, c1, c2, c3, c4⟩ := hs2.out.at hlt
      have HX := Lib.hid hx; clear hx
      cases hp : Pk.ok ⟨f1, f2, f3, f4⟩
      · go_wp2_with (first | (go_at_call 16; refine (specPV_any _ _ _ _ _).mono ?_; rw [hp]; rintro e w1 ⟨rfl, hb⟩; obtain ⟨hc, hf⟩ := bcell hb; have hz := hb.size; (try simp at hz)) | (go_at_call 37; refine (l1In_any _ _ _ _).mono ?_; rintro e w1 ⟨rfl, rfl⟩))
        go_ret
        exact ⟨ret_bool (fvalid_bad HX.out (Or.inl (by simp [fok, hp]))).symm, by (repeat' (first | with_reducible exact Below.refl _ _ | with_reducible assumption | with_reducible refine Below.setCell ?_ ?_ _ | with_reducible refine Below.alloc ?_ ?_ _ | with_reducible refine Below.drew ?_ | with_reducible refine belDrewN ?_ _ | with_reducible refine Below.trans ?_ (Below.mono (by assumption) ?_) | omega | (simp; omega) | (simp; done)))⟩
      · cases hu : inB t 0 1000000
        · go_wp2_with (first | (go_at_call 16; refine (specPV_any _ _ _ _ _).mono ?_; rw [hp]; rintro e w1 ⟨rfl, hb⟩; obtain ⟨hc, hf⟩ := bcell hb; have hz := hb.size; (try simp at hz)) | (go_at_call 37; refine (l1In_any _ _ _ _).mono ?_; rw [hu]; rintro e w1 ⟨rfl, rfl⟩))
          go_ret
          exact ⟨ret_bool (fvalid_bad HX.out (Or.inl (by simp [fok, hu]))).symm, by (repeat' (first | with_reducible exact Below.refl _ _ | with_reducible assumption | with_reducible refine Below.setCell ?_ ?_ _ | with_reducible refine Below.alloc ?_ ?_ _ | with_reducible refine Below.drew ?_ | with_reducible refine belDrewN ?_ _ | with_reducible refine Below.trans ?_ (Below.mono (by assumption) ?_) | omega | (simp; omega) | (simp; done)))⟩
        · have HK := Lib.hid (show fok ⟨⟨f1, f2, f3, f4⟩, t⟩ = true by simp [fok, hp, hu])
          go_wp2_with (first | (go_at_call 16; refine (specPV_any _ _ _ _ _).mono ?_; rw [hp]; rintro e w1 ⟨rfl, hb⟩; obtain ⟨hc, hf⟩ := bcell hb; have hz := hb.size; (try simp at hz)) | (go_at_call 37; refine (l1In_any _ _ _ _).mono ?_; rw [hu]; rintro e w2 ⟨rfl, rfl⟩))
          obtain ⟨wo, rfl⟩ : ∃ wo : World, wo = wr := ⟨_, rfl⟩
          have hb3 : Below w.heap.size w w1 := by (repeat' (first | with_reducible exact Below.refl _ _ | with_reducible assumption | with_reducible refine Below.setCell ?_ ?_ _ | with_reducible refine Below.alloc ?_ ?_ _ | with_reducible refine Below.drew ?_ | with_reducible refine belDrewN ?_ _ | with_reducible refine Below.trans ?_ (Below.mono (by assumption) ?_) | omega | (simp; omega) | (simp; done)))
          clear hc hf hb hz hp hu c0 c1 c2 c3 c4
          go_loopw [4] (fun i wr => ∃ j : Nat, j ≤ k ∧ i = .int .i64 j ∧ (∀ m y, m < j → xs[m]? = some y → sameP y.who ⟨f1, f2, f3, f4⟩ = false) ∧ Below w.heap.size w wr) (fun i _ => k - (intOf i).toNat)
          case atStart => exact ⟨0, by omega, rfl, fun m y hm => by omega, hb3⟩
          case round =>
            obtain ⟨j, hj, rfl, hq, hb4⟩ := hrel
            have HQ := Lib.hid hq; clear hq
            have hs3 := Lib.hid (hs.below hb4)
            have hz4 := hb4.size
            by_cases hjk : j < k
            · obtain ⟨e1, e2, e3, e4, u, hy⟩ := Fls.ex (show j < xs.length by omega)
              obtain ⟨hbl', d0, d1, d2, d3, d4⟩ := hs3.out.get hy
              obtain ⟨-, c0, c1, c2, c3, c4⟩ := hs3.out.get HX.out
              have HY := Lib.hid hy; clear hy
              have i1 : (j : Int) < (xs.length : Int) := by omega
              have i2 : (k : Int) < (xs.length : Int) := by omega
              go_wp2_with fail
              go_still_tail 10, (by kernel_rfl)
              go_wp2_with fail
              refine (l19Same_any _ _ _ _ _ _ _ _ _).mono ?_
              rintro e w3 ⟨rfl, hb⟩
              cases hsp : sameP ⟨e1, e2, e3, e4⟩ ⟨f1, f2, f3, f4⟩
              · go_wp2
                go_roundw
                case rel =>
                  refine ⟨j + 1, by omega, by go_num, fun m y hm hy' => ?_, by (repeat' (first | with_reducible exact Below.refl _ _ | with_reducible assumption | with_reducible refine Below.setCell ?_ ?_ _ | with_reducible refine Below.alloc ?_ ?_ _ | with_reducible refine Below.drew ?_ | with_reducible refine belDrewN ?_ _ | with_reducible refine Below.trans ?_ (Below.mono (by assumption) ?_) | omega | (simp; omega) | (simp; done)))⟩
                  rcases (by omega : m < j ∨ m = j) with hm | rfl
                  · exact HQ.out m y hm hy'
                  · rw [HY.out] at hy'; cases hy'; exact hsp
                case measure => simp [intOf]; omega
              · go_wp2
                go_ret
                exact ⟨ret_bool (fvalid_bad HX.out (Or.inr ⟨j, _, hjk, HY.out, hsp⟩)).symm, by (repeat' (first | with_reducible exact Below.refl _ _ | with_reducible assumption | with_reducible refine Below.setCell ?_ ?_ _ | with_reducible refine Below.alloc ?_ ?_ _ | with_reducible refine Below.drew ?_ | with_reducible refine belDrewN ?_ _ | with_reducible refine Below.trans ?_ (Below.mono (by assumption) ?_) | omega | (simp; omega) | (simp; done)))⟩
            · have hjk' : j = k := by omega
              have HJ := Lib.hid hjk'; clear hjk'
              go_wp2
              go_roundw
              case rel =>
                refine ⟨k + 1, by omega, by go_num, fun i x hi hx => ?_, by (repeat' (first | with_reducible exact Below.refl _ _ | with_reducible assumption | with_reducible refine Below.setCell ?_ ?_ _ | with_reducible refine Below.alloc ?_ ?_ _ | with_reducible refine Below.drew ?_ | with_reducible refine belDrewN ?_ _ | with_reducible refine Below.trans ?_ (Below.mono (by assumption) ?_) | omega | (simp; omega) | (simp; done)))⟩
                rcases (by omega : i < k ∨ i = k) with hm | rfl
                · exact HG.out i x hm hx
                · rw [HX.out] at hx
                  cases hx
                  exact ⟨HK.out, fun j' y hj' hy => HQ.out j' y (by have := HJ.out; omega) hy⟩
              case measure => simp [intOf]; omega
    · have HE := Lib.hid (show k = xs.length by omega)
      go_wp2
      go_ret
      exact ⟨ret_bool (fvalid_end (HE.out ▸ HG.out)), by (repeat' (first | with_reducible exact Below.refl _ _ | with_reducible assumption | with_reducible refine Below.setCell ?_ ?_ _ | with_reducible refine Below.alloc ?_ ?_ _ | with_reducible refine Below.drew ?_ | with_reducible refine belDrewN ?_ _ | with_reducible refine Below.trans ?_ (Below.mono (by assumption) ?_) | omega | (simp; omega) | (simp; done)))⟩
theorem specFV_b {xs : List Fl} {v : Value} {w : World} {r : Bool} (hs : Fls w v xs) (h : fvalid xs = r) :
    Calls Tryd.prog 19 #[v] w fun e w' => e = .returned (.bool r) ∧ Below w.heap.size w w' := by
  subst h
  exact specFV_any xs v w hs
end Go.Proofs.YtlppchkilinpfaaDoor
