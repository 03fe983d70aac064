/- Dead rules: both walks; lists of numbers in an interval of blocks. -/
import Derived.Test.YtajcogpfmpehkaaDoorHtP
import Derived.Test.YtajcogpfmpehkaaDoorFnX
import Derived.Test.YtajcogpfmpehkaaDoorLvS
namespace Go.Proofs.YtajcogpfmpehkaaDoor
open Go.RowKit
/-- Numbers of the call's own. -/
def GIn (w : World) (lo hi : Nat) (v : Value) (xs : List Int) : Prop := OwnI 3 1 encI w lo hi v xs
theorem GIn.kind : Kind GIn := ⟨fun _ _ _ _ _ h => h.2.2, fun _ _ _ _ _ _ h hw => OwnI.keep h hw⟩
theorem GIn.rd {w : World} {lo hi : Nat} {v : Value} {xs : List Int} (h : GIn w lo hi v xs) : Ins w v xs := OwnIn.ins h.1
theorem GIn.of {w : World} {lo hi : Nat} {v : Value} {xs : List Int} (h : OwnIn lo w v xs) (h1 : w.heap.size ≤ hi) (h2 : lo ≤ hi) : GIn w lo hi v xs := ⟨h, fun z hz => Nat.lt_of_lt_of_le (World.ownsRow.lt h z hz).2 h1, h2⟩
theorem deadk_isn {fs : List Ft} {k : Nat} {ys : List Bx} (h : livek fs k = some ys) : deadk fs k = decide (ys.length = 0) := by
  rw [deadk_of h]
  cases ys <;> simp
theorem deadk_none {fs : List Ft} {k : Nat} (h : livek fs k = none) : deadk fs k = false := by rw [deadk_of h]; rfl
set_option maxHeartbeats 2000000 in
set_option maxRecDepth 100000 in
theorem deadIn_any {lo : Nat} (fs : List Ft) (v : Value) (w : World) (ht : Tab w) (hs : Ifs lo w v fs) (hv : fvalid fs = true) :
    Calls Tryd.prog 109 #[v] w fun e w' => ∃ z, e = .returned z ∧ OwnIn w.heap.size w' z (deadl fs fs.length) ∧ Below w.heap.size w w' := by
  obtain ⟨a, cap, rfl, hlc, hcm⟩ := hs.form
  unfold maxLen at hcm
  obtain ⟨i0, hi, hy0, hy1, hy2⟩ := info_parts infoInt
  have h60 := fvalid_60 hv
  generalize hn : fs.length = n at *
  have HN := Lib.hid hn
  have HS := Lib.hid hs
  have HV := Lib.hid hv
  clear hn hs hv
  go_enter Tryd.func109, Tryd.ntmps109
  go_wp2_with fail
  go_loopw [3, 4, 5, 6, 9] (fun o _ _ _ i wr => ∃ k : Nat, k ≤ n ∧ i = .int .i64 k ∧ Hid (OwnIn w.heap.size wr o (deadl fs k)) ∧ Below w.heap.size w wr) (fun _ _ _ _ i _ => n - (intOf i).toNat)
  case atStart => exact ⟨0, by omega, rfl, Lib.hid (World.ownsRow_nil _ _ _ _), Below.refl _ _⟩
  case round =>
    obtain ⟨k, hk, rfl, HO, hbr⟩ := hrel
    have hzr := hbr.size
    by_cases hlt : k < n
    · have i1 : (k : Int) < (n : Int) := by omega
      have i2 : (0 : Int) ≤ (k : Int) := by omega
      obtain ⟨O, hO⟩ : ∃ O, livek fs k = O := ⟨_, rfl⟩
      have HOO := Lib.hid hO
      go_wp2_with fail
      refine (liveOf_any fs _ k wr (ht.below hbr) (HS.out.below hbr) HV.out (by rw [HN.out]; exact hlt)).mono ?_
      rw [hO]
      rintro e w3 ⟨z3, rfl, hz3, hb3⟩
      have hw3 := hbr.trans (hb3.mono hzr)
      have hz := hw3.size
      have HO3 := Lib.hid (OwnSl.kept HO.out hb3)
      clear hb3 hO HO
      have HBD := Lib.hid (show (deadl fs k).length ≤ 60 by have := deadl_len fs k; omega)
      cases O with
      | none =>
        have HD := Lib.hid (show deadl fs (k + 1) = deadl fs k by simp only [deadl]; rw [deadk_none HOO.out]; simp)
        clear hz3
        go_wp2
        go_roundw
        case rel => exact ⟨k + 1, by omega, by go_num, by rw [HD.out]; exact HO3, hw3⟩
        case measure => simp [intOf]; omega
      | some ys =>
        have hi3 := hz3 ys rfl
        obtain ⟨ya, yc, rfl, -, -⟩ := hi3.form
        by_cases hy : ys.length = 0
        · have HD := Lib.hid (show deadl fs (k + 1) = deadl fs k ++ [(k : Int)] by simp only [deadl]; rw [deadk_isn HOO.out, decide_eq_true hy]; simp)
          rw [hy]
          clear hz3 hi3 hy
          go_wp2_with (at_builtin; refine wpList_append_own _ rfl _ _ 84 rfl w.heap.size 3 i0 _ 1 8 Tryd.underlying84 hi hy0 hy1 hy2 rfl (by decide) _ _ _ rfl (World.ownsRow.alloc HO3.out _) ⟨w3.heap.size, 0, none⟩ 1 1 (encI (k : Int)) rfl rfl (cellsNew w3 (encI (k : Int)) _) ?c2 ?c3 ?c4 ?c5 ?_)
          case c2 => simp [Value.oneCell']
          case c3 => have := HBD.out; simp only [maxLen]; omega
          case c4 => have := HBD.out; omega
          case c5 => simp; omega
          intro v' w5 hown5 hgrow5 _
          have hB5 : Below w.heap.size w w5 := belGrown (hw3.alloc (by omega) _) (World.ownsRow.alloc HO3.out _) hgrow5 (by simp; omega)
          have HO5 := Lib.hid (OwnSl.pushed (sz := 1) (enc := encI) rfl hown5)
          clear hown5 hgrow5
          go_wp2
          go_roundw
          case rel => exact ⟨k + 1, by omega, by go_num, by rw [HD.out]; exact HO5, hB5⟩
          case measure => simp [intOf]; omega
        · have HD := Lib.hid (show deadl fs (k + 1) = deadl fs k by simp only [deadl]; rw [deadk_isn HOO.out, decide_eq_false hy]; simp)
          have hne : ((ys.length : Int) == 0) = false := by simpa using hy
          clear hz3 hi3 hy
          go_wp2
          go_roundw
          case rel => exact ⟨k + 1, by omega, by go_num, by rw [HD.out]; exact HO3, hw3⟩
          case measure => simp [intOf]; omega
    · have hkn : k = n := by omega
      go_wp2
      go_ret
      have h := HO.out
      rw [hkn] at h
      exact ⟨_, rfl, h, hbr⟩
end Go.Proofs.YtajcogpfmpehkaaDoor
