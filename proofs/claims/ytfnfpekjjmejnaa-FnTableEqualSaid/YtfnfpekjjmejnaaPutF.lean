/- What is found behind a put entry: plain laws. -/
import Derived.Test.YtfnfpekjjmejnaaPutP
namespace Go.Proofs.Ytfnfpekjjmejnaa
open Go.RowKit
/-- Among the first k entries there is one with a longer prefix at the same place. -/
def lng (zs : List En) (p : Pf) (k : Nat) : Bool := (zs.take k).any fun x => decide (p.l < x.w.l) && decide (x.w.b = p.b)
theorem lng_zero (zs : List En) (p : Pf) : lng zs p 0 = false := by simp [lng]
theorem lng_succ {zs : List En} {p : Pf} {k : Nat} {x : En} (hx : zs[k]? = some x) : lng zs p (k + 1) = (lng zs p k || (decide (p.l < x.w.l) && decide (x.w.b = p.b))) := by
  unfold lng
  rw [List.take_add_one, hx, List.any_append]
  simp
theorem full_part {m j k : Nat} (hj : j ≤ 16) (hk : k ≤ j) (hm : m ≤ 65535) (h0 : m % 2 ^ (16 - k) = 0) : Pf.ok ⟨(m : Int), (j : Int)⟩ = true := by
  rw [pf_ok_iff]
  refine ⟨⟨by simp only; omega, by simp only; omega⟩, ⟨by simp only; omega, by simp only; omega⟩, ?_⟩
  simp only
  rw [pwr_nat hj]
  have hd : 2 ^ (16 - j) ∣ m := Nat.dvd_trans (Nat.pow_dvd_pow 2 (by omega)) (Nat.dvd_of_mod_eq_zero h0)
  have := Nat.mod_eq_zero_of_dvd hd
  have e1 : ((2 ^ (16 - j) : Nat) : Int) = (2 : Int) ^ (16 - j) := by norm_cast
  rw [← e1]
  exact_mod_cast this
theorem put_find {xs : List En} (hv : tvalid xs = true) {e : En} (he : e.ok = true) (hl : foundAt xs e.w = false → xs.length < 30) (hn : lng (putL xs e) e.w (putL xs e).length = false) : tfind (putL xs e) e.w.b = e.v := by
  have hvx := putL_valid hv he hl
  obtain ⟨hw, hv0, hv1⟩ := en_ok he
  obtain ⟨m, k, hmk, hk, hm, h0⟩ := pf_nat' hw
  have hb : e.w.b = (m : Int) := by rw [hmk]
  have hle : e.w.l = (k : Int) := by rw [hmk]
  have hpath : e.path = pth m k := by unfold En.path; rw [hb, hle]; simp
  rw [hb, tfind_best hvx hm]
  have hup : best (valsOf (putL xs e)) m 17 = best (valsOf (putL xs e)) m (k + 1) := by
    have := best_up (val := valsOf (putL xs e)) (a := m) (d := k) (16 - k) (fun j h1 h2 => by
      rcases vals_ext hvx (pth m j) with ⟨z, hz, hp, hval⟩ | ⟨_, hval⟩
      · exfalso
        have hzok := ok_of hvx hz
        have hj := full_part (m := m) (j := j) (k := k) (by omega) (by omega) hm h0
        have hzw : z.w = ⟨(m : Int), (j : Int)⟩ := path_inj hzok hj (by
          have hp' : pth z.w.b.toNat z.w.l.toNat = pth m j := hp
          rw [hp']; simp)
        obtain ⟨i, hi, rfl⟩ := List.getElem_of_mem hz
        have : lng (putL xs e) e.w (putL xs e).length = true := by
          unfold lng
          rw [List.take_length, List.any_eq_true]
          exact ⟨_, List.getElem_mem hi, by rw [hzw, hb, hle]; simp; omega⟩
        rw [this] at hn; cases hn
      · rw [hval]; omega)
    rwa [show k + 1 + (16 - k) = 17 by omega] at this
  rw [hup]
  simp only [best]
  have hval : valsOf (putL xs e) (pth m k) = e.v := by rw [← hpath]; exact vals_mem hvx ((putL_mem hv).2 (.inl rfl))
  rw [hval, if_pos hv0]
end Go.Proofs.Ytfnfpekjjmejnaa
