/- Rulesets: how they lie in memory, and the exact law's helpers over them. -/
import Derived.Test.YtfcbbahlhjdefaaDoorFmZ
import Derived.Test.YtfcbbahlhjdefaaDoorFnX
import Derived.Test.YtfcbbahlhjdefaaDoorDt
import Derived.Test.YtfcbbahlhjdefaaDoorRuP
namespace Go.Proofs.YtfcbbahlhjdefaaDoor
open Go.RowKit
instance : DecidableEq Te := fun ⟨a, b, c, d⟩ ⟨a', b', c', d'⟩ => if h : a = a' ∧ b = b' ∧ c = c' ∧ d = d' then .isTrue (by obtain ⟨rfl, rfl, rfl, rfl⟩ := h; rfl) else .isFalse (fun e => h (by cases e; exact ⟨rfl, rfl, rfl, rfl⟩))
instance : DecidableEq Ru := fun ⟨a, b, c⟩ ⟨a', b', c'⟩ => if h : a = a' ∧ b = b' ∧ c = c' then .isTrue (by obtain ⟨rfl, rfl, rfl⟩ := h; rfl) else .isFalse (fun e => h (by cases e; exact ⟨rfl, rfl, rfl⟩))
def Tss (lo : Nat) (w : World) (v : Value) (ts : List Te) : Prop := SlFr lo 4 Te.enc w v ts
theorem Tss.z {lo : Nat} {w : World} {v : Value} {ts : List Te} (h : Tss lo w v ts) : Tes w v ts := SlFr.at h
theorem Tss.mono {lo lo' : Nat} {w : World} {v : Value} {ts : List Te} (h : Tss lo w v ts) (hl : lo' ≤ lo) : Tss lo' w v ts := SlFr.mono h hl
theorem Tss.below {lo : Nat} {w w' : World} {v : Value} {ts : List Te} (h : Tss lo w v ts) (hb : Below w.heap.size w w') : Tss lo w' v ts := SlFr.below h hb
theorem Tss.keep {lo : Nat} {w w' : World} {v : Value} {ts : List Te} (h : Tss lo w v ts) (hw : Kp lo w w') : Tss lo w' v ts := SlFr.keep h hw
theorem Tss.form {lo : Nat} {w : World} {v : Value} {ts : List Te} (h : Tss lo w v ts) : ∃ a cap, v = .slice a ts.length cap ∧ ts.length ≤ cap ∧ cap ≤ maxLen := let ⟨a, c, e, h1, h2, _⟩ := h; ⟨a, c, e, h1, h2⟩
/-- A rule in memory. -/
structure RR where
  s : Value
  act : Int
  ch : Int
abbrev RR.enc (r : RR) : List Value := [r.s, .int .i64 r.act, .int .i64 r.ch]
def RR.ok (lo : Nat) (w : World) (q : RR) (r : Ru) : Prop := Tss lo w q.s r.ts ∧ q.act = r.act ∧ q.ch = r.ch
def Rus (lo : Nat) (w : World) (v : Value) (rs : List Ru) : Prop := ∃ qs, SlFr lo 3 RR.enc w v qs ∧ All2 (RR.ok lo w) qs rs
def Rss (lo : Nat) (w : World) (v : Value) (cs : List (List Ru)) : Prop := ∃ vs, SlFr lo 1 enc1 w v vs ∧ All2 (Rus lo w) vs cs
theorem Rus.keep {lo : Nat} {w w' : World} {v : Value} {rs : List Ru} (h : Rus lo w v rs) (hw : Kp lo w w') : Rus lo w' v rs :=
  let ⟨qs, h1, h2⟩ := h; ⟨qs, h1.keep hw, h2.mono (fun _ _ g => ⟨g.1.keep hw, g.2⟩)⟩
theorem Rus.below {lo : Nat} {w w' : World} {v : Value} {rs : List Ru} (h : Rus lo w v rs) (hb : Below w.heap.size w w') : Rus lo w' v rs := h.keep (Kp.of hb)
theorem Rus.mono {lo lo' : Nat} {w : World} {v : Value} {rs : List Ru} (h : Rus lo w v rs) (hl : lo' ≤ lo) : Rus lo' w v rs :=
  let ⟨qs, h1, h2⟩ := h; ⟨qs, h1.mono hl, h2.mono (fun _ _ g => ⟨g.1.mono hl, g.2⟩)⟩
theorem Rus.form {lo : Nat} {w : World} {v : Value} {rs : List Ru} (h : Rus lo w v rs) : ∃ a cap, v = .slice a rs.length cap ∧ rs.length ≤ cap ∧ cap ≤ maxLen := by
  obtain ⟨qs, ⟨a, cap, rfl, h1, h2, _⟩, h3⟩ := h
  exact ⟨a, cap, by rw [h3.1], by rw [← h3.1]; exact h1, h2⟩
theorem Rus.at {lo : Nat} {w : World} {a : Option Addr} {n cap : Nat} {rs : List Ru} (h : Rus lo w (.slice a n cap) rs) {k : Nat} {r : Ru} (hk : rs[k]? = some r) :
    ∃ b o sv, a = some ⟨b, o, none⟩ ∧ b < w.heap.size ∧ w.cell? ⟨b, o + k * 3, none⟩ = some sv ∧ w.cell? ⟨b, o + k * 3 + 1, none⟩ = some (.int .i64 r.act) ∧ w.cell? ⟨b, o + k * 3 + 2, none⟩ = some (.int .i64 r.ch) ∧ Tss lo w sv r.ts := by
  obtain ⟨qs, ⟨a', cap', he, _, _, hx⟩, h2⟩ := h
  obtain ⟨rfl, _, _⟩ := Value.slice.inj he
  obtain ⟨q, hq, h3⟩ := h2.left hk
  obtain ⟨b, o, ha, _, hb, hc⟩ := hx k q hq
  refine ⟨b, o, q.s, ha, hb, by simpa using hc 0 _ rfl, ?_, ?_, h3.1⟩
  · rw [← h3.2.1]; exact hc 1 _ rfl
  · rw [← h3.2.2]; exact hc 2 _ rfl
theorem Rss.keep {lo : Nat} {w w' : World} {v : Value} {cs : List (List Ru)} (h : Rss lo w v cs) (hw : Kp lo w w') : Rss lo w' v cs :=
  let ⟨vs, h1, h2⟩ := h; ⟨vs, h1.keep hw, h2.mono (fun _ _ g => g.keep hw)⟩
theorem Rss.below {lo : Nat} {w w' : World} {v : Value} {cs : List (List Ru)} (h : Rss lo w v cs) (hb : Below w.heap.size w w') : Rss lo w' v cs := h.keep (Kp.of hb)
theorem Rss.mono {lo lo' : Nat} {w : World} {v : Value} {cs : List (List Ru)} (h : Rss lo w v cs) (hl : lo' ≤ lo) : Rss lo' w v cs :=
  let ⟨vs, h1, h2⟩ := h; ⟨vs, h1.mono hl, h2.mono (fun _ _ g => g.mono hl)⟩
theorem Rss.form {lo : Nat} {w : World} {v : Value} {cs : List (List Ru)} (h : Rss lo w v cs) : ∃ a cap, v = .slice a cs.length cap ∧ cs.length ≤ cap ∧ cap ≤ maxLen := by
  obtain ⟨qs, ⟨a, cap, rfl, h1, h2, _⟩, h3⟩ := h
  exact ⟨a, cap, by rw [h3.1], by rw [← h3.1]; exact h1, h2⟩
theorem Rss.at {lo : Nat} {w : World} {a : Option Addr} {n cap : Nat} {cs : List (List Ru)} (h : Rss lo w (.slice a n cap) cs) {k : Nat} {rs : List Ru} (hk : cs[k]? = some rs) :
    ∃ b o sv, a = some ⟨b, o, none⟩ ∧ b < w.heap.size ∧ w.cell? ⟨b, o + k, none⟩ = some sv ∧ Rus lo w sv rs := by
  obtain ⟨vs, ⟨a', cap', he, _, _, hx⟩, h2⟩ := h
  obtain ⟨rfl, _, _⟩ := Value.slice.inj he
  obtain ⟨v, hv, h3⟩ := h2.left hk
  obtain ⟨b, o, ha, _, hb, hc⟩ := hx k v hv
  exact ⟨b, o, v, ha, hb, by simpa using hc 0 _ rfl, h3⟩
theorem infoRu : (Tryd.prog.info? 34).map (fun i => (i.zero, i.size, i.bytes)) = some (some (.agg #[.slice none 0 0, .int .i64 0, .int .i64 0]), 3, 40) := by kernel_rfl
end Go.Proofs.YtfcbbahlhjdefaaDoor
