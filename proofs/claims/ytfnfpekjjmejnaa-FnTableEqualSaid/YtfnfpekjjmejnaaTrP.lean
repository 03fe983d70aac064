/- The trie of a table: plain laws. -/
import Derived.Test.YtfnfpekjjmejnaaTpW
namespace Go.Proofs.Ytfnfpekjjmejnaa
open Go.RowKit
structure Nd where
  n0 : Int
  n1 : Int
  v : Int
  deriving DecidableEq
abbrev Nd.enc (e : Nd) : List Value := [.int .i64 e.n0, .int .i64 e.n1, .int .i64 e.v]
/-- The place of an address's first d digits. -/
abbrev Path := Nat × Nat
def pth (a d : Nat) : Path := (d, a / 2 ^ (16 - d))
def child (q : Path) (b : Nat) : Path := (q.1 + 1, 2 * q.2 + b)
theorem pth_succ {a d : Nat} (h : d < 16) : pth a (d + 1) = child (pth a d) (a / 2 ^ (15 - d) % 2) := by
  simp only [pth, child, Prod.mk.injEq, true_and]
  rw [show 16 - (d + 1) = 15 - d by omega, show 16 - d = (15 - d) + 1 by omega, Nat.pow_succ, ← Nat.div_div_eq_div_mul]
  omega
theorem pth_zero {a : Nat} (h : a ≤ 65535) : pth a 0 = (0, 0) := by
  simp only [pth, Prod.mk.injEq, true_and]
  exact Nat.div_eq_of_lt (by omega)
theorem child_inj {q r : Path} {b c : Nat} (hb : b < 2) (hc : c < 2) (h : child q b = child r c) : q = r ∧ b = c := by
  obtain ⟨q1, q2⟩ := q
  obtain ⟨r1, r2⟩ := r
  simp only [child, Prod.mk.injEq] at h ⊢
  omega
theorem child_ne {q : Path} {b : Nat} : child q b ≠ (0, 0) := by
  intro h
  simp only [child, Prod.mk.injEq] at h
  omega
def link (ps : List Path) (q : Path) : Nat := if q ∈ ps then ps.idxOf q else 0
def nodeOf (ps : List Path) (val : Path → Int) (q : Path) : Nd := ⟨link ps (child q 0), link ps (child q 1), val q⟩
def nodes (ps : List Path) (val : Path → Int) : List Nd := ps.map (nodeOf ps val)
def Nd.setNext (x : Nd) (b : Nat) (n : Int) : Nd := if b = 0 then ⟨n, x.n1, x.v⟩ else ⟨x.n0, n, x.v⟩
def Nd.next (x : Nd) (b : Nat) : Int := if b = 0 then x.n0 else x.n1
structure Wf (ps : List Path) (val : Path → Int) : Prop where
  root : ps[0]? = some (0, 0)
  nd : ps.Nodup
  cl : ∀ d n, (d + 1, n) ∈ ps → (d, n / 2) ∈ ps
  out : ∀ q, q ∉ ps → val q = -1
theorem Wf.start : Wf [(0, 0)] (fun _ => -1) :=
  { root := rfl, nd := by simp, cl := fun d n h => by simp at h, out := fun _ _ => rfl }
theorem length_nodes (ps : List Path) (val : Path → Int) : (nodes ps val).length = ps.length := by simp [nodes]
theorem nodes_get {ps : List Path} {val : Path → Int} {i : Nat} {q : Path} (h : ps[i]? = some q) : (nodes ps val)[i]? = some (nodeOf ps val q) := by simp [nodes, h]
theorem idx_of {ps : List Path} (hn : ps.Nodup) {i : Nat} {q : Path} (h : ps[i]? = some q) : ps.idxOf q = i := by
  obtain ⟨hi, rfl⟩ := List.getElem?_eq_some_iff.1 h
  exact hn.idxOf_getElem i hi
theorem get_idx {ps : List Path} {q : Path} (h : q ∈ ps) : ps[ps.idxOf q]? = some q := by
  have hl := List.idxOf_lt_length_of_mem h
  rw [List.getElem?_eq_getElem hl, List.getElem_idxOf hl]
theorem link_zero {ps : List Path} {val : Path → Int} (w : Wf ps val) {q : Path} {b : Nat} : link ps (child q b) = 0 ↔ child q b ∉ ps := by
  unfold link
  split
  · rename_i h
    refine ⟨fun h0 => ?_, fun h1 => absurd h h1⟩
    have := get_idx h
    rw [h0, w.root] at this
    exact absurd (Option.some.inj this).symm child_ne
  · rename_i h; simp [h]
theorem next_of {ps : List Path} {val : Path → Int} {q : Path} {b : Nat} (hb : b < 2) : (nodeOf ps val q).next b = (link ps (child q b) : Int) := by
  rcases (by omega : b = 0 ∨ b = 1) with rfl | rfl <;> simp [Nd.next, nodeOf]
theorem link_get {ps : List Path} {q : Path} (h : q ∈ ps) : ps[link ps q]? = some q := by
  unfold link; rw [if_pos h]; exact get_idx h
/-- A new node behind node q. -/
theorem nodes_add {ps : List Path} {val : Path → Int} (w : Wf ps val) {i : Nat} {q : Path} {b : Nat} (hb : b < 2) (hq : ps[i]? = some q) (hnew : child q b ∉ ps) :
    nodes (ps ++ [child q b]) val = (nodes ps val ++ [(⟨0, 0, -1⟩ : Nd)]).set i ((nodeOf ps val q).setNext b ps.length) := by
  have hi : i < ps.length := (List.getElem?_eq_some_iff.1 hq).1
  have hqm : q ∈ ps := List.mem_of_getElem? hq
  have hlink : ∀ r c, c < 2 → link (ps ++ [child q b]) (child r c) = if r = q ∧ c = b then ps.length else link ps (child r c) := by
    intro r c hc
    by_cases h : r = q ∧ c = b
    · obtain ⟨rfl, rfl⟩ := h
      simp only [link, List.mem_append, List.mem_singleton, or_true, if_true, and_self]
      rw [List.idxOf_append, if_neg hnew]
      simp
    · rw [if_neg h]
      have hne : child r c ≠ child q b := fun e => h (child_inj hc hb e)
      simp only [link, List.mem_append, List.mem_singleton, hne, or_false]
      split
      · rename_i hm; rw [List.idxOf_append, if_pos hm]
      · rfl
  have hkids : ∀ c, c < 2 → child (child q b) c ∉ ps := fun c hc hm => by
    have := w.cl _ _ hm
    have e : (2 * (2 * q.2 + b) + c) / 2 = 2 * q.2 + b := by omega
    exact hnew (by simpa [child, e] using this)
  have hqq : child q b ≠ q := fun e => by
    have := congrArg Prod.fst e
    simp only [child] at this
    omega
  have hnewNode : nodeOf (ps ++ [child q b]) val (child q b) = ⟨0, 0, -1⟩ := by
    simp only [nodeOf, Nd.mk.injEq]
    rw [hlink _ 0 (by omega), hlink _ 1 (by omega), if_neg (fun h => hqq h.1), if_neg (fun h => hqq h.1)]
    refine ⟨?_, ?_, w.out _ hnew⟩
    · rw [(link_zero w).2 (hkids 0 (by omega))]; rfl
    · rw [(link_zero w).2 (hkids 1 (by omega))]; rfl
  have hmid : ps.map (nodeOf (ps ++ [child q b]) val) = (ps.map (nodeOf ps val)).set i ((nodeOf ps val q).setNext b ps.length) := by
    refine List.ext_getElem? (fun j => ?_)
    rw [List.getElem?_map, List.getElem?_set]
    by_cases hj : i = j
    · subst hj
      simp only [hq, Option.map_some, if_true, List.length_map, hi]
      congr 1
      rcases (by omega : b = 0 ∨ b = 1) with rfl | rfl
      · simp only [nodeOf, Nd.setNext, if_true, Nd.mk.injEq, and_true]
        rw [hlink _ 0 (by omega), hlink _ 1 (by omega)]
        simp
      · simp only [nodeOf, Nd.setNext]
        rw [hlink _ 0 (by omega), hlink _ 1 (by omega)]
        simp
    · rw [if_neg hj, List.getElem?_map]
      cases hr : ps[j]? with
      | none => rfl
      | some r =>
        have hne : r ≠ q := fun e => by
          subst e
          exact hj ((idx_of w.nd hq).symm.trans (idx_of w.nd hr))
        simp only [Option.map_some, nodeOf]
        rw [hlink _ 0 (by omega), hlink _ 1 (by omega), if_neg (fun h => hne h.1), if_neg (fun h => hne h.1)]
  rw [List.set_append_left _ _ (by simpa [nodes] using hi)]
  simp only [nodes, List.map_append, List.map_cons, List.map_nil, hnewNode, hmid]
theorem Wf.add {ps : List Path} {val : Path → Int} (w : Wf ps val) {q : Path} {b : Nat} (hb : b < 2) (hq : q ∈ ps) (hnew : child q b ∉ ps) : Wf (ps ++ [child q b]) val := by
  refine { root := ?_, nd := ?_, cl := fun d n h => ?_, out := fun r hr => w.out r (fun h => hr (by simp [h])) }
  · rw [List.getElem?_append_left (List.getElem?_eq_some_iff.1 w.root).1]; exact w.root
  · rw [List.nodup_append]
    exact ⟨w.nd, by simp, fun a ha c hc e => by simp at hc; subst hc; subst e; exact hnew ha⟩
  · rw [List.mem_append, List.mem_singleton] at h ⊢
    rcases h with h | h
    · exact .inl (w.cl d n h)
    · simp only [child, Prod.mk.injEq] at h
      refine .inl ?_
      have : (d, n / 2) = q := by
        obtain ⟨q1, q2⟩ := q
        simp only [Prod.mk.injEq] at h ⊢
        omega
      rw [this]; exact hq
def updV (val : Path → Int) (q : Path) (v : Int) : Path → Int := fun r => if r = q then v else val r
theorem nodes_val {ps : List Path} {val : Path → Int} (w : Wf ps val) {i : Nat} {q : Path} (hq : ps[i]? = some q) (v : Int) :
    nodes ps (updV val q v) = (nodes ps val).set i ⟨(nodeOf ps val q).n0, (nodeOf ps val q).n1, v⟩ := by
  have hi : i < ps.length := (List.getElem?_eq_some_iff.1 hq).1
  refine List.ext_getElem? (fun j => ?_)
  unfold nodes
  rw [List.getElem?_map, List.getElem?_set]
  by_cases hj : i = j
  · subst hj
    rw [hq, if_pos rfl, if_pos (by simpa using hi)]
    simp only [Option.map_some, nodeOf, updV, if_true]
  · rw [if_neg hj, List.getElem?_map]
    cases hr : ps[j]? with
    | none => rfl
    | some r =>
      have hne : r ≠ q := fun e => by
        subst e
        exact hj ((idx_of w.nd hq).symm.trans (idx_of w.nd hr))
      simp [nodeOf, updV, hne]
theorem Wf.val {ps : List Path} {val : Path → Int} (w : Wf ps val) {q : Path} (hq : q ∈ ps) (v : Int) : Wf ps (updV val q v) :=
  { root := w.root, nd := w.nd, cl := w.cl, out := fun r hr => by
      have hne : r ≠ q := fun e => hr (e ▸ hq)
      simp only [updV, if_neg hne]
      exact w.out r hr }
/-- What the walk along an address has found before depth d. -/
def best (val : Path → Int) (a : Nat) : Nat → Int
  | 0 => -1
  | d + 1 => if 0 ≤ val (pth a d) then val (pth a d) else best val a d
theorem pth_gone {ps : List Path} {val : Path → Int} (w : Wf ps val) {a d : Nat} (h : pth a d ∉ ps) : ∀ k, d + k ≤ 16 → pth a (d + k) ∉ ps
  | 0, _ => h
  | k + 1, hk => fun hm => pth_gone w h k (by omega) (by
      have hm' : (d + k + 1, a / 2 ^ (16 - (d + k + 1))) ∈ ps := hm
      have := w.cl _ _ hm'
      rw [Nat.div_div_eq_div_mul, ← Nat.pow_succ, show (16 - (d + k + 1)).succ = 16 - (d + k) by omega] at this
      exact this)
theorem best_gone {ps : List Path} {val : Path → Int} (w : Wf ps val) {a d : Nat} (h : pth a d ∉ ps) : ∀ k, d + k ≤ 17 → best val a (d + k) = best val a d
  | 0, _ => rfl
  | k + 1, hk => by
    rw [show d + (k + 1) = (d + k) + 1 by omega]
    simp only [best]
    rw [if_neg (by rw [w.out _ (pth_gone w h k (by omega))]; omega)]
    exact best_gone w h k (by omega)
end Go.Proofs.Ytfnfpekjjmejnaa
