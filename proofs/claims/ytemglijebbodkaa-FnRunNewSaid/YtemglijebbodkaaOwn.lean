/- Rows of the call's own, that read as lists; nothing of the program. -/
import Derived.Test.YtemglijebbodkaaBase
import Derived.Laws.MakeOwn
import Derived.Deep.OwnRows
namespace Go.Proofs.Ytemglijebbodkaa
open Go.RowKit

def OwnL {α : Type} (enc : α → List Value) (m t : Nat) (w : World) (base : Nat) (v : Value) (xs : List α) : Prop := xs.length ≤ 140737488355328 ∧ w.ownsRow base t m v xs.length (flat enc xs)
section
variable {α : Type} {enc : α → List Value} {m t : Nat} {w w' : World} {base : Nat} {v : Value} {xs : List α}
theorem flat_set {α : Type} {enc : α → List Value} {m : Nat} (hk : ∀ x, (enc x).length = m) {xs : List α} {j i : Nat} (hj : j < xs.length) (hi : i < m) {x' : α} {u : Value} (h : enc x' = (enc xs[j]).set i u) : flat enc (xs.set j x') = (flat enc xs).set (j * m + i) u := by
  induction xs generalizing j with
  | nil => simp at hj
  | cons x xs ih =>
    cases j with
    | zero =>
      simp only [List.set_cons_zero, flat, List.flatMap_cons, Nat.zero_mul, Nat.zero_add]
      rw [List.set_append_left _ _ (by rw [hk]; exact hi)]
      simp only [List.getElem_cons_zero] at h
      rw [h]
    | succ j =>
      have := ih (j := j) (by simpa using hj) (by simpa using h)
      simp only [flat] at this
      simp only [List.set_cons_succ, flat, List.flatMap_cons]
      rw [List.set_append_right _ _ (by rw [hk, Nat.succ_mul]; omega), hk, this]
      congr 2
      rw [Nat.succ_mul]; omega
theorem OwnL.stored (hk : ∀ x, (enc x).length = m) {g cap : Nat} (h : OwnL enc m t w base (.slice (some ⟨g, 0, none⟩) xs.length cap) xs) {j i : Nat} (hj : j < xs.length) (hi : i < m) {x' : α} {u : Value} (e : enc x' = (enc xs[j]).set i u) :
    OwnL enc m t (w.setCell ⟨g, j * m + i, none⟩ u) base (.slice (some ⟨g, 0, none⟩) (xs.set j x').length cap) (xs.set j x') ∧ w.grownBy (w.setCell ⟨g, j * m + i, none⟩ u) (some g) := by
  obtain ⟨h1, h2⟩ := h.2.stored (j * m + i) u
  refine ⟨⟨by rw [List.length_set]; exact h.1, ?_⟩, h2⟩
  rw [List.length_set, flat_set hk hj hi e]
  exact h1
theorem OwnL.kept (h : OwnL enc m t w base v xs) {row : Option Nat} (hg : w.grownBy w' row) (hne : v.ownBlock = none ∨ v.ownBlock ≠ row) : OwnL enc m t w' base v xs := ⟨h.1, h.2.kept hg hne⟩
theorem grown_below {w w1 : World} (h : Below w.heap.size w w1) (row : Option Nat) : w.grownBy w1 row := ⟨h.os, h.tape, h.output, h.size, fun i hi _ => h.block i hi⟩
theorem OwnL.below (h : OwnL enc m t w base v xs) (hb : Below w.heap.size w w') : OwnL enc m t w' base v xs := h.kept (grown_below hb none) (by cases v.ownBlock <;> simp)
theorem OwnL.lower {base' : Nat} (h : OwnL enc m t w base v xs) (hb : base' ≤ base) : OwnL enc m t w base' v xs := by
  obtain ⟨h0, h1, h2⟩ := h
  refine ⟨h0, h1, ?_⟩
  rcases h2 with h2 | ⟨g, cap, cur, e, h3, r⟩
  · exact .inl h2
  · exact .inr ⟨g, cap, cur, e, by omega, r⟩
theorem OwnL.nil (w : World) (base : Nat) : OwnL enc m t w base (.slice none 0 0) [] := ⟨by simp, World.ownsRow_nil w base t m⟩
theorem OwnL.reads (h : OwnL enc m t w base v xs) : ∃ A c, v = .slice A xs.length c ∧ xs.length ≤ c ∧ ReadsL enc m w w.heap.size A xs.length xs := by
  obtain ⟨h0, h⟩ := h
  have hs : ∃ A c, v = .slice A xs.length c ∧ xs.length ≤ c := by
    rcases h.2 with ⟨rfl, e⟩ | ⟨g, cap, cur, rfl, _, _, hc, _⟩
    · exact ⟨none, 0, by rw [e], by omega⟩
    · exact ⟨_, cap, rfl, hc⟩
  obtain ⟨A, c, rfl, hc⟩ := hs
  exact ⟨A, c, rfl, hc, rfl, h0, Reads.of_own h⟩
/-- Where the row begins, if it has an element. -/
theorem OwnL.form (h : OwnL enc m t w base v xs) (hp : 0 < xs.length) : ∃ g c, v = .slice (some ⟨g, 0, none⟩) xs.length c ∧ base ≤ g ∧ g < w.heap.size := h.2.form hp
theorem OwnL.cell (hk : ∀ x, (enc x).length = m) {g cap : Nat} (h : OwnL enc m t w base (.slice (some ⟨g, 0, none⟩) xs.length cap) xs) {j i : Nat} (hj : j < xs.length) (hi : i < m) :
    w.cell? ⟨g, j * m + i, none⟩ = (enc xs[j])[i]? ∧ w.frozen? ⟨g, j * m + i, none⟩ = false := by
  have hlt : j * m + i < xs.length * m := by
    have : j * m + m ≤ xs.length * m := by rw [← Nat.succ_mul]; exact Nat.mul_le_mul_right _ hj
    omega
  exact ⟨by rw [h.2.cellAt _ hlt, flat_get hk _ _ _ hi hj], h.2.frozenAt _⟩
theorem madeCells_flat {z : Array Value} {x : α} (hz : enc x = z.toList) (h0 : 0 < z.size) (n : Nat) : (madeCells z (n * z.size)).toList = flat enc (List.replicate n x) := by
  have hk : (enc x).length = z.size := by rw [hz]; simp
  induction n with
  | zero => simp [madeCells, flat]
  | succ n ih =>
    have e : flat enc (List.replicate (n + 1) x) = flat enc (List.replicate n x) ++ enc x := by
      rw [List.replicate_succ']
      simp [flat]
    rw [e, ← ih, hz]
    apply List.ext_getElem?
    intro k
    simp only [madeCells, Array.toList_map, Array.toList_range, List.getElem?_map]
    by_cases h1 : k < n * z.size
    · rw [List.getElem?_append_left (by simpa using h1), List.getElem?_map, List.getElem?_range h1, List.getElem?_range (by rw [Nat.succ_mul]; omega)]
    · rw [List.getElem?_append_right (by simpa using h1)]
      simp only [List.length_map, List.length_range]
      by_cases h2 : k < (n + 1) * z.size
      · have h3 : k - n * z.size < z.size := by rw [Nat.succ_mul] at h2; omega
        have h4 : k % z.size = k - n * z.size := by
          have : k = z.size * n + (k - n * z.size) := by rw [Nat.mul_comm]; omega
          rw [this, Nat.mul_add_mod, Nat.mod_eq_of_lt (by rw [Nat.mul_comm]; omega)]
          rw [Nat.mul_comm z.size n]; omega
        rw [List.getElem?_range h2, Option.map_some, h4, Array.getElem?_toList, Array.getElem?_eq_getElem h3, getElem!_pos z _ h3]
      · rw [List.getElem?_eq_none (by simpa using h2), List.getElem?_eq_none (by rw [Nat.succ_mul] at h2; simp; omega)]
        rfl
theorem OwnL.made {z : Array Value} {x : α} (hz : enc x = z.toList) (h0 : 0 < z.size) (hm : m = z.size) {n : Nat} (hn : n ≤ 140737488355328) (hb : base ≤ w.heap.size) :
    OwnL enc m t (w.alloc (.cells (madeCells z (n * m)) t)) base (.slice (some ⟨w.heap.size, 0, none⟩) (List.replicate n x).length n) (List.replicate n x) := by
  refine ⟨by simpa using hn, ?_⟩
  rw [List.length_replicate, hm, ← madeCells_flat hz h0]
  exact World.ownsRow_lit w _ n hb (by unfold maxLen; omega) (size_madeCells _ _)
end
end Go.Proofs.Ytemglijebbodkaa
