/- More on rows of the call's own: made rows, stores by the slice's own length. -/
import Derived.Test.YtemglijebbodkaaOwn
namespace Go.Proofs.Ytemglijebbodkaa
open Go.RowKit

/-- A row that is written element by element: its slice value is spelled out. -/
def RowL {α : Type} (enc : α → List Value) (m t : Nat) (w : World) (base g n cap : Nat) (xs : List α) : Prop := xs.length = n ∧ OwnL enc m t w base (.slice (some ⟨g, 0, none⟩) n cap) xs
section
variable {α : Type} {enc : α → List Value} {m t : Nat} {w w' : World} {base g n cap : Nat} {xs : List α}
theorem RowL.store (hk : ∀ x, (enc x).length = m) (h : RowL enc m t w base g n cap xs) {j i : Nat} (hj : j < xs.length) (hi : i < m) {x' : α} {u : Value} (e : enc x' = (enc xs[j]).set i u) :
    RowL enc m t (w.setCell ⟨g, j * m + i, none⟩ u) base g n cap (xs.set j x') := by
  obtain ⟨rfl, h⟩ := h
  refine ⟨List.length_set, ?_⟩
  have := (h.stored hk hj hi e).1
  rwa [List.length_set] at this
theorem RowL.ge (h : RowL enc m t w base g n cap xs) (hn : 0 < n) : base ≤ g ∧ g < w.heap.size := by
  obtain ⟨rfl, h⟩ := h
  obtain ⟨g', c, e, h1, h2⟩ := h.form hn
  simp only [Value.slice.injEq, Option.some.injEq, Addr.mk.injEq, and_true, true_and] at e
  obtain ⟨rfl, _⟩ := e
  exact ⟨h1, h2⟩
theorem RowL.cell (hk : ∀ x, (enc x).length = m) (h : RowL enc m t w base g n cap xs) {j i : Nat} (hj : j < xs.length) (hi : i < m) : w.cell? ⟨g, j * m + i, none⟩ = (enc xs[j])[i]? ∧ w.frozen? ⟨g, j * m + i, none⟩ = false := by
  obtain ⟨rfl, h⟩ := h
  exact h.cell hk hj hi
theorem RowL.made {z : Array Value} {x : α} (hz : enc x = z.toList) (h0 : 0 < z.size) (hm : m = z.size) {n : Nat} (hn : n ≤ 140737488355328) (hb : base ≤ w.heap.size) :
    RowL enc m t (w.alloc (.cells (madeCells z (n * m)) t)) base w.heap.size n n (List.replicate n x) := by
  have := OwnL.made (t := t) hz h0 hm hn hb
  rw [List.length_replicate] at this
  exact ⟨List.length_replicate, this⟩
end
theorem run_make_m {P : Program} (t e : TypeId) (z : Value) (size bytes : Nat) (ht : P.underlying t = some (.slice e)) (hinfo : (P.info? e).map (fun i => (i.zero, i.size, i.bytes)) = some (some z, size, bytes)) (n : Nat) (hbytes : bytes * n ≤ 281474976710656) (h63 : n ≤ 9223372036854775807) (w : World) :
    (Instr.makeSlice t (.int .i64 (n : Int)) (.int .i64 (n : Int))).run P w = .ok (.slice (some ⟨w.heap.size, 0, none⟩) n n) (w.alloc (.cells (madeCells z.cells (n * size)) e)) := by
  obtain ⟨i, hi, hzz⟩ := Option.map_eq_some_iff.1 hinfo
  simp only [Prod.mk.injEq] at hzz
  obtain ⟨hz, hs, hb⟩ := hzz
  have hb' : (i.bytes : Int) * (n : Int) ≤ 281474976710656 := by
    have h : ((i.bytes * n : Nat) : Int) ≤ 281474976710656 := by rw [hb]; omega
    rwa [Int.natCast_mul] at h
  have hr := run_make (P := P) w t e i z ht hi hz .i64 .i64 n n (by omega) (Int.le_refl _) hb' (by omega)
  simp only [Int.toNat_natCast, hs] at hr
  exact hr
/-- A list that is written place by place. -/
theorem upto_end {α : Type} {l c : List α} {n : Nat} (hl : l.length = n) (hc : c.length = n) (h : ∀ j, j < n → c[j]? = l[j]?) : c = l := by
  apply List.ext_getElem?
  intro j
  by_cases hj : j < n
  · exact h j hj
  · rw [List.getElem?_eq_none (by omega), List.getElem?_eq_none (by omega)]
theorem upto_step {α : Type} {l c : List α} {k : Nat} (hk : k < c.length) (h : ∀ j, j < k → c[j]? = l[j]?) {x : α} (hx : l[k]? = some x) : ∀ j, j < k + 1 → (c.set k x)[j]? = l[j]? := by
  intro j hj
  rw [List.getElem?_set]
  by_cases e : k = j
  · subst e
    rw [if_pos rfl, if_pos hk, hx]
  · rw [if_neg e]
    exact h j (by omega)
end Go.Proofs.Ytemglijebbodkaa
