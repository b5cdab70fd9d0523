/- Parts of the proof, in one text. -/
import Derived.Laws.MakeOwn
import Derived.Deep.OwnRows
import Derived.Test.YtomolbhcggaakaaGreatH01
/- A run of the laws, given as an argument: all its fields. -/
namespace Go.Proofs.YtomolbhcggaakaaGreat
set_option maxRecDepth 100000
open Go.ChangeShapes Go.WideShapes Go.ChangeAt Go.RowKit Go.Deep
section
variable {H : Type} {enc : TypeId × Value → H} {w : World} {base : Nat}

theorem field_of {P : Program} {n : Nat} {fs : Array Field} {cs : List Value} {xs : List (DataW H × List MemPlace)} {spare : Nat → Bool} {held : Bool}
    (hg : ∀ (i : Nat) (f : Field), fs[i]? = some f → DataW.trod enc P w base spare held n f.type ((cs.drop f.offset).take (P.cellsOf f.type)) = xs[i]?) :
    ∀ (i t o : Nat), fs[i]?.map (fun f => (f.type, f.offset)) = some (t, o) → DataW.trod enc P w base spare held n t ((cs.drop o).take (P.cellsOf t)) = xs[i]? := by
  intro i t o h
  obtain ⟨f, hf, e⟩ := Option.map_eq_some_iff.1 h
  injection e with e1 e2
  subst e1 e2
  exact hg i f hf

theorem open_run {v : Value} {d : DataW H} {p : List MemPlace} {re : Reach} (hv : Value.okWide Tryz.prog w re base 90 v) (h : DataW.Trod enc Tryz.prog w 0 (fun _ => true) true 90 v d p) (hw : ∀ k ∈ d.weights Tryz.prog 90, k ≤ reachBytes) :
    ∃ (r : Rn) (a : RA), v = .agg (runArr r a) ∧ ReadsRun w w.heap.size r a ∧ r.slots.length * 16 ≤ 140737488351232 ∧ r.mail.length * 16 ≤ 140737488351232 ∧ r.links.length * 8 ≤ 140737488351232 ∧ r.watched.length * 8 ≤ 140737488351232 := by
  obtain ⟨cs, rfl, hsz⟩ := okWide_struct Tryz.underlying90 hv
  obtain ⟨l⟩ := cs
  match l, hsz.trans cellsR with
  | [c0, c1, c2, c3, c4, c5, c6, c7, c8, c9, c10, c11, c12], _ =>
    obtain ⟨fuel, hf⟩ := h
    obtain ⟨xs, n, _, hx, _, hlen, hg⟩ := DataW.trod_struct Tryz.underlying90 hf
    match xs, hlen with
    | [y0, y1, y2, y3, y4, y5, y6, y7, y8, y9, y10, y11], _ =>
      simp only [Prod.mk.injEq] at hx
      have hd := hx.1
      subst hd
      have hwe : ∀ (j : Nat) (t : TypeId) (dd : DataW H), ([3, 3, 88, 3, 88, 3, 3, 24, 24, 4, 42, 3] : List TypeId)[j]? = some t → ([y0, y1, y2, y3, y4, y5, y6, y7, y8, y9, y10, y11].map (·.1))[j]? = some dd → ∀ k ∈ dd.weights Tryz.prog t, k ≤ reachBytes := by
        intro j t dd ht hdd k hk
        refine hw k ?_
        have := DataW.weights_mem_each ht hdd k hk
        simpa only [DataW.weights, Tryz.underlying90, List.map_cons, List.map_nil] using this
      have key := field_of hg
      have g0 := key 0 3 0 rfl
      have g1 := key 1 3 1 rfl
      have g2 := key 2 88 2 rfl
      have g3 := key 3 3 3 rfl
      have g4 := key 4 88 4 rfl
      have g5 := key 5 3 5 rfl
      have g6 := key 6 3 6 rfl
      have g7 := key 7 24 7 rfl
      have g8 := key 8 24 8 rfl
      have g9 := key 9 4 9 rfl
      have g10 := key 10 42 10 rfl
      have g11 := key 11 3 12 rfl
      simp only [Value.cells, cells3, cells4, cellsV, cellsVs, cellsIs, List.drop_zero, List.drop_succ_cons, List.take_succ_cons, List.take_zero, List.getElem?_cons_zero, List.getElem?_cons_succ] at g0 g1 g2 g3 g4 g5 g6 g7 g8 g9 g10 g11
      obtain ⟨id, e0, _⟩ := DataW.trod_int Tryz.underlying3 g0
      obtain ⟨at_, e1, _⟩ := DataW.trod_int Tryz.underlying3 g1
      obtain ⟨sA, slots, sC, rfl, hsl, hsb, hsr⟩ := open_vals g2 (hwe 2 _ _ rfl rfl)
      obtain ⟨full, e3, _⟩ := DataW.trod_int Tryz.underlying3 g3
      obtain ⟨mA, mail, mC, rfl, hml, hmb, hmr⟩ := open_vals g4 (hwe 4 _ _ rfl rfl)
      obtain ⟨state, e5, _⟩ := DataW.trod_int Tryz.underlying3 g5
      obtain ⟨due, e6, _⟩ := DataW.trod_int Tryz.underlying3 g6
      obtain ⟨lA, links, lC, rfl, hll, hlb, hlr⟩ := open_is g7 (hwe 7 _ _ rfl rfl)
      obtain ⟨wA, watched, wC, rfl, hwl, hwb, hwr⟩ := open_is g8 (hwe 8 _ _ rfl rfl)
      obtain ⟨trap, e9, _⟩ := DataW.trod_bool Tryz.underlying4 g9
      obtain ⟨why, e10⟩ := open_val g10
      obtain ⟨turns, e11, _⟩ := DataW.trod_int Tryz.underlying3 g11
      simp only [encV, List.cons.injEq, and_true] at e0 e1 e3 e5 e6 e9 e10 e11
      subst e0 e1 e3 e5 e6 e9 e11
      obtain ⟨rfl, rfl⟩ := e10
      exact ⟨⟨id, at_, slots, full, mail, state, due, links, watched, trap, why, turns⟩, ⟨sA, sC, mA, mC, lA, lC, wA, wC⟩, rfl, ⟨hsr, hmr, hlr, hwr, hsl, hml, hll, hwl⟩, hsb, hmb, hlb, hwb⟩
end
end Go.Proofs.YtomolbhcggaakaaGreat
/- Rows of the call's own, that read as lists; nothing of the program. -/
namespace Go.Proofs.YtomolbhcggaakaaGreat
open Go.RowKit

def OwnL {α : Type} (enc : α → List Value) (m t : Nat) (w : World) (base : Nat) (v : Value) (xs : List α) : Prop := xs.length ≤ 140737488355328 ∧ w.ownsRow base t m v xs.length (flat enc xs)
section
variable {α : Type} {enc : α → List Value} {m t : Nat} {w w' : World} {base : Nat} {v : Value} {xs : List α}
theorem flat_set {α : Type} {enc : α → List Value} {m : Nat} (hk : ∀ x, (enc x).length = m) {xs : List α} {j i : Nat} (hj : j < xs.length) (hi : i < m) {x' : α} {u : Value} (h : enc x' = (enc xs[j]).set i u) : flat enc (xs.set j x') = (flat enc xs).set (j * m + i) u := by
  induction xs generalizing j with
  | nil => simp at hj
  | cons x xs ih =>
    cases j with
    | zero =>
      simp only [List.set_cons_zero, flat, List.flatMap_cons, Nat.zero_mul, Nat.zero_add]
      rw [List.set_append_left _ _ (by rw [hk]; exact hi)]
      simp only [List.getElem_cons_zero] at h
      rw [h]
    | succ j =>
      have := ih (j := j) (by simpa using hj) (by simpa using h)
      simp only [flat] at this
      simp only [List.set_cons_succ, flat, List.flatMap_cons]
      rw [List.set_append_right _ _ (by rw [hk, Nat.succ_mul]; omega), hk, this]
      congr 2
      rw [Nat.succ_mul]; omega
theorem OwnL.stored (hk : ∀ x, (enc x).length = m) {g cap : Nat} (h : OwnL enc m t w base (.slice (some ⟨g, 0, none⟩) xs.length cap) xs) {j i : Nat} (hj : j < xs.length) (hi : i < m) {x' : α} {u : Value} (e : enc x' = (enc xs[j]).set i u) :
    OwnL enc m t (w.setCell ⟨g, j * m + i, none⟩ u) base (.slice (some ⟨g, 0, none⟩) (xs.set j x').length cap) (xs.set j x') ∧ w.grownBy (w.setCell ⟨g, j * m + i, none⟩ u) (some g) := by
  obtain ⟨h1, h2⟩ := h.2.stored (j * m + i) u
  refine ⟨⟨by rw [List.length_set]; exact h.1, ?_⟩, h2⟩
  rw [List.length_set, flat_set hk hj hi e]
  exact h1
theorem OwnL.kept (h : OwnL enc m t w base v xs) {row : Option Nat} (hg : w.grownBy w' row) (hne : v.ownBlock = none ∨ v.ownBlock ≠ row) : OwnL enc m t w' base v xs := ⟨h.1, h.2.kept hg hne⟩
theorem grown_below {w w1 : World} (h : Below w.heap.size w w1) (row : Option Nat) : w.grownBy w1 row := ⟨h.os, h.tape, h.output, h.size, fun i hi _ => h.block i hi⟩
theorem OwnL.below (h : OwnL enc m t w base v xs) (hb : Below w.heap.size w w') : OwnL enc m t w' base v xs := h.kept (grown_below hb none) (by cases v.ownBlock <;> simp)
theorem OwnL.lower {base' : Nat} (h : OwnL enc m t w base v xs) (hb : base' ≤ base) : OwnL enc m t w base' v xs := by
  obtain ⟨h0, h1, h2⟩ := h
  refine ⟨h0, h1, ?_⟩
  rcases h2 with h2 | ⟨g, cap, cur, e, h3, r⟩
  · exact .inl h2
  · exact .inr ⟨g, cap, cur, e, by omega, r⟩
theorem OwnL.nil (w : World) (base : Nat) : OwnL enc m t w base (.slice none 0 0) [] := ⟨by simp, World.ownsRow_nil w base t m⟩
theorem OwnL.reads (h : OwnL enc m t w base v xs) : ∃ A c, v = .slice A xs.length c ∧ xs.length ≤ c ∧ ReadsL enc m w w.heap.size A xs.length xs := by
  obtain ⟨h0, h⟩ := h
  have hs : ∃ A c, v = .slice A xs.length c ∧ xs.length ≤ c := by
    rcases h.2 with ⟨rfl, e⟩ | ⟨g, cap, cur, rfl, _, _, hc, _⟩
    · exact ⟨none, 0, by rw [e], by omega⟩
    · exact ⟨_, cap, rfl, hc⟩
  obtain ⟨A, c, rfl, hc⟩ := hs
  exact ⟨A, c, rfl, hc, rfl, h0, Reads.of_own h⟩
/-- Where the row begins, if it has an element. -/
theorem OwnL.form (h : OwnL enc m t w base v xs) (hp : 0 < xs.length) : ∃ g c, v = .slice (some ⟨g, 0, none⟩) xs.length c ∧ base ≤ g ∧ g < w.heap.size := h.2.form hp
theorem OwnL.cell (hk : ∀ x, (enc x).length = m) {g cap : Nat} (h : OwnL enc m t w base (.slice (some ⟨g, 0, none⟩) xs.length cap) xs) {j i : Nat} (hj : j < xs.length) (hi : i < m) :
    w.cell? ⟨g, j * m + i, none⟩ = (enc xs[j])[i]? ∧ w.frozen? ⟨g, j * m + i, none⟩ = false := by
  have hlt : j * m + i < xs.length * m := by
    have : j * m + m ≤ xs.length * m := by rw [← Nat.succ_mul]; exact Nat.mul_le_mul_right _ hj
    omega
  exact ⟨by rw [h.2.cellAt _ hlt, flat_get hk _ _ _ hi hj], h.2.frozenAt _⟩
theorem madeCells_flat {z : Array Value} {x : α} (hz : enc x = z.toList) (h0 : 0 < z.size) (n : Nat) : (madeCells z (n * z.size)).toList = flat enc (List.replicate n x) := by
  have hk : (enc x).length = z.size := by rw [hz]; simp
  induction n with
  | zero => simp [madeCells, flat]
  | succ n ih =>
    have e : flat enc (List.replicate (n + 1) x) = flat enc (List.replicate n x) ++ enc x := by
      rw [List.replicate_succ']
      simp [flat]
    rw [e, ← ih, hz]
    apply List.ext_getElem?
    intro k
    simp only [madeCells, Array.toList_map, Array.toList_range, List.getElem?_map]
    by_cases h1 : k < n * z.size
    · rw [List.getElem?_append_left (by simpa using h1), List.getElem?_map, List.getElem?_range h1, List.getElem?_range (by rw [Nat.succ_mul]; omega)]
    · rw [List.getElem?_append_right (by simpa using h1)]
      simp only [List.length_map, List.length_range]
      by_cases h2 : k < (n + 1) * z.size
      · have h3 : k - n * z.size < z.size := by rw [Nat.succ_mul] at h2; omega
        have h4 : k % z.size = k - n * z.size := by
          have : k = z.size * n + (k - n * z.size) := by rw [Nat.mul_comm]; omega
          rw [this, Nat.mul_add_mod, Nat.mod_eq_of_lt (by rw [Nat.mul_comm]; omega)]
          rw [Nat.mul_comm z.size n]; omega
        rw [List.getElem?_range h2, Option.map_some, h4, Array.getElem?_toList, Array.getElem?_eq_getElem h3, getElem!_pos z _ h3]
      · rw [List.getElem?_eq_none (by simpa using h2), List.getElem?_eq_none (by rw [Nat.succ_mul] at h2; simp; omega)]
        rfl
theorem OwnL.made {z : Array Value} {x : α} (hz : enc x = z.toList) (h0 : 0 < z.size) (hm : m = z.size) {n : Nat} (hn : n ≤ 140737488355328) (hb : base ≤ w.heap.size) :
    OwnL enc m t (w.alloc (.cells (madeCells z (n * m)) t)) base (.slice (some ⟨w.heap.size, 0, none⟩) (List.replicate n x).length n) (List.replicate n x) := by
  refine ⟨by simpa using hn, ?_⟩
  rw [List.length_replicate, hm, ← madeCells_flat hz h0]
  exact World.ownsRow_lit w _ n hb (by unfold maxLen; omega) (size_madeCells _ _)
end
end Go.Proofs.YtomolbhcggaakaaGreat
/- More on rows of the call's own: made rows, stores by the slice's own length. -/
namespace Go.Proofs.YtomolbhcggaakaaGreat
open Go.RowKit

/-- A row that is written element by element: its slice value is spelled out. -/
def RowL {α : Type} (enc : α → List Value) (m t : Nat) (w : World) (base g n cap : Nat) (xs : List α) : Prop := xs.length = n ∧ OwnL enc m t w base (.slice (some ⟨g, 0, none⟩) n cap) xs
section
variable {α : Type} {enc : α → List Value} {m t : Nat} {w w' : World} {base g n cap : Nat} {xs : List α}
theorem RowL.store (hk : ∀ x, (enc x).length = m) (h : RowL enc m t w base g n cap xs) {j i : Nat} (hj : j < xs.length) (hi : i < m) {x' : α} {u : Value} (e : enc x' = (enc xs[j]).set i u) :
    RowL enc m t (w.setCell ⟨g, j * m + i, none⟩ u) base g n cap (xs.set j x') := by
  obtain ⟨rfl, h⟩ := h
  refine ⟨List.length_set, ?_⟩
  have := (h.stored hk hj hi e).1
  rwa [List.length_set] at this
theorem RowL.ge (h : RowL enc m t w base g n cap xs) (hn : 0 < n) : base ≤ g ∧ g < w.heap.size := by
  obtain ⟨rfl, h⟩ := h
  obtain ⟨g', c, e, h1, h2⟩ := h.form hn
  simp only [Value.slice.injEq, Option.some.injEq, Addr.mk.injEq, and_true, true_and] at e
  obtain ⟨rfl, _⟩ := e
  exact ⟨h1, h2⟩
theorem RowL.cell (hk : ∀ x, (enc x).length = m) (h : RowL enc m t w base g n cap xs) {j i : Nat} (hj : j < xs.length) (hi : i < m) : w.cell? ⟨g, j * m + i, none⟩ = (enc xs[j])[i]? ∧ w.frozen? ⟨g, j * m + i, none⟩ = false := by
  obtain ⟨rfl, h⟩ := h
  exact h.cell hk hj hi
theorem RowL.made {z : Array Value} {x : α} (hz : enc x = z.toList) (h0 : 0 < z.size) (hm : m = z.size) {n : Nat} (hn : n ≤ 140737488355328) (hb : base ≤ w.heap.size) :
    RowL enc m t (w.alloc (.cells (madeCells z (n * m)) t)) base w.heap.size n n (List.replicate n x) := by
  have := OwnL.made (t := t) hz h0 hm hn hb
  rw [List.length_replicate] at this
  exact ⟨List.length_replicate, this⟩
end
theorem run_make_m {P : Program} (t e : TypeId) (z : Value) (size bytes : Nat) (ht : P.underlying t = some (.slice e)) (hinfo : (P.info? e).map (fun i => (i.zero, i.size, i.bytes)) = some (some z, size, bytes)) (n : Nat) (hbytes : bytes * n ≤ 281474976710656) (h63 : n ≤ 9223372036854775807) (w : World) :
    (Instr.makeSlice t (.int .i64 (n : Int)) (.int .i64 (n : Int))).run P w = .ok (.slice (some ⟨w.heap.size, 0, none⟩) n n) (w.alloc (.cells (madeCells z.cells (n * size)) e)) := by
  obtain ⟨i, hi, hzz⟩ := Option.map_eq_some_iff.1 hinfo
  simp only [Prod.mk.injEq] at hzz
  obtain ⟨hz, hs, hb⟩ := hzz
  have hb' : (i.bytes : Int) * (n : Int) ≤ 281474976710656 := by
    have h : ((i.bytes * n : Nat) : Int) ≤ 281474976710656 := by rw [hb]; omega
    rwa [Int.natCast_mul] at h
  have hr := run_make (P := P) w t e i z ht hi hz .i64 .i64 n n (by omega) (Int.le_refl _) hb' (by omega)
  simp only [Int.toNat_natCast, hs] at hr
  exact hr
/-- A list that is written place by place. -/
theorem upto_end {α : Type} {l c : List α} {n : Nat} (hl : l.length = n) (hc : c.length = n) (h : ∀ j, j < n → c[j]? = l[j]?) : c = l := by
  apply List.ext_getElem?
  intro j
  by_cases hj : j < n
  · exact h j hj
  · rw [List.getElem?_eq_none (by omega), List.getElem?_eq_none (by omega)]
theorem upto_step {α : Type} {l c : List α} {k : Nat} (hk : k < c.length) (h : ∀ j, j < k → c[j]? = l[j]?) {x : α} (hx : l[k]? = some x) : ∀ j, j < k + 1 → (c.set k x)[j]? = l[j]? := by
  intro j hj
  rw [List.getElem?_set]
  by_cases e : k = j
  · subst e
    rw [if_pos rfl, if_pos hk, hx]
  · rw [if_neg e]
    exact h j (by omega)
end Go.Proofs.YtomolbhcggaakaaGreat
