/- Parts of the proof, in one text. -/
import Derived.Test.YtmidnaafljgbiaaRows
import Derived.WalkKit
import Derived.ProofKit
import Derived.OpenShut
import Derived.ShutString
import Derived.ChangeOld
import Derived.Below
import Derived.SizedLaws
import Derived.Deep.Slices
import Derived.Test.YtmidnaafljgbiaaN01
import Derived.Test.YtmidnaafljgbiaaN30
/- A run of the laws, given as an argument, opened: its fields and what its lists hold. -/
namespace Go.Proofs.Ytmidnaafljgbiaa
set_option maxRecDepth 100000
open Go.ChangeShapes Go.WideShapes Go.ChangeAt Go.RowKit Go.Deep

theorem reads_of_cells {α : Type} {enc : α → List Value} {k : Nat} (hk : ∀ x, (enc x).length = k) (h0 : 0 < k) {w : World} {a : Addr} {xs : List α} (hn : xs.length ≤ 140737488355328)
    (h : ∀ j (hj : j < xs.length) i, i < k → w.cell? (a.add (j * k + i)) = (enc xs[j])[i]?) : ReadsL enc k w w.heap.size (some a) xs.length xs := by
  refine ⟨rfl, hn, flat_length hk xs, fun hp => ⟨a, rfl, ?_, fun j u hu => ?_⟩⟩
  · have := h 0 hp 0 h0
    rw [List.getElem?_eq_getElem (by rw [hk]; exact h0)] at this
    have := World.block_lt_of_cell? w _ this
    rwa [block_of_add] at this
  · have hj : j < (flat enc xs).length := (List.getElem?_eq_some_iff.1 hu).1
    rw [flat_length hk] at hj
    have hq : j / k < xs.length := by rw [Nat.div_lt_iff_lt_mul h0]; exact hj
    have hr : j % k < k := Nat.mod_lt _ h0
    have e : j / k * k + j % k = j := Nat.div_add_mod' j k
    have := flat_get hk xs (j / k) (j % k) hr hq
    rw [e, hu] at this
    have g := h (j / k) hq (j % k) hr
    rw [e, ← this] at g
    exact g

section
variable {H : Type} {enc : TypeId × Value → H} {w : World} {base n : Nat} {held : Bool}
theorem cells3 : Try.prog.cellsOf 3 = 1 := by kernel_rfl
theorem cellsV : Try.prog.cellsOf 25 = 2 := by kernel_rfl
theorem open_val {cs : List Value} {y : DataW H × List MemPlace} {spare : Nat → Bool} (h : DataW.trod enc Try.prog w base spare held n 25 cs = some y) : ∃ x : Vl, cs = encV x := by
  obtain ⟨ys, n', _, _, hlen, hyl, hf⟩ := DataW.trod_struct Try.underlying25 h
  match cs, hlen.trans cellsV with
  | [c0, c1], _ =>
    match ys, hyl with
    | [y0, y1], _ =>
      have g0 := hf 0 _ rfl
      have g1 := hf 1 _ rfl
      simp only [List.getElem?_cons_zero, List.getElem?_cons_succ] at g0 g1
      obtain ⟨k, e0, _⟩ := DataW.trod_int Try.underlying3 g0
      obtain ⟨m, e1, _⟩ := DataW.trod_int Try.underlying3 g1
      exact ⟨⟨k, m⟩, by injection e0 with e0; injection e1 with e1; rw [e0, e1]; rfl⟩

end
end Go.Proofs.Ytmidnaafljgbiaa
/- A run of the laws, given as an argument: all its fields. -/
namespace Go.Proofs.Ytmidnaafljgbiaa
set_option maxRecDepth 100000
open Go.ChangeShapes Go.WideShapes Go.ChangeAt Go.RowKit Go.Deep
section
variable {H : Type} {enc : TypeId × Value → H} {w : World} {base : Nat}

theorem field_of {P : Program} {n : Nat} {fs : Array Field} {cs : List Value} {xs : List (DataW H × List MemPlace)} {spare : Nat → Bool} {held : Bool}
    (hg : ∀ (i : Nat) (f : Field), fs[i]? = some f → DataW.trod enc P w base spare held n f.type ((cs.drop f.offset).take (P.cellsOf f.type)) = xs[i]?) :
    ∀ (i t o : Nat), fs[i]?.map (fun f => (f.type, f.offset)) = some (t, o) → DataW.trod enc P w base spare held n t ((cs.drop o).take (P.cellsOf t)) = xs[i]? := by
  intro i t o h
  obtain ⟨f, hf, e⟩ := Option.map_eq_some_iff.1 h
  injection e with e1 e2
  subst e1 e2
  exact hg i f hf

end
end Go.Proofs.Ytmidnaafljgbiaa
/- Steps of the laws, given as an argument, opened. -/
namespace Go.Proofs.Ytmidnaafljgbiaa
set_option maxRecDepth 100000
open Go.ChangeShapes Go.WideShapes Go.ChangeAt Go.RowKit Go.Deep

section
variable {H : Type} {enc : TypeId × Value → H} {w : World} {base n : Nat} {held : Bool}
theorem cellsOp : Try.prog.cellsOf 88 = 6 := by kernel_rfl
theorem bytesOp : Try.prog.bytesOf 88 = 48 := by kernel_rfl
theorem open_op {cs : List Value} {y : DataW H × List MemPlace} {spare : Nat → Bool} (h : DataW.trod enc Try.prog w base spare held n 88 cs = some y) : ∃ x : Opx, cs = encO x := by
  obtain ⟨ys, n', _, _, hlen, hyl, hf⟩ := DataW.trod_struct Try.underlying88 h
  match cs, hlen.trans cellsOp with
  | [c0, c1, c2, c3, c4, c5], _ =>
    match ys, hyl with
    | [y0, y1, y2, y3, y4], _ =>
      have key := field_of hf
      have g0 := key 0 3 0 rfl
      have g1 := key 1 3 1 rfl
      have g2 := key 2 3 2 rfl
      have g3 := key 3 3 3 rfl
      have g4 := key 4 25 4 rfl
      simp only [cells3, cellsV, List.drop_zero, List.drop_succ_cons, List.take_succ_cons, List.take_zero, List.getElem?_cons_zero, List.getElem?_cons_succ] at g0 g1 g2 g3 g4
      obtain ⟨k, e0, _⟩ := DataW.trod_int Try.underlying3 g0
      obtain ⟨r, e1, _⟩ := DataW.trod_int Try.underlying3 g1
      obtain ⟨s, e2, _⟩ := DataW.trod_int Try.underlying3 g2
      obtain ⟨to, e3, _⟩ := DataW.trod_int Try.underlying3 g3
      obtain ⟨v, e4⟩ := open_val g4
      simp only [encV, List.cons.injEq, and_true] at e0 e1 e2 e3 e4
      obtain ⟨e4, e5⟩ := e4
      subst e0 e1 e2 e3 e4 e5
      exact ⟨⟨k, r, s, to, v⟩, rfl⟩
theorem open_ops {c : Value} {y : DataW H × List MemPlace} (h : DataW.trod enc Try.prog w base (fun _ => true) held n 40 [c] = some y) (hw : ∀ k ∈ y.1.weights Try.prog 40, k ≤ reachBytes) :
    ∃ (A : Option Addr) (xs : List Opx) (cap : Nat), c = .slice A xs.length cap ∧ xs.length ≤ cap ∧ xs.length * 48 ≤ 140737488351232 ∧ ReadsL encO 6 w w.heap.size A xs.length xs := by
  rcases open_slice Try.underlying40 h with ⟨hcs, _⟩ | ⟨a, len, cap, m, n', D, Pl, hcs, _, hl, _, hmm, hx, hi⟩
  · exact ⟨none, [], 0, by injection hcs, Nat.le_refl _, by decide, rfl, by decide, Reads.none_⟩
  · simp only [if_true] at hmm
    subst hmm
    have hc : ∀ i, i < m → ∃ x : Opx, ∀ j, j < 6 → w.cell? (a.add (i * 6 + j)) = (encO x)[j]? := by
      intro i hi'
      obtain ⟨cs', hcells, ht⟩ := hi i hi'
      obtain ⟨x, rfl⟩ := open_op ht
      rw [cellsOp] at hcells
      obtain ⟨_, _, hat⟩ := World.cells?_some hcells
      exact ⟨x, fun j hj => by rw [← Go.Deep.add_add]; exact hat j hj⟩
    have hs : m * 48 ≤ 140737488351232 := by
      have := hw ((List.length ((List.range len).map D) + List.length ((List.range (m - len)).map fun j => D (len + j))) * Try.prog.bytesOf 88) (by rw [hx]; simp [DataW.weights, Try.underlying40])
      rw [bytesOp] at this
      simp only [List.length_map, List.length_range] at this
      have e : len + (m - len) = m := by omega
      rw [e] at this
      exact this
    let F : Nat → Opx := fun i => if h : i < m then Classical.choose (hc i h) else default
    have hF : ∀ i, i < m → ∀ j, j < 6 → w.cell? (a.add (i * 6 + j)) = (encO (F i))[j]? := by
      intro i hi'
      have := Classical.choose_spec (hc i hi')
      simp only [F, dif_pos hi']
      exact this
    have hlen : ((List.range len).map F).length = len := by simp
    refine ⟨some a, (List.range len).map F, m, by rw [hlen]; injection hcs, by rw [hlen]; exact hl, by rw [hlen]; omega, ?_⟩
    refine reads_of_cells encO_length (by decide) (by rw [hlen]; omega) fun j hj i hi' => ?_
    rw [hlen] at hj
    rw [hF j (by omega) i hi']
    simp
end
theorem open_opsA {H : Type} {enc : TypeId × Value → H} {w : World} {base : Nat} {re : Reach} {v : Value} {d : DataW H} {p : List MemPlace} (hv : Value.okWide Try.prog w re base 40 v) (h : DataW.Trod enc Try.prog w 0 (fun _ => true) true 40 v d p) (hw : ∀ k ∈ d.weights Try.prog 40, k ≤ reachBytes) :
    ∃ (A : Option Addr) (xs : List Opx) (cap : Nat), v = .slice A xs.length cap ∧ xs.length * 48 ≤ 140737488351232 ∧ ReadsL encO 6 w w.heap.size A xs.length xs := by
  obtain ⟨a1, len, cap, rfl⟩ := okWide_slice Try.underlying40 hv
  obtain ⟨fuel, hf⟩ := h
  obtain ⟨A, xs, cap', e, _, h1, h2⟩ := open_ops (c := .slice a1 len cap) hf hw
  exact ⟨A, xs, cap', e, h1, h2⟩
end Go.Proofs.Ytmidnaafljgbiaa
