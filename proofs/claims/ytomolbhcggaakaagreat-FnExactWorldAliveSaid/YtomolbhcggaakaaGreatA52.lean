/- Parts of the proof, in one text. -/
import Derived.Deep.RegionHeld3
import Derived.Test.YtomolbhcggaakaaGreatRows
import Derived.WalkKit
import Derived.ProofKit
import Derived.OpenShut
import Derived.ShutString
import Derived.ChangeOld
import Derived.Below
import Derived.SizedLaws
import Derived.Deep.Slices
import Derived.Test.YtomolbhcggaakaaGreatG15
import Derived.Test.YtomolbhcggaakaaGreatG16
import Derived.Test.YtomolbhcggaakaaGreatA51
import Derived.Test.YtomolbhcggaakaaGreatG01
/- Sizes of a law's world; both texts' answers. -/
namespace Go.Proofs.YtomolbhcggaakaaGreat
open Go.RowKit
set_option maxRecDepth 100000

theorem sizeW_bounds {W : Wm} (c : ¬ szTo 1048576 (sizeW W.wd) < 0) : W.code.length ≤ 1048576 ∧ W.ps.length ≤ 1048576 ∧ W.queue.length ≤ 1048576 ∧ ∀ k (hk : k < W.ps.length), W.ps[k].1.slots.length ≤ 1048576 ∧ W.ps[k].1.mail.length ≤ 1048576 ∧ W.ps[k].1.links.length ≤ 1048576 ∧ W.ps[k].1.watched.length ≤ 1048576 := by
  have h : sizeW W.wd ≤ 1048576 := by
    unfold szTo at c
    split at c
    · exact absurd (by decide) c
    · omega
  have e : sizeW W.wd = W.code.length + (W.ps.length + sizesR (W.ps.map (·.1))) + W.queue.length := by simp [sizeW, Wm.wd]
  have nn := sizesR_nonneg (W.ps.map (·.1))
  refine ⟨by omega, by omega, by omega, fun k hk => ?_⟩
  have h1 := sizesR_ps W.ps hk
  have h2 := sizesR_psle W.ps (k + 1)
  have h3 := sizesR_psnn W.ps k
  have h4 : sizeR W.ps[k].1 = W.ps[k].1.slots.length + W.ps[k].1.mail.length + W.ps[k].1.links.length + W.ps[k].1.watched.length := rfl
  omega
theorem lToWorldZ (W : Wm) (B : Nat) (w : World) (h : ReadsW w B W) (hB : B ≤ w.heap.size) (c : ¬ szTo 1048576 (sizeW W.wd) < 0) :
    Calls Tryz.prog 14 #[.agg (wArr W)] w fun e w' => ∃ V : Wm, V.wd = W.wd ∧ e = .returned (.agg (wArr V)) ∧ Mem w [] w' [wld V] :=
  have s := sizeW_bounds c
  lToWorld W B w h hB s.1 s.2.1 s.2.2.1 s.2.2.2
end Go.Proofs.YtomolbhcggaakaaGreat
/- A run of the laws, given as an argument, opened: its fields and what its lists hold. -/
namespace Go.Proofs.YtomolbhcggaakaaGreat
set_option maxRecDepth 100000
open Go.ChangeShapes Go.WideShapes Go.ChangeAt Go.RowKit Go.Deep

theorem reads_of_cells {α : Type} {enc : α → List Value} {k : Nat} (hk : ∀ x, (enc x).length = k) (h0 : 0 < k) {w : World} {a : Addr} {xs : List α} (hn : xs.length ≤ 140737488355328)
    (h : ∀ j (hj : j < xs.length) i, i < k → w.cell? (a.add (j * k + i)) = (enc xs[j])[i]?) : ReadsL enc k w w.heap.size (some a) xs.length xs := by
  refine ⟨rfl, hn, flat_length hk xs, fun hp => ⟨a, rfl, ?_, fun j u hu => ?_⟩⟩
  · have := h 0 hp 0 h0
    rw [List.getElem?_eq_getElem (by rw [hk]; exact h0)] at this
    have := World.block_lt_of_cell? w _ this
    rwa [block_of_add] at this
  · have hj : j < (flat enc xs).length := (List.getElem?_eq_some_iff.1 hu).1
    rw [flat_length hk] at hj
    have hq : j / k < xs.length := by rw [Nat.div_lt_iff_lt_mul h0]; exact hj
    have hr : j % k < k := Nat.mod_lt _ h0
    have e : j / k * k + j % k = j := Nat.div_add_mod' j k
    have := flat_get hk xs (j / k) (j % k) hr hq
    rw [e, hu] at this
    have g := h (j / k) hq (j % k) hr
    rw [e, ← this] at g
    exact g

section
variable {H : Type} {enc : TypeId × Value → H} {w : World} {base n : Nat} {held : Bool}
theorem cells3 : Tryz.prog.cellsOf 3 = 1 := by kernel_rfl
theorem cells4 : Tryz.prog.cellsOf 4 = 1 := by kernel_rfl
theorem cellsV : Tryz.prog.cellsOf 42 = 2 := by kernel_rfl
theorem cellsVs : Tryz.prog.cellsOf 88 = 1 := by kernel_rfl
theorem cellsIs : Tryz.prog.cellsOf 24 = 1 := by kernel_rfl
theorem cellsR : Tryz.prog.cellsOf 90 = 13 := by kernel_rfl
theorem bytesV : Tryz.prog.bytesOf 42 = 16 := by kernel_rfl
theorem bytesI : Tryz.prog.bytesOf 3 = 8 := by kernel_rfl

theorem open_val {cs : List Value} {y : DataW H × List MemPlace} {spare : Nat → Bool} (h : DataW.trod enc Tryz.prog w base spare held n 42 cs = some y) : ∃ x : Vl, cs = encV x := by
  obtain ⟨ys, n', _, _, hlen, hyl, hf⟩ := DataW.trod_struct Tryz.underlying42 h
  match cs, hlen.trans cellsV with
  | [c0, c1], _ =>
    match ys, hyl with
    | [y0, y1], _ =>
      have g0 := hf 0 _ rfl
      have g1 := hf 1 _ rfl
      simp only [List.getElem?_cons_zero, List.getElem?_cons_succ] at g0 g1
      obtain ⟨k, e0, _⟩ := DataW.trod_int Tryz.underlying3 g0
      obtain ⟨m, e1, _⟩ := DataW.trod_int Tryz.underlying3 g1
      exact ⟨⟨k, m⟩, by injection e0 with e0; injection e1 with e1; rw [e0, e1]; rfl⟩

theorem open_vals {c : Value} {y : DataW H × List MemPlace} (h : DataW.trod enc Tryz.prog w base (fun _ => true) held n 88 [c] = some y) (hw : ∀ k ∈ y.1.weights Tryz.prog 88, k ≤ reachBytes) :
    ∃ (A : Option Addr) (xs : List Vl) (cap : Nat), c = .slice A xs.length cap ∧ xs.length ≤ cap ∧ xs.length * 16 ≤ 140737488351232 ∧ ReadsV w w.heap.size A xs.length xs := by
  rcases open_slice Tryz.underlying88 h with ⟨hcs, _⟩ | ⟨a, len, cap, m, n', D, Pl, hcs, _, hl, _, hmm, hx, hi⟩
  · exact ⟨none, [], 0, by injection hcs, Nat.le_refl _, by decide, rfl, by decide, Reads.none_⟩
  · simp only [if_true] at hmm
    subst hmm
    have hc : ∀ i, i < m → ∃ x : Vl, ∀ j, j < 2 → w.cell? (a.add (i * 2 + j)) = (encV x)[j]? := by
      intro i hi'
      obtain ⟨cs', hcells, ht⟩ := hi i hi'
      obtain ⟨x, rfl⟩ := open_val ht
      rw [cellsV] at hcells
      obtain ⟨_, _, hat⟩ := World.cells?_some hcells
      exact ⟨x, fun j hj => by rw [← Go.Deep.add_add]; exact hat j hj⟩
    have hs : m * 16 ≤ 140737488351232 := by
      have := hw ((List.length ((List.range len).map D) + List.length ((List.range (m - len)).map fun j => D (len + j))) * Tryz.prog.bytesOf 42) (by rw [hx]; simp [DataW.weights, Tryz.underlying88])
      rw [bytesV] at this
      simp only [List.length_map, List.length_range] at this
      have e : len + (m - len) = m := by omega
      rw [e] at this
      exact this
    let F : Nat → Vl := fun i => if h : i < m then Classical.choose (hc i h) else ⟨0, 0⟩
    have hF : ∀ i, i < m → ∀ j, j < 2 → w.cell? (a.add (i * 2 + j)) = (encV (F i))[j]? := by
      intro i hi'
      have := Classical.choose_spec (hc i hi')
      simp only [F, dif_pos hi']
      exact this
    have hlen : ((List.range len).map F).length = len := by simp
    refine ⟨some a, (List.range len).map F, m, by rw [hlen]; injection hcs, by rw [hlen]; exact hl, by rw [hlen]; omega, ?_⟩
    refine reads_of_cells encV_length (by decide) (by rw [hlen]; omega) fun j hj i hi' => ?_
    rw [hlen] at hj
    rw [hF j (by omega) i hi']
    simp

theorem open_is {c : Value} {y : DataW H × List MemPlace} (h : DataW.trod enc Tryz.prog w base (fun _ => true) held n 24 [c] = some y) (hw : ∀ k ∈ y.1.weights Tryz.prog 24, k ≤ reachBytes) :
    ∃ (A : Option Addr) (xs : List Int) (cap : Nat), c = .slice A xs.length cap ∧ xs.length ≤ cap ∧ xs.length * 8 ≤ 140737488351232 ∧ ReadsI w w.heap.size A xs.length xs := by
  rcases open_ints Tryz.underlying24 Tryz.underlying3 cells3 h with ⟨hcs, _⟩ | ⟨a, len, cap, zs, hcs, _, hl, _, hz, hx, hcell, _⟩
  · exact ⟨none, [], 0, by injection hcs, Nat.le_refl _, by decide, rfl, by decide, Reads.none_⟩
  · simp only [if_true] at hz
    have hs : cap * 8 ≤ 140737488351232 := by
      have := hw ((List.length (lits (H := H) .i64 (zs.take len)) + List.length (lits (H := H) .i64 (zs.drop len))) * Tryz.prog.bytesOf 3) (by rw [hx]; simp [DataW.weights, Tryz.underlying24])
      rw [bytesI] at this
      simp only [lits, List.length_map, List.length_take, List.length_drop] at this
      have e : min len zs.length + (zs.length - len) = cap := by omega
      rw [e] at this
      exact this
    have hlen : (zs.take len).length = len := by rw [List.length_take]; omega
    refine ⟨some a, zs.take len, cap, by rw [hlen]; injection hcs, by rw [hlen]; exact hl, by rw [hlen]; omega, ?_⟩
    refine reads_of_cells encI_length (by decide) (by rw [hlen]; omega) fun j hj i hi' => ?_
    rw [hlen] at hj
    obtain rfl : i = 0 := by omega
    rw [Nat.mul_one, Nat.add_zero, hcell j (by omega)]
    simp [encI, List.getD_eq_getElem?_getD, List.getElem?_eq_getElem (show j < zs.length by omega)]
end
end Go.Proofs.YtomolbhcggaakaaGreat
