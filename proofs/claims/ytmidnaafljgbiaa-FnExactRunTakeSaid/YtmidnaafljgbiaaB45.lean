/- Parts of the proof, in one text. -/
import Derived.Test.YtmidnaafljgbiaaRows
import Derived.WalkKit
import Derived.ProofKit
import Derived.OpenShut
import Derived.ShutString
import Derived.ChangeOld
import Derived.Below
import Derived.SizedLaws
import Derived.Deep.Slices
import Derived.Test.YtmidnaafljgbiaaB01
import Derived.Test.YtmidnaafljgbiaaB03
/- A run of the laws, given as an argument, opened: its fields and what its lists hold. -/
namespace Go.Proofs.Ytmidnaafljgbiaa
set_option maxRecDepth 100000
open Go.ChangeShapes Go.WideShapes Go.ChangeAt Go.RowKit Go.Deep

theorem reads_of_cells {α : Type} {enc : α → List Value} {k : Nat} (hk : ∀ x, (enc x).length = k) (h0 : 0 < k) {w : World} {a : Addr} {xs : List α} (hn : xs.length ≤ 140737488355328)
    (h : ∀ j (hj : j < xs.length) i, i < k → w.cell? (a.add (j * k + i)) = (enc xs[j])[i]?) : ReadsL enc k w w.heap.size (some a) xs.length xs := by
  refine ⟨rfl, hn, flat_length hk xs, fun hp => ⟨a, rfl, ?_, fun j u hu => ?_⟩⟩
  · have := h 0 hp 0 h0
    rw [List.getElem?_eq_getElem (by rw [hk]; exact h0)] at this
    have := World.block_lt_of_cell? w _ this
    rwa [block_of_add] at this
  · have hj : j < (flat enc xs).length := (List.getElem?_eq_some_iff.1 hu).1
    rw [flat_length hk] at hj
    have hq : j / k < xs.length := by rw [Nat.div_lt_iff_lt_mul h0]; exact hj
    have hr : j % k < k := Nat.mod_lt _ h0
    have e : j / k * k + j % k = j := Nat.div_add_mod' j k
    have := flat_get hk xs (j / k) (j % k) hr hq
    rw [e, hu] at this
    have g := h (j / k) hq (j % k) hr
    rw [e, ← this] at g
    exact g

section
variable {H : Type} {enc : TypeId × Value → H} {w : World} {base n : Nat} {held : Bool}
theorem cells3 : Try.prog.cellsOf 3 = 1 := by kernel_rfl
theorem cells4 : Try.prog.cellsOf 4 = 1 := by kernel_rfl
theorem cellsV : Try.prog.cellsOf 25 = 2 := by kernel_rfl
theorem cellsVs : Try.prog.cellsOf 22 = 1 := by kernel_rfl
theorem cellsIs : Try.prog.cellsOf 23 = 1 := by kernel_rfl
theorem cellsR : Try.prog.cellsOf 27 = 13 := by kernel_rfl
theorem bytesV : Try.prog.bytesOf 25 = 16 := by kernel_rfl
theorem bytesI : Try.prog.bytesOf 3 = 8 := by kernel_rfl

theorem open_val {cs : List Value} {y : DataW H × List MemPlace} {spare : Nat → Bool} (h : DataW.trod enc Try.prog w base spare held n 25 cs = some y) : ∃ x : Vl, cs = encV x := by
  obtain ⟨ys, n', _, _, hlen, hyl, hf⟩ := DataW.trod_struct Try.underlying25 h
  match cs, hlen.trans cellsV with
  | [c0, c1], _ =>
    match ys, hyl with
    | [y0, y1], _ =>
      have g0 := hf 0 _ rfl
      have g1 := hf 1 _ rfl
      simp only [List.getElem?_cons_zero, List.getElem?_cons_succ] at g0 g1
      obtain ⟨k, e0, _⟩ := DataW.trod_int Try.underlying3 g0
      obtain ⟨m, e1, _⟩ := DataW.trod_int Try.underlying3 g1
      exact ⟨⟨k, m⟩, by injection e0 with e0; injection e1 with e1; rw [e0, e1]; rfl⟩

theorem open_vals {c : Value} {y : DataW H × List MemPlace} (h : DataW.trod enc Try.prog w base (fun _ => true) held n 22 [c] = some y) (hw : ∀ k ∈ y.1.weights Try.prog 22, k ≤ reachBytes) :
    ∃ (A : Option Addr) (xs : List Vl) (cap : Nat), c = .slice A xs.length cap ∧ xs.length ≤ cap ∧ xs.length * 16 ≤ 140737488351232 ∧ ReadsV w w.heap.size A xs.length xs := by
  rcases open_slice Try.underlying22 h with ⟨hcs, _⟩ | ⟨a, len, cap, m, n', D, Pl, hcs, _, hl, _, hmm, hx, hi⟩
  · exact ⟨none, [], 0, by injection hcs, Nat.le_refl _, by decide, rfl, by decide, Reads.none_⟩
  · simp only [if_true] at hmm
    subst hmm
    have hc : ∀ i, i < m → ∃ x : Vl, ∀ j, j < 2 → w.cell? (a.add (i * 2 + j)) = (encV x)[j]? := by
      intro i hi'
      obtain ⟨cs', hcells, ht⟩ := hi i hi'
      obtain ⟨x, rfl⟩ := open_val ht
      rw [cellsV] at hcells
      obtain ⟨_, _, hat⟩ := World.cells?_some hcells
      exact ⟨x, fun j hj => by rw [← Go.Deep.add_add]; exact hat j hj⟩
    have hs : m * 16 ≤ 140737488351232 := by
      have := hw ((List.length ((List.range len).map D) + List.length ((List.range (m - len)).map fun j => D (len + j))) * Try.prog.bytesOf 25) (by rw [hx]; simp [DataW.weights, Try.underlying22])
      rw [bytesV] at this
      simp only [List.length_map, List.length_range] at this
      have e : len + (m - len) = m := by omega
      rw [e] at this
      exact this
    let F : Nat → Vl := fun i => if h : i < m then Classical.choose (hc i h) else ⟨0, 0⟩
    have hF : ∀ i, i < m → ∀ j, j < 2 → w.cell? (a.add (i * 2 + j)) = (encV (F i))[j]? := by
      intro i hi'
      have := Classical.choose_spec (hc i hi')
      simp only [F, dif_pos hi']
      exact this
    have hlen : ((List.range len).map F).length = len := by simp
    refine ⟨some a, (List.range len).map F, m, by rw [hlen]; injection hcs, by rw [hlen]; exact hl, by rw [hlen]; omega, ?_⟩
    refine reads_of_cells encV_length (by decide) (by rw [hlen]; omega) fun j hj i hi' => ?_
    rw [hlen] at hj
    rw [hF j (by omega) i hi']
    simp

theorem open_is {c : Value} {y : DataW H × List MemPlace} (h : DataW.trod enc Try.prog w base (fun _ => true) held n 23 [c] = some y) (hw : ∀ k ∈ y.1.weights Try.prog 23, k ≤ reachBytes) :
    ∃ (A : Option Addr) (xs : List Int) (cap : Nat), c = .slice A xs.length cap ∧ xs.length ≤ cap ∧ xs.length * 8 ≤ 140737488351232 ∧ ReadsI w w.heap.size A xs.length xs := by
  rcases open_ints Try.underlying23 Try.underlying3 cells3 h with ⟨hcs, _⟩ | ⟨a, len, cap, zs, hcs, _, hl, _, hz, hx, hcell, _⟩
  · exact ⟨none, [], 0, by injection hcs, Nat.le_refl _, by decide, rfl, by decide, Reads.none_⟩
  · simp only [if_true] at hz
    have hs : cap * 8 ≤ 140737488351232 := by
      have := hw ((List.length (lits (H := H) .i64 (zs.take len)) + List.length (lits (H := H) .i64 (zs.drop len))) * Try.prog.bytesOf 3) (by rw [hx]; simp [DataW.weights, Try.underlying23])
      rw [bytesI] at this
      simp only [lits, List.length_map, List.length_take, List.length_drop] at this
      have e : min len zs.length + (zs.length - len) = cap := by omega
      rw [e] at this
      exact this
    have hlen : (zs.take len).length = len := by rw [List.length_take]; omega
    refine ⟨some a, zs.take len, cap, by rw [hlen]; injection hcs, by rw [hlen]; exact hl, by rw [hlen]; omega, ?_⟩
    refine reads_of_cells encI_length (by decide) (by rw [hlen]; omega) fun j hj i hi' => ?_
    rw [hlen] at hj
    obtain rfl : i = 0 := by omega
    rw [Nat.mul_one, Nat.add_zero, hcell j (by omega)]
    simp [encI, List.getD_eq_getElem?_getD, List.getElem?_eq_getElem (show j < zs.length by omega)]
end
end Go.Proofs.Ytmidnaafljgbiaa
/- Bytes that a law is given. -/
namespace Go.Proofs.Ytmidnaafljgbiaa
open Go.ChangeShapes Go.WideShapes Go.ChangeAt Go.RowKit
set_option maxRecDepth 100000
theorem cellsB : Try.prog.cellsOf 5 = 1 := by kernel_rfl
/-- A slice of bytes as it came in, of whatever length. -/
def BytesIn (W : World) (A : Option Addr) (n : Nat) (bs : Nat → Int) : Prop := (∀ j, 0 ≤ bs j ∧ bs j ≤ 255) ∧ match A with
    | some ad => ∀ j, j < n → W.cell? (ad.add j) = some (.int .u8 (bs j))
    | none => n = 0
theorem open_bytesA {H : Type} {enc : TypeId × Value → H} {w : World} {base : Nat} {re : Reach} {v : Value} {d : DataW H} {p : List MemPlace} (hv : Value.okWide Try.prog w re base 54 v) (h : DataW.Trod enc Try.prog w 0 (fun _ => true) true 54 v d p) :
    ∃ (A : Option Addr) (n c : Nat) (bs : Nat → Int), v = .slice A n c ∧ n ≤ c ∧ c ≤ maxLen ∧ BytesIn w A n bs := by
  obtain ⟨a1, len, cap, rfl⟩ := okWide_slice Try.underlying54 hv
  obtain ⟨fuel, hf⟩ := h
  rcases open_ints Try.underlying54 Try.underlying5 cellsB hf with ⟨hcs, hx⟩ | ⟨a, len', cap', zs, hcs, _, hl, hm, hz, hx, hcell, hwz⟩
  · simp [Value.cells] at hcs
    obtain ⟨rfl, rfl, rfl⟩ := hcs
    exact ⟨none, 0, 0, fun _ => 0, rfl, Nat.le_refl _, Nat.zero_le _, fun _ => by simp, rfl⟩
  · simp [Value.cells] at hcs
    obtain ⟨rfl, rfl, rfl⟩ := hcs
    simp only [if_true] at hz
    refine ⟨some a, len, cap, fun j => zs.getD j 0, rfl, hl, hm, fun j => ?_, fun j hj => hcell j (by omega)⟩
    have hb := range_u8 hwz j
    simpa [List.getD_eq_getElem?_getD] using hb
end Go.Proofs.Ytmidnaafljgbiaa
/- A run of the laws, given as an argument: all its fields. -/
namespace Go.Proofs.Ytmidnaafljgbiaa
set_option maxRecDepth 100000
open Go.ChangeShapes Go.WideShapes Go.ChangeAt Go.RowKit Go.Deep
section
variable {H : Type} {enc : TypeId × Value → H} {w : World} {base : Nat}

theorem field_of {P : Program} {n : Nat} {fs : Array Field} {cs : List Value} {xs : List (DataW H × List MemPlace)} {spare : Nat → Bool} {held : Bool}
    (hg : ∀ (i : Nat) (f : Field), fs[i]? = some f → DataW.trod enc P w base spare held n f.type ((cs.drop f.offset).take (P.cellsOf f.type)) = xs[i]?) :
    ∀ (i t o : Nat), fs[i]?.map (fun f => (f.type, f.offset)) = some (t, o) → DataW.trod enc P w base spare held n t ((cs.drop o).take (P.cellsOf t)) = xs[i]? := by
  intro i t o h
  obtain ⟨f, hf, e⟩ := Option.map_eq_some_iff.1 h
  injection e with e1 e2
  subst e1 e2
  exact hg i f hf

theorem open_run {v : Value} {d : DataW H} {p : List MemPlace} {re : Reach} (hv : Value.okWide Try.prog w re base 27 v) (h : DataW.Trod enc Try.prog w 0 (fun _ => true) true 27 v d p) (hw : ∀ k ∈ d.weights Try.prog 27, k ≤ reachBytes) :
    ∃ (r : Rn) (a : RA), v = .agg (runArr r a) ∧ ReadsRun w w.heap.size r a ∧ r.slots.length * 16 ≤ 140737488351232 ∧ r.mail.length * 16 ≤ 140737488351232 ∧ r.links.length * 8 ≤ 140737488351232 ∧ r.watched.length * 8 ≤ 140737488351232 := by
  obtain ⟨cs, rfl, hsz⟩ := okWide_struct Try.underlying27 hv
  obtain ⟨l⟩ := cs
  match l, hsz.trans cellsR with
  | [c0, c1, c2, c3, c4, c5, c6, c7, c8, c9, c10, c11, c12], _ =>
    obtain ⟨fuel, hf⟩ := h
    obtain ⟨xs, n, _, hx, _, hlen, hg⟩ := DataW.trod_struct Try.underlying27 hf
    match xs, hlen with
    | [y0, y1, y2, y3, y4, y5, y6, y7, y8, y9, y10, y11], _ =>
      simp only [Prod.mk.injEq] at hx
      have hd := hx.1
      subst hd
      have hwe : ∀ (j : Nat) (t : TypeId) (dd : DataW H), ([3, 3, 22, 3, 22, 3, 3, 23, 23, 4, 25, 3] : List TypeId)[j]? = some t → ([y0, y1, y2, y3, y4, y5, y6, y7, y8, y9, y10, y11].map (·.1))[j]? = some dd → ∀ k ∈ dd.weights Try.prog t, k ≤ reachBytes := by
        intro j t dd ht hdd k hk
        refine hw k ?_
        have := DataW.weights_mem_each ht hdd k hk
        simpa only [DataW.weights, Try.underlying27, List.map_cons, List.map_nil] using this
      have key := field_of hg
      have g0 := key 0 3 0 rfl
      have g1 := key 1 3 1 rfl
      have g2 := key 2 22 2 rfl
      have g3 := key 3 3 3 rfl
      have g4 := key 4 22 4 rfl
      have g5 := key 5 3 5 rfl
      have g6 := key 6 3 6 rfl
      have g7 := key 7 23 7 rfl
      have g8 := key 8 23 8 rfl
      have g9 := key 9 4 9 rfl
      have g10 := key 10 25 10 rfl
      have g11 := key 11 3 12 rfl
      simp only [Value.cells, cells3, cells4, cellsV, cellsVs, cellsIs, List.drop_zero, List.drop_succ_cons, List.take_succ_cons, List.take_zero, List.getElem?_cons_zero, List.getElem?_cons_succ] at g0 g1 g2 g3 g4 g5 g6 g7 g8 g9 g10 g11
      obtain ⟨id, e0, _⟩ := DataW.trod_int Try.underlying3 g0
      obtain ⟨at_, e1, _⟩ := DataW.trod_int Try.underlying3 g1
      obtain ⟨sA, slots, sC, rfl, hsl, hsb, hsr⟩ := open_vals g2 (hwe 2 _ _ rfl rfl)
      obtain ⟨full, e3, _⟩ := DataW.trod_int Try.underlying3 g3
      obtain ⟨mA, mail, mC, rfl, hml, hmb, hmr⟩ := open_vals g4 (hwe 4 _ _ rfl rfl)
      obtain ⟨state, e5, _⟩ := DataW.trod_int Try.underlying3 g5
      obtain ⟨due, e6, _⟩ := DataW.trod_int Try.underlying3 g6
      obtain ⟨lA, links, lC, rfl, hll, hlb, hlr⟩ := open_is g7 (hwe 7 _ _ rfl rfl)
      obtain ⟨wA, watched, wC, rfl, hwl, hwb, hwr⟩ := open_is g8 (hwe 8 _ _ rfl rfl)
      obtain ⟨trap, e9, _⟩ := DataW.trod_bool Try.underlying4 g9
      obtain ⟨why, e10⟩ := open_val g10
      obtain ⟨turns, e11, _⟩ := DataW.trod_int Try.underlying3 g11
      simp only [encV, List.cons.injEq, and_true] at e0 e1 e3 e5 e6 e9 e10 e11
      subst e0 e1 e3 e5 e6 e9 e11
      obtain ⟨rfl, rfl⟩ := e10
      exact ⟨⟨id, at_, slots, full, mail, state, due, links, watched, trap, why, turns⟩, ⟨sA, sC, mA, mC, lA, lC, wA, wC⟩, rfl, ⟨hsr, hmr, hlr, hwr, hsl, hml, hll, hwl⟩, hsb, hmb, hlb, hwb⟩
end
end Go.Proofs.Ytmidnaafljgbiaa
