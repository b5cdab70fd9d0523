/- Steps of the walk over what is held: new blocks, stores, rows; nothing of the program. -/
import Derived.Test.YtemglijebbodkaaM1
namespace Go.Proofs.Ytemglijebbodkaa
open Go.RowKit

section
variable {w0 w : World} {f : List Nat} {L L' : List Asn} {g off : Nat} {t tb : TypeId} {cs vs : List Value}
/-! The goal's world gets a name. -/
theorem goal_alloc {G : World → Prop} (M : Mem w0 f w L) (h : ∀ w1, Mem w0 f w1 (blk w.heap.size t cs :: L) → G w1) : G (w.alloc (.cells cs.toArray t (0, 0))) := h _ (M.alloc t cs)
theorem goal_drewN {G : World → Prop} {n : Nat} (M : Mem w0 f w L) (h : ∀ w1, Mem w0 f w1 L → G w1) : G (w.drewN n) := h _ (M.drewN n)
theorem goal_drew {G : World → Prop} (M : Mem w0 f w L) (h : ∀ w1, Mem w0 f w1 L → G w1) : G w.drew := h _ M.drew
theorem goal_set {G : World → Prop} {j : Nat} {u : Value} (M : Mem w0 f w L) (hd : Del (blk g tb cs) L L') (h : ∀ w1, Mem w0 f w1 (blk g tb (cs.set j u) :: L') → G w1) : G (w.setCell ⟨g, j, none⟩ u) := h _ ((M.pull hd).set j u)
theorem goal_name {G : World → Prop} (M : Mem w0 f w L) (h : ∀ w1, Mem w0 f w1 L → G w1) : G w := h _ M

theorem Mem.cells (M : Mem w0 f w L) (hd : Del (blk g tb cs) L L') : ∀ j, w.cell? ⟨g, j, none⟩ = cs[j]? := (M.is hd |> (blk g tb cs).imp w).2.1
theorem isSet {G : World → Prop} {a : Addr} {v : Value} (h : G (w.setCell a v)) : G (w.setCell a v) := h

/-! Stores of many cells. -/
theorem run_storeCells {P : Program} (vs : List Value) (h1 : ∀ u, u ∈ vs → u.oneCell' = true) : ∀ (i : Nat) (w : World) (cs : List Value), Mem w0 f w (blk g tb cs :: L) → off + i + vs.length ≤ cs.length →
    ∃ w1, (storeCells ⟨g, off, none⟩ vs i).run P w = .ok () w1 ∧ Mem w0 f w1 (blk g tb (splice cs (off + i) vs) :: L) := by
  induction vs with
  | nil => exact fun i w cs M _ => ⟨w, rfl, by simpa [splice] using M⟩
  | cons v vs ih =>
    intro i w cs M hl
    simp only [List.length_cons] at hl
    obtain ⟨hg, hc, hz⟩ := M.facts.1
    have hci : w.cell? ⟨g, off + i, none⟩ = some (cs[off + i]'(by omega)) := by rw [hc, List.getElem?_eq_getElem]
    obtain ⟨w1, hr, M1⟩ := ih (fun u hu => h1 u (by simp [hu])) (i + 1) _ _ (M.set (off + i) v) (by rw [List.length_set]; omega)
    refine ⟨w1, ?_, ?_⟩
    · have e : storeCells ⟨g, off, none⟩ (v :: vs) i = (do store ((⟨g, off, none⟩ : Addr).add i) v; storeCells ⟨g, off, none⟩ vs (i + 1)) := rfl
      rw [e, Sem.run_bind, add_lit0, run_store P w _ v _ (h1 v (by simp)), hci]
      simp only [hz, Bool.false_eq_true, if_false, Result.andThen_ok]
      exact hr
    · rw [show off + (i + 1) = off + i + 1 by omega, splice_set _ _ _ _ (by omega)] at M1
      exact M1
/-! Loads of many cells. -/
theorem run_loadFrom {P : Program} (hc : ∀ j, w.cell? ⟨g, j, none⟩ = cs[j]?) : ∀ (n i : Nat) (acc : Array Value), off + i + n ≤ cs.length → (loadCellsFrom ⟨g, off, none⟩ i n acc).run P w = .ok (acc ++ ((cs.drop (off + i)).take n).toArray) w := by
  intro n
  induction n with
  | zero => intro i acc _; simp [loadCellsFrom]
  | succ n ih =>
    intro i acc hl
    have hx : w.cell? ⟨g, off + i, none⟩ = some (cs[off + i]'(by omega)) := by rw [hc, List.getElem?_eq_getElem]
    unfold loadCellsFrom
    rw [add_lit0]
    simp only [Sem.run_bind, run_load, hx, Result.andThen_ok]
    rw [ih (i + 1) _ (by omega)]
    congr 1
    apply Array.toList_inj.1
    simp only [Array.toList_append, Array.toList_push, List.append_assoc]
    rw [List.drop_eq_getElem_cons (by omega : off + i < cs.length)]
    simp [Nat.add_assoc]
theorem run_loadAgg {P : Program} {n : Nat} (ha : (isAgg t).run P w = .ok true w) (hs : (P.info? t).map (·.size) = some n) (hc : ∀ j, w.cell? ⟨g, j, none⟩ = cs[j]?) (hl : off + n ≤ cs.length) : (loadVar t ⟨g, off, none⟩).run P w = .ok (.agg ((cs.drop off).take n).toArray) w := by
  obtain ⟨i, hi, hi2⟩ := Option.map_eq_some_iff.1 hs
  unfold loadVar
  rw [Sem.run_bind, ha]
  simp only [Result.andThen_ok, if_true, Sem.run_bind, sizeOf, typeInfo, program, hi, Sem.run_pure, hi2, loadCells, Sem.run]
  rw [run_loadFrom hc n 0 #[] (by omega)]
  simp
section
variable {P : Program} {ops : Array Oper} {rest : List Oper} {Q : Exit → Act → World → Prop} {a : Act} {x y : Operand} {ty : TypeId} {pos : String} {after : Array Edge} {gd : Option (Nat × Bool)}
theorem ev_store {v : Value} (hw : Region.wanted ⟨none, .store t x y, ty, pos, after, gd⟩ (yielded ops a.tmps) = true) (hx : a.eval x = .pointer (some ⟨g, off, none⟩)) (hy : a.eval y = v) (hv : v.cells = vs.toArray)
    (hs : (P.info? t).map (·.size) = some vs.length) (h1 : ∀ u, u ∈ vs → u.oneCell' = true) (M : Mem w0 f w L) (hd : Del (blk g tb cs) L L') (hl : off + vs.length ≤ cs.length)
    (h : ∀ w1, Mem w0 f w1 (blk g tb (splice cs off vs) :: L') → wpList P ops Q rest a w1) : wpList P ops Q (⟨none, .store t x y, ty, pos, after, gd⟩ :: rest) a w := by
  obtain ⟨w1, hr, M1⟩ := run_storeCells (P := P) vs h1 0 w cs (M.pull hd) hl
  refine wpList_step fun K hK => ?_
  rw [if_pos hw]
  obtain ⟨i, hi, hi2⟩ := Option.map_eq_some_iff.1 hs
  have hrun : (execOp a.eval ⟨none, .store t x y, ty, pos, after, gd⟩).run P w = .ok .skip w1 := by
    unfold execOp
    simp only [hx, hy, Instr.storeAt, Instr.sureAddr, storeVar, sizeOf, typeInfo, Sem.run_bind, Sem.run_pure, Result.andThen_ok, run_program, hi, hi2, hv, List.size_toArray, ne_eq, not_true_eq_false, if_false, hr]
  unfold Oper.wp
  rw [hrun]
  exact hK _ _ (h w1 M1)
theorem ev_load {n : Nat} {dst : Option Tmp} (hw : Region.wanted ⟨dst, .load t x, ty, pos, after, gd⟩ (yielded ops a.tmps) = true) (hx : a.eval x = .pointer (some ⟨g, off, none⟩)) (ha : ∀ W, (isAgg t).run P W = .ok true W) (hs : (P.info? t).map (·.size) = some n)
    (M : Mem w0 f w L) (hd : Del (blk g tb cs) L L') (hl : off + n ≤ cs.length) (hv : (cs.drop off).take n = vs) (h : wpList P ops Q rest (a.put dst (.agg vs.toArray)) w) : wpList P ops Q (⟨dst, .load t x, ty, pos, after, gd⟩ :: rest) a w := by
  refine wpList_step fun K hK => ?_
  rw [if_pos hw]
  have hrun := run_loadAgg (P := P) (ha w) hs (M.pull hd).facts.1.2.1 hl
  unfold Oper.wp execOp
  simp only [hx, Instr.loadAt, Instr.sureAddr, Sem.run_bind, Sem.run_pure, Result.andThen_ok, hrun, hv]
  exact hK _ _ h
/-- A result that lies in a cell of one's own. -/
theorem ret_cell {fn : Func} {R : Ending → World → Prop} {d : Tmp} (hres : fn.results = #[.cell d t]) (hx : a.tmps.getD d undef = .pointer (some ⟨g, 0, none⟩)) (M : Mem w0 f w L) (hd : Del (blk g tb cs) L L') (ha : ∀ W, (isAgg t).run P W = .ok true W) (hs : (P.info? t).map (·.size) = some cs.length) (hdef : a.defers = [])
    (hR : R (.returned (.agg cs.toArray)) w) : bodyPost P fn R .ret a w := by
  have hrun := run_loadAgg (P := P) (ha w) hs (M.pull hd).facts.1.2.1 (by omega : 0 + cs.length ≤ cs.length)
  simp only [List.drop_zero, List.take_length] at hrun
  refine ⟨hdef, _, ?_, hR⟩
  simp only [Array.getD_eq_getD_getElem?] at hx
  simp [results, hres, hx, asAddr, hrun]
end
end
end Go.Proofs.Ytemglijebbodkaa
