/- A run of the laws, given as an argument: all its fields. -/
import Derived.Test.YtemglijebbodkaaOpen
namespace Go.Proofs.Ytemglijebbodkaa
open Go.ChangeShapes Go.WideShapes Go.ChangeAt Go.RowKit Go.Deep
section
variable {H : Type} {enc : TypeId × Value → H} {w : World} {base : Nat}

theorem field_of {P : Program} {n : Nat} {fs : Array Field} {cs : List Value} {xs : List (DataW H × List MemPlace)} {spare : Nat → Bool} {held : Bool}
    (hg : ∀ (i : Nat) (f : Field), fs[i]? = some f → DataW.trod enc P w base spare held n f.type ((cs.drop f.offset).take (P.cellsOf f.type)) = xs[i]?) :
    ∀ (i t o : Nat), fs[i]?.map (fun f => (f.type, f.offset)) = some (t, o) → DataW.trod enc P w base spare held n t ((cs.drop o).take (P.cellsOf t)) = xs[i]? := by
  intro i t o h
  obtain ⟨f, hf, e⟩ := Option.map_eq_some_iff.1 h
  injection e with e1 e2
  subst e1 e2
  exact hg i f hf

theorem open_run {v : Value} {d : DataW H} {p : List MemPlace} {re : Reach} (hv : Value.okWide Try.prog w re base 42 v) (h : DataW.Trod enc Try.prog w 0 (fun _ => true) true 42 v d p) (hw : ∀ k ∈ d.weights Try.prog 42, k ≤ reachBytes) :
    ∃ (r : Rn) (a : RA), v = .agg (runArr r a) ∧ ReadsRun w w.heap.size r a ∧ r.slots.length * 16 ≤ 140737488351232 ∧ r.mail.length * 16 ≤ 140737488351232 ∧ r.links.length * 8 ≤ 140737488351232 ∧ r.watched.length * 8 ≤ 140737488351232 := by
  obtain ⟨cs, rfl, hsz⟩ := okWide_struct Try.underlying42 hv
  obtain ⟨l⟩ := cs
  match l, hsz.trans cellsR with
  | [c0, c1, c2, c3, c4, c5, c6, c7, c8, c9, c10, c11, c12], _ =>
    obtain ⟨fuel, hf⟩ := h
    obtain ⟨xs, n, _, hx, _, hlen, hg⟩ := DataW.trod_struct Try.underlying42 hf
    match xs, hlen with
    | [y0, y1, y2, y3, y4, y5, y6, y7, y8, y9, y10, y11], _ =>
      simp only [Prod.mk.injEq] at hx
      have hd := hx.1
      subst hd
      have hwe : ∀ (j : Nat) (t : TypeId) (dd : DataW H), ([3, 3, 40, 3, 40, 3, 3, 28, 28, 4, 36, 3] : List TypeId)[j]? = some t → ([y0, y1, y2, y3, y4, y5, y6, y7, y8, y9, y10, y11].map (·.1))[j]? = some dd → ∀ k ∈ dd.weights Try.prog t, k ≤ reachBytes := by
        intro j t dd ht hdd k hk
        refine hw k ?_
        have := DataW.weights_mem_each ht hdd k hk
        simpa only [DataW.weights, Try.underlying42, List.map_cons, List.map_nil] using this
      have key := field_of hg
      have g0 := key 0 3 0 rfl
      have g1 := key 1 3 1 rfl
      have g2 := key 2 40 2 rfl
      have g3 := key 3 3 3 rfl
      have g4 := key 4 40 4 rfl
      have g5 := key 5 3 5 rfl
      have g6 := key 6 3 6 rfl
      have g7 := key 7 28 7 rfl
      have g8 := key 8 28 8 rfl
      have g9 := key 9 4 9 rfl
      have g10 := key 10 36 10 rfl
      have g11 := key 11 3 12 rfl
      simp only [Value.cells, cells3, cells4, cellsV, cellsVs, cellsIs, List.drop_zero, List.drop_succ_cons, List.take_succ_cons, List.take_zero, List.getElem?_cons_zero, List.getElem?_cons_succ] at g0 g1 g2 g3 g4 g5 g6 g7 g8 g9 g10 g11
      obtain ⟨id, e0, _⟩ := DataW.trod_int Try.underlying3 g0
      obtain ⟨at_, e1, _⟩ := DataW.trod_int Try.underlying3 g1
      obtain ⟨sA, slots, sC, rfl, hsl, hsb, hsr⟩ := open_vals g2 (hwe 2 _ _ rfl rfl)
      obtain ⟨full, e3, _⟩ := DataW.trod_int Try.underlying3 g3
      obtain ⟨mA, mail, mC, rfl, hml, hmb, hmr⟩ := open_vals g4 (hwe 4 _ _ rfl rfl)
      obtain ⟨state, e5, _⟩ := DataW.trod_int Try.underlying3 g5
      obtain ⟨due, e6, _⟩ := DataW.trod_int Try.underlying3 g6
      obtain ⟨lA, links, lC, rfl, hll, hlb, hlr⟩ := open_is g7 (hwe 7 _ _ rfl rfl)
      obtain ⟨wA, watched, wC, rfl, hwl, hwb, hwr⟩ := open_is g8 (hwe 8 _ _ rfl rfl)
      obtain ⟨trap, e9, _⟩ := DataW.trod_bool Try.underlying4 g9
      obtain ⟨why, e10⟩ := open_val g10
      obtain ⟨turns, e11, _⟩ := DataW.trod_int Try.underlying3 g11
      simp only [encV, List.cons.injEq, and_true] at e0 e1 e3 e5 e6 e9 e10 e11
      subst e0 e1 e3 e5 e6 e9 e11
      obtain ⟨rfl, rfl⟩ := e10
      exact ⟨⟨id, at_, slots, full, mail, state, due, links, watched, trap, why, turns⟩, ⟨sA, sC, mA, mC, lA, lC, wA, wC⟩, rfl, ⟨hsr, hmr, hlr, hwr, hsl, hml, hll, hwl⟩, hsb, hmb, hlb, hwb⟩
end
end Go.Proofs.Ytemglijebbodkaa
