/- A new run on both sides. -/
import Derived.Test.YtemglijebbodkaaS19
namespace Go.Proofs.Ytemglijebbodkaa
open Go.RowKit
set_option maxRecDepth 100000

set_option maxHeartbeats 2000000 in
theorem iRunNew (id at_ : Int) (v : Vl) (w : World) : Calls Try.prog 11 #[.int .i64 id, .int .i64 at_, .agg #[.int .i64 v.k, .int .i64 v.n]] w (OwnPost (runNew id at_ v).1 (runNew id at_ v).2 w) := by
  have H1 := Lib.hid (fun W => iIn id 1 6 W)
  have H2 := Lib.hid (fun W => iIn at_ 0 15 W)
  have H3 := Lib.hid (fun W => iValOk v W)
  have fin0 : Hid (∀ W, Below w.heap.size w W → OwnPost Rn.zero false w (.returned (.tuple #[.agg (runArr Rn.zero ⟨none, 0, none, 0, none, 0, none, 0⟩), .bool false])) W) := fun W hW => ⟨_, rfl, own_zero _ _, hW⟩
  simp only [runArr, Rn.zero, Vl.zero, List.length_nil] at fin0
  have hr : (runNew id at_ v) = if inB id 1 6 && inB at_ 0 15 && valOk v then (newRun id at_ v, true) else (Rn.zero, false) := rfl
  rw [hr]
  clear hr
  generalize inB id 1 6 = b1 at H1 ⊢
  generalize inB at_ 0 15 = b2 at H2 ⊢
  generalize valOk v = b3 at H3 ⊢
  obtain ⟨k, n⟩ := v
  simp only at H3
  cases b1 with
  | false =>
    simp only [Bool.false_and, if_false, Bool.false_eq_true, Rn.zero, Vl.zero]
    go_enter Try.func11, Try.ntmps11
    go_wp2_with (first | (go_at_call_of 35 (Value.int .i64 6); refine (H1.out _).mono ?_; rintro e w' ⟨rfl, rfl⟩))
    refine bodyPost_ret (v := .tuple #[.agg #[.int .i64 0, .int .i64 0, .slice none 0 0, .int .i64 0, .slice none 0 0, .int .i64 0, .int .i64 0, .slice none 0 0, .slice none 0 0, .bool false, .int .i64 0, .int .i64 0, .int .i64 0], .bool false]) (by simp [results, Try.results11, go_sem]) rfl ?_
    exact fin0.out _ (by repeat (first | (with_reducible refine below_set ?_ (Nat.le_add_right _ _)) | (with_reducible apply below_new) | (with_reducible exact Below.refl _ _)))
  | true =>
    cases b2 with
    | false =>
      simp only [Bool.true_and, Bool.false_and, if_false, Bool.false_eq_true, Rn.zero, Vl.zero]
      go_enter Try.func11, Try.ntmps11
      go_wp2_with (first | (go_at_call_of 35 (Value.int .i64 6); refine (H1.out _).mono ?_; rintro e w' ⟨rfl, rfl⟩) | (go_at_call_of 35 (Value.int .i64 15); refine (H2.out _).mono ?_; rintro e w' ⟨rfl, rfl⟩))
      refine bodyPost_ret (v := .tuple #[.agg #[.int .i64 0, .int .i64 0, .slice none 0 0, .int .i64 0, .slice none 0 0, .int .i64 0, .int .i64 0, .slice none 0 0, .slice none 0 0, .bool false, .int .i64 0, .int .i64 0, .int .i64 0], .bool false]) (by simp [results, Try.results11, go_sem]) rfl ?_
      exact fin0.out _ (by repeat (first | (with_reducible refine below_set ?_ (Nat.le_add_right _ _)) | (with_reducible apply below_new) | (with_reducible exact Below.refl _ _)))
    | true =>
      cases b3 with
      | false =>
        simp only [Bool.true_and, if_false, Bool.false_eq_true, Rn.zero, Vl.zero]
        go_enter Try.func11, Try.ntmps11
        go_wp2_with (first | (go_at_call_of 35 (Value.int .i64 6); refine (H1.out _).mono ?_; rintro e w' ⟨rfl, rfl⟩) | (go_at_call_of 35 (Value.int .i64 15); refine (H2.out _).mono ?_; rintro e w' ⟨rfl, rfl⟩) | (go_at_call 36; refine (H3.out _).mono ?_; rintro e w1 ⟨rfl, hb1⟩; have B1 := below_step (below_new (below_box _ _) _) hb1; obtain ⟨hc1, hf1⟩ := bcell hb1; have hx1 : w.heap.size < w1.heap.size := (by have := hb1.size; simp at this; omega); have hy1 : w.heap.size + 1 < w1.heap.size := (by have := hb1.size; simp at this; omega)))
        refine bodyPost_ret (v := .tuple #[.agg #[.int .i64 0, .int .i64 0, .slice none 0 0, .int .i64 0, .slice none 0 0, .int .i64 0, .int .i64 0, .slice none 0 0, .slice none 0 0, .bool false, .int .i64 0, .int .i64 0, .int .i64 0], .bool false]) (by simp [results, Try.results11, go_sem, hc1]) rfl ?_
        exact fin0.out _ (by repeat (first | (with_reducible refine below_set ?_ (Nat.le_add_right _ _)) | (with_reducible exact B1)))
      | true =>
        simp only [Bool.true_and, if_true]
        clear fin0
        have fin1 : Hid (∀ (W : World) (g : Nat), g = W.heap.size → ∀ o, Below w.heap.size w W →
            OwnPost (newRun id at_ ⟨k, n⟩) true w (.returned (.tuple #[.agg #[.int .i64 id, .int .i64 at_, .slice (some ⟨g, 0, none⟩) 4 4, .int .i64 1, .slice none 0 0, .int .i64 1, .int .i64 0, .slice none 0 0, .slice none 0 0, .bool false, .int .i64 0, .int .i64 0, .int .i64 0], .bool true]))
              ((W.alloc (.cells #[.int .i64 k, .int .i64 n, .int .i64 0, .int .i64 0, .int .i64 0, .int .i64 0, .int .i64 0, .int .i64 0] 24)).alloc o)) := by
          rintro W g rfl o hW
          exact ⟨⟨_, 4, none, 0, none, 0, none, 0⟩, rfl, ⟨(own_row4 hW.size).alloc _, OwnL.nil _ _, OwnL.nil _ _, OwnL.nil _ _, NeB.none_right _, NeB.none_right _, NeB.none_right _, NeB.none_right _, NeB.none_right _, NeB.none_right _⟩, below_new (below_new hW _) _⟩
        have hmk := fun W => run_make_m (P := Try.prog) 27 24 (.agg #[.int .i64 0, .int .i64 0]) 2 16 Try.underlying27 infoV 4 (by omega) (by omega) W
        have hz : (Value.agg #[.int .i64 0, .int .i64 0]).cells = #[.int .i64 0, .int .i64 0] := rfl
        rw [hz, made8] at hmk
        clear hz
        simp only [Int.cast_ofNat_Int] at hmk
        go_enter Try.func11, Try.ntmps11
        go_wp2_with (first | (go_at_call_of 35 (Value.int .i64 6); refine (H1.out _).mono ?_; rintro e w' ⟨rfl, rfl⟩) | (go_at_call_of 35 (Value.int .i64 15); refine (H2.out _).mono ?_; rintro e w' ⟨rfl, rfl⟩) | (go_at_call 36; refine (H3.out _).mono ?_; rintro e w1 ⟨rfl, hb1⟩; have B1 := below_step (below_new (below_box _ _) _) hb1; obtain ⟨hc1, hf1⟩ := bcell hb1; have hx1 : w.heap.size < w1.heap.size := (by have := hb1.size; simp at this; omega); have hy1 : w.heap.size + 1 < w1.heap.size := (by have := hb1.size; simp at this; omega)))
        refine bodyPost_ret (v := .tuple #[.agg #[.int .i64 id, .int .i64 at_, .slice (some ⟨w1.heap.size, 0, none⟩) 4 4, .int .i64 1, .slice none 0 0, .int .i64 1, .int .i64 0, .slice none 0 0, .slice none 0 0, .bool false, .int .i64 0, .int .i64 0, .int .i64 0], .bool true]) (by simp [results, Try.results11, go_sem, hc1, hx1, hy1]) rfl ?_
        refine fin1.out _ _ (by simp) _ ?_
        repeat (first | (with_reducible refine below_set ?_ (Nat.le_add_right _ _)) | (with_reducible exact B1))
end Go.Proofs.Ytemglijebbodkaa
