/- Parts of the proof, in one text. -/
import Derived.Test.YtmidnaafljgbiaaN14
import Derived.Test.YtmidnaafljgbiaaN21
/- When a run is ok, by the program's text, whole. -/
namespace Go.Proofs.Ytmidnaafljgbiaa
open Go.RowKit
set_option maxRecDepth 100000

end Go.Proofs.Ytmidnaafljgbiaa
/- A new run on both sides: the run that is made when all is valid. -/
namespace Go.Proofs.Ytmidnaafljgbiaa
open Go.RowKit
set_option maxRecDepth 100000

theorem made8 : madeCells #[.int .i64 0, .int .i64 0] (4 * 2) = #[.int .i64 0, .int .i64 0, .int .i64 0, .int .i64 0, .int .i64 0, .int .i64 0, .int .i64 0, .int .i64 0] := by
  unfold madeCells
  rw [show Array.range (4 * 2) = #[0, 1, 2, 3, 4, 5, 6, 7] from by decide +kernel]
  simp
theorem own_row4 {M : World} {base : Nat} {k n : Int} (hb : base ≤ M.heap.size) : OwnL encV 2 30 (M.alloc (.cells #[.int .i64 k, .int .i64 n, .int .i64 0, .int .i64 0, .int .i64 0, .int .i64 0, .int .i64 0, .int .i64 0] 30)) base (.slice (some ⟨M.heap.size, 0, none⟩) 4 4) [⟨k, n⟩, Vl.zero, Vl.zero, Vl.zero] :=
  ⟨by simp, rfl, .inr ⟨M.heap.size, 4, _, rfl, hb, heap_alloc_new M _, by simp, by simp [maxLen], rfl, rfl⟩⟩
theorem NeB.none_right (v : Value) : NeB v (.slice none 0 0) := fun _ _ h => by cases h
def OwnPost (r : Rn) (ok : Bool) (w : World) (e : Ending) (w' : World) : Prop := ∃ a : RA, e = .returned (.tuple #[.agg (runArr r a), .bool ok]) ∧ OwnA w' w.heap.size r a ∧ Below w.heap.size w w'
def ReadPost (r : Rn) (ok : Bool) (w : World) (e : Ending) (w' : World) : Prop := ∃ a : RA, e = .returned (.tuple #[.agg (runArr r a), .bool ok]) ∧ ReadsRun w' w'.heap.size r a ∧ Below w.heap.size w w'
theorem own_zero (w w' : World) : OwnA w' w.heap.size Rn.zero ⟨none, 0, none, 0, none, 0, none, 0⟩ :=
  ⟨OwnL.nil _ _, OwnL.nil _ _, OwnL.nil _ _, OwnL.nil _ _, NeB.none_right _, NeB.none_right _, NeB.none_right _, NeB.none_right _, NeB.none_right _, NeB.none_right _⟩
theorem OwnPost.read {r : Rn} {ok : Bool} {w w' : World} {e : Ending} (h : OwnPost r ok w e w') : ReadPost r ok w e w' := by
  obtain ⟨a, he, ho, hb⟩ := h
  obtain ⟨b, e1, e2, e3, e4, hr⟩ := ho.reads
  injection e1 with a1 _ c1
  injection e2 with a2 _ c2
  injection e3 with a3 _ c3
  injection e4 with a4 _ c4
  obtain ⟨sA, sC, mA, mC, lA, lC, wA, wC⟩ := a
  obtain ⟨sA', sC', mA', mC', lA', lC', wA', wC'⟩ := b
  simp only at a1 c1 a2 c2 a3 c3 a4 c4
  subst a1 c1 a2 c2 a3 c3 a4 c4
  exact ⟨_, he, hr, hb⟩
end Go.Proofs.Ytmidnaafljgbiaa
/- A new run on both sides. -/
namespace Go.Proofs.Ytmidnaafljgbiaa
open Go.RowKit
set_option maxRecDepth 100000

set_option maxHeartbeats 2000000 in
theorem iRunNew (id at_ : Int) (v : Vl) (w : World) : Calls Try.prog 65 #[.int .i64 id, .int .i64 at_, .agg #[.int .i64 v.k, .int .i64 v.n]] w (OwnPost (runNew id at_ v).1 (runNew id at_ v).2 w) := by
  have H1 := Lib.hid (fun W => iIn id 1 6 W)
  have H2 := Lib.hid (fun W => iIn at_ 0 15 W)
  have H3 := Lib.hid (fun W => iValOk v W)
  have fin0 : Hid (∀ W, Below w.heap.size w W → OwnPost Rn.zero false w (.returned (.tuple #[.agg (runArr Rn.zero ⟨none, 0, none, 0, none, 0, none, 0⟩), .bool false])) W) := fun W hW => ⟨_, rfl, own_zero _ _, hW⟩
  simp only [runArr, Rn.zero, Vl.zero, List.length_nil] at fin0
  have hr : (runNew id at_ v) = if inB id 1 6 && inB at_ 0 15 && valOk v then (newRun id at_ v, true) else (Rn.zero, false) := rfl
  rw [hr]
  clear hr
  generalize inB id 1 6 = b1 at H1 ⊢
  generalize inB at_ 0 15 = b2 at H2 ⊢
  generalize valOk v = b3 at H3 ⊢
  obtain ⟨k, n⟩ := v
  simp only at H3
  cases b1 with
  | false =>
    simp only [Bool.false_and, if_false, Bool.false_eq_true, Rn.zero, Vl.zero]
    go_enter Try.func65, Try.ntmps65
    go_wp2_with (first | (go_at_call_of 75 (Value.int .i64 6); refine (H1.out _).mono ?_; rintro e w' ⟨rfl, rfl⟩))
    refine bodyPost_ret (v := .tuple #[.agg #[.int .i64 0, .int .i64 0, .slice none 0 0, .int .i64 0, .slice none 0 0, .int .i64 0, .int .i64 0, .slice none 0 0, .slice none 0 0, .bool false, .int .i64 0, .int .i64 0, .int .i64 0], .bool false]) (by simp [results, Try.results65, go_sem]) rfl ?_
    exact fin0.out _ (by repeat (first | (with_reducible refine below_set ?_ (Nat.le_add_right _ _)) | (with_reducible apply below_new) | (with_reducible exact Below.refl _ _)))
  | true =>
    cases b2 with
    | false =>
      simp only [Bool.true_and, Bool.false_and, if_false, Bool.false_eq_true, Rn.zero, Vl.zero]
      go_enter Try.func65, Try.ntmps65
      go_wp2_with (first | (go_at_call_of 75 (Value.int .i64 6); refine (H1.out _).mono ?_; rintro e w' ⟨rfl, rfl⟩) | (go_at_call_of 75 (Value.int .i64 15); refine (H2.out _).mono ?_; rintro e w' ⟨rfl, rfl⟩))
      refine bodyPost_ret (v := .tuple #[.agg #[.int .i64 0, .int .i64 0, .slice none 0 0, .int .i64 0, .slice none 0 0, .int .i64 0, .int .i64 0, .slice none 0 0, .slice none 0 0, .bool false, .int .i64 0, .int .i64 0, .int .i64 0], .bool false]) (by simp [results, Try.results65, go_sem]) rfl ?_
      exact fin0.out _ (by repeat (first | (with_reducible refine below_set ?_ (Nat.le_add_right _ _)) | (with_reducible apply below_new) | (with_reducible exact Below.refl _ _)))
    | true =>
      cases b3 with
      | false =>
        simp only [Bool.true_and, if_false, Bool.false_eq_true, Rn.zero, Vl.zero]
        go_enter Try.func65, Try.ntmps65
        go_wp2_with (first | (go_at_call_of 75 (Value.int .i64 6); refine (H1.out _).mono ?_; rintro e w' ⟨rfl, rfl⟩) | (go_at_call_of 75 (Value.int .i64 15); refine (H2.out _).mono ?_; rintro e w' ⟨rfl, rfl⟩) | (go_at_call 79; refine (H3.out _).mono ?_; rintro e w1 ⟨rfl, hb1⟩; have B1 := below_step (below_new (below_box _ _) _) hb1; obtain ⟨hc1, hf1⟩ := bcell hb1; have hx1 : w.heap.size < w1.heap.size := (by have := hb1.size; simp at this; omega); have hy1 : w.heap.size + 1 < w1.heap.size := (by have := hb1.size; simp at this; omega)))
        refine bodyPost_ret (v := .tuple #[.agg #[.int .i64 0, .int .i64 0, .slice none 0 0, .int .i64 0, .slice none 0 0, .int .i64 0, .int .i64 0, .slice none 0 0, .slice none 0 0, .bool false, .int .i64 0, .int .i64 0, .int .i64 0], .bool false]) (by simp [results, Try.results65, go_sem, hc1]) rfl ?_
        exact fin0.out _ (by repeat (first | (with_reducible refine below_set ?_ (Nat.le_add_right _ _)) | (with_reducible exact B1)))
      | true =>
        simp only [Bool.true_and, if_true]
        clear fin0
        have fin1 : Hid (∀ (W : World) (g : Nat), g = W.heap.size → ∀ o, Below w.heap.size w W →
            OwnPost (newRun id at_ ⟨k, n⟩) true w (.returned (.tuple #[.agg #[.int .i64 id, .int .i64 at_, .slice (some ⟨g, 0, none⟩) 4 4, .int .i64 1, .slice none 0 0, .int .i64 1, .int .i64 0, .slice none 0 0, .slice none 0 0, .bool false, .int .i64 0, .int .i64 0, .int .i64 0], .bool true]))
              ((W.alloc (.cells #[.int .i64 k, .int .i64 n, .int .i64 0, .int .i64 0, .int .i64 0, .int .i64 0, .int .i64 0, .int .i64 0] 30)).alloc o)) := by
          rintro W g rfl o hW
          exact ⟨⟨_, 4, none, 0, none, 0, none, 0⟩, rfl, ⟨(own_row4 hW.size).alloc _, OwnL.nil _ _, OwnL.nil _ _, OwnL.nil _ _, NeB.none_right _, NeB.none_right _, NeB.none_right _, NeB.none_right _, NeB.none_right _, NeB.none_right _⟩, below_new (below_new hW _) _⟩
        have hmk := fun W => run_make_m (P := Try.prog) 29 30 (.agg #[.int .i64 0, .int .i64 0]) 2 16 Try.underlying29 infoV 4 (by omega) (by omega) W
        have hz : (Value.agg #[.int .i64 0, .int .i64 0]).cells = #[.int .i64 0, .int .i64 0] := rfl
        rw [hz, made8] at hmk
        clear hz
        simp only [Int.cast_ofNat_Int] at hmk
        go_enter Try.func65, Try.ntmps65
        go_wp2_with (first | (go_at_call_of 75 (Value.int .i64 6); refine (H1.out _).mono ?_; rintro e w' ⟨rfl, rfl⟩) | (go_at_call_of 75 (Value.int .i64 15); refine (H2.out _).mono ?_; rintro e w' ⟨rfl, rfl⟩) | (go_at_call 79; refine (H3.out _).mono ?_; rintro e w1 ⟨rfl, hb1⟩; have B1 := below_step (below_new (below_box _ _) _) hb1; obtain ⟨hc1, hf1⟩ := bcell hb1; have hx1 : w.heap.size < w1.heap.size := (by have := hb1.size; simp at this; omega); have hy1 : w.heap.size + 1 < w1.heap.size := (by have := hb1.size; simp at this; omega)))
        refine bodyPost_ret (v := .tuple #[.agg #[.int .i64 id, .int .i64 at_, .slice (some ⟨w1.heap.size, 0, none⟩) 4 4, .int .i64 1, .slice none 0 0, .int .i64 1, .int .i64 0, .slice none 0 0, .slice none 0 0, .bool false, .int .i64 0, .int .i64 0, .int .i64 0], .bool true]) (by simp [results, Try.results65, go_sem, hc1, hx1, hy1]) rfl ?_
        refine fin1.out _ _ (by simp) _ ?_
        repeat (first | (with_reducible refine below_set ?_ (Nat.le_add_right _ _)) | (with_reducible exact B1))
end Go.Proofs.Ytmidnaafljgbiaa
