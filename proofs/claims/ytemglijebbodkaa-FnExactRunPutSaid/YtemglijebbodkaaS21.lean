/- The reference's new run. -/
import Derived.Test.YtemglijebbodkaaS19
namespace Go.Proofs.Ytemglijebbodkaa
open Go.RowKit
set_option maxRecDepth 100000

set_option maxHeartbeats 2000000 in
theorem sRunNew (id at_ : Int) (v : Vl) (w : World) : Calls Try.prog 10 #[.int .i64 id, .int .i64 at_, .agg #[.int .i64 v.k, .int .i64 v.n]] w (ReadPost (runNew id at_ v).1 (runNew id at_ v).2 w) := by
  have H1 := Lib.hid (fun W => sIn id 1 6 W)
  have H2 := Lib.hid (fun W => sTo at_ W)
  have H3 := Lib.hid (fun W => sValOk v W)
  have fin0 : Hid (∀ W, Below w.heap.size w W → ReadPost Rn.zero false w (.returned (.tuple #[.agg (runArr Rn.zero ⟨none, 0, none, 0, none, 0, none, 0⟩), .bool false])) W) := fun W hW => ⟨_, rfl, ⟨reads0V _ _ _, reads0V _ _ _, reads0I _ _ _, reads0I _ _ _, Nat.le_refl _, Nat.le_refl _, Nat.le_refl _, Nat.le_refl _⟩, hW⟩
  simp only [runArr, Rn.zero, Vl.zero, List.length_nil] at fin0
  have hr : (runNew id at_ v) = if inB id 1 6 && inB at_ 0 15 && valOk v then (newRun id at_ v, true) else (Rn.zero, false) := rfl
  rw [hr]
  clear hr
  generalize inB id 1 6 = b1 at H1 ⊢
  generalize inB at_ 0 15 = b2 at H2 ⊢
  generalize valOk v = b3 at H3 ⊢
  obtain ⟨k, n⟩ := v
  simp only at H3
  cases b1 with
  | false =>
    simp only [Bool.false_and, if_false, Bool.false_eq_true, Rn.zero, Vl.zero]
    go_enter Try.func10, Try.ntmps10
    go_wp2_with (first | (go_at_call 31; refine (H1.out _).mono ?_; rintro e w' ⟨rfl, rfl⟩))
    refine bodyPost_ret (v := .tuple #[.agg #[.int .i64 0, .int .i64 0, .slice none 0 0, .int .i64 0, .slice none 0 0, .int .i64 0, .int .i64 0, .slice none 0 0, .slice none 0 0, .bool false, .int .i64 0, .int .i64 0, .int .i64 0], .bool false]) (by simp [results, Try.results10, go_sem]) rfl ?_
    exact fin0.out _ (by repeat (first | (with_reducible refine below_set ?_ (Nat.le_add_right _ _)) | (with_reducible apply below_new) | (with_reducible exact Below.refl _ _)))
  | true =>
    cases b2 with
    | false =>
      simp only [Bool.true_and, Bool.false_and, if_false, Bool.false_eq_true, Rn.zero, Vl.zero]
      go_enter Try.func10, Try.ntmps10
      go_wp2_with (first | (go_at_call 31; refine (H1.out _).mono ?_; rintro e w' ⟨rfl, rfl⟩) | (go_at_call 32; refine (H2.out _).mono ?_; rintro e w' ⟨rfl, rfl⟩))
      refine bodyPost_ret (v := .tuple #[.agg #[.int .i64 0, .int .i64 0, .slice none 0 0, .int .i64 0, .slice none 0 0, .int .i64 0, .int .i64 0, .slice none 0 0, .slice none 0 0, .bool false, .int .i64 0, .int .i64 0, .int .i64 0], .bool false]) (by simp [results, Try.results10, go_sem]) rfl ?_
      exact fin0.out _ (by repeat (first | (with_reducible refine below_set ?_ (Nat.le_add_right _ _)) | (with_reducible apply below_new) | (with_reducible exact Below.refl _ _)))
    | true =>
      cases b3 with
      | false =>
        simp only [Bool.true_and, if_false, Bool.false_eq_true, Rn.zero, Vl.zero]
        go_enter Try.func10, Try.ntmps10
        go_wp2_with (first | (go_at_call 31; refine (H1.out _).mono ?_; rintro e w' ⟨rfl, rfl⟩) | (go_at_call 32; refine (H2.out _).mono ?_; rintro e w' ⟨rfl, rfl⟩) | (go_at_call 34; refine (HN.out _).mono ?_; rintro e w2 ⟨⟨sA2, sC2, mA2, mC2, lA2, lC2, wA2, wC2⟩, rfl, hr2, hb2⟩; have B2 := below_step B1 hb2; obtain ⟨hc2, hf2⟩ := bcell hb2; have hx2 : w.heap.size < w2.heap.size := (Nat.lt_of_lt_of_le hx1 hb2.size); have hy2 : w.heap.size + 1 < w2.heap.size := (Nat.lt_of_lt_of_le hy1 hb2.size); have hr2 := Lib.hid hr2) | (go_at_call 33; refine (H3.out _).mono ?_; rintro e w1 ⟨rfl, hb1⟩; have B1 := below_step (below_new (below_box _ _) _) hb1; obtain ⟨hc1, hf1⟩ := bcell hb1; have hx1 : w.heap.size < w1.heap.size := (by have := hb1.size; simp at this; omega); have hy1 : w.heap.size + 1 < w1.heap.size := (by have := hb1.size; simp at this; omega)))
        refine bodyPost_ret (v := .tuple #[.agg #[.int .i64 0, .int .i64 0, .slice none 0 0, .int .i64 0, .slice none 0 0, .int .i64 0, .int .i64 0, .slice none 0 0, .slice none 0 0, .bool false, .int .i64 0, .int .i64 0, .int .i64 0], .bool false]) (by simp [results, Try.results10, go_sem, hc1]) rfl ?_
        exact fin0.out _ (by repeat (first | (with_reducible refine below_set ?_ (Nat.le_add_right _ _)) | (with_reducible exact B1)))
      | true =>
        simp only [Bool.true_and, if_true]
        clear fin0
        have HN := Lib.hid (fun W => s11New id at_ ⟨k, n⟩ W)
        have fin1 : Hid (∀ (X : Nat) (W W' : World) (b : RA), (∀ V : World, (∀ p : Addr, X ≤ p.block → p.block < W.heap.size → V.cell? p = W.cell? p) → W.heap.size ≤ V.heap.size → ReadsRun V V.heap.size (newRun id at_ ⟨k, n⟩) b) → w.heap.size + 1 + 1 ≤ X → Mid w.heap.size (w.heap.size + 1 + 1) W W' → Below w.heap.size w W → ReadPost (newRun id at_ ⟨k, n⟩) true w (.returned (.tuple #[.agg (runArr (newRun id at_ ⟨k, n⟩) b), .bool true])) W') := by
          intro X W W' b h1 h2 h3 h4
          refine ⟨b, rfl, h1 W' (fun p hp hpW => ?_) h3.size, Mid.low h4 h3 h4.size⟩
          have := h3.block p.block hpW (.inr (by omega))
          unfold World.cell?
          rw [this]
        unfold NewPost at HN
        simp only [runArr, newRun, Vl.zero, List.length_cons, List.length_nil] at HN fin1
        go_enter Try.func10, Try.ntmps10
        go_wp2_with (first | (go_at_call 31; refine (H1.out _).mono ?_; rintro e w' ⟨rfl, rfl⟩) | (go_at_call 32; refine (H2.out _).mono ?_; rintro e w' ⟨rfl, rfl⟩) | (go_at_call 34; refine (HN.out _).mono ?_; rintro e w2 ⟨⟨sA2, sC2, mA2, mC2, lA2, lC2, wA2, wC2⟩, rfl, hr2, hb2⟩; have B2 := below_step B1 hb2; obtain ⟨hc2, hf2⟩ := bcell hb2; have hx2 : w.heap.size < w2.heap.size := (Nat.lt_of_lt_of_le hx1 hb2.size); have hy2 : w.heap.size + 1 < w2.heap.size := (Nat.lt_of_lt_of_le hy1 hb2.size); have hr2 := Lib.hid hr2) | (go_at_call 33; refine (H3.out _).mono ?_; rintro e w1 ⟨rfl, hb1⟩; have B1 := below_step (below_new (below_box _ _) _) hb1; obtain ⟨hc1, hf1⟩ := bcell hb1; have hx1 : w.heap.size < w1.heap.size := (by have := hb1.size; simp at this; omega); have hy1 : w.heap.size + 1 < w1.heap.size := (by have := hb1.size; simp at this; omega)))
        refine bodyPost_ret (v := .tuple #[.agg #[.int .i64 id, .int .i64 at_, .slice sA2 4 sC2, .int .i64 1, .slice mA2 0 mC2, .int .i64 1, .int .i64 0, .slice lA2 0 lC2, .slice wA2 0 wC2, .bool false, .int .i64 0, .int .i64 0, .int .i64 0], .bool true]) (by simp [results, Try.results10, go_sem, hc2, hc1, hy1]) rfl ?_
        refine fin1.out w1.heap.size w2 _ ⟨sA2, sC2, mA2, mC2, lA2, lC2, wA2, wC2⟩ hr2.out (by omega) ?_ B2
        repeat (first | (with_reducible refine Mid.set ?_ (Nat.le_add_right _ _) (Nat.lt_succ_self _) _) | (with_reducible exact Mid.refl _ _ _))
end Go.Proofs.Ytemglijebbodkaa
