/- The law of a run's first fitting message: program and reference answer alike. -/
import Derived.Test.YtemglijebbodkaaS12
import Derived.Test.YtemglijebbodkaaS14
namespace Go.Proofs.Ytemglijebbodkaa
open Go.RowKit
set_option maxRecDepth 100000

set_option maxHeartbeats 2000000 in
theorem fnExactRunFirst_big (r : Rn) (a : RA) (kind : Int) (w : World) (c : szR 1048576 r < 0) (n1 : r.slots.length ≤ 140737488355328) (n2 : r.mail.length ≤ 140737488355328) (n3 : r.links.length ≤ 140737488355328) (n4 : r.watched.length ≤ 140737488355328) :
    Calls Try.prog 6 #[.agg (runArr r a), .int .i64 kind] w fun e w' => e = .returned (.bool true) ∧ Below w.heap.size w w' := by
  have H1 := Lib.hid (fun W => lSzRun r a 1048576 W (by omega) (by omega) n1 n2 n3 n4)
  unfold SzPost at H1
  generalize szR 1048576 r = z at c H1
  clear n1 n2 n3 n4
  obtain ⟨id, at_, slots, full, mail, state, due, links, watched, trap, ⟨wk, wn⟩, turns⟩ := r
  obtain ⟨sA, sC, mA, mC, lA, lC, wA, wC⟩ := a
  simp only [runArr] at H1 ⊢
  go_enter Try.func6, Try.ntmps6
  go_wp2_with (go_at_call 18; refine (H1.out _).mono ?_; rintro e w1 ⟨rfl, hb1⟩; have B1 : Below w.heap.size w w1 := (below_step (by repeat (first | (with_reducible apply below_new) | (with_reducible exact Below.refl _ _))) hb1))
  go_ret
  exact ⟨rfl, B1⟩

set_option maxHeartbeats 4000000 in
theorem fnExactRunFirst_small (r : Rn) (a : RA) (kind : Int) (w : World) (hr : ReadsRun w w.heap.size r a) (c : ¬ szR 1048576 r < 0) (n1 : r.slots.length ≤ 140737488355328) (n2 : r.mail.length ≤ 140737488355328) (n3 : r.links.length ≤ 140737488355328) (n4 : r.watched.length ≤ 140737488355328) :
    Calls Try.prog 6 #[.agg (runArr r a), .int .i64 kind] w fun e w' => e = .returned (.bool true) ∧ Below w.heap.size w w' := by
  have hsz := szR_size c
  have H1 := Lib.hid (fun W => lSzRun r a 1048576 W (by omega) (by omega) n1 n2 n3 n4)
  unfold SzPost at H1
  unfold sizeR at hsz
  have H2 := Lib.hid (fun W (hbb : Below w.heap.size w W) => lToRunR r a w.heap.size W (hr.below hbb (Nat.le_refl _)) hbb.size (by omega) (by omega) (by omega) (by omega))
  have H3 := Lib.hid (fun W b (h : ReadsRun W W.heap.size r b) => sRunFirst r b kind W.heap.size W h (Nat.le_refl _))
  have H4 := Lib.hid (fun W b (h : ReadsRun W W.heap.size r b) => iRunFirst r b kind W.heap.size W h (Nat.le_refl _))
  have H5 := Lib.hid (fun W b b' (h : ReadsRun W W.heap.size r b) (h' : ReadsRun W W.heap.size r b') => lEqRun r b b' W.heap.size W h h' (Nat.le_refl _))
  unfold FirstPost at H3 H4
  clear hr hsz n1 n2 n3 n4
  generalize szR 1048576 r = z at c H1
  generalize runFirst r kind = ok at H3 H4
  obtain ⟨ix, ok⟩ := ok
  have HR := Lib.hid (fun W W' b (h : ReadsRun W W.heap.size r b) (hb : Below W.heap.size W W') => (h.below hb (Nat.le_refl _)).more hb.size)
  obtain ⟨id, at_, slots, full, mail, state, due, links, watched, trap, ⟨wk, wn⟩, turns⟩ := r
  obtain ⟨sA, sC, mA, mC, lA, lC, wA, wC⟩ := a
  simp only [runArr] at H1 H2 H3 H4 H5 ⊢
  go_enter Try.func6, Try.ntmps6
  go_wp2_with (first
    | (go_at_call 18; refine (H1.out _).mono ?_; rintro e w1 ⟨rfl, hb1⟩; have B1 : Below w.heap.size w w1 := (below_step (by repeat (first | (with_reducible apply below_new) | (with_reducible exact Below.refl _ _))) hb1); obtain ⟨hc1, hf1⟩ := bcell hb1; have hx1 : w.heap.size < w1.heap.size := (by have := hb1.size; simp at this; omega))
    | (go_at_call 21; refine (H3.out _ _ hr2.out).mono ?_; rintro e w3 ⟨rfl, hb3⟩; have B3 := below_step B2 hb3; obtain ⟨hc3, hf3⟩ := bcell hb3; have hx3 : w.heap.size < w3.heap.size := (by have := hb3.size; omega))
    | (go_at_call 20; refine (H2.out _ B3).mono ?_; rintro e w4 ⟨⟨sA4, sC4, mA4, mC4, lA4, lC4, wA4, wC4⟩, rfl, hr4, hb4⟩; have B4 := below_step B3 hb4; obtain ⟨hc4, hf4⟩ := bcell hb4; have hx4 : w.heap.size < w4.heap.size := (by have := hb4.size; omega); have hr4 := Lib.hid hr4)
    | (go_at_call 20; refine (H2.out _ B1).mono ?_; rintro e w2 ⟨⟨sA2, sC2, mA2, mC2, lA2, lC2, wA2, wC2⟩, rfl, hr2, hb2⟩; have B2 := below_step B1 hb2; obtain ⟨hc2, hf2⟩ := bcell hb2; have hx2 : w.heap.size < w2.heap.size := (by have := hb2.size; omega); have hr2 := Lib.hid hr2)
    | (go_at_call 22; refine (H4.out _ ⟨sA4, sC4, mA4, mC4, lA4, lC4, wA4, wC4⟩ (HR.out w4 _ _ hr4.out ?p5)).mono ?_; (case p5 => repeat (first | (with_reducible refine below_set ?_ (Nat.le_refl _)) | (with_reducible apply below_new) | (with_reducible exact Below.refl _ _))); rintro e w5 ⟨rfl, hb5⟩; have N5 : Below w4.heap.size w4 w5 := (below_step (by repeat (first | (with_reducible refine below_set ?_ (Nat.le_refl _)) | (with_reducible apply below_new) | (with_reducible exact Below.refl _ _))) hb5); have B5 := below_step B4 N5; have D5 := below_drew B5; obtain ⟨hc5, hf5⟩ := bcell hb5; have hx5 : w.heap.size < w5.heap.size := (by have := N5.size; omega); have hy5 : w4.heap.size < w5.heap.size := (by have := hb5.size; simp at this; omega); have R5 := Lib.hid (HR.out w4 _ _ hr4.out N5)))
  have E5 := below_drew (Below.refl w5.heap.size w5)
  have E6 := Below.refl w5.heap.size w5
  go_region_held3 (fun W => (∀ b o, b < w5.heap.size → W.cell? ⟨b, o, none⟩ = w5.cell? ⟨b, o, none⟩) ∧ (∀ b o, b < w5.heap.size → W.frozen? ⟨b, o, none⟩ = w5.frozen? ⟨b, o, none⟩) ∧ Below w5.heap.size w5 W) (exact ⟨(bcell (by assumption)).1, (bcell (by assumption)).2, by assumption⟩) (first
    | (go_at_call 20; refine (H2.out _ (below_step B5 (by assumption))).mono ?_; rintro e w6 ⟨⟨sA6, sC6, mA6, mC6, lA6, lC6, wA6, wC6⟩, rfl, hr6, hb6⟩; have E7 : Below w5.heap.size w5 w6 := below_step (by assumption) hb6; have R6 := Lib.hid (HR.out w5 _ _ R5.out E7); have hr6 := Lib.hid hr6)
    | (go_at_call 15; refine (H5.out _ ⟨sA4, sC4, mA4, mC4, lA4, lC4, wA4, wC4⟩ ⟨sA6, sC6, mA6, mC6, lA6, lC6, wA6, wC6⟩ R6.out hr6.out).mono ?_; rintro e w7 ⟨rfl, hb7⟩; have E8 : Below w5.heap.size w5 w7 := below_step E7 hb7; have B7 := below_step B5 E8))
  all_goals go_wp2
  all_goals go_ret
  all_goals exact ⟨rfl, B7⟩
end Go.Proofs.Ytemglijebbodkaa
