/- Parts of the proof, in one text. -/
import Derived.Deep.RegionHeld3
import Derived.Test.YtmidnaafljgbiaaB18
import Derived.Test.YtmidnaafljgbiaaB38
import Derived.Test.YtmidnaafljgbiaaB12
/- The law of a run's validity: program and reference answer alike. -/
namespace Go.Proofs.Ytmidnaafljgbiaa
open Go.RowKit
set_option maxRecDepth 100000

end Go.Proofs.Ytmidnaafljgbiaa
/- The first fitting message of a run: program and reference answer alike. -/
namespace Go.Proofs.Ytmidnaafljgbiaa
open Go.RowKit
set_option maxRecDepth 100000

theorem idxP_congr {α : Type} {p q : α → Bool} {l : List α} (h : ∀ x ∈ l, p x = q x) : idxP p l = idxP q l := by
  have e : l.findIdx? p = l.findIdx? q := by
    induction l with
    | nil => rfl
    | cons x l ih =>
      rw [List.findIdx?_cons, List.findIdx?_cons, h x (by simp), ih fun y hy => h y (by simp [hy])]
  unfold idxP
  rw [e]
theorem first_same {r : Rn} (kind : Int) (h : runOk r = true) : idxP (fitsOk · kind) r.mail = idxP (fits · kind) r.mail := by
  refine idxP_congr fun x hx => ?_
  have hm : r.mail.all valOk = true := by
    unfold runOk at h
    simp only [Bool.and_eq_true] at h
    exact h.1.1.1.1.2
  unfold fitsOk
  rw [List.all_eq_true.1 hm x hx, Bool.true_and]
theorem runFirst_eq (r : Rn) (kind : Int) : runFirst r kind = if runOk r && inB kind 0 3 && decide (0 ≤ idxP (fits · kind) r.mail) then (idxP (fits · kind) r.mail, true) else (0, false) := by
  unfold runFirst firstIx idxP
  cases h1 : runOk r && inB kind 0 3 with
  | false => simp
  | true =>
    simp only [if_true, Bool.true_and]
    cases List.findIdx? (fits · kind) r.mail with
    | none => simp
    | some i => simp
/-- What both sides answer. -/
def FirstPost (r : Rn) (kind : Int) (w : World) (e : Ending) (w' : World) : Prop := e = .returned (.tuple #[.int .i64 (runFirst r kind).1, .bool (runFirst r kind).2]) ∧ Below w.heap.size w w'

set_option maxHeartbeats 2000000 in
theorem sRunFirst (r : Rn) (a : RA) (kind : Int) (B : Nat) (w : World) (hr : ReadsRun w B r a) (hB : B ≤ w.heap.size) : Calls Try.prog 35 #[.agg (runArr r a), .int .i64 kind] w (FirstPost r kind w) := by
  unfold FirstPost
  rw [runFirst_eq]
  have H1 := Lib.hid (fun W (hb : Below w.heap.size w W) => sRunOk r a B W (hr.below hb hB) (Nat.le_trans hB hb.size))
  have H2 := Lib.hid (fun W (hb : Below w.heap.size w W) => sFirst r a kind B W (hr.below hb hB) (Nat.le_trans hB hb.size))
  have H3 := Lib.hid (fun W => sIn kind 0 3 W)
  clear hr
  generalize runOk r = b1 at H1 ⊢
  generalize inB kind 0 3 = b2 at H3 ⊢
  generalize idxP (fits · kind) r.mail = ix at H2 ⊢
  obtain ⟨id, at_, slots, full, mail, state, due, links, watched, trap, ⟨wk, wn⟩, turns⟩ := r
  obtain ⟨sA, sC, mA, mC, lA, lC, wA, wC⟩ := a
  simp only [runArr] at H1 H2 ⊢
  cases b1 with
  | false =>
    simp only [Bool.false_and, if_false, Bool.false_eq_true]
    go_enter Try.func35, Try.ntmps35
    go_wp2_with (go_at_call 33; refine (H1.out _ (below_box _ _)).mono ?_; rintro e w1 ⟨rfl, hb1⟩; have B1 := below_step (below_box _ _) hb1)
    go_ret2
    exact ⟨rfl, B1⟩
  | true =>
    cases b2 with
    | false =>
      simp only [Bool.and_false, Bool.false_and, if_false, Bool.false_eq_true]
      go_enter Try.func35, Try.ntmps35
      go_wp2_with (first | (go_at_call 33; refine (H1.out _ (below_box _ _)).mono ?_; rintro e w1 ⟨rfl, hb1⟩; have B1 := below_step (below_box _ _) hb1) | (go_at_call 80; refine (H3.out _).mono ?_; rintro e w' ⟨rfl, rfl⟩))
      go_ret2
      exact ⟨rfl, B1⟩
    | true =>
      by_cases h0 : 0 ≤ ix
      · simp only [Bool.and_self, h0, decide_true, if_true]
        go_enter Try.func35, Try.ntmps35
        go_wp2_with (first | (go_at_call 33; refine (H1.out _ (below_box _ _)).mono ?_; rintro e w1 ⟨rfl, hb1⟩; have B1 := below_step (below_box _ _) hb1; obtain ⟨hc1, hf1⟩ := bcell hb1; have hx1 : w.heap.size < w1.heap.size := (by have := hb1.size; simp at this; omega)) | (go_at_call 80; refine (H3.out _).mono ?_; rintro e w' ⟨rfl, rfl⟩) | (go_at_call 84; refine (H2.out _ B1).mono ?_; rintro e w2 ⟨rfl, hb2⟩; have B2 := below_step B1 hb2))
        go_ret2
        refine ⟨?_, B2⟩
        simp [h0]
      · simp only [h0, decide_false, Bool.and_false, if_false, Bool.false_eq_true]
        go_enter Try.func35, Try.ntmps35
        go_wp2_with (first | (go_at_call 33; refine (H1.out _ (below_box _ _)).mono ?_; rintro e w1 ⟨rfl, hb1⟩; have B1 := below_step (below_box _ _) hb1; obtain ⟨hc1, hf1⟩ := bcell hb1; have hx1 : w.heap.size < w1.heap.size := (by have := hb1.size; simp at this; omega)) | (go_at_call 80; refine (H3.out _).mono ?_; rintro e w' ⟨rfl, rfl⟩) | (go_at_call 84; refine (H2.out _ B1).mono ?_; rintro e w2 ⟨rfl, hb2⟩; have B2 := below_step B1 hb2))
        go_ret2
        refine ⟨?_, B2⟩
        simp [h0]

set_option maxHeartbeats 2000000 in
theorem iRunFirst (r : Rn) (a : RA) (kind : Int) (B : Nat) (w : World) (hr : ReadsRun w B r a) (hB : B ≤ w.heap.size) : Calls Try.prog 36 #[.agg (runArr r a), .int .i64 kind] w (FirstPost r kind w) := by
  unfold FirstPost
  rw [runFirst_eq]
  have H1 := Lib.hid (fun W (hb : Below w.heap.size w W) => iRunOk r a B W (hr.below hb hB) (Nat.le_trans hB hb.size))
  have H2 := Lib.hid (fun W (hb : Below w.heap.size w W) => iFirst r a kind B W (hr.below hb hB) (Nat.le_trans hB hb.size))
  have H3 := Lib.hid (fun W => iIn kind 0 3 W)
  have hs := Lib.hid (first_same (r := r) kind)
  clear hr
  generalize runOk r = b1 at H1 hs ⊢
  generalize inB kind 0 3 = b2 at H3 ⊢
  generalize idxP (fitsOk · kind) r.mail = iy at H2 hs
  generalize idxP (fits · kind) r.mail = ix at hs ⊢
  obtain ⟨id, at_, slots, full, mail, state, due, links, watched, trap, ⟨wk, wn⟩, turns⟩ := r
  obtain ⟨sA, sC, mA, mC, lA, lC, wA, wC⟩ := a
  simp only [runArr] at H1 H2 ⊢
  cases b1 with
  | false =>
    simp only [Bool.false_and, if_false, Bool.false_eq_true]
    go_enter Try.func36, Try.ntmps36
    go_wp2_with (go_at_call 32; refine (H1.out _ (below_box _ _)).mono ?_; rintro e w1 ⟨rfl, hb1⟩; have B1 := below_step (below_box _ _) hb1)
    go_ret2
    exact ⟨rfl, B1⟩
  | true =>
    have hs' := hs.out rfl
    subst hs'
    cases b2 with
    | false =>
      simp only [Bool.and_false, Bool.false_and, if_false, Bool.false_eq_true]
      go_enter Try.func36, Try.ntmps36
      go_wp2_with (first | (go_at_call 32; refine (H1.out _ (below_box _ _)).mono ?_; rintro e w1 ⟨rfl, hb1⟩; have B1 := below_step (below_box _ _) hb1) | (go_at_call 75; refine (H3.out _).mono ?_; rintro e w' ⟨rfl, rfl⟩))
      go_ret2
      exact ⟨rfl, B1⟩
    | true =>
      by_cases h0 : 0 ≤ iy
      · simp only [Bool.and_self, h0, decide_true, if_true]
        go_enter Try.func36, Try.ntmps36
        have hlt : ¬ iy < 0 := by omega
        go_wp2_with (first | (go_at_call 32; refine (H1.out _ (below_box _ _)).mono ?_; rintro e w1 ⟨rfl, hb1⟩; have B1 := below_step (below_box _ _) hb1; obtain ⟨hc1, hf1⟩ := bcell hb1; have hx1 : w.heap.size < w1.heap.size := (by have := hb1.size; simp at this; omega)) | (go_at_call 75; refine (H3.out _).mono ?_; rintro e w' ⟨rfl, rfl⟩) | (go_at_call 85; refine (H2.out _ B2).mono ?_; rintro e w3 ⟨rfl, hb3⟩; have B3 := below_step B2 hb3) | (go_at_call 85; refine (H2.out _ B1).mono ?_; rintro e w2 ⟨rfl, hb2⟩; have B2 := below_step B1 hb2; obtain ⟨hc2, hf2⟩ := bcell hb2; have hx2 : w.heap.size < w2.heap.size := (by have := hb2.size; omega)))
        go_ret2
        exact ⟨rfl, B3⟩
      · simp only [h0, decide_false, Bool.and_false, if_false, Bool.false_eq_true]
        go_enter Try.func36, Try.ntmps36
        have hlt : iy < 0 := by omega
        go_wp2_with (first | (go_at_call 32; refine (H1.out _ (below_box _ _)).mono ?_; rintro e w1 ⟨rfl, hb1⟩; have B1 := below_step (below_box _ _) hb1; obtain ⟨hc1, hf1⟩ := bcell hb1; have hx1 : w.heap.size < w1.heap.size := (by have := hb1.size; simp at this; omega)) | (go_at_call 75; refine (H3.out _).mono ?_; rintro e w' ⟨rfl, rfl⟩) | (go_at_call 85; refine (H2.out _ B1).mono ?_; rintro e w2 ⟨rfl, hb2⟩; have B2 := below_step B1 hb2; obtain ⟨hc2, hf2⟩ := bcell hb2; have hx2 : w.heap.size < w2.heap.size := (by have := hb2.size; omega)))
        go_ret2
        exact ⟨rfl, B2⟩
end Go.Proofs.Ytmidnaafljgbiaa
/- The law of a run's first fitting message: program and reference answer alike. -/
namespace Go.Proofs.Ytmidnaafljgbiaa
open Go.RowKit
set_option maxRecDepth 100000

end Go.Proofs.Ytmidnaafljgbiaa
