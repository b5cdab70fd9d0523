/- The laws' own size and comparison of runs. -/
import Derived.Test.YtemglijebbodkaaS10
import Derived.Test.YtemglijebbodkaaS4
namespace Go.Proofs.Ytemglijebbodkaa
open Go.RowKit
set_option maxRecDepth 100000

/-- How many elements a run's lists have. -/
def sizeR (r : Rn) : Int := r.slots.length + r.mail.length + r.links.length + r.watched.length
/-- What szRun answers. -/
def szR (left : Int) (r : Rn) : Int := if left - r.slots.length < 0 then -1 else if left - r.slots.length - r.mail.length < 0 then -1 else if left - r.slots.length - r.mail.length - r.links.length < 0 then -1 else if left - r.slots.length - r.mail.length - r.links.length - r.watched.length < 0 then -1 else left - r.slots.length - r.mail.length - r.links.length - r.watched.length
theorem szR_size {left : Int} {r : Rn} (h : ¬ szR left r < 0) : sizeR r ≤ left := by
  unfold szR at h
  unfold sizeR
  repeat (split at h; · exact absurd (by decide) h)
  omega
def SzPost (left : Int) (r : Rn) (w : World) (e : Ending) (w' : World) : Prop := e = .returned (.int .i64 (szR left r)) ∧ Below w.heap.size w w'
set_option maxHeartbeats 2000000 in
theorem lSzRun (r : Rn) (a : RA) (left : Int) (w : World) (h0 : 0 ≤ left) (hl : left ≤ 1048576) (n1 : r.slots.length ≤ 140737488355328) (n2 : r.mail.length ≤ 140737488355328) (n3 : r.links.length ≤ 140737488355328) (n4 : r.watched.length ≤ 140737488355328) :
    Calls Try.prog 18 #[.agg (runArr r a), .int .i64 left] w (SzPost left r w) := by
  obtain ⟨id, at_, slots, full, mail, state, due, links, watched, trap, ⟨wk, wn⟩, turns⟩ := r
  obtain ⟨sA, sC, mA, mC, lA, lC, wA, wC⟩ := a
  simp only at n1 n2 n3 n4
  simp only [runArr]
  have S1 := Lib.hid (fun W => lSzValS slots left sA sC W n1 h0 hl)
  by_cases c1 : left - slots.length < 0
  · have fin : Hid (∀ W, Below w.heap.size w W → SzPost left ⟨id, at_, slots, full, mail, state, due, links, watched, trap, ⟨wk, wn⟩, turns⟩ w (.returned (.int .i64 (-1))) W) := fun W hW => ⟨by unfold szR; simp only; rw [if_pos c1], hW⟩
    rw [if_pos c1] at S1
    go_enter Try.func18, Try.ntmps18
    go_wp2_with (first | (go_at_call_of 48 (Value.slice sA slots.length sC); refine (S1.out _).mono ?_; rintro e w' ⟨rfl, rfl⟩))
    go_ret
    exact fin.out _ (below_box _ _)
  rw [if_neg c1] at S1
  have S2 := Lib.hid (fun W => lSzValS mail (left - slots.length) mA mC W n2 (by omega) (by omega))
  by_cases c2 : left - slots.length - mail.length < 0
  · have fin : Hid (∀ W, Below w.heap.size w W → SzPost left ⟨id, at_, slots, full, mail, state, due, links, watched, trap, ⟨wk, wn⟩, turns⟩ w (.returned (.int .i64 (-1))) W) := fun W hW => ⟨by unfold szR; simp only; rw [if_neg c1, if_pos c2], hW⟩
    rw [if_pos c2] at S2
    go_enter Try.func18, Try.ntmps18
    go_wp2_with (first | (go_at_call_of 48 (Value.slice sA slots.length sC); refine (S1.out _).mono ?_; rintro e w' ⟨rfl, rfl⟩) | (go_at_call_of 48 (Value.slice mA mail.length mC); refine (S2.out _).mono ?_; rintro e w' ⟨rfl, rfl⟩))
    go_ret
    exact fin.out _ (below_box _ _)
  rw [if_neg c2] at S2
  have S3 := Lib.hid (fun W => lSzIntS links (left - slots.length - mail.length) lA lC W n3 (by omega) (by omega))
  by_cases c3 : left - slots.length - mail.length - links.length < 0
  · have fin : Hid (∀ W, Below w.heap.size w W → SzPost left ⟨id, at_, slots, full, mail, state, due, links, watched, trap, ⟨wk, wn⟩, turns⟩ w (.returned (.int .i64 (-1))) W) := fun W hW => ⟨by unfold szR; simp only; rw [if_neg c1, if_neg c2, if_pos c3], hW⟩
    rw [if_pos c3] at S3
    go_enter Try.func18, Try.ntmps18
    go_wp2_with (first | (go_at_call_of 48 (Value.slice sA slots.length sC); refine (S1.out _).mono ?_; rintro e w' ⟨rfl, rfl⟩) | (go_at_call_of 48 (Value.slice mA mail.length mC); refine (S2.out _).mono ?_; rintro e w' ⟨rfl, rfl⟩) | (go_at_call_of 49 (Value.slice lA links.length lC); refine (S3.out _).mono ?_; rintro e w' ⟨rfl, rfl⟩))
    go_ret
    exact fin.out _ (below_box _ _)
  rw [if_neg c3] at S3
  have S4 := Lib.hid (fun W => lSzIntS watched (left - slots.length - mail.length - links.length) wA wC W n4 (by omega) (by omega))
  by_cases c4 : left - slots.length - mail.length - links.length - watched.length < 0
  · have fin : Hid (∀ W, Below w.heap.size w W → SzPost left ⟨id, at_, slots, full, mail, state, due, links, watched, trap, ⟨wk, wn⟩, turns⟩ w (.returned (.int .i64 (-1))) W) := fun W hW => ⟨by unfold szR; simp only; rw [if_neg c1, if_neg c2, if_neg c3, if_pos c4], hW⟩
    rw [if_pos c4] at S4
    go_enter Try.func18, Try.ntmps18
    go_wp2_with (first | (go_at_call_of 48 (Value.slice sA slots.length sC); refine (S1.out _).mono ?_; rintro e w' ⟨rfl, rfl⟩) | (go_at_call_of 48 (Value.slice mA mail.length mC); refine (S2.out _).mono ?_; rintro e w' ⟨rfl, rfl⟩) | (go_at_call_of 49 (Value.slice lA links.length lC); refine (S3.out _).mono ?_; rintro e w' ⟨rfl, rfl⟩) | (go_at_call_of 49 (Value.slice wA watched.length wC); refine (S4.out _).mono ?_; rintro e w' ⟨rfl, rfl⟩))
    go_ret
    exact fin.out _ (below_box _ _)
  rw [if_neg c4] at S4
  have fin : Hid (∀ W, Below w.heap.size w W → SzPost left ⟨id, at_, slots, full, mail, state, due, links, watched, trap, ⟨wk, wn⟩, turns⟩ w (.returned (.int .i64 (left - slots.length - mail.length - links.length - watched.length))) W) := fun W hW => ⟨by unfold szR; simp only; rw [if_neg c1, if_neg c2, if_neg c3, if_neg c4], hW⟩
  go_enter Try.func18, Try.ntmps18
  go_wp2_with (first | (go_at_call_of 48 (Value.slice sA slots.length sC); refine (S1.out _).mono ?_; rintro e w' ⟨rfl, rfl⟩) | (go_at_call_of 48 (Value.slice mA mail.length mC); refine (S2.out _).mono ?_; rintro e w' ⟨rfl, rfl⟩) | (go_at_call_of 49 (Value.slice lA links.length lC); refine (S3.out _).mono ?_; rintro e w' ⟨rfl, rfl⟩) | (go_at_call_of 49 (Value.slice wA watched.length wC); refine (S4.out _).mono ?_; rintro e w' ⟨rfl, rfl⟩))
  go_ret
  exact fin.out _ (below_box _ _)

set_option maxHeartbeats 2000000 in
theorem lEqRun (r : Rn) (a b : RA) (B : Nat) (w : World) (hr : ReadsRun w B r a) (hr' : ReadsRun w B r b) (hB : B ≤ w.heap.size) :
    Calls Try.prog 15 #[.agg (runArr r a), .agg (runArr r b)] w fun e w' => e = .returned (.bool true) ∧ Below w.heap.size w w' := by
  obtain ⟨id, at_, slots, full, mail, state, due, links, watched, trap, ⟨wk, wn⟩, turns⟩ := r
  obtain ⟨sA, sC, mA, mC, lA, lC, wA, wC⟩ := a
  obtain ⟨sA', sC', mA', mC', lA', lC', wA', wC'⟩ := b
  have H1 := Lib.hid (fun W (hbb : Below w.heap.size w W) => lEqValS slots sA sA' sC sC' B W (hr.slots.below' hbb hB) (hr'.slots.below' hbb hB) (Nat.le_trans hB hbb.size))
  have H2 := Lib.hid (fun W (hbb : Below w.heap.size w W) => lEqValS mail mA mA' mC mC' B W (hr.mail.below' hbb hB) (hr'.mail.below' hbb hB) (Nat.le_trans hB hbb.size))
  have H3 := Lib.hid (fun W (hbb : Below w.heap.size w W) => lEqIntS links lA lA' lC lC' B W (hr.links.below' hbb hB) (hr'.links.below' hbb hB) (Nat.le_trans hB hbb.size))
  have H4 := Lib.hid (fun W (hbb : Below w.heap.size w W) => lEqIntS watched wA wA' wC wC' B W (hr.watched.below' hbb hB) (hr'.watched.below' hbb hB) (Nat.le_trans hB hbb.size))
  clear hr hr'
  simp only [runArr]
  go_enter Try.func15, Try.ntmps15
  go_wp2_with (first
    | (go_at_call_of 42 (Value.slice sA slots.length sC); refine (H1.out _ ?p1).mono ?_; (case p1 => repeat (first | (with_reducible apply below_new) | (with_reducible exact Below.refl _ _))); rintro e w1 ⟨rfl, hb1⟩; have B1 : Below w.heap.size w w1 := (below_step (by repeat (first | (with_reducible apply below_new) | (with_reducible exact Below.refl _ _))) hb1); obtain ⟨hc1, hf1⟩ := bcell hb1)
    | (go_at_call_of 42 (Value.slice mA mail.length mC); refine (H2.out _ B1).mono ?_; rintro e w2 ⟨rfl, hb2⟩; have B2 := below_step B1 hb2; have hx1 : w.heap.size < w1.heap.size := (by have := hb1.size; simp at this; omega); have hy1 : w.heap.size + 1 < w1.heap.size := (by have := hb1.size; simp at this; omega); obtain ⟨hc2, hf2⟩ := bcell hb2)
    | (go_at_call_of 43 (Value.slice lA links.length lC); refine (H3.out _ B2).mono ?_; rintro e w3 ⟨rfl, hb3⟩; have B3 := below_step B2 hb3; have hx2 : w.heap.size < w2.heap.size := (by have := hb2.size; omega); have hy2 : w.heap.size + 1 < w2.heap.size := (by have := hb2.size; omega); obtain ⟨hc3, hf3⟩ := bcell hb3)
    | (go_at_call_of 43 (Value.slice wA watched.length wC); refine (H4.out _ B3).mono ?_; rintro e w4 ⟨rfl, hb4⟩; have B4 := below_step B3 hb4; have hx3 : w.heap.size < w3.heap.size := (by have := hb3.size; omega); have hy3 : w.heap.size + 1 < w3.heap.size := (by have := hb3.size; omega); obtain ⟨hc4, hf4⟩ := bcell hb4)
    | (go_at_call 27; refine (lEqVal ⟨wk, wn⟩ _).mono ?_; rintro e w5 ⟨rfl, hb5⟩; have B5 := below_step B4 hb5; have hx4 : w.heap.size < w4.heap.size := (by have := hb4.size; omega); have hy4 : w.heap.size + 1 < w4.heap.size := (by have := hb4.size; omega); obtain ⟨hc5, hf5⟩ := bcell hb5))
  go_ways
  go_ret
  exact ⟨rfl, B5⟩
end Go.Proofs.Ytemglijebbodkaa
