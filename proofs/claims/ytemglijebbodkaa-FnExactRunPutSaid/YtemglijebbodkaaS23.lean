/- The law of a new run: program and reference answer alike, and the program's run is its own. -/
import Derived.Test.YtemglijebbodkaaS20
import Derived.Test.YtemglijebbodkaaS21
import Derived.Test.YtemglijebbodkaaS22
import Derived.Test.YtemglijebbodkaaS11
namespace Go.Proofs.Ytemglijebbodkaa
open Go.RowKit
set_option maxRecDepth 100000

theorem below_mid {B lo lim : Nat} {w0 w W : World} (h : Below B w0 w) (m : Mid lo lim w W) (hB : B ≤ lo) (hw : B ≤ w.heap.size) : Below B w0 W :=
  h.trans ⟨m.os, m.tape, m.output, m.size, fun k hk => m.block k (by omega) (.inl (by omega))⟩
theorem runNew_lengths (id at_ : Int) (v : Vl) : (runNew id at_ v).1.slots.length ≤ 4 ∧ (runNew id at_ v).1.mail.length ≤ 4 ∧ (runNew id at_ v).1.links.length ≤ 4 ∧ (runNew id at_ v).1.watched.length ≤ 4 := by
  unfold runNew
  split <;> simp [newRun, Rn.zero]

set_option maxHeartbeats 4000000 in
theorem fnExactRunNew_walk (id at_ : Int) (v : Vl) (w : World) : Calls Try.prog 4 #[.int .i64 id, .int .i64 at_, .agg #[.int .i64 v.k, .int .i64 v.n]] w fun e w' => e = .returned (.bool true) ∧ Below w.heap.size w w' := by
  have HV := Lib.hid (fun W => lToVal v W)
  have HS := Lib.hid (fun W => sRunNew id at_ v W)
  have HI := Lib.hid (fun W => iRunNew id at_ v W)
  have hl := runNew_lengths id at_ v
  unfold ReadPost at HS
  unfold OwnPost at HI
  obtain ⟨k, n⟩ := v
  generalize runNew id at_ ⟨k, n⟩ = res at HS HI hl
  obtain ⟨r, ok⟩ := res
  simp only at HS HI hl
  have HE := Lib.hid (fun W b b' (h : ReadsRun W W.heap.size r b) (h' : ReadsRun W W.heap.size r b') => lEqRun r b b' W.heap.size W h h' (Nat.le_refl _))
  have HM := Lib.hid (fun V W base b (hV : OwnA V base r b) (h : OwnA W base r b) => lMarkRunM r b base 1 V W hV h (by decide) (by decide) (by omega) (by omega) (by omega) (by omega))
  have HH := Lib.hid (fun W b (h : ReadsRun W W.heap.size (markedR r 1) b) => lHeldRun r b W.heap.size 1 W h (Nat.le_refl _) (by decide) (by decide))
  have hz : ¬ marksR r 1 < 0 := by unfold marksR; omega
  unfold MarkPostM at HM
  generalize marksR r 1 = z at HM HH hz
  generalize markedR r 1 = m at HM HH
  have HR := Lib.hid (fun W W' b (h : ReadsRun W W.heap.size r b) (hb : Below W.heap.size W W') => (h.below hb (Nat.le_refl _)).more hb.size)
  have HO := Lib.hid (fun base W W' b (h : OwnA W base r b) (hb : Below W.heap.size W W') => (OwnRun.readsA (h.below hb)))
  have HB := Lib.hid (fun base W W' b (h : OwnA W base r b) (hb : Below W.heap.size W W') => (show OwnA W' base r b from h.below hb))
  have HK := Lib.hid (fun base W W' (b : RA) (h : OwnRun 24 3 W base m (.slice b.sA r.slots.length b.sC) (.slice b.mA r.mail.length b.mC) (.slice b.lA r.links.length b.lC) (.slice b.wA r.watched.length b.wC)) (hb : Below W.heap.size W W') => (OwnRun.readsA (h.below hb)))
  clear hl
  obtain ⟨rid, rat, slots, full, mail, state, due, links, watched, trap, ⟨wk, wn⟩, turns⟩ := r
  simp only [runArr] at HS HI HE HM HH
  go_enter Try.func4, Try.ntmps4
  go_wp2_with (first
    | (go_at_call 17; refine (HH.out _ ⟨sA4, sC4, mA4, mC4, lA4, lC4, wA4, wC4⟩ (HK.out _ w6 _ ⟨sA4, sC4, mA4, mC4, lA4, lC4, wA4, wC4⟩ om6.out G10)).mono ?_; rintro e w11 ⟨rfl, hb11⟩; have B11 := below_step B10 hb11)
    | (go_at_call 15; refine (HE.out _ ⟨sA9, sC9, mA9, mC9, lA9, lC9, wA9, wC9⟩ ⟨sA2, sC2, mA2, mC2, lA2, lC2, wA2, wC2⟩ (HO.out _ w9 _ _ ho9.out ?p1) (HR.out w2 _ _ hr2.out (below_step N9 ?p2))).mono ?_; (case p1 => repeat (first | (with_reducible refine below_set ?_ (Nat.le_refl _)) | (with_reducible apply below_new) | (with_reducible exact Below.refl _ _))); (case p2 => repeat (first | (with_reducible refine below_set ?_ (Nat.le_refl _)) | (with_reducible apply below_new) | (with_reducible exact Below.refl _ _))); rintro e w10 ⟨rfl, hb10⟩; have N10 := below_step (below_step N9 (by repeat (first | (with_reducible refine below_set ?_ (Nat.le_refl _)) | (with_reducible apply below_new) | (with_reducible exact Below.refl _ _)))) hb10; have B10 := below_step B2 N10; have G10 := below_step (below_step G9 (by repeat (first | (with_reducible refine below_set ?_ (Nat.le_refl _)) | (with_reducible apply below_new) | (with_reducible exact Below.refl _ _)))) hb10; obtain ⟨hc10, hf10⟩ := bcell hb10; have x10 : w.heap.size < w10.heap.size := Nat.lt_of_lt_of_le x2 N10.size; have y10 : w2.heap.size < w10.heap.size := Nat.lt_of_lt_of_le y9 (below_step (by repeat (first | (with_reducible refine below_set ?_ (Nat.le_refl _)) | (with_reducible apply below_new) | (with_reducible exact Below.refl _ _))) hb10).size; have z10 : w4.heap.size < w10.heap.size := Nat.lt_of_lt_of_le z9 (below_step (by repeat (first | (with_reducible refine below_set ?_ (Nat.le_refl _)) | (with_reducible apply below_new) | (with_reducible exact Below.refl _ _))) hb10).size)
    | (go_at_call 11; refine (HI.out w8).mono ?_; rintro e w9 ⟨⟨sA9, sC9, mA9, mC9, lA9, lC9, wA9, wC9⟩, rfl, ho9, hb9⟩; have N9 := below_step N8 hb9; have B9 := below_step B8 hb9; have G9 := below_step G8 hb9; obtain ⟨hc9, hf9⟩ := bcell hb9; have x9 : w.heap.size < w9.heap.size := Nat.lt_of_lt_of_le x8 hb9.size; have y9 : w2.heap.size < w9.heap.size := Nat.lt_of_lt_of_le y8 hb9.size; have z9 : w4.heap.size < w9.heap.size := Nat.lt_of_lt_of_le z8 hb9.size; have ho9 := Lib.hid ho9)
    | (go_at_call 14; refine (HV.out w7).mono ?_; rintro e w8 ⟨rfl, hb8⟩; have N8 := below_step N7 hb8; have B8 := below_step B7 hb8; have G8 := below_step G7 hb8; obtain ⟨hc8, hf8⟩ := bcell hb8; have x8 : w.heap.size < w8.heap.size := Nat.lt_of_lt_of_le x7 hb8.size; have y8 : w2.heap.size < w8.heap.size := Nat.lt_of_lt_of_le y7 hb8.size; have z8 : w4.heap.size < w8.heap.size := Nat.lt_of_lt_of_le z7 hb8.size)
    | (go_at_call 17; refine (HH.out _ ⟨sA4, sC4, mA4, mC4, lA4, lC4, wA4, wC4⟩ (HK.out _ w6 w6 ⟨sA4, sC4, mA4, mC4, lA4, lC4, wA4, wC4⟩ om6.out (Below.refl _ _))).mono ?_; rintro e w7 ⟨rfl, hb7⟩; have N7 := N6.trans (hb7.mono (Nat.le_of_lt y6)); have B7 := below_step B6 hb7; have G7 := hb7; obtain ⟨hc7, hf7⟩ := bcell hb7; have x7 : w.heap.size < w7.heap.size := Nat.lt_of_lt_of_le x6 hb7.size; have y7 : w2.heap.size < w7.heap.size := Nat.lt_of_lt_of_le y6 hb7.size; have z7 : w4.heap.size < w7.heap.size := Nat.lt_of_lt_of_le z6 hb7.size)
    | (go_at_call 16; refine (HM.out w4 w5 w3.heap.size ⟨sA4, sC4, mA4, mC4, lA4, lC4, wA4, wC4⟩ ho4.out (HB.out _ w4 w5 _ ho4.out M5)).mono ?_; rintro e w6 ⟨rfl, om6, mid6⟩; have s3 : w3.heap.size ≤ w4.heap.size := hb4.size; have s5 : w4.heap.size ≤ w5.heap.size := Nat.le_of_lt z5; have q6a := mid_cell mid6 x5 (.inl x3); have q6b := mid_cell mid6 y5 (.inl y3); have q6c := mid_cell mid6 z5 (.inr (Nat.le_refl _)); have N6 := below_mid N5 mid6 (Nat.le_of_lt y3) (Nat.le_of_lt y5); have B6 := below_mid B5 mid6 (Nat.le_of_lt x3) (Nat.le_of_lt x5); have x6 : w.heap.size < w6.heap.size := Nat.lt_of_lt_of_le x5 mid6.size; have y6 : w2.heap.size < w6.heap.size := Nat.lt_of_lt_of_le y5 mid6.size; have z6 : w4.heap.size < w6.heap.size := Nat.lt_of_lt_of_le z5 mid6.size; have om6 := Lib.hid om6; clear mid6)
    | (go_at_call 15; refine (HE.out _ ⟨sA4, sC4, mA4, mC4, lA4, lC4, wA4, wC4⟩ ⟨sA2, sC2, mA2, mC2, lA2, lC2, wA2, wC2⟩ (HO.out _ w4 _ _ ho4.out ?p1) (HR.out w2 _ _ hr2.out (below_step N4 ?p2))).mono ?_; (case p1 => repeat (first | (with_reducible refine below_set ?_ (Nat.le_refl _)) | (with_reducible apply below_new) | (with_reducible exact Below.refl _ _))); (case p2 => repeat (first | (with_reducible refine below_set ?_ (Nat.le_refl _)) | (with_reducible apply below_new) | (with_reducible exact Below.refl _ _))); rintro e w5 ⟨rfl, hb5⟩; have M5 : Below w4.heap.size w4 w5 := below_step (by repeat (first | (with_reducible refine below_set ?_ (Nat.le_refl _)) | (with_reducible apply below_new) | (with_reducible exact Below.refl _ _))) hb5; have N5 := below_step N4 M5; have B5 := below_step B4 M5; obtain ⟨hc5, hf5⟩ := bcell hb5; have x5 : w.heap.size < w5.heap.size := Nat.lt_of_lt_of_le x4 M5.size; have y5 : w2.heap.size < w5.heap.size := Nat.lt_of_lt_of_le y4 M5.size; have z5 : w4.heap.size < w5.heap.size := (by have := hb5.size; simp at this; omega))
    | (go_at_call 11; refine (HI.out w3).mono ?_; rintro e w4 ⟨⟨sA4, sC4, mA4, mC4, lA4, lC4, wA4, wC4⟩, rfl, ho4, hb4⟩; have N4 := below_step N3 hb4; have B4 := below_step B3 hb4; obtain ⟨hc4, hf4⟩ := bcell hb4; have x4 : w.heap.size < w4.heap.size := Nat.lt_of_lt_of_le x3 hb4.size; have y4 : w2.heap.size < w4.heap.size := Nat.lt_of_lt_of_le y3 hb4.size; have ho4 := Lib.hid ho4)
    | (go_at_call 14; have tag2 := hr2; refine (HV.out _).mono ?_; rintro e w3 ⟨rfl, hb3⟩; have N3 : Below w2.heap.size w2 w3 := below_step (by repeat (first | (with_reducible refine below_set ?_ (Nat.le_refl _)) | (with_reducible apply below_new) | (with_reducible exact Below.refl _ _))) hb3; have B3 := below_step B2 N3; obtain ⟨hc3, hf3⟩ := bcell hb3; have x3 : w.heap.size < w3.heap.size := Nat.lt_of_lt_of_le x2 N3.size; have y3 : w2.heap.size < w3.heap.size := (by have := hb3.size; simp at this; omega); clear tag2)
    | (go_at_call 10; refine (HS.out _).mono ?_; rintro e w2 ⟨⟨sA2, sC2, mA2, mC2, lA2, lC2, wA2, wC2⟩, rfl, hr2, hb2⟩; have B2 := below_step B1 hb2; obtain ⟨hc2, hf2⟩ := bcell hb2; have x2 : w.heap.size < w2.heap.size := Nat.lt_of_lt_of_le x1 hb2.size; have hr2 := Lib.hid hr2)
    | (go_at_call 14; refine (HV.out _).mono ?_; rintro e w1 ⟨rfl, hb1⟩; have B1 := below_step (below_box _ _) hb1; obtain ⟨hc1, hf1⟩ := bcell hb1; have x1 : w.heap.size < w1.heap.size := (by have := hb1.size; simp at this; omega)))
  go_ret
  exact ⟨rfl, B11⟩
end Go.Proofs.Ytemglijebbodkaa
