/- A whole run of the call's own marked, and its marks read. -/
import Derived.Test.YtemglijebbodkaaS17
import Derived.Deep.RegionWith
namespace Go.Proofs.Ytemglijebbodkaa
open Go.RowKit
set_option maxRecDepth 100000

/-- A run whose lists hold marks from k on. -/
def markedR (r : Rn) (k : Int) : Rn := { r with slots := marksV k r.slots.length, mail := marksV (k + 2 * r.slots.length) r.mail.length, links := marksI (k + 2 * r.slots.length + 2 * r.mail.length) r.links.length, watched := marksI (k + 2 * r.slots.length + 2 * r.mail.length + r.links.length) r.watched.length }
def marksR (r : Rn) (k : Int) : Int := k + 2 * r.slots.length + 2 * r.mail.length + r.links.length + r.watched.length
/-- A run's slices as values. -/
abbrev OwnA (w : World) (base : Nat) (r : Rn) (a : RA) : Prop := OwnRun 24 3 w base r (.slice a.sA r.slots.length a.sC) (.slice a.mA r.mail.length a.mC) (.slice a.lA r.links.length a.lC) (.slice a.wA r.watched.length a.wC)
def MarkPost (r : Rn) (a : RA) (base : Nat) (k0 : Int) (w : World) (e : Ending) (w' : World) : Prop :=
  e = .returned (.int .i64 (marksR r k0)) ∧ OwnRun 24 3 w' base (markedR r k0) (.slice a.sA r.slots.length a.sC) (.slice a.mA r.mail.length a.mC) (.slice a.lA r.links.length a.lC) (.slice a.wA r.watched.length a.wC) ∧ Below base w w'

set_option maxHeartbeats 2000000 in
theorem lMarkRun (r : Rn) (a : RA) (base : Nat) (k0 : Int) (w : World) (h : OwnA w base r a) (hb : base ≤ w.heap.size) (h0 : 0 ≤ k0) (h1 : k0 ≤ 1048576) (n1 : r.slots.length ≤ 140737488355328) (n2 : r.mail.length ≤ 140737488355328) (n3 : r.links.length ≤ 140737488355328) (n4 : r.watched.length ≤ 140737488355328) :
    Calls Try.prog 16 #[.agg (runArr r a), .int .i64 k0] w (MarkPost r a base k0 w) := by
  obtain ⟨id, at_, slots, full, mail, state, due, links, watched, trap, ⟨wk, wn⟩, turns⟩ := r
  obtain ⟨sA, sC, mA, mC, lA, lC, wA, wC⟩ := a
  simp only at n1 n2 n3 n4
  have K1 := Lib.hid (fun W (h : OwnL encV 2 24 W base (.slice sA slots.length sC) slots) => lMarkV slots sA sC base k0 W h n1 h0 (by omega))
  have K2 := Lib.hid (fun W (h : OwnL encV 2 24 W base (.slice mA mail.length mC) mail) => lMarkV mail mA mC base (k0 + 2 * slots.length) W h n2 (by omega) (by omega))
  have K3 := Lib.hid (fun W (h : OwnL encI 1 3 W base (.slice lA links.length lC) links) => lMarkI links lA lC base (k0 + 2 * slots.length + 2 * mail.length) W h n3 (by omega) (by omega))
  have K4 := Lib.hid (fun W (h : OwnL encI 1 3 W base (.slice wA watched.length wC) watched) => lMarkI watched wA wC base (k0 + 2 * slots.length + 2 * mail.length + links.length) W h n4 (by omega) (by omega))
  have HB := Lib.hid hb
  have H := Lib.hid h
  clear h hb n1 n2 n3 n4
  have fin : Hid (∀ W : World, OwnRun 24 3 W base (markedR ⟨id, at_, slots, full, mail, state, due, links, watched, trap, ⟨wk, wn⟩, turns⟩ k0) (.slice sA slots.length sC) (.slice mA mail.length mC) (.slice lA links.length lC) (.slice wA watched.length wC) ∧ Below base w W → MarkPost ⟨id, at_, slots, full, mail, state, due, links, watched, trap, ⟨wk, wn⟩, turns⟩ ⟨sA, sC, mA, mC, lA, lC, wA, wC⟩ base k0 w (.returned (.int .i64 (k0 + 2 * slots.length + 2 * mail.length + links.length + watched.length))) W) := fun W h => ⟨rfl, h⟩
  simp only [runArr]
  go_enter Try.func16, Try.ntmps16
  go_wp2_with (first
    | (go_at_call_of 44 (Value.slice sA slots.length sC); refine (K1.out _ (H.out.slots.alloc _)).mono ?_; rintro e w1 ⟨rfl, o1, g1⟩; have m1 := Lib.hid ((H.out.mail.alloc _).kept g1 H.out.sm.kept); have l1 := Lib.hid ((H.out.links.alloc _).kept g1 H.out.sl.kept); have x1 := Lib.hid ((H.out.watched.alloc _).kept g1 H.out.so.kept); have q1 := grown_cell g1 (H.out.slots.ne_size (Nat.le_refl _)) (by simp); have z1 : w.heap.size < w1.heap.size := (by have := g1.size; simp at this; omega); have B1 := Lib.hid (below_grown ((Below.refl base w).alloc HB.out _) (by have := HB.out; simp; omega) g1 H.out.slots); have O1 := Lib.hid o1; clear o1 g1)
    | (go_at_call_of 44 (Value.slice mA mail.length mC); refine (K2.out _ m1.out).mono ?_; rintro e w2 ⟨rfl, o2, g2⟩; have s2 := Lib.hid (O1.out.kept g2 H.out.sm.kept'); have l2 := Lib.hid (l1.out.kept g2 H.out.ml.kept); have x2 := Lib.hid (x1.out.kept g2 H.out.mo.kept); have q2 := grown_cell g2 (H.out.mail.ne_size (Nat.le_refl _)) z1; have z2 : w.heap.size < w2.heap.size := (Nat.lt_of_lt_of_le z1 g2.size); have B2 := Lib.hid (below_grown B1.out (by have := HB.out; omega) g2 H.out.mail); have O2 := Lib.hid o2; clear o2 g2)
    | (go_at_call_of 45 (Value.slice lA links.length lC); refine (K3.out _ l2.out).mono ?_; rintro e w3 ⟨rfl, o3, g3⟩; have s3 := Lib.hid (s2.out.kept g3 H.out.sl.kept'); have m3 := Lib.hid (O2.out.kept g3 H.out.ml.kept'); have x3 := Lib.hid (x2.out.kept g3 H.out.lo.kept); have q3 := grown_cell g3 (H.out.links.ne_size (Nat.le_refl _)) z2; have z3 : w.heap.size < w3.heap.size := (Nat.lt_of_lt_of_le z2 g3.size); have B3 := Lib.hid (below_grown B2.out (by have := HB.out; omega) g3 H.out.links); have O3 := Lib.hid o3; clear o3 g3)
    | (go_at_call_of 45 (Value.slice wA watched.length wC); refine (K4.out _ x3.out).mono ?_; rintro e w4 ⟨rfl, o4, g4⟩; have s4 := Lib.hid (s3.out.kept g4 H.out.so.kept'); have m4 := Lib.hid (m3.out.kept g4 H.out.mo.kept'); have l4 := Lib.hid (O3.out.kept g4 H.out.lo.kept'); have B4 := Lib.hid (below_grown B3.out (by have := HB.out; omega) g4 H.out.watched); have O4 := Lib.hid o4; clear o4 g4))
  go_ret
  exact fin.out _ ⟨⟨s4.out, m4.out, l4.out, O4.out, H.out.sm, H.out.sl, H.out.so, H.out.ml, H.out.mo, H.out.lo⟩, B4.out⟩

set_option maxHeartbeats 2000000 in
theorem lHeldRun (r : Rn) (a : RA) (B : Nat) (k0 : Int) (w : World) (h : ReadsRun w B (markedR r k0) a) (hB : B ≤ w.heap.size) (h0 : 0 ≤ k0) (h1 : k0 ≤ 1048576) :
    Calls Try.prog 17 #[.agg (runArr r a), .int .i64 k0] w fun e w' => e = .returned (.int .i64 (marksR r k0)) ∧ Below w.heap.size w w' := by
  obtain ⟨id, at_, slots, full, mail, state, due, links, watched, trap, ⟨wk, wn⟩, turns⟩ := r
  obtain ⟨sA, sC, mA, mC, lA, lC, wA, wC⟩ := a
  obtain ⟨hs, hm, hl, hw, _, _, _, _⟩ := h
  simp only [markedR, marksV_length, marksI_length] at hs hm hl hw
  have n1 := hs.2.1
  have n2 := hm.2.1
  have n3 := hl.2.1
  have n4 := hw.2.1
  have K1 := Lib.hid (fun W (hb : Below w.heap.size w W) => lHeldV slots.length k0 sA sC B W (hs.below' hb hB) h0 (by omega))
  have K2 := Lib.hid (fun W (hb : Below w.heap.size w W) => lHeldV mail.length (k0 + 2 * slots.length) mA mC B W (hm.below' hb hB) (by omega) (by omega))
  have K3 := Lib.hid (fun W (hb : Below w.heap.size w W) => lHeldI links.length (k0 + 2 * slots.length + 2 * mail.length) lA lC B W (hl.below' hb hB) (by omega) (by omega))
  have K4 := Lib.hid (fun W (hb : Below w.heap.size w W) => lHeldI watched.length (k0 + 2 * slots.length + 2 * mail.length + links.length) wA wC B W (hw.below' hb hB) (by omega) (by omega))
  clear hs hm hl hw
  have d1 : ¬ k0 + 2 * (slots.length : Int) < 0 := by omega
  have d2 : ¬ k0 + 2 * (slots.length : Int) + 2 * mail.length < 0 := by omega
  have d3 : ¬ k0 + 2 * (slots.length : Int) + 2 * mail.length + links.length < 0 := by omega
  have d4 : ¬ k0 + 2 * (slots.length : Int) + 2 * mail.length + links.length + watched.length < 0 := by omega
  unfold marksR
  simp only [runArr]
  go_enter Try.func17, Try.ntmps17
  go_wp2_with (first
    | (go_at_call_of 46 (Value.slice sA slots.length sC); refine (K1.out _ (below_box _ _)).mono ?_; rintro e w' ⟨rfl, rfl⟩)
    | (go_at_call_of 46 (Value.slice mA mail.length mC); refine (K2.out _ (below_box _ _)).mono ?_; rintro e w' ⟨rfl, rfl⟩)
    | (go_at_call_of 47 (Value.slice lA links.length lC); refine (K3.out _ (below_box _ _)).mono ?_; rintro e w' ⟨rfl, rfl⟩)
    | (go_at_call_of 47 (Value.slice wA watched.length wC); refine (K4.out _ (below_box _ _)).mono ?_; rintro e w' ⟨rfl, rfl⟩))
  go_ret
  exact ⟨rfl, below_box _ _⟩
end Go.Proofs.Ytemglijebbodkaa
