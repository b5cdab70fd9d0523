/- A whole run of the call's own marked: no block but its own rows turns. -/
import Derived.Test.YtemglijebbodkaaS18
namespace Go.Proofs.Ytemglijebbodkaa
open Go.RowKit
set_option maxRecDepth 100000

theorem mid_grown {α : Type} {enc : α → List Value} {m t base : Nat} {w W W' V : World} {v : Value} {xs : List α} (h : Mid base V.heap.size w W) (g : W.grownBy W' v.ownBlock) (ho : OwnL enc m t V base v xs) : Mid base V.heap.size w W' :=
  ⟨g.os.trans h.os, g.tape.trans h.tape, g.output.trans h.output, Nat.le_trans h.size g.size, fun k hk hor => (g.block k (Nat.lt_of_lt_of_le hk h.size) (fun e => by have := ho.lt _ e.symm; omega)).trans (h.block k hk hor)⟩
def MarkPostM (r : Rn) (a : RA) (base : Nat) (k0 : Int) (V w : World) (e : Ending) (w' : World) : Prop :=
  e = .returned (.int .i64 (marksR r k0)) ∧ OwnRun 24 3 w' base (markedR r k0) (.slice a.sA r.slots.length a.sC) (.slice a.mA r.mail.length a.mC) (.slice a.lA r.links.length a.lC) (.slice a.wA r.watched.length a.wC) ∧ Mid base V.heap.size w w'

set_option maxHeartbeats 2000000 in
theorem lMarkRunM (r : Rn) (a : RA) (base : Nat) (k0 : Int) (V w : World) (hV : OwnA V base r a) (h : OwnA w base r a) (h0 : 0 ≤ k0) (h1 : k0 ≤ 1048576) (n1 : r.slots.length ≤ 140737488355328) (n2 : r.mail.length ≤ 140737488355328) (n3 : r.links.length ≤ 140737488355328) (n4 : r.watched.length ≤ 140737488355328) :
    Calls Try.prog 16 #[.agg (runArr r a), .int .i64 k0] w (MarkPostM r a base k0 V w) := by
  obtain ⟨id, at_, slots, full, mail, state, due, links, watched, trap, ⟨wk, wn⟩, turns⟩ := r
  obtain ⟨sA, sC, mA, mC, lA, lC, wA, wC⟩ := a
  simp only at n1 n2 n3 n4
  have K1 := Lib.hid (fun W (h : OwnL encV 2 24 W base (.slice sA slots.length sC) slots) => lMarkV slots sA sC base k0 W h n1 h0 (by omega))
  have K2 := Lib.hid (fun W (h : OwnL encV 2 24 W base (.slice mA mail.length mC) mail) => lMarkV mail mA mC base (k0 + 2 * slots.length) W h n2 (by omega) (by omega))
  have K3 := Lib.hid (fun W (h : OwnL encI 1 3 W base (.slice lA links.length lC) links) => lMarkI links lA lC base (k0 + 2 * slots.length + 2 * mail.length) W h n3 (by omega) (by omega))
  have K4 := Lib.hid (fun W (h : OwnL encI 1 3 W base (.slice wA watched.length wC) watched) => lMarkI watched wA wC base (k0 + 2 * slots.length + 2 * mail.length + links.length) W h n4 (by omega) (by omega))
  have HV := Lib.hid hV
  have H := Lib.hid h
  clear h hV n1 n2 n3 n4
  have fin : Hid (∀ W : World, OwnRun 24 3 W base (markedR ⟨id, at_, slots, full, mail, state, due, links, watched, trap, ⟨wk, wn⟩, turns⟩ k0) (.slice sA slots.length sC) (.slice mA mail.length mC) (.slice lA links.length lC) (.slice wA watched.length wC) ∧ Mid base V.heap.size w W → MarkPostM ⟨id, at_, slots, full, mail, state, due, links, watched, trap, ⟨wk, wn⟩, turns⟩ ⟨sA, sC, mA, mC, lA, lC, wA, wC⟩ base k0 V w (.returned (.int .i64 (k0 + 2 * slots.length + 2 * mail.length + links.length + watched.length))) W) := fun W h => ⟨rfl, h⟩
  simp only [runArr]
  go_enter Try.func16, Try.ntmps16
  go_wp2_with (first
    | (go_at_call_of 44 (Value.slice sA slots.length sC); refine (K1.out _ (H.out.slots.alloc _)).mono ?_; rintro e w1 ⟨rfl, o1, g1⟩; have m1 := Lib.hid ((H.out.mail.alloc _).kept g1 H.out.sm.kept); have l1 := Lib.hid ((H.out.links.alloc _).kept g1 H.out.sl.kept); have x1 := Lib.hid ((H.out.watched.alloc _).kept g1 H.out.so.kept); have q1 := grown_cell g1 (H.out.slots.ne_size (Nat.le_refl _)) (by simp); have z1 : w.heap.size < w1.heap.size := (by have := g1.size; simp at this; omega); have B1 := Lib.hid (mid_grown ((Mid.refl _ _ _).below (below_box _ _)) g1 HV.out.slots); have O1 := Lib.hid o1; clear o1 g1)
    | (go_at_call_of 44 (Value.slice mA mail.length mC); refine (K2.out _ m1.out).mono ?_; rintro e w2 ⟨rfl, o2, g2⟩; have s2 := Lib.hid (O1.out.kept g2 H.out.sm.kept'); have l2 := Lib.hid (l1.out.kept g2 H.out.ml.kept); have x2 := Lib.hid (x1.out.kept g2 H.out.mo.kept); have q2 := grown_cell g2 (H.out.mail.ne_size (Nat.le_refl _)) z1; have z2 : w.heap.size < w2.heap.size := (Nat.lt_of_lt_of_le z1 g2.size); have B2 := Lib.hid (mid_grown B1.out g2 HV.out.mail); have O2 := Lib.hid o2; clear o2 g2)
    | (go_at_call_of 45 (Value.slice lA links.length lC); refine (K3.out _ l2.out).mono ?_; rintro e w3 ⟨rfl, o3, g3⟩; have s3 := Lib.hid (s2.out.kept g3 H.out.sl.kept'); have m3 := Lib.hid (O2.out.kept g3 H.out.ml.kept'); have x3 := Lib.hid (x2.out.kept g3 H.out.lo.kept); have q3 := grown_cell g3 (H.out.links.ne_size (Nat.le_refl _)) z2; have z3 : w.heap.size < w3.heap.size := (Nat.lt_of_lt_of_le z2 g3.size); have B3 := Lib.hid (mid_grown B2.out g3 HV.out.links); have O3 := Lib.hid o3; clear o3 g3)
    | (go_at_call_of 45 (Value.slice wA watched.length wC); refine (K4.out _ x3.out).mono ?_; rintro e w4 ⟨rfl, o4, g4⟩; have s4 := Lib.hid (s3.out.kept g4 H.out.so.kept'); have m4 := Lib.hid (m3.out.kept g4 H.out.mo.kept'); have l4 := Lib.hid (O3.out.kept g4 H.out.lo.kept'); have B4 := Lib.hid (mid_grown B3.out g4 HV.out.watched); have O4 := Lib.hid o4; clear o4 g4))
  go_ret
  exact fin.out _ ⟨⟨s4.out, m4.out, l4.out, O4.out, H.out.sm, H.out.sl, H.out.so, H.out.ml, H.out.mo, H.out.lo⟩, B4.out⟩


theorem mid_cell {lo lim b : Nat} {w w' : World} (h : Mid lo lim w w') (hb : b < w.heap.size) (ho : b < lo ∨ lim ≤ b) : ∀ o, w'.cell? ⟨b, o, none⟩ = w.cell? ⟨b, o, none⟩ := fun o => by
  have := h.block b hb ho
  unfold World.cell?
  simp only
  rw [this]
theorem mid_frozen {lo lim b : Nat} {w w' : World} (h : Mid lo lim w w') (hb : b < w.heap.size) (ho : b < lo ∨ lim ≤ b) : ∀ o, w'.frozen? ⟨b, o, none⟩ = w.frozen? ⟨b, o, none⟩ := fun o => by
  have := h.block b hb ho
  unfold World.frozen?
  simp only
  rw [this]
theorem ReadsRun.belowB {w w' : World} {B : Nat} {r : Rn} {a : RA} (h : ReadsRun w B r a) (hb : Below B w w') : ReadsRun w' B r a :=
  ⟨h.slots.below hb, h.mail.below hb, h.links.below hb, h.watched.below hb, h.sC, h.mC, h.lC, h.wC⟩
theorem OwnRun.readsA {tV tI : Nat} {w : World} {base : Nat} {r : Rn} {a : RA} {n1 n2 n3 n4 : Nat} (h : OwnRun tV tI w base r (.slice a.sA n1 a.sC) (.slice a.mA n2 a.mC) (.slice a.lA n3 a.lC) (.slice a.wA n4 a.wC)) : ReadsRun w w.heap.size r a := by
  obtain ⟨b, e1, e2, e3, e4, hr⟩ := h.reads
  injection e1 with a1 _ c1
  injection e2 with a2 _ c2
  injection e3 with a3 _ c3
  injection e4 with a4 _ c4
  obtain ⟨sA, sC, mA, mC, lA, lC, wA, wC⟩ := a
  obtain ⟨sA', sC', mA', mC', lA', lC', wA', wC'⟩ := b
  simp only at a1 c1 a2 c2 a3 c3 a4 c4
  subst a1 c1 a2 c2 a3 c3 a4 c4
  exact hr
end Go.Proofs.Ytemglijebbodkaa
