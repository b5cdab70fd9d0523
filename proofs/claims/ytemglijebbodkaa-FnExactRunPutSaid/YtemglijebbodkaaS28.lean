/- The reference fills a slot. -/
import Derived.Test.YtemglijebbodkaaS27
import Derived.Test.YtemglijebbodkaaS23
namespace Go.Proofs.Ytemglijebbodkaa
open Go.RowKit
set_option maxRecDepth 100000

theorem OwnL.off {α : Type} {enc : α → List Value} {m t lo lim base : Nat} {w w' : World} {v : Value} {xs : List α} (h : OwnL enc m t w base v xs) (hm : Mid lo lim w w') (hl : ∀ k, v.ownBlock = some k → k < lo) : OwnL enc m t w' base v xs := by
  obtain ⟨h0, h1, h2⟩ := h
  refine ⟨h0, h1, ?_⟩
  rcases h2 with h2 | ⟨g, cap, cur, e, hg, hh, r⟩
  · exact .inl h2
  · subst e
    exact .inr ⟨g, cap, cur, rfl, hg, (hm.block g (Array.getElem?_eq_some_iff.1 hh).1 (.inl (hl g rfl))).trans hh, r⟩

theorem box_new_at {W : World} {g : Nat} {cs : Array Value} {t : TypeId} (e : g = W.heap.size) : Box (W.alloc (.cells cs t)) g cs := by
  subst e
  exact box_new W cs t

set_option maxHeartbeats 2000000 in
theorem sPut (r : Rn) (a : RA) (base k : Nat) (v : Vl) (w : World) (h : OwnA w base r a) (hb : base ≤ w.heap.size) (hl : r.slots.length = 4) (hk : k < 4) (hf : 0 ≤ r.full) (hf' : r.full ≤ 15) :
    Calls Try.prog 57 #[.agg (runArr r a), .int .i64 (k : Int), .agg #[.int .i64 v.k, .int .i64 v.n]] w fun e w' => e = .returned (.agg (runArr { r with slots := r.slots.set k v, full := withBit r.full k } a)) ∧ OwnA w' base { r with slots := r.slots.set k v, full := withBit r.full k } a ∧ Below base w w' := by
  have HW := Lib.hid (fun W => sWith r.full k hf hf' (inB_iff.2 ⟨by omega, by omega⟩) W)
  obtain ⟨id, at_, slots, full, mail, state, due, links, watched, trap, ⟨wk, wn⟩, turns⟩ := r
  obtain ⟨sA, sC, mA, mC, lA, lC, wA, wC⟩ := a
  simp only at hl HW
  have hs := h.slots
  obtain ⟨g, c', e, hg1, hg2⟩ := hs.form (by rw [hl]; decide)
  simp only [Value.slice.injEq, true_and] at e
  obtain ⟨rfl, rfl⟩ := e
  have hrow : RowL encV 2 24 w base g 4 sC slots := ⟨hl, by rw [← hl]; exact hs⟩
  have hkl : k < slots.length := by rw [hl]; exact hk
  obtain ⟨⟨y1, hd1⟩, ⟨y2, hd2⟩, hd3, hd4, _⟩ := row_set2 hrow hkl v
  have HST := Lib.hid (fun (W : World) (hW : Below w.heap.size w W) => (row_set2 (hrow.below hW) hkl v).2.2.2.2)
  have HO := Lib.hid h
  have HB := Lib.hid hb
  have HL := Lib.hid hl
  have s0 : w.heap.size < w.heap.size + 1 + 1 + 1 := by omega
  have s1 : w.heap.size + 1 < w.heap.size + 1 + 1 + 1 := by omega
  have s2 : w.heap.size + 1 + 1 < w.heap.size + 1 + 1 + 1 := by omega
  have t1 : g < w.heap.size + 1 := by omega
  have t2 : g < w.heap.size + 1 + 1 := by omega
  have t3 : ¬ g = w.heap.size := by omega
  have t4 : ¬ g = w.heap.size + 1 := by omega
  have t5 : ¬ g = w.heap.size + 1 + 1 := by omega
  have t6 : ¬ w.heap.size = g := by omega
  have t7 : ¬ w.heap.size + 1 = g := by omega
  have t8 : ¬ w.heap.size + 1 + 1 = g := by omega
  have i1 : (0 : Int) ≤ k := by omega
  have i2 : (k : Int) < 4 := by omega
  simp only [runArr, List.length_set]
  rw [hl]
  clear h hs hrow hl hb hkl
  obtain ⟨vk, vn⟩ := v
  generalize withBit full k = wb at HW ⊢
  go_enter Try.func57, Try.ntmps57
  go_wp2_with (go_at_call 72; refine (HW.out _).mono ?_; rintro e w2 ⟨rfl, hb2⟩; obtain ⟨hc2, hf2⟩ := bcell hb2; have x2 : w.heap.size < w2.heap.size := (by have := hb2.size; simp at this; omega); have y2 : w.heap.size + 1 < w2.heap.size := (by have := hb2.size; simp at this; omega); have z2 : w.heap.size + 1 + 1 < w2.heap.size := (by have := hb2.size; simp at this; omega); have bx : Box w2 w.heap.size _ := ((box_new_at (by simp)).below (below_new (below_box _ _) _)).below hb2; have bz : Box w2 (w.heap.size + 1 + 1) _ := (box_new_at (by simp)).below hb2; obtain ⟨_, qx⟩ := bx; obtain ⟨_, qz⟩ := bz; clear hc2; have R0 := HST.out w (Below.refl _ _); have RO := Lib.hid (show RowL encV 2 24 w2 base g 4 sC (slots.set k ⟨vk, vn⟩) from ⟨R0.1, (((R0.2.alloc _).alloc _).alloc _).below hb2⟩); clear R0; have MO := Lib.hid (((((HO.out.mail.kept (grown_set (grown_set (grown_refl _ _) _ _) _ _) (HO.out.sm.kept)).alloc _).alloc _).alloc _).below hb2); have LO := Lib.hid (((((HO.out.links.kept (grown_set (grown_set (grown_refl _ _) _ _) _ _) (HO.out.sl.kept)).alloc _).alloc _).alloc _).below hb2); have WO := Lib.hid (((((HO.out.watched.kept (grown_set (grown_set (grown_refl _ _) _ _) _ _) (HO.out.so.kept)).alloc _).alloc _).alloc _).below hb2); have BO := Lib.hid ((((((Below.refl base w).setCell (p := ⟨g, k * 2, none⟩) hg1 _).setCell (p := ⟨g, k * 2 + 1, none⟩) hg1 _).alloc (by have := HB.out; simp; omega) _).alloc (by have := HB.out; simp; omega) _).alloc (by have := HB.out; simp; omega) _).trans (hb2.mono (by have := HB.out; simp; omega)))
  have hfin := Lib.hid (fun (W : World) (M : Mid w.heap.size (w.heap.size + 3) w2 W) => (show OwnA W base ⟨id, at_, slots.set k ⟨vk, vn⟩, wb, mail, state, due, links, watched, trap, ⟨wk, wn⟩, turns⟩ ⟨some ⟨g, 0, none⟩, sC, mA, mC, lA, lC, wA, wC⟩ ∧ Below base w W from
    ⟨⟨by
        have := RO.out.2.off M (fun j e => by injection e with e; simp only at e; omega)
        simp only [List.length_set, HL.out]
        exact this,
      MO.out.off M (fun j e => ((HO.out.mail.lt j e).2)), LO.out.off M (fun j e => ((HO.out.links.lt j e).2)), WO.out.off M (fun j e => ((HO.out.watched.lt j e).2)),
      by have := HO.out.sm; simp only [List.length_set]; exact this, by have := HO.out.sl; simp only [List.length_set]; exact this, by have := HO.out.so; simp only [List.length_set]; exact this, HO.out.ml, HO.out.mo, HO.out.lo⟩, below_mid BO M HB.out (by have := HB.out; omega)⟩))
  refine bodyPost_ret (v := .agg #[.int .i64 id, .int .i64 at_, .slice (some ⟨g, 0, none⟩) 4 sC, .int .i64 wb, .slice mA mail.length mC, .int .i64 state, .int .i64 due, .slice lA links.length lC, .slice wA watched.length wC, .bool trap, .int .i64 wk, .int .i64 wn, .int .i64 turns]) (by simp [results, Try.results57, go_sem, qz]) rfl ?_
  refine ⟨rfl, hfin.out _ ?_⟩
  repeat (first | (with_reducible refine Mid.set ?_ (by omega) (by omega) _) | (with_reducible exact Mid.refl _ _ _))
end Go.Proofs.Ytemglijebbodkaa
