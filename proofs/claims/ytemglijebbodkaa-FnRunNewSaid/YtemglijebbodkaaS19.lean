/- A new run on both sides: the run that is made when all is valid. -/
import Derived.Test.YtemglijebbodkaaS18
import Derived.Test.YtemglijebbodkaaS6
namespace Go.Proofs.Ytemglijebbodkaa
open Go.RowKit
set_option maxRecDepth 100000

theorem box_new (W : World) (cs : Array Value) (t : TypeId) : Box (W.alloc (.cells cs t)) W.heap.size cs := ⟨by simp, fun j => cell_of_row _ _ j cs t (0, 0) (heap_alloc_new W _)⟩
theorem reads4 {W : World} {g : Nat} {k n : Int} (h : Box W g #[.int .i64 k, .int .i64 n, .int .i64 0, .int .i64 0, .int .i64 0, .int .i64 0, .int .i64 0, .int .i64 0]) : ReadsV W W.heap.size (some ⟨g, 0, none⟩) 4 [⟨k, n⟩, Vl.zero, Vl.zero, Vl.zero] := by
  refine ⟨rfl, by decide, rfl, fun _ => ⟨_, rfl, h.1, fun j u hu => ?_⟩⟩
  rw [add_lit0, Nat.zero_add, h.2 j]
  simpa [flat, encV, Vl.zero] using hu
theorem reads0V (W : World) (B : Nat) (A : Option Addr) : ReadsV W B A 0 [] := ⟨rfl, by decide, rfl, fun h => absurd h (by decide)⟩
theorem reads0I (W : World) (B : Nat) (A : Option Addr) : ReadsI W B A 0 [] := ⟨rfl, by decide, rfl, fun h => absurd h (by decide)⟩
/-- A new run: it reads wherever the blocks made here have stayed. -/
def NewPost (r : Rn) (w : World) (e : Ending) (w' : World) : Prop := ∃ b : RA, e = .returned (.agg (runArr r b)) ∧ (∀ W' : World, (∀ p : Addr, w.heap.size ≤ p.block → p.block < w'.heap.size → W'.cell? p = w'.cell? p) → w'.heap.size ≤ W'.heap.size → ReadsRun W' W'.heap.size r b) ∧ Below w.heap.size w w'
set_option maxHeartbeats 1000000 in
theorem s11New (id at_ : Int) (v : Vl) (w : World) : Calls Try.prog 34 #[.int .i64 id, .int .i64 at_, .agg #[.int .i64 v.k, .int .i64 v.n]] w (NewPost (newRun id at_ v) w) := by
  obtain ⟨k, n⟩ := v
  have fin : Hid (∀ (M : World) (o1 o2 o3 : Obj), M.heap.size = w.heap.size + 1 + 1 → Below w.heap.size w M →
      NewPost (newRun id at_ ⟨k, n⟩) w (.returned (.agg #[.int .i64 id, .int .i64 at_, .slice (some ⟨w.heap.size + 1 + 1, 0, none⟩) 4 4, .int .i64 1, .slice (some ⟨w.heap.size + 1 + 1 + 1, 0, none⟩) 0 0, .int .i64 1, .int .i64 0, .slice (some ⟨w.heap.size + 1 + 1 + 1 + 1, 0, none⟩) 0 0, .slice (some ⟨w.heap.size + 1 + 1 + 1 + 1 + 1, 0, none⟩) 0 0, .bool false, .int .i64 0, .int .i64 0, .int .i64 0]))
        ((((M.alloc (.cells #[.int .i64 k, .int .i64 n, .int .i64 0, .int .i64 0, .int .i64 0, .int .i64 0, .int .i64 0, .int .i64 0] 24)).alloc o1).alloc o2).alloc o3)) := by
    intro M o1 o2 o3 hs hM
    have hbx := (box_new M #[.int .i64 k, .int .i64 n, .int .i64 0, .int .i64 0, .int .i64 0, .int .i64 0, .int .i64 0, .int .i64 0] 24).below (below_new (below_new (below_box _ o1) o2) o3)
    rw [hs] at hbx
    exact ⟨⟨_, 4, _, 0, _, 0, _, 0⟩, rfl, fun W' hW hz => ⟨reads4 ⟨Nat.lt_of_lt_of_le hbx.1 hz, fun j => (hW ⟨w.heap.size + 1 + 1, j, none⟩ (by simp only; omega) hbx.1).trans (hbx.2 j)⟩, reads0V _ _ _, reads0I _ _ _, reads0I _ _ _, Nat.le_refl _, Nat.le_refl _, Nat.le_refl _, Nat.le_refl _⟩, below_new (below_new (below_new (below_new hM _) _) _) _⟩
  go_enter Try.func34, Try.ntmps34
  go_wp2
  refine bodyPost_ret (v := .agg #[.int .i64 id, .int .i64 at_, .slice (some ⟨w.heap.size + 1 + 1, 0, none⟩) 4 4, .int .i64 1, .slice (some ⟨w.heap.size + 1 + 1 + 1, 0, none⟩) 0 0, .int .i64 1, .int .i64 0, .slice (some ⟨w.heap.size + 1 + 1 + 1 + 1, 0, none⟩) 0 0, .slice (some ⟨w.heap.size + 1 + 1 + 1 + 1 + 1, 0, none⟩) 0 0, .bool false, .int .i64 0, .int .i64 0, .int .i64 0]) (by simp [results, Try.results34, go_sem]) rfl ?_
  exact fin.out _ _ _ _ (by simp) (below_new (below_box _ _) _)

theorem made8 : madeCells #[.int .i64 0, .int .i64 0] (4 * 2) = #[.int .i64 0, .int .i64 0, .int .i64 0, .int .i64 0, .int .i64 0, .int .i64 0, .int .i64 0, .int .i64 0] := by
  unfold madeCells
  rw [show Array.range (4 * 2) = #[0, 1, 2, 3, 4, 5, 6, 7] from by decide +kernel]
  simp
theorem own_row4 {M : World} {base : Nat} {k n : Int} (hb : base ≤ M.heap.size) : OwnL encV 2 24 (M.alloc (.cells #[.int .i64 k, .int .i64 n, .int .i64 0, .int .i64 0, .int .i64 0, .int .i64 0, .int .i64 0, .int .i64 0] 24)) base (.slice (some ⟨M.heap.size, 0, none⟩) 4 4) [⟨k, n⟩, Vl.zero, Vl.zero, Vl.zero] :=
  ⟨by simp, rfl, .inr ⟨M.heap.size, 4, _, rfl, hb, heap_alloc_new M _, by simp, by simp [maxLen], rfl, rfl⟩⟩
theorem NeB.none_right (v : Value) : NeB v (.slice none 0 0) := fun _ _ h => by cases h
def OwnPost (r : Rn) (ok : Bool) (w : World) (e : Ending) (w' : World) : Prop := ∃ a : RA, e = .returned (.tuple #[.agg (runArr r a), .bool ok]) ∧ OwnA w' w.heap.size r a ∧ Below w.heap.size w w'
def ReadPost (r : Rn) (ok : Bool) (w : World) (e : Ending) (w' : World) : Prop := ∃ a : RA, e = .returned (.tuple #[.agg (runArr r a), .bool ok]) ∧ ReadsRun w' w'.heap.size r a ∧ Below w.heap.size w w'
theorem own_zero (w w' : World) : OwnA w' w.heap.size Rn.zero ⟨none, 0, none, 0, none, 0, none, 0⟩ :=
  ⟨OwnL.nil _ _, OwnL.nil _ _, OwnL.nil _ _, OwnL.nil _ _, NeB.none_right _, NeB.none_right _, NeB.none_right _, NeB.none_right _, NeB.none_right _, NeB.none_right _⟩
theorem OwnPost.read {r : Rn} {ok : Bool} {w w' : World} {e : Ending} (h : OwnPost r ok w e w') : ReadPost r ok w e w' := by
  obtain ⟨a, he, ho, hb⟩ := h
  obtain ⟨b, e1, e2, e3, e4, hr⟩ := ho.reads
  injection e1 with a1 _ c1
  injection e2 with a2 _ c2
  injection e3 with a3 _ c3
  injection e4 with a4 _ c4
  obtain ⟨sA, sC, mA, mC, lA, lC, wA, wC⟩ := a
  obtain ⟨sA', sC', mA', mC', lA', lC', wA', wC'⟩ := b
  simp only at a1 c1 a2 c2 a3 c3 a4 c4
  subst a1 c1 a2 c2 a3 c3 a4 c4
  exact ⟨_, he, hr, hb⟩
end Go.Proofs.Ytemglijebbodkaa
