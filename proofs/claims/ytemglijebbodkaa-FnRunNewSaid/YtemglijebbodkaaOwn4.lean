/- What a call does to its own small blocks: all else stays. -/
import Derived.Test.YtemglijebbodkaaOwn3
namespace Go.Proofs.Ytemglijebbodkaa
open Go.RowKit

/-- Of the blocks that w has, those from lo to lim alone may have turned. -/
structure Mid (lo lim : Nat) (w w' : World) : Prop where
  os : w'.os = w.os
  tape : w'.tape = w.tape
  output : w'.output = w.output
  size : w.heap.size ≤ w'.heap.size
  block : ∀ k, k < w.heap.size → (k < lo ∨ lim ≤ k) → w'.heap[k]? = w.heap[k]?
theorem Mid.refl (lo lim : Nat) (w : World) : Mid lo lim w w := ⟨rfl, rfl, rfl, Nat.le_refl _, fun _ _ _ => rfl⟩
theorem Mid.set {lo lim : Nat} {w W : World} (h : Mid lo lim w W) {g j : Nat} (h1 : lo ≤ g) (h2 : g < lim) (u : Value) : Mid lo lim w (W.setCell ⟨g, j, none⟩ u) :=
  ⟨h.os, h.tape, h.output, by simpa [World.setCell] using h.size, fun k hk ho => (Below.heap_setCell W ⟨g, j, none⟩ u k (by simp only; omega)).trans (h.block k hk ho)⟩
theorem Mid.below {lo lim : Nat} {w W w' : World} (h : Mid lo lim w W) (hb : Below W.heap.size W w') : Mid lo lim w w' :=
  ⟨hb.os.trans h.os, hb.tape.trans h.tape, hb.output.trans h.output, Nat.le_trans h.size hb.size, fun k hk ho => (hb.block k (Nat.lt_of_lt_of_le hk h.size)).trans (h.block k hk ho)⟩
theorem Mid.trans {lo lim : Nat} {a b c : World} (h : Mid lo lim a b) (k : Mid lo lim b c) : Mid lo lim a c :=
  ⟨k.os.trans h.os, k.tape.trans h.tape, k.output.trans h.output, Nat.le_trans h.size k.size, fun i hi ho => (k.block i (Nat.lt_of_lt_of_le hi h.size) ho).trans (h.block i hi ho)⟩
theorem Mid.low {lo lim : Nat} {w0 w W : World} (hb : Below lo w0 w) (h : Mid lo lim w W) (hl : lo ≤ w.heap.size) : Below lo w0 W :=
  hb.trans ⟨h.os, h.tape, h.output, h.size, fun k hk => h.block k (by omega) (.inl hk)⟩
theorem OwnL.mid {α : Type} {enc : α → List Value} {m t lo lim base : Nat} {w w' : World} {v : Value} {xs : List α} (h : OwnL enc m t w base v xs) (hm : Mid lo lim w w') (hl : lim ≤ base) : OwnL enc m t w' base v xs := by
  obtain ⟨h0, h1, h2⟩ := h
  refine ⟨h0, h1, ?_⟩
  rcases h2 with h2 | ⟨g, cap, cur, e, hg, hh, r⟩
  · exact .inl h2
  · exact .inr ⟨g, cap, cur, e, hg, (hm.block g (Array.getElem?_eq_some_iff.1 hh).1 (.inr (by omega))).trans hh, r⟩
end Go.Proofs.Ytemglijebbodkaa
