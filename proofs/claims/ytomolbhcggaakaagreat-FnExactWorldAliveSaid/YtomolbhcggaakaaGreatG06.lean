/- Parts of the proof, in one text. -/
import Derived.Test.YtomolbhcggaakaaGreatG05
/- A run whose lists are rows of the call's own. -/
namespace Go.Proofs.YtomolbhcggaakaaGreat
open Go.RowKit

/-- Two rows are not one. -/
def NeB (v u : Value) : Prop := ∀ k, v.ownBlock = some k → u.ownBlock ≠ some k
section
variable {α : Type} {enc : α → List Value} {m t : Nat} {w w' : World} {base : Nat} {v : Value} {xs : List α}
theorem OwnL.lt (h : OwnL enc m t w base v xs) : ∀ k, v.ownBlock = some k → base ≤ k ∧ k < w.heap.size := h.2.lt
theorem OwnL.ne {β : Type} {enc' : β → List Value} {m' t' base' : Nat} {u : Value} {ys : List β} {W : World} (h : OwnL enc m t w base v xs) (h' : OwnL enc' m' t' W base' u ys) (hb : w.heap.size ≤ base') : NeB v u := by
  intro k hk hu
  have := (h.lt k hk).2
  have := (h'.lt k hu).1
  omega
theorem OwnL.far (h : OwnL enc m t w base v xs) {g j : Nat} (hg : g < base) (u : Value) : OwnL enc m t (w.setCell ⟨g, j, none⟩ u) base v xs := by
  refine h.kept (row := some g) ⟨rfl, rfl, rfl, by simp [World.setCell], fun k hk hne => Below.heap_setCell w ⟨g, j, none⟩ u k (fun e => hne (by rw [e]))⟩ ?_
  cases hv : v.ownBlock with
  | none => exact .inl rfl
  | some k =>
    refine .inr (fun e => ?_)
    injection e with e
    have := (h.lt k hv).1
    omega
theorem OwnL.alloc (h : OwnL enc m t w base v xs) (o : Obj) : OwnL enc m t (w.alloc o) base v xs := ⟨h.1, h.2.alloc o⟩
end
/-- The lists of a run, in rows of their own, each in another. -/
structure OwnRun (tV tI : Nat) (w : World) (base : Nat) (r : Rn) (s m l o : Value) : Prop where
  slots : OwnL encV 2 tV w base s r.slots
  mail : OwnL encV 2 tV w base m r.mail
  links : OwnL encI 1 tI w base l r.links
  watched : OwnL encI 1 tI w base o r.watched
  sm : NeB s m
  sl : NeB s l
  so : NeB s o
  ml : NeB m l
  mo : NeB m o
  lo : NeB l o
theorem OwnRun.reads {tV tI : Nat} {w : World} {base : Nat} {r : Rn} {s m l o : Value} (h : OwnRun tV tI w base r s m l o) : ∃ a : RA, s = .slice a.sA r.slots.length a.sC ∧ m = .slice a.mA r.mail.length a.mC ∧ l = .slice a.lA r.links.length a.lC ∧ o = .slice a.wA r.watched.length a.wC ∧ ReadsRun w w.heap.size r a := by
  obtain ⟨A1, c1, e1, l1, r1⟩ := h.slots.reads
  obtain ⟨A2, c2, e2, l2, r2⟩ := h.mail.reads
  obtain ⟨A3, c3, e3, l3, r3⟩ := h.links.reads
  obtain ⟨A4, c4, e4, l4, r4⟩ := h.watched.reads
  exact ⟨⟨A1, c1, A2, c2, A3, c3, A4, c4⟩, e1, e2, e3, e4, ⟨r1, r2, r3, r4, l1, l2, l3, l4⟩⟩
theorem OwnRun.below {tV tI : Nat} {w w' : World} {base : Nat} {r : Rn} {s m l o : Value} (h : OwnRun tV tI w base r s m l o) (hb : Below w.heap.size w w') : OwnRun tV tI w' base r s m l o :=
  ⟨h.slots.below hb, h.mail.below hb, h.links.below hb, h.watched.below hb, h.sm, h.sl, h.so, h.ml, h.mo, h.lo⟩
end Go.Proofs.YtomolbhcggaakaaGreat
/- What a call does to its own small blocks: all else stays. -/
namespace Go.Proofs.YtomolbhcggaakaaGreat
open Go.RowKit

/-- Of the blocks that w has, those from lo to lim alone may have turned. -/
structure Mid (lo lim : Nat) (w w' : World) : Prop where
  os : w'.os = w.os
  tape : w'.tape = w.tape
  output : w'.output = w.output
  size : w.heap.size ≤ w'.heap.size
  block : ∀ k, k < w.heap.size → (k < lo ∨ lim ≤ k) → w'.heap[k]? = w.heap[k]?
theorem Mid.refl (lo lim : Nat) (w : World) : Mid lo lim w w := ⟨rfl, rfl, rfl, Nat.le_refl _, fun _ _ _ => rfl⟩
theorem Mid.set {lo lim : Nat} {w W : World} (h : Mid lo lim w W) {g j : Nat} (h1 : lo ≤ g) (h2 : g < lim) (u : Value) : Mid lo lim w (W.setCell ⟨g, j, none⟩ u) :=
  ⟨h.os, h.tape, h.output, by simpa [World.setCell] using h.size, fun k hk ho => (Below.heap_setCell W ⟨g, j, none⟩ u k (by simp only; omega)).trans (h.block k hk ho)⟩
theorem Mid.below {lo lim : Nat} {w W w' : World} (h : Mid lo lim w W) (hb : Below W.heap.size W w') : Mid lo lim w w' :=
  ⟨hb.os.trans h.os, hb.tape.trans h.tape, hb.output.trans h.output, Nat.le_trans h.size hb.size, fun k hk ho => (hb.block k (Nat.lt_of_lt_of_le hk h.size)).trans (h.block k hk ho)⟩
theorem Mid.trans {lo lim : Nat} {a b c : World} (h : Mid lo lim a b) (k : Mid lo lim b c) : Mid lo lim a c :=
  ⟨k.os.trans h.os, k.tape.trans h.tape, k.output.trans h.output, Nat.le_trans h.size k.size, fun i hi ho => (k.block i (Nat.lt_of_lt_of_le hi h.size) ho).trans (h.block i hi ho)⟩
theorem Mid.low {lo lim : Nat} {w0 w W : World} (hb : Below lo w0 w) (h : Mid lo lim w W) (hl : lo ≤ w.heap.size) : Below lo w0 W :=
  hb.trans ⟨h.os, h.tape, h.output, h.size, fun k hk => h.block k (by omega) (.inl hk)⟩
theorem OwnL.mid {α : Type} {enc : α → List Value} {m t lo lim base : Nat} {w w' : World} {v : Value} {xs : List α} (h : OwnL enc m t w base v xs) (hm : Mid lo lim w w') (hl : lim ≤ base) : OwnL enc m t w' base v xs := by
  obtain ⟨h0, h1, h2⟩ := h
  refine ⟨h0, h1, ?_⟩
  rcases h2 with h2 | ⟨g, cap, cur, e, hg, hh, r⟩
  · exact .inl h2
  · exact .inr ⟨g, cap, cur, e, hg, (hm.block g (Array.getElem?_eq_some_iff.1 hh).1 (.inr (by omega))).trans hh, r⟩
end Go.Proofs.YtomolbhcggaakaaGreat
