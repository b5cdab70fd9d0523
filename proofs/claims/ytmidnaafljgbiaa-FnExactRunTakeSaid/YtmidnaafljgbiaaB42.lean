/- Parts of the proof, in one text. -/
import Derived.Deep.RegionHeld3
import Derived.Test.YtmidnaafljgbiaaB40
import Derived.Test.YtmidnaafljgbiaaB41
import Derived.Test.YtmidnaafljgbiaaB39
/- The reference fills a slot. -/
namespace Go.Proofs.Ytmidnaafljgbiaa
open Go.RowKit
set_option maxRecDepth 100000

theorem OwnL.off {α : Type} {enc : α → List Value} {m t lo lim base : Nat} {w w' : World} {v : Value} {xs : List α} (h : OwnL enc m t w base v xs) (hm : Mid lo lim w w') (hl : ∀ k, v.ownBlock = some k → k < lo) : OwnL enc m t w' base v xs := by
  obtain ⟨h0, h1, h2⟩ := h
  refine ⟨h0, h1, ?_⟩
  rcases h2 with h2 | ⟨g, cap, cur, e, hg, hh, r⟩
  · exact .inl h2
  · subst e
    exact .inr ⟨g, cap, cur, rfl, hg, (hm.block g (Array.getElem?_eq_some_iff.1 hh).1 (.inl (hl g rfl))).trans hh, r⟩

end Go.Proofs.Ytmidnaafljgbiaa
/- The reference's put. -/
namespace Go.Proofs.Ytmidnaafljgbiaa
open Go.RowKit
set_option maxRecDepth 100000
theorem runOk_shape {r : Rn} (h : runOk r = true) : r.slots.length = 4 ∧ inB r.full 0 15 = true ∧ r.mail.length ≤ 12 := by
  unfold runOk at h
  simp only [Bool.and_eq_true, beq_iff_eq, decide_eq_true_eq] at h
  obtain ⟨⟨⟨⟨⟨⟨⟨⟨⟨⟨⟨⟨⟨_, _⟩, h1⟩, h2⟩, h3⟩, _⟩, _⟩, _⟩, _⟩, _⟩, _⟩, _⟩, _⟩, _⟩ := h
  exact ⟨h1, h2, h3⟩
end Go.Proofs.Ytmidnaafljgbiaa
/- A put into a slot, on both sides, over what is held. -/
namespace Go.Proofs.Ytmidnaafljgbiaa
open Go.RowKit
set_option maxRecDepth 100000

theorem Mem.runReads {w0 w : World} {f : List Nat} {L L' : List Asn} {r : Rn} {a : RA} (M : Mem w0 f w L) (hd : Del (runA r a) L L') : ReadsRun w w.heap.size r a := (runA_reads (M.is hd)).1
theorem runZ_mem {w0 w : World} {f : List Nat} {L : List Asn} (M : Mem w0 f w L) : Mem w0 f w (runA Rn.zero ⟨none, 0, none, 0, none, 0, none, 0⟩ :: L) :=
  M.call0 (Mem.ofRun (own_zero w w) (Below.refl _ _))

end Go.Proofs.Ytmidnaafljgbiaa
