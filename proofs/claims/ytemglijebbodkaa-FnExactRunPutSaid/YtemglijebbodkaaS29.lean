/- The reference's put. -/
import Derived.Test.YtemglijebbodkaaS28
import Derived.Deep.RegionHeld3
namespace Go.Proofs.Ytemglijebbodkaa
open Go.RowKit
set_option maxRecDepth 100000
theorem sSlot (s : Int) (w : World) : Calls Try.prog 56 #[.int .i64 s] w fun e w' => e = .returned (.bool (inB s 0 3)) ∧ w = w' := by
  go_enter Try.func56, Try.ntmps56
  go_wp2_with (go_at_call 31; refine (sIn _ _ _ _).mono ?_; rintro e w' ⟨rfl, rfl⟩)
  go_ret
  exact ⟨rfl, rfl⟩

/-- What both sides' put answers: a run of the call's own. -/
def PutPost (r : Rn) (w : World) (e : Ending) (w' : World) : Prop := ∃ b : RA, e = .returned (.agg (runArr r b)) ∧ OwnA w' w.heap.size r b ∧ Below w.heap.size w w'
theorem OwnRun.midlow {tV tI : Nat} {w w' : World} {base lo lim base' : Nat} {r : Rn} {s m l o : Value} (h : OwnRun tV tI w base r s m l o) (hm : Mid lo lim w w') (hl : lim ≤ base) (hb : base' ≤ base) : OwnRun tV tI w' base' r s m l o :=
  ⟨(h.slots.mid hm hl).lower hb, (h.mail.mid hm hl).lower hb, (h.links.mid hm hl).lower hb, (h.watched.mid hm hl).lower hb, h.sm, h.sl, h.so, h.ml, h.mo, h.lo⟩
theorem runOk_shape {r : Rn} (h : runOk r = true) : r.slots.length = 4 ∧ inB r.full 0 15 = true ∧ r.mail.length ≤ 12 := by
  unfold runOk at h
  simp only [Bool.and_eq_true, beq_iff_eq, decide_eq_true_eq] at h
  obtain ⟨⟨⟨⟨⟨⟨⟨⟨⟨⟨⟨⟨⟨_, _⟩, h1⟩, h2⟩, h3⟩, _⟩, _⟩, _⟩, _⟩, _⟩, _⟩, _⟩, _⟩, _⟩ := h
  exact ⟨h1, h2, h3⟩
end Go.Proofs.Ytemglijebbodkaa
