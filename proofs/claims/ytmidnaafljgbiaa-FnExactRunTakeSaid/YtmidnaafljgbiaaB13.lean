/- Parts of the proof, in one text. -/
import Derived.Deep.RegionHeld3
import Derived.Deep.RegionWith
import Derived.Deep.DrawnRows
import Derived.Test.YtmidnaafljgbiaaB12
import Derived.Test.YtmidnaafljgbiaaB07
/- A region that draws its order, operation by operation: the panic's side condition is paid once; nothing of the program. -/
namespace Go.Proofs.Ytmidnaafljgbiaa
open Go

section
variable {P : Program} {ops : Array Oper} {Q : Exit → Act → World → Prop} {md : Region.Mode} {S : World → Prop}
def Calm (Q : Exit → Act → World → Prop) : Prop := ∀ (c : _) (a : Act) (d : Tmp) (v : Value) (w : World), Q (.panic c) (a.put (some d) v) w → Q (.panic c) a w
theorem held_begin {id : Nat} {a : Act} {w : World} (hm : P.follows .mixedOrders = true) (hQ : Calm Q) (hS : S w.drew)
    (h : Calm Q → S w.drew → wpAnyH P .any ops Q S ops.size (Array.replicate ops.size false) a w.drew) : (Code.region id ops true).wp P Q a w :=
  wp_region_held_drew hm hS (h hQ)
theorem take_no {oi : Oper} {fuel : Nat} {listed : Array Bool} {a : Act} {w : World} (hQ : Calm Q) (hS : S w) (i : Nat) (hi : ops[i]? = some oi) {d : Tmp} (hd : oi.dst = some d)
    (hs : (Region.noSelect ops && Region.free md ops listed i && (Region.ready md ops listed).contains i) = true) (hw : Region.wanted oi (yielded ops a.tmps) = false)
    (h : wpAnyH P md ops Q S fuel (listed.setIfInBounds i true) (a.put (some d) undef) w) : wpAnyH P md ops Q S (fuel + 1) listed a w := by
  rw [← hd] at h
  simp only [Bool.and_eq_true] at hs
  exact wpAnyH_take hi hs.1.1 hs.1.2 hs.2 (fun c a w => by rw [hd]; exact hQ c a _ _ w) (.inr ⟨hw, rfl⟩) hS h
theorem take_yes {oi : Oper} {v : Value} {fuel : Nat} {listed : Array Bool} {a : Act} {w : World} (hQ : Calm Q) (hS : S w) (i : Nat) (hi : ops[i]? = some oi) {d : Tmp} (hd : oi.dst = some d)
    (hs : (Region.noSelect ops && Region.free md ops listed i && (Region.ready md ops listed).contains i) = true) (hw : Region.wanted oi (yielded ops a.tmps) = true)
    (hy : ∀ w, S w → (execOp a.eval oi).run P w = .ok (.value v) w)
    (h : wpAnyH P md ops Q S fuel (listed.setIfInBounds i true) (a.put (some d) v) w) : wpAnyH P md ops Q S (fuel + 1) listed a w := by
  rw [← hd] at h
  simp only [Bool.and_eq_true] at hs
  exact wpAnyH_take hi hs.1.1 hs.1.2 hs.2 (fun c a w => by rw [hd]; exact hQ c a _ _ w) (.inl ⟨hw, hy⟩) hS h
/-- The one that may come up comes up. -/
theorem step_one {oi : Oper} {fuel : Nat} {listed : Array Bool} {a : Act} {w : World} (i : Nat) (hi : ops[i]? = some oi) {op : Op} {d : Option Tmp} {ty : TypeId} {pos : String} {af : Array Edge} {gd : Option (Nat × Bool)} (he : oi = ⟨d, op, ty, pos, af, gd⟩) (hr : Region.ready md ops listed = [i]) (hw : Region.wanted oi (yielded ops a.tmps) = true)
    (h : ∀ K' : Act → World → Prop, Shut (∀ a w, S w → (S w → wpAnyH P md ops Q S fuel (listed.setIfInBounds i true) a w) → K' a w) → Oper.wp P ⟨d, op, ty, pos, af, gd⟩ a w K' Q) : wpAnyH P md ops Q S (fuel + 1) listed a w := by
  subst he
  exact wpAnyH_ready hr (by simp) (AllReadyH.cons hi (fun K hK => by rw [if_pos hw]; exact h K hK) AllReadyH.nil)
/-! The same, with all that the walk shows by itself. -/
theorem AX : (∀ (a : Act) (d : Tmp) (v : Value), a.put (some d) v = { a with tmps := a.tmps.setIfInBounds d v }) ∧ (∀ (l : List Value) (i : Nat) (v : Value), l.toArray.setIfInBounds i v = (l.set i v).toArray) ∧ (∀ (a b : Value) (l : List Value), (a :: l).set 0 b = b :: l) ∧ (∀ (a b : Value) (l : List Value) (n : Nat), (a :: l).set (n + 1) b = a :: l.set n b) :=
  ⟨fun _ _ _ => rfl, fun l i v => List.setIfInBounds_toArray l i v, fun _ _ _ => rfl, fun _ _ _ _ => rfl⟩
theorem tkN {oi : Oper} {fuel : Nat} {listed : Array Bool} {a a' : Act} {w : World} {d : Tmp} (hQ : Calm Q) (hS : S w) (i : Nat)
    (h : wpAnyH P md ops Q S fuel (listed.setIfInBounds i true) a' w) (hi : ops[i]? = some oi := by exact rfl) (hd : oi.dst = some d := by exact rfl)
    (hs : (Region.noSelect ops && Region.free md ops listed i && (Region.ready md ops listed).contains i) = true := by kernel_rfl) (hw : Region.wanted oi (yielded ops a.tmps) = false := by kernel_rfl)
    (e : a.put (some d) undef = a' := by ((try (conv => lhs; simp only [AX])) <;> rfl)) : wpAnyH P md ops Q S (fuel + 1) listed a w := by
  subst e
  exact take_no hQ hS i hi hd hs hw h
theorem tkY {oi : Oper} {v : Value} {fuel : Nat} {listed : Array Bool} {a a' : Act} {w : World} {d : Tmp} (hQ : Calm Q) (hS : S w) (i : Nat)
    (h : wpAnyH P md ops Q S fuel (listed.setIfInBounds i true) a' w) (hi : ops[i]? = some oi := by exact rfl) (hd : oi.dst = some d := by exact rfl)
    (hs : (Region.noSelect ops && Region.free md ops listed i && (Region.ready md ops listed).contains i) = true := by kernel_rfl) (hw : Region.wanted oi (yielded ops a.tmps) = true := by kernel_rfl)
    (hy : ∀ w, S w → (execOp a.eval oi).run P w = .ok (.value v) w := by (intro W hSw; (try dsimp only at hSw); go_simp; (try with_reducible rfl)))
    (e : a.put (some d) v = a' := by ((try (conv => lhs; simp only [AX])) <;> rfl)) : wpAnyH P md ops Q S (fuel + 1) listed a w := by
  subst e
  exact take_yes hQ hS i hi hd hs hw hy h
theorem stp {oi : Oper} {fuel : Nat} {listed : Array Bool} {a : Act} {w : World} {op : Op} {d : Option Tmp} {ty : TypeId} {pos : String} {af : Array Edge} {gd : Option (Nat × Bool)} (i : Nat)
    (h : ∀ K' : Act → World → Prop, Shut (∀ a w, S w → (S w → wpAnyH P md ops Q S fuel (listed.setIfInBounds i true) a w) → K' a w) → Oper.wp P ⟨d, op, ty, pos, af, gd⟩ a w K' Q)
    (hi : ops[i]? = some oi := by exact rfl) (he : oi = ⟨d, op, ty, pos, af, gd⟩ := by exact rfl) (hr : Region.ready md ops listed = [i] := by kernel_rfl) (hw : Region.wanted oi (yielded ops a.tmps) = true := by kernel_rfl) : wpAnyH P md ops Q S (fuel + 1) listed a w := step_one i hi he hr hw h
end
end Go.Proofs.Ytmidnaafljgbiaa
/- Whether a run fits its world: its plain part. -/
namespace Go.Proofs.Ytmidnaafljgbiaa
open Go.RowKit
set_option maxRecDepth 100000

end Go.Proofs.Ytmidnaafljgbiaa
/- Whether a run fits its world. The run is not ok. -/
namespace Go.Proofs.Ytmidnaafljgbiaa
open Go.RowKit
set_option maxRecDepth 100000
attribute [local go_sem ↓] Go.wp_at_zero Go.wp_at_succ

end Go.Proofs.Ytmidnaafljgbiaa
/- Whether a run fits its world. Its number is another one. -/
namespace Go.Proofs.Ytmidnaafljgbiaa
open Go.RowKit
set_option maxRecDepth 100000
attribute [local go_sem ↓] Go.wp_at_zero Go.wp_at_succ

end Go.Proofs.Ytmidnaafljgbiaa
