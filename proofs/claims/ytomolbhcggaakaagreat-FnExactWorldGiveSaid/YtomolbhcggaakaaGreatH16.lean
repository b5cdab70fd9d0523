/- Parts of the proof, in one text. -/
import Derived.Deep.RegionHeld3
import Derived.Deep.RegionWith
import Derived.Deep.DrawnRows
import Derived.Test.YtomolbhcggaakaaGreatH15
import Derived.Test.YtomolbhcggaakaaGreatH09
/- A region that draws its order, operation by operation: the panic's side condition is paid once; nothing of the program. -/
namespace Go.Proofs.YtomolbhcggaakaaGreat
open Go

section
variable {P : Program} {ops : Array Oper} {Q : Exit → Act → World → Prop} {md : Region.Mode} {S : World → Prop}
def Calm (Q : Exit → Act → World → Prop) : Prop := ∀ (c : _) (a : Act) (d : Tmp) (v : Value) (w : World), Q (.panic c) (a.put (some d) v) w → Q (.panic c) a w
theorem held_begin {id : Nat} {a : Act} {w : World} (hm : P.follows .mixedOrders = true) (hQ : Calm Q) (hS : S w.drew)
    (h : Calm Q → S w.drew → wpAnyH P .any ops Q S ops.size (Array.replicate ops.size false) a w.drew) : (Code.region id ops true).wp P Q a w :=
  wp_region_held_drew hm hS (h hQ)
theorem take_no {oi : Oper} {fuel : Nat} {listed : Array Bool} {a : Act} {w : World} (hQ : Calm Q) (hS : S w) (i : Nat) (hi : ops[i]? = some oi) {d : Tmp} (hd : oi.dst = some d)
    (hs : (Region.noSelect ops && Region.free md ops listed i && (Region.ready md ops listed).contains i) = true) (hw : Region.wanted oi (yielded ops a.tmps) = false)
    (h : wpAnyH P md ops Q S fuel (listed.setIfInBounds i true) (a.put (some d) undef) w) : wpAnyH P md ops Q S (fuel + 1) listed a w := by
  rw [← hd] at h
  simp only [Bool.and_eq_true] at hs
  exact wpAnyH_take hi hs.1.1 hs.1.2 hs.2 (fun c a w => by rw [hd]; exact hQ c a _ _ w) (.inr ⟨hw, rfl⟩) hS h
theorem take_yes {oi : Oper} {v : Value} {fuel : Nat} {listed : Array Bool} {a : Act} {w : World} (hQ : Calm Q) (hS : S w) (i : Nat) (hi : ops[i]? = some oi) {d : Tmp} (hd : oi.dst = some d)
    (hs : (Region.noSelect ops && Region.free md ops listed i && (Region.ready md ops listed).contains i) = true) (hw : Region.wanted oi (yielded ops a.tmps) = true)
    (hy : ∀ w, S w → (execOp a.eval oi).run P w = .ok (.value v) w)
    (h : wpAnyH P md ops Q S fuel (listed.setIfInBounds i true) (a.put (some d) v) w) : wpAnyH P md ops Q S (fuel + 1) listed a w := by
  rw [← hd] at h
  simp only [Bool.and_eq_true] at hs
  exact wpAnyH_take hi hs.1.1 hs.1.2 hs.2 (fun c a w => by rw [hd]; exact hQ c a _ _ w) (.inl ⟨hw, hy⟩) hS h
/-- The one that may come up comes up. -/
theorem step_one {oi : Oper} {fuel : Nat} {listed : Array Bool} {a : Act} {w : World} (i : Nat) (hi : ops[i]? = some oi) {op : Op} {d : Option Tmp} {ty : TypeId} {pos : String} {af : Array Edge} {gd : Option (Nat × Bool)} (he : oi = ⟨d, op, ty, pos, af, gd⟩) (hr : Region.ready md ops listed = [i]) (hw : Region.wanted oi (yielded ops a.tmps) = true)
    (h : ∀ K' : Act → World → Prop, Shut (∀ a w, S w → (S w → wpAnyH P md ops Q S fuel (listed.setIfInBounds i true) a w) → K' a w) → Oper.wp P ⟨d, op, ty, pos, af, gd⟩ a w K' Q) : wpAnyH P md ops Q S (fuel + 1) listed a w := by
  subst he
  exact wpAnyH_ready hr (by simp) (AllReadyH.cons hi (fun K hK => by rw [if_pos hw]; exact h K hK) AllReadyH.nil)
/-! The same, with all that the walk shows by itself. -/
theorem AX : (∀ (a : Act) (d : Tmp) (v : Value), a.put (some d) v = { a with tmps := a.tmps.setIfInBounds d v }) ∧ (∀ (l : List Value) (i : Nat) (v : Value), l.toArray.setIfInBounds i v = (l.set i v).toArray) ∧ (∀ (a b : Value) (l : List Value), (a :: l).set 0 b = b :: l) ∧ (∀ (a b : Value) (l : List Value) (n : Nat), (a :: l).set (n + 1) b = a :: l.set n b) :=
  ⟨fun _ _ _ => rfl, fun l i v => List.setIfInBounds_toArray l i v, fun _ _ _ => rfl, fun _ _ _ _ => rfl⟩
theorem tkN {oi : Oper} {fuel : Nat} {listed : Array Bool} {a a' : Act} {w : World} {d : Tmp} (hQ : Calm Q) (hS : S w) (i : Nat)
    (h : wpAnyH P md ops Q S fuel (listed.setIfInBounds i true) a' w) (hi : ops[i]? = some oi := by exact rfl) (hd : oi.dst = some d := by exact rfl)
    (hs : (Region.noSelect ops && Region.free md ops listed i && (Region.ready md ops listed).contains i) = true := by kernel_rfl) (hw : Region.wanted oi (yielded ops a.tmps) = false := by kernel_rfl)
    (e : a.put (some d) undef = a' := by ((try (conv => lhs; simp only [AX])) <;> rfl)) : wpAnyH P md ops Q S (fuel + 1) listed a w := by
  subst e
  exact take_no hQ hS i hi hd hs hw h
theorem tkY {oi : Oper} {v : Value} {fuel : Nat} {listed : Array Bool} {a a' : Act} {w : World} {d : Tmp} (hQ : Calm Q) (hS : S w) (i : Nat)
    (h : wpAnyH P md ops Q S fuel (listed.setIfInBounds i true) a' w) (hi : ops[i]? = some oi := by exact rfl) (hd : oi.dst = some d := by exact rfl)
    (hs : (Region.noSelect ops && Region.free md ops listed i && (Region.ready md ops listed).contains i) = true := by kernel_rfl) (hw : Region.wanted oi (yielded ops a.tmps) = true := by kernel_rfl)
    (hy : ∀ w, S w → (execOp a.eval oi).run P w = .ok (.value v) w := by (intro W hSw; (try dsimp only at hSw); go_simp; (try with_reducible rfl)))
    (e : a.put (some d) v = a' := by ((try (conv => lhs; simp only [AX])) <;> rfl)) : wpAnyH P md ops Q S (fuel + 1) listed a w := by
  subst e
  exact take_yes hQ hS i hi hd hs hw hy h
theorem stp {oi : Oper} {fuel : Nat} {listed : Array Bool} {a : Act} {w : World} {op : Op} {d : Option Tmp} {ty : TypeId} {pos : String} {af : Array Edge} {gd : Option (Nat × Bool)} (i : Nat)
    (h : ∀ K' : Act → World → Prop, Shut (∀ a w, S w → (S w → wpAnyH P md ops Q S fuel (listed.setIfInBounds i true) a w) → K' a w) → Oper.wp P ⟨d, op, ty, pos, af, gd⟩ a w K' Q)
    (hi : ops[i]? = some oi := by exact rfl) (he : oi = ⟨d, op, ty, pos, af, gd⟩ := by exact rfl) (hr : Region.ready md ops listed = [i] := by kernel_rfl) (hw : Region.wanted oi (yielded ops a.tmps) = true := by kernel_rfl) : wpAnyH P md ops Q S (fuel + 1) listed a w := step_one i hi he hr hw h
end
end Go.Proofs.YtomolbhcggaakaaGreat
/- Whether a run fits its world: its plain part. -/
namespace Go.Proofs.YtomolbhcggaakaaGreat
open Go.RowKit
set_option maxRecDepth 100000

/-- What the whole comes to, part by part. -/
theorem runFits_eq (W : Wd) (F : List Int) (i : Nat) (r : Rn) : runFits W F i r = (runOk r && r.id == (i : Int) + 1 && decide (r.at_ < W.code.length) && (inL W.queue r.id == (r.state == 1)) && (!(r.state == 2) || waitsOk W r) && ((r.state == 3) || (r.links.all (aliveIn W.runs) && r.watched.all (aliveIn W.runs) && needOk F r))) := rfl
theorem alive_all {p : Int → Bool} {l m : List Int} : (∀ j (hj : j < (l ++ m).length), p (l ++ m)[j] = true) ↔ (l.all p && m.all p) = true := by
  rw [← List.all_append, List.all_eq_true]
  constructor
  · intro h x hx
    obtain ⟨j, hj, rfl⟩ := List.getElem_of_mem hx
    exact h j hj
  · intro h j hj
    exact h _ (List.getElem_mem hj)
end Go.Proofs.YtomolbhcggaakaaGreat
/- Whether a run fits its world. The run is not ok. -/
namespace Go.Proofs.YtomolbhcggaakaaGreat
open Go.RowKit
set_option maxRecDepth 100000
attribute [local go_sem ↓] Go.wp_at_zero Go.wp_at_succ

set_option maxHeartbeats 4000000 in
theorem sRun12_a (W : Wm) (FL : List Int) (fA : Option Addr) (fC i : Nat) (hi : i < W.ps.length) (hl6 : W.ps.length ≤ 6) (B : Nat) (w : World) (h : RW w B W) (hF : ReadsI w B fA FL.length FL) (hFl : FL.length = W.code.length) (hFb : Bits FL) (hB : B ≤ w.heap.size) (hb1 : runOk W.ps[i].1 = false) :
    Calls Tryz.prog 48 #[.agg (wArr W), .slice fA FL.length fC, .int .i64 (i : Int)] w fun e w' => e = .returned (.bool (runFits W.wd FL i W.ps[i].1)) ∧ Below w.heap.size w w' := by
  rw [runFits_eq W.wd FL i W.ps[i].1]
  obtain ⟨g, hA, hg, ca⟩ := h.runs i hi
  have RX := Lib.hid (fun V (hv : Below w.heap.size w V) => ca.below (hv.mono hB) hg)
  have hr := h.each i hi
  have HR := Lib.hid (fun V (hv : Below w.heap.size w V) => sRunOk W.ps[i].1 W.ps[i].2 B V (hr.below hv hB) (Nat.le_trans hB hv.size))
  have HA := Lib.hid (fun V (hv : Below w.heap.size w V) => sAmong W.queue W.ps[i].1.id W.qA W.qC B V (h.queue.below' hv hB))
  have HW := Lib.hid (fun (h0 : 0 ≤ W.ps[i].1.at_) (h1 : W.ps[i].1.at_ < W.code.length) V (hv : Below w.heap.size w V) => sWaiting W W.ps[i].1 W.ps[i].2 h0 h1 B V (h.below hv hB) (hr.below hv hB) (Nat.le_trans hB hv.size))
  have HPS := Lib.hid h
  have HFF := Lib.hid hF
  have HFB := Lib.hid hFb
  have HFL := Lib.hid hFl
  clear h ca hF hFb hFl
  have i1 : (0 : Int) ≤ i := by omega
  have i2 : (i : Int) < W.ps.length := by omega
  have wi : IntKind.i64.wrap ((i : Int) + 1) = (i : Int) + 1 := by rw [IntKind.wrap_i64]; omega
  have AL := add_lit0
  have M := Mem.nil w
  have HRR := Lib.hid hr
  clear hr
  generalize hp : W.ps[i] = p at *
  have HP := Lib.hid hp
  clear hp
  obtain ⟨r, ra⟩ := p
  simp only at *
  generalize hx1 : runOk r = x1 at HR ⊢
  have HX1 := Lib.hid hx1
  clear hx1
  have e1 : W.wd.code = W.code := rfl
  have e2 : W.wd.queue = W.queue := rfl
  rw [e1, e2]
  clear e1 e2
  generalize inL W.queue r.id = xa at *
  generalize waitsOk W.wd r = xw at *
  generalize hxr : (r.links.all (aliveIn W.wd.runs) && r.watched.all (aliveIn W.wd.runs) && needOk FL r) = xr
  have HXR := Lib.hid hxr
  clear hxr
  obtain ⟨code, cA, cC, ps, rA, rC, queue, qA, qC, now, sent, taken, lost⟩ := W
  simp only at *
  subst hA
  obtain ⟨id, at_, slots, full, mail, state, due, links, watched, trap, ⟨wk, wn⟩, turns⟩ := r
  obtain ⟨sA, sC, mA, mC, lA, lC, wA, wC⟩ := ra
  simp only [runArr, RunAt] at RX HR HW HA ⊢
  go_enter Tryz.func48, Tryz.ntmps48
  go_upto_region 1 with (first | ((with_reducible refine alAw M ?_; clear M; (try clear F); intro w1 M F); have E1 := RX.out _ M.toBelow) | (((with_reducible apply ev_store (M := M)); rfl; rfl; ((conv => lhs; whnf) <;> rfl); rfl; (first | exact siI | exact siR | exact siV | exact siB | exact siSI | exact siSV | exact siW | exact siSR | exact siSO | exact siO); (exact one_all rfl); (exact dl); (exact Nat.le_of_ble_eq_true rfl); clear M; intro w1 M; simp only [SX] at M; (try clear F); have F := fxw M); have E1 := RX.out _ M.toBelow))
  go_cut [3, 6, 7] from 10 (fun s3 s6 s7 wx => ∃ (g3 g7 : Nat), s3 = .pointer (some ⟨g3, 0, none⟩) ∧ s6 = .bool false ∧ s7 = .pointer (some ⟨g7, 0, none⟩) ∧ Mem w [] wx [blk g7 tR [.int .i64 id, .int .i64 at_, .slice sA slots.length sC, .int .i64 full, .slice mA mail.length mC, .int .i64 state, .int .i64 due, .slice lA links.length lC, .slice wA watched.length wC, .bool trap, .int .i64 wk, .int .i64 wn, .int .i64 turns], blk g3 tW [.slice cA code.length cC, .slice (some ⟨g, 0, none⟩) ps.length rC, .slice qA queue.length qC, .int .i64 now, .int .i64 sent, .int .i64 taken, .int .i64 lost]])
  case first =>
    go_wp2_with (first | ((with_reducible refine alAw M ?_; clear M; (try clear F); intro w1 M F); have E1 := RX.out _ M.toBelow) | (((with_reducible apply ev_store (M := M)); rfl; rfl; ((conv => lhs; whnf) <;> rfl); rfl; (first | exact siI | exact siR | exact siV | exact siB | exact siSI | exact siSV | exact siW | exact siSR | exact siSO | exact siO); (exact one_all rfl); (exact dl); (exact Nat.le_of_ble_eq_true rfl); clear M; intro w1 M; simp only [SX] at M; (try clear F); have F := fxw M); have E1 := RX.out _ M.toBelow))
    go_meet
    case rel => exact ⟨_, _, rfl, rfl, rfl, M.sel sl⟩
  clear M
  obtain ⟨g3, g7, rfl, rfl, rfl, M⟩ := hcut
  (try clear F); have F := fxw M
  rw [HX1.out] at hb1
  subst hb1
  go_wp2
  refine held_begin (S := (fun W => (∀ j, W.cell? ⟨g7, j, none⟩ = ([.int .i64 id, .int .i64 at_, .slice sA slots.length sC, .int .i64 full, .slice mA mail.length mC, .int .i64 state, .int .i64 due, .slice lA links.length lC, .slice wA watched.length wC, .bool trap, .int .i64 wk, .int .i64 wn, .int .i64 turns] : List Value)[j]?) ∧ ∀ j, W.cell? ⟨g3, j, none⟩ = ([.slice cA code.length cC, .slice (some ⟨g, 0, none⟩) ps.length rC, .slice qA queue.length qC, .int .i64 now, .int .i64 sent, .int .i64 taken, .int .i64 lost] : List Value)[j]?)) (by kernel_rfl) (fun _ _ _ _ _ h => h) (by (refine ⟨?_, ?_⟩ <;> (exact kc))) (fun HQ hHeld => ?_)
  refine tkY HQ hHeld 0 ?_
  refine stp 1 (fun K hK => ?_); go_simp
  (first | (go_at_call 90; (refine nmKw ?_; clear M; (try clear F); intro w1 M F); refine (HR.out _ M.toBelow).mono ?_; rintro e w2 ⟨rfl, hb⟩; replace M := M.below hb; clear hb; (try clear F); have F := fxw M) | (go_at_call 74; (refine nmKw ?_; clear M; (try clear F); intro w1 M F); refine (HA.out _ M.toBelow).mono ?_; rintro e w2 ⟨rfl, rfl⟩))
  (try go_wp2_with fail); refine hK.out _ _ (by (refine ⟨?_, ?_⟩ <;> (exact kc))) (fun hHeld => ?_); clear hK K; (try simp only [AX])
  refine tkY HQ hHeld 2 ?_; refine tkY HQ hHeld 3 ?_; refine tkN HQ hHeld 4 ?_; refine tkN HQ hHeld 5 ?_; refine tkN HQ hHeld 6 ?_; refine tkN HQ hHeld 7 ?_; refine tkN HQ hHeld 8 ?_; refine tkY HQ hHeld 9 ?_; refine tkY HQ hHeld 10 ?_; refine tkN HQ hHeld 11 ?_; refine tkN HQ hHeld 12 ?_; refine tkN HQ hHeld 13 ?_; refine tkN HQ hHeld 14 ?_; refine tkN HQ hHeld 15 ?_; refine tkN HQ hHeld 16 ?_; refine tkY HQ hHeld 17 ?_; refine tkY HQ hHeld 18 ?_; refine tkN HQ hHeld 19 ?_; refine tkN HQ hHeld 20 ?_; refine tkN HQ hHeld 21 ?_; refine tkN HQ hHeld 22 ?_; refine tkN HQ hHeld 23 ?_; refine tkN HQ hHeld 24 ?_; refine tkN HQ hHeld 25 ?_; refine tkN HQ hHeld 26 ?_; refine tkN HQ hHeld 27 ?_; refine tkY HQ hHeld 28 ?_
  refine wpAnyH_done (by kernel_rfl) ?_ _; clear HQ; (repeat clear hHeld)
  go_wp2
  go_ret
  exact ⟨rfl, M.toBelow⟩
end Go.Proofs.YtomolbhcggaakaaGreat
