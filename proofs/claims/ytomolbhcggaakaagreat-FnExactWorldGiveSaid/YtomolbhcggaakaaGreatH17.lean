/- Parts of the proof, in one text. -/
import Derived.Deep.RegionWith
import Derived.Deep.DrawnRows
import Derived.Test.YtomolbhcggaakaaGreatH16
/- Whether a run fits its world. Its number is another one. -/
namespace Go.Proofs.YtomolbhcggaakaaGreat
open Go.RowKit
set_option maxRecDepth 100000
attribute [local go_sem ↓] Go.wp_at_zero Go.wp_at_succ

set_option maxHeartbeats 4000000 in
theorem sRun12_b (W : Wm) (FL : List Int) (fA : Option Addr) (fC i : Nat) (hi : i < W.ps.length) (hl6 : W.ps.length ≤ 6) (B : Nat) (w : World) (h : RW w B W) (hF : ReadsI w B fA FL.length FL) (hFl : FL.length = W.code.length) (hFb : Bits FL) (hB : B ≤ w.heap.size) (hb1 : runOk W.ps[i].1 = true) (hb2 : (W.ps[i].1.id == (i : Int) + 1) = false) :
    Calls Tryz.prog 48 #[.agg (wArr W), .slice fA FL.length fC, .int .i64 (i : Int)] w fun e w' => e = .returned (.bool (runFits W.wd FL i W.ps[i].1)) ∧ Below w.heap.size w w' := by
  rw [runFits_eq W.wd FL i W.ps[i].1]
  obtain ⟨g, hA, hg, ca⟩ := h.runs i hi
  have RX := Lib.hid (fun V (hv : Below w.heap.size w V) => ca.below (hv.mono hB) hg)
  have hr := h.each i hi
  have HR := Lib.hid (fun V (hv : Below w.heap.size w V) => sRunOk W.ps[i].1 W.ps[i].2 B V (hr.below hv hB) (Nat.le_trans hB hv.size))
  have HA := Lib.hid (fun V (hv : Below w.heap.size w V) => sAmong W.queue W.ps[i].1.id W.qA W.qC B V (h.queue.below' hv hB))
  have HW := Lib.hid (fun (h0 : 0 ≤ W.ps[i].1.at_) (h1 : W.ps[i].1.at_ < W.code.length) V (hv : Below w.heap.size w V) => sWaiting W W.ps[i].1 W.ps[i].2 h0 h1 B V (h.below hv hB) (hr.below hv hB) (Nat.le_trans hB hv.size))
  have HPS := Lib.hid h
  have HFF := Lib.hid hF
  have HFB := Lib.hid hFb
  have HFL := Lib.hid hFl
  clear h ca hF hFb hFl
  have i1 : (0 : Int) ≤ i := by omega
  have i2 : (i : Int) < W.ps.length := by omega
  have wi : IntKind.i64.wrap ((i : Int) + 1) = (i : Int) + 1 := by rw [IntKind.wrap_i64]; omega
  have AL := add_lit0
  have M := Mem.nil w
  have HRR := Lib.hid hr
  clear hr
  generalize hp : W.ps[i] = p at *
  have HP := Lib.hid hp
  clear hp
  obtain ⟨r, ra⟩ := p
  simp only at *
  generalize hx1 : runOk r = x1 at HR ⊢
  have HX1 := Lib.hid hx1
  clear hx1
  have e1 : W.wd.code = W.code := rfl
  have e2 : W.wd.queue = W.queue := rfl
  rw [e1, e2]
  clear e1 e2
  generalize inL W.queue r.id = xa at *
  generalize waitsOk W.wd r = xw at *
  generalize hxr : (r.links.all (aliveIn W.wd.runs) && r.watched.all (aliveIn W.wd.runs) && needOk FL r) = xr
  have HXR := Lib.hid hxr
  clear hxr
  obtain ⟨code, cA, cC, ps, rA, rC, queue, qA, qC, now, sent, taken, lost⟩ := W
  simp only at *
  subst hA
  obtain ⟨id, at_, slots, full, mail, state, due, links, watched, trap, ⟨wk, wn⟩, turns⟩ := r
  obtain ⟨sA, sC, mA, mC, lA, lC, wA, wC⟩ := ra
  simp only [runArr, RunAt] at RX HR HW HA ⊢
  go_enter Tryz.func48, Tryz.ntmps48
  go_upto_region 1 with (first | ((with_reducible refine alAw M ?_; clear M; (try clear F); intro w1 M F); have E1 := RX.out _ M.toBelow) | (((with_reducible apply ev_store (M := M)); rfl; rfl; ((conv => lhs; whnf) <;> rfl); rfl; (first | exact siI | exact siR | exact siV | exact siB | exact siSI | exact siSV | exact siW | exact siSR | exact siSO | exact siO); (exact one_all rfl); (exact dl); (exact Nat.le_of_ble_eq_true rfl); clear M; intro w1 M; simp only [SX] at M; (try clear F); have F := fxw M); have E1 := RX.out _ M.toBelow))
  go_cut [3, 6, 7] from 10 (fun s3 s6 s7 wx => ∃ (g3 g7 : Nat), s3 = .pointer (some ⟨g3, 0, none⟩) ∧ s6 = .bool false ∧ s7 = .pointer (some ⟨g7, 0, none⟩) ∧ Mem w [] wx [blk g7 tR [.int .i64 id, .int .i64 at_, .slice sA slots.length sC, .int .i64 full, .slice mA mail.length mC, .int .i64 state, .int .i64 due, .slice lA links.length lC, .slice wA watched.length wC, .bool trap, .int .i64 wk, .int .i64 wn, .int .i64 turns], blk g3 tW [.slice cA code.length cC, .slice (some ⟨g, 0, none⟩) ps.length rC, .slice qA queue.length qC, .int .i64 now, .int .i64 sent, .int .i64 taken, .int .i64 lost]])
  case first =>
    go_wp2_with (first | ((with_reducible refine alAw M ?_; clear M; (try clear F); intro w1 M F); have E1 := RX.out _ M.toBelow) | (((with_reducible apply ev_store (M := M)); rfl; rfl; ((conv => lhs; whnf) <;> rfl); rfl; (first | exact siI | exact siR | exact siV | exact siB | exact siSI | exact siSV | exact siW | exact siSR | exact siSO | exact siO); (exact one_all rfl); (exact dl); (exact Nat.le_of_ble_eq_true rfl); clear M; intro w1 M; simp only [SX] at M; (try clear F); have F := fxw M); have E1 := RX.out _ M.toBelow))
    go_meet
    case rel => exact ⟨_, _, rfl, rfl, rfl, M.sel sl⟩
  clear M
  obtain ⟨g3, g7, rfl, rfl, rfl, M⟩ := hcut
  (try clear F); have F := fxw M
  rw [HX1.out] at hb1
  subst hb1
  have c2' : (id != (i : Int) + 1) = true := by simp [bne, hb2]
  have C2 := Lib.hid hb2
  clear hb2
  go_wp2
  refine held_begin (S := (fun W => (∀ j, W.cell? ⟨g7, j, none⟩ = ([.int .i64 id, .int .i64 at_, .slice sA slots.length sC, .int .i64 full, .slice mA mail.length mC, .int .i64 state, .int .i64 due, .slice lA links.length lC, .slice wA watched.length wC, .bool trap, .int .i64 wk, .int .i64 wn, .int .i64 turns] : List Value)[j]?) ∧ ∀ j, W.cell? ⟨g3, j, none⟩ = ([.slice cA code.length cC, .slice (some ⟨g, 0, none⟩) ps.length rC, .slice qA queue.length qC, .int .i64 now, .int .i64 sent, .int .i64 taken, .int .i64 lost] : List Value)[j]?)) (by kernel_rfl) (fun _ _ _ _ _ h => h) (by (refine ⟨?_, ?_⟩ <;> (exact kc))) (fun HQ hHeld => ?_)
  refine tkY HQ hHeld 0 ?_
  refine stp 1 (fun K hK => ?_); go_simp
  (first | (go_at_call 90; (refine nmKw ?_; clear M; (try clear F); intro w1 M F); refine (HR.out _ M.toBelow).mono ?_; rintro e w2 ⟨rfl, hb⟩; replace M := M.below hb; clear hb; (try clear F); have F := fxw M) | (go_at_call 74; (refine nmKw ?_; clear M; (try clear F); intro w1 M F); refine (HA.out _ M.toBelow).mono ?_; rintro e w2 ⟨rfl, rfl⟩))
  (try go_wp2_with fail); refine hK.out _ _ (by (refine ⟨?_, ?_⟩ <;> (exact kc))) (fun hHeld => ?_); clear hK K; (try simp only [AX])
  refine tkY HQ hHeld 2 ?_; refine tkY HQ hHeld 3 ?_; refine tkY HQ hHeld 4 ?_; refine tkY HQ hHeld 5 ?_; refine tkY HQ hHeld 6 ?_; refine tkY HQ hHeld 7 ?_; refine tkY HQ hHeld 8 ?_; refine tkY HQ hHeld 9 ?_; refine tkY HQ hHeld 10 ?_; refine tkN HQ hHeld 11 ?_; refine tkN HQ hHeld 12 ?_; refine tkN HQ hHeld 13 ?_; refine tkN HQ hHeld 14 ?_; refine tkN HQ hHeld 15 ?_; refine tkN HQ hHeld 16 ?_; refine tkY HQ hHeld 17 ?_; refine tkY HQ hHeld 18 ?_; refine tkN HQ hHeld 19 ?_; refine tkN HQ hHeld 20 ?_; refine tkN HQ hHeld 21 ?_; refine tkN HQ hHeld 22 ?_; refine tkN HQ hHeld 23 ?_; refine tkN HQ hHeld 24 ?_; refine tkN HQ hHeld 25 ?_; refine tkN HQ hHeld 26 ?_; refine tkN HQ hHeld 27 ?_; refine tkY HQ hHeld 28 ?_
  refine wpAnyH_done (by kernel_rfl) ?_ _; clear HQ; (repeat clear hHeld)
  go_wp2
  go_ret
  exact ⟨ret_bool (by simp only [C2.out, Bool.and_false, Bool.false_and]), M.toBelow⟩
end Go.Proofs.YtomolbhcggaakaaGreat
/- Whether a run fits its world. Its place is none. -/
namespace Go.Proofs.YtomolbhcggaakaaGreat
open Go.RowKit
set_option maxRecDepth 100000
attribute [local go_sem ↓] Go.wp_at_zero Go.wp_at_succ

set_option maxHeartbeats 4000000 in
theorem sRun12_c (W : Wm) (FL : List Int) (fA : Option Addr) (fC i : Nat) (hi : i < W.ps.length) (hl6 : W.ps.length ≤ 6) (B : Nat) (w : World) (h : RW w B W) (hF : ReadsI w B fA FL.length FL) (hFl : FL.length = W.code.length) (hFb : Bits FL) (hB : B ≤ w.heap.size) (hb1 : runOk W.ps[i].1 = true) (hb2 : (W.ps[i].1.id == (i : Int) + 1) = true) (hb3 : ¬ W.ps[i].1.at_ < W.code.length) :
    Calls Tryz.prog 48 #[.agg (wArr W), .slice fA FL.length fC, .int .i64 (i : Int)] w fun e w' => e = .returned (.bool (runFits W.wd FL i W.ps[i].1)) ∧ Below w.heap.size w w' := by
  rw [runFits_eq W.wd FL i W.ps[i].1]
  obtain ⟨g, hA, hg, ca⟩ := h.runs i hi
  have RX := Lib.hid (fun V (hv : Below w.heap.size w V) => ca.below (hv.mono hB) hg)
  have hr := h.each i hi
  have HR := Lib.hid (fun V (hv : Below w.heap.size w V) => sRunOk W.ps[i].1 W.ps[i].2 B V (hr.below hv hB) (Nat.le_trans hB hv.size))
  have HA := Lib.hid (fun V (hv : Below w.heap.size w V) => sAmong W.queue W.ps[i].1.id W.qA W.qC B V (h.queue.below' hv hB))
  have HW := Lib.hid (fun (h0 : 0 ≤ W.ps[i].1.at_) (h1 : W.ps[i].1.at_ < W.code.length) V (hv : Below w.heap.size w V) => sWaiting W W.ps[i].1 W.ps[i].2 h0 h1 B V (h.below hv hB) (hr.below hv hB) (Nat.le_trans hB hv.size))
  have HPS := Lib.hid h
  have HFF := Lib.hid hF
  have HFB := Lib.hid hFb
  have HFL := Lib.hid hFl
  clear h ca hF hFb hFl
  have i1 : (0 : Int) ≤ i := by omega
  have i2 : (i : Int) < W.ps.length := by omega
  have wi : IntKind.i64.wrap ((i : Int) + 1) = (i : Int) + 1 := by rw [IntKind.wrap_i64]; omega
  have AL := add_lit0
  have M := Mem.nil w
  have HRR := Lib.hid hr
  clear hr
  generalize hp : W.ps[i] = p at *
  have HP := Lib.hid hp
  clear hp
  obtain ⟨r, ra⟩ := p
  simp only at *
  generalize hx1 : runOk r = x1 at HR ⊢
  have HX1 := Lib.hid hx1
  clear hx1
  have e1 : W.wd.code = W.code := rfl
  have e2 : W.wd.queue = W.queue := rfl
  rw [e1, e2]
  clear e1 e2
  generalize inL W.queue r.id = xa at *
  generalize waitsOk W.wd r = xw at *
  generalize hxr : (r.links.all (aliveIn W.wd.runs) && r.watched.all (aliveIn W.wd.runs) && needOk FL r) = xr
  have HXR := Lib.hid hxr
  clear hxr
  obtain ⟨code, cA, cC, ps, rA, rC, queue, qA, qC, now, sent, taken, lost⟩ := W
  simp only at *
  subst hA
  obtain ⟨id, at_, slots, full, mail, state, due, links, watched, trap, ⟨wk, wn⟩, turns⟩ := r
  obtain ⟨sA, sC, mA, mC, lA, lC, wA, wC⟩ := ra
  simp only [runArr, RunAt] at RX HR HW HA ⊢
  go_enter Tryz.func48, Tryz.ntmps48
  go_upto_region 1 with (first | ((with_reducible refine alAw M ?_; clear M; (try clear F); intro w1 M F); have E1 := RX.out _ M.toBelow) | (((with_reducible apply ev_store (M := M)); rfl; rfl; ((conv => lhs; whnf) <;> rfl); rfl; (first | exact siI | exact siR | exact siV | exact siB | exact siSI | exact siSV | exact siW | exact siSR | exact siSO | exact siO); (exact one_all rfl); (exact dl); (exact Nat.le_of_ble_eq_true rfl); clear M; intro w1 M; simp only [SX] at M; (try clear F); have F := fxw M); have E1 := RX.out _ M.toBelow))
  go_cut [3, 6, 7] from 10 (fun s3 s6 s7 wx => ∃ (g3 g7 : Nat), s3 = .pointer (some ⟨g3, 0, none⟩) ∧ s6 = .bool false ∧ s7 = .pointer (some ⟨g7, 0, none⟩) ∧ Mem w [] wx [blk g7 tR [.int .i64 id, .int .i64 at_, .slice sA slots.length sC, .int .i64 full, .slice mA mail.length mC, .int .i64 state, .int .i64 due, .slice lA links.length lC, .slice wA watched.length wC, .bool trap, .int .i64 wk, .int .i64 wn, .int .i64 turns], blk g3 tW [.slice cA code.length cC, .slice (some ⟨g, 0, none⟩) ps.length rC, .slice qA queue.length qC, .int .i64 now, .int .i64 sent, .int .i64 taken, .int .i64 lost]])
  case first =>
    go_wp2_with (first | ((with_reducible refine alAw M ?_; clear M; (try clear F); intro w1 M F); have E1 := RX.out _ M.toBelow) | (((with_reducible apply ev_store (M := M)); rfl; rfl; ((conv => lhs; whnf) <;> rfl); rfl; (first | exact siI | exact siR | exact siV | exact siB | exact siSI | exact siSV | exact siW | exact siSR | exact siSO | exact siO); (exact one_all rfl); (exact dl); (exact Nat.le_of_ble_eq_true rfl); clear M; intro w1 M; simp only [SX] at M; (try clear F); have F := fxw M); have E1 := RX.out _ M.toBelow))
    go_meet
    case rel => exact ⟨_, _, rfl, rfl, rfl, M.sel sl⟩
  clear M
  obtain ⟨g3, g7, rfl, rfl, rfl, M⟩ := hcut
  (try clear F); have F := fxw M
  simp only at hb3
  rw [HX1.out] at hb1
  subst hb1
  have c2' : (id != (i : Int) + 1) = false := by simp [bne, hb2]
  have C2 := Lib.hid hb2
  have C3 := Lib.hid hb3
  have c3' : decide ((code.length : Int) ≤ at_) = true := decide_eq_true (by omega)
  clear hb2 hb3
  go_wp2
  refine held_begin (S := (fun W => (∀ j, W.cell? ⟨g7, j, none⟩ = ([.int .i64 id, .int .i64 at_, .slice sA slots.length sC, .int .i64 full, .slice mA mail.length mC, .int .i64 state, .int .i64 due, .slice lA links.length lC, .slice wA watched.length wC, .bool trap, .int .i64 wk, .int .i64 wn, .int .i64 turns] : List Value)[j]?) ∧ ∀ j, W.cell? ⟨g3, j, none⟩ = ([.slice cA code.length cC, .slice (some ⟨g, 0, none⟩) ps.length rC, .slice qA queue.length qC, .int .i64 now, .int .i64 sent, .int .i64 taken, .int .i64 lost] : List Value)[j]?)) (by kernel_rfl) (fun _ _ _ _ _ h => h) (by (refine ⟨?_, ?_⟩ <;> (exact kc))) (fun HQ hHeld => ?_)
  refine tkY HQ hHeld 0 ?_
  refine stp 1 (fun K hK => ?_); go_simp
  (first | (go_at_call 90; (refine nmKw ?_; clear M; (try clear F); intro w1 M F); refine (HR.out _ M.toBelow).mono ?_; rintro e w2 ⟨rfl, hb⟩; replace M := M.below hb; clear hb; (try clear F); have F := fxw M) | (go_at_call 74; (refine nmKw ?_; clear M; (try clear F); intro w1 M F); refine (HA.out _ M.toBelow).mono ?_; rintro e w2 ⟨rfl, rfl⟩))
  (try go_wp2_with fail); refine hK.out _ _ (by (refine ⟨?_, ?_⟩ <;> (exact kc))) (fun hHeld => ?_); clear hK K; (try simp only [AX])
  refine tkY HQ hHeld 2 ?_; refine tkY HQ hHeld 3 ?_; refine tkY HQ hHeld 4 ?_; refine tkY HQ hHeld 5 ?_; refine tkY HQ hHeld 6 ?_; refine tkY HQ hHeld 7 ?_; refine tkY HQ hHeld 8 ?_; refine tkY HQ hHeld 9 ?_; refine tkY HQ hHeld 10 ?_; refine tkY HQ hHeld 11 ?_; refine tkY HQ hHeld 12 ?_; refine tkY HQ hHeld 13 ?_; refine tkY HQ hHeld 14 ?_; refine tkY HQ hHeld 15 ?_; refine tkY HQ hHeld 16 ?_; refine tkY HQ hHeld 17 ?_; refine tkY HQ hHeld 18 ?_; refine tkN HQ hHeld 19 ?_; refine tkN HQ hHeld 20 ?_; refine tkN HQ hHeld 21 ?_; refine tkN HQ hHeld 22 ?_; refine tkN HQ hHeld 23 ?_; refine tkN HQ hHeld 24 ?_; refine tkN HQ hHeld 25 ?_; refine tkN HQ hHeld 26 ?_; refine tkN HQ hHeld 27 ?_; refine tkY HQ hHeld 28 ?_
  refine wpAnyH_done (by kernel_rfl) ?_ _; clear HQ; (repeat clear hHeld)
  go_wp2
  go_ret
  exact ⟨ret_bool (by simp; intro _ h; have := C3.out; omega), M.toBelow⟩
end Go.Proofs.YtomolbhcggaakaaGreat
/- Whether a run fits its world. It is to go on, and does not go, or goes, and is not to go on. -/
namespace Go.Proofs.YtomolbhcggaakaaGreat
open Go.RowKit
set_option maxRecDepth 100000
attribute [local go_sem ↓] Go.wp_at_zero Go.wp_at_succ

set_option maxHeartbeats 4000000 in
theorem sRun12_d (W : Wm) (FL : List Int) (fA : Option Addr) (fC i : Nat) (hi : i < W.ps.length) (hl6 : W.ps.length ≤ 6) (B : Nat) (w : World) (h : RW w B W) (hF : ReadsI w B fA FL.length FL) (hFl : FL.length = W.code.length) (hFb : Bits FL) (hB : B ≤ w.heap.size) (hb1 : runOk W.ps[i].1 = true) (hb2 : (W.ps[i].1.id == (i : Int) + 1) = true) (hb3 : W.ps[i].1.at_ < W.code.length) (hb4 : (inL W.queue W.ps[i].1.id == (W.ps[i].1.state == 1)) = false) :
    Calls Tryz.prog 48 #[.agg (wArr W), .slice fA FL.length fC, .int .i64 (i : Int)] w fun e w' => e = .returned (.bool (runFits W.wd FL i W.ps[i].1)) ∧ Below w.heap.size w w' := by
  rw [runFits_eq W.wd FL i W.ps[i].1]
  obtain ⟨g, hA, hg, ca⟩ := h.runs i hi
  have RX := Lib.hid (fun V (hv : Below w.heap.size w V) => ca.below (hv.mono hB) hg)
  have hr := h.each i hi
  have HR := Lib.hid (fun V (hv : Below w.heap.size w V) => sRunOk W.ps[i].1 W.ps[i].2 B V (hr.below hv hB) (Nat.le_trans hB hv.size))
  have HA := Lib.hid (fun V (hv : Below w.heap.size w V) => sAmong W.queue W.ps[i].1.id W.qA W.qC B V (h.queue.below' hv hB))
  have HW := Lib.hid (fun (h0 : 0 ≤ W.ps[i].1.at_) (h1 : W.ps[i].1.at_ < W.code.length) V (hv : Below w.heap.size w V) => sWaiting W W.ps[i].1 W.ps[i].2 h0 h1 B V (h.below hv hB) (hr.below hv hB) (Nat.le_trans hB hv.size))
  have HPS := Lib.hid h
  have HFF := Lib.hid hF
  have HFB := Lib.hid hFb
  have HFL := Lib.hid hFl
  clear h ca hF hFb hFl
  have i1 : (0 : Int) ≤ i := by omega
  have i2 : (i : Int) < W.ps.length := by omega
  have wi : IntKind.i64.wrap ((i : Int) + 1) = (i : Int) + 1 := by rw [IntKind.wrap_i64]; omega
  have AL := add_lit0
  have M := Mem.nil w
  have HRR := Lib.hid hr
  clear hr
  generalize hp : W.ps[i] = p at *
  have HP := Lib.hid hp
  clear hp
  obtain ⟨r, ra⟩ := p
  simp only at *
  generalize hx1 : runOk r = x1 at HR ⊢
  have HX1 := Lib.hid hx1
  clear hx1
  have e1 : W.wd.code = W.code := rfl
  have e2 : W.wd.queue = W.queue := rfl
  rw [e1, e2]
  clear e1 e2
  generalize inL W.queue r.id = xa at *
  generalize waitsOk W.wd r = xw at *
  generalize hxr : (r.links.all (aliveIn W.wd.runs) && r.watched.all (aliveIn W.wd.runs) && needOk FL r) = xr
  have HXR := Lib.hid hxr
  clear hxr
  obtain ⟨code, cA, cC, ps, rA, rC, queue, qA, qC, now, sent, taken, lost⟩ := W
  simp only at *
  subst hA
  obtain ⟨id, at_, slots, full, mail, state, due, links, watched, trap, ⟨wk, wn⟩, turns⟩ := r
  obtain ⟨sA, sC, mA, mC, lA, lC, wA, wC⟩ := ra
  simp only [runArr, RunAt] at RX HR HW HA ⊢
  go_enter Tryz.func48, Tryz.ntmps48
  go_upto_region 1 with (first | ((with_reducible refine alAw M ?_; clear M; (try clear F); intro w1 M F); have E1 := RX.out _ M.toBelow) | (((with_reducible apply ev_store (M := M)); rfl; rfl; ((conv => lhs; whnf) <;> rfl); rfl; (first | exact siI | exact siR | exact siV | exact siB | exact siSI | exact siSV | exact siW | exact siSR | exact siSO | exact siO); (exact one_all rfl); (exact dl); (exact Nat.le_of_ble_eq_true rfl); clear M; intro w1 M; simp only [SX] at M; (try clear F); have F := fxw M); have E1 := RX.out _ M.toBelow))
  go_cut [3, 6, 7] from 10 (fun s3 s6 s7 wx => ∃ (g3 g7 : Nat), s3 = .pointer (some ⟨g3, 0, none⟩) ∧ s6 = .bool false ∧ s7 = .pointer (some ⟨g7, 0, none⟩) ∧ Mem w [] wx [blk g7 tR [.int .i64 id, .int .i64 at_, .slice sA slots.length sC, .int .i64 full, .slice mA mail.length mC, .int .i64 state, .int .i64 due, .slice lA links.length lC, .slice wA watched.length wC, .bool trap, .int .i64 wk, .int .i64 wn, .int .i64 turns], blk g3 tW [.slice cA code.length cC, .slice (some ⟨g, 0, none⟩) ps.length rC, .slice qA queue.length qC, .int .i64 now, .int .i64 sent, .int .i64 taken, .int .i64 lost]])
  case first =>
    go_wp2_with (first | ((with_reducible refine alAw M ?_; clear M; (try clear F); intro w1 M F); have E1 := RX.out _ M.toBelow) | (((with_reducible apply ev_store (M := M)); rfl; rfl; ((conv => lhs; whnf) <;> rfl); rfl; (first | exact siI | exact siR | exact siV | exact siB | exact siSI | exact siSV | exact siW | exact siSR | exact siSO | exact siO); (exact one_all rfl); (exact dl); (exact Nat.le_of_ble_eq_true rfl); clear M; intro w1 M; simp only [SX] at M; (try clear F); have F := fxw M); have E1 := RX.out _ M.toBelow))
    go_meet
    case rel => exact ⟨_, _, rfl, rfl, rfl, M.sel sl⟩
  clear M
  obtain ⟨g3, g7, rfl, rfl, rfl, M⟩ := hcut
  (try clear F); have F := fxw M
  simp only at hb3
  rw [HX1.out] at hb1
  subst hb1
  have c2' : (id != (i : Int) + 1) = false := by simp [bne, hb2]
  have C2 := Lib.hid hb2
  have c3' : decide ((code.length : Int) ≤ at_) = false := decide_eq_false (by omega)
  generalize hs1 : (state == 1) = s1 at hb4
  have C4 := Lib.hid hb4
  have HS1 := Lib.hid hs1
  clear hb2 hb3
  go_wp2
  go_region_held3 (fun W => (∀ j, W.cell? ⟨g7, j, none⟩ = ([.int .i64 id, .int .i64 at_, .slice sA slots.length sC, .int .i64 full, .slice mA mail.length mC, .int .i64 state, .int .i64 due, .slice lA links.length lC, .slice wA watched.length wC, .bool trap, .int .i64 wk, .int .i64 wn, .int .i64 turns] : List Value)[j]?) ∧ ∀ j, W.cell? ⟨g3, j, none⟩ = ([.slice cA code.length cC, .slice (some ⟨g, 0, none⟩) ps.length rC, .slice qA queue.length qC, .int .i64 now, .int .i64 sent, .int .i64 taken, .int .i64 lost] : List Value)[j]?) ((refine ⟨?_, ?_⟩ <;> (exact kc))) (first | (go_at_call 90; (refine nmKw ?_; clear M; (try clear F); intro w1 M F); refine (HR.out _ M.toBelow).mono ?_; rintro e w2 ⟨rfl, hb⟩; replace M := M.below hb; clear hb; (try clear F); have F := fxw M) | (go_at_call 74; (refine nmKw ?_; clear M; (try clear F); intro w1 M F); refine (HA.out _ M.toBelow).mono ?_; rintro e w2 ⟨rfl, rfl⟩))
  go_wp2
  go_ret
  exact ⟨ret_bool (by simp only [HS1.out, C4.out, Bool.and_false, Bool.false_and]), M.toBelow⟩
end Go.Proofs.YtomolbhcggaakaaGreat
