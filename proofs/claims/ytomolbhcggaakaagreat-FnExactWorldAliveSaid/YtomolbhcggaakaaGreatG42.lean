/- Parts of the proof, in one text. -/
import Derived.Deep.RegionWith
import Derived.Deep.DrawnRows
import Derived.Test.YtomolbhcggaakaaGreatG41
import Derived.Test.YtomolbhcggaakaaGreatG25
/- Whether a run fits its world. Its number is another one. -/
namespace Go.Proofs.YtomolbhcggaakaaGreat
open Go.RowKit
set_option maxRecDepth 100000
attribute [local go_sem ↓] Go.wp_at_zero Go.wp_at_succ

set_option maxHeartbeats 4000000 in
theorem sRun12_b (W : Wm) (FL : List Int) (fA : Option Addr) (fC i : Nat) (hi : i < W.ps.length) (hl6 : W.ps.length ≤ 6) (B : Nat) (w : World) (h : RW w B W) (hF : ReadsI w B fA FL.length FL) (hFl : FL.length = W.code.length) (hFb : Bits FL) (hB : B ≤ w.heap.size) (hb1 : runOk W.ps[i].1 = true) (hb2 : (W.ps[i].1.id == (i : Int) + 1) = false) :
    Calls Tryz.prog 48 #[.agg (wArr W), .slice fA FL.length fC, .int .i64 (i : Int)] w fun e w' => e = .returned (.bool (runFits W.wd FL i W.ps[i].1)) ∧ Below w.heap.size w w' := by
  rw [runFits_eq W.wd FL i W.ps[i].1]
  obtain ⟨g, hA, hg, ca⟩ := h.runs i hi
  have RX := Lib.hid (fun V (hv : Below w.heap.size w V) => ca.below (hv.mono hB) hg)
  have hr := h.each i hi
  have HR := Lib.hid (fun V (hv : Below w.heap.size w V) => sRunOk W.ps[i].1 W.ps[i].2 B V (hr.below hv hB) (Nat.le_trans hB hv.size))
  have HA := Lib.hid (fun V (hv : Below w.heap.size w V) => sAmong W.queue W.ps[i].1.id W.qA W.qC B V (h.queue.below' hv hB))
  have HW := Lib.hid (fun (h0 : 0 ≤ W.ps[i].1.at_) (h1 : W.ps[i].1.at_ < W.code.length) V (hv : Below w.heap.size w V) => sWaiting W W.ps[i].1 W.ps[i].2 h0 h1 B V (h.below hv hB) (hr.below hv hB) (Nat.le_trans hB hv.size))
  have HPS := Lib.hid h
  have HFF := Lib.hid hF
  have HFB := Lib.hid hFb
  have HFL := Lib.hid hFl
  clear h ca hF hFb hFl
  have i1 : (0 : Int) ≤ i := by omega
  have i2 : (i : Int) < W.ps.length := by omega
  have wi : IntKind.i64.wrap ((i : Int) + 1) = (i : Int) + 1 := by rw [IntKind.wrap_i64]; omega
  have AL := add_lit0
  have M := Mem.nil w
  have HRR := Lib.hid hr
  clear hr
  generalize hp : W.ps[i] = p at *
  have HP := Lib.hid hp
  clear hp
  obtain ⟨r, ra⟩ := p
  simp only at *
  generalize hx1 : runOk r = x1 at HR ⊢
  have HX1 := Lib.hid hx1
  clear hx1
  have e1 : W.wd.code = W.code := rfl
  have e2 : W.wd.queue = W.queue := rfl
  rw [e1, e2]
  clear e1 e2
  generalize inL W.queue r.id = xa at *
  generalize waitsOk W.wd r = xw at *
  generalize hxr : (r.links.all (aliveIn W.wd.runs) && r.watched.all (aliveIn W.wd.runs) && needOk FL r) = xr
  have HXR := Lib.hid hxr
  clear hxr
  obtain ⟨code, cA, cC, ps, rA, rC, queue, qA, qC, now, sent, taken, lost⟩ := W
  simp only at *
  subst hA
  obtain ⟨id, at_, slots, full, mail, state, due, links, watched, trap, ⟨wk, wn⟩, turns⟩ := r
  obtain ⟨sA, sC, mA, mC, lA, lC, wA, wC⟩ := ra
  simp only [runArr, RunAt] at RX HR HW HA ⊢
  go_enter Tryz.func48, Tryz.ntmps48
  go_upto_region 1 with (first | (((with_reducible refine goal_alloc (G := fun W => wpList _ _ _ _ _ W) M ?_); clear M; intro w1 M; (try clear F); have F := M.facts; simp only [And.intro FX FXw] at F); have E1 := RX.out _ M.toBelow) | (((with_reducible apply ev_store (M := M)); rfl; rfl; ((conv => lhs; whnf) <;> rfl); rfl; (first | exact siI | exact siR | exact siV | exact siB | exact siSI | exact siSV | exact siW | exact siSR | exact siSO | exact siO); (exact one_all rfl); (repeat (first | with_reducible exact Del.here | with_reducible apply Del.there)); (exact Nat.le_of_ble_eq_true rfl); clear M; intro w1 M; simp only [SX] at M; (try clear F); have F := M.facts; simp only [And.intro FX FXw] at F); have E1 := RX.out _ M.toBelow))
  go_cut [3, 6, 7] from 10 (fun s3 s6 s7 wx => ∃ (g3 g7 : Nat), s3 = .pointer (some ⟨g3, 0, none⟩) ∧ s6 = .bool false ∧ s7 = .pointer (some ⟨g7, 0, none⟩) ∧ Mem w [] wx [blk g7 tR [.int .i64 id, .int .i64 at_, .slice sA slots.length sC, .int .i64 full, .slice mA mail.length mC, .int .i64 state, .int .i64 due, .slice lA links.length lC, .slice wA watched.length wC, .bool trap, .int .i64 wk, .int .i64 wn, .int .i64 turns], blk g3 tW [.slice cA code.length cC, .slice (some ⟨g, 0, none⟩) ps.length rC, .slice qA queue.length qC, .int .i64 now, .int .i64 sent, .int .i64 taken, .int .i64 lost]])
  case first =>
    go_wp2_with (first | (((with_reducible refine goal_alloc (G := fun W => wpList _ _ _ _ _ W) M ?_); clear M; intro w1 M; (try clear F); have F := M.facts; simp only [And.intro FX FXw] at F); have E1 := RX.out _ M.toBelow) | (((with_reducible apply ev_store (M := M)); rfl; rfl; ((conv => lhs; whnf) <;> rfl); rfl; (first | exact siI | exact siR | exact siV | exact siB | exact siSI | exact siSV | exact siW | exact siSR | exact siSO | exact siO); (exact one_all rfl); (repeat (first | with_reducible exact Del.here | with_reducible apply Del.there)); (exact Nat.le_of_ble_eq_true rfl); clear M; intro w1 M; simp only [SX] at M; (try clear F); have F := M.facts; simp only [And.intro FX FXw] at F); have E1 := RX.out _ M.toBelow))
    go_meet
    case rel => exact ⟨_, _, rfl, rfl, rfl, M.sel (by repeat (first | with_reducible exact Sel.refl | with_reducible exact Sel.nil | (with_reducible refine Sel.cons (by repeat (first | with_reducible exact Del.here | with_reducible apply Del.there)) ?_) | with_reducible apply Sel.drop))⟩
  clear M
  obtain ⟨g3, g7, rfl, rfl, rfl, M⟩ := hcut
  (try clear F); have F := M.facts; simp only [And.intro FX FXw] at F
  rw [HX1.out] at hb1
  subst hb1
  have c2' : (id != (i : Int) + 1) = true := by simp [bne, hb2]
  have C2 := Lib.hid hb2
  clear hb2
  go_wp2
  refine held_begin (S := (fun W => (∀ j, W.cell? ⟨g7, j, none⟩ = ([.int .i64 id, .int .i64 at_, .slice sA slots.length sC, .int .i64 full, .slice mA mail.length mC, .int .i64 state, .int .i64 due, .slice lA links.length lC, .slice wA watched.length wC, .bool trap, .int .i64 wk, .int .i64 wn, .int .i64 turns] : List Value)[j]?) ∧ ∀ j, W.cell? ⟨g3, j, none⟩ = ([.slice cA code.length cC, .slice (some ⟨g, 0, none⟩) ps.length rC, .slice qA queue.length qC, .int .i64 now, .int .i64 sent, .int .i64 taken, .int .i64 lost] : List Value)[j]?)) (by kernel_rfl) (fun _ _ _ _ _ h => h) (by (refine ⟨?_, ?_⟩ <;> (apply Mem.cells; (repeat (first | with_reducible exact M | with_reducible apply Mem.drew | with_reducible apply Mem.drewN | with_reducible apply Mem.allocD | with_reducible apply Mem.setV | with_reducible apply Mem.setD | with_reducible exact Del.here | with_reducible apply Del.there | with_reducible assumption))))) (fun HQ hHeld => ?_)
  (refine take_yes (v := ?_) HQ hHeld 0 rfl rfl (by kernel_rfl) (by kernel_rfl) ?_ ?_; rotate_left; focus (intro W hSw; (try dsimp only at hSw); go_simp; (try with_reducible rfl))); (try simp only [Act.put, List.setIfInBounds_toArray, List.set_cons_zero, List.set_cons_succ])
  refine step_one 1 rfl rfl (by kernel_rfl) (by kernel_rfl) (fun K hK => ?_); go_simp
  (first | (go_at_call 90; (apply goal_name (G := fun W => Calls _ _ _ W _)); (repeat (first | with_reducible exact M | with_reducible apply Mem.drew | with_reducible apply Mem.drewN | with_reducible apply Mem.allocD | with_reducible apply Mem.setV | with_reducible apply Mem.setD | with_reducible exact Del.here | with_reducible apply Del.there | with_reducible assumption)); clear M; intro w1 M; (try simp only [LX] at M); (try clear F); have F := M.facts; simp only [And.intro FX FXw] at F; refine (HR.out _ M.toBelow).mono ?_; rintro e w2 ⟨rfl, hb⟩; replace M := M.below hb; clear hb; (try clear F); have F := M.facts; simp only [And.intro FX FXw] at F) | (go_at_call 74; (apply goal_name (G := fun W => Calls _ _ _ W _)); (repeat (first | with_reducible exact M | with_reducible apply Mem.drew | with_reducible apply Mem.drewN | with_reducible apply Mem.allocD | with_reducible apply Mem.setV | with_reducible apply Mem.setD | with_reducible exact Del.here | with_reducible apply Del.there | with_reducible assumption)); clear M; intro w1 M; (try simp only [LX] at M); (try clear F); have F := M.facts; simp only [And.intro FX FXw] at F; refine (HA.out _ M.toBelow).mono ?_; rintro e w2 ⟨rfl, rfl⟩))
  (try go_wp2_with fail); refine hK.out _ _ (by (refine ⟨?_, ?_⟩ <;> (apply Mem.cells; (repeat (first | with_reducible exact M | with_reducible apply Mem.drew | with_reducible apply Mem.drewN | with_reducible apply Mem.allocD | with_reducible apply Mem.setV | with_reducible apply Mem.setD | with_reducible exact Del.here | with_reducible apply Del.there | with_reducible assumption))))) (fun hHeld => ?_); clear hK K; (try simp only [Act.put, List.setIfInBounds_toArray, List.set_cons_zero, List.set_cons_succ])
  (refine take_yes (v := ?_) HQ hHeld 2 rfl rfl (by kernel_rfl) (by kernel_rfl) ?_ ?_; rotate_left; focus (intro W hSw; (try dsimp only at hSw); go_simp; (try with_reducible rfl))); (try simp only [Act.put, List.setIfInBounds_toArray, List.set_cons_zero, List.set_cons_succ]); (refine take_yes (v := ?_) HQ hHeld 3 rfl rfl (by kernel_rfl) (by kernel_rfl) ?_ ?_; rotate_left; focus (intro W hSw; (try dsimp only at hSw); go_simp; (try with_reducible rfl))); (try simp only [Act.put, List.setIfInBounds_toArray, List.set_cons_zero, List.set_cons_succ]); (refine take_yes (v := ?_) HQ hHeld 4 rfl rfl (by kernel_rfl) (by kernel_rfl) ?_ ?_; rotate_left; focus (intro W hSw; (try dsimp only at hSw); go_simp; (try with_reducible rfl))); (try simp only [Act.put, List.setIfInBounds_toArray, List.set_cons_zero, List.set_cons_succ]); (refine take_yes (v := ?_) HQ hHeld 5 rfl rfl (by kernel_rfl) (by kernel_rfl) ?_ ?_; rotate_left; focus (intro W hSw; (try dsimp only at hSw); go_simp; (try with_reducible rfl))); (try simp only [Act.put, List.setIfInBounds_toArray, List.set_cons_zero, List.set_cons_succ]); (refine take_yes (v := ?_) HQ hHeld 6 rfl rfl (by kernel_rfl) (by kernel_rfl) ?_ ?_; rotate_left; focus (intro W hSw; (try dsimp only at hSw); go_simp; (try with_reducible rfl))); (try simp only [Act.put, List.setIfInBounds_toArray, List.set_cons_zero, List.set_cons_succ]); (refine take_yes (v := ?_) HQ hHeld 7 rfl rfl (by kernel_rfl) (by kernel_rfl) ?_ ?_; rotate_left; focus (intro W hSw; (try dsimp only at hSw); go_simp; (try with_reducible rfl))); (try simp only [Act.put, List.setIfInBounds_toArray, List.set_cons_zero, List.set_cons_succ]); (refine take_yes (v := ?_) HQ hHeld 8 rfl rfl (by kernel_rfl) (by kernel_rfl) ?_ ?_; rotate_left; focus (intro W hSw; (try dsimp only at hSw); go_simp; (try with_reducible rfl))); (try simp only [Act.put, List.setIfInBounds_toArray, List.set_cons_zero, List.set_cons_succ]); (refine take_yes (v := ?_) HQ hHeld 9 rfl rfl (by kernel_rfl) (by kernel_rfl) ?_ ?_; rotate_left; focus (intro W hSw; (try dsimp only at hSw); go_simp; (try with_reducible rfl))); (try simp only [Act.put, List.setIfInBounds_toArray, List.set_cons_zero, List.set_cons_succ]); (refine take_yes (v := ?_) HQ hHeld 10 rfl rfl (by kernel_rfl) (by kernel_rfl) ?_ ?_; rotate_left; focus (intro W hSw; (try dsimp only at hSw); go_simp; (try with_reducible rfl))); (try simp only [Act.put, List.setIfInBounds_toArray, List.set_cons_zero, List.set_cons_succ]); refine take_no HQ hHeld 11 rfl rfl (by kernel_rfl) (by kernel_rfl) ?_; (try simp only [Act.put, List.setIfInBounds_toArray, List.set_cons_zero, List.set_cons_succ]); refine take_no HQ hHeld 12 rfl rfl (by kernel_rfl) (by kernel_rfl) ?_; (try simp only [Act.put, List.setIfInBounds_toArray, List.set_cons_zero, List.set_cons_succ]); refine take_no HQ hHeld 13 rfl rfl (by kernel_rfl) (by kernel_rfl) ?_; (try simp only [Act.put, List.setIfInBounds_toArray, List.set_cons_zero, List.set_cons_succ]); refine take_no HQ hHeld 14 rfl rfl (by kernel_rfl) (by kernel_rfl) ?_; (try simp only [Act.put, List.setIfInBounds_toArray, List.set_cons_zero, List.set_cons_succ]); refine take_no HQ hHeld 15 rfl rfl (by kernel_rfl) (by kernel_rfl) ?_; (try simp only [Act.put, List.setIfInBounds_toArray, List.set_cons_zero, List.set_cons_succ]); refine take_no HQ hHeld 16 rfl rfl (by kernel_rfl) (by kernel_rfl) ?_; (try simp only [Act.put, List.setIfInBounds_toArray, List.set_cons_zero, List.set_cons_succ]); (refine take_yes (v := ?_) HQ hHeld 17 rfl rfl (by kernel_rfl) (by kernel_rfl) ?_ ?_; rotate_left; focus (intro W hSw; (try dsimp only at hSw); go_simp; (try with_reducible rfl))); (try simp only [Act.put, List.setIfInBounds_toArray, List.set_cons_zero, List.set_cons_succ]); (refine take_yes (v := ?_) HQ hHeld 18 rfl rfl (by kernel_rfl) (by kernel_rfl) ?_ ?_; rotate_left; focus (intro W hSw; (try dsimp only at hSw); go_simp; (try with_reducible rfl))); (try simp only [Act.put, List.setIfInBounds_toArray, List.set_cons_zero, List.set_cons_succ]); refine take_no HQ hHeld 19 rfl rfl (by kernel_rfl) (by kernel_rfl) ?_; (try simp only [Act.put, List.setIfInBounds_toArray, List.set_cons_zero, List.set_cons_succ]); refine take_no HQ hHeld 20 rfl rfl (by kernel_rfl) (by kernel_rfl) ?_; (try simp only [Act.put, List.setIfInBounds_toArray, List.set_cons_zero, List.set_cons_succ]); refine take_no HQ hHeld 21 rfl rfl (by kernel_rfl) (by kernel_rfl) ?_; (try simp only [Act.put, List.setIfInBounds_toArray, List.set_cons_zero, List.set_cons_succ]); refine take_no HQ hHeld 22 rfl rfl (by kernel_rfl) (by kernel_rfl) ?_; (try simp only [Act.put, List.setIfInBounds_toArray, List.set_cons_zero, List.set_cons_succ]); refine take_no HQ hHeld 23 rfl rfl (by kernel_rfl) (by kernel_rfl) ?_; (try simp only [Act.put, List.setIfInBounds_toArray, List.set_cons_zero, List.set_cons_succ]); refine take_no HQ hHeld 24 rfl rfl (by kernel_rfl) (by kernel_rfl) ?_; (try simp only [Act.put, List.setIfInBounds_toArray, List.set_cons_zero, List.set_cons_succ]); refine take_no HQ hHeld 25 rfl rfl (by kernel_rfl) (by kernel_rfl) ?_; (try simp only [Act.put, List.setIfInBounds_toArray, List.set_cons_zero, List.set_cons_succ]); refine take_no HQ hHeld 26 rfl rfl (by kernel_rfl) (by kernel_rfl) ?_; (try simp only [Act.put, List.setIfInBounds_toArray, List.set_cons_zero, List.set_cons_succ]); refine take_no HQ hHeld 27 rfl rfl (by kernel_rfl) (by kernel_rfl) ?_; (try simp only [Act.put, List.setIfInBounds_toArray, List.set_cons_zero, List.set_cons_succ]); (refine take_yes (v := ?_) HQ hHeld 28 rfl rfl (by kernel_rfl) (by kernel_rfl) ?_ ?_; rotate_left; focus (intro W hSw; (try dsimp only at hSw); go_simp; (try with_reducible rfl))); (try simp only [Act.put, List.setIfInBounds_toArray, List.set_cons_zero, List.set_cons_succ])
  refine wpAnyH_done (by kernel_rfl) ?_ _; clear HQ; (repeat clear hHeld)
  go_wp2
  go_ret
  exact ⟨ret_bool (by simp only [C2.out, Bool.and_false, Bool.false_and]), M.toBelow⟩
end Go.Proofs.YtomolbhcggaakaaGreat
/- Whether a run fits its world. Its place is none. -/
namespace Go.Proofs.YtomolbhcggaakaaGreat
open Go.RowKit
set_option maxRecDepth 100000
attribute [local go_sem ↓] Go.wp_at_zero Go.wp_at_succ

set_option maxHeartbeats 4000000 in
theorem sRun12_c (W : Wm) (FL : List Int) (fA : Option Addr) (fC i : Nat) (hi : i < W.ps.length) (hl6 : W.ps.length ≤ 6) (B : Nat) (w : World) (h : RW w B W) (hF : ReadsI w B fA FL.length FL) (hFl : FL.length = W.code.length) (hFb : Bits FL) (hB : B ≤ w.heap.size) (hb1 : runOk W.ps[i].1 = true) (hb2 : (W.ps[i].1.id == (i : Int) + 1) = true) (hb3 : ¬ W.ps[i].1.at_ < W.code.length) :
    Calls Tryz.prog 48 #[.agg (wArr W), .slice fA FL.length fC, .int .i64 (i : Int)] w fun e w' => e = .returned (.bool (runFits W.wd FL i W.ps[i].1)) ∧ Below w.heap.size w w' := by
  rw [runFits_eq W.wd FL i W.ps[i].1]
  obtain ⟨g, hA, hg, ca⟩ := h.runs i hi
  have RX := Lib.hid (fun V (hv : Below w.heap.size w V) => ca.below (hv.mono hB) hg)
  have hr := h.each i hi
  have HR := Lib.hid (fun V (hv : Below w.heap.size w V) => sRunOk W.ps[i].1 W.ps[i].2 B V (hr.below hv hB) (Nat.le_trans hB hv.size))
  have HA := Lib.hid (fun V (hv : Below w.heap.size w V) => sAmong W.queue W.ps[i].1.id W.qA W.qC B V (h.queue.below' hv hB))
  have HW := Lib.hid (fun (h0 : 0 ≤ W.ps[i].1.at_) (h1 : W.ps[i].1.at_ < W.code.length) V (hv : Below w.heap.size w V) => sWaiting W W.ps[i].1 W.ps[i].2 h0 h1 B V (h.below hv hB) (hr.below hv hB) (Nat.le_trans hB hv.size))
  have HPS := Lib.hid h
  have HFF := Lib.hid hF
  have HFB := Lib.hid hFb
  have HFL := Lib.hid hFl
  clear h ca hF hFb hFl
  have i1 : (0 : Int) ≤ i := by omega
  have i2 : (i : Int) < W.ps.length := by omega
  have wi : IntKind.i64.wrap ((i : Int) + 1) = (i : Int) + 1 := by rw [IntKind.wrap_i64]; omega
  have AL := add_lit0
  have M := Mem.nil w
  have HRR := Lib.hid hr
  clear hr
  generalize hp : W.ps[i] = p at *
  have HP := Lib.hid hp
  clear hp
  obtain ⟨r, ra⟩ := p
  simp only at *
  generalize hx1 : runOk r = x1 at HR ⊢
  have HX1 := Lib.hid hx1
  clear hx1
  have e1 : W.wd.code = W.code := rfl
  have e2 : W.wd.queue = W.queue := rfl
  rw [e1, e2]
  clear e1 e2
  generalize inL W.queue r.id = xa at *
  generalize waitsOk W.wd r = xw at *
  generalize hxr : (r.links.all (aliveIn W.wd.runs) && r.watched.all (aliveIn W.wd.runs) && needOk FL r) = xr
  have HXR := Lib.hid hxr
  clear hxr
  obtain ⟨code, cA, cC, ps, rA, rC, queue, qA, qC, now, sent, taken, lost⟩ := W
  simp only at *
  subst hA
  obtain ⟨id, at_, slots, full, mail, state, due, links, watched, trap, ⟨wk, wn⟩, turns⟩ := r
  obtain ⟨sA, sC, mA, mC, lA, lC, wA, wC⟩ := ra
  simp only [runArr, RunAt] at RX HR HW HA ⊢
  go_enter Tryz.func48, Tryz.ntmps48
  go_upto_region 1 with (first | (((with_reducible refine goal_alloc (G := fun W => wpList _ _ _ _ _ W) M ?_); clear M; intro w1 M; (try clear F); have F := M.facts; simp only [And.intro FX FXw] at F); have E1 := RX.out _ M.toBelow) | (((with_reducible apply ev_store (M := M)); rfl; rfl; ((conv => lhs; whnf) <;> rfl); rfl; (first | exact siI | exact siR | exact siV | exact siB | exact siSI | exact siSV | exact siW | exact siSR | exact siSO | exact siO); (exact one_all rfl); (repeat (first | with_reducible exact Del.here | with_reducible apply Del.there)); (exact Nat.le_of_ble_eq_true rfl); clear M; intro w1 M; simp only [SX] at M; (try clear F); have F := M.facts; simp only [And.intro FX FXw] at F); have E1 := RX.out _ M.toBelow))
  go_cut [3, 6, 7] from 10 (fun s3 s6 s7 wx => ∃ (g3 g7 : Nat), s3 = .pointer (some ⟨g3, 0, none⟩) ∧ s6 = .bool false ∧ s7 = .pointer (some ⟨g7, 0, none⟩) ∧ Mem w [] wx [blk g7 tR [.int .i64 id, .int .i64 at_, .slice sA slots.length sC, .int .i64 full, .slice mA mail.length mC, .int .i64 state, .int .i64 due, .slice lA links.length lC, .slice wA watched.length wC, .bool trap, .int .i64 wk, .int .i64 wn, .int .i64 turns], blk g3 tW [.slice cA code.length cC, .slice (some ⟨g, 0, none⟩) ps.length rC, .slice qA queue.length qC, .int .i64 now, .int .i64 sent, .int .i64 taken, .int .i64 lost]])
  case first =>
    go_wp2_with (first | (((with_reducible refine goal_alloc (G := fun W => wpList _ _ _ _ _ W) M ?_); clear M; intro w1 M; (try clear F); have F := M.facts; simp only [And.intro FX FXw] at F); have E1 := RX.out _ M.toBelow) | (((with_reducible apply ev_store (M := M)); rfl; rfl; ((conv => lhs; whnf) <;> rfl); rfl; (first | exact siI | exact siR | exact siV | exact siB | exact siSI | exact siSV | exact siW | exact siSR | exact siSO | exact siO); (exact one_all rfl); (repeat (first | with_reducible exact Del.here | with_reducible apply Del.there)); (exact Nat.le_of_ble_eq_true rfl); clear M; intro w1 M; simp only [SX] at M; (try clear F); have F := M.facts; simp only [And.intro FX FXw] at F); have E1 := RX.out _ M.toBelow))
    go_meet
    case rel => exact ⟨_, _, rfl, rfl, rfl, M.sel (by repeat (first | with_reducible exact Sel.refl | with_reducible exact Sel.nil | (with_reducible refine Sel.cons (by repeat (first | with_reducible exact Del.here | with_reducible apply Del.there)) ?_) | with_reducible apply Sel.drop))⟩
  clear M
  obtain ⟨g3, g7, rfl, rfl, rfl, M⟩ := hcut
  (try clear F); have F := M.facts; simp only [And.intro FX FXw] at F
  simp only at hb3
  rw [HX1.out] at hb1
  subst hb1
  have c2' : (id != (i : Int) + 1) = false := by simp [bne, hb2]
  have C2 := Lib.hid hb2
  have C3 := Lib.hid hb3
  have c3' : decide ((code.length : Int) ≤ at_) = true := decide_eq_true (by omega)
  clear hb2 hb3
  go_wp2
  refine held_begin (S := (fun W => (∀ j, W.cell? ⟨g7, j, none⟩ = ([.int .i64 id, .int .i64 at_, .slice sA slots.length sC, .int .i64 full, .slice mA mail.length mC, .int .i64 state, .int .i64 due, .slice lA links.length lC, .slice wA watched.length wC, .bool trap, .int .i64 wk, .int .i64 wn, .int .i64 turns] : List Value)[j]?) ∧ ∀ j, W.cell? ⟨g3, j, none⟩ = ([.slice cA code.length cC, .slice (some ⟨g, 0, none⟩) ps.length rC, .slice qA queue.length qC, .int .i64 now, .int .i64 sent, .int .i64 taken, .int .i64 lost] : List Value)[j]?)) (by kernel_rfl) (fun _ _ _ _ _ h => h) (by (refine ⟨?_, ?_⟩ <;> (apply Mem.cells; (repeat (first | with_reducible exact M | with_reducible apply Mem.drew | with_reducible apply Mem.drewN | with_reducible apply Mem.allocD | with_reducible apply Mem.setV | with_reducible apply Mem.setD | with_reducible exact Del.here | with_reducible apply Del.there | with_reducible assumption))))) (fun HQ hHeld => ?_)
  (refine take_yes (v := ?_) HQ hHeld 0 rfl rfl (by kernel_rfl) (by kernel_rfl) ?_ ?_; rotate_left; focus (intro W hSw; (try dsimp only at hSw); go_simp; (try with_reducible rfl))); (try simp only [Act.put, List.setIfInBounds_toArray, List.set_cons_zero, List.set_cons_succ])
  refine step_one 1 rfl rfl (by kernel_rfl) (by kernel_rfl) (fun K hK => ?_); go_simp
  (first | (go_at_call 90; (apply goal_name (G := fun W => Calls _ _ _ W _)); (repeat (first | with_reducible exact M | with_reducible apply Mem.drew | with_reducible apply Mem.drewN | with_reducible apply Mem.allocD | with_reducible apply Mem.setV | with_reducible apply Mem.setD | with_reducible exact Del.here | with_reducible apply Del.there | with_reducible assumption)); clear M; intro w1 M; (try simp only [LX] at M); (try clear F); have F := M.facts; simp only [And.intro FX FXw] at F; refine (HR.out _ M.toBelow).mono ?_; rintro e w2 ⟨rfl, hb⟩; replace M := M.below hb; clear hb; (try clear F); have F := M.facts; simp only [And.intro FX FXw] at F) | (go_at_call 74; (apply goal_name (G := fun W => Calls _ _ _ W _)); (repeat (first | with_reducible exact M | with_reducible apply Mem.drew | with_reducible apply Mem.drewN | with_reducible apply Mem.allocD | with_reducible apply Mem.setV | with_reducible apply Mem.setD | with_reducible exact Del.here | with_reducible apply Del.there | with_reducible assumption)); clear M; intro w1 M; (try simp only [LX] at M); (try clear F); have F := M.facts; simp only [And.intro FX FXw] at F; refine (HA.out _ M.toBelow).mono ?_; rintro e w2 ⟨rfl, rfl⟩))
  (try go_wp2_with fail); refine hK.out _ _ (by (refine ⟨?_, ?_⟩ <;> (apply Mem.cells; (repeat (first | with_reducible exact M | with_reducible apply Mem.drew | with_reducible apply Mem.drewN | with_reducible apply Mem.allocD | with_reducible apply Mem.setV | with_reducible apply Mem.setD | with_reducible exact Del.here | with_reducible apply Del.there | with_reducible assumption))))) (fun hHeld => ?_); clear hK K; (try simp only [Act.put, List.setIfInBounds_toArray, List.set_cons_zero, List.set_cons_succ])
  (refine take_yes (v := ?_) HQ hHeld 2 rfl rfl (by kernel_rfl) (by kernel_rfl) ?_ ?_; rotate_left; focus (intro W hSw; (try dsimp only at hSw); go_simp; (try with_reducible rfl))); (try simp only [Act.put, List.setIfInBounds_toArray, List.set_cons_zero, List.set_cons_succ]); (refine take_yes (v := ?_) HQ hHeld 3 rfl rfl (by kernel_rfl) (by kernel_rfl) ?_ ?_; rotate_left; focus (intro W hSw; (try dsimp only at hSw); go_simp; (try with_reducible rfl))); (try simp only [Act.put, List.setIfInBounds_toArray, List.set_cons_zero, List.set_cons_succ]); (refine take_yes (v := ?_) HQ hHeld 4 rfl rfl (by kernel_rfl) (by kernel_rfl) ?_ ?_; rotate_left; focus (intro W hSw; (try dsimp only at hSw); go_simp; (try with_reducible rfl))); (try simp only [Act.put, List.setIfInBounds_toArray, List.set_cons_zero, List.set_cons_succ]); (refine take_yes (v := ?_) HQ hHeld 5 rfl rfl (by kernel_rfl) (by kernel_rfl) ?_ ?_; rotate_left; focus (intro W hSw; (try dsimp only at hSw); go_simp; (try with_reducible rfl))); (try simp only [Act.put, List.setIfInBounds_toArray, List.set_cons_zero, List.set_cons_succ]); (refine take_yes (v := ?_) HQ hHeld 6 rfl rfl (by kernel_rfl) (by kernel_rfl) ?_ ?_; rotate_left; focus (intro W hSw; (try dsimp only at hSw); go_simp; (try with_reducible rfl))); (try simp only [Act.put, List.setIfInBounds_toArray, List.set_cons_zero, List.set_cons_succ]); (refine take_yes (v := ?_) HQ hHeld 7 rfl rfl (by kernel_rfl) (by kernel_rfl) ?_ ?_; rotate_left; focus (intro W hSw; (try dsimp only at hSw); go_simp; (try with_reducible rfl))); (try simp only [Act.put, List.setIfInBounds_toArray, List.set_cons_zero, List.set_cons_succ]); (refine take_yes (v := ?_) HQ hHeld 8 rfl rfl (by kernel_rfl) (by kernel_rfl) ?_ ?_; rotate_left; focus (intro W hSw; (try dsimp only at hSw); go_simp; (try with_reducible rfl))); (try simp only [Act.put, List.setIfInBounds_toArray, List.set_cons_zero, List.set_cons_succ]); (refine take_yes (v := ?_) HQ hHeld 9 rfl rfl (by kernel_rfl) (by kernel_rfl) ?_ ?_; rotate_left; focus (intro W hSw; (try dsimp only at hSw); go_simp; (try with_reducible rfl))); (try simp only [Act.put, List.setIfInBounds_toArray, List.set_cons_zero, List.set_cons_succ]); (refine take_yes (v := ?_) HQ hHeld 10 rfl rfl (by kernel_rfl) (by kernel_rfl) ?_ ?_; rotate_left; focus (intro W hSw; (try dsimp only at hSw); go_simp; (try with_reducible rfl))); (try simp only [Act.put, List.setIfInBounds_toArray, List.set_cons_zero, List.set_cons_succ]); (refine take_yes (v := ?_) HQ hHeld 11 rfl rfl (by kernel_rfl) (by kernel_rfl) ?_ ?_; rotate_left; focus (intro W hSw; (try dsimp only at hSw); go_simp; (try with_reducible rfl))); (try simp only [Act.put, List.setIfInBounds_toArray, List.set_cons_zero, List.set_cons_succ]); (refine take_yes (v := ?_) HQ hHeld 12 rfl rfl (by kernel_rfl) (by kernel_rfl) ?_ ?_; rotate_left; focus (intro W hSw; (try dsimp only at hSw); go_simp; (try with_reducible rfl))); (try simp only [Act.put, List.setIfInBounds_toArray, List.set_cons_zero, List.set_cons_succ]); (refine take_yes (v := ?_) HQ hHeld 13 rfl rfl (by kernel_rfl) (by kernel_rfl) ?_ ?_; rotate_left; focus (intro W hSw; (try dsimp only at hSw); go_simp; (try with_reducible rfl))); (try simp only [Act.put, List.setIfInBounds_toArray, List.set_cons_zero, List.set_cons_succ]); (refine take_yes (v := ?_) HQ hHeld 14 rfl rfl (by kernel_rfl) (by kernel_rfl) ?_ ?_; rotate_left; focus (intro W hSw; (try dsimp only at hSw); go_simp; (try with_reducible rfl))); (try simp only [Act.put, List.setIfInBounds_toArray, List.set_cons_zero, List.set_cons_succ]); (refine take_yes (v := ?_) HQ hHeld 15 rfl rfl (by kernel_rfl) (by kernel_rfl) ?_ ?_; rotate_left; focus (intro W hSw; (try dsimp only at hSw); go_simp; (try with_reducible rfl))); (try simp only [Act.put, List.setIfInBounds_toArray, List.set_cons_zero, List.set_cons_succ]); (refine take_yes (v := ?_) HQ hHeld 16 rfl rfl (by kernel_rfl) (by kernel_rfl) ?_ ?_; rotate_left; focus (intro W hSw; (try dsimp only at hSw); go_simp; (try with_reducible rfl))); (try simp only [Act.put, List.setIfInBounds_toArray, List.set_cons_zero, List.set_cons_succ]); (refine take_yes (v := ?_) HQ hHeld 17 rfl rfl (by kernel_rfl) (by kernel_rfl) ?_ ?_; rotate_left; focus (intro W hSw; (try dsimp only at hSw); go_simp; (try with_reducible rfl))); (try simp only [Act.put, List.setIfInBounds_toArray, List.set_cons_zero, List.set_cons_succ]); (refine take_yes (v := ?_) HQ hHeld 18 rfl rfl (by kernel_rfl) (by kernel_rfl) ?_ ?_; rotate_left; focus (intro W hSw; (try dsimp only at hSw); go_simp; (try with_reducible rfl))); (try simp only [Act.put, List.setIfInBounds_toArray, List.set_cons_zero, List.set_cons_succ]); refine take_no HQ hHeld 19 rfl rfl (by kernel_rfl) (by kernel_rfl) ?_; (try simp only [Act.put, List.setIfInBounds_toArray, List.set_cons_zero, List.set_cons_succ]); refine take_no HQ hHeld 20 rfl rfl (by kernel_rfl) (by kernel_rfl) ?_; (try simp only [Act.put, List.setIfInBounds_toArray, List.set_cons_zero, List.set_cons_succ]); refine take_no HQ hHeld 21 rfl rfl (by kernel_rfl) (by kernel_rfl) ?_; (try simp only [Act.put, List.setIfInBounds_toArray, List.set_cons_zero, List.set_cons_succ]); refine take_no HQ hHeld 22 rfl rfl (by kernel_rfl) (by kernel_rfl) ?_; (try simp only [Act.put, List.setIfInBounds_toArray, List.set_cons_zero, List.set_cons_succ]); refine take_no HQ hHeld 23 rfl rfl (by kernel_rfl) (by kernel_rfl) ?_; (try simp only [Act.put, List.setIfInBounds_toArray, List.set_cons_zero, List.set_cons_succ]); refine take_no HQ hHeld 24 rfl rfl (by kernel_rfl) (by kernel_rfl) ?_; (try simp only [Act.put, List.setIfInBounds_toArray, List.set_cons_zero, List.set_cons_succ]); refine take_no HQ hHeld 25 rfl rfl (by kernel_rfl) (by kernel_rfl) ?_; (try simp only [Act.put, List.setIfInBounds_toArray, List.set_cons_zero, List.set_cons_succ]); refine take_no HQ hHeld 26 rfl rfl (by kernel_rfl) (by kernel_rfl) ?_; (try simp only [Act.put, List.setIfInBounds_toArray, List.set_cons_zero, List.set_cons_succ]); refine take_no HQ hHeld 27 rfl rfl (by kernel_rfl) (by kernel_rfl) ?_; (try simp only [Act.put, List.setIfInBounds_toArray, List.set_cons_zero, List.set_cons_succ]); (refine take_yes (v := ?_) HQ hHeld 28 rfl rfl (by kernel_rfl) (by kernel_rfl) ?_ ?_; rotate_left; focus (intro W hSw; (try dsimp only at hSw); go_simp; (try with_reducible rfl))); (try simp only [Act.put, List.setIfInBounds_toArray, List.set_cons_zero, List.set_cons_succ])
  refine wpAnyH_done (by kernel_rfl) ?_ _; clear HQ; (repeat clear hHeld)
  go_wp2
  go_ret
  exact ⟨ret_bool (by simp; intro _ h; have := C3.out; omega), M.toBelow⟩
end Go.Proofs.YtomolbhcggaakaaGreat
