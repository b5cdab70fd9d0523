/- Parts of the proof, in one text. -/
import Derived.RegionTactic
import Derived.Deep.Cut
import Derived.Test.YtmidnaafljgbiaaN03
import Derived.Test.YtmidnaafljgbiaaN11
import Derived.Test.YtmidnaafljgbiaaN19
import Derived.Test.YtmidnaafljgbiaaN22
import Derived.Test.YtmidnaafljgbiaaN31
import Derived.Test.YtmidnaafljgbiaaN35
import Derived.Test.YtmidnaafljgbiaaN36
/- Where a run's mail lies, and its cells. -/
namespace Go.Proofs.Ytmidnaafljgbiaa
open Go.RowKit
/-- A block gets a name. -/
theorem blkName {w0 w : World} {f : List Nat} {L L' : List Asn} {g : Nat} {t : TypeId} {cs : List Value} (_M : Mem w0 f w L) (_hd : Del (blk g t cs) L L') : ∃ g', g = g' := ⟨g, rfl⟩
end Go.Proofs.Ytmidnaafljgbiaa
/- A region that draws its order, all orders: loads, appends and stores one behind the other; nothing of the program. -/
namespace Go.Proofs.Ytmidnaafljgbiaa
open Go

theorem op_of_list {P : Program} {Q : Exit → Act → World → Prop} {K : Act → World → Prop} {a : Act} {w : World} {o : Oper} (hg : o.guard = none)
    (h : wpList P #[] (fun e a w => match e with | .normal => K a w | _ => False) [o] a w) : o.wp P a w K Q := by
  unfold wpList at h
  have hw : Region.wanted o (yielded #[] a.tmps) = true := by simp [Region.wanted, hg]
  rw [if_pos hw] at h
  rcases h with h | ⟨_, _, _, h⟩
  · unfold Oper.wp at *
    generalize (execOp a.eval o).run P w = r at *
    cases r with
    | ok n w' =>
      cases n <;> simp only [Oper.upon] at h ⊢ <;> first
        | exact h
        | (refine Calls.mono h (fun e w'' he => ?_)
           cases e with
           | returned v => exact he
           | panicked c => exact he.elim
           | outgrown => obtain ⟨_, _, he⟩ := he; exact he.elim)
        | exact Rows.mono h (fun _ _ he => he)
    | halt x w' => cases x <;> simp only [Oper.upon] at h ⊢
  · exact h.elim
section
variable {P : Program} {ops : Array Oper} {Q : Exit → Act → World → Prop} {md : Region.Mode}
variable {fuel : Nat} {listed : Array Bool} {a a' : Act} {w : World}
end
end Go.Proofs.Ytmidnaafljgbiaa
/- A new world, by the program. -/
namespace Go.Proofs.Ytmidnaafljgbiaa
open Go.RowKit
set_option maxRecDepth 100000

section
variable {P : Program} {ops : Array Oper} {Q : Exit → Act → World → Prop} {md : Region.Mode} {S : World → Prop} {fuel : Nat} {listed : Array Bool} {a : Act} {w : World}
/-- One of three that may come up comes up. -/
theorem stpThree {oi oj ol : Oper} {op op2 op3 : Op} {d d2 d3 : Option Tmp} {ty ty2 ty3 : TypeId} {pos pos2 pos3 : String} {af af2 af3 : Array Edge} {gd gd2 gd3 : Option (Nat × Bool)} (i j l : Nat)
    (h : ∀ K' : Act → World → Prop, Shut (∀ a w, S w → (S w → wpAnyH P md ops Q S fuel (listed.setIfInBounds i true) a w) → K' a w) → Oper.wp P ⟨d, op, ty, pos, af, gd⟩ a w K' Q)
    (h2 : ∀ K' : Act → World → Prop, Shut (∀ a w, S w → (S w → wpAnyH P md ops Q S fuel (listed.setIfInBounds j true) a w) → K' a w) → Oper.wp P ⟨d2, op2, ty2, pos2, af2, gd2⟩ a w K' Q)
    (h3 : ∀ K' : Act → World → Prop, Shut (∀ a w, S w → (S w → wpAnyH P md ops Q S fuel (listed.setIfInBounds l true) a w) → K' a w) → Oper.wp P ⟨d3, op3, ty3, pos3, af3, gd3⟩ a w K' Q)
    (hi : ops[i]? = some oi := by exact rfl) (he : oi = ⟨d, op, ty, pos, af, gd⟩ := by exact rfl) (hj : ops[j]? = some oj := by exact rfl) (he2 : oj = ⟨d2, op2, ty2, pos2, af2, gd2⟩ := by exact rfl) (hl : ops[l]? = some ol := by exact rfl) (he3 : ol = ⟨d3, op3, ty3, pos3, af3, gd3⟩ := by exact rfl) (hr : Region.ready md ops listed = [i, j, l] := by kernel_rfl) (hw : Region.wanted oi (yielded ops a.tmps) = true := by kernel_rfl) (hw2 : Region.wanted oj (yielded ops a.tmps) = true := by kernel_rfl) (hw3 : Region.wanted ol (yielded ops a.tmps) = true := by kernel_rfl) : wpAnyH P md ops Q S (fuel + 1) listed a w := by
  subst he he2 he3
  exact wpAnyH_ready hr (by simp) (AllReadyH.cons hi (fun K hK => by rw [if_pos hw]; exact h K hK) (AllReadyH.cons hj (fun K hK => by rw [if_pos hw2]; exact h2 K hK) (AllReadyH.cons hl (fun K hK => by rw [if_pos hw3]; exact h3 K hK) AllReadyH.nil)))
theorem stpDuo {oi oj : Oper} {op op2 : Op} {d d2 : Option Tmp} {ty ty2 : TypeId} {pos pos2 : String} {af af2 : Array Edge} {gd gd2 : Option (Nat × Bool)} (i j : Nat)
    (h : ∀ K' : Act → World → Prop, Shut (∀ a w, S w → (S w → wpAnyH P md ops Q S fuel (listed.setIfInBounds i true) a w) → K' a w) → Oper.wp P ⟨d, op, ty, pos, af, gd⟩ a w K' Q)
    (h2 : ∀ K' : Act → World → Prop, Shut (∀ a w, S w → (S w → wpAnyH P md ops Q S fuel (listed.setIfInBounds j true) a w) → K' a w) → Oper.wp P ⟨d2, op2, ty2, pos2, af2, gd2⟩ a w K' Q)
    (hi : ops[i]? = some oi := by exact rfl) (he : oi = ⟨d, op, ty, pos, af, gd⟩ := by exact rfl) (hj : ops[j]? = some oj := by exact rfl) (he2 : oj = ⟨d2, op2, ty2, pos2, af2, gd2⟩ := by exact rfl) (hr : Region.ready md ops listed = [i, j] := by kernel_rfl) (hw : Region.wanted oi (yielded ops a.tmps) = true := by kernel_rfl) (hw2 : Region.wanted oj (yielded ops a.tmps) = true := by kernel_rfl) : wpAnyH P md ops Q S (fuel + 1) listed a w := by
  subst he he2
  exact wpAnyH_ready hr (by simp) (AllReadyH.cons hi (fun K hK => by rw [if_pos hw]; exact h K hK) (AllReadyH.cons hj (fun K hK => by rw [if_pos hw2]; exact h2 K hK) AllReadyH.nil))
end
set_option maxHeartbeats 4000000 in
theorem iWorldNew (C : List Opx) (cA : Option Addr) (cC : Nat) {w0 w : World} {f : List Nat} {L : List Asn} (M : Mem w0 f w (rowO cA cC C :: L)) (hl : C.length ≤ 1048576) :
    Calls Try.prog 25 #[.slice cA C.length cC] w fun e w' => ∃ V : Wm, V.wd = (if codeSafe C then newWorld C else Wd.zero) ∧ e = .returned (.tuple #[.agg (wArr V), .bool (codeSafe C)]) ∧ Mem w0 f w' (wld V :: rowO cA cC C :: L) := by
  have AL := add_lit0
  have HC : Hid (∀ {U : World} {L1 L2 : List Asn}, Mem w0 f U L1 → Del (rowO cA cC C) L1 L2 → Calls Try.prog 64 #[.slice cA C.length cC] U (fun e w' => e = .returned (.bool (codeSafe C)) ∧ Mem w0 f w' (rowO cA cC C :: L2))) := fun {U L1 L2} M hd => iCodeSafe C cA cC (M.pull hd)
  have HCl : Hid (∀ {U : World} {L1 L2 : List Asn}, Mem w0 f U L1 → Del (rowO cA cC C) L1 L2 → Calls Try.prog 66 #[.slice cA C.length cC] U (fun e w' => ∃ (A' : Option Addr) (c' : Nat), e = .returned (.slice A' C.length c') ∧ Mem w0 f w' (rowO A' c' C :: L1))) := fun {U L1 L2} M hd => by
    have hr := row_reads M hd
    refine (mCloneO C cA cC U.heap.size U hr.1 (Nat.le_refl _) hr.2.2 (by omega)).mono ?_
    rintro e w' ⟨A', c', rfl, hm⟩
    exact ⟨A', c', rfl, M.call0 hm⟩
  have HNw : Hid (∀ {U : World} {L1 : List Asn}, Mem w0 f U L1 → Calls Try.prog 65 #[.int .i64 1, .int .i64 0, .agg #[.int .i64 3, .int .i64 1]] U (fun e w' => ∃ b : RA, e = .returned (.tuple #[.agg #[.int .i64 1, .int .i64 0, .slice b.sA 4 b.sC, .int .i64 1, .slice b.mA 0 b.mC, .int .i64 1, .int .i64 0, .slice b.lA 0 b.lC, .slice b.wA 0 b.wC, .bool false, .int .i64 0, .int .i64 0, .int .i64 0], .bool true]) ∧ Mem w0 f w' (runA (newRun 1 0 ⟨3, 1⟩) b :: L1))) := fun {U L1} M => by
    have h := iRunNew 1 0 ⟨3, 1⟩ U
    have e1 : runNew 1 0 ⟨3, 1⟩ = (newRun 1 0 ⟨3, 1⟩, true) := rfl
    rw [e1] at h
    refine h.mono ?_
    rintro e w' ⟨b, rfl, ho, hb⟩
    exact ⟨b, rfl, M.call0 (Mem.ofRun ho hb)⟩
  cases hs : codeSafe C with
  | false =>
    rw [hs] at HC
    simp only [Bool.false_eq_true, if_false]
    clear hs
    go_enter Try.func25, Try.ntmps25
    go_wp2_with (first | (with_reducible refine alA M ?_; clear M; (try clear F); intro w1 M F) | ((with_reducible apply ev_store (M := M)); rfl; rfl; ((conv => lhs; whnf) <;> rfl); rfl; (first | exact siI | exact siR | exact siV | exact siB | exact siSI | exact siSV | exact siW | exact siSR | exact siSO | exact siO); (exact one_all rfl); (exact dl); (exact Nat.le_of_ble_eq_true rfl); clear M; intro w1 M; simp only [SX] at M; (try clear F); have F := fx M) | (go_at_call 64; (refine nmK ?_; clear M; (try clear F); intro w1 M F); with_reducible refine (HC.out M dl).mono ?_; clear M; rintro e w2 ⟨rfl, M⟩; (try clear F); have F := fx M))
    apply ret_cell_tmp (M := M); rfl; rfl; rfl; (exact dl); (first | exact agR | exact agV | exact agW | exact agO); (first | exact siI | exact siR | exact siV | exact siB | exact siSI | exact siSV | exact siW | exact siSR | exact siSO | exact siO); rfl
    exact ⟨WZ, rfl, rfl, Mem.wldZ M.drop⟩
  | true =>
    rw [hs] at HC
    simp only [if_true]
    clear hs
    go_enter Try.func25, Try.ntmps25
    go_upto_region 1 with (first | (with_reducible refine alA M ?_; clear M; (try clear F); intro w1 M F))
    obtain ⟨g2, hgn⟩ := blkName M .here
    rw [hgn] at M ⊢
    clear hgn
    (try clear F); have F := fx M
    go_upto_region 4 with (first
      | (with_reducible refine alA M ?_; clear M; (try clear F); intro w1 M F) | ((with_reducible apply ev_store (M := M)); rfl; rfl; ((conv => lhs; whnf) <;> rfl); rfl; (first | exact siI | exact siR | exact siV | exact siB | exact siSI | exact siSV | exact siW | exact siSR | exact siSO | exact siO); (exact one_all rfl); (exact dl); (exact Nat.le_of_ble_eq_true rfl); clear M; intro w1 M; simp only [SX] at M; (try clear F); have F := fx M)
      | (go_at_call 64; (refine nmK ?_; clear M; (try clear F); intro w1 M F); with_reducible refine (HC.out M dl).mono ?_; clear M; rintro e w2 ⟨rfl, M⟩; (try clear F); have F := fx M)
      | (go_at_call 65; (refine nmK ?_; clear M; (try clear F); intro w1 M F); with_reducible refine (HNw.out M).mono ?_; clear M; rintro e w2 ⟨⟨sA, sC, mA, mC, lA, lC, wA, wC⟩, rfl, M⟩; (try simp only at M); (try clear F); have F := fx M))
    obtain ⟨g4, hgn⟩ := blkName M .here
    rw [hgn] at M ⊢
    clear hgn
    (try clear F); have F := fx M
    have MU : Mem w0 f _ (blk g4 tR [.int .i64 1, .int .i64 0, .slice sA 4 sC, .int .i64 1, .slice mA 0 mC, .int .i64 1, .int .i64 0, .slice lA 0 lC, .slice wA 0 wC, .bool false, .int .i64 0, .int .i64 0, .int .i64 0] :: blk g2 tW [.slice none 0 0, .slice none 0 0, .slice none 0 0, .int .i64 0, .int .i64 0, .int .i64 0, .int .i64 0] :: runA (newRun 1 0 ⟨3, 1⟩) ⟨sA, sC, mA, mC, lA, lC, wA, wC⟩ :: rowO cA cC C :: L) := M.sel (.cons .here (.cons (.there (.there .here)) .refl))
    clear M F HC HNw
    have M := MU
    clear MU
    (try clear F); have F := fx M
    go_cut [3] from 4 (fun s3 wx => ∃ (A' : Option Addr) (c' g18 g19 : Nat), s3 = .bool true ∧ Mem w0 f wx (blk g2 tW [.slice A' C.length c', .slice (some ⟨g18, 0, none⟩) 1 1, .slice (some ⟨g19, 0, none⟩) 1 1, .int .i64 0, .int .i64 0, .int .i64 0, .int .i64 0] :: blk g18 tR [.int .i64 1, .int .i64 0, .slice sA 4 sC, .int .i64 1, .slice mA 0 mC, .int .i64 1, .int .i64 0, .slice lA 0 lC, .slice wA 0 wC, .bool false, .int .i64 0, .int .i64 0, .int .i64 0] :: blk g19 tI [.int .i64 1] :: rowO A' c' C :: runA (newRun 1 0 ⟨3, 1⟩) ⟨sA, sC, mA, mC, lA, lC, wA, wC⟩ :: rowO cA cC C :: L))
    case first =>
      (refine held_begin (S := fun W' => ∀ j, W'.cell? ⟨g4, j, none⟩ = ([.int .i64 1, .int .i64 0, .slice sA 4 sC, .int .i64 1, .slice mA 0 mC, .int .i64 1, .int .i64 0, .slice lA 0 lC, .slice wA 0 wC, .bool false, .int .i64 0, .int .i64 0, .int .i64 0] : List Value)[j]?) (by kernel_rfl) (fun _ _ _ _ _ h => h) kc (fun HQ hHeld => ?_))
      refine tkY HQ hHeld 0 ?_; refine tkY HQ hHeld 2 ?_; clear hHeld; (refine nm (G := fun W => wpAnyH _ _ _ _ _ _ _ _ W) ?_; clear M; (try clear F); intro w1 M F)
      refine stpThree 1 3 4 (fun K hK => ?_) (fun K hK => ?_) (fun K hK => ?_)
      · go_simp; (go_at_call 66; (refine nmK ?_; clear M; (try clear F); intro w1 M F); with_reducible refine (HCl.out M dl).mono ?_; clear M; rintro e w2 ⟨A', c', rfl, M⟩; (try clear F); have F := fx M); (try go_wp2_with fail); refine hK.out _ _ (kc) (fun hHeld => ?_); clear hK K; (try simp only [AX])
        refine stpDuo 3 4 (fun K hK => ?_) (fun K hK => ?_)
        · go_simp; (try go_wp2_with fail); refine hK.out _ _ (kc) (fun hHeld => ?_); clear hK K; (try simp only [AX]); clear hHeld; (refine nm (G := fun W => wpAnyH _ _ _ _ _ _ _ _ W) ?_; clear M; (try clear F); intro w1 M F); refine stp 4 (fun K hK => ?_); go_simp; (try go_wp2_with fail); refine hK.out _ _ (kc) (fun hHeld => ?_); clear hK K; (try simp only [AX]); clear hHeld; (refine nm (G := fun W => wpAnyH _ _ _ _ _ _ _ _ W) ?_; clear M; (try clear F); intro w1 M F); have hHeld := M.cells (dl : Del (blk g4 tR [.int .i64 1, .int .i64 0, .slice sA 4 sC, .int .i64 1, .slice mA 0 mC, .int .i64 1, .int .i64 0, .slice lA 0 lC, .slice wA 0 wC, .bool false, .int .i64 0, .int .i64 0, .int .i64 0]) _ _); refine tkY HQ hHeld 5 ?_; refine stp 6 (fun K hK => ?_); refine op_of_list rfl ?_; ((with_reducible apply ev_store (M := M)); rfl; rfl; ((conv => lhs; whnf) <;> rfl); rfl; (first | exact siI | exact siR | exact siV | exact siB | exact siSI | exact siSV | exact siW | exact siSR | exact siSO | exact siO); (exact one_all rfl); (exact dl); (exact Nat.le_of_ble_eq_true rfl); clear M; intro w1 M; simp only [SX] at M; (try clear F); have F := fx M); (try go_wp2_with fail); refine hK.out _ _ (kc) (fun hHeld => ?_); clear hK K; (try simp only [AX]); refine tkY HQ hHeld 7 ?_; refine wpAnyH_done (by kernel_rfl) ?_ _; clear HQ; (repeat clear hHeld); go_wp2; go_meet; exact ⟨A', c', _, _, rfl, M.sel sl⟩
        · go_simp; (try go_wp2_with fail); refine hK.out _ _ (kc) (fun hHeld => ?_); clear hK K; (try simp only [AX]); clear hHeld; (refine nm (G := fun W => wpAnyH _ _ _ _ _ _ _ _ W) ?_; clear M; (try clear F); intro w1 M F); refine stp 3 (fun K hK => ?_); go_simp; (try go_wp2_with fail); refine hK.out _ _ (kc) (fun hHeld => ?_); clear hK K; (try simp only [AX]); clear hHeld; (refine nm (G := fun W => wpAnyH _ _ _ _ _ _ _ _ W) ?_; clear M; (try clear F); intro w1 M F); have hHeld := M.cells (dl : Del (blk g4 tR [.int .i64 1, .int .i64 0, .slice sA 4 sC, .int .i64 1, .slice mA 0 mC, .int .i64 1, .int .i64 0, .slice lA 0 lC, .slice wA 0 wC, .bool false, .int .i64 0, .int .i64 0, .int .i64 0]) _ _); refine tkY HQ hHeld 5 ?_; refine stp 6 (fun K hK => ?_); refine op_of_list rfl ?_; ((with_reducible apply ev_store (M := M)); rfl; rfl; ((conv => lhs; whnf) <;> rfl); rfl; (first | exact siI | exact siR | exact siV | exact siB | exact siSI | exact siSV | exact siW | exact siSR | exact siSO | exact siO); (exact one_all rfl); (exact dl); (exact Nat.le_of_ble_eq_true rfl); clear M; intro w1 M; simp only [SX] at M; (try clear F); have F := fx M); (try go_wp2_with fail); refine hK.out _ _ (kc) (fun hHeld => ?_); clear hK K; (try simp only [AX]); refine tkY HQ hHeld 7 ?_; refine wpAnyH_done (by kernel_rfl) ?_ _; clear HQ; (repeat clear hHeld); go_wp2; go_meet; exact ⟨A', c', _, _, rfl, M.sel sl⟩
      · go_simp; (try go_wp2_with fail); refine hK.out _ _ (kc) (fun hHeld => ?_); clear hK K; (try simp only [AX]); clear hHeld; (refine nm (G := fun W => wpAnyH _ _ _ _ _ _ _ _ W) ?_; clear M; (try clear F); intro w1 M F)
        refine stpDuo 1 4 (fun K hK => ?_) (fun K hK => ?_)
        · go_simp; (go_at_call 66; (refine nmK ?_; clear M; (try clear F); intro w1 M F); with_reducible refine (HCl.out M dl).mono ?_; clear M; rintro e w2 ⟨A', c', rfl, M⟩; (try clear F); have F := fx M); (try go_wp2_with fail); refine hK.out _ _ (kc) (fun hHeld => ?_); clear hK K; (try simp only [AX]); refine stp 4 (fun K hK => ?_); go_simp; (try go_wp2_with fail); refine hK.out _ _ (kc) (fun hHeld => ?_); clear hK K; (try simp only [AX]); clear hHeld; (refine nm (G := fun W => wpAnyH _ _ _ _ _ _ _ _ W) ?_; clear M; (try clear F); intro w1 M F); have hHeld := M.cells (dl : Del (blk g4 tR [.int .i64 1, .int .i64 0, .slice sA 4 sC, .int .i64 1, .slice mA 0 mC, .int .i64 1, .int .i64 0, .slice lA 0 lC, .slice wA 0 wC, .bool false, .int .i64 0, .int .i64 0, .int .i64 0]) _ _); refine tkY HQ hHeld 5 ?_; refine stp 6 (fun K hK => ?_); refine op_of_list rfl ?_; ((with_reducible apply ev_store (M := M)); rfl; rfl; ((conv => lhs; whnf) <;> rfl); rfl; (first | exact siI | exact siR | exact siV | exact siB | exact siSI | exact siSV | exact siW | exact siSR | exact siSO | exact siO); (exact one_all rfl); (exact dl); (exact Nat.le_of_ble_eq_true rfl); clear M; intro w1 M; simp only [SX] at M; (try clear F); have F := fx M); (try go_wp2_with fail); refine hK.out _ _ (kc) (fun hHeld => ?_); clear hK K; (try simp only [AX]); refine tkY HQ hHeld 7 ?_; refine wpAnyH_done (by kernel_rfl) ?_ _; clear HQ; (repeat clear hHeld); go_wp2; go_meet; exact ⟨A', c', _, _, rfl, M.sel sl⟩
        · go_simp; (try go_wp2_with fail); refine hK.out _ _ (kc) (fun hHeld => ?_); clear hK K; (try simp only [AX]); clear hHeld; (refine nm (G := fun W => wpAnyH _ _ _ _ _ _ _ _ W) ?_; clear M; (try clear F); intro w1 M F); refine stp 1 (fun K hK => ?_); go_simp; (go_at_call 66; (refine nmK ?_; clear M; (try clear F); intro w1 M F); with_reducible refine (HCl.out M dl).mono ?_; clear M; rintro e w2 ⟨A', c', rfl, M⟩; (try clear F); have F := fx M); (try go_wp2_with fail); refine hK.out _ _ (kc) (fun hHeld => ?_); clear hK K; (try simp only [AX]); have hHeld := M.cells (dl : Del (blk g4 tR [.int .i64 1, .int .i64 0, .slice sA 4 sC, .int .i64 1, .slice mA 0 mC, .int .i64 1, .int .i64 0, .slice lA 0 lC, .slice wA 0 wC, .bool false, .int .i64 0, .int .i64 0, .int .i64 0]) _ _); refine tkY HQ hHeld 5 ?_; refine stp 6 (fun K hK => ?_); refine op_of_list rfl ?_; ((with_reducible apply ev_store (M := M)); rfl; rfl; ((conv => lhs; whnf) <;> rfl); rfl; (first | exact siI | exact siR | exact siV | exact siB | exact siSI | exact siSV | exact siW | exact siSR | exact siSO | exact siO); (exact one_all rfl); (exact dl); (exact Nat.le_of_ble_eq_true rfl); clear M; intro w1 M; simp only [SX] at M; (try clear F); have F := fx M); (try go_wp2_with fail); refine hK.out _ _ (kc) (fun hHeld => ?_); clear hK K; (try simp only [AX]); refine tkY HQ hHeld 7 ?_; refine wpAnyH_done (by kernel_rfl) ?_ _; clear HQ; (repeat clear hHeld); go_wp2; go_meet; exact ⟨A', c', _, _, rfl, M.sel sl⟩
      · go_simp; (try go_wp2_with fail); refine hK.out _ _ (kc) (fun hHeld => ?_); clear hK K; (try simp only [AX]); clear hHeld; (refine nm (G := fun W => wpAnyH _ _ _ _ _ _ _ _ W) ?_; clear M; (try clear F); intro w1 M F)
        refine stpDuo 1 3 (fun K hK => ?_) (fun K hK => ?_)
        · go_simp; (go_at_call 66; (refine nmK ?_; clear M; (try clear F); intro w1 M F); with_reducible refine (HCl.out M dl).mono ?_; clear M; rintro e w2 ⟨A', c', rfl, M⟩; (try clear F); have F := fx M); (try go_wp2_with fail); refine hK.out _ _ (kc) (fun hHeld => ?_); clear hK K; (try simp only [AX]); refine stp 3 (fun K hK => ?_); go_simp; (try go_wp2_with fail); refine hK.out _ _ (kc) (fun hHeld => ?_); clear hK K; (try simp only [AX]); clear hHeld; (refine nm (G := fun W => wpAnyH _ _ _ _ _ _ _ _ W) ?_; clear M; (try clear F); intro w1 M F); have hHeld := M.cells (dl : Del (blk g4 tR [.int .i64 1, .int .i64 0, .slice sA 4 sC, .int .i64 1, .slice mA 0 mC, .int .i64 1, .int .i64 0, .slice lA 0 lC, .slice wA 0 wC, .bool false, .int .i64 0, .int .i64 0, .int .i64 0]) _ _); refine tkY HQ hHeld 5 ?_; refine stp 6 (fun K hK => ?_); refine op_of_list rfl ?_; ((with_reducible apply ev_store (M := M)); rfl; rfl; ((conv => lhs; whnf) <;> rfl); rfl; (first | exact siI | exact siR | exact siV | exact siB | exact siSI | exact siSV | exact siW | exact siSR | exact siSO | exact siO); (exact one_all rfl); (exact dl); (exact Nat.le_of_ble_eq_true rfl); clear M; intro w1 M; simp only [SX] at M; (try clear F); have F := fx M); (try go_wp2_with fail); refine hK.out _ _ (kc) (fun hHeld => ?_); clear hK K; (try simp only [AX]); refine tkY HQ hHeld 7 ?_; refine wpAnyH_done (by kernel_rfl) ?_ _; clear HQ; (repeat clear hHeld); go_wp2; go_meet; exact ⟨A', c', _, _, rfl, M.sel sl⟩
        · go_simp; (try go_wp2_with fail); refine hK.out _ _ (kc) (fun hHeld => ?_); clear hK K; (try simp only [AX]); clear hHeld; (refine nm (G := fun W => wpAnyH _ _ _ _ _ _ _ _ W) ?_; clear M; (try clear F); intro w1 M F); refine stp 1 (fun K hK => ?_); go_simp; (go_at_call 66; (refine nmK ?_; clear M; (try clear F); intro w1 M F); with_reducible refine (HCl.out M dl).mono ?_; clear M; rintro e w2 ⟨A', c', rfl, M⟩; (try clear F); have F := fx M); (try go_wp2_with fail); refine hK.out _ _ (kc) (fun hHeld => ?_); clear hK K; (try simp only [AX]); have hHeld := M.cells (dl : Del (blk g4 tR [.int .i64 1, .int .i64 0, .slice sA 4 sC, .int .i64 1, .slice mA 0 mC, .int .i64 1, .int .i64 0, .slice lA 0 lC, .slice wA 0 wC, .bool false, .int .i64 0, .int .i64 0, .int .i64 0]) _ _); refine tkY HQ hHeld 5 ?_; refine stp 6 (fun K hK => ?_); refine op_of_list rfl ?_; ((with_reducible apply ev_store (M := M)); rfl; rfl; ((conv => lhs; whnf) <;> rfl); rfl; (first | exact siI | exact siR | exact siV | exact siB | exact siSI | exact siSV | exact siW | exact siSR | exact siSO | exact siO); (exact one_all rfl); (exact dl); (exact Nat.le_of_ble_eq_true rfl); clear M; intro w1 M; simp only [SX] at M; (try clear F); have F := fx M); (try go_wp2_with fail); refine hK.out _ _ (kc) (fun hHeld => ?_); clear hK K; (try simp only [AX]); refine tkY HQ hHeld 7 ?_; refine wpAnyH_done (by kernel_rfl) ?_ _; clear HQ; (repeat clear hHeld); go_wp2; go_meet; exact ⟨A', c', _, _, rfl, M.sel sl⟩
    clear M F HCl
    obtain ⟨A', c', g18, g19, rfl, M⟩ := hcut
    go_wp2
    apply ret_cell_tmp (M := M); rfl; rfl; rfl; (exact dl); (first | exact agR | exact agV | exact agW | exact agO); (first | exact siI | exact siR | exact siV | exact siB | exact siSI | exact siSV | exact siW | exact siSR | exact siSO | exact siO); rfl
    have MQ := Mem.row_of encI_length (xs := [(1 : Int)]) (M.pull (.there (.there .here))) rfl (by simp)
    have MR := Mem.rwsNil (Mem.row_of encR_length (xs := [((newRun 1 0 ⟨3, 1⟩, ⟨sA, sC, mA, mC, lA, lC, wA, wC⟩) : Rn × RA)]) (MQ.pull (.there (.there .here))) rfl (by simp))
    have M5 := (MR.sel (.cons (.there (.there (.there (.there (.there .here))))) (.cons .here .refl))).rwsCons
    have M6 : Mem w0 f _ (rowO A' c' C :: rowR (some ⟨g18, 0, none⟩) 1 [((newRun 1 0 ⟨3, 1⟩, ⟨sA, sC, mA, mC, lA, lC, wA, wC⟩) : Rn × RA)] :: rowI (some ⟨g19, 0, none⟩) 1 [(1 : Int)] :: rws [((newRun 1 0 ⟨3, 1⟩, ⟨sA, sC, mA, mC, lA, lC, wA, wC⟩) : Rn × RA)] :: rowO cA cC C :: L) := M5.sel (.cons (.there (.there (.there (.there .here)))) (.cons (.there .here) (.cons (.there .here) (.cons .here (.drop .refl)))))
    exact ⟨⟨C, A', c', [((newRun 1 0 ⟨3, 1⟩, ⟨sA, sC, mA, mC, lA, lC, wA, wC⟩) : Rn × RA)], some ⟨g18, 0, none⟩, 1, [1], some ⟨g19, 0, none⟩, 1, 0, 0, 0, 0⟩, rfl, rfl, Mem.packW (W := ⟨C, A', c', [((newRun 1 0 ⟨3, 1⟩, ⟨sA, sC, mA, mC, lA, lC, wA, wC⟩) : Rn × RA)], some ⟨g18, 0, none⟩, 1, [1], some ⟨g19, 0, none⟩, 1, 0, 0, 0, 0⟩) M6⟩
end Go.Proofs.Ytmidnaafljgbiaa
