/- Parts of the proof, in one text. -/
import Derived.Deep.Cut
import Derived.Test.YtmidnaafljgbiaaB29
import Derived.Test.YtmidnaafljgbiaaB05
import Derived.Test.YtmidnaafljgbiaaB14
import Derived.Test.YtmidnaafljgbiaaB04
import Derived.Test.YtmidnaafljgbiaaB27
/- A run begins another one, by the reference. -/
namespace Go.Proofs.Ytmidnaafljgbiaa
open Go.RowKit
set_option maxRecDepth 100000

set_option maxHeartbeats 4000000 in
theorem sBegin21 (W : Wm) (k : Nat) (o : Opx) {w0 w : World} {f : List Nat} {L L' : List Asn} (M : Mem w0 f w L) (hd : Del (wld W) L L') (hk : k < W.ps.length) (hn : W.ps.length ≤ 6) (hq : W.queue.length ≤ 1000) (hr : Fit4 (W.ps[k]'hk).1) (ho : 0 ≤ o.r ∧ o.r ≤ 3) :
    Calls Try.prog 166 #[.agg (wArr W), .int .i64 ((k : Int) + 1), .agg (opArr o)] w (WPost (beginW W.wd ((k : Int) + 1) o) w0 f L') := by
  have AL := add_lit0
  replace M := M.pull hd
  clear hd
  obtain ⟨gr, hA, _, _⟩ := (Mem.rw_ (M.pull .here).unpackW).runs k hk
  have hA2 := arr_at hA rfl
  rw [hA2]
  obtain ⟨ok, or_, os, oto, ⟨ovk, ovn⟩⟩ := o
  simp only [opArr] at ho ⊢
  obtain ⟨sN, rfl⟩ : ∃ s : Nat, or_ = (s : Int) := ⟨or_.toNat, by omega⟩
  have wi : IntKind.i64.wrap ((W.ps.length : Int) + 1) = (W.ps.length : Int) + 1 := by rw [IntKind.wrap_i64]; omega
  by_cases h6 : 6 < (W.ps.length : Int) + 1
  · --[1
    have hres : beginW W.wd ((k : Int) + 1) ⟨ok, sN, os, oto, ⟨ovk, ovn⟩⟩ = setW W.wd ((k : Int) + 1) sN Vl.zero := by
      unfold beginW
      rw [runsLen, if_pos h6]
    rw [hres]
    clear hres
    have HS : Hid (∀ (U : World) (L1 L2 : List Asn), Mem w0 f U L1 → Del (wld W) L1 L2 → Calls Try.prog 164 #[.agg #[.slice W.cA W.code.length W.cC, .slice (some ⟨gr, 0, none⟩) W.ps.length W.rC, .slice W.qA W.queue.length W.qC, .int .i64 W.now, .int .i64 W.sent, .int .i64 W.taken, .int .i64 W.lost], .int .i64 ((k : Int) + 1), .int .i64 (sN : Int), .agg #[.int .i64 0, .int .i64 0]] U (WPost (setW W.wd ((k : Int) + 1) sN Vl.zero) w0 f L2)) := fun U L1 L2 M hd => by
      have h := sSet21 W k sN Vl.zero M hd hk (by omega) (by omega) hr.slots hr.full hr.at_
      rw [hA2] at h
      exact h
    replace hA := Lib.hid hA
    replace hA2 := Lib.hid hA2
    go_enter Try.func166, Try.ntmps166
    go_wp2_with (first | (with_reducible refine alA M ?_; clear M; (try clear F); intro w1 M F) | ((with_reducible apply ev_store (M := M)); rfl; rfl; ((conv => lhs; whnf) <;> rfl); rfl; (first | exact siI | exact siR | exact siV | exact siB | exact siSI | exact siSV | exact siW | exact siSR | exact siSO | exact siO); (exact one_all rfl); (exact dl); (exact Nat.le_of_ble_eq_true rfl); clear M; intro w1 M; simp only [SX] at M; (try clear F); have F := fx M) | (go_at_call 164; (refine nmK ?_; clear M; (try clear F); intro w1 M F); refine (HS.out _ _ _ M dl).mono ?_; clear M; rintro e w2 ⟨Y, hY, rfl, M⟩; replace hY := Lib.hid hY; (try clear F); have F := fx M))
    apply ret_cell (M := M); rfl; rfl; (exact dl); (first | exact agR | exact agV | exact agW | exact agO); (first | exact siI | exact siR | exact siV | exact siB | exact siSI | exact siSV | exact siW | exact siSR | exact siSO | exact siO); rfl
    exact ⟨Y, hY.out, rfl, M.sel sl⟩
    --]1
  · --[2
    have hres : beginW W.wd ((k : Int) + 1) ⟨ok, sN, os, oto, ⟨ovk, ovn⟩⟩ = setW ⟨W.code, W.wd.runs ++ [newRun ((W.ps.length : Int) + 1) oto ⟨3, (k : Int) + 1⟩], W.queue ++ [(W.ps.length : Int) + 1], W.now, W.sent, W.taken, W.lost⟩ ((k : Int) + 1) sN ⟨3, (W.ps.length : Int) + 1⟩ := by
      unfold beginW
      rw [runsLen, if_neg h6]
      rfl
    rw [hres]
    clear hres
    have HNw : Hid (∀ (U : World) (L1 : List Asn), Mem w0 f U L1 → Calls Try.prog 62 #[.int .i64 ((W.ps.length : Int) + 1), .int .i64 oto, .agg #[.int .i64 3, .int .i64 ((k : Int) + 1)]] U (fun e w' => ∃ b : RA, e = .returned (.agg (runArr (newRun ((W.ps.length : Int) + 1) oto ⟨3, (k : Int) + 1⟩) b)) ∧ Mem w0 f w' (runA (newRun ((W.ps.length : Int) + 1) oto ⟨3, (k : Int) + 1⟩) b :: L1))) := fun U L1 M => sNewM ((W.ps.length : Int) + 1) oto ⟨3, (k : Int) + 1⟩ M
    replace hA2 := Lib.hid hA2
    replace M := M.unpackW
    unfold rowO rowR rowI at M
    rw [hA] at M
    replace hA := Lib.hid hA
    go_enter Try.func166, Try.ntmps166
    go_upto_region 1 with (first | (with_reducible refine alA M ?_; clear M; (try clear F); intro w1 M F))
    clear F
    rename_i u1 u2 _ _
    generalize w.heap.size = g3 at M ⊢
    generalize u1.heap.size = g5 at M ⊢
    generalize u2.heap.size = g6 at M ⊢
    (try clear F); have F := fx M
    go_upto_region 4 with fail
    clear F
    refine beginE (S := (fun W' => (∀ j, W'.cell? ⟨g3, j, none⟩ = ([.slice W.cA W.code.length W.cC, .slice (some ⟨gr, 0, none⟩) W.ps.length W.rC, .slice W.qA W.queue.length W.qC, .int .i64 W.now, .int .i64 W.sent, .int .i64 W.taken, .int .i64 W.lost] : List Value)[j]?) ∧ ∀ j, W'.cell? ⟨g5, j, none⟩ = ([.int .i64 ok, .int .i64 (sN : Int), .int .i64 os, .int .i64 oto, .int .i64 ovk, .int .i64 ovn] : List Value)[j]?)) 11 (by kernel_rfl) (fun _ _ _ _ _ h => h) (by (exact ⟨kc, kc⟩)) (fun HQ hHeld => ?_)
    refine tkYE HQ hHeld 0 ?_; refine tkYE HQ hHeld 1 ?_; refine tkYE HQ hHeld 2 ?_; refine tkYE HQ hHeld 3 ?_; refine tkYE HQ hHeld 4 ?_; refine tkYE HQ hHeld 5 ?_; refine tkYE HQ hHeld 6 ?_
    refine stpE 7 (fun K hK => ?_); go_simp
    (go_at_call 62; (refine nmK ?_; clear M; (try clear F); intro w1 M F); refine (HNw.out _ _ M).mono ?_; clear M; rintro e w2 ⟨b, rfl, M⟩; clear F)
    (try go_wp2_with fail); refine hK.out _ _ (by (exact ⟨kc, kc⟩)) (fun hHeld => ?_); clear hK K; (try simp only [AX])
    refine stpE 8 (fun K hK => ?_); go_simp
    (try go_wp2_with fail); refine hK.out _ _ (by (exact ⟨kc, kc⟩)) (fun hHeld => ?_); clear hK K; (try simp only [AX]); clear hHeld; (refine nm (G := fun W => wpAnyE _ _ _ _ _ _ _ _ _ W) ?_; clear M; (try clear F); intro w1 M F)
    refine stpE 9 (fun K hK => ?_); (refine op_of_list rfl ?_; (with_reducible apply ev_app1 (enc := encR) (v := ((newRun ((W.ps.length : Int) + 1) oto ⟨3, (k : Int) + 1⟩, b) : Rn × RA)) (hk := encR_length) (hone := oneR) (h0 := by decide) (hinfo := infRx) (ht := Try.underlying43) (M := M)); rfl; rfl; (exact dl); (exact dl); rfl; rfl; omega; (exact Nat.le_of_ble_eq_true rfl); clear M; intro A7 c7 w1 M; (try clear F); have F := fx M); (try go_wp2_with fail); refine hK.out _ _ (by (exact ⟨kc, kc⟩)) (fun hHeld => ?_); clear hK K; (try simp only [AX])
    refine tkYE HQ hHeld 10 ?_
    refine stpT (fun K hK => ?_); refine op_of_list rfl ?_; ((with_reducible apply ev_store (M := M)); rfl; rfl; ((conv => lhs; whnf) <;> rfl); rfl; (first | exact siI | exact siR | exact siV | exact siB | exact siSI | exact siSV | exact siW | exact siSR | exact siSO | exact siO); (exact one_all rfl); (exact dl); (exact Nat.le_of_ble_eq_true rfl); clear M; intro w1 M; simp only [SX] at M; (try clear F); have F := fx M); (try go_wp2_with fail); refine hK.out _ _ ?_; clear hK K; (try simp only [AX])
    go_upto_region 6 with (first | ((with_reducible refine alA M ?_; clear M; (try clear F); intro w1 M F); ((with_reducible apply ev_app1 (enc := encI) (v := (W.ps.length : Int) + 1) (hk := encI_length) (hone := oneIx) (h0 := by decide) (hinfo := infIx) (ht := Try.underlying23) (M := M)); rfl; rfl; (exact dl); (exact dl); rfl; rfl; (first | exact Nat.le_of_ble_eq_true rfl | omega); (exact Nat.le_of_ble_eq_true rfl); clear M; intro A1 c1 w1 M; replace M := Mem.perm M (.swap _ _ _) |> Mem.drop; (try clear F); have F := fx M)) | ((with_reducible apply ev_store (M := M)); rfl; rfl; ((conv => lhs; whnf) <;> rfl); rfl; (first | exact siI | exact siR | exact siV | exact siB | exact siSI | exact siSV | exact siW | exact siSR | exact siSO | exact siO); (exact one_all rfl); (exact dl); (exact Nat.le_of_ble_eq_true rfl); clear M; intro w1 M; simp only [SX] at M; (try clear F); have F := fx M))
    have M2 : Mem w0 f _ (runA (newRun ((W.ps.length : Int) + 1) oto ⟨3, (k : Int) + 1⟩) b :: rws W.ps :: row encO 6 tO W.cA W.cC W.code :: row encR 13 tR A7 c7 (W.ps ++ [((newRun ((W.ps.length : Int) + 1) oto ⟨3, (k : Int) + 1⟩, b) : Rn × RA)]) :: row encI 1 tI A1 c1 (W.queue ++ [(W.ps.length : Int) + 1]) :: blk g3 tW [.slice W.cA W.code.length W.cC, .slice A7 (W.ps.length + 1) c7, .slice A1 (W.queue.length + 1) c1, .int .i64 W.now, .int .i64 W.sent, .int .i64 W.taken, .int .i64 W.lost] :: blk g5 tO [.int .i64 ok, .int .i64 (sN : Int), .int .i64 os, .int .i64 oto, .int .i64 ovk, .int .i64 ovn] :: blk g6 tW [.slice none 0 0, .slice none 0 0, .slice none 0 0, .int .i64 0, .int .i64 0, .int .i64 0, .int .i64 0] :: L') :=
      M.sel (.cons (.there (.there (.there (.there .here)))) (.cons (.there (.there (.there (.there (.there (.there (.there .here))))))) (.cons (.there (.there (.there (.there (.there (.there .here)))))) (.cons (.there (.there .here)) (.cons (.there .here) (.cons .here (.cons (.there (.there .here)) (.cons (.there .here) (.drop .refl)))))))))
    have M4 : Mem w0 f _ (rowO W.cA W.cC W.code :: rowR A7 c7 (W.ps ++ [((newRun ((W.ps.length : Int) + 1) oto ⟨3, (k : Int) + 1⟩, b) : Rn × RA)]) :: rowI A1 c1 (W.queue ++ [(W.ps.length : Int) + 1]) :: rws (W.ps ++ [((newRun ((W.ps.length : Int) + 1) oto ⟨3, (k : Int) + 1⟩, b) : Rn × RA)]) :: blk g3 tW [.slice W.cA W.code.length W.cC, .slice A7 (W.ps.length + 1) c7, .slice A1 (W.queue.length + 1) c1, .int .i64 W.now, .int .i64 W.sent, .int .i64 W.taken, .int .i64 W.lost] :: blk g5 tO [.int .i64 ok, .int .i64 (sN : Int), .int .i64 os, .int .i64 oto, .int .i64 ovk, .int .i64 ovn] :: blk g6 tW [.slice none 0 0, .slice none 0 0, .slice none 0 0, .int .i64 0, .int .i64 0, .int .i64 0, .int .i64 0] :: L') := M2.rwsSnoc.sel (.cons (.there .here) (.cons (.there .here) (.cons (.there .here) .refl)))
    clear M M2
    have M := Mem.packW (W := (⟨W.code, W.cA, W.cC, W.ps ++ [((newRun ((W.ps.length : Int) + 1) oto ⟨3, (k : Int) + 1⟩, b) : Rn × RA)], A7, c7, W.queue ++ [(W.ps.length : Int) + 1], A1, c1, W.now, W.sent, W.taken, W.lost⟩ : Wm)) M4
    clear M4
    have hw : (⟨W.code, W.cA, W.cC, W.ps ++ [((newRun ((W.ps.length : Int) + 1) oto ⟨3, (k : Int) + 1⟩, b) : Rn × RA)], A7, c7, W.queue ++ [(W.ps.length : Int) + 1], A1, c1, W.now, W.sent, W.taken, W.lost⟩ : Wm).wd = ⟨W.code, W.wd.runs ++ [newRun ((W.ps.length : Int) + 1) oto ⟨3, (k : Int) + 1⟩], W.queue ++ [(W.ps.length : Int) + 1], W.now, W.sent, W.taken, W.lost⟩ := by simp [Wm.wd]
    have hl1 : (⟨W.code, W.cA, W.cC, W.ps ++ [((newRun ((W.ps.length : Int) + 1) oto ⟨3, (k : Int) + 1⟩, b) : Rn × RA)], A7, c7, W.queue ++ [(W.ps.length : Int) + 1], A1, c1, W.now, W.sent, W.taken, W.lost⟩ : Wm).ps.length = W.ps.length + 1 := by simp
    have hk1 : k < (⟨W.code, W.cA, W.cC, W.ps ++ [((newRun ((W.ps.length : Int) + 1) oto ⟨3, (k : Int) + 1⟩, b) : Rn × RA)], A7, c7, W.queue ++ [(W.ps.length : Int) + 1], A1, c1, W.now, W.sent, W.taken, W.lost⟩ : Wm).ps.length := by rw [hl1]; omega
    have hp1 : ((⟨W.code, W.cA, W.cC, W.ps ++ [((newRun ((W.ps.length : Int) + 1) oto ⟨3, (k : Int) + 1⟩, b) : Rn × RA)], A7, c7, W.queue ++ [(W.ps.length : Int) + 1], A1, c1, W.now, W.sent, W.taken, W.lost⟩ : Wm).ps[k]'hk1).1 = (W.ps[k]'hk).1 := by simp only; rw [List.getElem_append_left hk]
    have hA1 : wArr (⟨W.code, W.cA, W.cC, W.ps ++ [((newRun ((W.ps.length : Int) + 1) oto ⟨3, (k : Int) + 1⟩, b) : Rn × RA)], A7, c7, W.queue ++ [(W.ps.length : Int) + 1], A1, c1, W.now, W.sent, W.taken, W.lost⟩ : Wm) = #[.slice W.cA W.code.length W.cC, .slice A7 (W.ps.length + 1) c7, .slice A1 (W.queue.length + 1) c1, .int .i64 W.now, .int .i64 W.sent, .int .i64 W.taken, .int .i64 W.lost] := by simp only [wArr, List.length_append, List.length_singleton]
    have HS : Hid (∀ (U : World) (L1 L2 : List Asn), Mem w0 f U L1 → Del (wld (⟨W.code, W.cA, W.cC, W.ps ++ [((newRun ((W.ps.length : Int) + 1) oto ⟨3, (k : Int) + 1⟩, b) : Rn × RA)], A7, c7, W.queue ++ [(W.ps.length : Int) + 1], A1, c1, W.now, W.sent, W.taken, W.lost⟩ : Wm)) L1 L2 → Calls Try.prog 164 #[.agg #[.slice W.cA W.code.length W.cC, .slice A7 (W.ps.length + 1) c7, .slice A1 (W.queue.length + 1) c1, .int .i64 W.now, .int .i64 W.sent, .int .i64 W.taken, .int .i64 W.lost], .int .i64 ((k : Int) + 1), .int .i64 (sN : Int), .agg #[.int .i64 3, .int .i64 ((W.ps.length : Int) + 1)]] U (WPost (setW (⟨W.code, W.cA, W.cC, W.ps ++ [((newRun ((W.ps.length : Int) + 1) oto ⟨3, (k : Int) + 1⟩, b) : Rn × RA)], A7, c7, W.queue ++ [(W.ps.length : Int) + 1], A1, c1, W.now, W.sent, W.taken, W.lost⟩ : Wm).wd ((k : Int) + 1) sN ⟨3, (W.ps.length : Int) + 1⟩) w0 f L2)) := fun U L1 L2 M hd => by
      have h := sSet21 (⟨W.code, W.cA, W.cC, W.ps ++ [((newRun ((W.ps.length : Int) + 1) oto ⟨3, (k : Int) + 1⟩, b) : Rn × RA)], A7, c7, W.queue ++ [(W.ps.length : Int) + 1], A1, c1, W.now, W.sent, W.taken, W.lost⟩ : Wm) k sN ⟨3, (W.ps.length : Int) + 1⟩ M hd hk1 (by rw [hl1]; omega) (by omega) (by rw [hp1]; exact hr.slots) (by rw [hp1]; exact hr.full) (by rw [hp1]; exact hr.at_)
      rw [hA1] at h
      exact h
    rw [hw] at HS
    clear hA1 hp1 hw hl1 hk1
    generalize (⟨W.code, W.cA, W.cC, W.ps ++ [((newRun ((W.ps.length : Int) + 1) oto ⟨3, (k : Int) + 1⟩, b) : Rn × RA)], A7, c7, W.queue ++ [(W.ps.length : Int) + 1], A1, c1, W.now, W.sent, W.taken, W.lost⟩ : Wm) = V1 at M HS
    (try clear F); have F := fx M
    go_wp2_with (first | ((with_reducible apply ev_store (M := M)); rfl; rfl; ((conv => lhs; whnf) <;> rfl); rfl; (first | exact siI | exact siR | exact siV | exact siB | exact siSI | exact siSV | exact siW | exact siSR | exact siSO | exact siO); (exact one_all rfl); (exact dl); (exact Nat.le_of_ble_eq_true rfl); clear M; intro w1 M; simp only [SX] at M; (try clear F); have F := fx M) | (go_at_call 164; (refine nmK ?_; clear M; (try clear F); intro w1 M F); refine (HS.out _ _ _ M dl).mono ?_; clear M; rintro e w2 ⟨Y, hY, rfl, M⟩; replace hY := Lib.hid hY; (try clear F); have F := fx M))
    apply ret_cell (M := M); rfl; rfl; (exact dl); (first | exact agR | exact agV | exact agW | exact agO); (first | exact siI | exact siR | exact siV | exact siB | exact siSI | exact siSV | exact siW | exact siSR | exact siSO | exact siO); rfl
    exact ⟨Y, hY.out, rfl, M.sel sl⟩
    --]2
end Go.Proofs.Ytmidnaafljgbiaa
/- Is an end a normal one, by the reference. -/
namespace Go.Proofs.Ytmidnaafljgbiaa
open Go.RowKit
set_option maxRecDepth 100000

theorem sNormal (v : Vl) (w : World) : Calls Try.prog 169 #[.agg #[.int .i64 v.k, .int .i64 v.n]] w fun e w' => e = .returned (.bool (isNormal v)) ∧ Below w.heap.size w w' := by
  have M := Mem.nil w
  have e : isNormal v = (v.k == 2 && v.n == 0) := by
    obtain ⟨k, n⟩ := v
    rw [Bool.eq_iff_iff]
    simp [isNormal]
  rw [e]
  obtain ⟨k, n⟩ := v
  simp only
  go_enter Try.func169, Try.ntmps169
  go_wp2_with (with_reducible refine alAw M ?_; clear M; (try clear F); intro w1 M F)
  all_goals go_ret
  all_goals exact ⟨by simp_all, M.toBelow⟩
end Go.Proofs.Ytmidnaafljgbiaa
/- The reference's giving: who is not there, did end, or has no room. -/
namespace Go.Proofs.Ytmidnaafljgbiaa
open Go.RowKit
set_option maxRecDepth 100000

def GivePost (W : Wm) (id : Int) (v : Vl) (w0 : World) (f : List Nat) (L : List Asn) (e : Ending) (w' : World) : Prop := ∃ V : Wm, V.wd = give W.wd id v ∧ e = .returned (.agg (wArr V)) ∧ Mem w0 f w' (wld V :: L)
set_option maxHeartbeats 4000000 in
theorem sGive_out (W : Wm) (id : Int) (v : Vl) {w0 w : World} {f : List Nat} {L L' : List Asn} (M : Mem w0 f w L) (hd : Del (wld W) L L') (hn : W.ps.length ≤ 1000) (h : (aliveIn W.wd.runs id && decide ((getR W.wd.runs id).mail.length < 12)) = false) :
    Calls Try.prog 148 #[.agg (wArr W), .int .i64 id, .agg #[.int .i64 v.k, .int .i64 v.n]] w (GivePost W id v w0 f L') := by
  have AL := add_lit0
  have M := (M.pull hd).unpackW
  have HI := Lib.hid (fun V => sIn id 1 W.ps.length V)
  have HF : Hid (∀ (U : World) (e : Ending), e = .returned (.agg (wArr { W with sent := wr (W.sent + 1), lost := wr (W.lost + 1) })) → Mem w0 f U (rowO W.cA W.cC W.code :: rowR W.rA W.rC W.ps :: rowI W.qA W.qC W.queue :: rws W.ps :: L') → GivePost W id v w0 f L' e U) := fun U e he M => ⟨{ W with sent := wr (W.sent + 1), lost := wr (W.lost + 1) }, (give_out h).symm, he, M.packW (W := { W with sent := wr (W.sent + 1), lost := wr (W.lost + 1) })⟩
  have w1 := wr_wrap (W.sent + 1)
  have w2 := wr_wrap (W.lost + 1)
  clear hd
  cases q : inB id 1 W.ps.length with
  | false =>
    rw [q] at HI
    clear h q
    obtain ⟨code, cA, cC, ps, rA, rC, queue, qA, qC, now, sent, taken, lost⟩ := W
    simp only at *
    generalize wr (sent + 1) = s1 at w1 HF
    generalize wr (lost + 1) = l1 at w2 HF
    go_enter Try.func148, Try.ntmps148
    go_upto_region 2 with (first | (with_reducible refine alA M ?_; clear M; (try clear F); intro w1 M F) | ((with_reducible apply ev_store (M := M)); rfl; rfl; ((conv => lhs; whnf) <;> rfl); rfl; (first | exact siI | exact siR | exact siV | exact siB | exact siSI | exact siSV | exact siW | exact siSR | exact siSO | exact siO); (exact one_all rfl); (exact dl); (exact Nat.le_of_ble_eq_true rfl); clear M; intro w1 M; simp only [SX] at M; (try clear F); have F := fx M))
    go_upto_region 3 with (go_at_call 80; refine (HI.out _).mono ?_; rintro e w2 ⟨rfl, rfl⟩)
    go_wp2_with ((with_reducible apply ev_store (M := M)); rfl; rfl; ((conv => lhs; whnf) <;> rfl); rfl; (first | exact siI | exact siR | exact siV | exact siB | exact siSI | exact siSV | exact siW | exact siSR | exact siSO | exact siO); (exact one_all rfl); (exact dl); (exact Nat.le_of_ble_eq_true rfl); clear M; intro w1 M; simp only [SX] at M; (try clear F); have F := fx M)
    apply ret_cell (M := M); rfl; rfl; (exact dl); (first | exact agR | exact agV | exact agW | exact agO); (first | exact siI | exact siR | exact siV | exact siB | exact siSI | exact siSV | exact siW | exact siSR | exact siSO | exact siO); rfl
    exact HF.out _ _ rfl (M.sel sl)
  | true =>
    rw [q] at HI
    have q2 := inB_iff.1 q
    obtain ⟨k, hk⟩ : ∃ k : Nat, id = (k : Int) + 1 := ⟨(id - 1).toNat, by omega⟩
    subst hk
    have hk : k < W.ps.length := by omega
    have e : aliveIn W.wd.runs ((k : Int) + 1) = !(W.ps[k].1.state == 3) := by unfold aliveIn; rw [runsLen, q, getR_ps hk]; rfl
    rw [e, getR_ps hk] at h
    obtain ⟨gr, hgr⟩ := row_form M (.there .here) (by omega)
    clear q e
    obtain ⟨code, cA, cC, ps, rA, rC, queue, qA, qC, now, sent, taken, lost⟩ := W
    simp only at *
    subst hgr
    generalize wr (sent + 1) = s1 at w1 HF
    generalize wr (lost + 1) = l1 at w2 HF
    have i1 : (0 : Int) ≤ k := by omega
    have i2 : (k : Int) < ps.length := by omega
    have i3 : (k : Int) + 1 - 1 = k := by omega
    have wi : IntKind.i64.wrap (k : Int) = k := by rw [IntKind.wrap_i64]; omega
    go_enter Try.func148, Try.ntmps148
    go_upto_region 2 with (first | (with_reducible refine alA M ?_; clear M; (try clear F); intro w1 M F) | ((with_reducible apply ev_store (M := M)); rfl; rfl; ((conv => lhs; whnf) <;> rfl); rfl; (first | exact siI | exact siR | exact siV | exact siB | exact siSI | exact siSV | exact siW | exact siSR | exact siSO | exact siO); (exact one_all rfl); (exact dl); (exact Nat.le_of_ble_eq_true rfl); clear M; intro w1 M; simp only [SX] at M; (try clear F); have F := fx M))
    have E := elemR (g := gr) (c := rC) M dl hk
    generalize ps[k] = p at h E
    obtain ⟨⟨rid, at_, slots, full, mail, state, due, links, watched, trap, ⟨wk, wn⟩, turns⟩, ⟨sA, sC, mA, mC, lA, lC, wA, wC⟩⟩ := p
    obtain ⟨E0, E1, E2, E3, E4, E5, E6, E7, E8, E9, E10, E11, E12⟩ := E
    simp only at h E4 E5
    have wj : IntKind.i64.wrap ((k : Int) + 1 - 1) = k := by rw [i3]; exact wi
    by_cases hs : state = 3
    · subst hs
      clear h
      go_upto_region 3 with (go_at_call 80; refine (HI.out _).mono ?_; rintro e w2 ⟨rfl, rfl⟩)
      go_wp2_with ((with_reducible apply ev_store (M := M)); rfl; rfl; ((conv => lhs; whnf) <;> rfl); rfl; (first | exact siI | exact siR | exact siV | exact siB | exact siSI | exact siSV | exact siW | exact siSR | exact siSO | exact siO); (exact one_all rfl); (exact dl); (exact Nat.le_of_ble_eq_true rfl); clear M; intro w1 M; simp only [SX] at M; (try clear F); have F := fx M)
      apply ret_cell (M := M); rfl; rfl; (exact dl); (first | exact agR | exact agV | exact agW | exact agO); (first | exact siI | exact siR | exact siV | exact siB | exact siSI | exact siSV | exact siW | exact siSR | exact siSO | exact siO); rfl
      exact HF.out _ _ rfl (M.sel sl)
    · have hs2 : (state == 3) = false := by simpa using hs
      have hm : 12 ≤ (mail.length : Int) := by
        rw [hs2] at h
        simp only [Bool.not_false, Bool.true_and, decide_eq_false_iff_not] at h
        omega
      clear h
      go_upto_region 3 with (go_at_call 80; refine (HI.out _).mono ?_; rintro e w2 ⟨rfl, rfl⟩)
      go_wp2_with ((with_reducible apply ev_store (M := M)); rfl; rfl; ((conv => lhs; whnf) <;> rfl); rfl; (first | exact siI | exact siR | exact siV | exact siB | exact siSI | exact siSV | exact siW | exact siSR | exact siSO | exact siO); (exact one_all rfl); (exact dl); (exact Nat.le_of_ble_eq_true rfl); clear M; intro w1 M; simp only [SX] at M; (try clear F); have F := fx M)
      apply ret_cell (M := M); rfl; rfl; (exact dl); (first | exact agR | exact agV | exact agW | exact agO); (first | exact siI | exact siR | exact siV | exact siB | exact siSI | exact siSV | exact siW | exact siSR | exact siSO | exact siO); rfl
      exact HF.out _ _ rfl (M.sel sl)
end Go.Proofs.Ytmidnaafljgbiaa
