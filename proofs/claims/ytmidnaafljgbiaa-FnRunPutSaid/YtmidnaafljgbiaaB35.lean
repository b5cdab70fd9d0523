/- Parts of the proof, in one text. -/
import Derived.Test.YtmidnaafljgbiaaB34
import Derived.Test.YtmidnaafljgbiaaB29
import Derived.Test.YtmidnaafljgbiaaB22
/- The first run that is to go on has a turn, by the reference. -/
namespace Go.Proofs.Ytmidnaafljgbiaa
open Go.RowKit
set_option maxRecDepth 100000

set_option maxHeartbeats 8000000 in
theorem sDo21 (W : Wm) {w0 w : World} {f : List Nat} {L L' : List Asn} (M : Mem w0 f w L) (hd : Del (wld W) L L') (hok : WOk W.wd) (hroom : room W.wd + 3 ≤ 9999) :
    Calls Try.prog 146 #[.agg (wArr W)] w (WPost (doW W.wd) w0 f L') := by
  have AL := add_lit0
  replace M := M.pull hd
  clear hd
  have hps6 : W.ps.length ≤ 6 := by have := hok.len.2; rwa [runsLen] at this
  have hps1 : 1 ≤ W.ps.length := by have := hok.len.1; rwa [runsLen] at this
  have hq6 : W.queue.length ≤ 6 := wok_queue (worldOk_iff.2 hok)
  cases hqq : W.queue with
  | nil =>
    --[1
    have hres : doW W.wd = W.wd := by
      have : W.wd.queue = [] := hqq
      unfold doW
      rw [this]
    rw [hres]
    have hq0 : W.queue.length = 0 := by rw [hqq]; rfl
    clear hqq hres
    go_enter Try.func146, Try.ntmps146
    go_upto_region 1 with (first | (with_reducible refine alA M ?_; clear M; (try clear F); intro w1 M F))
    have hb : ((W.queue.length : Int) == 0) = true := by simp [hq0]
    clear hq0
    go_wp2_with (first | ((with_reducible apply ev_store (M := M)); rfl; rfl; ((conv => lhs; whnf) <;> rfl); rfl; (first | exact siI | exact siR | exact siV | exact siB | exact siSI | exact siSV | exact siW | exact siSR | exact siSO | exact siO); (exact one_all rfl); (exact dl); (exact Nat.le_of_ble_eq_true rfl); clear M; intro w1 M; simp only [SX] at M; (try clear F); have F := fx M))
    apply ret_cell (M := M); rfl; rfl; (exact dl); (first | exact agR | exact agV | exact agW | exact agO); (first | exact siI | exact siR | exact siV | exact siB | exact siSI | exact siSV | exact siW | exact siSR | exact siSO | exact siO); rfl
    exact ⟨W, rfl, rfl, M.sel (.drop (.drop (.cons .here .refl)))⟩
    --]1
  | cons id qs =>
    have hqw : W.wd.queue = id :: qs := hqq
    have hin := hok.qin id (by rw [hqw]; exact List.mem_cons_self)
    rw [runsLen] at hin
    obtain ⟨k, rfl⟩ : ∃ k : Nat, id = (k : Int) + 1 := ⟨(id - 1).toNat, by omega⟩
    have hk : k < W.ps.length := by omega
    have hid1 : (1 : Int) ≤ (k : Int) + 1 := by omega
    have hid2 : (k : Int) + 1 ≤ W.wd.runs.length := by rw [runsLen]; omega
    have hfit := hok.run hid1 hid2
    rw [getR_ps hk] at hfit
    have hs1 : (W.ps[k]'hk).1.state = 1 := hfit.queue.1 (by
      rw [hfit.id, hqw]
      have e : (((k : Int) + 1 - 1).toNat : Int) + 1 = (k : Int) + 1 := by omega
      rw [e]
      exact List.mem_cons_self)
    have tf := turnFirst_turned hok hid1 hid2 (by rw [getR_ps hk]; exact hs1)
    have hres : doW W.wd = lastW (stepsN 3 (turnFirst W.wd ((k : Int) + 1)) ((k : Int) + 1)) ((k : Int) + 1) := by
      unfold doW
      rw [hqw]
    rw [hres]
    clear hres hfit
    have hroom1 : room (turnFirst W.wd ((k : Int) + 1)) + 3 ≤ 9999 := by have := tf.room; omega
    obtain ⟨S, hS⟩ : ∃ S, S = stepsN 3 (turnFirst W.wd ((k : Int) + 1)) ((k : Int) + 1) := ⟨_, rfl⟩
    rw [← hS]
    replace hS := Lib.hid hS
    obtain ⟨gr, hA, _, _⟩ := (Mem.rw_ (M.pull .here).unpackW).runs k hk
    obtain ⟨gq, hqA⟩ : ∃ gq, W.qA = some ⟨gq, 0, none⟩ := row_form (M.unpackW) (.there (.there .here)) (by rw [hqq]; simp)
    have hA2 : wArr W = #[.slice W.cA W.code.length W.cC, .slice (some ⟨gr, 0, none⟩) W.ps.length W.rC, .slice (some ⟨gq, 0, none⟩) W.queue.length W.qC, .int .i64 W.now, .int .i64 W.sent, .int .i64 W.taken, .int .i64 W.lost] := by simp only [wArr, hA, hqA]
    have HQ1 : Hid (∀ {U : World} {L1 L2 : List Asn}, Mem w0 f U L1 → Del (wld W) L1 L2 → U.cell? ⟨gq, 0, none⟩ = some (.int .i64 ((k : Int) + 1))) := fun {U L1 L2} M hd => by
      obtain ⟨ad, e, _, h⟩ := (Mem.rw_ (M.pull hd).unpackW).queue.int (j := 0) (by rw [hqq]; simp)
      rw [hqA] at e
      injection e with e
      subst e
      have e2 : W.queue[0]'(by rw [hqq]; simp) = (k : Int) + 1 := by simp only [hqq]; rfl
      rw [e2] at h
      exact h
    rw [hA2]
    have hql : W.queue.length = qs.length + 1 := by rw [hqq]; rfl
    have hq0 : ((W.queue.length : Int) == 0) = false := by
      rw [beq_eq_false_iff_ne]
      omega
    have hq1 : (0 : Int) < W.queue.length := by omega
    clear hql
    obtain ⟨p, hp⟩ : ∃ p, p = W.ps[k]'hk := ⟨_, rfl⟩
    obtain ⟨r, a⟩ := p
    have hR : Hid (∀ x, x = turnFirst W.wd ((k : Int) + 1) → x = turnFirst W.wd ((k : Int) + 1)) := fun _ h => h
    clear hR
    have wi : IntKind.i64.wrap ((k : Int) + 1 - 1) = (k : Int) := by rw [IntKind.wrap_i64]; omega
    have wj : IntKind.i64.wrap (k : Int) = (k : Int) := by rw [IntKind.wrap_i64]; omega
    have wt := wr_wrap (r.turns + 1)
    have i1 : (0 : Int) ≤ k := by omega
    have i2 : (k : Int) < W.ps.length := by omega
    replace hp := Lib.hid hp
    replace hA := Lib.hid hA
    replace hqA := Lib.hid hqA
    replace hA2 := Lib.hid hA2
    replace hs1 := Lib.hid hs1
    replace hqq := Lib.hid hqq
    replace hqw := Lib.hid hqw
    replace tf := Lib.hid tf
    replace hok := Lib.hid hok
    go_enter Try.func146, Try.ntmps146
    go_upto_region 1 with (first | (with_reducible refine alA M ?_; clear M; (try clear F); intro w1 M F))
    clear F
    rename_i u1 _ _ _ _
    generalize w.heap.size = g1 at M ⊢
    generalize u1.heap.size = g2 at M ⊢
    have Q0 := HQ1.out M dl
    (try clear F); have F := fx M
    go_upto_region 4 with fail
    clear Q0 F
    rw [← hqA.out] at M
    obtain ⟨pre, post, hps, hpl, hnn, M1⟩ := open_gr hA.out (M.sel (T := blk g1 tW [.slice W.cA W.code.length W.cC, .slice (some ⟨gr, 0, none⟩) W.ps.length W.rC, .slice W.qA W.queue.length W.qC, .int .i64 W.now, .int .i64 W.sent, .int .i64 W.taken, .int .i64 W.lost] :: wld W :: blk g2 tW [.slice none 0 0, .slice none 0 0, .slice none 0 0, .int .i64 0, .int .i64 0, .int .i64 0, .int .i64 0] :: L') (.cons (.there .here) (.cons (.there .here) .refl))) hk hp.out
    clear M
    have M := M1
    clear M1
    unfold opened at M
    replace hps := Lib.hid hps
    replace hpl := Lib.hid hpl
    replace hnn := Lib.hid hnn
    have E12 := (runAt_mid M dl hpl.out).2.2.2.2.2.2.2.2.2.2.2.2
    (refine held_begin (S := (fun W' => ∀ i, W'.cell? ⟨g1, i, none⟩ = ([.slice W.cA W.code.length W.cC, .slice (some ⟨gr, 0, none⟩) W.ps.length W.rC, .slice W.qA W.queue.length W.qC, .int .i64 W.now, .int .i64 W.sent, .int .i64 W.taken, .int .i64 W.lost] : List Value)[i]?)) (by kernel_rfl) (fun _ _ _ _ _ h => h) (by (exact kc)) (fun HQ hHeld => ?_))
    refine tkY HQ hHeld 0 ?_; refine tkY HQ hHeld 1 ?_; refine tkY HQ hHeld 2 ?_; refine tkY HQ hHeld 3 ?_; refine tkY HQ hHeld 4 ?_; refine tkY HQ hHeld 5 ?_; refine tkY HQ hHeld 6 ?_; refine tkY HQ hHeld 7 ?_; refine tkY HQ hHeld 8 ?_; refine tkY HQ hHeld 9 ?_
    refine stp 10 (fun K hK => ?_); go_simp
    (try go_wp2_with fail); refine hK.out _ _ (by (exact kc)) (fun hHeld => ?_); clear hK K; (try simp only [AX])
    clear E12
    obtain ⟨mt, hmt⟩ : ∃ x, x = mn_ (wr (r.turns + 1)) 9999 := ⟨_, rfl⟩
    have hmn : (if 9999 < wr (r.turns + 1) then 9999 else wr (r.turns + 1)) = mt := by
      rw [hmt]
      unfold mn_
      split <;> split <;> omega
    replace hmt := Lib.hid hmt
    refine tkY HQ hHeld 11 ?_
    refine stp 12 (fun K hK => ?_); go_simp
    (try go_wp2_with fail); refine hK.out _ _ (by (exact kc)) (fun hHeld => ?_); clear hK K; (try simp only [AX])
    refine tkY HQ hHeld 13 ?_; refine tkY HQ hHeld 14 ?_; clear hHeld; (refine nm (G := fun W => wpAnyH _ _ _ _ _ _ _ _ W) ?_; clear M; (try clear F); intro w1 M F)
    refine stp 15 (fun K hK => ?_)
    refine op_of_list rfl ?_; ((with_reducible apply ev_elem (enc := encR) (x' := (({ r with turns := mt }, a) : Rn × RA)) (j := 12) (k := k) (hk := encR_length) (M := M)); rfl; rfl; ((conv => lhs; whnf) <;> rfl); rfl; (first | exact siI | exact siB | exact siSI); rfl; (exact dl); (first | with_reducible rfl | with_reducible exact (Nat.add_zero _).symm); exact hpl.out; decide; exact rfl; clear M; intro w1 M; (try clear F); have F := fx M)
    (try go_wp2_with fail); refine hK.out _ _ (by (exact kc)) (fun hHeld => ?_); clear hK K; (try simp only [AX])
    refine wpAnyH_done (by kernel_rfl) ?_ _; clear HQ; (repeat clear hHeld)
    go_upto_region 5 with fail
    have M2 : Mem w0 f _ (opened g1 gr W.ps.length W.cA W.cC W.code W.rC pre post { r with turns := mt } a W.queue W.qA W.qC W.now W.sent W.taken W.lost (blk g2 tW [.slice none 0 0, .slice none 0 0, .slice none 0 0, .int .i64 0, .int .i64 0, .int .i64 0, .int .i64 0] :: L')) := M.sel (.cons (.there .here) (.cons .here .refl))
    clear M
    (try clear F)
    have M := close_at M2 hnn.out
    clear M2
    have hw : (⟨W.code, W.cA, W.cC, pre ++ (({ r with turns := mt }, a) : Rn × RA) :: post, some ⟨gr, 0, none⟩, W.rC, W.queue, W.qA, W.qC, W.now, W.sent, W.taken, W.lost⟩ : Wm).wd = turnFirst W.wd ((k : Int) + 1) := by
      rw [hmt.out]
      exact wd_mid hps.out hpl.out (fun r => { r with turns := mn_ (wr (r.turns + 1)) 9999 }) a _ _ _ _ _ _ _ _ _ _ _
    have hl1 : (⟨W.code, W.cA, W.cC, pre ++ (({ r with turns := mt }, a) : Rn × RA) :: post, some ⟨gr, 0, none⟩, W.rC, W.queue, W.qA, W.qC, W.now, W.sent, W.taken, W.lost⟩ : Wm).ps.length = W.ps.length := hnn.out _
    generalize (⟨W.code, W.cA, W.cC, pre ++ (({ r with turns := mt }, a) : Rn × RA) :: post, some ⟨gr, 0, none⟩, W.rC, W.queue, W.qA, W.qC, W.now, W.sent, W.taken, W.lost⟩ : Wm) = V0 at hw hl1 M
    have hV0 : Hid (WOk V0.wd ∧ room V0.wd + ((3 - 0 : Nat) : Int) ≤ 9999 ∧ k < V0.ps.length) := by
      show _ ∧ _ ∧ _
      rw [hw, hl1]
      exact ⟨tf.out.ok, by omega, hk⟩
    have hS0 : Hid (stepsN (3 - 0) V0.wd ((k : Int) + 1) = S) := by
      show _ = _
      rw [hw]
      exact hS.out.symm
    clear hmn hw hl1 wt
    replace hS := Lib.hid hS
    (try clear F); have F := fx M
    go_wp2
    go_loopg [4] 3 (fun gg v wr => ∃ (i : Nat) (V : Wm), i ≤ 3 ∧ 3 - i ≤ gg ∧ v = .int .i64 i ∧ Hid (stepsN (3 - i) V.wd ((k : Int) + 1) = S) ∧ Hid (WOk V.wd ∧ room V.wd + ((3 - i : Nat) : Int) ≤ 9999 ∧ k < V.ps.length) ∧ Hid (Mem w0 f wr (blk g1 tW (w7 V) :: wld V :: blk g2 tW [.slice none 0 0, .slice none 0 0, .slice none 0 0, .int .i64 0, .int .i64 0, .int .i64 0, .int .i64 0] :: L')))
    case atStart => exact ⟨0, V0, by omega, by omega, rfl, hS0, hV0, M⟩
    case round =>
      clear M F hS0 hV0
      clear V0
      obtain ⟨i, V, hi, hg, rfl, hSt, hV, M⟩ := hrel
      replace M := M.out
      obtain ⟨hokV, hrm, hkV⟩ := hV.out
      obtain ⟨gv, hAV, _, hat⟩ := (Mem.rw_ (M.pull (.there .here)).unpackW).runs k hkV
      have E5 := hat.2.2.2.2.2.1
      have hAV2 := arr_at hAV rfl
      replace M : Mem w0 f wr (blk g1 tW [.slice V.cA V.code.length V.cC, .slice V.rA V.ps.length V.rC, .slice V.qA V.queue.length V.qC, .int .i64 V.now, .int .i64 V.sent, .int .i64 V.taken, .int .i64 V.lost] :: wld V :: blk g2 tW [.slice none 0 0, .slice none 0 0, .slice none 0 0, .int .i64 0, .int .i64 0, .int .i64 0, .int .i64 0] :: L') := M
      rw [hAV] at M
      have hgV := getR_ps hkV
      have k2 : (k : Int) < V.ps.length := by omega
      clear hat hV
      replace hAV := Lib.hid hAV
      have j0 : (0 : Int) ≤ i := by omega
      by_cases h3 : i < 3
      · have j3 : (i : Int) < 3 := by omega
        obtain ⟨n, hn⟩ : ∃ n, 3 - i = n + 1 := ⟨2 - i, by omega⟩
        by_cases hst : (V.ps[k]'hkV).1.state = 1
        · --[2
          have hSn : stepsN (3 - i) V.wd ((k : Int) + 1) = stepsN n (stepW V.wd ((k : Int) + 1)) ((k : Int) + 1) := by
            rw [hn]
            show (if (getR V.wd.runs ((k : Int) + 1)).state = 1 then _ else _) = _
            rw [hgV, if_pos hst]
          have hrm2 : room V.wd < 9999 := by omega
          have ht := stepW_turned hokV hrm2 (id := (k : Int) + 1) (by omega) (by rw [runsLen]; omega) (by rw [hgV]; exact hst)
          have HSt : Hid (∀ {U : World} {L1 L2 : List Asn}, Mem w0 f U L1 → Del (wld V) L1 L2 → Calls Try.prog 153 #[.agg #[.slice V.cA V.code.length V.cC, .slice (some ⟨gv, 0, none⟩) V.ps.length V.rC, .slice V.qA V.queue.length V.qC, .int .i64 V.now, .int .i64 V.sent, .int .i64 V.taken, .int .i64 V.lost], .int .i64 ((k : Int) + 1)] U (WPost (stepW V.wd ((k : Int) + 1)) w0 f L2)) := fun {U L1 L2} M hd => by
            have h := sStep21 V k M hd hkV hokV hst hrm2
            rwa [hAV2] at h
          have hV2 : Hid (WOk (stepW V.wd ((k : Int) + 1)) ∧ room (stepW V.wd ((k : Int) + 1)) + ((3 - (i + 1) : Nat) : Int) ≤ 9999 ∧ V.ps.length ≤ (stepW V.wd ((k : Int) + 1)).runs.length) := ⟨ht.ok, by have := ht.room; omega, by have := ht.len; rwa [runsLen] at this⟩
          have hS2 : Hid (stepsN (3 - (i + 1)) (stepW V.wd ((k : Int) + 1)) ((k : Int) + 1) = S) := by
            show _ = _
            rw [show 3 - (i + 1) = n by omega, ← hSn]
            exact hSt.out
          rw [hst] at E5
          replace hAV2 := Lib.hid hAV2
          replace hgV := Lib.hid hgV
          have wv : IntKind.i64.wrap ((i : Int) + 1) = (i : Int) + 1 := by rw [IntKind.wrap_i64]; omega
          clear hSn hn hst hSt ht hokV
          (try clear F); have F := fx M
          go_wp2_with (first | ((with_reducible apply ev_store (M := M)); rfl; rfl; ((conv => lhs; whnf) <;> rfl); rfl; (first | exact siI | exact siR | exact siV | exact siB | exact siSI | exact siSV | exact siW | exact siSR | exact siSO | exact siO); (exact one_all rfl); (exact dl); (exact Nat.le_of_ble_eq_true rfl); clear M; intro w1 M; simp only [SX] at M; (try clear F); have F := fx M) | (go_at_call 153; (refine nmK ?_; clear M; (try clear F); intro w1 M F); refine (HSt.out M dl).mono ?_; clear M; rintro e w2 ⟨Y, hY, rfl, M⟩; replace hY := Lib.hid hY; (try clear F); have F := fx M))
          go_roundg (3 - (i + 1))
          case measure => omega
          case rel =>
            refine ⟨i + 1, Y, by omega, Nat.le_refl _, by go_num, by rw [hY.out]; exact hS2, ?_, M.sel (T := blk g1 tW (w7 Y) :: wld Y :: blk g2 tW [.slice none 0 0, .slice none 0 0, .slice none 0 0, .int .i64 0, .int .i64 0, .int .i64 0, .int .i64 0] :: L') .refl⟩
            show _ ∧ _ ∧ _
            rw [hY.out]
            refine ⟨hV2.out.1, hV2.out.2.1, ?_⟩
            have := hV2.out.2.2
            rw [← hY.out, runsLen] at this
            omega
          --]2
        · --[3
          have hSn : V.wd = S := by
            rw [← hSt.out, hn]
            show _ = (if (getR V.wd.runs ((k : Int) + 1)).state = 1 then _ else _)
            rw [hgV, if_neg hst]
          have hfin : Hid (V.wd = lastW S ((k : Int) + 1)) := by
            show _ = _
            rw [← hSn]
            unfold lastW
            rw [hgV, if_neg hst]
          have b1 : ((V.ps[k]'hkV).1.state == 1) = false := by simpa using hst
          replace hAV2 := Lib.hid hAV2
          replace hgV := Lib.hid hgV
          generalize (V.ps[k]'hkV).1.state = st at E5 b1
          clear hSn hst hn hSt hokV
          ((try clear F); have F := fx M; go_wp2_with (first | ((with_reducible apply ev_store (M := M)); rfl; rfl; ((conv => lhs; whnf) <;> rfl); rfl; (first | exact siI | exact siR | exact siV | exact siB | exact siSI | exact siSV | exact siW | exact siSR | exact siSO | exact siO); (exact one_all rfl); (exact dl); (exact Nat.le_of_ble_eq_true rfl); clear M; intro w1 M; simp only [SX] at M; (try clear F); have F := fx M)); apply ret_cell (M := M); rfl; rfl; (exact dl); (first | exact agR | exact agV | exact agW | exact agO); (first | exact siI | exact siR | exact siV | exact siB | exact siSI | exact siSV | exact siW | exact siSR | exact siSO | exact siO); rfl; exact ⟨V, hfin.out, congrArg (fun x => Ending.returned (.agg x)) hAV2.out.symm, M.sel (.drop (.drop (.cons .here .refl)))⟩)
          --]3
      · have hi3 : 3 - i = 0 := by omega
        have j9 : ¬ ((i : Int) < 3) := by omega
        have hSn : V.wd = S := by
          have h := hSt.out
          rw [hi3] at h
          exact h
        clear hi3 h3
        by_cases hst : (V.ps[k]'hkV).1.state = 1
        · --[4
          have hq6V : V.queue.length ≤ 6 := wok_queue (worldOk_iff.2 hokV)
          have hfin : Hid ((⟨V.code, V.wd.runs, less V.queue ((k : Int) + 1) ++ [(k : Int) + 1], V.now, V.sent, V.taken, V.lost⟩ : Wd) = lastW S ((k : Int) + 1)) := by
            show _ = _
            rw [← hSn]
            unfold lastW
            rw [hgV, if_pos hst]
            rfl
          have HLQ : Hid (∀ {U : World} {L1 L2 : List Asn}, Mem w0 f U L1 → Del (row encI 1 tI V.qA V.qC V.queue) L1 L2 → Calls Try.prog 154 #[.slice V.qA V.queue.length V.qC, .int .i64 ((k : Int) + 1)] U (fun e w' => ∃ (A' : Option Addr) (c' : Nat), e = .returned (.slice A' (less V.queue ((k : Int) + 1)).length c') ∧ Mem U [] w' [rowI A' c' (less V.queue ((k : Int) + 1))])) := fun {U L1 L2} M hd => sLess V.queue ((k : Int) + 1) V.qA V.qC U.heap.size U (readsI M hd) (Nat.le_refl _) (by omega)
          have hlq : (less V.queue ((k : Int) + 1)).length ≤ 6 := Nat.le_trans (less_le V.queue _) hq6V
          rw [hst] at E5
          replace hAV2 := Lib.hid hAV2
          replace hgV := Lib.hid hgV
          clear hSn hst hSt hokV
          (try clear F); have F := fx M
          go_upto_region 10 with fail
          clear E5 F
          replace M := (M.sel (T := wld V :: blk g1 tW [.slice V.cA V.code.length V.cC, .slice (some ⟨gv, 0, none⟩) V.ps.length V.rC, .slice V.qA V.queue.length V.qC, .int .i64 V.now, .int .i64 V.sent, .int .i64 V.taken, .int .i64 V.lost] :: blk g2 tW [.slice none 0 0, .slice none 0 0, .slice none 0 0, .int .i64 0, .int .i64 0, .int .i64 0, .int .i64 0] :: L') (.cons (.there .here) .refl)).unpackW
          unfold rowO rowR rowI at M
          (try clear F); have F := fx M
          go_wp2_with (first | ((with_reducible refine alA M ?_; clear M; (try clear F); intro w1 M F); ((with_reducible apply ev_app1 (enc := encI) (v := (k : Int) + 1) (hk := encI_length) (hone := oneIx) (h0 := by decide) (hinfo := infIx) (ht := Try.underlying23) (M := M)); rfl; rfl; (exact dl); (exact dl); rfl; rfl; (first | exact Nat.le_of_ble_eq_true rfl | omega); (exact Nat.le_of_ble_eq_true rfl); clear M; intro A1 c1 w1 M; replace M := Mem.perm M (.swap _ _ _) |> Mem.drop; (try clear F); have F := fx M)) | ((with_reducible apply ev_store (M := M)); rfl; rfl; ((conv => lhs; whnf) <;> rfl); rfl; (first | exact siI | exact siR | exact siV | exact siB | exact siSI | exact siSV | exact siW | exact siSR | exact siSO | exact siO); (exact one_all rfl); (exact dl); (exact Nat.le_of_ble_eq_true rfl); clear M; intro w1 M; simp only [SX] at M; (try clear F); have F := fx M) | (go_at_call 154; (refine nmK ?_; clear M; (try clear F); intro w1 M F); refine (HLQ.out M dl).mono ?_; rintro e w2 ⟨Aq, cq, rfl, hm2⟩; replace M := M.call0 hm2; clear hm2; unfold rowI at M; (try clear F); have F := fx M))
          apply ret_cell (M := M); rfl; rfl; (exact dl); (first | exact agR | exact agV | exact agW | exact agO); (first | exact siI | exact siR | exact siV | exact siB | exact siSI | exact siSV | exact siW | exact siSR | exact siSO | exact siO); rfl
          refine ⟨⟨V.code, V.cA, V.cC, V.ps, V.rA, V.rC, less V.queue ((k : Int) + 1) ++ [(k : Int) + 1], A1, c1, V.now, V.sent, V.taken, V.lost⟩, hfin.out, ?_, ?_⟩
          · simp only [wArr, List.length_append, List.length_singleton, hAV.out]
          · exact Mem.packW (W := ⟨V.code, V.cA, V.cC, V.ps, V.rA, V.rC, less V.queue ((k : Int) + 1) ++ [(k : Int) + 1], A1, c1, V.now, V.sent, V.taken, V.lost⟩) (M.sel (.cons (.there (.there (.there .here))) (.cons (.there (.there (.there .here))) (.cons (.there (.there .here)) (.cons (.there (.there (.there .here))) (.drop (.drop (.drop .refl))))))))
          --]4
        · --[5
          have hfin : Hid (V.wd = lastW S ((k : Int) + 1)) := by
            show _ = _
            rw [← hSn]
            unfold lastW
            rw [hgV, if_neg hst]
          have b1 : ((V.ps[k]'hkV).1.state == 1) = false := by simpa using hst
          replace hAV2 := Lib.hid hAV2
          replace hgV := Lib.hid hgV
          generalize (V.ps[k]'hkV).1.state = st at E5 b1
          clear hSn hst hSt hokV
          ((try clear F); have F := fx M; go_upto_region 11 with fail; go_wp2_with (first | ((with_reducible apply ev_store (M := M)); rfl; rfl; ((conv => lhs; whnf) <;> rfl); rfl; (first | exact siI | exact siR | exact siV | exact siB | exact siSI | exact siSV | exact siW | exact siSR | exact siSO | exact siO); (exact one_all rfl); (exact dl); (exact Nat.le_of_ble_eq_true rfl); clear M; intro w1 M; simp only [SX] at M; (try clear F); have F := fx M)); apply ret_cell (M := M); rfl; rfl; (exact dl); (first | exact agR | exact agV | exact agW | exact agO); (first | exact siI | exact siR | exact siV | exact siB | exact siSI | exact siSV | exact siW | exact siSR | exact siSO | exact siO); rfl; exact ⟨V, hfin.out, congrArg (fun x => Ending.returned (.agg x)) hAV2.out.symm, M.sel (.drop (.drop (.cons .here .refl)))⟩)
          --]5
end Go.Proofs.Ytmidnaafljgbiaa
/- Time goes on, by the reference. -/
namespace Go.Proofs.Ytmidnaafljgbiaa
open Go.RowKit
set_option maxRecDepth 100000

set_option maxHeartbeats 8000000 in
theorem sTick21 (W : Wm) {w0 w : World} {f : List Nat} {L L' : List Asn} (M : Mem w0 f w L) (hd : Del (wld W) L L') (hn : W.ps.length ≤ 6) (hq : W.queue.length ≤ 6) :
    Calls Try.prog 147 #[.agg (wArr W)] w (WPost (tickW W.wd) w0 f L') := by
  have AL := add_lit0
  replace M := M.pull hd
  clear hd
  by_cases h2 : 250 ≤ W.now
  · --[1
    have hres : tickW W.wd = W.wd := by unfold tickW; rw [if_pos (show 250 ≤ W.wd.now from h2)]
    rw [hres]
    clear hres
    go_enter Try.func147, Try.ntmps147
    go_wp2_with (first | (with_reducible refine alA M ?_; clear M; (try clear F); intro w1 M F) | ((with_reducible apply ev_store (M := M)); rfl; rfl; ((conv => lhs; whnf) <;> rfl); rfl; (first | exact siI | exact siR | exact siV | exact siB | exact siSI | exact siSV | exact siW | exact siSR | exact siSO | exact siO); (exact one_all rfl); (exact dl); (exact Nat.le_of_ble_eq_true rfl); clear M; intro w1 M; simp only [SX] at M; (try clear F); have F := fx M))
    apply ret_cell (M := M); rfl; rfl; (exact dl); (first | exact agR | exact agV | exact agW | exact agO); (first | exact siI | exact siR | exact siV | exact siB | exact siSI | exact siSV | exact siW | exact siSR | exact siSO | exact siO); rfl
    exact ⟨W, rfl, rfl, M.sel (.drop (.drop (.cons .here .refl)))⟩
    --]1
  · have hres : tickW W.wd = tickFrom W.ps.length { W.wd with now := wr (W.now + 1) } 1 := by
      unfold tickW
      rw [if_neg (show ¬ 250 ≤ W.wd.now from h2), runsLen]
      rfl
    rw [hres]
    clear hres
    have wn := wr_wrap (W.now + 1)
    generalize wr (W.now + 1) = nw at wn ⊢
    obtain ⟨n, hnn⟩ : ∃ n, n = W.ps.length := ⟨_, rfl⟩
    obtain ⟨S, hS⟩ : ∃ S, S = tickFrom W.ps.length { W.wd with now := nw } 1 := ⟨_, rfl⟩
    rw [← hS]
    replace hS := Lib.hid hS
    replace hnn := Lib.hid hnn
    go_enter Try.func147, Try.ntmps147
    go_upto_region 1 with (first | (with_reducible refine alA M ?_; clear M; (try clear F); intro w1 M F))
    clear F
    rename_i u1 _ _ _ _
    generalize w.heap.size = g1 at M ⊢
    generalize u1.heap.size = g2 at M ⊢
    (try clear F); have F := fx M
    go_upto_region 4 with (first | ((with_reducible apply ev_store (M := M)); rfl; rfl; ((conv => lhs; whnf) <;> rfl); rfl; (first | exact siI | exact siR | exact siV | exact siB | exact siSI | exact siSV | exact siW | exact siSR | exact siSO | exact siO); (exact one_all rfl); (exact dl); (exact Nat.le_of_ble_eq_true rfl); clear M; intro w1 M; simp only [SX] at M; (try clear F); have F := fx M))
    clear F
    have M0 : Mem w0 f _ (blk g1 tW (w7 { W with now := nw }) :: wld { W with now := nw } :: blk g2 tW [.slice none 0 0, .slice none 0 0, .slice none 0 0, .int .i64 0, .int .i64 0, .int .i64 0, .int .i64 0] :: L') := M.sel (.cons .here (.cons (.there .here) .refl))
    clear M
    have M := M0
    clear M0
    have hS0 : Hid (tickFrom (n - 0) (Wm.wd { W with now := nw }) 1 = S) := by
      show _ = _
      rw [hS.out, hnn.out]
      rfl
    have hV0 : Hid ((Wm.ps { W with now := nw }).length = n ∧ (Wm.queue { W with now := nw }).length ≤ 6 + 0) := ⟨hnn.out.symm, hq⟩
    have hn6 : n ≤ 6 := by rw [hnn.out]; exact hn
    generalize ({ W with now := nw } : Wm) = V0 at M hS0 hV0
    (try clear F); have F := fx M
    go_wp2
    go_loopg [3] n (fun gg v wr => ∃ (j : Nat) (V : Wm), j ≤ n ∧ n - j ≤ gg ∧ v = .int .i64 j ∧ Hid (tickFrom (n - j) V.wd ((j : Int) + 1) = S) ∧ Hid (V.ps.length = n ∧ V.queue.length ≤ 6 + j) ∧ Hid (Mem w0 f wr (blk g1 tW (w7 V) :: wld V :: blk g2 tW [.slice none 0 0, .slice none 0 0, .slice none 0 0, .int .i64 0, .int .i64 0, .int .i64 0, .int .i64 0] :: L')))
    case atStart => exact ⟨0, V0, by omega, by omega, rfl, hS0, hV0, M⟩
    case round =>
      clear M F hS0 hV0
      clear V0
      obtain ⟨j, V, hj, hg, rfl, hSt, hV, M⟩ := hrel
      replace M := M.out
      obtain ⟨hVn, hVq⟩ := hV.out
      have j0 : (0 : Int) ≤ j := by omega
      by_cases hlt : j < n
      · have j1 : (j : Int) < V.ps.length := by omega
        have hk : j < V.ps.length := by omega
        obtain ⟨gv, hAV, _, hat⟩ := (Mem.rw_ (M.pull (.there .here)).unpackW).runs j hk
        obtain ⟨m, hm⟩ : ∃ m, n - j = m + 1 := ⟨n - j - 1, by omega⟩
        obtain ⟨⟨r, a⟩, hp⟩ : ∃ p, p = V.ps[j]'hk := ⟨_, rfl⟩
        have HE : Hid (∀ {U : World} {L1 L2 : List Asn}, Mem w0 f U L1 → Del (wld V) L1 L2 → U.cell? ⟨gv, j * 13 + 5, none⟩ = some (.int .i64 r.state) ∧ U.cell? ⟨gv, j * 13 + 6, none⟩ = some (.int .i64 r.due)) := fun {U L1 L2} M hd => by
          obtain ⟨g', hA', _, E⟩ := (Mem.rw_ (M.pull hd).unpackW).runs j hk
          obtain rfl : gv = g' := by
            rw [hAV] at hA'
            injection hA' with e
            injection e with e
          rw [← hp] at E
          exact ⟨E.2.2.2.2.2.1, E.2.2.2.2.2.2.1⟩
        have hgV : getR V.wd.runs ((j : Int) + 1) = r := by rw [getR_ps hk, ← hp]
        have hSn : tickFrom m (if (r.state == 2 && r.due == V.now) then wake V.wd ((j : Int) + 1) else V.wd) ((j : Int) + 1 + 1) = S := by
          rw [← hSt.out, hm]
          show _ = tickFrom m (if tickHit V.wd ((j : Int) + 1) then _ else _) _
          unfold tickHit
          rw [hgV]
          rfl
        replace M : Mem w0 f wr (blk g1 tW [.slice V.cA V.code.length V.cC, .slice V.rA V.ps.length V.rC, .slice V.qA V.queue.length V.qC, .int .i64 V.now, .int .i64 V.sent, .int .i64 V.taken, .int .i64 V.lost] :: wld V :: blk g2 tW [.slice none 0 0, .slice none 0 0, .slice none 0 0, .int .i64 0, .int .i64 0, .int .i64 0, .int .i64 0] :: L') := M
        rw [hAV] at M
        have wv : IntKind.i64.wrap ((j : Int) + 1) = (j : Int) + 1 := by rw [IntKind.wrap_i64]; omega
        have wu : IntKind.i64.wrap (j : Int) = (j : Int) := by rw [IntKind.wrap_i64]; omega
        clear hat hSt hV hgV
        replace hVn := Lib.hid hVn
        replace hAV := Lib.hid hAV
        replace hp := Lib.hid hp
        obtain ⟨st, hst⟩ : ∃ x, x = r.state := ⟨_, rfl⟩
        obtain ⟨du, hdu⟩ : ∃ x, x = r.due := ⟨_, rfl⟩
        rw [← hst, ← hdu] at HE hSn
        replace hst := Lib.hid hst
        replace hdu := Lib.hid hdu
        by_cases h1 : st = 2
        · have b1 : (st == 2) = true := by simpa using h1
          rw [b1, Bool.true_and] at hSn
          clear h1
          (try clear F); have F := fx M
          go_upto_region 7 with fail
          clear F
          (refine held_begin (S := (fun W' => (∀ i, W'.cell? ⟨g1, i, none⟩ = ([.slice V.cA V.code.length V.cC, .slice (some ⟨gv, 0, none⟩) V.ps.length V.rC, .slice V.qA V.queue.length V.qC, .int .i64 V.now, .int .i64 V.sent, .int .i64 V.taken, .int .i64 V.lost] : List Value)[i]?) ∧ W'.cell? ⟨gv, j * 13 + 5, none⟩ = some (.int .i64 st) ∧ W'.cell? ⟨gv, j * 13 + 6, none⟩ = some (.int .i64 du))) (by kernel_rfl) (fun _ _ _ _ _ h => h) (by (exact ⟨kc, HE.out mb dl⟩)) (fun HQ hHeld => ?_))
          refine tkY HQ hHeld 0 ?_; refine tkY HQ hHeld 1 ?_; refine tkY HQ hHeld 2 ?_; refine tkY HQ hHeld 3 ?_; refine tkY HQ hHeld 4 ?_; refine tkY HQ hHeld 5 ?_; refine tkY HQ hHeld 6 ?_; refine tkY HQ hHeld 7 ?_
          refine tkY HQ hHeld 8 ?_; refine tkY HQ hHeld 9 ?_; refine tkY HQ hHeld 10 ?_; refine tkY HQ hHeld 11 ?_; refine tkY HQ hHeld 12 ?_; refine tkY HQ hHeld 13 ?_; refine tkY HQ hHeld 14 ?_; refine tkY HQ hHeld 15 ?_; refine tkY HQ hHeld 16 ?_; refine tkY HQ hHeld 17 ?_
          refine wpAnyH_done (by kernel_rfl) ?_ _; clear HQ; (repeat clear hHeld)
          cases b2 : (du == V.now) with
          | true =>
            --[3
            rw [b2] at hSn
            simp only [if_true] at hSn
            obtain ⟨pre, post, hps, hpl, hnn2, M1⟩ := open_gr hAV.out (Mem.drew M) hk hp.out
            clear M
            have M := M1
            clear M1
            unfold opened at M
            replace hps := Lib.hid hps
            replace hpl := Lib.hid hpl
            replace hnn2 := Lib.hid hnn2
            replace hSn := Lib.hid hSn
            (try clear F); have F := fx M
            go_upto_region 6 with (first | ((with_reducible refine alA M ?_; clear M; (try clear F); intro w1 M F); ((with_reducible apply ev_app1 (enc := encI) (v := (j : Int) + 1) (hk := encI_length) (hone := oneIx) (h0 := by decide) (hinfo := infIx) (ht := Try.underlying23) (M := M)); rfl; rfl; (exact dl); (exact dl); rfl; rfl; (first | exact Nat.le_of_ble_eq_true rfl | omega); (exact Nat.le_of_ble_eq_true rfl); clear M; intro A1 c1 w1 M; replace M := Mem.perm M (.swap _ _ _) |> Mem.drop; (try clear F); have F := fx M)) | ((with_reducible apply ev_store (M := M)); rfl; rfl; ((conv => lhs; whnf) <;> rfl); rfl; (first | exact siI | exact siR | exact siV | exact siB | exact siSI | exact siSV | exact siW | exact siSR | exact siSO | exact siO); (exact one_all rfl); (exact dl); (exact Nat.le_of_ble_eq_true rfl); clear M; intro w1 M; simp only [SX] at M; (try clear F); have F := fx M) | ((with_reducible apply ev_elem (enc := encR) (x' := (({ r with state := 1 }, a) : Rn × RA)) (j := 5) (k := j) (hk := encR_length) (M := M)); rfl; rfl; ((conv => lhs; whnf) <;> rfl); rfl; (first | exact siI | exact siB | exact siSI); rfl; (exact dl); (first | with_reducible rfl | with_reducible exact (Nat.add_zero _).symm); exact hpl.out; decide; exact rfl; clear M; intro w1 M; (try clear F); have F := fx M) | ((with_reducible apply ev_elem (enc := encR) (x' := (({ { r with state := 1 } with due := -1 }, a) : Rn × RA)) (j := 6) (k := j) (hk := encR_length) (M := M)); rfl; rfl; ((conv => lhs; whnf) <;> rfl); rfl; (first | exact siI | exact siB | exact siSI); rfl; (exact dl); (first | with_reducible rfl | with_reducible exact (Nat.add_zero _).symm); exact hpl.out; decide; exact rfl; clear M; intro w1 M; (try clear F); have F := fx M))
            have e9 : V.queue.length + 1 = (V.queue ++ [(j : Int) + 1]).length := by simp
            rw [e9] at M
            have M2 : Mem w0 f _ (opened g1 gv V.ps.length V.cA V.cC V.code V.rC pre post ({ r with state := 1, due := -1 } : Rn) a (V.queue ++ [(j : Int) + 1]) A1 c1 V.now V.sent V.taken V.lost (blk g2 tW [.slice none 0 0, .slice none 0 0, .slice none 0 0, .int .i64 0, .int .i64 0, .int .i64 0, .int .i64 0] :: L')) := M.sel (.cons .here (.cons (.there .here) (.cons (.there .here) (.cons (.there .here) (.cons (.there .here) (.cons (.there .here) (.cons (.there .here) (.cons (.there .here) (.cons .here .refl)))))))))
            have M3 := close_at M2 hnn2.out
            clear M2
            have hw := wd_mid hps.out hpl.out (fun r => { r with state := 1, due := -1 }) a V.cA (some ⟨gv, 0, none⟩) A1 V.cC V.rC c1 (V.queue ++ [(j : Int) + 1]) V.now V.sent V.taken V.lost
            have hS2 : Hid (tickFrom (n - (j + 1)) (⟨V.code, V.cA, V.cC, pre ++ (({ r with state := 1, due := -1 }, a) : Rn × RA) :: post, some ⟨gv, 0, none⟩, V.rC, V.queue ++ [(j : Int) + 1], A1, c1, V.now, V.sent, V.taken, V.lost⟩ : Wm).wd (((j + 1 : Nat) : Int) + 1) = S) := by
              show _ = _
              rw [hw, ← hSn.out, show n - (j + 1) = m by omega]
              rfl
            have hV2 : Hid ((⟨V.code, V.cA, V.cC, pre ++ (({ r with state := 1, due := -1 }, a) : Rn × RA) :: post, some ⟨gv, 0, none⟩, V.rC, V.queue ++ [(j : Int) + 1], A1, c1, V.now, V.sent, V.taken, V.lost⟩ : Wm).ps.length = n ∧ (⟨V.code, V.cA, V.cC, pre ++ (({ r with state := 1, due := -1 }, a) : Rn × RA) :: post, some ⟨gv, 0, none⟩, V.rC, V.queue ++ [(j : Int) + 1], A1, c1, V.now, V.sent, V.taken, V.lost⟩ : Wm).queue.length ≤ 6 + (j + 1)) := ⟨(hnn2.out _).trans hVn.out, by rw [← e9]; omega⟩
            go_wp2
            go_roundg (n - (j + 1))
            case measure => omega
            case rel => exact ⟨j + 1, (⟨V.code, V.cA, V.cC, pre ++ (({ r with state := 1, due := -1 }, a) : Rn × RA) :: post, some ⟨gv, 0, none⟩, V.rC, V.queue ++ [(j : Int) + 1], A1, c1, V.now, V.sent, V.taken, V.lost⟩ : Wm), by omega, Nat.le_refl _, by go_num, hS2, hV2, M3⟩
            --]3
          | false =>
            --[4
            rw [b2] at hSn
            have hS2 : Hid (tickFrom (n - (j + 1)) V.wd (((j + 1 : Nat) : Int) + 1) = S) := by
              show _ = _
              rw [← hSn, show n - (j + 1) = m by omega]
              rfl
            clear hSn
            replace M := Mem.drew M
            (try clear F); have F := fx M
            go_wp2
            go_roundg (n - (j + 1))
            case measure => omega
            case rel => exact ⟨j + 1, V, by omega, Nat.le_refl _, by go_num, hS2, ⟨hVn.out, by omega⟩, by rw [← hAV.out] at M; exact M⟩
            --]4
        · --[5
          have b1 : (st == 2) = false := by simpa using h1
          rw [b1, Bool.false_and] at hSn
          clear h1
          (try clear F); have F := fx M
          go_upto_region 7 with fail
          clear F
          (refine held_begin (S := (fun W' => (∀ i, W'.cell? ⟨g1, i, none⟩ = ([.slice V.cA V.code.length V.cC, .slice (some ⟨gv, 0, none⟩) V.ps.length V.rC, .slice V.qA V.queue.length V.qC, .int .i64 V.now, .int .i64 V.sent, .int .i64 V.taken, .int .i64 V.lost] : List Value)[i]?) ∧ W'.cell? ⟨gv, j * 13 + 5, none⟩ = some (.int .i64 st) ∧ W'.cell? ⟨gv, j * 13 + 6, none⟩ = some (.int .i64 du))) (by kernel_rfl) (fun _ _ _ _ _ h => h) (by (exact ⟨kc, HE.out mb dl⟩)) (fun HQ hHeld => ?_))
          refine tkY HQ hHeld 0 ?_; refine tkY HQ hHeld 1 ?_; refine tkY HQ hHeld 2 ?_; refine tkY HQ hHeld 3 ?_; refine tkY HQ hHeld 4 ?_; refine tkY HQ hHeld 5 ?_; refine tkY HQ hHeld 6 ?_; refine tkY HQ hHeld 7 ?_
          refine tkN HQ hHeld 8 ?_; refine tkN HQ hHeld 9 ?_; refine tkN HQ hHeld 10 ?_; refine tkN HQ hHeld 11 ?_; refine tkN HQ hHeld 12 ?_; refine tkN HQ hHeld 13 ?_; refine tkN HQ hHeld 14 ?_; refine tkN HQ hHeld 15 ?_; refine tkN HQ hHeld 16 ?_; refine tkY HQ hHeld 17 ?_
          refine wpAnyH_done (by kernel_rfl) ?_ _; clear HQ; (repeat clear hHeld)
          have hS2 : Hid (tickFrom (n - (j + 1)) V.wd (((j + 1 : Nat) : Int) + 1) = S) := by
            show _ = _
            rw [← hSn, show n - (j + 1) = m by omega]
            rfl
          clear hSn
          replace M := Mem.drew M
          (try clear F); have F := fx M
          go_wp2
          go_roundg (n - (j + 1))
          case measure => omega
          case rel => exact ⟨j + 1, V, by omega, Nat.le_refl _, by go_num, hS2, ⟨hVn.out, by omega⟩, by rw [← hAV.out] at M; exact M⟩
          --]5
      · --[2
        have hjn : n - j = 0 := by omega
        have hSn : V.wd = S := by
          have h := hSt.out
          rw [hjn] at h
          exact h
        have j1 : ¬ ((j : Int) < V.ps.length) := by omega
        replace hVn := Lib.hid hVn
        replace hSn := Lib.hid hSn
        clear hV hSt hjn
        replace M : Mem w0 f wr (blk g1 tW [.slice V.cA V.code.length V.cC, .slice V.rA V.ps.length V.rC, .slice V.qA V.queue.length V.qC, .int .i64 V.now, .int .i64 V.sent, .int .i64 V.taken, .int .i64 V.lost] :: wld V :: blk g2 tW [.slice none 0 0, .slice none 0 0, .slice none 0 0, .int .i64 0, .int .i64 0, .int .i64 0, .int .i64 0] :: L') := M
        (try clear F); have F := fx M
        go_upto_region 11 with fail
        go_wp2_with (first | ((with_reducible apply ev_store (M := M)); rfl; rfl; ((conv => lhs; whnf) <;> rfl); rfl; (first | exact siI | exact siR | exact siV | exact siB | exact siSI | exact siSV | exact siW | exact siSR | exact siSO | exact siO); (exact one_all rfl); (exact dl); (exact Nat.le_of_ble_eq_true rfl); clear M; intro w1 M; simp only [SX] at M; (try clear F); have F := fx M))
        apply ret_cell (M := M); rfl; rfl; (exact dl); (first | exact agR | exact agV | exact agW | exact agO); (first | exact siI | exact siR | exact siV | exact siB | exact siSI | exact siSV | exact siW | exact siSR | exact siSO | exact siO); rfl
        exact ⟨V, hSn.out, rfl, M.sel (.drop (.drop (.cons .here .refl)))⟩
        --]2
end Go.Proofs.Ytmidnaafljgbiaa
/- An event, by the reference. -/
namespace Go.Proofs.Ytmidnaafljgbiaa
open Go.RowKit
set_option maxRecDepth 100000

set_option maxHeartbeats 8000000 in
theorem sEvent (W : Wm) (kk aa : Int) (v : Vl) {w0 w : World} {f : List Nat} {L L' : List Asn} (M : Mem w0 f w L) (hd : Del (wld W) L L') (hok : WOk W.wd) (hroom : room W.wd + 3 ≤ 9999) :
    Calls Try.prog 139 #[.agg (wArr W), .agg #[.int .i64 kk, .int .i64 aa, .int .i64 v.k, .int .i64 v.n]] w (WPost (eventW W.wd kk aa v) w0 f L') := by
  have AL := add_lit0
  replace M := M.pull hd
  clear hd
  have hps6 : W.ps.length ≤ 6 := by have := hok.len.2; rwa [runsLen] at this
  have hq6 : W.queue.length ≤ 6 := wok_queue (worldOk_iff.2 hok)
  obtain ⟨hrm1, hrm2⟩ := room_sent hok
  have HV := Lib.hid (fun V => sValOk v V)
  have HI := Lib.hid (fun V => sIn aa 1 W.ps.length V)
  have CD : Hid (∀ {U : World} {L1 L2 : List Asn}, Mem w0 f U L1 → Del (wld W) L1 L2 → Calls Try.prog 146 #[.agg (wArr W)] U (WPost (doW W.wd) w0 f L2)) := fun {U L1 L2} M hd => sDo21 W M hd hok hroom
  have CK : Hid (∀ {U : World} {L1 L2 : List Asn}, Mem w0 f U L1 → Del (wld W) L1 L2 → Calls Try.prog 147 #[.agg (wArr W)] U (WPost (tickW W.wd) w0 f L2)) := fun {U L1 L2} M hd => sTick21 W M hd hps6 hq6
  have CG : Hid (∀ {U : World} {L1 L2 : List Asn}, Mem w0 f U L1 → Del (wld W) L1 L2 → Calls Try.prog 148 #[.agg (wArr W), .int .i64 aa, .agg #[.int .i64 v.k, .int .i64 v.n]] U (WPost (give W.wd aa v) w0 f L2)) := fun {U L1 L2} M hd => giveMid W W.wd rfl W.ps.length 6 (by have := MidW.of hok; rwa [runsLen] at this) (by omega) (by omega) aa v M hd
  unfold eventW
  by_cases k1 : kk = 1
  · --[1
    subst k1
    rw [if_pos rfl]
    obtain ⟨vk, vn⟩ := v
    simp only at *
    go_enter Try.func139, Try.ntmps139
    go_wp2_with (first | (with_reducible refine alA M ?_; clear M; (try clear F); intro w1 M F) | ((with_reducible apply ev_store (M := M)); rfl; rfl; ((conv => lhs; whnf) <;> rfl); rfl; (first | exact siI | exact siR | exact siV | exact siB | exact siSI | exact siSV | exact siW | exact siSR | exact siSO | exact siO); (exact one_all rfl); (exact dl); (exact Nat.le_of_ble_eq_true rfl); clear M; intro w1 M; simp only [SX] at M; (try clear F); have F := fx M) | (go_at_call 146; (refine nmK ?_; clear M; (try clear F); intro w1 M F); refine (CD.out M dl).mono ?_; clear M; rintro e w2 ⟨Y, hY, rfl, M⟩; replace hY := Lib.hid hY; (try clear F); have F := fx M))
    (apply ret_cell (M := M); rfl; rfl; (exact dl); (first | exact agR | exact agV | exact agW | exact agO); (first | exact siI | exact siR | exact siV | exact siB | exact siSI | exact siSV | exact siW | exact siSR | exact siSO | exact siO); rfl; exact ⟨Y, hY.out, rfl, M.sel (.drop (.cons .here (.drop (.drop .refl))))⟩)
    --]1
  · by_cases k2 : kk = 2
    · --[2
      subst k2
      rw [if_neg (by decide), if_pos rfl]
      obtain ⟨vk, vn⟩ := v
      simp only at *
      go_enter Try.func139, Try.ntmps139
      go_wp2_with (first | (with_reducible refine alA M ?_; clear M; (try clear F); intro w1 M F) | ((with_reducible apply ev_store (M := M)); rfl; rfl; ((conv => lhs; whnf) <;> rfl); rfl; (first | exact siI | exact siR | exact siV | exact siB | exact siSI | exact siSV | exact siW | exact siSR | exact siSO | exact siO); (exact one_all rfl); (exact dl); (exact Nat.le_of_ble_eq_true rfl); clear M; intro w1 M; simp only [SX] at M; (try clear F); have F := fx M) | (go_at_call 147; (refine nmK ?_; clear M; (try clear F); intro w1 M F); refine (CK.out M dl).mono ?_; clear M; rintro e w2 ⟨Y, hY, rfl, M⟩; replace hY := Lib.hid hY; (try clear F); have F := fx M))
      (apply ret_cell (M := M); rfl; rfl; (exact dl); (first | exact agR | exact agV | exact agW | exact agO); (first | exact siI | exact siR | exact siV | exact siB | exact siSI | exact siSV | exact siW | exact siSR | exact siSO | exact siO); rfl; exact ⟨Y, hY.out, rfl, M.sel (.drop (.cons .here (.drop (.drop .refl))))⟩)
      --]2
    · by_cases k3 : kk = 3
      · --[3
        subst k3
        rw [if_neg (by decide), if_neg (by decide), if_pos rfl]
        cases hv : valOk v with
        | true =>
          rw [hv] at HV
          rw [if_pos rfl]
          clear hv
          obtain ⟨vk, vn⟩ := v
          simp only at *
          go_enter Try.func139, Try.ntmps139
          go_wp2_with (first | (with_reducible refine alA M ?_; clear M; (try clear F); intro w1 M F) | ((with_reducible apply ev_store (M := M)); rfl; rfl; ((conv => lhs; whnf) <;> rfl); rfl; (first | exact siI | exact siR | exact siV | exact siB | exact siSI | exact siSV | exact siW | exact siSR | exact siSO | exact siO); (exact one_all rfl); (exact dl); (exact Nat.le_of_ble_eq_true rfl); clear M; intro w1 M; simp only [SX] at M; (try clear F); have F := fx M) | (go_at_call 42; (refine nmK ?_; clear M; (try clear F); intro w1 M F); refine (HV.out _).mono ?_; rintro e w2 ⟨rfl, hb⟩; replace M := M.below hb; clear hb; (try clear F); have F := fx M) | (go_at_call 148; (refine nmK ?_; clear M; (try clear F); intro w1 M F); refine (CG.out M dl).mono ?_; clear M; rintro e w2 ⟨Y, hY, rfl, M⟩; replace hY := Lib.hid hY; (try clear F); have F := fx M))
          (apply ret_cell (M := M); rfl; rfl; (exact dl); (first | exact agR | exact agV | exact agW | exact agO); (first | exact siI | exact siR | exact siV | exact siB | exact siSI | exact siSV | exact siW | exact siSR | exact siSO | exact siO); rfl; exact ⟨Y, hY.out, rfl, M.sel (.drop (.cons .here (.drop (.drop .refl))))⟩)
        | false =>
          rw [hv] at HV
          rw [if_neg (by decide)]
          clear hv
          obtain ⟨vk, vn⟩ := v
          simp only at *
          go_enter Try.func139, Try.ntmps139
          go_wp2_with (first | (with_reducible refine alA M ?_; clear M; (try clear F); intro w1 M F) | ((with_reducible apply ev_store (M := M)); rfl; rfl; ((conv => lhs; whnf) <;> rfl); rfl; (first | exact siI | exact siR | exact siV | exact siB | exact siSI | exact siSV | exact siW | exact siSR | exact siSO | exact siO); (exact one_all rfl); (exact dl); (exact Nat.le_of_ble_eq_true rfl); clear M; intro w1 M; simp only [SX] at M; (try clear F); have F := fx M) | (go_at_call 42; (refine nmK ?_; clear M; (try clear F); intro w1 M F); refine (HV.out _).mono ?_; rintro e w2 ⟨rfl, hb⟩; replace M := M.below hb; clear hb; (try clear F); have F := fx M))
          (apply ret_cell (M := M); rfl; rfl; (exact dl); (first | exact agR | exact agV | exact agW | exact agO); (first | exact siI | exact siR | exact siV | exact siB | exact siSI | exact siSV | exact siW | exact siSR | exact siSO | exact siO); rfl; exact ⟨W, rfl, rfl, M.sel (.drop (.drop (.drop (.cons .here .refl))))⟩)
        --]3
      · have b1 : (kk == 1) = false := by simpa using k1
        have b2 : (kk == 2) = false := by simpa using k2
        have b3 : (kk == 3) = false := by simpa using k3
        rw [if_neg k1, if_neg k2, if_neg k3]
        by_cases k4 : kk = 4
        · subst k4
          rw [if_pos rfl]
          cases hv : valOk v with
          | false =>
            --[a
            rw [hv] at HV
            simp only [Bool.false_and, Bool.false_eq_true, if_false]
            clear hv k1 k2 k3
            obtain ⟨vk, vn⟩ := v
            simp only at *
            go_enter Try.func139, Try.ntmps139
            go_upto_region 12 with (first | (with_reducible refine alA M ?_; clear M; (try clear F); intro w1 M F) | (go_at_call 42; (refine nmK ?_; clear M; (try clear F); intro w1 M F); refine (HV.out _).mono ?_; rintro e w2 ⟨rfl, hb⟩; replace M := M.below hb; clear hb; (try clear F); have F := fx M))
            go_wp2_with (first | ((with_reducible apply ev_store (M := M)); rfl; rfl; ((conv => lhs; whnf) <;> rfl); rfl; (first | exact siI | exact siR | exact siV | exact siB | exact siSI | exact siSV | exact siW | exact siSR | exact siSO | exact siO); (exact one_all rfl); (exact dl); (exact Nat.le_of_ble_eq_true rfl); clear M; intro w1 M; simp only [SX] at M; (try clear F); have F := fx M))
            (apply ret_cell (M := M); rfl; rfl; (exact dl); (first | exact agR | exact agV | exact agW | exact agO); (first | exact siI | exact siR | exact siV | exact siB | exact siSI | exact siSV | exact siW | exact siSR | exact siSO | exact siO); rfl; exact ⟨W, rfl, rfl, M.sel (.drop (.drop (.drop (.cons .here .refl))))⟩)
            --]a
          | true =>
            rw [hv] at HV
            simp only [Bool.true_and]
            cases hi : inB aa 1 W.ps.length with
            | false =>
              --[b
              have hal : aliveIn W.wd.runs aa = false := by
                unfold aliveIn
                rw [runsLen, hi]
                rfl
              rw [hal]
              rw [hi] at HI
              simp only [Bool.false_eq_true, if_false]
              clear hv hal k1 k2 k3
              obtain ⟨vk, vn⟩ := v
              simp only at *
              go_enter Try.func139, Try.ntmps139
              go_upto_region 12 with (first | (with_reducible refine alA M ?_; clear M; (try clear F); intro w1 M F) | (go_at_call 42; (refine nmK ?_; clear M; (try clear F); intro w1 M F); refine (HV.out _).mono ?_; rintro e w2 ⟨rfl, hb⟩; replace M := M.below hb; clear hb; (try clear F); have F := fx M) | (go_at_call 80; (refine nmK ?_; clear M; (try clear F); intro w1 M F); refine (HI.out _).mono ?_; rintro e w2 ⟨rfl, rfl⟩))
              go_wp2_with (first | ((with_reducible apply ev_store (M := M)); rfl; rfl; ((conv => lhs; whnf) <;> rfl); rfl; (first | exact siI | exact siR | exact siV | exact siB | exact siSI | exact siSV | exact siW | exact siSR | exact siSO | exact siO); (exact one_all rfl); (exact dl); (exact Nat.le_of_ble_eq_true rfl); clear M; intro w1 M; simp only [SX] at M; (try clear F); have F := fx M))
              (apply ret_cell (M := M); rfl; rfl; (exact dl); (first | exact agR | exact agV | exact agW | exact agO); (first | exact siI | exact siR | exact siV | exact siB | exact siSI | exact siSV | exact siW | exact siSR | exact siSO | exact siO); rfl; exact ⟨W, rfl, rfl, M.sel (.drop (.drop (.drop (.cons .here .refl))))⟩)
              --]b
            | true =>
              rw [hi] at HI
              have hin := inB_iff.1 hi
              obtain ⟨m, rfl⟩ : ∃ m : Nat, aa = (m : Int) + 1 := ⟨(aa - 1).toNat, by omega⟩
              have hm : m < W.ps.length := by omega
              have hal : aliveIn W.wd.runs ((m : Int) + 1) = !((W.ps[m]'hm).1.state == 3) := by
                rw [alive_iff_state (w := W.wd) (k := m) (by rw [runsLen]; exact hm)]
                simp [Wm.wd]
              rw [hal]
              obtain ⟨gr, hA, _, _⟩ := (Mem.rw_ (M.pull .here).unpackW).runs m hm
              have hA2 := arr_at hA rfl
              have HE : Hid (∀ {U : World} {L1 L2 : List Asn}, Mem w0 f U L1 → Del (wld W) L1 L2 → U.cell? ⟨gr, m * 13 + 5, none⟩ = some (.int .i64 (W.ps[m]'hm).1.state)) := fun {U L1 L2} M hd => by
                obtain ⟨g', hA', _, E⟩ := (Mem.rw_ (M.pull hd).unpackW).runs m hm
                obtain rfl : gr = g' := by
                  rw [hA] at hA'
                  injection hA' with e
                  injection e with e
                exact E.2.2.2.2.2.1
              have CE : Hid (∀ {U : World} {L1 L2 : List Asn}, Mem w0 f U L1 → Del (wld W) L1 L2 → Calls Try.prog 149 #[.agg (wArr W), .int .i64 ((m : Int) + 1), .agg #[.int .i64 v.k, .int .i64 v.n]] U (WPost (fallAll W.wd ((m : Int) + 1) v) w0 f L2)) := fun {U L1 L2} M hd => sEnd W m v M hd hm hok hv (by have : W.wd.sent = W.sent := rfl; omega)
              rw [hA2] at CE ⊢
              have wi : IntKind.i64.wrap ((m : Int) + 1 - 1) = (m : Int) := by rw [IntKind.wrap_i64]; omega
              have wj : IntKind.i64.wrap (m : Int) = (m : Int) := by rw [IntKind.wrap_i64]; omega
              have i1 : (0 : Int) ≤ m := by omega
              have i2 : (m : Int) < W.ps.length := by omega
              generalize (W.ps[m]'hm).1.state = st at HE ⊢
              replace hA := Lib.hid hA
              replace hA2 := Lib.hid hA2
              clear hv hal hi hin k1 k2 k3 CG CD CK
              obtain ⟨vk, vn⟩ := v
              simp only at HV CE
              cases hst : (st == 3) with
              | true =>
                --[c
                have e3 : st = 3 := by simpa using hst
                subst e3
                simp only [Bool.not_true, Bool.false_eq_true, if_false]
                clear hst
                go_enter Try.func139, Try.ntmps139
                go_upto_region 10 with (first | (with_reducible refine alA M ?_; clear M; (try clear F); intro w1 M F))
                have E5 := HE.out M dl
                go_wp2_with (first | ((with_reducible apply ev_store (M := M)); rfl; rfl; ((conv => lhs; whnf) <;> rfl); rfl; (first | exact siI | exact siR | exact siV | exact siB | exact siSI | exact siSV | exact siW | exact siSR | exact siSO | exact siO); (exact one_all rfl); (exact dl); (exact Nat.le_of_ble_eq_true rfl); clear M; intro w1 M; simp only [SX] at M; (try clear F); have F := fx M) | (go_at_call 42; (refine nmK ?_; clear M; (try clear F); intro w1 M F); refine (HV.out _).mono ?_; rintro e w2 ⟨rfl, hb⟩; replace M := M.below hb; clear hb; (try clear F); have F := fx M; replace E5 := HE.out M dl) | ((go_at_call 80; (refine nmK ?_; clear M; (try clear F); intro w1 M F); refine (HI.out _).mono ?_; rintro e w2 ⟨rfl, rfl⟩); replace E5 := HE.out M dl))
                (apply ret_cell (M := M); rfl; rfl; (exact dl); (first | exact agR | exact agV | exact agW | exact agO); (first | exact siI | exact siR | exact siV | exact siB | exact siSI | exact siSV | exact siW | exact siSR | exact siSO | exact siO); rfl; exact ⟨W, rfl, congrArg (fun x => Ending.returned (.agg x)) hA2.out.symm, M.sel (.drop (.drop (.drop (.cons .here .refl))))⟩)
                --]c
              | false =>
                --[d
                have b5 : (st != 3) = true := by
                  show (!(st == 3)) = true
                  rw [hst]
                  rfl
                simp only [Bool.not_false, if_true]
                go_enter Try.func139, Try.ntmps139
                go_upto_region 10 with (first | (with_reducible refine alA M ?_; clear M; (try clear F); intro w1 M F))
                have E5 := HE.out M dl
                go_wp2_with (first | ((with_reducible apply ev_store (M := M)); rfl; rfl; ((conv => lhs; whnf) <;> rfl); rfl; (first | exact siI | exact siR | exact siV | exact siB | exact siSI | exact siSV | exact siW | exact siSR | exact siSO | exact siO); (exact one_all rfl); (exact dl); (exact Nat.le_of_ble_eq_true rfl); clear M; intro w1 M; simp only [SX] at M; (try clear F); have F := fx M) | (go_at_call 42; (refine nmK ?_; clear M; (try clear F); intro w1 M F); refine (HV.out _).mono ?_; rintro e w2 ⟨rfl, hb⟩; replace M := M.below hb; clear hb; (try clear F); have F := fx M; replace E5 := HE.out M dl) | ((go_at_call 80; (refine nmK ?_; clear M; (try clear F); intro w1 M F); refine (HI.out _).mono ?_; rintro e w2 ⟨rfl, rfl⟩); replace E5 := HE.out M dl) | (go_at_call 149; (refine nmK ?_; clear M; (try clear F); intro w1 M F); refine (CE.out M dl).mono ?_; clear M; rintro e w2 ⟨Y, hY, rfl, M⟩; replace hY := Lib.hid hY; (try clear F); have F := fx M))
                (apply ret_cell (M := M); rfl; rfl; (exact dl); (first | exact agR | exact agV | exact agW | exact agO); (first | exact siI | exact siR | exact siV | exact siB | exact siSI | exact siSV | exact siW | exact siSR | exact siSO | exact siO); rfl; exact ⟨Y, hY.out, rfl, M.sel (.drop (.cons .here (.drop (.drop .refl))))⟩)
                --]d
        · --[5
          have b4 : (kk == 4) = false := by simpa using k4
          rw [if_neg k4]
          clear k1 k2 k3 k4
          obtain ⟨vk, vn⟩ := v
          simp only at *
          go_enter Try.func139, Try.ntmps139
          go_wp2_with (first | (with_reducible refine alA M ?_; clear M; (try clear F); intro w1 M F) | ((with_reducible apply ev_store (M := M)); rfl; rfl; ((conv => lhs; whnf) <;> rfl); rfl; (first | exact siI | exact siR | exact siV | exact siB | exact siSI | exact siSV | exact siW | exact siSR | exact siSO | exact siO); (exact one_all rfl); (exact dl); (exact Nat.le_of_ble_eq_true rfl); clear M; intro w1 M; simp only [SX] at M; (try clear F); have F := fx M))
          (apply ret_cell (M := M); rfl; rfl; (exact dl); (first | exact agR | exact agV | exact agW | exact agO); (first | exact siI | exact siR | exact siV | exact siB | exact siSI | exact siSV | exact siW | exact siSR | exact siSO | exact siO); rfl; exact ⟨W, rfl, rfl, M.sel (.drop (.drop (.drop (.cons .here .refl))))⟩)
          --]5
end Go.Proofs.Ytmidnaafljgbiaa
