/- Parts of the proof, in one text. -/
import Derived.Deep.Cut
import Derived.Deep.RegionWith
import Derived.Test.YtmidnaafljgbiaaB27
import Derived.Test.YtmidnaafljgbiaaB21
import Derived.Test.YtmidnaafljgbiaaB02
import Derived.Test.YtmidnaafljgbiaaB05
import Derived.Test.YtmidnaafljgbiaaB22
import Derived.Test.YtmidnaafljgbiaaB20
import Derived.Test.YtmidnaafljgbiaaB16
/- A turn's small parts, by the reference: a value put, and the next step. -/
namespace Go.Proofs.Ytmidnaafljgbiaa
open Go.RowKit
set_option maxRecDepth 100000

set_option maxHeartbeats 4000000 in
theorem sSet21 (W : Wm) (k s : Nat) (v : Vl) {w0 w : World} {f : List Nat} {L L' : List Asn} (M : Mem w0 f w L) (hd : Del (wld W) L L') (hk : k < W.ps.length) (hn : W.ps.length ≤ 1000) (hs : s < 4) (h4 : (W.ps[k]'hk).1.slots.length = 4) (hf : 0 ≤ (W.ps[k]'hk).1.full ∧ (W.ps[k]'hk).1.full ≤ 15) (hat : 0 ≤ (W.ps[k]'hk).1.at_ ∧ (W.ps[k]'hk).1.at_ ≤ 1000) :
    Calls Try.prog 164 #[.agg (wArr W), .int .i64 ((k : Int) + 1), .int .i64 (s : Int), .agg #[.int .i64 v.k, .int .i64 v.n]] w (WPost (setW W.wd ((k : Int) + 1) s v) w0 f L') := by
  have AL := add_lit0
  replace M := M.pull hd
  clear hd
  go_enter Try.func164, Try.ntmps164
  go_upto_region 1 with (first | (with_reducible refine alA M ?_; clear M; (try clear F); intro w1 M F))
  clear F
  rename_i u1 u2 _ _
  generalize w.heap.size = g4 at M ⊢
  generalize u1.heap.size = g7 at M ⊢
  generalize u2.heap.size = g8 at M ⊢
  replace M := M.sel (T := blk g4 tW (w7 W) :: wld W :: blk g7 tV [.int .i64 v.k, .int .i64 v.n] :: blk g8 tW [.slice none 0 0, .slice none 0 0, .slice none 0 0, .int .i64 0, .int .i64 0, .int .i64 0, .int .i64 0] :: L') sl
  replace M := open_at M hk
  obtain ⟨gr, nn, pre, post, r, a, hA, hps, hpl, hnn, hlen, M⟩ := M
  unfold opened at M
  have e0 := mid_bound hps hpl hk
  rw [e0] at h4 hf hat
  clear e0
  have HN : Hid (∀ V : World, Calls Try.prog 174 #[.agg (runArr (putR r s v) a)] V (fun e w' => e = .returned (.agg (runArr (nextR (putR r s v)) a)) ∧ Below V.heap.size V w')) := fun V => sNext21 (putR r s v) a V hat
  have HP : Hid (∀ (U : World) (L1 L2 L3 L4 L5 : List Asn), Mem w0 f U L1 → Del (row encV 2 tV a.sA a.sC r.slots) L1 L2 → Del (row encV 2 tV a.mA a.mC r.mail) L2 L3 → Del (row encI 1 tI a.lA a.lC r.links) L3 L4 → Del (row encI 1 tI a.wA a.wC r.watched) L4 L5 →
      Calls Try.prog 90 #[.agg (runArr r a), .int .i64 (s : Int), .agg #[.int .i64 v.k, .int .i64 v.n]] U (fun e w' => e = .returned (.agg (runArr (putR r s v) a)) ∧ Mem w0 f w' (row encV 2 tV a.sA a.sC (putR r s v).slots :: row encV 2 tV a.mA a.mC r.mail :: row encI 1 tI a.lA a.lC r.links :: row encI 1 tI a.wA a.wC r.watched :: L5))) :=
    fun U L1 L2 L3 L4 L5 M d1 d2 d3 d4 => (sPutM r a s v (Mem.packRun (M.sel (.cons d1 (.cons d2 (.cons d3 (.cons d4 .refl)))))) h4 hs hf.1 hf.2).mono (fun e w' h => ⟨h.1, h.2.unpackRun⟩)
  replace h4 := Lib.hid h4
  have wi : IntKind.i64.wrap ((k : Int) + 1 - 1) = (k : Int) := by rw [IntKind.wrap_i64]; omega
  have wj : IntKind.i64.wrap (k : Int) = (k : Int) := by rw [IntKind.wrap_i64]; omega
  have i1 : (0 : Int) ≤ k := by omega
  have i2 : (k : Int) < nn := by omega
  obtain ⟨E0, E1, E2, E3, E4, E5, E6, E7, E8, E9, E10, E11, E12⟩ := runAt_mid M dl hpl
  replace hA := Lib.hid hA
  replace hps := Lib.hid hps
  replace hpl := Lib.hid hpl
  replace hnn := Lib.hid hnn
  replace hlen := Lib.hid hlen
  (try clear F); have F := fx M
  refine held_begin (S := (fun W' => (∀ j, W'.cell? ⟨g4, j, none⟩ = ([.slice W.cA W.code.length W.cC, .slice (some ⟨gr, 0, none⟩) nn W.rC, .slice W.qA W.queue.length W.qC, .int .i64 W.now, .int .i64 W.sent, .int .i64 W.taken, .int .i64 W.lost] : List Value)[j]?) ∧ ∀ j, W'.cell? ⟨g7, j, none⟩ = ([.int .i64 v.k, .int .i64 v.n] : List Value)[j]?)) (by kernel_rfl) (fun _ _ _ _ _ h => h) (by (exact ⟨kc, kc⟩)) (fun HQ hHeld => ?_)
  refine tkY HQ hHeld 0 ?_; refine tkY HQ hHeld 1 ?_; refine tkY HQ hHeld 2 ?_; refine tkY HQ hHeld 3 ?_; refine tkY HQ hHeld 4 ?_; refine tkY HQ hHeld 5 ?_; refine tkY HQ hHeld 6 ?_; refine tkY HQ hHeld 7 ?_; refine tkY HQ hHeld 8 ?_; refine tkY HQ hHeld 10 ?_; refine tkY HQ hHeld 11 ?_
  refine stp 9 (fun K hK => ?_); go_simp
  (try go_wp2_with fail); refine hK.out _ _ (by (exact ⟨kc, kc⟩)) (fun hHeld => ?_); clear hK K; (try simp only [AX])
  clear E0 E1 E2 E3 E4 E5 E6 E7 E8 E9 E10 E11 E12
  refine stp 12 (fun K hK => ?_); go_simp
  (go_at_call 90; (refine nmK ?_; clear M; (try clear F); intro w1 M F); refine (HP.out _ _ _ _ _ _ M dl dl dl dl).mono ?_; clear M; rintro e w2 ⟨rfl, M⟩; (try clear F); have F := fx M)
  (try go_wp2_with fail); refine hK.out _ _ (by (exact ⟨kc, kc⟩)) (fun hHeld => ?_); clear hK K; (try simp only [AX])
  refine stp 13 (fun K hK => ?_); go_simp
  (go_at_call 174; (refine nmK ?_; clear M; (try clear F); intro w1 M F); refine (HN.out _).mono ?_; rintro e w2 ⟨rfl, hb⟩; replace M := M.below hb; clear hb; (try clear F); have F := fx M)
  (try go_wp2_with fail); refine hK.out _ _ (by (exact ⟨kc, kc⟩)) (fun hHeld => ?_); clear hK K; (try simp only [AX])
  refine tkY HQ hHeld 14 ?_
  refine stp 15 (fun K hK => ?_)
  refine op_of_list rfl ?_; ((with_reducible apply ev_put_mid (x' := ((nextR (putR r s v), a) : Rn × RA)) (k := k) (hk := encR_length) (hone := oneR) (M := M)); rfl; rfl; ((conv => lhs; whnf) <;> rfl); rfl; exact siR; (exact dl); rfl; exact hpl.out; clear M; intro w1 M; (try clear F); have F := fx M)
  (try go_wp2_with fail); refine hK.out _ _ (by (exact ⟨kc, kc⟩)) (fun hHeld => ?_); clear hK K; (try simp only [AX])
  refine wpAnyH_done (by kernel_rfl) ?_ _; clear HQ; (repeat clear hHeld)
  go_wp2_with (first | ((with_reducible apply ev_store (M := M)); rfl; rfl; ((conv => lhs; whnf) <;> rfl); rfl; (first | exact siI | exact siR | exact siV | exact siB | exact siSI | exact siSV | exact siW | exact siSR | exact siSO | exact siO); (exact one_all rfl); (exact dl); (exact Nat.le_of_ble_eq_true rfl); clear M; intro w1 M; simp only [SX] at M; (try clear F); have F := fx M))
  apply ret_cell (M := M); rfl; rfl; (exact dl); (first | exact agR | exact agV | exact agW | exact agO); (first | exact siI | exact siR | exact siV | exact siB | exact siSI | exact siSV | exact siW | exact siSR | exact siSO | exact siO); rfl
  refine wpost_mid hps.out hpl.out hnn.out (fun r => nextR (putR r s v)) a (g3 := g4) ?_ rfl ?_
  · rfl
  · exact M.sel (T := blk g4 tW [.slice W.cA W.code.length W.cC, .slice (some ⟨gr, 0, none⟩) nn W.rC, .slice W.qA W.queue.length W.qC, .int .i64 W.now, .int .i64 W.sent, .int .i64 W.taken, .int .i64 W.lost] :: row encR 13 tR (some ⟨gr, 0, none⟩) W.rC (pre ++ ((nextR (putR r s v), a) : Rn × RA) :: post) :: row encV 2 tV a.sA a.sC (putR r s v).slots :: row encV 2 tV a.mA a.mC r.mail :: row encI 1 tI a.lA a.lC r.links :: row encI 1 tI a.wA a.wC r.watched :: rws (pre ++ post) :: row encO 6 tO W.cA W.cC W.code :: row encI 1 tI W.qA W.qC W.queue :: L') sl
end Go.Proofs.Ytmidnaafljgbiaa
/- Two results in cells. -/
namespace Go.Proofs.Ytmidnaafljgbiaa
open Go.RowKit
theorem ret_cell_cell {P : Program} {fn : Func} {R : Ending → World → Prop} {a : Act} {w0 w : World} {f : List Nat} {L L' L2 : List Asn} {d1 d : Tmp} {t t1 tb tb1 : TypeId} {g g1 : Nat} {cs cs1 : List Value} (hres : fn.results = #[.cell d t, .cell d1 t1]) (h1 : a.tmps.getD d1 undef = .pointer (some ⟨g1, 0, none⟩)) (hx : a.tmps.getD d undef = .pointer (some ⟨g, 0, none⟩)) (M : Mem w0 f w L) (hd : Del (blk g tb cs) L L') (hd1 : Del (blk g1 tb1 cs1) L L2)
    (ha : ∀ W, (isAgg t).run P W = .ok true W) (ha1 : ∀ W, (isAgg t1).run P W = .ok true W) (hs : (P.info? t).map (·.size) = some cs.length) (hs1 : (P.info? t1).map (·.size) = some cs1.length) (hdef : a.defers = []) (hR : R (.returned (.tuple #[.agg cs.toArray, .agg cs1.toArray])) w) : bodyPost P fn R .ret a w := by
  have hrun := run_loadAgg (P := P) (off := 0) (ha w) hs (M.pull hd).facts.1.2.1 (by omega : 0 + cs.length ≤ cs.length)
  have hrun1 := run_loadAgg (P := P) (off := 0) (ha1 w) hs1 (M.pull hd1).facts.1.2.1 (by omega : 0 + cs1.length ≤ cs1.length)
  simp only [List.drop_zero, List.take_length] at hrun hrun1
  refine ⟨hdef, _, ?_, hR⟩
  simp only [Array.getD_eq_getD_getElem?] at hx h1
  simp [results, hres, hx, h1, asAddr, hrun, hrun1]
end Go.Proofs.Ytmidnaafljgbiaa
/- A value is taken out of a run's mail, by the reference. -/
namespace Go.Proofs.Ytmidnaafljgbiaa
open Go.RowKit
set_option maxRecDepth 100000

theorem ReadsL.drop {α : Type} {enc : α → List Value} {m : Nat} {w : World} {B n : Nat} {A : Option Addr} {xs : List α} (hk : ∀ x, (enc x).length = m) (h : ReadsL enc m w B A n xs) {j : Nat} (hj : j < n) : ∃ ad, A = some ad ∧ ReadsL enc m w B (some (ad.add (j * m))) (n - j) (xs.drop j) := by
  obtain ⟨h1, h2, h3, h4⟩ := h
  obtain ⟨ad, e, hb, hc⟩ := h4 (by omega)
  refine ⟨ad, e, by rw [List.length_drop]; omega, by omega, by rw [flat_length hk, List.length_drop, h1], fun h0 => ⟨_, rfl, by rw [block_of_add]; exact hb, fun i u hu => ?_⟩⟩
  rw [add_of_add]
  refine hc _ _ ?_
  have e2 : xs = xs.take j ++ xs.drop j := (List.take_append_drop j xs).symm
  rw [e2]
  unfold flat at hu ⊢
  rw [List.flatMap_append, List.getElem?_append_right (by have := flat_length hk (xs.take j); unfold flat at this; rw [this, List.length_take, Nat.min_eq_left (by omega)]; omega)]
  have e3 := flat_length hk (xs.take j)
  unfold flat at e3
  rw [e3, List.length_take, Nat.min_eq_left (by omega), show j * m + i - j * m = i by omega]
  exact hu
theorem readsL_nil {α : Type} {enc : α → List Value} {m : Nat} {w : World} {B : Nat} {A : Option Addr} : ReadsL enc m w B A 0 ([] : List α) := ⟨rfl, by omega, ⟨by simp [flat], fun h => absurd h (by omega)⟩⟩

set_option maxHeartbeats 4000000 in
theorem sTake11 (r : Rn) (a : RA) (k : Nat) {w0 w : World} {f : List Nat} {L L' : List Asn} (M : Mem w0 f w L) (hd : Del (row encV 2 tV a.mA a.mC r.mail) L L') (hk : k < r.mail.length) (hl : r.mail.length ≤ 1000) :
    Calls Try.prog 48 #[.agg (runArr r a), .int .i64 (k : Int)] w fun e w' => ∃ (A : Option Addr) (c : Nat), e = .returned (.tuple #[.agg (runArr { r with mail := r.mail.eraseIdx k } { a with mA := A, mC := c }), .agg #[.int .i64 r.mail[k].k, .int .i64 r.mail[k].n]]) ∧ Mem w0 f w' (row encV 2 tV A c (r.mail.eraseIdx k) :: row encV 2 tV a.mA a.mC r.mail :: L') := by
  have AL := add_lit0
  obtain ⟨sA, sC, mA, mC, lA, lC, wA, wC⟩ := a
  simp only at hd ⊢
  replace M := M.pull hd
  clear hd
  obtain ⟨gm, hgm⟩ := row_form M .here (by omega)
  have hle := (row_reads M .here).2.1
  have HRE : Hid (∀ (U : World) (L1 L2 : List Asn), Mem w0 f U L1 → Del (row encV 2 tV (some ⟨gm, 0, none⟩) mC r.mail) L1 L2 → U.cell? ⟨gm, k * 2, none⟩ = some (.int .i64 r.mail[k].k) ∧ U.cell? ⟨gm, k * 2 + 1, none⟩ = some (.int .i64 r.mail[k].n)) := by
    intro U L1 L2 M hd
    obtain ⟨_, e2, _⟩ := row_elem encV_length M hd (k := k) hk
    exact ⟨by simpa [encV] using e2 0 (by decide), by simpa [encV] using e2 1 (by decide)⟩
  have HR1 : Hid (∀ (U : World) (L1 L2 : List Asn), Mem w0 f U L1 → Del (row encV 2 tV (some ⟨gm, 0, none⟩) mC r.mail) L1 L2 → ReadsL encV 2 U U.heap.size (some ⟨gm, 0, none⟩) k (r.mail.take k)) := fun U L1 L2 M hd => (row_reads M hd).1.take encV_length (by omega)
  have HR2 : Hid (∀ (U : World) (L1 L2 : List Asn), Mem w0 f U L1 → Del (row encV 2 tV (some ⟨gm, 0, none⟩) mC r.mail) L1 L2 → k + 1 < r.mail.length → ReadsL encV 2 U U.heap.size (some ⟨gm, (k + 1) * 2, none⟩) (r.mail.length - (k + 1)) (r.mail.drop (k + 1))) := by
    intro U L1 L2 M hd h
    obtain ⟨ad, e, h⟩ := (row_reads M hd).1.drop encV_length h
    injection e with e
    subst e
    rw [add_lit0, Nat.zero_add] at h
    exact h
  have he : r.mail.eraseIdx k = r.mail.take k ++ r.mail.drop (k + 1) := List.eraseIdx_eq_take_drop_succ ..
  rw [hgm] at M ⊢
  replace he := Lib.hid he
  have k1 : (0 : Int) ≤ k := by omega
  have k2 : (k : Int) < r.mail.length := by omega
  have wk : IntKind.i64.wrap ((k : Int) + 1) = (k : Int) + 1 := by rw [IntKind.wrap_i64]; omega
  simp only [runArr]
  replace hgm := Lib.hid hgm
  generalize hx : r.mail[k] = x at HRE ⊢
  clear hx
  go_enter Try.func48, Try.ntmps48
  go_upto_region 1 with (first | (with_reducible refine alAw M ?_; clear M; (try clear F); intro w1 M F))
  have E := HRE.out _ _ _ M dl
  go_upto_region 2 with (first | ((with_reducible refine alAw M ?_; clear M; (try clear F); intro w1 M F); replace E := HRE.out _ _ _ M dl) | ((with_reducible apply ev_store (M := M)); rfl; rfl; ((conv => lhs; whnf) <;> rfl); rfl; (first | exact siI | exact siR | exact siV | exact siB | exact siSI | exact siSV | exact siW | exact siSR | exact siSO | exact siO); (exact one_all rfl); (exact dl); (exact Nat.le_of_ble_eq_true rfl); clear M; intro w1 M; simp only [SX] at M; (try clear F); have F := fxw M))
  clear F E
  rename_i u1 u2 u3 u4 _ _
  generalize w.heap.size = g2 at M ⊢
  generalize u1.heap.size = g4 at M ⊢
  generalize u2.heap.size = g5 at M ⊢
  generalize u3.heap.size = g6 at M ⊢
  have HR3 : Hid (∀ (U : World) (L1 L2 : List Asn), Mem w0 f U L1 → Del (row encV 2 tV (some ⟨gm, 0, none⟩) mC r.mail) L1 L2 → ReadsL encV 2 U U.heap.size (some ⟨gm, (k + 1) * 2, none⟩) (r.mail.length - (k + 1)) (r.mail.drop (k + 1))) := by
    intro U L1 L2 M hd
    by_cases h : k + 1 < r.mail.length
    · exact HR2.out U L1 L2 M hd h
    · have e : r.mail.length - (k + 1) = 0 := by omega
      rw [e, List.drop_eq_nil_of_le (by omega)]
      exact readsL_nil
  have hsl : Hid (k + (r.mail.length - (k + 1)) = (r.mail.eraseIdx k).length) := by
    show _ = _
    rw [List.length_eraseIdx, if_pos hk]
    omega
  clear HR2
  have c1 : (k : Int) ≤ mC := by omega
  have c2 : (k : Int) + 1 ≤ mC := by omega
  have c3 : (k : Int) + 1 ≤ r.mail.length := by omega
  by_cases hc : mC = k + 1
  · have k3 : (0 : Int) ≤ (k : Int) + 1 := by omega
    subst hc
    have k4 : (k : Int) ≤ (k : Int) + 1 := by omega
    have HR4 : Hid (∀ (U : World) (A : Option Addr), ReadsL encV 2 U U.heap.size A 0 (r.mail.drop (k + 1))) := by
      intro U A
      rw [List.drop_eq_nil_of_le (by omega)]
      exact readsL_nil
    have hsl : Hid (k = (r.mail.eraseIdx k).length) := by
      have h := hsl.out
      rw [← h]
      show _ = _
      omega
    (try clear F); have F := fxw M
    (refine beginE (S := (fun W' => ∀ j, W'.cell? ⟨g2, j, none⟩ = ([.int .i64 r.id, .int .i64 r.at_, .slice sA r.slots.length sC, .int .i64 r.full, .slice (some ⟨gm, 0, none⟩) r.mail.length (k + 1), .int .i64 r.state, .int .i64 r.due, .slice lA r.links.length lC, .slice wA r.watched.length wC, .bool r.trap, .int .i64 r.why.k, .int .i64 r.why.n, .int .i64 r.turns] : List Value)[j]?)) 13 (by kernel_rfl) (fun _ _ _ _ _ h => h) (by (exact kc)) (fun HQ hHeld => ?_))
    refine tkYE HQ hHeld 1 ?_; refine tkYE HQ hHeld 2 ?_; refine tkYE HQ hHeld 3 ?_; refine tkYE HQ hHeld 4 ?_; refine tkYE HQ hHeld 6 ?_; refine tkYE HQ hHeld 7 ?_; refine tkYE HQ hHeld 8 ?_; refine tkYE HQ hHeld 9 ?_; refine tkYE HQ hHeld 10 ?_
    refine stpE 0 (fun K hK => ?_); go_simp
    (try go_wp2_with fail); refine hK.out _ _ (by (exact kc)) (fun hHeld => ?_); clear hK K; (try simp only [AX]); clear hHeld; (refine nmw (G := fun W => wpAnyE _ _ _ _ _ _ _ _ _ W) ?_; clear M; (try clear F); intro w1 M F)
    refine stpE 5 (fun K hK => ?_); (refine op_of_list rfl ?_; (with_reducible apply ev_copy0 (enc := encV) (ys := r.mail.take k) (hk := encV_length) (hone := oneV) (h0 := by decide) (hinfo := infVx) (ht := Try.underlying29) (M := M)); rfl; rfl; (exact dl); exact (HR1.out _ _ _ M dl); (intro e; cases e); (rw [List.length_take]; omega); (exact Nat.le_of_ble_eq_true rfl); clear M; intro A1 c1 w1 M; (try clear F); have F := fxw M); (try go_wp2_with fail); refine hK.out _ _ (by (exact kc)) (fun hHeld => ?_); clear hK K; (try simp only [AX])
    refine stpE 11 (fun K hK => ?_); (refine op_of_list rfl ?_; (with_reducible apply ev_append (enc := encV) (ys := r.mail.drop (k + 1)) (hk := encV_length) (hone := oneV) (ht := Try.underlying29) (hinfo := nfV) (hzs := rfl) (h0 := by decide) (M := M)); rfl; (exact dl); (rw [List.length_take]; omega); rfl; (first | exact HR3.out _ _ _ M dl | exact HR4.out _ _); (intro e; cases e); (rw [List.length_take, List.length_drop]; omega); (rw [List.length_take, List.length_drop]; omega); clear M; intro A2 c2 w1 M; (try clear F); have F := fxw M); (try go_wp2_with fail); refine hK.out _ _ (by (exact kc)) (fun hHeld => ?_); clear hK K; (try simp only [AX])
    refine tkYE HQ hHeld 12 ?_
    refine stpT (fun K hK => ?_); refine op_of_list rfl ?_; ((with_reducible apply ev_store (M := M)); rfl; rfl; ((conv => lhs; whnf) <;> rfl); rfl; (first | exact siI | exact siR | exact siV | exact siB | exact siSI | exact siSV | exact siW | exact siSR | exact siSO | exact siO); (exact one_all rfl); (exact dl); (exact Nat.le_of_ble_eq_true rfl); clear M; intro w1 M; simp only [SX] at M; (try clear F); have F := fxw M); (try go_wp2_with fail); refine hK.out _ _ ?_; clear hK K; (try simp only [AX])
    go_upto_region 3 with fail
    (refine held_begin (S := (fun W' => (∀ j, W'.cell? ⟨g2, j, none⟩ = ([.int .i64 r.id, .int .i64 r.at_, .slice sA r.slots.length sC, .int .i64 r.full, .slice A2 k c2, .int .i64 r.state, .int .i64 r.due, .slice lA r.links.length lC, .slice wA r.watched.length wC, .bool r.trap, .int .i64 r.why.k, .int .i64 r.why.n, .int .i64 r.turns] : List Value)[j]?) ∧ ∀ j, W'.cell? ⟨g6, j, none⟩ = ([.int .i64 x.k, .int .i64 x.n] : List Value)[j]?)) (by kernel_rfl) (fun _ _ _ _ _ h => h) (by (exact ⟨kc, kc⟩)) (fun HQ hHeld => ?_))
    refine tkY HQ hHeld 0 ?_; refine tkY HQ hHeld 1 ?_; clear hHeld; (refine nmw (G := fun W => wpAnyH _ _ _ _ _ _ _ _ W) ?_; clear M; (try clear F); intro w1 M F)
    refine stp 2 (fun K hK => ?_)
    refine op_of_list rfl ?_; ((with_reducible apply ev_store (M := M)); rfl; rfl; ((conv => lhs; whnf) <;> rfl); rfl; (first | exact siI | exact siR | exact siV | exact siB | exact siSI | exact siSV | exact siW | exact siSR | exact siSO | exact siO); (exact one_all rfl); (exact dl); (exact Nat.le_of_ble_eq_true rfl); clear M; intro w1 M; simp only [SX] at M; (try clear F); have F := fxw M)
    (try go_wp2_with fail); refine hK.out _ _ (by (exact ⟨kc, kc⟩)) (fun hHeld => ?_); clear hK K; (try simp only [AX])
    refine stp 3 (fun K hK => ?_)
    refine op_of_list rfl ?_; ((with_reducible apply ev_store (M := M)); rfl; rfl; ((conv => lhs; whnf) <;> rfl); rfl; (first | exact siI | exact siR | exact siV | exact siB | exact siSI | exact siSV | exact siW | exact siSR | exact siSO | exact siO); (exact one_all rfl); (exact dl); (exact Nat.le_of_ble_eq_true rfl); clear M; intro w1 M; simp only [SX] at M; (try clear F); have F := fxw M)
    (try go_wp2_with fail); refine hK.out _ _ (by (exact ⟨kc, kc⟩)) (fun hHeld => ?_); clear hK K; (try simp only [AX])
    refine wpAnyH_done (by kernel_rfl) ?_ _; clear HQ; (repeat clear hHeld)
    go_wp2
    (apply ret_cell_cell (M := M); rfl; rfl; rfl; (exact dl); (exact dl); (first | exact agR | exact agV | exact agW | exact agO); (first | exact agR | exact agV | exact agW | exact agO); (first | exact siI | exact siR | exact siV | exact siB | exact siSI | exact siSV | exact siW | exact siSR | exact siSO | exact siO); (first | exact siI | exact siR | exact siV | exact siB | exact siSI | exact siSV | exact siW | exact siSR | exact siSO | exact siO); rfl)
    refine ⟨A2, c2, ?_, ?_⟩
    · simp only [← hsl.out]
    · rw [he.out]
      exact M.sel sl
  · have k3 : (0 : Int) ≤ (k : Int) + 1 := by omega
    have HR4 : True := trivial
    have d3 : ¬ mC - (k + 1) = 0 := by omega
    have d5 : ¬ mC ≤ k + 1 := by omega
    (try clear F); have F := fxw M
    (refine beginE (S := (fun W' => ∀ j, W'.cell? ⟨g2, j, none⟩ = ([.int .i64 r.id, .int .i64 r.at_, .slice sA r.slots.length sC, .int .i64 r.full, .slice (some ⟨gm, 0, none⟩) r.mail.length mC, .int .i64 r.state, .int .i64 r.due, .slice lA r.links.length lC, .slice wA r.watched.length wC, .bool r.trap, .int .i64 r.why.k, .int .i64 r.why.n, .int .i64 r.turns] : List Value)[j]?)) 13 (by kernel_rfl) (fun _ _ _ _ _ h => h) (by (exact kc)) (fun HQ hHeld => ?_))
    refine tkYE HQ hHeld 1 ?_; refine tkYE HQ hHeld 2 ?_; refine tkYE HQ hHeld 3 ?_; refine tkYE HQ hHeld 4 ?_; refine tkYE HQ hHeld 6 ?_; refine tkYE HQ hHeld 7 ?_; refine tkYE HQ hHeld 8 ?_; refine tkYE HQ hHeld 9 ?_; refine tkYE HQ hHeld 10 ?_
    refine stpE 0 (fun K hK => ?_); go_simp
    (try go_wp2_with fail); refine hK.out _ _ (by (exact kc)) (fun hHeld => ?_); clear hK K; (try simp only [AX]); clear hHeld; (refine nmw (G := fun W => wpAnyE _ _ _ _ _ _ _ _ _ W) ?_; clear M; (try clear F); intro w1 M F)
    refine stpE 5 (fun K hK => ?_); (refine op_of_list rfl ?_; (with_reducible apply ev_copy0 (enc := encV) (ys := r.mail.take k) (hk := encV_length) (hone := oneV) (h0 := by decide) (hinfo := infVx) (ht := Try.underlying29) (M := M)); rfl; rfl; (exact dl); exact (HR1.out _ _ _ M dl); (intro e; cases e); (rw [List.length_take]; omega); (exact Nat.le_of_ble_eq_true rfl); clear M; intro A1 c1 w1 M; (try clear F); have F := fxw M); (try go_wp2_with fail); refine hK.out _ _ (by (exact kc)) (fun hHeld => ?_); clear hK K; (try simp only [AX])
    refine stpE 11 (fun K hK => ?_); (refine op_of_list rfl ?_; (with_reducible apply ev_append (enc := encV) (ys := r.mail.drop (k + 1)) (hk := encV_length) (hone := oneV) (ht := Try.underlying29) (hinfo := nfV) (hzs := rfl) (h0 := by decide) (M := M)); rfl; (exact dl); (rw [List.length_take]; omega); rfl; (first | exact HR3.out _ _ _ M dl | exact HR4.out _ _); (intro e; cases e); (rw [List.length_take, List.length_drop]; omega); (rw [List.length_take, List.length_drop]; omega); clear M; intro A2 c2 w1 M; (try clear F); have F := fxw M); (try go_wp2_with fail); refine hK.out _ _ (by (exact kc)) (fun hHeld => ?_); clear hK K; (try simp only [AX])
    refine tkYE HQ hHeld 12 ?_
    refine stpT (fun K hK => ?_); refine op_of_list rfl ?_; ((with_reducible apply ev_store (M := M)); rfl; rfl; ((conv => lhs; whnf) <;> rfl); rfl; (first | exact siI | exact siR | exact siV | exact siB | exact siSI | exact siSV | exact siW | exact siSR | exact siSO | exact siO); (exact one_all rfl); (exact dl); (exact Nat.le_of_ble_eq_true rfl); clear M; intro w1 M; simp only [SX] at M; (try clear F); have F := fxw M); (try go_wp2_with fail); refine hK.out _ _ ?_; clear hK K; (try simp only [AX])
    go_upto_region 3 with fail
    (refine held_begin (S := (fun W' => (∀ j, W'.cell? ⟨g2, j, none⟩ = ([.int .i64 r.id, .int .i64 r.at_, .slice sA r.slots.length sC, .int .i64 r.full, .slice A2 (k + (r.mail.length - (k + 1))) c2, .int .i64 r.state, .int .i64 r.due, .slice lA r.links.length lC, .slice wA r.watched.length wC, .bool r.trap, .int .i64 r.why.k, .int .i64 r.why.n, .int .i64 r.turns] : List Value)[j]?) ∧ ∀ j, W'.cell? ⟨g6, j, none⟩ = ([.int .i64 x.k, .int .i64 x.n] : List Value)[j]?)) (by kernel_rfl) (fun _ _ _ _ _ h => h) (by (exact ⟨kc, kc⟩)) (fun HQ hHeld => ?_))
    refine tkY HQ hHeld 0 ?_; refine tkY HQ hHeld 1 ?_; clear hHeld; (refine nmw (G := fun W => wpAnyH _ _ _ _ _ _ _ _ W) ?_; clear M; (try clear F); intro w1 M F)
    refine stp 2 (fun K hK => ?_)
    refine op_of_list rfl ?_; ((with_reducible apply ev_store (M := M)); rfl; rfl; ((conv => lhs; whnf) <;> rfl); rfl; (first | exact siI | exact siR | exact siV | exact siB | exact siSI | exact siSV | exact siW | exact siSR | exact siSO | exact siO); (exact one_all rfl); (exact dl); (exact Nat.le_of_ble_eq_true rfl); clear M; intro w1 M; simp only [SX] at M; (try clear F); have F := fxw M)
    (try go_wp2_with fail); refine hK.out _ _ (by (exact ⟨kc, kc⟩)) (fun hHeld => ?_); clear hK K; (try simp only [AX])
    refine stp 3 (fun K hK => ?_)
    refine op_of_list rfl ?_; ((with_reducible apply ev_store (M := M)); rfl; rfl; ((conv => lhs; whnf) <;> rfl); rfl; (first | exact siI | exact siR | exact siV | exact siB | exact siSI | exact siSV | exact siW | exact siSR | exact siSO | exact siO); (exact one_all rfl); (exact dl); (exact Nat.le_of_ble_eq_true rfl); clear M; intro w1 M; simp only [SX] at M; (try clear F); have F := fxw M)
    (try go_wp2_with fail); refine hK.out _ _ (by (exact ⟨kc, kc⟩)) (fun hHeld => ?_); clear hK K; (try simp only [AX])
    refine wpAnyH_done (by kernel_rfl) ?_ _; clear HQ; (repeat clear hHeld)
    go_wp2
    (apply ret_cell_cell (M := M); rfl; rfl; rfl; (exact dl); (exact dl); (first | exact agR | exact agV | exact agW | exact agO); (first | exact agR | exact agV | exact agW | exact agO); (first | exact siI | exact siR | exact siV | exact siB | exact siSI | exact siSV | exact siW | exact siSR | exact siSO | exact siO); (first | exact siI | exact siR | exact siV | exact siB | exact siSI | exact siSV | exact siW | exact siSR | exact siSO | exact siO); rfl)
    refine ⟨A2, c2, ?_, ?_⟩
    · simp only [← hsl.out]
    · rw [he.out]
      exact M.sel sl
end Go.Proofs.Ytmidnaafljgbiaa
/- Turns in plain words: each step, turn and event leaves an ok world ok, and sends few values. No Go and no memory here. -/
namespace Go.Proofs.Ytmidnaafljgbiaa

theorem WOk.need {w : Wd} (h : WOk w) {id : Int} (h1 : 1 ≤ id) (h2 : id ≤ w.runs.length) (hs : (getR w.runs id).state ≠ 3) : Need w.code (getR w.runs id).at_ (getR w.runs id).full := by
  have f := h.run h1 h2
  obtain ⟨_, ha, _, hf, _⟩ := runOk_parts f.ok
  exact need_of h.safe ha.1 f.at_ hf (f.need hs)
theorem WOk.code_len {w : Wd} (h : WOk w) : w.code.length ≤ 16 := by
  have h := h.safe
  unfold codeSafe at h
  rw [Bool.and_eq_true] at h
  have ho := h.1
  simp only [codeOk, Bool.and_eq_true, decide_eq_true_eq] at ho
  exact ho.2
theorem runOk_turn {r : Rn} (h : runOk r = true) (hs : r.state ≠ 3) {i s d t : Int} {b : Bool} (hi : 0 ≤ i ∧ i ≤ 15) (hs' : 1 ≤ s ∧ s ≤ 2) (hd : -1 ≤ d ∧ d ≤ 400) (ht : 0 ≤ t ∧ t ≤ 9999) : runOk { r with at_ := i, state := s, due := d, trap := b, turns := t } = true := by
  obtain ⟨h1, h2, h3, h4, h5, h6, h7, h8, h9, h10, h11, h12, h13, h14, h15⟩ := runOk_parts h
  simp only [runOk, Bool.and_eq_true, decide_eq_true_eq, inB_iff, beq_iff_eq]
  refine ⟨⟨⟨⟨⟨⟨⟨⟨⟨⟨⟨⟨⟨h1, hi⟩, h3⟩, h4⟩, h5⟩, by omega⟩, hd⟩, ht⟩, h9⟩, h10⟩, h11⟩, h12⟩, h13⟩, ?_⟩
  rw [if_neg (by omega)]
  simpa using h15 hs
theorem slot_ok {r : Rn} (h : runOk r = true) {s : Int} (hs : 0 ≤ s ∧ s ≤ 3) : valOk (slotAt r s) = true := by
  obtain ⟨_, _, h3, _, _, _, _, _, h9, _⟩ := runOk_parts h
  obtain ⟨a, b, c, d, e⟩ := four h3
  rw [e] at h9
  simp only [slotsFrom, Bool.and_eq_true] at h9
  unfold slotAt
  rw [e]
  have : s = 0 ∨ s = 1 ∨ s = 2 ∨ s = 3 := by omega
  rcases this with rfl | rfl | rfl | rfl
  · exact h9.1.1
  · exact h9.2.1.1
  · exact h9.2.2.1.1
  · exact h9.2.2.2.1.1

/-! ### What a step may do -/
def room (w : Wd) : Int := w.sent + 12 * (6 - (w.runs.length : Int) + (sumR liveW w.runs : Nat))
structure Turned (w w' : Wd) (n : Int) : Prop where
  ok : WOk w'
  code : w'.code = w.code
  len : w.runs.length ≤ w'.runs.length
  room : room w' ≤ room w + n
theorem Turned.trans {a b c : Wd} {m n k : Int} (h : Turned a b m) (h' : Turned b c n) (hk : m + n ≤ k) : Turned a c k :=
  ⟨h'.ok, h'.code.trans h.code, Nat.le_trans h.len h'.len, by have := h.room; have := h'.room; omega⟩
theorem Turned.refl {w : Wd} (h : WOk w) {n : Int} (hn : 0 ≤ n) : Turned w w n := ⟨h, rfl, Nat.le_refl _, by omega⟩
theorem Turned.upd {w : Wd} {id : Int} (h1 : 1 ≤ id) (h2 : id ≤ w.runs.length) {f : Rn → Rn} {q : List Int} {t n : Int} (hs : (getR w.runs id).state ≠ 3) (hs' : (f (getR w.runs id)).state ≠ 3)
    (h : WOk { w with runs := updR w.runs id f, queue := q, taken := t }) (hn : 0 ≤ n) : Turned w { w with runs := updR w.runs id f, queue := q, taken := t } n :=
  ⟨h, rfl, by simp only [updR_length]; exact Nat.le_refl _, by unfold Go.Proofs.Ytmidnaafljgbiaa.room; simp only [updR_length, live_updR h1 h2 hs hs']; omega⟩
theorem Turned.fell {w w' : Wd} {why : Vl} (h : Fell w why w') {n : Int} (hn : 0 ≤ n) : Turned w w' n :=
  ⟨h.ok, h.code, by rw [h.len]; exact Nat.le_refl _, by unfold Go.Proofs.Ytmidnaafljgbiaa.room; rw [h.len]; have := h.sent.2; omega⟩
theorem room_sent {w : Wd} (h : WOk w) : w.sent + 12 * ((sumR liveW w.runs : Nat) : Int) ≤ room w ∧ w.sent ≤ room w := by
  have := h.len
  unfold room
  omega
theorem fall_turned {w : Wd} (h : WOk w) (hr : room w ≤ 9999) (id : Int) {why : Vl} (hv : valOk why = true) {n : Int} (hn : 0 ≤ n) : Turned w (fallAll w id why) n := by
  have := room_sent h
  exact .fell (fallN_facts hv _ w [id] h (Nat.le_refl _) (by omega)).1 hn

section
variable {w : Wd} {id : Int}
theorem setW_ok (h : WOk w) (h1 : 1 ≤ id) (h2 : id ≤ w.runs.length) (hs : (getR w.runs id).state = 1) {v : Vl} (hv : valOk v = true)
    (hk : fillsR (opAt w.code (getR w.runs id).at_).k = true ∨ (opAt w.code (getR w.runs id).at_).k = 3) : WOk (setW w id (opAt w.code (getR w.runs id).at_).r v) := by
  have f := h.run h1 h2
  have nd := h.need h1 h2 (by omega)
  obtain ⟨_, _, _, _, kr, _, _⟩ := opOk_parts nd.at_.op
  have k9 : (opAt w.code (getR w.runs id).at_).k ≠ 9 := by intro e; rw [e] at hk; rcases hk with hk | hk <;> simp [fillsR] at hk
  have k14 : (opAt w.code (getR w.runs id).at_).k ≠ 14 := by intro e; rw [e] at hk; rcases hk with hk | hk <;> simp [fillsR] at hk
  have hl := (nd.at_.next k9 k14).1
  have hlt := nd.at_.lt
  have hc := h.code_len
  have hp := runOk_put f.ok (inB_iff.2 kr) hv
  obtain ⟨_, _, _, _, _, _, hd, ht, _⟩ := runOk_parts hp
  refine upd_ok1 h h1 h2 _ hs hs ?_ rfl hl ((nd.next k9 k14).1 hk) rfl f.watched rfl
  exact runOk_turn hp (by show (getR w.runs id).state ≠ 3; omega) (i := (getR w.runs id).at_ + 1) (s := (getR w.runs id).state) (by omega) (by omega) hd ht
theorem setW_turned (h : WOk w) (h1 : 1 ≤ id) (h2 : id ≤ w.runs.length) (hs : (getR w.runs id).state = 1) {v : Vl} (hv : valOk v = true)
    (hk : fillsR (opAt w.code (getR w.runs id).at_).k = true ∨ (opAt w.code (getR w.runs id).at_).k = 3) {n : Int} (hn : 0 ≤ n) : Turned w (setW w id (opAt w.code (getR w.runs id).at_).r v) n :=
  Turned.upd (q := w.queue) (t := w.taken) h1 h2 (by omega) (by show (getR w.runs id).state ≠ 3; omega) (setW_ok h h1 h2 hs hv hk) hn
/-- A run goes to a place. -/
theorem goto_ok (h : WOk w) (h1 : 1 ≤ id) (h2 : id ≤ w.runs.length) (hs : (getR w.runs id).state = 1) {i d : Int} {b : Bool} (hi : 0 ≤ i ∧ i < w.code.length) (hd : -1 ≤ d ∧ d ≤ 400) (hn : needAt (fullOf w.code) i (getR w.runs id).full = true) {n : Int} (hn0 : 0 ≤ n) :
    Turned w (upd w id (fun r => { r with at_ := i, due := d, trap := b })) n := by
  have f := h.run h1 h2
  have hc := h.code_len
  obtain ⟨_, _, _, _, _, _, _, ht, _⟩ := runOk_parts f.ok
  refine Turned.upd (q := w.queue) (t := w.taken) h1 h2 (by omega) (by show (getR w.runs id).state ≠ 3; omega) (upd_ok1 h h1 h2 _ hs hs ?_ rfl hi.2 hn rfl f.watched rfl) hn0
  exact runOk_turn f.ok (by omega) (s := (getR w.runs id).state) (by omega) (by omega) hd ht
end

/-! ### A value is taken, or a run waits -/
theorem updR_updR {l : List Rn} {id : Int} (h1 : 1 ≤ id) (h2 : id ≤ l.length) (f g : Rn → Rn) : updR (updR l id f) id g = updR l id (fun r => g (f r)) := by
  unfold updR
  rw [List.set_set]
  congr 1
  have := getR_updR h1 h2 h1 f
  rw [if_pos rfl] at this
  unfold updR at this
  rw [this]
def takeW (w : Wd) (id : Int) (o : Opx) : Wd :=
  match firstIx (getR w.runs id).mail o.s with
  | some i => setW { w with runs := updR w.runs id (fun r => { r with mail := r.mail.eraseIdx i, due := 0 }), taken := wr (w.taken + 1) } id o.r ((getR w.runs id).mail.getD i Vl.zero)
  | none => if o.k = 7 then waitW w id 0 else if (getR w.runs id).due < 0 then upd w id (fun r => { r with due := 0, at_ := o.to }) else waitW w id (wr (w.now + o.v.n))
theorem waitW_turned {w : Wd} {id : Int} (h : WOk w) (h1 : 1 ≤ id) (h2 : id ≤ w.runs.length) (hs : (getR w.runs id).state = 1) {d : Int} (hd : 0 ≤ d ∧ d ≤ 400)
    (hw : ((opAt w.code (getR w.runs id).at_).k = 7 ∧ d = 0) ∨ ((opAt w.code (getR w.runs id).at_).k = 8 ∧ w.now < d)) (hn : firstIx (getR w.runs id).mail (opAt w.code (getR w.runs id).at_).s = none) {n : Int} (hn0 : 0 ≤ n) : Turned w (waitW w id d) n := by
  have f := h.run h1 h2
  obtain ⟨_, ha, _, _, _, _, _, ht, _⟩ := runOk_parts f.ok
  refine Turned.upd (t := w.taken) h1 h2 (by omega) (by simp) (upd_ok h h1 h2 (fun r => { r with state := 2, due := d }) (less w.queue id) w.taken (by omega) (by simp) ?_ rfl f.at_ (f.need (by omega)) (fun _ => ?_) rfl f.watched (fun x => ?_) ?_ h.taken rfl) hn0
  · exact runOk_turn f.ok (by omega) ha (by omega) (by omega) ht
  · show ((((opAt w.code (getR w.runs id).at_).k == 7 && d == 0) || ((opAt w.code (getR w.runs id).at_).k == 8 && decide (w.now < d))) && (firstIx (getR w.runs id).mail (opAt w.code (getR w.runs id).at_).s).isNone) = true
    rw [hn]
    rcases hw with ⟨a, b⟩ | ⟨a, b⟩
    · simp [a, b]
    · simp [a, b]
  · rw [mem_less]
    split
    · rename_i e
      exact ⟨fun hx => absurd e hx.2, fun hx => by simp at hx⟩
    · rename_i e
      exact ⟨fun hx => hx.1, fun hx => ⟨hx, e⟩⟩
  · exact h.qnd.filter _
theorem takeW_turned {w : Wd} {id : Int} (h : WOk w) (h1 : 1 ≤ id) (h2 : id ≤ w.runs.length) (hs : (getR w.runs id).state = 1) (hk : (opAt w.code (getR w.runs id).at_).k = 7 ∨ (opAt w.code (getR w.runs id).at_).k = 8) {n : Int} (hn0 : 0 ≤ n) :
    Turned w (takeW w id (opAt w.code (getR w.runs id).at_)) n := by
  have f := h.run h1 h2
  have nd := h.need h1 h2 (by omega)
  have hc := h.code_len
  obtain ⟨_, ov, o8, _, kr, _, kt⟩ := opOk_parts nd.at_.op
  obtain ⟨_, ha, _, hf, _, _, hd, ht, _, hm, _⟩ := runOk_parts f.ok
  have fills : fillsR (opAt w.code (getR w.runs id).at_).k = true := by rcases hk with e | e <;> rw [e] <;> rfl
  have k9 : (opAt w.code (getR w.runs id).at_).k ≠ 9 := by omega
  have k14 : (opAt w.code (getR w.runs id).at_).k ≠ 14 := by omega
  have hl := (nd.at_.next k9 k14).1
  have hlt := nd.at_.lt
  unfold takeW
  cases hx : firstIx (getR w.runs id).mail (opAt w.code (getR w.runs id).at_).s with
  | some i =>
    obtain ⟨hi, _, _⟩ := firstIx_some hx
    have hv : valOk ((getR w.runs id).mail.getD i Vl.zero) = true := by
      rw [List.getD_eq_getElem?_getD, List.getElem?_eq_getElem hi]
      exact List.all_eq_true.1 hm _ (List.getElem_mem _)
    have hwg := waits_ge h1 h2
    have hsum := h.sum
    have hse := h.sent
    have hlo := h.lost
    have hta := h.taken
    have ew : wr (w.taken + 1) = w.taken + 1 := wr_eq (by omega) (by omega)
    have ok2 : runOk (nextR (putR { getR w.runs id with mail := (getR w.runs id).mail.eraseIdx i, due := 0 } (opAt w.code (getR w.runs id).at_).r ((getR w.runs id).mail.getD i Vl.zero))) = true := by
      have e1 := runOk_erase f.ok i
      have e2 := runOk_turn e1 (by show (getR w.runs id).state ≠ 3; omega) (i := (getR w.runs id).at_) (s := (getR w.runs id).state) (d := 0) (b := (getR w.runs id).trap) ha (by omega) (by omega) ht
      have e3 := runOk_put e2 (inB_iff.2 kr) hv
      exact runOk_turn e3 (by show (getR w.runs id).state ≠ 3; omega) (i := (getR w.runs id).at_ + 1) (s := (getR w.runs id).state) (d := 0) (b := (getR w.runs id).trap) (by omega) (by omega) (by omega) ht
    have e : setW { w with runs := updR w.runs id (fun r => { r with mail := r.mail.eraseIdx i, due := 0 }), taken := wr (w.taken + 1) } id (opAt w.code (getR w.runs id).at_).r ((getR w.runs id).mail.getD i Vl.zero) =
        { w with runs := updR w.runs id (fun r => nextR (putR { r with mail := r.mail.eraseIdx i, due := 0 } (opAt w.code (getR w.runs id).at_).r ((getR w.runs id).mail.getD i Vl.zero))), queue := w.queue, taken := w.taken + 1 } := by
      unfold setW upd
      simp only [updR_updR h1 h2, ew]
    show Turned w (setW _ _ _ _) n
    rw [e]
    refine Turned.upd h1 h2 (by omega) (by show (getR w.runs id).state ≠ 3; omega) (upd_ok h h1 h2 _ w.queue (w.taken + 1) (by omega) (by show (getR w.runs id).state ≠ 3; omega) ok2 rfl hl ((nd.next k9 k14).1 (.inl fills)) (fun e => by
      have : (getR w.runs id).state = 2 := e
      omega) rfl f.watched (fun x => ?_) h.qnd ?_ ?_) hn0
    · split
      · rename_i e
        subst e
        have hq := f.queue
        rw [h.run_id h1 h2] at hq
        exact hq.trans ⟨fun _ => hs, fun _ => hs⟩
      · exact Iff.rfl
    · omega
    · show w.taken + 1 + (((getR w.runs id).mail.eraseIdx i).length : Int) = _
      rw [List.length_eraseIdx_of_lt hi]
      omega
  | none =>
    show Turned w (if _ then _ else _) n
    by_cases h7 : (opAt w.code (getR w.runs id).at_).k = 7
    · rw [if_pos h7]
      exact waitW_turned h h1 h2 hs (by omega) (.inl ⟨h7, rfl⟩) hx hn0
    · rw [if_neg h7]
      have h8 : (opAt w.code (getR w.runs id).at_).k = 8 := hk.resolve_left h7
      by_cases hdu : (getR w.runs id).due < 0
      · rw [if_pos hdu]
        exact goto_ok (b := (getR w.runs id).trap) h h1 h2 hs ⟨kt.1, nd.at_.to (by rw [h8]; rfl)⟩ (by omega) (nd.goes (.inl h8)) hn0
      · rw [if_neg hdu]
        obtain ⟨v1, v2⟩ := o8 h8
        have hnow := h.now
        have hvn : (opAt w.code (getR w.runs id).at_).v.n ≤ 99 := by
          unfold valOk at ov
          rw [if_neg (by omega), if_pos v1, inB_iff] at ov
          exact ov.2
        rw [wr_eq (by omega) (by omega)]
        exact waitW_turned h h1 h2 hs (by omega) (.inr ⟨h8, by omega⟩) hx hn0
end Go.Proofs.Ytmidnaafljgbiaa
