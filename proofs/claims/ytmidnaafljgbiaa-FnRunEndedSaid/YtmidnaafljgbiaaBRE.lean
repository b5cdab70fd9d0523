/- Parts of the proof, in one text. -/
import Derived.Test.YtmidnaafljgbiaaB03
import Derived.Test.YtmidnaafljgbiaaB38
import Derived.Test.YtmidnaafljgbiaaB07
import Derived.Test.YtmidnaafljgbiaaB46
/- Bytes that came in are held. -/
namespace Go.Proofs.Ytmidnaafljgbiaa
open Go.RowKit
theorem Mem.ofBytesB {W : World} {A : Option Addr} {n : Nat} {bs : Nat → Int} (h : BytesOk W A n bs) : Mem W (roB A n) W [ro W A n bs] := by
  refine ⟨⟨rfl, rfl, rfl, Nat.le_refl _, fun _ _ _ => rfl, fun k hk => .inl (by simpa [fps, ro] using hk), ?_⟩, fun X hX => ?_⟩
  · show (roB A n ++ []).Nodup
    unfold roB
    split
    · cases A <;> simp [ob]
    · simp
  · obtain rfl : X = ro W A n bs := by simpa using hX
    exact ⟨h, Nat.le_refl _, fun _ _ => rfl⟩
end Go.Proofs.Ytmidnaafljgbiaa
/- The law of a drawn run that ended. -/
namespace Go.Proofs.Ytmidnaafljgbiaa
open Go.RowKit
set_option maxRecDepth 100000

theorem ended_no {r : Rn} (h : r.state = 3) (v : Vl) : runOk { r with mail := [v] } = false := by
  cases hh : runOk { r with mail := [v] } with
  | false => rfl
  | true =>
    have := (runOk_parts hh).2.2.2.2.2.2.2.2.2.2.2.2.2.1 h
    cases this.1
theorem why_no {r : Rn} (h : r.state ≠ 3) : runOk { r with why := ⟨2, 1⟩ } = false := by
  cases hh : runOk { r with why := ⟨2, 1⟩ } with
  | false => rfl
  | true =>
    have := (runOk_parts hh).2.2.2.2.2.2.2.2.2.2.2.2.2.2 h
    cases this
set_option maxHeartbeats 4000000 in
theorem fnRunEnded_small (A : Option Addr) (n c : Nat) (bs : Nat → Int) (w : World) (hb : BytesOk w A n bs) (hnc : n ≤ c) :
    Calls Try.prog 5 #[.slice A n c] w fun e w' => e = .returned (.bool true) ∧ Below w.heap.size w w' := by
  have M := Mem.ofBytesB hb
  have HD : Hid (∀ {W : World} {L : List Asn}, Mem w (roB A n) W (ro w A n bs :: L) → Calls Try.prog 31 #[.slice A n c] W (DRO w A n w (roB A n) L)) := fun {W L} M => sDrawRunOk w A n c bs hnc M
  have hn := hb.1
  have b1 : decide (1048576 < n) = false := by simp; omega
  clear hb hnc
  (try clear F); have F := fxd M
  go_enter Try.func5, Try.ntmps5
  go_upto_region 4 with (first
    | (with_reducible refine alAd M ?_; clear M; (try clear F); intro w1 M F)
    | ((with_reducible apply ev_store (M := M)); rfl; rfl; ((conv => lhs; whnf) <;> rfl); rfl; (first | exact siI | exact siR | exact siV | exact siB | exact siSI | exact siSV | exact siW | exact siSR | exact siSO | exact siO); (exact one_all rfl); (exact dl); (exact Nat.le_of_ble_eq_true rfl); clear M; intro w1 M; simp only [SX] at M; (try clear F); have F := fxd M)
    | (go_at_call 31; refine (HD.out (M.pull dl)).mono ?_; clear M; rintro e w2 ⟨⟨id, at_, slots, full, mail, state, due, links, watched, trap, ⟨wk, wn⟩, turns⟩, ⟨sA, sC, mA, mC, lA, lC, wA, wC⟩, R, p, rfl, hr, hR, M⟩; have hR := Lib.hid hR; clear hr; (try simp only at M); (try clear F); have F := fxd M))
  have HI : Hid (∀ {b : Bool}, runOk ⟨id, at_, slots, full, mail, state, due, links, watched, trap, ⟨wk, wn⟩, turns⟩ = b → ∀ {U : World} {L1 L2 : List Asn}, Mem w (roB A n) U L1 → Del (runA ⟨id, at_, slots, full, mail, state, due, links, watched, trap, ⟨wk, wn⟩, turns⟩ ⟨sA, sC, mA, mC, lA, lC, wA, wC⟩) L1 L2 → Calls Try.prog 32 #[.agg (List.toArray [.int .i64 id, .int .i64 at_, .slice sA slots.length sC, .int .i64 full, .slice mA mail.length mC, .int .i64 state, .int .i64 due, .slice lA links.length lC, .slice wA watched.length wC, .bool trap, .int .i64 wk, .int .i64 wn, .int .i64 turns])] U fun e w' => e = .returned (.bool b) ∧ Below U.heap.size U w') := fun {b} h {U L1 L2} M hd => by
    rw [← h]; exact iRunOk ⟨id, at_, slots, full, mail, state, due, links, watched, trap, ⟨wk, wn⟩, turns⟩ ⟨sA, sC, mA, mC, lA, lC, wA, wC⟩ U.heap.size U (runA_reads (M.is hd)).1 (Nat.le_refl _)
  have HS : Hid (∀ {b : Bool}, runOk ⟨id, at_, slots, full, mail, state, due, links, watched, trap, ⟨wk, wn⟩, turns⟩ = b → ∀ {U : World} {L1 L2 : List Asn}, Mem w (roB A n) U L1 → Del (runA ⟨id, at_, slots, full, mail, state, due, links, watched, trap, ⟨wk, wn⟩, turns⟩ ⟨sA, sC, mA, mC, lA, lC, wA, wC⟩) L1 L2 → Calls Try.prog 33 #[.agg (List.toArray [.int .i64 id, .int .i64 at_, .slice sA slots.length sC, .int .i64 full, .slice mA mail.length mC, .int .i64 state, .int .i64 due, .slice lA links.length lC, .slice wA watched.length wC, .bool trap, .int .i64 wk, .int .i64 wn, .int .i64 turns])] U fun e w' => e = .returned (.bool b) ∧ Below U.heap.size U w') := fun {b} h {U L1 L2} M hd => by
    rw [← h]; exact sRunOk ⟨id, at_, slots, full, mail, state, due, links, watched, trap, ⟨wk, wn⟩, turns⟩ ⟨sA, sC, mA, mC, lA, lC, wA, wC⟩ U.heap.size U (runA_reads (M.is hd)).1 (Nat.le_refl _)
  have HX : Hid (∀ {gl : Nat} {U : World} {L1 L2 L3 : List Asn}, state = 3 → Mem w (roB A n) U L1 → Del (runA ⟨id, at_, slots, full, mail, state, due, links, watched, trap, ⟨wk, wn⟩, turns⟩ ⟨sA, sC, mA, mC, lA, lC, wA, wC⟩) L1 L2 → Del (blk gl tV [.int .i64 0, .int .i64 0]) L1 L3 → Calls Try.prog 32 #[.agg #[.int .i64 id, .int .i64 at_, .slice sA slots.length sC, .int .i64 full, .slice (some ⟨gl, 0, none⟩) 1 1, .int .i64 state, .int .i64 due, .slice lA links.length lC, .slice wA watched.length wC, .bool trap, .int .i64 wk, .int .i64 wn, .int .i64 turns]] U fun e w' => e = .returned (.bool false) ∧ Below U.heap.size U w') := fun {gl U L1 L2 L3} hst M hd hd3 => by
    have h := (runA_reads (M.is hd)).1
    have hm := (row_reads (Mem.row_of encV_length (xs := [(⟨0, 0⟩ : Vl)]) (M.pull hd3) rfl (by simp)) .here).1
    have hx := iRunOk { (⟨id, at_, slots, full, mail, state, due, links, watched, trap, ⟨wk, wn⟩, turns⟩ : Rn) with mail := [⟨0, 0⟩] } { (⟨sA, sC, mA, mC, lA, lC, wA, wC⟩ : RA) with mA := some ⟨gl, 0, none⟩, mC := 1 } U.heap.size U ⟨h.slots, hm, h.links, h.watched, h.sC, by simp, h.lC, h.wC⟩ (Nat.le_refl _)
    rw [ended_no (r := ⟨id, at_, slots, full, mail, state, due, links, watched, trap, ⟨wk, wn⟩, turns⟩) hst] at hx
    exact hx
  have HY : Hid (∀ {U : World} {L1 L2 : List Asn}, state ≠ 3 → Mem w (roB A n) U L1 → Del (runA ⟨id, at_, slots, full, mail, state, due, links, watched, trap, ⟨wk, wn⟩, turns⟩ ⟨sA, sC, mA, mC, lA, lC, wA, wC⟩) L1 L2 → Calls Try.prog 32 #[.agg #[.int .i64 id, .int .i64 at_, .slice sA slots.length sC, .int .i64 full, .slice mA mail.length mC, .int .i64 state, .int .i64 due, .slice lA links.length lC, .slice wA watched.length wC, .bool trap, .int .i64 2, .int .i64 1, .int .i64 turns]] U fun e w' => e = .returned (.bool false) ∧ Below U.heap.size U w') := fun {U L1 L2} hst M hd => by
    have h := (runA_reads (M.is hd)).1
    have hx := iRunOk { (⟨id, at_, slots, full, mail, state, due, links, watched, trap, ⟨wk, wn⟩, turns⟩ : Rn) with why := ⟨2, 1⟩ } ⟨sA, sC, mA, mC, lA, lC, wA, wC⟩ U.heap.size U ⟨h.slots, h.mail, h.links, h.watched, h.sC, h.mC, h.lC, h.wC⟩ (Nat.le_refl _)
    rw [why_no (r := ⟨id, at_, slots, full, mail, state, due, links, watched, trap, ⟨wk, wn⟩, turns⟩) hst] at hx
    exact hx
  cases hok : runOk ⟨id, at_, slots, full, mail, state, due, links, watched, trap, ⟨wk, wn⟩, turns⟩ with
  | false =>
    replace hok := Lib.hid hok
    go_wp2_with (first | ((with_reducible apply ev_store (M := M)); rfl; rfl; ((conv => lhs; whnf) <;> rfl); rfl; (first | exact siI | exact siR | exact siV | exact siB | exact siSI | exact siSV | exact siW | exact siSR | exact siSO | exact siO); (exact one_all rfl); (exact dl); (exact Nat.le_of_ble_eq_true rfl); clear M; intro w1 M; simp only [SX] at M; (try clear F); have F := fxd M) | (go_at_call 32; (refine nmKd ?_; clear M; (try clear F); intro w1 M F); with_reducible refine (HI.out hok.out M dl).mono ?_; rintro e w2 ⟨rfl, hb⟩; replace M := M.below hb; clear hb; (try clear F); have F := fxd M) | (go_at_call 33; (refine nmKd ?_; clear M; (try clear F); intro w1 M F); with_reducible refine (HS.out hok.out M dl).mono ?_; rintro e w2 ⟨rfl, hb⟩; replace M := M.below hb; clear hb; (try clear F); have F := fxd M))
    go_ret
    exact ⟨rfl, rdr_below M dl hR.out.1 hR.out.2⟩
  | true =>
    have hp := runOk_parts hok
    replace hok := Lib.hid hok
    cases hst : (state == 3) with
    | true =>
      obtain rfl : state = 3 := by simpa using hst
      have h0 := hp.2.2.2.2.2.2.2.2.2.2.2.2.2.1 rfl
      simp only at h0
      obtain ⟨rfl, rfl, rfl⟩ := h0
      clear hp hst
      have HX2 := Lib.hid (fun (gl : Nat) (U : World) (L1 L2 L3 : List Asn) (M : Mem w (roB A n) U L1) (hd : Del (runA ⟨id, at_, slots, full, [], 3, due, [], [], trap, ⟨wk, wn⟩, turns⟩ ⟨sA, sC, mA, mC, lA, lC, wA, wC⟩) L1 L2) (hd3 : Del (blk gl tV [.int .i64 0, .int .i64 0]) L1 L3) => HX.out rfl M hd hd3)
      clear HX
      simp only [List.length_nil] at HI HS HX2
      go_wp2_with (first | (with_reducible refine alAd M ?_; clear M; (try clear F); intro w1 M F) | ((with_reducible apply ev_store (M := M)); rfl; rfl; ((conv => lhs; whnf) <;> rfl); rfl; (first | exact siI | exact siR | exact siV | exact siB | exact siSI | exact siSV | exact siW | exact siSR | exact siSO | exact siO); (exact one_all rfl); (exact dl); (exact Nat.le_of_ble_eq_true rfl); clear M; intro w1 M; simp only [SX] at M; (try clear F); have F := fxd M) | (go_at_call 33; (refine nmKd ?_; clear M; (try clear F); intro w1 M F); with_reducible refine (HS.out hok.out M dl).mono ?_; rintro e w2 ⟨rfl, hb⟩; replace M := M.below hb; clear hb; (try clear F); have F := fxd M) | (go_at_call 32; (refine nmKd ?_; clear M; (try clear F); intro w1 M F); with_reducible refine (HX2.out _ _ _ _ _ M dl dl).mono ?_; rintro e w2 ⟨rfl, hb⟩; replace M := M.below hb; clear hb; (try clear F); have F := fxd M) | (go_at_call 32; (refine nmKd ?_; clear M; (try clear F); intro w1 M F); with_reducible refine (HI.out hok.out M dl).mono ?_; rintro e w2 ⟨rfl, hb⟩; replace M := M.below hb; clear hb; (try clear F); have F := fxd M))
      go_ret
      exact ⟨rfl, rdr_below M dl hR.out.1 hR.out.2⟩
    | false =>
      have hst3 : state ≠ 3 := by simpa using hst
      have h0 := hp.2.2.2.2.2.2.2.2.2.2.2.2.2.2 hst3
      simp only [Vl.zero, Vl.mk.injEq] at h0
      obtain ⟨rfl, rfl⟩ := h0
      replace hst3 := Lib.hid hst3
      clear hp
      go_wp2_with (first | (with_reducible refine alAd M ?_; clear M; (try clear F); intro w1 M F) | ((with_reducible apply ev_store (M := M)); rfl; rfl; ((conv => lhs; whnf) <;> rfl); rfl; (first | exact siI | exact siR | exact siV | exact siB | exact siSI | exact siSV | exact siW | exact siSR | exact siSO | exact siO); (exact one_all rfl); (exact dl); (exact Nat.le_of_ble_eq_true rfl); clear M; intro w1 M; simp only [SX] at M; (try clear F); have F := fxd M) | (go_at_call 33; (refine nmKd ?_; clear M; (try clear F); intro w1 M F); with_reducible refine (HS.out hok.out M dl).mono ?_; rintro e w2 ⟨rfl, hb⟩; replace M := M.below hb; clear hb; (try clear F); have F := fxd M) | (go_at_call 32; (refine nmKd ?_; clear M; (try clear F); intro w1 M F); with_reducible refine (HY.out hst3.out M dl).mono ?_; rintro e w2 ⟨rfl, hb⟩; replace M := M.below hb; clear hb; (try clear F); have F := fxd M) | (go_at_call 32; (refine nmKd ?_; clear M; (try clear F); intro w1 M F); with_reducible refine (HI.out hok.out M dl).mono ?_; rintro e w2 ⟨rfl, hb⟩; replace M := M.below hb; clear hb; (try clear F); have F := fxd M))
      go_ret
      exact ⟨rfl, rdr_below M dl hR.out.1 hR.out.2⟩
theorem fnRunEnded_huge (A : Option Addr) (n c : Nat) (w : World) (h : 1048576 < n) (hn : n ≤ 9223372036854775807) :
    Calls Try.prog 5 #[.slice A n c] w fun e w' => e = .returned (.bool true) ∧ Below w.heap.size w w' := by
  have b1 : decide (1048576 < n) = true := by simpa using h
  go_enter Try.func5, Try.ntmps5
  go_wp2
  go_ret
  exact ⟨rfl, Below.refl _ _⟩
theorem fnRunEnded_walk (A : Option Addr) (n c : Nat) (bs : Nat → Int) (w : World) (hb : BytesIn w A n bs) (hnc : n ≤ c) (hc : c ≤ maxLen) :
    Calls Try.prog 5 #[.slice A n c] w fun e w' => e = .returned (.bool true) ∧ Below w.heap.size w w' := by
  by_cases h : n ≤ 1048576
  · exact fnRunEnded_small A n c bs w ⟨h, hb⟩ hnc
  · exact fnRunEnded_huge A n c w (by omega) (by unfold maxLen at hc; omega)
end Go.Proofs.Ytmidnaafljgbiaa
/- The law FnRunEnded returns true at all arguments, and its arguments read behind the call as before. -/
namespace Go.Proofs.Ytmidnaafljgbiaa.fnRunEnded
open Go.ChangeShapes Go.WideShapes Go.ChangeAt Go.RowKit
open Go.ChangeMaps (open_string shut_string)
theorem own : ownKnob Try.prog.godebug = none := by kernel_rfl
theorem laidOut : laidOutB Try.prog = true := by kernel_rfl

set_option maxRecDepth 100000 in
theorem lifted (os : Os) (started : os.Started) (H : Type) (enc : TypeId × Value → H) :
    ReturnsInHanded {} Try.checked os 5 .any (Rows.fnRunEndedSpec.pre6 enc Try.prog Try.f5 Rows.fnRunEndedRow.domain false) (Rows.fnRunEndedSpec.post enc Try.prog Try.f5 false true false false) := by
  refine returnsInHanded_of_change_sized (C := Try.checked) own started (by kernel_rfl) Try.func5
    (ChangeSpec.witness6 (enc := enc) (C := Try.checked) false ⟨#[], #[.slice none 0 0], []⟩ 8 (by kernel_rfl) (by kernel_rfl) (by kernel_rfl) (by kernel_rfl)) ?_
  intro W base args ds gs before hval0 hW hcnd hsz0 _
  have hsz : (DataW.weightsEach Try.prog (Try.f5.params.toList ++ Rows.fnRunEndedSpec.plain.varTypes Try.prog) (ds ++ gs)).all (· ≤ reachBytes) = true := hsz0
  have hval : ∀ (j : Nat) t v, Try.f5.params[j]? = some t → args[j]? = some v → Value.okWide Try.prog W .any base t v := hval0
  have hW' := hW
  obtain ⟨p, q, hA0, hV, rfl, hfz, hnd⟩ := hW
  have hA : DataW.TrodAll enc Try.prog W 0 (fun _ => true) true Try.f5.params.toList args.toList ds p := hA0
  rw [Try.params5] at hA hval hsz
  obtain ⟨v0, vs0, d0, ds0, p0, q0, hargs, rfl, rfl, h0, r0⟩ := trodAll_cons hA
  obtain ⟨rfl, rfl, rfl⟩ := trodAll_nil r0
  obtain rfl : args = #[v0] := by cases args; simp_all
  obtain ⟨rfl, rfl⟩ := trodVars_none hV
  have lt0 : ∀ x ∈ p0, x.block < W.heap.size := by obtain ⟨m, hm⟩ := h0; exact DataW.trod_lt m _ _ _ hm
  obtain ⟨A0, n0, c0, bs0, rfl, hc0, hm0, hb0⟩ := open_bytesA (hval 0 54 v0 rfl rfl) h0
  clear hA0 hval0 hsz0 hsz
  refine (fnRunEnded_walk A0 n0 c0 bs0 W hb0 hc0 hm0).mono fun e W' ⟨he, bel⟩ => ?_
  subst he
  exact ⟨_, rfl, _, _, _, [], _, [], hW', trodAll_mk1 (shut_bool Try.underlying4 _), (trodAll_cons_mk (Below.trod laidOut (by kernel_rfl) (of_decide_eq_true (by kernel_rfl)) h0 bel lt0) trodAll_mk0), rfl, bel.frame _, fun h => by cases h⟩

theorem over : Rows.fnRunEndedRow.holds Try.pinned (OpenSpec.ofChange Rows.fnRunEndedSpec) :=
  OpenClaim.holds_of_wide 5 Try.f5 rfl rfl rfl rfl rfl rfl rfl ⟨rfl, rfl, rfl, rfl, rfl⟩ rfl rfl rfl rfl rfl (by kernel_rfl) Try.func5 (by kernel_rfl)
    (of_decide_eq_true (by kernel_rfl)) (by unfold Func.isWrapper; first | (rw [if_pos (by decide +kernel)]; kernel_rfl) | (rw [if_neg (by decide +kernel)]; exact ⟨rfl, rfl⟩))
    (fun os started H enc _ => lifted os started H enc)
theorem proved : Rows.FnRunEndedSaid := over
#print axioms proved
end Go.Proofs.Ytmidnaafljgbiaa.fnRunEnded
