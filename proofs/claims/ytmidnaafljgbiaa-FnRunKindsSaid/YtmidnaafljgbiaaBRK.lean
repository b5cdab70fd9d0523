/- Parts of the proof, in one text. -/
import Derived.Test.YtmidnaafljgbiaaB37
import Derived.Test.YtmidnaafljgbiaaB43
import Derived.Test.YtmidnaafljgbiaaB44
import Derived.Test.YtmidnaafljgbiaaB45
import Derived.Test.YtmidnaafljgbiaaB39
/- The law of two kinds that are taken out of a drawn run's mail, in any order. -/
namespace Go.Proofs.Ytmidnaafljgbiaa
open Go.RowKit
set_option maxRecDepth 100000

set_option maxHeartbeats 8000000 in
theorem fnRunKinds_small (A : Option Addr) (n c : Nat) (bs : Nat → Int) (A2 : Option Addr) (n2 c2 : Nat) (w : World) (hb : BytesOk w A n bs) (hnc : n ≤ c) (hn2 : n2 ≤ 1048576) :
    Calls Try.prog 11 #[.slice A n c, .slice A2 n2 c2] w fun e w' => e = .returned (.bool true) ∧ Below w.heap.size w w' := by
  have AL := add_lit0
  have M := Mem.ofBytesB hb
  have HD : Hid (∀ {W : World} {L : List Asn}, Mem w (roB A n) W (ro w A n bs :: L) → Calls Try.prog 45 #[.slice A n c] W (DRF w A n w (roB A n) L)) := fun {W L} M => sDrawRunTake w A n c bs hnc M
  have hn := hb.1
  have b1 : decide (1048576 < n) = false := by simp; omega
  have b2 : decide (1048576 < n2) = false := by simp; omega
  clear hb hnc
  (try clear F); have F := fxd M
  go_enter Try.func11, Try.ntmps11
  go_upto_region 4 with (first | (with_reducible refine alAd M ?_; clear M; (try clear F); intro w1 M F) | ((with_reducible apply ev_store (M := M)); rfl; rfl; ((conv => lhs; whnf) <;> rfl); rfl; (first | exact siI | exact siR | exact siV | exact siB | exact siSI | exact siSV | exact siW | exact siSR | exact siSO | exact siO); (exact one_all rfl); (exact dl); (exact Nat.le_of_ble_eq_true rfl); clear M; intro w1 M; simp only [SX] at M; (try clear F); have F := fxd M) | (go_at_call 45; refine (HD.out (M.pull dl)).mono ?_; clear M; rintro e w2 ⟨⟨id, at_, slots, full, mail, state, due, links, watched, trap, ⟨wk, wn⟩, turns⟩, ⟨sA, sC, mA, mC, lA, lC, wA, wC⟩, kind, R, p, rfl, hr, hR, M⟩; have hR := Lib.hid hR; (try simp only at M); (try clear F); have F := fxd M))
  generalize w2.heap.size = g3 at M ⊢
  (try clear F); have F := fxd M
  have hll : links.length ≤ 7 := hr.2.2.1
  have hwl : watched.length ≤ 6 := hr.2.2.2
  clear hr
  rcases runTake_of ⟨id, at_, slots, full, mail, state, due, links, watched, trap, ⟨wk, wn⟩, turns⟩ kind with ⟨k, hk, hok, e1, e2⟩ | ⟨e1, e2⟩
  · simp only at hk hok e1 e2
    obtain ⟨ml, hml⟩ : ∃ ml, ml = mail.eraseIdx k := ⟨_, rfl⟩
    obtain ⟨⟨vk, vn⟩, hv⟩ : ∃ v, v = mail[k] := ⟨_, rfl⟩
    rw [← hml, ← hv] at e2
    have hkin : inB kind 0 3 = true := by
      cases h : inB kind 0 3 with
      | true => rfl
      | false => rw [runFirst, h, Bool.and_false] at e1; simp at e1
    have hkb := inB_iff.1 hkin
    by_cases hk0 : kind = 0
    · have hkq : (kind == 0) = true := by simpa using hk0
      replace hk0 := Lib.hid hk0
      have HI : Hid (∀ {U : World} {L1 L2 : List Asn}, Mem w (roB A n) U L1 → Del (runA ⟨id, at_, slots, full, mail, state, due, links, watched, trap, ⟨wk, wn⟩, turns⟩ ⟨sA, sC, mA, mC, lA, lC, wA, wC⟩) L1 L2 → Calls Try.prog 17 #[.agg (List.toArray [.int .i64 id, .int .i64 at_, .slice sA slots.length sC, .int .i64 full, .slice mA mail.length mC, .int .i64 state, .int .i64 due, .slice lA links.length lC, .slice wA watched.length wC, .bool trap, .int .i64 wk, .int .i64 wn, .int .i64 turns]), .int .i64 kind] U fun e w' => ∃ b : RA, e = .returned (.tuple #[.agg (List.toArray [.int .i64 id, .int .i64 at_, .slice b.sA slots.length b.sC, .int .i64 full, .slice b.mA ml.length b.mC, .int .i64 state, .int .i64 due, .slice b.lA links.length b.lC, .slice b.wA watched.length b.wC, .bool trap, .int .i64 wk, .int .i64 wn, .int .i64 turns]), .agg #[.int .i64 vk, .int .i64 vn], .bool true]) ∧ Mem w (roB A n) w' (runA ⟨id, at_, slots, full, ml, state, due, links, watched, trap, ⟨wk, wn⟩, turns⟩ b :: runA ⟨id, at_, slots, full, mail, state, due, links, watched, trap, ⟨wk, wn⟩, turns⟩ ⟨sA, sC, mA, mC, lA, lC, wA, wC⟩ :: L2)) := fun {U L1 L2} M hd => by
        have h := iRunTake ⟨id, at_, slots, full, mail, state, due, links, watched, trap, ⟨wk, wn⟩, turns⟩ ⟨sA, sC, mA, mC, lA, lC, wA, wC⟩ kind M hd (by show links.length ≤ _; omega) (by show watched.length ≤ _; omega)
        rw [e2] at h
        exact h
      have HS : Hid (∀ {U : World} {L1 L2 : List Asn}, Mem w (roB A n) U L1 → Del (runA ⟨id, at_, slots, full, mail, state, due, links, watched, trap, ⟨wk, wn⟩, turns⟩ ⟨sA, sC, mA, mC, lA, lC, wA, wC⟩) L1 L2 → Calls Try.prog 15 #[.agg (List.toArray [.int .i64 id, .int .i64 at_, .slice sA slots.length sC, .int .i64 full, .slice mA mail.length mC, .int .i64 state, .int .i64 due, .slice lA links.length lC, .slice wA watched.length wC, .bool trap, .int .i64 wk, .int .i64 wn, .int .i64 turns]), .int .i64 kind] U fun e w' => ∃ b : RA, e = .returned (.tuple #[.agg (List.toArray [.int .i64 id, .int .i64 at_, .slice b.sA slots.length b.sC, .int .i64 full, .slice b.mA ml.length b.mC, .int .i64 state, .int .i64 due, .slice b.lA links.length b.lC, .slice b.wA watched.length b.wC, .bool trap, .int .i64 wk, .int .i64 wn, .int .i64 turns]), .agg #[.int .i64 vk, .int .i64 vn], .bool true]) ∧ Mem w (roB A n) w' (runA ⟨id, at_, slots, full, ml, state, due, links, watched, trap, ⟨wk, wn⟩, turns⟩ b :: runA ⟨id, at_, slots, full, mail, state, due, links, watched, trap, ⟨wk, wn⟩, turns⟩ ⟨sA, sC, mA, mC, lA, lC, wA, wC⟩ :: L2)) := fun {U L1 L2} M hd => by
        have h := sRunTake ⟨id, at_, slots, full, mail, state, due, links, watched, trap, ⟨wk, wn⟩, turns⟩ ⟨sA, sC, mA, mC, lA, lC, wA, wC⟩ kind M hd (by show links.length ≤ _; omega) (by show watched.length ≤ _; omega)
        rw [e2] at h
        exact h
      have HL : Hid (∀ {sA1 mA1 lA1 wA1 sA2 mA2 lA2 wA2 : Option Addr} {sC1 mC1 lC1 wC1 sC2 mC2 lC2 wC2 : Nat} {U : World} {L1 L2 L3 : List Asn}, Mem w (roB A n) U L1 → Del (runA ⟨id, at_, slots, full, ml, state, due, links, watched, trap, ⟨wk, wn⟩, turns⟩ ⟨sA1, sC1, mA1, mC1, lA1, lC1, wA1, wC1⟩) L1 L2 → Del (runA ⟨id, at_, slots, full, ml, state, due, links, watched, trap, ⟨wk, wn⟩, turns⟩ ⟨sA2, sC2, mA2, mC2, lA2, lC2, wA2, wC2⟩) L1 L3 → Calls Try.prog 40 #[.agg (List.toArray [.int .i64 id, .int .i64 at_, .slice sA1 slots.length sC1, .int .i64 full, .slice mA1 ml.length mC1, .int .i64 state, .int .i64 due, .slice lA1 links.length lC1, .slice wA1 watched.length wC1, .bool trap, .int .i64 wk, .int .i64 wn, .int .i64 turns]), .agg (List.toArray [.int .i64 id, .int .i64 at_, .slice sA2 slots.length sC2, .int .i64 full, .slice mA2 ml.length mC2, .int .i64 state, .int .i64 due, .slice lA2 links.length lC2, .slice wA2 watched.length wC2, .bool trap, .int .i64 wk, .int .i64 wn, .int .i64 turns])] U fun e w' => e = .returned (.bool true) ∧ Below U.heap.size U w') := fun {sA1 mA1 lA1 wA1 sA2 mA2 lA2 wA2 sC1 mC1 lC1 wC1 sC2 mC2 lC2 wC2 U L1 L2 L3} M hd hd2 => lvRunOk ⟨id, at_, slots, full, ml, state, due, links, watched, trap, ⟨wk, wn⟩, turns⟩ ⟨sA1, sC1, mA1, mC1, lA1, lC1, wA1, wC1⟩ ⟨sA2, sC2, mA2, mC2, lA2, lC2, wA2, wC2⟩ U.heap.size U (runA_reads (M.is hd)).1 (runA_reads (M.is hd2)).1 (Nat.le_refl _)
      clear e1 e2 hv hml hok
      go_wp2_with (first | (with_reducible refine alAd M ?_; clear M; (try clear F); intro w1 M F) | ((with_reducible apply ev_store (M := M)); rfl; rfl; ((conv => lhs; whnf) <;> rfl); rfl; (first | exact siI | exact siR | exact siV | exact siB | exact siSI | exact siSV | exact siW | exact siSR | exact siSO | exact siO); (exact one_all rfl); (exact dl); (exact Nat.le_of_ble_eq_true rfl); clear M; intro w1 M; simp only [SX] at M; (try clear F); have F := fxd M) | (go_at_call 17; (refine nmKd ?_; clear M; (try clear F); intro w1 M F); with_reducible refine (HI.out M dl).mono ?_; clear M; rintro e w2 ⟨⟨sA1, sC1, mA1, mC1, lA1, lC1, wA1, wC1⟩, rfl, M⟩; (try simp only at M); (try clear F); have F := fxd M) | (go_at_call 15; (refine nmKd ?_; clear M; (try clear F); intro w1 M F); with_reducible refine (HS.out M dl).mono ?_; clear M; rintro e w2 ⟨⟨sA2, sC2, mA2, mC2, lA2, lC2, wA2, wC2⟩, rfl, M⟩; (try simp only at M); (try clear F); have F := fxd M) | (go_at_call 40; (refine nmKd ?_; clear M; (try clear F); intro w1 M F); with_reducible refine (HL.out M dl dl).mono ?_; rintro e w2 ⟨rfl, hb⟩; replace M := M.below hb; clear hb; (try clear F); have F := fxd M))
      go_ret
      exact ⟨rfl, rdr_below M dl hR.out.1 hR.out.2⟩
    · obtain ⟨o, ho⟩ : ∃ o : Int, o = if n2 % 2 = 0 then (kind + 1) % 3 + 1 else kind % 3 + 1 := ⟨_, rfl⟩
      have ho3 : 1 ≤ o ∧ o ≤ 3 ∧ o ≠ kind := by
        rw [ho]
        split <;> omega
      have HI : Hid (∀ {U : World} {L1 L2 : List Asn}, Mem w (roB A n) U L1 → Del (runA ⟨id, at_, slots, full, mail, state, due, links, watched, trap, ⟨wk, wn⟩, turns⟩ ⟨sA, sC, mA, mC, lA, lC, wA, wC⟩) L1 L2 → Calls Try.prog 17 #[.agg (List.toArray [.int .i64 id, .int .i64 at_, .slice sA slots.length sC, .int .i64 full, .slice mA mail.length mC, .int .i64 state, .int .i64 due, .slice lA links.length lC, .slice wA watched.length wC, .bool trap, .int .i64 wk, .int .i64 wn, .int .i64 turns]), .int .i64 kind] U fun e w' => ∃ b : RA, e = .returned (.tuple #[.agg (List.toArray [.int .i64 id, .int .i64 at_, .slice b.sA slots.length b.sC, .int .i64 full, .slice b.mA ml.length b.mC, .int .i64 state, .int .i64 due, .slice b.lA links.length b.lC, .slice b.wA watched.length b.wC, .bool trap, .int .i64 wk, .int .i64 wn, .int .i64 turns]), .agg #[.int .i64 vk, .int .i64 vn], .bool true]) ∧ Mem w (roB A n) w' (runA ⟨id, at_, slots, full, ml, state, due, links, watched, trap, ⟨wk, wn⟩, turns⟩ b :: runA ⟨id, at_, slots, full, mail, state, due, links, watched, trap, ⟨wk, wn⟩, turns⟩ ⟨sA, sC, mA, mC, lA, lC, wA, wC⟩ :: L2)) := fun {U L1 L2} M hd => by
        have h := iRunTake ⟨id, at_, slots, full, mail, state, due, links, watched, trap, ⟨wk, wn⟩, turns⟩ ⟨sA, sC, mA, mC, lA, lC, wA, wC⟩ kind M hd (by show links.length ≤ _; omega) (by show watched.length ≤ _; omega)
        rw [e2] at h
        exact h
      have HS : Hid (∀ {U : World} {L1 L2 : List Asn}, Mem w (roB A n) U L1 → Del (runA ⟨id, at_, slots, full, mail, state, due, links, watched, trap, ⟨wk, wn⟩, turns⟩ ⟨sA, sC, mA, mC, lA, lC, wA, wC⟩) L1 L2 → Calls Try.prog 15 #[.agg (List.toArray [.int .i64 id, .int .i64 at_, .slice sA slots.length sC, .int .i64 full, .slice mA mail.length mC, .int .i64 state, .int .i64 due, .slice lA links.length lC, .slice wA watched.length wC, .bool trap, .int .i64 wk, .int .i64 wn, .int .i64 turns]), .int .i64 kind] U fun e w' => ∃ b : RA, e = .returned (.tuple #[.agg (List.toArray [.int .i64 id, .int .i64 at_, .slice b.sA slots.length b.sC, .int .i64 full, .slice b.mA ml.length b.mC, .int .i64 state, .int .i64 due, .slice b.lA links.length b.lC, .slice b.wA watched.length b.wC, .bool trap, .int .i64 wk, .int .i64 wn, .int .i64 turns]), .agg #[.int .i64 vk, .int .i64 vn], .bool true]) ∧ Mem w (roB A n) w' (runA ⟨id, at_, slots, full, ml, state, due, links, watched, trap, ⟨wk, wn⟩, turns⟩ b :: runA ⟨id, at_, slots, full, mail, state, due, links, watched, trap, ⟨wk, wn⟩, turns⟩ ⟨sA, sC, mA, mC, lA, lC, wA, wC⟩ :: L2)) := fun {U L1 L2} M hd => by
        have h := sRunTake ⟨id, at_, slots, full, mail, state, due, links, watched, trap, ⟨wk, wn⟩, turns⟩ ⟨sA, sC, mA, mC, lA, lC, wA, wC⟩ kind M hd (by show links.length ≤ _; omega) (by show watched.length ≤ _; omega)
        rw [e2] at h
        exact h
      have HL : Hid (∀ {sA1 mA1 lA1 wA1 sA2 mA2 lA2 wA2 : Option Addr} {sC1 mC1 lC1 wC1 sC2 mC2 lC2 wC2 : Nat} {U : World} {L1 L2 L3 : List Asn}, Mem w (roB A n) U L1 → Del (runA ⟨id, at_, slots, full, ml, state, due, links, watched, trap, ⟨wk, wn⟩, turns⟩ ⟨sA1, sC1, mA1, mC1, lA1, lC1, wA1, wC1⟩) L1 L2 → Del (runA ⟨id, at_, slots, full, ml, state, due, links, watched, trap, ⟨wk, wn⟩, turns⟩ ⟨sA2, sC2, mA2, mC2, lA2, lC2, wA2, wC2⟩) L1 L3 → Calls Try.prog 40 #[.agg (List.toArray [.int .i64 id, .int .i64 at_, .slice sA1 slots.length sC1, .int .i64 full, .slice mA1 ml.length mC1, .int .i64 state, .int .i64 due, .slice lA1 links.length lC1, .slice wA1 watched.length wC1, .bool trap, .int .i64 wk, .int .i64 wn, .int .i64 turns]), .agg (List.toArray [.int .i64 id, .int .i64 at_, .slice sA2 slots.length sC2, .int .i64 full, .slice mA2 ml.length mC2, .int .i64 state, .int .i64 due, .slice lA2 links.length lC2, .slice wA2 watched.length wC2, .bool trap, .int .i64 wk, .int .i64 wn, .int .i64 turns])] U fun e w' => e = .returned (.bool true) ∧ Below U.heap.size U w') := fun {sA1 mA1 lA1 wA1 sA2 mA2 lA2 wA2 sC1 mC1 lC1 wC1 sC2 mC2 lC2 wC2 U L1 L2 L3} M hd hd2 => lvRunOk ⟨id, at_, slots, full, ml, state, due, links, watched, trap, ⟨wk, wn⟩, turns⟩ ⟨sA1, sC1, mA1, mC1, lA1, lC1, wA1, wC1⟩ ⟨sA2, sC2, mA2, mC2, lA2, lC2, wA2, wC2⟩ U.heap.size U (runA_reads (M.is hd)).1 (runA_reads (M.is hd2)).1 (Nat.le_refl _)
      have two := runTake_two hok (k1 := kind) (k2 := o) (inB_iff.2 (by omega)) (inB_iff.2 (by omega)) (by omega) (by rw [e2])
      rw [e2] at two
      simp only at two
      have q1 : (kind == 0) = false := by simpa using hk0
      have q2 : (o == kind) = false := by simp; omega
      have w3 : IntKind.i64.wrap o = o := IntWalk.i64_in _ (by omega)
      clear hv hml e1
      replace hok := Lib.hid hok
      replace e2 := Lib.hid e2
      replace two := Lib.hid two
      go_upto_region 8 with (first | (with_reducible refine alAd M ?_; clear M; (try clear F); intro w1 M F) | ((with_reducible apply ev_store (M := M)); rfl; rfl; ((conv => lhs; whnf) <;> rfl); rfl; (first | exact siI | exact siR | exact siV | exact siB | exact siSI | exact siSV | exact siW | exact siSR | exact siSO | exact siO); (exact one_all rfl); (exact dl); (exact Nat.le_of_ble_eq_true rfl); clear M; intro w1 M; simp only [SX] at M; (try clear F); have F := fxd M) | (go_at_call 17; (refine nmKd ?_; clear M; (try clear F); intro w1 M F); with_reducible refine (HI.out M dl).mono ?_; clear M; rintro e w2 ⟨⟨sA1, sC1, mA1, mC1, lA1, lC1, wA1, wC1⟩, rfl, M⟩; (try simp only at M); (try clear F); have F := fxd M) | (go_at_call 15; (refine nmKd ?_; clear M; (try clear F); intro w1 M F); with_reducible refine (HS.out M dl).mono ?_; clear M; rintro e w2 ⟨⟨sA2, sC2, mA2, mC2, lA2, lC2, wA2, wC2⟩, rfl, M⟩; (try simp only at M); (try clear F); have F := fxd M) | (go_at_call 40; (refine nmKd ?_; clear M; (try clear F); intro w1 M F); with_reducible refine (HL.out M dl dl).mono ?_; rintro e w2 ⟨rfl, hb⟩; replace M := M.below hb; clear hb; (try clear F); have F := fxd M))
      obtain ⟨g11, hgn⟩ := blkName M .here
      rw [hgn] at M ⊢
      clear hgn
      obtain ⟨g10, hgn⟩ := blkName M (.there .here)
      rw [hgn] at M ⊢
      clear hgn
      have MU : Mem w (roB A n) _ (blk g3 tR [.int .i64 id, .int .i64 at_, .slice sA slots.length sC, .int .i64 full, .slice mA mail.length mC, .int .i64 state, .int .i64 due, .slice lA links.length lC, .slice wA watched.length wC, .bool trap, .int .i64 wk, .int .i64 wn, .int .i64 turns] :: blk g10 tR [.int .i64 id, .int .i64 at_, .slice sA1 slots.length sC1, .int .i64 full, .slice mA1 ml.length mC1, .int .i64 state, .int .i64 due, .slice lA1 links.length lC1, .slice wA1 watched.length wC1, .bool trap, .int .i64 wk, .int .i64 wn, .int .i64 turns] :: blk g11 tV [.int .i64 vk, .int .i64 vn] :: runA ⟨id, at_, slots, full, ml, state, due, links, watched, trap, ⟨wk, wn⟩, turns⟩ ⟨sA1, sC1, mA1, mC1, lA1, lC1, wA1, wC1⟩ :: runA ⟨id, at_, slots, full, mail, state, due, links, watched, trap, ⟨wk, wn⟩, turns⟩ ⟨sA, sC, mA, mC, lA, lC, wA, wC⟩ :: rdr R p :: []) := M.sel sl
      clear M F HI HS HL
      have M := MU
      clear MU
      (try clear F); have F := fxd M
      replace two := two.out
      rcases runTake_of ⟨id, at_, slots, full, mail, state, due, links, watched, trap, ⟨wk, wn⟩, turns⟩ o with ⟨k2, hk2, _, _, e3⟩ | ⟨_, e3⟩
      · simp only at hk2 e3
        obtain ⟨l3, hl3⟩ : ∃ l, l = mail.eraseIdx k2 := ⟨_, rfl⟩
        obtain ⟨⟨uk, un⟩, hu⟩ : ∃ v, v = mail[k2] := ⟨_, rfl⟩
        rw [← hl3, ← hu] at e3
        rw [e3] at two
        simp only at two
        obtain ⟨t1, t2⟩ := two
        obtain ⟨t3, t4, t5, t6⟩ := t2 trivial
        rcases runTake_of ⟨id, at_, slots, full, ml, state, due, links, watched, trap, ⟨wk, wn⟩, turns⟩ o with ⟨k4, hk4, _, _, e4⟩ | ⟨_, e4⟩
        · simp only at hk4 e4
          obtain ⟨l4, hl4⟩ : ∃ l, l = ml.eraseIdx k4 := ⟨_, rfl⟩
          rw [← hl4] at e4
          rw [e4] at t5 t6
          simp only at t5 t6
          rw [← t5] at e4
          have e5 : runTake ⟨id, at_, slots, full, l3, state, due, links, watched, trap, ⟨wk, wn⟩, turns⟩ kind = (⟨id, at_, slots, full, l4, state, due, links, watched, trap, ⟨wk, wn⟩, turns⟩, ⟨vk, vn⟩, true) := Prod.ext t6 (Prod.ext t4 t3)
          have HI2 : Hid (∀ {sA1 mA1 lA1 wA1 : Option Addr} {sC1 mC1 lC1 wC1 : Nat} {U : World} {L1 L2 : List Asn}, Mem w (roB A n) U L1 → Del (runA ⟨id, at_, slots, full, ml, state, due, links, watched, trap, ⟨wk, wn⟩, turns⟩ ⟨sA1, sC1, mA1, mC1, lA1, lC1, wA1, wC1⟩) L1 L2 → Calls Try.prog 17 #[.agg (List.toArray [.int .i64 id, .int .i64 at_, .slice sA1 slots.length sC1, .int .i64 full, .slice mA1 ml.length mC1, .int .i64 state, .int .i64 due, .slice lA1 links.length lC1, .slice wA1 watched.length wC1, .bool trap, .int .i64 wk, .int .i64 wn, .int .i64 turns]), .int .i64 o] U fun e w' => ∃ b : RA, e = .returned (.tuple #[.agg (List.toArray [.int .i64 id, .int .i64 at_, .slice b.sA slots.length b.sC, .int .i64 full, .slice b.mA l4.length b.mC, .int .i64 state, .int .i64 due, .slice b.lA links.length b.lC, .slice b.wA watched.length b.wC, .bool trap, .int .i64 wk, .int .i64 wn, .int .i64 turns]), .agg #[.int .i64 uk, .int .i64 un], .bool true]) ∧ Mem w (roB A n) w' (runA ⟨id, at_, slots, full, l4, state, due, links, watched, trap, ⟨wk, wn⟩, turns⟩ b :: runA ⟨id, at_, slots, full, ml, state, due, links, watched, trap, ⟨wk, wn⟩, turns⟩ ⟨sA1, sC1, mA1, mC1, lA1, lC1, wA1, wC1⟩ :: L2)) := fun {sA1 mA1 lA1 wA1 sC1 mC1 lC1 wC1 U L1 L2} M hd => by
            have h := iRunTake ⟨id, at_, slots, full, ml, state, due, links, watched, trap, ⟨wk, wn⟩, turns⟩ ⟨sA1, sC1, mA1, mC1, lA1, lC1, wA1, wC1⟩ o M hd (by show links.length ≤ _; omega) (by show watched.length ≤ _; omega)
            rw [e4] at h
            exact h
          have HI3 : Hid (∀ {sA6 mA6 lA6 wA6 : Option Addr} {sC6 mC6 lC6 wC6 : Nat} {U : World} {L1 L2 : List Asn}, Mem w (roB A n) U L1 → Del (runA ⟨id, at_, slots, full, mail, state, due, links, watched, trap, ⟨wk, wn⟩, turns⟩ ⟨sA6, sC6, mA6, mC6, lA6, lC6, wA6, wC6⟩) L1 L2 → Calls Try.prog 17 #[.agg (List.toArray [.int .i64 id, .int .i64 at_, .slice sA6 slots.length sC6, .int .i64 full, .slice mA6 mail.length mC6, .int .i64 state, .int .i64 due, .slice lA6 links.length lC6, .slice wA6 watched.length wC6, .bool trap, .int .i64 wk, .int .i64 wn, .int .i64 turns]), .int .i64 o] U fun e w' => ∃ b : RA, e = .returned (.tuple #[.agg (List.toArray [.int .i64 id, .int .i64 at_, .slice b.sA slots.length b.sC, .int .i64 full, .slice b.mA l3.length b.mC, .int .i64 state, .int .i64 due, .slice b.lA links.length b.lC, .slice b.wA watched.length b.wC, .bool trap, .int .i64 wk, .int .i64 wn, .int .i64 turns]), .agg #[.int .i64 uk, .int .i64 un], .bool true]) ∧ Mem w (roB A n) w' (runA ⟨id, at_, slots, full, l3, state, due, links, watched, trap, ⟨wk, wn⟩, turns⟩ b :: runA ⟨id, at_, slots, full, mail, state, due, links, watched, trap, ⟨wk, wn⟩, turns⟩ ⟨sA6, sC6, mA6, mC6, lA6, lC6, wA6, wC6⟩ :: L2)) := fun {sA6 mA6 lA6 wA6 sC6 mC6 lC6 wC6 U L1 L2} M hd => by
            have h := iRunTake ⟨id, at_, slots, full, mail, state, due, links, watched, trap, ⟨wk, wn⟩, turns⟩ ⟨sA6, sC6, mA6, mC6, lA6, lC6, wA6, wC6⟩ o M hd (by show links.length ≤ _; omega) (by show watched.length ≤ _; omega)
            rw [e3] at h
            exact h
          have HI4 : Hid (∀ {sA7 mA7 lA7 wA7 : Option Addr} {sC7 mC7 lC7 wC7 : Nat} {U : World} {L1 L2 : List Asn}, Mem w (roB A n) U L1 → Del (runA ⟨id, at_, slots, full, l3, state, due, links, watched, trap, ⟨wk, wn⟩, turns⟩ ⟨sA7, sC7, mA7, mC7, lA7, lC7, wA7, wC7⟩) L1 L2 → Calls Try.prog 17 #[.agg (List.toArray [.int .i64 id, .int .i64 at_, .slice sA7 slots.length sC7, .int .i64 full, .slice mA7 l3.length mC7, .int .i64 state, .int .i64 due, .slice lA7 links.length lC7, .slice wA7 watched.length wC7, .bool trap, .int .i64 wk, .int .i64 wn, .int .i64 turns]), .int .i64 kind] U fun e w' => ∃ b : RA, e = .returned (.tuple #[.agg (List.toArray [.int .i64 id, .int .i64 at_, .slice b.sA slots.length b.sC, .int .i64 full, .slice b.mA l4.length b.mC, .int .i64 state, .int .i64 due, .slice b.lA links.length b.lC, .slice b.wA watched.length b.wC, .bool trap, .int .i64 wk, .int .i64 wn, .int .i64 turns]), .agg #[.int .i64 vk, .int .i64 vn], .bool true]) ∧ Mem w (roB A n) w' (runA ⟨id, at_, slots, full, l4, state, due, links, watched, trap, ⟨wk, wn⟩, turns⟩ b :: runA ⟨id, at_, slots, full, l3, state, due, links, watched, trap, ⟨wk, wn⟩, turns⟩ ⟨sA7, sC7, mA7, mC7, lA7, lC7, wA7, wC7⟩ :: L2)) := fun {sA7 mA7 lA7 wA7 sC7 mC7 lC7 wC7 U L1 L2} M hd => by
            have h := iRunTake ⟨id, at_, slots, full, l3, state, due, links, watched, trap, ⟨wk, wn⟩, turns⟩ ⟨sA7, sC7, mA7, mC7, lA7, lC7, wA7, wC7⟩ kind M hd (by show links.length ≤ _; omega) (by show watched.length ≤ _; omega)
            rw [e5] at h
            exact h
          have HL4 : Hid (∀ {sA8 mA8 lA8 wA8 sA5 mA5 lA5 wA5 : Option Addr} {sC8 mC8 lC8 wC8 sC5 mC5 lC5 wC5 : Nat} {U : World} {L1 L2 L3 : List Asn}, Mem w (roB A n) U L1 → Del (runA ⟨id, at_, slots, full, l4, state, due, links, watched, trap, ⟨wk, wn⟩, turns⟩ ⟨sA8, sC8, mA8, mC8, lA8, lC8, wA8, wC8⟩) L1 L2 → Del (runA ⟨id, at_, slots, full, l4, state, due, links, watched, trap, ⟨wk, wn⟩, turns⟩ ⟨sA5, sC5, mA5, mC5, lA5, lC5, wA5, wC5⟩) L1 L3 → Calls Try.prog 40 #[.agg (List.toArray [.int .i64 id, .int .i64 at_, .slice sA8 slots.length sC8, .int .i64 full, .slice mA8 l4.length mC8, .int .i64 state, .int .i64 due, .slice lA8 links.length lC8, .slice wA8 watched.length wC8, .bool trap, .int .i64 wk, .int .i64 wn, .int .i64 turns]), .agg (List.toArray [.int .i64 id, .int .i64 at_, .slice sA5 slots.length sC5, .int .i64 full, .slice mA5 l4.length mC5, .int .i64 state, .int .i64 due, .slice lA5 links.length lC5, .slice wA5 watched.length wC5, .bool trap, .int .i64 wk, .int .i64 wn, .int .i64 turns])] U fun e w' => e = .returned (.bool true) ∧ Below U.heap.size U w') := fun {sA8 mA8 lA8 wA8 sA5 mA5 lA5 wA5 sC8 mC8 lC8 wC8 sC5 mC5 lC5 wC5 U L1 L2 L3} M hd hd2 => lvRunOk ⟨id, at_, slots, full, l4, state, due, links, watched, trap, ⟨wk, wn⟩, turns⟩ ⟨sA8, sC8, mA8, mC8, lA8, lC8, wA8, wC8⟩ ⟨sA5, sC5, mA5, mC5, lA5, lC5, wA5, wC5⟩ U.heap.size U (runA_reads (M.is hd)).1 (runA_reads (M.is hd2)).1 (Nat.le_refl _)
          clear e2 hok e3 e4 e5 hl3 hl4 hu t1 t2 t3 t4 t5 t6
          by_cases hp : n2 % 2 = 0
          · rw [if_pos hp] at ho
            have p1 : ((n2 : Int) % 2 == 0) = true := by simp; omega
            have p2 : (kind + 1) % 3 + 1 = o := ho.symm
            have p3 : IntKind.i64.wrap (kind % 3 + 1) = kind % 3 + 1 := IntWalk.i64_in _ (by omega)
            clear ho hp
            replace ho3 := Lib.hid ho3
            go_upto_region 13 with fail
            go_wp2_with (first | (with_reducible refine alAd M ?_; clear M; (try clear F); intro w1 M F) | ((with_reducible apply ev_store (M := M)); rfl; rfl; ((conv => lhs; whnf) <;> rfl); rfl; (first | exact siI | exact siR | exact siV | exact siB | exact siSI | exact siSV | exact siW | exact siSR | exact siSO | exact siO); (exact one_all rfl); (exact dl); (exact Nat.le_of_ble_eq_true rfl); clear M; intro w1 M; simp only [SX] at M; (try clear F); have F := fxd M) | (go_at_call 17; (refine nmKd ?_; clear M; (try clear F); intro w1 M F); with_reducible refine (HI2.out M dl).mono ?_; clear M; rintro e w2 ⟨⟨sA5, sC5, mA5, mC5, lA5, lC5, wA5, wC5⟩, rfl, M⟩; (try simp only at M); (try clear F); have F := fxd M) | (go_at_call 17; (refine nmKd ?_; clear M; (try clear F); intro w1 M F); with_reducible refine (HI3.out M dl).mono ?_; clear M; rintro e w2 ⟨⟨sA7, sC7, mA7, mC7, lA7, lC7, wA7, wC7⟩, rfl, M⟩; (try simp only at M); (try clear F); have F := fxd M) | (go_at_call 17; (refine nmKd ?_; clear M; (try clear F); intro w1 M F); with_reducible refine (HI4.out M dl).mono ?_; clear M; rintro e w2 ⟨⟨sA8, sC8, mA8, mC8, lA8, lC8, wA8, wC8⟩, rfl, M⟩; (try simp only at M); (try clear F); have F := fxd M) | (go_at_call 40; (refine nmKd ?_; clear M; (try clear F); intro w1 M F); with_reducible refine (HL4.out M dl dl).mono ?_; rintro e w2 ⟨rfl, hb⟩; replace M := M.below hb; clear hb; (try clear F); have F := fxd M))
            go_ret
            exact ⟨rfl, rdr_below M dl hR.out.1 hR.out.2⟩
          · rw [if_neg hp] at ho
            have p1 : ((n2 : Int) % 2 == 0) = false := by simp; omega
            have p2 : kind % 3 + 1 = o := ho.symm
            clear ho hp
            replace ho3 := Lib.hid ho3
            go_upto_region 13 with fail
            go_wp2_with (first | (with_reducible refine alAd M ?_; clear M; (try clear F); intro w1 M F) | ((with_reducible apply ev_store (M := M)); rfl; rfl; ((conv => lhs; whnf) <;> rfl); rfl; (first | exact siI | exact siR | exact siV | exact siB | exact siSI | exact siSV | exact siW | exact siSR | exact siSO | exact siO); (exact one_all rfl); (exact dl); (exact Nat.le_of_ble_eq_true rfl); clear M; intro w1 M; simp only [SX] at M; (try clear F); have F := fxd M) | (go_at_call 17; (refine nmKd ?_; clear M; (try clear F); intro w1 M F); with_reducible refine (HI2.out M dl).mono ?_; clear M; rintro e w2 ⟨⟨sA5, sC5, mA5, mC5, lA5, lC5, wA5, wC5⟩, rfl, M⟩; (try simp only at M); (try clear F); have F := fxd M) | (go_at_call 17; (refine nmKd ?_; clear M; (try clear F); intro w1 M F); with_reducible refine (HI3.out M dl).mono ?_; clear M; rintro e w2 ⟨⟨sA7, sC7, mA7, mC7, lA7, lC7, wA7, wC7⟩, rfl, M⟩; (try simp only at M); (try clear F); have F := fxd M) | (go_at_call 17; (refine nmKd ?_; clear M; (try clear F); intro w1 M F); with_reducible refine (HI4.out M dl).mono ?_; clear M; rintro e w2 ⟨⟨sA8, sC8, mA8, mC8, lA8, lC8, wA8, wC8⟩, rfl, M⟩; (try simp only at M); (try clear F); have F := fxd M) | (go_at_call 40; (refine nmKd ?_; clear M; (try clear F); intro w1 M F); with_reducible refine (HL4.out M dl dl).mono ?_; rintro e w2 ⟨rfl, hb⟩; replace M := M.below hb; clear hb; (try clear F); have F := fxd M))
            go_ret
            exact ⟨rfl, rdr_below M dl hR.out.1 hR.out.2⟩
        · rw [e4] at t1
          cases t1
      · rw [e3] at two
        simp only at two
        rcases runTake_of ⟨id, at_, slots, full, ml, state, due, links, watched, trap, ⟨wk, wn⟩, turns⟩ o with ⟨k4, hk4, _, _, e4⟩ | ⟨_, e4⟩
        · rw [e4] at two
          exact absurd two.1 (by simp)
        · have HI2 : Hid (∀ {sA1 mA1 lA1 wA1 : Option Addr} {sC1 mC1 lC1 wC1 : Nat} {U : World} {L1 L2 : List Asn}, Mem w (roB A n) U L1 → Del (runA ⟨id, at_, slots, full, ml, state, due, links, watched, trap, ⟨wk, wn⟩, turns⟩ ⟨sA1, sC1, mA1, mC1, lA1, lC1, wA1, wC1⟩) L1 L2 → Calls Try.prog 17 #[.agg (List.toArray [.int .i64 id, .int .i64 at_, .slice sA1 slots.length sC1, .int .i64 full, .slice mA1 ml.length mC1, .int .i64 state, .int .i64 due, .slice lA1 links.length lC1, .slice wA1 watched.length wC1, .bool trap, .int .i64 wk, .int .i64 wn, .int .i64 turns]), .int .i64 o] U fun e w' => ∃ b : RA, e = .returned (.tuple #[.agg (List.toArray [.int .i64 0, .int .i64 0, .slice b.sA 0 b.sC, .int .i64 0, .slice b.mA 0 b.mC, .int .i64 0, .int .i64 0, .slice b.lA 0 b.lC, .slice b.wA 0 b.wC, .bool false, .int .i64 0, .int .i64 0, .int .i64 0]), .agg #[.int .i64 0, .int .i64 0], .bool false]) ∧ Mem w (roB A n) w' (runA Rn.zero b :: runA ⟨id, at_, slots, full, ml, state, due, links, watched, trap, ⟨wk, wn⟩, turns⟩ ⟨sA1, sC1, mA1, mC1, lA1, lC1, wA1, wC1⟩ :: L2)) := fun {sA1 mA1 lA1 wA1 sC1 mC1 lC1 wC1 U L1 L2} M hd => by
            have h := iRunTake ⟨id, at_, slots, full, ml, state, due, links, watched, trap, ⟨wk, wn⟩, turns⟩ ⟨sA1, sC1, mA1, mC1, lA1, lC1, wA1, wC1⟩ o M hd (by show links.length ≤ _; omega) (by show watched.length ≤ _; omega)
            rw [e4] at h
            exact h
          have HI3 : Hid (∀ {sA6 mA6 lA6 wA6 : Option Addr} {sC6 mC6 lC6 wC6 : Nat} {U : World} {L1 L2 : List Asn}, Mem w (roB A n) U L1 → Del (runA ⟨id, at_, slots, full, mail, state, due, links, watched, trap, ⟨wk, wn⟩, turns⟩ ⟨sA6, sC6, mA6, mC6, lA6, lC6, wA6, wC6⟩) L1 L2 → Calls Try.prog 17 #[.agg (List.toArray [.int .i64 id, .int .i64 at_, .slice sA6 slots.length sC6, .int .i64 full, .slice mA6 mail.length mC6, .int .i64 state, .int .i64 due, .slice lA6 links.length lC6, .slice wA6 watched.length wC6, .bool trap, .int .i64 wk, .int .i64 wn, .int .i64 turns]), .int .i64 o] U fun e w' => ∃ b : RA, e = .returned (.tuple #[.agg (List.toArray [.int .i64 0, .int .i64 0, .slice b.sA 0 b.sC, .int .i64 0, .slice b.mA 0 b.mC, .int .i64 0, .int .i64 0, .slice b.lA 0 b.lC, .slice b.wA 0 b.wC, .bool false, .int .i64 0, .int .i64 0, .int .i64 0]), .agg #[.int .i64 0, .int .i64 0], .bool false]) ∧ Mem w (roB A n) w' (runA Rn.zero b :: runA ⟨id, at_, slots, full, mail, state, due, links, watched, trap, ⟨wk, wn⟩, turns⟩ ⟨sA6, sC6, mA6, mC6, lA6, lC6, wA6, wC6⟩ :: L2)) := fun {sA6 mA6 lA6 wA6 sC6 mC6 lC6 wC6 U L1 L2} M hd => by
            have h := iRunTake ⟨id, at_, slots, full, mail, state, due, links, watched, trap, ⟨wk, wn⟩, turns⟩ ⟨sA6, sC6, mA6, mC6, lA6, lC6, wA6, wC6⟩ o M hd (by show links.length ≤ _; omega) (by show watched.length ≤ _; omega)
            rw [e3] at h
            exact h
          clear e2 hok e3 e4 two
          by_cases hp : n2 % 2 = 0
          · rw [if_pos hp] at ho
            have p1 : ((n2 : Int) % 2 == 0) = true := by simp; omega
            have p2 : (kind + 1) % 3 + 1 = o := ho.symm
            have p3 : IntKind.i64.wrap (kind % 3 + 1) = kind % 3 + 1 := IntWalk.i64_in _ (by omega)
            clear ho hp
            replace ho3 := Lib.hid ho3
            go_upto_region 13 with fail
            go_wp2_with (first | (with_reducible refine alAd M ?_; clear M; (try clear F); intro w1 M F) | ((with_reducible apply ev_store (M := M)); rfl; rfl; ((conv => lhs; whnf) <;> rfl); rfl; (first | exact siI | exact siR | exact siV | exact siB | exact siSI | exact siSV | exact siW | exact siSR | exact siSO | exact siO); (exact one_all rfl); (exact dl); (exact Nat.le_of_ble_eq_true rfl); clear M; intro w1 M; simp only [SX] at M; (try clear F); have F := fxd M) | (go_at_call 17; (refine nmKd ?_; clear M; (try clear F); intro w1 M F); with_reducible refine (HI2.out M dl).mono ?_; clear M; rintro e w2 ⟨⟨sA5, sC5, mA5, mC5, lA5, lC5, wA5, wC5⟩, rfl, M⟩; (try simp only at M); (try clear F); have F := fxd M) | (go_at_call 17; (refine nmKd ?_; clear M; (try clear F); intro w1 M F); with_reducible refine (HI3.out M dl).mono ?_; clear M; rintro e w2 ⟨⟨sA7, sC7, mA7, mC7, lA7, lC7, wA7, wC7⟩, rfl, M⟩; (try simp only at M); (try clear F); have F := fxd M))
            go_ret
            exact ⟨rfl, rdr_below M dl hR.out.1 hR.out.2⟩
          · rw [if_neg hp] at ho
            have p1 : ((n2 : Int) % 2 == 0) = false := by simp; omega
            have p2 : kind % 3 + 1 = o := ho.symm
            clear ho hp
            replace ho3 := Lib.hid ho3
            go_upto_region 13 with fail
            go_wp2_with (first | (with_reducible refine alAd M ?_; clear M; (try clear F); intro w1 M F) | ((with_reducible apply ev_store (M := M)); rfl; rfl; ((conv => lhs; whnf) <;> rfl); rfl; (first | exact siI | exact siR | exact siV | exact siB | exact siSI | exact siSV | exact siW | exact siSR | exact siSO | exact siO); (exact one_all rfl); (exact dl); (exact Nat.le_of_ble_eq_true rfl); clear M; intro w1 M; simp only [SX] at M; (try clear F); have F := fxd M) | (go_at_call 17; (refine nmKd ?_; clear M; (try clear F); intro w1 M F); with_reducible refine (HI2.out M dl).mono ?_; clear M; rintro e w2 ⟨⟨sA5, sC5, mA5, mC5, lA5, lC5, wA5, wC5⟩, rfl, M⟩; (try simp only at M); (try clear F); have F := fxd M) | (go_at_call 17; (refine nmKd ?_; clear M; (try clear F); intro w1 M F); with_reducible refine (HI3.out M dl).mono ?_; clear M; rintro e w2 ⟨⟨sA7, sC7, mA7, mC7, lA7, lC7, wA7, wC7⟩, rfl, M⟩; (try simp only at M); (try clear F); have F := fxd M))
            go_ret
            exact ⟨rfl, rdr_below M dl hR.out.1 hR.out.2⟩
  · have HI : Hid (∀ {U : World} {L1 L2 : List Asn}, Mem w (roB A n) U L1 → Del (runA ⟨id, at_, slots, full, mail, state, due, links, watched, trap, ⟨wk, wn⟩, turns⟩ ⟨sA, sC, mA, mC, lA, lC, wA, wC⟩) L1 L2 → Calls Try.prog 17 #[.agg (List.toArray [.int .i64 id, .int .i64 at_, .slice sA slots.length sC, .int .i64 full, .slice mA mail.length mC, .int .i64 state, .int .i64 due, .slice lA links.length lC, .slice wA watched.length wC, .bool trap, .int .i64 wk, .int .i64 wn, .int .i64 turns]), .int .i64 kind] U fun e w' => ∃ b : RA, e = .returned (.tuple #[.agg (List.toArray [.int .i64 0, .int .i64 0, .slice b.sA 0 b.sC, .int .i64 0, .slice b.mA 0 b.mC, .int .i64 0, .int .i64 0, .slice b.lA 0 b.lC, .slice b.wA 0 b.wC, .bool false, .int .i64 0, .int .i64 0, .int .i64 0]), .agg #[.int .i64 0, .int .i64 0], .bool false]) ∧ Mem w (roB A n) w' (runA Rn.zero b :: runA ⟨id, at_, slots, full, mail, state, due, links, watched, trap, ⟨wk, wn⟩, turns⟩ ⟨sA, sC, mA, mC, lA, lC, wA, wC⟩ :: L2)) := fun {U L1 L2} M hd => by
      have h := iRunTake ⟨id, at_, slots, full, mail, state, due, links, watched, trap, ⟨wk, wn⟩, turns⟩ ⟨sA, sC, mA, mC, lA, lC, wA, wC⟩ kind M hd (by show links.length ≤ _; omega) (by show watched.length ≤ _; omega)
      rw [e2] at h
      exact h
    have HS : Hid (∀ {U : World} {L1 L2 : List Asn}, Mem w (roB A n) U L1 → Del (runA ⟨id, at_, slots, full, mail, state, due, links, watched, trap, ⟨wk, wn⟩, turns⟩ ⟨sA, sC, mA, mC, lA, lC, wA, wC⟩) L1 L2 → Calls Try.prog 15 #[.agg (List.toArray [.int .i64 id, .int .i64 at_, .slice sA slots.length sC, .int .i64 full, .slice mA mail.length mC, .int .i64 state, .int .i64 due, .slice lA links.length lC, .slice wA watched.length wC, .bool trap, .int .i64 wk, .int .i64 wn, .int .i64 turns]), .int .i64 kind] U fun e w' => ∃ b : RA, e = .returned (.tuple #[.agg (List.toArray [.int .i64 0, .int .i64 0, .slice b.sA 0 b.sC, .int .i64 0, .slice b.mA 0 b.mC, .int .i64 0, .int .i64 0, .slice b.lA 0 b.lC, .slice b.wA 0 b.wC, .bool false, .int .i64 0, .int .i64 0, .int .i64 0]), .agg #[.int .i64 0, .int .i64 0], .bool false]) ∧ Mem w (roB A n) w' (runA Rn.zero b :: runA ⟨id, at_, slots, full, mail, state, due, links, watched, trap, ⟨wk, wn⟩, turns⟩ ⟨sA, sC, mA, mC, lA, lC, wA, wC⟩ :: L2)) := fun {U L1 L2} M hd => by
      have h := sRunTake ⟨id, at_, slots, full, mail, state, due, links, watched, trap, ⟨wk, wn⟩, turns⟩ ⟨sA, sC, mA, mC, lA, lC, wA, wC⟩ kind M hd (by show links.length ≤ _; omega) (by show watched.length ≤ _; omega)
      rw [e2] at h
      exact h
    have HL : Hid (∀ {sA1 mA1 lA1 wA1 sA2 mA2 lA2 wA2 : Option Addr} {sC1 mC1 lC1 wC1 sC2 mC2 lC2 wC2 : Nat} {U : World} {L1 L2 L3 : List Asn}, Mem w (roB A n) U L1 → Del (runA Rn.zero ⟨sA1, sC1, mA1, mC1, lA1, lC1, wA1, wC1⟩) L1 L2 → Del (runA Rn.zero ⟨sA2, sC2, mA2, mC2, lA2, lC2, wA2, wC2⟩) L1 L3 → Calls Try.prog 40 #[.agg (List.toArray [.int .i64 0, .int .i64 0, .slice sA1 0 sC1, .int .i64 0, .slice mA1 0 mC1, .int .i64 0, .int .i64 0, .slice lA1 0 lC1, .slice wA1 0 wC1, .bool false, .int .i64 0, .int .i64 0, .int .i64 0]), .agg (List.toArray [.int .i64 0, .int .i64 0, .slice sA2 0 sC2, .int .i64 0, .slice mA2 0 mC2, .int .i64 0, .int .i64 0, .slice lA2 0 lC2, .slice wA2 0 wC2, .bool false, .int .i64 0, .int .i64 0, .int .i64 0])] U fun e w' => e = .returned (.bool true) ∧ Below U.heap.size U w') := fun {sA1 mA1 lA1 wA1 sA2 mA2 lA2 wA2 sC1 mC1 lC1 wC1 sC2 mC2 lC2 wC2 U L1 L2 L3} M hd hd2 => lvRunOk Rn.zero ⟨sA1, sC1, mA1, mC1, lA1, lC1, wA1, wC1⟩ ⟨sA2, sC2, mA2, mC2, lA2, lC2, wA2, wC2⟩ U.heap.size U (runA_reads (M.is hd)).1 (runA_reads (M.is hd2)).1 (Nat.le_refl _)
    clear e1 e2
    go_wp2_with (first | (with_reducible refine alAd M ?_; clear M; (try clear F); intro w1 M F) | ((with_reducible apply ev_store (M := M)); rfl; rfl; ((conv => lhs; whnf) <;> rfl); rfl; (first | exact siI | exact siR | exact siV | exact siB | exact siSI | exact siSV | exact siW | exact siSR | exact siSO | exact siO); (exact one_all rfl); (exact dl); (exact Nat.le_of_ble_eq_true rfl); clear M; intro w1 M; simp only [SX] at M; (try clear F); have F := fxd M) | (go_at_call 17; (refine nmKd ?_; clear M; (try clear F); intro w1 M F); with_reducible refine (HI.out M dl).mono ?_; clear M; rintro e w2 ⟨⟨sA1, sC1, mA1, mC1, lA1, lC1, wA1, wC1⟩, rfl, M⟩; (try simp only at M); (try clear F); have F := fxd M) | (go_at_call 15; (refine nmKd ?_; clear M; (try clear F); intro w1 M F); with_reducible refine (HS.out M dl).mono ?_; clear M; rintro e w2 ⟨⟨sA2, sC2, mA2, mC2, lA2, lC2, wA2, wC2⟩, rfl, M⟩; (try simp only at M); (try clear F); have F := fxd M) | (go_at_call 40; (refine nmKd ?_; clear M; (try clear F); intro w1 M F); with_reducible refine (HL.out M dl dl).mono ?_; rintro e w2 ⟨rfl, hb⟩; replace M := M.below hb; clear hb; (try clear F); have F := fxd M))
    go_ret
    exact ⟨rfl, rdr_below M dl hR.out.1 hR.out.2⟩
theorem fnRunKinds_huge (A : Option Addr) (n c : Nat) (A2 : Option Addr) (n2 c2 : Nat) (w : World) (h : 1048576 < n) (hn : n ≤ 9223372036854775807) (_hn2 : n2 ≤ 9223372036854775807) :
    Calls Try.prog 11 #[.slice A n c, .slice A2 n2 c2] w fun e w' => e = .returned (.bool true) ∧ Below w.heap.size w w' := by
  have b1 : decide (1048576 < n) = true := by simpa using h
  go_enter Try.func11, Try.ntmps11
  go_wp2
  go_ret
  exact ⟨rfl, Below.refl _ _⟩
theorem fnRunKinds_huge2 (A : Option Addr) (n c : Nat) (A2 : Option Addr) (n2 c2 : Nat) (w : World) (h : n ≤ 1048576) (h2 : 1048576 < n2) (_hn2 : n2 ≤ 9223372036854775807) :
    Calls Try.prog 11 #[.slice A n c, .slice A2 n2 c2] w fun e w' => e = .returned (.bool true) ∧ Below w.heap.size w w' := by
  have b1 : decide (1048576 < n) = false := by simp; omega
  have b2 : decide (1048576 < n2) = true := by simpa using h2
  go_enter Try.func11, Try.ntmps11
  go_wp2
  go_ret
  exact ⟨rfl, Below.refl _ _⟩
theorem fnRunKinds_walk (A : Option Addr) (n c : Nat) (bs : Nat → Int) (A2 : Option Addr) (n2 c2 : Nat) (w : World) (hb : BytesIn w A n bs) (hnc : n ≤ c) (hc : c ≤ maxLen) (hnc2 : n2 ≤ c2) (hc2 : c2 ≤ maxLen) :
    Calls Try.prog 11 #[.slice A n c, .slice A2 n2 c2] w fun e w' => e = .returned (.bool true) ∧ Below w.heap.size w w' := by
  by_cases h : n ≤ 1048576
  · by_cases h2 : n2 ≤ 1048576
    · exact fnRunKinds_small A n c bs A2 n2 c2 w ⟨h, hb⟩ hnc h2
    · exact fnRunKinds_huge2 A n c A2 n2 c2 w h (by omega) (by unfold maxLen at hc2; omega)
  · exact fnRunKinds_huge A n c A2 n2 c2 w (by omega) (by unfold maxLen at hc; omega) (by unfold maxLen at hc2; omega)
end Go.Proofs.Ytmidnaafljgbiaa
/- The law FnRunKinds returns true at all arguments, and its arguments read behind the call as before. -/
namespace Go.Proofs.Ytmidnaafljgbiaa.fnRunKinds
open Go.ChangeShapes Go.WideShapes Go.ChangeAt Go.RowKit
open Go.ChangeMaps (open_string shut_string)
theorem own : ownKnob Try.prog.godebug = none := by kernel_rfl
theorem laidOut : laidOutB Try.prog = true := by kernel_rfl

set_option maxRecDepth 100000 in
theorem lifted (os : Os) (started : os.Started) (H : Type) (enc : TypeId × Value → H) :
    ReturnsInHanded {} Try.checked os 11 .any (Rows.fnRunKindsSpec.pre6 enc Try.prog Try.f11 Rows.fnRunKindsRow.domain false) (Rows.fnRunKindsSpec.post enc Try.prog Try.f11 false true false false) := by
  refine returnsInHanded_of_change_sized (C := Try.checked) own started (by kernel_rfl) Try.func11
    (ChangeSpec.witness6 (enc := enc) (C := Try.checked) false ⟨#[], #[.slice none 0 0, .slice none 0 0], []⟩ 8 (by kernel_rfl) (by kernel_rfl) (by kernel_rfl) (by kernel_rfl)) ?_
  intro W base args ds gs before hval0 hW hcnd hsz0 _
  have hsz : (DataW.weightsEach Try.prog (Try.f11.params.toList ++ Rows.fnRunKindsSpec.plain.varTypes Try.prog) (ds ++ gs)).all (· ≤ reachBytes) = true := hsz0
  have hval : ∀ (j : Nat) t v, Try.f11.params[j]? = some t → args[j]? = some v → Value.okWide Try.prog W .any base t v := hval0
  have hW' := hW
  obtain ⟨p, q, hA0, hV, rfl, hfz, hnd⟩ := hW
  have hA : DataW.TrodAll enc Try.prog W 0 (fun _ => true) true Try.f11.params.toList args.toList ds p := hA0
  rw [Try.params11] at hA hval hsz
  obtain ⟨v0, vs0, d0, ds0, p0, q0, hargs, rfl, rfl, h0, r0⟩ := trodAll_cons hA
  obtain ⟨v1, vs1, d1, ds1, p1, q1, rfl, rfl, rfl, h1, r1⟩ := trodAll_cons r0
  obtain ⟨rfl, rfl, rfl⟩ := trodAll_nil r1
  obtain rfl : args = #[v0, v1] := by cases args; simp_all
  obtain ⟨rfl, rfl⟩ := trodVars_none hV
  have lt0 : ∀ x ∈ p0, x.block < W.heap.size := by obtain ⟨m, hm⟩ := h0; exact DataW.trod_lt m _ _ _ hm
  have lt1 : ∀ x ∈ p1, x.block < W.heap.size := by obtain ⟨m, hm⟩ := h1; exact DataW.trod_lt m _ _ _ hm
  obtain ⟨A0, n0, c0, bs0, rfl, hc0, hm0, hb0⟩ := open_bytesA (hval 0 54 v0 rfl rfl) h0
  obtain ⟨A1, n1, c1, bs1, rfl, hc1, hm1, hb1⟩ := open_bytesA (hval 1 54 v1 rfl rfl) h1
  clear hA0 hval0 hsz0 hsz
  refine (fnRunKinds_walk A0 n0 c0 bs0 A1 n1 c1 W hb0 hc0 hm0 hc1 hm1).mono fun e W' ⟨he, bel⟩ => ?_
  subst he
  exact ⟨_, rfl, _, _, _, [], _, [], hW', trodAll_mk1 (shut_bool Try.underlying4 _), (trodAll_cons_mk (Below.trod laidOut (by kernel_rfl) (of_decide_eq_true (by kernel_rfl)) h0 bel lt0) (trodAll_cons_mk (Below.trod laidOut (by kernel_rfl) (of_decide_eq_true (by kernel_rfl)) h1 bel lt1) trodAll_mk0)), rfl, bel.frame _, fun h => by cases h⟩

theorem over : Rows.fnRunKindsRow.holds Try.pinned (OpenSpec.ofChange Rows.fnRunKindsSpec) :=
  OpenClaim.holds_of_wide 11 Try.f11 rfl rfl rfl rfl rfl rfl rfl ⟨rfl, rfl, rfl, rfl, rfl⟩ rfl rfl rfl rfl rfl (by kernel_rfl) Try.func11 (by kernel_rfl)
    (of_decide_eq_true (by kernel_rfl)) (by unfold Func.isWrapper; first | (rw [if_pos (by decide +kernel)]; kernel_rfl) | (rw [if_neg (by decide +kernel)]; exact ⟨rfl, rfl⟩))
    (fun os started H enc _ => lifted os started H enc)
theorem proved : Rows.FnRunKindsSaid := over
#print axioms proved
end Go.Proofs.Ytmidnaafljgbiaa.fnRunKinds
