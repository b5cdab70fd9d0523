/- Parts of the proof, in one text. -/
import Derived.Test.YtmidnaafljgbiaaB37
import Derived.Test.YtmidnaafljgbiaaB43
import Derived.Test.YtmidnaafljgbiaaB44
import Derived.Test.YtmidnaafljgbiaaB45
import Derived.Test.YtmidnaafljgbiaaB39
/- The law of a drawn run's mail that is taken out whole, in order. -/
namespace Go.Proofs.Ytmidnaafljgbiaa
open Go.RowKit
set_option maxRecDepth 100000

set_option maxHeartbeats 8000000 in
theorem fnRunTakes_small (A : Option Addr) (n c : Nat) (bs : Nat → Int) (w : World) (hb : BytesOk w A n bs) (hnc : n ≤ c) :
    Calls Try.prog 13 #[.slice A n c] w fun e w' => e = .returned (.bool true) ∧ Below w.heap.size w w' := by
  have AL := add_lit0
  have M := Mem.ofBytesB hb
  have HD : Hid (∀ {W : World} {L : List Asn}, Mem w (roB A n) W (ro w A n bs :: L) → Calls Try.prog 45 #[.slice A n c] W (DRF w A n w (roB A n) L)) := fun {W L} M => sDrawRunTake w A n c bs hnc M
  have hn := hb.1
  have b1 : decide (1048576 < n) = false := by simp; omega
  clear hb hnc
  (try clear F); have F := fxd M
  go_enter Try.func13, Try.ntmps13
  go_upto_region 4 with (first | (with_reducible refine alAd M ?_; clear M; (try clear F); intro w1 M F) | ((with_reducible apply ev_store (M := M)); rfl; rfl; ((conv => lhs; whnf) <;> rfl); rfl; (first | exact siI | exact siR | exact siV | exact siB | exact siSI | exact siSV | exact siW | exact siSR | exact siSO | exact siO); (exact one_all rfl); (exact dl); (exact Nat.le_of_ble_eq_true rfl); clear M; intro w1 M; simp only [SX] at M; (try clear F); have F := fxd M) | (go_at_call 45; refine (HD.out (M.pull dl)).mono ?_; clear M; rintro e w2 ⟨⟨id, at_, slots, full, mail, state, due, links, watched, trap, ⟨wk, wn⟩, turns⟩, ⟨sA, sC, mA, mC, lA, lC, wA, wC⟩, kind, R, p, rfl, hr, hR, M⟩; have hR := Lib.hid hR; (try simp only at M); (try clear F); have F := fxd M))
  generalize w2.heap.size = g3 at M ⊢
  (try clear F); have F := fxd M
  have hll : links.length ≤ 7 := hr.2.2.1
  have hwl : watched.length ≤ 6 := hr.2.2.2
  have hmail : mail.length ≤ 20 := hr.2.1
  clear hr
  have HO : Hid (∀ {b : Bool}, runOk ⟨id, at_, slots, full, mail, state, due, links, watched, trap, ⟨wk, wn⟩, turns⟩ = b → ∀ {U : World} {L1 L2 : List Asn}, Mem w (roB A n) U L1 → Del (runA ⟨id, at_, slots, full, mail, state, due, links, watched, trap, ⟨wk, wn⟩, turns⟩ ⟨sA, sC, mA, mC, lA, lC, wA, wC⟩) L1 L2 → Calls Try.prog 33 #[.agg (List.toArray [.int .i64 id, .int .i64 at_, .slice sA slots.length sC, .int .i64 full, .slice mA mail.length mC, .int .i64 state, .int .i64 due, .slice lA links.length lC, .slice wA watched.length wC, .bool trap, .int .i64 wk, .int .i64 wn, .int .i64 turns])] U fun e w' => e = .returned (.bool b) ∧ Below U.heap.size U w') := fun {b} h {U L1 L2} M hd => by
    rw [← h]; exact sRunOk ⟨id, at_, slots, full, mail, state, due, links, watched, trap, ⟨wk, wn⟩, turns⟩ ⟨sA, sC, mA, mC, lA, lC, wA, wC⟩ U.heap.size U (runA_reads (M.is hd)).1 (Nat.le_refl _)
  obtain ⟨⟨X, ⟨vk, vn⟩, ok9⟩, hX⟩ : ∃ q : Rn × Vl × Bool, q = runTake ⟨id, at_, slots, full, mail, state, due, links, watched, trap, ⟨wk, wn⟩, turns⟩ kind := ⟨_, rfl⟩
  have HI0 : Hid (∀ {U : World} {L1 L2 : List Asn}, Mem w (roB A n) U L1 → Del (runA ⟨id, at_, slots, full, mail, state, due, links, watched, trap, ⟨wk, wn⟩, turns⟩ ⟨sA, sC, mA, mC, lA, lC, wA, wC⟩) L1 L2 → Calls Try.prog 17 #[.agg (List.toArray [.int .i64 id, .int .i64 at_, .slice sA slots.length sC, .int .i64 full, .slice mA mail.length mC, .int .i64 state, .int .i64 due, .slice lA links.length lC, .slice wA watched.length wC, .bool trap, .int .i64 wk, .int .i64 wn, .int .i64 turns]), .int .i64 kind] U (TakePost (X, ⟨vk, vn⟩, ok9) ⟨id, at_, slots, full, mail, state, due, links, watched, trap, ⟨wk, wn⟩, turns⟩ ⟨sA, sC, mA, mC, lA, lC, wA, wC⟩ w (roB A n) L2)) := fun {U L1 L2} M hd => by
    rw [hX]; exact iRunTake ⟨id, at_, slots, full, mail, state, due, links, watched, trap, ⟨wk, wn⟩, turns⟩ ⟨sA, sC, mA, mC, lA, lC, wA, wC⟩ kind M hd (by show links.length ≤ _; omega) (by show watched.length ≤ _; omega)
  have HS0 : Hid (∀ {U : World} {L1 L2 : List Asn}, Mem w (roB A n) U L1 → Del (runA ⟨id, at_, slots, full, mail, state, due, links, watched, trap, ⟨wk, wn⟩, turns⟩ ⟨sA, sC, mA, mC, lA, lC, wA, wC⟩) L1 L2 → Calls Try.prog 15 #[.agg (List.toArray [.int .i64 id, .int .i64 at_, .slice sA slots.length sC, .int .i64 full, .slice mA mail.length mC, .int .i64 state, .int .i64 due, .slice lA links.length lC, .slice wA watched.length wC, .bool trap, .int .i64 wk, .int .i64 wn, .int .i64 turns]), .int .i64 kind] U (TakePost (X, ⟨vk, vn⟩, ok9) ⟨id, at_, slots, full, mail, state, due, links, watched, trap, ⟨wk, wn⟩, turns⟩ ⟨sA, sC, mA, mC, lA, lC, wA, wC⟩ w (roB A n) L2)) := fun {U L1 L2} M hd => by
    rw [hX]; exact sRunTake ⟨id, at_, slots, full, mail, state, due, links, watched, trap, ⟨wk, wn⟩, turns⟩ ⟨sA, sC, mA, mC, lA, lC, wA, wC⟩ kind M hd (by show links.length ≤ _; omega) (by show watched.length ≤ _; omega)
  clear hX
  obtain ⟨xid, xat, xslots, xfull, xmail, xstate, xdue, xlinks, xwatched, xtrap, ⟨xwk, xwn⟩, xturns⟩ := X
  have HI : Hid (∀ {U : World} {L1 L2 : List Asn}, Mem w (roB A n) U L1 → Del (runA ⟨id, at_, slots, full, mail, state, due, links, watched, trap, ⟨wk, wn⟩, turns⟩ ⟨sA, sC, mA, mC, lA, lC, wA, wC⟩) L1 L2 → Calls Try.prog 17 #[.agg (List.toArray [.int .i64 id, .int .i64 at_, .slice sA slots.length sC, .int .i64 full, .slice mA mail.length mC, .int .i64 state, .int .i64 due, .slice lA links.length lC, .slice wA watched.length wC, .bool trap, .int .i64 wk, .int .i64 wn, .int .i64 turns]), .int .i64 kind] U fun e w' => ∃ b : RA, e = .returned (.tuple #[.agg (List.toArray [.int .i64 xid, .int .i64 xat, .slice b.sA xslots.length b.sC, .int .i64 xfull, .slice b.mA xmail.length b.mC, .int .i64 xstate, .int .i64 xdue, .slice b.lA xlinks.length b.lC, .slice b.wA xwatched.length b.wC, .bool xtrap, .int .i64 xwk, .int .i64 xwn, .int .i64 xturns]), .agg #[.int .i64 vk, .int .i64 vn], .bool ok9]) ∧ Mem w (roB A n) w' (runA ⟨xid, xat, xslots, xfull, xmail, xstate, xdue, xlinks, xwatched, xtrap, ⟨xwk, xwn⟩, xturns⟩ b :: runA ⟨id, at_, slots, full, mail, state, due, links, watched, trap, ⟨wk, wn⟩, turns⟩ ⟨sA, sC, mA, mC, lA, lC, wA, wC⟩ :: L2)) := fun {U L1 L2} M hd => HI0.out M hd
  have HS : Hid (∀ {U : World} {L1 L2 : List Asn}, Mem w (roB A n) U L1 → Del (runA ⟨id, at_, slots, full, mail, state, due, links, watched, trap, ⟨wk, wn⟩, turns⟩ ⟨sA, sC, mA, mC, lA, lC, wA, wC⟩) L1 L2 → Calls Try.prog 15 #[.agg (List.toArray [.int .i64 id, .int .i64 at_, .slice sA slots.length sC, .int .i64 full, .slice mA mail.length mC, .int .i64 state, .int .i64 due, .slice lA links.length lC, .slice wA watched.length wC, .bool trap, .int .i64 wk, .int .i64 wn, .int .i64 turns]), .int .i64 kind] U fun e w' => ∃ b : RA, e = .returned (.tuple #[.agg (List.toArray [.int .i64 xid, .int .i64 xat, .slice b.sA xslots.length b.sC, .int .i64 xfull, .slice b.mA xmail.length b.mC, .int .i64 xstate, .int .i64 xdue, .slice b.lA xlinks.length b.lC, .slice b.wA xwatched.length b.wC, .bool xtrap, .int .i64 xwk, .int .i64 xwn, .int .i64 xturns]), .agg #[.int .i64 vk, .int .i64 vn], .bool ok9]) ∧ Mem w (roB A n) w' (runA ⟨xid, xat, xslots, xfull, xmail, xstate, xdue, xlinks, xwatched, xtrap, ⟨xwk, xwn⟩, xturns⟩ b :: runA ⟨id, at_, slots, full, mail, state, due, links, watched, trap, ⟨wk, wn⟩, turns⟩ ⟨sA, sC, mA, mC, lA, lC, wA, wC⟩ :: L2)) := fun {U L1 L2} M hd => HS0.out M hd
  have HL : Hid (∀ {sA1 mA1 lA1 wA1 sA2 mA2 lA2 wA2 : Option Addr} {sC1 mC1 lC1 wC1 sC2 mC2 lC2 wC2 : Nat} {U : World} {L1 L2 L3 : List Asn}, Mem w (roB A n) U L1 → Del (runA ⟨xid, xat, xslots, xfull, xmail, xstate, xdue, xlinks, xwatched, xtrap, ⟨xwk, xwn⟩, xturns⟩ ⟨sA1, sC1, mA1, mC1, lA1, lC1, wA1, wC1⟩) L1 L2 → Del (runA ⟨xid, xat, xslots, xfull, xmail, xstate, xdue, xlinks, xwatched, xtrap, ⟨xwk, xwn⟩, xturns⟩ ⟨sA2, sC2, mA2, mC2, lA2, lC2, wA2, wC2⟩) L1 L3 → Calls Try.prog 40 #[.agg (List.toArray [.int .i64 xid, .int .i64 xat, .slice sA1 xslots.length sC1, .int .i64 xfull, .slice mA1 xmail.length mC1, .int .i64 xstate, .int .i64 xdue, .slice lA1 xlinks.length lC1, .slice wA1 xwatched.length wC1, .bool xtrap, .int .i64 xwk, .int .i64 xwn, .int .i64 xturns]), .agg (List.toArray [.int .i64 xid, .int .i64 xat, .slice sA2 xslots.length sC2, .int .i64 xfull, .slice mA2 xmail.length mC2, .int .i64 xstate, .int .i64 xdue, .slice lA2 xlinks.length lC2, .slice wA2 xwatched.length wC2, .bool xtrap, .int .i64 xwk, .int .i64 xwn, .int .i64 xturns])] U fun e w' => e = .returned (.bool true) ∧ Below U.heap.size U w') := fun {sA1 mA1 lA1 wA1 sA2 mA2 lA2 wA2 sC1 mC1 lC1 wC1 sC2 mC2 lC2 wC2 U L1 L2 L3} M hd hd2 => lvRunOk ⟨xid, xat, xslots, xfull, xmail, xstate, xdue, xlinks, xwatched, xtrap, ⟨xwk, xwn⟩, xturns⟩ ⟨sA1, sC1, mA1, mC1, lA1, lC1, wA1, wC1⟩ ⟨sA2, sC2, mA2, mC2, lA2, lC2, wA2, wC2⟩ U.heap.size U (runA_reads (M.is hd)).1 (runA_reads (M.is hd2)).1 (Nat.le_refl _)
  clear HI0 HS0
  cases hok : runOk ⟨id, at_, slots, full, mail, state, due, links, watched, trap, ⟨wk, wn⟩, turns⟩ with
  | false =>
    replace hok := Lib.hid hok
    go_wp2_with (first | (with_reducible refine alAd M ?_; clear M; (try clear F); intro w1 M F) | ((with_reducible apply ev_store (M := M)); rfl; rfl; ((conv => lhs; whnf) <;> rfl); rfl; (first | exact siI | exact siR | exact siV | exact siB | exact siSI | exact siSV | exact siW | exact siSR | exact siSO | exact siO); (exact one_all rfl); (exact dl); (exact Nat.le_of_ble_eq_true rfl); clear M; intro w1 M; simp only [SX] at M; (try clear F); have F := fxd M) | (go_at_call 17; (refine nmKd ?_; clear M; (try clear F); intro w1 M F); with_reducible refine (HI.out M dl).mono ?_; clear M; rintro e w2 ⟨⟨sA1, sC1, mA1, mC1, lA1, lC1, wA1, wC1⟩, rfl, M⟩; (try simp only at M); (try clear F); have F := fxd M) | (go_at_call 15; (refine nmKd ?_; clear M; (try clear F); intro w1 M F); with_reducible refine (HS.out M dl).mono ?_; clear M; rintro e w2 ⟨⟨sA2, sC2, mA2, mC2, lA2, lC2, wA2, wC2⟩, rfl, M⟩; (try simp only at M); (try clear F); have F := fxd M) | (go_at_call 40; (refine nmKd ?_; clear M; (try clear F); intro w1 M F); with_reducible refine (HL.out M dl dl).mono ?_; rintro e w2 ⟨rfl, hb⟩; replace M := M.below hb; clear hb; (try clear F); have F := fxd M) | (go_at_call 33; (refine nmKd ?_; clear M; (try clear F); intro w1 M F); with_reducible refine (HO.out hok.out M dl).mono ?_; rintro e w2 ⟨rfl, hb⟩; replace M := M.below hb; clear hb; (try clear F); have F := fxd M))
    go_ret
    exact ⟨rfl, rdr_below M dl hR.out.1 hR.out.2⟩
  | true =>
    have hok1 := Lib.hid hok
    replace hok := Lib.hid hok
    go_upto_region 8 with (first | (with_reducible refine alAd M ?_; clear M; (try clear F); intro w1 M F) | ((with_reducible apply ev_store (M := M)); rfl; rfl; ((conv => lhs; whnf) <;> rfl); rfl; (first | exact siI | exact siR | exact siV | exact siB | exact siSI | exact siSV | exact siW | exact siSR | exact siSO | exact siO); (exact one_all rfl); (exact dl); (exact Nat.le_of_ble_eq_true rfl); clear M; intro w1 M; simp only [SX] at M; (try clear F); have F := fxd M) | (go_at_call 17; (refine nmKd ?_; clear M; (try clear F); intro w1 M F); with_reducible refine (HI.out M dl).mono ?_; clear M; rintro e w2 ⟨⟨sA1, sC1, mA1, mC1, lA1, lC1, wA1, wC1⟩, rfl, M⟩; (try simp only at M); (try clear F); have F := fxd M) | (go_at_call 15; (refine nmKd ?_; clear M; (try clear F); intro w1 M F); with_reducible refine (HS.out M dl).mono ?_; clear M; rintro e w2 ⟨⟨sA2, sC2, mA2, mC2, lA2, lC2, wA2, wC2⟩, rfl, M⟩; (try simp only at M); (try clear F); have F := fxd M) | (go_at_call 40; (refine nmKd ?_; clear M; (try clear F); intro w1 M F); with_reducible refine (HL.out M dl dl).mono ?_; rintro e w2 ⟨rfl, hb⟩; replace M := M.below hb; clear hb; (try clear F); have F := fxd M) | (go_at_call 33; (refine nmKd ?_; clear M; (try clear F); intro w1 M F); with_reducible refine (HO.out hok.out M dl).mono ?_; rintro e w2 ⟨rfl, hb⟩; replace M := M.below hb; clear hb; (try clear F); have F := fxd M))
    go_upto_region 9 with (first | (with_reducible refine alAd M ?_; clear M; (try clear F); intro w1 M F) | ((with_reducible apply ev_store (M := M)); rfl; rfl; ((conv => lhs; whnf) <;> rfl); rfl; (first | exact siI | exact siR | exact siV | exact siB | exact siSI | exact siSV | exact siW | exact siSR | exact siSO | exact siO); (exact one_all rfl); (exact dl); (exact Nat.le_of_ble_eq_true rfl); clear M; intro w1 M; simp only [SX] at M; (try clear F); have F := fxd M))
    obtain ⟨g11, hgn⟩ := blkName M .here
    rw [hgn] at M ⊢
    clear hgn
    have MU : Mem w (roB A n) _ (blk g11 tR [.int .i64 id, .int .i64 at_, .slice sA slots.length sC, .int .i64 full, .slice mA mail.length mC, .int .i64 state, .int .i64 due, .slice lA links.length lC, .slice wA watched.length wC, .bool trap, .int .i64 wk, .int .i64 wn, .int .i64 turns] :: blk g3 tR [.int .i64 id, .int .i64 at_, .slice sA slots.length sC, .int .i64 full, .slice mA mail.length mC, .int .i64 state, .int .i64 due, .slice lA links.length lC, .slice wA watched.length wC, .bool trap, .int .i64 wk, .int .i64 wn, .int .i64 turns] :: [runA ⟨id, at_, slots, full, mail, state, due, links, watched, trap, ⟨wk, wn⟩, turns⟩ ⟨sA, sC, mA, mC, lA, lC, wA, wC⟩, rdr R p]) := M.sel sl
    clear M F HI HS HL HO hok
    replace MU := Lib.hid MU
    replace hmail := Lib.hid hmail
    go_wp2
    go_loopg [12] mail.length (fun gg v wr => ∃ (j : Nat) (l : List Vl) (sA5 : Option Addr) (sC5 : Nat) (mA5 : Option Addr) (mC5 : Nat) (lA5 : Option Addr) (lC5 : Nat) (wA5 : Option Addr) (wC5 : Nat) (LL L2 L3 L4 : List Asn), j ≤ mail.length ∧ mail.length - j ≤ gg ∧ v = .int .i64 j ∧ Hid (mail.drop j = l) ∧ Hid (Mem w (roB A n) wr (blk g11 tR [.int .i64 id, .int .i64 at_, .slice sA5 slots.length sC5, .int .i64 full, .slice mA5 l.length mC5, .int .i64 state, .int .i64 due, .slice lA5 links.length lC5, .slice wA5 watched.length wC5, .bool trap, .int .i64 wk, .int .i64 wn, .int .i64 turns] :: blk g3 tR [.int .i64 id, .int .i64 at_, .slice sA slots.length sC, .int .i64 full, .slice mA mail.length mC, .int .i64 state, .int .i64 due, .slice lA links.length lC, .slice wA watched.length wC, .bool trap, .int .i64 wk, .int .i64 wn, .int .i64 turns] :: LL)) ∧ Del (runA ⟨id, at_, slots, full, l, state, due, links, watched, trap, ⟨wk, wn⟩, turns⟩ ⟨sA5, sC5, mA5, mC5, lA5, lC5, wA5, wC5⟩) LL L2 ∧ Del (runA ⟨id, at_, slots, full, mail, state, due, links, watched, trap, ⟨wk, wn⟩, turns⟩ ⟨sA, sC, mA, mC, lA, lC, wA, wC⟩) LL L3 ∧ Del (rdr R p) LL L4)
    case atStart => exact ⟨0, mail, sA, sC, mA, mC, lA, lC, wA, wC, _, _, _, _, by omega, by omega, rfl, Lib.hid rfl, MU, .here, .here, .there .here⟩
    case round =>
      clear MU
      obtain ⟨j, l, sA5, sC5, mA5, mC5, lA5, lC5, wA5, wC5, LL, L2, L3, L4, hj, hg, rfl, hl, M, d2, d3, d4⟩ := hrel
      replace M := M.out
      have wj : IntKind.i64.wrap ((j : Int) + 1) = (j : Int) + 1 := by have := hmail.out; rw [IntKind.wrap_i64]; omega
      by_cases hlt : j < mail.length
      · obtain ⟨gm, rfl⟩ := mailForm (r := ⟨id, at_, slots, full, mail, state, due, links, watched, trap, ⟨wk, wn⟩, turns⟩) (a := ⟨sA, sC, mA, mC, lA, lC, wA, wC⟩) (M.is (.there (.there d3))) (by show 0 < mail.length; omega)
        obtain ⟨⟨uk, un⟩, hv⟩ : ∃ v, mail[j]? = some v := ⟨_, List.getElem?_eq_getElem hlt⟩
        obtain ⟨l2, hl2⟩ : ∃ l2, l2 = mail.drop (j + 1) := ⟨_, rfl⟩
        have hl3 : l = ⟨uk, un⟩ :: l2 := by
          rw [← hl.out, hl2, List.drop_eq_getElem_cons hlt]
          rw [List.getElem?_eq_getElem hlt] at hv
          injection hv with hv
          rw [hv]
        have hokl : runOk ⟨id, at_, slots, full, l, state, due, links, watched, trap, ⟨wk, wn⟩, turns⟩ = true := by rw [← hl.out]; exact runOk_drop (r := ⟨id, at_, slots, full, mail, state, due, links, watched, trap, ⟨wk, wn⟩, turns⟩) hok1.out j
        have HT : Hid (∀ {U : World} {L1 L2 : List Asn}, Mem w (roB A n) U L1 → Del (runA ⟨id, at_, slots, full, l, state, due, links, watched, trap, ⟨wk, wn⟩, turns⟩ ⟨sA5, sC5, mA5, mC5, lA5, lC5, wA5, wC5⟩) L1 L2 → Calls Try.prog 17 #[.agg (List.toArray [.int .i64 id, .int .i64 at_, .slice sA5 slots.length sC5, .int .i64 full, .slice mA5 l.length mC5, .int .i64 state, .int .i64 due, .slice lA5 links.length lC5, .slice wA5 watched.length wC5, .bool trap, .int .i64 wk, .int .i64 wn, .int .i64 turns]), .int .i64 0] U fun e w' => ∃ b : RA, e = .returned (.tuple #[.agg (List.toArray [.int .i64 id, .int .i64 at_, .slice b.sA slots.length b.sC, .int .i64 full, .slice b.mA l2.length b.mC, .int .i64 state, .int .i64 due, .slice b.lA links.length b.lC, .slice b.wA watched.length b.wC, .bool trap, .int .i64 wk, .int .i64 wn, .int .i64 turns]), .agg #[.int .i64 uk, .int .i64 un], .bool true]) ∧ Mem w (roB A n) w' (runA ⟨id, at_, slots, full, l2, state, due, links, watched, trap, ⟨wk, wn⟩, turns⟩ b :: L1)) := fun {U L1 L2} M hd => by
          have h := iRunTake ⟨id, at_, slots, full, l, state, due, links, watched, trap, ⟨wk, wn⟩, turns⟩ ⟨sA5, sC5, mA5, mC5, lA5, lC5, wA5, wC5⟩ 0 M hd (by show links.length ≤ _; omega) (by show watched.length ≤ _; omega)
          rw [runTake_any (r := ⟨id, at_, slots, full, l, state, due, links, watched, trap, ⟨wk, wn⟩, turns⟩) hokl hl3] at h
          refine h.mono ?_
          rintro e w' ⟨b, rfl, M⟩
          exact ⟨b, rfl, M.perm (List.Perm.cons _ hd.perm.symm)⟩
        have HKM : Hid (∀ {U : World} {L1 L2 : List Asn}, Mem w (roB A n) U L1 → Del (runA ⟨id, at_, slots, full, mail, state, due, links, watched, trap, ⟨wk, wn⟩, turns⟩ ⟨sA, sC, some ⟨gm, 0, none⟩, mC, lA, lC, wA, wC⟩) L1 L2 → U.cell? ⟨gm, j * 2, none⟩ = some (.int .i64 uk) ∧ U.cell? ⟨gm, j * 2 + 1, none⟩ = some (.int .i64 un)) := fun M hd => mailCells (r := ⟨id, at_, slots, full, mail, state, due, links, watched, trap, ⟨wk, wn⟩, turns⟩) (M.is hd) hv
        have j0 : (0 : Int) ≤ j := by omega
        have j1 : (j : Int) < mail.length := by omega
        clear hokl hl3 hv hok1 hl
        replace hl2 := Lib.hid hl2
        (try clear F); have F := fxd M
        go_upto_region 13 with (first | (with_reducible refine alAd M ?_; clear M; (try clear F); intro w1 M F) | ((with_reducible apply ev_store (M := M)); rfl; rfl; ((conv => lhs; whnf) <;> rfl); rfl; (first | exact siI | exact siR | exact siV | exact siB | exact siSI | exact siSV | exact siW | exact siSR | exact siSO | exact siO); (exact one_all rfl); (exact dl); (exact Nat.le_of_ble_eq_true rfl); clear M; intro w1 M; simp only [SX] at M; (try clear F); have F := fxd M) | (go_at_call 17; (refine nmKd ?_; clear M; (try clear F); intro w1 M F); with_reducible refine (HT.out M (.there (.there d2))).mono ?_; clear M; rintro e w2 ⟨⟨sA6, sC6, mA6, mC6, lA6, lC6, wA6, wC6⟩, rfl, M⟩; (try simp only at M); (try clear F); have F := fxd M))
        obtain ⟨g14, hgn⟩ := blkName M .here
        rw [hgn] at M ⊢
        clear hgn
        obtain ⟨g13, hgn⟩ := blkName M (.there .here)
        rw [hgn] at M ⊢
        clear hgn
        (try clear F); have F := fxd M
        (refine held_begin (S := fun W' => ((∀ j, W'.cell? ⟨g14, j, none⟩ = ([.int .i64 uk, .int .i64 un] : List Value)[j]?) ∧ ∀ j, W'.cell? ⟨g3, j, none⟩ = ([.int .i64 id, .int .i64 at_, .slice sA slots.length sC, .int .i64 full, .slice (some ⟨gm, 0, none⟩) mail.length mC, .int .i64 state, .int .i64 due, .slice lA links.length lC, .slice wA watched.length wC, .bool trap, .int .i64 wk, .int .i64 wn, .int .i64 turns] : List Value)[j]?) ∧ W'.cell? ⟨gm, j * 2, none⟩ = some (.int .i64 uk) ∧ W'.cell? ⟨gm, j * 2 + 1, none⟩ = some (.int .i64 un)) (by kernel_rfl) (fun _ _ _ _ _ h => h) (by exact ⟨⟨kc, kc⟩, HKM.out mb (.there (.there (.there (.there (.there d3)))))⟩) (fun HQ hHeld => ?_))
        refine tkY HQ hHeld 0 ?_; refine tkY HQ hHeld 1 ?_; refine tkY HQ hHeld 2 ?_; refine tkY HQ hHeld 3 ?_; refine tkY HQ hHeld 4 ?_; refine tkY HQ hHeld 5 ?_; refine tkY HQ hHeld 6 ?_; refine tkY HQ hHeld 7 ?_; refine tkY HQ hHeld 8 ?_; refine tkY HQ hHeld 9 ?_; refine tkY HQ hHeld 10 ?_
        refine wpAnyH_done (by kernel_rfl) ?_ _; clear HQ; (repeat clear hHeld)
        replace M := Mem.drew M
        go_wp2_with (first | ((with_reducible apply ev_store (M := M)); rfl; rfl; ((conv => lhs; whnf) <;> rfl); rfl; (first | exact siI | exact siR | exact siV | exact siB | exact siSI | exact siSV | exact siW | exact siSR | exact siSO | exact siO); (exact one_all rfl); (exact dl); (exact Nat.le_of_ble_eq_true rfl); clear M; intro w1 M; simp only [SX] at M; (try clear F); have F := fxd M))
        go_roundg (mail.length - (j + 1))
        case measure => omega
        case rel => exact ⟨j + 1, l2, sA6, sC6, mA6, mC6, lA6, lC6, wA6, wC6, runA ⟨id, at_, slots, full, l2, state, due, links, watched, trap, ⟨wk, wn⟩, turns⟩ ⟨sA6, sC6, mA6, mC6, lA6, lC6, wA6, wC6⟩ :: LL, _, _, _, by omega, Nat.le_refl _, by go_num, hl2.out.symm, M.sel (.cons .here (.cons (.there (.there (.there .here))) (.drop (.drop .refl)))), .here, .there d3, .there d4⟩
      · obtain rfl : l = [] := by rw [← hl.out]; exact List.drop_eq_nil_of_le (by omega)
        have HT : Hid (∀ {U : World} {L1 L2 : List Asn}, Mem w (roB A n) U L1 → Del (runA ⟨id, at_, slots, full, [], state, due, links, watched, trap, ⟨wk, wn⟩, turns⟩ ⟨sA5, sC5, mA5, mC5, lA5, lC5, wA5, wC5⟩) L1 L2 → Calls Try.prog 17 #[.agg (List.toArray [.int .i64 id, .int .i64 at_, .slice sA5 slots.length sC5, .int .i64 full, .slice mA5 0 mC5, .int .i64 state, .int .i64 due, .slice lA5 links.length lC5, .slice wA5 watched.length wC5, .bool trap, .int .i64 wk, .int .i64 wn, .int .i64 turns]), .int .i64 0] U fun e w' => ∃ b : RA, e = .returned (.tuple #[.agg (List.toArray [.int .i64 0, .int .i64 0, .slice b.sA 0 b.sC, .int .i64 0, .slice b.mA 0 b.mC, .int .i64 0, .int .i64 0, .slice b.lA 0 b.lC, .slice b.wA 0 b.wC, .bool false, .int .i64 0, .int .i64 0, .int .i64 0]), .agg #[.int .i64 0, .int .i64 0], .bool false]) ∧ Mem w (roB A n) w' (runA Rn.zero b :: L1)) := fun {U L1 L2} M hd => by
          have h := iRunTake ⟨id, at_, slots, full, [], state, due, links, watched, trap, ⟨wk, wn⟩, turns⟩ ⟨sA5, sC5, mA5, mC5, lA5, lC5, wA5, wC5⟩ 0 M hd (by show links.length ≤ _; omega) (by show watched.length ≤ _; omega)
          rw [runTake_empty (r := ⟨id, at_, slots, full, [], state, due, links, watched, trap, ⟨wk, wn⟩, turns⟩) 0 rfl] at h
          refine h.mono ?_
          rintro e w' ⟨b, rfl, M⟩
          exact ⟨b, rfl, M.perm (List.Perm.cons _ hd.perm.symm)⟩
        have j8 : decide (j < mail.length) = false := by simpa using hlt
        have j9 : ¬ (j : Int) < mail.length := by omega
        clear hok1 hl
        have M : Mem w (roB A n) _ (blk g11 tR [.int .i64 id, .int .i64 at_, .slice sA5 slots.length sC5, .int .i64 full, .slice mA5 0 mC5, .int .i64 state, .int .i64 due, .slice lA5 links.length lC5, .slice wA5 watched.length wC5, .bool trap, .int .i64 wk, .int .i64 wn, .int .i64 turns] :: blk g3 tR [.int .i64 id, .int .i64 at_, .slice sA slots.length sC, .int .i64 full, .slice mA mail.length mC, .int .i64 state, .int .i64 due, .slice lA links.length lC, .slice wA watched.length wC, .bool trap, .int .i64 wk, .int .i64 wn, .int .i64 turns] :: LL) := M
        (try clear F); have F := fxd M
        go_wp2_with (first | (with_reducible refine alAd M ?_; clear M; (try clear F); intro w1 M F) | ((with_reducible apply ev_store (M := M)); rfl; rfl; ((conv => lhs; whnf) <;> rfl); rfl; (first | exact siI | exact siR | exact siV | exact siB | exact siSI | exact siSV | exact siW | exact siSR | exact siSO | exact siO); (exact one_all rfl); (exact dl); (exact Nat.le_of_ble_eq_true rfl); clear M; intro w1 M; simp only [SX] at M; (try clear F); have F := fxd M) | (go_at_call 17; (refine nmKd ?_; clear M; (try clear F); intro w1 M F); with_reducible refine (HT.out M (.there (.there d2))).mono ?_; clear M; rintro e w2 ⟨⟨sA6, sC6, mA6, mC6, lA6, lC6, wA6, wC6⟩, rfl, M⟩; (try simp only at M); (try clear F); have F := fxd M))
        go_ret
        exact ⟨rfl, rdr_below M (.there (.there (.there (.there (.there d4))))) hR.out.1 hR.out.2⟩
theorem fnRunTakes_huge (A : Option Addr) (n c : Nat) (w : World) (h : 1048576 < n) (hn : n ≤ 9223372036854775807) :
    Calls Try.prog 13 #[.slice A n c] w fun e w' => e = .returned (.bool true) ∧ Below w.heap.size w w' := by
  have b1 : decide (1048576 < n) = true := by simpa using h
  go_enter Try.func13, Try.ntmps13
  go_wp2
  go_ret
  exact ⟨rfl, Below.refl _ _⟩
theorem fnRunTakes_walk (A : Option Addr) (n c : Nat) (bs : Nat → Int) (w : World) (hb : BytesIn w A n bs) (hnc : n ≤ c) (hc : c ≤ maxLen) :
    Calls Try.prog 13 #[.slice A n c] w fun e w' => e = .returned (.bool true) ∧ Below w.heap.size w w' := by
  by_cases h : n ≤ 1048576
  · exact fnRunTakes_small A n c bs w ⟨h, hb⟩ hnc
  · exact fnRunTakes_huge A n c w (by omega) (by unfold maxLen at hc; omega)
end Go.Proofs.Ytmidnaafljgbiaa
/- The law FnRunTakes returns true at all arguments, and its arguments read behind the call as before. -/
namespace Go.Proofs.Ytmidnaafljgbiaa.fnRunTakes
open Go.ChangeShapes Go.WideShapes Go.ChangeAt Go.RowKit
open Go.ChangeMaps (open_string shut_string)
theorem own : ownKnob Try.prog.godebug = none := by kernel_rfl
theorem laidOut : laidOutB Try.prog = true := by kernel_rfl

set_option maxRecDepth 100000 in
theorem lifted (os : Os) (started : os.Started) (H : Type) (enc : TypeId × Value → H) :
    ReturnsInHanded {} Try.checked os 13 .any (Rows.fnRunTakesSpec.pre6 enc Try.prog Try.f13 Rows.fnRunTakesRow.domain false) (Rows.fnRunTakesSpec.post enc Try.prog Try.f13 false true false false) := by
  refine returnsInHanded_of_change_sized (C := Try.checked) own started (by kernel_rfl) Try.func13
    (ChangeSpec.witness6 (enc := enc) (C := Try.checked) false ⟨#[], #[.slice none 0 0], []⟩ 8 (by kernel_rfl) (by kernel_rfl) (by kernel_rfl) (by kernel_rfl)) ?_
  intro W base args ds gs before hval0 hW hcnd hsz0 _
  have hsz : (DataW.weightsEach Try.prog (Try.f13.params.toList ++ Rows.fnRunTakesSpec.plain.varTypes Try.prog) (ds ++ gs)).all (· ≤ reachBytes) = true := hsz0
  have hval : ∀ (j : Nat) t v, Try.f13.params[j]? = some t → args[j]? = some v → Value.okWide Try.prog W .any base t v := hval0
  have hW' := hW
  obtain ⟨p, q, hA0, hV, rfl, hfz, hnd⟩ := hW
  have hA : DataW.TrodAll enc Try.prog W 0 (fun _ => true) true Try.f13.params.toList args.toList ds p := hA0
  rw [Try.params13] at hA hval hsz
  obtain ⟨v0, vs0, d0, ds0, p0, q0, hargs, rfl, rfl, h0, r0⟩ := trodAll_cons hA
  obtain ⟨rfl, rfl, rfl⟩ := trodAll_nil r0
  obtain rfl : args = #[v0] := by cases args; simp_all
  obtain ⟨rfl, rfl⟩ := trodVars_none hV
  have lt0 : ∀ x ∈ p0, x.block < W.heap.size := by obtain ⟨m, hm⟩ := h0; exact DataW.trod_lt m _ _ _ hm
  obtain ⟨A0, n0, c0, bs0, rfl, hc0, hm0, hb0⟩ := open_bytesA (hval 0 54 v0 rfl rfl) h0
  clear hA0 hval0 hsz0 hsz
  refine (fnRunTakes_walk A0 n0 c0 bs0 W hb0 hc0 hm0).mono fun e W' ⟨he, bel⟩ => ?_
  subst he
  exact ⟨_, rfl, _, _, _, [], _, [], hW', trodAll_mk1 (shut_bool Try.underlying4 _), (trodAll_cons_mk (Below.trod laidOut (by kernel_rfl) (of_decide_eq_true (by kernel_rfl)) h0 bel lt0) trodAll_mk0), rfl, bel.frame _, fun h => by cases h⟩

theorem over : Rows.fnRunTakesRow.holds Try.pinned (OpenSpec.ofChange Rows.fnRunTakesSpec) :=
  OpenClaim.holds_of_wide 13 Try.f13 rfl rfl rfl rfl rfl rfl rfl ⟨rfl, rfl, rfl, rfl, rfl⟩ rfl rfl rfl rfl rfl (by kernel_rfl) Try.func13 (by kernel_rfl)
    (of_decide_eq_true (by kernel_rfl)) (by unfold Func.isWrapper; first | (rw [if_pos (by decide +kernel)]; kernel_rfl) | (rw [if_neg (by decide +kernel)]; exact ⟨rfl, rfl⟩))
    (fun os started H enc _ => lifted os started H enc)
theorem proved : Rows.FnRunTakesSaid := over
#print axioms proved
end Go.Proofs.Ytmidnaafljgbiaa.fnRunTakes
