/- Parts of the proof, in one text. -/
import Derived.Test.YtmidnaafljgbiaaB36
import Derived.Test.YtmidnaafljgbiaaB43
import Derived.Test.YtmidnaafljgbiaaB45
import Derived.Test.YtmidnaafljgbiaaB44
import Derived.Test.YtmidnaafljgbiaaB39
/- The law of a drawn run's mail: what waits stays as it came. -/
namespace Go.Proofs.Ytmidnaafljgbiaa
open Go.RowKit
set_option maxRecDepth 100000

/-- The mail when those of the kind among the first j are taken. -/
def keptAt (mail : List Vl) (kind : Int) (j : Nat) : List Vl := (mail.take j).filter (fun v => !fits v kind) ++ mail.drop j
theorem keptAt_none {mail : List Vl} {kind : Int} {j : Nat} (h : mail.length ≤ j) : ∀ x ∈ keptAt mail kind j, fits x kind = false := by
  intro x hx
  unfold keptAt at hx
  rw [List.drop_eq_nil_of_le h, List.append_nil, List.mem_filter] at hx
  simpa using hx.2
theorem keptAt_skip {mail : List Vl} {kind : Int} {j : Nat} {v : Vl} (h : mail[j]? = some v) (hf : fits v kind = false) : keptAt mail kind (j + 1) = keptAt mail kind j := by
  obtain ⟨hl, rfl⟩ := List.getElem?_eq_some_iff.1 h
  unfold keptAt
  rw [List.drop_eq_getElem_cons hl, List.take_succ_eq_append_getElem hl, List.filter_append]
  simp [hf]
theorem keptAt_take {mail : List Vl} {kind : Int} {j : Nat} {v : Vl} (h : mail[j]? = some v) (hf : fits v kind = true) : keptAt mail kind (j + 1) = (mail.take j).filter (fun v => !fits v kind) ++ mail.drop (j + 1) ∧ keptAt mail kind j = (mail.take j).filter (fun v => !fits v kind) ++ v :: mail.drop (j + 1) := by
  obtain ⟨hl, rfl⟩ := List.getElem?_eq_some_iff.1 h
  unfold keptAt
  rw [List.drop_eq_getElem_cons hl, List.take_succ_eq_append_getElem hl, List.filter_append]
  simp [hf]
theorem keptAt_ok {r : Rn} (h : runOk r = true) (kind : Int) (j : Nat) : runOk { r with mail := keptAt r.mail kind j } = true := by
  have hs : (keptAt r.mail kind j).Sublist r.mail := by
    have h1 : ((r.mail.take j).filter (fun v => !fits v kind) ++ r.mail.drop j).Sublist (r.mail.take j ++ r.mail.drop j) := List.Sublist.append List.filter_sublist (List.Sublist.refl _)
    rwa [List.take_append_drop] at h1
  exact runOk_mail h hs.length_le (fun x hx => hs.subset hx)
set_option maxHeartbeats 8000000 in
theorem fnRunKeeps_small (A : Option Addr) (n c : Nat) (bs : Nat → Int) (w : World) (hb : BytesOk w A n bs) (hnc : n ≤ c) :
    Calls Try.prog 8 #[.slice A n c] w fun e w' => e = .returned (.bool true) ∧ Below w.heap.size w w' := by
  have AL := add_lit0
  have M := Mem.ofBytesB hb
  have HD : Hid (∀ {W : World} {L : List Asn}, Mem w (roB A n) W (ro w A n bs :: L) → Calls Try.prog 34 #[.slice A n c] W (DRF w A n w (roB A n) L)) := fun {W L} M => sDrawRunFirst w A n c bs hnc M
  have hn := hb.1
  have b1 : decide (1048576 < n) = false := by simp; omega
  clear hb hnc
  (try clear F); have F := fxd M
  go_enter Try.func8, Try.ntmps8
  go_upto_region 4 with (first
    | (with_reducible refine alAd M ?_; clear M; (try clear F); intro w1 M F)
    | ((with_reducible apply ev_store (M := M)); rfl; rfl; ((conv => lhs; whnf) <;> rfl); rfl; (first | exact siI | exact siR | exact siV | exact siB | exact siSI | exact siSV | exact siW | exact siSR | exact siSO | exact siO); (exact one_all rfl); (exact dl); (exact Nat.le_of_ble_eq_true rfl); clear M; intro w1 M; simp only [SX] at M; (try clear F); have F := fxd M)
    | (go_at_call 34; refine (HD.out (M.pull dl)).mono ?_; clear M; rintro e w2 ⟨⟨id, at_, slots, full, mail, state, due, links, watched, trap, ⟨wk, wn⟩, turns⟩, ⟨sA, sC, mA, mC, lA, lC, wA, wC⟩, kind, R, p, rfl, hr, hR, M⟩; have hR := Lib.hid hR; (try simp only at M); (try clear F); have F := fxd M))
  generalize w2.heap.size = g3 at M ⊢
  (try clear F); have F := fxd M
  have hll : links.length ≤ 7 := hr.2.2.1
  have hwl : watched.length ≤ 6 := hr.2.2.2
  have hmail : mail.length ≤ 20 := hr.2.1
  clear hr
  obtain ⟨⟨at9, ok9⟩, h9⟩ : ∃ q : Int × Bool, q = runFirst ⟨id, at_, slots, full, mail, state, due, links, watched, trap, ⟨wk, wn⟩, turns⟩ kind := ⟨_, rfl⟩
  have HI : Hid (∀ {U : World} {L1 L2 : List Asn}, Mem w (roB A n) U L1 → Del (runA ⟨id, at_, slots, full, mail, state, due, links, watched, trap, ⟨wk, wn⟩, turns⟩ ⟨sA, sC, mA, mC, lA, lC, wA, wC⟩) L1 L2 → Calls Try.prog 36 #[.agg (List.toArray [.int .i64 id, .int .i64 at_, .slice sA slots.length sC, .int .i64 full, .slice mA mail.length mC, .int .i64 state, .int .i64 due, .slice lA links.length lC, .slice wA watched.length wC, .bool trap, .int .i64 wk, .int .i64 wn, .int .i64 turns]), .int .i64 kind] U fun e w' => e = .returned (.tuple #[.int .i64 at9, .bool ok9]) ∧ Below U.heap.size U w') := fun {U L1 L2} M hd => by
    have h := iRunFirst ⟨id, at_, slots, full, mail, state, due, links, watched, trap, ⟨wk, wn⟩, turns⟩ ⟨sA, sC, mA, mC, lA, lC, wA, wC⟩ kind U.heap.size U (runA_reads (M.is hd)).1 (Nat.le_refl _)
    unfold FirstPost at h
    rw [← h9] at h
    exact h
  have HS : Hid (∀ {U : World} {L1 L2 : List Asn}, Mem w (roB A n) U L1 → Del (runA ⟨id, at_, slots, full, mail, state, due, links, watched, trap, ⟨wk, wn⟩, turns⟩ ⟨sA, sC, mA, mC, lA, lC, wA, wC⟩) L1 L2 → Calls Try.prog 35 #[.agg (List.toArray [.int .i64 id, .int .i64 at_, .slice sA slots.length sC, .int .i64 full, .slice mA mail.length mC, .int .i64 state, .int .i64 due, .slice lA links.length lC, .slice wA watched.length wC, .bool trap, .int .i64 wk, .int .i64 wn, .int .i64 turns]), .int .i64 kind] U fun e w' => e = .returned (.tuple #[.int .i64 at9, .bool ok9]) ∧ Below U.heap.size U w') := fun {U L1 L2} M hd => by
    have h := sRunFirst ⟨id, at_, slots, full, mail, state, due, links, watched, trap, ⟨wk, wn⟩, turns⟩ ⟨sA, sC, mA, mC, lA, lC, wA, wC⟩ kind U.heap.size U (runA_reads (M.is hd)).1 (Nat.le_refl _)
    unfold FirstPost at h
    rw [← h9] at h
    exact h
  have HO : Hid (∀ {b : Bool}, runOk ⟨id, at_, slots, full, mail, state, due, links, watched, trap, ⟨wk, wn⟩, turns⟩ = b → ∀ {U : World} {L1 L2 : List Asn}, Mem w (roB A n) U L1 → Del (runA ⟨id, at_, slots, full, mail, state, due, links, watched, trap, ⟨wk, wn⟩, turns⟩ ⟨sA, sC, mA, mC, lA, lC, wA, wC⟩) L1 L2 → Calls Try.prog 33 #[.agg (List.toArray [.int .i64 id, .int .i64 at_, .slice sA slots.length sC, .int .i64 full, .slice mA mail.length mC, .int .i64 state, .int .i64 due, .slice lA links.length lC, .slice wA watched.length wC, .bool trap, .int .i64 wk, .int .i64 wn, .int .i64 turns])] U fun e w' => e = .returned (.bool b) ∧ Below U.heap.size U w') := fun {b} h {U L1 L2} M hd => by
    rw [← h]; exact sRunOk ⟨id, at_, slots, full, mail, state, due, links, watched, trap, ⟨wk, wn⟩, turns⟩ ⟨sA, sC, mA, mC, lA, lC, wA, wC⟩ U.heap.size U (runA_reads (M.is hd)).1 (Nat.le_refl _)
  have q1 : (ok9 != ok9) = false := by simp
  have q2 : (at9 != at9) = false := by simp
  have q3 : (ok9 == ok9) = true := by simp
  have q4 : (at9 == at9) = true := by simp
  clear h9
  cases hok : runOk ⟨id, at_, slots, full, mail, state, due, links, watched, trap, ⟨wk, wn⟩, turns⟩ with
  | false =>
    replace hok := Lib.hid hok
    go_wp2_with (first | ((with_reducible apply ev_store (M := M)); rfl; rfl; ((conv => lhs; whnf) <;> rfl); rfl; (first | exact siI | exact siR | exact siV | exact siB | exact siSI | exact siSV | exact siW | exact siSR | exact siSO | exact siO); (exact one_all rfl); (exact dl); (exact Nat.le_of_ble_eq_true rfl); clear M; intro w1 M; simp only [SX] at M; (try clear F); have F := fxd M) | (go_at_call 36; (refine nmKd ?_; clear M; (try clear F); intro w1 M F); with_reducible refine (HI.out M dl).mono ?_; rintro e w2 ⟨rfl, hb⟩; replace M := M.below hb; clear hb; (try clear F); have F := fxd M) | (go_at_call 35; (refine nmKd ?_; clear M; (try clear F); intro w1 M F); with_reducible refine (HS.out M dl).mono ?_; rintro e w2 ⟨rfl, hb⟩; replace M := M.below hb; clear hb; (try clear F); have F := fxd M) | (go_at_call 33; (refine nmKd ?_; clear M; (try clear F); intro w1 M F); with_reducible refine (HO.out hok.out M dl).mono ?_; rintro e w2 ⟨rfl, hb⟩; replace M := M.below hb; clear hb; (try clear F); have F := fxd M))
    go_ret
    exact ⟨rfl, rdr_below M dl hR.out.1 hR.out.2⟩
  | true =>
    have hok1 := Lib.hid hok
    replace hok := Lib.hid hok
    by_cases c1 : kind < 1
    · have c2 : decide (kind < 1) = true := by simpa using c1
      go_wp2_with (first | ((with_reducible apply ev_store (M := M)); rfl; rfl; ((conv => lhs; whnf) <;> rfl); rfl; (first | exact siI | exact siR | exact siV | exact siB | exact siSI | exact siSV | exact siW | exact siSR | exact siSO | exact siO); (exact one_all rfl); (exact dl); (exact Nat.le_of_ble_eq_true rfl); clear M; intro w1 M; simp only [SX] at M; (try clear F); have F := fxd M) | (go_at_call 36; (refine nmKd ?_; clear M; (try clear F); intro w1 M F); with_reducible refine (HI.out M dl).mono ?_; rintro e w2 ⟨rfl, hb⟩; replace M := M.below hb; clear hb; (try clear F); have F := fxd M) | (go_at_call 35; (refine nmKd ?_; clear M; (try clear F); intro w1 M F); with_reducible refine (HS.out M dl).mono ?_; rintro e w2 ⟨rfl, hb⟩; replace M := M.below hb; clear hb; (try clear F); have F := fxd M) | (go_at_call 33; (refine nmKd ?_; clear M; (try clear F); intro w1 M F); with_reducible refine (HO.out hok.out M dl).mono ?_; rintro e w2 ⟨rfl, hb⟩; replace M := M.below hb; clear hb; (try clear F); have F := fxd M))
      go_ret
      exact ⟨rfl, rdr_below M dl hR.out.1 hR.out.2⟩
    · by_cases c3 : 3 < kind
      · have c4 : decide (3 < kind) = true := by simpa using c3
        have c2 : decide (kind < 1) = false := by simpa using c1
        go_wp2_with (first | ((with_reducible apply ev_store (M := M)); rfl; rfl; ((conv => lhs; whnf) <;> rfl); rfl; (first | exact siI | exact siR | exact siV | exact siB | exact siSI | exact siSV | exact siW | exact siSR | exact siSO | exact siO); (exact one_all rfl); (exact dl); (exact Nat.le_of_ble_eq_true rfl); clear M; intro w1 M; simp only [SX] at M; (try clear F); have F := fxd M) | (go_at_call 36; (refine nmKd ?_; clear M; (try clear F); intro w1 M F); with_reducible refine (HI.out M dl).mono ?_; rintro e w2 ⟨rfl, hb⟩; replace M := M.below hb; clear hb; (try clear F); have F := fxd M) | (go_at_call 35; (refine nmKd ?_; clear M; (try clear F); intro w1 M F); with_reducible refine (HS.out M dl).mono ?_; rintro e w2 ⟨rfl, hb⟩; replace M := M.below hb; clear hb; (try clear F); have F := fxd M) | (go_at_call 33; (refine nmKd ?_; clear M; (try clear F); intro w1 M F); with_reducible refine (HO.out hok.out M dl).mono ?_; rintro e w2 ⟨rfl, hb⟩; replace M := M.below hb; clear hb; (try clear F); have F := fxd M))
        go_ret
        exact ⟨rfl, rdr_below M dl hR.out.1 hR.out.2⟩
      · have hin := Lib.hid (inB_iff.2 (show (0 : Int) ≤ kind ∧ kind ≤ 3 by omega))
        have hk0 : Hid (kind ≠ 0) := by
          show _ ≠ _
          omega
        have c2 : decide (kind < 1) = false := by simpa using c1
        have c4 : decide (3 < kind) = false := by simpa using c3
        go_upto_region 9 with (first | (with_reducible refine alAd M ?_; clear M; (try clear F); intro w1 M F) | ((with_reducible apply ev_store (M := M)); rfl; rfl; ((conv => lhs; whnf) <;> rfl); rfl; (first | exact siI | exact siR | exact siV | exact siB | exact siSI | exact siSV | exact siW | exact siSR | exact siSO | exact siO); (exact one_all rfl); (exact dl); (exact Nat.le_of_ble_eq_true rfl); clear M; intro w1 M; simp only [SX] at M; (try clear F); have F := fxd M) | (go_at_call 36; (refine nmKd ?_; clear M; (try clear F); intro w1 M F); with_reducible refine (HI.out M dl).mono ?_; rintro e w2 ⟨rfl, hb⟩; replace M := M.below hb; clear hb; (try clear F); have F := fxd M) | (go_at_call 35; (refine nmKd ?_; clear M; (try clear F); intro w1 M F); with_reducible refine (HS.out M dl).mono ?_; rintro e w2 ⟨rfl, hb⟩; replace M := M.below hb; clear hb; (try clear F); have F := fxd M) | (go_at_call 33; (refine nmKd ?_; clear M; (try clear F); intro w1 M F); with_reducible refine (HO.out hok.out M dl).mono ?_; rintro e w2 ⟨rfl, hb⟩; replace M := M.below hb; clear hb; (try clear F); have F := fxd M))
        obtain ⟨g9, hgn⟩ := blkName M .here
        rw [hgn] at M ⊢
        clear hgn
        have MU : Mem w (roB A n) _ (blk g9 tR [.int .i64 id, .int .i64 at_, .slice sA slots.length sC, .int .i64 full, .slice mA mail.length mC, .int .i64 state, .int .i64 due, .slice lA links.length lC, .slice wA watched.length wC, .bool trap, .int .i64 wk, .int .i64 wn, .int .i64 turns] :: blk g3 tR [.int .i64 id, .int .i64 at_, .slice sA slots.length sC, .int .i64 full, .slice mA mail.length mC, .int .i64 state, .int .i64 due, .slice lA links.length lC, .slice wA watched.length wC, .bool trap, .int .i64 wk, .int .i64 wn, .int .i64 turns] :: [runA ⟨id, at_, slots, full, mail, state, due, links, watched, trap, ⟨wk, wn⟩, turns⟩ ⟨sA, sC, mA, mC, lA, lC, wA, wC⟩, rdr R p]) := M.sel sl
        clear M F HI HS HO hok
        replace MU := Lib.hid MU
        replace hmail := Lib.hid hmail
        go_wp2
        go_loopg [10] mail.length (fun gg v wr => ∃ (j : Nat) (l : List Vl) (sA5 : Option Addr) (sC5 : Nat) (mA5 : Option Addr) (mC5 : Nat) (lA5 : Option Addr) (lC5 : Nat) (wA5 : Option Addr) (wC5 : Nat) (LL L2 L3 L4 : List Asn), j ≤ mail.length ∧ mail.length - j ≤ gg ∧ v = .int .i64 j ∧ Hid (keptAt mail kind j = l) ∧ Hid (Mem w (roB A n) wr (blk g9 tR [.int .i64 id, .int .i64 at_, .slice sA5 slots.length sC5, .int .i64 full, .slice mA5 l.length mC5, .int .i64 state, .int .i64 due, .slice lA5 links.length lC5, .slice wA5 watched.length wC5, .bool trap, .int .i64 wk, .int .i64 wn, .int .i64 turns] :: blk g3 tR [.int .i64 id, .int .i64 at_, .slice sA slots.length sC, .int .i64 full, .slice mA mail.length mC, .int .i64 state, .int .i64 due, .slice lA links.length lC, .slice wA watched.length wC, .bool trap, .int .i64 wk, .int .i64 wn, .int .i64 turns] :: LL)) ∧ Del (runA ⟨id, at_, slots, full, l, state, due, links, watched, trap, ⟨wk, wn⟩, turns⟩ ⟨sA5, sC5, mA5, mC5, lA5, lC5, wA5, wC5⟩) LL L2 ∧ Del (runA ⟨id, at_, slots, full, mail, state, due, links, watched, trap, ⟨wk, wn⟩, turns⟩ ⟨sA, sC, mA, mC, lA, lC, wA, wC⟩) LL L3 ∧ Del (rdr R p) LL L4)
        case atStart => exact ⟨0, mail, sA, sC, mA, mC, lA, lC, wA, wC, _, _, _, _, by omega, by omega, rfl, Lib.hid rfl, MU, .here, .here, .there .here⟩
        case round =>
          clear MU
          obtain ⟨j, l, sA5, sC5, mA5, mC5, lA5, lC5, wA5, wC5, LL, L2, L3, L4, hj, hg, rfl, hl, M, d2, d3, d4⟩ := hrel
          replace M := M.out
          have wj : IntKind.i64.wrap ((j : Int) + 1) = (j : Int) + 1 := by have := hmail.out; rw [IntKind.wrap_i64]; omega
          by_cases hlt : j < mail.length
          · obtain ⟨gm, rfl⟩ := mailForm (r := ⟨id, at_, slots, full, mail, state, due, links, watched, trap, ⟨wk, wn⟩, turns⟩) (a := ⟨sA, sC, mA, mC, lA, lC, wA, wC⟩) (M.is (.there (.there d3))) (by show 0 < mail.length; omega)
            obtain ⟨⟨uk, un⟩, hv⟩ : ∃ v, mail[j]? = some v := ⟨_, List.getElem?_eq_getElem hlt⟩
            have HKM : Hid (∀ {U : World} {L1 L2 : List Asn}, Mem w (roB A n) U L1 → Del (runA ⟨id, at_, slots, full, mail, state, due, links, watched, trap, ⟨wk, wn⟩, turns⟩ ⟨sA, sC, some ⟨gm, 0, none⟩, mC, lA, lC, wA, wC⟩) L1 L2 → U.cell? ⟨gm, j * 2, none⟩ = some (.int .i64 uk) ∧ U.cell? ⟨gm, j * 2 + 1, none⟩ = some (.int .i64 un)) := fun M hd => mailCells (r := ⟨id, at_, slots, full, mail, state, due, links, watched, trap, ⟨wk, wn⟩, turns⟩) (M.is hd) hv
            have j0 : (0 : Int) ≤ j := by omega
            have j1 : (j : Int) < mail.length := by omega
            have E := HKM.out M (.there (.there d3))
            by_cases hkk : uk = kind
            · subst hkk
              have hf : fits ⟨uk, un⟩ uk = true := by simp [fits]
              have hkt := keptAt_take hv hf
              obtain ⟨l2, hl2⟩ : ∃ l2, l2 = keptAt mail uk (j + 1) := ⟨_, rfl⟩
              have hokl : runOk ⟨id, at_, slots, full, l, state, due, links, watched, trap, ⟨wk, wn⟩, turns⟩ = true := by rw [← hl.out]; exact keptAt_ok (r := ⟨id, at_, slots, full, mail, state, due, links, watched, trap, ⟨wk, wn⟩, turns⟩) hok1.out uk j
              have HT : Hid (∀ {U : World} {L1 L2 : List Asn}, Mem w (roB A n) U L1 → Del (runA ⟨id, at_, slots, full, l, state, due, links, watched, trap, ⟨wk, wn⟩, turns⟩ ⟨sA5, sC5, mA5, mC5, lA5, lC5, wA5, wC5⟩) L1 L2 → Calls Try.prog 17 #[.agg (List.toArray [.int .i64 id, .int .i64 at_, .slice sA5 slots.length sC5, .int .i64 full, .slice mA5 l.length mC5, .int .i64 state, .int .i64 due, .slice lA5 links.length lC5, .slice wA5 watched.length wC5, .bool trap, .int .i64 wk, .int .i64 wn, .int .i64 turns]), .int .i64 uk] U fun e w' => ∃ b : RA, e = .returned (.tuple #[.agg (List.toArray [.int .i64 id, .int .i64 at_, .slice b.sA slots.length b.sC, .int .i64 full, .slice b.mA l2.length b.mC, .int .i64 state, .int .i64 due, .slice b.lA links.length b.lC, .slice b.wA watched.length b.wC, .bool trap, .int .i64 wk, .int .i64 wn, .int .i64 turns]), .agg #[.int .i64 uk, .int .i64 un], .bool true]) ∧ Mem w (roB A n) w' (runA ⟨id, at_, slots, full, l2, state, due, links, watched, trap, ⟨wk, wn⟩, turns⟩ b :: L1)) := fun {U L1 L2} M hd => by
                have h := iRunTake ⟨id, at_, slots, full, l, state, due, links, watched, trap, ⟨wk, wn⟩, turns⟩ ⟨sA5, sC5, mA5, mC5, lA5, lC5, wA5, wC5⟩ uk M hd (by show links.length ≤ _; omega) (by show watched.length ≤ _; omega)
                rw [runTake_kind (r := ⟨id, at_, slots, full, l, state, due, links, watched, trap, ⟨wk, wn⟩, turns⟩) hokl hin.out (hl.out.symm.trans hkt.2) (fun x hx => by rw [List.mem_filter] at hx; simpa using hx.2) hf, ← hkt.1, ← hl2] at h
                refine h.mono ?_
                rintro e w' ⟨b, rfl, M⟩
                exact ⟨b, rfl, M.perm (List.Perm.cons _ hd.perm.symm)⟩
              clear hokl hkt hf hv hok1 hl
              replace hl2 := Lib.hid hl2
              (try clear F); have F := fxd M
              go_upto_region 13 with fail
              clear E
              go_upto_region 14 with (first | (with_reducible refine alAd M ?_; clear M; (try clear F); intro w1 M F) | ((with_reducible apply ev_store (M := M)); rfl; rfl; ((conv => lhs; whnf) <;> rfl); rfl; (first | exact siI | exact siR | exact siV | exact siB | exact siSI | exact siSV | exact siW | exact siSR | exact siSO | exact siO); (exact one_all rfl); (exact dl); (exact Nat.le_of_ble_eq_true rfl); clear M; intro w1 M; simp only [SX] at M; (try clear F); have F := fxd M) | (go_at_call 17; (refine nmKd ?_; clear M; (try clear F); intro w1 M F); with_reducible refine (HT.out M (.there (.there d2))).mono ?_; clear M; rintro e w2 ⟨⟨sA6, sC6, mA6, mC6, lA6, lC6, wA6, wC6⟩, rfl, M⟩; (try simp only at M); (try clear F); have F := fxd M))
              obtain ⟨g12, hgn⟩ := blkName M .here
              rw [hgn] at M ⊢
              clear hgn
              obtain ⟨g11, hgn⟩ := blkName M (.there .here)
              rw [hgn] at M ⊢
              clear hgn
              (try clear F); have F := fxd M
              (refine held_begin (S := fun W' => ((∀ j, W'.cell? ⟨g12, j, none⟩ = ([.int .i64 uk, .int .i64 un] : List Value)[j]?) ∧ ∀ j, W'.cell? ⟨g3, j, none⟩ = ([.int .i64 id, .int .i64 at_, .slice sA slots.length sC, .int .i64 full, .slice (some ⟨gm, 0, none⟩) mail.length mC, .int .i64 state, .int .i64 due, .slice lA links.length lC, .slice wA watched.length wC, .bool trap, .int .i64 wk, .int .i64 wn, .int .i64 turns] : List Value)[j]?) ∧ W'.cell? ⟨gm, j * 2, none⟩ = some (.int .i64 uk) ∧ W'.cell? ⟨gm, j * 2 + 1, none⟩ = some (.int .i64 un)) (by kernel_rfl) (fun _ _ _ _ _ h => h) (by exact ⟨⟨kc, kc⟩, HKM.out mb (.there (.there (.there (.there (.there d3)))))⟩) (fun HQ hHeld => ?_))
              refine tkY HQ hHeld 0 ?_; refine tkY HQ hHeld 1 ?_; refine tkY HQ hHeld 2 ?_; refine tkY HQ hHeld 3 ?_; refine tkY HQ hHeld 4 ?_; refine tkY HQ hHeld 5 ?_; refine tkY HQ hHeld 6 ?_; refine tkY HQ hHeld 7 ?_; refine tkY HQ hHeld 8 ?_; refine tkY HQ hHeld 9 ?_; refine tkY HQ hHeld 10 ?_
              refine wpAnyH_done (by kernel_rfl) ?_ _; clear HQ; (repeat clear hHeld)
              replace M := Mem.drew M
              go_wp2_with (first | ((with_reducible apply ev_store (M := M)); rfl; rfl; ((conv => lhs; whnf) <;> rfl); rfl; (first | exact siI | exact siR | exact siV | exact siB | exact siSI | exact siSV | exact siW | exact siSR | exact siSO | exact siO); (exact one_all rfl); (exact dl); (exact Nat.le_of_ble_eq_true rfl); clear M; intro w1 M; simp only [SX] at M; (try clear F); have F := fxd M))
              go_roundg (mail.length - (j + 1))
              case measure => omega
              case rel => exact ⟨j + 1, l2, sA6, sC6, mA6, mC6, lA6, lC6, wA6, wC6, runA ⟨id, at_, slots, full, l2, state, due, links, watched, trap, ⟨wk, wn⟩, turns⟩ ⟨sA6, sC6, mA6, mC6, lA6, lC6, wA6, wC6⟩ :: LL, _, _, _, by omega, Nat.le_refl _, by go_num, hl2.out.symm, M.sel (.cons .here (.cons (.there (.there (.there .here))) (.drop (.drop .refl)))), .here, .there d3, .there d4⟩
            · have hne : (uk != kind) = true := by simpa using hkk
              have hf : fits ⟨uk, un⟩ kind = false := by
                have := hk0.out
                simp [fits, this, hkk]
              have hks : Hid (keptAt mail kind (j + 1) = l) := (keptAt_skip hv hf).trans hl.out
              replace hkk := Lib.hid hkk
              clear hf hv hl
              (try clear F); have F := fxd M
              go_wp2
              go_roundg (mail.length - (j + 1))
              case measure => omega
              case rel => exact ⟨j + 1, l, sA5, sC5, mA5, mC5, lA5, lC5, wA5, wC5, LL, _, _, _, by omega, Nat.le_refl _, by go_num, hks, M, d2, d3, d4⟩
          · have HT : Hid (∀ {U : World} {L1 L2 : List Asn}, Mem w (roB A n) U L1 → Del (runA ⟨id, at_, slots, full, l, state, due, links, watched, trap, ⟨wk, wn⟩, turns⟩ ⟨sA5, sC5, mA5, mC5, lA5, lC5, wA5, wC5⟩) L1 L2 → Calls Try.prog 17 #[.agg (List.toArray [.int .i64 id, .int .i64 at_, .slice sA5 slots.length sC5, .int .i64 full, .slice mA5 l.length mC5, .int .i64 state, .int .i64 due, .slice lA5 links.length lC5, .slice wA5 watched.length wC5, .bool trap, .int .i64 wk, .int .i64 wn, .int .i64 turns]), .int .i64 kind] U fun e w' => ∃ b : RA, e = .returned (.tuple #[.agg (List.toArray [.int .i64 0, .int .i64 0, .slice b.sA 0 b.sC, .int .i64 0, .slice b.mA 0 b.mC, .int .i64 0, .int .i64 0, .slice b.lA 0 b.lC, .slice b.wA 0 b.wC, .bool false, .int .i64 0, .int .i64 0, .int .i64 0]), .agg #[.int .i64 0, .int .i64 0], .bool false]) ∧ Mem w (roB A n) w' (runA Rn.zero b :: L1)) := fun {U L1 L2} M hd => by
              have h := iRunTake ⟨id, at_, slots, full, l, state, due, links, watched, trap, ⟨wk, wn⟩, turns⟩ ⟨sA5, sC5, mA5, mC5, lA5, lC5, wA5, wC5⟩ kind M hd (by show links.length ≤ _; omega) (by show watched.length ≤ _; omega)
              rw [runTake_none (r := ⟨id, at_, slots, full, l, state, due, links, watched, trap, ⟨wk, wn⟩, turns⟩) (fun x hx => keptAt_none (mail := mail) (j := j) (by omega) x (by rw [hl.out]; exact hx))] at h
              refine h.mono ?_
              rintro e w' ⟨b, rfl, M⟩
              exact ⟨b, rfl, M.perm (List.Perm.cons _ hd.perm.symm)⟩
            have j8 : decide (j < mail.length) = false := by simpa using hlt
            have j9 : ¬ (j : Int) < mail.length := by omega
            clear hok1 hl
            (try clear F); have F := fxd M
            go_wp2_with (first | (with_reducible refine alAd M ?_; clear M; (try clear F); intro w1 M F) | ((with_reducible apply ev_store (M := M)); rfl; rfl; ((conv => lhs; whnf) <;> rfl); rfl; (first | exact siI | exact siR | exact siV | exact siB | exact siSI | exact siSV | exact siW | exact siSR | exact siSO | exact siO); (exact one_all rfl); (exact dl); (exact Nat.le_of_ble_eq_true rfl); clear M; intro w1 M; simp only [SX] at M; (try clear F); have F := fxd M) | (go_at_call 17; (refine nmKd ?_; clear M; (try clear F); intro w1 M F); with_reducible refine (HT.out M (.there (.there d2))).mono ?_; clear M; rintro e w2 ⟨⟨sA6, sC6, mA6, mC6, lA6, lC6, wA6, wC6⟩, rfl, M⟩; (try simp only at M); (try clear F); have F := fxd M))
            go_ret
            exact ⟨rfl, rdr_below M (.there (.there (.there (.there (.there d4))))) hR.out.1 hR.out.2⟩
theorem fnRunKeeps_huge (A : Option Addr) (n c : Nat) (w : World) (h : 1048576 < n) (hn : n ≤ 9223372036854775807) :
    Calls Try.prog 8 #[.slice A n c] w fun e w' => e = .returned (.bool true) ∧ Below w.heap.size w w' := by
  have b1 : decide (1048576 < n) = true := by simpa using h
  go_enter Try.func8, Try.ntmps8
  go_wp2
  go_ret
  exact ⟨rfl, Below.refl _ _⟩
theorem fnRunKeeps_walk (A : Option Addr) (n c : Nat) (bs : Nat → Int) (w : World) (hb : BytesIn w A n bs) (hnc : n ≤ c) (hc : c ≤ maxLen) :
    Calls Try.prog 8 #[.slice A n c] w fun e w' => e = .returned (.bool true) ∧ Below w.heap.size w w' := by
  by_cases h : n ≤ 1048576
  · exact fnRunKeeps_small A n c bs w ⟨h, hb⟩ hnc
  · exact fnRunKeeps_huge A n c w (by omega) (by unfold maxLen at hc; omega)
end Go.Proofs.Ytmidnaafljgbiaa
/- The law FnRunKeeps returns true at all arguments, and its arguments read behind the call as before. -/
namespace Go.Proofs.Ytmidnaafljgbiaa.fnRunKeeps
open Go.ChangeShapes Go.WideShapes Go.ChangeAt Go.RowKit
open Go.ChangeMaps (open_string shut_string)
theorem own : ownKnob Try.prog.godebug = none := by kernel_rfl
theorem laidOut : laidOutB Try.prog = true := by kernel_rfl

set_option maxRecDepth 100000 in
theorem lifted (os : Os) (started : os.Started) (H : Type) (enc : TypeId × Value → H) :
    ReturnsInHanded {} Try.checked os 8 .any (Rows.fnRunKeepsSpec.pre6 enc Try.prog Try.f8 Rows.fnRunKeepsRow.domain false) (Rows.fnRunKeepsSpec.post enc Try.prog Try.f8 false true false false) := by
  refine returnsInHanded_of_change_sized (C := Try.checked) own started (by kernel_rfl) Try.func8
    (ChangeSpec.witness6 (enc := enc) (C := Try.checked) false ⟨#[], #[.slice none 0 0], []⟩ 8 (by kernel_rfl) (by kernel_rfl) (by kernel_rfl) (by kernel_rfl)) ?_
  intro W base args ds gs before hval0 hW hcnd hsz0 _
  have hsz : (DataW.weightsEach Try.prog (Try.f8.params.toList ++ Rows.fnRunKeepsSpec.plain.varTypes Try.prog) (ds ++ gs)).all (· ≤ reachBytes) = true := hsz0
  have hval : ∀ (j : Nat) t v, Try.f8.params[j]? = some t → args[j]? = some v → Value.okWide Try.prog W .any base t v := hval0
  have hW' := hW
  obtain ⟨p, q, hA0, hV, rfl, hfz, hnd⟩ := hW
  have hA : DataW.TrodAll enc Try.prog W 0 (fun _ => true) true Try.f8.params.toList args.toList ds p := hA0
  rw [Try.params8] at hA hval hsz
  obtain ⟨v0, vs0, d0, ds0, p0, q0, hargs, rfl, rfl, h0, r0⟩ := trodAll_cons hA
  obtain ⟨rfl, rfl, rfl⟩ := trodAll_nil r0
  obtain rfl : args = #[v0] := by cases args; simp_all
  obtain ⟨rfl, rfl⟩ := trodVars_none hV
  have lt0 : ∀ x ∈ p0, x.block < W.heap.size := by obtain ⟨m, hm⟩ := h0; exact DataW.trod_lt m _ _ _ hm
  obtain ⟨A0, n0, c0, bs0, rfl, hc0, hm0, hb0⟩ := open_bytesA (hval 0 54 v0 rfl rfl) h0
  clear hA0 hval0 hsz0 hsz
  refine (fnRunKeeps_walk A0 n0 c0 bs0 W hb0 hc0 hm0).mono fun e W' ⟨he, bel⟩ => ?_
  subst he
  exact ⟨_, rfl, _, _, _, [], _, [], hW', trodAll_mk1 (shut_bool Try.underlying4 _), (trodAll_cons_mk (Below.trod laidOut (by kernel_rfl) (of_decide_eq_true (by kernel_rfl)) h0 bel lt0) trodAll_mk0), rfl, bel.frame _, fun h => by cases h⟩

theorem over : Rows.fnRunKeepsRow.holds Try.pinned (OpenSpec.ofChange Rows.fnRunKeepsSpec) :=
  OpenClaim.holds_of_wide 8 Try.f8 rfl rfl rfl rfl rfl rfl rfl ⟨rfl, rfl, rfl, rfl, rfl⟩ rfl rfl rfl rfl rfl (by kernel_rfl) Try.func8 (by kernel_rfl)
    (of_decide_eq_true (by kernel_rfl)) (by unfold Func.isWrapper; first | (rw [if_pos (by decide +kernel)]; kernel_rfl) | (rw [if_neg (by decide +kernel)]; exact ⟨rfl, rfl⟩))
    (fun os started H enc _ => lifted os started H enc)
theorem proved : Rows.FnRunKeepsSaid := over
#print axioms proved
end Go.Proofs.Ytmidnaafljgbiaa.fnRunKeeps
