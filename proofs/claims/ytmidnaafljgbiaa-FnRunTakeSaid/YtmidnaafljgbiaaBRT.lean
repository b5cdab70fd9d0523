/- Parts of the proof, in one text. -/
import Derived.Test.YtmidnaafljgbiaaB37
import Derived.Test.YtmidnaafljgbiaaB43
import Derived.Test.YtmidnaafljgbiaaB44
import Derived.Test.YtmidnaafljgbiaaB45
import Derived.Test.YtmidnaafljgbiaaB39
/- The law of a value that is taken out of a drawn run's mail. -/
namespace Go.Proofs.Ytmidnaafljgbiaa
open Go.RowKit
set_option maxRecDepth 100000

set_option maxHeartbeats 8000000 in
theorem fnRunTake_small (A : Option Addr) (n c : Nat) (bs : Nat → Int) (w : World) (hb : BytesOk w A n bs) (hnc : n ≤ c) :
    Calls Try.prog 12 #[.slice A n c] w fun e w' => e = .returned (.bool true) ∧ Below w.heap.size w w' := by
  have AL := add_lit0
  have M := Mem.ofBytesB hb
  have HD : Hid (∀ {W : World} {L : List Asn}, Mem w (roB A n) W (ro w A n bs :: L) → Calls Try.prog 45 #[.slice A n c] W (DRF w A n w (roB A n) L)) := fun {W L} M => sDrawRunTake w A n c bs hnc M
  have hn := hb.1
  have b1 : decide (1048576 < n) = false := by simp; omega
  clear hb hnc
  (try clear F); have F := fxd M
  go_enter Try.func12, Try.ntmps12
  go_upto_region 4 with (first | (with_reducible refine alAd M ?_; clear M; (try clear F); intro w1 M F) | ((with_reducible apply ev_store (M := M)); rfl; rfl; ((conv => lhs; whnf) <;> rfl); rfl; (first | exact siI | exact siR | exact siV | exact siB | exact siSI | exact siSV | exact siW | exact siSR | exact siSO | exact siO); (exact one_all rfl); (exact dl); (exact Nat.le_of_ble_eq_true rfl); clear M; intro w1 M; simp only [SX] at M; (try clear F); have F := fxd M) | (go_at_call 45; refine (HD.out (M.pull dl)).mono ?_; clear M; rintro e w2 ⟨⟨id, at_, slots, full, mail, state, due, links, watched, trap, ⟨wk, wn⟩, turns⟩, ⟨sA, sC, mA, mC, lA, lC, wA, wC⟩, kind, R, p, rfl, hr, hR, M⟩; have hR := Lib.hid hR; (try simp only at M); (try clear F); have F := fxd M))
  generalize w2.heap.size = g3 at M ⊢
  (try clear F); have F := fxd M
  have hll : links.length ≤ 7 := hr.2.2.1
  have hwl : watched.length ≤ 6 := hr.2.2.2
  clear hr
  rcases runTake_of ⟨id, at_, slots, full, mail, state, due, links, watched, trap, ⟨wk, wn⟩, turns⟩ kind with ⟨k, hk, hok, e1, e2⟩ | ⟨e1, e2⟩
  · simp only at hk hok e1 e2
    obtain ⟨gm, rfl⟩ := mailForm (r := ⟨id, at_, slots, full, mail, state, due, links, watched, trap, ⟨wk, wn⟩, turns⟩) (a := ⟨sA, sC, mA, mC, lA, lC, wA, wC⟩) (M.is dl) (by show 0 < mail.length; omega)
    have hm12 : mail.length ≤ 12 := (runOk_shape hok).2.2
    have hcap : mail.length ≤ mC := (runA_reads (M.is (dl : Del (runA ⟨id, at_, slots, full, mail, state, due, links, watched, trap, ⟨wk, wn⟩, turns⟩ ⟨sA, sC, some ⟨gm, 0, none⟩, mC, lA, lC, wA, wC⟩) _ _))).1.mC
    obtain ⟨ml, hml⟩ : ∃ ml, ml = mail.eraseIdx k := ⟨_, rfl⟩
    obtain ⟨⟨vk, vn⟩, hv⟩ : ∃ v, v = mail[k] := ⟨_, rfl⟩
    have hmk : mail[k]? = some ⟨vk, vn⟩ := by rw [hv]; exact List.getElem?_eq_getElem hk
    have hml1 : ml.length + 1 = mail.length := by rw [hml, List.length_eraseIdx, if_pos hk]; omega
    have hokx : runOk ⟨id, at_, slots, full, ml, state, due, links, watched, trap, ⟨wk, wn⟩, turns⟩ = true := by rw [hml]; exact runOk_erase (r := ⟨id, at_, slots, full, mail, state, due, links, watched, trap, ⟨wk, wn⟩, turns⟩) hok k
    rw [← hml, ← hv] at e2
    have HI : Hid (∀ {U : World} {L1 L2 : List Asn}, Mem w (roB A n) U L1 → Del (runA ⟨id, at_, slots, full, mail, state, due, links, watched, trap, ⟨wk, wn⟩, turns⟩ ⟨sA, sC, some ⟨gm, 0, none⟩, mC, lA, lC, wA, wC⟩) L1 L2 → Calls Try.prog 17 #[.agg (List.toArray [.int .i64 id, .int .i64 at_, .slice sA slots.length sC, .int .i64 full, .slice (some ⟨gm, 0, none⟩) mail.length mC, .int .i64 state, .int .i64 due, .slice lA links.length lC, .slice wA watched.length wC, .bool trap, .int .i64 wk, .int .i64 wn, .int .i64 turns]), .int .i64 kind] U fun e w' => ∃ b : RA, e = .returned (.tuple #[.agg (List.toArray [.int .i64 id, .int .i64 at_, .slice b.sA slots.length b.sC, .int .i64 full, .slice b.mA ml.length b.mC, .int .i64 state, .int .i64 due, .slice b.lA links.length b.lC, .slice b.wA watched.length b.wC, .bool trap, .int .i64 wk, .int .i64 wn, .int .i64 turns]), .agg #[.int .i64 vk, .int .i64 vn], .bool true]) ∧ Mem w (roB A n) w' (runA ⟨id, at_, slots, full, ml, state, due, links, watched, trap, ⟨wk, wn⟩, turns⟩ b :: runA ⟨id, at_, slots, full, mail, state, due, links, watched, trap, ⟨wk, wn⟩, turns⟩ ⟨sA, sC, some ⟨gm, 0, none⟩, mC, lA, lC, wA, wC⟩ :: L2)) := fun {U L1 L2} M hd => by
      have h := iRunTake ⟨id, at_, slots, full, mail, state, due, links, watched, trap, ⟨wk, wn⟩, turns⟩ ⟨sA, sC, some ⟨gm, 0, none⟩, mC, lA, lC, wA, wC⟩ kind M hd (by show links.length ≤ _; omega) (by show watched.length ≤ _; omega)
      rw [e2] at h
      exact h
    have HS : Hid (∀ {U : World} {L1 L2 : List Asn}, Mem w (roB A n) U L1 → Del (runA ⟨id, at_, slots, full, mail, state, due, links, watched, trap, ⟨wk, wn⟩, turns⟩ ⟨sA, sC, some ⟨gm, 0, none⟩, mC, lA, lC, wA, wC⟩) L1 L2 → Calls Try.prog 15 #[.agg (List.toArray [.int .i64 id, .int .i64 at_, .slice sA slots.length sC, .int .i64 full, .slice (some ⟨gm, 0, none⟩) mail.length mC, .int .i64 state, .int .i64 due, .slice lA links.length lC, .slice wA watched.length wC, .bool trap, .int .i64 wk, .int .i64 wn, .int .i64 turns]), .int .i64 kind] U fun e w' => ∃ b : RA, e = .returned (.tuple #[.agg (List.toArray [.int .i64 id, .int .i64 at_, .slice b.sA slots.length b.sC, .int .i64 full, .slice b.mA ml.length b.mC, .int .i64 state, .int .i64 due, .slice b.lA links.length b.lC, .slice b.wA watched.length b.wC, .bool trap, .int .i64 wk, .int .i64 wn, .int .i64 turns]), .agg #[.int .i64 vk, .int .i64 vn], .bool true]) ∧ Mem w (roB A n) w' (runA ⟨id, at_, slots, full, ml, state, due, links, watched, trap, ⟨wk, wn⟩, turns⟩ b :: runA ⟨id, at_, slots, full, mail, state, due, links, watched, trap, ⟨wk, wn⟩, turns⟩ ⟨sA, sC, some ⟨gm, 0, none⟩, mC, lA, lC, wA, wC⟩ :: L2)) := fun {U L1 L2} M hd => by
      have h := sRunTake ⟨id, at_, slots, full, mail, state, due, links, watched, trap, ⟨wk, wn⟩, turns⟩ ⟨sA, sC, some ⟨gm, 0, none⟩, mC, lA, lC, wA, wC⟩ kind M hd (by show links.length ≤ _; omega) (by show watched.length ≤ _; omega)
      rw [e2] at h
      exact h
    have HL : Hid (∀ {sA1 mA1 lA1 wA1 sA2 mA2 lA2 wA2 : Option Addr} {sC1 mC1 lC1 wC1 sC2 mC2 lC2 wC2 : Nat} {U : World} {L1 L2 L3 : List Asn}, Mem w (roB A n) U L1 → Del (runA ⟨id, at_, slots, full, ml, state, due, links, watched, trap, ⟨wk, wn⟩, turns⟩ ⟨sA1, sC1, mA1, mC1, lA1, lC1, wA1, wC1⟩) L1 L2 → Del (runA ⟨id, at_, slots, full, ml, state, due, links, watched, trap, ⟨wk, wn⟩, turns⟩ ⟨sA2, sC2, mA2, mC2, lA2, lC2, wA2, wC2⟩) L1 L3 → Calls Try.prog 40 #[.agg (List.toArray [.int .i64 id, .int .i64 at_, .slice sA1 slots.length sC1, .int .i64 full, .slice mA1 ml.length mC1, .int .i64 state, .int .i64 due, .slice lA1 links.length lC1, .slice wA1 watched.length wC1, .bool trap, .int .i64 wk, .int .i64 wn, .int .i64 turns]), .agg (List.toArray [.int .i64 id, .int .i64 at_, .slice sA2 slots.length sC2, .int .i64 full, .slice mA2 ml.length mC2, .int .i64 state, .int .i64 due, .slice lA2 links.length lC2, .slice wA2 watched.length wC2, .bool trap, .int .i64 wk, .int .i64 wn, .int .i64 turns])] U fun e w' => e = .returned (.bool true) ∧ Below U.heap.size U w') := fun {sA1 mA1 lA1 wA1 sA2 mA2 lA2 wA2 sC1 mC1 lC1 wC1 sC2 mC2 lC2 wC2 U L1 L2 L3} M hd hd2 => lvRunOk ⟨id, at_, slots, full, ml, state, due, links, watched, trap, ⟨wk, wn⟩, turns⟩ ⟨sA1, sC1, mA1, mC1, lA1, lC1, wA1, wC1⟩ ⟨sA2, sC2, mA2, mC2, lA2, lC2, wA2, wC2⟩ U.heap.size U (runA_reads (M.is hd)).1 (runA_reads (M.is hd2)).1 (Nat.le_refl _)
    have HF : Hid (∀ {U : World} {L1 L2 : List Asn}, Mem w (roB A n) U L1 → Del (runA ⟨id, at_, slots, full, mail, state, due, links, watched, trap, ⟨wk, wn⟩, turns⟩ ⟨sA, sC, some ⟨gm, 0, none⟩, mC, lA, lC, wA, wC⟩) L1 L2 → Calls Try.prog 36 #[.agg (List.toArray [.int .i64 id, .int .i64 at_, .slice sA slots.length sC, .int .i64 full, .slice (some ⟨gm, 0, none⟩) mail.length mC, .int .i64 state, .int .i64 due, .slice lA links.length lC, .slice wA watched.length wC, .bool trap, .int .i64 wk, .int .i64 wn, .int .i64 turns]), .int .i64 kind] U fun e w' => e = .returned (.tuple #[.int .i64 (k : Int), .bool true]) ∧ Below U.heap.size U w') := fun {U L1 L2} M hd => by
      have h := iRunFirst ⟨id, at_, slots, full, mail, state, due, links, watched, trap, ⟨wk, wn⟩, turns⟩ ⟨sA, sC, some ⟨gm, 0, none⟩, mC, lA, lC, wA, wC⟩ kind U.heap.size U (runA_reads (M.is hd)).1 (Nat.le_refl _)
      unfold FirstPost at h
      rw [e1] at h
      exact h
    have HKM : Hid (∀ {U : World} {L1 L2 : List Asn}, Mem w (roB A n) U L1 → Del (runA ⟨id, at_, slots, full, mail, state, due, links, watched, trap, ⟨wk, wn⟩, turns⟩ ⟨sA, sC, some ⟨gm, 0, none⟩, mC, lA, lC, wA, wC⟩) L1 L2 → U.cell? ⟨gm, k * 2, none⟩ = some (.int .i64 vk) ∧ U.cell? ⟨gm, k * 2 + 1, none⟩ = some (.int .i64 vn)) := fun M hd => mailCells (r := ⟨id, at_, slots, full, mail, state, due, links, watched, trap, ⟨wk, wn⟩, turns⟩) (M.is hd) hmk
    have HR1 : Hid (∀ {U : World} {L1 L2 : List Asn}, Mem w (roB A n) U L1 → Del (runA ⟨id, at_, slots, full, mail, state, due, links, watched, trap, ⟨wk, wn⟩, turns⟩ ⟨sA, sC, some ⟨gm, 0, none⟩, mC, lA, lC, wA, wC⟩) L1 L2 → ReadsL encV 2 U U.heap.size (some ⟨gm, 0, none⟩) k (mail.take k)) := fun M hd => ((runA_reads (M.is hd)).1.mail : ReadsL encV 2 _ _ (some ⟨gm, 0, none⟩) mail.length mail).take encV_length (show k ≤ mail.length by omega)
    have HR3 : Hid (∀ {U : World} {L1 L2 : List Asn}, Mem w (roB A n) U L1 → Del (runA ⟨id, at_, slots, full, mail, state, due, links, watched, trap, ⟨wk, wn⟩, turns⟩ ⟨sA, sC, some ⟨gm, 0, none⟩, mC, lA, lC, wA, wC⟩) L1 L2 → ReadsL encV 2 U U.heap.size (some ⟨gm, (k + 1) * 2, none⟩) (mail.length - (k + 1)) (mail.drop (k + 1))) := by
      intro U L1 L2 M hd
      by_cases h : k + 1 < mail.length
      · obtain ⟨ad, e, h⟩ := ((runA_reads (M.is hd)).1.mail : ReadsL encV 2 _ _ (some ⟨gm, 0, none⟩) mail.length mail).drop encV_length h
        injection e with e
        subst e
        rw [add_lit0, Nat.zero_add] at h
        exact h
      · have e : mail.length - (k + 1) = 0 := by omega
        rw [e, List.drop_eq_nil_of_le (by omega)]
        exact readsL_nil
    have HLV : Hid (∀ {sA1 mA1 lA1 wA1 A9 : Option Addr} {sC1 mC1 lC1 wC1 c9 : Nat} {U : World} {L1 L2 L3 : List Asn}, Mem w (roB A n) U L1 → Del (runA ⟨id, at_, slots, full, ml, state, due, links, watched, trap, ⟨wk, wn⟩, turns⟩ ⟨sA1, sC1, mA1, mC1, lA1, lC1, wA1, wC1⟩) L1 L2 → Del (row encV 2 tV A9 c9 ml) L1 L3 → Calls Try.prog 44 #[.slice mA1 ml.length mC1, .slice A9 ml.length c9] U fun e w' => e = .returned (.bool true) ∧ Below U.heap.size U w') := fun {sA1 mA1 lA1 wA1 A9 sC1 mC1 lC1 wC1 c9 U L1 L2 L3} M hd hd2 => lvValsOk ml mA1 A9 mC1 c9 U.heap.size U (runA_reads (M.is hd)).1.mail (row_reads M hd2).1 (Nat.le_refl _)
    have HLY : Hid (∀ {sA1 mA1 lA1 wA1 : Option Addr} {sC1 mC1 lC1 wC1 : Nat} {U : World} {L1 L2 L3 : List Asn}, Mem w (roB A n) U L1 → Del (runA ⟨id, at_, slots, full, ml, state, due, links, watched, trap, ⟨wk, wn⟩, turns⟩ ⟨sA1, sC1, mA1, mC1, lA1, lC1, wA1, wC1⟩) L1 L2 → Del (runA ⟨id, at_, slots, full, mail, state, due, links, watched, trap, ⟨wk, wn⟩, turns⟩ ⟨sA, sC, some ⟨gm, 0, none⟩, mC, lA, lC, wA, wC⟩) L1 L3 → Calls Try.prog 40 #[.agg (List.toArray [.int .i64 id, .int .i64 at_, .slice sA1 slots.length sC1, .int .i64 full, .slice (some ⟨gm, 0, none⟩) mail.length mC, .int .i64 state, .int .i64 due, .slice lA1 links.length lC1, .slice wA1 watched.length wC1, .bool trap, .int .i64 wk, .int .i64 wn, .int .i64 turns]), .agg (List.toArray [.int .i64 id, .int .i64 at_, .slice sA slots.length sC, .int .i64 full, .slice (some ⟨gm, 0, none⟩) mail.length mC, .int .i64 state, .int .i64 due, .slice lA links.length lC, .slice wA watched.length wC, .bool trap, .int .i64 wk, .int .i64 wn, .int .i64 turns])] U fun e w' => e = .returned (.bool true) ∧ Below U.heap.size U w') := fun {sA1 mA1 lA1 wA1 sC1 mC1 lC1 wC1 U L1 L2 L3} M hd hd2 => by
      have h1 := (runA_reads (M.is hd)).1
      have h2 := (runA_reads (M.is hd2)).1
      exact lvRunOk ⟨id, at_, slots, full, mail, state, due, links, watched, trap, ⟨wk, wn⟩, turns⟩ ⟨sA1, sC1, some ⟨gm, 0, none⟩, mC, lA1, lC1, wA1, wC1⟩ ⟨sA, sC, some ⟨gm, 0, none⟩, mC, lA, lC, wA, wC⟩ U.heap.size U ⟨h1.slots, h2.mail, h1.links, h1.watched, h1.sC, h2.mC, h1.lC, h1.wC⟩ h2 (Nat.le_refl _)
    have HOX : Hid (∀ {sA1 mA1 lA1 wA1 : Option Addr} {sC1 mC1 lC1 wC1 : Nat} {U : World} {L1 L2 : List Asn}, Mem w (roB A n) U L1 → Del (runA ⟨id, at_, slots, full, ml, state, due, links, watched, trap, ⟨wk, wn⟩, turns⟩ ⟨sA1, sC1, mA1, mC1, lA1, lC1, wA1, wC1⟩) L1 L2 → Calls Try.prog 32 #[.agg (List.toArray [.int .i64 id, .int .i64 at_, .slice sA1 slots.length sC1, .int .i64 full, .slice mA1 ml.length mC1, .int .i64 state, .int .i64 due, .slice lA1 links.length lC1, .slice wA1 watched.length wC1, .bool trap, .int .i64 wk, .int .i64 wn, .int .i64 turns])] U fun e w' => e = .returned (.bool true) ∧ Below U.heap.size U w') := fun {sA1 mA1 lA1 wA1 sC1 mC1 lC1 wC1 U L1 L2} M hd => by
      have h := iRunOk ⟨id, at_, slots, full, ml, state, due, links, watched, trap, ⟨wk, wn⟩, turns⟩ ⟨sA1, sC1, mA1, mC1, lA1, lC1, wA1, wC1⟩ U.heap.size U (runA_reads (M.is hd)).1 (Nat.le_refl _)
      rw [hokx] at h
      exact h
    clear e1 e2 hv hmk hokx
    have hE : Hid (List.take k mail ++ List.drop (k + 1) mail = ml) := by
      show _ = _
      rw [hml, List.eraseIdx_eq_take_drop_succ]
    replace hml := Lib.hid hml
    have i1 : (0 : Int) ≤ k := by omega
    have i2 : (k : Int) < mail.length := by omega
    have i3 : IntKind.i64.wrap ((k : Int) + 1) = (k : Int) + 1 := by rw [IntKind.wrap_i64]; omega
    have i4 : (k : Int) + 1 ≤ mail.length := by omega
    have i5 : (mail.length : Int) ≤ mC := by omega
    have i6 : (k : Int) ≤ mC := by omega
    have i7 : (k : Int) + 1 ≤ mC := by omega
    have i8 : (0 : Int) ≤ (k : Int) + 1 := by omega
    replace hok := Lib.hid hok
    go_upto_region 5 with (first | (with_reducible refine alAd M ?_; clear M; (try clear F); intro w1 M F) | ((with_reducible apply ev_store (M := M)); rfl; rfl; ((conv => lhs; whnf) <;> rfl); rfl; (first | exact siI | exact siR | exact siV | exact siB | exact siSI | exact siSV | exact siW | exact siSR | exact siSO | exact siO); (exact one_all rfl); (exact dl); (exact Nat.le_of_ble_eq_true rfl); clear M; intro w1 M; simp only [SX] at M; (try clear F); have F := fxd M) | (go_at_call 15; (refine nmKd ?_; clear M; (try clear F); intro w1 M F); with_reducible refine (HS.out M dl).mono ?_; clear M; rintro e w2 ⟨⟨sA2, sC2, mA2, mC2, lA2, lC2, wA2, wC2⟩, rfl, M⟩; (try simp only at M); (try clear F); have F := fxd M))
    go_upto_region 6 with (first | (with_reducible refine alAd M ?_; clear M; (try clear F); intro w1 M F) | ((with_reducible apply ev_store (M := M)); rfl; rfl; ((conv => lhs; whnf) <;> rfl); rfl; (first | exact siI | exact siR | exact siV | exact siB | exact siSI | exact siSV | exact siW | exact siSR | exact siSO | exact siO); (exact one_all rfl); (exact dl); (exact Nat.le_of_ble_eq_true rfl); clear M; intro w1 M; simp only [SX] at M; (try clear F); have F := fxd M) | (go_at_call 17; (refine nmKd ?_; clear M; (try clear F); intro w1 M F); with_reducible refine (HI.out M dl).mono ?_; clear M; rintro e w2 ⟨⟨sA1, sC1, mA1, mC1, lA1, lC1, wA1, wC1⟩, rfl, M⟩; (try simp only at M); (try clear F); have F := fxd M))
    obtain ⟨g9, hgn⟩ := blkName M .here
    rw [hgn] at M ⊢
    clear hgn
    obtain ⟨g8, hgn⟩ := blkName M (.there .here)
    rw [hgn] at M ⊢
    clear hgn
    (try clear F); have F := fxd M
    go_upto_region 9 with (first | ((with_reducible apply ev_store (M := M)); rfl; rfl; ((conv => lhs; whnf) <;> rfl); rfl; (first | exact siI | exact siR | exact siV | exact siB | exact siSI | exact siSV | exact siW | exact siSR | exact siSO | exact siO); (exact one_all rfl); (exact dl); (exact Nat.le_of_ble_eq_true rfl); clear M; intro w1 M; simp only [SX] at M; (try clear F); have F := fxd M) | (go_at_call 40; (refine nmKd ?_; clear M; (try clear F); intro w1 M F); with_reducible refine (HL.out M dl dl).mono ?_; rintro e w2 ⟨rfl, hb⟩; replace M := M.below hb; clear hb; (try clear F); have F := fxd M) | (go_at_call 36; (refine nmKd ?_; clear M; (try clear F); intro w1 M F); with_reducible refine (HF.out M dl).mono ?_; rintro e w2 ⟨rfl, hb⟩; replace M := M.below hb; clear hb; (try clear F); have F := fxd M))
    have MU : Mem w (roB A n) _ (blk g3 tR [.int .i64 id, .int .i64 at_, .slice sA slots.length sC, .int .i64 full, .slice (some ⟨gm, 0, none⟩) mail.length mC, .int .i64 state, .int .i64 due, .slice lA links.length lC, .slice wA watched.length wC, .bool trap, .int .i64 wk, .int .i64 wn, .int .i64 turns] :: blk g8 tR [.int .i64 id, .int .i64 at_, .slice sA1 slots.length sC1, .int .i64 full, .slice mA1 ml.length mC1, .int .i64 state, .int .i64 due, .slice lA1 links.length lC1, .slice wA1 watched.length wC1, .bool trap, .int .i64 wk, .int .i64 wn, .int .i64 turns] :: blk g9 tV [.int .i64 vk, .int .i64 vn] :: runA ⟨id, at_, slots, full, ml, state, due, links, watched, trap, ⟨wk, wn⟩, turns⟩ ⟨sA1, sC1, mA1, mC1, lA1, lC1, wA1, wC1⟩ :: runA ⟨id, at_, slots, full, mail, state, due, links, watched, trap, ⟨wk, wn⟩, turns⟩ ⟨sA, sC, some ⟨gm, 0, none⟩, mC, lA, lC, wA, wC⟩ :: rdr R p :: []) := M.sel sl
    clear M F
    have M := MU
    clear MU
    (try clear F); have F := fxd M
    go_cut [13] from 15 (fun s13 wx => ∃ (A9 : Option Addr) (c9 : Nat), s13 = .slice A9 ml.length c9 ∧ Mem w (roB A n) wx (row encV 2 tV A9 c9 ml :: blk g3 tR [.int .i64 id, .int .i64 at_, .slice sA slots.length sC, .int .i64 full, .slice (some ⟨gm, 0, none⟩) mail.length mC, .int .i64 state, .int .i64 due, .slice lA links.length lC, .slice wA watched.length wC, .bool trap, .int .i64 wk, .int .i64 wn, .int .i64 turns] :: blk g8 tR [.int .i64 id, .int .i64 at_, .slice sA1 slots.length sC1, .int .i64 full, .slice mA1 ml.length mC1, .int .i64 state, .int .i64 due, .slice lA1 links.length lC1, .slice wA1 watched.length wC1, .bool trap, .int .i64 wk, .int .i64 wn, .int .i64 turns] :: blk g9 tV [.int .i64 vk, .int .i64 vn] :: runA ⟨id, at_, slots, full, ml, state, due, links, watched, trap, ⟨wk, wn⟩, turns⟩ ⟨sA1, sC1, mA1, mC1, lA1, lC1, wA1, wC1⟩ :: runA ⟨id, at_, slots, full, mail, state, due, links, watched, trap, ⟨wk, wn⟩, turns⟩ ⟨sA, sC, some ⟨gm, 0, none⟩, mC, lA, lC, wA, wC⟩ :: rdr R p :: []))
    case first =>
      by_cases hc : mC = k + 1
      · have HR4 : Hid (∀ (U : World) (A : Option Addr), ReadsL encV 2 U U.heap.size A 0 (mail.drop (k + 1))) := by
          intro U A
          rw [List.drop_eq_nil_of_le (by omega)]
          exact readsL_nil
        have hsl : Hid (k = ml.length) := by
          show _ = _
          omega
        have d3 : mC - (k + 1) = 0 := by omega
        have d5 : mC ≤ k + 1 := by omega
        have d6 : mail.length ≤ k + 1 := by omega
        replace hc := Lib.hid hc
        (refine held_begin (S := fun W' => ∀ j, W'.cell? ⟨g3, j, none⟩ = ([.int .i64 id, .int .i64 at_, .slice sA slots.length sC, .int .i64 full, .slice (some ⟨gm, 0, none⟩) mail.length mC, .int .i64 state, .int .i64 due, .slice lA links.length lC, .slice wA watched.length wC, .bool trap, .int .i64 wk, .int .i64 wn, .int .i64 turns] : List Value)[j]?) (by kernel_rfl) (fun _ _ _ _ _ h => h) kc (fun HQ hHeld => ?_))
        refine tkY HQ hHeld 1 ?_; refine tkY HQ hHeld 2 ?_; refine tkY HQ hHeld 3 ?_; refine tkY HQ hHeld 4 ?_; refine tkY HQ hHeld 6 ?_; refine tkY HQ hHeld 7 ?_; refine tkY HQ hHeld 8 ?_; refine tkY HQ hHeld 9 ?_; refine tkY HQ hHeld 10 ?_
        refine stp 0 (fun K hK => ?_); go_simp
        (try go_wp2_with fail); refine hK.out _ _ (kc) (fun hHeld => ?_); clear hK K; (try simp only [AX]); clear hHeld; (refine nmd (G := fun W => wpAnyH _ _ _ _ _ _ _ _ W) ?_; clear M; (try clear F); intro w1 M F)
        refine stp 5 (fun K hK => ?_); (refine op_of_list rfl ?_; (with_reducible apply ev_copy0 (enc := encV) (ys := mail.take k) (hk := encV_length) (hone := oneV) (h0 := by decide) (hinfo := infVx) (ht := Try.underlying29) (M := M)); rfl; rfl; (exact dl); exact (HR1.out M dl); (intro e; cases e); (rw [List.length_take]; omega); (exact Nat.le_of_ble_eq_true rfl); clear M; intro A1 c1 w1 M; (try clear F); have F := fxd M); (try go_wp2_with fail); refine hK.out _ _ (kc) (fun hHeld => ?_); clear hK K; (try simp only [AX])
        refine stp 11 (fun K hK => ?_); (refine op_of_list rfl ?_; (with_reducible apply ev_append (enc := encV) (ys := mail.drop (k + 1)) (hk := encV_length) (hone := oneV) (ht := Try.underlying29) (hinfo := nfV) (hzs := rfl) (h0 := by decide) (M := M)); rfl; (exact dl); (rw [List.length_take]; omega); rfl; (first | exact HR3.out M dl | exact HR4.out _ _); (intro e; cases e); (rw [List.length_take, List.length_drop]; omega); (rw [List.length_take, List.length_drop]; omega); clear M; intro A2 c2 w1 M; (try clear F); have F := fxd M); (try go_wp2_with fail); refine hK.out _ _ (kc) (fun hHeld => ?_); clear hK K; (try simp only [AX])
        refine tkY HQ hHeld 12 ?_
        refine wpAnyH_done (by kernel_rfl) ?_ _; clear HQ; (repeat clear hHeld)
        go_wp2
        go_meet
        case rel => exact ⟨A2, c2, by rw [← hsl.out], by rw [hE.out] at M; exact M⟩
      · have HR4 : True := trivial
        have d3 : ¬ mC - (k + 1) = 0 := by omega
        have d5 : ¬ mC ≤ k + 1 := by omega
        have hsl : Hid (k + (mail.length - (k + 1)) = ml.length) := by
          show _ = _
          omega
        (refine held_begin (S := fun W' => ∀ j, W'.cell? ⟨g3, j, none⟩ = ([.int .i64 id, .int .i64 at_, .slice sA slots.length sC, .int .i64 full, .slice (some ⟨gm, 0, none⟩) mail.length mC, .int .i64 state, .int .i64 due, .slice lA links.length lC, .slice wA watched.length wC, .bool trap, .int .i64 wk, .int .i64 wn, .int .i64 turns] : List Value)[j]?) (by kernel_rfl) (fun _ _ _ _ _ h => h) kc (fun HQ hHeld => ?_))
        refine tkY HQ hHeld 1 ?_; refine tkY HQ hHeld 2 ?_; refine tkY HQ hHeld 3 ?_; refine tkY HQ hHeld 4 ?_; refine tkY HQ hHeld 6 ?_; refine tkY HQ hHeld 7 ?_; refine tkY HQ hHeld 8 ?_; refine tkY HQ hHeld 9 ?_; refine tkY HQ hHeld 10 ?_
        refine stp 0 (fun K hK => ?_); go_simp
        (try go_wp2_with fail); refine hK.out _ _ (kc) (fun hHeld => ?_); clear hK K; (try simp only [AX]); clear hHeld; (refine nmd (G := fun W => wpAnyH _ _ _ _ _ _ _ _ W) ?_; clear M; (try clear F); intro w1 M F)
        refine stp 5 (fun K hK => ?_); (refine op_of_list rfl ?_; (with_reducible apply ev_copy0 (enc := encV) (ys := mail.take k) (hk := encV_length) (hone := oneV) (h0 := by decide) (hinfo := infVx) (ht := Try.underlying29) (M := M)); rfl; rfl; (exact dl); exact (HR1.out M dl); (intro e; cases e); (rw [List.length_take]; omega); (exact Nat.le_of_ble_eq_true rfl); clear M; intro A1 c1 w1 M; (try clear F); have F := fxd M); (try go_wp2_with fail); refine hK.out _ _ (kc) (fun hHeld => ?_); clear hK K; (try simp only [AX])
        refine stp 11 (fun K hK => ?_); (refine op_of_list rfl ?_; (with_reducible apply ev_append (enc := encV) (ys := mail.drop (k + 1)) (hk := encV_length) (hone := oneV) (ht := Try.underlying29) (hinfo := nfV) (hzs := rfl) (h0 := by decide) (M := M)); rfl; (exact dl); (rw [List.length_take]; omega); rfl; (first | exact HR3.out M dl | exact HR4.out _ _); (intro e; cases e); (rw [List.length_take, List.length_drop]; omega); (rw [List.length_take, List.length_drop]; omega); clear M; intro A2 c2 w1 M; (try clear F); have F := fxd M); (try go_wp2_with fail); refine hK.out _ _ (kc) (fun hHeld => ?_); clear hK K; (try simp only [AX])
        refine tkY HQ hHeld 12 ?_
        refine wpAnyH_done (by kernel_rfl) ?_ _; clear HQ; (repeat clear hHeld)
        go_wp2
        go_meet
        case rel => exact ⟨A2, c2, by rw [← hsl.out], by rw [hE.out] at M; exact M⟩
    clear M F HI HS HL
    obtain ⟨A9, c9, rfl, M⟩ := hcut
    (try clear F); have F := fxd M
    go_upto_region 11 with (first | (with_reducible refine alAd M ?_; clear M; (try clear F); intro w1 M F) | ((with_reducible apply ev_store (M := M)); rfl; rfl; ((conv => lhs; whnf) <;> rfl); rfl; (first | exact siI | exact siR | exact siV | exact siB | exact siSI | exact siSV | exact siW | exact siSR | exact siSO | exact siO); (exact one_all rfl); (exact dl); (exact Nat.le_of_ble_eq_true rfl); clear M; intro w1 M; simp only [SX] at M; (try clear F); have F := fxd M))
    obtain ⟨g14, hgn⟩ := blkName M .here
    rw [hgn] at M ⊢
    clear hgn
    (try clear F); have F := fxd M
    go_upto_region 12 with (first | (with_reducible refine alAd M ?_; clear M; (try clear F); intro w1 M F) | ((with_reducible apply ev_store (M := M)); rfl; rfl; ((conv => lhs; whnf) <;> rfl); rfl; (first | exact siI | exact siR | exact siV | exact siB | exact siSI | exact siSV | exact siW | exact siSR | exact siSO | exact siO); (exact one_all rfl); (exact dl); (exact Nat.le_of_ble_eq_true rfl); clear M; intro w1 M; simp only [SX] at M; (try clear F); have F := fxd M))
    (refine held_begin (S := fun W' => ((∀ j, W'.cell? ⟨g3, j, none⟩ = ([.int .i64 id, .int .i64 at_, .slice sA slots.length sC, .int .i64 full, .slice (some ⟨gm, 0, none⟩) mail.length mC, .int .i64 state, .int .i64 due, .slice lA links.length lC, .slice wA watched.length wC, .bool trap, .int .i64 wk, .int .i64 wn, .int .i64 turns] : List Value)[j]?) ∧ (∀ j, W'.cell? ⟨g8, j, none⟩ = ([.int .i64 id, .int .i64 at_, .slice sA1 slots.length sC1, .int .i64 full, .slice mA1 ml.length mC1, .int .i64 state, .int .i64 due, .slice lA1 links.length lC1, .slice wA1 watched.length wC1, .bool trap, .int .i64 wk, .int .i64 wn, .int .i64 turns] : List Value)[j]?) ∧ (∀ j, W'.cell? ⟨g9, j, none⟩ = ([.int .i64 vk, .int .i64 vn] : List Value)[j]?) ∧ ∀ j, W'.cell? ⟨g14, j, none⟩ = ([.int .i64 id, .int .i64 at_, .slice sA1 slots.length sC1, .int .i64 full, .slice (some ⟨gm, 0, none⟩) mail.length mC, .int .i64 state, .int .i64 due, .slice lA1 links.length lC1, .slice wA1 watched.length wC1, .bool trap, .int .i64 wk, .int .i64 wn, .int .i64 turns] : List Value)[j]?) ∧ W'.cell? ⟨gm, k * 2, none⟩ = some (.int .i64 vk) ∧ W'.cell? ⟨gm, k * 2 + 1, none⟩ = some (.int .i64 vn)) (by kernel_rfl) (fun _ _ _ _ _ h => h) (by (exact ⟨⟨kc, kc, kc, kc⟩, HKM.out mb dl⟩)) (fun HQ hHeld => ?_))
    refine tkY HQ hHeld 0 ?_; refine tkY HQ hHeld 1 ?_; refine tkY HQ hHeld 2 ?_; refine tkY HQ hHeld 3 ?_; refine tkY HQ hHeld 4 ?_; refine tkY HQ hHeld 5 ?_; refine tkY HQ hHeld 6 ?_; refine tkY HQ hHeld 7 ?_; refine tkY HQ hHeld 8 ?_; refine tkY HQ hHeld 9 ?_; refine tkY HQ hHeld 10 ?_; clear hHeld; (refine nmd (G := fun W => wpAnyH _ _ _ _ _ _ _ _ W) ?_; clear M; (try clear F); intro w1 M F)
    refine stp 11 (fun K hK => ?_); go_simp
    (go_at_call 44; (refine nmKd ?_; clear M; (try clear F); intro w1 M F); with_reducible refine (HLV.out M dl dl).mono ?_; rintro e w2 ⟨rfl, hb⟩; replace M := M.below hb; clear hb; (try clear F); have F := fxd M)
    (try go_wp2_with fail); refine hK.out _ _ (by (exact ⟨⟨kc, kc, kc, kc⟩, HKM.out mb dl⟩)) (fun hHeld => ?_); clear hK K; (try simp only [AX])
    refine tkY HQ hHeld 12 ?_; refine tkY HQ hHeld 13 ?_; refine tkY HQ hHeld 14 ?_; refine tkY HQ hHeld 15 ?_
    refine stp 16 (fun K hK => ?_); go_simp
    (go_at_call 40; (refine nmKd ?_; clear M; (try clear F); intro w1 M F); with_reducible refine (HLY.out M dl dl).mono ?_; rintro e w2 ⟨rfl, hb⟩; replace M := M.below hb; clear hb; (try clear F); have F := fxd M)
    (try go_wp2_with fail); refine hK.out _ _ (by (exact ⟨⟨kc, kc, kc, kc⟩, HKM.out mb dl⟩)) (fun hHeld => ?_); clear hK K; (try simp only [AX])
    refine tkY HQ hHeld 17 ?_; refine tkY HQ hHeld 18 ?_; refine tkY HQ hHeld 19 ?_
    refine stp 20 (fun K hK => ?_); go_simp
    (go_at_call 32; (refine nmKd ?_; clear M; (try clear F); intro w1 M F); with_reducible refine (HOX.out M dl).mono ?_; rintro e w2 ⟨rfl, hb⟩; replace M := M.below hb; clear hb; (try clear F); have F := fxd M)
    (try go_wp2_with fail); refine hK.out _ _ (by (exact ⟨⟨kc, kc, kc, kc⟩, HKM.out mb dl⟩)) (fun hHeld => ?_); clear hK K; (try simp only [AX])
    refine tkY HQ hHeld 21 ?_; refine tkY HQ hHeld 22 ?_
    refine wpAnyH_done (by kernel_rfl) ?_ _; clear HQ; (repeat clear hHeld)
    go_wp2
    go_ret
    exact ⟨rfl, rdr_below M dl hR.out.1 hR.out.2⟩
  · have HI : Hid (∀ {U : World} {L1 L2 : List Asn}, Mem w (roB A n) U L1 → Del (runA ⟨id, at_, slots, full, mail, state, due, links, watched, trap, ⟨wk, wn⟩, turns⟩ ⟨sA, sC, mA, mC, lA, lC, wA, wC⟩) L1 L2 → Calls Try.prog 17 #[.agg (List.toArray [.int .i64 id, .int .i64 at_, .slice sA slots.length sC, .int .i64 full, .slice mA mail.length mC, .int .i64 state, .int .i64 due, .slice lA links.length lC, .slice wA watched.length wC, .bool trap, .int .i64 wk, .int .i64 wn, .int .i64 turns]), .int .i64 kind] U fun e w' => ∃ b : RA, e = .returned (.tuple #[.agg (List.toArray [.int .i64 0, .int .i64 0, .slice b.sA 0 b.sC, .int .i64 0, .slice b.mA 0 b.mC, .int .i64 0, .int .i64 0, .slice b.lA 0 b.lC, .slice b.wA 0 b.wC, .bool false, .int .i64 0, .int .i64 0, .int .i64 0]), .agg #[.int .i64 0, .int .i64 0], .bool false]) ∧ Mem w (roB A n) w' (runA Rn.zero b :: runA ⟨id, at_, slots, full, mail, state, due, links, watched, trap, ⟨wk, wn⟩, turns⟩ ⟨sA, sC, mA, mC, lA, lC, wA, wC⟩ :: L2)) := fun {U L1 L2} M hd => by
      have h := iRunTake ⟨id, at_, slots, full, mail, state, due, links, watched, trap, ⟨wk, wn⟩, turns⟩ ⟨sA, sC, mA, mC, lA, lC, wA, wC⟩ kind M hd (by show links.length ≤ _; omega) (by show watched.length ≤ _; omega)
      rw [e2] at h
      exact h
    have HS : Hid (∀ {U : World} {L1 L2 : List Asn}, Mem w (roB A n) U L1 → Del (runA ⟨id, at_, slots, full, mail, state, due, links, watched, trap, ⟨wk, wn⟩, turns⟩ ⟨sA, sC, mA, mC, lA, lC, wA, wC⟩) L1 L2 → Calls Try.prog 15 #[.agg (List.toArray [.int .i64 id, .int .i64 at_, .slice sA slots.length sC, .int .i64 full, .slice mA mail.length mC, .int .i64 state, .int .i64 due, .slice lA links.length lC, .slice wA watched.length wC, .bool trap, .int .i64 wk, .int .i64 wn, .int .i64 turns]), .int .i64 kind] U fun e w' => ∃ b : RA, e = .returned (.tuple #[.agg (List.toArray [.int .i64 0, .int .i64 0, .slice b.sA 0 b.sC, .int .i64 0, .slice b.mA 0 b.mC, .int .i64 0, .int .i64 0, .slice b.lA 0 b.lC, .slice b.wA 0 b.wC, .bool false, .int .i64 0, .int .i64 0, .int .i64 0]), .agg #[.int .i64 0, .int .i64 0], .bool false]) ∧ Mem w (roB A n) w' (runA Rn.zero b :: runA ⟨id, at_, slots, full, mail, state, due, links, watched, trap, ⟨wk, wn⟩, turns⟩ ⟨sA, sC, mA, mC, lA, lC, wA, wC⟩ :: L2)) := fun {U L1 L2} M hd => by
      have h := sRunTake ⟨id, at_, slots, full, mail, state, due, links, watched, trap, ⟨wk, wn⟩, turns⟩ ⟨sA, sC, mA, mC, lA, lC, wA, wC⟩ kind M hd (by show links.length ≤ _; omega) (by show watched.length ≤ _; omega)
      rw [e2] at h
      exact h
    have HL : Hid (∀ {sA1 mA1 lA1 wA1 sA2 mA2 lA2 wA2 : Option Addr} {sC1 mC1 lC1 wC1 sC2 mC2 lC2 wC2 : Nat} {U : World} {L1 L2 L3 : List Asn}, Mem w (roB A n) U L1 → Del (runA Rn.zero ⟨sA1, sC1, mA1, mC1, lA1, lC1, wA1, wC1⟩) L1 L2 → Del (runA Rn.zero ⟨sA2, sC2, mA2, mC2, lA2, lC2, wA2, wC2⟩) L1 L3 → Calls Try.prog 40 #[.agg (List.toArray [.int .i64 0, .int .i64 0, .slice sA1 0 sC1, .int .i64 0, .slice mA1 0 mC1, .int .i64 0, .int .i64 0, .slice lA1 0 lC1, .slice wA1 0 wC1, .bool false, .int .i64 0, .int .i64 0, .int .i64 0]), .agg (List.toArray [.int .i64 0, .int .i64 0, .slice sA2 0 sC2, .int .i64 0, .slice mA2 0 mC2, .int .i64 0, .int .i64 0, .slice lA2 0 lC2, .slice wA2 0 wC2, .bool false, .int .i64 0, .int .i64 0, .int .i64 0])] U fun e w' => e = .returned (.bool true) ∧ Below U.heap.size U w') := fun {sA1 mA1 lA1 wA1 sA2 mA2 lA2 wA2 sC1 mC1 lC1 wC1 sC2 mC2 lC2 wC2 U L1 L2 L3} M hd hd2 => lvRunOk Rn.zero ⟨sA1, sC1, mA1, mC1, lA1, lC1, wA1, wC1⟩ ⟨sA2, sC2, mA2, mC2, lA2, lC2, wA2, wC2⟩ U.heap.size U (runA_reads (M.is hd)).1 (runA_reads (M.is hd2)).1 (Nat.le_refl _)
    clear e1 e2
    go_wp2_with (first | (with_reducible refine alAd M ?_; clear M; (try clear F); intro w1 M F) | ((with_reducible apply ev_store (M := M)); rfl; rfl; ((conv => lhs; whnf) <;> rfl); rfl; (first | exact siI | exact siR | exact siV | exact siB | exact siSI | exact siSV | exact siW | exact siSR | exact siSO | exact siO); (exact one_all rfl); (exact dl); (exact Nat.le_of_ble_eq_true rfl); clear M; intro w1 M; simp only [SX] at M; (try clear F); have F := fxd M) | (go_at_call 17; (refine nmKd ?_; clear M; (try clear F); intro w1 M F); with_reducible refine (HI.out M dl).mono ?_; clear M; rintro e w2 ⟨⟨sA1, sC1, mA1, mC1, lA1, lC1, wA1, wC1⟩, rfl, M⟩; (try simp only at M); (try clear F); have F := fxd M) | (go_at_call 15; (refine nmKd ?_; clear M; (try clear F); intro w1 M F); with_reducible refine (HS.out M dl).mono ?_; clear M; rintro e w2 ⟨⟨sA2, sC2, mA2, mC2, lA2, lC2, wA2, wC2⟩, rfl, M⟩; (try simp only at M); (try clear F); have F := fxd M) | (go_at_call 40; (refine nmKd ?_; clear M; (try clear F); intro w1 M F); with_reducible refine (HL.out M dl dl).mono ?_; rintro e w2 ⟨rfl, hb⟩; replace M := M.below hb; clear hb; (try clear F); have F := fxd M))
    go_ret
    exact ⟨rfl, rdr_below M dl hR.out.1 hR.out.2⟩
theorem fnRunTake_huge (A : Option Addr) (n c : Nat) (w : World) (h : 1048576 < n) (hn : n ≤ 9223372036854775807) :
    Calls Try.prog 12 #[.slice A n c] w fun e w' => e = .returned (.bool true) ∧ Below w.heap.size w w' := by
  have b1 : decide (1048576 < n) = true := by simpa using h
  go_enter Try.func12, Try.ntmps12
  go_wp2
  go_ret
  exact ⟨rfl, Below.refl _ _⟩
theorem fnRunTake_walk (A : Option Addr) (n c : Nat) (bs : Nat → Int) (w : World) (hb : BytesIn w A n bs) (hnc : n ≤ c) (hc : c ≤ maxLen) :
    Calls Try.prog 12 #[.slice A n c] w fun e w' => e = .returned (.bool true) ∧ Below w.heap.size w w' := by
  by_cases h : n ≤ 1048576
  · exact fnRunTake_small A n c bs w ⟨h, hb⟩ hnc
  · exact fnRunTake_huge A n c w (by omega) (by unfold maxLen at hc; omega)
end Go.Proofs.Ytmidnaafljgbiaa
/- The law FnRunTake returns true at all arguments, and its arguments read behind the call as before. -/
namespace Go.Proofs.Ytmidnaafljgbiaa.fnRunTake
open Go.ChangeShapes Go.WideShapes Go.ChangeAt Go.RowKit
open Go.ChangeMaps (open_string shut_string)
theorem own : ownKnob Try.prog.godebug = none := by kernel_rfl
theorem laidOut : laidOutB Try.prog = true := by kernel_rfl

set_option maxRecDepth 100000 in
theorem lifted (os : Os) (started : os.Started) (H : Type) (enc : TypeId × Value → H) :
    ReturnsInHanded {} Try.checked os 12 .any (Rows.fnRunTakeSpec.pre6 enc Try.prog Try.f12 Rows.fnRunTakeRow.domain false) (Rows.fnRunTakeSpec.post enc Try.prog Try.f12 false true false false) := by
  refine returnsInHanded_of_change_sized (C := Try.checked) own started (by kernel_rfl) Try.func12
    (ChangeSpec.witness6 (enc := enc) (C := Try.checked) false ⟨#[], #[.slice none 0 0], []⟩ 8 (by kernel_rfl) (by kernel_rfl) (by kernel_rfl) (by kernel_rfl)) ?_
  intro W base args ds gs before hval0 hW hcnd hsz0 _
  have hsz : (DataW.weightsEach Try.prog (Try.f12.params.toList ++ Rows.fnRunTakeSpec.plain.varTypes Try.prog) (ds ++ gs)).all (· ≤ reachBytes) = true := hsz0
  have hval : ∀ (j : Nat) t v, Try.f12.params[j]? = some t → args[j]? = some v → Value.okWide Try.prog W .any base t v := hval0
  have hW' := hW
  obtain ⟨p, q, hA0, hV, rfl, hfz, hnd⟩ := hW
  have hA : DataW.TrodAll enc Try.prog W 0 (fun _ => true) true Try.f12.params.toList args.toList ds p := hA0
  rw [Try.params12] at hA hval hsz
  obtain ⟨v0, vs0, d0, ds0, p0, q0, hargs, rfl, rfl, h0, r0⟩ := trodAll_cons hA
  obtain ⟨rfl, rfl, rfl⟩ := trodAll_nil r0
  obtain rfl : args = #[v0] := by cases args; simp_all
  obtain ⟨rfl, rfl⟩ := trodVars_none hV
  have lt0 : ∀ x ∈ p0, x.block < W.heap.size := by obtain ⟨m, hm⟩ := h0; exact DataW.trod_lt m _ _ _ hm
  obtain ⟨A0, n0, c0, bs0, rfl, hc0, hm0, hb0⟩ := open_bytesA (hval 0 54 v0 rfl rfl) h0
  clear hA0 hval0 hsz0 hsz
  refine (fnRunTake_walk A0 n0 c0 bs0 W hb0 hc0 hm0).mono fun e W' ⟨he, bel⟩ => ?_
  subst he
  exact ⟨_, rfl, _, _, _, [], _, [], hW', trodAll_mk1 (shut_bool Try.underlying4 _), (trodAll_cons_mk (Below.trod laidOut (by kernel_rfl) (of_decide_eq_true (by kernel_rfl)) h0 bel lt0) trodAll_mk0), rfl, bel.frame _, fun h => by cases h⟩

theorem over : Rows.fnRunTakeRow.holds Try.pinned (OpenSpec.ofChange Rows.fnRunTakeSpec) :=
  OpenClaim.holds_of_wide 12 Try.f12 rfl rfl rfl rfl rfl rfl rfl ⟨rfl, rfl, rfl, rfl, rfl⟩ rfl rfl rfl rfl rfl (by kernel_rfl) Try.func12 (by kernel_rfl)
    (of_decide_eq_true (by kernel_rfl)) (by unfold Func.isWrapper; first | (rw [if_pos (by decide +kernel)]; kernel_rfl) | (rw [if_neg (by decide +kernel)]; exact ⟨rfl, rfl⟩))
    (fun os started H enc _ => lifted os started H enc)
theorem proved : Rows.FnRunTakeSaid := over
#print axioms proved
end Go.Proofs.Ytmidnaafljgbiaa.fnRunTake
