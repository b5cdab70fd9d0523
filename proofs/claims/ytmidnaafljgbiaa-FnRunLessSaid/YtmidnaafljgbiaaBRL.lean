/- Parts of the proof, in one text. -/
import Derived.Test.YtmidnaafljgbiaaB03
import Derived.Test.YtmidnaafljgbiaaB38
import Derived.Test.YtmidnaafljgbiaaB07
import Derived.Test.YtmidnaafljgbiaaB46
import Derived.Test.YtmidnaafljgbiaaB20
/- Bytes that came in are held. -/
namespace Go.Proofs.Ytmidnaafljgbiaa
open Go.RowKit
theorem Mem.ofBytesB {W : World} {A : Option Addr} {n : Nat} {bs : Nat → Int} (h : BytesOk W A n bs) : Mem W (roB A n) W [ro W A n bs] := by
  refine ⟨⟨rfl, rfl, rfl, Nat.le_refl _, fun _ _ _ => rfl, fun k hk => .inl (by simpa [fps, ro] using hk), ?_⟩, fun X hX => ?_⟩
  · show (roB A n ++ []).Nodup
    unfold roB
    split
    · cases A <;> simp [ob]
    · simp
  · obtain rfl : X = ro W A n bs := by simpa using hX
    exact ⟨h, Nat.le_refl _, fun _ _ => rfl⟩
end Go.Proofs.Ytmidnaafljgbiaa
/- The law of a drawn run with less mail. -/
namespace Go.Proofs.Ytmidnaafljgbiaa
open Go.RowKit
set_option maxRecDepth 100000

theorem less_ok {r : Rn} (h : runOk r = true) (k : Nat) : runOk { r with mail := r.mail.take k } = true := by
  simp only [runOk, Bool.and_eq_true, decide_eq_true_eq] at h ⊢
  obtain ⟨⟨⟨⟨⟨⟨⟨⟨⟨⟨⟨⟨⟨h1, h2⟩, h3⟩, h4⟩, h5⟩, h6⟩, h7⟩, h8⟩, h9⟩, h10⟩, h11⟩, h12⟩, h13⟩, h14⟩ := h
  refine ⟨⟨⟨⟨⟨⟨⟨⟨⟨⟨⟨⟨⟨h1, h2⟩, h3⟩, h4⟩, ?_⟩, h6⟩, h7⟩, h8⟩, h9⟩, ?_⟩, h11⟩, h12⟩, h13⟩, ?_⟩
  · rw [List.length_take]; omega
  · rw [List.all_eq_true] at h10 ⊢
    exact fun x hx => h10 x (List.mem_of_mem_take hx)
  · split
    · rename_i hs
      rw [if_pos hs] at h14
      simp only [Bool.and_eq_true, List.isEmpty_iff] at h14 ⊢
      exact ⟨⟨by rw [h14.1.1]; exact List.take_nil, h14.1.2⟩, h14.2⟩
    · rename_i hs
      rw [if_neg hs] at h14
      exact h14
theorem self_no {r : Rn} : runOk { r with links := r.links ++ [r.id] } = false := by
  cases hh : runOk { r with links := r.links ++ [r.id] } with
  | false => rfl
  | true =>
    have h := (runOk_parts hh).2.2.2.2.2.2.2.2.2.2.1
    have h2 := (idsOk_cut.1 h r.links.length (by simp)).2.1
    simp at h2
theorem slots_no {r : Rn} : runOk { { r with full := 0 } with slots := [⟨1, 1⟩, ⟨0, 0⟩, ⟨0, 0⟩, ⟨0, 0⟩] } = false := by
  cases hh : runOk { { r with full := 0 } with slots := [⟨1, 1⟩, ⟨0, 0⟩, ⟨0, 0⟩, ⟨0, 0⟩] } with
  | false => rfl
  | true =>
    have h : slotsFrom 0 0 [⟨1, 1⟩, ⟨0, 0⟩, ⟨0, 0⟩, ⟨0, 0⟩] = true := (runOk_parts hh).2.2.2.2.2.2.2.2.1
    revert h
    decide
set_option maxHeartbeats 4000000 in
theorem fnRunLess_small (A : Option Addr) (n c : Nat) (bs : Nat → Int) (A2 : Option Addr) (n2 c2 : Nat) (w : World) (hb : BytesOk w A n bs) (hnc : n ≤ c) (hn2 : n2 ≤ 1048576) :
    Calls Try.prog 6 #[.slice A n c, .slice A2 n2 c2] w fun e w' => e = .returned (.bool true) ∧ Below w.heap.size w w' := by
  have AL := add_lit0
  have M := Mem.ofBytesB hb
  have HD : Hid (∀ {W : World} {L : List Asn}, Mem w (roB A n) W (ro w A n bs :: L) → Calls Try.prog 31 #[.slice A n c] W (DRO w A n w (roB A n) L)) := fun {W L} M => sDrawRunOk w A n c bs hnc M
  have hn := hb.1
  have b1 : decide (1048576 < n) = false := by simp; omega
  have b2 : decide (1048576 < n2) = false := by simp; omega
  clear hb hnc
  (try clear F); have F := fxd M
  go_enter Try.func6, Try.ntmps6
  go_upto_region 4 with (first
    | (with_reducible refine alAd M ?_; clear M; (try clear F); intro w1 M F)
    | ((with_reducible apply ev_store (M := M)); rfl; rfl; ((conv => lhs; whnf) <;> rfl); rfl; (first | exact siI | exact siR | exact siV | exact siB | exact siSI | exact siSV | exact siW | exact siSR | exact siSO | exact siO); (exact one_all rfl); (exact dl); (exact Nat.le_of_ble_eq_true rfl); clear M; intro w1 M; simp only [SX] at M; (try clear F); have F := fxd M)
    | (go_at_call 31; refine (HD.out (M.pull dl)).mono ?_; clear M; rintro e w2 ⟨⟨id, at_, slots, full, mail, state, due, links, watched, trap, ⟨wk, wn⟩, turns⟩, ⟨sA, sC, mA, mC, lA, lC, wA, wC⟩, R, p, rfl, hr, hR, M⟩; have hR := Lib.hid hR; (try simp only at M); (try clear F); have F := fxd M))
  generalize w2.heap.size = g5 at M ⊢
  (try clear F); have F := fxd M
  have hml : mail.length ≤ 20 := hr.2.1
  have hll : links.length ≤ 7 := hr.2.2.1
  have hid : Hid (RSx ⟨id, at_, slots, full, mail, state, due, links, watched, trap, ⟨wk, wn⟩, turns⟩) := hr
  clear hr
  have HI : Hid (∀ {b : Bool}, runOk ⟨id, at_, slots, full, mail, state, due, links, watched, trap, ⟨wk, wn⟩, turns⟩ = b → ∀ {U : World} {L1 L2 : List Asn}, Mem w (roB A n) U L1 → Del (runA ⟨id, at_, slots, full, mail, state, due, links, watched, trap, ⟨wk, wn⟩, turns⟩ ⟨sA, sC, mA, mC, lA, lC, wA, wC⟩) L1 L2 → Calls Try.prog 32 #[.agg (List.toArray [.int .i64 id, .int .i64 at_, .slice sA slots.length sC, .int .i64 full, .slice mA mail.length mC, .int .i64 state, .int .i64 due, .slice lA links.length lC, .slice wA watched.length wC, .bool trap, .int .i64 wk, .int .i64 wn, .int .i64 turns])] U fun e w' => e = .returned (.bool b) ∧ Below U.heap.size U w') := fun {b} h {U L1 L2} M hd => by
    rw [← h]; exact iRunOk ⟨id, at_, slots, full, mail, state, due, links, watched, trap, ⟨wk, wn⟩, turns⟩ ⟨sA, sC, mA, mC, lA, lC, wA, wC⟩ U.heap.size U (runA_reads (M.is hd)).1 (Nat.le_refl _)
  have HS : Hid (∀ {b : Bool}, runOk ⟨id, at_, slots, full, mail, state, due, links, watched, trap, ⟨wk, wn⟩, turns⟩ = b → ∀ {U : World} {L1 L2 : List Asn}, Mem w (roB A n) U L1 → Del (runA ⟨id, at_, slots, full, mail, state, due, links, watched, trap, ⟨wk, wn⟩, turns⟩ ⟨sA, sC, mA, mC, lA, lC, wA, wC⟩) L1 L2 → Calls Try.prog 33 #[.agg (List.toArray [.int .i64 id, .int .i64 at_, .slice sA slots.length sC, .int .i64 full, .slice mA mail.length mC, .int .i64 state, .int .i64 due, .slice lA links.length lC, .slice wA watched.length wC, .bool trap, .int .i64 wk, .int .i64 wn, .int .i64 turns])] U fun e w' => e = .returned (.bool b) ∧ Below U.heap.size U w') := fun {b} h {U L1 L2} M hd => by
    rw [← h]; exact sRunOk ⟨id, at_, slots, full, mail, state, due, links, watched, trap, ⟨wk, wn⟩, turns⟩ ⟨sA, sC, mA, mC, lA, lC, wA, wC⟩ U.heap.size U (runA_reads (M.is hd)).1 (Nat.le_refl _)
  have HX : Hid (∀ {k : Nat} {U : World} {L1 L2 : List Asn}, runOk ⟨id, at_, slots, full, mail, state, due, links, watched, trap, ⟨wk, wn⟩, turns⟩ = true → k ≤ mail.length → Mem w (roB A n) U L1 → Del (runA ⟨id, at_, slots, full, mail, state, due, links, watched, trap, ⟨wk, wn⟩, turns⟩ ⟨sA, sC, mA, mC, lA, lC, wA, wC⟩) L1 L2 → Calls Try.prog 32 #[.agg #[.int .i64 id, .int .i64 at_, .slice sA slots.length sC, .int .i64 full, .slice mA k mC, .int .i64 state, .int .i64 due, .slice lA links.length lC, .slice wA watched.length wC, .bool trap, .int .i64 wk, .int .i64 wn, .int .i64 turns]] U fun e w' => e = .returned (.bool true) ∧ Below U.heap.size U w') := fun {k U L1 L2} hok hk M hd => by
    have h := (runA_reads (M.is hd)).1
    have hl : (mail.take k).length = k := by rw [List.length_take]; omega
    have hm := ReadsL.take encV_length h.mail hk
    have hmC : mail.length ≤ mC := h.mC
    have hx := iRunOk { (⟨id, at_, slots, full, mail, state, due, links, watched, trap, ⟨wk, wn⟩, turns⟩ : Rn) with mail := mail.take k } ⟨sA, sC, mA, mC, lA, lC, wA, wC⟩ U.heap.size U ⟨h.slots, by simpa only [hl] using hm, h.links, h.watched, h.sC, by show (mail.take k).length ≤ mC; rw [hl]; omega, h.lC, h.wC⟩ (Nat.le_refl _)
    rw [less_ok (r := ⟨id, at_, slots, full, mail, state, due, links, watched, trap, ⟨wk, wn⟩, turns⟩) hok k] at hx
    simp only [runArr, hl] at hx
    exact hx
  have HY : Hid (∀ {A1 : Option Addr} {c1 : Nat} {U : World} {L1 L2 L3 : List Asn}, Mem w (roB A n) U L1 → Del (runA ⟨id, at_, slots, full, mail, state, due, links, watched, trap, ⟨wk, wn⟩, turns⟩ ⟨sA, sC, mA, mC, lA, lC, wA, wC⟩) L1 L2 → Del (row encI 1 tI A1 c1 (links ++ [id])) L1 L3 → Calls Try.prog 32 #[.agg #[.int .i64 id, .int .i64 at_, .slice sA slots.length sC, .int .i64 full, .slice mA mail.length mC, .int .i64 state, .int .i64 due, .slice A1 (links.length + 1) c1, .slice wA watched.length wC, .bool trap, .int .i64 wk, .int .i64 wn, .int .i64 turns]] U fun e w' => e = .returned (.bool false) ∧ Below U.heap.size U w') := fun {A1 c1 U L1 L2 L3} M hd hd3 => by
    have h := (runA_reads (M.is hd)).1
    have hm := row_reads M hd3
    have hx := iRunOk { (⟨id, at_, slots, full, mail, state, due, links, watched, trap, ⟨wk, wn⟩, turns⟩ : Rn) with links := links ++ [id] } { (⟨sA, sC, mA, mC, lA, lC, wA, wC⟩ : RA) with lA := A1, lC := c1 } U.heap.size U ⟨h.slots, h.mail, hm.1, h.watched, h.sC, h.mC, hm.2.1, h.wC⟩ (Nat.le_refl _)
    rw [self_no (r := ⟨id, at_, slots, full, mail, state, due, links, watched, trap, ⟨wk, wn⟩, turns⟩)] at hx
    simp only [runArr, List.length_append, List.length_cons, List.length_nil, Nat.zero_add] at hx
    exact hx
  have HZ : Hid (∀ {gl : Nat} {U : World} {L1 L2 L3 : List Asn}, Mem w (roB A n) U L1 → Del (runA ⟨id, at_, slots, full, mail, state, due, links, watched, trap, ⟨wk, wn⟩, turns⟩ ⟨sA, sC, mA, mC, lA, lC, wA, wC⟩) L1 L2 → Del (blk gl tV [.int .i64 1, .int .i64 1, .int .i64 0, .int .i64 0, .int .i64 0, .int .i64 0, .int .i64 0, .int .i64 0]) L1 L3 → Calls Try.prog 32 #[.agg #[.int .i64 id, .int .i64 at_, .slice (some ⟨gl, 0, none⟩) 4 4, .int .i64 0, .slice mA mail.length mC, .int .i64 state, .int .i64 due, .slice lA links.length lC, .slice wA watched.length wC, .bool trap, .int .i64 wk, .int .i64 wn, .int .i64 turns]] U fun e w' => e = .returned (.bool false) ∧ Below U.heap.size U w') := fun {gl U L1 L2 L3} M hd hd3 => by
    have h := (runA_reads (M.is hd)).1
    have hm := (row_reads (Mem.row_of encV_length (xs := [(⟨1, 1⟩ : Vl), ⟨0, 0⟩, ⟨0, 0⟩, ⟨0, 0⟩]) (M.pull hd3) rfl (by simp)) .here).1
    have hx := iRunOk { { (⟨id, at_, slots, full, mail, state, due, links, watched, trap, ⟨wk, wn⟩, turns⟩ : Rn) with full := 0 } with slots := [⟨1, 1⟩, ⟨0, 0⟩, ⟨0, 0⟩, ⟨0, 0⟩] } { (⟨sA, sC, mA, mC, lA, lC, wA, wC⟩ : RA) with sA := some ⟨gl, 0, none⟩, sC := 4 } U.heap.size U ⟨hm, h.mail, h.links, h.watched, by simp, h.mC, h.lC, h.wC⟩ (Nat.le_refl _)
    rw [slots_no (r := ⟨id, at_, slots, full, mail, state, due, links, watched, trap, ⟨wk, wn⟩, turns⟩)] at hx
    exact hx
  cases hok : runOk ⟨id, at_, slots, full, mail, state, due, links, watched, trap, ⟨wk, wn⟩, turns⟩ with
  | false =>
    replace hok := Lib.hid hok
    go_wp2_with (first | ((with_reducible apply ev_store (M := M)); rfl; rfl; ((conv => lhs; whnf) <;> rfl); rfl; (first | exact siI | exact siR | exact siV | exact siB | exact siSI | exact siSV | exact siW | exact siSR | exact siSO | exact siO); (exact one_all rfl); (exact dl); (exact Nat.le_of_ble_eq_true rfl); clear M; intro w1 M; simp only [SX] at M; (try clear F); have F := fxd M) | (go_at_call 32; (refine nmKd ?_; clear M; (try clear F); intro w1 M F); with_reducible refine (HI.out hok.out M dl).mono ?_; rintro e w2 ⟨rfl, hb⟩; replace M := M.below hb; clear hb; (try clear F); have F := fxd M) | (go_at_call 33; (refine nmKd ?_; clear M; (try clear F); intro w1 M F); with_reducible refine (HS.out hok.out M dl).mono ?_; rintro e w2 ⟨rfl, hb⟩; replace M := M.below hb; clear hb; (try clear F); have F := fxd M))
    go_ret
    exact ⟨rfl, rdr_below M dl hR.out.1 hR.out.2⟩
  | true =>
    replace hok := Lib.hid hok
    go_upto_region 8 with (first | (with_reducible refine alAd M ?_; clear M; (try clear F); intro w1 M F) | ((with_reducible apply ev_store (M := M)); rfl; rfl; ((conv => lhs; whnf) <;> rfl); rfl; (first | exact siI | exact siR | exact siV | exact siB | exact siSI | exact siSV | exact siW | exact siSR | exact siSO | exact siO); (exact one_all rfl); (exact dl); (exact Nat.le_of_ble_eq_true rfl); clear M; intro w1 M; simp only [SX] at M; (try clear F); have F := fxd M) | (go_at_call 32; (refine nmKd ?_; clear M; (try clear F); intro w1 M F); with_reducible refine (HI.out hok.out M dl).mono ?_; rintro e w2 ⟨rfl, hb⟩; replace M := M.below hb; clear hb; (try clear F); have F := fxd M) | (go_at_call 33; (refine nmKd ?_; clear M; (try clear F); intro w1 M F); with_reducible refine (HS.out hok.out M dl).mono ?_; rintro e w2 ⟨rfl, hb⟩; replace M := M.below hb; clear hb; (try clear F); have F := fxd M))
    generalize w2.heap.size = g7 at M ⊢
    have hmC : mail.length ≤ mC := (runA_reads (M.is (.there (.there .here)))).1.mC
    obtain ⟨k, hk⟩ : ∃ k : Nat, k = n2 % (mail.length + 1) := ⟨_, rfl⟩
    have hkl : k ≤ mail.length := by have := Nat.mod_lt n2 (show 0 < mail.length + 1 by omega); omega
    have e1 : (n2 : Int) % ((mail.length : Int) + 1) = (k : Int) := by rw [hk]; rfl
    have e2 : (n2 : Int).tmod ((mail.length : Int) + 1) = (k : Int) := by rw [hk]; rfl
    have wm : IntKind.i64.wrap ((mail.length : Int) + 1) = (mail.length : Int) + 1 := IntWalk.i64_in _ (by omega)
    have wk' : IntKind.i64.wrap (k : Int) = (k : Int) := IntWalk.i64_in _ (by omega)
    have z0 : ((mail.length : Int) + 1 = 0) = False := eq_false (by omega)
    have j0 : (0 : Int) ≤ k := by omega
    have j1 : (k : Int) ≤ mail.length := by omega
    have j2 : (k : Int) ≤ mC := by omega
    replace hk := Lib.hid hk
    (try clear F); have F := fxd M
    go_upto_region 8 with fail
    (refine held_begin (S := fun W' => ∀ j, W'.cell? ⟨g5, j, none⟩ = ([.int .i64 id, .int .i64 at_, .slice sA slots.length sC, .int .i64 full, .slice mA mail.length mC, .int .i64 state, .int .i64 due, .slice lA links.length lC, .slice wA watched.length wC, .bool trap, .int .i64 wk, .int .i64 wn, .int .i64 turns] : List Value)[j]?) (by kernel_rfl) (fun _ _ _ _ _ h => h) kc (fun HQ hHeld => ?_))
    refine tkY HQ hHeld 0 ?_; refine tkY HQ hHeld 1 ?_; refine tkY HQ hHeld 2 ?_; refine tkY HQ hHeld 3 ?_; refine tkY HQ hHeld 4 ?_; refine tkY HQ hHeld 5 ?_; refine tkY HQ hHeld 6 ?_; refine tkY HQ hHeld 7 ?_; refine tkY HQ hHeld 8 ?_; refine tkY HQ hHeld 9 ?_; refine tkY HQ hHeld 10 ?_; clear hHeld; (refine nmd (G := fun W => wpAnyH _ _ _ _ _ _ _ _ W) ?_; clear M; (try clear F); intro w1 M F)
    refine stp 11 (fun K hK => ?_)
    refine op_of_list rfl ?_; ((with_reducible apply ev_store (M := M)); rfl; rfl; ((conv => lhs; whnf) <;> rfl); rfl; (first | exact siI | exact siR | exact siV | exact siB | exact siSI | exact siSV | exact siW | exact siSR | exact siSO | exact siO); (exact one_all rfl); (exact dl); (exact Nat.le_of_ble_eq_true rfl); clear M; intro w1 M; simp only [SX] at M; (try clear F); have F := fxd M); (try go_wp2_with fail); refine hK.out _ _ (kc) (fun hHeld => ?_); clear hK K; (try simp only [AX]); refine wpAnyH_done (by kernel_rfl) ?_ _; clear HQ; (repeat clear hHeld)
    go_upto_region 9 with fail
    obtain ⟨g8, hg8⟩ : ∃ g, g = w1.heap.size := ⟨_, rfl⟩
    go_upto_region 10 with (first | (with_reducible refine alAd M ?_; clear M; (try clear F); intro w1 M F) | ((with_reducible apply ev_store (M := M)); rfl; rfl; ((conv => lhs; whnf) <;> rfl); rfl; (first | exact siI | exact siR | exact siV | exact siB | exact siSI | exact siSV | exact siW | exact siSR | exact siSO | exact siO); (exact one_all rfl); (exact dl); (exact Nat.le_of_ble_eq_true rfl); clear M; intro w1 M; simp only [SX] at M; (try clear F); have F := fxd M))
    rw [← hg8] at M ⊢
    clear hg8
    have HLr : Hid (∀ {U : World} {L1 L2 : List Asn}, Mem w (roB A n) U L1 → Del (runA ⟨id, at_, slots, full, mail, state, due, links, watched, trap, ⟨wk, wn⟩, turns⟩ ⟨sA, sC, mA, mC, lA, lC, wA, wC⟩) L1 L2 → ReadsL encI 1 U U.heap.size lA links.length links ∧ (lA = none → lC = 0)) := fun M hd => ⟨(runA_reads (M.is hd)).1.links, (runA_reads (M.is hd)).2.2.2.1⟩
    (try clear F); have F := fxd M
    go_cut [] from 9 (fun wx => ∃ (A1 : Option Addr) (c1 : Nat), Mem w (roB A n) wx [blk g8 tR [.int .i64 id, .int .i64 at_, .slice sA slots.length sC, .int .i64 full, .slice mA mail.length mC, .int .i64 state, .int .i64 due, .slice A1 (links.length + 1) c1, .slice wA watched.length wC, .bool trap, .int .i64 wk, .int .i64 wn, .int .i64 turns], row encI 1 tI A1 c1 (links ++ [id]), blk g7 tR [.int .i64 id, .int .i64 at_, .slice sA slots.length sC, .int .i64 full, .slice mA k mC, .int .i64 state, .int .i64 due, .slice lA links.length lC, .slice wA watched.length wC, .bool trap, .int .i64 wk, .int .i64 wn, .int .i64 turns], blk g5 tR [.int .i64 id, .int .i64 at_, .slice sA slots.length sC, .int .i64 full, .slice mA mail.length mC, .int .i64 state, .int .i64 due, .slice lA links.length lC, .slice wA watched.length wC, .bool trap, .int .i64 wk, .int .i64 wn, .int .i64 turns], runA ⟨id, at_, slots, full, mail, state, due, links, watched, trap, ⟨wk, wn⟩, turns⟩ ⟨sA, sC, mA, mC, lA, lC, wA, wC⟩, rdr R p])
    case first =>
      (refine held_begin (S := fun W' => ∀ j, W'.cell? ⟨g5, j, none⟩ = ([.int .i64 id, .int .i64 at_, .slice sA slots.length sC, .int .i64 full, .slice mA mail.length mC, .int .i64 state, .int .i64 due, .slice lA links.length lC, .slice wA watched.length wC, .bool trap, .int .i64 wk, .int .i64 wn, .int .i64 turns] : List Value)[j]?) (by kernel_rfl) (fun _ _ _ _ _ h => h) kc (fun HQ hHeld => ?_))
      refine tkY HQ hHeld 1 ?_; refine tkY HQ hHeld 2 ?_; refine tkY HQ hHeld 4 ?_; refine tkY HQ hHeld 5 ?_; clear hHeld; (refine nmd (G := fun W => wpAnyH _ _ _ _ _ _ _ _ W) ?_; clear M; (try clear F); intro w1 M F)
      refine stpTwo 0 6 (fun K hK => ?_) (fun K hK => ?_)
      · go_simp; (try go_wp2_with fail); refine hK.out _ _ (kc) (fun hHeld => ?_); clear hK K; (try simp only [AX]); clear hHeld; (refine nmd (G := fun W => wpAnyH _ _ _ _ _ _ _ _ W) ?_; clear M; (try clear F); intro w1 M F)
        refine stpTwo 3 6 (fun K hK => ?_) (fun K hK => ?_)
        · (refine op_of_list rfl ?_; (with_reducible apply ev_copy0 (enc := encI) (ys := links) (hk := encI_length) (hone := oneIx) (h0 := by decide) (hinfo := infIx) (ht := Try.underlying23) (M := M)); rfl; rfl; (exact dl); exact (HLr.out M dl).1; exact (HLr.out M dl).2; omega; (exact Nat.le_of_ble_eq_true rfl); clear M; intro A0 c0 w1 M; (try clear F); have F := fxd M); (try go_wp2_with fail); refine hK.out _ _ (kc) (fun hHeld => ?_); clear hK K; (try simp only [AX]); refine stp 6 (fun K hK => ?_); go_simp; (try go_wp2_with fail); refine hK.out _ _ (kc) (fun hHeld => ?_); clear hK K; (try simp only [AX]); clear hHeld; (refine nmd (G := fun W => wpAnyH _ _ _ _ _ _ _ _ W) ?_; clear M; (try clear F); intro w1 M F)
          refine stp 7 (fun K hK => ?_); (refine op_of_list rfl ?_; ((with_reducible apply ev_app1 (enc := encI) (v := id) (hk := encI_length) (hone := oneIx) (h0 := by decide) (hinfo := infIx) (ht := Try.underlying23) (M := M)); rfl; rfl; (exact dl); (exact dl); rfl; rfl; omega; (exact Nat.le_of_ble_eq_true rfl); clear M; intro A1 c1 w1 M; (try clear F); have F := fxd M)); (try go_wp2_with fail); refine hK.out _ _ (kc) (fun hHeld => ?_); clear hK K; (try simp only [AX]); refine tkY HQ hHeld 8 ?_; refine stp 9 (fun K hK => ?_); refine op_of_list rfl ?_; ((with_reducible apply ev_store (M := M)); rfl; rfl; ((conv => lhs; whnf) <;> rfl); rfl; (first | exact siI | exact siR | exact siV | exact siB | exact siSI | exact siSV | exact siW | exact siSR | exact siSO | exact siO); (exact one_all rfl); (exact dl); (exact Nat.le_of_ble_eq_true rfl); clear M; intro w1 M; simp only [SX] at M; (try clear F); have F := fxd M); (try go_wp2_with fail); refine hK.out _ _ (kc) (fun hHeld => ?_); clear hK K; (try simp only [AX]); refine wpAnyH_done (by kernel_rfl) ?_ _; clear HQ; (repeat clear hHeld); go_wp2; go_meet; exact ⟨A1, c1, M.sel (.cons .here (.cons .here (.drop .refl)))⟩
        · go_simp; (try go_wp2_with fail); refine hK.out _ _ (kc) (fun hHeld => ?_); clear hK K; (try simp only [AX]); clear hHeld; (refine nmd (G := fun W => wpAnyH _ _ _ _ _ _ _ _ W) ?_; clear M; (try clear F); intro w1 M F); refine stp 3 (fun K hK => ?_); (refine op_of_list rfl ?_; (with_reducible apply ev_copy0 (enc := encI) (ys := links) (hk := encI_length) (hone := oneIx) (h0 := by decide) (hinfo := infIx) (ht := Try.underlying23) (M := M)); rfl; rfl; (exact dl); exact (HLr.out M dl).1; exact (HLr.out M dl).2; omega; (exact Nat.le_of_ble_eq_true rfl); clear M; intro A0 c0 w1 M; (try clear F); have F := fxd M); (try go_wp2_with fail); refine hK.out _ _ (kc) (fun hHeld => ?_); clear hK K; (try simp only [AX])
          refine stp 7 (fun K hK => ?_); (refine op_of_list rfl ?_; ((with_reducible apply ev_app1 (enc := encI) (v := id) (hk := encI_length) (hone := oneIx) (h0 := by decide) (hinfo := infIx) (ht := Try.underlying23) (M := M)); rfl; rfl; (exact dl); (exact dl); rfl; rfl; omega; (exact Nat.le_of_ble_eq_true rfl); clear M; intro A1 c1 w1 M; (try clear F); have F := fxd M)); (try go_wp2_with fail); refine hK.out _ _ (kc) (fun hHeld => ?_); clear hK K; (try simp only [AX]); refine tkY HQ hHeld 8 ?_; refine stp 9 (fun K hK => ?_); refine op_of_list rfl ?_; ((with_reducible apply ev_store (M := M)); rfl; rfl; ((conv => lhs; whnf) <;> rfl); rfl; (first | exact siI | exact siR | exact siV | exact siB | exact siSI | exact siSV | exact siW | exact siSR | exact siSO | exact siO); (exact one_all rfl); (exact dl); (exact Nat.le_of_ble_eq_true rfl); clear M; intro w1 M; simp only [SX] at M; (try clear F); have F := fxd M); (try go_wp2_with fail); refine hK.out _ _ (kc) (fun hHeld => ?_); clear hK K; (try simp only [AX]); refine wpAnyH_done (by kernel_rfl) ?_ _; clear HQ; (repeat clear hHeld); go_wp2; go_meet; exact ⟨A1, c1, M.sel (.cons .here (.cons .here (.drop .refl)))⟩
      · go_simp; (try go_wp2_with fail); refine hK.out _ _ (kc) (fun hHeld => ?_); clear hK K; (try simp only [AX]); clear hHeld; (refine nmd (G := fun W => wpAnyH _ _ _ _ _ _ _ _ W) ?_; clear M; (try clear F); intro w1 M F); refine stp 0 (fun K hK => ?_); go_simp; (try go_wp2_with fail); refine hK.out _ _ (kc) (fun hHeld => ?_); clear hK K; (try simp only [AX]); clear hHeld; (refine nmd (G := fun W => wpAnyH _ _ _ _ _ _ _ _ W) ?_; clear M; (try clear F); intro w1 M F); refine stp 3 (fun K hK => ?_); (refine op_of_list rfl ?_; (with_reducible apply ev_copy0 (enc := encI) (ys := links) (hk := encI_length) (hone := oneIx) (h0 := by decide) (hinfo := infIx) (ht := Try.underlying23) (M := M)); rfl; rfl; (exact dl); exact (HLr.out M dl).1; exact (HLr.out M dl).2; omega; (exact Nat.le_of_ble_eq_true rfl); clear M; intro A0 c0 w1 M; (try clear F); have F := fxd M); (try go_wp2_with fail); refine hK.out _ _ (kc) (fun hHeld => ?_); clear hK K; (try simp only [AX])
        refine stp 7 (fun K hK => ?_); (refine op_of_list rfl ?_; ((with_reducible apply ev_app1 (enc := encI) (v := id) (hk := encI_length) (hone := oneIx) (h0 := by decide) (hinfo := infIx) (ht := Try.underlying23) (M := M)); rfl; rfl; (exact dl); (exact dl); rfl; rfl; omega; (exact Nat.le_of_ble_eq_true rfl); clear M; intro A1 c1 w1 M; (try clear F); have F := fxd M)); (try go_wp2_with fail); refine hK.out _ _ (kc) (fun hHeld => ?_); clear hK K; (try simp only [AX]); refine tkY HQ hHeld 8 ?_; refine stp 9 (fun K hK => ?_); refine op_of_list rfl ?_; ((with_reducible apply ev_store (M := M)); rfl; rfl; ((conv => lhs; whnf) <;> rfl); rfl; (first | exact siI | exact siR | exact siV | exact siB | exact siSI | exact siSV | exact siW | exact siSR | exact siSO | exact siO); (exact one_all rfl); (exact dl); (exact Nat.le_of_ble_eq_true rfl); clear M; intro w1 M; simp only [SX] at M; (try clear F); have F := fxd M); (try go_wp2_with fail); refine hK.out _ _ (kc) (fun hHeld => ?_); clear hK K; (try simp only [AX]); refine wpAnyH_done (by kernel_rfl) ?_ _; clear HQ; (repeat clear hHeld); go_wp2; go_meet; exact ⟨A1, c1, M.sel (.cons .here (.cons .here (.drop .refl)))⟩
    clear M F HLr
    obtain ⟨A1, c1, M⟩ := hcut
    (try clear F); have F := fxd M
    go_wp2_with (first | (with_reducible refine alAd M ?_; clear M; (try clear F); intro w1 M F) | ((with_reducible apply ev_store (M := M)); rfl; rfl; ((conv => lhs; whnf) <;> rfl); rfl; (first | exact siI | exact siR | exact siV | exact siB | exact siSI | exact siSV | exact siW | exact siSR | exact siSO | exact siO); (exact one_all rfl); (exact dl); (exact Nat.le_of_ble_eq_true rfl); clear M; intro w1 M; simp only [SX] at M; (try clear F); have F := fxd M) | (go_at_call 32; (refine nmKd ?_; clear M; (try clear F); intro w1 M F); with_reducible refine (HX.out hok.out hkl M dl).mono ?_; rintro e w2 ⟨rfl, hb⟩; replace M := M.below hb; clear hb; (try clear F); have F := fxd M) | (go_at_call 32; (refine nmKd ?_; clear M; (try clear F); intro w1 M F); with_reducible refine (HY.out M dl dl).mono ?_; rintro e w2 ⟨rfl, hb⟩; replace M := M.below hb; clear hb; (try clear F); have F := fxd M) | (go_at_call 32; (refine nmKd ?_; clear M; (try clear F); intro w1 M F); with_reducible refine (HZ.out M dl dl).mono ?_; rintro e w2 ⟨rfl, hb⟩; replace M := M.below hb; clear hb; (try clear F); have F := fxd M))
    go_ret
    exact ⟨rfl, rdr_below M dl hR.out.1 hR.out.2⟩
theorem fnRunLess_huge (A : Option Addr) (n c : Nat) (A2 : Option Addr) (n2 c2 : Nat) (w : World) (h : 1048576 < n) (hn : n ≤ 9223372036854775807) (_hn2 : n2 ≤ 9223372036854775807) :
    Calls Try.prog 6 #[.slice A n c, .slice A2 n2 c2] w fun e w' => e = .returned (.bool true) ∧ Below w.heap.size w w' := by
  have b1 : decide (1048576 < n) = true := by simpa using h
  go_enter Try.func6, Try.ntmps6
  go_wp2
  go_ret
  exact ⟨rfl, Below.refl _ _⟩
theorem fnRunLess_huge2 (A : Option Addr) (n c : Nat) (A2 : Option Addr) (n2 c2 : Nat) (w : World) (h : n ≤ 1048576) (h2 : 1048576 < n2) (_hn2 : n2 ≤ 9223372036854775807) :
    Calls Try.prog 6 #[.slice A n c, .slice A2 n2 c2] w fun e w' => e = .returned (.bool true) ∧ Below w.heap.size w w' := by
  have b1 : decide (1048576 < n) = false := by simp; omega
  have b2 : decide (1048576 < n2) = true := by simpa using h2
  go_enter Try.func6, Try.ntmps6
  go_wp2
  go_ret
  exact ⟨rfl, Below.refl _ _⟩
theorem fnRunLess_walk (A : Option Addr) (n c : Nat) (bs : Nat → Int) (A2 : Option Addr) (n2 c2 : Nat) (w : World) (hb : BytesIn w A n bs) (hnc : n ≤ c) (hc : c ≤ maxLen) (hnc2 : n2 ≤ c2) (hc2 : c2 ≤ maxLen) :
    Calls Try.prog 6 #[.slice A n c, .slice A2 n2 c2] w fun e w' => e = .returned (.bool true) ∧ Below w.heap.size w w' := by
  by_cases h : n ≤ 1048576
  · by_cases h2 : n2 ≤ 1048576
    · exact fnRunLess_small A n c bs A2 n2 c2 w ⟨h, hb⟩ hnc h2
    · exact fnRunLess_huge2 A n c A2 n2 c2 w h (by omega) (by unfold maxLen at hc2; omega)
  · exact fnRunLess_huge A n c A2 n2 c2 w (by omega) (by unfold maxLen at hc; omega) (by unfold maxLen at hc2; omega)
end Go.Proofs.Ytmidnaafljgbiaa
/- The law FnRunLess returns true at all arguments, and its arguments read behind the call as before. -/
namespace Go.Proofs.Ytmidnaafljgbiaa.fnRunLess
open Go.ChangeShapes Go.WideShapes Go.ChangeAt Go.RowKit
open Go.ChangeMaps (open_string shut_string)
theorem own : ownKnob Try.prog.godebug = none := by kernel_rfl
theorem laidOut : laidOutB Try.prog = true := by kernel_rfl

set_option maxRecDepth 100000 in
theorem lifted (os : Os) (started : os.Started) (H : Type) (enc : TypeId × Value → H) :
    ReturnsInHanded {} Try.checked os 6 .any (Rows.fnRunLessSpec.pre6 enc Try.prog Try.f6 Rows.fnRunLessRow.domain false) (Rows.fnRunLessSpec.post enc Try.prog Try.f6 false true false false) := by
  refine returnsInHanded_of_change_sized (C := Try.checked) own started (by kernel_rfl) Try.func6
    (ChangeSpec.witness6 (enc := enc) (C := Try.checked) false ⟨#[], #[.slice none 0 0, .slice none 0 0], []⟩ 8 (by kernel_rfl) (by kernel_rfl) (by kernel_rfl) (by kernel_rfl)) ?_
  intro W base args ds gs before hval0 hW hcnd hsz0 _
  have hsz : (DataW.weightsEach Try.prog (Try.f6.params.toList ++ Rows.fnRunLessSpec.plain.varTypes Try.prog) (ds ++ gs)).all (· ≤ reachBytes) = true := hsz0
  have hval : ∀ (j : Nat) t v, Try.f6.params[j]? = some t → args[j]? = some v → Value.okWide Try.prog W .any base t v := hval0
  have hW' := hW
  obtain ⟨p, q, hA0, hV, rfl, hfz, hnd⟩ := hW
  have hA : DataW.TrodAll enc Try.prog W 0 (fun _ => true) true Try.f6.params.toList args.toList ds p := hA0
  rw [Try.params6] at hA hval hsz
  obtain ⟨v0, vs0, d0, ds0, p0, q0, hargs, rfl, rfl, h0, r0⟩ := trodAll_cons hA
  obtain ⟨v1, vs1, d1, ds1, p1, q1, rfl, rfl, rfl, h1, r1⟩ := trodAll_cons r0
  obtain ⟨rfl, rfl, rfl⟩ := trodAll_nil r1
  obtain rfl : args = #[v0, v1] := by cases args; simp_all
  obtain ⟨rfl, rfl⟩ := trodVars_none hV
  have lt0 : ∀ x ∈ p0, x.block < W.heap.size := by obtain ⟨m, hm⟩ := h0; exact DataW.trod_lt m _ _ _ hm
  have lt1 : ∀ x ∈ p1, x.block < W.heap.size := by obtain ⟨m, hm⟩ := h1; exact DataW.trod_lt m _ _ _ hm
  obtain ⟨A0, n0, c0, bs0, rfl, hc0, hm0, hb0⟩ := open_bytesA (hval 0 54 v0 rfl rfl) h0
  obtain ⟨A1, n1, c1, bs1, rfl, hc1, hm1, hb1⟩ := open_bytesA (hval 1 54 v1 rfl rfl) h1
  clear hA0 hval0 hsz0 hsz
  refine (fnRunLess_walk A0 n0 c0 bs0 A1 n1 c1 W hb0 hc0 hm0 hc1 hm1).mono fun e W' ⟨he, bel⟩ => ?_
  subst he
  exact ⟨_, rfl, _, _, _, [], _, [], hW', trodAll_mk1 (shut_bool Try.underlying4 _), (trodAll_cons_mk (Below.trod laidOut (by kernel_rfl) (of_decide_eq_true (by kernel_rfl)) h0 bel lt0) (trodAll_cons_mk (Below.trod laidOut (by kernel_rfl) (of_decide_eq_true (by kernel_rfl)) h1 bel lt1) trodAll_mk0)), rfl, bel.frame _, fun h => by cases h⟩

theorem over : Rows.fnRunLessRow.holds Try.pinned (OpenSpec.ofChange Rows.fnRunLessSpec) :=
  OpenClaim.holds_of_wide 6 Try.f6 rfl rfl rfl rfl rfl rfl rfl ⟨rfl, rfl, rfl, rfl, rfl⟩ rfl rfl rfl rfl rfl (by kernel_rfl) Try.func6 (by kernel_rfl)
    (of_decide_eq_true (by kernel_rfl)) (by unfold Func.isWrapper; first | (rw [if_pos (by decide +kernel)]; kernel_rfl) | (rw [if_neg (by decide +kernel)]; exact ⟨rfl, rfl⟩))
    (fun os started H enc _ => lifted os started H enc)
theorem proved : Rows.FnRunLessSaid := over
#print axioms proved
end Go.Proofs.Ytmidnaafljgbiaa.fnRunLess
