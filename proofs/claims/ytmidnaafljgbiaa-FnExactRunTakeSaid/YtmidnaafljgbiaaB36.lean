/- Parts of the proof, in one text. -/
import Derived.Test.YtmidnaafljgbiaaB35
import Derived.Test.YtmidnaafljgbiaaB02
/- A run is drawn from the bytes. -/
namespace Go.Proofs.Ytmidnaafljgbiaa
open Go.RowKit
set_option maxRecDepth 100000

end Go.Proofs.Ytmidnaafljgbiaa
/- Three results, the second a number. -/
namespace Go.Proofs.Ytmidnaafljgbiaa
open Go.RowKit
section
variable {P : Program} {fn : Func} {R : Ending → World → Prop} {a : Act} {w0 w : World} {f : List Nat} {L L' L2 : List Asn} {d1 d2 d : Tmp} {t t1 tb tb1 : TypeId} {g g1 : Nat} {cs cs1 : List Value} {v1 v2 : Value}
end
end Go.Proofs.Ytmidnaafljgbiaa
/- A run, a slot and a value are drawn from the bytes. -/
namespace Go.Proofs.Ytmidnaafljgbiaa
open Go.RowKit
set_option maxRecDepth 100000

end Go.Proofs.Ytmidnaafljgbiaa
/- A run and a kind are drawn from the bytes. -/
namespace Go.Proofs.Ytmidnaafljgbiaa
open Go.RowKit
set_option maxRecDepth 100000

def DRF (W0 : World) (A : Option Addr) (n : Nat) (w0 : World) (f : List Nat) (L : List Asn) (e : Ending) (w' : World) : Prop := ∃ (r : Rn) (a : RA) (k : Int) (R : Rd) (p : Nat), e = .returned (.tuple #[.agg (runArr r a), .int .i64 k]) ∧ RSx r ∧ (R.W0 = W0 ∧ roB R.A R.n = roB A n) ∧ Mem w0 f w' (runA r a :: rdr R p :: L)
theorem kind_cells {w0 w : World} {f : List Nat} {L L' : List Asn} {g c : Nat} {mail : List Vl} (M : Mem w0 f w L) (hd : Del (row encV 2 tV (some ⟨g, 0, none⟩) c mail) L L') : ∀ j, j < mail.length → w.cell? ⟨g, j * 2, none⟩ = some (.int .i64 (mail.getD j Vl.zero).k) := by
  intro j hj
  have h := (row_elem encV_length M hd hj).2.1 0 (by decide)
  rw [Nat.add_zero] at h
  rw [h, List.getD_eq_getElem?_getD, List.getElem?_eq_getElem hj]
  rfl
set_option maxHeartbeats 4000000 in
theorem sDrawRunFirst (W0 : World) (A : Option Addr) (n c : Nat) (bs : Nat → Int) (hnc : n ≤ c) {w0 w : World} {f : List Nat} {L : List Asn} (M : Mem w0 f w (ro W0 A n bs :: L)) :
    Calls Try.prog 34 #[.slice A n c] w (DRF W0 A n w0 f L) := by
  have AL := add_lit0
  have HOp : Hid (∀ {W : World} {L : List Asn}, Mem w0 f W (ro W0 A n bs :: L) → Calls Try.prog 72 #[.slice A n c] W fun e w' => ∃ R : Rd, e = .returned (.pointer (some ⟨R.g, 0, none⟩)) ∧ (R.W0 = W0 ∧ roB R.A R.n = roB A n) ∧ Mem w0 f w' (rdr R 0 :: L)) := fun {W L} M => sOpenW W0 A n c bs hnc M
  have HP := Lib.hid (fun R (m : Int) (hm : 1 ≤ m) (q : Nat) (hq : q ≤ 1000000000) W (L L' : List Asn) (M : Mem w0 f W L) (hd : Del (rdr R q) L L') => pick_of m hm R q hq M hd)
  have HRun : Hid (∀ (R : Rd) {U : World} {L1 L2 : List Asn}, Mem w0 f U L1 → Del (rdr R 0) L1 L2 → Calls Try.prog 73 #[.pointer (some ⟨R.g, 0, none⟩)] U (DRunPost R 0 w0 f L2)) := fun R U L1 L2 M hd => sRunD R 0 (by omega) M hd
  have HKC : Hid (∀ {U : World} {L1 L2 : List Asn} {g c : Nat} {mail : List Vl}, Mem w0 f U L1 → Del (row encV 2 tV (some ⟨g, 0, none⟩) c mail) L1 L2 → ∀ j, j < mail.length → U.cell? ⟨g, j * 2, none⟩ = some (.int .i64 (mail.getD j Vl.zero).k)) := fun M hd => kind_cells M hd
  clear hnc
  (try clear F); have F := fxd M
  go_enter Try.func34, Try.ntmps34
  go_upto_region 3 with (first | (with_reducible refine alAd M ?_; clear M; (try clear F); intro w1 M F) | ((with_reducible apply ev_store (M := M)); rfl; rfl; ((conv => lhs; whnf) <;> rfl); rfl; (first | exact siI | exact siR | exact siV | exact siB | exact siSI | exact siSV | exact siW | exact siSR | exact siSO | exact siO); (exact one_all rfl); (exact dl); (exact Nat.le_of_ble_eq_true rfl); clear M; intro w1 M; simp only [SX] at M; (try clear F); have F := fxd M) | (go_at_call 72; (refine nmKd ?_; clear M; (try clear F); intro w1 M F); refine (HOp.out (M.pull dl)).mono ?_; clear M; rintro e w2 ⟨R, rfl, hR, M⟩; have hR := Lib.hid hR; (try clear F); have F := fxd M) | (go_at_call 73; (refine nmKd ?_; clear M; (try clear F); intro w1 M F); refine (HRun.out R M dl).mono ?_; clear M; rintro e w2 ⟨⟨id, at_, slots, full, mail, state, due, links, watched, trap, ⟨wk, wn⟩, turns⟩, ⟨sA, sC, mA, mC, lA, lC, wA, wC⟩, q, rfl, hr, hq1, hq2, M⟩; replace hr := Lib.hid hr; (try simp only at M); (try clear F); have F := fxd M))
  generalize w.heap.size = g2 at M ⊢
  generalize w2.heap.size = g5 at M ⊢
  have MU : Mem w0 f _ (runA ⟨id, at_, slots, full, mail, state, due, links, watched, trap, ⟨wk, wn⟩, turns⟩ ⟨sA, sC, mA, mC, lA, lC, wA, wC⟩ :: blk g5 tR [.int .i64 id, .int .i64 at_, .slice sA slots.length sC, .int .i64 full, .slice mA mail.length mC, .int .i64 state, .int .i64 due, .slice lA links.length lC, .slice wA watched.length wC, .bool trap, .int .i64 wk, .int .i64 wn, .int .i64 turns] :: rdr R q :: blk g2 tR [.int .i64 0, .int .i64 0, .slice none 0 0, .int .i64 0, .slice none 0 0, .int .i64 0, .int .i64 0, .slice none 0 0, .slice none 0 0, .bool false, .int .i64 0, .int .i64 0, .int .i64 0] :: L) := M.sel (.cons (.there .here) sl)
  replace MU := MU.unpackRun
  have M2 : Mem w0 f _ (blk g5 tR [.int .i64 id, .int .i64 at_, .slice sA slots.length sC, .int .i64 full, .slice mA mail.length mC, .int .i64 state, .int .i64 due, .slice lA links.length lC, .slice wA watched.length wC, .bool trap, .int .i64 wk, .int .i64 wn, .int .i64 turns] :: row encV 2 tV sA sC slots :: row encV 2 tV mA mC mail :: row encI 1 tI lA lC links :: row encI 1 tI wA wC watched :: rdr R q :: blk g2 tR [.int .i64 0, .int .i64 0, .slice none 0 0, .int .i64 0, .slice none 0 0, .int .i64 0, .int .i64 0, .slice none 0 0, .slice none 0 0, .bool false, .int .i64 0, .int .i64 0, .int .i64 0] :: L) := MU.sel (.cons (.there (.there (.there (.there .here)))) .refl)
  have HZ : Hid (∀ {U : World} {k : Int} {q' : Nat}, Mem w0 f U (row encV 2 tV sA sC slots :: row encV 2 tV mA mC mail :: row encI 1 tI lA lC links :: row encI 1 tI wA wC watched :: rdr R q' :: L) → DRF W0 A n w0 f L (.returned (.tuple #[.agg (List.toArray [.int .i64 id, .int .i64 at_, .slice sA slots.length sC, .int .i64 full, .slice mA mail.length mC, .int .i64 state, .int .i64 due, .slice lA links.length lC, .slice wA watched.length wC, .bool trap, .int .i64 wk, .int .i64 wn, .int .i64 turns]), .int .i64 k])) U) :=
    fun {U k q'} M => ⟨⟨id, at_, slots, full, mail, state, due, links, watched, trap, ⟨wk, wn⟩, turns⟩, ⟨sA, sC, mA, mC, lA, lC, wA, wC⟩, k, R, q', rfl, hr.out, hR.out, Mem.packRun (r := ⟨id, at_, slots, full, mail, state, due, links, watched, trap, ⟨wk, wn⟩, turns⟩) (a := ⟨sA, sC, mA, mC, lA, lC, wA, wC⟩) M⟩
  clear M MU F
  have M := M2
  clear M2
  (try clear F); have F := fxd M
  go_cut [18] from 6 (fun s18 wx => ∃ (b : Bool) (q : Nat), s18 = .bool b ∧ (b = true → 1 ≤ mail.length) ∧ q ≤ 3000 ∧ Mem w0 f wx (blk g5 tR [.int .i64 id, .int .i64 at_, .slice sA slots.length sC, .int .i64 full, .slice mA mail.length mC, .int .i64 state, .int .i64 due, .slice lA links.length lC, .slice wA watched.length wC, .bool trap, .int .i64 wk, .int .i64 wn, .int .i64 turns] :: row encV 2 tV sA sC slots :: row encV 2 tV mA mC mail :: row encI 1 tI lA lC links :: row encI 1 tI wA wC watched :: rdr R q :: blk g2 tR [.int .i64 0, .int .i64 0, .slice none 0 0, .int .i64 0, .slice none 0 0, .int .i64 0, .int .i64 0, .slice none 0 0, .slice none 0 0, .bool false, .int .i64 0, .int .i64 0, .int .i64 0] :: L))
  case first =>
    by_cases hm : 0 < mail.length
    · have hm1 : (0 : Int) < mail.length := by omega
      go_wp2_with (first | (go_at_call 74; (refine nmKd ?_; clear M; (try clear F); intro w1 M F); refine (HP.out R _ (by omega) _ ?_ _ _ _ M dl).mono ?_; omega; clear M; rintro e w2 ⟨i, rfl, i0, i1, M⟩; (try clear F); have F := fxd M))
      go_meet
      case rel => exact ⟨_, q + 1, rfl, fun _ => by omega, by omega, M.sel (.cons (.there .here) (.cons (.there .here) (.cons (.there .here) (.cons (.there .here) (.cons (.there .here) .refl)))))⟩
    · have hm1 : ¬ (0 : Int) < mail.length := by omega
      go_wp2
      go_meet
      case rel => exact ⟨false, q, rfl, (fun h => absurd h (by decide)), by omega, M⟩
  clear M F hq1 hq2
  obtain ⟨b, q, rfl, hb, hq, M⟩ := hcut
  (try clear F); have F := fxd M
  cases b with
  | false =>
    go_upto_region 5 with fail
    (refine held_begin (S := fun W' => ∀ j, W'.cell? ⟨g5, j, none⟩ = ([.int .i64 id, .int .i64 at_, .slice sA slots.length sC, .int .i64 full, .slice mA mail.length mC, .int .i64 state, .int .i64 due, .slice lA links.length lC, .slice wA watched.length wC, .bool trap, .int .i64 wk, .int .i64 wn, .int .i64 turns] : List Value)[j]?) (by kernel_rfl) (fun _ _ _ _ _ h => h) kc (fun HQ hHeld => ?_))
    refine tkY HQ hHeld 0 ?_; refine tkY HQ hHeld 1 ?_; clear hHeld; (refine nmd (G := fun W => wpAnyH _ _ _ _ _ _ _ _ W) ?_; clear M; (try clear F); intro w1 M F)
    refine stp 2 (fun K hK => ?_); go_simp; (go_at_call 74; (refine nmKd ?_; clear M; (try clear F); intro w1 M F); refine (HP.out R _ (by omega) _ ?_ _ _ _ M dl).mono ?_; omega; clear M; rintro e w2 ⟨i, rfl, i0, i1, M⟩; (try clear F); have F := fxd M); (try go_wp2_with fail); refine hK.out _ _ (kc) (fun hHeld => ?_); clear hK K; (try simp only [AX])
    refine stp 3 (fun K hK => ?_)
    refine op_of_list rfl ?_; ((with_reducible apply ev_store (M := M)); rfl; rfl; ((conv => lhs; whnf) <;> rfl); rfl; (first | exact siI | exact siR | exact siV | exact siB | exact siSI | exact siSV | exact siW | exact siSR | exact siSO | exact siO); (exact one_all rfl); (exact dl); (exact Nat.le_of_ble_eq_true rfl); clear M; intro w1 M; simp only [SX] at M; (try clear F); have F := fxd M); (try go_wp2_with fail); refine hK.out _ _ (kc) (fun hHeld => ?_); clear hK K; (try simp only [AX])
    refine tkY HQ hHeld 4 ?_
    refine wpAnyH_done (by kernel_rfl) ?_ _; clear HQ; (repeat clear hHeld)
    go_wp2
    (apply ret_cell_tmp (M := M); rfl; rfl; rfl; (exact dl); (first | exact agR | exact agV | exact agW | exact agO); (first | exact siI | exact siR | exact siV | exact siB | exact siSI | exact siSV | exact siW | exact siSR | exact siSO | exact siO); rfl)
    exact HZ.out (M.sel (.drop (.cons (.there (.there .here)) (.cons (.there (.there .here)) (.cons (.there (.there .here)) (.cons (.there (.there .here)) (.cons .here (.drop .refl))))))))
  | true =>
    have hml := hb rfl
    obtain ⟨gm, rfl⟩ := row_form M (.there (.there .here)) (by omega)
    go_upto_region 4 with fail
    (refine held_begin (S := fun W' => (∀ j, W'.cell? ⟨g5, j, none⟩ = ([.int .i64 id, .int .i64 at_, .slice sA slots.length sC, .int .i64 full, .slice (some ⟨gm, 0, none⟩) mail.length mC, .int .i64 state, .int .i64 due, .slice lA links.length lC, .slice wA watched.length wC, .bool trap, .int .i64 wk, .int .i64 wn, .int .i64 turns] : List Value)[j]?) ∧ ∀ j, j < mail.length → W'.cell? ⟨gm, j * 2, none⟩ = some (.int .i64 (mail.getD j Vl.zero).k)) (by kernel_rfl) (fun _ _ _ _ _ h => h) (by (exact ⟨kc, HKC.out mb dl⟩)) (fun HQ hHeld => ?_))
    refine tkY HQ hHeld 0 ?_; refine tkY HQ hHeld 1 ?_; refine tkY HQ hHeld 2 ?_; refine tkY HQ hHeld 3 ?_; refine tkY HQ hHeld 4 ?_; refine tkY HQ hHeld 5 ?_; refine tkY HQ hHeld 6 ?_; clear hHeld; (refine nmd (G := fun W => wpAnyH _ _ _ _ _ _ _ _ W) ?_; clear M; (try clear F); intro w1 M F)
    refine stp 7 (fun K hK => ?_); go_simp; (go_at_call 74; (refine nmKd ?_; clear M; (try clear F); intro w1 M F); refine (HP.out R _ (by omega) _ ?_ _ _ _ M dl).mono ?_; omega; clear M; rintro e w2 ⟨i, rfl, i0, i1, M⟩; obtain ⟨k, rfl⟩ : ∃ k : Nat, i = k := ⟨i.toNat, by omega⟩; have k1 : k < mail.length := (by omega); (try clear F); have F := fxd M); (try go_wp2_with fail); refine hK.out _ _ (by (exact ⟨kc, HKC.out mb dl⟩)) (fun hHeld => ?_); clear hK K; (try simp only [AX])
    refine tkY HQ hHeld 8 ?_; refine tkY HQ hHeld 9 ?_; refine tkY HQ hHeld 10 ?_
    refine stp 11 (fun K hK => ?_)
    refine op_of_list rfl ?_; ((with_reducible apply ev_store (M := M)); rfl; rfl; ((conv => lhs; whnf) <;> rfl); rfl; (first | exact siI | exact siR | exact siV | exact siB | exact siSI | exact siSV | exact siW | exact siSR | exact siSO | exact siO); (exact one_all rfl); (exact dl); (exact Nat.le_of_ble_eq_true rfl); clear M; intro w1 M; simp only [SX] at M; (try clear F); have F := fxd M); (try go_wp2_with fail); refine hK.out _ _ (by (exact ⟨kc, HKC.out mb dl⟩)) (fun hHeld => ?_); clear hK K; (try simp only [AX])
    refine tkY HQ hHeld 12 ?_
    refine wpAnyH_done (by kernel_rfl) ?_ _; clear HQ; (repeat clear hHeld)
    go_wp2
    (apply ret_cell_tmp (M := M); rfl; rfl; rfl; (exact dl); (first | exact agR | exact agV | exact agW | exact agO); (first | exact siI | exact siR | exact siV | exact siB | exact siSI | exact siSV | exact siW | exact siSR | exact siSO | exact siO); rfl)
    exact HZ.out (M.sel (.drop (.cons (.there (.there .here)) (.cons (.there (.there .here)) (.cons (.there (.there .here)) (.cons (.there (.there .here)) (.cons .here (.drop .refl))))))))
end Go.Proofs.Ytmidnaafljgbiaa
