/- Parts of the proof, in one text. -/
import Derived.Test.YtmidnaafljgbiaaB03
import Derived.Test.YtmidnaafljgbiaaB02
import Derived.Test.YtmidnaafljgbiaaB38
import Derived.Test.YtmidnaafljgbiaaB39
import Derived.Test.YtmidnaafljgbiaaB46
/- Bytes that came in are held. -/
namespace Go.Proofs.Ytmidnaafljgbiaa
open Go.RowKit
theorem Mem.ofBytesB {W : World} {A : Option Addr} {n : Nat} {bs : Nat → Int} (h : BytesOk W A n bs) : Mem W (roB A n) W [ro W A n bs] := by
  refine ⟨⟨rfl, rfl, rfl, Nat.le_refl _, fun _ _ _ => rfl, fun k hk => .inl (by simpa [fps, ro] using hk), ?_⟩, fun X hX => ?_⟩
  · show (roB A n ++ []).Nodup
    unfold roB
    split
    · cases A <;> simp [ob]
    · simp
  · obtain rfl : X = ro W A n bs := by simpa using hX
    exact ⟨h, Nat.le_refl _, fun _ _ => rfl⟩
end Go.Proofs.Ytmidnaafljgbiaa
/- Three results, the second a number. -/
namespace Go.Proofs.Ytmidnaafljgbiaa
open Go.RowKit
section
variable {P : Program} {fn : Func} {R : Ending → World → Prop} {a : Act} {w0 w : World} {f : List Nat} {L L' L2 : List Asn} {d1 d2 d : Tmp} {t t1 tb tb1 : TypeId} {g g1 : Nat} {cs cs1 : List Value} {v1 v2 : Value}
theorem ret_ctc3 (hres : fn.results = #[.cell d t, .tmp d2, .cell d1 t1]) (h2 : a.tmps.getD d2 undef = v2) (h1 : a.tmps.getD d1 undef = .pointer (some ⟨g1, 0, none⟩)) (hx : a.tmps.getD d undef = .pointer (some ⟨g, 0, none⟩)) (M : Mem w0 f w L) (hd : Del (blk g tb cs) L L') (hd1 : Del (blk g1 tb1 cs1) L L2)
    (ha : ∀ W, (isAgg t).run P W = .ok true W) (ha1 : ∀ W, (isAgg t1).run P W = .ok true W) (hs : (P.info? t).map (·.size) = some cs.length) (hs1 : (P.info? t1).map (·.size) = some cs1.length) (hdef : a.defers = []) (hR : R (.returned (.tuple #[.agg cs.toArray, v2, .agg cs1.toArray])) w) : bodyPost P fn R .ret a w := by
  have hrun := run_loadAgg (P := P) (off := 0) (ha w) hs (M.pull hd).facts.1.2.1 (by omega : 0 + cs.length ≤ cs.length)
  have hrun1 := run_loadAgg (P := P) (off := 0) (ha1 w) hs1 (M.pull hd1).facts.1.2.1 (by omega : 0 + cs1.length ≤ cs1.length)
  simp only [List.drop_zero, List.take_length] at hrun hrun1
  refine ⟨hdef, _, ?_, hR⟩
  simp only [Array.getD_eq_getD_getElem?] at hx h1 h2
  simp [results, hres, hx, h1, h2, asAddr, hrun, hrun1]
end
end Go.Proofs.Ytmidnaafljgbiaa
/- A run, a slot and a value are drawn from the bytes. -/
namespace Go.Proofs.Ytmidnaafljgbiaa
open Go.RowKit
set_option maxRecDepth 100000

def DRP (W0 : World) (A : Option Addr) (n : Nat) (w0 : World) (f : List Nat) (L : List Asn) (e : Ending) (w' : World) : Prop := ∃ (r : Rn) (a : RA) (s : Int) (v : Vl) (R : Rd) (p : Nat), e = .returned (.tuple #[.agg (runArr r a), .int .i64 s, .agg #[.int .i64 v.k, .int .i64 v.n]]) ∧ RSx r ∧ (0 ≤ s ∧ s ≤ 4) ∧ VlB v ∧ (R.W0 = W0 ∧ roB R.A R.n = roB A n) ∧ Mem w0 f w' (runA r a :: rdr R p :: L)
set_option maxHeartbeats 4000000 in
theorem sDrawRunPut (W0 : World) (A : Option Addr) (n c : Nat) (bs : Nat → Int) (hnc : n ≤ c) {w0 w : World} {f : List Nat} {L : List Asn} (M : Mem w0 f w (ro W0 A n bs :: L)) :
    Calls Try.prog 38 #[.slice A n c] w (DRP W0 A n w0 f L) := by
  have HOp : Hid (∀ {W : World} {L : List Asn}, Mem w0 f W (ro W0 A n bs :: L) → Calls Try.prog 72 #[.slice A n c] W fun e w' => ∃ R : Rd, e = .returned (.pointer (some ⟨R.g, 0, none⟩)) ∧ (R.W0 = W0 ∧ roB R.A R.n = roB A n) ∧ Mem w0 f w' (rdr R 0 :: L)) := fun {W L} M => sOpenW W0 A n c bs hnc M
  have HP := Lib.hid (fun R (m : Int) (hm : 1 ≤ m) (q : Nat) (hq : q ≤ 1000000000) W (L L' : List Asn) (M : Mem w0 f W L) (hd : Del (rdr R q) L L') => pick_of m hm R q hq M hd)
  have HRun : Hid (∀ (R : Rd) {U : World} {L1 L2 : List Asn}, Mem w0 f U L1 → Del (rdr R 0) L1 L2 → Calls Try.prog 73 #[.pointer (some ⟨R.g, 0, none⟩)] U (DRunPost R 0 w0 f L2)) := fun R U L1 L2 M hd => sRunD R 0 (by omega) M hd
  have HV : Hid (∀ (R : Rd) (q : Nat), q ≤ 900000000 → ∀ {U : World} {L1 L2 : List Asn}, Mem w0 f U L1 → Del (rdr R q) L1 L2 → Calls Try.prog 86 #[.pointer (some ⟨R.g, 0, none⟩)] U (ValPost R q w0 f L2)) := fun R q hq U L1 L2 M hd => sVal R q hq M hd
  clear hnc
  (try clear F); have F := fxd M
  go_enter Try.func38, Try.ntmps38
  go_wp2_with (first
    | (with_reducible refine alAd M ?_; clear M; (try clear F); intro w1 M F)
    | ((with_reducible apply ev_store (M := M)); rfl; rfl; ((conv => lhs; whnf) <;> rfl); rfl; (first | exact siI | exact siR | exact siV | exact siB | exact siSI | exact siSV | exact siW | exact siSR | exact siSO | exact siO); (exact one_all rfl); (exact dl); (exact Nat.le_of_ble_eq_true rfl); clear M; intro w1 M; simp only [SX] at M; (try clear F); have F := fxd M)
    | (go_at_call 72; (refine nmKd ?_; clear M; (try clear F); intro w1 M F); refine (HOp.out (M.pull dl)).mono ?_; clear M; rintro e w2 ⟨R, rfl, hR, M⟩; have hR := Lib.hid hR; (try clear F); have F := fxd M)
    | (go_at_call 73; (refine nmKd ?_; clear M; (try clear F); intro w1 M F); refine (HRun.out R M dl).mono ?_; clear M; rintro e w2 ⟨⟨id, at_, slots, full, mail, state, due, links, watched, trap, ⟨wk, wn⟩, turns⟩, ⟨sA, sC, mA, mC, lA, lC, wA, wC⟩, q, rfl, hr, hq1, hq2, M⟩; replace hr := Lib.hid hr; (try simp only at M); (try clear F); have F := fxd M)
    | (go_at_call_of 74 (Value.int .i64 4); (refine nmKd ?_; clear M; (try clear F); intro w1 M F); refine (HP.out R _ (by omega) _ ?_ _ _ _ M dl).mono ?_; omega; clear M; rintro e w2 ⟨i, rfl, i0, i1, M⟩; (try clear F); have F := fxd M)
    | (go_at_call_of 74 (Value.int .i64 24); (refine nmKd ?_; clear M; (try clear F); intro w1 M F); refine (HP.out R _ (by omega) _ ?_ _ _ _ M dl).mono ?_; omega; clear M; rintro e w2 ⟨k, rfl, k0, k1, M⟩; have wk1 : IntKind.i64.wrap (k / 23) = k / 23 := IntWalk.i64_in _ (by omega); have wk2 : IntKind.i64.wrap (i + k / 23) = i + k / 23 := IntWalk.i64_in _ (by omega); (try clear F); have F := fxd M)
    | (go_at_call 86; (refine nmKd ?_; clear M; (try clear F); intro w1 M F); refine (HV.out R _ ?_ M dl).mono ?_; omega; clear M; rintro e w2 ⟨⟨vk, vn⟩, q9, rfl, hv, hq8, hq9, M⟩; (try simp only at M); (try clear F); have F := fxd M))
  (apply ret_ctc3 (M := M); rfl; rfl; rfl; rfl; (exact dl); (exact dl); (first | exact agR | exact agV | exact agW | exact agO); (first | exact agR | exact agV | exact agW | exact agO); (first | exact siI | exact siR | exact siV | exact siB | exact siSI | exact siSV | exact siW | exact siSR | exact siSO | exact siO); (first | exact siI | exact siR | exact siV | exact siB | exact siSI | exact siSV | exact siW | exact siSR | exact siSO | exact siO); rfl)
  exact ⟨⟨id, at_, slots, full, mail, state, due, links, watched, trap, ⟨wk, wn⟩, turns⟩, ⟨sA, sC, mA, mC, lA, lC, wA, wC⟩, i + k / 23, ⟨vk, vn⟩, R, q9, rfl, hr.out, ⟨by omega, by omega⟩, hv, hR.out, M.sel sl⟩
end Go.Proofs.Ytmidnaafljgbiaa
/- A run and a kind are drawn from the bytes. -/
namespace Go.Proofs.Ytmidnaafljgbiaa
open Go.RowKit
set_option maxRecDepth 100000

def DRF (W0 : World) (A : Option Addr) (n : Nat) (w0 : World) (f : List Nat) (L : List Asn) (e : Ending) (w' : World) : Prop := ∃ (r : Rn) (a : RA) (k : Int) (R : Rd) (p : Nat), e = .returned (.tuple #[.agg (runArr r a), .int .i64 k]) ∧ RSx r ∧ (R.W0 = W0 ∧ roB R.A R.n = roB A n) ∧ Mem w0 f w' (runA r a :: rdr R p :: L)
theorem kind_cells {w0 w : World} {f : List Nat} {L L' : List Asn} {g c : Nat} {mail : List Vl} (M : Mem w0 f w L) (hd : Del (row encV 2 tV (some ⟨g, 0, none⟩) c mail) L L') : ∀ j, j < mail.length → w.cell? ⟨g, j * 2, none⟩ = some (.int .i64 (mail.getD j Vl.zero).k) := by
  intro j hj
  have h := (row_elem encV_length M hd hj).2.1 0 (by decide)
  rw [Nat.add_zero] at h
  rw [h, List.getD_eq_getElem?_getD, List.getElem?_eq_getElem hj]
  rfl
set_option maxHeartbeats 4000000 in
theorem sDrawRunFirst (W0 : World) (A : Option Addr) (n c : Nat) (bs : Nat → Int) (hnc : n ≤ c) {w0 w : World} {f : List Nat} {L : List Asn} (M : Mem w0 f w (ro W0 A n bs :: L)) :
    Calls Try.prog 34 #[.slice A n c] w (DRF W0 A n w0 f L) := by
  have AL := add_lit0
  have HOp : Hid (∀ {W : World} {L : List Asn}, Mem w0 f W (ro W0 A n bs :: L) → Calls Try.prog 72 #[.slice A n c] W fun e w' => ∃ R : Rd, e = .returned (.pointer (some ⟨R.g, 0, none⟩)) ∧ (R.W0 = W0 ∧ roB R.A R.n = roB A n) ∧ Mem w0 f w' (rdr R 0 :: L)) := fun {W L} M => sOpenW W0 A n c bs hnc M
  have HP := Lib.hid (fun R (m : Int) (hm : 1 ≤ m) (q : Nat) (hq : q ≤ 1000000000) W (L L' : List Asn) (M : Mem w0 f W L) (hd : Del (rdr R q) L L') => pick_of m hm R q hq M hd)
  have HRun : Hid (∀ (R : Rd) {U : World} {L1 L2 : List Asn}, Mem w0 f U L1 → Del (rdr R 0) L1 L2 → Calls Try.prog 73 #[.pointer (some ⟨R.g, 0, none⟩)] U (DRunPost R 0 w0 f L2)) := fun R U L1 L2 M hd => sRunD R 0 (by omega) M hd
  have HKC : Hid (∀ {U : World} {L1 L2 : List Asn} {g c : Nat} {mail : List Vl}, Mem w0 f U L1 → Del (row encV 2 tV (some ⟨g, 0, none⟩) c mail) L1 L2 → ∀ j, j < mail.length → U.cell? ⟨g, j * 2, none⟩ = some (.int .i64 (mail.getD j Vl.zero).k)) := fun M hd => kind_cells M hd
  clear hnc
  (try clear F); have F := fxd M
  go_enter Try.func34, Try.ntmps34
  go_upto_region 3 with (first | (with_reducible refine alAd M ?_; clear M; (try clear F); intro w1 M F) | ((with_reducible apply ev_store (M := M)); rfl; rfl; ((conv => lhs; whnf) <;> rfl); rfl; (first | exact siI | exact siR | exact siV | exact siB | exact siSI | exact siSV | exact siW | exact siSR | exact siSO | exact siO); (exact one_all rfl); (exact dl); (exact Nat.le_of_ble_eq_true rfl); clear M; intro w1 M; simp only [SX] at M; (try clear F); have F := fxd M) | (go_at_call 72; (refine nmKd ?_; clear M; (try clear F); intro w1 M F); refine (HOp.out (M.pull dl)).mono ?_; clear M; rintro e w2 ⟨R, rfl, hR, M⟩; have hR := Lib.hid hR; (try clear F); have F := fxd M) | (go_at_call 73; (refine nmKd ?_; clear M; (try clear F); intro w1 M F); refine (HRun.out R M dl).mono ?_; clear M; rintro e w2 ⟨⟨id, at_, slots, full, mail, state, due, links, watched, trap, ⟨wk, wn⟩, turns⟩, ⟨sA, sC, mA, mC, lA, lC, wA, wC⟩, q, rfl, hr, hq1, hq2, M⟩; replace hr := Lib.hid hr; (try simp only at M); (try clear F); have F := fxd M))
  generalize w.heap.size = g2 at M ⊢
  generalize w2.heap.size = g5 at M ⊢
  have MU : Mem w0 f _ (runA ⟨id, at_, slots, full, mail, state, due, links, watched, trap, ⟨wk, wn⟩, turns⟩ ⟨sA, sC, mA, mC, lA, lC, wA, wC⟩ :: blk g5 tR [.int .i64 id, .int .i64 at_, .slice sA slots.length sC, .int .i64 full, .slice mA mail.length mC, .int .i64 state, .int .i64 due, .slice lA links.length lC, .slice wA watched.length wC, .bool trap, .int .i64 wk, .int .i64 wn, .int .i64 turns] :: rdr R q :: blk g2 tR [.int .i64 0, .int .i64 0, .slice none 0 0, .int .i64 0, .slice none 0 0, .int .i64 0, .int .i64 0, .slice none 0 0, .slice none 0 0, .bool false, .int .i64 0, .int .i64 0, .int .i64 0] :: L) := M.sel (.cons (.there .here) sl)
  replace MU := MU.unpackRun
  have M2 : Mem w0 f _ (blk g5 tR [.int .i64 id, .int .i64 at_, .slice sA slots.length sC, .int .i64 full, .slice mA mail.length mC, .int .i64 state, .int .i64 due, .slice lA links.length lC, .slice wA watched.length wC, .bool trap, .int .i64 wk, .int .i64 wn, .int .i64 turns] :: row encV 2 tV sA sC slots :: row encV 2 tV mA mC mail :: row encI 1 tI lA lC links :: row encI 1 tI wA wC watched :: rdr R q :: blk g2 tR [.int .i64 0, .int .i64 0, .slice none 0 0, .int .i64 0, .slice none 0 0, .int .i64 0, .int .i64 0, .slice none 0 0, .slice none 0 0, .bool false, .int .i64 0, .int .i64 0, .int .i64 0] :: L) := MU.sel (.cons (.there (.there (.there (.there .here)))) .refl)
  have HZ : Hid (∀ {U : World} {k : Int} {q' : Nat}, Mem w0 f U (row encV 2 tV sA sC slots :: row encV 2 tV mA mC mail :: row encI 1 tI lA lC links :: row encI 1 tI wA wC watched :: rdr R q' :: L) → DRF W0 A n w0 f L (.returned (.tuple #[.agg (List.toArray [.int .i64 id, .int .i64 at_, .slice sA slots.length sC, .int .i64 full, .slice mA mail.length mC, .int .i64 state, .int .i64 due, .slice lA links.length lC, .slice wA watched.length wC, .bool trap, .int .i64 wk, .int .i64 wn, .int .i64 turns]), .int .i64 k])) U) :=
    fun {U k q'} M => ⟨⟨id, at_, slots, full, mail, state, due, links, watched, trap, ⟨wk, wn⟩, turns⟩, ⟨sA, sC, mA, mC, lA, lC, wA, wC⟩, k, R, q', rfl, hr.out, hR.out, Mem.packRun (r := ⟨id, at_, slots, full, mail, state, due, links, watched, trap, ⟨wk, wn⟩, turns⟩) (a := ⟨sA, sC, mA, mC, lA, lC, wA, wC⟩) M⟩
  clear M MU F
  have M := M2
  clear M2
  (try clear F); have F := fxd M
  go_cut [18] from 6 (fun s18 wx => ∃ (b : Bool) (q : Nat), s18 = .bool b ∧ (b = true → 1 ≤ mail.length) ∧ q ≤ 3000 ∧ Mem w0 f wx (blk g5 tR [.int .i64 id, .int .i64 at_, .slice sA slots.length sC, .int .i64 full, .slice mA mail.length mC, .int .i64 state, .int .i64 due, .slice lA links.length lC, .slice wA watched.length wC, .bool trap, .int .i64 wk, .int .i64 wn, .int .i64 turns] :: row encV 2 tV sA sC slots :: row encV 2 tV mA mC mail :: row encI 1 tI lA lC links :: row encI 1 tI wA wC watched :: rdr R q :: blk g2 tR [.int .i64 0, .int .i64 0, .slice none 0 0, .int .i64 0, .slice none 0 0, .int .i64 0, .int .i64 0, .slice none 0 0, .slice none 0 0, .bool false, .int .i64 0, .int .i64 0, .int .i64 0] :: L))
  case first =>
    by_cases hm : 0 < mail.length
    · have hm1 : (0 : Int) < mail.length := by omega
      go_wp2_with (first | (go_at_call 74; (refine nmKd ?_; clear M; (try clear F); intro w1 M F); refine (HP.out R _ (by omega) _ ?_ _ _ _ M dl).mono ?_; omega; clear M; rintro e w2 ⟨i, rfl, i0, i1, M⟩; (try clear F); have F := fxd M))
      go_meet
      case rel => exact ⟨_, q + 1, rfl, fun _ => by omega, by omega, M.sel (.cons (.there .here) (.cons (.there .here) (.cons (.there .here) (.cons (.there .here) (.cons (.there .here) .refl)))))⟩
    · have hm1 : ¬ (0 : Int) < mail.length := by omega
      go_wp2
      go_meet
      case rel => exact ⟨false, q, rfl, (fun h => absurd h (by decide)), by omega, M⟩
  clear M F hq1 hq2
  obtain ⟨b, q, rfl, hb, hq, M⟩ := hcut
  (try clear F); have F := fxd M
  cases b with
  | false =>
    go_upto_region 5 with fail
    (refine held_begin (S := fun W' => ∀ j, W'.cell? ⟨g5, j, none⟩ = ([.int .i64 id, .int .i64 at_, .slice sA slots.length sC, .int .i64 full, .slice mA mail.length mC, .int .i64 state, .int .i64 due, .slice lA links.length lC, .slice wA watched.length wC, .bool trap, .int .i64 wk, .int .i64 wn, .int .i64 turns] : List Value)[j]?) (by kernel_rfl) (fun _ _ _ _ _ h => h) kc (fun HQ hHeld => ?_))
    refine tkY HQ hHeld 0 ?_; refine tkY HQ hHeld 1 ?_; clear hHeld; (refine nmd (G := fun W => wpAnyH _ _ _ _ _ _ _ _ W) ?_; clear M; (try clear F); intro w1 M F)
    refine stp 2 (fun K hK => ?_); go_simp; (go_at_call 74; (refine nmKd ?_; clear M; (try clear F); intro w1 M F); refine (HP.out R _ (by omega) _ ?_ _ _ _ M dl).mono ?_; omega; clear M; rintro e w2 ⟨i, rfl, i0, i1, M⟩; (try clear F); have F := fxd M); (try go_wp2_with fail); refine hK.out _ _ (kc) (fun hHeld => ?_); clear hK K; (try simp only [AX])
    refine stp 3 (fun K hK => ?_)
    refine op_of_list rfl ?_; ((with_reducible apply ev_store (M := M)); rfl; rfl; ((conv => lhs; whnf) <;> rfl); rfl; (first | exact siI | exact siR | exact siV | exact siB | exact siSI | exact siSV | exact siW | exact siSR | exact siSO | exact siO); (exact one_all rfl); (exact dl); (exact Nat.le_of_ble_eq_true rfl); clear M; intro w1 M; simp only [SX] at M; (try clear F); have F := fxd M); (try go_wp2_with fail); refine hK.out _ _ (kc) (fun hHeld => ?_); clear hK K; (try simp only [AX])
    refine tkY HQ hHeld 4 ?_
    refine wpAnyH_done (by kernel_rfl) ?_ _; clear HQ; (repeat clear hHeld)
    go_wp2
    (apply ret_cell_tmp (M := M); rfl; rfl; rfl; (exact dl); (first | exact agR | exact agV | exact agW | exact agO); (first | exact siI | exact siR | exact siV | exact siB | exact siSI | exact siSV | exact siW | exact siSR | exact siSO | exact siO); rfl)
    exact HZ.out (M.sel (.drop (.cons (.there (.there .here)) (.cons (.there (.there .here)) (.cons (.there (.there .here)) (.cons (.there (.there .here)) (.cons .here (.drop .refl))))))))
  | true =>
    have hml := hb rfl
    obtain ⟨gm, rfl⟩ := row_form M (.there (.there .here)) (by omega)
    go_upto_region 4 with fail
    (refine held_begin (S := fun W' => (∀ j, W'.cell? ⟨g5, j, none⟩ = ([.int .i64 id, .int .i64 at_, .slice sA slots.length sC, .int .i64 full, .slice (some ⟨gm, 0, none⟩) mail.length mC, .int .i64 state, .int .i64 due, .slice lA links.length lC, .slice wA watched.length wC, .bool trap, .int .i64 wk, .int .i64 wn, .int .i64 turns] : List Value)[j]?) ∧ ∀ j, j < mail.length → W'.cell? ⟨gm, j * 2, none⟩ = some (.int .i64 (mail.getD j Vl.zero).k)) (by kernel_rfl) (fun _ _ _ _ _ h => h) (by (exact ⟨kc, HKC.out mb dl⟩)) (fun HQ hHeld => ?_))
    refine tkY HQ hHeld 0 ?_; refine tkY HQ hHeld 1 ?_; refine tkY HQ hHeld 2 ?_; refine tkY HQ hHeld 3 ?_; refine tkY HQ hHeld 4 ?_; refine tkY HQ hHeld 5 ?_; refine tkY HQ hHeld 6 ?_; clear hHeld; (refine nmd (G := fun W => wpAnyH _ _ _ _ _ _ _ _ W) ?_; clear M; (try clear F); intro w1 M F)
    refine stp 7 (fun K hK => ?_); go_simp; (go_at_call 74; (refine nmKd ?_; clear M; (try clear F); intro w1 M F); refine (HP.out R _ (by omega) _ ?_ _ _ _ M dl).mono ?_; omega; clear M; rintro e w2 ⟨i, rfl, i0, i1, M⟩; obtain ⟨k, rfl⟩ : ∃ k : Nat, i = k := ⟨i.toNat, by omega⟩; have k1 : k < mail.length := (by omega); (try clear F); have F := fxd M); (try go_wp2_with fail); refine hK.out _ _ (by (exact ⟨kc, HKC.out mb dl⟩)) (fun hHeld => ?_); clear hK K; (try simp only [AX])
    refine tkY HQ hHeld 8 ?_; refine tkY HQ hHeld 9 ?_; refine tkY HQ hHeld 10 ?_
    refine stp 11 (fun K hK => ?_)
    refine op_of_list rfl ?_; ((with_reducible apply ev_store (M := M)); rfl; rfl; ((conv => lhs; whnf) <;> rfl); rfl; (first | exact siI | exact siR | exact siV | exact siB | exact siSI | exact siSV | exact siW | exact siSR | exact siSO | exact siO); (exact one_all rfl); (exact dl); (exact Nat.le_of_ble_eq_true rfl); clear M; intro w1 M; simp only [SX] at M; (try clear F); have F := fxd M); (try go_wp2_with fail); refine hK.out _ _ (by (exact ⟨kc, HKC.out mb dl⟩)) (fun hHeld => ?_); clear hK K; (try simp only [AX])
    refine tkY HQ hHeld 12 ?_
    refine wpAnyH_done (by kernel_rfl) ?_ _; clear HQ; (repeat clear hHeld)
    go_wp2
    (apply ret_cell_tmp (M := M); rfl; rfl; rfl; (exact dl); (first | exact agR | exact agV | exact agW | exact agO); (first | exact siI | exact siR | exact siV | exact siB | exact siSI | exact siSV | exact siW | exact siSR | exact siSO | exact siO); rfl)
    exact HZ.out (M.sel (.drop (.cons (.there (.there .here)) (.cons (.there (.there .here)) (.cons (.there (.there .here)) (.cons (.there (.there .here)) (.cons .here (.drop .refl))))))))
end Go.Proofs.Ytmidnaafljgbiaa
/- The law of the eldest that fits, of a drawn run. -/
namespace Go.Proofs.Ytmidnaafljgbiaa
open Go.RowKit
set_option maxRecDepth 100000

theorem first_yes {r : Rn} {kind : Int} (hok : runOk r = true) (hk : inB kind 0 3 = true) {j : Nat} {v : Vl} (hj : r.mail[j]? = some v) (hf : fitsOk v kind = true) (hb : ∀ i : Nat, i < j → ∀ x : Vl, r.mail[i]? = some x → fitsOk x kind = false) : runFirst r kind = ((j : Int), true) := by
  have hall := (runOk_parts hok).2.2.2.2.2.2.2.2.2.1
  have hf2 : fits v kind = true := by unfold fitsOk at hf; exact (Bool.and_eq_true_iff.1 hf).2
  have : firstIx r.mail kind = some j := by
    unfold firstIx
    rw [List.findIdx?_eq_some_iff_getElem]
    obtain ⟨hl, e⟩ := List.getElem?_eq_some_iff.1 hj
    refine ⟨hl, by rw [e]; exact hf2, fun i hi => ?_⟩
    have h1 := hb i hi _ (List.getElem?_eq_getElem (by omega))
    unfold fitsOk at h1
    have h2 := List.all_eq_true.1 hall _ (List.getElem_mem (l := r.mail) (n := i) (by omega))
    rw [h2, Bool.true_and] at h1
    simp [h1]
  unfold runFirst
  rw [hok, hk, this]
  rfl
theorem mailAt {w0 w : World} {f : List Nat} {L L' : List Asn} {g c : Nat} {mail : List Vl} (M : Mem w0 f w L) (hd : Del (row encV 2 tV (some ⟨g, 0, none⟩) c mail) L L') {j : Nat} {v : Vl} (hj : mail[j]? = some v) : w.cell? ⟨g, j * 2, none⟩ = some (.int .i64 v.k) ∧ w.cell? ⟨g, j * 2 + 1, none⟩ = some (.int .i64 v.n) := by
  obtain ⟨hl, rfl⟩ := List.getElem?_eq_some_iff.1 hj
  have h := (row_elem encV_length M hd hl).2.1
  exact ⟨h 0 (by decide), h 1 (by decide)⟩
theorem first_none {r : Rn} {kind : Int} (hok : runOk r = true) (hk : inB kind 0 3 = true) (hb : ∀ (i : Nat) (x : Vl), r.mail[i]? = some x → fitsOk x kind = false) : runFirst r kind = (0, false) := by
  have hall := (runOk_parts hok).2.2.2.2.2.2.2.2.2.1
  have : firstIx r.mail kind = none := by
    unfold firstIx
    rw [List.findIdx?_eq_none_iff]
    intro x hx
    obtain ⟨i, hi, rfl⟩ := List.getElem_of_mem hx
    have h1 := hb i _ (List.getElem?_eq_getElem hi)
    unfold fitsOk at h1
    have h2 := List.all_eq_true.1 hall _ hx
    rw [h2, Bool.true_and] at h1
    exact h1
  unfold runFirst
  rw [hok, hk, this]
  rfl
set_option maxHeartbeats 4000000 in
theorem fnRunFirst_small (A : Option Addr) (n c : Nat) (bs : Nat → Int) (w : World) (hb : BytesOk w A n bs) (hnc : n ≤ c) :
    Calls Try.prog 7 #[.slice A n c] w fun e w' => e = .returned (.bool true) ∧ Below w.heap.size w w' := by
  have AL := add_lit0
  have M := Mem.ofBytesB hb
  have HD : Hid (∀ {W : World} {L : List Asn}, Mem w (roB A n) W (ro w A n bs :: L) → Calls Try.prog 34 #[.slice A n c] W (DRF w A n w (roB A n) L)) := fun {W L} M => sDrawRunFirst w A n c bs hnc M
  have hn := hb.1
  have b1 : decide (1048576 < n) = false := by simp; omega
  clear hb hnc
  (try clear F); have F := fxd M
  go_enter Try.func7, Try.ntmps7
  go_upto_region 4 with (first
    | (with_reducible refine alAd M ?_; clear M; (try clear F); intro w1 M F)
    | ((with_reducible apply ev_store (M := M)); rfl; rfl; ((conv => lhs; whnf) <;> rfl); rfl; (first | exact siI | exact siR | exact siV | exact siB | exact siSI | exact siSV | exact siW | exact siSR | exact siSO | exact siO); (exact one_all rfl); (exact dl); (exact Nat.le_of_ble_eq_true rfl); clear M; intro w1 M; simp only [SX] at M; (try clear F); have F := fxd M)
    | (go_at_call 34; refine (HD.out (M.pull dl)).mono ?_; clear M; rintro e w2 ⟨⟨id, at_, slots, full, mail, state, due, links, watched, trap, ⟨wk, wn⟩, turns⟩, ⟨sA, sC, mA, mC, lA, lC, wA, wC⟩, kind, R, p, rfl, hr, hR, M⟩; have hR := Lib.hid hR; have hmail : mail.length ≤ 20 := hr.2.1; clear hr; (try simp only at M); (try clear F); have F := fxd M))
  generalize w2.heap.size = g3 at M ⊢
  (try clear F); have F := fxd M
  obtain ⟨⟨at9, ok9⟩, h9⟩ : ∃ q : Int × Bool, q = runFirst ⟨id, at_, slots, full, mail, state, due, links, watched, trap, ⟨wk, wn⟩, turns⟩ kind := ⟨_, rfl⟩
  have HI : Hid (∀ {U : World} {L1 L2 : List Asn}, Mem w (roB A n) U L1 → Del (runA ⟨id, at_, slots, full, mail, state, due, links, watched, trap, ⟨wk, wn⟩, turns⟩ ⟨sA, sC, mA, mC, lA, lC, wA, wC⟩) L1 L2 → Calls Try.prog 36 #[.agg (List.toArray [.int .i64 id, .int .i64 at_, .slice sA slots.length sC, .int .i64 full, .slice mA mail.length mC, .int .i64 state, .int .i64 due, .slice lA links.length lC, .slice wA watched.length wC, .bool trap, .int .i64 wk, .int .i64 wn, .int .i64 turns]), .int .i64 kind] U fun e w' => e = .returned (.tuple #[.int .i64 at9, .bool ok9]) ∧ Below U.heap.size U w') := fun {U L1 L2} M hd => by
    have h := iRunFirst ⟨id, at_, slots, full, mail, state, due, links, watched, trap, ⟨wk, wn⟩, turns⟩ ⟨sA, sC, mA, mC, lA, lC, wA, wC⟩ kind U.heap.size U (runA_reads (M.is hd)).1 (Nat.le_refl _)
    unfold FirstPost at h
    rw [← h9] at h
    exact h
  have HS : Hid (∀ {U : World} {L1 L2 : List Asn}, Mem w (roB A n) U L1 → Del (runA ⟨id, at_, slots, full, mail, state, due, links, watched, trap, ⟨wk, wn⟩, turns⟩ ⟨sA, sC, mA, mC, lA, lC, wA, wC⟩) L1 L2 → Calls Try.prog 35 #[.agg (List.toArray [.int .i64 id, .int .i64 at_, .slice sA slots.length sC, .int .i64 full, .slice mA mail.length mC, .int .i64 state, .int .i64 due, .slice lA links.length lC, .slice wA watched.length wC, .bool trap, .int .i64 wk, .int .i64 wn, .int .i64 turns]), .int .i64 kind] U fun e w' => e = .returned (.tuple #[.int .i64 at9, .bool ok9]) ∧ Below U.heap.size U w') := fun {U L1 L2} M hd => by
    have h := sRunFirst ⟨id, at_, slots, full, mail, state, due, links, watched, trap, ⟨wk, wn⟩, turns⟩ ⟨sA, sC, mA, mC, lA, lC, wA, wC⟩ kind U.heap.size U (runA_reads (M.is hd)).1 (Nat.le_refl _)
    unfold FirstPost at h
    rw [← h9] at h
    exact h
  have HO : Hid (∀ {b : Bool}, runOk ⟨id, at_, slots, full, mail, state, due, links, watched, trap, ⟨wk, wn⟩, turns⟩ = b → ∀ {U : World} {L1 L2 : List Asn}, Mem w (roB A n) U L1 → Del (runA ⟨id, at_, slots, full, mail, state, due, links, watched, trap, ⟨wk, wn⟩, turns⟩ ⟨sA, sC, mA, mC, lA, lC, wA, wC⟩) L1 L2 → Calls Try.prog 33 #[.agg (List.toArray [.int .i64 id, .int .i64 at_, .slice sA slots.length sC, .int .i64 full, .slice mA mail.length mC, .int .i64 state, .int .i64 due, .slice lA links.length lC, .slice wA watched.length wC, .bool trap, .int .i64 wk, .int .i64 wn, .int .i64 turns])] U fun e w' => e = .returned (.bool b) ∧ Below U.heap.size U w') := fun {b} h {U L1 L2} M hd => by
    rw [← h]; exact sRunOk ⟨id, at_, slots, full, mail, state, due, links, watched, trap, ⟨wk, wn⟩, turns⟩ ⟨sA, sC, mA, mC, lA, lC, wA, wC⟩ U.heap.size U (runA_reads (M.is hd)).1 (Nat.le_refl _)
  have HFt : Hid (∀ {v : Vl} {W : World}, Calls Try.prog 37 #[.agg #[.int .i64 v.k, .int .i64 v.n], .int .i64 kind] W fun e w' => e = .returned (.bool (fitsOk v kind)) ∧ Below W.heap.size W w') := fun {v W} => iFits v kind W
  have HYes : Hid (runOk ⟨id, at_, slots, full, mail, state, due, links, watched, trap, ⟨wk, wn⟩, turns⟩ = true → inB kind 0 3 = true → ∀ {j : Nat} {v : Vl}, mail[j]? = some v → fitsOk v kind = true → (∀ i : Nat, i < j → ∀ x : Vl, mail[i]? = some x → fitsOk x kind = false) → ok9 = true ∧ at9 = j) := fun h1 h2 j v h3 h4 h5 => by
    have h := first_yes (r := ⟨id, at_, slots, full, mail, state, due, links, watched, trap, ⟨wk, wn⟩, turns⟩) h1 h2 h3 h4 h5
    rw [← h9] at h
    injection h with e1 e2
    exact ⟨e2, e1⟩
  have HNo : Hid (runOk ⟨id, at_, slots, full, mail, state, due, links, watched, trap, ⟨wk, wn⟩, turns⟩ = true → inB kind 0 3 = true → (∀ (i : Nat) (x : Vl), mail[i]? = some x → fitsOk x kind = false) → ok9 = false) := fun h1 h2 h5 => by
    have h := first_none (r := ⟨id, at_, slots, full, mail, state, due, links, watched, trap, ⟨wk, wn⟩, turns⟩) h1 h2 h5
    rw [← h9] at h
    injection h
  have q1 : (ok9 != ok9) = false := by simp
  have q2 : (at9 != at9) = false := by simp
  have q3 : (ok9 == ok9) = true := by simp
  have q4 : (at9 == at9) = true := by simp
  clear h9
  cases hok : runOk ⟨id, at_, slots, full, mail, state, due, links, watched, trap, ⟨wk, wn⟩, turns⟩ with
  | false =>
    replace hok := Lib.hid hok
    cases ok9 with
      | true =>
        go_wp2_with (first | ((with_reducible apply ev_store (M := M)); rfl; rfl; ((conv => lhs; whnf) <;> rfl); rfl; (first | exact siI | exact siR | exact siV | exact siB | exact siSI | exact siSV | exact siW | exact siSR | exact siSO | exact siO); (exact one_all rfl); (exact dl); (exact Nat.le_of_ble_eq_true rfl); clear M; intro w1 M; simp only [SX] at M; (try clear F); have F := fxd M) | (go_at_call 36; (refine nmKd ?_; clear M; (try clear F); intro w1 M F); with_reducible refine (HI.out M dl).mono ?_; rintro e w2 ⟨rfl, hb⟩; replace M := M.below hb; clear hb; (try clear F); have F := fxd M) | (go_at_call 35; (refine nmKd ?_; clear M; (try clear F); intro w1 M F); with_reducible refine (HS.out M dl).mono ?_; rintro e w2 ⟨rfl, hb⟩; replace M := M.below hb; clear hb; (try clear F); have F := fxd M) | (go_at_call 33; (refine nmKd ?_; clear M; (try clear F); intro w1 M F); with_reducible refine (HO.out hok.out M dl).mono ?_; rintro e w2 ⟨rfl, hb⟩; replace M := M.below hb; clear hb; (try clear F); have F := fxd M))
        go_ret
        exact ⟨rfl, rdr_below M dl hR.out.1 hR.out.2⟩
      | false =>
        go_wp2_with (first | ((with_reducible apply ev_store (M := M)); rfl; rfl; ((conv => lhs; whnf) <;> rfl); rfl; (first | exact siI | exact siR | exact siV | exact siB | exact siSI | exact siSV | exact siW | exact siSR | exact siSO | exact siO); (exact one_all rfl); (exact dl); (exact Nat.le_of_ble_eq_true rfl); clear M; intro w1 M; simp only [SX] at M; (try clear F); have F := fxd M) | (go_at_call 36; (refine nmKd ?_; clear M; (try clear F); intro w1 M F); with_reducible refine (HI.out M dl).mono ?_; rintro e w2 ⟨rfl, hb⟩; replace M := M.below hb; clear hb; (try clear F); have F := fxd M) | (go_at_call 35; (refine nmKd ?_; clear M; (try clear F); intro w1 M F); with_reducible refine (HS.out M dl).mono ?_; rintro e w2 ⟨rfl, hb⟩; replace M := M.below hb; clear hb; (try clear F); have F := fxd M) | (go_at_call 33; (refine nmKd ?_; clear M; (try clear F); intro w1 M F); with_reducible refine (HO.out hok.out M dl).mono ?_; rintro e w2 ⟨rfl, hb⟩; replace M := M.below hb; clear hb; (try clear F); have F := fxd M))
        go_ret
        exact ⟨rfl, rdr_below M dl hR.out.1 hR.out.2⟩
  | true =>
    have hok1 := Lib.hid hok
    replace hok := Lib.hid hok
    by_cases c1 : kind < 0
    · have c2 : decide (kind < 0) = true := by simpa using c1
      cases ok9 with
      | true =>
        go_wp2_with (first | ((with_reducible apply ev_store (M := M)); rfl; rfl; ((conv => lhs; whnf) <;> rfl); rfl; (first | exact siI | exact siR | exact siV | exact siB | exact siSI | exact siSV | exact siW | exact siSR | exact siSO | exact siO); (exact one_all rfl); (exact dl); (exact Nat.le_of_ble_eq_true rfl); clear M; intro w1 M; simp only [SX] at M; (try clear F); have F := fxd M) | (go_at_call 36; (refine nmKd ?_; clear M; (try clear F); intro w1 M F); with_reducible refine (HI.out M dl).mono ?_; rintro e w2 ⟨rfl, hb⟩; replace M := M.below hb; clear hb; (try clear F); have F := fxd M) | (go_at_call 35; (refine nmKd ?_; clear M; (try clear F); intro w1 M F); with_reducible refine (HS.out M dl).mono ?_; rintro e w2 ⟨rfl, hb⟩; replace M := M.below hb; clear hb; (try clear F); have F := fxd M) | (go_at_call 33; (refine nmKd ?_; clear M; (try clear F); intro w1 M F); with_reducible refine (HO.out hok.out M dl).mono ?_; rintro e w2 ⟨rfl, hb⟩; replace M := M.below hb; clear hb; (try clear F); have F := fxd M))
        go_ret
        exact ⟨rfl, rdr_below M dl hR.out.1 hR.out.2⟩
      | false =>
        go_wp2_with (first | ((with_reducible apply ev_store (M := M)); rfl; rfl; ((conv => lhs; whnf) <;> rfl); rfl; (first | exact siI | exact siR | exact siV | exact siB | exact siSI | exact siSV | exact siW | exact siSR | exact siSO | exact siO); (exact one_all rfl); (exact dl); (exact Nat.le_of_ble_eq_true rfl); clear M; intro w1 M; simp only [SX] at M; (try clear F); have F := fxd M) | (go_at_call 36; (refine nmKd ?_; clear M; (try clear F); intro w1 M F); with_reducible refine (HI.out M dl).mono ?_; rintro e w2 ⟨rfl, hb⟩; replace M := M.below hb; clear hb; (try clear F); have F := fxd M) | (go_at_call 35; (refine nmKd ?_; clear M; (try clear F); intro w1 M F); with_reducible refine (HS.out M dl).mono ?_; rintro e w2 ⟨rfl, hb⟩; replace M := M.below hb; clear hb; (try clear F); have F := fxd M) | (go_at_call 33; (refine nmKd ?_; clear M; (try clear F); intro w1 M F); with_reducible refine (HO.out hok.out M dl).mono ?_; rintro e w2 ⟨rfl, hb⟩; replace M := M.below hb; clear hb; (try clear F); have F := fxd M))
        go_ret
        exact ⟨rfl, rdr_below M dl hR.out.1 hR.out.2⟩
    · by_cases c3 : 3 < kind
      · have c4 : decide (3 < kind) = true := by simpa using c3
        cases ok9 with
      | true =>
        go_wp2_with (first | ((with_reducible apply ev_store (M := M)); rfl; rfl; ((conv => lhs; whnf) <;> rfl); rfl; (first | exact siI | exact siR | exact siV | exact siB | exact siSI | exact siSV | exact siW | exact siSR | exact siSO | exact siO); (exact one_all rfl); (exact dl); (exact Nat.le_of_ble_eq_true rfl); clear M; intro w1 M; simp only [SX] at M; (try clear F); have F := fxd M) | (go_at_call 36; (refine nmKd ?_; clear M; (try clear F); intro w1 M F); with_reducible refine (HI.out M dl).mono ?_; rintro e w2 ⟨rfl, hb⟩; replace M := M.below hb; clear hb; (try clear F); have F := fxd M) | (go_at_call 35; (refine nmKd ?_; clear M; (try clear F); intro w1 M F); with_reducible refine (HS.out M dl).mono ?_; rintro e w2 ⟨rfl, hb⟩; replace M := M.below hb; clear hb; (try clear F); have F := fxd M) | (go_at_call 33; (refine nmKd ?_; clear M; (try clear F); intro w1 M F); with_reducible refine (HO.out hok.out M dl).mono ?_; rintro e w2 ⟨rfl, hb⟩; replace M := M.below hb; clear hb; (try clear F); have F := fxd M))
        go_ret
        exact ⟨rfl, rdr_below M dl hR.out.1 hR.out.2⟩
      | false =>
        go_wp2_with (first | ((with_reducible apply ev_store (M := M)); rfl; rfl; ((conv => lhs; whnf) <;> rfl); rfl; (first | exact siI | exact siR | exact siV | exact siB | exact siSI | exact siSV | exact siW | exact siSR | exact siSO | exact siO); (exact one_all rfl); (exact dl); (exact Nat.le_of_ble_eq_true rfl); clear M; intro w1 M; simp only [SX] at M; (try clear F); have F := fxd M) | (go_at_call 36; (refine nmKd ?_; clear M; (try clear F); intro w1 M F); with_reducible refine (HI.out M dl).mono ?_; rintro e w2 ⟨rfl, hb⟩; replace M := M.below hb; clear hb; (try clear F); have F := fxd M) | (go_at_call 35; (refine nmKd ?_; clear M; (try clear F); intro w1 M F); with_reducible refine (HS.out M dl).mono ?_; rintro e w2 ⟨rfl, hb⟩; replace M := M.below hb; clear hb; (try clear F); have F := fxd M) | (go_at_call 33; (refine nmKd ?_; clear M; (try clear F); intro w1 M F); with_reducible refine (HO.out hok.out M dl).mono ?_; rintro e w2 ⟨rfl, hb⟩; replace M := M.below hb; clear hb; (try clear F); have F := fxd M))
        go_ret
        exact ⟨rfl, rdr_below M dl hR.out.1 hR.out.2⟩
      · have hin := Lib.hid (inB_iff.2 (show (0 : Int) ≤ kind ∧ kind ≤ 3 by omega))
        have c2 : decide (kind < 0) = false := by simpa using c1
        have c4 : decide (3 < kind) = false := by simpa using c3
        go_upto_region 8 with (first | ((with_reducible apply ev_store (M := M)); rfl; rfl; ((conv => lhs; whnf) <;> rfl); rfl; (first | exact siI | exact siR | exact siV | exact siB | exact siSI | exact siSV | exact siW | exact siSR | exact siSO | exact siO); (exact one_all rfl); (exact dl); (exact Nat.le_of_ble_eq_true rfl); clear M; intro w1 M; simp only [SX] at M; (try clear F); have F := fxd M) | (go_at_call 36; (refine nmKd ?_; clear M; (try clear F); intro w1 M F); with_reducible refine (HI.out M dl).mono ?_; rintro e w2 ⟨rfl, hb⟩; replace M := M.below hb; clear hb; (try clear F); have F := fxd M) | (go_at_call 35; (refine nmKd ?_; clear M; (try clear F); intro w1 M F); with_reducible refine (HS.out M dl).mono ?_; rintro e w2 ⟨rfl, hb⟩; replace M := M.below hb; clear hb; (try clear F); have F := fxd M) | (go_at_call 33; (refine nmKd ?_; clear M; (try clear F); intro w1 M F); with_reducible refine (HO.out hok.out M dl).mono ?_; rintro e w2 ⟨rfl, hb⟩; replace M := M.below hb; clear hb; (try clear F); have F := fxd M))
        have MU : Mem w (roB A n) _ (runA ⟨id, at_, slots, full, mail, state, due, links, watched, trap, ⟨wk, wn⟩, turns⟩ ⟨sA, sC, mA, mC, lA, lC, wA, wC⟩ :: blk g3 tR [.int .i64 id, .int .i64 at_, .slice sA slots.length sC, .int .i64 full, .slice mA mail.length mC, .int .i64 state, .int .i64 due, .slice lA links.length lC, .slice wA watched.length wC, .bool trap, .int .i64 wk, .int .i64 wn, .int .i64 turns] :: rdr R p :: []) := M.sel (.cons (.there .here) (.cons .here .refl))
        have MB := Lib.hid (MU.unpackRun)
        clear M MU F
        go_wp2
        go_loopg [9] mail.length (fun gg v wr => ∃ j : Nat, j ≤ mail.length ∧ mail.length - j ≤ gg ∧ v = .int .i64 j ∧ (∀ i : Nat, i < j → ∀ x : Vl, mail[i]? = some x → fitsOk x kind = false) ∧ Hid (Mem w (roB A n) wr (row encV 2 tV sA sC slots :: row encV 2 tV mA mC mail :: row encI 1 tI lA lC links :: row encI 1 tI wA wC watched :: blk g3 tR [.int .i64 id, .int .i64 at_, .slice sA slots.length sC, .int .i64 full, .slice mA mail.length mC, .int .i64 state, .int .i64 due, .slice lA links.length lC, .slice wA watched.length wC, .bool trap, .int .i64 wk, .int .i64 wn, .int .i64 turns] :: rdr R p :: [])))
        case atStart => exact ⟨0, by omega, by omega, rfl, fun i hi => by omega, MB⟩
        case round =>
          clear MB
          obtain ⟨j, hj, hg, rfl, hb, M⟩ := hrel
          replace M := M.out
          have wj : IntKind.i64.wrap ((j : Int) + 1) = (j : Int) + 1 := by rw [IntKind.wrap_i64]; omega
          by_cases hlt : j < mail.length
          · obtain ⟨v, hv⟩ : ∃ v, mail[j]? = some v := ⟨_, List.getElem?_eq_getElem hlt⟩
            obtain ⟨gm, rfl⟩ := row_form M (.there .here) (by omega)
            have hc := mailAt M (.there .here) hv
            have j0 : (0 : Int) ≤ j := by omega
            have j1 : (j : Int) < mail.length := by omega
            have HY := Lib.hid (HYes.out hok1.out hin.out hv)
            have HB := Lib.hid hb
            have hv' := Lib.hid hv
            obtain ⟨vk, vn⟩ := v
            simp only at hc
            have HFv : Hid (∀ {b : Bool}, fitsOk ⟨vk, vn⟩ kind = b → ∀ {W : World}, Calls Try.prog 37 #[.agg #[.int .i64 vk, .int .i64 vn], .int .i64 kind] W fun e w' => e = .returned (.bool b) ∧ Below W.heap.size W w') := fun {b} h {W} => by rw [← h]; exact HFt.out
            clear hb hv
            (try clear F); have F := fxd M
            cases hf : fitsOk ⟨vk, vn⟩ kind with
            | true =>
              obtain ⟨rfl, rfl⟩ := HY.out hf HB.out
              replace hf := Lib.hid hf
              go_wp2_with (first | (go_at_call 37; (refine nmKd ?_; clear M; (try clear F); intro w1 M F); with_reducible refine (HFv.out hf.out).mono ?_; rintro e w2 ⟨rfl, hb⟩; replace M := M.below hb; clear hb; (try clear F); have F := fxd M))
              go_ret
              exact ⟨rfl, rdr_below M dl hR.out.1 hR.out.2⟩
            | false =>
              have hf' := Lib.hid hf
              replace hf := Lib.hid hf
              go_wp2_with (first | (go_at_call 37; (refine nmKd ?_; clear M; (try clear F); intro w1 M F); with_reducible refine (HFv.out hf.out).mono ?_; rintro e w2 ⟨rfl, hb⟩; replace M := M.below hb; clear hb; (try clear F); have F := fxd M))
              go_roundg (mail.length - (j + 1))
              case measure => omega
              case rel => exact ⟨j + 1, by omega, Nat.le_refl _, by go_num, fun i hi x hx => by
                by_cases e : i = j
                · subst e
                  rw [hv'.out] at hx
                  injection hx with hx
                  rw [← hx]
                  exact hf'.out
                · exact HB.out i (by omega) x hx, M⟩
          · have e0 := HNo.out hok1.out hin.out (fun i x hx => hb i (by have := (List.getElem?_eq_some_iff.1 hx).1; omega) x hx)
            subst e0
            have j9 : ¬ ((j : Int) < mail.length) := by omega
            have j8 : decide (j < mail.length) = false := by simpa using hlt
            (try clear F); have F := fxd M
            go_wp2
            go_ret
            exact ⟨rfl, rdr_below M dl hR.out.1 hR.out.2⟩
theorem fnRunFirst_huge (A : Option Addr) (n c : Nat) (w : World) (h : 1048576 < n) (hn : n ≤ 9223372036854775807) :
    Calls Try.prog 7 #[.slice A n c] w fun e w' => e = .returned (.bool true) ∧ Below w.heap.size w w' := by
  have b1 : decide (1048576 < n) = true := by simpa using h
  go_enter Try.func7, Try.ntmps7
  go_wp2
  go_ret
  exact ⟨rfl, Below.refl _ _⟩
theorem fnRunFirst_walk (A : Option Addr) (n c : Nat) (bs : Nat → Int) (w : World) (hb : BytesIn w A n bs) (hnc : n ≤ c) (hc : c ≤ maxLen) :
    Calls Try.prog 7 #[.slice A n c] w fun e w' => e = .returned (.bool true) ∧ Below w.heap.size w w' := by
  by_cases h : n ≤ 1048576
  · exact fnRunFirst_small A n c bs w ⟨h, hb⟩ hnc
  · exact fnRunFirst_huge A n c w (by omega) (by unfold maxLen at hc; omega)
end Go.Proofs.Ytmidnaafljgbiaa
/- The law FnRunFirst returns true at all arguments, and its arguments read behind the call as before. -/
namespace Go.Proofs.Ytmidnaafljgbiaa.fnRunFirst
open Go.ChangeShapes Go.WideShapes Go.ChangeAt Go.RowKit
open Go.ChangeMaps (open_string shut_string)
theorem own : ownKnob Try.prog.godebug = none := by kernel_rfl
theorem laidOut : laidOutB Try.prog = true := by kernel_rfl

set_option maxRecDepth 100000 in
theorem lifted (os : Os) (started : os.Started) (H : Type) (enc : TypeId × Value → H) :
    ReturnsInHanded {} Try.checked os 7 .any (Rows.fnRunFirstSpec.pre6 enc Try.prog Try.f7 Rows.fnRunFirstRow.domain false) (Rows.fnRunFirstSpec.post enc Try.prog Try.f7 false true false false) := by
  refine returnsInHanded_of_change_sized (C := Try.checked) own started (by kernel_rfl) Try.func7
    (ChangeSpec.witness6 (enc := enc) (C := Try.checked) false ⟨#[], #[.slice none 0 0], []⟩ 8 (by kernel_rfl) (by kernel_rfl) (by kernel_rfl) (by kernel_rfl)) ?_
  intro W base args ds gs before hval0 hW hcnd hsz0 _
  have hsz : (DataW.weightsEach Try.prog (Try.f7.params.toList ++ Rows.fnRunFirstSpec.plain.varTypes Try.prog) (ds ++ gs)).all (· ≤ reachBytes) = true := hsz0
  have hval : ∀ (j : Nat) t v, Try.f7.params[j]? = some t → args[j]? = some v → Value.okWide Try.prog W .any base t v := hval0
  have hW' := hW
  obtain ⟨p, q, hA0, hV, rfl, hfz, hnd⟩ := hW
  have hA : DataW.TrodAll enc Try.prog W 0 (fun _ => true) true Try.f7.params.toList args.toList ds p := hA0
  rw [Try.params7] at hA hval hsz
  obtain ⟨v0, vs0, d0, ds0, p0, q0, hargs, rfl, rfl, h0, r0⟩ := trodAll_cons hA
  obtain ⟨rfl, rfl, rfl⟩ := trodAll_nil r0
  obtain rfl : args = #[v0] := by cases args; simp_all
  obtain ⟨rfl, rfl⟩ := trodVars_none hV
  have lt0 : ∀ x ∈ p0, x.block < W.heap.size := by obtain ⟨m, hm⟩ := h0; exact DataW.trod_lt m _ _ _ hm
  obtain ⟨A0, n0, c0, bs0, rfl, hc0, hm0, hb0⟩ := open_bytesA (hval 0 54 v0 rfl rfl) h0
  clear hA0 hval0 hsz0 hsz
  refine (fnRunFirst_walk A0 n0 c0 bs0 W hb0 hc0 hm0).mono fun e W' ⟨he, bel⟩ => ?_
  subst he
  exact ⟨_, rfl, _, _, _, [], _, [], hW', trodAll_mk1 (shut_bool Try.underlying4 _), (trodAll_cons_mk (Below.trod laidOut (by kernel_rfl) (of_decide_eq_true (by kernel_rfl)) h0 bel lt0) trodAll_mk0), rfl, bel.frame _, fun h => by cases h⟩

theorem over : Rows.fnRunFirstRow.holds Try.pinned (OpenSpec.ofChange Rows.fnRunFirstSpec) :=
  OpenClaim.holds_of_wide 7 Try.f7 rfl rfl rfl rfl rfl rfl rfl ⟨rfl, rfl, rfl, rfl, rfl⟩ rfl rfl rfl rfl rfl (by kernel_rfl) Try.func7 (by kernel_rfl)
    (of_decide_eq_true (by kernel_rfl)) (by unfold Func.isWrapper; first | (rw [if_pos (by decide +kernel)]; kernel_rfl) | (rw [if_neg (by decide +kernel)]; exact ⟨rfl, rfl⟩))
    (fun os started H enc _ => lifted os started H enc)
theorem proved : Rows.FnRunFirstSaid := over
#print axioms proved
end Go.Proofs.Ytmidnaafljgbiaa.fnRunFirst
