/- Parts of the proof, in one text. -/
import Derived.LoopN
import Derived.IntWalk
import Derived.Test.YtmidnaafljgbiaaB03
import Derived.Test.YtmidnaafljgbiaaB02
import Derived.Test.YtmidnaafljgbiaaB06
import Derived.Test.YtmidnaafljgbiaaB38
import Derived.Test.YtmidnaafljgbiaaB04
import Derived.Test.YtmidnaafljgbiaaB27
import Derived.Test.YtmidnaafljgbiaaB44
import Derived.Test.YtmidnaafljgbiaaB46
/- Bytes that came in are held. -/
namespace Go.Proofs.Ytmidnaafljgbiaa
open Go.RowKit
theorem Mem.ofBytesB {W : World} {A : Option Addr} {n : Nat} {bs : Nat → Int} (h : BytesOk W A n bs) : Mem W (roB A n) W [ro W A n bs] := by
  refine ⟨⟨rfl, rfl, rfl, Nat.le_refl _, fun _ _ _ => rfl, fun k hk => .inl (by simpa [fps, ro] using hk), ?_⟩, fun X hX => ?_⟩
  · show (roB A n ++ []).Nodup
    unfold roB
    split
    · cases A <;> simp [ob]
    · simp
  · obtain rfl : X = ro W A n bs := by simpa using hX
    exact ⟨h, Nat.le_refl _, fun _ _ => rfl⟩
end Go.Proofs.Ytmidnaafljgbiaa
/- Three results, the second a number. -/
namespace Go.Proofs.Ytmidnaafljgbiaa
open Go.RowKit
section
variable {P : Program} {fn : Func} {R : Ending → World → Prop} {a : Act} {w0 w : World} {f : List Nat} {L L' L2 : List Asn} {d1 d2 d : Tmp} {t t1 tb tb1 : TypeId} {g g1 : Nat} {cs cs1 : List Value} {v1 v2 : Value}
theorem ret_ctc3 (hres : fn.results = #[.cell d t, .tmp d2, .cell d1 t1]) (h2 : a.tmps.getD d2 undef = v2) (h1 : a.tmps.getD d1 undef = .pointer (some ⟨g1, 0, none⟩)) (hx : a.tmps.getD d undef = .pointer (some ⟨g, 0, none⟩)) (M : Mem w0 f w L) (hd : Del (blk g tb cs) L L') (hd1 : Del (blk g1 tb1 cs1) L L2)
    (ha : ∀ W, (isAgg t).run P W = .ok true W) (ha1 : ∀ W, (isAgg t1).run P W = .ok true W) (hs : (P.info? t).map (·.size) = some cs.length) (hs1 : (P.info? t1).map (·.size) = some cs1.length) (hdef : a.defers = []) (hR : R (.returned (.tuple #[.agg cs.toArray, v2, .agg cs1.toArray])) w) : bodyPost P fn R .ret a w := by
  have hrun := run_loadAgg (P := P) (off := 0) (ha w) hs (M.pull hd).facts.1.2.1 (by omega : 0 + cs.length ≤ cs.length)
  have hrun1 := run_loadAgg (P := P) (off := 0) (ha1 w) hs1 (M.pull hd1).facts.1.2.1 (by omega : 0 + cs1.length ≤ cs1.length)
  simp only [List.drop_zero, List.take_length] at hrun hrun1
  refine ⟨hdef, _, ?_, hR⟩
  simp only [Array.getD_eq_getD_getElem?] at hx h1 h2
  simp [results, hres, hx, h1, h2, asAddr, hrun, hrun1]
end
end Go.Proofs.Ytmidnaafljgbiaa
/- What is put in a slot, once more (the shaken base has these no longer). -/
namespace Go.Proofs.Ytmidnaafljgbiaa
theorem runPut_eqB {r : Rn} (h : runOk r = true) {s : Int} (hs : inB s 0 3 = true) {v : Vl} (hv : valOk v = true) : runPut r s v = { r with slots := r.slots.set s.toNat v, full := withBit r.full s } := by
  simp [runPut, h, hs, hv]
theorem runPut_twiceB {r : Rn} (h : runOk r = true) {s : Int} (hs : inB s 0 3 = true) {v : Vl} (hv : valOk v = true) : runPut (runPut r s v) s v = runPut r s v := by
  obtain ⟨_, _, _, h4, _⟩ := runOk_parts h
  rw [runPut_eqB h hs hv, runPut_eqB (runOk_put h hs hv) hs hv]
  simp [(withBit_facts h4.1 h4.2 hs).2.2.2.1]
theorem runPut_twoB {r : Rn} (h : runOk r = true) {s t : Int} (hs : inB s 0 3 = true) (ht : inB t 0 3 = true) (hne : t ≠ s) {v u : Vl} (hv : valOk v = true) (hu : valOk u = true) : runPut (runPut r s v) t u = runPut (runPut r t u) s v := by
  obtain ⟨_, _, _, h4, _⟩ := runOk_parts h
  have b := inB_iff.1 hs
  have b' := inB_iff.1 ht
  rw [runPut_eqB h hs hv, runPut_eqB h ht hu, runPut_eqB (runOk_put h hs hv) ht hu, runPut_eqB (runOk_put h ht hu) hs hv]
  have e := (withBit_facts h4.1 h4.2 hs).2.2.2.2 t ht
  have e2 : (r.slots.set s.toNat v).set t.toNat u = (r.slots.set t.toNat u).set s.toNat v := List.set_comm _ _ (by omega)
  simp only [e, e2]
theorem runPut_overB {r : Rn} (h : runOk r = true) {s : Int} (hs : inB s 0 3 = true) {v u : Vl} (hv : valOk v = true) (hu : valOk u = true) : (runPut (runPut r s v) s u).slots.getD s.toNat Vl.zero = u ∧ (runPut r s v).slots.getD s.toNat Vl.zero = v := by
  obtain ⟨_, _, h3, _, _⟩ := runOk_parts h
  have b := inB_iff.1 hs
  rw [runPut_eqB h hs hv, runPut_eqB (runOk_put h hs hv) hs hu]
  simp [List.getD_eq_getElem?_getD, h3, show s.toNat < 4 by omega]
end Go.Proofs.Ytmidnaafljgbiaa
/- A run, a slot and a value are drawn from the bytes. -/
namespace Go.Proofs.Ytmidnaafljgbiaa
open Go.RowKit
set_option maxRecDepth 100000

def DRP (W0 : World) (A : Option Addr) (n : Nat) (w0 : World) (f : List Nat) (L : List Asn) (e : Ending) (w' : World) : Prop := ∃ (r : Rn) (a : RA) (s : Int) (v : Vl) (R : Rd) (p : Nat), e = .returned (.tuple #[.agg (runArr r a), .int .i64 s, .agg #[.int .i64 v.k, .int .i64 v.n]]) ∧ RSx r ∧ (0 ≤ s ∧ s ≤ 4) ∧ VlB v ∧ (R.W0 = W0 ∧ roB R.A R.n = roB A n) ∧ Mem w0 f w' (runA r a :: rdr R p :: L)
set_option maxHeartbeats 4000000 in
theorem sDrawRunPut (W0 : World) (A : Option Addr) (n c : Nat) (bs : Nat → Int) (hnc : n ≤ c) {w0 w : World} {f : List Nat} {L : List Asn} (M : Mem w0 f w (ro W0 A n bs :: L)) :
    Calls Try.prog 38 #[.slice A n c] w (DRP W0 A n w0 f L) := by
  have HOp : Hid (∀ {W : World} {L : List Asn}, Mem w0 f W (ro W0 A n bs :: L) → Calls Try.prog 72 #[.slice A n c] W fun e w' => ∃ R : Rd, e = .returned (.pointer (some ⟨R.g, 0, none⟩)) ∧ (R.W0 = W0 ∧ roB R.A R.n = roB A n) ∧ Mem w0 f w' (rdr R 0 :: L)) := fun {W L} M => sOpenW W0 A n c bs hnc M
  have HP := Lib.hid (fun R (m : Int) (hm : 1 ≤ m) (q : Nat) (hq : q ≤ 1000000000) W (L L' : List Asn) (M : Mem w0 f W L) (hd : Del (rdr R q) L L') => pick_of m hm R q hq M hd)
  have HRun : Hid (∀ (R : Rd) {U : World} {L1 L2 : List Asn}, Mem w0 f U L1 → Del (rdr R 0) L1 L2 → Calls Try.prog 73 #[.pointer (some ⟨R.g, 0, none⟩)] U (DRunPost R 0 w0 f L2)) := fun R U L1 L2 M hd => sRunD R 0 (by omega) M hd
  have HV : Hid (∀ (R : Rd) (q : Nat), q ≤ 900000000 → ∀ {U : World} {L1 L2 : List Asn}, Mem w0 f U L1 → Del (rdr R q) L1 L2 → Calls Try.prog 86 #[.pointer (some ⟨R.g, 0, none⟩)] U (ValPost R q w0 f L2)) := fun R q hq U L1 L2 M hd => sVal R q hq M hd
  clear hnc
  (try clear F); have F := fxd M
  go_enter Try.func38, Try.ntmps38
  go_wp2_with (first
    | (with_reducible refine alAd M ?_; clear M; (try clear F); intro w1 M F)
    | ((with_reducible apply ev_store (M := M)); rfl; rfl; ((conv => lhs; whnf) <;> rfl); rfl; (first | exact siI | exact siR | exact siV | exact siB | exact siSI | exact siSV | exact siW | exact siSR | exact siSO | exact siO); (exact one_all rfl); (exact dl); (exact Nat.le_of_ble_eq_true rfl); clear M; intro w1 M; simp only [SX] at M; (try clear F); have F := fxd M)
    | (go_at_call 72; (refine nmKd ?_; clear M; (try clear F); intro w1 M F); refine (HOp.out (M.pull dl)).mono ?_; clear M; rintro e w2 ⟨R, rfl, hR, M⟩; have hR := Lib.hid hR; (try clear F); have F := fxd M)
    | (go_at_call 73; (refine nmKd ?_; clear M; (try clear F); intro w1 M F); refine (HRun.out R M dl).mono ?_; clear M; rintro e w2 ⟨⟨id, at_, slots, full, mail, state, due, links, watched, trap, ⟨wk, wn⟩, turns⟩, ⟨sA, sC, mA, mC, lA, lC, wA, wC⟩, q, rfl, hr, hq1, hq2, M⟩; replace hr := Lib.hid hr; (try simp only at M); (try clear F); have F := fxd M)
    | (go_at_call_of 74 (Value.int .i64 4); (refine nmKd ?_; clear M; (try clear F); intro w1 M F); refine (HP.out R _ (by omega) _ ?_ _ _ _ M dl).mono ?_; omega; clear M; rintro e w2 ⟨i, rfl, i0, i1, M⟩; (try clear F); have F := fxd M)
    | (go_at_call_of 74 (Value.int .i64 24); (refine nmKd ?_; clear M; (try clear F); intro w1 M F); refine (HP.out R _ (by omega) _ ?_ _ _ _ M dl).mono ?_; omega; clear M; rintro e w2 ⟨k, rfl, k0, k1, M⟩; have wk1 : IntKind.i64.wrap (k / 23) = k / 23 := IntWalk.i64_in _ (by omega); have wk2 : IntKind.i64.wrap (i + k / 23) = i + k / 23 := IntWalk.i64_in _ (by omega); (try clear F); have F := fxd M)
    | (go_at_call 86; (refine nmKd ?_; clear M; (try clear F); intro w1 M F); refine (HV.out R _ ?_ M dl).mono ?_; omega; clear M; rintro e w2 ⟨⟨vk, vn⟩, q9, rfl, hv, hq8, hq9, M⟩; (try simp only at M); (try clear F); have F := fxd M))
  (apply ret_ctc3 (M := M); rfl; rfl; rfl; rfl; (exact dl); (exact dl); (first | exact agR | exact agV | exact agW | exact agO); (first | exact agR | exact agV | exact agW | exact agO); (first | exact siI | exact siR | exact siV | exact siB | exact siSI | exact siSV | exact siW | exact siSR | exact siSO | exact siO); (first | exact siI | exact siR | exact siV | exact siB | exact siSI | exact siSV | exact siW | exact siSR | exact siSO | exact siO); rfl)
  exact ⟨⟨id, at_, slots, full, mail, state, due, links, watched, trap, ⟨wk, wn⟩, turns⟩, ⟨sA, sC, mA, mC, lA, lC, wA, wC⟩, i + k / 23, ⟨vk, vn⟩, R, q9, rfl, hr.out, ⟨by omega, by omega⟩, hv, hR.out, M.sel sl⟩
end Go.Proofs.Ytmidnaafljgbiaa
/- Whether bits have that of a slot, by the laws' own function. -/
namespace Go.Proofs.Ytmidnaafljgbiaa
open Go.RowKit
set_option maxRecDepth 100000

theorem bit_of : (∀ f : Fin 16, hasBit (f.val : Int) ((0 : Nat) : Int) = ((f.val : Int) % 2 == 1)) ∧ (∀ f : Fin 16, hasBit (f.val : Int) ((1 : Nat) : Int) = ((f.val : Int) / 2 % 2 == 1)) ∧ (∀ f : Fin 16, hasBit (f.val : Int) ((2 : Nat) : Int) = ((f.val : Int) / 2 / 2 % 2 == 1)) ∧ (∀ f : Fin 16, hasBit (f.val : Int) ((3 : Nat) : Int) = ((f.val : Int) / 2 / 2 / 2 % 2 == 1)) := by decide +kernel
set_option maxHeartbeats 2000000 in
theorem lvBit (f s : Nat) (hf : f ≤ 15) (hs : s ≤ 3) (w : World) : Calls Try.prog 43 #[.int .i64 (f : Int), .int .i64 (s : Int)] w fun e w' => e = .returned (.bool (hasBit f s)) ∧ w = w' := by
  have w1 : IntKind.i64.wrap ((f : Int) / 2) = (f : Int) / 2 := IntWalk.i64_in _ (by omega)
  have w2 : IntKind.i64.wrap ((f : Int) / 2 / 2) = (f : Int) / 2 / 2 := IntWalk.i64_in _ (by omega)
  have w3 : IntKind.i64.wrap ((f : Int) / 2 / 2 / 2) = (f : Int) / 2 / 2 / 2 := IntWalk.i64_in _ (by omega)
  have h0 := Lib.hid (bit_of.1 ⟨f, by omega⟩)
  have h1 := Lib.hid (bit_of.2.1 ⟨f, by omega⟩)
  have h2 := Lib.hid (bit_of.2.2.1 ⟨f, by omega⟩)
  have h3 := Lib.hid (bit_of.2.2.2 ⟨f, by omega⟩)
  have h : s = 0 ∨ s = 1 ∨ s = 2 ∨ s = 3 := by omega
  rcases h with rfl | rfl | rfl | rfl
  · go_enter Try.func43, Try.ntmps43
    go_wp2
    refine wp_loop_rounds 1 ?_
    rw [rounds_succ]
    go_wp2
    go_ret
    exact ⟨congrArg (fun b => Ending.returned (.bool b)) h0.out.symm, rfl⟩
  · go_enter Try.func43, Try.ntmps43
    go_wp2
    refine wp_loop_rounds 2 ?_
    rw [rounds_succ]
    go_wp2
    rw [rounds_succ]
    go_wp2
    go_ret
    exact ⟨congrArg (fun b => Ending.returned (.bool b)) h1.out.symm, rfl⟩
  · go_enter Try.func43, Try.ntmps43
    go_wp2
    refine wp_loop_rounds 3 ?_
    rw [rounds_succ]
    go_wp2
    rw [rounds_succ]
    go_wp2
    rw [rounds_succ]
    go_wp2
    go_ret
    exact ⟨congrArg (fun b => Ending.returned (.bool b)) h2.out.symm, rfl⟩
  · go_enter Try.func43, Try.ntmps43
    go_wp2
    refine wp_loop_rounds 4 ?_
    rw [rounds_succ]
    go_wp2
    rw [rounds_succ]
    go_wp2
    rw [rounds_succ]
    go_wp2
    rw [rounds_succ]
    go_wp2
    go_ret
    exact ⟨congrArg (fun b => Ending.returned (.bool b)) h3.out.symm, rfl⟩
theorem lvBitI (f : Int) (s : Nat) (hf : 0 ≤ f ∧ f ≤ 15) (hs : s ≤ 3) (w : World) : Calls Try.prog 43 #[.int .i64 f, .int .i64 (s : Int)] w fun e w' => e = .returned (.bool (hasBit f s)) ∧ w = w' := by
  obtain ⟨k, rfl⟩ : ∃ k : Nat, f = k := ⟨f.toNat, by omega⟩
  exact lvBit k s (by omega) hs w
theorem slotForm {r : Rn} {a : RA} {W : World} (h : (runA r a).P W) (hl : 0 < r.slots.length) : ∃ g, a.sA = some ⟨g, 0, none⟩ := by
  have h1 : OwnL encV 2 tV W 0 (.slice a.sA r.slots.length a.sC) r.slots := h (rowV a.sA a.sC r.slots) (by simp [runL])
  obtain ⟨g, c', e1, _⟩ := OwnL.form h1 hl
  injection e1 with e1
  exact ⟨g, e1⟩
theorem slotCells {r : Rn} {g c : Nat} {mA lA wA : Option Addr} {mC lC wC : Nat} {W : World} {k : Nat} {v : Vl} (h : (runA r ⟨some ⟨g, 0, none⟩, c, mA, mC, lA, lC, wA, wC⟩).P W) (e : r.slots[k]? = some v) : W.cell? ⟨g, k * 2, none⟩ = some (.int .i64 v.k) ∧ W.cell? ⟨g, k * 2 + 1, none⟩ = some (.int .i64 v.n) := by
  have h1 : OwnL encV 2 tV W 0 (.slice (some ⟨g, 0, none⟩) r.slots.length c) r.slots := h (rowV (some ⟨g, 0, none⟩) c r.slots) (by simp [runL])
  obtain ⟨hl, rfl⟩ := List.getElem?_eq_some_iff.1 e
  exact ⟨(h1.cell encV_length (j := k) (i := 0) hl (by decide)).1, (h1.cell encV_length (j := k) (i := 1) hl (by decide)).1⟩
end Go.Proofs.Ytmidnaafljgbiaa
/- The reference's put, whole. -/
namespace Go.Proofs.Ytmidnaafljgbiaa
open Go.RowKit
set_option maxRecDepth 100000

set_option maxHeartbeats 2000000 in
theorem sRunPut (r : Rn) (a : RA) (s : Int) (v : Vl) {w0 w : World} {f : List Nat} {L L' : List Asn} (M : Mem w0 f w L) (hd : Del (runA r a) L L') (h3 : r.links.length ≤ 17592186044416) (h4 : r.watched.length ≤ 17592186044416) :
    Calls Try.prog 41 #[.agg (runArr r a), .int .i64 s, .agg #[.int .i64 v.k, .int .i64 v.n]] w fun e w' => ∃ b : RA, e = .returned (.agg (runArr (runPut r s v) b)) ∧ Mem w0 f w' (runA (runPut r s v) b :: runA r a :: L') := by
  have H1 := Lib.hid (fun W (h : ReadsRun W W.heap.size r a) => sRunOk r a W.heap.size W h (Nat.le_refl _))
  have H2 := Lib.hid (fun W => sSlot s W)
  have H3 := Lib.hid (fun W => sValOk v W)
  have HC := Lib.hid (fun (h : runOk r = true) W (hr : (runA r a).P W) => sCopy r a W.heap.size W (runA_reads hr).1 (Nat.le_refl _) (runA_reads hr).2 (by have := (runOk_shape h).1; omega) (by have := (runOk_shape h).2.2; omega) h3 h4)
  have HF := Lib.hid (fun (h : runOk r = true) (k : Nat) (hk : k < 4) W (L : List Asn) b (M : Mem w0 f W (runA r b :: L)) => sPutM r b k v M (runOk_shape h).1 hk (inB_iff.1 (runOk_shape h).2.1).1 (inB_iff.1 (runOk_shape h).2.1).2)
  replace M := M.pull hd
  clear hd h3 h4
  have e : runPut r s v = if runOk r && inB s 0 3 && valOk v then { r with slots := r.slots.set s.toNat v, full := withBit r.full s } else Rn.zero := rfl
  rw [e]
  clear e
  have hq : inB s 0 3 = true → ∃ k : Nat, s = k ∧ k < 4 := fun h => ⟨s.toNat, by have := inB_iff.1 h; omega, by have := inB_iff.1 h; omega⟩
  generalize runOk r = b1 at H1 HC HF ⊢
  generalize inB s 0 3 = b2 at H2 hq ⊢
  generalize valOk v = b3 at H3 ⊢
  obtain ⟨k, n⟩ := v
  obtain ⟨id, at_, slots, full, mail, state, due, links, watched, trap, ⟨wk, wn⟩, turns⟩ := r
  obtain ⟨sA, sC, mA, mC, lA, lC, wA, wC⟩ := a
  simp only [runArr] at H1 H3 HC HF ⊢
  by_cases hall : b1 = true ∧ b2 = true ∧ b3 = true
  · obtain ⟨rfl, rfl, rfl⟩ := hall
    obtain ⟨j, rfl, hj⟩ := hq rfl
    clear hq
    simp only [Bool.and_self, if_true, Int.toNat_natCast]
    go_enter Try.func41, Try.ntmps41
    go_wp2_with (first
      | (with_reducible refine alA M ?_; clear M; (try clear F); intro w1 M F) | ((with_reducible apply ev_store (M := M)); rfl; rfl; ((conv => lhs; whnf) <;> rfl); rfl; (first | exact siI | exact siR | exact siV | exact siB | exact siSI | exact siSV | exact siW | exact siSR | exact siSO | exact siO); (exact one_all rfl); (exact dl); (exact Nat.le_of_ble_eq_true rfl); clear M; intro w1 M; simp only [SX] at M; (try clear F); have F := fx M) | ((with_reducible refine goal_drewN (G := fun W => wpList _ _ _ _ _ W) M ?_); clear M; intro w1 M; (try clear F); have F := fx M) | ((with_reducible refine goal_drew (G := fun W => wpList _ _ _ _ _ W) M ?_); clear M; intro w1 M; (try clear F); have F := fx M) | ((with_reducible refine isSet (G := fun W => wpList _ _ _ _ _ W) ?_); (with_reducible refine nm (G := fun W => wpList _ _ _ _ _ W) ?_; clear M; (try clear F); intro w1 M F))
      | (go_at_call 33; refine (H1.out _ (M.runReads dl)).mono ?_; rintro e w2 ⟨rfl, hb⟩; replace M := M.below hb; clear hb; (try clear F); have F := fx M)
      | (go_at_call 89; refine (H2.out _).mono ?_; rintro e w2 ⟨rfl, rfl⟩)
      | (go_at_call 42; refine (H3.out _).mono ?_; rintro e w2 ⟨rfl, hb⟩; replace M := M.below hb; clear hb; (try clear F); have F := fx M))
    go_region_with (first
      | (go_at_call 49; (refine nmK ?_; clear M; (try clear F); intro w1 M F); refine (HC.out (by trivial) _ (M.is dl)).mono ?_; rintro e w2 ⟨⟨sA2, sC2, mA2, mC2, lA2, lC2, wA2, wC2⟩, rfl, ho, hb⟩; replace M := M.call0 (Mem.ofRun ho hb); clear ho hb; (try clear F); have F := fx M)
      | (go_at_call 90; (refine nmK ?_; clear M; (try clear F); intro w1 M F); refine (HF.out (by trivial) j hj _ _ ⟨sA2, sC2, mA2, mC2, lA2, lC2, wA2, wC2⟩ (M.sel sl)).mono ?_; clear M; rintro e w2 ⟨rfl, M⟩; (try clear F); have F := fx M))
    all_goals go_wp2
    all_goals (refine nm (G := fun W => bodyPost _ _ _ _ _ W) ?_; clear M; (try clear F); intro w1 M F)
    all_goals (try simp only [LX] at M)
    all_goals apply ret_cell (M := M); rfl; rfl; (exact dl); (first | exact agR | exact agV | exact agW | exact agO); (first | exact siI | exact siR | exact siV | exact siB | exact siSI | exact siSV | exact siW | exact siSR | exact siSO | exact siO); rfl
    all_goals (refine ⟨⟨sA2, sC2, mA2, mC2, lA2, lC2, wA2, wC2⟩, ?_, M.sel sl⟩; simp only [List.length_set])
  · have hn : (b1 && b2 && b3) = false := by revert hall; cases b1 <;> cases b2 <;> cases b3 <;> simp
    have h3 : b1 = false ∨ (b1 = true ∧ b2 = false) ∨ (b1 = true ∧ b2 = true ∧ b3 = false) := by revert hall; cases b1 <;> cases b2 <;> cases b3 <;> simp
    rw [hn]
    clear hq HC HF hall hn
    simp only [if_false, Bool.false_eq_true, Rn.zero, Vl.zero, List.length_nil]
    rcases h3 with rfl | ⟨rfl, rfl⟩ | ⟨rfl, rfl, rfl⟩
    all_goals
      go_enter Try.func41, Try.ntmps41
      go_wp2_with (first
        | (with_reducible refine alA M ?_; clear M; (try clear F); intro w1 M F) | ((with_reducible apply ev_store (M := M)); rfl; rfl; ((conv => lhs; whnf) <;> rfl); rfl; (first | exact siI | exact siR | exact siV | exact siB | exact siSI | exact siSV | exact siW | exact siSR | exact siSO | exact siO); (exact one_all rfl); (exact dl); (exact Nat.le_of_ble_eq_true rfl); clear M; intro w1 M; simp only [SX] at M; (try clear F); have F := fx M) | ((with_reducible refine goal_drewN (G := fun W => wpList _ _ _ _ _ W) M ?_); clear M; intro w1 M; (try clear F); have F := fx M) | ((with_reducible refine goal_drew (G := fun W => wpList _ _ _ _ _ W) M ?_); clear M; intro w1 M; (try clear F); have F := fx M) | ((with_reducible refine isSet (G := fun W => wpList _ _ _ _ _ W) ?_); (with_reducible refine nm (G := fun W => wpList _ _ _ _ _ W) ?_; clear M; (try clear F); intro w1 M F))
        | (go_at_call 33; refine (H1.out _ (M.runReads dl)).mono ?_; rintro e w2 ⟨rfl, hb⟩; replace M := M.below hb; clear hb; (try clear F); have F := fx M)
        | (go_at_call 89; refine (H2.out _).mono ?_; rintro e w2 ⟨rfl, rfl⟩)
        | (go_at_call 42; refine (H3.out _).mono ?_; rintro e w2 ⟨rfl, hb⟩; replace M := M.below hb; clear hb; (try clear F); have F := fx M))
      apply ret_cell (M := M); rfl; rfl; (exact dl); (first | exact agR | exact agV | exact agW | exact agO); (first | exact siI | exact siR | exact siV | exact siB | exact siSI | exact siSV | exact siW | exact siSR | exact siSO | exact siO); rfl
      exact ⟨⟨none, 0, none, 0, none, 0, none, 0⟩, rfl, runZ_mem (M.sel sl)⟩
end Go.Proofs.Ytmidnaafljgbiaa
/- The law of a drawn run and what is put in a slot of it. -/
namespace Go.Proofs.Ytmidnaafljgbiaa
open Go.RowKit
set_option maxRecDepth 100000

set_option maxHeartbeats 8000000 in
theorem fnRunPut_small (A : Option Addr) (n c : Nat) (bs : Nat → Int) (A2 : Option Addr) (n2 c2 : Nat) (w : World) (hb : BytesOk w A n bs) (hnc : n ≤ c) (hn2 : n2 ≤ 1048576) :
    Calls Try.prog 10 #[.slice A n c, .slice A2 n2 c2] w fun e w' => e = .returned (.bool true) ∧ Below w.heap.size w w' := by
  have AL := add_lit0
  have M := Mem.ofBytesB hb
  have HD : Hid (∀ {W : World} {L : List Asn}, Mem w (roB A n) W (ro w A n bs :: L) → Calls Try.prog 38 #[.slice A n c] W (DRP w A n w (roB A n) L)) := fun {W L} M => sDrawRunPut w A n c bs hnc M
  have hn := hb.1
  have b1 : decide (1048576 < n) = false := by simp; omega
  have b2 : decide (1048576 < n2) = false := by simp; omega
  clear hb hnc
  (try clear F); have F := fxd M
  go_enter Try.func10, Try.ntmps10
  go_upto_region 4 with (first
    | (with_reducible refine alAd M ?_; clear M; (try clear F); intro w1 M F)
    | ((with_reducible apply ev_store (M := M)); rfl; rfl; ((conv => lhs; whnf) <;> rfl); rfl; (first | exact siI | exact siR | exact siV | exact siB | exact siSI | exact siSV | exact siW | exact siSR | exact siSO | exact siO); (exact one_all rfl); (exact dl); (exact Nat.le_of_ble_eq_true rfl); clear M; intro w1 M; simp only [SX] at M; (try clear F); have F := fxd M)
    | (go_at_call 38; refine (HD.out (M.pull dl)).mono ?_; clear M; rintro e w2 ⟨⟨id, at_, slots, full, mail, state, due, links, watched, trap, ⟨wk, wn⟩, turns⟩, ⟨sA, sC, mA, mC, lA, lC, wA, wC⟩, s, ⟨vk, vn⟩, R, p, rfl, hr, hs, hv, hR, M⟩; have hR := Lib.hid hR; (try simp only at M); (try clear F); have F := fxd M))
  rename_i a1 a2 a3 _ _
  generalize a1.heap.size = g7 at M ⊢
  generalize w2.heap.size = g5 at M ⊢
  (try clear F); have F := fxd M
  have hll : links.length ≤ 7 := hr.2.2.1
  have hwl : watched.length ≤ 6 := hr.2.2.2
  clear hr hv
  obtain ⟨X, hX⟩ : ∃ X : Rn, X = runPut ⟨id, at_, slots, full, mail, state, due, links, watched, trap, ⟨wk, wn⟩, turns⟩ s ⟨vk, vn⟩ := ⟨_, rfl⟩
  have HIp : Hid (∀ {U : World} {L1 L2 : List Asn}, Mem w (roB A n) U L1 → Del (runA ⟨id, at_, slots, full, mail, state, due, links, watched, trap, ⟨wk, wn⟩, turns⟩ ⟨sA, sC, mA, mC, lA, lC, wA, wC⟩) L1 L2 → Calls Try.prog 39 #[.agg (List.toArray [.int .i64 id, .int .i64 at_, .slice sA slots.length sC, .int .i64 full, .slice mA mail.length mC, .int .i64 state, .int .i64 due, .slice lA links.length lC, .slice wA watched.length wC, .bool trap, .int .i64 wk, .int .i64 wn, .int .i64 turns]), .int .i64 s, .agg #[.int .i64 vk, .int .i64 vn]] U fun e w' => ∃ b : RA, e = .returned (.agg (runArr X b)) ∧ Mem w (roB A n) w' (runA X b :: runA ⟨id, at_, slots, full, mail, state, due, links, watched, trap, ⟨wk, wn⟩, turns⟩ ⟨sA, sC, mA, mC, lA, lC, wA, wC⟩ :: L2)) := fun {U L1 L2} M hd => by
    rw [hX]; exact iRunPut ⟨id, at_, slots, full, mail, state, due, links, watched, trap, ⟨wk, wn⟩, turns⟩ ⟨sA, sC, mA, mC, lA, lC, wA, wC⟩ s ⟨vk, vn⟩ M hd (by show links.length ≤ _; omega) (by show watched.length ≤ _; omega)
  have HSp : Hid (∀ {U : World} {L1 L2 : List Asn}, Mem w (roB A n) U L1 → Del (runA ⟨id, at_, slots, full, mail, state, due, links, watched, trap, ⟨wk, wn⟩, turns⟩ ⟨sA, sC, mA, mC, lA, lC, wA, wC⟩) L1 L2 → Calls Try.prog 41 #[.agg (List.toArray [.int .i64 id, .int .i64 at_, .slice sA slots.length sC, .int .i64 full, .slice mA mail.length mC, .int .i64 state, .int .i64 due, .slice lA links.length lC, .slice wA watched.length wC, .bool trap, .int .i64 wk, .int .i64 wn, .int .i64 turns]), .int .i64 s, .agg #[.int .i64 vk, .int .i64 vn]] U fun e w' => ∃ b : RA, e = .returned (.agg (runArr X b)) ∧ Mem w (roB A n) w' (runA X b :: runA ⟨id, at_, slots, full, mail, state, due, links, watched, trap, ⟨wk, wn⟩, turns⟩ ⟨sA, sC, mA, mC, lA, lC, wA, wC⟩ :: L2)) := fun {U L1 L2} M hd => by
    rw [hX]; exact sRunPut ⟨id, at_, slots, full, mail, state, due, links, watched, trap, ⟨wk, wn⟩, turns⟩ ⟨sA, sC, mA, mC, lA, lC, wA, wC⟩ s ⟨vk, vn⟩ M hd (by show links.length ≤ _; omega) (by show watched.length ≤ _; omega)
  have HLx : Hid (∀ {b b2 : RA} {U : World} {L1 L2 L3 : List Asn}, Mem w (roB A n) U L1 → Del (runA X b) L1 L2 → Del (runA X b2) L1 L3 → Calls Try.prog 40 #[.agg (runArr X b), .agg (runArr X b2)] U fun e w' => e = .returned (.bool true) ∧ Below U.heap.size U w') := fun {b b2 U L1 L2 L3} M hd hd2 =>
    lvRunOk X b b2 U.heap.size U (runA_reads (M.is hd)).1 (runA_reads (M.is hd2)).1 (Nat.le_refl _)
  have HO : Hid (∀ {b : Bool}, runOk ⟨id, at_, slots, full, mail, state, due, links, watched, trap, ⟨wk, wn⟩, turns⟩ = b → ∀ {U : World} {L1 L2 : List Asn}, Mem w (roB A n) U L1 → Del (runA ⟨id, at_, slots, full, mail, state, due, links, watched, trap, ⟨wk, wn⟩, turns⟩ ⟨sA, sC, mA, mC, lA, lC, wA, wC⟩) L1 L2 → Calls Try.prog 33 #[.agg (List.toArray [.int .i64 id, .int .i64 at_, .slice sA slots.length sC, .int .i64 full, .slice mA mail.length mC, .int .i64 state, .int .i64 due, .slice lA links.length lC, .slice wA watched.length wC, .bool trap, .int .i64 wk, .int .i64 wn, .int .i64 turns])] U fun e w' => e = .returned (.bool b) ∧ Below U.heap.size U w') := fun {b} h {U L1 L2} M hd => by
    rw [← h]; exact sRunOk ⟨id, at_, slots, full, mail, state, due, links, watched, trap, ⟨wk, wn⟩, turns⟩ ⟨sA, sC, mA, mC, lA, lC, wA, wC⟩ U.heap.size U (runA_reads (M.is hd)).1 (Nat.le_refl _)
  have HVx : Hid (∀ {b : Bool}, valOk ⟨vk, vn⟩ = b → ∀ {U : World}, Calls Try.prog 42 #[.agg #[.int .i64 vk, .int .i64 vn]] U fun e w' => e = .returned (.bool b) ∧ Below U.heap.size U w') := fun {b} h {U} => by rw [← h]; exact sValOk ⟨vk, vn⟩ U
  obtain ⟨xid, xat, xslots, xfull, xmail, xstate, xdue, xlinks, xwatched, xtrap, ⟨xwk, xwn⟩, xturns⟩ := X
  have HLv : Hid (∀ {sA1 mA1 lA1 wA1 sA2 mA2 lA2 wA2 : Option Addr} {sC1 mC1 lC1 wC1 sC2 mC2 lC2 wC2 : Nat} {U : World} {L1 L2 L3 : List Asn}, Mem w (roB A n) U L1 → Del (runA ⟨xid, xat, xslots, xfull, xmail, xstate, xdue, xlinks, xwatched, xtrap, ⟨xwk, xwn⟩, xturns⟩ ⟨sA1, sC1, mA1, mC1, lA1, lC1, wA1, wC1⟩) L1 L2 → Del (runA ⟨xid, xat, xslots, xfull, xmail, xstate, xdue, xlinks, xwatched, xtrap, ⟨xwk, xwn⟩, xturns⟩ ⟨sA2, sC2, mA2, mC2, lA2, lC2, wA2, wC2⟩) L1 L3 → Calls Try.prog 40 #[.agg (List.toArray [.int .i64 xid, .int .i64 xat, .slice sA1 xslots.length sC1, .int .i64 xfull, .slice mA1 xmail.length mC1, .int .i64 xstate, .int .i64 xdue, .slice lA1 xlinks.length lC1, .slice wA1 xwatched.length wC1, .bool xtrap, .int .i64 xwk, .int .i64 xwn, .int .i64 xturns]), .agg (List.toArray [.int .i64 xid, .int .i64 xat, .slice sA2 xslots.length sC2, .int .i64 xfull, .slice mA2 xmail.length mC2, .int .i64 xstate, .int .i64 xdue, .slice lA2 xlinks.length lC2, .slice wA2 xwatched.length wC2, .bool xtrap, .int .i64 xwk, .int .i64 xwn, .int .i64 xturns])] U fun e w' => e = .returned (.bool true) ∧ Below U.heap.size U w') := fun {sA1 mA1 lA1 wA1 sA2 mA2 lA2 wA2 sC1 mC1 lC1 wC1 sC2 mC2 lC2 wC2 U L1 L2 L3} M hd hd2 => HLx.out (b := ⟨sA1, sC1, mA1, mC1, lA1, lC1, wA1, wC1⟩) (b2 := ⟨sA2, sC2, mA2, mC2, lA2, lC2, wA2, wC2⟩) M hd hd2
  clear HLx
  replace hX := Lib.hid hX
  go_upto_region 5 with (first
    | (with_reducible refine alAd M ?_; clear M; (try clear F); intro w1 M F)
    | ((with_reducible apply ev_store (M := M)); rfl; rfl; ((conv => lhs; whnf) <;> rfl); rfl; (first | exact siI | exact siR | exact siV | exact siB | exact siSI | exact siSV | exact siW | exact siSR | exact siSO | exact siO); (exact one_all rfl); (exact dl); (exact Nat.le_of_ble_eq_true rfl); clear M; intro w1 M; simp only [SX] at M; (try clear F); have F := fxd M)
    | (go_at_call 39; (refine nmKd ?_; clear M; (try clear F); intro w1 M F); refine (HIp.out M dl).mono ?_; clear M; rintro e w2 ⟨⟨sA1, sC1, mA1, mC1, lA1, lC1, wA1, wC1⟩, rfl, M⟩; (try simp only at M); (try clear F); have F := fxd M))
  generalize w2.heap.size = g8 at M ⊢
  (try clear F); have F := fxd M
  cases hok : runOk ⟨id, at_, slots, full, mail, state, due, links, watched, trap, ⟨wk, wn⟩, turns⟩ with
  | false =>
    replace hok := Lib.hid hok
    go_upto_region 5 with fail
    refine held_begin (S := (fun W' => (∀ j, W'.cell? ⟨g5, j, none⟩ = ([.int .i64 id, .int .i64 at_, .slice sA slots.length sC, .int .i64 full, .slice mA mail.length mC, .int .i64 state, .int .i64 due, .slice lA links.length lC, .slice wA watched.length wC, .bool trap, .int .i64 wk, .int .i64 wn, .int .i64 turns] : List Value)[j]?) ∧ (∀ j, W'.cell? ⟨g7, j, none⟩ = ([.int .i64 vk, .int .i64 vn] : List Value)[j]?) ∧ ∀ j, W'.cell? ⟨g8, j, none⟩ = ([.int .i64 xid, .int .i64 xat, .slice sA1 xslots.length sC1, .int .i64 xfull, .slice mA1 xmail.length mC1, .int .i64 xstate, .int .i64 xdue, .slice lA1 xlinks.length lC1, .slice wA1 xwatched.length wC1, .bool xtrap, .int .i64 xwk, .int .i64 xwn, .int .i64 xturns] : List Value)[j]?)) (by kernel_rfl) (fun _ _ _ _ _ h => h) (by (exact ⟨kc, kc, kc⟩)) (fun HQ hHeld => ?_)
    refine tkY HQ hHeld 0 ?_; refine tkY HQ hHeld 1 ?_; refine tkY HQ hHeld 2 ?_; refine tkY HQ hHeld 3 ?_
    refine stp 4 (fun K hK => ?_); go_simp
    (first
      | (go_at_call 41; (refine nmKd ?_; clear M; (try clear F); intro w1 M F); with_reducible refine (HSp.out M dl).mono ?_; clear M; rintro e w2 ⟨⟨sA2, sC2, mA2, mC2, lA2, lC2, wA2, wC2⟩, rfl, M⟩; (try simp only at M); (try clear F); have F := fxd M)
      | (go_at_call 40; (refine nmKd ?_; clear M; (try clear F); intro w1 M F); with_reducible refine (HLv.out M dl dl).mono ?_; rintro e w2 ⟨rfl, hb⟩; replace M := M.below hb; clear hb; (try clear F); have F := fxd M)
      | (go_at_call 33; (refine nmKd ?_; clear M; (try clear F); intro w1 M F); with_reducible refine (HO.out hok.out M dl).mono ?_; rintro e w2 ⟨rfl, hb⟩; replace M := M.below hb; clear hb; (try clear F); have F := fxd M)
      | (go_at_call 42; (refine nmKd ?_; clear M; (try clear F); intro w1 M F); with_reducible refine (HVo.out).mono ?_; rintro e w2 ⟨rfl, hb⟩; replace M := M.below hb; clear hb; (try clear F); have F := fxd M))
    (try go_wp2_with fail); refine hK.out _ _ (by (exact ⟨kc, kc, kc⟩)) (fun hHeld => ?_); clear hK K; (try simp only [AX])
    refine stp 5 (fun K hK => ?_); go_simp
    (first
      | (go_at_call 41; (refine nmKd ?_; clear M; (try clear F); intro w1 M F); with_reducible refine (HSp.out M dl).mono ?_; clear M; rintro e w2 ⟨⟨sA2, sC2, mA2, mC2, lA2, lC2, wA2, wC2⟩, rfl, M⟩; (try simp only at M); (try clear F); have F := fxd M)
      | (go_at_call 40; (refine nmKd ?_; clear M; (try clear F); intro w1 M F); with_reducible refine (HLv.out M dl dl).mono ?_; rintro e w2 ⟨rfl, hb⟩; replace M := M.below hb; clear hb; (try clear F); have F := fxd M)
      | (go_at_call 33; (refine nmKd ?_; clear M; (try clear F); intro w1 M F); with_reducible refine (HO.out hok.out M dl).mono ?_; rintro e w2 ⟨rfl, hb⟩; replace M := M.below hb; clear hb; (try clear F); have F := fxd M)
      | (go_at_call 42; (refine nmKd ?_; clear M; (try clear F); intro w1 M F); with_reducible refine (HVo.out).mono ?_; rintro e w2 ⟨rfl, hb⟩; replace M := M.below hb; clear hb; (try clear F); have F := fxd M))
    (try go_wp2_with fail); refine hK.out _ _ (by (exact ⟨kc, kc, kc⟩)) (fun hHeld => ?_); clear hK K; (try simp only [AX])
    refine tkY HQ hHeld 6 ?_; refine tkY HQ hHeld 7 ?_; refine tkY HQ hHeld 8 ?_
    refine stp 9 (fun K hK => ?_); go_simp
    (first
      | (go_at_call 41; (refine nmKd ?_; clear M; (try clear F); intro w1 M F); with_reducible refine (HSp.out M dl).mono ?_; clear M; rintro e w2 ⟨⟨sA2, sC2, mA2, mC2, lA2, lC2, wA2, wC2⟩, rfl, M⟩; (try simp only at M); (try clear F); have F := fxd M)
      | (go_at_call 40; (refine nmKd ?_; clear M; (try clear F); intro w1 M F); with_reducible refine (HLv.out M dl dl).mono ?_; rintro e w2 ⟨rfl, hb⟩; replace M := M.below hb; clear hb; (try clear F); have F := fxd M)
      | (go_at_call 33; (refine nmKd ?_; clear M; (try clear F); intro w1 M F); with_reducible refine (HO.out hok.out M dl).mono ?_; rintro e w2 ⟨rfl, hb⟩; replace M := M.below hb; clear hb; (try clear F); have F := fxd M)
      | (go_at_call 42; (refine nmKd ?_; clear M; (try clear F); intro w1 M F); with_reducible refine (HVo.out).mono ?_; rintro e w2 ⟨rfl, hb⟩; replace M := M.below hb; clear hb; (try clear F); have F := fxd M))
    (try go_wp2_with fail); refine hK.out _ _ (by (exact ⟨kc, kc, kc⟩)) (fun hHeld => ?_); clear hK K; (try simp only [AX])
    refine tkY HQ hHeld 10 ?_; refine tkY HQ hHeld 11 ?_; refine tkY HQ hHeld 12 ?_; refine tkN HQ hHeld 13 ?_; refine tkN HQ hHeld 14 ?_; refine tkY HQ hHeld 15 ?_; refine tkY HQ hHeld 16 ?_; refine tkN HQ hHeld 17 ?_; refine tkN HQ hHeld 18 ?_; refine tkY HQ hHeld 19 ?_; refine tkY HQ hHeld 20 ?_; refine tkN HQ hHeld 21 ?_; refine tkN HQ hHeld 22 ?_; refine tkN HQ hHeld 23 ?_; refine tkY HQ hHeld 24 ?_
    refine wpAnyH_done (by kernel_rfl) ?_ _; clear HQ; (repeat clear hHeld)
    (try clear F); have F := fxd M
    go_upto_region 6 with fail
    refine held_begin (S := (fun W' => (∀ j, W'.cell? ⟨g5, j, none⟩ = ([.int .i64 id, .int .i64 at_, .slice sA slots.length sC, .int .i64 full, .slice mA mail.length mC, .int .i64 state, .int .i64 due, .slice lA links.length lC, .slice wA watched.length wC, .bool trap, .int .i64 wk, .int .i64 wn, .int .i64 turns] : List Value)[j]?) ∧ (∀ j, W'.cell? ⟨g7, j, none⟩ = ([.int .i64 vk, .int .i64 vn] : List Value)[j]?) ∧ ∀ j, W'.cell? ⟨g8, j, none⟩ = ([.int .i64 xid, .int .i64 xat, .slice sA1 xslots.length sC1, .int .i64 xfull, .slice mA1 xmail.length mC1, .int .i64 xstate, .int .i64 xdue, .slice lA1 xlinks.length lC1, .slice wA1 xwatched.length wC1, .bool xtrap, .int .i64 xwk, .int .i64 xwn, .int .i64 xturns] : List Value)[j]?)) (by kernel_rfl) (fun _ _ _ _ _ h => h) (by (exact ⟨kc, kc, kc⟩)) (fun HQ hHeld => ?_)
    refine tkY HQ hHeld 0 ?_; refine tkY HQ hHeld 1 ?_; refine tkY HQ hHeld 2 ?_; refine tkY HQ hHeld 3 ?_
    refine stp 4 (fun K hK => ?_); go_simp
    (first
      | (go_at_call 41; (refine nmKd ?_; clear M; (try clear F); intro w1 M F); with_reducible refine (HSp.out M dl).mono ?_; clear M; rintro e w2 ⟨⟨sA2, sC2, mA2, mC2, lA2, lC2, wA2, wC2⟩, rfl, M⟩; (try simp only at M); (try clear F); have F := fxd M)
      | (go_at_call 40; (refine nmKd ?_; clear M; (try clear F); intro w1 M F); with_reducible refine (HLv.out M dl dl).mono ?_; rintro e w2 ⟨rfl, hb⟩; replace M := M.below hb; clear hb; (try clear F); have F := fxd M)
      | (go_at_call 33; (refine nmKd ?_; clear M; (try clear F); intro w1 M F); with_reducible refine (HO.out hok.out M dl).mono ?_; rintro e w2 ⟨rfl, hb⟩; replace M := M.below hb; clear hb; (try clear F); have F := fxd M)
      | (go_at_call 42; (refine nmKd ?_; clear M; (try clear F); intro w1 M F); with_reducible refine (HVo.out).mono ?_; rintro e w2 ⟨rfl, hb⟩; replace M := M.below hb; clear hb; (try clear F); have F := fxd M))
    (try go_wp2_with fail); refine hK.out _ _ (by (exact ⟨kc, kc, kc⟩)) (fun hHeld => ?_); clear hK K; (try simp only [AX])
    refine stp 5 (fun K hK => ?_); go_simp
    (first
      | (go_at_call 41; (refine nmKd ?_; clear M; (try clear F); intro w1 M F); with_reducible refine (HSp.out M dl).mono ?_; clear M; rintro e w2 ⟨⟨sA2, sC2, mA2, mC2, lA2, lC2, wA2, wC2⟩, rfl, M⟩; (try simp only at M); (try clear F); have F := fxd M)
      | (go_at_call 40; (refine nmKd ?_; clear M; (try clear F); intro w1 M F); with_reducible refine (HLv.out M dl dl).mono ?_; rintro e w2 ⟨rfl, hb⟩; replace M := M.below hb; clear hb; (try clear F); have F := fxd M)
      | (go_at_call 33; (refine nmKd ?_; clear M; (try clear F); intro w1 M F); with_reducible refine (HO.out hok.out M dl).mono ?_; rintro e w2 ⟨rfl, hb⟩; replace M := M.below hb; clear hb; (try clear F); have F := fxd M)
      | (go_at_call 42; (refine nmKd ?_; clear M; (try clear F); intro w1 M F); with_reducible refine (HVo.out).mono ?_; rintro e w2 ⟨rfl, hb⟩; replace M := M.below hb; clear hb; (try clear F); have F := fxd M))
    (try go_wp2_with fail); refine hK.out _ _ (by (exact ⟨kc, kc, kc⟩)) (fun hHeld => ?_); clear hK K; (try simp only [AX])
    refine tkY HQ hHeld 6 ?_
    refine wpAnyH_done (by kernel_rfl) ?_ _; clear HQ; (repeat clear hHeld)
    go_wp2
    go_ret
    exact ⟨rfl, rdr_below M dl hR.out.1 hR.out.2⟩
  | true =>
    have hok1 := Lib.hid hok
    replace hok := Lib.hid hok
    have c2 : decide (s < 0) = false := by simp; omega
    by_cases c3 : 3 < s
    · have c4 : decide (3 < s) = true := by simpa using c3
      go_upto_region 5 with fail
      refine held_begin (S := (fun W' => (∀ j, W'.cell? ⟨g5, j, none⟩ = ([.int .i64 id, .int .i64 at_, .slice sA slots.length sC, .int .i64 full, .slice mA mail.length mC, .int .i64 state, .int .i64 due, .slice lA links.length lC, .slice wA watched.length wC, .bool trap, .int .i64 wk, .int .i64 wn, .int .i64 turns] : List Value)[j]?) ∧ (∀ j, W'.cell? ⟨g7, j, none⟩ = ([.int .i64 vk, .int .i64 vn] : List Value)[j]?) ∧ ∀ j, W'.cell? ⟨g8, j, none⟩ = ([.int .i64 xid, .int .i64 xat, .slice sA1 xslots.length sC1, .int .i64 xfull, .slice mA1 xmail.length mC1, .int .i64 xstate, .int .i64 xdue, .slice lA1 xlinks.length lC1, .slice wA1 xwatched.length wC1, .bool xtrap, .int .i64 xwk, .int .i64 xwn, .int .i64 xturns] : List Value)[j]?)) (by kernel_rfl) (fun _ _ _ _ _ h => h) (by (exact ⟨kc, kc, kc⟩)) (fun HQ hHeld => ?_)
      refine tkY HQ hHeld 0 ?_; refine tkY HQ hHeld 1 ?_; refine tkY HQ hHeld 2 ?_; refine tkY HQ hHeld 3 ?_
      refine stp 4 (fun K hK => ?_); go_simp
      (first
      | (go_at_call 41; (refine nmKd ?_; clear M; (try clear F); intro w1 M F); with_reducible refine (HSp.out M dl).mono ?_; clear M; rintro e w2 ⟨⟨sA2, sC2, mA2, mC2, lA2, lC2, wA2, wC2⟩, rfl, M⟩; (try simp only at M); (try clear F); have F := fxd M)
      | (go_at_call 40; (refine nmKd ?_; clear M; (try clear F); intro w1 M F); with_reducible refine (HLv.out M dl dl).mono ?_; rintro e w2 ⟨rfl, hb⟩; replace M := M.below hb; clear hb; (try clear F); have F := fxd M)
      | (go_at_call 33; (refine nmKd ?_; clear M; (try clear F); intro w1 M F); with_reducible refine (HO.out hok.out M dl).mono ?_; rintro e w2 ⟨rfl, hb⟩; replace M := M.below hb; clear hb; (try clear F); have F := fxd M)
      | (go_at_call 42; (refine nmKd ?_; clear M; (try clear F); intro w1 M F); with_reducible refine (HVo.out).mono ?_; rintro e w2 ⟨rfl, hb⟩; replace M := M.below hb; clear hb; (try clear F); have F := fxd M))
      (try go_wp2_with fail); refine hK.out _ _ (by (exact ⟨kc, kc, kc⟩)) (fun hHeld => ?_); clear hK K; (try simp only [AX])
      refine stp 5 (fun K hK => ?_); go_simp
      (first
      | (go_at_call 41; (refine nmKd ?_; clear M; (try clear F); intro w1 M F); with_reducible refine (HSp.out M dl).mono ?_; clear M; rintro e w2 ⟨⟨sA2, sC2, mA2, mC2, lA2, lC2, wA2, wC2⟩, rfl, M⟩; (try simp only at M); (try clear F); have F := fxd M)
      | (go_at_call 40; (refine nmKd ?_; clear M; (try clear F); intro w1 M F); with_reducible refine (HLv.out M dl dl).mono ?_; rintro e w2 ⟨rfl, hb⟩; replace M := M.below hb; clear hb; (try clear F); have F := fxd M)
      | (go_at_call 33; (refine nmKd ?_; clear M; (try clear F); intro w1 M F); with_reducible refine (HO.out hok.out M dl).mono ?_; rintro e w2 ⟨rfl, hb⟩; replace M := M.below hb; clear hb; (try clear F); have F := fxd M)
      | (go_at_call 42; (refine nmKd ?_; clear M; (try clear F); intro w1 M F); with_reducible refine (HVo.out).mono ?_; rintro e w2 ⟨rfl, hb⟩; replace M := M.below hb; clear hb; (try clear F); have F := fxd M))
      (try go_wp2_with fail); refine hK.out _ _ (by (exact ⟨kc, kc, kc⟩)) (fun hHeld => ?_); clear hK K; (try simp only [AX])
      refine tkY HQ hHeld 6 ?_; refine tkY HQ hHeld 7 ?_; refine tkY HQ hHeld 8 ?_
      refine stp 9 (fun K hK => ?_); go_simp
      (first
      | (go_at_call 41; (refine nmKd ?_; clear M; (try clear F); intro w1 M F); with_reducible refine (HSp.out M dl).mono ?_; clear M; rintro e w2 ⟨⟨sA2, sC2, mA2, mC2, lA2, lC2, wA2, wC2⟩, rfl, M⟩; (try simp only at M); (try clear F); have F := fxd M)
      | (go_at_call 40; (refine nmKd ?_; clear M; (try clear F); intro w1 M F); with_reducible refine (HLv.out M dl dl).mono ?_; rintro e w2 ⟨rfl, hb⟩; replace M := M.below hb; clear hb; (try clear F); have F := fxd M)
      | (go_at_call 33; (refine nmKd ?_; clear M; (try clear F); intro w1 M F); with_reducible refine (HO.out hok.out M dl).mono ?_; rintro e w2 ⟨rfl, hb⟩; replace M := M.below hb; clear hb; (try clear F); have F := fxd M)
      | (go_at_call 42; (refine nmKd ?_; clear M; (try clear F); intro w1 M F); with_reducible refine (HVo.out).mono ?_; rintro e w2 ⟨rfl, hb⟩; replace M := M.below hb; clear hb; (try clear F); have F := fxd M))
      (try go_wp2_with fail); refine hK.out _ _ (by (exact ⟨kc, kc, kc⟩)) (fun hHeld => ?_); clear hK K; (try simp only [AX])
      refine tkY HQ hHeld 10 ?_; refine tkY HQ hHeld 11 ?_; refine tkY HQ hHeld 12 ?_; refine tkY HQ hHeld 13 ?_; refine tkY HQ hHeld 14 ?_; refine tkY HQ hHeld 15 ?_; refine tkY HQ hHeld 16 ?_; refine tkY HQ hHeld 17 ?_; refine tkY HQ hHeld 18 ?_; refine tkY HQ hHeld 19 ?_; refine tkY HQ hHeld 20 ?_; refine tkN HQ hHeld 21 ?_; refine tkN HQ hHeld 22 ?_; refine tkN HQ hHeld 23 ?_; refine tkY HQ hHeld 24 ?_
      refine wpAnyH_done (by kernel_rfl) ?_ _; clear HQ; (repeat clear hHeld)
      (try clear F); have F := fxd M
      go_upto_region 6 with fail
      refine held_begin (S := (fun W' => (∀ j, W'.cell? ⟨g5, j, none⟩ = ([.int .i64 id, .int .i64 at_, .slice sA slots.length sC, .int .i64 full, .slice mA mail.length mC, .int .i64 state, .int .i64 due, .slice lA links.length lC, .slice wA watched.length wC, .bool trap, .int .i64 wk, .int .i64 wn, .int .i64 turns] : List Value)[j]?) ∧ (∀ j, W'.cell? ⟨g7, j, none⟩ = ([.int .i64 vk, .int .i64 vn] : List Value)[j]?) ∧ ∀ j, W'.cell? ⟨g8, j, none⟩ = ([.int .i64 xid, .int .i64 xat, .slice sA1 xslots.length sC1, .int .i64 xfull, .slice mA1 xmail.length mC1, .int .i64 xstate, .int .i64 xdue, .slice lA1 xlinks.length lC1, .slice wA1 xwatched.length wC1, .bool xtrap, .int .i64 xwk, .int .i64 xwn, .int .i64 xturns] : List Value)[j]?)) (by kernel_rfl) (fun _ _ _ _ _ h => h) (by (exact ⟨kc, kc, kc⟩)) (fun HQ hHeld => ?_)
      refine tkY HQ hHeld 0 ?_; refine tkY HQ hHeld 1 ?_; refine tkY HQ hHeld 2 ?_; refine tkY HQ hHeld 3 ?_
      refine stp 4 (fun K hK => ?_); go_simp
      (first
      | (go_at_call 41; (refine nmKd ?_; clear M; (try clear F); intro w1 M F); with_reducible refine (HSp.out M dl).mono ?_; clear M; rintro e w2 ⟨⟨sA2, sC2, mA2, mC2, lA2, lC2, wA2, wC2⟩, rfl, M⟩; (try simp only at M); (try clear F); have F := fxd M)
      | (go_at_call 40; (refine nmKd ?_; clear M; (try clear F); intro w1 M F); with_reducible refine (HLv.out M dl dl).mono ?_; rintro e w2 ⟨rfl, hb⟩; replace M := M.below hb; clear hb; (try clear F); have F := fxd M)
      | (go_at_call 33; (refine nmKd ?_; clear M; (try clear F); intro w1 M F); with_reducible refine (HO.out hok.out M dl).mono ?_; rintro e w2 ⟨rfl, hb⟩; replace M := M.below hb; clear hb; (try clear F); have F := fxd M)
      | (go_at_call 42; (refine nmKd ?_; clear M; (try clear F); intro w1 M F); with_reducible refine (HVo.out).mono ?_; rintro e w2 ⟨rfl, hb⟩; replace M := M.below hb; clear hb; (try clear F); have F := fxd M))
      (try go_wp2_with fail); refine hK.out _ _ (by (exact ⟨kc, kc, kc⟩)) (fun hHeld => ?_); clear hK K; (try simp only [AX])
      refine stp 5 (fun K hK => ?_); go_simp
      (first
      | (go_at_call 41; (refine nmKd ?_; clear M; (try clear F); intro w1 M F); with_reducible refine (HSp.out M dl).mono ?_; clear M; rintro e w2 ⟨⟨sA2, sC2, mA2, mC2, lA2, lC2, wA2, wC2⟩, rfl, M⟩; (try simp only at M); (try clear F); have F := fxd M)
      | (go_at_call 40; (refine nmKd ?_; clear M; (try clear F); intro w1 M F); with_reducible refine (HLv.out M dl dl).mono ?_; rintro e w2 ⟨rfl, hb⟩; replace M := M.below hb; clear hb; (try clear F); have F := fxd M)
      | (go_at_call 33; (refine nmKd ?_; clear M; (try clear F); intro w1 M F); with_reducible refine (HO.out hok.out M dl).mono ?_; rintro e w2 ⟨rfl, hb⟩; replace M := M.below hb; clear hb; (try clear F); have F := fxd M)
      | (go_at_call 42; (refine nmKd ?_; clear M; (try clear F); intro w1 M F); with_reducible refine (HVo.out).mono ?_; rintro e w2 ⟨rfl, hb⟩; replace M := M.below hb; clear hb; (try clear F); have F := fxd M))
      (try go_wp2_with fail); refine hK.out _ _ (by (exact ⟨kc, kc, kc⟩)) (fun hHeld => ?_); clear hK K; (try simp only [AX])
      refine tkY HQ hHeld 6 ?_
      refine wpAnyH_done (by kernel_rfl) ?_ _; clear HQ; (repeat clear hHeld)
      go_wp2
      go_ret
      exact ⟨rfl, rdr_below M dl hR.out.1 hR.out.2⟩
    · have c4 : decide (3 < s) = false := by simpa using c3
      cases hvk : valOk ⟨vk, vn⟩ with
      | false =>
        replace hvk := Lib.hid hvk
        have HVo : Hid (∀ {U : World}, Calls Try.prog 42 #[.agg #[.int .i64 vk, .int .i64 vn]] U fun e w' => e = .returned (.bool false) ∧ Below U.heap.size U w') := fun {U} => HVx.out hvk.out
        go_upto_region 5 with fail
        refine held_begin (S := (fun W' => (∀ j, W'.cell? ⟨g5, j, none⟩ = ([.int .i64 id, .int .i64 at_, .slice sA slots.length sC, .int .i64 full, .slice mA mail.length mC, .int .i64 state, .int .i64 due, .slice lA links.length lC, .slice wA watched.length wC, .bool trap, .int .i64 wk, .int .i64 wn, .int .i64 turns] : List Value)[j]?) ∧ (∀ j, W'.cell? ⟨g7, j, none⟩ = ([.int .i64 vk, .int .i64 vn] : List Value)[j]?) ∧ ∀ j, W'.cell? ⟨g8, j, none⟩ = ([.int .i64 xid, .int .i64 xat, .slice sA1 xslots.length sC1, .int .i64 xfull, .slice mA1 xmail.length mC1, .int .i64 xstate, .int .i64 xdue, .slice lA1 xlinks.length lC1, .slice wA1 xwatched.length wC1, .bool xtrap, .int .i64 xwk, .int .i64 xwn, .int .i64 xturns] : List Value)[j]?)) (by kernel_rfl) (fun _ _ _ _ _ h => h) (by (exact ⟨kc, kc, kc⟩)) (fun HQ hHeld => ?_)
        refine tkY HQ hHeld 0 ?_; refine tkY HQ hHeld 1 ?_; refine tkY HQ hHeld 2 ?_; refine tkY HQ hHeld 3 ?_
        refine stp 4 (fun K hK => ?_); go_simp
        (first
      | (go_at_call 41; (refine nmKd ?_; clear M; (try clear F); intro w1 M F); with_reducible refine (HSp.out M dl).mono ?_; clear M; rintro e w2 ⟨⟨sA2, sC2, mA2, mC2, lA2, lC2, wA2, wC2⟩, rfl, M⟩; (try simp only at M); (try clear F); have F := fxd M)
      | (go_at_call 40; (refine nmKd ?_; clear M; (try clear F); intro w1 M F); with_reducible refine (HLv.out M dl dl).mono ?_; rintro e w2 ⟨rfl, hb⟩; replace M := M.below hb; clear hb; (try clear F); have F := fxd M)
      | (go_at_call 33; (refine nmKd ?_; clear M; (try clear F); intro w1 M F); with_reducible refine (HO.out hok.out M dl).mono ?_; rintro e w2 ⟨rfl, hb⟩; replace M := M.below hb; clear hb; (try clear F); have F := fxd M)
      | (go_at_call 42; (refine nmKd ?_; clear M; (try clear F); intro w1 M F); with_reducible refine (HVo.out).mono ?_; rintro e w2 ⟨rfl, hb⟩; replace M := M.below hb; clear hb; (try clear F); have F := fxd M))
        (try go_wp2_with fail); refine hK.out _ _ (by (exact ⟨kc, kc, kc⟩)) (fun hHeld => ?_); clear hK K; (try simp only [AX])
        refine stp 5 (fun K hK => ?_); go_simp
        (first
      | (go_at_call 41; (refine nmKd ?_; clear M; (try clear F); intro w1 M F); with_reducible refine (HSp.out M dl).mono ?_; clear M; rintro e w2 ⟨⟨sA2, sC2, mA2, mC2, lA2, lC2, wA2, wC2⟩, rfl, M⟩; (try simp only at M); (try clear F); have F := fxd M)
      | (go_at_call 40; (refine nmKd ?_; clear M; (try clear F); intro w1 M F); with_reducible refine (HLv.out M dl dl).mono ?_; rintro e w2 ⟨rfl, hb⟩; replace M := M.below hb; clear hb; (try clear F); have F := fxd M)
      | (go_at_call 33; (refine nmKd ?_; clear M; (try clear F); intro w1 M F); with_reducible refine (HO.out hok.out M dl).mono ?_; rintro e w2 ⟨rfl, hb⟩; replace M := M.below hb; clear hb; (try clear F); have F := fxd M)
      | (go_at_call 42; (refine nmKd ?_; clear M; (try clear F); intro w1 M F); with_reducible refine (HVo.out).mono ?_; rintro e w2 ⟨rfl, hb⟩; replace M := M.below hb; clear hb; (try clear F); have F := fxd M))
        (try go_wp2_with fail); refine hK.out _ _ (by (exact ⟨kc, kc, kc⟩)) (fun hHeld => ?_); clear hK K; (try simp only [AX])
        refine tkY HQ hHeld 6 ?_; refine tkY HQ hHeld 7 ?_; refine tkY HQ hHeld 8 ?_
        refine stp 9 (fun K hK => ?_); go_simp
        (first
      | (go_at_call 41; (refine nmKd ?_; clear M; (try clear F); intro w1 M F); with_reducible refine (HSp.out M dl).mono ?_; clear M; rintro e w2 ⟨⟨sA2, sC2, mA2, mC2, lA2, lC2, wA2, wC2⟩, rfl, M⟩; (try simp only at M); (try clear F); have F := fxd M)
      | (go_at_call 40; (refine nmKd ?_; clear M; (try clear F); intro w1 M F); with_reducible refine (HLv.out M dl dl).mono ?_; rintro e w2 ⟨rfl, hb⟩; replace M := M.below hb; clear hb; (try clear F); have F := fxd M)
      | (go_at_call 33; (refine nmKd ?_; clear M; (try clear F); intro w1 M F); with_reducible refine (HO.out hok.out M dl).mono ?_; rintro e w2 ⟨rfl, hb⟩; replace M := M.below hb; clear hb; (try clear F); have F := fxd M)
      | (go_at_call 42; (refine nmKd ?_; clear M; (try clear F); intro w1 M F); with_reducible refine (HVo.out).mono ?_; rintro e w2 ⟨rfl, hb⟩; replace M := M.below hb; clear hb; (try clear F); have F := fxd M))
        (try go_wp2_with fail); refine hK.out _ _ (by (exact ⟨kc, kc, kc⟩)) (fun hHeld => ?_); clear hK K; (try simp only [AX])
        refine tkY HQ hHeld 10 ?_; refine tkY HQ hHeld 11 ?_; refine tkY HQ hHeld 12 ?_; refine tkY HQ hHeld 13 ?_; refine tkY HQ hHeld 14 ?_; refine tkY HQ hHeld 15 ?_; refine tkY HQ hHeld 16 ?_; refine tkY HQ hHeld 17 ?_; refine tkY HQ hHeld 18 ?_; refine tkY HQ hHeld 19 ?_; refine tkY HQ hHeld 20 ?_; refine tkY HQ hHeld 21 ?_
        refine stp 22 (fun K hK => ?_); go_simp
        (first
      | (go_at_call 41; (refine nmKd ?_; clear M; (try clear F); intro w1 M F); with_reducible refine (HSp.out M dl).mono ?_; clear M; rintro e w2 ⟨⟨sA2, sC2, mA2, mC2, lA2, lC2, wA2, wC2⟩, rfl, M⟩; (try simp only at M); (try clear F); have F := fxd M)
      | (go_at_call 40; (refine nmKd ?_; clear M; (try clear F); intro w1 M F); with_reducible refine (HLv.out M dl dl).mono ?_; rintro e w2 ⟨rfl, hb⟩; replace M := M.below hb; clear hb; (try clear F); have F := fxd M)
      | (go_at_call 33; (refine nmKd ?_; clear M; (try clear F); intro w1 M F); with_reducible refine (HO.out hok.out M dl).mono ?_; rintro e w2 ⟨rfl, hb⟩; replace M := M.below hb; clear hb; (try clear F); have F := fxd M)
      | (go_at_call 42; (refine nmKd ?_; clear M; (try clear F); intro w1 M F); with_reducible refine (HVo.out).mono ?_; rintro e w2 ⟨rfl, hb⟩; replace M := M.below hb; clear hb; (try clear F); have F := fxd M))
        (try go_wp2_with fail); refine hK.out _ _ (by (exact ⟨kc, kc, kc⟩)) (fun hHeld => ?_); clear hK K; (try simp only [AX])
        refine tkY HQ hHeld 23 ?_; refine tkY HQ hHeld 24 ?_
        refine wpAnyH_done (by kernel_rfl) ?_ _; clear HQ; (repeat clear hHeld)
        (try clear F); have F := fxd M
        go_upto_region 6 with fail
        refine held_begin (S := (fun W' => (∀ j, W'.cell? ⟨g5, j, none⟩ = ([.int .i64 id, .int .i64 at_, .slice sA slots.length sC, .int .i64 full, .slice mA mail.length mC, .int .i64 state, .int .i64 due, .slice lA links.length lC, .slice wA watched.length wC, .bool trap, .int .i64 wk, .int .i64 wn, .int .i64 turns] : List Value)[j]?) ∧ (∀ j, W'.cell? ⟨g7, j, none⟩ = ([.int .i64 vk, .int .i64 vn] : List Value)[j]?) ∧ ∀ j, W'.cell? ⟨g8, j, none⟩ = ([.int .i64 xid, .int .i64 xat, .slice sA1 xslots.length sC1, .int .i64 xfull, .slice mA1 xmail.length mC1, .int .i64 xstate, .int .i64 xdue, .slice lA1 xlinks.length lC1, .slice wA1 xwatched.length wC1, .bool xtrap, .int .i64 xwk, .int .i64 xwn, .int .i64 xturns] : List Value)[j]?)) (by kernel_rfl) (fun _ _ _ _ _ h => h) (by (exact ⟨kc, kc, kc⟩)) (fun HQ hHeld => ?_)
        refine tkY HQ hHeld 0 ?_; refine tkY HQ hHeld 1 ?_; refine tkY HQ hHeld 2 ?_; refine tkY HQ hHeld 3 ?_
        refine stp 4 (fun K hK => ?_); go_simp
        (first
      | (go_at_call 41; (refine nmKd ?_; clear M; (try clear F); intro w1 M F); with_reducible refine (HSp.out M dl).mono ?_; clear M; rintro e w2 ⟨⟨sA2, sC2, mA2, mC2, lA2, lC2, wA2, wC2⟩, rfl, M⟩; (try simp only at M); (try clear F); have F := fxd M)
      | (go_at_call 40; (refine nmKd ?_; clear M; (try clear F); intro w1 M F); with_reducible refine (HLv.out M dl dl).mono ?_; rintro e w2 ⟨rfl, hb⟩; replace M := M.below hb; clear hb; (try clear F); have F := fxd M)
      | (go_at_call 33; (refine nmKd ?_; clear M; (try clear F); intro w1 M F); with_reducible refine (HO.out hok.out M dl).mono ?_; rintro e w2 ⟨rfl, hb⟩; replace M := M.below hb; clear hb; (try clear F); have F := fxd M)
      | (go_at_call 42; (refine nmKd ?_; clear M; (try clear F); intro w1 M F); with_reducible refine (HVo.out).mono ?_; rintro e w2 ⟨rfl, hb⟩; replace M := M.below hb; clear hb; (try clear F); have F := fxd M))
        (try go_wp2_with fail); refine hK.out _ _ (by (exact ⟨kc, kc, kc⟩)) (fun hHeld => ?_); clear hK K; (try simp only [AX])
        refine stp 5 (fun K hK => ?_); go_simp
        (first
      | (go_at_call 41; (refine nmKd ?_; clear M; (try clear F); intro w1 M F); with_reducible refine (HSp.out M dl).mono ?_; clear M; rintro e w2 ⟨⟨sA2, sC2, mA2, mC2, lA2, lC2, wA2, wC2⟩, rfl, M⟩; (try simp only at M); (try clear F); have F := fxd M)
      | (go_at_call 40; (refine nmKd ?_; clear M; (try clear F); intro w1 M F); with_reducible refine (HLv.out M dl dl).mono ?_; rintro e w2 ⟨rfl, hb⟩; replace M := M.below hb; clear hb; (try clear F); have F := fxd M)
      | (go_at_call 33; (refine nmKd ?_; clear M; (try clear F); intro w1 M F); with_reducible refine (HO.out hok.out M dl).mono ?_; rintro e w2 ⟨rfl, hb⟩; replace M := M.below hb; clear hb; (try clear F); have F := fxd M)
      | (go_at_call 42; (refine nmKd ?_; clear M; (try clear F); intro w1 M F); with_reducible refine (HVo.out).mono ?_; rintro e w2 ⟨rfl, hb⟩; replace M := M.below hb; clear hb; (try clear F); have F := fxd M))
        (try go_wp2_with fail); refine hK.out _ _ (by (exact ⟨kc, kc, kc⟩)) (fun hHeld => ?_); clear hK K; (try simp only [AX])
        refine tkY HQ hHeld 6 ?_
        refine wpAnyH_done (by kernel_rfl) ?_ _; clear HQ; (repeat clear hHeld)
        go_wp2
        go_ret
        exact ⟨rfl, rdr_below M dl hR.out.1 hR.out.2⟩
      | true =>
        replace hvk := Lib.hid hvk
        have HVo : Hid (∀ {U : World}, Calls Try.prog 42 #[.agg #[.int .i64 vk, .int .i64 vn]] U fun e w' => e = .returned (.bool true) ∧ Below U.heap.size U w') := fun {U} => HVx.out hvk.out
        go_upto_region 5 with fail
        refine held_begin (S := (fun W' => (∀ j, W'.cell? ⟨g5, j, none⟩ = ([.int .i64 id, .int .i64 at_, .slice sA slots.length sC, .int .i64 full, .slice mA mail.length mC, .int .i64 state, .int .i64 due, .slice lA links.length lC, .slice wA watched.length wC, .bool trap, .int .i64 wk, .int .i64 wn, .int .i64 turns] : List Value)[j]?) ∧ (∀ j, W'.cell? ⟨g7, j, none⟩ = ([.int .i64 vk, .int .i64 vn] : List Value)[j]?) ∧ ∀ j, W'.cell? ⟨g8, j, none⟩ = ([.int .i64 xid, .int .i64 xat, .slice sA1 xslots.length sC1, .int .i64 xfull, .slice mA1 xmail.length mC1, .int .i64 xstate, .int .i64 xdue, .slice lA1 xlinks.length lC1, .slice wA1 xwatched.length wC1, .bool xtrap, .int .i64 xwk, .int .i64 xwn, .int .i64 xturns] : List Value)[j]?)) (by kernel_rfl) (fun _ _ _ _ _ h => h) (by (exact ⟨kc, kc, kc⟩)) (fun HQ hHeld => ?_)
        refine tkY HQ hHeld 0 ?_; refine tkY HQ hHeld 1 ?_; refine tkY HQ hHeld 2 ?_; refine tkY HQ hHeld 3 ?_
        refine stp 4 (fun K hK => ?_); go_simp
        (first
      | (go_at_call 41; (refine nmKd ?_; clear M; (try clear F); intro w1 M F); with_reducible refine (HSp.out M dl).mono ?_; clear M; rintro e w2 ⟨⟨sA2, sC2, mA2, mC2, lA2, lC2, wA2, wC2⟩, rfl, M⟩; (try simp only at M); (try clear F); have F := fxd M)
      | (go_at_call 40; (refine nmKd ?_; clear M; (try clear F); intro w1 M F); with_reducible refine (HLv.out M dl dl).mono ?_; rintro e w2 ⟨rfl, hb⟩; replace M := M.below hb; clear hb; (try clear F); have F := fxd M)
      | (go_at_call 33; (refine nmKd ?_; clear M; (try clear F); intro w1 M F); with_reducible refine (HO.out hok.out M dl).mono ?_; rintro e w2 ⟨rfl, hb⟩; replace M := M.below hb; clear hb; (try clear F); have F := fxd M)
      | (go_at_call 42; (refine nmKd ?_; clear M; (try clear F); intro w1 M F); with_reducible refine (HVo.out).mono ?_; rintro e w2 ⟨rfl, hb⟩; replace M := M.below hb; clear hb; (try clear F); have F := fxd M))
        (try go_wp2_with fail); refine hK.out _ _ (by (exact ⟨kc, kc, kc⟩)) (fun hHeld => ?_); clear hK K; (try simp only [AX])
        refine stp 5 (fun K hK => ?_); go_simp
        (first
      | (go_at_call 41; (refine nmKd ?_; clear M; (try clear F); intro w1 M F); with_reducible refine (HSp.out M dl).mono ?_; clear M; rintro e w2 ⟨⟨sA2, sC2, mA2, mC2, lA2, lC2, wA2, wC2⟩, rfl, M⟩; (try simp only at M); (try clear F); have F := fxd M)
      | (go_at_call 40; (refine nmKd ?_; clear M; (try clear F); intro w1 M F); with_reducible refine (HLv.out M dl dl).mono ?_; rintro e w2 ⟨rfl, hb⟩; replace M := M.below hb; clear hb; (try clear F); have F := fxd M)
      | (go_at_call 33; (refine nmKd ?_; clear M; (try clear F); intro w1 M F); with_reducible refine (HO.out hok.out M dl).mono ?_; rintro e w2 ⟨rfl, hb⟩; replace M := M.below hb; clear hb; (try clear F); have F := fxd M)
      | (go_at_call 42; (refine nmKd ?_; clear M; (try clear F); intro w1 M F); with_reducible refine (HVo.out).mono ?_; rintro e w2 ⟨rfl, hb⟩; replace M := M.below hb; clear hb; (try clear F); have F := fxd M))
        (try go_wp2_with fail); refine hK.out _ _ (by (exact ⟨kc, kc, kc⟩)) (fun hHeld => ?_); clear hK K; (try simp only [AX])
        refine tkY HQ hHeld 6 ?_; refine tkY HQ hHeld 7 ?_; refine tkY HQ hHeld 8 ?_
        refine stp 9 (fun K hK => ?_); go_simp
        (first
      | (go_at_call 41; (refine nmKd ?_; clear M; (try clear F); intro w1 M F); with_reducible refine (HSp.out M dl).mono ?_; clear M; rintro e w2 ⟨⟨sA2, sC2, mA2, mC2, lA2, lC2, wA2, wC2⟩, rfl, M⟩; (try simp only at M); (try clear F); have F := fxd M)
      | (go_at_call 40; (refine nmKd ?_; clear M; (try clear F); intro w1 M F); with_reducible refine (HLv.out M dl dl).mono ?_; rintro e w2 ⟨rfl, hb⟩; replace M := M.below hb; clear hb; (try clear F); have F := fxd M)
      | (go_at_call 33; (refine nmKd ?_; clear M; (try clear F); intro w1 M F); with_reducible refine (HO.out hok.out M dl).mono ?_; rintro e w2 ⟨rfl, hb⟩; replace M := M.below hb; clear hb; (try clear F); have F := fxd M)
      | (go_at_call 42; (refine nmKd ?_; clear M; (try clear F); intro w1 M F); with_reducible refine (HVo.out).mono ?_; rintro e w2 ⟨rfl, hb⟩; replace M := M.below hb; clear hb; (try clear F); have F := fxd M))
        (try go_wp2_with fail); refine hK.out _ _ (by (exact ⟨kc, kc, kc⟩)) (fun hHeld => ?_); clear hK K; (try simp only [AX])
        refine tkY HQ hHeld 10 ?_; refine tkY HQ hHeld 11 ?_; refine tkY HQ hHeld 12 ?_; refine tkY HQ hHeld 13 ?_; refine tkY HQ hHeld 14 ?_; refine tkY HQ hHeld 15 ?_; refine tkY HQ hHeld 16 ?_; refine tkY HQ hHeld 17 ?_; refine tkY HQ hHeld 18 ?_; refine tkY HQ hHeld 19 ?_; refine tkY HQ hHeld 20 ?_; refine tkY HQ hHeld 21 ?_
        refine stp 22 (fun K hK => ?_); go_simp
        (first
      | (go_at_call 41; (refine nmKd ?_; clear M; (try clear F); intro w1 M F); with_reducible refine (HSp.out M dl).mono ?_; clear M; rintro e w2 ⟨⟨sA2, sC2, mA2, mC2, lA2, lC2, wA2, wC2⟩, rfl, M⟩; (try simp only at M); (try clear F); have F := fxd M)
      | (go_at_call 40; (refine nmKd ?_; clear M; (try clear F); intro w1 M F); with_reducible refine (HLv.out M dl dl).mono ?_; rintro e w2 ⟨rfl, hb⟩; replace M := M.below hb; clear hb; (try clear F); have F := fxd M)
      | (go_at_call 33; (refine nmKd ?_; clear M; (try clear F); intro w1 M F); with_reducible refine (HO.out hok.out M dl).mono ?_; rintro e w2 ⟨rfl, hb⟩; replace M := M.below hb; clear hb; (try clear F); have F := fxd M)
      | (go_at_call 42; (refine nmKd ?_; clear M; (try clear F); intro w1 M F); with_reducible refine (HVo.out).mono ?_; rintro e w2 ⟨rfl, hb⟩; replace M := M.below hb; clear hb; (try clear F); have F := fxd M))
        (try go_wp2_with fail); refine hK.out _ _ (by (exact ⟨kc, kc, kc⟩)) (fun hHeld => ?_); clear hK K; (try simp only [AX])
        refine tkY HQ hHeld 23 ?_; refine tkY HQ hHeld 24 ?_
        refine wpAnyH_done (by kernel_rfl) ?_ _; clear HQ; (repeat clear hHeld)
        obtain ⟨sN, rfl⟩ : ∃ sN : Nat, s = sN := ⟨s.toNat, by omega⟩
        have hsN : sN ≤ 3 := by omega
        have hin : inB (sN : Int) 0 3 = true := inB_iff.2 (by omega)
        have hp := runOk_parts hok1.out
        have hsl : slots.length = 4 := hp.2.2.1
        have hfu : 0 ≤ full ∧ full ≤ 15 := hp.2.2.2.1
        have hX2 := hX.out
        rw [runPut_eqB hok1.out hin hvk.out] at hX2
        have hokx := runOk_put hok1.out hin hvk.out
        have htw := runPut_twiceB hok1.out hin hvk.out
        rw [runPut_eqB hok1.out hin hvk.out, ← hX2] at htw
        rw [← hX2] at hokx
        have wbf := withBit_facts hfu.1 hfu.2 hin
        simp only [Rn.mk.injEq, Vl.mk.injEq, Int.toNat_natCast] at hX2
        obtain ⟨q1, q2, hxs, hxf, q5, q6, q7, q8, q9, q10, ⟨q11, q12⟩, q13⟩ := hX2
        obtain rfl := q1.symm
        obtain rfl := q2.symm
        obtain rfl := q5.symm
        obtain rfl := q6.symm
        obtain rfl := q7.symm
        obtain rfl := q8.symm
        obtain rfl := q9.symm
        obtain rfl := q10.symm
        obtain rfl := q11.symm
        obtain rfl := q12.symm
        obtain rfl := q13.symm
        obtain ⟨o, ho⟩ : ∃ o : Nat, o = (sN + 1 + n2 % 3) % 4 := ⟨_, rfl⟩
        have ho4 : o ≤ 3 := by omega
        have hos : o ≠ sN := by omega
        have hino : inB (o : Int) 0 3 = true := inB_iff.2 (by omega)
        obtain ⟨⟨uk, un⟩, hu⟩ : ∃ u, slots[o]? = some u := ⟨_, List.getElem?_eq_getElem (by omega)⟩
        have hxl : xslots.length = 4 := by rw [hxs, List.length_set]; exact hsl
        have hxsN : xslots[sN]? = some ⟨vk, vn⟩ := by rw [hxs, List.getElem?_set_self (by omega)]
        have hxo : xslots[o]? = some ⟨uk, un⟩ := by rw [hxs, List.getElem?_set_ne (by omega)]; exact hu
        have hb1 : hasBit xfull (sN : Int) = true := by rw [hxf]; exact wbf.2.1
        have hb2 : hasBit xfull (o : Int) = hasBit full (o : Int) := by rw [hxf]; exact wbf.2.2.1 o hino (by omega)
        have hxr : 0 ≤ xfull ∧ xfull ≤ 15 := by rw [hxf]; exact wbf.1
        obtain ⟨bb, hbb⟩ : ∃ bb, bb = hasBit full (o : Int) := ⟨_, rfl⟩
        have HB1 : Hid (∀ W, Calls Try.prog 43 #[.int .i64 xfull, .int .i64 (sN : Int)] W fun e w' => e = .returned (.bool true) ∧ W = w') := fun W => by rw [← hb1]; exact lvBitI xfull sN hxr hsN W
        have HB2 : Hid (∀ W, Calls Try.prog 43 #[.int .i64 xfull, .int .i64 (o : Int)] W fun e w' => e = .returned (.bool bb) ∧ W = w') := fun W => by rw [hbb, ← hb2]; exact lvBitI xfull o hxr ho4 W
        have HB3 : Hid (∀ W, Calls Try.prog 43 #[.int .i64 full, .int .i64 (o : Int)] W fun e w' => e = .returned (.bool bb) ∧ W = w') := fun W => by rw [hbb]; exact lvBitI full o hfu ho4 W
        obtain ⟨gx, rfl⟩ := slotForm (r := ⟨id, at_, xslots, xfull, mail, state, due, links, watched, trap, ⟨wk, wn⟩, turns⟩) (a := ⟨sA1, sC1, mA1, mC1, lA1, lC1, wA1, wC1⟩) (M.is (.there (.there (.there .here)))) (by show 0 < xslots.length; omega)
        obtain ⟨gr, rfl⟩ := slotForm (r := ⟨id, at_, slots, full, mail, state, due, links, watched, trap, ⟨wk, wn⟩, turns⟩) (a := ⟨sA, sC, mA, mC, lA, lC, wA, wC⟩) (M.is (.there .here)) (by show 0 < slots.length; omega)
        have HXs : Hid (∀ {U : World} {L1 L2 : List Asn}, Mem w (roB A n) U L1 → Del (runA ⟨id, at_, xslots, xfull, mail, state, due, links, watched, trap, ⟨wk, wn⟩, turns⟩ ⟨some ⟨gx, 0, none⟩, sC1, mA1, mC1, lA1, lC1, wA1, wC1⟩) L1 L2 → U.cell? ⟨gx, sN * 2, none⟩ = some (.int .i64 vk) ∧ U.cell? ⟨gx, sN * 2 + 1, none⟩ = some (.int .i64 vn)) := fun M hd => slotCells (r := ⟨id, at_, xslots, xfull, mail, state, due, links, watched, trap, ⟨wk, wn⟩, turns⟩) (M.is hd) hxsN
        have HXo : Hid (∀ {U : World} {L1 L2 : List Asn}, Mem w (roB A n) U L1 → Del (runA ⟨id, at_, xslots, xfull, mail, state, due, links, watched, trap, ⟨wk, wn⟩, turns⟩ ⟨some ⟨gx, 0, none⟩, sC1, mA1, mC1, lA1, lC1, wA1, wC1⟩) L1 L2 → U.cell? ⟨gx, o * 2, none⟩ = some (.int .i64 uk) ∧ U.cell? ⟨gx, o * 2 + 1, none⟩ = some (.int .i64 un)) := fun M hd => slotCells (r := ⟨id, at_, xslots, xfull, mail, state, due, links, watched, trap, ⟨wk, wn⟩, turns⟩) (M.is hd) hxo
        have HRo : Hid (∀ {U : World} {L1 L2 : List Asn}, Mem w (roB A n) U L1 → Del (runA ⟨id, at_, slots, full, mail, state, due, links, watched, trap, ⟨wk, wn⟩, turns⟩ ⟨some ⟨gr, 0, none⟩, sC, mA, mC, lA, lC, wA, wC⟩) L1 L2 → U.cell? ⟨gr, o * 2, none⟩ = some (.int .i64 uk) ∧ U.cell? ⟨gr, o * 2 + 1, none⟩ = some (.int .i64 un)) := fun M hd => slotCells (r := ⟨id, at_, slots, full, mail, state, due, links, watched, trap, ⟨wk, wn⟩, turns⟩) (M.is hd) hu
        have HLm : Hid (∀ {U : World} {L1 L2 L3 : List Asn}, Mem w (roB A n) U L1 → Del (runA ⟨id, at_, xslots, xfull, mail, state, due, links, watched, trap, ⟨wk, wn⟩, turns⟩ ⟨some ⟨gx, 0, none⟩, sC1, mA1, mC1, lA1, lC1, wA1, wC1⟩) L1 L2 → Del (runA ⟨id, at_, slots, full, mail, state, due, links, watched, trap, ⟨wk, wn⟩, turns⟩ ⟨some ⟨gr, 0, none⟩, sC, mA, mC, lA, lC, wA, wC⟩) L1 L3 → Calls Try.prog 44 #[.slice mA1 mail.length mC1, .slice mA mail.length mC] U fun e w' => e = .returned (.bool true) ∧ Below U.heap.size U w') := fun {U L1 L2 L3} M hd hd2 =>
          lvValsOk mail mA1 mA mC1 mC U.heap.size U (runA_reads (M.is hd)).1.mail (runA_reads (M.is hd2)).1.mail (Nat.le_refl _)
        have HIp2 : Hid (∀ {U : World} {L1 L2 : List Asn}, Mem w (roB A n) U L1 → Del (runA ⟨id, at_, xslots, xfull, mail, state, due, links, watched, trap, ⟨wk, wn⟩, turns⟩ ⟨some ⟨gx, 0, none⟩, sC1, mA1, mC1, lA1, lC1, wA1, wC1⟩) L1 L2 → Calls Try.prog 39 #[.agg (List.toArray [.int .i64 id, .int .i64 at_, .slice (some ⟨gx, 0, none⟩) xslots.length sC1, .int .i64 xfull, .slice mA1 mail.length mC1, .int .i64 state, .int .i64 due, .slice lA1 links.length lC1, .slice wA1 watched.length wC1, .bool trap, .int .i64 wk, .int .i64 wn, .int .i64 turns]), .int .i64 (sN : Int), .agg #[.int .i64 vk, .int .i64 vn]] U fun e w' => ∃ b : RA, e = .returned (.agg (runArr ⟨id, at_, xslots, xfull, mail, state, due, links, watched, trap, ⟨wk, wn⟩, turns⟩ b)) ∧ Mem w (roB A n) w' (runA ⟨id, at_, xslots, xfull, mail, state, due, links, watched, trap, ⟨wk, wn⟩, turns⟩ b :: runA ⟨id, at_, xslots, xfull, mail, state, due, links, watched, trap, ⟨wk, wn⟩, turns⟩ ⟨some ⟨gx, 0, none⟩, sC1, mA1, mC1, lA1, lC1, wA1, wC1⟩ :: L2)) := fun {U L1 L2} M hd => by
          have h := iRunPut ⟨id, at_, xslots, xfull, mail, state, due, links, watched, trap, ⟨wk, wn⟩, turns⟩ ⟨some ⟨gx, 0, none⟩, sC1, mA1, mC1, lA1, lC1, wA1, wC1⟩ sN ⟨vk, vn⟩ M hd (by show links.length ≤ _; omega) (by show watched.length ≤ _; omega)
          rw [htw] at h
          exact h
        have HLg : Hid (∀ {sA1 mA1 lA1 wA1 sA2 mA2 lA2 wA2 : Option Addr} {sC1 mC1 lC1 wC1 sC2 mC2 lC2 wC2 : Nat} {U : World} {L1 L2 L3 : List Asn}, Mem w (roB A n) U L1 → Del (runA ⟨id, at_, xslots, xfull, mail, state, due, links, watched, trap, ⟨wk, wn⟩, turns⟩ ⟨sA1, sC1, mA1, mC1, lA1, lC1, wA1, wC1⟩) L1 L2 → Del (runA ⟨id, at_, xslots, xfull, mail, state, due, links, watched, trap, ⟨wk, wn⟩, turns⟩ ⟨sA2, sC2, mA2, mC2, lA2, lC2, wA2, wC2⟩) L1 L3 → Calls Try.prog 40 #[.agg #[.int .i64 id, .int .i64 at_, .slice sA1 xslots.length sC1, .int .i64 xfull, .slice mA1 mail.length mC1, .int .i64 state, .int .i64 due, .slice lA1 links.length lC1, .slice wA1 watched.length wC1, .bool trap, .int .i64 wk, .int .i64 wn, .int .i64 turns], .agg #[.int .i64 id, .int .i64 at_, .slice sA2 xslots.length sC2, .int .i64 xfull, .slice mA2 mail.length mC2, .int .i64 state, .int .i64 due, .slice lA2 links.length lC2, .slice wA2 watched.length wC2, .bool trap, .int .i64 wk, .int .i64 wn, .int .i64 turns]] U fun e w' => e = .returned (.bool true) ∧ Below U.heap.size U w') := fun {sA1 mA1 lA1 wA1 sA2 mA2 lA2 wA2 sC1 mC1 lC1 wC1 sC2 mC2 lC2 wC2 U L1 L2 L3} M hd hd2 =>
          lvRunOk ⟨id, at_, xslots, xfull, mail, state, due, links, watched, trap, ⟨wk, wn⟩, turns⟩ ⟨sA1, sC1, mA1, mC1, lA1, lC1, wA1, wC1⟩ ⟨sA2, sC2, mA2, mC2, lA2, lC2, wA2, wC2⟩ U.heap.size U (runA_reads (M.is hd)).1 (runA_reads (M.is hd2)).1 (Nat.le_refl _)
        have HOx : Hid (∀ {U : World} {L1 L2 : List Asn}, Mem w (roB A n) U L1 → Del (runA ⟨id, at_, xslots, xfull, mail, state, due, links, watched, trap, ⟨wk, wn⟩, turns⟩ ⟨some ⟨gx, 0, none⟩, sC1, mA1, mC1, lA1, lC1, wA1, wC1⟩) L1 L2 → Calls Try.prog 32 #[.agg (List.toArray [.int .i64 id, .int .i64 at_, .slice (some ⟨gx, 0, none⟩) xslots.length sC1, .int .i64 xfull, .slice mA1 mail.length mC1, .int .i64 state, .int .i64 due, .slice lA1 links.length lC1, .slice wA1 watched.length wC1, .bool trap, .int .i64 wk, .int .i64 wn, .int .i64 turns])] U fun e w' => e = .returned (.bool true) ∧ Below U.heap.size U w') := fun {U L1 L2} M hd => by
          have h := iRunOk ⟨id, at_, xslots, xfull, mail, state, due, links, watched, trap, ⟨wk, wn⟩, turns⟩ ⟨some ⟨gx, 0, none⟩, sC1, mA1, mC1, lA1, lC1, wA1, wC1⟩ U.heap.size U (runA_reads (M.is hd)).1 (Nat.le_refl _)
          rw [hokx] at h
          exact h
        have k1 : IntKind.i64.wrap ((sN : Int) + 1) = (sN : Int) + 1 := IntWalk.i64_in _ (by omega)
        have k2 : IntKind.i64.wrap ((sN : Int) + 1 + (n2 : Int) % 3) = (sN : Int) + 1 + (n2 : Int) % 3 := IntWalk.i64_in _ (by omega)
        have k3 : ((sN : Int) + 1 + (n2 : Int) % 3) % 4 = (o : Int) := by omega
        have k4 : IntKind.i64.wrap (o : Int) = (o : Int) := IntWalk.i64_in _ (by omega)
        have i1 : (0 : Int) ≤ sN := by omega
        have i2 : (sN : Int) < (xslots.length : Int) := by omega
        have i3 : (0 : Int) ≤ o := by omega
        have i4 : (o : Int) < (xslots.length : Int) := by omega
        have i5 : (o : Int) < (slots.length : Int) := by omega
        have i2n : sN < xslots.length := by omega
        have i4n : o < xslots.length := by omega
        have i5n : o < slots.length := by omega
        have qb : (bb == bb) = true := by simp
        replace hxl := Lib.hid hxl
        replace hsl := Lib.hid hsl
        clear hX hp hokx htw wbf hxs hxf ho hu hxsN hxo hb1 hb2 hbb HSp HIp HVx HLv HO
        (try clear F); have F := fxd M
        go_upto_region 7 with fail
        go_upto_region 8 with fail
        refine held_begin (S := (fun W' => ((∀ j, W'.cell? ⟨g5, j, none⟩ = ([.int .i64 id, .int .i64 at_, .slice (some ⟨gr, 0, none⟩) slots.length sC, .int .i64 full, .slice mA mail.length mC, .int .i64 state, .int .i64 due, .slice lA links.length lC, .slice wA watched.length wC, .bool trap, .int .i64 wk, .int .i64 wn, .int .i64 turns] : List Value)[j]?) ∧ (∀ j, W'.cell? ⟨g7, j, none⟩ = ([.int .i64 vk, .int .i64 vn] : List Value)[j]?) ∧ ∀ j, W'.cell? ⟨g8, j, none⟩ = ([.int .i64 id, .int .i64 at_, .slice (some ⟨gx, 0, none⟩) xslots.length sC1, .int .i64 xfull, .slice mA1 mail.length mC1, .int .i64 state, .int .i64 due, .slice lA1 links.length lC1, .slice wA1 watched.length wC1, .bool trap, .int .i64 wk, .int .i64 wn, .int .i64 turns] : List Value)[j]?) ∧ (W'.cell? ⟨gx, sN * 2, none⟩ = some (.int .i64 vk) ∧ W'.cell? ⟨gx, sN * 2 + 1, none⟩ = some (.int .i64 vn)) ∧ (W'.cell? ⟨gx, o * 2, none⟩ = some (.int .i64 uk) ∧ W'.cell? ⟨gx, o * 2 + 1, none⟩ = some (.int .i64 un)) ∧ W'.cell? ⟨gr, o * 2, none⟩ = some (.int .i64 uk) ∧ W'.cell? ⟨gr, o * 2 + 1, none⟩ = some (.int .i64 un))) (by kernel_rfl) (fun _ _ _ _ _ h => h) (by (exact ⟨⟨kc, kc, kc⟩, HXs.out mb dl, HXo.out mb dl, HRo.out mb dl⟩)) (fun HQ hHeld => ?_)
        refine tkY HQ hHeld 0 ?_; refine tkY HQ hHeld 1 ?_; refine tkY HQ hHeld 2 ?_; refine tkY HQ hHeld 3 ?_; refine tkY HQ hHeld 4 ?_; refine tkY HQ hHeld 5 ?_; refine tkY HQ hHeld 6 ?_; refine tkY HQ hHeld 7 ?_; refine tkY HQ hHeld 8 ?_; refine tkY HQ hHeld 9 ?_; refine tkY HQ hHeld 10 ?_
        refine stp 11 (fun K hK => ?_); go_simp
        (first
          | (go_at_call 43; with_reducible refine (HB1.out _).mono ?_; rintro e w2 ⟨rfl, rfl⟩)
          | (go_at_call 43; with_reducible refine (HB2.out _).mono ?_; rintro e w2 ⟨rfl, rfl⟩)
          | (go_at_call 43; with_reducible refine (HB3.out _).mono ?_; rintro e w2 ⟨rfl, rfl⟩)
          | (go_at_call 44; (refine nmKd ?_; clear M; (try clear F); intro w1 M F); with_reducible refine (HLm.out M dl dl).mono ?_; rintro e w2 ⟨rfl, hb⟩; replace M := M.below hb; clear hb; (try clear F); have F := fxd M)
          | (go_at_call 39; (refine nmKd ?_; clear M; (try clear F); intro w1 M F); with_reducible refine (HIp2.out M dl).mono ?_; clear M; rintro e w2 ⟨⟨sA3, sC3, mA3, mC3, lA3, lC3, wA3, wC3⟩, rfl, M⟩; (try simp only at M); (try clear F); have F := fxd M)
          | (go_at_call 40; (refine nmKd ?_; clear M; (try clear F); intro w1 M F); with_reducible refine (HLg.out M dl dl).mono ?_; rintro e w2 ⟨rfl, hb⟩; replace M := M.below hb; clear hb; (try clear F); have F := fxd M)
          | (go_at_call 32; (refine nmKd ?_; clear M; (try clear F); intro w1 M F); with_reducible refine (HOx.out M dl).mono ?_; rintro e w2 ⟨rfl, hb⟩; replace M := M.below hb; clear hb; (try clear F); have F := fxd M))
        (try go_wp2_with fail); refine hK.out _ _ (by (exact ⟨⟨kc, kc, kc⟩, HXs.out mb dl, HXo.out mb dl, HRo.out mb dl⟩)) (fun hHeld => ?_); clear hK K; (try simp only [AX])
        refine tkY HQ hHeld 12 ?_; refine tkY HQ hHeld 13 ?_; refine tkY HQ hHeld 14 ?_; refine tkY HQ hHeld 15 ?_; refine tkY HQ hHeld 16 ?_; refine tkY HQ hHeld 17 ?_; refine tkY HQ hHeld 18 ?_; refine tkY HQ hHeld 19 ?_; refine tkY HQ hHeld 20 ?_; refine tkY HQ hHeld 21 ?_; refine tkY HQ hHeld 22 ?_; refine tkY HQ hHeld 23 ?_; refine tkY HQ hHeld 24 ?_; refine tkY HQ hHeld 25 ?_; refine tkY HQ hHeld 26 ?_; refine tkY HQ hHeld 27 ?_; refine tkY HQ hHeld 28 ?_; refine tkY HQ hHeld 29 ?_; refine tkY HQ hHeld 31 ?_; refine tkY HQ hHeld 32 ?_; refine tkY HQ hHeld 33 ?_
        refine stp 30 (fun K hK => ?_); go_simp
        (first
          | (go_at_call 43; with_reducible refine (HB1.out _).mono ?_; rintro e w2 ⟨rfl, rfl⟩)
          | (go_at_call 43; with_reducible refine (HB2.out _).mono ?_; rintro e w2 ⟨rfl, rfl⟩)
          | (go_at_call 43; with_reducible refine (HB3.out _).mono ?_; rintro e w2 ⟨rfl, rfl⟩)
          | (go_at_call 44; (refine nmKd ?_; clear M; (try clear F); intro w1 M F); with_reducible refine (HLm.out M dl dl).mono ?_; rintro e w2 ⟨rfl, hb⟩; replace M := M.below hb; clear hb; (try clear F); have F := fxd M)
          | (go_at_call 39; (refine nmKd ?_; clear M; (try clear F); intro w1 M F); with_reducible refine (HIp2.out M dl).mono ?_; clear M; rintro e w2 ⟨⟨sA3, sC3, mA3, mC3, lA3, lC3, wA3, wC3⟩, rfl, M⟩; (try simp only at M); (try clear F); have F := fxd M)
          | (go_at_call 40; (refine nmKd ?_; clear M; (try clear F); intro w1 M F); with_reducible refine (HLg.out M dl dl).mono ?_; rintro e w2 ⟨rfl, hb⟩; replace M := M.below hb; clear hb; (try clear F); have F := fxd M)
          | (go_at_call 32; (refine nmKd ?_; clear M; (try clear F); intro w1 M F); with_reducible refine (HOx.out M dl).mono ?_; rintro e w2 ⟨rfl, hb⟩; replace M := M.below hb; clear hb; (try clear F); have F := fxd M))
        (try go_wp2_with fail); refine hK.out _ _ (by (exact ⟨⟨kc, kc, kc⟩, HXs.out mb dl, HXo.out mb dl, HRo.out mb dl⟩)) (fun hHeld => ?_); clear hK K; (try simp only [AX])
        refine stp 34 (fun K hK => ?_); go_simp
        (first
          | (go_at_call 43; with_reducible refine (HB1.out _).mono ?_; rintro e w2 ⟨rfl, rfl⟩)
          | (go_at_call 43; with_reducible refine (HB2.out _).mono ?_; rintro e w2 ⟨rfl, rfl⟩)
          | (go_at_call 43; with_reducible refine (HB3.out _).mono ?_; rintro e w2 ⟨rfl, rfl⟩)
          | (go_at_call 44; (refine nmKd ?_; clear M; (try clear F); intro w1 M F); with_reducible refine (HLm.out M dl dl).mono ?_; rintro e w2 ⟨rfl, hb⟩; replace M := M.below hb; clear hb; (try clear F); have F := fxd M)
          | (go_at_call 39; (refine nmKd ?_; clear M; (try clear F); intro w1 M F); with_reducible refine (HIp2.out M dl).mono ?_; clear M; rintro e w2 ⟨⟨sA3, sC3, mA3, mC3, lA3, lC3, wA3, wC3⟩, rfl, M⟩; (try simp only at M); (try clear F); have F := fxd M)
          | (go_at_call 40; (refine nmKd ?_; clear M; (try clear F); intro w1 M F); with_reducible refine (HLg.out M dl dl).mono ?_; rintro e w2 ⟨rfl, hb⟩; replace M := M.below hb; clear hb; (try clear F); have F := fxd M)
          | (go_at_call 32; (refine nmKd ?_; clear M; (try clear F); intro w1 M F); with_reducible refine (HOx.out M dl).mono ?_; rintro e w2 ⟨rfl, hb⟩; replace M := M.below hb; clear hb; (try clear F); have F := fxd M))
        (try go_wp2_with fail); refine hK.out _ _ (by (exact ⟨⟨kc, kc, kc⟩, HXs.out mb dl, HXo.out mb dl, HRo.out mb dl⟩)) (fun hHeld => ?_); clear hK K; (try simp only [AX])
        refine tkY HQ hHeld 35 ?_; refine tkY HQ hHeld 36 ?_; refine tkY HQ hHeld 37 ?_; refine tkY HQ hHeld 38 ?_; refine tkY HQ hHeld 39 ?_; refine tkY HQ hHeld 40 ?_; refine tkY HQ hHeld 41 ?_
        refine stp 42 (fun K hK => ?_); go_simp
        (first
          | (go_at_call 43; with_reducible refine (HB1.out _).mono ?_; rintro e w2 ⟨rfl, rfl⟩)
          | (go_at_call 43; with_reducible refine (HB2.out _).mono ?_; rintro e w2 ⟨rfl, rfl⟩)
          | (go_at_call 43; with_reducible refine (HB3.out _).mono ?_; rintro e w2 ⟨rfl, rfl⟩)
          | (go_at_call 44; (refine nmKd ?_; clear M; (try clear F); intro w1 M F); with_reducible refine (HLm.out M dl dl).mono ?_; rintro e w2 ⟨rfl, hb⟩; replace M := M.below hb; clear hb; (try clear F); have F := fxd M)
          | (go_at_call 39; (refine nmKd ?_; clear M; (try clear F); intro w1 M F); with_reducible refine (HIp2.out M dl).mono ?_; clear M; rintro e w2 ⟨⟨sA3, sC3, mA3, mC3, lA3, lC3, wA3, wC3⟩, rfl, M⟩; (try simp only at M); (try clear F); have F := fxd M)
          | (go_at_call 40; (refine nmKd ?_; clear M; (try clear F); intro w1 M F); with_reducible refine (HLg.out M dl dl).mono ?_; rintro e w2 ⟨rfl, hb⟩; replace M := M.below hb; clear hb; (try clear F); have F := fxd M)
          | (go_at_call 32; (refine nmKd ?_; clear M; (try clear F); intro w1 M F); with_reducible refine (HOx.out M dl).mono ?_; rintro e w2 ⟨rfl, hb⟩; replace M := M.below hb; clear hb; (try clear F); have F := fxd M))
        (try go_wp2_with fail); refine hK.out _ _ (by (exact ⟨⟨kc, kc, kc⟩, HXs.out mb dl, HXo.out mb dl, HRo.out mb dl⟩)) (fun hHeld => ?_); clear hK K; (try simp only [AX])
        refine tkY HQ hHeld 43 ?_; refine tkY HQ hHeld 44 ?_; refine tkY HQ hHeld 45 ?_; refine tkY HQ hHeld 46 ?_; refine tkY HQ hHeld 47 ?_; refine tkY HQ hHeld 49 ?_
        refine stp 48 (fun K hK => ?_); go_simp
        (first
          | (go_at_call 43; with_reducible refine (HB1.out _).mono ?_; rintro e w2 ⟨rfl, rfl⟩)
          | (go_at_call 43; with_reducible refine (HB2.out _).mono ?_; rintro e w2 ⟨rfl, rfl⟩)
          | (go_at_call 43; with_reducible refine (HB3.out _).mono ?_; rintro e w2 ⟨rfl, rfl⟩)
          | (go_at_call 44; (refine nmKd ?_; clear M; (try clear F); intro w1 M F); with_reducible refine (HLm.out M dl dl).mono ?_; rintro e w2 ⟨rfl, hb⟩; replace M := M.below hb; clear hb; (try clear F); have F := fxd M)
          | (go_at_call 39; (refine nmKd ?_; clear M; (try clear F); intro w1 M F); with_reducible refine (HIp2.out M dl).mono ?_; clear M; rintro e w2 ⟨⟨sA3, sC3, mA3, mC3, lA3, lC3, wA3, wC3⟩, rfl, M⟩; (try simp only at M); (try clear F); have F := fxd M)
          | (go_at_call 40; (refine nmKd ?_; clear M; (try clear F); intro w1 M F); with_reducible refine (HLg.out M dl dl).mono ?_; rintro e w2 ⟨rfl, hb⟩; replace M := M.below hb; clear hb; (try clear F); have F := fxd M)
          | (go_at_call 32; (refine nmKd ?_; clear M; (try clear F); intro w1 M F); with_reducible refine (HOx.out M dl).mono ?_; rintro e w2 ⟨rfl, hb⟩; replace M := M.below hb; clear hb; (try clear F); have F := fxd M))
        (try go_wp2_with fail); refine hK.out _ _ (by (exact ⟨⟨kc, kc, kc⟩, HXs.out mb dl, HXo.out mb dl, HRo.out mb dl⟩)) (fun hHeld => ?_); clear hK K; (try simp only [AX])
        refine stp 50 (fun K hK => ?_); go_simp
        (first
          | (go_at_call 43; with_reducible refine (HB1.out _).mono ?_; rintro e w2 ⟨rfl, rfl⟩)
          | (go_at_call 43; with_reducible refine (HB2.out _).mono ?_; rintro e w2 ⟨rfl, rfl⟩)
          | (go_at_call 43; with_reducible refine (HB3.out _).mono ?_; rintro e w2 ⟨rfl, rfl⟩)
          | (go_at_call 44; (refine nmKd ?_; clear M; (try clear F); intro w1 M F); with_reducible refine (HLm.out M dl dl).mono ?_; rintro e w2 ⟨rfl, hb⟩; replace M := M.below hb; clear hb; (try clear F); have F := fxd M)
          | (go_at_call 39; (refine nmKd ?_; clear M; (try clear F); intro w1 M F); with_reducible refine (HIp2.out M dl).mono ?_; clear M; rintro e w2 ⟨⟨sA3, sC3, mA3, mC3, lA3, lC3, wA3, wC3⟩, rfl, M⟩; (try simp only at M); (try clear F); have F := fxd M)
          | (go_at_call 40; (refine nmKd ?_; clear M; (try clear F); intro w1 M F); with_reducible refine (HLg.out M dl dl).mono ?_; rintro e w2 ⟨rfl, hb⟩; replace M := M.below hb; clear hb; (try clear F); have F := fxd M)
          | (go_at_call 32; (refine nmKd ?_; clear M; (try clear F); intro w1 M F); with_reducible refine (HOx.out M dl).mono ?_; rintro e w2 ⟨rfl, hb⟩; replace M := M.below hb; clear hb; (try clear F); have F := fxd M))
        (try go_wp2_with fail); refine hK.out _ _ (by (exact ⟨⟨kc, kc, kc⟩, HXs.out mb dl, HXo.out mb dl, HRo.out mb dl⟩)) (fun hHeld => ?_); clear hK K; (try simp only [AX])
        refine tkY HQ hHeld 51 ?_; refine tkY HQ hHeld 52 ?_; refine tkY HQ hHeld 53 ?_
        refine stp 54 (fun K hK => ?_); go_simp
        (first
          | (go_at_call 43; with_reducible refine (HB1.out _).mono ?_; rintro e w2 ⟨rfl, rfl⟩)
          | (go_at_call 43; with_reducible refine (HB2.out _).mono ?_; rintro e w2 ⟨rfl, rfl⟩)
          | (go_at_call 43; with_reducible refine (HB3.out _).mono ?_; rintro e w2 ⟨rfl, rfl⟩)
          | (go_at_call 44; (refine nmKd ?_; clear M; (try clear F); intro w1 M F); with_reducible refine (HLm.out M dl dl).mono ?_; rintro e w2 ⟨rfl, hb⟩; replace M := M.below hb; clear hb; (try clear F); have F := fxd M)
          | (go_at_call 39; (refine nmKd ?_; clear M; (try clear F); intro w1 M F); with_reducible refine (HIp2.out M dl).mono ?_; clear M; rintro e w2 ⟨⟨sA3, sC3, mA3, mC3, lA3, lC3, wA3, wC3⟩, rfl, M⟩; (try simp only at M); (try clear F); have F := fxd M)
          | (go_at_call 40; (refine nmKd ?_; clear M; (try clear F); intro w1 M F); with_reducible refine (HLg.out M dl dl).mono ?_; rintro e w2 ⟨rfl, hb⟩; replace M := M.below hb; clear hb; (try clear F); have F := fxd M)
          | (go_at_call 32; (refine nmKd ?_; clear M; (try clear F); intro w1 M F); with_reducible refine (HOx.out M dl).mono ?_; rintro e w2 ⟨rfl, hb⟩; replace M := M.below hb; clear hb; (try clear F); have F := fxd M))
        (try go_wp2_with fail); refine hK.out _ _ (by (exact ⟨⟨kc, kc, kc⟩, HXs.out mb dl, HXo.out mb dl, HRo.out mb dl⟩)) (fun hHeld => ?_); clear hK K; (try simp only [AX])
        refine tkY HQ hHeld 55 ?_; refine tkY HQ hHeld 56 ?_
        refine wpAnyH_done (by kernel_rfl) ?_ _; clear HQ; (repeat clear hHeld)
        go_wp2
        go_ret
        exact ⟨rfl, rdr_below M dl hR.out.1 hR.out.2⟩
theorem fnRunPut_huge (A : Option Addr) (n c : Nat) (A2 : Option Addr) (n2 c2 : Nat) (w : World) (h : 1048576 < n) (hn : n ≤ 9223372036854775807) (_hn2 : n2 ≤ 9223372036854775807) :
    Calls Try.prog 10 #[.slice A n c, .slice A2 n2 c2] w fun e w' => e = .returned (.bool true) ∧ Below w.heap.size w w' := by
  have b1 : decide (1048576 < n) = true := by simpa using h
  go_enter Try.func10, Try.ntmps10
  go_wp2
  go_ret
  exact ⟨rfl, Below.refl _ _⟩
theorem fnRunPut_huge2 (A : Option Addr) (n c : Nat) (A2 : Option Addr) (n2 c2 : Nat) (w : World) (h : n ≤ 1048576) (h2 : 1048576 < n2) (hn2 : n2 ≤ 9223372036854775807) :
    Calls Try.prog 10 #[.slice A n c, .slice A2 n2 c2] w fun e w' => e = .returned (.bool true) ∧ Below w.heap.size w w' := by
  have b1 : decide (1048576 < n) = false := by simp; omega
  have b2 : decide (1048576 < n2) = true := by simpa using h2
  go_enter Try.func10, Try.ntmps10
  go_wp2
  go_ret
  exact ⟨rfl, Below.refl _ _⟩
theorem fnRunPut_walk (A : Option Addr) (n c : Nat) (bs : Nat → Int) (A2 : Option Addr) (n2 c2 : Nat) (w : World) (hb : BytesIn w A n bs) (hnc : n ≤ c) (hc : c ≤ maxLen) (hnc2 : n2 ≤ c2) (hc2 : c2 ≤ maxLen) :
    Calls Try.prog 10 #[.slice A n c, .slice A2 n2 c2] w fun e w' => e = .returned (.bool true) ∧ Below w.heap.size w w' := by
  by_cases h : n ≤ 1048576
  · by_cases h2 : n2 ≤ 1048576
    · exact fnRunPut_small A n c bs A2 n2 c2 w ⟨h, hb⟩ hnc h2
    · exact fnRunPut_huge2 A n c A2 n2 c2 w h (by omega) (by unfold maxLen at hc2; omega)
  · exact fnRunPut_huge A n c A2 n2 c2 w (by omega) (by unfold maxLen at hc; omega) (by unfold maxLen at hc2; omega)
end Go.Proofs.Ytmidnaafljgbiaa
/- The law FnRunPut returns true at all arguments, and its arguments read behind the call as before. -/
namespace Go.Proofs.Ytmidnaafljgbiaa.fnRunPut
open Go.ChangeShapes Go.WideShapes Go.ChangeAt Go.RowKit
open Go.ChangeMaps (open_string shut_string)
theorem own : ownKnob Try.prog.godebug = none := by kernel_rfl
theorem laidOut : laidOutB Try.prog = true := by kernel_rfl

set_option maxRecDepth 100000 in
theorem lifted (os : Os) (started : os.Started) (H : Type) (enc : TypeId × Value → H) :
    ReturnsInHanded {} Try.checked os 10 .any (Rows.fnRunPutSpec.pre6 enc Try.prog Try.f10 Rows.fnRunPutRow.domain false) (Rows.fnRunPutSpec.post enc Try.prog Try.f10 false true false false) := by
  refine returnsInHanded_of_change_sized (C := Try.checked) own started (by kernel_rfl) Try.func10
    (ChangeSpec.witness6 (enc := enc) (C := Try.checked) false ⟨#[], #[.slice none 0 0, .slice none 0 0], []⟩ 8 (by kernel_rfl) (by kernel_rfl) (by kernel_rfl) (by kernel_rfl)) ?_
  intro W base args ds gs before hval0 hW hcnd hsz0 _
  have hsz : (DataW.weightsEach Try.prog (Try.f10.params.toList ++ Rows.fnRunPutSpec.plain.varTypes Try.prog) (ds ++ gs)).all (· ≤ reachBytes) = true := hsz0
  have hval : ∀ (j : Nat) t v, Try.f10.params[j]? = some t → args[j]? = some v → Value.okWide Try.prog W .any base t v := hval0
  have hW' := hW
  obtain ⟨p, q, hA0, hV, rfl, hfz, hnd⟩ := hW
  have hA : DataW.TrodAll enc Try.prog W 0 (fun _ => true) true Try.f10.params.toList args.toList ds p := hA0
  rw [Try.params10] at hA hval hsz
  obtain ⟨v0, vs0, d0, ds0, p0, q0, hargs, rfl, rfl, h0, r0⟩ := trodAll_cons hA
  obtain ⟨v1, vs1, d1, ds1, p1, q1, rfl, rfl, rfl, h1, r1⟩ := trodAll_cons r0
  obtain ⟨rfl, rfl, rfl⟩ := trodAll_nil r1
  obtain rfl : args = #[v0, v1] := by cases args; simp_all
  obtain ⟨rfl, rfl⟩ := trodVars_none hV
  have lt0 : ∀ x ∈ p0, x.block < W.heap.size := by obtain ⟨m, hm⟩ := h0; exact DataW.trod_lt m _ _ _ hm
  have lt1 : ∀ x ∈ p1, x.block < W.heap.size := by obtain ⟨m, hm⟩ := h1; exact DataW.trod_lt m _ _ _ hm
  obtain ⟨A0, n0, c0, bs0, rfl, hc0, hm0, hb0⟩ := open_bytesA (hval 0 54 v0 rfl rfl) h0
  obtain ⟨A1, n1, c1, bs1, rfl, hc1, hm1, hb1⟩ := open_bytesA (hval 1 54 v1 rfl rfl) h1
  clear hA0 hval0 hsz0 hsz
  refine (fnRunPut_walk A0 n0 c0 bs0 A1 n1 c1 W hb0 hc0 hm0 hc1 hm1).mono fun e W' ⟨he, bel⟩ => ?_
  subst he
  exact ⟨_, rfl, _, _, _, [], _, [], hW', trodAll_mk1 (shut_bool Try.underlying4 _), (trodAll_cons_mk (Below.trod laidOut (by kernel_rfl) (of_decide_eq_true (by kernel_rfl)) h0 bel lt0) (trodAll_cons_mk (Below.trod laidOut (by kernel_rfl) (of_decide_eq_true (by kernel_rfl)) h1 bel lt1) trodAll_mk0)), rfl, bel.frame _, fun h => by cases h⟩

theorem over : Rows.fnRunPutRow.holds Try.pinned (OpenSpec.ofChange Rows.fnRunPutSpec) :=
  OpenClaim.holds_of_wide 10 Try.f10 rfl rfl rfl rfl rfl rfl rfl ⟨rfl, rfl, rfl, rfl, rfl⟩ rfl rfl rfl rfl rfl (by kernel_rfl) Try.func10 (by kernel_rfl)
    (of_decide_eq_true (by kernel_rfl)) (by unfold Func.isWrapper; first | (rw [if_pos (by decide +kernel)]; kernel_rfl) | (rw [if_neg (by decide +kernel)]; exact ⟨rfl, rfl⟩))
    (fun os started H enc _ => lifted os started H enc)
theorem proved : Rows.FnRunPutSaid := over
#print axioms proved
end Go.Proofs.Ytmidnaafljgbiaa.fnRunPut
