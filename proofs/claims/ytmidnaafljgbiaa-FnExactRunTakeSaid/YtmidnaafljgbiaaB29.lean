/- Parts of the proof, in one text. -/
import Derived.Test.YtmidnaafljgbiaaB28
import Derived.Test.YtmidnaafljgbiaaB03
/- A run takes a value, or waits, by the reference. -/
namespace Go.Proofs.Ytmidnaafljgbiaa
open Go.RowKit
set_option maxRecDepth 100000

/-- What a step asks of a run. -/
structure Fit4 (r : Rn) : Prop where
  slots : r.slots.length = 4
  full : 0 ≤ r.full ∧ r.full ≤ 15
  at_ : 0 ≤ r.at_ ∧ r.at_ ≤ 1000
  mail : r.mail.length ≤ 1000
theorem Fit4.of {r : Rn} (h : runOk r = true) : Fit4 r := by
  have h := runOk_parts h
  exact ⟨h.2.2.1, h.2.2.2.1, by have := h.2.1; omega, by have := h.2.2.2.2.1; omega⟩
theorem arr_at {W : Wm} {gr nn : Nat} (hA : W.rA = some ⟨gr, 0, none⟩) (hlen : nn = W.ps.length) : wArr W = #[.slice W.cA W.code.length W.cC, .slice (some ⟨gr, 0, none⟩) nn W.rC, .slice W.qA W.queue.length W.qC, .int .i64 W.now, .int .i64 W.sent, .int .i64 W.taken, .int .i64 W.lost] := by simp only [wArr, hA, hlen]
theorem idxP_first (l : List Vl) (kind : Int) : idxP (fits · kind) l = match firstIx l kind with | some i => (i : Int) | none => -1 := rfl
theorem open_gr {V : Wm} {g gr k : Nat} {r : Rn} {a : RA} {w0 w : World} {f : List Nat} {L : List Asn} (hA : V.rA = some ⟨gr, 0, none⟩) (M : Mem w0 f w (blk g tW [.slice V.cA V.code.length V.cC, .slice (some ⟨gr, 0, none⟩) V.ps.length V.rC, .slice V.qA V.queue.length V.qC, .int .i64 V.now, .int .i64 V.sent, .int .i64 V.taken, .int .i64 V.lost] :: wld V :: L)) (hk : k < V.ps.length) (hp : (r, a) = V.ps[k]'hk) :
    ∃ (pre post : List (Rn × RA)), V.ps = pre ++ (r, a) :: post ∧ pre.length = k ∧ (∀ x : Rn × RA, (pre ++ x :: post).length = V.ps.length) ∧
      Mem w0 f w (opened g gr V.ps.length V.cA V.cC V.code V.rC pre post r a V.queue V.qA V.qC V.now V.sent V.taken V.lost L) := by
  rw [← hA] at M
  obtain ⟨gr', nn, pre, post, r', a', hA', hps, hpl, hnn, hlen, M⟩ := open_at M hk
  rw [hA] at hA'
  injection hA' with e
  injection e with e
  subst e
  subst hlen
  have e2 : (r, a) = (r', a') := by
    rw [hp]
    simp only [hps]
    rw [mid_get _ _ _ hpl]
  injection e2 with e3 e4
  subst e3
  subst e4
  exact ⟨pre, post, hps, hpl, hnn, M⟩
set_option maxHeartbeats 4000000 in
theorem sTake21 (W : Wm) (k : Nat) (o : Opx) {w0 w : World} {f : List Nat} {L L' : List Asn} (M : Mem w0 f w L) (hd : Del (wld W) L L') (hk : k < W.ps.length) (hn : W.ps.length ≤ 1000) (hq : W.queue.length ≤ 1000000) (hr : Fit4 (W.ps[k]'hk).1) (ho : 0 ≤ o.r ∧ o.r ≤ 3) :
    Calls Try.prog 167 #[.agg (wArr W), .int .i64 ((k : Int) + 1), .agg (opArr o)] w (WPost (takeW W.wd ((k : Int) + 1) o) w0 f L') := by
  have AL := add_lit0
  replace M := M.pull hd
  clear hd
  have hgr := getR_ps hk
  have hres : takeW W.wd ((k : Int) + 1) o = match firstIx (W.ps[k]'hk).1.mail o.s with
      | some i => setW { W.wd with runs := updR W.wd.runs ((k : Int) + 1) (fun r => { r with mail := r.mail.eraseIdx i, due := 0 }), taken := wr (W.taken + 1) } ((k : Int) + 1) o.r ((W.ps[k]'hk).1.mail.getD i Vl.zero)
      | none => if o.k = 7 then waitW W.wd ((k : Int) + 1) 0 else if (W.ps[k]'hk).1.due < 0 then upd W.wd ((k : Int) + 1) (fun r => { r with due := 0, at_ := o.to }) else waitW W.wd ((k : Int) + 1) (wr (W.now + o.v.n)) := by
    unfold takeW
    rw [hgr]
    rfl
  rw [hres]
  clear hres hgr
  have HWt : Hid (∀ (U : World) (L1 L2 : List Asn) (due : Int), Mem w0 f U L1 → Del (wld W) L1 L2 → Calls Try.prog 175 #[.agg (wArr W), .int .i64 ((k : Int) + 1), .int .i64 due] U (WPost (waitW W.wd ((k : Int) + 1) due) w0 f L2)) := fun U L1 L2 due M hd => sWait21 W k due M hd hk hn hq
  have HFi : Hid (∀ (U : World) (L1 L2 : List Asn), Mem w0 f U L1 → Del (wld W) L1 L2 → Calls Try.prog 84 #[.agg (runArr (W.ps[k]'hk).1 (W.ps[k]'hk).2), .int .i64 o.s] U (fun e w' => e = .returned (.int .i64 (idxP (fits · o.s) (W.ps[k]'hk).1.mail)) ∧ Below U.heap.size U w')) := fun U L1 L2 M hd => sFirst _ _ o.s U.heap.size U ((Mem.rw_ (M.pull hd).unpackW).each k hk) (Nat.le_refl _)
  obtain ⟨gr, hA, _, E⟩ := (Mem.rw_ (M.pull .here).unpackW).runs k hk
  have hA2 := arr_at hA rfl
  have HE : Hid (∀ (U : World) (L1 L2 : List Asn), Mem w0 f U L1 → Del (wld W) L1 L2 → RunAt U gr (k * 13) (W.ps[k]'hk).1 (W.ps[k]'hk).2) := by
    intro U L1 L2 M hd
    obtain ⟨g', hA', _, E⟩ := (Mem.rw_ (M.pull hd).unpackW).runs k hk
    rw [hA] at hA'
    injection hA' with e
    injection e with e
    subst e
    exact E
  clear E
  rw [hA2] at HWt ⊢
  obtain ⟨p, hp⟩ : ∃ p, p = W.ps[k]'hk := ⟨_, rfl⟩
  rw [← hp] at HFi HE hr ⊢
  obtain ⟨ok, or_, os, oto, ⟨ovk, ovn⟩⟩ := o
  simp only [opArr] at HFi ho ⊢
  obtain ⟨sN, rfl⟩ : ∃ s : Nat, or_ = (s : Int) := ⟨or_.toNat, by omega⟩
  obtain ⟨r, a⟩ := p
  simp only at HFi HE hr ⊢
  have wi : IntKind.i64.wrap ((k : Int) + 1 - 1) = (k : Int) := by rw [IntKind.wrap_i64]; omega
  have wj : IntKind.i64.wrap (k : Int) = (k : Int) := by rw [IntKind.wrap_i64]; omega
  have i1 : (0 : Int) ≤ k := by omega
  have i2 : (k : Int) < W.ps.length := by omega
  replace hp := Lib.hid hp
  replace hA := Lib.hid hA
  replace hA2 := Lib.hid hA2
  replace hr := Lib.hid hr
  obtain ⟨Q, HQ0, hQ⟩ : ∃ Q : Ending → World → Prop, (∀ e U, WPost (match firstIx r.mail os with
      | some i => setW { W.wd with runs := updR W.wd.runs ((k : Int) + 1) (fun r => { r with mail := r.mail.eraseIdx i, due := 0 }), taken := wr (W.taken + 1) } ((k : Int) + 1) sN (r.mail.getD i Vl.zero)
      | none => if ok = 7 then waitW W.wd ((k : Int) + 1) 0 else if r.due < 0 then upd W.wd ((k : Int) + 1) (fun r => { r with due := 0, at_ := oto }) else waitW W.wd ((k : Int) + 1) (wr (W.now + ovn))) w0 f L' e U → Q e U) ∧ Q = WPost (match firstIx r.mail os with
      | some i => setW { W.wd with runs := updR W.wd.runs ((k : Int) + 1) (fun r => { r with mail := r.mail.eraseIdx i, due := 0 }), taken := wr (W.taken + 1) } ((k : Int) + 1) sN (r.mail.getD i Vl.zero)
      | none => if ok = 7 then waitW W.wd ((k : Int) + 1) 0 else if r.due < 0 then upd W.wd ((k : Int) + 1) (fun r => { r with due := 0, at_ := oto }) else waitW W.wd ((k : Int) + 1) (wr (W.now + ovn))) w0 f L' := ⟨_, fun _ _ h => h, rfl⟩
  rw [← hQ]
  clear hQ
  have HQ := Lib.hid HQ0
  clear HQ0
  go_enter Try.func167, Try.ntmps167
  go_upto_region 1 with (first | (with_reducible refine alA M ?_; clear M; (try clear F); intro w1 M F))
  clear F
  rename_i u1 u2 _ _
  generalize w.heap.size = g3 at M ⊢
  generalize u1.heap.size = g5 at M ⊢
  generalize u2.heap.size = g6 at M ⊢
  obtain ⟨E0, E1, E2, E3, E4, E5, E6, E7, E8, E9, E10, E11, E12⟩ := HE.out _ _ _ M dl
  (try clear F); have F := fx M
  go_upto_region 2 with (first | (with_reducible refine alA M ?_; clear M; (try clear F); intro w1 M F) | ((with_reducible apply ev_store (M := M)); rfl; rfl; ((conv => lhs; whnf) <;> rfl); rfl; (first | exact siI | exact siR | exact siV | exact siB | exact siSI | exact siSV | exact siW | exact siSR | exact siSO | exact siO); (exact one_all rfl); (exact dl); (exact Nat.le_of_ble_eq_true rfl); clear M; intro w1 M; simp only [SX] at M; (try clear F); have F := fx M))
  clear E0 E1 E2 E3 E4 E5 E6 E7 E8 E9 E10 E11 E12
  clear F
  rename_i u3 u4 _ _
  generalize u3.heap.size = g7 at M ⊢
  have hidx := idxP_first r.mail os
  have hrr := hr.out
  cases hfx : firstIx r.mail os with
  | none =>
    rw [hfx] at hidx
    simp only at hidx
    rw [hidx] at HFi
    rw [hfx] at HQ
    simp only at HQ
    clear hidx hfx hrr
    by_cases h7 : ok = 7
    · --[1
      subst h7
      rw [if_pos rfl] at HQ
      (try clear F); have F := fx M
      go_wp2_with (first | (with_reducible refine alA M ?_; clear M; (try clear F); intro w1 M F) | ((with_reducible apply ev_store (M := M)); rfl; rfl; ((conv => lhs; whnf) <;> rfl); rfl; (first | exact siI | exact siR | exact siV | exact siB | exact siSI | exact siSV | exact siW | exact siSR | exact siSO | exact siO); (exact one_all rfl); (exact dl); (exact Nat.le_of_ble_eq_true rfl); clear M; intro w1 M; simp only [SX] at M; (try clear F); have F := fx M) | (go_at_call 84; (refine nmK ?_; clear M; (try clear F); intro w1 M F); refine (HFi.out _ _ _ M dl).mono ?_; rintro e w2 ⟨rfl, hb⟩; replace M := M.below hb; clear hb; (try clear F); have F := fx M) | (go_at_call 175; (refine nmK ?_; clear M; (try clear F); intro w1 M F); refine (HWt.out _ _ _ (0) M dl).mono ?_; clear M; rintro e w2 ⟨Y, hY, rfl, M⟩; replace hY := Lib.hid hY; (try clear F); have F := fx M))
      apply ret_cell (M := M); rfl; rfl; (exact dl); (first | exact agR | exact agV | exact agW | exact agO); (first | exact siI | exact siR | exact siV | exact siB | exact siSI | exact siSV | exact siW | exact siSR | exact siSO | exact siO); rfl
      exact HQ.out _ _ ⟨Y, hY.out, rfl, M.sel sl⟩
      --]1
    · have h7' : (ok == 7) = false := by simpa using h7
      rw [if_neg h7] at HQ
      by_cases hdue : r.due < 0
      · --[2
        rw [if_pos hdue] at HQ
        (try clear F); have F := fx M
        go_upto_region 12 with (first | (go_at_call 84; (refine nmK ?_; clear M; (try clear F); intro w1 M F); refine (HFi.out _ _ _ M dl).mono ?_; rintro e w2 ⟨rfl, hb⟩; replace M := M.below hb; clear hb; (try clear F); have F := fx M))
        obtain ⟨pre, post, hps, hpl, hnn, M1⟩ := open_gr hA.out (M.sel (T := blk g3 tW [.slice W.cA W.code.length W.cC, .slice (some ⟨gr, 0, none⟩) W.ps.length W.rC, .slice W.qA W.queue.length W.qC, .int .i64 W.now, .int .i64 W.sent, .int .i64 W.taken, .int .i64 W.lost] :: wld W :: blk g5 tO [.int .i64 ok, .int .i64 (sN : Int), .int .i64 os, .int .i64 oto, .int .i64 ovk, .int .i64 ovn] :: blk g6 tW [.slice none 0 0, .slice none 0 0, .slice none 0 0, .int .i64 0, .int .i64 0, .int .i64 0, .int .i64 0] :: L') sl) hk hp.out
        clear M
        have M := M1
        clear M1
        unfold opened at M
        replace hps := Lib.hid hps
        replace hpl := Lib.hid hpl
        replace hnn := Lib.hid hnn
        (try clear F); have F := fx M
        go_wp2_with (first | ((with_reducible apply ev_store (M := M)); rfl; rfl; ((conv => lhs; whnf) <;> rfl); rfl; (first | exact siI | exact siR | exact siV | exact siB | exact siSI | exact siSV | exact siW | exact siSR | exact siSO | exact siO); (exact one_all rfl); (exact dl); (exact Nat.le_of_ble_eq_true rfl); clear M; intro w1 M; simp only [SX] at M; (try clear F); have F := fx M) | ((with_reducible apply ev_elem (enc := encR) (x' := (({ r with due := 0 }, a) : Rn × RA)) (j := 6) (k := k) (hk := encR_length) (M := M)); rfl; rfl; ((conv => lhs; whnf) <;> rfl); rfl; (first | exact siI | exact siB | exact siSI); rfl; (exact dl); (first | with_reducible rfl | with_reducible exact (Nat.add_zero _).symm); exact hpl.out; decide; exact rfl; clear M; intro w1 M; (try clear F); have F := fx M) | ((with_reducible apply ev_elem (enc := encR) (x' := (({ { r with due := 0 } with at_ := oto }, a) : Rn × RA)) (j := 1) (k := k) (hk := encR_length) (M := M)); rfl; rfl; ((conv => lhs; whnf) <;> rfl); rfl; (first | exact siI | exact siB | exact siSI); rfl; (exact dl); (first | with_reducible rfl | with_reducible exact (Nat.add_zero _).symm); exact hpl.out; decide; exact rfl; clear M; intro w1 M; (try clear F); have F := fx M))
        apply ret_cell (M := M); rfl; rfl; (exact dl); (first | exact agR | exact agV | exact agW | exact agO); (first | exact siI | exact siR | exact siV | exact siB | exact siSI | exact siSV | exact siW | exact siSR | exact siSO | exact siO); rfl
        refine HQ.out _ _ (wpost_mid hps.out hpl.out hnn.out (fun r => { r with due := 0, at_ := oto }) a (g3 := g3) ?_ rfl ?_)
        · rfl
        · exact M.sel sl
        --]2
      · --[3
        rw [if_neg hdue] at HQ
        have wn := wr_wrap (W.now + ovn)
        generalize wr (W.now + ovn) = dn at wn HQ
        (try clear F); have F := fx M
        go_wp2_with (first | (with_reducible refine alA M ?_; clear M; (try clear F); intro w1 M F) | ((with_reducible apply ev_store (M := M)); rfl; rfl; ((conv => lhs; whnf) <;> rfl); rfl; (first | exact siI | exact siR | exact siV | exact siB | exact siSI | exact siSV | exact siW | exact siSR | exact siSO | exact siO); (exact one_all rfl); (exact dl); (exact Nat.le_of_ble_eq_true rfl); clear M; intro w1 M; simp only [SX] at M; (try clear F); have F := fx M) | (go_at_call 84; (refine nmK ?_; clear M; (try clear F); intro w1 M F); refine (HFi.out _ _ _ M dl).mono ?_; rintro e w2 ⟨rfl, hb⟩; replace M := M.below hb; clear hb; (try clear F); have F := fx M) | (go_at_call 175; (refine nmK ?_; clear M; (try clear F); intro w1 M F); refine (HWt.out _ _ _ (dn) M dl).mono ?_; clear M; rintro e w2 ⟨Y, hY, rfl, M⟩; replace hY := Lib.hid hY; (try clear F); have F := fx M))
        apply ret_cell (M := M); rfl; rfl; (exact dl); (first | exact agR | exact agV | exact agW | exact agO); (first | exact siI | exact siR | exact siV | exact siB | exact siSI | exact siSV | exact siW | exact siSR | exact siSO | exact siO); rfl
        exact HQ.out _ _ ⟨Y, hY.out, rfl, M.sel sl⟩
        --]3
  | some i =>
    obtain ⟨hi, _, _⟩ := firstIx_some hfx
    rw [hfx] at hidx
    simp only at hidx
    rw [hidx] at HFi
    rw [hfx] at HQ
    simp only at HQ
    have hget : r.mail.getD i Vl.zero = r.mail[i] := by rw [List.getD_eq_getElem?_getD, List.getElem?_eq_getElem hi]; rfl
    rw [hget] at HQ
    have HTk : Hid (∀ (U : World) (L1 L2 : List Asn), Mem w0 f U L1 → Del (row encV 2 tV a.mA a.mC r.mail) L1 L2 → Calls Try.prog 48 #[.agg (runArr r a), .int .i64 (i : Int)] U (fun e w' => ∃ (A : Option Addr) (c : Nat), e = .returned (.tuple #[.agg (runArr { r with mail := r.mail.eraseIdx i } { a with mA := A, mC := c }), .agg #[.int .i64 (r.mail[i]'hi).k, .int .i64 (r.mail[i]'hi).n]]) ∧ Mem w0 f w' (row encV 2 tV A c (r.mail.eraseIdx i) :: row encV 2 tV a.mA a.mC r.mail :: L2))) := fun U L1 L2 M hd => sTake11 r a i M hd hi hrr.mail
    generalize r.mail[i] = x at HTk HQ
    obtain ⟨xk, xn⟩ := x
    simp only at HTk
    have hi0 : (0 : Int) ≤ i := by omega
    have hi1 : ¬ ((i : Int) < 0) := by omega
    have wt := wr_wrap (W.taken + 1)
    generalize wr (W.taken + 1) = tk at wt HQ
    clear hidx hfx hget hrr
    --[4
    (try clear F); have F := fx M
    go_upto_region 4 with (first | (go_at_call 84; (refine nmK ?_; clear M; (try clear F); intro w1 M F); refine (HFi.out _ _ _ M dl).mono ?_; rintro e w2 ⟨rfl, hb⟩; replace M := M.below hb; clear hb; (try clear F); have F := fx M))
    obtain ⟨pre, post, hps, hpl, hnn, M1⟩ := open_gr hA.out (M.sel (T := blk g3 tW [.slice W.cA W.code.length W.cC, .slice (some ⟨gr, 0, none⟩) W.ps.length W.rC, .slice W.qA W.queue.length W.qC, .int .i64 W.now, .int .i64 W.sent, .int .i64 W.taken, .int .i64 W.lost] :: wld W :: blk g7 tR [.int .i64 r.id, .int .i64 r.at_, .slice a.sA r.slots.length a.sC, .int .i64 r.full, .slice a.mA r.mail.length a.mC, .int .i64 r.state, .int .i64 r.due, .slice a.lA r.links.length a.lC, .slice a.wA r.watched.length a.wC, .bool r.trap, .int .i64 r.why.k, .int .i64 r.why.n, .int .i64 r.turns] :: blk g5 tO [.int .i64 ok, .int .i64 (sN : Int), .int .i64 os, .int .i64 oto, .int .i64 ovk, .int .i64 ovn] :: blk g6 tW [.slice none 0 0, .slice none 0 0, .slice none 0 0, .int .i64 0, .int .i64 0, .int .i64 0, .int .i64 0] :: L') sl) hk hp.out
    clear M
    have M := M1
    clear M1
    unfold opened at M
    replace hps := Lib.hid hps
    replace hpl := Lib.hid hpl
    replace hnn := Lib.hid hnn
    (try clear F); have F := fx M
    go_upto_region 8 with (first | (with_reducible refine alA M ?_; clear M; (try clear F); intro w1 M F) | ((with_reducible apply ev_store (M := M)); rfl; rfl; ((conv => lhs; whnf) <;> rfl); rfl; (first | exact siI | exact siR | exact siV | exact siB | exact siSI | exact siSV | exact siW | exact siSR | exact siSO | exact siO); (exact one_all rfl); (exact dl); (exact Nat.le_of_ble_eq_true rfl); clear M; intro w1 M; simp only [SX] at M; (try clear F); have F := fx M) | (go_at_call 48; (refine nmK ?_; clear M; (try clear F); intro w1 M F); refine (HTk.out _ _ _ M dl).mono ?_; clear M; rintro e w2 ⟨A1, c1, rfl, M⟩; (try clear F); have F := fx M) | ((with_reducible apply ev_put_mid (x' := (({ { r with mail := r.mail.eraseIdx i } with due := 0 }, { { a with mA := A1 } with mC := c1 }) : Rn × RA)) (k := k) (hk := encR_length) (hone := oneR) (M := M)); rfl; rfl; ((conv => lhs; whnf) <;> rfl); rfl; exact siR; (exact dl); rfl; exact hpl.out; clear M; intro w1 M; (try clear F); have F := fx M))
    clear F
    rename_i u9 _ _ _ _ _ _ _
    generalize u9.heap.size = g10 at M ⊢
    have M2 : Mem w0 f _ (opened g3 gr W.ps.length W.cA W.cC W.code W.rC pre post { { r with mail := r.mail.eraseIdx i } with due := 0 } { { a with mA := A1 } with mC := c1 } W.queue W.qA W.qC W.now W.sent tk W.lost (blk g10 tV [.int .i64 xk, .int .i64 xn] :: blk g5 tO [.int .i64 ok, .int .i64 (sN : Int), .int .i64 os, .int .i64 oto, .int .i64 ovk, .int .i64 ovn] :: blk g6 tW [.slice none 0 0, .slice none 0 0, .slice none 0 0, .int .i64 0, .int .i64 0, .int .i64 0, .int .i64 0] :: L')) :=
      M.sel (T := blk g3 tW [.slice W.cA W.code.length W.cC, .slice (some ⟨gr, 0, none⟩) W.ps.length W.rC, .slice W.qA W.queue.length W.qC, .int .i64 W.now, .int .i64 W.sent, .int .i64 tk, .int .i64 W.lost] :: row encR 13 tR (some ⟨gr, 0, none⟩) W.rC (pre ++ (({ { r with mail := r.mail.eraseIdx i } with due := 0 }, { { a with mA := A1 } with mC := c1 }) : Rn × RA) :: post) :: row encV 2 tV a.sA a.sC r.slots :: row encV 2 tV A1 c1 (r.mail.eraseIdx i) :: row encI 1 tI a.lA a.lC r.links :: row encI 1 tI a.wA a.wC r.watched :: rws (pre ++ post) :: row encO 6 tO W.cA W.cC W.code :: row encI 1 tI W.qA W.qC W.queue :: blk g10 tV [.int .i64 xk, .int .i64 xn] :: blk g5 tO [.int .i64 ok, .int .i64 (sN : Int), .int .i64 os, .int .i64 oto, .int .i64 ovk, .int .i64 ovn] :: blk g6 tW [.slice none 0 0, .slice none 0 0, .slice none 0 0, .int .i64 0, .int .i64 0, .int .i64 0, .int .i64 0] :: L')
        (.cons .here (.cons .here (.cons (.there (.there (.there (.there .here)))) (.cons (.there (.there .here)) (.cons (.there (.there (.there .here))) (.cons (.there (.there (.there .here))) (.cons (.there (.there (.there .here))) (.cons (.there (.there (.there .here))) (.cons (.there (.there (.there .here))) (.cons (.there .here) (.drop (.drop (.drop .refl)))))))))))))
    replace M := close_at M2 hnn.out
    clear M2
    have hw := wd_mid hps.out hpl.out (fun r => { r with mail := r.mail.eraseIdx i, due := 0 }) { { a with mA := A1 } with mC := c1 } W.cA (some ⟨gr, 0, none⟩) W.qA W.cC W.rC W.qC W.queue W.now W.sent tk W.lost
    have hl1 : (⟨W.code, W.cA, W.cC, pre ++ (({ { r with mail := r.mail.eraseIdx i } with due := 0 }, { { a with mA := A1 } with mC := c1 }) : Rn × RA) :: post, some ⟨gr, 0, none⟩, W.rC, W.queue, W.qA, W.qC, W.now, W.sent, tk, W.lost⟩ : Wm).ps.length = W.ps.length := hnn.out _
    have hk1 : k < (⟨W.code, W.cA, W.cC, pre ++ (({ { r with mail := r.mail.eraseIdx i } with due := 0 }, { { a with mA := A1 } with mC := c1 }) : Rn × RA) :: post, some ⟨gr, 0, none⟩, W.rC, W.queue, W.qA, W.qC, W.now, W.sent, tk, W.lost⟩ : Wm).ps.length := by rw [hl1]; exact hk
    have hp1 : ((⟨W.code, W.cA, W.cC, pre ++ (({ { r with mail := r.mail.eraseIdx i } with due := 0 }, { { a with mA := A1 } with mC := c1 }) : Rn × RA) :: post, some ⟨gr, 0, none⟩, W.rC, W.queue, W.qA, W.qC, W.now, W.sent, tk, W.lost⟩ : Wm).ps[k]'hk1).1 = { { r with mail := r.mail.eraseIdx i } with due := 0 } := by rw [mid_get _ _ _ hpl.out]
    have hA1 := arr_at (W := (⟨W.code, W.cA, W.cC, pre ++ (({ { r with mail := r.mail.eraseIdx i } with due := 0 }, { { a with mA := A1 } with mC := c1 }) : Rn × RA) :: post, some ⟨gr, 0, none⟩, W.rC, W.queue, W.qA, W.qC, W.now, W.sent, tk, W.lost⟩ : Wm)) rfl hl1.symm
    have hw7 : w7 (⟨W.code, W.cA, W.cC, pre ++ (({ { r with mail := r.mail.eraseIdx i } with due := 0 }, { { a with mA := A1 } with mC := c1 }) : Rn × RA) :: post, some ⟨gr, 0, none⟩, W.rC, W.queue, W.qA, W.qC, W.now, W.sent, tk, W.lost⟩ : Wm) = [.slice W.cA W.code.length W.cC, .slice (some ⟨gr, 0, none⟩) W.ps.length W.rC, .slice W.qA W.queue.length W.qC, .int .i64 W.now, .int .i64 W.sent, .int .i64 tk, .int .i64 W.lost] := by rw [← hl1]
    have HS : Hid (∀ (U : World) (L1 L2 : List Asn), Mem w0 f U L1 → Del (wld (⟨W.code, W.cA, W.cC, pre ++ (({ { r with mail := r.mail.eraseIdx i } with due := 0 }, { { a with mA := A1 } with mC := c1 }) : Rn × RA) :: post, some ⟨gr, 0, none⟩, W.rC, W.queue, W.qA, W.qC, W.now, W.sent, tk, W.lost⟩ : Wm)) L1 L2 → Calls Try.prog 164 #[.agg #[.slice W.cA W.code.length W.cC, .slice (some ⟨gr, 0, none⟩) W.ps.length W.rC, .slice W.qA W.queue.length W.qC, .int .i64 W.now, .int .i64 W.sent, .int .i64 tk, .int .i64 W.lost], .int .i64 ((k : Int) + 1), .int .i64 (sN : Int), .agg #[.int .i64 xk, .int .i64 xn]] U (WPost (setW (⟨W.code, W.cA, W.cC, pre ++ (({ { r with mail := r.mail.eraseIdx i } with due := 0 }, { { a with mA := A1 } with mC := c1 }) : Rn × RA) :: post, some ⟨gr, 0, none⟩, W.rC, W.queue, W.qA, W.qC, W.now, W.sent, tk, W.lost⟩ : Wm).wd ((k : Int) + 1) sN ⟨xk, xn⟩) w0 f L2)) := fun U L1 L2 M hd => by
      have h := sSet21 (⟨W.code, W.cA, W.cC, pre ++ (({ { r with mail := r.mail.eraseIdx i } with due := 0 }, { { a with mA := A1 } with mC := c1 }) : Rn × RA) :: post, some ⟨gr, 0, none⟩, W.rC, W.queue, W.qA, W.qC, W.now, W.sent, tk, W.lost⟩ : Wm) k sN ⟨xk, xn⟩ M hd hk1 (by rw [hl1]; exact hn) (by omega) (by rw [hp1]; exact hr.out.slots) (by rw [hp1]; exact hr.out.full) (by rw [hp1]; exact hr.out.at_)
      rw [hA1] at h
      exact h
    rw [hw7] at M
    clear hA1 hw7 hp1
    rw [hw] at HS
    generalize (⟨W.code, W.cA, W.cC, pre ++ (({ { r with mail := r.mail.eraseIdx i } with due := 0 }, { { a with mA := A1 } with mC := c1 }) : Rn × RA) :: post, some ⟨gr, 0, none⟩, W.rC, W.queue, W.qA, W.qC, W.now, W.sent, tk, W.lost⟩ : Wm) = V1 at M HS
    clear hw hl1 hk1
    (try clear F); have F := fx M
    go_wp2_with (first | ((with_reducible apply ev_store (M := M)); rfl; rfl; ((conv => lhs; whnf) <;> rfl); rfl; (first | exact siI | exact siR | exact siV | exact siB | exact siSI | exact siSV | exact siW | exact siSR | exact siSO | exact siO); (exact one_all rfl); (exact dl); (exact Nat.le_of_ble_eq_true rfl); clear M; intro w1 M; simp only [SX] at M; (try clear F); have F := fx M) | (go_at_call 164; (refine nmK ?_; clear M; (try clear F); intro w1 M F); refine (HS.out _ _ _ M dl).mono ?_; clear M; rintro e w2 ⟨Y, hY, rfl, M⟩; replace hY := Lib.hid hY; (try clear F); have F := fx M))
    apply ret_cell (M := M); rfl; rfl; (exact dl); (first | exact agR | exact agV | exact agW | exact agO); (first | exact siI | exact siR | exact siV | exact siB | exact siSI | exact siSV | exact siW | exact siSR | exact siSO | exact siO); rfl
    exact HQ.out _ _ ⟨Y, hY.out, rfl, M.sel sl⟩
    --]4
end Go.Proofs.Ytmidnaafljgbiaa
/- A new run of the reference, over what is held (for seats without RunNew). -/
namespace Go.Proofs.Ytmidnaafljgbiaa
open Go.RowKit
set_option maxRecDepth 100000

theorem newRun_mem {w0 w : World} {f : List Nat} {L : List Asn} {g1 g2 g3 g4 : Nat} {id at_ k n : Int} (M : Mem w0 f w (blk g1 tV [.int .i64 k, .int .i64 n, .int .i64 0, .int .i64 0, .int .i64 0, .int .i64 0, .int .i64 0, .int .i64 0] :: blk g2 tV [] :: blk g3 tI [] :: blk g4 tI [] :: L)) :
    Mem w0 f w (runA (newRun id at_ ⟨k, n⟩) ⟨some ⟨g1, 0, none⟩, 4, some ⟨g2, 0, none⟩, 0, some ⟨g3, 0, none⟩, 0, some ⟨g4, 0, none⟩, 0⟩ :: L) := by
  have M1 := Mem.row_of encV_length (xs := [⟨k, n⟩, Vl.zero, Vl.zero, Vl.zero]) M rfl (by simp)
  have M2 := Mem.row_of encV_length (xs := []) (M1.pull (.there .here)) rfl (by decide)
  have M3 := Mem.row_of encI_length (xs := []) (M2.pull (.there (.there .here))) rfl (by decide)
  have M4 := Mem.row_of encI_length (xs := []) (M3.pull (.there (.there (.there .here)))) rfl (by decide)
  exact Mem.packRun (M4.sel (.cons (.there (.there (.there .here))) (.cons (.there (.there .here)) (.cons (.there .here) (.cons .here .refl)))))
set_option maxHeartbeats 1000000 in
theorem sNewM (id at_ : Int) (v : Vl) {w0 w : World} {f : List Nat} {L : List Asn} (M : Mem w0 f w L) :
    Calls Try.prog 62 #[.int .i64 id, .int .i64 at_, .agg #[.int .i64 v.k, .int .i64 v.n]] w fun e w' => ∃ b : RA, e = .returned (.agg (runArr (newRun id at_ v) b)) ∧ Mem w0 f w' (runA (newRun id at_ v) b :: L) := by
  obtain ⟨k, n⟩ := v
  go_enter Try.func62, Try.ntmps62
  go_wp2_with (first
    | (with_reducible refine alA M ?_; clear M; (try clear F); intro w1 M F) | ((with_reducible apply ev_store (M := M)); rfl; rfl; ((conv => lhs; whnf) <;> rfl); rfl; (first | exact siI | exact siR | exact siV | exact siB | exact siSI | exact siSV | exact siW | exact siSR | exact siSO | exact siO); (exact one_all rfl); (exact dl); (exact Nat.le_of_ble_eq_true rfl); clear M; intro w1 M; simp only [SX] at M; (try clear F); have F := fx M) | ((with_reducible refine goal_drewN (G := fun W => wpList _ _ _ _ _ W) M ?_); clear M; intro w1 M; (try clear F); have F := fx M) | ((with_reducible refine goal_drew (G := fun W => wpList _ _ _ _ _ W) M ?_); clear M; intro w1 M; (try clear F); have F := fx M) | ((with_reducible refine isSet (G := fun W => wpList _ _ _ _ _ W) ?_); (with_reducible refine nm (G := fun W => wpList _ _ _ _ _ W) ?_; clear M; (try clear F); intro w1 M F)))
  apply ret_cell (M := M); rfl; rfl; (exact dl); (first | exact agR | exact agV | exact agW | exact agO); (first | exact siI | exact siR | exact siV | exact siB | exact siSI | exact siSV | exact siW | exact siSR | exact siSO | exact siO); rfl
  exact ⟨⟨some ⟨_, 0, none⟩, 4, some ⟨_, 0, none⟩, 0, some ⟨_, 0, none⟩, 0, some ⟨_, 0, none⟩, 0⟩, rfl, newRun_mem (M.sel sl)⟩
end Go.Proofs.Ytmidnaafljgbiaa
/- Turns in plain words: a run begins, is linked, watches, sends. No Go and no memory here. -/
namespace Go.Proofs.Ytmidnaafljgbiaa

/-! ### One more run -/
theorem getR_append {l : List Rn} {r : Rn} {x : Int} (h1 : 1 ≤ x) : getR (l ++ [r]) x = if x = (l.length : Int) + 1 then r else getR l x := by
  unfold getR
  rw [List.getD_eq_getElem?_getD, List.getD_eq_getElem?_getD]
  split
  · rename_i e
    rw [List.getElem?_append_right (by omega)]
    have : (x - 1).toNat - l.length = 0 := by omega
    rw [this]
    rfl
  · rename_i e
    by_cases hx : x ≤ l.length
    · rw [List.getElem?_append_left (by omega)]
    · rw [List.getElem?_eq_none (by simp; omega), List.getElem?_eq_none (by omega)]
theorem waits_append (l m : List Rn) : waits (l ++ m) = waits l + waits m := by
  induction l with
  | nil => simp [waits]
  | cons r l ih => simp only [List.cons_append, waits, ih]; omega
theorem sumR_append (g : Rn → Nat) (l m : List Rn) : sumR g (l ++ m) = sumR g l + sumR g m := by
  induction l with
  | nil => simp [sumR]
  | cons r l ih => simp only [List.cons_append, sumR, ih]; omega
theorem runOk_begin {id to : Int} {v : Vl} (h1 : 1 ≤ id ∧ id ≤ 6) (h2 : 0 ≤ to ∧ to ≤ 15) (hv : valOk v = true) : runOk (newRun id to v) = true := by
  have z : valOk Vl.zero = true := by decide
  have b : hasBit 1 0 = true := by decide
  simp [runOk, newRun, inB_iff.2 h1, inB_iff.2 h2, slotsFrom, hv, z, b, idsOk, idsFrom]
  decide
theorem begin_ok {w : Wd} (h : WOk w) (hl : w.runs.length + 1 ≤ 6) {to id : Int} (hto : 0 ≤ to ∧ to < w.code.length) (hn : needAt (fullOf w.code) to 1 = true) (hid : 1 ≤ id ∧ id ≤ 6) :
    WOk { w with runs := w.runs ++ [newRun ((w.runs.length : Int) + 1) to ⟨3, id⟩], queue := w.queue ++ [(w.runs.length : Int) + 1] } := by
  have hc := h.code_len
  have hv : valOk ⟨3, id⟩ = true := by
    unfold valOk
    simp only [if_neg (by decide : ¬ (3 : Int) = 0), if_neg (by decide : ¬ (3 : Int) = 1), if_neg (by decide : ¬ (3 : Int) = 2)]
    exact inB_iff.2 hid
  have ha : ∀ x, aliveIn w.runs x = true → aliveIn (w.runs ++ [newRun ((w.runs.length : Int) + 1) to ⟨3, id⟩]) x = true := by
    intro x hx
    rw [aliveIn_iff] at hx ⊢
    rw [getR_append hx.1.1, if_neg (by omega)]
    exact ⟨⟨hx.1.1, by simp; omega⟩, hx.2⟩
  have hnq : (w.runs.length : Int) + 1 ∉ w.queue := fun hm => by have := (h.qin _ hm).2; omega
  have hlen := h.len
  refine wok_of h.safe (by simp; omega) h.now h.sent h.taken h.lost ?_ ?_ ?_ ?_ ?_
  · intro x hx
    simp only [List.length_append, List.length_cons, List.length_nil]
    rcases List.mem_append.1 hx with hx | hx
    · have := h.qin x hx; omega
    · rw [List.mem_singleton] at hx; omega
  · rw [List.nodup_append]
    refine ⟨h.qnd, by simp, ?_⟩
    intro a ha b hb e
    rw [List.mem_singleton] at hb
    subst hb
    subst e
    exact hnq ha
  · intro x x1 x2
    simp only [List.length_append, List.length_cons, List.length_nil] at x2
    rw [getR_append x1]
    split
    · rename_i e
      subst e
      refine ⟨runOk_begin (by omega) (by omega) hv, by show (w.runs.length : Int) + 1 = _; omega, hto.2, ?_, fun e => ?_, fun y hy => ?_, fun y hy => ?_, fun _ => hn⟩
      · show (w.runs.length : Int) + 1 ∈ w.queue ++ _ ↔ (1 : Int) = 1
        simp
      · have e : (1 : Int) = 2 := e
        omega
      · have hy : y ∈ ([] : List Int) := hy
        simp at hy
      · have hy : y ∈ ([] : List Int) := hy
        simp at hy
    · rename_i e
      have hx := h.run x1 (by omega)
      refine hx.keep rfl (fun _ => rfl) ha ?_
      show _ ∈ w.queue ++ _ ↔ _
      rw [h.run_id x1 (by omega), List.mem_append, List.mem_singleton]
      exact ⟨fun hm => hm.resolve_right e, .inl⟩
  · intro a b a1 a2 b1 b2 hb
    simp only [List.length_append, List.length_cons, List.length_nil] at a2 b2
    rw [getR_append a1] at hb
    split at hb
    · have hb : b ∈ ([] : List Int) := hb
      simp at hb
    · have hk := h.link a1 (by omega) hb
      rw [getR_append b1, if_neg (by omega)]
      exact hk.2.1
  · have := h.sum
    show w.sent = w.taken + w.lost + waits (w.runs ++ _)
    rw [waits_append]
    simp only [waits, newRun, List.length_nil]
    omega
def beginW (w : Wd) (id : Int) (o : Opx) : Wd :=
  if 6 < (w.runs.length : Int) + 1 then setW w id o.r Vl.zero
  else setW { w with runs := w.runs ++ [newRun ((w.runs.length : Int) + 1) o.to ⟨3, id⟩], queue := w.queue ++ [(w.runs.length : Int) + 1] } id o.r ⟨3, (w.runs.length : Int) + 1⟩
theorem ok_run {id : Int} (h : 1 ≤ id ∧ id ≤ 6) : valOk ⟨3, id⟩ = true := by
  unfold valOk
  simp only [if_neg (by decide : ¬ (3 : Int) = 0), if_neg (by decide : ¬ (3 : Int) = 1), if_neg (by decide : ¬ (3 : Int) = 2)]
  exact inB_iff.2 h
theorem beginW_turned {w : Wd} {id : Int} (h : WOk w) (h1 : 1 ≤ id) (h2 : id ≤ w.runs.length) (hs : (getR w.runs id).state = 1) (hk : (opAt w.code (getR w.runs id).at_).k = 5) {n : Int} (hn0 : 0 ≤ n) :
    Turned w (beginW w id (opAt w.code (getR w.runs id).at_)) n := by
  have nd := h.need h1 h2 (by omega)
  obtain ⟨_, _, _, _, _, _, kt⟩ := opOk_parts nd.at_.op
  have hlen := h.len
  have fills : fillsR (opAt w.code (getR w.runs id).at_).k = true ∨ (opAt w.code (getR w.runs id).at_).k = 3 := .inl (by rw [hk]; rfl)
  unfold beginW
  by_cases hl : 6 < (w.runs.length : Int) + 1
  · rw [if_pos hl]
    exact setW_turned h h1 h2 hs (by decide) fills hn0
  · rw [if_neg hl]
    have ok := begin_ok h (by omega) (id := id) ⟨kt.1, nd.at_.to (by rw [hk]; rfl)⟩ (nd.begins hk) (by omega)
    have e : getR (w.runs ++ [newRun ((w.runs.length : Int) + 1) (opAt w.code (getR w.runs id).at_).to ⟨3, id⟩]) id = getR w.runs id := by rw [getR_append h1, if_neg (by omega)]
    have t := setW_turned (id := id) ok h1 (by simp; omega) (by show (getR (w.runs ++ _) id).state = 1; rw [e]; exact hs) (v := ⟨3, (w.runs.length : Int) + 1⟩) (ok_run (by omega)) (by show fillsR (opAt w.code (getR (w.runs ++ _) id).at_).k = true ∨ (opAt w.code (getR (w.runs ++ _) id).at_).k = 3; rw [e]; exact fills) hn0
    have e2 : (opAt w.code (getR (w.runs ++ [newRun ((w.runs.length : Int) + 1) (opAt w.code (getR w.runs id).at_).to ⟨3, id⟩]) id).at_).r = (opAt w.code (getR w.runs id).at_).r := by rw [e]
    simp only [e2] at t
    refine Turned.trans (m := 0) (n := n) ⟨ok, rfl, by simp, ?_⟩ t (by omega)
    unfold room
    simp only [List.length_append, List.length_cons, List.length_nil, sumR_append, sumR]
    unfold liveW
    simp only [newRun]
    simp
    omega

/-! ### Links and watchers -/
theorem idsOk_add {l : List Int} {own x : Int} (h : idsOk l own = true) (hx : 1 ≤ x ∧ x ≤ 6) (hne : x ≠ own) (hn : x ∉ l) : idsOk (l ++ [x]) own = true := by
  rw [idsOk_iff] at h ⊢
  refine ⟨fun y hy => ?_, ?_⟩
  · rcases List.mem_append.1 hy with hy | hy
    · exact h.1 y hy
    · rw [List.mem_singleton] at hy; subst hy; exact ⟨hx.1, hx.2, hne⟩
  · rw [List.nodup_append]
    refine ⟨h.2, by simp, ?_⟩
    intro a ha b hb e
    rw [List.mem_singleton] at hb
    subst hb
    subst e
    exact hn ha
theorem runOk_lists {r : Rn} (h : runOk r = true) (hs : r.state ≠ 3) {l m : List Int} (hl : idsOk l r.id = true) (hm : idsOk m r.id = true) : runOk { r with links := l, watched := m } = true := by
  obtain ⟨h1, h2, h3, h4, h5, h6, h7, h8, h9, h10, h11, h12, h13, h14, h15⟩ := runOk_parts h
  simp only [runOk, Bool.and_eq_true, decide_eq_true_eq, inB_iff, beq_iff_eq]
  refine ⟨⟨⟨⟨⟨⟨⟨⟨⟨⟨⟨⟨⟨h1, h2⟩, h3⟩, h4⟩, h5⟩, h6⟩, h7⟩, h8⟩, h9⟩, h10⟩, hl⟩, hm⟩, h13⟩, ?_⟩
  rw [if_neg hs]
  simpa using h15 hs
def watchW (w : Wd) (b id : Int) : Wd := upd w b (fun r => { r with watched := r.watched ++ [id] })
def linkW2 (w : Wd) (id b : Int) : Wd := upd (upd w id (fun r => { r with links := r.links ++ [b] })) b (fun r => { r with links := r.links ++ [id] })
theorem watchW_turned {w : Wd} {b id : Int} (h : WOk w) (hb : aliveIn w.runs b = true) (hi : aliveIn w.runs id = true) (hne : id ≠ b) (hn : id ∉ (getR w.runs b).watched) {n : Int} (hn0 : 0 ≤ n) : Turned w (watchW w b id) n := by
  obtain ⟨⟨b1, b2⟩, b3⟩ := aliveIn_iff.1 hb
  obtain ⟨⟨i1, i2⟩, i3⟩ := aliveIn_iff.1 hi
  have f := h.run b1 b2
  have hlen := h.len
  obtain ⟨_, _, _, _, _, _, _, _, _, _, o1, o2, _⟩ := runOk_parts f.ok
  refine Turned.upd (q := w.queue) (t := w.taken) b1 b2 b3 (by exact b3) (upd_ok h b1 b2 (fun r => { r with watched := r.watched ++ [id] }) w.queue w.taken b3 b3 ?_ rfl f.at_ (f.need b3) (fun hs => f.waits hs) rfl (fun x hx => ?_) (fun x => ?_) h.qnd h.taken rfl) hn0
  · exact runOk_lists f.ok b3 o1 (idsOk_add o2 (by omega) (by rw [h.run_id b1 b2]; exact hne) hn)
  · rcases List.mem_append.1 hx with hx | hx
    · exact f.watched x hx
    · rw [List.mem_singleton] at hx; subst hx; exact hi
  · split
    · rename_i e
      subst e
      have hq := f.queue
      rw [h.run_id b1 b2] at hq
      exact hq
    · exact Iff.rfl
theorem linkW2_turned {w : Wd} {id b : Int} (h : WOk w) (hi : aliveIn w.runs id = true) (hb : aliveIn w.runs b = true) (hne : b ≠ id) (hn : b ∉ (getR w.runs id).links) {n : Int} (hn0 : 0 ≤ n) : Turned w (linkW2 w id b) n := by
  obtain ⟨⟨b1, b2⟩, b3⟩ := aliveIn_iff.1 hb
  obtain ⟨⟨i1, i2⟩, i3⟩ := aliveIn_iff.1 hi
  have fb := h.run b1 b2
  have fi := h.run i1 i2
  have hlen := h.len
  obtain ⟨_, _, _, _, _, _, _, _, _, _, ob1, ob2, _⟩ := runOk_parts fb.ok
  obtain ⟨_, _, _, _, _, _, _, _, _, _, oi1, oi2, _⟩ := runOk_parts fi.ok
  have hn' : id ∉ (getR w.runs b).links := fun hm => hn (h.link b1 b2 hm).2.1
  have hr : ∀ x : Int, 1 ≤ x → getR (linkW2 w id b).runs x = if x = b then { getR w.runs b with links := (getR w.runs b).links ++ [id] } else if x = id then { getR w.runs id with links := (getR w.runs id).links ++ [b] } else getR w.runs x := by
    intro x x1
    unfold linkW2 upd
    dsimp only
    rw [getR_updR b1 (by rw [updR_length]; exact b2) x1]
    split
    · rw [getR_updR i1 i2 b1, if_neg hne]
    · rw [getR_updR i1 i2 x1]
  have hll : (linkW2 w id b).runs.length = w.runs.length := by unfold linkW2 upd; simp only [updR_length]
  have ha : ∀ x, aliveIn (linkW2 w id b).runs x = aliveIn w.runs x := by
    intro x
    rw [Bool.eq_iff_iff, aliveIn_iff, aliveIn_iff, hll]
    refine and_congr_right fun hx => ?_
    rw [hr x hx.1]
    split
    · rename_i e; subst e; exact Iff.rfl
    · split
      · rename_i e; subst e; exact Iff.rfl
      · exact Iff.rfl
  refine ⟨?_, rfl, by rw [hll]; exact Nat.le_refl _, ?_⟩
  · refine wok_of h.safe (by rw [hll]; exact h.len) h.now h.sent h.taken h.lost (fun x hx => by rw [hll]; exact h.qin x hx) h.qnd ?_ ?_ ?_
    · intro x x1 x2
      rw [hll] at x2
      rw [hr x x1]
      split
      · rename_i e
        subst e
        refine ⟨runOk_lists fb.ok b3 (idsOk_add ob1 (by omega) (by rw [h.run_id b1 b2]; exact fun e => hne e.symm) hn') ob2, fb.id, fb.at_, fb.queue, fb.waits, fun y hy => ?_, fun y hy => by rw [ha]; exact fb.watched y hy, fb.need⟩
        rw [ha]
        rcases List.mem_append.1 hy with hy | hy
        · exact fb.links y hy
        · rw [List.mem_singleton] at hy; subst hy; exact hi
      · split
        · rename_i e
          subst e
          refine ⟨runOk_lists fi.ok i3 (idsOk_add oi1 (by omega) (by rw [h.run_id i1 i2]; exact hne) hn) oi2, fi.id, fi.at_, fi.queue, fi.waits, fun y hy => ?_, fun y hy => by rw [ha]; exact fi.watched y hy, fi.need⟩
          rw [ha]
          rcases List.mem_append.1 hy with hy | hy
          · exact fi.links y hy
          · rw [List.mem_singleton] at hy; subst hy; exact hb
        · exact (h.run x1 x2).keep rfl (fun _ => rfl) (fun y hy => by rw [ha]; exact hy) Iff.rfl
    · intro x y x1 x2 y1 y2 hm
      rw [hll] at x2 y2
      rw [hr x x1] at hm
      rw [hr y y1]
      have old : y ∈ (getR w.runs x).links → x ∈ (if y = b then { getR w.runs b with links := (getR w.runs b).links ++ [id] } else if y = id then { getR w.runs id with links := (getR w.runs id).links ++ [b] } else getR w.runs y : Rn).links := by
        intro hm
        have k := (h.link x1 x2 hm).2.1
        split
        · rename_i e; subst e; exact List.mem_append_left _ k
        · split
          · rename_i e; subst e; exact List.mem_append_left _ k
          · exact k
      split at hm
      · rename_i e
        subst e
        rcases List.mem_append.1 hm with hm | hm
        · exact old hm
        · rw [List.mem_singleton] at hm
          subst hm
          rw [if_neg (fun e => hne e.symm), if_pos rfl]
          simp
      · split at hm
        · rename_i e
          subst e
          rcases List.mem_append.1 hm with hm | hm
          · exact old hm
          · rw [List.mem_singleton] at hm
            subst hm
            rw [if_pos rfl]
            simp
        · exact old hm
    · have := h.sum
      have e : waits (linkW2 w id b).runs = waits w.runs := waits_eq hll (fun x x1 x2 => by
        rw [hr x x1]
        split
        · rename_i e; subst e; rfl
        · split
          · rename_i e; subst e; rfl
          · rfl)
      rw [e]
      exact this
  · have e : sumR liveW (linkW2 w id b).runs = sumR liveW w.runs := by
      unfold linkW2 upd
      dsimp only
      have e1 : getR (updR w.runs id (fun r => { r with links := r.links ++ [b] })) b = getR w.runs b := by rw [getR_updR i1 i2 b1, if_neg hne]
      rw [live_updR b1 (by rw [updR_length]; exact b2) (by rw [e1]; exact b3) (by rw [e1]; exact b3), live_updR i1 i2 i3 (by exact i3)]
    unfold room
    rw [e, hll]
    show w.sent + _ ≤ _
    omega
theorem give_live (w : Wd) (id : Int) (v : Vl) : sumR liveW (give w id v).runs = sumR liveW w.runs := by
  have le : ∀ x : Int, 1 ≤ x → liveW (getR (give w id v).runs x) = liveW (getR w.runs x) := by
    intro x x1
    have := (give_fields w id v x1).2.2.2.2.2.2.2.2.1
    unfold liveW
    by_cases e : (getR w.runs x).state = 3
    · rw [if_pos e, if_pos (this.2 e)]
    · rw [if_neg e, if_neg (fun h => e (this.1 h))]
  refine Nat.le_antisymm (sumR_le (give_length w id v) fun x x1 _ => Nat.le_of_eq (le x x1)) (sumR_le (give_length w id v).symm fun x x1 _ => Nat.le_of_eq (le x x1).symm)
theorem give_turned {w : Wd} (h : WOk w) (hr : room w < 9999) (id : Int) {v : Vl} (hv : valOk v = true) {n : Int} (hn : 1 ≤ n) : Turned w (give w id v) n := by
  have hs := room_sent h
  have hl := h.len
  have hse := h.sent
  have e := give_live w id v
  refine ⟨give_ok h (by omega) id hv, give_code _ _ _, by rw [give_length]; exact Nat.le_refl _, ?_⟩
  unfold room
  rw [e, give_length, give_sent, wr_eq (by omega) (by omega)]
  omega
end Go.Proofs.Ytmidnaafljgbiaa
/- A run begins another one, by the reference. -/
namespace Go.Proofs.Ytmidnaafljgbiaa
open Go.RowKit
set_option maxRecDepth 100000

set_option maxHeartbeats 4000000 in
theorem sBegin21 (W : Wm) (k : Nat) (o : Opx) {w0 w : World} {f : List Nat} {L L' : List Asn} (M : Mem w0 f w L) (hd : Del (wld W) L L') (hk : k < W.ps.length) (hn : W.ps.length ≤ 6) (hq : W.queue.length ≤ 1000) (hr : Fit4 (W.ps[k]'hk).1) (ho : 0 ≤ o.r ∧ o.r ≤ 3) :
    Calls Try.prog 166 #[.agg (wArr W), .int .i64 ((k : Int) + 1), .agg (opArr o)] w (WPost (beginW W.wd ((k : Int) + 1) o) w0 f L') := by
  have AL := add_lit0
  replace M := M.pull hd
  clear hd
  obtain ⟨gr, hA, _, _⟩ := (Mem.rw_ (M.pull .here).unpackW).runs k hk
  have hA2 := arr_at hA rfl
  rw [hA2]
  obtain ⟨ok, or_, os, oto, ⟨ovk, ovn⟩⟩ := o
  simp only [opArr] at ho ⊢
  obtain ⟨sN, rfl⟩ : ∃ s : Nat, or_ = (s : Int) := ⟨or_.toNat, by omega⟩
  have wi : IntKind.i64.wrap ((W.ps.length : Int) + 1) = (W.ps.length : Int) + 1 := by rw [IntKind.wrap_i64]; omega
  by_cases h6 : 6 < (W.ps.length : Int) + 1
  · --[1
    have hres : beginW W.wd ((k : Int) + 1) ⟨ok, sN, os, oto, ⟨ovk, ovn⟩⟩ = setW W.wd ((k : Int) + 1) sN Vl.zero := by
      unfold beginW
      rw [runsLen, if_pos h6]
    rw [hres]
    clear hres
    have HS : Hid (∀ (U : World) (L1 L2 : List Asn), Mem w0 f U L1 → Del (wld W) L1 L2 → Calls Try.prog 164 #[.agg #[.slice W.cA W.code.length W.cC, .slice (some ⟨gr, 0, none⟩) W.ps.length W.rC, .slice W.qA W.queue.length W.qC, .int .i64 W.now, .int .i64 W.sent, .int .i64 W.taken, .int .i64 W.lost], .int .i64 ((k : Int) + 1), .int .i64 (sN : Int), .agg #[.int .i64 0, .int .i64 0]] U (WPost (setW W.wd ((k : Int) + 1) sN Vl.zero) w0 f L2)) := fun U L1 L2 M hd => by
      have h := sSet21 W k sN Vl.zero M hd hk (by omega) (by omega) hr.slots hr.full hr.at_
      rw [hA2] at h
      exact h
    replace hA := Lib.hid hA
    replace hA2 := Lib.hid hA2
    go_enter Try.func166, Try.ntmps166
    go_wp2_with (first | (with_reducible refine alA M ?_; clear M; (try clear F); intro w1 M F) | ((with_reducible apply ev_store (M := M)); rfl; rfl; ((conv => lhs; whnf) <;> rfl); rfl; (first | exact siI | exact siR | exact siV | exact siB | exact siSI | exact siSV | exact siW | exact siSR | exact siSO | exact siO); (exact one_all rfl); (exact dl); (exact Nat.le_of_ble_eq_true rfl); clear M; intro w1 M; simp only [SX] at M; (try clear F); have F := fx M) | (go_at_call 164; (refine nmK ?_; clear M; (try clear F); intro w1 M F); refine (HS.out _ _ _ M dl).mono ?_; clear M; rintro e w2 ⟨Y, hY, rfl, M⟩; replace hY := Lib.hid hY; (try clear F); have F := fx M))
    apply ret_cell (M := M); rfl; rfl; (exact dl); (first | exact agR | exact agV | exact agW | exact agO); (first | exact siI | exact siR | exact siV | exact siB | exact siSI | exact siSV | exact siW | exact siSR | exact siSO | exact siO); rfl
    exact ⟨Y, hY.out, rfl, M.sel sl⟩
    --]1
  · --[2
    have hres : beginW W.wd ((k : Int) + 1) ⟨ok, sN, os, oto, ⟨ovk, ovn⟩⟩ = setW ⟨W.code, W.wd.runs ++ [newRun ((W.ps.length : Int) + 1) oto ⟨3, (k : Int) + 1⟩], W.queue ++ [(W.ps.length : Int) + 1], W.now, W.sent, W.taken, W.lost⟩ ((k : Int) + 1) sN ⟨3, (W.ps.length : Int) + 1⟩ := by
      unfold beginW
      rw [runsLen, if_neg h6]
      rfl
    rw [hres]
    clear hres
    have HNw : Hid (∀ (U : World) (L1 : List Asn), Mem w0 f U L1 → Calls Try.prog 62 #[.int .i64 ((W.ps.length : Int) + 1), .int .i64 oto, .agg #[.int .i64 3, .int .i64 ((k : Int) + 1)]] U (fun e w' => ∃ b : RA, e = .returned (.agg (runArr (newRun ((W.ps.length : Int) + 1) oto ⟨3, (k : Int) + 1⟩) b)) ∧ Mem w0 f w' (runA (newRun ((W.ps.length : Int) + 1) oto ⟨3, (k : Int) + 1⟩) b :: L1))) := fun U L1 M => sNewM ((W.ps.length : Int) + 1) oto ⟨3, (k : Int) + 1⟩ M
    replace hA2 := Lib.hid hA2
    replace M := M.unpackW
    unfold rowO rowR rowI at M
    rw [hA] at M
    replace hA := Lib.hid hA
    go_enter Try.func166, Try.ntmps166
    go_upto_region 1 with (first | (with_reducible refine alA M ?_; clear M; (try clear F); intro w1 M F))
    clear F
    rename_i u1 u2 _ _
    generalize w.heap.size = g3 at M ⊢
    generalize u1.heap.size = g5 at M ⊢
    generalize u2.heap.size = g6 at M ⊢
    (try clear F); have F := fx M
    go_upto_region 4 with fail
    clear F
    refine beginE (S := (fun W' => (∀ j, W'.cell? ⟨g3, j, none⟩ = ([.slice W.cA W.code.length W.cC, .slice (some ⟨gr, 0, none⟩) W.ps.length W.rC, .slice W.qA W.queue.length W.qC, .int .i64 W.now, .int .i64 W.sent, .int .i64 W.taken, .int .i64 W.lost] : List Value)[j]?) ∧ ∀ j, W'.cell? ⟨g5, j, none⟩ = ([.int .i64 ok, .int .i64 (sN : Int), .int .i64 os, .int .i64 oto, .int .i64 ovk, .int .i64 ovn] : List Value)[j]?)) 11 (by kernel_rfl) (fun _ _ _ _ _ h => h) (by (exact ⟨kc, kc⟩)) (fun HQ hHeld => ?_)
    refine tkYE HQ hHeld 0 ?_; refine tkYE HQ hHeld 1 ?_; refine tkYE HQ hHeld 2 ?_; refine tkYE HQ hHeld 3 ?_; refine tkYE HQ hHeld 4 ?_; refine tkYE HQ hHeld 5 ?_; refine tkYE HQ hHeld 6 ?_
    refine stpE 7 (fun K hK => ?_); go_simp
    (go_at_call 62; (refine nmK ?_; clear M; (try clear F); intro w1 M F); refine (HNw.out _ _ M).mono ?_; clear M; rintro e w2 ⟨b, rfl, M⟩; clear F)
    (try go_wp2_with fail); refine hK.out _ _ (by (exact ⟨kc, kc⟩)) (fun hHeld => ?_); clear hK K; (try simp only [AX])
    refine stpE 8 (fun K hK => ?_); go_simp
    (try go_wp2_with fail); refine hK.out _ _ (by (exact ⟨kc, kc⟩)) (fun hHeld => ?_); clear hK K; (try simp only [AX]); clear hHeld; (refine nm (G := fun W => wpAnyE _ _ _ _ _ _ _ _ _ W) ?_; clear M; (try clear F); intro w1 M F)
    refine stpE 9 (fun K hK => ?_); (refine op_of_list rfl ?_; (with_reducible apply ev_app1 (enc := encR) (v := ((newRun ((W.ps.length : Int) + 1) oto ⟨3, (k : Int) + 1⟩, b) : Rn × RA)) (hk := encR_length) (hone := oneR) (h0 := by decide) (hinfo := infRx) (ht := Try.underlying43) (M := M)); rfl; rfl; (exact dl); (exact dl); rfl; rfl; omega; (exact Nat.le_of_ble_eq_true rfl); clear M; intro A7 c7 w1 M; (try clear F); have F := fx M); (try go_wp2_with fail); refine hK.out _ _ (by (exact ⟨kc, kc⟩)) (fun hHeld => ?_); clear hK K; (try simp only [AX])
    refine tkYE HQ hHeld 10 ?_
    refine stpT (fun K hK => ?_); refine op_of_list rfl ?_; ((with_reducible apply ev_store (M := M)); rfl; rfl; ((conv => lhs; whnf) <;> rfl); rfl; (first | exact siI | exact siR | exact siV | exact siB | exact siSI | exact siSV | exact siW | exact siSR | exact siSO | exact siO); (exact one_all rfl); (exact dl); (exact Nat.le_of_ble_eq_true rfl); clear M; intro w1 M; simp only [SX] at M; (try clear F); have F := fx M); (try go_wp2_with fail); refine hK.out _ _ ?_; clear hK K; (try simp only [AX])
    go_upto_region 6 with (first | ((with_reducible refine alA M ?_; clear M; (try clear F); intro w1 M F); ((with_reducible apply ev_app1 (enc := encI) (v := (W.ps.length : Int) + 1) (hk := encI_length) (hone := oneIx) (h0 := by decide) (hinfo := infIx) (ht := Try.underlying23) (M := M)); rfl; rfl; (exact dl); (exact dl); rfl; rfl; (first | exact Nat.le_of_ble_eq_true rfl | omega); (exact Nat.le_of_ble_eq_true rfl); clear M; intro A1 c1 w1 M; replace M := Mem.perm M (.swap _ _ _) |> Mem.drop; (try clear F); have F := fx M)) | ((with_reducible apply ev_store (M := M)); rfl; rfl; ((conv => lhs; whnf) <;> rfl); rfl; (first | exact siI | exact siR | exact siV | exact siB | exact siSI | exact siSV | exact siW | exact siSR | exact siSO | exact siO); (exact one_all rfl); (exact dl); (exact Nat.le_of_ble_eq_true rfl); clear M; intro w1 M; simp only [SX] at M; (try clear F); have F := fx M))
    have M2 : Mem w0 f _ (runA (newRun ((W.ps.length : Int) + 1) oto ⟨3, (k : Int) + 1⟩) b :: rws W.ps :: row encO 6 tO W.cA W.cC W.code :: row encR 13 tR A7 c7 (W.ps ++ [((newRun ((W.ps.length : Int) + 1) oto ⟨3, (k : Int) + 1⟩, b) : Rn × RA)]) :: row encI 1 tI A1 c1 (W.queue ++ [(W.ps.length : Int) + 1]) :: blk g3 tW [.slice W.cA W.code.length W.cC, .slice A7 (W.ps.length + 1) c7, .slice A1 (W.queue.length + 1) c1, .int .i64 W.now, .int .i64 W.sent, .int .i64 W.taken, .int .i64 W.lost] :: blk g5 tO [.int .i64 ok, .int .i64 (sN : Int), .int .i64 os, .int .i64 oto, .int .i64 ovk, .int .i64 ovn] :: blk g6 tW [.slice none 0 0, .slice none 0 0, .slice none 0 0, .int .i64 0, .int .i64 0, .int .i64 0, .int .i64 0] :: L') :=
      M.sel (.cons (.there (.there (.there (.there .here)))) (.cons (.there (.there (.there (.there (.there (.there (.there .here))))))) (.cons (.there (.there (.there (.there (.there (.there .here)))))) (.cons (.there (.there .here)) (.cons (.there .here) (.cons .here (.cons (.there (.there .here)) (.cons (.there .here) (.drop .refl)))))))))
    have M4 : Mem w0 f _ (rowO W.cA W.cC W.code :: rowR A7 c7 (W.ps ++ [((newRun ((W.ps.length : Int) + 1) oto ⟨3, (k : Int) + 1⟩, b) : Rn × RA)]) :: rowI A1 c1 (W.queue ++ [(W.ps.length : Int) + 1]) :: rws (W.ps ++ [((newRun ((W.ps.length : Int) + 1) oto ⟨3, (k : Int) + 1⟩, b) : Rn × RA)]) :: blk g3 tW [.slice W.cA W.code.length W.cC, .slice A7 (W.ps.length + 1) c7, .slice A1 (W.queue.length + 1) c1, .int .i64 W.now, .int .i64 W.sent, .int .i64 W.taken, .int .i64 W.lost] :: blk g5 tO [.int .i64 ok, .int .i64 (sN : Int), .int .i64 os, .int .i64 oto, .int .i64 ovk, .int .i64 ovn] :: blk g6 tW [.slice none 0 0, .slice none 0 0, .slice none 0 0, .int .i64 0, .int .i64 0, .int .i64 0, .int .i64 0] :: L') := M2.rwsSnoc.sel (.cons (.there .here) (.cons (.there .here) (.cons (.there .here) .refl)))
    clear M M2
    have M := Mem.packW (W := (⟨W.code, W.cA, W.cC, W.ps ++ [((newRun ((W.ps.length : Int) + 1) oto ⟨3, (k : Int) + 1⟩, b) : Rn × RA)], A7, c7, W.queue ++ [(W.ps.length : Int) + 1], A1, c1, W.now, W.sent, W.taken, W.lost⟩ : Wm)) M4
    clear M4
    have hw : (⟨W.code, W.cA, W.cC, W.ps ++ [((newRun ((W.ps.length : Int) + 1) oto ⟨3, (k : Int) + 1⟩, b) : Rn × RA)], A7, c7, W.queue ++ [(W.ps.length : Int) + 1], A1, c1, W.now, W.sent, W.taken, W.lost⟩ : Wm).wd = ⟨W.code, W.wd.runs ++ [newRun ((W.ps.length : Int) + 1) oto ⟨3, (k : Int) + 1⟩], W.queue ++ [(W.ps.length : Int) + 1], W.now, W.sent, W.taken, W.lost⟩ := by simp [Wm.wd]
    have hl1 : (⟨W.code, W.cA, W.cC, W.ps ++ [((newRun ((W.ps.length : Int) + 1) oto ⟨3, (k : Int) + 1⟩, b) : Rn × RA)], A7, c7, W.queue ++ [(W.ps.length : Int) + 1], A1, c1, W.now, W.sent, W.taken, W.lost⟩ : Wm).ps.length = W.ps.length + 1 := by simp
    have hk1 : k < (⟨W.code, W.cA, W.cC, W.ps ++ [((newRun ((W.ps.length : Int) + 1) oto ⟨3, (k : Int) + 1⟩, b) : Rn × RA)], A7, c7, W.queue ++ [(W.ps.length : Int) + 1], A1, c1, W.now, W.sent, W.taken, W.lost⟩ : Wm).ps.length := by rw [hl1]; omega
    have hp1 : ((⟨W.code, W.cA, W.cC, W.ps ++ [((newRun ((W.ps.length : Int) + 1) oto ⟨3, (k : Int) + 1⟩, b) : Rn × RA)], A7, c7, W.queue ++ [(W.ps.length : Int) + 1], A1, c1, W.now, W.sent, W.taken, W.lost⟩ : Wm).ps[k]'hk1).1 = (W.ps[k]'hk).1 := by simp only; rw [List.getElem_append_left hk]
    have hA1 : wArr (⟨W.code, W.cA, W.cC, W.ps ++ [((newRun ((W.ps.length : Int) + 1) oto ⟨3, (k : Int) + 1⟩, b) : Rn × RA)], A7, c7, W.queue ++ [(W.ps.length : Int) + 1], A1, c1, W.now, W.sent, W.taken, W.lost⟩ : Wm) = #[.slice W.cA W.code.length W.cC, .slice A7 (W.ps.length + 1) c7, .slice A1 (W.queue.length + 1) c1, .int .i64 W.now, .int .i64 W.sent, .int .i64 W.taken, .int .i64 W.lost] := by simp only [wArr, List.length_append, List.length_singleton]
    have HS : Hid (∀ (U : World) (L1 L2 : List Asn), Mem w0 f U L1 → Del (wld (⟨W.code, W.cA, W.cC, W.ps ++ [((newRun ((W.ps.length : Int) + 1) oto ⟨3, (k : Int) + 1⟩, b) : Rn × RA)], A7, c7, W.queue ++ [(W.ps.length : Int) + 1], A1, c1, W.now, W.sent, W.taken, W.lost⟩ : Wm)) L1 L2 → Calls Try.prog 164 #[.agg #[.slice W.cA W.code.length W.cC, .slice A7 (W.ps.length + 1) c7, .slice A1 (W.queue.length + 1) c1, .int .i64 W.now, .int .i64 W.sent, .int .i64 W.taken, .int .i64 W.lost], .int .i64 ((k : Int) + 1), .int .i64 (sN : Int), .agg #[.int .i64 3, .int .i64 ((W.ps.length : Int) + 1)]] U (WPost (setW (⟨W.code, W.cA, W.cC, W.ps ++ [((newRun ((W.ps.length : Int) + 1) oto ⟨3, (k : Int) + 1⟩, b) : Rn × RA)], A7, c7, W.queue ++ [(W.ps.length : Int) + 1], A1, c1, W.now, W.sent, W.taken, W.lost⟩ : Wm).wd ((k : Int) + 1) sN ⟨3, (W.ps.length : Int) + 1⟩) w0 f L2)) := fun U L1 L2 M hd => by
      have h := sSet21 (⟨W.code, W.cA, W.cC, W.ps ++ [((newRun ((W.ps.length : Int) + 1) oto ⟨3, (k : Int) + 1⟩, b) : Rn × RA)], A7, c7, W.queue ++ [(W.ps.length : Int) + 1], A1, c1, W.now, W.sent, W.taken, W.lost⟩ : Wm) k sN ⟨3, (W.ps.length : Int) + 1⟩ M hd hk1 (by rw [hl1]; omega) (by omega) (by rw [hp1]; exact hr.slots) (by rw [hp1]; exact hr.full) (by rw [hp1]; exact hr.at_)
      rw [hA1] at h
      exact h
    rw [hw] at HS
    clear hA1 hp1 hw hl1 hk1
    generalize (⟨W.code, W.cA, W.cC, W.ps ++ [((newRun ((W.ps.length : Int) + 1) oto ⟨3, (k : Int) + 1⟩, b) : Rn × RA)], A7, c7, W.queue ++ [(W.ps.length : Int) + 1], A1, c1, W.now, W.sent, W.taken, W.lost⟩ : Wm) = V1 at M HS
    (try clear F); have F := fx M
    go_wp2_with (first | ((with_reducible apply ev_store (M := M)); rfl; rfl; ((conv => lhs; whnf) <;> rfl); rfl; (first | exact siI | exact siR | exact siV | exact siB | exact siSI | exact siSV | exact siW | exact siSR | exact siSO | exact siO); (exact one_all rfl); (exact dl); (exact Nat.le_of_ble_eq_true rfl); clear M; intro w1 M; simp only [SX] at M; (try clear F); have F := fx M) | (go_at_call 164; (refine nmK ?_; clear M; (try clear F); intro w1 M F); refine (HS.out _ _ _ M dl).mono ?_; clear M; rintro e w2 ⟨Y, hY, rfl, M⟩; replace hY := Lib.hid hY; (try clear F); have F := fx M))
    apply ret_cell (M := M); rfl; rfl; (exact dl); (first | exact agR | exact agV | exact agW | exact agO); (first | exact siI | exact siR | exact siV | exact siB | exact siSI | exact siSV | exact siW | exact siSR | exact siSO | exact siO); rfl
    exact ⟨Y, hY.out, rfl, M.sel sl⟩
    --]2
end Go.Proofs.Ytmidnaafljgbiaa
