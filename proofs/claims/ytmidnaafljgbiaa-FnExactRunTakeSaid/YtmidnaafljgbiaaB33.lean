/- Parts of the proof, in one text. -/
import Derived.Test.YtmidnaafljgbiaaB29
import Derived.Test.YtmidnaafljgbiaaB32
import Derived.Test.YtmidnaafljgbiaaB22
/- A run does one step, by the reference. -/
namespace Go.Proofs.Ytmidnaafljgbiaa
open Go.RowKit
set_option maxRecDepth 100000

def stepO (w : Wd) (id : Int) (r : Rn) (o : Opx) : Wd :=
  if o.k = 1 then setW w id o.r o.v
  else if o.k = 2 then setW w id o.r (slotAt r o.s)
  else if o.k = 3 then (if (addV (slotAt r o.r) (slotAt r o.s)).2 then setW w id o.r (addV (slotAt r o.r) (slotAt r o.s)).1 else fallAll w id ⟨2, 1⟩)
  else if o.k = 4 then setW w id o.r ⟨3, id⟩
  else if o.k = 5 then beginW w id o
  else if o.k = 7 ∨ o.k = 8 then takeW w id o
  else if o.k = 9 then upd w id (fun r => { r with at_ := o.to })
  else if o.k = 10 then upd w id (fun q => { q with at_ := if slotAt r o.r = o.v then o.to else r.at_ + 1 })
  else if o.k = 13 then upd w id (fun q => { q with trap := o.v.n == 1, at_ := r.at_ + 1 })
  else if o.k = 14 then fallAll w id (slotAt r o.r)
  else otherW w id o
theorem stepW_eq (w : Wd) (id : Int) : stepW w id = stepO w id (getR w.runs id) (opAt w.code (getR w.runs id).at_) := rfl
theorem stp2 {P : Program} {ops : Array Oper} {Q : Exit → Act → World → Prop} {md : Region.Mode} {S : World → Prop} {oi oj : Oper} {fuel : Nat} {listed : Array Bool} {a : Act} {w : World} {op op2 : Op} {d d2 : Option Tmp} {ty ty2 : TypeId} {pos pos2 : String} {af af2 : Array Edge} {gd gd2 : Option (Nat × Bool)} (i j : Nat)
    (h : ∀ K' : Act → World → Prop, Shut (∀ a w, S w → (S w → wpAnyH P md ops Q S fuel (listed.setIfInBounds i true) a w) → K' a w) → Oper.wp P ⟨d, op, ty, pos, af, gd⟩ a w K' Q)
    (h2 : ∀ K' : Act → World → Prop, Shut (∀ a w, S w → (S w → wpAnyH P md ops Q S fuel (listed.setIfInBounds j true) a w) → K' a w) → Oper.wp P ⟨d2, op2, ty2, pos2, af2, gd2⟩ a w K' Q)
    (hi : ops[i]? = some oi := by exact rfl) (he : oi = ⟨d, op, ty, pos, af, gd⟩ := by exact rfl) (hj : ops[j]? = some oj := by exact rfl) (he2 : oj = ⟨d2, op2, ty2, pos2, af2, gd2⟩ := by exact rfl) (hr : Region.ready md ops listed = [i, j] := by kernel_rfl) (hw : Region.wanted oi (yielded ops a.tmps) = true := by kernel_rfl) (hw2 : Region.wanted oj (yielded ops a.tmps) = true := by kernel_rfl) : wpAnyH P md ops Q S (fuel + 1) listed a w := by
  subst he he2
  exact wpAnyH_ready hr (by simp) (AllReadyH.cons hi (fun K hK => by rw [if_pos hw]; exact h K hK) (AllReadyH.cons hj (fun K hK => by rw [if_pos hw2]; exact h2 K hK) AllReadyH.nil))
set_option maxHeartbeats 8000000 in
theorem sStep21 (W : Wm) (k : Nat) {w0 w : World} {f : List Nat} {L L' : List Asn} (M : Mem w0 f w L) (hd : Del (wld W) L L') (hk : k < W.ps.length) (hok : WOk W.wd) (hs1 : (W.ps[k]'hk).1.state = 1) (hroom : room W.wd < 9999) :
    Calls Try.prog 153 #[.agg (wArr W), .int .i64 ((k : Int) + 1)] w (WPost (stepW W.wd ((k : Int) + 1)) w0 f L') := by
  have AL := add_lit0
  replace M := M.pull hd
  clear hd
  have hgr := getR_ps hk
  have hps6 : W.ps.length ≤ 6 := by have := hok.len.2; rwa [runsLen] at this
  have hid1 : (1 : Int) ≤ (k : Int) + 1 := by omega
  have hid2 : (k : Int) + 1 ≤ W.wd.runs.length := by rw [runsLen]; omega
  have hfit := hok.run hid1 hid2
  have nd := hok.need hid1 hid2 (by rw [hgr, hs1]; decide)
  rw [hgr] at hfit nd
  have hrun := hfit.ok
  have hat := hfit.at_
  have hop := nd.at_.op
  have hat0 := nd.at_.lt.1
  obtain ⟨j, hj⟩ : ∃ j : Nat, (W.ps[k]'hk).1.at_ = (j : Int) := ⟨(W.ps[k]'hk).1.at_.toNat, by omega⟩
  have hjl : j < W.code.length := by have : (W.ps[k]'hk).1.at_ < W.code.length := hat; omega
  have ho : opAt W.code (W.ps[k]'hk).1.at_ = W.code[j] := by rw [hj]; exact opAt_nat hjl
  have ho2 : opAt W.wd.code (W.ps[k]'hk).1.at_ = W.code[j] := ho
  rw [ho2] at hop
  have hres : stepW W.wd ((k : Int) + 1) = stepO W.wd ((k : Int) + 1) (W.ps[k]'hk).1 W.code[j] := by rw [stepW_eq, hgr, ho2]
  rw [hres]
  have hcl : W.code.length ≤ 16 := hok.code_len
  have hq6 : W.queue.length ≤ 6 := wok_queue (worldOk_iff.2 hok)
  clear hres ho2 hat hat0 hfit nd hgr
  obtain ⟨hk14, hfr, _, _, kr, ks, _⟩ := opOk_parts hop
  have f4 := Fit4.of hrun
  obtain ⟨hrm1, hrm2⟩ := room_sent hok
  obtain ⟨gr, hA, _, _⟩ := (Mem.rw_ (M.pull .here).unpackW).runs k hk
  obtain ⟨gc, hcA, _, _⟩ := (Mem.rw_ (M.pull .here).unpackW).code j hjl
  have hA2 : wArr W = #[.slice (some ⟨gc, 0, none⟩) W.code.length W.cC, .slice (some ⟨gr, 0, none⟩) W.ps.length W.rC, .slice W.qA W.queue.length W.qC, .int .i64 W.now, .int .i64 W.sent, .int .i64 W.taken, .int .i64 W.lost] := by simp only [wArr, hA, hcA]
  have HE : Hid (∀ (U : World) (L1 L2 : List Asn), Mem w0 f U L1 → Del (wld W) L1 L2 → RunAt U gr (k * 13) (W.ps[k]'hk).1 (W.ps[k]'hk).2) := by
    intro U L1 L2 M hd
    obtain ⟨g', hA', _, E⟩ := (Mem.rw_ (M.pull hd).unpackW).runs k hk
    obtain rfl : gr = g' := by
      rw [hA] at hA'
      injection hA' with e
      injection e with e
    exact E
  have HC : Hid (∀ (U : World) (L1 L2 : List Asn), Mem w0 f U L1 → Del (wld W) L1 L2 → OpAt U gc (j * 6) W.code[j]) := by
    intro U L1 L2 M hd
    obtain ⟨g', hA', _, E⟩ := (Mem.rw_ (M.pull hd).unpackW).code j hjl
    obtain rfl : gc = g' := by
      rw [hcA] at hA'
      injection hA' with e
      injection e with e
    exact E
  have HSL : Hid (∀ (U : World) (L1 L2 : List Asn), Mem w0 f U L1 → Del (wld W) L1 L2 → ReadsV U U.heap.size (W.ps[k]'hk).2.sA (W.ps[k]'hk).1.slots.length (W.ps[k]'hk).1.slots) := fun U L1 L2 M hd => ((Mem.rw_ (M.pull hd).unpackW).each k hk).slots
  obtain ⟨gs, hgs⟩ : ∃ gs, (W.ps[k]'hk).2.sA = some ⟨gs, 0, none⟩ := by
    obtain ⟨g', nn, pre, post, r', a', hA', hps, hpl, hnn, hlen, M1⟩ := open_at (g := w.heap.size) (Mem.alloc M tW (w7 W)) hk
    unfold opened at M1
    have e : (W.ps[k]'hk) = (r', a') := by simp only [hps]; rw [mid_get _ _ _ hpl]
    rw [e]
    exact row_form M1 (.there (.there .here)) (by rw [show r'.slots.length = 4 by have := f4.slots; rw [e] at this; exact this]; decide)
  have CS : Hid (∀ (s : Nat) (v : Vl), s < 4 → ∀ {U : World} {L1 L2 : List Asn}, Mem w0 f U L1 → Del (wld W) L1 L2 → Calls Try.prog 164 #[.agg #[.slice (some ⟨gc, 0, none⟩) W.code.length W.cC, .slice (some ⟨gr, 0, none⟩) W.ps.length W.rC, .slice W.qA W.queue.length W.qC, .int .i64 W.now, .int .i64 W.sent, .int .i64 W.taken, .int .i64 W.lost], .int .i64 ((k : Int) + 1), .int .i64 (s : Int), .agg #[.int .i64 v.k, .int .i64 v.n]] U (WPost (setW W.wd ((k : Int) + 1) s v) w0 f L2)) := fun s v h U L1 L2 M hd => by
    have h := sSet21 W k s v M hd hk (by omega) h f4.slots f4.full f4.at_
    rwa [hA2] at h
  have CE : Hid (∀ (why : Vl), valOk why = true → ∀ {U : World} {L1 L2 : List Asn}, Mem w0 f U L1 → Del (wld W) L1 L2 → Calls Try.prog 149 #[.agg #[.slice (some ⟨gc, 0, none⟩) W.code.length W.cC, .slice (some ⟨gr, 0, none⟩) W.ps.length W.rC, .slice W.qA W.queue.length W.qC, .int .i64 W.now, .int .i64 W.sent, .int .i64 W.taken, .int .i64 W.lost], .int .i64 ((k : Int) + 1), .agg #[.int .i64 why.k, .int .i64 why.n]] U (WPost (fallAll W.wd ((k : Int) + 1) why) w0 f L2)) := fun why hv U L1 L2 M hd => by
    have h := sEnd W k why M hd hk hok hv (by have : W.wd.sent = W.sent := rfl; omega)
    rwa [hA2] at h
  have CT : Hid (∀ {U : World} {L1 L2 : List Asn}, Mem w0 f U L1 → Del (wld W) L1 L2 → Calls Try.prog 167 #[.agg #[.slice (some ⟨gc, 0, none⟩) W.code.length W.cC, .slice (some ⟨gr, 0, none⟩) W.ps.length W.rC, .slice W.qA W.queue.length W.qC, .int .i64 W.now, .int .i64 W.sent, .int .i64 W.taken, .int .i64 W.lost], .int .i64 ((k : Int) + 1), .agg (opArr W.code[j])] U (WPost (takeW W.wd ((k : Int) + 1) W.code[j]) w0 f L2)) := fun {U L1 L2} M hd => by
    have h := sTake21 W k W.code[j] M hd hk (by omega) (by omega) f4 kr
    rwa [hA2] at h
  have CB : Hid (∀ {U : World} {L1 L2 : List Asn}, Mem w0 f U L1 → Del (wld W) L1 L2 → Calls Try.prog 166 #[.agg #[.slice (some ⟨gc, 0, none⟩) W.code.length W.cC, .slice (some ⟨gr, 0, none⟩) W.ps.length W.rC, .slice W.qA W.queue.length W.qC, .int .i64 W.now, .int .i64 W.sent, .int .i64 W.taken, .int .i64 W.lost], .int .i64 ((k : Int) + 1), .agg (opArr W.code[j])] U (WPost (beginW W.wd ((k : Int) + 1) W.code[j]) w0 f L2)) := fun {U L1 L2} M hd => by
    have h := sBegin21 W k W.code[j] M hd hk hps6 (by omega) f4 kr
    rwa [hA2] at h
  have CO : Hid ((W.code[j]).k = 6 ∨ (W.code[j]).k = 11 ∨ (W.code[j]).k = 12 → ∀ {U : World} {L1 L2 : List Asn}, Mem w0 f U L1 → Del (wld W) L1 L2 → Calls Try.prog 168 #[.agg #[.slice (some ⟨gc, 0, none⟩) W.code.length W.cC, .slice (some ⟨gr, 0, none⟩) W.ps.length W.rC, .slice W.qA W.queue.length W.qC, .int .i64 W.now, .int .i64 W.sent, .int .i64 W.taken, .int .i64 W.lost], .int .i64 ((k : Int) + 1), .agg (opArr W.code[j])] U (WPost (otherW W.wd ((k : Int) + 1) W.code[j]) w0 f L2)) := fun hkk U L1 L2 M hd => by
    have h := sOther21 W k W.code[j] M hd hk hok hs1 ho.symm hkk hroom
    rwa [hA2] at h
  obtain ⟨Q, HQ0, hQ⟩ : ∃ Q : Ending → World → Prop, (∀ e U, WPost (stepO W.wd ((k : Int) + 1) (W.ps[k]'hk).1 W.code[j]) w0 f L' e U → Q e U) ∧ Q = WPost (stepO W.wd ((k : Int) + 1) (W.ps[k]'hk).1 W.code[j]) w0 f L' := ⟨_, fun _ _ h => h, rfl⟩
  rw [← hQ]
  clear hQ
  have HQ := Lib.hid HQ0
  clear HQ0
  rw [hA2]
  obtain ⟨p, hp⟩ : ∃ p, p = W.ps[k]'hk := ⟨_, rfl⟩
  rw [← hp] at hs1 hj hrun f4 HE HSL hgs HQ
  clear ho
  generalize W.code[j] = o at hop hk14 hfr kr ks HC CT CB CO HQ
  obtain ⟨ok, or_, os, oto, ⟨ovk, ovn⟩⟩ := o
  simp only [opArr] at kr ks hk14 hfr CT CB CO HC HQ
  obtain ⟨sN, rfl⟩ : ∃ s : Nat, or_ = (s : Int) := ⟨or_.toNat, by omega⟩
  obtain ⟨sS, rfl⟩ : ∃ s : Nat, os = (s : Int) := ⟨os.toNat, by omega⟩
  obtain ⟨r, ⟨sA, sC, mA, mC, lA, lC, wA, wC⟩⟩ := p
  simp only at hs1 hj hrun f4 HE HSL hgs HQ
  subst hgs
  have hsN4 : sN < 4 := by omega
  have hsN : sN < r.slots.length := by rw [f4.slots]; omega
  have hsS : sS < r.slots.length := by rw [f4.slots]; omega
  have HSC : Hid (∀ (i : Nat) (hi : i < r.slots.length) {U : World} {L1 L2 : List Asn}, Mem w0 f U L1 → Del (wld W) L1 L2 → U.cell? ⟨gs, i * 2, none⟩ = some (.int .i64 (slotAt r (i : Int)).k) ∧ U.cell? ⟨gs, i * 2 + 1, none⟩ = some (.int .i64 (slotAt r (i : Int)).n)) := by
    intro i hi U L1 L2 M hd
    rw [slotAt_eq hi]
    obtain ⟨ad, e, _, h1, h2⟩ := (HSL.out U L1 L2 M hd).val hi
    injection e with e
    subst e
    rw [add_lit0, Nat.zero_add] at h1 h2
    exact ⟨h1, h2⟩
  clear HSL
  have hvN := slot_ok hrun (s := (sN : Int)) kr
  have hvS := slot_ok hrun (s := (sS : Int)) ks
  obtain ⟨⟨tk, tn⟩, hT⟩ : ∃ T : Vl, T = slotAt r (sN : Int) := ⟨_, rfl⟩
  obtain ⟨⟨xk, xn⟩, hX⟩ : ∃ T : Vl, T = slotAt r (sS : Int) := ⟨_, rfl⟩
  have HT : Hid (∀ {U : World} {L1 L2 : List Asn}, Mem w0 f U L1 → Del (wld W) L1 L2 → U.cell? ⟨gs, sN * 2, none⟩ = some (.int .i64 tk) ∧ U.cell? ⟨gs, sN * 2 + 1, none⟩ = some (.int .i64 tn)) := fun {U L1 L2} M hd => by
    have h := HSC.out sN hsN M hd
    rwa [← hT] at h
  have HX : Hid (∀ {U : World} {L1 L2 : List Asn}, Mem w0 f U L1 → Del (wld W) L1 L2 → U.cell? ⟨gs, sS * 2, none⟩ = some (.int .i64 xk) ∧ U.cell? ⟨gs, sS * 2 + 1, none⟩ = some (.int .i64 xn)) := fun {U L1 L2} M hd => by
    have h := HSC.out sS hsS M hd
    rwa [← hX] at h
  clear HSC
  rw [← hT] at hvN
  rw [← hX] at hvS
  obtain ⟨rid, at_, slots, full, mail, state, due, links, watched, trap, ⟨whk, whn⟩, turns⟩ := r
  simp only at hj hsN hsS
  subst hj
  simp only [RunAt, OpAt] at HE HC
  have wi : IntKind.i64.wrap ((k : Int) + 1 - 1) = (k : Int) := by rw [IntKind.wrap_i64]; omega
  have wj : IntKind.i64.wrap (k : Int) = (k : Int) := by rw [IntKind.wrap_i64]; omega
  have wa : IntKind.i64.wrap ((j : Int) + 1) = (j : Int) + 1 := by rw [IntKind.wrap_i64]; omega
  have i1 : (0 : Int) ≤ k := by omega
  have i2 : (k : Int) < W.ps.length := by omega
  have i3 : (0 : Int) ≤ sN := by omega
  have i4 : (sN : Int) < slots.length := by omega
  have i5 : (0 : Int) ≤ sS := by omega
  have i6 : (sS : Int) < slots.length := by omega
  have i7 : (0 : Int) ≤ j := by omega
  have i8 : (j : Int) < W.code.length := by omega
  replace hp := Lib.hid hp
  replace hA := Lib.hid hA
  replace hcA := Lib.hid hcA
  replace hA2 := Lib.hid hA2
  replace f4 := Lib.hid f4
  replace hs1 := Lib.hid hs1
  replace hrun := Lib.hid hrun
  replace hT := Lib.hid hT
  replace hX := Lib.hid hX
  replace hok := Lib.hid hok
  replace hop := Lib.hid hop
  replace hfr := Lib.hid hfr
  replace hvN := Lib.hid hvN
  replace hvS := Lib.hid hvS
  go_enter Try.func153, Try.ntmps153
  go_upto_region 1 with (first | (with_reducible refine alA M ?_; clear M; (try clear F); intro w1 M F))
  clear F
  rename_i u1 _ _
  generalize w.heap.size = g2 at M ⊢
  generalize u1.heap.size = g4 at M ⊢
  obtain ⟨E0, E1, E2, E3, E4, E5, E6, E7, E8, E9, E10, E11, E12⟩ := HE.out _ _ _ M dl
  (try clear F); have F := fx M
  go_upto_region 2 with (first | (with_reducible refine alA M ?_; clear M; (try clear F); intro w1 M F) | ((with_reducible apply ev_store (M := M)); rfl; rfl; ((conv => lhs; whnf) <;> rfl); rfl; (first | exact siI | exact siR | exact siV | exact siB | exact siSI | exact siSV | exact siW | exact siSR | exact siSO | exact siO); (exact one_all rfl); (exact dl); (exact Nat.le_of_ble_eq_true rfl); clear M; intro w1 M; simp only [SX] at M; (try clear F); have F := fx M))
  clear E0 E1 E2 E3 E4 E5 E6 E7 E8 E9 E10 E11 E12 F
  rename_i u3 u4 _ _
  generalize u3.heap.size = g5 at M ⊢
  obtain ⟨C0, C1, C2, C3, C4, C5⟩ := HC.out _ _ _ M dl
  (try clear F); have F := fx M
  go_upto_region 3 with (first | (with_reducible refine alA M ?_; clear M; (try clear F); intro w1 M F) | ((with_reducible apply ev_store (M := M)); rfl; rfl; ((conv => lhs; whnf) <;> rfl); rfl; (first | exact siI | exact siR | exact siV | exact siB | exact siSI | exact siSV | exact siW | exact siSR | exact siSO | exact siO); (exact one_all rfl); (exact dl); (exact Nat.le_of_ble_eq_true rfl); clear M; intro w1 M; simp only [SX] at M; (try clear F); have F := fx M))
  clear C0 C1 C2 C3 C4 C5 F
  rename_i u5 u6 _ _ _ _
  generalize u5.heap.size = g6 at M ⊢
  have hkinds : ok = 1 ∨ ok = 2 ∨ ok = 3 ∨ ok = 4 ∨ ok = 5 ∨ ok = 6 ∨ ok = 7 ∨ ok = 8 ∨ ok = 9 ∨ ok = 10 ∨ ok = 11 ∨ ok = 12 ∨ ok = 13 ∨ ok = 14 := by omega
  clear hk14 kr ks
  rcases hkinds with rfl | rfl | rfl | rfl | rfl | rfl | rfl | rfl | rfl | rfl | rfl | rfl | rfl | rfl
  · --[1
    ((try clear F); have F := fx M; go_wp2_with (first | ((with_reducible apply ev_store (M := M)); rfl; rfl; ((conv => lhs; whnf) <;> rfl); rfl; (first | exact siI | exact siR | exact siV | exact siB | exact siSI | exact siSV | exact siW | exact siSR | exact siSO | exact siO); (exact one_all rfl); (exact dl); (exact Nat.le_of_ble_eq_true rfl); clear M; intro w1 M; simp only [SX] at M; (try clear F); have F := fx M) | (go_at_call 164; (refine nmK ?_; clear M; (try clear F); intro w1 M F); refine (CS.out sN (Vl.mk ovk ovn) hsN4 M dl).mono ?_; clear M; rintro e w2 ⟨Y, hY, rfl, M⟩; replace hY := Lib.hid hY; (try clear F); have F := fx M)); (apply ret_cell (M := M); rfl; rfl; (exact dl); (first | exact agR | exact agV | exact agW | exact agO); (first | exact siI | exact siR | exact siV | exact siB | exact siSI | exact siSV | exact siW | exact siSR | exact siSO | exact siO); rfl; exact HQ.out _ _ ⟨Y, hY.out, rfl, M.sel (.drop (.cons .here (.drop (.drop (.drop .refl)))))⟩))
    --]1
  · --[2
    (try clear F); have F := fx M
    go_upto_region 8 with fail
    obtain ⟨T0, T1⟩ := HX.out M dl
    clear F
    (refine held_begin (S := (fun W' => (∀ i, W'.cell? ⟨g2, i, none⟩ = ([.slice (some ⟨gc, 0, none⟩) W.code.length W.cC, .slice (some ⟨gr, 0, none⟩) W.ps.length W.rC, .slice W.qA W.queue.length W.qC, .int .i64 W.now, .int .i64 W.sent, .int .i64 W.taken, .int .i64 W.lost] : List Value)[i]?) ∧ (∀ i, W'.cell? ⟨g5, i, none⟩ = ([.int .i64 rid, .int .i64 (j : Int), .slice (some ⟨gs, 0, none⟩) slots.length sC, .int .i64 full, .slice mA mail.length mC, .int .i64 state, .int .i64 due, .slice lA links.length lC, .slice wA watched.length wC, .bool trap, .int .i64 whk, .int .i64 whn, .int .i64 turns] : List Value)[i]?) ∧ ∀ i, W'.cell? ⟨g6, i, none⟩ = ([.int .i64 2, .int .i64 (sN : Int), .int .i64 (sS : Int), .int .i64 oto, .int .i64 ovk, .int .i64 ovn] : List Value)[i]?)) (by kernel_rfl) (fun _ _ _ _ _ h => h) (by (exact ⟨kc, kc, kc⟩)) (fun HQ hHeld => ?_))
    refine tkY HQ hHeld 0 ?_; refine tkY HQ hHeld 1 ?_; refine tkY HQ hHeld 2 ?_; refine tkY HQ hHeld 3 ?_; refine tkY HQ hHeld 4 ?_; refine tkY HQ hHeld 5 ?_; refine tkY HQ hHeld 6 ?_; refine tkY HQ hHeld 7 ?_; refine tkY HQ hHeld 8 ?_
    refine stp 9 (fun K hK => ?_); go_simp
    (try go_wp2_with fail); refine hK.out _ _ (by (exact ⟨kc, kc, kc⟩)) (fun hHeld => ?_); clear hK K; (try simp only [AX])
    refine stp 10 (fun K hK => ?_); go_simp
    ((go_at_call 164; (refine nmK ?_; clear M; (try clear F); intro w1 M F); refine (CS.out sN (Vl.mk xk xn) hsN4 M dl).mono ?_; clear M; rintro e w2 ⟨Y, hY, rfl, M⟩; replace hY := Lib.hid hY; (try clear F); have F := fx M); clear F)
    (try go_wp2_with fail); refine hK.out _ _ (by (exact ⟨kc, kc, kc⟩)) (fun hHeld => ?_); clear hK K; (try simp only [AX])
    refine stp 11 (fun K hK => ?_)
    refine op_of_list rfl ?_; ((with_reducible apply ev_store (M := M)); rfl; rfl; ((conv => lhs; whnf) <;> rfl); rfl; (first | exact siI | exact siR | exact siV | exact siB | exact siSI | exact siSV | exact siW | exact siSR | exact siSO | exact siO); (exact one_all rfl); (exact dl); (exact Nat.le_of_ble_eq_true rfl); clear M; intro w1 M; simp only [SX] at M; (try clear F); have F := fx M)
    (try go_wp2_with fail); refine hK.out _ _ (by (exact ⟨kc, kc, kc⟩)) (fun hHeld => ?_); clear hK K; (try simp only [AX])
    refine wpAnyH_done (by kernel_rfl) ?_ _; clear HQ; (repeat clear hHeld)
    go_wp2
    rw [hX.out] at hY
    (apply ret_cell (M := M); rfl; rfl; (exact dl); (first | exact agR | exact agV | exact agW | exact agO); (first | exact siI | exact siR | exact siV | exact siB | exact siSI | exact siSV | exact siW | exact siSR | exact siSO | exact siO); rfl; exact HQ.out _ _ ⟨Y, hY.out, rfl, M.sel (.drop (.cons .here (.drop (.drop (.drop .refl)))))⟩)
    --]2
  · --[3
    have HA := Lib.hid (fun V => sAdd21 (Vl.mk tk tn) (Vl.mk xk xn) V)
    have hO : stepO W.wd ((k : Int) + 1) (⟨rid, (j : Int), slots, full, mail, state, due, links, watched, trap, ⟨whk, whn⟩, turns⟩ : Rn) ⟨3, (sN : Int), (sS : Int), oto, ⟨ovk, ovn⟩⟩ = if (addV ⟨tk, tn⟩ ⟨xk, xn⟩).2 then setW W.wd ((k : Int) + 1) sN (addV ⟨tk, tn⟩ ⟨xk, xn⟩).1 else fallAll W.wd ((k : Int) + 1) ⟨2, 1⟩ := by
      rw [hT.out, hX.out]
      rfl
    generalize addV ⟨tk, tn⟩ ⟨xk, xn⟩ = R at HA hO
    obtain ⟨⟨sk, sn⟩, b⟩ := R
    simp only at HA hO
    have HQ3 : Hid (∀ e U, WPost (if b then setW W.wd ((k : Int) + 1) sN ⟨sk, sn⟩ else fallAll W.wd ((k : Int) + 1) ⟨2, 1⟩) w0 f L' e U → Q e U) := fun e U h => HQ.out e U (by rw [hO]; exact h)
    clear hO
    (try clear F); have F := fx M
    go_upto_region 10 with fail
    clear F
    (refine held_begin (S := (fun W' => (∀ i, W'.cell? ⟨g5, i, none⟩ = ([.int .i64 rid, .int .i64 (j : Int), .slice (some ⟨gs, 0, none⟩) slots.length sC, .int .i64 full, .slice mA mail.length mC, .int .i64 state, .int .i64 due, .slice lA links.length lC, .slice wA watched.length wC, .bool trap, .int .i64 whk, .int .i64 whn, .int .i64 turns] : List Value)[i]?) ∧ (∀ i, W'.cell? ⟨g6, i, none⟩ = ([.int .i64 3, .int .i64 (sN : Int), .int .i64 (sS : Int), .int .i64 oto, .int .i64 ovk, .int .i64 ovn] : List Value)[i]?) ∧ (W'.cell? ⟨gs, sN * 2, none⟩ = some (.int .i64 tk) ∧ W'.cell? ⟨gs, sN * 2 + 1, none⟩ = some (.int .i64 tn)) ∧ W'.cell? ⟨gs, sS * 2, none⟩ = some (.int .i64 xk) ∧ W'.cell? ⟨gs, sS * 2 + 1, none⟩ = some (.int .i64 xn))) (by kernel_rfl) (fun _ _ _ _ _ h => h) (by (exact ⟨kc, kc, HT.out mb dl, HX.out mb dl⟩)) (fun HQ hHeld => ?_))
    refine tkY HQ hHeld 0 ?_; refine tkY HQ hHeld 1 ?_; refine tkY HQ hHeld 2 ?_; refine tkY HQ hHeld 3 ?_; refine tkY HQ hHeld 4 ?_; refine tkY HQ hHeld 5 ?_; refine tkY HQ hHeld 6 ?_; refine tkY HQ hHeld 7 ?_; refine tkY HQ hHeld 8 ?_; refine tkY HQ hHeld 9 ?_; refine tkY HQ hHeld 10 ?_; refine tkY HQ hHeld 11 ?_
    cases b with
    | true =>
      simp only [if_true] at HQ3
      refine stp2 12 16 (fun K hK => ?_) (fun K hK => ?_)
      · go_simp
        ((go_at_call 165; (refine nmK ?_; clear M; (try clear F); intro w1 M F); refine (HA.out _).mono ?_; rintro e w2 ⟨rfl, hb⟩; replace M := M.below hb; clear hb; (try clear F); have F := fx M); (try go_wp2_with fail); refine hK.out _ _ (by (exact ⟨kc, kc, HT.out mb dl, HX.out mb dl⟩)) (fun hHeld => ?_); clear hK K; (try simp only [AX]); refine tkY HQ hHeld 13 ?_; refine tkY HQ hHeld 14 ?_; refine tkY HQ hHeld 15 ?_; refine stp 16 (fun K hK => ?_); go_simp; (try go_wp2_with fail); refine hK.out _ _ (by (exact ⟨kc, kc, HT.out mb dl, HX.out mb dl⟩)) (fun hHeld => ?_); clear hK K; (try simp only [AX]); clear hHeld; (refine nm (G := fun W => wpAnyH _ _ _ _ _ _ _ _ W) ?_; clear M; (try clear F); intro w1 M F); refine stp 17 (fun K hK => ?_); refine op_of_list rfl ?_; ((with_reducible apply ev_store (M := M)); rfl; rfl; ((conv => lhs; whnf) <;> rfl); rfl; (first | exact siI | exact siR | exact siV | exact siB | exact siSI | exact siSV | exact siW | exact siSR | exact siSO | exact siO); (exact one_all rfl); (exact dl); (exact Nat.le_of_ble_eq_true rfl); clear M; intro w1 M; simp only [SX] at M; (try clear F); have F := fx M); (try go_wp2_with fail); refine hK.out _ _ (by (exact ⟨kc, kc, HT.out mb dl, HX.out mb dl⟩)) (fun hHeld => ?_); clear hK K; (try simp only [AX]); refine tkY HQ hHeld 18 ?_; refine wpAnyH_done (by kernel_rfl) ?_ _; clear HQ; (repeat clear hHeld))
        go_wp2_with (first | ((with_reducible apply ev_store (M := M)); rfl; rfl; ((conv => lhs; whnf) <;> rfl); rfl; (first | exact siI | exact siR | exact siV | exact siB | exact siSI | exact siSV | exact siW | exact siSR | exact siSO | exact siO); (exact one_all rfl); (exact dl); (exact Nat.le_of_ble_eq_true rfl); clear M; intro w1 M; simp only [SX] at M; (try clear F); have F := fx M) | (go_at_call 164; (refine nmK ?_; clear M; (try clear F); intro w1 M F); refine (CS.out sN (Vl.mk sk sn) hsN4 M dl).mono ?_; clear M; rintro e w2 ⟨Y, hY, rfl, M⟩; replace hY := Lib.hid hY; (try clear F); have F := fx M))
        (apply ret_cell (M := M); rfl; rfl; (exact dl); (first | exact agR | exact agV | exact agW | exact agO); (first | exact siI | exact siR | exact siV | exact siB | exact siSI | exact siSV | exact siW | exact siSR | exact siSO | exact siO); rfl; exact HQ3.out _ _ ⟨Y, hY.out, rfl, M.sel (.drop (.cons .here (.drop (.drop (.drop (.drop .refl))))))⟩)
      · go_simp
        ((try go_wp2_with fail); refine hK.out _ _ (by (exact ⟨kc, kc, HT.out mb dl, HX.out mb dl⟩)) (fun hHeld => ?_); clear hK K; (try simp only [AX]); clear hHeld; (refine nm (G := fun W => wpAnyH _ _ _ _ _ _ _ _ W) ?_; clear M; (try clear F); intro w1 M F); refine stp 12 (fun K hK => ?_); go_simp; (go_at_call 165; (refine nmK ?_; clear M; (try clear F); intro w1 M F); refine (HA.out _).mono ?_; rintro e w2 ⟨rfl, hb⟩; replace M := M.below hb; clear hb; (try clear F); have F := fx M); (try go_wp2_with fail); refine hK.out _ _ (by (exact ⟨kc, kc, HT.out mb dl, HX.out mb dl⟩)) (fun hHeld => ?_); clear hK K; (try simp only [AX]); refine tkY HQ hHeld 13 ?_; refine tkY HQ hHeld 14 ?_; refine tkY HQ hHeld 15 ?_; refine stp 17 (fun K hK => ?_); refine op_of_list rfl ?_; ((with_reducible apply ev_store (M := M)); rfl; rfl; ((conv => lhs; whnf) <;> rfl); rfl; (first | exact siI | exact siR | exact siV | exact siB | exact siSI | exact siSV | exact siW | exact siSR | exact siSO | exact siO); (exact one_all rfl); (exact dl); (exact Nat.le_of_ble_eq_true rfl); clear M; intro w1 M; simp only [SX] at M; (try clear F); have F := fx M); (try go_wp2_with fail); refine hK.out _ _ (by (exact ⟨kc, kc, HT.out mb dl, HX.out mb dl⟩)) (fun hHeld => ?_); clear hK K; (try simp only [AX]); refine tkY HQ hHeld 18 ?_; refine wpAnyH_done (by kernel_rfl) ?_ _; clear HQ; (repeat clear hHeld))
        go_wp2_with (first | ((with_reducible apply ev_store (M := M)); rfl; rfl; ((conv => lhs; whnf) <;> rfl); rfl; (first | exact siI | exact siR | exact siV | exact siB | exact siSI | exact siSV | exact siW | exact siSR | exact siSO | exact siO); (exact one_all rfl); (exact dl); (exact Nat.le_of_ble_eq_true rfl); clear M; intro w1 M; simp only [SX] at M; (try clear F); have F := fx M) | (go_at_call 164; (refine nmK ?_; clear M; (try clear F); intro w1 M F); refine (CS.out sN (Vl.mk sk sn) hsN4 M dl).mono ?_; clear M; rintro e w2 ⟨Y, hY, rfl, M⟩; replace hY := Lib.hid hY; (try clear F); have F := fx M))
        (apply ret_cell (M := M); rfl; rfl; (exact dl); (first | exact agR | exact agV | exact agW | exact agO); (first | exact siI | exact siR | exact siV | exact siB | exact siSI | exact siSV | exact siW | exact siSR | exact siSO | exact siO); rfl; exact HQ3.out _ _ ⟨Y, hY.out, rfl, M.sel (.drop (.cons .here (.drop (.drop (.drop (.drop .refl))))))⟩)
    | false =>
      simp only [Bool.false_eq_true, if_false] at HQ3
      refine stp2 12 16 (fun K hK => ?_) (fun K hK => ?_)
      · go_simp
        ((go_at_call 165; (refine nmK ?_; clear M; (try clear F); intro w1 M F); refine (HA.out _).mono ?_; rintro e w2 ⟨rfl, hb⟩; replace M := M.below hb; clear hb; (try clear F); have F := fx M); (try go_wp2_with fail); refine hK.out _ _ (by (exact ⟨kc, kc, HT.out mb dl, HX.out mb dl⟩)) (fun hHeld => ?_); clear hK K; (try simp only [AX]); refine tkY HQ hHeld 13 ?_; refine tkY HQ hHeld 14 ?_; refine tkY HQ hHeld 15 ?_; refine stp 16 (fun K hK => ?_); go_simp; (try go_wp2_with fail); refine hK.out _ _ (by (exact ⟨kc, kc, HT.out mb dl, HX.out mb dl⟩)) (fun hHeld => ?_); clear hK K; (try simp only [AX]); clear hHeld; (refine nm (G := fun W => wpAnyH _ _ _ _ _ _ _ _ W) ?_; clear M; (try clear F); intro w1 M F); refine stp 17 (fun K hK => ?_); refine op_of_list rfl ?_; ((with_reducible apply ev_store (M := M)); rfl; rfl; ((conv => lhs; whnf) <;> rfl); rfl; (first | exact siI | exact siR | exact siV | exact siB | exact siSI | exact siSV | exact siW | exact siSR | exact siSO | exact siO); (exact one_all rfl); (exact dl); (exact Nat.le_of_ble_eq_true rfl); clear M; intro w1 M; simp only [SX] at M; (try clear F); have F := fx M); (try go_wp2_with fail); refine hK.out _ _ (by (exact ⟨kc, kc, HT.out mb dl, HX.out mb dl⟩)) (fun hHeld => ?_); clear hK K; (try simp only [AX]); refine tkY HQ hHeld 18 ?_; refine wpAnyH_done (by kernel_rfl) ?_ _; clear HQ; (repeat clear hHeld))
        go_wp2_with (first | ((with_reducible apply ev_store (M := M)); rfl; rfl; ((conv => lhs; whnf) <;> rfl); rfl; (first | exact siI | exact siR | exact siV | exact siB | exact siSI | exact siSV | exact siW | exact siSR | exact siSO | exact siO); (exact one_all rfl); (exact dl); (exact Nat.le_of_ble_eq_true rfl); clear M; intro w1 M; simp only [SX] at M; (try clear F); have F := fx M) | (go_at_call 149; (refine nmK ?_; clear M; (try clear F); intro w1 M F); refine (CE.out (Vl.mk 2 1) (ok_name (by omega)) M dl).mono ?_; clear M; rintro e w2 ⟨Y, hY, rfl, M⟩; replace hY := Lib.hid hY; (try clear F); have F := fx M))
        (apply ret_cell (M := M); rfl; rfl; (exact dl); (first | exact agR | exact agV | exact agW | exact agO); (first | exact siI | exact siR | exact siV | exact siB | exact siSI | exact siSV | exact siW | exact siSR | exact siSO | exact siO); rfl; exact HQ3.out _ _ ⟨Y, hY.out, rfl, M.sel (.drop (.cons .here (.drop (.drop (.drop (.drop .refl))))))⟩)
      · go_simp
        ((try go_wp2_with fail); refine hK.out _ _ (by (exact ⟨kc, kc, HT.out mb dl, HX.out mb dl⟩)) (fun hHeld => ?_); clear hK K; (try simp only [AX]); clear hHeld; (refine nm (G := fun W => wpAnyH _ _ _ _ _ _ _ _ W) ?_; clear M; (try clear F); intro w1 M F); refine stp 12 (fun K hK => ?_); go_simp; (go_at_call 165; (refine nmK ?_; clear M; (try clear F); intro w1 M F); refine (HA.out _).mono ?_; rintro e w2 ⟨rfl, hb⟩; replace M := M.below hb; clear hb; (try clear F); have F := fx M); (try go_wp2_with fail); refine hK.out _ _ (by (exact ⟨kc, kc, HT.out mb dl, HX.out mb dl⟩)) (fun hHeld => ?_); clear hK K; (try simp only [AX]); refine tkY HQ hHeld 13 ?_; refine tkY HQ hHeld 14 ?_; refine tkY HQ hHeld 15 ?_; refine stp 17 (fun K hK => ?_); refine op_of_list rfl ?_; ((with_reducible apply ev_store (M := M)); rfl; rfl; ((conv => lhs; whnf) <;> rfl); rfl; (first | exact siI | exact siR | exact siV | exact siB | exact siSI | exact siSV | exact siW | exact siSR | exact siSO | exact siO); (exact one_all rfl); (exact dl); (exact Nat.le_of_ble_eq_true rfl); clear M; intro w1 M; simp only [SX] at M; (try clear F); have F := fx M); (try go_wp2_with fail); refine hK.out _ _ (by (exact ⟨kc, kc, HT.out mb dl, HX.out mb dl⟩)) (fun hHeld => ?_); clear hK K; (try simp only [AX]); refine tkY HQ hHeld 18 ?_; refine wpAnyH_done (by kernel_rfl) ?_ _; clear HQ; (repeat clear hHeld))
        go_wp2_with (first | ((with_reducible apply ev_store (M := M)); rfl; rfl; ((conv => lhs; whnf) <;> rfl); rfl; (first | exact siI | exact siR | exact siV | exact siB | exact siSI | exact siSV | exact siW | exact siSR | exact siSO | exact siO); (exact one_all rfl); (exact dl); (exact Nat.le_of_ble_eq_true rfl); clear M; intro w1 M; simp only [SX] at M; (try clear F); have F := fx M) | (go_at_call 149; (refine nmK ?_; clear M; (try clear F); intro w1 M F); refine (CE.out (Vl.mk 2 1) (ok_name (by omega)) M dl).mono ?_; clear M; rintro e w2 ⟨Y, hY, rfl, M⟩; replace hY := Lib.hid hY; (try clear F); have F := fx M))
        (apply ret_cell (M := M); rfl; rfl; (exact dl); (first | exact agR | exact agV | exact agW | exact agO); (first | exact siI | exact siR | exact siV | exact siB | exact siSI | exact siSV | exact siW | exact siSR | exact siSO | exact siO); rfl; exact HQ3.out _ _ ⟨Y, hY.out, rfl, M.sel (.drop (.cons .here (.drop (.drop (.drop (.drop .refl))))))⟩)
    --]3
  · --[4
    ((try clear F); have F := fx M; go_wp2_with (first | ((with_reducible apply ev_store (M := M)); rfl; rfl; ((conv => lhs; whnf) <;> rfl); rfl; (first | exact siI | exact siR | exact siV | exact siB | exact siSI | exact siSV | exact siW | exact siSR | exact siSO | exact siO); (exact one_all rfl); (exact dl); (exact Nat.le_of_ble_eq_true rfl); clear M; intro w1 M; simp only [SX] at M; (try clear F); have F := fx M) | (go_at_call 164; (refine nmK ?_; clear M; (try clear F); intro w1 M F); refine (CS.out sN (Vl.mk 3 ((k : Int) + 1)) hsN4 M dl).mono ?_; clear M; rintro e w2 ⟨Y, hY, rfl, M⟩; replace hY := Lib.hid hY; (try clear F); have F := fx M)); (apply ret_cell (M := M); rfl; rfl; (exact dl); (first | exact agR | exact agV | exact agW | exact agO); (first | exact siI | exact siR | exact siV | exact siB | exact siSI | exact siSV | exact siW | exact siSR | exact siSO | exact siO); rfl; exact HQ.out _ _ ⟨Y, hY.out, rfl, M.sel (.drop (.cons .here (.drop (.drop (.drop .refl)))))⟩))
    --]4
  · --[5
    ((try clear F); have F := fx M; go_wp2_with (first | ((with_reducible apply ev_store (M := M)); rfl; rfl; ((conv => lhs; whnf) <;> rfl); rfl; (first | exact siI | exact siR | exact siV | exact siB | exact siSI | exact siSV | exact siW | exact siSR | exact siSO | exact siO); (exact one_all rfl); (exact dl); (exact Nat.le_of_ble_eq_true rfl); clear M; intro w1 M; simp only [SX] at M; (try clear F); have F := fx M) | (go_at_call 166; (refine nmK ?_; clear M; (try clear F); intro w1 M F); refine (CB.out M dl).mono ?_; clear M; rintro e w2 ⟨Y, hY, rfl, M⟩; replace hY := Lib.hid hY; (try clear F); have F := fx M)); (apply ret_cell (M := M); rfl; rfl; (exact dl); (first | exact agR | exact agV | exact agW | exact agO); (first | exact siI | exact siR | exact siV | exact siB | exact siSI | exact siSV | exact siW | exact siSR | exact siSO | exact siO); rfl; exact HQ.out _ _ ⟨Y, hY.out, rfl, M.sel (.drop (.cons .here (.drop (.drop (.drop .refl)))))⟩))
    --]5
  · --[6
    ((try clear F); have F := fx M; go_wp2_with (first | ((with_reducible apply ev_store (M := M)); rfl; rfl; ((conv => lhs; whnf) <;> rfl); rfl; (first | exact siI | exact siR | exact siV | exact siB | exact siSI | exact siSV | exact siW | exact siSR | exact siSO | exact siO); (exact one_all rfl); (exact dl); (exact Nat.le_of_ble_eq_true rfl); clear M; intro w1 M; simp only [SX] at M; (try clear F); have F := fx M) | (go_at_call 168; (refine nmK ?_; clear M; (try clear F); intro w1 M F); refine (CO.out (.inl rfl) M dl).mono ?_; clear M; rintro e w2 ⟨Y, hY, rfl, M⟩; replace hY := Lib.hid hY; (try clear F); have F := fx M)); (apply ret_cell (M := M); rfl; rfl; (exact dl); (first | exact agR | exact agV | exact agW | exact agO); (first | exact siI | exact siR | exact siV | exact siB | exact siSI | exact siSV | exact siW | exact siSR | exact siSO | exact siO); rfl; exact HQ.out _ _ ⟨Y, hY.out, rfl, M.sel (.drop (.cons .here (.drop (.drop (.drop .refl)))))⟩))
    --]6
  · --[7
    ((try clear F); have F := fx M; go_wp2_with (first | ((with_reducible apply ev_store (M := M)); rfl; rfl; ((conv => lhs; whnf) <;> rfl); rfl; (first | exact siI | exact siR | exact siV | exact siB | exact siSI | exact siSV | exact siW | exact siSR | exact siSO | exact siO); (exact one_all rfl); (exact dl); (exact Nat.le_of_ble_eq_true rfl); clear M; intro w1 M; simp only [SX] at M; (try clear F); have F := fx M) | (go_at_call 167; (refine nmK ?_; clear M; (try clear F); intro w1 M F); refine (CT.out M dl).mono ?_; clear M; rintro e w2 ⟨Y, hY, rfl, M⟩; replace hY := Lib.hid hY; (try clear F); have F := fx M)); (apply ret_cell (M := M); rfl; rfl; (exact dl); (first | exact agR | exact agV | exact agW | exact agO); (first | exact siI | exact siR | exact siV | exact siB | exact siSI | exact siSV | exact siW | exact siSR | exact siSO | exact siO); rfl; exact HQ.out _ _ ⟨Y, hY.out, rfl, M.sel (.drop (.cons .here (.drop (.drop (.drop .refl)))))⟩))
    --]7
  · --[8
    ((try clear F); have F := fx M; go_wp2_with (first | ((with_reducible apply ev_store (M := M)); rfl; rfl; ((conv => lhs; whnf) <;> rfl); rfl; (first | exact siI | exact siR | exact siV | exact siB | exact siSI | exact siSV | exact siW | exact siSR | exact siSO | exact siO); (exact one_all rfl); (exact dl); (exact Nat.le_of_ble_eq_true rfl); clear M; intro w1 M; simp only [SX] at M; (try clear F); have F := fx M) | (go_at_call 167; (refine nmK ?_; clear M; (try clear F); intro w1 M F); refine (CT.out M dl).mono ?_; clear M; rintro e w2 ⟨Y, hY, rfl, M⟩; replace hY := Lib.hid hY; (try clear F); have F := fx M)); (apply ret_cell (M := M); rfl; rfl; (exact dl); (first | exact agR | exact agV | exact agW | exact agO); (first | exact siI | exact siR | exact siV | exact siB | exact siSI | exact siSV | exact siW | exact siSR | exact siSO | exact siO); rfl; exact HQ.out _ _ ⟨Y, hY.out, rfl, M.sel (.drop (.cons .here (.drop (.drop (.drop .refl)))))⟩))
    --]8
  · --[9
    (try clear F); have F := fx M
    go_upto_region 22 with fail
    rw [← hcA.out] at M
    obtain ⟨⟨rr, aa⟩, hra⟩ : ∃ q : Rn × RA, q = W.ps[k]'hk := ⟨_, rfl⟩
    obtain ⟨pre, post, hps, hpl, hnn, M1⟩ := open_gr hA.out (M.sel (.cons (.there (.there (.there .here))) (.cons (.there (.there (.there .here))) .refl))) hk hra
    clear M F
    have M := M1
    clear M1
    unfold opened at M
    replace hps := Lib.hid hps
    replace hpl := Lib.hid hpl
    replace hnn := Lib.hid hnn
    (try clear F); have F := fx M
    go_wp2_with (first | ((with_reducible apply ev_store (M := M)); rfl; rfl; ((conv => lhs; whnf) <;> rfl); rfl; (first | exact siI | exact siR | exact siV | exact siB | exact siSI | exact siSV | exact siW | exact siSR | exact siSO | exact siO); (exact one_all rfl); (exact dl); (exact Nat.le_of_ble_eq_true rfl); clear M; intro w1 M; simp only [SX] at M; (try clear F); have F := fx M) | ((with_reducible apply ev_elem (enc := encR) (x' := (({ rr with at_ := oto }, aa) : Rn × RA)) (j := 1) (k := k) (hk := encR_length) (M := M)); rfl; rfl; ((conv => lhs; whnf) <;> rfl); rfl; (first | exact siI | exact siB | exact siSI); rfl; (exact dl); (first | with_reducible rfl | with_reducible exact (Nat.add_zero _).symm); exact hpl.out; decide; exact rfl; clear M; intro w1 M; (try clear F); have F := fx M))
    apply ret_cell (M := M); rfl; rfl; (exact dl); (first | exact agR | exact agV | exact agW | exact agO); (first | exact siI | exact siR | exact siV | exact siB | exact siSI | exact siSV | exact siW | exact siSR | exact siSO | exact siO); rfl
    refine HQ.out _ _ (wpost_mid hps.out hpl.out hnn.out (fun r => { r with at_ := oto }) aa (g3 := g2) ?_ rfl ?_)
    · rfl
    · exact M.sel (.cons (.there (.there .here)) (.cons (.there .here) (.cons (.there .here) (.cons (.there .here) (.cons (.there .here) (.cons (.there .here) (.cons (.there .here) (.cons (.there .here) (.cons (.there .here) (.drop (.drop (.drop .refl))))))))))))
    --]9
  · --[10
    have hO : stepO W.wd ((k : Int) + 1) (⟨rid, (j : Int), slots, full, mail, state, due, links, watched, trap, ⟨whk, whn⟩, turns⟩ : Rn) ⟨10, (sN : Int), (sS : Int), oto, ⟨ovk, ovn⟩⟩ = upd W.wd ((k : Int) + 1) (fun q => { q with at_ := if (⟨tk, tn⟩ : Vl) = ⟨ovk, ovn⟩ then oto else (j : Int) + 1 }) := by
      rw [hT.out]
      rfl
    (try clear F); have F := fx M
    go_upto_region 24 with fail
    rw [← hcA.out] at M
    obtain ⟨⟨rr, aa⟩, hra⟩ : ∃ q : Rn × RA, q = W.ps[k]'hk := ⟨_, rfl⟩
    obtain ⟨pre, post, hps, hpl, hnn, M1⟩ := open_gr hA.out (M.sel (.cons (.there (.there (.there .here))) (.cons (.there (.there (.there .here))) .refl))) hk hra
    clear M F
    have M := M1
    clear M1
    unfold opened at M
    replace hps := Lib.hid hps
    replace hpl := Lib.hid hpl
    replace hnn := Lib.hid hnn
    have HTr : Hid (∀ {U : World} {L1 L2 : List Asn}, Mem w0 f U L1 → Del (row encV 2 tV aa.sA aa.sC rr.slots) L1 L2 → U.cell? ⟨gs, sN * 2, none⟩ = some (.int .i64 tk) ∧ U.cell? ⟨gs, sN * 2 + 1, none⟩ = some (.int .i64 tn)) := by
      intro U L1 L2 M' hd'
      clear M
      have e : (rr, aa) = ((⟨rid, (j : Int), slots, full, mail, state, due, links, watched, trap, ⟨whk, whn⟩, turns⟩ : Rn), (⟨some ⟨gs, 0, none⟩, sC, mA, mC, lA, lC, wA, wC⟩ : RA)) := hra.trans hp.out.symm
      injection e with e1 e2
      subst e1
      subst e2
      simp only at hd'
      obtain ⟨_, c2, _⟩ := row_elem encV_length M' hd' (k := sN) hsN
      have h := hT.out
      rw [slotAt_eq (r := (⟨rid, (j : Int), slots, full, mail, state, due, links, watched, trap, ⟨whk, whn⟩, turns⟩ : Rn)) hsN] at h
      have h : (⟨tk, tn⟩ : Vl) = slots[sN] := h
      have c0 := c2 0 (by decide)
      have c1 := c2 1 (by decide)
      simp only [encV, ← h] at c0 c1
      exact ⟨by simpa using c0, by simpa using c1⟩
    (try clear F); have F := fx M
    go_upto_region 25 with (first | ((with_reducible apply ev_elem (enc := encR) (x' := (({ rr with at_ := (j : Int) + 1 }, aa) : Rn × RA)) (j := 1) (k := k) (hk := encR_length) (M := M)); rfl; rfl; ((conv => lhs; whnf) <;> rfl); rfl; (first | exact siI | exact siB | exact siSI); rfl; (exact dl); (first | with_reducible rfl | with_reducible exact (Nat.add_zero _).symm); exact hpl.out; decide; exact rfl; clear M; intro w1 M; (try clear F); have F := fx M))
    clear F
    (refine held_begin (S := (fun W' => (∀ i, W'.cell? ⟨g5, i, none⟩ = ([.int .i64 rid, .int .i64 (j : Int), .slice (some ⟨gs, 0, none⟩) slots.length sC, .int .i64 full, .slice mA mail.length mC, .int .i64 state, .int .i64 due, .slice lA links.length lC, .slice wA watched.length wC, .bool trap, .int .i64 whk, .int .i64 whn, .int .i64 turns] : List Value)[i]?) ∧ (∀ i, W'.cell? ⟨g6, i, none⟩ = ([.int .i64 10, .int .i64 (sN : Int), .int .i64 (sS : Int), .int .i64 oto, .int .i64 ovk, .int .i64 ovn] : List Value)[i]?) ∧ W'.cell? ⟨gs, sN * 2, none⟩ = some (.int .i64 tk) ∧ W'.cell? ⟨gs, sN * 2 + 1, none⟩ = some (.int .i64 tn))) (by kernel_rfl) (fun _ _ _ _ _ h => h) (by (exact ⟨kc, kc, HTr.out mb dl⟩)) (fun HQ hHeld => ?_))
    refine tkY HQ hHeld 0 ?_; refine tkY HQ hHeld 1 ?_; refine tkY HQ hHeld 2 ?_; refine tkY HQ hHeld 3 ?_; refine tkY HQ hHeld 4 ?_; refine tkY HQ hHeld 5 ?_; refine tkY HQ hHeld 6 ?_; refine tkY HQ hHeld 7 ?_
    by_cases hcmp : (⟨tk, tn⟩ : Vl) = ⟨ovk, ovn⟩
    · rw [if_pos hcmp] at hO
      have e1 : (tk == ovk) = true := by injection hcmp with e1 e2; simp [e1]
      have e2 : (tn == ovn) = true := by injection hcmp with e1 e2; simp [e2]
      clear hcmp
      replace hO := Lib.hid hO
      refine tkY HQ hHeld 8 ?_
      refine wpAnyH_done (by kernel_rfl) ?_ _; clear HQ; (repeat clear hHeld)
      replace M := Mem.drew M
      (try clear F); have F := fx M
      go_wp2_with (first | ((with_reducible apply ev_store (M := M)); rfl; rfl; ((conv => lhs; whnf) <;> rfl); rfl; (first | exact siI | exact siR | exact siV | exact siB | exact siSI | exact siSV | exact siW | exact siSR | exact siSO | exact siO); (exact one_all rfl); (exact dl); (exact Nat.le_of_ble_eq_true rfl); clear M; intro w1 M; simp only [SX] at M; (try clear F); have F := fx M) | ((with_reducible apply ev_elem (enc := encR) (x' := (({ { rr with at_ := (j : Int) + 1 } with at_ := oto }, aa) : Rn × RA)) (j := 1) (k := k) (hk := encR_length) (M := M)); rfl; rfl; ((conv => lhs; whnf) <;> rfl); rfl; (first | exact siI | exact siB | exact siSI); rfl; (exact dl); (first | with_reducible rfl | with_reducible exact (Nat.add_zero _).symm); exact hpl.out; decide; exact rfl; clear M; intro w1 M; (try clear F); have F := fx M))
      apply ret_cell (M := M); rfl; rfl; (exact dl); (first | exact agR | exact agV | exact agW | exact agO); (first | exact siI | exact siR | exact siV | exact siB | exact siSI | exact siSV | exact siW | exact siSR | exact siSO | exact siO); rfl
      refine HQ.out _ _ (wpost_mid hps.out hpl.out hnn.out (fun r => { r with at_ := oto }) aa (g3 := g2) ?_ rfl ?_)
      · rw [hO.out]
        rfl
      · exact M.sel (.cons (.there (.there .here)) (.cons (.there .here) (.cons (.there .here) (.cons (.there .here) (.cons (.there .here) (.cons (.there .here) (.cons (.there .here) (.cons (.there .here) (.cons (.there .here) (.drop (.drop (.drop .refl))))))))))))
    · rw [if_neg hcmp] at hO
      replace hO := Lib.hid hO
      by_cases h1 : tk = ovk
      · have e1 : (tk == ovk) = true := by simp [h1]
        have e2 : (tn == ovn) = false := by
          by_cases h2 : tn = ovn
          · exact absurd (by rw [h1, h2]) hcmp
          · simpa using h2
        clear hcmp h1
        refine tkY HQ hHeld 8 ?_
        refine wpAnyH_done (by kernel_rfl) ?_ _; clear HQ; (repeat clear hHeld)
        replace M := Mem.drew M
        (try clear F); have F := fx M
        go_wp2_with (first | ((with_reducible apply ev_store (M := M)); rfl; rfl; ((conv => lhs; whnf) <;> rfl); rfl; (first | exact siI | exact siR | exact siV | exact siB | exact siSI | exact siSV | exact siW | exact siSR | exact siSO | exact siO); (exact one_all rfl); (exact dl); (exact Nat.le_of_ble_eq_true rfl); clear M; intro w1 M; simp only [SX] at M; (try clear F); have F := fx M))
        apply ret_cell (M := M); rfl; rfl; (exact dl); (first | exact agR | exact agV | exact agW | exact agO); (first | exact siI | exact siR | exact siV | exact siB | exact siSI | exact siSV | exact siW | exact siSR | exact siSO | exact siO); rfl
        refine HQ.out _ _ (wpost_mid hps.out hpl.out hnn.out (fun r => { r with at_ := (j : Int) + 1 }) aa (g3 := g2) ?_ rfl ?_)
        · rw [hO.out]
          rfl
        · exact M.sel (.cons (.there (.there .here)) (.cons (.there .here) (.cons (.there .here) (.cons (.there .here) (.cons (.there .here) (.cons (.there .here) (.cons (.there .here) (.cons (.there .here) (.cons (.there .here) (.drop (.drop (.drop .refl))))))))))))
      · have e1 : (tk == ovk) = false := by simpa using h1
        clear hcmp h1
        refine tkY HQ hHeld 8 ?_
        refine wpAnyH_done (by kernel_rfl) ?_ _; clear HQ; (repeat clear hHeld)
        replace M := Mem.drew M
        (try clear F); have F := fx M
        go_wp2_with (first | ((with_reducible apply ev_store (M := M)); rfl; rfl; ((conv => lhs; whnf) <;> rfl); rfl; (first | exact siI | exact siR | exact siV | exact siB | exact siSI | exact siSV | exact siW | exact siSR | exact siSO | exact siO); (exact one_all rfl); (exact dl); (exact Nat.le_of_ble_eq_true rfl); clear M; intro w1 M; simp only [SX] at M; (try clear F); have F := fx M))
        apply ret_cell (M := M); rfl; rfl; (exact dl); (first | exact agR | exact agV | exact agW | exact agO); (first | exact siI | exact siR | exact siV | exact siB | exact siSI | exact siSV | exact siW | exact siSR | exact siSO | exact siO); rfl
        refine HQ.out _ _ (wpost_mid hps.out hpl.out hnn.out (fun r => { r with at_ := (j : Int) + 1 }) aa (g3 := g2) ?_ rfl ?_)
        · rw [hO.out]
          rfl
        · exact M.sel (.cons (.there (.there .here)) (.cons (.there .here) (.cons (.there .here) (.cons (.there .here) (.cons (.there .here) (.cons (.there .here) (.cons (.there .here) (.cons (.there .here) (.cons (.there .here) (.drop (.drop (.drop .refl))))))))))))
    --]10
  · --[11
    ((try clear F); have F := fx M; go_wp2_with (first | ((with_reducible apply ev_store (M := M)); rfl; rfl; ((conv => lhs; whnf) <;> rfl); rfl; (first | exact siI | exact siR | exact siV | exact siB | exact siSI | exact siSV | exact siW | exact siSR | exact siSO | exact siO); (exact one_all rfl); (exact dl); (exact Nat.le_of_ble_eq_true rfl); clear M; intro w1 M; simp only [SX] at M; (try clear F); have F := fx M) | (go_at_call 168; (refine nmK ?_; clear M; (try clear F); intro w1 M F); refine (CO.out (.inr (.inl rfl)) M dl).mono ?_; clear M; rintro e w2 ⟨Y, hY, rfl, M⟩; replace hY := Lib.hid hY; (try clear F); have F := fx M)); (apply ret_cell (M := M); rfl; rfl; (exact dl); (first | exact agR | exact agV | exact agW | exact agO); (first | exact siI | exact siR | exact siV | exact siB | exact siSI | exact siSV | exact siW | exact siSR | exact siSO | exact siO); rfl; exact HQ.out _ _ ⟨Y, hY.out, rfl, M.sel (.drop (.cons .here (.drop (.drop (.drop .refl)))))⟩))
    --]11
  · --[12
    ((try clear F); have F := fx M; go_wp2_with (first | ((with_reducible apply ev_store (M := M)); rfl; rfl; ((conv => lhs; whnf) <;> rfl); rfl; (first | exact siI | exact siR | exact siV | exact siB | exact siSI | exact siSV | exact siW | exact siSR | exact siSO | exact siO); (exact one_all rfl); (exact dl); (exact Nat.le_of_ble_eq_true rfl); clear M; intro w1 M; simp only [SX] at M; (try clear F); have F := fx M) | (go_at_call 168; (refine nmK ?_; clear M; (try clear F); intro w1 M F); refine (CO.out (.inr (.inr rfl)) M dl).mono ?_; clear M; rintro e w2 ⟨Y, hY, rfl, M⟩; replace hY := Lib.hid hY; (try clear F); have F := fx M)); (apply ret_cell (M := M); rfl; rfl; (exact dl); (first | exact agR | exact agV | exact agW | exact agO); (first | exact siI | exact siR | exact siV | exact siB | exact siSI | exact siSV | exact siW | exact siSR | exact siSO | exact siO); rfl; exact HQ.out _ _ ⟨Y, hY.out, rfl, M.sel (.drop (.cons .here (.drop (.drop (.drop .refl)))))⟩))
    --]12
  · --[13
    (try clear F); have F := fx M
    go_upto_region 28 with fail
    rw [← hcA.out] at M
    obtain ⟨⟨rr, aa⟩, hra⟩ : ∃ q : Rn × RA, q = W.ps[k]'hk := ⟨_, rfl⟩
    obtain ⟨pre, post, hps, hpl, hnn, M1⟩ := open_gr hA.out (M.sel (.cons (.there (.there (.there .here))) (.cons (.there (.there (.there .here))) .refl))) hk hra
    clear M F
    have M := M1
    clear M1
    unfold opened at M
    replace hps := Lib.hid hps
    replace hpl := Lib.hid hpl
    replace hnn := Lib.hid hnn
    (try clear F); have F := fx M
    go_wp2_with (first | ((with_reducible apply ev_store (M := M)); rfl; rfl; ((conv => lhs; whnf) <;> rfl); rfl; (first | exact siI | exact siR | exact siV | exact siB | exact siSI | exact siSV | exact siW | exact siSR | exact siSO | exact siO); (exact one_all rfl); (exact dl); (exact Nat.le_of_ble_eq_true rfl); clear M; intro w1 M; simp only [SX] at M; (try clear F); have F := fx M) | ((with_reducible apply ev_elem (enc := encR) (x' := (({ rr with trap := (ovn == 1) }, aa) : Rn × RA)) (j := 9) (k := k) (hk := encR_length) (M := M)); rfl; rfl; ((conv => lhs; whnf) <;> rfl); rfl; (first | exact siI | exact siB | exact siSI); rfl; (exact dl); (first | with_reducible rfl | with_reducible exact (Nat.add_zero _).symm); exact hpl.out; decide; exact rfl; clear M; intro w1 M; (try clear F); have F := fx M) | ((with_reducible apply ev_elem (enc := encR) (x' := (({ { rr with trap := (ovn == 1) } with at_ := (j : Int) + 1 }, aa) : Rn × RA)) (j := 1) (k := k) (hk := encR_length) (M := M)); rfl; rfl; ((conv => lhs; whnf) <;> rfl); rfl; (first | exact siI | exact siB | exact siSI); rfl; (exact dl); (first | with_reducible rfl | with_reducible exact (Nat.add_zero _).symm); exact hpl.out; decide; exact rfl; clear M; intro w1 M; (try clear F); have F := fx M))
    apply ret_cell (M := M); rfl; rfl; (exact dl); (first | exact agR | exact agV | exact agW | exact agO); (first | exact siI | exact siR | exact siV | exact siB | exact siSI | exact siSV | exact siW | exact siSR | exact siSO | exact siO); rfl
    refine HQ.out _ _ (wpost_mid hps.out hpl.out hnn.out (fun r => { r with trap := (ovn == 1), at_ := (j : Int) + 1 }) aa (g3 := g2) ?_ rfl ?_)
    · rfl
    · exact M.sel (.cons (.there (.there .here)) (.cons (.there .here) (.cons (.there .here) (.cons (.there .here) (.cons (.there .here) (.cons (.there .here) (.cons (.there .here) (.cons (.there .here) (.cons (.there .here) (.drop (.drop (.drop .refl))))))))))))
    --]13
  · --[14
    (try clear F); have F := fx M
    go_upto_region 31 with fail
    obtain ⟨T0, T1⟩ := HT.out M dl
    clear F
    (refine held_begin (S := (fun W' => (∀ i, W'.cell? ⟨g2, i, none⟩ = ([.slice (some ⟨gc, 0, none⟩) W.code.length W.cC, .slice (some ⟨gr, 0, none⟩) W.ps.length W.rC, .slice W.qA W.queue.length W.qC, .int .i64 W.now, .int .i64 W.sent, .int .i64 W.taken, .int .i64 W.lost] : List Value)[i]?) ∧ (∀ i, W'.cell? ⟨g5, i, none⟩ = ([.int .i64 rid, .int .i64 (j : Int), .slice (some ⟨gs, 0, none⟩) slots.length sC, .int .i64 full, .slice mA mail.length mC, .int .i64 state, .int .i64 due, .slice lA links.length lC, .slice wA watched.length wC, .bool trap, .int .i64 whk, .int .i64 whn, .int .i64 turns] : List Value)[i]?) ∧ ∀ i, W'.cell? ⟨g6, i, none⟩ = ([.int .i64 14, .int .i64 (sN : Int), .int .i64 (sS : Int), .int .i64 oto, .int .i64 ovk, .int .i64 ovn] : List Value)[i]?)) (by kernel_rfl) (fun _ _ _ _ _ h => h) (by (exact ⟨kc, kc, kc⟩)) (fun HQ hHeld => ?_))
    refine tkY HQ hHeld 0 ?_; refine tkY HQ hHeld 1 ?_; refine tkY HQ hHeld 2 ?_; refine tkY HQ hHeld 3 ?_; refine tkY HQ hHeld 4 ?_; refine tkY HQ hHeld 5 ?_; refine tkY HQ hHeld 6 ?_
    refine stp 7 (fun K hK => ?_); go_simp
    (try go_wp2_with fail); refine hK.out _ _ (by (exact ⟨kc, kc, kc⟩)) (fun hHeld => ?_); clear hK K; (try simp only [AX])
    refine stp 8 (fun K hK => ?_); go_simp
    ((go_at_call 149; (refine nmK ?_; clear M; (try clear F); intro w1 M F); refine (CE.out (Vl.mk tk tn) hvN.out M dl).mono ?_; clear M; rintro e w2 ⟨Y, hY, rfl, M⟩; replace hY := Lib.hid hY; (try clear F); have F := fx M); clear F)
    (try go_wp2_with fail); refine hK.out _ _ (by (exact ⟨kc, kc, kc⟩)) (fun hHeld => ?_); clear hK K; (try simp only [AX])
    refine stp 9 (fun K hK => ?_)
    refine op_of_list rfl ?_; ((with_reducible apply ev_store (M := M)); rfl; rfl; ((conv => lhs; whnf) <;> rfl); rfl; (first | exact siI | exact siR | exact siV | exact siB | exact siSI | exact siSV | exact siW | exact siSR | exact siSO | exact siO); (exact one_all rfl); (exact dl); (exact Nat.le_of_ble_eq_true rfl); clear M; intro w1 M; simp only [SX] at M; (try clear F); have F := fx M)
    (try go_wp2_with fail); refine hK.out _ _ (by (exact ⟨kc, kc, kc⟩)) (fun hHeld => ?_); clear hK K; (try simp only [AX])
    refine wpAnyH_done (by kernel_rfl) ?_ _; clear HQ; (repeat clear hHeld)
    go_wp2
    rw [hT.out] at hY
    (apply ret_cell (M := M); rfl; rfl; (exact dl); (first | exact agR | exact agV | exact agW | exact agO); (first | exact siI | exact siR | exact siV | exact siB | exact siSI | exact siSV | exact siW | exact siSR | exact siSO | exact siO); rfl; exact HQ.out _ _ ⟨Y, hY.out, rfl, M.sel (.drop (.cons .here (.drop (.drop (.drop .refl)))))⟩)
    --]14
end Go.Proofs.Ytmidnaafljgbiaa
/- Ticks and events in plain words: an ok world stays ok. No Go and no memory here. -/
namespace Go.Proofs.Ytmidnaafljgbiaa

/-- One run looked at by a tick. -/
def tickHit (w : Wd) (i : Int) : Bool := (getR w.runs i).state == 2 && (getR w.runs i).due == w.now
def wake (w : Wd) (i : Int) : Wd := { w with runs := updR w.runs i (fun r => { r with state := 1, due := -1 }), queue := w.queue ++ [i] }
def tickFrom : Nat → Wd → Int → Wd
  | 0, w, _ => w
  | n + 1, w, i => tickFrom n (if tickHit w i then wake w i else w) (i + 1)
def tickW (w : Wd) : Wd := if 250 ≤ w.now then w else tickFrom w.runs.length { w with now := wr (w.now + 1) } 1
/-- Ok but for those who wait until now, from place i on. -/
structure TOk (w0 w : Wd) (i : Int) : Prop where
  code : w.code = w0.code
  now : w.now = w0.now + 1
  sent : w.sent = w0.sent
  taken : w.taken = w0.taken
  lost : w.lost = w0.lost
  len : w.runs.length = w0.runs.length
  old : ∀ x : Int, 1 ≤ x → x ≤ w0.runs.length → getR w.runs x = getR w0.runs x ∨ ((getR w0.runs x).state = 2 ∧ getR w.runs x = { getR w0.runs x with state := 1, due := -1 })
  done : ∀ x : Int, 1 ≤ x → x < i → x ≤ w0.runs.length → (getR w.runs x).state = 2 → w.now < (getR w.runs x).due ∨ (getR w.runs x).due = 0
  rest : ∀ x : Int, i ≤ x → x ≤ w0.runs.length → getR w.runs x = getR w0.runs x
  queue : ∀ x, x ∈ w.queue ↔ x ∈ w0.queue ∨ (1 ≤ x ∧ x ≤ w0.runs.length ∧ (getR w0.runs x).state = 2 ∧ (getR w.runs x).state = 1)
  qnd : w.queue.Nodup
theorem wait_due {w : Wd} {r : Rn} (h : waitsOk w r = true) : w.now < r.due ∨ (r.due = 0 ∧ (opAt w.code r.at_).k = 7) := by
  unfold waitsOk at h
  simp only [Bool.and_eq_true, Bool.or_eq_true, beq_iff_eq, decide_eq_true_eq] at h
  rcases h.1 with h | h
  · exact .inr ⟨h.2, h.1⟩
  · exact .inl h.2
theorem TOk.step {w0 w : Wd} {i : Int} (h0 : WOk w0) (h : TOk w0 w i) (i1 : 1 ≤ i) (i2 : i ≤ w0.runs.length) : TOk w0 (if tickHit w i then wake w i else w) (i + 1) := by
  have hi := h.rest i (Int.le_refl _) i2
  have f := h0.run i1 i2
  have hnow := h0.now
  by_cases hx : tickHit w i = true
  · rw [if_pos hx]
    unfold tickHit at hx
    rw [Bool.and_eq_true, beq_iff_eq, beq_iff_eq, hi] at hx
    have hl : i ≤ w.runs.length := by rw [h.len]; exact i2
    have hr : ∀ x : Int, 1 ≤ x → getR (wake w i).runs x = if x = i then { getR w0.runs i with state := 1, due := -1 } else getR w.runs x := by
      intro x x1
      unfold wake
      dsimp only
      rw [getR_updR i1 hl x1, hi]
    have hnq : i ∉ w.queue := by
      intro hm
      rcases (h.queue i).1 hm with hm | ⟨_, _, _, hm⟩
      · have := f.queue.1 (by rw [h0.run_id i1 i2]; exact hm)
        omega
      · rw [hi] at hm
        omega
    refine ⟨h.code, h.now, h.sent, h.taken, h.lost, by unfold wake; dsimp only; rw [updR_length]; exact h.len, fun x x1 x2 => ?_, fun x x1 x2 x3 hs => ?_, fun x x1 x2 => ?_, fun x => ?_, ?_⟩
    · rw [hr x x1]
      split
      · rename_i e; subst e; exact .inr ⟨hx.1, rfl⟩
      · exact h.old x x1 x2
    · rw [hr x x1] at hs ⊢
      split at hs
      · have hs : (1 : Int) = 2 := hs
        omega
      · rename_i e
        rw [if_neg e]
        exact h.done x x1 (by omega) x3 hs
    · rw [hr x (by omega), if_neg (by omega)]
      exact h.rest x (by omega) x2
    · show x ∈ w.queue ++ [i] ↔ _
      rw [List.mem_append, List.mem_singleton, h.queue]
      constructor
      · rintro ((hm | ⟨a, b, c, d⟩) | rfl)
        · exact .inl hm
        · refine .inr ⟨a, b, c, ?_⟩
          rw [hr x a]
          split
          · rfl
          · exact d
        · refine .inr ⟨i1, i2, hx.1, ?_⟩
          rw [hr x i1, if_pos rfl]
      · rintro (hm | ⟨a, b, c, d⟩)
        · exact .inl (.inl hm)
        · rw [hr x a] at d
          split at d
          · rename_i e; exact .inr e
          · exact .inl (.inr ⟨a, b, c, d⟩)
    · show (w.queue ++ [i]).Nodup
      rw [List.nodup_append]
      refine ⟨h.qnd, by simp, ?_⟩
      intro a ha b hb e
      rw [List.mem_singleton] at hb
      subst hb
      subst e
      exact hnq ha
  · rw [if_neg hx]
    refine ⟨h.code, h.now, h.sent, h.taken, h.lost, h.len, h.old, fun x x1 x2 x3 hs => ?_, fun x x1 x2 => h.rest x (by omega) x2, h.queue, h.qnd⟩
    by_cases e : x = i
    · subst e
      rw [hi] at hs ⊢
      have hw := wait_due (f.waits hs)
      unfold tickHit at hx
      rw [hi, hs] at hx
      simp only [beq_self_eq_true, Bool.true_and, beq_iff_eq] at hx
      have := h.now
      rcases hw with hw | hw
      · exact .inl (by omega)
      · exact .inr hw.1
    · exact h.done x x1 (by omega) x3 hs
theorem tickFrom_ok {w0 : Wd} (h0 : WOk w0) : ∀ (n : Nat) (w : Wd) (i : Int), TOk w0 w i → 1 ≤ i → i + n = w0.runs.length + 1 → TOk w0 (tickFrom n w i) (w0.runs.length + 1)
  | 0, w, i, h, _, hn => by
    have : i = w0.runs.length + 1 := by omega
    subst this
    exact h
  | n + 1, w, i, h, i1, hn => tickFrom_ok h0 n _ (i + 1) (h.step h0 i1 (by omega)) (by omega) (by omega)
theorem tickW_turned {w : Wd} (h : WOk w) : Turned w (tickW w) 0 := by
  unfold tickW
  by_cases hn : 250 ≤ w.now
  · rw [if_pos hn]; exact Turned.refl h (Int.le_refl _)
  rw [if_neg hn]
  have hnow := h.now
  rw [wr_eq (by omega) (by omega)]
  have t0 : TOk w { w with now := w.now + 1 } 1 :=
    ⟨rfl, rfl, rfl, rfl, rfl, rfl, fun _ _ _ => .inl rfl, fun x x1 x2 => by omega, fun _ _ _ => rfl, fun x => ⟨.inl, fun hx => hx.elim id (fun ⟨_, _, a, b⟩ => by
      have b : (getR w.runs x).state = 1 := b
      omega)⟩, h.qnd⟩
  have t := tickFrom_ok h w.runs.length _ 1 t0 (Int.le_refl _) (by omega)
  generalize tickFrom w.runs.length { w with now := w.now + 1 } 1 = w' at t
  have ha : ∀ x, aliveIn w'.runs x = aliveIn w.runs x := by
    intro x
    rw [Bool.eq_iff_iff, aliveIn_iff, aliveIn_iff, t.len]
    refine and_congr_right fun hx => ?_
    rcases t.old x hx.1 hx.2 with e | ⟨e1, e2⟩
    · rw [e]
    · rw [e2, e1]
      exact ⟨fun _ => by omega, fun _ => by show (1 : Int) ≠ 3; omega⟩
  have hlive : sumR liveW w'.runs = sumR liveW w.runs := by
    have le : ∀ x : Int, 1 ≤ x → x ≤ w.runs.length → liveW (getR w'.runs x) = liveW (getR w.runs x) := by
      intro x x1 x2
      rcases t.old x x1 x2 with e | ⟨e1, e2⟩
      · rw [e]
      · rw [e2]
        unfold liveW
        rw [e1]
        rfl
    exact Nat.le_antisymm (sumR_le t.len fun x x1 x2 => Nat.le_of_eq (le x x1 (by rw [← t.len]; exact x2))) (sumR_le t.len.symm fun x x1 x2 => Nat.le_of_eq (le x x1 x2).symm)
  refine ⟨?_, t.code, by rw [t.len]; exact Nat.le_refl _, by unfold room; rw [t.sent, t.len, hlive]; omega⟩
  refine wok_of (by rw [t.code]; exact h.safe) (by rw [t.len]; exact h.len) (by rw [t.now]; omega) (by rw [t.sent]; exact h.sent) (by rw [t.taken]; exact h.taken) (by rw [t.lost]; exact h.lost) ?_ t.qnd ?_ ?_ ?_
  · intro x hx
    rw [t.len]
    rcases (t.queue x).1 hx with hx | ⟨a, b, _⟩
    · exact h.qin x hx
    · exact ⟨a, b⟩
  · intro x x1 x2
    rw [t.len] at x2
    have f := h.run x1 x2
    rw [t.code]
    have hid := h.run_id x1 x2
    rcases t.old x x1 x2 with e | ⟨e1, e2⟩
    · rw [e]
      refine ⟨f.ok, f.id, by rw [t.code]; exact f.at_, ?_, fun hs => ?_, fun y hy => by rw [ha]; exact f.links y hy, fun y hy => by rw [ha]; exact f.watched y hy, f.need⟩
      · rw [hid, t.queue]
        have hq := f.queue
        rw [hid] at hq
        constructor
        · rintro (hm | ⟨_, _, a, b⟩)
          · exact hq.1 hm
          · rw [e] at b; exact b
        · exact fun hs => .inl (hq.2 hs)
      · have hw := f.waits hs
        have hd := t.done x x1 (by omega) x2 (by rw [e]; exact hs)
        rw [e, t.now] at hd
        have old := wait_due hw
        unfold waitsOk at hw ⊢
        rw [t.code, t.now]
        simp only [Bool.and_eq_true, Bool.or_eq_true, beq_iff_eq, decide_eq_true_eq] at hw ⊢
        refine ⟨?_, hw.2⟩
        rcases hw.1 with hw | hw
        · exact .inl hw
        · refine .inr ⟨hw.1, ?_⟩
          rcases hd with hd | hd
          · exact hd
          · omega
    · rw [e2]
      obtain ⟨_, hat, _, _, _, _, _, ht, _⟩ := runOk_parts f.ok
      refine ⟨runOk_turn f.ok (by omega) (s := 1) (d := -1) (b := (getR w.runs x).trap) hat (by omega) (by omega) ht, f.id, by rw [t.code]; exact f.at_, ?_, fun hs => ?_, fun y hy => by rw [ha]; exact f.links y hy, fun y hy => by rw [ha]; exact f.watched y hy, fun _ => f.need (by omega)⟩
      · show (getR w.runs x).id ∈ w'.queue ↔ (1 : Int) = 1
        rw [hid, t.queue]
        exact ⟨fun _ => rfl, fun _ => .inr ⟨x1, x2, e1, by rw [e2]⟩⟩
      · have hs : (1 : Int) = 2 := hs
        omega
  · intro a b a1 a2 b1 b2 hb
    rw [t.len] at a2 b2
    have same : ∀ x : Int, 1 ≤ x → x ≤ w.runs.length → (getR w'.runs x).links = (getR w.runs x).links := by
      intro x x1 x2
      rcases t.old x x1 x2 with e | ⟨e1, e2⟩
      · rw [e]
      · rw [e2]
    rw [same a a1 a2] at hb
    rw [same b b1 b2]
    exact (h.link a1 a2 hb).2.1
  · rw [t.sent, t.taken, t.lost]
    have e : waits w'.runs = waits w.runs := waits_eq t.len (fun x x1 x2 => by
      rw [t.len] at x2
      rcases t.old x x1 x2 with e | ⟨e1, e2⟩
      · rw [e]
      · rw [e2])
    rw [e]
    exact h.sum

/-! ### Events -/
def eventW (w : Wd) (k a : Int) (v : Vl) : Wd :=
  if k = 1 then doW w else if k = 2 then tickW w
  else if k = 3 then (if valOk v then give w a v else w)
  else if k = 4 then (if valOk v && aliveIn w.runs a then fallAll w a v else w)
  else w
theorem eventW_turned {w : Wd} (h : WOk w) (hr : room w + 3 ≤ 9999) (k a : Int) (v : Vl) : Turned w (eventW w k a v) 3 := by
  unfold eventW
  by_cases k1 : k = 1
  · rw [if_pos k1]; exact doW_turned h hr
  rw [if_neg k1]
  by_cases k2 : k = 2
  · rw [if_pos k2]; exact (tickW_turned h).trans (Turned.refl (tickW_turned h).ok (n := 3) (by omega)) (by omega)
  rw [if_neg k2]
  by_cases k3 : k = 3
  · rw [if_pos k3]
    by_cases hv : valOk v = true
    · rw [if_pos hv]; exact give_turned h (by omega) a hv (by omega)
    · rw [if_neg hv]; exact Turned.refl h (by omega)
  rw [if_neg k3]
  by_cases k4 : k = 4
  · rw [if_pos k4]
    by_cases hv : (valOk v && aliveIn w.runs a) = true
    · rw [if_pos hv]
      rw [Bool.and_eq_true] at hv
      exact fall_turned h (by omega) a hv.1 (by omega)
    · rw [if_neg hv]; exact Turned.refl h (by omega)
  rw [if_neg k4]
  exact Turned.refl h (by omega)

/-! ### A new world -/
def First (f : List Int) : Prop := getI f 0 = 0 ∨ getI f 0 = 1
theorem both_first {a b : Int} (h : a = 0 ∨ a = 1) : both a b = 0 ∨ both a b = 1 := by
  have z0 : hasBit 0 0 = false := by decide
  have z1 : hasBit 0 1 = false := by decide
  have z2 : hasBit 0 2 = false := by decide
  have z3 : hasBit 0 3 = false := by decide
  have y0 : hasBit 1 0 = true := by decide
  have y1 : hasBit 1 1 = false := by decide
  have y2 : hasBit 1 2 = false := by decide
  have y3 : hasBit 1 3 = false := by decide
  unfold both
  rcases h with rfl | rfl
  · rw [if_neg (by decide), z0, z1, z2, z3]
    simp
  · rw [if_neg (by decide), y0, y1, y2, y3]
    cases hasBit b 0 <;> simp
theorem merge_first {f : List Int} {x b : Int} (h : First f) : First (merge f x b).1 := by
  unfold merge
  split
  · exact h
  · split
    · exact h
    · show First (f.set _ _)
      unfold First at h ⊢
      by_cases e : x.toNat = 0
      · have ex : getI f x = getI f 0 := by unfold getI; rw [e]; rfl
        rw [ex]
        have : getI (f.set x.toNat (both (getI f 0) b)) 0 = both (getI f 0) b ∨ getI (f.set x.toNat (both (getI f 0) b)) 0 = getI f 0 := by
          rw [e]
          cases f with
          | nil => exact .inr rfl
          | cons y f => exact .inl rfl
        rcases this with k | k
        · rw [k]; exact both_first h
        · rw [k]; exact h
      · have : getI (f.set x.toNat (both (getI f x) b)) 0 = getI f 0 := by
          unfold getI
          rw [List.getD_eq_getElem?_getD, List.getElem?_set_ne (by simpa using e), ← List.getD_eq_getElem?_getD]
        rw [this]
        exact h
theorem stepFrom_first {o : Opx} {f : List Int} {i : Int} (h : First f) : First (stepFrom o f i).1 := by
  unfold stepFrom
  dsimp only
  split
  · exact merge_first h
  · split
    · exact h
    · refine merge_first ?_
      split
      · exact merge_first h
      · split
        · exact merge_first h
        · exact h
theorem sweepFrom_first : ∀ (c : List Opx) (i : Int) (s : List Int × Bool), First s.1 → First (sweepFrom c i s).1
  | [], _, _, h => h
  | o :: c, i, s, h => by
    refine sweepFrom_first c (i + 1) _ ?_
    split
    · exact stepFrom_first h
    · exact h
theorem settle_first (c : List Opx) : ∀ (n : Nat) (f : List Int), weight f ≤ n → First f → First (settle c f)
  | 0, f, hw, h => by
    rw [settle]
    split
    · rename_i k; omega
    · exact sweepFrom_first c 0 _ h
  | n + 1, f, hw, h => by
    rw [settle]
    split
    · rename_i k
      exact settle_first c n _ (by omega) (sweepFrom_first c 0 _ h)
    · exact sweepFrom_first c 0 _ h
theorem full_first (c : List Opx) : both (getI (fullOf c) 0) 1 = getI (fullOf c) 0 := by
  have h : First (fullOf c) := by
    refine settle_first c _ _ (Nat.le_refl _) ?_
    unfold First full0
    cases c.length with
    | zero => exact .inl rfl
    | succ n => exact .inr rfl
  rcases h with h | h
  · rw [h]; decide
  · rw [h]; decide
def newWorld (c : List Opx) : Wd := ⟨c, [newRun 1 0 ⟨3, 1⟩], [1], 0, 0, 0, 0⟩
theorem newWorld_ok {c : List Opx} (h : codeSafe c = true) : WOk (newWorld c) ∧ room (newWorld c) = 72 := by
  have s := settled_of h
  have hc : 1 ≤ c.length := by
    unfold codeSafe at h
    rw [Bool.and_eq_true] at h
    have ho := h.1
    simp only [codeOk, Bool.and_eq_true, decide_eq_true_eq] at ho
    exact ho.1.2
  refine ⟨wok_of h (by simp [newWorld]) (by simp [newWorld]) (by simp [newWorld]) (by simp [newWorld]) (by simp [newWorld]) (by simp [newWorld]) (by simp [newWorld]) ?_ ?_ (by simp [newWorld, waits, newRun]), by simp [room, newWorld, sumR, liveW, newRun]⟩
  · intro x x1 x2
    have x2 : x ≤ 1 := x2
    have : x = 1 := by omega
    subst this
    show FitR _ _ _ (newRun 1 0 ⟨3, 1⟩)
    refine ⟨runOk_begin (by omega) (by omega) (by decide), rfl, by show (0 : Int) < c.length; omega, ?_, fun e => ?_, fun y hy => ?_, fun y hy => ?_, fun _ => ?_⟩
    · show (1 : Int) ∈ [1] ↔ (1 : Int) = 1
      simp
    · have e : (1 : Int) = 2 := e
      omega
    · have hy : y ∈ ([] : List Int) := hy
      simp at hy
    · have hy : y ∈ ([] : List Int) := hy
      simp at hy
    · have st : both (getI (fullOf c) 0) 1 = getI (fullOf c) 0 := full_first c
      exact needAt_iff.2 ⟨s.2, st⟩
  · intro a b a1 a2 b1 b2 hb
    have a2 : a ≤ 1 := a2
    have : a = 1 := by omega
    subst this
    have hb : b ∈ ([] : List Int) := hb
    simp at hb
end Go.Proofs.Ytmidnaafljgbiaa
/- The first run that is to go on has a turn, by the reference. -/
namespace Go.Proofs.Ytmidnaafljgbiaa
open Go.RowKit
set_option maxRecDepth 100000

set_option maxHeartbeats 8000000 in
theorem sDo21 (W : Wm) {w0 w : World} {f : List Nat} {L L' : List Asn} (M : Mem w0 f w L) (hd : Del (wld W) L L') (hok : WOk W.wd) (hroom : room W.wd + 3 ≤ 9999) :
    Calls Try.prog 146 #[.agg (wArr W)] w (WPost (doW W.wd) w0 f L') := by
  have AL := add_lit0
  replace M := M.pull hd
  clear hd
  have hps6 : W.ps.length ≤ 6 := by have := hok.len.2; rwa [runsLen] at this
  have hps1 : 1 ≤ W.ps.length := by have := hok.len.1; rwa [runsLen] at this
  have hq6 : W.queue.length ≤ 6 := wok_queue (worldOk_iff.2 hok)
  cases hqq : W.queue with
  | nil =>
    --[1
    have hres : doW W.wd = W.wd := by
      have : W.wd.queue = [] := hqq
      unfold doW
      rw [this]
    rw [hres]
    have hq0 : W.queue.length = 0 := by rw [hqq]; rfl
    clear hqq hres
    go_enter Try.func146, Try.ntmps146
    go_upto_region 1 with (first | (with_reducible refine alA M ?_; clear M; (try clear F); intro w1 M F))
    have hb : ((W.queue.length : Int) == 0) = true := by simp [hq0]
    clear hq0
    go_wp2_with (first | ((with_reducible apply ev_store (M := M)); rfl; rfl; ((conv => lhs; whnf) <;> rfl); rfl; (first | exact siI | exact siR | exact siV | exact siB | exact siSI | exact siSV | exact siW | exact siSR | exact siSO | exact siO); (exact one_all rfl); (exact dl); (exact Nat.le_of_ble_eq_true rfl); clear M; intro w1 M; simp only [SX] at M; (try clear F); have F := fx M))
    apply ret_cell (M := M); rfl; rfl; (exact dl); (first | exact agR | exact agV | exact agW | exact agO); (first | exact siI | exact siR | exact siV | exact siB | exact siSI | exact siSV | exact siW | exact siSR | exact siSO | exact siO); rfl
    exact ⟨W, rfl, rfl, M.sel (.drop (.drop (.cons .here .refl)))⟩
    --]1
  | cons id qs =>
    have hqw : W.wd.queue = id :: qs := hqq
    have hin := hok.qin id (by rw [hqw]; exact List.mem_cons_self)
    rw [runsLen] at hin
    obtain ⟨k, rfl⟩ : ∃ k : Nat, id = (k : Int) + 1 := ⟨(id - 1).toNat, by omega⟩
    have hk : k < W.ps.length := by omega
    have hid1 : (1 : Int) ≤ (k : Int) + 1 := by omega
    have hid2 : (k : Int) + 1 ≤ W.wd.runs.length := by rw [runsLen]; omega
    have hfit := hok.run hid1 hid2
    rw [getR_ps hk] at hfit
    have hs1 : (W.ps[k]'hk).1.state = 1 := hfit.queue.1 (by
      rw [hfit.id, hqw]
      have e : (((k : Int) + 1 - 1).toNat : Int) + 1 = (k : Int) + 1 := by omega
      rw [e]
      exact List.mem_cons_self)
    have tf := turnFirst_turned hok hid1 hid2 (by rw [getR_ps hk]; exact hs1)
    have hres : doW W.wd = lastW (stepsN 3 (turnFirst W.wd ((k : Int) + 1)) ((k : Int) + 1)) ((k : Int) + 1) := by
      unfold doW
      rw [hqw]
    rw [hres]
    clear hres hfit
    have hroom1 : room (turnFirst W.wd ((k : Int) + 1)) + 3 ≤ 9999 := by have := tf.room; omega
    obtain ⟨S, hS⟩ : ∃ S, S = stepsN 3 (turnFirst W.wd ((k : Int) + 1)) ((k : Int) + 1) := ⟨_, rfl⟩
    rw [← hS]
    replace hS := Lib.hid hS
    obtain ⟨gr, hA, _, _⟩ := (Mem.rw_ (M.pull .here).unpackW).runs k hk
    obtain ⟨gq, hqA⟩ : ∃ gq, W.qA = some ⟨gq, 0, none⟩ := row_form (M.unpackW) (.there (.there .here)) (by rw [hqq]; simp)
    have hA2 : wArr W = #[.slice W.cA W.code.length W.cC, .slice (some ⟨gr, 0, none⟩) W.ps.length W.rC, .slice (some ⟨gq, 0, none⟩) W.queue.length W.qC, .int .i64 W.now, .int .i64 W.sent, .int .i64 W.taken, .int .i64 W.lost] := by simp only [wArr, hA, hqA]
    have HQ1 : Hid (∀ {U : World} {L1 L2 : List Asn}, Mem w0 f U L1 → Del (wld W) L1 L2 → U.cell? ⟨gq, 0, none⟩ = some (.int .i64 ((k : Int) + 1))) := fun {U L1 L2} M hd => by
      obtain ⟨ad, e, _, h⟩ := (Mem.rw_ (M.pull hd).unpackW).queue.int (j := 0) (by rw [hqq]; simp)
      rw [hqA] at e
      injection e with e
      subst e
      have e2 : W.queue[0]'(by rw [hqq]; simp) = (k : Int) + 1 := by simp only [hqq]; rfl
      rw [e2] at h
      exact h
    rw [hA2]
    have hql : W.queue.length = qs.length + 1 := by rw [hqq]; rfl
    have hq0 : ((W.queue.length : Int) == 0) = false := by
      rw [beq_eq_false_iff_ne]
      omega
    have hq1 : (0 : Int) < W.queue.length := by omega
    clear hql
    obtain ⟨p, hp⟩ : ∃ p, p = W.ps[k]'hk := ⟨_, rfl⟩
    obtain ⟨r, a⟩ := p
    have hR : Hid (∀ x, x = turnFirst W.wd ((k : Int) + 1) → x = turnFirst W.wd ((k : Int) + 1)) := fun _ h => h
    clear hR
    have wi : IntKind.i64.wrap ((k : Int) + 1 - 1) = (k : Int) := by rw [IntKind.wrap_i64]; omega
    have wj : IntKind.i64.wrap (k : Int) = (k : Int) := by rw [IntKind.wrap_i64]; omega
    have wt := wr_wrap (r.turns + 1)
    have i1 : (0 : Int) ≤ k := by omega
    have i2 : (k : Int) < W.ps.length := by omega
    replace hp := Lib.hid hp
    replace hA := Lib.hid hA
    replace hqA := Lib.hid hqA
    replace hA2 := Lib.hid hA2
    replace hs1 := Lib.hid hs1
    replace hqq := Lib.hid hqq
    replace hqw := Lib.hid hqw
    replace tf := Lib.hid tf
    replace hok := Lib.hid hok
    go_enter Try.func146, Try.ntmps146
    go_upto_region 1 with (first | (with_reducible refine alA M ?_; clear M; (try clear F); intro w1 M F))
    clear F
    rename_i u1 _ _ _ _
    generalize w.heap.size = g1 at M ⊢
    generalize u1.heap.size = g2 at M ⊢
    have Q0 := HQ1.out M dl
    (try clear F); have F := fx M
    go_upto_region 4 with fail
    clear Q0 F
    rw [← hqA.out] at M
    obtain ⟨pre, post, hps, hpl, hnn, M1⟩ := open_gr hA.out (M.sel (T := blk g1 tW [.slice W.cA W.code.length W.cC, .slice (some ⟨gr, 0, none⟩) W.ps.length W.rC, .slice W.qA W.queue.length W.qC, .int .i64 W.now, .int .i64 W.sent, .int .i64 W.taken, .int .i64 W.lost] :: wld W :: blk g2 tW [.slice none 0 0, .slice none 0 0, .slice none 0 0, .int .i64 0, .int .i64 0, .int .i64 0, .int .i64 0] :: L') (.cons (.there .here) (.cons (.there .here) .refl))) hk hp.out
    clear M
    have M := M1
    clear M1
    unfold opened at M
    replace hps := Lib.hid hps
    replace hpl := Lib.hid hpl
    replace hnn := Lib.hid hnn
    have E12 := (runAt_mid M dl hpl.out).2.2.2.2.2.2.2.2.2.2.2.2
    (refine held_begin (S := (fun W' => ∀ i, W'.cell? ⟨g1, i, none⟩ = ([.slice W.cA W.code.length W.cC, .slice (some ⟨gr, 0, none⟩) W.ps.length W.rC, .slice W.qA W.queue.length W.qC, .int .i64 W.now, .int .i64 W.sent, .int .i64 W.taken, .int .i64 W.lost] : List Value)[i]?)) (by kernel_rfl) (fun _ _ _ _ _ h => h) (by (exact kc)) (fun HQ hHeld => ?_))
    refine tkY HQ hHeld 0 ?_; refine tkY HQ hHeld 1 ?_; refine tkY HQ hHeld 2 ?_; refine tkY HQ hHeld 3 ?_; refine tkY HQ hHeld 4 ?_; refine tkY HQ hHeld 5 ?_; refine tkY HQ hHeld 6 ?_; refine tkY HQ hHeld 7 ?_; refine tkY HQ hHeld 8 ?_; refine tkY HQ hHeld 9 ?_
    refine stp 10 (fun K hK => ?_); go_simp
    (try go_wp2_with fail); refine hK.out _ _ (by (exact kc)) (fun hHeld => ?_); clear hK K; (try simp only [AX])
    clear E12
    obtain ⟨mt, hmt⟩ : ∃ x, x = mn_ (wr (r.turns + 1)) 9999 := ⟨_, rfl⟩
    have hmn : (if 9999 < wr (r.turns + 1) then 9999 else wr (r.turns + 1)) = mt := by
      rw [hmt]
      unfold mn_
      split <;> split <;> omega
    replace hmt := Lib.hid hmt
    refine tkY HQ hHeld 11 ?_
    refine stp 12 (fun K hK => ?_); go_simp
    (try go_wp2_with fail); refine hK.out _ _ (by (exact kc)) (fun hHeld => ?_); clear hK K; (try simp only [AX])
    refine tkY HQ hHeld 13 ?_; refine tkY HQ hHeld 14 ?_; clear hHeld; (refine nm (G := fun W => wpAnyH _ _ _ _ _ _ _ _ W) ?_; clear M; (try clear F); intro w1 M F)
    refine stp 15 (fun K hK => ?_)
    refine op_of_list rfl ?_; ((with_reducible apply ev_elem (enc := encR) (x' := (({ r with turns := mt }, a) : Rn × RA)) (j := 12) (k := k) (hk := encR_length) (M := M)); rfl; rfl; ((conv => lhs; whnf) <;> rfl); rfl; (first | exact siI | exact siB | exact siSI); rfl; (exact dl); (first | with_reducible rfl | with_reducible exact (Nat.add_zero _).symm); exact hpl.out; decide; exact rfl; clear M; intro w1 M; (try clear F); have F := fx M)
    (try go_wp2_with fail); refine hK.out _ _ (by (exact kc)) (fun hHeld => ?_); clear hK K; (try simp only [AX])
    refine wpAnyH_done (by kernel_rfl) ?_ _; clear HQ; (repeat clear hHeld)
    go_upto_region 5 with fail
    have M2 : Mem w0 f _ (opened g1 gr W.ps.length W.cA W.cC W.code W.rC pre post { r with turns := mt } a W.queue W.qA W.qC W.now W.sent W.taken W.lost (blk g2 tW [.slice none 0 0, .slice none 0 0, .slice none 0 0, .int .i64 0, .int .i64 0, .int .i64 0, .int .i64 0] :: L')) := M.sel (.cons (.there .here) (.cons .here .refl))
    clear M
    (try clear F)
    have M := close_at M2 hnn.out
    clear M2
    have hw : (⟨W.code, W.cA, W.cC, pre ++ (({ r with turns := mt }, a) : Rn × RA) :: post, some ⟨gr, 0, none⟩, W.rC, W.queue, W.qA, W.qC, W.now, W.sent, W.taken, W.lost⟩ : Wm).wd = turnFirst W.wd ((k : Int) + 1) := by
      rw [hmt.out]
      exact wd_mid hps.out hpl.out (fun r => { r with turns := mn_ (wr (r.turns + 1)) 9999 }) a _ _ _ _ _ _ _ _ _ _ _
    have hl1 : (⟨W.code, W.cA, W.cC, pre ++ (({ r with turns := mt }, a) : Rn × RA) :: post, some ⟨gr, 0, none⟩, W.rC, W.queue, W.qA, W.qC, W.now, W.sent, W.taken, W.lost⟩ : Wm).ps.length = W.ps.length := hnn.out _
    generalize (⟨W.code, W.cA, W.cC, pre ++ (({ r with turns := mt }, a) : Rn × RA) :: post, some ⟨gr, 0, none⟩, W.rC, W.queue, W.qA, W.qC, W.now, W.sent, W.taken, W.lost⟩ : Wm) = V0 at hw hl1 M
    have hV0 : Hid (WOk V0.wd ∧ room V0.wd + ((3 - 0 : Nat) : Int) ≤ 9999 ∧ k < V0.ps.length) := by
      show _ ∧ _ ∧ _
      rw [hw, hl1]
      exact ⟨tf.out.ok, by omega, hk⟩
    have hS0 : Hid (stepsN (3 - 0) V0.wd ((k : Int) + 1) = S) := by
      show _ = _
      rw [hw]
      exact hS.out.symm
    clear hmn hw hl1 wt
    replace hS := Lib.hid hS
    (try clear F); have F := fx M
    go_wp2
    go_loopg [4] 3 (fun gg v wr => ∃ (i : Nat) (V : Wm), i ≤ 3 ∧ 3 - i ≤ gg ∧ v = .int .i64 i ∧ Hid (stepsN (3 - i) V.wd ((k : Int) + 1) = S) ∧ Hid (WOk V.wd ∧ room V.wd + ((3 - i : Nat) : Int) ≤ 9999 ∧ k < V.ps.length) ∧ Hid (Mem w0 f wr (blk g1 tW (w7 V) :: wld V :: blk g2 tW [.slice none 0 0, .slice none 0 0, .slice none 0 0, .int .i64 0, .int .i64 0, .int .i64 0, .int .i64 0] :: L')))
    case atStart => exact ⟨0, V0, by omega, by omega, rfl, hS0, hV0, M⟩
    case round =>
      clear M F hS0 hV0
      clear V0
      obtain ⟨i, V, hi, hg, rfl, hSt, hV, M⟩ := hrel
      replace M := M.out
      obtain ⟨hokV, hrm, hkV⟩ := hV.out
      obtain ⟨gv, hAV, _, hat⟩ := (Mem.rw_ (M.pull (.there .here)).unpackW).runs k hkV
      have E5 := hat.2.2.2.2.2.1
      have hAV2 := arr_at hAV rfl
      replace M : Mem w0 f wr (blk g1 tW [.slice V.cA V.code.length V.cC, .slice V.rA V.ps.length V.rC, .slice V.qA V.queue.length V.qC, .int .i64 V.now, .int .i64 V.sent, .int .i64 V.taken, .int .i64 V.lost] :: wld V :: blk g2 tW [.slice none 0 0, .slice none 0 0, .slice none 0 0, .int .i64 0, .int .i64 0, .int .i64 0, .int .i64 0] :: L') := M
      rw [hAV] at M
      have hgV := getR_ps hkV
      have k2 : (k : Int) < V.ps.length := by omega
      clear hat hV
      replace hAV := Lib.hid hAV
      have j0 : (0 : Int) ≤ i := by omega
      by_cases h3 : i < 3
      · have j3 : (i : Int) < 3 := by omega
        obtain ⟨n, hn⟩ : ∃ n, 3 - i = n + 1 := ⟨2 - i, by omega⟩
        by_cases hst : (V.ps[k]'hkV).1.state = 1
        · --[2
          have hSn : stepsN (3 - i) V.wd ((k : Int) + 1) = stepsN n (stepW V.wd ((k : Int) + 1)) ((k : Int) + 1) := by
            rw [hn]
            show (if (getR V.wd.runs ((k : Int) + 1)).state = 1 then _ else _) = _
            rw [hgV, if_pos hst]
          have hrm2 : room V.wd < 9999 := by omega
          have ht := stepW_turned hokV hrm2 (id := (k : Int) + 1) (by omega) (by rw [runsLen]; omega) (by rw [hgV]; exact hst)
          have HSt : Hid (∀ {U : World} {L1 L2 : List Asn}, Mem w0 f U L1 → Del (wld V) L1 L2 → Calls Try.prog 153 #[.agg #[.slice V.cA V.code.length V.cC, .slice (some ⟨gv, 0, none⟩) V.ps.length V.rC, .slice V.qA V.queue.length V.qC, .int .i64 V.now, .int .i64 V.sent, .int .i64 V.taken, .int .i64 V.lost], .int .i64 ((k : Int) + 1)] U (WPost (stepW V.wd ((k : Int) + 1)) w0 f L2)) := fun {U L1 L2} M hd => by
            have h := sStep21 V k M hd hkV hokV hst hrm2
            rwa [hAV2] at h
          have hV2 : Hid (WOk (stepW V.wd ((k : Int) + 1)) ∧ room (stepW V.wd ((k : Int) + 1)) + ((3 - (i + 1) : Nat) : Int) ≤ 9999 ∧ V.ps.length ≤ (stepW V.wd ((k : Int) + 1)).runs.length) := ⟨ht.ok, by have := ht.room; omega, by have := ht.len; rwa [runsLen] at this⟩
          have hS2 : Hid (stepsN (3 - (i + 1)) (stepW V.wd ((k : Int) + 1)) ((k : Int) + 1) = S) := by
            show _ = _
            rw [show 3 - (i + 1) = n by omega, ← hSn]
            exact hSt.out
          rw [hst] at E5
          replace hAV2 := Lib.hid hAV2
          replace hgV := Lib.hid hgV
          have wv : IntKind.i64.wrap ((i : Int) + 1) = (i : Int) + 1 := by rw [IntKind.wrap_i64]; omega
          clear hSn hn hst hSt ht hokV
          (try clear F); have F := fx M
          go_wp2_with (first | ((with_reducible apply ev_store (M := M)); rfl; rfl; ((conv => lhs; whnf) <;> rfl); rfl; (first | exact siI | exact siR | exact siV | exact siB | exact siSI | exact siSV | exact siW | exact siSR | exact siSO | exact siO); (exact one_all rfl); (exact dl); (exact Nat.le_of_ble_eq_true rfl); clear M; intro w1 M; simp only [SX] at M; (try clear F); have F := fx M) | (go_at_call 153; (refine nmK ?_; clear M; (try clear F); intro w1 M F); refine (HSt.out M dl).mono ?_; clear M; rintro e w2 ⟨Y, hY, rfl, M⟩; replace hY := Lib.hid hY; (try clear F); have F := fx M))
          go_roundg (3 - (i + 1))
          case measure => omega
          case rel =>
            refine ⟨i + 1, Y, by omega, Nat.le_refl _, by go_num, by rw [hY.out]; exact hS2, ?_, M.sel (T := blk g1 tW (w7 Y) :: wld Y :: blk g2 tW [.slice none 0 0, .slice none 0 0, .slice none 0 0, .int .i64 0, .int .i64 0, .int .i64 0, .int .i64 0] :: L') .refl⟩
            show _ ∧ _ ∧ _
            rw [hY.out]
            refine ⟨hV2.out.1, hV2.out.2.1, ?_⟩
            have := hV2.out.2.2
            rw [← hY.out, runsLen] at this
            omega
          --]2
        · --[3
          have hSn : V.wd = S := by
            rw [← hSt.out, hn]
            show _ = (if (getR V.wd.runs ((k : Int) + 1)).state = 1 then _ else _)
            rw [hgV, if_neg hst]
          have hfin : Hid (V.wd = lastW S ((k : Int) + 1)) := by
            show _ = _
            rw [← hSn]
            unfold lastW
            rw [hgV, if_neg hst]
          have b1 : ((V.ps[k]'hkV).1.state == 1) = false := by simpa using hst
          replace hAV2 := Lib.hid hAV2
          replace hgV := Lib.hid hgV
          generalize (V.ps[k]'hkV).1.state = st at E5 b1
          clear hSn hst hn hSt hokV
          ((try clear F); have F := fx M; go_wp2_with (first | ((with_reducible apply ev_store (M := M)); rfl; rfl; ((conv => lhs; whnf) <;> rfl); rfl; (first | exact siI | exact siR | exact siV | exact siB | exact siSI | exact siSV | exact siW | exact siSR | exact siSO | exact siO); (exact one_all rfl); (exact dl); (exact Nat.le_of_ble_eq_true rfl); clear M; intro w1 M; simp only [SX] at M; (try clear F); have F := fx M)); apply ret_cell (M := M); rfl; rfl; (exact dl); (first | exact agR | exact agV | exact agW | exact agO); (first | exact siI | exact siR | exact siV | exact siB | exact siSI | exact siSV | exact siW | exact siSR | exact siSO | exact siO); rfl; exact ⟨V, hfin.out, congrArg (fun x => Ending.returned (.agg x)) hAV2.out.symm, M.sel (.drop (.drop (.cons .here .refl)))⟩)
          --]3
      · have hi3 : 3 - i = 0 := by omega
        have j9 : ¬ ((i : Int) < 3) := by omega
        have hSn : V.wd = S := by
          have h := hSt.out
          rw [hi3] at h
          exact h
        clear hi3 h3
        by_cases hst : (V.ps[k]'hkV).1.state = 1
        · --[4
          have hq6V : V.queue.length ≤ 6 := wok_queue (worldOk_iff.2 hokV)
          have hfin : Hid ((⟨V.code, V.wd.runs, less V.queue ((k : Int) + 1) ++ [(k : Int) + 1], V.now, V.sent, V.taken, V.lost⟩ : Wd) = lastW S ((k : Int) + 1)) := by
            show _ = _
            rw [← hSn]
            unfold lastW
            rw [hgV, if_pos hst]
            rfl
          have HLQ : Hid (∀ {U : World} {L1 L2 : List Asn}, Mem w0 f U L1 → Del (row encI 1 tI V.qA V.qC V.queue) L1 L2 → Calls Try.prog 154 #[.slice V.qA V.queue.length V.qC, .int .i64 ((k : Int) + 1)] U (fun e w' => ∃ (A' : Option Addr) (c' : Nat), e = .returned (.slice A' (less V.queue ((k : Int) + 1)).length c') ∧ Mem U [] w' [rowI A' c' (less V.queue ((k : Int) + 1))])) := fun {U L1 L2} M hd => sLess V.queue ((k : Int) + 1) V.qA V.qC U.heap.size U (readsI M hd) (Nat.le_refl _) (by omega)
          have hlq : (less V.queue ((k : Int) + 1)).length ≤ 6 := Nat.le_trans (less_le V.queue _) hq6V
          rw [hst] at E5
          replace hAV2 := Lib.hid hAV2
          replace hgV := Lib.hid hgV
          clear hSn hst hSt hokV
          (try clear F); have F := fx M
          go_upto_region 10 with fail
          clear E5 F
          replace M := (M.sel (T := wld V :: blk g1 tW [.slice V.cA V.code.length V.cC, .slice (some ⟨gv, 0, none⟩) V.ps.length V.rC, .slice V.qA V.queue.length V.qC, .int .i64 V.now, .int .i64 V.sent, .int .i64 V.taken, .int .i64 V.lost] :: blk g2 tW [.slice none 0 0, .slice none 0 0, .slice none 0 0, .int .i64 0, .int .i64 0, .int .i64 0, .int .i64 0] :: L') (.cons (.there .here) .refl)).unpackW
          unfold rowO rowR rowI at M
          (try clear F); have F := fx M
          go_wp2_with (first | ((with_reducible refine alA M ?_; clear M; (try clear F); intro w1 M F); ((with_reducible apply ev_app1 (enc := encI) (v := (k : Int) + 1) (hk := encI_length) (hone := oneIx) (h0 := by decide) (hinfo := infIx) (ht := Try.underlying23) (M := M)); rfl; rfl; (exact dl); (exact dl); rfl; rfl; (first | exact Nat.le_of_ble_eq_true rfl | omega); (exact Nat.le_of_ble_eq_true rfl); clear M; intro A1 c1 w1 M; replace M := Mem.perm M (.swap _ _ _) |> Mem.drop; (try clear F); have F := fx M)) | ((with_reducible apply ev_store (M := M)); rfl; rfl; ((conv => lhs; whnf) <;> rfl); rfl; (first | exact siI | exact siR | exact siV | exact siB | exact siSI | exact siSV | exact siW | exact siSR | exact siSO | exact siO); (exact one_all rfl); (exact dl); (exact Nat.le_of_ble_eq_true rfl); clear M; intro w1 M; simp only [SX] at M; (try clear F); have F := fx M) | (go_at_call 154; (refine nmK ?_; clear M; (try clear F); intro w1 M F); refine (HLQ.out M dl).mono ?_; rintro e w2 ⟨Aq, cq, rfl, hm2⟩; replace M := M.call0 hm2; clear hm2; unfold rowI at M; (try clear F); have F := fx M))
          apply ret_cell (M := M); rfl; rfl; (exact dl); (first | exact agR | exact agV | exact agW | exact agO); (first | exact siI | exact siR | exact siV | exact siB | exact siSI | exact siSV | exact siW | exact siSR | exact siSO | exact siO); rfl
          refine ⟨⟨V.code, V.cA, V.cC, V.ps, V.rA, V.rC, less V.queue ((k : Int) + 1) ++ [(k : Int) + 1], A1, c1, V.now, V.sent, V.taken, V.lost⟩, hfin.out, ?_, ?_⟩
          · simp only [wArr, List.length_append, List.length_singleton, hAV.out]
          · exact Mem.packW (W := ⟨V.code, V.cA, V.cC, V.ps, V.rA, V.rC, less V.queue ((k : Int) + 1) ++ [(k : Int) + 1], A1, c1, V.now, V.sent, V.taken, V.lost⟩) (M.sel (.cons (.there (.there (.there .here))) (.cons (.there (.there (.there .here))) (.cons (.there (.there .here)) (.cons (.there (.there (.there .here))) (.drop (.drop (.drop .refl))))))))
          --]4
        · --[5
          have hfin : Hid (V.wd = lastW S ((k : Int) + 1)) := by
            show _ = _
            rw [← hSn]
            unfold lastW
            rw [hgV, if_neg hst]
          have b1 : ((V.ps[k]'hkV).1.state == 1) = false := by simpa using hst
          replace hAV2 := Lib.hid hAV2
          replace hgV := Lib.hid hgV
          generalize (V.ps[k]'hkV).1.state = st at E5 b1
          clear hSn hst hSt hokV
          ((try clear F); have F := fx M; go_upto_region 11 with fail; go_wp2_with (first | ((with_reducible apply ev_store (M := M)); rfl; rfl; ((conv => lhs; whnf) <;> rfl); rfl; (first | exact siI | exact siR | exact siV | exact siB | exact siSI | exact siSV | exact siW | exact siSR | exact siSO | exact siO); (exact one_all rfl); (exact dl); (exact Nat.le_of_ble_eq_true rfl); clear M; intro w1 M; simp only [SX] at M; (try clear F); have F := fx M)); apply ret_cell (M := M); rfl; rfl; (exact dl); (first | exact agR | exact agV | exact agW | exact agO); (first | exact siI | exact siR | exact siV | exact siB | exact siSI | exact siSV | exact siW | exact siSR | exact siSO | exact siO); rfl; exact ⟨V, hfin.out, congrArg (fun x => Ending.returned (.agg x)) hAV2.out.symm, M.sel (.drop (.drop (.cons .here .refl)))⟩)
          --]5
end Go.Proofs.Ytmidnaafljgbiaa
/- Time goes on, by the reference. -/
namespace Go.Proofs.Ytmidnaafljgbiaa
open Go.RowKit
set_option maxRecDepth 100000

set_option maxHeartbeats 8000000 in
theorem sTick21 (W : Wm) {w0 w : World} {f : List Nat} {L L' : List Asn} (M : Mem w0 f w L) (hd : Del (wld W) L L') (hn : W.ps.length ≤ 6) (hq : W.queue.length ≤ 6) :
    Calls Try.prog 147 #[.agg (wArr W)] w (WPost (tickW W.wd) w0 f L') := by
  have AL := add_lit0
  replace M := M.pull hd
  clear hd
  by_cases h2 : 250 ≤ W.now
  · --[1
    have hres : tickW W.wd = W.wd := by unfold tickW; rw [if_pos (show 250 ≤ W.wd.now from h2)]
    rw [hres]
    clear hres
    go_enter Try.func147, Try.ntmps147
    go_wp2_with (first | (with_reducible refine alA M ?_; clear M; (try clear F); intro w1 M F) | ((with_reducible apply ev_store (M := M)); rfl; rfl; ((conv => lhs; whnf) <;> rfl); rfl; (first | exact siI | exact siR | exact siV | exact siB | exact siSI | exact siSV | exact siW | exact siSR | exact siSO | exact siO); (exact one_all rfl); (exact dl); (exact Nat.le_of_ble_eq_true rfl); clear M; intro w1 M; simp only [SX] at M; (try clear F); have F := fx M))
    apply ret_cell (M := M); rfl; rfl; (exact dl); (first | exact agR | exact agV | exact agW | exact agO); (first | exact siI | exact siR | exact siV | exact siB | exact siSI | exact siSV | exact siW | exact siSR | exact siSO | exact siO); rfl
    exact ⟨W, rfl, rfl, M.sel (.drop (.drop (.cons .here .refl)))⟩
    --]1
  · have hres : tickW W.wd = tickFrom W.ps.length { W.wd with now := wr (W.now + 1) } 1 := by
      unfold tickW
      rw [if_neg (show ¬ 250 ≤ W.wd.now from h2), runsLen]
      rfl
    rw [hres]
    clear hres
    have wn := wr_wrap (W.now + 1)
    generalize wr (W.now + 1) = nw at wn ⊢
    obtain ⟨n, hnn⟩ : ∃ n, n = W.ps.length := ⟨_, rfl⟩
    obtain ⟨S, hS⟩ : ∃ S, S = tickFrom W.ps.length { W.wd with now := nw } 1 := ⟨_, rfl⟩
    rw [← hS]
    replace hS := Lib.hid hS
    replace hnn := Lib.hid hnn
    go_enter Try.func147, Try.ntmps147
    go_upto_region 1 with (first | (with_reducible refine alA M ?_; clear M; (try clear F); intro w1 M F))
    clear F
    rename_i u1 _ _ _ _
    generalize w.heap.size = g1 at M ⊢
    generalize u1.heap.size = g2 at M ⊢
    (try clear F); have F := fx M
    go_upto_region 4 with (first | ((with_reducible apply ev_store (M := M)); rfl; rfl; ((conv => lhs; whnf) <;> rfl); rfl; (first | exact siI | exact siR | exact siV | exact siB | exact siSI | exact siSV | exact siW | exact siSR | exact siSO | exact siO); (exact one_all rfl); (exact dl); (exact Nat.le_of_ble_eq_true rfl); clear M; intro w1 M; simp only [SX] at M; (try clear F); have F := fx M))
    clear F
    have M0 : Mem w0 f _ (blk g1 tW (w7 { W with now := nw }) :: wld { W with now := nw } :: blk g2 tW [.slice none 0 0, .slice none 0 0, .slice none 0 0, .int .i64 0, .int .i64 0, .int .i64 0, .int .i64 0] :: L') := M.sel (.cons .here (.cons (.there .here) .refl))
    clear M
    have M := M0
    clear M0
    have hS0 : Hid (tickFrom (n - 0) (Wm.wd { W with now := nw }) 1 = S) := by
      show _ = _
      rw [hS.out, hnn.out]
      rfl
    have hV0 : Hid ((Wm.ps { W with now := nw }).length = n ∧ (Wm.queue { W with now := nw }).length ≤ 6 + 0) := ⟨hnn.out.symm, hq⟩
    have hn6 : n ≤ 6 := by rw [hnn.out]; exact hn
    generalize ({ W with now := nw } : Wm) = V0 at M hS0 hV0
    (try clear F); have F := fx M
    go_wp2
    go_loopg [3] n (fun gg v wr => ∃ (j : Nat) (V : Wm), j ≤ n ∧ n - j ≤ gg ∧ v = .int .i64 j ∧ Hid (tickFrom (n - j) V.wd ((j : Int) + 1) = S) ∧ Hid (V.ps.length = n ∧ V.queue.length ≤ 6 + j) ∧ Hid (Mem w0 f wr (blk g1 tW (w7 V) :: wld V :: blk g2 tW [.slice none 0 0, .slice none 0 0, .slice none 0 0, .int .i64 0, .int .i64 0, .int .i64 0, .int .i64 0] :: L')))
    case atStart => exact ⟨0, V0, by omega, by omega, rfl, hS0, hV0, M⟩
    case round =>
      clear M F hS0 hV0
      clear V0
      obtain ⟨j, V, hj, hg, rfl, hSt, hV, M⟩ := hrel
      replace M := M.out
      obtain ⟨hVn, hVq⟩ := hV.out
      have j0 : (0 : Int) ≤ j := by omega
      by_cases hlt : j < n
      · have j1 : (j : Int) < V.ps.length := by omega
        have hk : j < V.ps.length := by omega
        obtain ⟨gv, hAV, _, hat⟩ := (Mem.rw_ (M.pull (.there .here)).unpackW).runs j hk
        obtain ⟨m, hm⟩ : ∃ m, n - j = m + 1 := ⟨n - j - 1, by omega⟩
        obtain ⟨⟨r, a⟩, hp⟩ : ∃ p, p = V.ps[j]'hk := ⟨_, rfl⟩
        have HE : Hid (∀ {U : World} {L1 L2 : List Asn}, Mem w0 f U L1 → Del (wld V) L1 L2 → U.cell? ⟨gv, j * 13 + 5, none⟩ = some (.int .i64 r.state) ∧ U.cell? ⟨gv, j * 13 + 6, none⟩ = some (.int .i64 r.due)) := fun {U L1 L2} M hd => by
          obtain ⟨g', hA', _, E⟩ := (Mem.rw_ (M.pull hd).unpackW).runs j hk
          obtain rfl : gv = g' := by
            rw [hAV] at hA'
            injection hA' with e
            injection e with e
          rw [← hp] at E
          exact ⟨E.2.2.2.2.2.1, E.2.2.2.2.2.2.1⟩
        have hgV : getR V.wd.runs ((j : Int) + 1) = r := by rw [getR_ps hk, ← hp]
        have hSn : tickFrom m (if (r.state == 2 && r.due == V.now) then wake V.wd ((j : Int) + 1) else V.wd) ((j : Int) + 1 + 1) = S := by
          rw [← hSt.out, hm]
          show _ = tickFrom m (if tickHit V.wd ((j : Int) + 1) then _ else _) _
          unfold tickHit
          rw [hgV]
          rfl
        replace M : Mem w0 f wr (blk g1 tW [.slice V.cA V.code.length V.cC, .slice V.rA V.ps.length V.rC, .slice V.qA V.queue.length V.qC, .int .i64 V.now, .int .i64 V.sent, .int .i64 V.taken, .int .i64 V.lost] :: wld V :: blk g2 tW [.slice none 0 0, .slice none 0 0, .slice none 0 0, .int .i64 0, .int .i64 0, .int .i64 0, .int .i64 0] :: L') := M
        rw [hAV] at M
        have wv : IntKind.i64.wrap ((j : Int) + 1) = (j : Int) + 1 := by rw [IntKind.wrap_i64]; omega
        have wu : IntKind.i64.wrap (j : Int) = (j : Int) := by rw [IntKind.wrap_i64]; omega
        clear hat hSt hV hgV
        replace hVn := Lib.hid hVn
        replace hAV := Lib.hid hAV
        replace hp := Lib.hid hp
        obtain ⟨st, hst⟩ : ∃ x, x = r.state := ⟨_, rfl⟩
        obtain ⟨du, hdu⟩ : ∃ x, x = r.due := ⟨_, rfl⟩
        rw [← hst, ← hdu] at HE hSn
        replace hst := Lib.hid hst
        replace hdu := Lib.hid hdu
        by_cases h1 : st = 2
        · have b1 : (st == 2) = true := by simpa using h1
          rw [b1, Bool.true_and] at hSn
          clear h1
          (try clear F); have F := fx M
          go_upto_region 7 with fail
          clear F
          (refine held_begin (S := (fun W' => (∀ i, W'.cell? ⟨g1, i, none⟩ = ([.slice V.cA V.code.length V.cC, .slice (some ⟨gv, 0, none⟩) V.ps.length V.rC, .slice V.qA V.queue.length V.qC, .int .i64 V.now, .int .i64 V.sent, .int .i64 V.taken, .int .i64 V.lost] : List Value)[i]?) ∧ W'.cell? ⟨gv, j * 13 + 5, none⟩ = some (.int .i64 st) ∧ W'.cell? ⟨gv, j * 13 + 6, none⟩ = some (.int .i64 du))) (by kernel_rfl) (fun _ _ _ _ _ h => h) (by (exact ⟨kc, HE.out mb dl⟩)) (fun HQ hHeld => ?_))
          refine tkY HQ hHeld 0 ?_; refine tkY HQ hHeld 1 ?_; refine tkY HQ hHeld 2 ?_; refine tkY HQ hHeld 3 ?_; refine tkY HQ hHeld 4 ?_; refine tkY HQ hHeld 5 ?_; refine tkY HQ hHeld 6 ?_; refine tkY HQ hHeld 7 ?_
          refine tkY HQ hHeld 8 ?_; refine tkY HQ hHeld 9 ?_; refine tkY HQ hHeld 10 ?_; refine tkY HQ hHeld 11 ?_; refine tkY HQ hHeld 12 ?_; refine tkY HQ hHeld 13 ?_; refine tkY HQ hHeld 14 ?_; refine tkY HQ hHeld 15 ?_; refine tkY HQ hHeld 16 ?_; refine tkY HQ hHeld 17 ?_
          refine wpAnyH_done (by kernel_rfl) ?_ _; clear HQ; (repeat clear hHeld)
          cases b2 : (du == V.now) with
          | true =>
            --[3
            rw [b2] at hSn
            simp only [if_true] at hSn
            obtain ⟨pre, post, hps, hpl, hnn2, M1⟩ := open_gr hAV.out (Mem.drew M) hk hp.out
            clear M
            have M := M1
            clear M1
            unfold opened at M
            replace hps := Lib.hid hps
            replace hpl := Lib.hid hpl
            replace hnn2 := Lib.hid hnn2
            replace hSn := Lib.hid hSn
            (try clear F); have F := fx M
            go_upto_region 6 with (first | ((with_reducible refine alA M ?_; clear M; (try clear F); intro w1 M F); ((with_reducible apply ev_app1 (enc := encI) (v := (j : Int) + 1) (hk := encI_length) (hone := oneIx) (h0 := by decide) (hinfo := infIx) (ht := Try.underlying23) (M := M)); rfl; rfl; (exact dl); (exact dl); rfl; rfl; (first | exact Nat.le_of_ble_eq_true rfl | omega); (exact Nat.le_of_ble_eq_true rfl); clear M; intro A1 c1 w1 M; replace M := Mem.perm M (.swap _ _ _) |> Mem.drop; (try clear F); have F := fx M)) | ((with_reducible apply ev_store (M := M)); rfl; rfl; ((conv => lhs; whnf) <;> rfl); rfl; (first | exact siI | exact siR | exact siV | exact siB | exact siSI | exact siSV | exact siW | exact siSR | exact siSO | exact siO); (exact one_all rfl); (exact dl); (exact Nat.le_of_ble_eq_true rfl); clear M; intro w1 M; simp only [SX] at M; (try clear F); have F := fx M) | ((with_reducible apply ev_elem (enc := encR) (x' := (({ r with state := 1 }, a) : Rn × RA)) (j := 5) (k := j) (hk := encR_length) (M := M)); rfl; rfl; ((conv => lhs; whnf) <;> rfl); rfl; (first | exact siI | exact siB | exact siSI); rfl; (exact dl); (first | with_reducible rfl | with_reducible exact (Nat.add_zero _).symm); exact hpl.out; decide; exact rfl; clear M; intro w1 M; (try clear F); have F := fx M) | ((with_reducible apply ev_elem (enc := encR) (x' := (({ { r with state := 1 } with due := -1 }, a) : Rn × RA)) (j := 6) (k := j) (hk := encR_length) (M := M)); rfl; rfl; ((conv => lhs; whnf) <;> rfl); rfl; (first | exact siI | exact siB | exact siSI); rfl; (exact dl); (first | with_reducible rfl | with_reducible exact (Nat.add_zero _).symm); exact hpl.out; decide; exact rfl; clear M; intro w1 M; (try clear F); have F := fx M))
            have e9 : V.queue.length + 1 = (V.queue ++ [(j : Int) + 1]).length := by simp
            rw [e9] at M
            have M2 : Mem w0 f _ (opened g1 gv V.ps.length V.cA V.cC V.code V.rC pre post ({ r with state := 1, due := -1 } : Rn) a (V.queue ++ [(j : Int) + 1]) A1 c1 V.now V.sent V.taken V.lost (blk g2 tW [.slice none 0 0, .slice none 0 0, .slice none 0 0, .int .i64 0, .int .i64 0, .int .i64 0, .int .i64 0] :: L')) := M.sel (.cons .here (.cons (.there .here) (.cons (.there .here) (.cons (.there .here) (.cons (.there .here) (.cons (.there .here) (.cons (.there .here) (.cons (.there .here) (.cons .here .refl)))))))))
            have M3 := close_at M2 hnn2.out
            clear M2
            have hw := wd_mid hps.out hpl.out (fun r => { r with state := 1, due := -1 }) a V.cA (some ⟨gv, 0, none⟩) A1 V.cC V.rC c1 (V.queue ++ [(j : Int) + 1]) V.now V.sent V.taken V.lost
            have hS2 : Hid (tickFrom (n - (j + 1)) (⟨V.code, V.cA, V.cC, pre ++ (({ r with state := 1, due := -1 }, a) : Rn × RA) :: post, some ⟨gv, 0, none⟩, V.rC, V.queue ++ [(j : Int) + 1], A1, c1, V.now, V.sent, V.taken, V.lost⟩ : Wm).wd (((j + 1 : Nat) : Int) + 1) = S) := by
              show _ = _
              rw [hw, ← hSn.out, show n - (j + 1) = m by omega]
              rfl
            have hV2 : Hid ((⟨V.code, V.cA, V.cC, pre ++ (({ r with state := 1, due := -1 }, a) : Rn × RA) :: post, some ⟨gv, 0, none⟩, V.rC, V.queue ++ [(j : Int) + 1], A1, c1, V.now, V.sent, V.taken, V.lost⟩ : Wm).ps.length = n ∧ (⟨V.code, V.cA, V.cC, pre ++ (({ r with state := 1, due := -1 }, a) : Rn × RA) :: post, some ⟨gv, 0, none⟩, V.rC, V.queue ++ [(j : Int) + 1], A1, c1, V.now, V.sent, V.taken, V.lost⟩ : Wm).queue.length ≤ 6 + (j + 1)) := ⟨(hnn2.out _).trans hVn.out, by rw [← e9]; omega⟩
            go_wp2
            go_roundg (n - (j + 1))
            case measure => omega
            case rel => exact ⟨j + 1, (⟨V.code, V.cA, V.cC, pre ++ (({ r with state := 1, due := -1 }, a) : Rn × RA) :: post, some ⟨gv, 0, none⟩, V.rC, V.queue ++ [(j : Int) + 1], A1, c1, V.now, V.sent, V.taken, V.lost⟩ : Wm), by omega, Nat.le_refl _, by go_num, hS2, hV2, M3⟩
            --]3
          | false =>
            --[4
            rw [b2] at hSn
            have hS2 : Hid (tickFrom (n - (j + 1)) V.wd (((j + 1 : Nat) : Int) + 1) = S) := by
              show _ = _
              rw [← hSn, show n - (j + 1) = m by omega]
              rfl
            clear hSn
            replace M := Mem.drew M
            (try clear F); have F := fx M
            go_wp2
            go_roundg (n - (j + 1))
            case measure => omega
            case rel => exact ⟨j + 1, V, by omega, Nat.le_refl _, by go_num, hS2, ⟨hVn.out, by omega⟩, by rw [← hAV.out] at M; exact M⟩
            --]4
        · --[5
          have b1 : (st == 2) = false := by simpa using h1
          rw [b1, Bool.false_and] at hSn
          clear h1
          (try clear F); have F := fx M
          go_upto_region 7 with fail
          clear F
          (refine held_begin (S := (fun W' => (∀ i, W'.cell? ⟨g1, i, none⟩ = ([.slice V.cA V.code.length V.cC, .slice (some ⟨gv, 0, none⟩) V.ps.length V.rC, .slice V.qA V.queue.length V.qC, .int .i64 V.now, .int .i64 V.sent, .int .i64 V.taken, .int .i64 V.lost] : List Value)[i]?) ∧ W'.cell? ⟨gv, j * 13 + 5, none⟩ = some (.int .i64 st) ∧ W'.cell? ⟨gv, j * 13 + 6, none⟩ = some (.int .i64 du))) (by kernel_rfl) (fun _ _ _ _ _ h => h) (by (exact ⟨kc, HE.out mb dl⟩)) (fun HQ hHeld => ?_))
          refine tkY HQ hHeld 0 ?_; refine tkY HQ hHeld 1 ?_; refine tkY HQ hHeld 2 ?_; refine tkY HQ hHeld 3 ?_; refine tkY HQ hHeld 4 ?_; refine tkY HQ hHeld 5 ?_; refine tkY HQ hHeld 6 ?_; refine tkY HQ hHeld 7 ?_
          refine tkN HQ hHeld 8 ?_; refine tkN HQ hHeld 9 ?_; refine tkN HQ hHeld 10 ?_; refine tkN HQ hHeld 11 ?_; refine tkN HQ hHeld 12 ?_; refine tkN HQ hHeld 13 ?_; refine tkN HQ hHeld 14 ?_; refine tkN HQ hHeld 15 ?_; refine tkN HQ hHeld 16 ?_; refine tkY HQ hHeld 17 ?_
          refine wpAnyH_done (by kernel_rfl) ?_ _; clear HQ; (repeat clear hHeld)
          have hS2 : Hid (tickFrom (n - (j + 1)) V.wd (((j + 1 : Nat) : Int) + 1) = S) := by
            show _ = _
            rw [← hSn, show n - (j + 1) = m by omega]
            rfl
          clear hSn
          replace M := Mem.drew M
          (try clear F); have F := fx M
          go_wp2
          go_roundg (n - (j + 1))
          case measure => omega
          case rel => exact ⟨j + 1, V, by omega, Nat.le_refl _, by go_num, hS2, ⟨hVn.out, by omega⟩, by rw [← hAV.out] at M; exact M⟩
          --]5
      · --[2
        have hjn : n - j = 0 := by omega
        have hSn : V.wd = S := by
          have h := hSt.out
          rw [hjn] at h
          exact h
        have j1 : ¬ ((j : Int) < V.ps.length) := by omega
        replace hVn := Lib.hid hVn
        replace hSn := Lib.hid hSn
        clear hV hSt hjn
        replace M : Mem w0 f wr (blk g1 tW [.slice V.cA V.code.length V.cC, .slice V.rA V.ps.length V.rC, .slice V.qA V.queue.length V.qC, .int .i64 V.now, .int .i64 V.sent, .int .i64 V.taken, .int .i64 V.lost] :: wld V :: blk g2 tW [.slice none 0 0, .slice none 0 0, .slice none 0 0, .int .i64 0, .int .i64 0, .int .i64 0, .int .i64 0] :: L') := M
        (try clear F); have F := fx M
        go_upto_region 11 with fail
        go_wp2_with (first | ((with_reducible apply ev_store (M := M)); rfl; rfl; ((conv => lhs; whnf) <;> rfl); rfl; (first | exact siI | exact siR | exact siV | exact siB | exact siSI | exact siSV | exact siW | exact siSR | exact siSO | exact siO); (exact one_all rfl); (exact dl); (exact Nat.le_of_ble_eq_true rfl); clear M; intro w1 M; simp only [SX] at M; (try clear F); have F := fx M))
        apply ret_cell (M := M); rfl; rfl; (exact dl); (first | exact agR | exact agV | exact agW | exact agO); (first | exact siI | exact siR | exact siV | exact siB | exact siSI | exact siSV | exact siW | exact siSR | exact siSO | exact siO); rfl
        exact ⟨V, hSn.out, rfl, M.sel (.drop (.drop (.cons .here .refl)))⟩
        --]2
end Go.Proofs.Ytmidnaafljgbiaa
