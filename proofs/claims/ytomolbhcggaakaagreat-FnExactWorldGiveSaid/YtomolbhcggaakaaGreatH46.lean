/- Parts of the proof, in one text. -/
import Derived.Deep.Cut
import Derived.Test.YtomolbhcggaakaaGreatH45
import Derived.Test.YtomolbhcggaakaaGreatH21
/- How many values wait in a world, by the program's text. -/
namespace Go.Proofs.YtomolbhcggaakaaGreat
open Go.RowKit
set_option maxRecDepth 100000

theorem waits_ps (ps : List (Rn × RA)) {k : Nat} (hk : k < ps.length) : waits ((ps.take (k + 1)).map (·.1)) = waits ((ps.take k).map (·.1)) + (ps[k].1.mail.length : Int) := by
  have h := waits_take (l := ps.map (·.1)) (k := k) (by simpa using hk)
  rw [List.map_take, List.map_take]
  simpa using h
set_option maxHeartbeats 1000000 in
theorem iWaiting (W : Wm) (B : Nat) (w : World) (h : RW w B W) (hB : B ≤ w.heap.size) (h6 : W.ps.length ≤ 6) :
    Calls Tryz.prog 55 #[.agg (wArr W)] w fun e w' => e = .returned (.int .i64 (waits W.wd.runs)) ∧ Below w.heap.size w w' := by
  have AL := add_lit0
  have RR : Hid (∀ V, Below w.heap.size w V → ∀ k (hk : k < W.ps.length), ∃ g, W.rA = some ⟨g, 0, none⟩ ∧ RunAt V g (k * 13) W.ps[k].1 W.ps[k].2) := fun V hv k hk => by
    obtain ⟨g, e1, e2, e3⟩ := h.runs k hk
    exact ⟨g, e1, e3.below (hv.mono hB) e2⟩
  have ML : Hid (∀ k (hk : k < W.ps.length), W.ps[k].1.mail.length ≤ 140737488355328) := fun k hk => (h.each k hk).mail.2.1
  have e0 : W.wd.runs = W.ps.map (·.1) := rfl
  rw [e0]
  clear h hB e0
  have M := Mem.nil w
  obtain ⟨code, cA, cC, ps, rA, rC, queue, qA, qC, now, sent, taken, lost⟩ := W
  simp only at *
  have RES := Lib.hid (rfl : waits (ps.map (·.1)) = waits (ps.map (·.1)))
  go_enter Tryz.func55, Tryz.ntmps55
  go_wp2_with (first | (with_reducible refine alAw M ?_; clear M; (try clear F); intro w1 M F))
  go_loopg [3, 9] ps.length (fun gg v i wr => ∃ k : Nat, k ≤ ps.length ∧ ps.length - k ≤ gg ∧ v = .int .i64 (waits ((ps.take k).map (·.1))) ∧ i = .int .i64 k ∧ (0 ≤ waits ((ps.take k).map (·.1)) ∧ waits ((ps.take k).map (·.1)) ≤ 140737488355328 * k) ∧ Hid (Below w.heap.size w wr))
  case atStart => exact ⟨0, Nat.zero_le _, by omega, rfl, rfl, ⟨Int.le_refl _, Int.le_refl _⟩, M.toBelow⟩
  case round =>
    clear M F
    obtain ⟨k, hk, hg, rfl, rfl, hb, BW⟩ := hrel
    by_cases hlt : k < ps.length
    · obtain ⟨g, rfl, E⟩ := RR.out _ BW.out k hlt
      have e1 := waits_ps ps hlt
      have ml := ML.out k hlt
      generalize ps[k] = p at E e1 ml
      obtain ⟨⟨id, at_, slots, full, mail, state, due, links, watched, trap, ⟨wk, wn⟩, turns⟩, ⟨sA, sC, mA, mC, lA, lC, wA, wC⟩⟩ := p
      simp only [RunAt] at E e1 ml
      have e1 := Lib.hid e1
      generalize waits ((ps.take k).map (·.1)) = s at hb e1
      have i1 : (0 : Int) ≤ k := by omega
      have i2 : (k : Int) < ps.length := by omega
      have wi : IntKind.i64.wrap (s + (mail.length : Int)) = s + (mail.length : Int) := by rw [IntKind.wrap_i64]; omega
      have M := Mem.nil wr
      go_wp2_with (first | (with_reducible refine alAw M ?_; clear M; (try clear F); intro w1 M F) | ((with_reducible apply ev_store (M := M)); rfl; rfl; ((conv => lhs; whnf) <;> rfl); rfl; (first | exact siI | exact siR | exact siV | exact siB | exact siSI | exact siSV | exact siW | exact siSR | exact siSO | exact siO); (exact one_all rfl); (exact dl); (exact Nat.le_of_ble_eq_true rfl); clear M; intro w1 M; simp only [SX] at M; (try clear F); have F := fxw M))
      go_roundg (ps.length - (k + 1))
      case measure => omega
      case rel => exact ⟨k + 1, by omega, by omega, by rw [e1.out], by go_num, by rw [e1.out]; omega, below_step BW.out M.toBelow⟩
    · have : k = ps.length := by omega
      subst this
      have e := Lib.hid (congrArg (fun l : List (Rn × RA) => waits (l.map (·.1))) (List.take_length (l := ps)))
      go_wp2
      go_ret
      exact ⟨by first | rfl | exact ret_int e.out, BW.out⟩
end Go.Proofs.YtomolbhcggaakaaGreat
/- Whether a run is as it must be in its world, by the program's text. -/
namespace Go.Proofs.YtomolbhcggaakaaGreat
open Go.RowKit
set_option maxRecDepth 100000

theorem needBit_all : ∀ a : Fin 17, ∀ b : Fin 16, 0 < a.val → (bits .and .i64 (b.val : Int) ((a.val : Int) - 1) == ((a.val : Int) - 1)) = (both ((a.val : Int) - 1) b.val == ((a.val : Int) - 1)) := by decide +kernel
theorem needBit {a b : Int} (ha : 0 ≤ a ∧ a ≤ 15) (hb : 0 ≤ b ∧ b ≤ 15) : (bits .and .i64 b a == a) = (both a b == a) := by
  have h := needBit_all ⟨(a + 1).toNat, by omega⟩ ⟨b.toNat, by omega⟩ (by show 0 < (a + 1).toNat; omega)
  simp only [Int.toNat_of_nonneg hb.1, Int.toNat_of_nonneg (show 0 ≤ a + 1 by omega), Int.add_sub_cancel] at h
  exact h
theorem runFitsI_eq (W : Wd) (F : List Int) (r : Rn) : runFitsI W F r = (runOk r && decide (r.at_ < W.code.length) && (!(r.state == 2) || waitsOk W r) && ((r.state == 3) || (r.links.all (aliveIn W.runs) && r.watched.all (aliveIn W.runs) && needOk F r))) := rfl
theorem any_gone (l : List Int) (p : Int → Bool) : l.any (fun x => !p x) = !(l.all p) := by rw [List.not_all_eq_any_not]
set_option maxHeartbeats 4000000 in
theorem iRunOkW_no (W : Wm) (r : Rn) (ra : RA) (FL : List Int) (fA : Option Addr) (fC n : Nat) (B : Nat) (w : World) (h : RW w B W) (hr : ReadsRun w B r ra) (hB : B ≤ w.heap.size)
    (hno : runOk r = false ∨ (runOk r = true ∧ ¬ r.at_ < W.code.length) ∨ (runOk r = true ∧ r.at_ < W.code.length ∧ r.state = 2 ∧ waitsOk W.wd r = false) ∨ (runOk r = true ∧ r.at_ < W.code.length ∧ r.state = 3)) :
    Calls Tryz.prog 57 #[.agg (wArr W), .agg (runArr r ra), .slice fA n fC] w fun e w' => e = .returned (.bool (runFitsI W.wd FL r)) ∧ Below w.heap.size w w' := by
  have HR := Lib.hid (fun V (hv : Below w.heap.size w V) => iRunOk r ra B V (hr.below hv hB) (Nat.le_trans hB hv.size))
  have HW := Lib.hid (fun (h0 : 0 ≤ r.at_) (h1 : r.at_ < W.code.length) (hm : r.mail.all valOk = true) V (hv : Below w.heap.size w V) => iWaitsOk W r ra h0 h1 hm B V (h.below hv hB) (hr.below hv hB) (Nat.le_trans hB hv.size))
  have hml : W.code.length ≤ 140737488355328 := h.szs.1
  clear h hr hB
  have RF := Lib.hid (runFitsI_eq W.wd FL r)
  have M := Mem.nil w
  rcases hno with h1 | ⟨h1, h2⟩ | ⟨h1, h2, h3, h4⟩ | ⟨h1, h2, h3⟩
  · have e : runFitsI W.wd FL r = false := by rw [RF.out, h1]; rfl
    rw [e]
    rw [h1] at HR
    clear HW RF e h1
    obtain ⟨code, cA, cC, ps, rA, rC, queue, qA, qC, now, sent, taken, lost⟩ := W
    obtain ⟨id, at_, slots, full, mail, state, due, links, watched, trap, ⟨wk, wn⟩, turns⟩ := r
    obtain ⟨sA, sC, mA, mC, lA, lC, wA, wC⟩ := ra
    simp only [runArr] at *
    go_enter Tryz.func57, Tryz.ntmps57
    go_upto_region 1 with (first | (with_reducible refine alA M ?_; clear M; (try clear F); intro w1 M F))
    go_wp2_with (first | (go_at_call 100; (refine nmK ?_; clear M; (try clear F); intro w1 M F); refine (HR.out _ M.toBelow).mono ?_; rintro e w2 ⟨rfl, hb⟩; replace M := M.below hb; clear hb; (try clear F); have F := fx M))
    go_ret
    exact ⟨rfl, M.toBelow⟩
  · have e : runFitsI W.wd FL r = false := by rw [RF.out]; simp [Wm.wd, h2]
    rw [h1] at HR
    rw [e]
    clear HW RF e
    obtain ⟨code, cA, cC, ps, rA, rC, queue, qA, qC, now, sent, taken, lost⟩ := W
    obtain ⟨id, at_, slots, full, mail, state, due, links, watched, trap, ⟨wk, wn⟩, turns⟩ := r
    obtain ⟨sA, sC, mA, mC, lA, lC, wA, wC⟩ := ra
    simp only [runArr] at *
    have b2 : decide ((code.length : Int) ≤ at_) = true := by simp; omega
    clear h1 h2
    go_enter Tryz.func57, Tryz.ntmps57
    go_upto_region 1 with (first | (with_reducible refine alA M ?_; clear M; (try clear F); intro w1 M F))
    go_wp2_with (first | (go_at_call 100; (refine nmK ?_; clear M; (try clear F); intro w1 M F); refine (HR.out _ M.toBelow).mono ?_; rintro e w2 ⟨rfl, hb⟩; replace M := M.below hb; clear hb; (try clear F); have F := fx M))
    go_ret
    exact ⟨rfl, M.toBelow⟩
  · have e : runFitsI W.wd FL r = false := by rw [RF.out, h1, h4, h3]; simp
    rw [e]
    have p2 := (runOk_parts h1).2.1
    have hm : r.mail.all valOk = true := by
      unfold runOk at h1
      simp only [Bool.and_eq_true] at h1
      exact h1.1.1.1.1.2
    have HW2 := Lib.hid (HW.out p2.1 h2 hm)
    rw [h1] at HR
    rw [h4] at HW2
    clear HW RF e h4 hm h1
    obtain ⟨code, cA, cC, ps, rA, rC, queue, qA, qC, now, sent, taken, lost⟩ := W
    obtain ⟨id, at_, slots, full, mail, state, due, links, watched, trap, ⟨wk, wn⟩, turns⟩ := r
    obtain ⟨sA, sC, mA, mC, lA, lC, wA, wC⟩ := ra
    simp only [runArr] at *
    have b2 : decide ((code.length : Int) ≤ at_) = false := by simp; omega
    subst h3
    clear h2 p2
    go_enter Tryz.func57, Tryz.ntmps57
    go_upto_region 1 with (first | (with_reducible refine alA M ?_; clear M; (try clear F); intro w1 M F))
    go_wp2_with (first | (go_at_call 100; (refine nmK ?_; clear M; (try clear F); intro w1 M F); refine (HR.out _ M.toBelow).mono ?_; rintro e w2 ⟨rfl, hb⟩; replace M := M.below hb; clear hb; (try clear F); have F := fx M) | (go_at_call 101; (refine nmK ?_; clear M; (try clear F); intro w1 M F); refine (HW2.out _ M.toBelow).mono ?_; rintro e w2 ⟨rfl, hb⟩; replace M := M.below hb; clear hb; (try clear F); have F := fx M))
    go_ret
    exact ⟨rfl, M.toBelow⟩
  · have e : runFitsI W.wd FL r = true := by rw [RF.out, h1, h3]; simp [Wm.wd, h2]
    rw [e]
    rw [h1] at HR
    clear HW RF e h1
    obtain ⟨code, cA, cC, ps, rA, rC, queue, qA, qC, now, sent, taken, lost⟩ := W
    obtain ⟨id, at_, slots, full, mail, state, due, links, watched, trap, ⟨wk, wn⟩, turns⟩ := r
    obtain ⟨sA, sC, mA, mC, lA, lC, wA, wC⟩ := ra
    simp only [runArr] at *
    have b2 : decide ((code.length : Int) ≤ at_) = false := by simp; omega
    subst h3
    clear h2
    go_enter Tryz.func57, Tryz.ntmps57
    go_upto_region 1 with (first | (with_reducible refine alA M ?_; clear M; (try clear F); intro w1 M F))
    go_wp2_with (first | (go_at_call 100; (refine nmK ?_; clear M; (try clear F); intro w1 M F); refine (HR.out _ M.toBelow).mono ?_; rintro e w2 ⟨rfl, hb⟩; replace M := M.below hb; clear hb; (try clear F); have F := fx M))
    go_ret
    exact ⟨rfl, M.toBelow⟩
set_option maxHeartbeats 4000000 in
theorem iRunOkW_yes (W : Wm) (r : Rn) (ra : RA) (FL : List Int) (fA : Option Addr) (fC n : Nat) (hn : n = FL.length) (B : Nat) (w : World) (h : RW w B W) (hr : ReadsRun w B r ra) (hf : ReadsI w B fA FL.length FL) (hfl : FL.length = W.code.length) (hfb : Bits FL) (hB : B ≤ w.heap.size) (hl : W.ps.length ≤ 1000) (hp : 0 < W.ps.length)
    (h1 : runOk r = true) (h2 : r.at_ < W.code.length) (h3 : r.state = 1 ∨ (r.state = 2 ∧ waitsOk W.wd r = true)) :
    Calls Tryz.prog 57 #[.agg (wArr W), .agg (runArr r ra), .slice fA n fC] w fun e w' => e = .returned (.bool (runFitsI W.wd FL r)) ∧ Below w.heap.size w w' := by
  have HR := Lib.hid (fun V (hv : Below w.heap.size w V) => iRunOk r ra B V (hr.below hv hB) (Nat.le_trans hB hv.size))
  rw [h1] at HR
  have p2 := (runOk_parts h1).2.1
  have p4 := (runOk_parts h1).2.2.2.1
  have hm : r.mail.all valOk = true := by
    have h1' := h1
    unfold runOk at h1'
    simp only [Bool.and_eq_true] at h1'
    exact h1'.1.1.1.1.2
  have HW := Lib.hid (fun V (hv : Below w.heap.size w V) => iWaitsOk W r ra p2.1 h2 hm B V (h.below hv hB) (hr.below hv hB) (Nat.le_trans hB hv.size))
  have hml : W.code.length ≤ 140737488355328 := h.szs.1
  obtain ⟨gr, hA, hgr, hdm⟩ := h.runs 0 hp
  clear hdm
  have eg := enters_of Tryz.func102 (by kernel_rfl) rfl
  have HC : Hid (∀ (V : World) (L L' : List Asn) (g : Nat) (l : List Int) (A : Option Addr) (c : Nat), Mem w [] V L → Del (blk g tW [.slice W.cA W.code.length W.cC, .slice W.rA W.ps.length W.rC, .slice W.qA W.queue.length W.qC, .int .i64 W.now, .int .i64 W.sent, .int .i64 W.taken, .int .i64 W.lost]) L L' → ReadsI w B A l.length l →
      Calls Tryz.prog 96 #[.slice A l.length c, .func (.func 102) #[] #[.pointer (some ⟨g, 0, none⟩)]] V fun e w' => e = .returned (.bool (!(l.all (aliveIn W.wd.runs)))) ∧ Below V.heap.size V w') := by
    intro V L L' g l A c M hd hl2
    have hv := M.toBelow
    have hb := BoxW.of (W := W) M hd
    rw [← any_gone]
    refine iContainsA (fun x => !aliveIn W.wd.runs x) _ #[.pointer (some ⟨g, 0, none⟩)] eg l A c V hl2.2.1 ((hl2.below' hv hB).more (Nat.le_trans hB hv.size)) (fun U x _ hU => ?_)
    refine (iGone W g gr x hl hA U (hb.below hU) (fun k hk => ?_)).mono ?_
    · obtain ⟨g', e1, e2, e3⟩ := h.runs k hk
      obtain rfl : gr = g' := by rw [hA] at e1; injection e1 with e1; injection e1
      exact e3.below ((hv.trans (hU.mono hv.size)).mono hB) e2
    · rintro e w' ⟨h1, rfl⟩
      exact ⟨h1, hU⟩
  have hL := Lib.hid hr.links
  have hWt := Lib.hid hr.watched
  obtain ⟨k, hk⟩ := Int.eq_ofNat_of_zero_le p2.1
  have hkF : k < FL.length := by omega
  have ex : FL[k] = getI FL k := by unfold getI; simp [List.getD_eq_getElem?_getD, List.getElem?_eq_getElem hkF]
  obtain ⟨fad, rfl, hfad, hfc⟩ := hf.int hkF
  rw [ex] at hfc
  have EF := Lib.hid (fun V (hv : Below w.heap.size w V) => (hv.cell (p := fad.add k) (by rw [block_of_add]; omega)).trans hfc)
  have hx := hfb _ (getI_mem (f := FL) (i := k) (by omega) (by omega))
  have RF : Hid (runFitsI W.wd FL r = (r.links.all (aliveIn W.wd.runs) && r.watched.all (aliveIn W.wd.runs) && (decide (0 ≤ getI FL k) && both (getI FL k) r.full == getI FL k))) := by
    unfold Hid
    rw [runFitsI_eq, h1]
    unfold needOk
    rw [hk]
    rcases h3 with h3 | ⟨h3, h4⟩
    · rw [h3]
      simp [Wm.wd, ← hk, h2]
    · rw [h3, h4]
      simp [Wm.wd, ← hk, h2]
  have hnb : 0 ≤ getI FL k → (bits .and .i64 r.full (getI FL k) == getI FL k) = (both (getI FL k) r.full == getI FL k) := fun q => needBit ⟨q, hx.2⟩ p4
  clear hf ex hm h eg hfc hfb hr
  generalize getI FL k = x at hx RF hnb EF
  have HX := Lib.hid hx
  clear hx
  generalize (both x r.full == x) = bo at RF hnb
  have b2 : decide ((W.code.length : Int) ≤ r.at_) = false := by simp; omega
  have HC1 := Lib.hid (fun V (L L' : List Asn) g (M : Mem w [] V L) hd => HC.out V L L' g r.links ra.lA ra.lC M hd hL.out)
  have HC2 := Lib.hid (fun V (L L' : List Asn) g (M : Mem w [] V L) hd => HC.out V L L' g r.watched ra.wA ra.wC M hd hWt.out)
  clear HC hL hWt
  generalize r.links.all (aliveIn W.wd.runs) = a1 at RF HC1
  generalize r.watched.all (aliveIn W.wd.runs) = a2 at RF HC2
  have i1 : (0 : Int) ≤ k := by omega
  have i2 : (k : Int) < n := by omega
  have M := Mem.nil w
  have HN := Lib.hid hn
  clear hn hkF hB hl hp hfl hfad hgr hA p2 h1
  generalize runFitsI W.wd FL r = res at RF ⊢
  obtain ⟨code, cA, cC, ps, rA, rC, queue, qA, qC, now, sent, taken, lost⟩ := W
  obtain ⟨id, at_, slots, full, mail, state, due, links, watched, trap, ⟨wk, wn⟩, turns⟩ := r
  obtain ⟨sA, sC, mA, mC, lA, lC, wA, wC⟩ := ra
  simp only [runArr] at *
  subst hk
  have ways : (a1 = false) ∨ (a1 = true ∧ a2 = false) ∨ (a1 = true ∧ a2 = true ∧ decide (0 ≤ x) = false) ∨ (a1 = true ∧ a2 = true ∧ decide (0 ≤ x) = true) := by
    cases a1 <;> cases a2 <;> cases decide (0 ≤ x) <;> simp
  have WAY : Hid (∀ s, state = s → state = s) := fun _ h => h
  rcases ways with rfl | ⟨rfl, rfl⟩ | ⟨rfl, rfl, b0⟩ | ⟨rfl, rfl, b0⟩
  all_goals
    have RX := RF.out
    try simp only [b0] at RX
    simp only [Bool.true_and, Bool.false_and, Bool.and_false] at RX
    try (have hnc := hnb (of_decide_eq_true b0))
    have RX := Lib.hid RX
    clear RF hnb
    rcases h3 with rfl | ⟨rfl, hw⟩
    · clear HW
      go_enter Tryz.func57, Tryz.ntmps57
      go_upto_region 1 with (first | (with_reducible refine alA M ?_; clear M; (try clear F); intro w1 M F))
      have EX := EF.out _ M.toBelow
      go_wp2_with (first
        | (go_at_call 100; (refine nmK ?_; clear M; (try clear F); intro w1 M F); refine (HR.out _ M.toBelow).mono ?_; rintro e w2 ⟨rfl, hb⟩; replace M := M.below hb; clear hb; (try clear F); have F := fx M; have EX := EF.out _ M.toBelow)
        | (go_at_call_of 96 (Value.slice lA links.length lC); (refine nmK ?_; clear M; (try clear F); intro w1 M F); refine (HC1.out _ _ _ _ M dl).mono ?_; rintro e w2 ⟨rfl, hb⟩; replace M := M.below hb; clear hb; (try clear F); have F := fx M; have EX := EF.out _ M.toBelow)
        | (go_at_call_of 96 (Value.slice wA watched.length wC); (refine nmK ?_; clear M; (try clear F); intro w1 M F); refine (HC2.out _ _ _ _ M dl).mono ?_; rintro e w2 ⟨rfl, hb⟩; replace M := M.below hb; clear hb; (try clear F); have F := fx M; have EX := EF.out _ M.toBelow))
      go_ret
      exact ⟨ret_bool (by first | exact RX.out.symm | (rw [RX.out]; first | rfl | exact hnc)), M.toBelow⟩
    · rw [hw] at HW
      clear hw
      go_enter Tryz.func57, Tryz.ntmps57
      go_upto_region 1 with (first | (with_reducible refine alA M ?_; clear M; (try clear F); intro w1 M F))
      have EX := EF.out _ M.toBelow
      go_wp2_with (first
        | (go_at_call 100; (refine nmK ?_; clear M; (try clear F); intro w1 M F); refine (HR.out _ M.toBelow).mono ?_; rintro e w2 ⟨rfl, hb⟩; replace M := M.below hb; clear hb; (try clear F); have F := fx M; have EX := EF.out _ M.toBelow)
        | (go_at_call 101; (refine nmK ?_; clear M; (try clear F); intro w1 M F); refine (HW.out _ M.toBelow).mono ?_; rintro e w2 ⟨rfl, hb⟩; replace M := M.below hb; clear hb; (try clear F); have F := fx M; have EX := EF.out _ M.toBelow)
        | (go_at_call_of 96 (Value.slice lA links.length lC); (refine nmK ?_; clear M; (try clear F); intro w1 M F); refine (HC1.out _ _ _ _ M dl).mono ?_; rintro e w2 ⟨rfl, hb⟩; replace M := M.below hb; clear hb; (try clear F); have F := fx M; have EX := EF.out _ M.toBelow)
        | (go_at_call_of 96 (Value.slice wA watched.length wC); (refine nmK ?_; clear M; (try clear F); intro w1 M F); refine (HC2.out _ _ _ _ M dl).mono ?_; rintro e w2 ⟨rfl, hb⟩; replace M := M.below hb; clear hb; (try clear F); have F := fx M; have EX := EF.out _ M.toBelow))
      go_ret
      exact ⟨ret_bool (by first | exact RX.out.symm | (rw [RX.out]; first | rfl | exact hnc)), M.toBelow⟩
theorem iRunOkW (W : Wm) (r : Rn) (ra : RA) (FL : List Int) (fA : Option Addr) (fC n : Nat) (hn : n = FL.length) (B : Nat) (w : World) (h : RW w B W) (hr : ReadsRun w B r ra) (hf : ReadsI w B fA FL.length FL) (hfl : FL.length = W.code.length) (hfb : Bits FL) (hB : B ≤ w.heap.size) (hl : W.ps.length ≤ 1000) (hp : 0 < W.ps.length) :
    Calls Tryz.prog 57 #[.agg (wArr W), .agg (runArr r ra), .slice fA n fC] w fun e w' => e = .returned (.bool (runFitsI W.wd FL r)) ∧ Below w.heap.size w w' := by
  cases h1 : runOk r with
  | false => exact iRunOkW_no W r ra FL fA fC n B w h hr hB (.inl h1)
  | true =>
    by_cases h2 : r.at_ < W.code.length
    case neg => exact iRunOkW_no W r ra FL fA fC n B w h hr hB (.inr (.inl ⟨h1, h2⟩))
    have p6 := (runOk_parts h1).2.2.2.2.2.1
    by_cases h3 : r.state = 3
    · exact iRunOkW_no W r ra FL fA fC n B w h hr hB (.inr (.inr (.inr ⟨h1, h2, h3⟩)))
    by_cases h4 : r.state = 2
    · cases h5 : waitsOk W.wd r with
      | false => exact iRunOkW_no W r ra FL fA fC n B w h hr hB (.inr (.inr (.inl ⟨h1, h2, h4, h5⟩)))
      | true => exact iRunOkW_yes W r ra FL fA fC n hn B w h hr hf hfl hfb hB hl hp h1 h2 (.inr ⟨h4, h5⟩)
    · exact iRunOkW_yes W r ra FL fA fC n hn B w h hr hf hfl hfb hB hl hp h1 h2 (.inl (by omega))
end Go.Proofs.YtomolbhcggaakaaGreat
