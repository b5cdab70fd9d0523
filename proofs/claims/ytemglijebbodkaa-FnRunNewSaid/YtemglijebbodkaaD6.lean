/- The law of a drawn new run. -/
import Derived.Test.YtemglijebbodkaaD3
import Derived.Test.YtemglijebbodkaaD4
import Derived.Test.YtemglijebbodkaaD5
import Derived.Test.YtemglijebbodkaaS20
import Derived.Test.YtemglijebbodkaaS6
import Derived.Deep.Cut
import Derived.Deep.RegionHeld3
namespace Go.Proofs.Ytemglijebbodkaa
open Go.RowKit
set_option maxRecDepth 100000

theorem runOk_new {id at_ : Int} {v : Vl} (h : (inB id 1 6 && inB at_ 0 15 && valOk v) = true) : runOk (newRun id at_ v) = true := by
  simp only [Bool.and_eq_true] at h
  obtain ⟨⟨h1, h2⟩, h3⟩ := h
  have hz : valOk Vl.zero = true := by decide
  have hb : hasBit 1 0 = true := by decide
  have hq : (Vl.zero == Vl.zero) = true := by decide
  have e : slotsFrom 1 0 [v, Vl.zero, Vl.zero, Vl.zero] = true := by simp [slotsFrom, h3, hb, hz]
  have f1 : inB 1 0 15 = true := by decide
  have f2 : inB 1 1 3 = true := by decide
  have f3 : inB 0 (-1) 400 = true := by decide
  have f4 : inB 0 0 9999 = true := by decide
  simp [runOk, newRun, h1, h2, e, hz, f1, f2, f3, f4, idsOk, idsFrom]
theorem slot0 {r : Rn} {a : RA} {W : World} {v : Vl} {l : List Vl} (h : (runA r a).P W) (e : r.slots = v :: l) : ∃ g, a.sA = some ⟨g, 0, none⟩ := by
  have h1 : OwnL encV 2 tV W 0 (.slice a.sA r.slots.length a.sC) r.slots := h (rowV a.sA a.sC r.slots) (by simp [runL])
  obtain ⟨g, c', e1, _⟩ := OwnL.form h1 (by rw [e]; simp)
  injection e1 with e1
  exact ⟨g, e1⟩
theorem slot0c {r : Rn} {g c : Nat} {mA lA wA : Option Addr} {mC lC wC : Nat} {W : World} {v : Vl} {l : List Vl} (h : (runA r ⟨some ⟨g, 0, none⟩, c, mA, mC, lA, lC, wA, wC⟩).P W) (e : r.slots = v :: l) : W.cell? ⟨g, 0, none⟩ = some (.int .i64 v.k) ∧ W.cell? ⟨g, 1, none⟩ = some (.int .i64 v.n) := by
  have h1 : OwnL encV 2 tV W 0 (.slice (some ⟨g, 0, none⟩) r.slots.length c) r.slots := h (rowV (some ⟨g, 0, none⟩) c r.slots) (by simp [runL])
  rw [e] at h1
  have h0 := (h1.cell encV_length (j := 0) (i := 0) (by simp) (by decide)).1
  have h2 := (h1.cell encV_length (j := 0) (i := 1) (by simp) (by decide)).1
  exact ⟨by simpa [encV] using h0, by simpa [encV] using h2⟩
set_option maxHeartbeats 4000000 in
theorem fnRunNew_small (A : Option Addr) (n c : Nat) (bs : Nat → Int) (w : World) (hb : BytesOk w A n bs) (hnc : n ≤ c) :
    Calls Try.prog 3 #[.slice A n c] w fun e w' => e = .returned (.bool true) ∧ Below w.heap.size w w' := by
  have M := Mem.ofBytes hb
  have HD := Lib.hid (fun W (L : List Asn) (M : Mem w (roB A n) W (ro w A n bs :: L)) => sDrawRunNew w A n c bs hnc M)
  have hn := hb.1
  have b1 : decide (1048576 < n) = false := by simp; omega
  clear hb hnc
  go_enter Try.func3, Try.ntmps3
  go_wp2_with (first
    | ((with_reducible refine goal_alloc (G := fun W => wpList _ _ _ _ _ W) M ?_); clear M; intro w1 M; (try clear F); have F := M.facts; simp only [And.intro FX FXd] at F) | ((with_reducible apply ev_store (M := M)); rfl; rfl; ((conv => lhs; whnf) <;> rfl); rfl; (first | exact siI | exact siR | exact siV | exact siB | exact siSI | exact siSV | exact siW | exact siSR | exact siSO | exact siO); (exact one_all rfl); (repeat (first | with_reducible exact Del.here | with_reducible apply Del.there)); (exact Nat.le_of_ble_eq_true rfl); clear M; intro w1 M; simp only [SX] at M; (try clear F); have F := M.facts; simp only [And.intro FX FXd] at F) | ((with_reducible refine goal_drewN (G := fun W => wpList _ _ _ _ _ W) M ?_); clear M; intro w1 M; (try clear F); have F := M.facts; simp only [And.intro FX FXd] at F) | ((with_reducible refine goal_drew (G := fun W => wpList _ _ _ _ _ W) M ?_); clear M; intro w1 M; (try clear F); have F := M.facts; simp only [And.intro FX FXd] at F) | ((with_reducible refine isSet (G := fun W => wpList _ _ _ _ _ W) ?_); ((with_reducible apply goal_name (G := fun W => wpList _ _ _ _ _ W)); (repeat (first | with_reducible exact M | with_reducible apply Mem.drew | with_reducible apply Mem.drewN | with_reducible apply Mem.allocD | with_reducible apply Mem.setV | with_reducible apply Mem.setD | with_reducible exact Del.here | with_reducible apply Del.there | with_reducible assumption)); clear M; intro w1 M; (try simp only [LX] at M); (try clear F); have F := M.facts; simp only [And.intro FX FXd] at F))
    | (go_at_call 9; refine (HD.out _ _ (M.pull (by repeat (first | with_reducible exact Del.here | with_reducible apply Del.there)))).mono ?_; clear M HD; rintro e w2 ⟨id, at_, ⟨vk, vn⟩, R, p, rfl, hR, M⟩; have hR := Lib.hid hR; (try clear F); have F := M.facts; simp only [And.intro FX FXd] at F))
  have HS := Lib.hid (fun W (L : List Asn) (M : Mem w (roB A n) W L) => sRunNewM id at_ ⟨vk, vn⟩ M)
  have HI := Lib.hid (fun W => iRunNew id at_ ⟨vk, vn⟩ W)
  unfold NewPostM at HS
  unfold OwnPost at HI
  by_cases hok : (inB id 1 6 && inB at_ 0 15 && valOk ⟨vk, vn⟩) = true
  · have hro := runOk_new hok
    have e : runNew id at_ ⟨vk, vn⟩ = (newRun id at_ ⟨vk, vn⟩, true) := by unfold runNew; rw [if_pos hok]
    rw [e] at HS HI
    have HL := Lib.hid (fun sA sC mA mC lA lC wA wC sA' sC' mA' mC' lA' lC' wA' wC' W (L L' L2 : List Asn) (M : Mem w (roB A n) W L) (hd : Del (runA (newRun id at_ ⟨vk, vn⟩) ⟨sA, sC, mA, mC, lA, lC, wA, wC⟩) L L') (hd' : Del (runA (newRun id at_ ⟨vk, vn⟩) ⟨sA', sC', mA', mC', lA', lC', wA', wC'⟩) L L2) => lvRunOk (newRun id at_ ⟨vk, vn⟩) ⟨sA, sC, mA, mC, lA, lC, wA, wC⟩ ⟨sA', sC', mA', mC', lA', lC', wA', wC'⟩ W.heap.size W (runA_reads (M.is hd)).1 (runA_reads (M.is hd')).1 (Nat.le_refl _))
    have HO := Lib.hid (fun sA sC mA mC lA lC wA wC W (L L' : List Asn) (M : Mem w (roB A n) W L) (hd : Del (runA (newRun id at_ ⟨vk, vn⟩) ⟨sA, sC, mA, mC, lA, lC, wA, wC⟩) L L') => iRunOk (newRun id at_ ⟨vk, vn⟩) ⟨sA, sC, mA, mC, lA, lC, wA, wC⟩ W.heap.size W (runA_reads (M.is hd)).1 (Nat.le_refl _))
    rw [hro] at HO
    clear hok hro e
    simp only [runArr, newRun, Vl.zero, List.length_cons, List.length_nil, Nat.reduceAdd] at HS HI HL HO
    go_upto_if 45 with (first
      | ((with_reducible refine goal_alloc (G := fun W => wpList _ _ _ _ _ W) M ?_); clear M; intro w1 M; (try clear F); have F := M.facts; simp only [And.intro FX FXd] at F) | ((with_reducible apply ev_store (M := M)); rfl; rfl; ((conv => lhs; whnf) <;> rfl); rfl; (first | exact siI | exact siR | exact siV | exact siB | exact siSI | exact siSV | exact siW | exact siSR | exact siSO | exact siO); (exact one_all rfl); (repeat (first | with_reducible exact Del.here | with_reducible apply Del.there)); (exact Nat.le_of_ble_eq_true rfl); clear M; intro w1 M; simp only [SX] at M; (try clear F); have F := M.facts; simp only [And.intro FX FXd] at F) | ((with_reducible refine goal_drewN (G := fun W => wpList _ _ _ _ _ W) M ?_); clear M; intro w1 M; (try clear F); have F := M.facts; simp only [And.intro FX FXd] at F) | ((with_reducible refine goal_drew (G := fun W => wpList _ _ _ _ _ W) M ?_); clear M; intro w1 M; (try clear F); have F := M.facts; simp only [And.intro FX FXd] at F) | ((with_reducible refine isSet (G := fun W => wpList _ _ _ _ _ W) ?_); ((with_reducible apply goal_name (G := fun W => wpList _ _ _ _ _ W)); (repeat (first | with_reducible exact M | with_reducible apply Mem.drew | with_reducible apply Mem.drewN | with_reducible apply Mem.allocD | with_reducible apply Mem.setV | with_reducible apply Mem.setD | with_reducible exact Del.here | with_reducible apply Del.there | with_reducible assumption)); clear M; intro w1 M; (try simp only [LX] at M); (try clear F); have F := M.facts; simp only [And.intro FX FXd] at F))
      | (go_at_call 10; refine (HS.out _ _ M).mono ?_; clear M HS; rintro e w2 ⟨⟨sA2, sC2, mA2, mC2, lA2, lC2, wA2, wC2⟩, rfl, M⟩; (try clear F); have F := M.facts; simp only [And.intro FX FXd] at F)
      | (go_at_call 11; refine (HI.out _).mono ?_; clear HI; rintro e w2 ⟨⟨sA4, sC4, mA4, mC4, lA4, lC4, wA4, wC4⟩, rfl, ho, hb⟩; replace M := M.call0 (Mem.ofRun ho hb); clear ho hb; (try clear F); have F := M.facts; simp only [And.intro FX FXd] at F)
      | (go_at_call 12; refine (HL.out _ _ _ _ _ _ _ _ _ _ _ _ _ _ _ _ _ _ _ _ M (by repeat (first | with_reducible exact Del.here | with_reducible apply Del.there)) (by repeat (first | with_reducible exact Del.here | with_reducible apply Del.there))).mono ?_; rintro e w2 ⟨rfl, hb⟩; replace M := M.below hb; clear hb; (try clear F); have F := M.facts; simp only [And.intro FX FXd] at F))
    go_cut [5, 8] from 10 (fun s5 s8 wx => ∃ (g5 g8 gs sC : Nat) (mA : Option Addr) (mC : Nat) (lA : Option Addr) (lC : Nat) (wA : Option Addr) (wC p : Nat), s5 = .pointer (some ⟨g5, 0, none⟩) ∧ s8 = .pointer (some ⟨g8, 0, none⟩) ∧ Mem w (roB A n) wx [blk g8 tR [.int .i64 id, .int .i64 at_, .slice (some ⟨gs, 0, none⟩) 4 sC, .int .i64 1, .slice mA 0 mC, .int .i64 1, .int .i64 0, .slice lA 0 lC, .slice wA 0 wC, .bool false, .int .i64 0, .int .i64 0, .int .i64 0], runA ⟨id, at_, [⟨vk, vn⟩, ⟨0, 0⟩, ⟨0, 0⟩, ⟨0, 0⟩], 1, [], 1, 0, [], [], false, ⟨0, 0⟩, 0⟩ ⟨some ⟨gs, 0, none⟩, sC, mA, mC, lA, lC, wA, wC⟩, blk g5 tV [.int .i64 vk, .int .i64 vn], rdr R p])
    case first =>
      obtain ⟨gs, hgs⟩ := slot0 (a := ⟨sA4, sC4, mA4, mC4, lA4, lC4, wA4, wC4⟩) (M.is (by repeat (first | with_reducible exact Del.here | with_reducible apply Del.there))) rfl
      simp only at hgs
      subst hgs
      go_wp2
      go_meet
      case rel => exact ⟨_, _, _, _, _, _, _, _, _, _, _, rfl, rfl, M.sel (by repeat (first | with_reducible exact Sel.refl | with_reducible exact Sel.nil | (with_reducible refine Sel.cons (by repeat (first | with_reducible exact Del.here | with_reducible apply Del.there)) ?_) | with_reducible apply Sel.drop))⟩
    obtain ⟨g5, g8, gs, sC, mA, mC, lA, lC, wA, wC, q, rfl, rfl, M⟩ := hcut
    (try clear F); have F := M.facts; simp only [And.intro FX FXd] at F
    have SC := slot0c (g := gs) (M.is (by repeat (first | with_reducible exact Del.here | with_reducible apply Del.there))) rfl
    simp only at SC
    go_wp2
    go_region_held3 (fun W => (∀ j, W.cell? ⟨g8, j, none⟩ = ([.int .i64 id, .int .i64 at_, .slice (some ⟨gs, 0, none⟩) 4 sC, .int .i64 1, .slice mA 0 mC, .int .i64 1, .int .i64 0, .slice lA 0 lC, .slice wA 0 wC, .bool false, .int .i64 0, .int .i64 0, .int .i64 0] : List Value)[j]?) ∧ (∀ j, W.cell? ⟨g5, j, none⟩ = ([.int .i64 vk, .int .i64 vn] : List Value)[j]?) ∧ W.cell? ⟨gs, 0, none⟩ = some (.int .i64 vk) ∧ W.cell? ⟨gs, 1, none⟩ = some (.int .i64 vn)) ((refine ⟨?_, ?_, ?_⟩; (apply Mem.cells; (repeat (first | with_reducible exact M | with_reducible apply Mem.drew | with_reducible apply Mem.drewN | with_reducible apply Mem.allocD | with_reducible apply Mem.setV | with_reducible apply Mem.setD | with_reducible exact Del.here | with_reducible apply Del.there | with_reducible assumption))); (apply Mem.cells; (repeat (first | with_reducible exact M | with_reducible apply Mem.drew | with_reducible apply Mem.drewN | with_reducible apply Mem.allocD | with_reducible apply Mem.setV | with_reducible apply Mem.setD | with_reducible exact Del.here | with_reducible apply Del.there | with_reducible assumption))); (exact slot0c (g := gs) (Mem.is (by (repeat (first | with_reducible exact M | with_reducible apply Mem.drew | with_reducible apply Mem.drewN | with_reducible apply Mem.allocD | with_reducible apply Mem.setV | with_reducible apply Mem.setD | with_reducible exact Del.here | with_reducible apply Del.there | with_reducible assumption))) (by repeat (first | with_reducible exact Del.here | with_reducible apply Del.there))) rfl))) (first
      | (go_at_call 13; (apply goal_name (G := fun W => Calls _ _ _ W _)); (repeat (first | with_reducible exact M | with_reducible apply Mem.drew | with_reducible apply Mem.drewN | with_reducible apply Mem.allocD | with_reducible apply Mem.setV | with_reducible apply Mem.setD | with_reducible exact Del.here | with_reducible apply Del.there | with_reducible assumption)); clear M; intro w1 M; (try simp only [LX] at M); (try clear F); have F := M.facts; simp only [And.intro FX FXd] at F; refine (HO.out _ _ _ _ _ _ _ _ _ _ _ M (by repeat (first | with_reducible exact Del.here | with_reducible apply Del.there))).mono ?_; rintro e w2 ⟨rfl, hb⟩; replace M := M.below hb; clear hb; (try clear F); have F := M.facts; simp only [And.intro FX FXd] at F))
    go_wp2
    go_ret
    exact ⟨rfl, rdr_below M (by repeat (first | with_reducible exact Del.here | with_reducible apply Del.there)) hR.out.1 hR.out.2⟩
  · have hok : (inB id 1 6 && inB at_ 0 15 && valOk ⟨vk, vn⟩) = false := by simpa using hok
    have e : runNew id at_ ⟨vk, vn⟩ = (Rn.zero, false) := by unfold runNew; rw [hok]; rfl
    rw [e] at HS HI
    have HL := Lib.hid (fun sA sC mA mC lA lC wA wC sA' sC' mA' mC' lA' lC' wA' wC' W (L L' L2 : List Asn) (M : Mem w (roB A n) W L) (hd : Del (runA Rn.zero ⟨sA, sC, mA, mC, lA, lC, wA, wC⟩) L L') (hd' : Del (runA Rn.zero ⟨sA', sC', mA', mC', lA', lC', wA', wC'⟩) L L2) => lvRunOk Rn.zero ⟨sA, sC, mA, mC, lA, lC, wA, wC⟩ ⟨sA', sC', mA', mC', lA', lC', wA', wC'⟩ W.heap.size W (runA_reads (M.is hd)).1 (runA_reads (M.is hd')).1 (Nat.le_refl _))
    clear hok e
    simp only [runArr, Rn.zero, Vl.zero, List.length_nil] at HS HI HL
    go_wp2_with (first
      | ((with_reducible refine goal_alloc (G := fun W => wpList _ _ _ _ _ W) M ?_); clear M; intro w1 M; (try clear F); have F := M.facts; simp only [And.intro FX FXd] at F) | ((with_reducible apply ev_store (M := M)); rfl; rfl; ((conv => lhs; whnf) <;> rfl); rfl; (first | exact siI | exact siR | exact siV | exact siB | exact siSI | exact siSV | exact siW | exact siSR | exact siSO | exact siO); (exact one_all rfl); (repeat (first | with_reducible exact Del.here | with_reducible apply Del.there)); (exact Nat.le_of_ble_eq_true rfl); clear M; intro w1 M; simp only [SX] at M; (try clear F); have F := M.facts; simp only [And.intro FX FXd] at F) | ((with_reducible refine goal_drewN (G := fun W => wpList _ _ _ _ _ W) M ?_); clear M; intro w1 M; (try clear F); have F := M.facts; simp only [And.intro FX FXd] at F) | ((with_reducible refine goal_drew (G := fun W => wpList _ _ _ _ _ W) M ?_); clear M; intro w1 M; (try clear F); have F := M.facts; simp only [And.intro FX FXd] at F) | ((with_reducible refine isSet (G := fun W => wpList _ _ _ _ _ W) ?_); ((with_reducible apply goal_name (G := fun W => wpList _ _ _ _ _ W)); (repeat (first | with_reducible exact M | with_reducible apply Mem.drew | with_reducible apply Mem.drewN | with_reducible apply Mem.allocD | with_reducible apply Mem.setV | with_reducible apply Mem.setD | with_reducible exact Del.here | with_reducible apply Del.there | with_reducible assumption)); clear M; intro w1 M; (try simp only [LX] at M); (try clear F); have F := M.facts; simp only [And.intro FX FXd] at F))
      | (go_at_call 10; refine (HS.out _ _ M).mono ?_; clear M HS; rintro e w2 ⟨⟨sA2, sC2, mA2, mC2, lA2, lC2, wA2, wC2⟩, rfl, M⟩; (try clear F); have F := M.facts; simp only [And.intro FX FXd] at F)
      | (go_at_call 11; refine (HI.out _).mono ?_; clear HI; rintro e w2 ⟨⟨sA4, sC4, mA4, mC4, lA4, lC4, wA4, wC4⟩, rfl, ho, hb⟩; replace M := M.call0 (Mem.ofRun ho hb); clear ho hb; (try clear F); have F := M.facts; simp only [And.intro FX FXd] at F)
      | (go_at_call 12; refine (HL.out _ _ _ _ _ _ _ _ _ _ _ _ _ _ _ _ _ _ _ _ M (by repeat (first | with_reducible exact Del.here | with_reducible apply Del.there)) (by repeat (first | with_reducible exact Del.here | with_reducible apply Del.there))).mono ?_; rintro e w2 ⟨rfl, hb⟩; replace M := M.below hb; clear hb; (try clear F); have F := M.facts; simp only [And.intro FX FXd] at F))
    go_ret
    exact ⟨rfl, rdr_below M (by repeat (first | with_reducible exact Del.here | with_reducible apply Del.there)) hR.out.1 hR.out.2⟩
set_option maxHeartbeats 1000000 in
theorem fnRunNew_big (A : Option Addr) (n c : Nat) (w : World) (h : 1048576 < n) (hn : n ≤ 4611686018427387904) :
    Calls Try.prog 3 #[.slice A n c] w fun e w' => e = .returned (.bool true) ∧ Below w.heap.size w w' := by
  have b1 : decide (1048576 < n) = true := by simpa using h
  go_enter Try.func3, Try.ntmps3
  go_wp2
  go_ret
  exact ⟨rfl, Below.refl _ _⟩
end Go.Proofs.Ytemglijebbodkaa
