/- Parts of the proof, in one text. -/
import Derived.Deep.RegionHeld3
import Derived.Test.YtomolbhcggaakaaGreatH50
import Derived.Test.YtomolbhcggaakaaGreatH51
import Derived.Test.YtomolbhcggaakaaGreatH52
import Derived.Test.YtomolbhcggaakaaGreatH05
/- The law FnExactWorldGive, walked. -/
namespace Go.Proofs.YtomolbhcggaakaaGreat
open Go.RowKit
set_option maxRecDepth 100000

theorem wm_sizes {V : Wm} {w : Wd} (h : V.wd = w) : V.code.length = w.code.length ∧ V.ps.length = w.runs.length ∧ V.queue.length = w.queue.length ∧ sizesR (V.ps.map (·.1)) = sizesR w.runs := by
  subst h
  exact ⟨rfl, by rw [runsLen], rfl, rfl⟩
theorem small_sz {W : Wm} (c : ¬ szTo 1048576 (sizeW W.wd) < 0) : SmallW W := by
  have h := sizeW_bounds c
  exact ⟨by omega, by omega, by omega, fun k hk => by have := h.2.2.2 k hk; omega⟩
/-- A law's world is marked, and looked at again. -/
theorem lMarkKept (R : Wd) (s1 : R.code.length ≤ 1048576) (s2 : R.runs.length ≤ 1048576) (s3 : R.queue.length ≤ 1048576) (s4 : sizesR R.runs ≤ 100000000) (X : Wm) (hX : X.wd = R) {w0 w : World} {f : List Nat} {L L' : List Asn} (M : Mem w0 f w L) (hd : Del (wld X) L L') :
    Calls Tryz.prog 24 #[.agg (wArr X), .int .i64 1] w fun e w' => ∃ z : Int, ¬ z < 0 ∧ Hid (z = mkEnd 1 X) ∧ e = .returned (.int .i64 z) ∧ Mem w0 f w' (wld (mkW 1 X) :: L') := by
  have s := wm_sizes hX
  refine (lMarkWorld X 1 M hd (by decide) (by decide) (by omega) (by omega) (by omega) (by omega)).mono ?_
  rintro e w' ⟨rfl, M⟩
  exact ⟨_, by have := mkEnd_le (k0 := 1) (W := X) (by decide) (by decide) (by omega) (by omega) (by omega) (by omega); omega, rfl, rfl, M⟩
theorem lHeldKept (R : Wd) (s1 : R.code.length ≤ 1048576) (s2 : R.runs.length ≤ 1048576) (s3 : R.queue.length ≤ 1048576) (s4 : sizesR R.runs ≤ 100000000) (X : Wm) (hX : X.wd = R) (z : Int) (hz : z = mkEnd 1 X) {w0 w : World} {f : List Nat} {L L' : List Asn} (M : Mem w0 f w L) (hd : Del (wld (mkW 1 X)) L L') :
    Calls Tryz.prog 30 #[.agg (wArr X), .int .i64 1] w fun e w' => e = .returned (.int .i64 z) ∧ Below w.heap.size w w' := by
  have s := wm_sizes hX
  rw [hz]
  exact lHeldWorld X 1 w.heap.size w (M.readsW hd) (Nat.le_refl _) (by decide) (by decide) (by omega) (by omega) (by omega) (by omega)
set_option maxHeartbeats 8000000 in
theorem fnExactWorldGive_walk (W : Wm) (id : Int) (v : Vl) (w : World) (h : ReadsW w w.heap.size W) (hs : SizesW W) :
    Calls Tryz.prog 7 #[.agg (wArr W), .int .i64 id, .agg #[.int .i64 v.k, .int .i64 v.n]] w fun e w' => e = .returned (.bool true) ∧ Below w.heap.size w w' := by
  have HZ := Lib.hid (fun V (hb : Below w.heap.size w V) => lSzWorld W 1048576 w.heap.size V (h.below hb (Nat.le_refl _)) hb.size hs (by decide) (by decide))
  unfold SzPostW at HZ
  have M := Mem.nil w
  by_cases c : szTo 1048576 (sizeW W.wd) < 0
  · generalize szTo 1048576 (sizeW W.wd) = z at c HZ
    clear h hs
    go_enter Tryz.func7, Tryz.ntmps7
    go_wp2_with (first
      | (with_reducible refine alAw M ?_; clear M; (try clear F); intro w1 M F)
      | (go_at_call 12; (refine nmKw ?_; clear M; (try clear F); intro w1 M F); refine (HZ.out _ M.toBelow).mono ?_; rintro e w2 ⟨rfl, hb⟩; replace M := M.below hb; clear hb; (try clear F); have F := fxw M))
    go_ret
    exact ⟨rfl, M.toBelow⟩
  · have HT := Lib.hid (fun V (hb : Below w.heap.size w V) => lToWorldZ W w.heap.size V (h.below hb (Nat.le_refl _)) hb.size c)
    have HV := Lib.hid (fun V => lToVal v V)
    have HS : Hid (∀ (V : World) (L L' : List Asn) (X : Wm), X.wd = W.wd → Mem w [] V L → Del (wld X) L L' → Calls Tryz.prog 27 #[.agg (wArr X), .int .i64 id, .agg #[.int .i64 v.k, .int .i64 v.n]] V fun e w' => ∃ Y : Wm, Y.wd = worldGive W.wd id v ∧ e = .returned (.agg (wArr Y)) ∧ Mem w [] w' (wld Y :: wld X :: L')) :=
      fun V L L' X hX M hd => by have h := sWorldGive X id v M hd (small_sz (by rw [hX]; exact c)) (fun h => by have := wok_queue h; have e : X.wd.queue = X.queue := rfl; rw [e] at this; omega); unfold WGPost at h; rwa [hX] at h
    have HI : Hid (∀ (V : World) (L L' : List Asn) (X : Wm), X.wd = W.wd → Mem w [] V L → Del (wld X) L L' → Calls Tryz.prog 29 #[.agg (wArr X), .int .i64 id, .agg #[.int .i64 v.k, .int .i64 v.n]] V fun e w' => ∃ Y : Wm, Y.wd = worldGive W.wd id v ∧ e = .returned (.agg (wArr Y)) ∧ Mem w [] w' (wld Y :: wld X :: L')) :=
      fun V L L' X hX M hd => by have h := iWorldGive X id v M hd (small_sz (by rw [hX]; exact c)); unfold WGPost at h; rwa [hX] at h
    have HE := Lib.hid (fun V (L L' L2 : List Asn) (X Y : Wm) (Z : Wd) (hX : X.wd = Z) (hY : Y.wd = Z) (M : Mem w [] V L) (hd : Del (wld X) L L') (hd' : Del (wld Y) L L2) => lEqWorld X Y (hY.trans hX.symm) V.heap.size V (M.readsW hd) (M.readsW hd') (Nat.le_refl _))
    have HMG := Lib.hid (fun V (L L' : List Asn) (X : Wm) (hX : X.wd = W.wd) (M : Mem w [] V L) (hd : Del (wld X) L L') => lMarkGone X (by rw [hX]; exact c) M hd)
    have sz := wGive_size W.wd id v (sizesR_nonneg _)
    have sb := sizeW_bounds c
    have sr : sizesR W.wd.runs ≤ 1048576 := sizesR_bound c
    have HMK := Lib.hid (fun V (L L' : List Asn) (X : Wm) (hX : X.wd = worldGive W.wd id v) (M : Mem w [] V L) (hd : Del (wld X) L L') => lMarkKept (worldGive W.wd id v) (Nat.le_trans sz.1 sb.1) (Nat.le_trans sz.2.1 (by rw [runsLen]; exact sb.2.1)) (by omega) (by omega) X hX M hd)
    have HH := Lib.hid (fun V (L L' : List Asn) (X : Wm) (z : Int) (hX : X.wd = worldGive W.wd id v) (hz : z = mkEnd 1 X) (M : Mem w [] V L) (hd : Del (wld (mkW 1 X)) L L') => lHeldKept (worldGive W.wd id v) (Nat.le_trans sz.1 sb.1) (Nat.le_trans sz.2.1 (by rw [runsLen]; exact sb.2.1)) (by omega) (by omega) X hX z hz M hd)
    generalize worldGive W.wd id v = R at HS HI HMK HH
    generalize hZ0 : szTo 1048576 (sizeW W.wd) = z at c HZ
    clear h hs sz sb sr hZ0
    obtain ⟨vk, vn⟩ := v
    simp only at HV HS HI ⊢
    go_enter Tryz.func7, Tryz.ntmps7
    go_upto_if 19 with (first
      | (with_reducible refine alAw M ?_; clear M; (try clear F); intro w1 M F)
      | (go_at_call 12; (refine nmKw ?_; clear M; (try clear F); intro w1 M F); refine (HZ.out _ M.toBelow).mono ?_; rintro e w2 ⟨rfl, hb⟩; replace M := M.below hb; clear hb; (try clear F); have F := fxw M))
    go_cut [3, 5] from 15 (fun s3 s5 wx => ∃ (g3 g5 : Nat), s3 = .pointer (some ⟨g3, 0, none⟩) ∧ s5 = .pointer (some ⟨g5, 0, none⟩) ∧ Mem w [] wx [blk g3 26 [.slice W.cA W.code.length W.cC, .slice W.rA W.ps.length W.rC, .slice W.qA W.queue.length W.qC, .int .i64 W.now, .int .i64 W.sent, .int .i64 W.taken, .int .i64 W.lost], blk g5 42 [.int .i64 vk, .int .i64 vn]])
    case first =>
      go_wp2
      go_meet
      case rel => exact ⟨_, _, rfl, rfl, M.sel sl⟩
    obtain ⟨g3, g5, rfl, rfl, M⟩ := hcut
    (try clear F); have F := fxw M
    go_wp2
    go_cut [8] from 15 (fun s8 wx => ∃ (g8 : Nat) (Y0 : Wm), s8 = .pointer (some ⟨g8, 0, none⟩) ∧ Hid (Y0.wd = R) ∧ Mem w [] wx [blk g8 tW [.slice Y0.cA Y0.code.length Y0.cC, .slice Y0.rA Y0.ps.length Y0.rC, .slice Y0.qA Y0.queue.length Y0.qC, .int .i64 Y0.now, .int .i64 Y0.sent, .int .i64 Y0.taken, .int .i64 Y0.lost], wld Y0, blk g3 26 [.slice W.cA W.code.length W.cC, .slice W.rA W.ps.length W.rC, .slice W.qA W.queue.length W.qC, .int .i64 W.now, .int .i64 W.sent, .int .i64 W.taken, .int .i64 W.lost], blk g5 42 [.int .i64 vk, .int .i64 vn]])
    case first =>
      go_region_held3 (fun U => (∀ j, U.cell? ⟨g3, j, none⟩ = ([.slice W.cA W.code.length W.cC, .slice W.rA W.ps.length W.rC, .slice W.qA W.queue.length W.qC, .int .i64 W.now, .int .i64 W.sent, .int .i64 W.taken, .int .i64 W.lost] : List Value)[j]?) ∧ ∀ j, U.cell? ⟨g5, j, none⟩ = ([.int .i64 vk, .int .i64 vn] : List Value)[j]?) ((refine ⟨?_, ?_⟩ <;> (exact kc))) (first
        | (go_at_call 14; (refine nmKw ?_; clear M; (try clear F); intro w1 M F); refine (HT.out _ M.toBelow).mono ?_; rintro e w2 ⟨X, hX, rfl, hm⟩; have hX := Lib.hid hX; replace M := M.call0 hm; clear hm; (try clear F); have F := fxw M)
        | (go_at_call 28; (refine nmKw ?_; clear M; (try clear F); intro w1 M F); refine (HV.out _).mono ?_; rintro e w2 ⟨rfl, hb⟩; replace M := M.below hb; clear hb; (try clear F); have F := fxw M)
        | (go_at_call 27; (refine nmKw ?_; clear M; (try clear F); intro w1 M F); refine (HS.out _ _ _ X hX.out M dl).mono ?_; clear M; rintro e w2 ⟨Y, hY, rfl, M⟩; (try clear F); have F := fxw M))
      all_goals go_wp2
      all_goals ((refine nmw (G := fun W => Met _ _ W) ?_; clear M; (try clear F); intro w1 M F); go_meet; case rel => exact ⟨_, Y, rfl, hY, M.sel sl⟩)
    case rest =>
      obtain ⟨g8, Y0, rfl, hY0, M⟩ := hcut
      (try clear F); have F := fxw M
      go_upto_region 6 with (fail)
      go_cut [9] from 15 (fun s9 wx => ∃ (g9 : Nat) (X : Wm), s9 = .pointer (some ⟨g9, 0, none⟩) ∧ Hid (X.wd = W.wd) ∧ Mem w [] wx [blk g9 tW [.slice X.cA X.code.length X.cC, .slice X.rA X.ps.length X.rC, .slice X.qA X.queue.length X.qC, .int .i64 X.now, .int .i64 X.sent, .int .i64 X.taken, .int .i64 X.lost], wld X, blk g8 tW [.slice Y0.cA Y0.code.length Y0.cC, .slice Y0.rA Y0.ps.length Y0.rC, .slice Y0.qA Y0.queue.length Y0.qC, .int .i64 Y0.now, .int .i64 Y0.sent, .int .i64 Y0.taken, .int .i64 Y0.lost], wld Y0, blk g3 26 [.slice W.cA W.code.length W.cC, .slice W.rA W.ps.length W.rC, .slice W.qA W.queue.length W.qC, .int .i64 W.now, .int .i64 W.sent, .int .i64 W.taken, .int .i64 W.lost], blk g5 42 [.int .i64 vk, .int .i64 vn]])
      case first =>
        go_wp2_with (first
          | (with_reducible refine alAw M ?_; clear M; (try clear F); intro w1 M F) | ((with_reducible apply ev_store (M := M)); rfl; rfl; ((conv => lhs; whnf) <;> rfl); rfl; (first | exact siI | exact siR | exact siV | exact siB | exact siSI | exact siSV | exact siW | exact siSR | exact siSO | exact siO); (exact one_all rfl); (exact dl); (exact Nat.le_of_ble_eq_true rfl); clear M; intro w1 M; simp only [SX] at M; (try clear F); have F := fxw M) | ((with_reducible refine goal_drewN (G := fun W => wpList _ _ _ _ _ W) M ?_); clear M; intro w1 M; (try clear F); have F := fxw M) | ((with_reducible refine goal_drew (G := fun W => wpList _ _ _ _ _ W) M ?_); clear M; intro w1 M; (try clear F); have F := fxw M) | ((with_reducible refine isSet (G := fun W => wpList _ _ _ _ _ W) ?_); (with_reducible refine nmw (G := fun W => wpList _ _ _ _ _ W) ?_; clear M; (try clear F); intro w1 M F))
          | (go_at_call 14; (refine nmKw ?_; clear M; (try clear F); intro w1 M F); refine (HT.out _ M.toBelow).mono ?_; rintro e w2 ⟨X, hX, rfl, hm⟩; have hX := Lib.hid hX; replace M := M.call0 hm; clear hm; (try clear F); have F := fxw M))
        go_meet
        case rel => exact ⟨_, X, rfl, hX, M.sel sl⟩
      obtain ⟨g9, X, rfl, hX, M⟩ := hcut
      (try clear F); have F := fxw M
      go_wp2
      go_cut [10] from 15 (fun s10 wx => ∃ (g10 : Nat) (Y1 : Wm), s10 = .pointer (some ⟨g10, 0, none⟩) ∧ Hid (Y1.wd = R) ∧ Mem w [] wx [blk g10 tW [.slice Y1.cA Y1.code.length Y1.cC, .slice Y1.rA Y1.ps.length Y1.rC, .slice Y1.qA Y1.queue.length Y1.qC, .int .i64 Y1.now, .int .i64 Y1.sent, .int .i64 Y1.taken, .int .i64 Y1.lost], wld Y1, blk g9 tW [.slice X.cA X.code.length X.cC, .slice X.rA X.ps.length X.rC, .slice X.qA X.queue.length X.qC, .int .i64 X.now, .int .i64 X.sent, .int .i64 X.taken, .int .i64 X.lost], wld X, blk g8 tW [.slice Y0.cA Y0.code.length Y0.cC, .slice Y0.rA Y0.ps.length Y0.rC, .slice Y0.qA Y0.queue.length Y0.qC, .int .i64 Y0.now, .int .i64 Y0.sent, .int .i64 Y0.taken, .int .i64 Y0.lost], wld Y0, blk g3 26 [.slice W.cA W.code.length W.cC, .slice W.rA W.ps.length W.rC, .slice W.qA W.queue.length W.qC, .int .i64 W.now, .int .i64 W.sent, .int .i64 W.taken, .int .i64 W.lost], blk g5 42 [.int .i64 vk, .int .i64 vn]])
      case first =>
        go_region_held3 (fun U => (∀ j, U.cell? ⟨g9, j, none⟩ = ([.slice X.cA X.code.length X.cC, .slice X.rA X.ps.length X.rC, .slice X.qA X.queue.length X.qC, .int .i64 X.now, .int .i64 X.sent, .int .i64 X.taken, .int .i64 X.lost] : List Value)[j]?) ∧ ∀ j, U.cell? ⟨g5, j, none⟩ = ([.int .i64 vk, .int .i64 vn] : List Value)[j]?) ((refine ⟨?_, ?_⟩ <;> (exact kc))) (first
          | (go_at_call 28; (refine nmKw ?_; clear M; (try clear F); intro w1 M F); refine (HV.out _).mono ?_; rintro e w2 ⟨rfl, hb⟩; replace M := M.below hb; clear hb; (try clear F); have F := fxw M)
          | (go_at_call 29; (refine nmKw ?_; clear M; (try clear F); intro w1 M F); refine (HI.out _ _ _ X hX.out M dl).mono ?_; clear M; rintro e w2 ⟨Y, hY, rfl, M⟩; (try clear F); have F := fxw M))
        all_goals go_wp2
        all_goals ((refine nmw (G := fun W => Met _ _ W) ?_; clear M; (try clear F); intro w1 M F); go_meet; case rel => exact ⟨_, Y, rfl, hY, M.sel sl⟩)
      case rest =>
        obtain ⟨g10, Y1, rfl, hY1, M⟩ := hcut
        (try clear F); have F := fxw M
        go_wp2_with (first
          | (with_reducible refine alAw M ?_; clear M; (try clear F); intro w1 M F) | ((with_reducible apply ev_store (M := M)); rfl; rfl; ((conv => lhs; whnf) <;> rfl); rfl; (first | exact siI | exact siR | exact siV | exact siB | exact siSI | exact siSV | exact siW | exact siSR | exact siSO | exact siO); (exact one_all rfl); (exact dl); (exact Nat.le_of_ble_eq_true rfl); clear M; intro w1 M; simp only [SX] at M; (try clear F); have F := fxw M) | ((with_reducible refine goal_drewN (G := fun W => wpList _ _ _ _ _ W) M ?_); clear M; intro w1 M; (try clear F); have F := fxw M) | ((with_reducible refine goal_drew (G := fun W => wpList _ _ _ _ _ W) M ?_); clear M; intro w1 M; (try clear F); have F := fxw M) | ((with_reducible refine isSet (G := fun W => wpList _ _ _ _ _ W) ?_); (with_reducible refine nmw (G := fun W => wpList _ _ _ _ _ W) ?_; clear M; (try clear F); intro w1 M F))
          | (go_at_call 16; (refine nmKw ?_; clear M; (try clear F); intro w1 M F); refine (HE.out _ _ _ _ _ _ _ hY1.out hY0.out M dl dl).mono ?_; rintro e w2 ⟨rfl, hb⟩; replace M := M.below hb; clear hb; (try clear F); have F := fxw M))
        go_cut [41] from 15 (fun s41 wx => s41 = .bool false ∧ Mem w [] wx [blk g10 tW [.slice Y1.cA Y1.code.length Y1.cC, .slice Y1.rA Y1.ps.length Y1.rC, .slice Y1.qA Y1.queue.length Y1.qC, .int .i64 Y1.now, .int .i64 Y1.sent, .int .i64 Y1.taken, .int .i64 Y1.lost], wld Y1, blk g9 tW [.slice X.cA X.code.length X.cC, .slice X.rA X.ps.length X.rC, .slice X.qA X.queue.length X.qC, .int .i64 X.now, .int .i64 X.sent, .int .i64 X.taken, .int .i64 X.lost], wld X, blk g8 tW [.slice Y0.cA Y0.code.length Y0.cC, .slice Y0.rA Y0.ps.length Y0.rC, .slice Y0.qA Y0.queue.length Y0.qC, .int .i64 Y0.now, .int .i64 Y0.sent, .int .i64 Y0.taken, .int .i64 Y0.lost], wld Y0, blk g3 26 [.slice W.cA W.code.length W.cC, .slice W.rA W.ps.length W.rC, .slice W.qA W.queue.length W.qC, .int .i64 W.now, .int .i64 W.sent, .int .i64 W.taken, .int .i64 W.lost], blk g5 42 [.int .i64 vk, .int .i64 vn]])
        case first =>
          go_region_held3 (fun U => (∀ j, U.cell? ⟨g9, j, none⟩ = ([.slice X.cA X.code.length X.cC, .slice X.rA X.ps.length X.rC, .slice X.qA X.queue.length X.qC, .int .i64 X.now, .int .i64 X.sent, .int .i64 X.taken, .int .i64 X.lost] : List Value)[j]?) ∧ ∀ j, U.cell? ⟨g3, j, none⟩ = ([.slice W.cA W.code.length W.cC, .slice W.rA W.ps.length W.rC, .slice W.qA W.queue.length W.qC, .int .i64 W.now, .int .i64 W.sent, .int .i64 W.taken, .int .i64 W.lost] : List Value)[j]?) ((refine ⟨?_, ?_⟩ <;> (exact kc))) (first
            | (go_at_call 14; (refine nmKw ?_; clear M; (try clear F); intro w1 M F); refine (HT.out _ M.toBelow).mono ?_; rintro e w2 ⟨Y, hY, rfl, hm⟩; have hY := Lib.hid hY; replace M := M.call0 hm; clear hm; (try clear F); have F := fxw M)
            | (go_at_call 16; (refine nmKw ?_; clear M; (try clear F); intro w1 M F); refine (HE.out _ _ _ _ _ _ _ hX.out hY.out M dl dl).mono ?_; rintro e w2 ⟨rfl, hb⟩; replace M := M.below hb; clear hb; (try clear F); have F := fxw M))
          all_goals go_wp2
          all_goals ((refine nmw (G := fun W => Met _ _ W) ?_; clear M; (try clear F); intro w1 M F); go_meet; case rel => exact ⟨rfl, M.sel sl⟩)
        case rest =>
          obtain ⟨rfl, M⟩ := hcut
          (try clear F); have F := fxw M
          go_upto_region 24 with (first
            | (with_reducible refine alAw M ?_; clear M; (try clear F); intro w1 M F) | ((with_reducible apply ev_store (M := M)); rfl; rfl; ((conv => lhs; whnf) <;> rfl); rfl; (first | exact siI | exact siR | exact siV | exact siB | exact siSI | exact siSV | exact siW | exact siSR | exact siSO | exact siO); (exact one_all rfl); (exact dl); (exact Nat.le_of_ble_eq_true rfl); clear M; intro w1 M; simp only [SX] at M; (try clear F); have F := fxw M) | ((with_reducible refine goal_drewN (G := fun W => wpList _ _ _ _ _ W) M ?_); clear M; intro w1 M; (try clear F); have F := fxw M) | ((with_reducible refine goal_drew (G := fun W => wpList _ _ _ _ _ W) M ?_); clear M; intro w1 M; (try clear F); have F := fxw M) | ((with_reducible refine isSet (G := fun W => wpList _ _ _ _ _ W) ?_); (with_reducible refine nmw (G := fun W => wpList _ _ _ _ _ W) ?_; clear M; (try clear F); intro w1 M F))
            | (go_at_call 16; (refine nmKw ?_; clear M; (try clear F); intro w1 M F); refine (HE.out _ _ _ _ _ _ _ hY1.out hY0.out M dl dl).mono ?_; rintro e w2 ⟨rfl, hb⟩; replace M := M.below hb; clear hb; (try clear F); have F := fxw M)
            | (go_at_call 24; (refine nmKw ?_; clear M; (try clear F); intro w1 M F); with_reducible refine (HMG.out _ _ _ X hX.out M dl).mono ?_; clear M; rintro e w2 ⟨zz, hzz, rfl, M⟩; (try clear F); have F := fxw M)
            | (go_at_call 24; (refine nmKw ?_; clear M; (try clear F); intro w1 M F); with_reducible refine (HMK.out _ _ _ Y1 hY1.out M dl).mono ?_; clear M; rintro e w2 ⟨zq, hzq, hze, rfl, M⟩; (try clear F); have F := fxw M)
            | (go_at_call 30; (refine nmKw ?_; clear M; (try clear F); intro w1 M F); refine (HH.out _ _ _ Y1 _ hY1.out hze.out M dl).mono ?_; rintro e w2 ⟨rfl, hb⟩; replace M := M.below hb; clear hb; (try clear F); have F := fxw M))
          go_cut [14] from 15 (fun s14 wx => ∃ (g14 : Nat) (Y2 : Wm), s14 = .pointer (some ⟨g14, 0, none⟩) ∧ Hid (Y2.wd = R) ∧ Mem w [] wx [blk g14 tW [.slice Y2.cA Y2.code.length Y2.cC, .slice Y2.rA Y2.ps.length Y2.rC, .slice Y2.qA Y2.queue.length Y2.qC, .int .i64 Y2.now, .int .i64 Y2.sent, .int .i64 Y2.taken, .int .i64 Y2.lost], wld Y2, blk g10 tW [.slice Y1.cA Y1.code.length Y1.cC, .slice Y1.rA Y1.ps.length Y1.rC, .slice Y1.qA Y1.queue.length Y1.qC, .int .i64 Y1.now, .int .i64 Y1.sent, .int .i64 Y1.taken, .int .i64 Y1.lost], wld (mkW 1 Y1), blk g8 tW [.slice Y0.cA Y0.code.length Y0.cC, .slice Y0.rA Y0.ps.length Y0.rC, .slice Y0.qA Y0.queue.length Y0.qC, .int .i64 Y0.now, .int .i64 Y0.sent, .int .i64 Y0.taken, .int .i64 Y0.lost], wld Y0])
          case first =>
            go_region_held3 (fun U => (∀ j, U.cell? ⟨g3, j, none⟩ = ([.slice W.cA W.code.length W.cC, .slice W.rA W.ps.length W.rC, .slice W.qA W.queue.length W.qC, .int .i64 W.now, .int .i64 W.sent, .int .i64 W.taken, .int .i64 W.lost] : List Value)[j]?) ∧ ∀ j, U.cell? ⟨g5, j, none⟩ = ([.int .i64 vk, .int .i64 vn] : List Value)[j]?) ((refine ⟨?_, ?_⟩ <;> (exact kc))) (first
              | (go_at_call 14; (refine nmKw ?_; clear M; (try clear F); intro w1 M F); refine (HT.out _ M.toBelow).mono ?_; rintro e w2 ⟨Z, hZ, rfl, hm⟩; have hZ := Lib.hid hZ; replace M := M.call0 hm; clear hm; (try clear F); have F := fxw M)
              | (go_at_call 28; (refine nmKw ?_; clear M; (try clear F); intro w1 M F); refine (HV.out _).mono ?_; rintro e w2 ⟨rfl, hb⟩; replace M := M.below hb; clear hb; (try clear F); have F := fxw M)
              | (go_at_call 29; (refine nmKw ?_; clear M; (try clear F); intro w1 M F); refine (HI.out _ _ _ Z hZ.out M dl).mono ?_; clear M; rintro e w2 ⟨Y, hY, rfl, M⟩; (try clear F); have F := fxw M))
            all_goals go_wp2
            all_goals ((refine nmw (G := fun W => Met _ _ W) ?_; clear M; (try clear F); intro w1 M F); go_meet; case rel => exact ⟨_, Y, rfl, hY, M.sel sl⟩)
          case rest =>
            obtain ⟨g14, Y2, rfl, hY2, M⟩ := hcut
            (try clear F); have F := fxw M
            go_wp2_with (first
              | (with_reducible refine alAw M ?_; clear M; (try clear F); intro w1 M F) | ((with_reducible apply ev_store (M := M)); rfl; rfl; ((conv => lhs; whnf) <;> rfl); rfl; (first | exact siI | exact siR | exact siV | exact siB | exact siSI | exact siSV | exact siW | exact siSR | exact siSO | exact siO); (exact one_all rfl); (exact dl); (exact Nat.le_of_ble_eq_true rfl); clear M; intro w1 M; simp only [SX] at M; (try clear F); have F := fxw M) | ((with_reducible refine goal_drewN (G := fun W => wpList _ _ _ _ _ W) M ?_); clear M; intro w1 M; (try clear F); have F := fxw M) | ((with_reducible refine goal_drew (G := fun W => wpList _ _ _ _ _ W) M ?_); clear M; intro w1 M; (try clear F); have F := fxw M) | ((with_reducible refine isSet (G := fun W => wpList _ _ _ _ _ W) ?_); (with_reducible refine nmw (G := fun W => wpList _ _ _ _ _ W) ?_; clear M; (try clear F); intro w1 M F))
              | (go_at_call 16; (refine nmKw ?_; clear M; (try clear F); intro w1 M F); refine (HE.out _ _ _ _ _ _ _ hY2.out hY0.out M dl dl).mono ?_; rintro e w2 ⟨rfl, hb⟩; replace M := M.below hb; clear hb; (try clear F); have F := fxw M)
              | (go_at_call 30; (refine nmKw ?_; clear M; (try clear F); intro w1 M F); refine (HH.out _ _ _ Y1 _ hY1.out hze.out M dl).mono ?_; rintro e w2 ⟨rfl, hb⟩; replace M := M.below hb; clear hb; (try clear F); have F := fxw M))
            go_ret
            exact ⟨rfl, M.toBelow⟩
end Go.Proofs.YtomolbhcggaakaaGreat
/- The law FnExactWorldGive returns true at all arguments, and its arguments read behind the call as before. -/
namespace Go.Proofs.YtomolbhcggaakaaGreat.fnExactWorldGive
open Go.ChangeShapes Go.WideShapes Go.ChangeAt Go.RowKit
open Go.ChangeMaps (open_string shut_string)
theorem own : ownKnob Tryz.prog.godebug = none := by kernel_rfl
theorem laidOut : laidOutB Tryz.prog = true := by kernel_rfl

set_option maxRecDepth 100000 in
theorem open_valA {H : Type} {enc : TypeId × Value → H} {w : World} {base : Nat} {re : Reach} {v : Value} {d : DataW H} {p : List MemPlace} (hv : Value.okWide Tryz.prog w re base 42 v) (h : DataW.Trod enc Tryz.prog w 0 (fun _ => true) true 42 v d p) : ∃ x : Vl, v = .agg #[.int .i64 x.k, .int .i64 x.n] := by
  obtain ⟨cs, rfl, hsz⟩ := okWide_struct Tryz.underlying42 hv
  obtain ⟨l⟩ := cs
  obtain ⟨fuel, hf⟩ := h
  obtain ⟨x, hx⟩ := open_val hf
  simp only [Value.cells] at hx
  exact ⟨x, by rw [hx]; rfl⟩

set_option maxRecDepth 100000 in
theorem lifted (os : Os) (started : os.Started) (H : Type) (enc : TypeId × Value → H) :
    ReturnsInHanded {} Tryz.checked os 7 .any (Rows.fnExactWorldGiveSpec.pre6 enc Tryz.prog Tryz.f7 Rows.fnExactWorldGiveRow.domain false) (Rows.fnExactWorldGiveSpec.post enc Tryz.prog Tryz.f7 false true false false) := by
  refine returnsInHanded_of_change_sized (C := Tryz.checked) own started (by kernel_rfl) Tryz.func7
    (ChangeSpec.witness6 (enc := enc) (C := Tryz.checked) false ⟨#[], #[.agg #[.slice none 0 0, .slice none 0 0, .slice none 0 0, .int .i64 0, .int .i64 0, .int .i64 0, .int .i64 0], .int .i64 0, .agg #[.int .i64 0, .int .i64 0]], []⟩ 8 (by kernel_rfl) (by kernel_rfl) (by kernel_rfl) (by kernel_rfl)) ?_
  intro W base args ds gs before hval0 hW hcnd hsz0 _
  have hsz : (DataW.weightsEach Tryz.prog (Tryz.f7.params.toList ++ Rows.fnExactWorldGiveSpec.plain.varTypes Tryz.prog) (ds ++ gs)).all (· ≤ reachBytes) = true := hsz0
  have hval : ∀ (j : Nat) t v, Tryz.f7.params[j]? = some t → args[j]? = some v → Value.okWide Tryz.prog W .any base t v := hval0
  have hW' := hW
  obtain ⟨p, q, hA0, hV, rfl, hfz, hnd⟩ := hW
  have hA : DataW.TrodAll enc Tryz.prog W 0 (fun _ => true) true Tryz.f7.params.toList args.toList ds p := hA0
  rw [Tryz.params7] at hA hval hsz
  obtain ⟨v0, vs0, d0, ds0, p0, q0, hargs, rfl, rfl, h0, r0⟩ := trodAll_cons hA
  obtain ⟨v1, vs1, d1, ds1, p1, q1, rfl, rfl, rfl, h1, r1⟩ := trodAll_cons r0
  obtain ⟨v2, vs2, d2, ds2, p2, q2, rfl, rfl, rfl, h2, r2⟩ := trodAll_cons r1
  obtain ⟨rfl, rfl, rfl⟩ := trodAll_nil r2
  obtain rfl : args = #[v0, v1, v2] := by cases args; simp_all
  obtain ⟨rfl, rfl⟩ := trodVars_none hV
  have lt0 : ∀ x ∈ p0, x.block < W.heap.size := by obtain ⟨m, hm⟩ := h0; exact DataW.trod_lt m _ _ _ hm
  have lt2 : ∀ x ∈ p2, x.block < W.heap.size := by obtain ⟨m, hm⟩ := h2; exact DataW.trod_lt m _ _ _ hm
  obtain ⟨Wx, rfl, hWr, hWs, hWl⟩ := open_world (hval 0 26 v0 rfl rfl) h0 (fun k hk => by
    have := List.all_eq_true.1 hsz _ (DataW.weights_mem_each (j := 0) rfl rfl k hk)
    simpa using this)
  obtain ⟨s, rfl, rfl, rfl, wk1⟩ := open_int Tryz.underlying3 (hval 1 3 v1 rfl rfl) h1
  obtain ⟨v, rfl⟩ := open_valA (hval 2 42 v2 rfl rfl) h2
  clear hA0 hval0 hsz0 hsz
  refine (fnExactWorldGive_walk Wx s v W hWr hWs).mono fun e W' ⟨he, bel⟩ => ?_
  subst he
  exact ⟨_, rfl, _, _, _, [], _, [], hW', trodAll_mk1 (shut_bool Tryz.underlying4 _), (trodAll_cons_mk (Below.trod laidOut (by kernel_rfl) (of_decide_eq_true (by kernel_rfl)) h0 bel lt0) (trodAll_cons_mk (shut_int Tryz.underlying3 wk1) (trodAll_cons_mk (Below.trod laidOut (by kernel_rfl) (of_decide_eq_true (by kernel_rfl)) h2 bel lt2) trodAll_mk0))), rfl, bel.frame _, fun h => by cases h⟩

theorem over : Rows.fnExactWorldGiveRow.holds Tryz.pinned (OpenSpec.ofChange Rows.fnExactWorldGiveSpec) :=
  OpenClaim.holds_of_wide 7 Tryz.f7 rfl rfl rfl rfl rfl rfl rfl ⟨rfl, rfl, rfl, rfl, rfl⟩ rfl rfl rfl rfl rfl (by kernel_rfl) Tryz.func7 (by kernel_rfl)
    (of_decide_eq_true (by kernel_rfl)) (by unfold Func.isWrapper; first | (rw [if_pos (by decide +kernel)]; kernel_rfl) | (rw [if_neg (by decide +kernel)]; exact ⟨rfl, rfl⟩))
    (fun os started H enc _ => lifted os started H enc)
theorem proved : Rows.FnExactWorldGiveSaid := over
#print axioms proved
end Go.Proofs.YtomolbhcggaakaaGreat.fnExactWorldGive
