/- Parts of the proof, in one text. -/
import Derived.Deep.Cut
import Derived.Test.YtomolbhcggaakaaGreatH27
import Derived.Test.YtomolbhcggaakaaGreatH05
import Derived.Test.YtomolbhcggaakaaGreatH50
/- The laws' marks on a world. -/
namespace Go.Proofs.YtomolbhcggaakaaGreat
open Go.RowKit
set_option maxRecDepth 100000

def mkQ (k : Int) (W : Wm) : Int := mksN (k + 6 * W.code.length) W.ps
def mkW (k : Int) (W : Wm) : Wm := { W with code := marksO k W.code.length, ps := mksP (k + 6 * W.code.length) W.ps, queue := marksI (mkQ k W) W.queue.length }
def mkEnd (k : Int) (W : Wm) : Int := mkQ k W + W.queue.length
def MkWPost (k0 : Int) (W : Wm) (w0 : World) (f : List Nat) (L : List Asn) (e : Ending) (w' : World) : Prop := e = .returned (.int .i64 (mkEnd k0 W)) ∧ Mem w0 f w' (wld (mkW k0 W) :: L)
theorem mkEnd_le {k0 : Int} {W : Wm} (h0 : 0 ≤ k0) (h1 : k0 ≤ 1000000) (s1 : W.code.length ≤ 1048576) (s2 : W.ps.length ≤ 1048576) (s3 : W.queue.length ≤ 1048576) (s4 : sizesR (W.ps.map (·.1)) ≤ 100000000) : (0 ≤ mkQ k0 W ∧ mkQ k0 W ≤ 1000000000) ∧ 0 ≤ mkEnd k0 W ∧ mkEnd k0 W ≤ 2000000000 := by
  have h := mksN_le (k0 + 6 * W.code.length) W.ps
  have e : mkQ k0 W = mksN (k0 + 6 * W.code.length) W.ps := rfl
  have e2 : mkEnd k0 W = mkQ k0 W + W.queue.length := rfl
  omega
set_option maxHeartbeats 2000000 in
theorem lMarkWorld (W : Wm) (k0 : Int) {w0 w : World} {f : List Nat} {L L' : List Asn} (M : Mem w0 f w L) (hd : Del (wld W) L L') (h0 : 0 ≤ k0) (h1 : k0 ≤ 1000000) (s1 : W.code.length ≤ 1048576) (s2 : W.ps.length ≤ 1048576) (s3 : W.queue.length ≤ 1048576) (s4 : sizesR (W.ps.map (·.1)) ≤ 100000000) :
    Calls Tryz.prog 24 #[.agg (wArr W), .int .i64 k0] w (MkWPost k0 W w0 f L') := by
  have B := mkEnd_le h0 h1 s1 s2 s3 s4
  have HC := Lib.hid (fun V (L L' : List Asn) (M : Mem w0 f V L) (hd : Del (rowO W.cA W.cC W.code) L L') => lMarkOpS W.code W.cA W.cC k0 M hd h0 (by omega) (by omega))
  have HR := Lib.hid (fun V (L : List Asn) (M : Mem w0 f V (rowR W.rA W.rC W.ps :: rws W.ps :: L)) => lMarkRunS W.ps W.rA W.rC (k0 + 6 * W.code.length) M (by omega) (by omega) s2 (by omega))
  have HQ := Lib.hid (fun V (L L' : List Asn) (M : Mem w0 f V L) (hd : Del (rowI W.qA W.qC W.queue) L L') => mMarkI W.queue W.qA W.qC (mkQ k0 W) M hd (by omega) (by omega))
  unfold MkPost at HR
  have HF : Hid (∀ V z, z = mkQ k0 W + W.queue.length → Mem w0 f V (rowO W.cA W.cC (marksO k0 W.code.length) :: rowR W.rA W.rC (mksP (k0 + 6 * W.code.length) W.ps) :: rowI W.qA W.qC (marksI (mkQ k0 W) W.queue.length) :: rws (mksP (k0 + 6 * W.code.length) W.ps) :: L') → MkWPost k0 W w0 f L' (.returned (.int .i64 z)) V) := fun V z hz M => ⟨by rw [hz]; rfl, Mem.pack (L' := wldL (mkW k0 W)) M⟩
  have M : Mem w0 f w (rowO W.cA W.cC W.code :: rowR W.rA W.rC W.ps :: rowI W.qA W.qC W.queue :: rws W.ps :: L') := Mem.unpack (L' := wldL W) (M.pull hd)
  have e0 : mksN (k0 + 6 * W.code.length) W.ps = mkQ k0 W := rfl
  rw [e0] at HR
  clear hd B s1 s2 s3 s4 h0 h1 e0
  obtain ⟨code, cA, cC, ps, rA, rC, queue, qA, qC, now, sent, taken, lost⟩ := W
  simp only at *
  generalize mkQ k0 ⟨code, cA, cC, ps, rA, rC, queue, qA, qC, now, sent, taken, lost⟩ = q at HR HQ HF
  generalize mksP (k0 + 6 * code.length) ps = ms at HR HF
  generalize marksO k0 code.length = mo at HC HF
  generalize marksI q queue.length = mi at HQ HF
  go_enter Tryz.func24, Tryz.ntmps24
  go_wp2_with (first
    | (with_reducible refine alAw M ?_; clear M; (try clear F); intro w1 M F)
    | (go_at_call 63; (refine nmKw ?_; clear M; (try clear F); intro w1 M F); refine (HC.out _ _ _ M dl).mono ?_; clear M; rintro e w2 ⟨rfl, M⟩; (try clear F); have F := fxw M)
    | (go_at_call 64; (refine nmKw ?_; clear M; (try clear F); intro w1 M F); (have M1 := M.sel (T := rowR rA rC ps :: rws ps :: rowO cA cC mo :: rowI qA qC queue :: blk _ tW _ :: L') sl); refine (HR.out _ _ M1).mono ?_; clear M M1; rintro e w2 ⟨rfl, M⟩; (try clear F); have F := fxw M)
    | (go_at_call 25; (refine nmKw ?_; clear M; (try clear F); intro w1 M F); refine (HQ.out _ _ _ M dl).mono ?_; clear M; rintro e w2 ⟨rfl, M⟩; (try clear F); have F := fxw M))
  go_ret
  exact HF.out _ _ rfl (M.sel sl)
end Go.Proofs.YtomolbhcggaakaaGreat
/- The law FnExactWorldAlive, walked. -/
namespace Go.Proofs.YtomolbhcggaakaaGreat
open Go.RowKit
set_option maxRecDepth 100000

theorem alive_len (w : Wd) : (worldAlive w).length ≤ w.runs.length := by
  unfold worldAlive
  split
  · exact alive_le _ _
  · simp
theorem sizesR_bound {W : Wm} (c : ¬ szTo 1048576 (sizeW W.wd) < 0) : sizesR (W.ps.map (·.1)) ≤ 1048576 := by
  have h : sizeW W.wd ≤ 1048576 := by
    unfold szTo at c
    split at c
    · exact absurd (by decide) c
    · omega
  have e : sizeW W.wd = W.code.length + (W.ps.length + sizesR (W.ps.map (·.1))) + W.queue.length := by simp [sizeW, Wm.wd]
  omega
/-- A law's world is marked, and given up. -/
theorem lMarkGone (X : Wm) (c : ¬ szTo 1048576 (sizeW X.wd) < 0) {w0 w : World} {f : List Nat} {L L' : List Asn} (M : Mem w0 f w L) (hd : Del (wld X) L L') :
    Calls Tryz.prog 24 #[.agg (wArr X), .int .i64 1] w fun e w' => ∃ z : Int, ¬ z < 0 ∧ e = .returned (.int .i64 z) ∧ Mem w0 f w' L' := by
  have s := sizeW_bounds c
  have s4 := sizesR_bound c
  refine (lMarkWorld X 1 M hd (by decide) (by decide) s.1 s.2.1 s.2.2.1 (by omega)).mono ?_
  rintro e w' ⟨rfl, M⟩
  exact ⟨_, by have := mkEnd_le (k0 := 1) (W := X) (by decide) (by decide) s.1 s.2.1 s.2.2.1 (by omega); omega, rfl, M.drop⟩
set_option maxHeartbeats 4000000 in
theorem fnExactWorldAlive_walk (W : Wm) (w : World) (h : ReadsW w w.heap.size W) (hs : SizesW W) :
    Calls Tryz.prog 6 #[.agg (wArr W)] w fun e w' => e = .returned (.bool true) ∧ Below w.heap.size w w' := by
  have HZ := Lib.hid (fun V (hb : Below w.heap.size w V) => lSzWorld W 1048576 w.heap.size V (h.below hb (Nat.le_refl _)) hb.size hs (by decide) (by decide))
  unfold SzPostW at HZ
  have M := Mem.nil w
  by_cases c : szTo 1048576 (sizeW W.wd) < 0
  · generalize szTo 1048576 (sizeW W.wd) = z at c HZ
    clear h hs
    go_enter Tryz.func6, Tryz.ntmps6
    go_wp2_with (first
      | (with_reducible refine alAw M ?_; clear M; (try clear F); intro w1 M F)
      | (go_at_call 12; (refine nmKw ?_; clear M; (try clear F); intro w1 M F); refine (HZ.out _ M.toBelow).mono ?_; rintro e w2 ⟨rfl, hb⟩; replace M := M.below hb; clear hb; (try clear F); have F := fxw M))
    go_ret
    exact ⟨rfl, M.toBelow⟩
  · have HT := Lib.hid (fun V (hb : Below w.heap.size w V) => lToWorldZ W w.heap.size V (h.below hb (Nat.le_refl _)) hb.size c)
    have HS : Hid (∀ (V : World) (L L' : List Asn) (X : Wm), X.wd = W.wd → Mem w [] V L → Del (wld X) L L' → Calls Tryz.prog 21 #[.agg (wArr X)] V fun e w' => ∃ (A : Option Addr) (c : Nat), e = .returned (.slice A (worldAlive W.wd).length c) ∧ Mem w [] w' (rowI A c (worldAlive W.wd) :: wld X :: L')) := fun V L L' X hX M hd => by have h := sWorldAlive X M hd; unfold AlivePost at h; rw [hX] at h; exact h
    have HI : Hid (∀ (V : World) (L L' : List Asn) (X : Wm), X.wd = W.wd → Mem w [] V L → Del (wld X) L L' → Calls Tryz.prog 22 #[.agg (wArr X)] V fun e w' => ∃ (A : Option Addr) (c : Nat), e = .returned (.slice A (worldAlive W.wd).length c) ∧ Mem w [] w' (rowI A c (worldAlive W.wd) :: wld X :: L')) := fun V L L' X hX M hd => by have h := iWorldAlive X M hd; unfold AlivePost at h; rw [hX] at h; exact h
    have HE := Lib.hid (fun V (L L' L2 : List Asn) (X Y : Wm) (hX : X.wd = W.wd) (hY : Y.wd = W.wd) (M : Mem w [] V L) (hd : Del (wld X) L L') (hd' : Del (wld Y) L L2) => lEqWorld X Y (hY.trans hX.symm) V.heap.size V (M.readsW hd) (M.readsW hd') (Nat.le_refl _))
    have HMG := Lib.hid (fun V (L L' : List Asn) (X : Wm) (hX : X.wd = W.wd) (M : Mem w [] V L) (hd : Del (wld X) L L') => lMarkGone X (by rw [hX]; exact c) M hd)
    have hal := alive_len W.wd
    have hal2 : W.wd.runs.length ≤ 1048576 := by rw [runsLen]; exact (sizeW_bounds c).2.1
    generalize worldAlive W.wd = res at HS HI hal
    have HEI := Lib.hid (fun V (L L' L2 : List Asn) A c A' c' (M : Mem w [] V L) (hd : Del (rowI A c res) L L') (hd' : Del (rowI A' c' res) L L2) => lEqIntS res A A' c c' V.heap.size V (readsI M hd) (readsI M hd') (Nat.le_refl _))
    have HMI := Lib.hid (fun V (L L' : List Asn) A c (M : Mem w [] V L) (hd : Del (rowI A c res) L L') => mMarkI res A c 1 M hd (by decide) (by decide))
    have HHI := Lib.hid (fun V (L L' : List Asn) A c (M : Mem w [] V L) (hd : Del (rowI A c (marksI 1 res.length)) L L') => lHeldI res.length 1 A c V.heap.size V (by have := readsI M hd; rw [marksI_length] at this; exact this) (by decide) (by decide))
    have q1 : ¬ (1 + (res.length : Int)) < 0 := by omega
    generalize szTo 1048576 (sizeW W.wd) = z at c HZ
    clear h hs hal hal2
    go_enter Tryz.func6, Tryz.ntmps6
    go_upto_region 7 with (first
      | (with_reducible refine alAw M ?_; clear M; (try clear F); intro w1 M F) | ((with_reducible apply ev_store (M := M)); rfl; rfl; ((conv => lhs; whnf) <;> rfl); rfl; (first | exact siI | exact siR | exact siV | exact siB | exact siSI | exact siSV | exact siW | exact siSR | exact siSO | exact siO); (exact one_all rfl); (exact dl); (exact Nat.le_of_ble_eq_true rfl); clear M; intro w1 M; simp only [SX] at M; (try clear F); have F := fxw M)
      | (go_at_call 12; (refine nmKw ?_; clear M; (try clear F); intro w1 M F); refine (HZ.out _ M.toBelow).mono ?_; rintro e w2 ⟨rfl, hb⟩; replace M := M.below hb; clear hb; (try clear F); have F := fxw M)
      | (go_at_call 14; (refine nmKw ?_; clear M; (try clear F); intro w1 M F); refine (HT.out _ M.toBelow).mono ?_; rintro e w2 ⟨X, hX, rfl, hm⟩; have hX := Lib.hid hX; replace M := M.call0 hm; clear hm; (try clear F); have F := fxw M)
      | (go_at_call 21; (refine nmKw ?_; clear M; (try clear F); intro w1 M F); refine (HS.out _ _ _ _ hX.out M dl).mono ?_; clear M; rintro e w2 ⟨A1, c1, rfl, M⟩; replace M := (Mem.perm M (.swap _ _ _)).drop; (try clear F); have F := fxw M))
    clear F
    generalize w2.heap.size = gx at M ⊢
    (try clear F); have F := fxw M
    go_wp2_with (first
      | (go_at_call 22; (refine nmKw ?_; clear M; (try clear F); intro w1 M F); refine (HI.out _ _ _ _ hX.out M dl).mono ?_; clear M; rintro e w2 ⟨A2, c2, rfl, M⟩; (try clear F); have F := fxw M)
      | (go_at_call 23; (refine nmKw ?_; clear M; (try clear F); intro w1 M F); refine (HEI.out _ _ _ _ _ _ _ _ M dl dl).mono ?_; rintro e w2 ⟨rfl, hb⟩; replace M := M.below hb; clear hb; (try clear F); have F := fxw M))
    go_region_held3 (fun U => (∀ j, U.cell? ⟨w.heap.size, j, none⟩ = ([.slice W.cA W.code.length W.cC, .slice W.rA W.ps.length W.rC, .slice W.qA W.queue.length W.qC, .int .i64 W.now, .int .i64 W.sent, .int .i64 W.taken, .int .i64 W.lost] : List Value)[j]?) ∧ ∀ j, U.cell? ⟨gx, j, none⟩ = ([.slice X.cA X.code.length X.cC, .slice X.rA X.ps.length X.rC, .slice X.qA X.queue.length X.qC, .int .i64 X.now, .int .i64 X.sent, .int .i64 X.taken, .int .i64 X.lost] : List Value)[j]?) ((refine ⟨?_, ?_⟩ <;> (exact kc))) (first
      | (go_at_call 14; (refine nmKw ?_; clear M; (try clear F); intro w1 M F); refine (HT.out _ M.toBelow).mono ?_; rintro e w2 ⟨Y, hY, rfl, hm⟩; have hY := Lib.hid hY; replace M := M.call0 hm; clear hm; (try clear F); have F := fxw M)
      | (go_at_call 16; (refine nmKw ?_; clear M; (try clear F); intro w1 M F); refine (HE.out _ _ _ _ _ _ hX.out hY.out M dl dl).mono ?_; rintro e w2 ⟨rfl, hb⟩; replace M := M.below hb; clear hb; (try clear F); have F := fxw M))
    go_upto_region 24 with (first
      | (go_at_call 24; (refine nmKw ?_; clear M; (try clear F); intro w1 M F); refine (HMG.out _ _ _ _ hX.out M dl).mono ?_; clear M; rintro e w2 ⟨zz, hzz, rfl, M⟩; (try clear F); have F := fxw M)
      | (go_at_call 23; (refine nmKw ?_; clear M; (try clear F); intro w1 M F); refine (HEI.out _ _ _ _ _ _ _ _ M dl dl).mono ?_; rintro e w2 ⟨rfl, hb⟩; replace M := M.below hb; clear hb; (try clear F); have F := fxw M)
      | (go_at_call 25; (refine nmKw ?_; clear M; (try clear F); intro w1 M F); refine (HMI.out _ _ _ _ _ M dl).mono ?_; clear M; rintro e w2 ⟨rfl, M⟩; (try clear F); have F := fxw M)
      | (go_at_call 26; (refine nmKw ?_; clear M; (try clear F); intro w1 M F); refine (HHI.out _ _ _ _ _ M dl).mono ?_; rintro e w2 ⟨rfl, rfl⟩))
    go_wp2_with (first
      | (go_at_call 14; (refine nmKw ?_; clear M; (try clear F); intro w1 M F); refine (HT.out _ M.toBelow).mono ?_; rintro e w2 ⟨Z, hZ, rfl, hm⟩; have hZ := Lib.hid hZ; replace M := M.call0 hm; clear hm; (try clear F); have F := fxw M)
      | (go_at_call 22; (refine nmKw ?_; clear M; (try clear F); intro w1 M F); refine (HI.out _ _ _ _ hZ.out M dl).mono ?_; clear M; rintro e w2 ⟨A3, c3, rfl, M⟩; (try clear F); have F := fxw M)
      | (go_at_call 23; (refine nmKw ?_; clear M; (try clear F); intro w1 M F); refine (HEI.out _ _ _ _ _ _ _ _ M dl dl).mono ?_; rintro e w2 ⟨rfl, hb⟩; replace M := M.below hb; clear hb; (try clear F); have F := fxw M)
      | (go_at_call 26; (refine nmKw ?_; clear M; (try clear F); intro w1 M F); refine (HHI.out _ _ _ _ _ M dl).mono ?_; rintro e w2 ⟨rfl, rfl⟩))
    go_ret
    exact ⟨rfl, M.toBelow⟩
end Go.Proofs.YtomolbhcggaakaaGreat
