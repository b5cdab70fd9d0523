/- Parts of the proof, in one text. -/
import Derived.Test.YtomolbhcggaakaaGreatG41
import Derived.Test.YtomolbhcggaakaaGreatG42
import Derived.Test.YtomolbhcggaakaaGreatG43
import Derived.Test.YtomolbhcggaakaaGreatG45
/- Whether a run fits its world. -/
namespace Go.Proofs.YtomolbhcggaakaaGreat
open Go.RowKit

theorem sRun12 (W : Wm) (FL : List Int) (fA : Option Addr) (fC i : Nat) (hi : i < W.ps.length) (hl6 : W.ps.length ≤ 6) (B : Nat) (w : World) (h : RW w B W) (hF : ReadsI w B fA FL.length FL) (hFl : FL.length = W.code.length) (hFb : Bits FL) (hB : B ≤ w.heap.size) :
    Calls Tryz.prog 48 #[.agg (wArr W), .slice fA FL.length fC, .int .i64 (i : Int)] w fun e w' => e = .returned (.bool (runFits W.wd FL i W.ps[i].1)) ∧ Below w.heap.size w w' := by
  cases h1 : runOk W.ps[i].1 with
  | false => exact sRun12_a W FL fA fC i hi hl6 B w h hF hFl hFb hB h1
  | true =>
  cases h2 : (W.ps[i].1.id == (i : Int) + 1) with
  | false => exact sRun12_b W FL fA fC i hi hl6 B w h hF hFl hFb hB h1 h2
  | true =>
  by_cases h3 : W.ps[i].1.at_ < W.code.length
  case neg => exact sRun12_c W FL fA fC i hi hl6 B w h hF hFl hFb hB h1 h2 h3
  cases h4 : (inL W.queue W.ps[i].1.id == (W.ps[i].1.state == 1)) with
  | false => exact sRun12_d W FL fA fC i hi hl6 B w h hF hFl hFb hB h1 h2 h3 h4
  | true =>
  cases h5 : (W.ps[i].1.state == 2) with
  | true =>
    cases h6 : waitsOk W.wd W.ps[i].1 with
    | false => exact sRun12_e W FL fA fC i hi hl6 B w h hF hFl hFb hB h1 h2 h3 h4 (.inl ⟨h5, h6⟩)
    | true => exact sRun12_f W FL fA fC i hi hl6 B w h hF hFl hFb hB h1 h2 h3 h4 (fun _ => h6) (by rw [beq_iff_eq] at h5; rw [beq_eq_false_iff_ne]; omega)
  | false =>
    cases h6 : (W.ps[i].1.state == 3) with
    | true => exact sRun12_e W FL fA fC i hi hl6 B w h hF hFl hFb hB h1 h2 h3 h4 (.inr ⟨h6, h5⟩)
    | false => exact sRun12_f W FL fA fC i hi hl6 B w h hF hFl hFb hB h1 h2 h3 h4 (fun h => by rw [h5] at h; cases h) h6
end Go.Proofs.YtomolbhcggaakaaGreat
/- When a world is ok: the tests ahead of the runs. -/
namespace Go.Proofs.YtomolbhcggaakaaGreat
open Go.RowKit
set_option maxRecDepth 100000

theorem Mem.unpackW {w0 w : World} {f : List Nat} {L : List Asn} {W : Wm} (M : Mem w0 f w (wld W :: L)) : Mem w0 f w (rowO W.cA W.cC W.code :: rowR W.rA W.rC W.ps :: rowI W.qA W.qC W.queue :: rws W.ps :: L) := Mem.unpack (L' := wldL W) M
theorem Mem.packW {w0 w : World} {f : List Nat} {L : List Asn} {W : Wm} (M : Mem w0 f w (rowO W.cA W.cC W.code :: rowR W.rA W.rC W.ps :: rowI W.qA W.qC W.queue :: rws W.ps :: L)) : Mem w0 f w (wld W :: L) := Mem.pack (L' := wldL W) M
theorem worldOk_eq (w : Wd) : worldOk w = (codeSafe w.code && inB w.runs.length 1 6 && inB w.now 0 300 && inB w.sent 0 9999 && inB w.taken 0 9999 && inB w.lost 0 9999 && idsOk w.queue 0 && fitsFrom w (fullOf w.code) 0 w.runs && w.queue.all (fun q => decide (q ≤ w.runs.length)) && linkedAll w.runs && w.sent == w.taken + w.lost + waits w.runs) := rfl
def gates (w : Wd) : Bool := codeSafe w.code && inB w.runs.length 1 6 && inB w.now 0 300 && inB w.sent 0 9999 && inB w.taken 0 9999 && inB w.lost 0 9999 && idsOk w.queue 0
theorem gate7 : ∀ x1 x2 x3 x4 x5 x6 x7 : Bool, (x1 && x2 && x3 && x4 && x5 && x6 && x7) = false → x1 = false ∨ (x1 = true ∧ x2 = false) ∨ (x1 = true ∧ x2 = true ∧ x3 = false) ∨ (x1 = true ∧ x2 = true ∧ x3 = true ∧ x4 = false) ∨ (x1 = true ∧ x2 = true ∧ x3 = true ∧ x4 = true ∧ x5 = false) ∨ (x1 = true ∧ x2 = true ∧ x3 = true ∧ x4 = true ∧ x5 = true ∧ x6 = false) ∨ (x1 = true ∧ x2 = true ∧ x3 = true ∧ x4 = true ∧ x5 = true ∧ x6 = true ∧ x7 = false) := by decide
set_option maxHeartbeats 4000000 in
theorem sWorldOk_early (W : Wm) {w0 w : World} {f : List Nat} {L : List Asn} (M : Mem w0 f w (wld W :: L)) (hg : gates W.wd = false) :
    Calls Tryz.prog 13 #[.agg (wArr W)] w fun e w' => e = .returned (.bool (worldOk W.wd)) ∧ Mem w0 f w' (wld W :: L) := by
  have hno : worldOk W.wd = false := by
    rw [worldOk_eq]
    unfold gates at hg
    rw [hg]
    simp
  rw [hno]
  clear hno
  have HP := Lib.hid (fun V (M : Mem w0 f V (rowO W.cA W.cC W.code :: rowR W.rA W.rC W.ps :: rowI W.qA W.qC W.queue :: rws W.ps :: L)) => M.packW)
  replace M := M.unpackW
  have HC := Lib.hid (fun V (L L' : List Asn) (M : Mem w0 f V L) (hd : Del (rowO W.cA W.cC W.code) L L') => sCodeSafe W.code W.cA W.cC (M.pull hd))
  have HN := Lib.hid (fun V => sIn W.ps.length 1 6 V)
  have HNow := Lib.hid (fun V => sIn W.now 0 300 V)
  have HS := Lib.hid (fun V => sIn W.sent 0 9999 V)
  have HT := Lib.hid (fun V => sIn W.taken 0 9999 V)
  have HL := Lib.hid (fun V => sIn W.lost 0 9999 V)
  have HQ := Lib.hid (fun V (L L' : List Asn) (M : Mem w0 f V L) (hd : Del (rowI W.qA W.qC W.queue) L L') => sIds W.queue 0 W.qA W.qC V.heap.size V (readsI M hd) (row_reads M hd).2.1 (Nat.le_refl _))
  have e1 : W.wd.code = W.code := rfl
  have e2 : W.wd.queue = W.queue := rfl
  have e3 : W.wd.runs.length = W.ps.length := by simp [Wm.wd]
  unfold gates at hg
  rw [e1, e2, e3] at hg
  clear e1 e2 e3
  obtain ⟨code, cA, cC, ps, rA, rC, queue, qA, qC, now, sent, taken, lost⟩ := W
  simp only [Wm.wd] at *
  generalize codeSafe code = x1 at *
  generalize inB (ps.length : Int) 1 6 = x2 at *
  generalize inB now 0 300 = x3 at *
  generalize inB sent 0 9999 = x4 at *
  generalize inB taken 0 9999 = x5 at *
  generalize inB lost 0 9999 = x6 at *
  generalize idsOk queue 0 = x7 at *
  have hx := gate7 x1 x2 x3 x4 x5 x6 x7 hg
  clear hg
  rcases hx with rfl | ⟨rfl, rfl⟩ | ⟨rfl, rfl, rfl⟩ | ⟨rfl, rfl, rfl, rfl⟩ | ⟨rfl, rfl, rfl, rfl, rfl⟩ | ⟨rfl, rfl, rfl, rfl, rfl, rfl⟩ | ⟨rfl, rfl, rfl, rfl, rfl, rfl, rfl⟩
  all_goals
    go_enter Tryz.func13, Tryz.ntmps13
    go_wp2_with (first
      | ((with_reducible refine goal_alloc (G := fun W => wpList _ _ _ _ _ W) M ?_); clear M; intro w1 M; (try clear F); have F := M.facts; simp only [And.intro FX FXw] at F)
      | (go_at_call 44; (apply goal_name (G := fun W => Calls _ _ _ W _)); (repeat (first | with_reducible exact M | with_reducible apply Mem.drew | with_reducible apply Mem.drewN | with_reducible apply Mem.allocD | with_reducible apply Mem.setV | with_reducible apply Mem.setD | with_reducible exact Del.here | with_reducible apply Del.there | with_reducible assumption)); clear M; intro w1 M; skip; (try clear F); have F := M.facts; simp only [And.intro FX FXw] at F; refine (HC.out _ _ _ M (by repeat (first | with_reducible exact Del.here | with_reducible apply Del.there))).mono ?_; clear M; rintro e w2 ⟨rfl, M⟩; (try clear F); have F := M.facts; simp only [And.intro FX FXw] at F)
      | (go_at_call 45; with_reducible refine (HN.out _).mono ?_; rintro e w2 ⟨rfl, rfl⟩)
      | (go_at_call 45; with_reducible refine (HNow.out _).mono ?_; rintro e w2 ⟨rfl, rfl⟩)
      | (go_at_call 45; with_reducible refine (HS.out _).mono ?_; rintro e w2 ⟨rfl, rfl⟩)
      | (go_at_call 45; with_reducible refine (HT.out _).mono ?_; rintro e w2 ⟨rfl, rfl⟩)
      | (go_at_call 45; with_reducible refine (HL.out _).mono ?_; rintro e w2 ⟨rfl, rfl⟩)
      | (go_at_call 46; (apply goal_name (G := fun W => Calls _ _ _ W _)); (repeat (first | with_reducible exact M | with_reducible apply Mem.drew | with_reducible apply Mem.drewN | with_reducible apply Mem.allocD | with_reducible apply Mem.setV | with_reducible apply Mem.setD | with_reducible exact Del.here | with_reducible apply Del.there | with_reducible assumption)); clear M; intro w1 M; (try simp only [LX] at M); (try clear F); have F := M.facts; simp only [And.intro FX FXw] at F; refine (HQ.out _ _ _ M (by repeat (first | with_reducible exact Del.here | with_reducible apply Del.there))).mono ?_; rintro e w2 ⟨rfl, hb⟩; replace M := M.below hb; clear hb; (try clear F); have F := M.facts; simp only [And.intro FX FXw] at F))
    go_ret
    exact ⟨rfl, HP.out _ (M.sel (by repeat (first | with_reducible exact Sel.refl | with_reducible exact Sel.nil | (with_reducible refine Sel.cons (by repeat (first | with_reducible exact Del.here | with_reducible apply Del.there)) ?_) | with_reducible apply Sel.drop)))⟩
end Go.Proofs.YtomolbhcggaakaaGreat
