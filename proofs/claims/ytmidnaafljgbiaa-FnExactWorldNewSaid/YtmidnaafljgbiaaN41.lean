/- Parts of the proof, in one text. -/
import Derived.Deep.Cut
import Derived.Deep.RegionWith
import Derived.Test.YtmidnaafljgbiaaN04
import Derived.Test.YtmidnaafljgbiaaN40
import Derived.Test.YtmidnaafljgbiaaN31
import Derived.Test.YtmidnaafljgbiaaN35
import Derived.Test.YtmidnaafljgbiaaN03
/- A value is taken out of a run's mail, by the reference. -/
namespace Go.Proofs.Ytmidnaafljgbiaa
open Go.RowKit
set_option maxRecDepth 100000

theorem ReadsL.drop {α : Type} {enc : α → List Value} {m : Nat} {w : World} {B n : Nat} {A : Option Addr} {xs : List α} (hk : ∀ x, (enc x).length = m) (h : ReadsL enc m w B A n xs) {j : Nat} (hj : j < n) : ∃ ad, A = some ad ∧ ReadsL enc m w B (some (ad.add (j * m))) (n - j) (xs.drop j) := by
  obtain ⟨h1, h2, h3, h4⟩ := h
  obtain ⟨ad, e, hb, hc⟩ := h4 (by omega)
  refine ⟨ad, e, by rw [List.length_drop]; omega, by omega, by rw [flat_length hk, List.length_drop, h1], fun h0 => ⟨_, rfl, by rw [block_of_add]; exact hb, fun i u hu => ?_⟩⟩
  rw [add_of_add]
  refine hc _ _ ?_
  have e2 : xs = xs.take j ++ xs.drop j := (List.take_append_drop j xs).symm
  rw [e2]
  unfold flat at hu ⊢
  rw [List.flatMap_append, List.getElem?_append_right (by have := flat_length hk (xs.take j); unfold flat at this; rw [this, List.length_take, Nat.min_eq_left (by omega)]; omega)]
  have e3 := flat_length hk (xs.take j)
  unfold flat at e3
  rw [e3, List.length_take, Nat.min_eq_left (by omega), show j * m + i - j * m = i by omega]
  exact hu
end Go.Proofs.Ytmidnaafljgbiaa
/- A run takes a value, or waits, by the reference. -/
namespace Go.Proofs.Ytmidnaafljgbiaa
open Go.RowKit
set_option maxRecDepth 100000

/-- What a step asks of a run. -/
structure Fit4 (r : Rn) : Prop where
  slots : r.slots.length = 4
  full : 0 ≤ r.full ∧ r.full ≤ 15
  at_ : 0 ≤ r.at_ ∧ r.at_ ≤ 1000
  mail : r.mail.length ≤ 1000
theorem Fit4.of {r : Rn} (h : runOk r = true) : Fit4 r := by
  have h := runOk_parts h
  exact ⟨h.2.2.1, h.2.2.2.1, by have := h.2.1; omega, by have := h.2.2.2.2.1; omega⟩
end Go.Proofs.Ytmidnaafljgbiaa
/- A new run of the reference, over what is held (for seats without RunNew). -/
namespace Go.Proofs.Ytmidnaafljgbiaa
open Go.RowKit
set_option maxRecDepth 100000

theorem newRun_mem {w0 w : World} {f : List Nat} {L : List Asn} {g1 g2 g3 g4 : Nat} {id at_ k n : Int} (M : Mem w0 f w (blk g1 tV [.int .i64 k, .int .i64 n, .int .i64 0, .int .i64 0, .int .i64 0, .int .i64 0, .int .i64 0, .int .i64 0] :: blk g2 tV [] :: blk g3 tI [] :: blk g4 tI [] :: L)) :
    Mem w0 f w (runA (newRun id at_ ⟨k, n⟩) ⟨some ⟨g1, 0, none⟩, 4, some ⟨g2, 0, none⟩, 0, some ⟨g3, 0, none⟩, 0, some ⟨g4, 0, none⟩, 0⟩ :: L) := by
  have M1 := Mem.row_of encV_length (xs := [⟨k, n⟩, Vl.zero, Vl.zero, Vl.zero]) M rfl (by simp)
  have M2 := Mem.row_of encV_length (xs := []) (M1.pull (.there .here)) rfl (by decide)
  have M3 := Mem.row_of encI_length (xs := []) (M2.pull (.there (.there .here))) rfl (by decide)
  have M4 := Mem.row_of encI_length (xs := []) (M3.pull (.there (.there (.there .here)))) rfl (by decide)
  exact Mem.packRun (M4.sel (.cons (.there (.there (.there .here))) (.cons (.there (.there .here)) (.cons (.there .here) (.cons .here .refl)))))
set_option maxHeartbeats 1000000 in
theorem sNewM (id at_ : Int) (v : Vl) {w0 w : World} {f : List Nat} {L : List Asn} (M : Mem w0 f w L) :
    Calls Try.prog 62 #[.int .i64 id, .int .i64 at_, .agg #[.int .i64 v.k, .int .i64 v.n]] w fun e w' => ∃ b : RA, e = .returned (.agg (runArr (newRun id at_ v) b)) ∧ Mem w0 f w' (runA (newRun id at_ v) b :: L) := by
  obtain ⟨k, n⟩ := v
  go_enter Try.func62, Try.ntmps62
  go_wp2_with (first
    | (with_reducible refine alA M ?_; clear M; (try clear F); intro w1 M F) | ((with_reducible apply ev_store (M := M)); rfl; rfl; ((conv => lhs; whnf) <;> rfl); rfl; (first | exact siI | exact siR | exact siV | exact siB | exact siSI | exact siSV | exact siW | exact siSR | exact siSO | exact siO); (exact one_all rfl); (exact dl); (exact Nat.le_of_ble_eq_true rfl); clear M; intro w1 M; simp only [SX] at M; (try clear F); have F := fx M) | ((with_reducible refine goal_drewN (G := fun W => wpList _ _ _ _ _ W) M ?_); clear M; intro w1 M; (try clear F); have F := fx M) | ((with_reducible refine goal_drew (G := fun W => wpList _ _ _ _ _ W) M ?_); clear M; intro w1 M; (try clear F); have F := fx M) | ((with_reducible refine isSet (G := fun W => wpList _ _ _ _ _ W) ?_); (with_reducible refine nm (G := fun W => wpList _ _ _ _ _ W) ?_; clear M; (try clear F); intro w1 M F)))
  apply ret_cell (M := M); rfl; rfl; (exact dl); (first | exact agR | exact agV | exact agW | exact agO); (first | exact siI | exact siR | exact siV | exact siB | exact siSI | exact siSV | exact siW | exact siSR | exact siSO | exact siO); rfl
  exact ⟨⟨some ⟨_, 0, none⟩, 4, some ⟨_, 0, none⟩, 0, some ⟨_, 0, none⟩, 0, some ⟨_, 0, none⟩, 0⟩, rfl, newRun_mem (M.sel sl)⟩
end Go.Proofs.Ytmidnaafljgbiaa
