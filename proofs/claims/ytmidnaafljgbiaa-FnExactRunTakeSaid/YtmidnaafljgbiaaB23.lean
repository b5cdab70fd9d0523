/- Parts of the proof, in one text. -/
import Derived.Deep.Cut
import Derived.Test.YtmidnaafljgbiaaB22
import Derived.Test.YtmidnaafljgbiaaB20
import Derived.Test.YtmidnaafljgbiaaB21
import Derived.Test.YtmidnaafljgbiaaB09
import Derived.Test.YtmidnaafljgbiaaB10
import Derived.Test.YtmidnaafljgbiaaB08
/- Values read back from their texts. -/
namespace Go.Proofs.Ytmidnaafljgbiaa
open Go.RowKit
set_option maxRecDepth 100000

def valTab : List (ByteArray × Vl × Bool) := [(⟨#[48]⟩, ⟨0, 0⟩, false), (⟨#[49]⟩, ⟨0, 0⟩, false), (⟨#[50]⟩, ⟨0, 0⟩, false), (⟨#[51]⟩, ⟨0, 0⟩, false), (⟨#[52]⟩, ⟨0, 0⟩, false), (⟨#[53]⟩, ⟨0, 0⟩, false), (⟨#[54]⟩, ⟨0, 0⟩, false), (⟨#[55]⟩, ⟨0, 0⟩, false), (⟨#[56]⟩, ⟨0, 0⟩, false), (⟨#[57]⟩, ⟨0, 0⟩, false), (⟨#[49, 48]⟩, ⟨0, 0⟩, false), (⟨#[110, 48]⟩, ⟨1, 0⟩, true), (⟨#[110, 49]⟩, ⟨1, 1⟩, true), (⟨#[110, 50]⟩, ⟨1, 2⟩, true), (⟨#[110, 51]⟩, ⟨1, 3⟩, true), (⟨#[110, 52]⟩, ⟨1, 4⟩, true), (⟨#[97, 48]⟩, ⟨2, 0⟩, true), (⟨#[97, 49]⟩, ⟨2, 1⟩, true), (⟨#[97, 50]⟩, ⟨2, 2⟩, true), (⟨#[97, 51]⟩, ⟨2, 3⟩, true), (⟨#[97, 52]⟩, ⟨2, 4⟩, true)]
set_option maxHeartbeats 8000000 in
theorem sValRead (s : ByteArray) (v : Vl) (b : Bool) (h : (s, v, b) ∈ valTab) (w : World) : Calls Try.prog 162 #[.string s] w fun e w' => e = .returned (.tuple #[.agg #[.int .i64 v.k, .int .i64 v.n], .bool b]) ∧ Below w.heap.size w w' := by
  have HI := Lib.hid (fun n V => sIn n 2 4 V)
  have HD := Lib.hid (fun s n b h V => sDecW s n b h V)
  have HT : Hid (∀ (k : Int) (m : Nat) (D : ByteArray), (k = 1 ∨ k = 2) → m ≤ 4 → D = ⟨(valS k m).toArray⟩ → ∀ W, Calls Try.prog 172 #[.agg #[.int .i64 k, .int .i64 m]] W fun e w' => e = .returned (.string D) ∧ Below W.heap.size W w') := fun k m D h1 h2 e W => by rw [e]; exact sValText k m h1 h2 W
  have M := Mem.nil w
  (try clear F); have F := fx M
  simp only [valTab, List.mem_cons, List.not_mem_nil, or_false, Prod.mk.injEq] at h
  rcases h with ⟨rfl, rfl, rfl⟩ | ⟨rfl, rfl, rfl⟩ | ⟨rfl, rfl, rfl⟩ | ⟨rfl, rfl, rfl⟩ | ⟨rfl, rfl, rfl⟩ | ⟨rfl, rfl, rfl⟩ | ⟨rfl, rfl, rfl⟩ | ⟨rfl, rfl, rfl⟩ | ⟨rfl, rfl, rfl⟩ | ⟨rfl, rfl, rfl⟩ | ⟨rfl, rfl, rfl⟩ | ⟨rfl, rfl, rfl⟩ | ⟨rfl, rfl, rfl⟩ | ⟨rfl, rfl, rfl⟩ | ⟨rfl, rfl, rfl⟩ | ⟨rfl, rfl, rfl⟩ | ⟨rfl, rfl, rfl⟩ | ⟨rfl, rfl, rfl⟩ | ⟨rfl, rfl, rfl⟩ | ⟨rfl, rfl, rfl⟩ | ⟨rfl, rfl, rfl⟩
  · go_enter Try.func162, Try.ntmps162
    go_wp2_with (first | (with_reducible refine alA M ?_; clear M; (try clear F); intro w1 M F) | ((with_reducible apply ev_store (M := M)); rfl; rfl; ((conv => lhs; whnf) <;> rfl); rfl; (first | exact siI | exact siR | exact siV | exact siB | exact siSI | exact siSV | exact siW | exact siSR | exact siSO | exact siO); (exact one_all rfl); (exact dl); (exact Nat.le_of_ble_eq_true rfl); clear M; intro w1 M; simp only [SX] at M; (try clear F); have F := fx M) | (go_at_call 80; refine (HI.out _ _).mono ?_; rintro e w2 ⟨rfl, rfl⟩))
    apply ret_cell_tmp (M := M); rfl; rfl; rfl; (exact dl); (first | exact agR | exact agV | exact agW | exact agO); (first | exact siI | exact siR | exact siV | exact siB | exact siSI | exact siSV | exact siW | exact siSR | exact siSO | exact siO); rfl
    exact ⟨rfl, M.toBelow⟩
  · go_enter Try.func162, Try.ntmps162
    go_wp2_with (first | (with_reducible refine alA M ?_; clear M; (try clear F); intro w1 M F) | ((with_reducible apply ev_store (M := M)); rfl; rfl; ((conv => lhs; whnf) <;> rfl); rfl; (first | exact siI | exact siR | exact siV | exact siB | exact siSI | exact siSV | exact siW | exact siSR | exact siSO | exact siO); (exact one_all rfl); (exact dl); (exact Nat.le_of_ble_eq_true rfl); clear M; intro w1 M; simp only [SX] at M; (try clear F); have F := fx M) | (go_at_call 80; refine (HI.out _ _).mono ?_; rintro e w2 ⟨rfl, rfl⟩))
    apply ret_cell_tmp (M := M); rfl; rfl; rfl; (exact dl); (first | exact agR | exact agV | exact agW | exact agO); (first | exact siI | exact siR | exact siV | exact siB | exact siSI | exact siSV | exact siW | exact siSR | exact siSO | exact siO); rfl
    exact ⟨rfl, M.toBelow⟩
  · go_enter Try.func162, Try.ntmps162
    go_wp2_with (first | (with_reducible refine alA M ?_; clear M; (try clear F); intro w1 M F) | ((with_reducible apply ev_store (M := M)); rfl; rfl; ((conv => lhs; whnf) <;> rfl); rfl; (first | exact siI | exact siR | exact siV | exact siB | exact siSI | exact siSV | exact siW | exact siSR | exact siSO | exact siO); (exact one_all rfl); (exact dl); (exact Nat.le_of_ble_eq_true rfl); clear M; intro w1 M; simp only [SX] at M; (try clear F); have F := fx M) | (go_at_call 80; refine (HI.out _ _).mono ?_; rintro e w2 ⟨rfl, rfl⟩))
    apply ret_cell_tmp (M := M); rfl; rfl; rfl; (exact dl); (first | exact agR | exact agV | exact agW | exact agO); (first | exact siI | exact siR | exact siV | exact siB | exact siSI | exact siSV | exact siW | exact siSR | exact siSO | exact siO); rfl
    exact ⟨rfl, M.toBelow⟩
  · go_enter Try.func162, Try.ntmps162
    go_wp2_with (first | (with_reducible refine alA M ?_; clear M; (try clear F); intro w1 M F) | ((with_reducible apply ev_store (M := M)); rfl; rfl; ((conv => lhs; whnf) <;> rfl); rfl; (first | exact siI | exact siR | exact siV | exact siB | exact siSI | exact siSV | exact siW | exact siSR | exact siSO | exact siO); (exact one_all rfl); (exact dl); (exact Nat.le_of_ble_eq_true rfl); clear M; intro w1 M; simp only [SX] at M; (try clear F); have F := fx M) | (go_at_call 80; refine (HI.out _ _).mono ?_; rintro e w2 ⟨rfl, rfl⟩))
    apply ret_cell_tmp (M := M); rfl; rfl; rfl; (exact dl); (first | exact agR | exact agV | exact agW | exact agO); (first | exact siI | exact siR | exact siV | exact siB | exact siSI | exact siSV | exact siW | exact siSR | exact siSO | exact siO); rfl
    exact ⟨rfl, M.toBelow⟩
  · go_enter Try.func162, Try.ntmps162
    go_wp2_with (first | (with_reducible refine alA M ?_; clear M; (try clear F); intro w1 M F) | ((with_reducible apply ev_store (M := M)); rfl; rfl; ((conv => lhs; whnf) <;> rfl); rfl; (first | exact siI | exact siR | exact siV | exact siB | exact siSI | exact siSV | exact siW | exact siSR | exact siSO | exact siO); (exact one_all rfl); (exact dl); (exact Nat.le_of_ble_eq_true rfl); clear M; intro w1 M; simp only [SX] at M; (try clear F); have F := fx M) | (go_at_call 80; refine (HI.out _ _).mono ?_; rintro e w2 ⟨rfl, rfl⟩))
    apply ret_cell_tmp (M := M); rfl; rfl; rfl; (exact dl); (first | exact agR | exact agV | exact agW | exact agO); (first | exact siI | exact siR | exact siV | exact siB | exact siSI | exact siSV | exact siW | exact siSR | exact siSO | exact siO); rfl
    exact ⟨rfl, M.toBelow⟩
  · go_enter Try.func162, Try.ntmps162
    go_wp2_with (first | (with_reducible refine alA M ?_; clear M; (try clear F); intro w1 M F) | ((with_reducible apply ev_store (M := M)); rfl; rfl; ((conv => lhs; whnf) <;> rfl); rfl; (first | exact siI | exact siR | exact siV | exact siB | exact siSI | exact siSV | exact siW | exact siSR | exact siSO | exact siO); (exact one_all rfl); (exact dl); (exact Nat.le_of_ble_eq_true rfl); clear M; intro w1 M; simp only [SX] at M; (try clear F); have F := fx M) | (go_at_call 80; refine (HI.out _ _).mono ?_; rintro e w2 ⟨rfl, rfl⟩))
    apply ret_cell_tmp (M := M); rfl; rfl; rfl; (exact dl); (first | exact agR | exact agV | exact agW | exact agO); (first | exact siI | exact siR | exact siV | exact siB | exact siSI | exact siSV | exact siW | exact siSR | exact siSO | exact siO); rfl
    exact ⟨rfl, M.toBelow⟩
  · go_enter Try.func162, Try.ntmps162
    go_wp2_with (first | (with_reducible refine alA M ?_; clear M; (try clear F); intro w1 M F) | ((with_reducible apply ev_store (M := M)); rfl; rfl; ((conv => lhs; whnf) <;> rfl); rfl; (first | exact siI | exact siR | exact siV | exact siB | exact siSI | exact siSV | exact siW | exact siSR | exact siSO | exact siO); (exact one_all rfl); (exact dl); (exact Nat.le_of_ble_eq_true rfl); clear M; intro w1 M; simp only [SX] at M; (try clear F); have F := fx M) | (go_at_call 80; refine (HI.out _ _).mono ?_; rintro e w2 ⟨rfl, rfl⟩))
    apply ret_cell_tmp (M := M); rfl; rfl; rfl; (exact dl); (first | exact agR | exact agV | exact agW | exact agO); (first | exact siI | exact siR | exact siV | exact siB | exact siSI | exact siSV | exact siW | exact siSR | exact siSO | exact siO); rfl
    exact ⟨rfl, M.toBelow⟩
  · go_enter Try.func162, Try.ntmps162
    go_wp2_with (first | (with_reducible refine alA M ?_; clear M; (try clear F); intro w1 M F) | ((with_reducible apply ev_store (M := M)); rfl; rfl; ((conv => lhs; whnf) <;> rfl); rfl; (first | exact siI | exact siR | exact siV | exact siB | exact siSI | exact siSV | exact siW | exact siSR | exact siSO | exact siO); (exact one_all rfl); (exact dl); (exact Nat.le_of_ble_eq_true rfl); clear M; intro w1 M; simp only [SX] at M; (try clear F); have F := fx M) | (go_at_call 80; refine (HI.out _ _).mono ?_; rintro e w2 ⟨rfl, rfl⟩))
    apply ret_cell_tmp (M := M); rfl; rfl; rfl; (exact dl); (first | exact agR | exact agV | exact agW | exact agO); (first | exact siI | exact siR | exact siV | exact siB | exact siSI | exact siSV | exact siW | exact siSR | exact siSO | exact siO); rfl
    exact ⟨rfl, M.toBelow⟩
  · go_enter Try.func162, Try.ntmps162
    go_wp2_with (first | (with_reducible refine alA M ?_; clear M; (try clear F); intro w1 M F) | ((with_reducible apply ev_store (M := M)); rfl; rfl; ((conv => lhs; whnf) <;> rfl); rfl; (first | exact siI | exact siR | exact siV | exact siB | exact siSI | exact siSV | exact siW | exact siSR | exact siSO | exact siO); (exact one_all rfl); (exact dl); (exact Nat.le_of_ble_eq_true rfl); clear M; intro w1 M; simp only [SX] at M; (try clear F); have F := fx M) | (go_at_call 80; refine (HI.out _ _).mono ?_; rintro e w2 ⟨rfl, rfl⟩))
    apply ret_cell_tmp (M := M); rfl; rfl; rfl; (exact dl); (first | exact agR | exact agV | exact agW | exact agO); (first | exact siI | exact siR | exact siV | exact siB | exact siSI | exact siSV | exact siW | exact siSR | exact siSO | exact siO); rfl
    exact ⟨rfl, M.toBelow⟩
  · go_enter Try.func162, Try.ntmps162
    go_wp2_with (first | (with_reducible refine alA M ?_; clear M; (try clear F); intro w1 M F) | ((with_reducible apply ev_store (M := M)); rfl; rfl; ((conv => lhs; whnf) <;> rfl); rfl; (first | exact siI | exact siR | exact siV | exact siB | exact siSI | exact siSV | exact siW | exact siSR | exact siSO | exact siO); (exact one_all rfl); (exact dl); (exact Nat.le_of_ble_eq_true rfl); clear M; intro w1 M; simp only [SX] at M; (try clear F); have F := fx M) | (go_at_call 80; refine (HI.out _ _).mono ?_; rintro e w2 ⟨rfl, rfl⟩))
    apply ret_cell_tmp (M := M); rfl; rfl; rfl; (exact dl); (first | exact agR | exact agV | exact agW | exact agO); (first | exact siI | exact siR | exact siV | exact siB | exact siSI | exact siSV | exact siW | exact siSR | exact siSO | exact siO); rfl
    exact ⟨rfl, M.toBelow⟩
  · go_enter Try.func162, Try.ntmps162
    have hx : (⟨#[49, 48]⟩ : ByteArray).extract 1 2 = ⟨#[48]⟩ := by rfl
    have HE : Hid (∀ V : World, Calls Try.prog 161 #[.string ⟨#[48]⟩] V fun e w' => e = .returned (.tuple #[.int .i64 0, .bool true]) ∧ V = w') := fun V => HD.out _ _ _ (by simp [decTab]) V
    go_wp2_with (first | (with_reducible refine alA M ?_; clear M; (try clear F); intro w1 M F) | ((with_reducible apply ev_store (M := M)); rfl; rfl; ((conv => lhs; whnf) <;> rfl); rfl; (first | exact siI | exact siR | exact siV | exact siB | exact siSI | exact siSV | exact siW | exact siSR | exact siSO | exact siO); (exact one_all rfl); (exact dl); (exact Nat.le_of_ble_eq_true rfl); clear M; intro w1 M; simp only [SX] at M; (try clear F); have F := fx M) | (go_at_call 80; refine (HI.out _ _).mono ?_; rintro e w2 ⟨rfl, rfl⟩) | (go_at_call 161; refine (HE.out _).mono ?_; rintro e w2 ⟨rfl, rfl⟩))
    apply ret_cell_tmp (M := M); rfl; rfl; rfl; (exact dl); (first | exact agR | exact agV | exact agW | exact agO); (first | exact siI | exact siR | exact siV | exact siB | exact siSI | exact siSV | exact siW | exact siSR | exact siSO | exact siO); rfl
    exact ⟨rfl, M.toBelow⟩
  · go_enter Try.func162, Try.ntmps162
    have hx : (⟨#[110, 48]⟩ : ByteArray).extract 1 2 = ⟨#[48]⟩ := by rfl
    have HE : Hid (∀ V : World, Calls Try.prog 161 #[.string ⟨#[48]⟩] V fun e w' => e = .returned (.tuple #[.int .i64 0, .bool true]) ∧ V = w') := fun V => HD.out _ _ _ (by simp [decTab]) V
    have HU : Hid (∀ W : World, Calls Try.prog 172 #[.agg #[.int .i64 1, .int .i64 0]] W fun e w' => e = .returned (.string ⟨#[110, 48]⟩) ∧ Below W.heap.size W w') := fun W => HT.out 1 0 _ (by decide) (by decide) rfl W
    go_wp2_with (first | (with_reducible refine alA M ?_; clear M; (try clear F); intro w1 M F) | ((with_reducible apply ev_store (M := M)); rfl; rfl; ((conv => lhs; whnf) <;> rfl); rfl; (first | exact siI | exact siR | exact siV | exact siB | exact siSI | exact siSV | exact siW | exact siSR | exact siSO | exact siO); (exact one_all rfl); (exact dl); (exact Nat.le_of_ble_eq_true rfl); clear M; intro w1 M; simp only [SX] at M; (try clear F); have F := fx M) | (go_at_call 80; refine (HI.out _ _).mono ?_; rintro e w2 ⟨rfl, rfl⟩) | (go_at_call 161; refine (HE.out _).mono ?_; rintro e w2 ⟨rfl, rfl⟩) | (go_at_call 172; (refine nmK ?_; clear M; (try clear F); intro w1 M F); refine (HU.out _).mono ?_; rintro e w2 ⟨rfl, hb⟩; replace M := M.below hb; clear hb; (try clear F); have F := fx M))
    apply ret_cell_tmp (M := M); rfl; rfl; rfl; (exact dl); (first | exact agR | exact agV | exact agW | exact agO); (first | exact siI | exact siR | exact siV | exact siB | exact siSI | exact siSV | exact siW | exact siSR | exact siSO | exact siO); rfl
    exact ⟨rfl, M.toBelow⟩
  · go_enter Try.func162, Try.ntmps162
    have hx : (⟨#[110, 49]⟩ : ByteArray).extract 1 2 = ⟨#[49]⟩ := by rfl
    have HE : Hid (∀ V : World, Calls Try.prog 161 #[.string ⟨#[49]⟩] V fun e w' => e = .returned (.tuple #[.int .i64 1, .bool true]) ∧ V = w') := fun V => HD.out _ _ _ (by simp [decTab]) V
    have HU : Hid (∀ W : World, Calls Try.prog 172 #[.agg #[.int .i64 1, .int .i64 1]] W fun e w' => e = .returned (.string ⟨#[110, 49]⟩) ∧ Below W.heap.size W w') := fun W => HT.out 1 1 _ (by decide) (by decide) rfl W
    go_wp2_with (first | (with_reducible refine alA M ?_; clear M; (try clear F); intro w1 M F) | ((with_reducible apply ev_store (M := M)); rfl; rfl; ((conv => lhs; whnf) <;> rfl); rfl; (first | exact siI | exact siR | exact siV | exact siB | exact siSI | exact siSV | exact siW | exact siSR | exact siSO | exact siO); (exact one_all rfl); (exact dl); (exact Nat.le_of_ble_eq_true rfl); clear M; intro w1 M; simp only [SX] at M; (try clear F); have F := fx M) | (go_at_call 80; refine (HI.out _ _).mono ?_; rintro e w2 ⟨rfl, rfl⟩) | (go_at_call 161; refine (HE.out _).mono ?_; rintro e w2 ⟨rfl, rfl⟩) | (go_at_call 172; (refine nmK ?_; clear M; (try clear F); intro w1 M F); refine (HU.out _).mono ?_; rintro e w2 ⟨rfl, hb⟩; replace M := M.below hb; clear hb; (try clear F); have F := fx M))
    apply ret_cell_tmp (M := M); rfl; rfl; rfl; (exact dl); (first | exact agR | exact agV | exact agW | exact agO); (first | exact siI | exact siR | exact siV | exact siB | exact siSI | exact siSV | exact siW | exact siSR | exact siSO | exact siO); rfl
    exact ⟨rfl, M.toBelow⟩
  · go_enter Try.func162, Try.ntmps162
    have hx : (⟨#[110, 50]⟩ : ByteArray).extract 1 2 = ⟨#[50]⟩ := by rfl
    have HE : Hid (∀ V : World, Calls Try.prog 161 #[.string ⟨#[50]⟩] V fun e w' => e = .returned (.tuple #[.int .i64 2, .bool true]) ∧ V = w') := fun V => HD.out _ _ _ (by simp [decTab]) V
    have HU : Hid (∀ W : World, Calls Try.prog 172 #[.agg #[.int .i64 1, .int .i64 2]] W fun e w' => e = .returned (.string ⟨#[110, 50]⟩) ∧ Below W.heap.size W w') := fun W => HT.out 1 2 _ (by decide) (by decide) rfl W
    go_wp2_with (first | (with_reducible refine alA M ?_; clear M; (try clear F); intro w1 M F) | ((with_reducible apply ev_store (M := M)); rfl; rfl; ((conv => lhs; whnf) <;> rfl); rfl; (first | exact siI | exact siR | exact siV | exact siB | exact siSI | exact siSV | exact siW | exact siSR | exact siSO | exact siO); (exact one_all rfl); (exact dl); (exact Nat.le_of_ble_eq_true rfl); clear M; intro w1 M; simp only [SX] at M; (try clear F); have F := fx M) | (go_at_call 80; refine (HI.out _ _).mono ?_; rintro e w2 ⟨rfl, rfl⟩) | (go_at_call 161; refine (HE.out _).mono ?_; rintro e w2 ⟨rfl, rfl⟩) | (go_at_call 172; (refine nmK ?_; clear M; (try clear F); intro w1 M F); refine (HU.out _).mono ?_; rintro e w2 ⟨rfl, hb⟩; replace M := M.below hb; clear hb; (try clear F); have F := fx M))
    apply ret_cell_tmp (M := M); rfl; rfl; rfl; (exact dl); (first | exact agR | exact agV | exact agW | exact agO); (first | exact siI | exact siR | exact siV | exact siB | exact siSI | exact siSV | exact siW | exact siSR | exact siSO | exact siO); rfl
    exact ⟨rfl, M.toBelow⟩
  · go_enter Try.func162, Try.ntmps162
    have hx : (⟨#[110, 51]⟩ : ByteArray).extract 1 2 = ⟨#[51]⟩ := by rfl
    have HE : Hid (∀ V : World, Calls Try.prog 161 #[.string ⟨#[51]⟩] V fun e w' => e = .returned (.tuple #[.int .i64 3, .bool true]) ∧ V = w') := fun V => HD.out _ _ _ (by simp [decTab]) V
    have HU : Hid (∀ W : World, Calls Try.prog 172 #[.agg #[.int .i64 1, .int .i64 3]] W fun e w' => e = .returned (.string ⟨#[110, 51]⟩) ∧ Below W.heap.size W w') := fun W => HT.out 1 3 _ (by decide) (by decide) rfl W
    go_wp2_with (first | (with_reducible refine alA M ?_; clear M; (try clear F); intro w1 M F) | ((with_reducible apply ev_store (M := M)); rfl; rfl; ((conv => lhs; whnf) <;> rfl); rfl; (first | exact siI | exact siR | exact siV | exact siB | exact siSI | exact siSV | exact siW | exact siSR | exact siSO | exact siO); (exact one_all rfl); (exact dl); (exact Nat.le_of_ble_eq_true rfl); clear M; intro w1 M; simp only [SX] at M; (try clear F); have F := fx M) | (go_at_call 80; refine (HI.out _ _).mono ?_; rintro e w2 ⟨rfl, rfl⟩) | (go_at_call 161; refine (HE.out _).mono ?_; rintro e w2 ⟨rfl, rfl⟩) | (go_at_call 172; (refine nmK ?_; clear M; (try clear F); intro w1 M F); refine (HU.out _).mono ?_; rintro e w2 ⟨rfl, hb⟩; replace M := M.below hb; clear hb; (try clear F); have F := fx M))
    apply ret_cell_tmp (M := M); rfl; rfl; rfl; (exact dl); (first | exact agR | exact agV | exact agW | exact agO); (first | exact siI | exact siR | exact siV | exact siB | exact siSI | exact siSV | exact siW | exact siSR | exact siSO | exact siO); rfl
    exact ⟨rfl, M.toBelow⟩
  · go_enter Try.func162, Try.ntmps162
    have hx : (⟨#[110, 52]⟩ : ByteArray).extract 1 2 = ⟨#[52]⟩ := by rfl
    have HE : Hid (∀ V : World, Calls Try.prog 161 #[.string ⟨#[52]⟩] V fun e w' => e = .returned (.tuple #[.int .i64 4, .bool true]) ∧ V = w') := fun V => HD.out _ _ _ (by simp [decTab]) V
    have HU : Hid (∀ W : World, Calls Try.prog 172 #[.agg #[.int .i64 1, .int .i64 4]] W fun e w' => e = .returned (.string ⟨#[110, 52]⟩) ∧ Below W.heap.size W w') := fun W => HT.out 1 4 _ (by decide) (by decide) rfl W
    go_wp2_with (first | (with_reducible refine alA M ?_; clear M; (try clear F); intro w1 M F) | ((with_reducible apply ev_store (M := M)); rfl; rfl; ((conv => lhs; whnf) <;> rfl); rfl; (first | exact siI | exact siR | exact siV | exact siB | exact siSI | exact siSV | exact siW | exact siSR | exact siSO | exact siO); (exact one_all rfl); (exact dl); (exact Nat.le_of_ble_eq_true rfl); clear M; intro w1 M; simp only [SX] at M; (try clear F); have F := fx M) | (go_at_call 80; refine (HI.out _ _).mono ?_; rintro e w2 ⟨rfl, rfl⟩) | (go_at_call 161; refine (HE.out _).mono ?_; rintro e w2 ⟨rfl, rfl⟩) | (go_at_call 172; (refine nmK ?_; clear M; (try clear F); intro w1 M F); refine (HU.out _).mono ?_; rintro e w2 ⟨rfl, hb⟩; replace M := M.below hb; clear hb; (try clear F); have F := fx M))
    apply ret_cell_tmp (M := M); rfl; rfl; rfl; (exact dl); (first | exact agR | exact agV | exact agW | exact agO); (first | exact siI | exact siR | exact siV | exact siB | exact siSI | exact siSV | exact siW | exact siSR | exact siSO | exact siO); rfl
    exact ⟨rfl, M.toBelow⟩
  · go_enter Try.func162, Try.ntmps162
    have hx : (⟨#[97, 48]⟩ : ByteArray).extract 1 2 = ⟨#[48]⟩ := by rfl
    have HE : Hid (∀ V : World, Calls Try.prog 161 #[.string ⟨#[48]⟩] V fun e w' => e = .returned (.tuple #[.int .i64 0, .bool true]) ∧ V = w') := fun V => HD.out _ _ _ (by simp [decTab]) V
    have HU : Hid (∀ W : World, Calls Try.prog 172 #[.agg #[.int .i64 2, .int .i64 0]] W fun e w' => e = .returned (.string ⟨#[97, 48]⟩) ∧ Below W.heap.size W w') := fun W => HT.out 2 0 _ (by decide) (by decide) rfl W
    go_wp2_with (first | (with_reducible refine alA M ?_; clear M; (try clear F); intro w1 M F) | ((with_reducible apply ev_store (M := M)); rfl; rfl; ((conv => lhs; whnf) <;> rfl); rfl; (first | exact siI | exact siR | exact siV | exact siB | exact siSI | exact siSV | exact siW | exact siSR | exact siSO | exact siO); (exact one_all rfl); (exact dl); (exact Nat.le_of_ble_eq_true rfl); clear M; intro w1 M; simp only [SX] at M; (try clear F); have F := fx M) | (go_at_call 80; refine (HI.out _ _).mono ?_; rintro e w2 ⟨rfl, rfl⟩) | (go_at_call 161; refine (HE.out _).mono ?_; rintro e w2 ⟨rfl, rfl⟩) | (go_at_call 172; (refine nmK ?_; clear M; (try clear F); intro w1 M F); refine (HU.out _).mono ?_; rintro e w2 ⟨rfl, hb⟩; replace M := M.below hb; clear hb; (try clear F); have F := fx M))
    apply ret_cell_tmp (M := M); rfl; rfl; rfl; (exact dl); (first | exact agR | exact agV | exact agW | exact agO); (first | exact siI | exact siR | exact siV | exact siB | exact siSI | exact siSV | exact siW | exact siSR | exact siSO | exact siO); rfl
    exact ⟨rfl, M.toBelow⟩
  · go_enter Try.func162, Try.ntmps162
    have hx : (⟨#[97, 49]⟩ : ByteArray).extract 1 2 = ⟨#[49]⟩ := by rfl
    have HE : Hid (∀ V : World, Calls Try.prog 161 #[.string ⟨#[49]⟩] V fun e w' => e = .returned (.tuple #[.int .i64 1, .bool true]) ∧ V = w') := fun V => HD.out _ _ _ (by simp [decTab]) V
    have HU : Hid (∀ W : World, Calls Try.prog 172 #[.agg #[.int .i64 2, .int .i64 1]] W fun e w' => e = .returned (.string ⟨#[97, 49]⟩) ∧ Below W.heap.size W w') := fun W => HT.out 2 1 _ (by decide) (by decide) rfl W
    go_wp2_with (first | (with_reducible refine alA M ?_; clear M; (try clear F); intro w1 M F) | ((with_reducible apply ev_store (M := M)); rfl; rfl; ((conv => lhs; whnf) <;> rfl); rfl; (first | exact siI | exact siR | exact siV | exact siB | exact siSI | exact siSV | exact siW | exact siSR | exact siSO | exact siO); (exact one_all rfl); (exact dl); (exact Nat.le_of_ble_eq_true rfl); clear M; intro w1 M; simp only [SX] at M; (try clear F); have F := fx M) | (go_at_call 80; refine (HI.out _ _).mono ?_; rintro e w2 ⟨rfl, rfl⟩) | (go_at_call 161; refine (HE.out _).mono ?_; rintro e w2 ⟨rfl, rfl⟩) | (go_at_call 172; (refine nmK ?_; clear M; (try clear F); intro w1 M F); refine (HU.out _).mono ?_; rintro e w2 ⟨rfl, hb⟩; replace M := M.below hb; clear hb; (try clear F); have F := fx M))
    apply ret_cell_tmp (M := M); rfl; rfl; rfl; (exact dl); (first | exact agR | exact agV | exact agW | exact agO); (first | exact siI | exact siR | exact siV | exact siB | exact siSI | exact siSV | exact siW | exact siSR | exact siSO | exact siO); rfl
    exact ⟨rfl, M.toBelow⟩
  · go_enter Try.func162, Try.ntmps162
    have hx : (⟨#[97, 50]⟩ : ByteArray).extract 1 2 = ⟨#[50]⟩ := by rfl
    have HE : Hid (∀ V : World, Calls Try.prog 161 #[.string ⟨#[50]⟩] V fun e w' => e = .returned (.tuple #[.int .i64 2, .bool true]) ∧ V = w') := fun V => HD.out _ _ _ (by simp [decTab]) V
    have HU : Hid (∀ W : World, Calls Try.prog 172 #[.agg #[.int .i64 2, .int .i64 2]] W fun e w' => e = .returned (.string ⟨#[97, 50]⟩) ∧ Below W.heap.size W w') := fun W => HT.out 2 2 _ (by decide) (by decide) rfl W
    go_wp2_with (first | (with_reducible refine alA M ?_; clear M; (try clear F); intro w1 M F) | ((with_reducible apply ev_store (M := M)); rfl; rfl; ((conv => lhs; whnf) <;> rfl); rfl; (first | exact siI | exact siR | exact siV | exact siB | exact siSI | exact siSV | exact siW | exact siSR | exact siSO | exact siO); (exact one_all rfl); (exact dl); (exact Nat.le_of_ble_eq_true rfl); clear M; intro w1 M; simp only [SX] at M; (try clear F); have F := fx M) | (go_at_call 80; refine (HI.out _ _).mono ?_; rintro e w2 ⟨rfl, rfl⟩) | (go_at_call 161; refine (HE.out _).mono ?_; rintro e w2 ⟨rfl, rfl⟩) | (go_at_call 172; (refine nmK ?_; clear M; (try clear F); intro w1 M F); refine (HU.out _).mono ?_; rintro e w2 ⟨rfl, hb⟩; replace M := M.below hb; clear hb; (try clear F); have F := fx M))
    apply ret_cell_tmp (M := M); rfl; rfl; rfl; (exact dl); (first | exact agR | exact agV | exact agW | exact agO); (first | exact siI | exact siR | exact siV | exact siB | exact siSI | exact siSV | exact siW | exact siSR | exact siSO | exact siO); rfl
    exact ⟨rfl, M.toBelow⟩
  · go_enter Try.func162, Try.ntmps162
    have hx : (⟨#[97, 51]⟩ : ByteArray).extract 1 2 = ⟨#[51]⟩ := by rfl
    have HE : Hid (∀ V : World, Calls Try.prog 161 #[.string ⟨#[51]⟩] V fun e w' => e = .returned (.tuple #[.int .i64 3, .bool true]) ∧ V = w') := fun V => HD.out _ _ _ (by simp [decTab]) V
    have HU : Hid (∀ W : World, Calls Try.prog 172 #[.agg #[.int .i64 2, .int .i64 3]] W fun e w' => e = .returned (.string ⟨#[97, 51]⟩) ∧ Below W.heap.size W w') := fun W => HT.out 2 3 _ (by decide) (by decide) rfl W
    go_wp2_with (first | (with_reducible refine alA M ?_; clear M; (try clear F); intro w1 M F) | ((with_reducible apply ev_store (M := M)); rfl; rfl; ((conv => lhs; whnf) <;> rfl); rfl; (first | exact siI | exact siR | exact siV | exact siB | exact siSI | exact siSV | exact siW | exact siSR | exact siSO | exact siO); (exact one_all rfl); (exact dl); (exact Nat.le_of_ble_eq_true rfl); clear M; intro w1 M; simp only [SX] at M; (try clear F); have F := fx M) | (go_at_call 80; refine (HI.out _ _).mono ?_; rintro e w2 ⟨rfl, rfl⟩) | (go_at_call 161; refine (HE.out _).mono ?_; rintro e w2 ⟨rfl, rfl⟩) | (go_at_call 172; (refine nmK ?_; clear M; (try clear F); intro w1 M F); refine (HU.out _).mono ?_; rintro e w2 ⟨rfl, hb⟩; replace M := M.below hb; clear hb; (try clear F); have F := fx M))
    apply ret_cell_tmp (M := M); rfl; rfl; rfl; (exact dl); (first | exact agR | exact agV | exact agW | exact agO); (first | exact siI | exact siR | exact siV | exact siB | exact siSI | exact siSV | exact siW | exact siSR | exact siSO | exact siO); rfl
    exact ⟨rfl, M.toBelow⟩
  · go_enter Try.func162, Try.ntmps162
    have hx : (⟨#[97, 52]⟩ : ByteArray).extract 1 2 = ⟨#[52]⟩ := by rfl
    have HE : Hid (∀ V : World, Calls Try.prog 161 #[.string ⟨#[52]⟩] V fun e w' => e = .returned (.tuple #[.int .i64 4, .bool true]) ∧ V = w') := fun V => HD.out _ _ _ (by simp [decTab]) V
    have HU : Hid (∀ W : World, Calls Try.prog 172 #[.agg #[.int .i64 2, .int .i64 4]] W fun e w' => e = .returned (.string ⟨#[97, 52]⟩) ∧ Below W.heap.size W w') := fun W => HT.out 2 4 _ (by decide) (by decide) rfl W
    go_wp2_with (first | (with_reducible refine alA M ?_; clear M; (try clear F); intro w1 M F) | ((with_reducible apply ev_store (M := M)); rfl; rfl; ((conv => lhs; whnf) <;> rfl); rfl; (first | exact siI | exact siR | exact siV | exact siB | exact siSI | exact siSV | exact siW | exact siSR | exact siSO | exact siO); (exact one_all rfl); (exact dl); (exact Nat.le_of_ble_eq_true rfl); clear M; intro w1 M; simp only [SX] at M; (try clear F); have F := fx M) | (go_at_call 80; refine (HI.out _ _).mono ?_; rintro e w2 ⟨rfl, rfl⟩) | (go_at_call 161; refine (HE.out _).mono ?_; rintro e w2 ⟨rfl, rfl⟩) | (go_at_call 172; (refine nmK ?_; clear M; (try clear F); intro w1 M F); refine (HU.out _).mono ?_; rintro e w2 ⟨rfl, hb⟩; replace M := M.below hb; clear hb; (try clear F); have F := fx M))
    apply ret_cell_tmp (M := M); rfl; rfl; rfl; (exact dl); (first | exact agR | exact agV | exact agW | exact agO); (first | exact siI | exact siR | exact siV | exact siB | exact siSI | exact siSV | exact siW | exact siSR | exact siSO | exact siO); rfl
    exact ⟨rfl, M.toBelow⟩
end Go.Proofs.Ytmidnaafljgbiaa
/- The laws' marks on steps: laid, and held. -/
namespace Go.Proofs.Ytmidnaafljgbiaa
open Go.RowKit
set_option maxRecDepth 100000

section
variable {P : Program} {ops : Array Oper} {rest : List Oper} {Q : Exit → Act → World → Prop} {a : Act} {x y : Operand} {ty tt : TypeId} {pos : String} {after : Array Edge} {gd : Option (Nat × Bool)}
variable {α : Type} {enc : α → List Value} {m : Nat} {t : TypeId} {c : Nat} {pre post : List α} {e0 : α} {w0 w : World} {f : List Nat} {L L' : List Asn}
theorem mid_get (pre post : List α) (e0 : α) {k : Nat} (hp : pre.length = k) (h : k < (pre ++ e0 :: post).length) : (pre ++ e0 :: post)[k] = e0 := by
  subst hp
  simp
theorem mid_set (pre post : List α) (e0 x' : α) {k : Nat} (hp : pre.length = k) : (pre ++ e0 :: post).set k x' = pre ++ x' :: post := by
  subst hp
  simp
/-- One cell of an element of a row is stored. -/
theorem ev_elem (x' : α) (j : Nat) (hk : ∀ x, (enc x).length = m) (M : Mem w0 f w L) {v : Value} {g off k : Nat} (hw : Region.wanted ⟨none, .store tt x y, ty, pos, after, gd⟩ (yielded ops a.tmps) = true) (hx : a.eval x = .pointer (some ⟨g, off, none⟩)) (hy : a.eval y = v) (hv : v.cells = [v].toArray)
    (hs : (P.info? tt).map (·.size) = some 1) (h1 : v.oneCell' = true) (hd : Del (row enc m t (some ⟨g, 0, none⟩) c (pre ++ e0 :: post)) L L') (ho : off = k * m + j) (hp : pre.length = k) (hj : j < m) (e : enc x' = (enc e0).set j v)
    (h : ∀ w1, Mem w0 f w1 (row enc m t (some ⟨g, 0, none⟩) c (pre ++ x' :: post) :: L') → wpList P ops Q rest a w1) : wpList P ops Q (⟨none, .store tt x y, ty, pos, after, gd⟩ :: rest) a w := by
  have hl : k < (pre ++ e0 :: post).length := by rw [List.length_append, List.length_cons]; omega
  refine ev_store_row (j := j) (k := k) (x' := x') (vs := [v]) hk hw hx hy hv hs (by intro u hu; rw [List.mem_singleton.1 hu]; exact h1) M hd ho hl (by rw [List.length_singleton]; omega) ?_ fun w1 M1 => h w1 ?_
  · rw [mid_get _ _ _ hp hl, splice_one _ _ _ (by rw [hk]; exact hj)]
    exact e
  · rw [mid_set _ _ _ _ hp] at M1
    exact M1
theorem row_mid (hk : ∀ x, (enc x).length = m) {g k : Nat} (M : Mem w0 f w L) (hd : Del (row enc m t (some ⟨g, 0, none⟩) c (pre ++ e0 :: post)) L L') (hp : pre.length = k) : ∀ j, j < m → w.cell? ⟨g, k * m + j, none⟩ = (enc e0)[j]? := by
  have hl : k < (pre ++ e0 :: post).length := by rw [List.length_append, List.length_cons]; omega
  have h := (row_elem hk M hd hl).2.1
  rw [mid_get _ _ _ hp hl] at h
  exact h
end
end Go.Proofs.Ytmidnaafljgbiaa
/- A text is cut at a byte. -/
namespace Go.Proofs.Ytmidnaafljgbiaa
open Go.RowKit
set_option maxRecDepth 100000

abbrev tS : Nat := 9
def encS (s : ByteArray) : List Value := [.string s]
theorem encS_length (s : ByteArray) : (encS s).length = 1 := rfl
theorem oneS (s : ByteArray) : ∀ u ∈ encS s, u.oneCell' = true := by
  intro u hu
  obtain rfl : u = .string s := by simpa [encS] using hu
  rfl
theorem infSx : (Try.prog.info? 9).map (fun i => (i.zero.map (·.cells.size), i.size, i.bytes)) = some (some 1, 1, 16) := by kernel_rfl
theorem siStr : (Try.prog.info? 9).map (·.size) = some 1 := by kernel_rfl
theorem row_mid0 {w0 w : World} {f : List Nat} {L L' : List Asn} {g c q : Nat} {pre : List ByteArray} {last : ByteArray} (M : Mem w0 f w L) (hd : Del (row encS 1 tS (some ⟨g, 0, none⟩) c (pre ++ [last])) L L') (hq : pre.length = q) : w.cell? ⟨g, q, none⟩ = some (.string last) := by
  have h := row_mid encS_length M hd hq 0 (by decide)
  rw [Nat.mul_one] at h
  exact h
set_option maxHeartbeats 4000000 in
theorem sCut (s : ByteArray) (b0 : UInt8) (hs : s.size ≤ 400) {w0 w : World} {f : List Nat} {L : List Asn} (M : Mem w0 f w L) :
    Calls Try.prog 151 #[.string s, .int .u8 (b0.toNat : Int)] w fun e w' => ∃ (g c : Nat), e = .returned (.slice (some ⟨g, 0, none⟩) (cutM b0 s).length c) ∧ Mem w0 f w' (row encS 1 tS (some ⟨g, 0, none⟩) c (cutM b0 s) :: L) := by
  have AL := add_lit0
  have HF : Hid (∀ (U : World) (pre : List ByteArray) (last : ByteArray) (g c q : Nat), (pre, last) = cutP b0 s.data.toList → (pre ++ [last]).length = q → Mem w0 f U (row encS 1 tS (some ⟨g, 0, none⟩) c (pre ++ [last]) :: L) → ∃ (g' c' : Nat), Ending.returned (.slice (some ⟨g, 0, none⟩) q c) = .returned (.slice (some ⟨g', 0, none⟩) (cutM b0 s).length c') ∧ Mem w0 f U (row encS 1 tS (some ⟨g', 0, none⟩) c' (cutM b0 s) :: L)) := by
    intro U pre last g c q he hq M
    refine ⟨g, c, ?_, ?_⟩
    · unfold cutM; rw [← he, ← hq]
    · unfold cutM; rw [← he]; exact M
  generalize hR : (fun (e : Ending) (w' : World) => ∃ (g c : Nat), e = .returned (.slice (some ⟨g, 0, none⟩) (cutM b0 s).length c) ∧ Mem w0 f w' (row encS 1 tS (some ⟨g, 0, none⟩) c (cutM b0 s) :: L)) = R
  replace HF : Hid (∀ (U : World) (pre : List ByteArray) (last : ByteArray) (g c q : Nat), (pre, last) = cutP b0 s.data.toList → (pre ++ [last]).length = q → Mem w0 f U (row encS 1 tS (some ⟨g, 0, none⟩) c (pre ++ [last]) :: L) → R (.returned (.slice (some ⟨g, 0, none⟩) q c)) U) := by subst hR; exact HF
  clear hR
  (try clear F); have F := fxw M
  go_enter Try.func151, Try.ntmps151
  go_upto_region 2 with (first | (with_reducible refine alAw M ?_; clear M; (try clear F); intro w1 M F))
  have M2 : Mem w0 f w1 (row encS 1 tS (some ⟨w.heap.size, 0, none⟩) 1 [(⟨#[]⟩ : ByteArray)] :: L) := Mem.row_of encS_length (xs := [(⟨#[]⟩ : ByteArray)]) M rfl (by simp)
  clear M F
  generalize w.heap.size = g0 at M2 ⊢
  go_wp2
  go_loopg [5, 6] s.size (fun gg v i wr => ∃ (k g c q : Nat) (pre : List ByteArray) (last : ByteArray), k ≤ s.size ∧ s.size - k ≤ gg ∧ v = .slice (some ⟨g, 0, none⟩) (q + 1) c ∧ i = .int .i64 k ∧ pre.length = q ∧ q ≤ k ∧ last.size ≤ k ∧ (pre, last) = cutP b0 (s.data.toList.take k) ∧ Hid (Mem w0 f wr (row encS 1 tS (some ⟨g, 0, none⟩) c (pre ++ [last]) :: L)))
  case atStart => exact ⟨0, _, _, 0, [], ⟨#[]⟩, by omega, by omega, rfl, rfl, rfl, by omega, Nat.le_refl _, rfl, M2⟩
  case round =>
    clear M2
    obtain ⟨k, g, c, q, pre, last, hk, hg, rfl, rfl, hq, hqk, hlast, he, M⟩ := hrel
    replace M := M.out
    replace hq := Lib.hid hq
    replace he := Lib.hid he
    by_cases hlt : k < s.size
    · have ht := Lib.hid (take_snoc s k hlt)
      have i1 : (0 : Int) ≤ k := by omega
      have hsn := Lib.hid (cutP_snoc b0 (s.data.toList.take k) s[k])
      by_cases hb : s[k] = b0
      · have b1 : ((s[k].toNat : Int) == (b0.toNat : Int)) = true := by rw [hb]; simp
        have hq1 : (pre ++ [last]).length = q + 1 := by rw [List.length_append, hq.out]; rfl
        have hl0 := Lib.hid hq1
        have HN0 : (pre ++ [last], (⟨#[]⟩ : ByteArray)) = cutP b0 (s.data.toList.take (k + 1)) := by
          rw [ht.out, hsn.out, if_pos hb, ← he.out]
        have HN := Lib.hid HN0
        clear HN0
        clear hb hsn ht he hq1
        (try clear F); have F := fxw M
        go_wp2_with (first
          | ((with_reducible refine alAw M ?_; clear M; (try clear F); intro w1 M F); ((with_reducible apply ev_app1 (enc := encS) (v := (⟨#[]⟩ : ByteArray)) (hk := encS_length) (hone := oneS) (h0 := by decide) (hinfo := infSx) (ht := Try.underlying151) (M := M)); rfl; rfl; (exact dl); (exact dl); rfl; exact hl0.out.symm; (rw [hl0.out]; omega); (exact Nat.le_of_ble_eq_true rfl); clear M; intro A1 c1 w1 M; replace M := Mem.perm M (.swap _ _ _) |> Mem.drop; (try clear F); have F := fxw M)))
        obtain ⟨g1, rfl⟩ := row_form M .here (by simp)
        go_roundg (s.size - (k + 1))
        case measure => omega
        case rel => exact ⟨k + 1, g1, c1, q + 1, pre ++ [last], ⟨#[]⟩, by omega, Nat.le_refl _, rfl, by go_num, hl0.out, by omega, Nat.zero_le _, HN.out, M⟩
      · have b1 : ((s[k].toNat : Int) == (b0.toNat : Int)) = false := by
          rw [beq_eq_false_iff_ne]
          intro e
          exact hb (UInt8.toNat_inj.1 (by omega))
        have HN0 : (pre, last ++ ⟨#[s[k]]⟩) = cutP b0 (s.data.toList.take (k + 1)) := by
          rw [ht.out, hsn.out, if_neg hb, ← he.out]
        have HN := Lib.hid HN0
        have hz : (9223372036854775807 < last.size + 1) = False := eq_false (by omega)
        have hsz : (last ++ (⟨#[s[k]]⟩ : ByteArray)).size ≤ k + 1 := by
          rw [ByteArray.size_append]
          exact Nat.add_le_add_right hlast 1
        have wq : IntKind.i64.wrap ((q : Int) + 1 - 1) = (q : Int) := by rw [IntKind.wrap_i64]; omega
        have wq2 : IntKind.i64.wrap (q : Int) = (q : Int) := by rw [IntKind.wrap_i64]; omega
        have i2 : (0 : Int) ≤ q := by omega
        have i3 : (q : Int) < (q : Int) + 1 := by omega
        replace hsz := Lib.hid hsz
        clear hb hsn ht he HN0
        (try clear F); have F := fxw M
        go_upto_region 7 with fail
        (refine beginE (S := (fun W' => W'.cell? ⟨g, q, none⟩ = some (.string last))) 17 (by kernel_rfl) (fun _ _ _ _ _ h => h) (by (exact row_mid0 (by exact mb) dl hq.out)) (fun HQ hHeld => ?_))
        refine tkYE HQ hHeld 0 ?_; refine tkYE HQ hHeld 1 ?_; refine tkYE HQ hHeld 2 ?_; refine tkYE HQ hHeld 3 ?_; refine tkYE HQ hHeld 4 ?_; refine tkYE HQ hHeld 5 ?_; refine tkYE HQ hHeld 6 ?_; refine tkYE HQ hHeld 7 ?_; refine tkYE HQ hHeld 8 ?_; refine tkYE HQ hHeld 9 ?_; refine tkYE HQ hHeld 10 ?_; refine tkYE HQ hHeld 11 ?_; refine tkYE HQ hHeld 12 ?_
        refine stpE 13 (fun K hK => ?_); go_simp
        (try go_wp2_with fail); refine hK.out _ _ (by (exact row_mid0 (by exact mb) dl hq.out)) (fun hHeld => ?_); clear hK K; (try simp only [AX]); clear hHeld; (refine nmw (G := fun W => wpAnyE _ _ _ _ _ _ _ _ _ W) ?_; clear M; (try clear F); intro w1 M F)
        have hcv := bstr (cap := 1) s[k] M
        refine stpE 14 (fun K hK => ?_); go_simp
        (try go_wp2_with fail); refine hK.out _ _ (by (exact row_mid0 (by exact mb) dl hq.out)) (fun hHeld => ?_); clear hK K; (try simp only [AX])
        refine tkYE HQ hHeld 15 ?_; refine tkYE HQ hHeld 16 ?_
        refine stpT (fun K hK => ?_); refine op_of_list rfl ?_; ((with_reducible apply ev_elem (enc := encS) (x' := last ++ ⟨#[s[k]]⟩) (j := 0) (k := q) (hk := encS_length) (M := M)); rfl; rfl; ((conv => lhs; whnf) <;> rfl); rfl; exact siStr; rfl; (exact dl); (rw [Nat.mul_one]; rfl); exact hq.out; decide; exact rfl; clear M; intro w1 M; (try clear F); have F := fxw M); (try go_wp2_with fail); refine hK.out _ _ ?_; clear hK K; (try simp only [AX])
        go_wp2
        go_roundg (s.size - (k + 1))
        case measure => omega
        case rel => exact ⟨k + 1, g, c, q, pre, last ++ ⟨#[s[k]]⟩, by omega, Nat.le_refl _, rfl, by go_num, hq.out, by omega, hsz.out, HN.out, M.sel (.cons .here (.drop .refl))⟩
    · have b9 : decide (k < s.size) = false := by simpa using hlt
      have hl9 : s.size ≤ k := by omega
      go_wp2
      show R (.returned (.slice (some ⟨g, 0, none⟩) (q + 1) c)) wr
      refine HF.out _ pre last g c _ ?_ ?_ M
      · rw [he.out, List.take_of_length_le (by simpa using hl9)]
      · rw [List.length_append, hq.out]; rfl
end Go.Proofs.Ytmidnaafljgbiaa
/- The text of a step. -/
namespace Go.Proofs.Ytmidnaafljgbiaa
open Go.RowKit
set_option maxRecDepth 100000

def namesV : List Value := [.string ⟨#[]⟩, .string ⟨#[115, 101, 116]⟩, .string ⟨#[109, 111, 118, 101]⟩, .string ⟨#[97, 100, 100]⟩, .string ⟨#[115, 101, 108, 102]⟩, .string ⟨#[98, 101, 103, 105, 110]⟩, .string ⟨#[115, 101, 110, 100]⟩, .string ⟨#[116, 97, 107, 101]⟩, .string ⟨#[97, 102, 116, 101, 114]⟩, .string ⟨#[103, 111]⟩, .string ⟨#[105, 102]⟩, .string ⟨#[108, 105, 110, 107]⟩, .string ⟨#[119, 97, 116, 99, 104]⟩, .string ⟨#[116, 114, 97, 112]⟩, .string ⟨#[101, 110, 100]⟩]
theorem sNames {w0 w : World} {f : List Nat} {L : List Asn} (M : Mem w0 f w L) :
    Calls Try.prog 160 #[] w fun e w' => ∃ (g : Nat), e = .returned (.slice (some ⟨g, 0, none⟩) 15 15) ∧ Mem w0 f w' (blk g tS namesV :: L) := by
  (try clear F); have F := fxu M
  go_enter Try.func160, Try.ntmps160
  go_wp2_with (first | (with_reducible refine alAu M ?_; clear M; (try clear F); intro w1 M F))
  go_ret
  exact ⟨_, rfl, M.alloc _ _⟩
theorem name_cell {w0 w : World} {f : List Nat} {L L' : List Asn} {g n : Nat} (M : Mem w0 f w L) (hd : Del (blk g tS namesV) L L') (hn : n < 15) : w.cell? ⟨g, n, none⟩ = some (.string (nameB n)) := by
  rw [M.cells hd n]
  have : n = 0 ∨ n = 1 ∨ n = 2 ∨ n = 3 ∨ n = 4 ∨ n = 5 ∨ n = 6 ∨ n = 7 ∨ n = 8 ∨ n = 9 ∨ n = 10 ∨ n = 11 ∨ n = 12 ∨ n = 13 ∨ n = 14 := by omega
  rcases this with rfl | rfl | rfl | rfl | rfl | rfl | rfl | rfl | rfl | rfl | rfl | rfl | rfl | rfl | rfl <;> rfl
set_option maxHeartbeats 4000000 in
theorem sOpText (n rn sn tn m : Nat) (vk : Int) (f0 f1 f2 f3 : Bool) (hf : opForm (n : Int) = [f0, f1, f2, f3]) (hn : n < 15) (hr : rn ≤ 10) (hs : sn ≤ 10) (ht : tn ≤ 10) (hv : f3 = true → (vk = 1 ∨ vk = 2) ∧ m ≤ 4) (ho : opOk ⟨n, rn, sn, tn, ⟨vk, m⟩⟩ = true)
    {w0 w : World} {f : List Nat} {L : List Asn} (M : Mem w0 f w L) :
    Calls Try.prog 163 #[.agg #[.int .i64 (n : Int), .int .i64 (rn : Int), .int .i64 (sn : Int), .int .i64 (tn : Int), .int .i64 vk, .int .i64 (m : Int)]] w fun e w' => e = .returned (.string (addW f3 (addW f2 (addW f1 (addW f0 (nameB n) (decB rn)) (decB sn)) (decB tn)) (valB vk m))) ∧ Mem w0 f w' L := by
  have AL := add_lit0
  have HO : Hid (∀ V, Calls Try.prog 113 #[.agg #[.int .i64 (n : Int), .int .i64 (rn : Int), .int .i64 (sn : Int), .int .i64 (tn : Int), .int .i64 vk, .int .i64 (m : Int)]] V fun e w' => e = .returned (.bool true) ∧ Below V.heap.size V w') := fun V => by have h := sOpOk ⟨n, rn, sn, tn, ⟨vk, m⟩⟩ V; rw [ho] at h; exact h
  have HFo : Hid (∀ {U : World} {L1 : List Asn}, Mem w0 f U L1 → Calls Try.prog 126 #[.int .i64 (n : Int)] U (fun e w' => ∃ g c, e = .returned (.slice (some ⟨g, 0, none⟩) 4 c) ∧ Mem w0 f w' (rowB (some ⟨g, 0, none⟩) c [f0, f1, f2, f3] :: L1))) := fun {U L1} M => sFormAt hf M
  have HN : Hid (∀ {U : World} {L1 : List Asn}, Mem w0 f U L1 → Calls Try.prog 160 #[] U fun e w' => ∃ (g : Nat), e = .returned (.slice (some ⟨g, 0, none⟩) 15 15) ∧ Mem w0 f w' (blk g tS namesV :: L1)) := fun {U L1} M => sNames M
  have HR : Hid (∀ W, Calls Try.prog 173 #[.int .i64 (rn : Int)] W fun e w' => e = .returned (.string (decB rn)) ∧ Below W.heap.size W w') := fun W => sDec rn hr W
  have HS : Hid (∀ W, Calls Try.prog 173 #[.int .i64 (sn : Int)] W fun e w' => e = .returned (.string (decB sn)) ∧ Below W.heap.size W w') := fun W => sDec sn hs W
  have HT : Hid (∀ W, Calls Try.prog 173 #[.int .i64 (tn : Int)] W fun e w' => e = .returned (.string (decB tn)) ∧ Below W.heap.size W w') := fun W => sDec tn ht W
  have HV : Hid (f3 = true → ∀ W, Calls Try.prog 172 #[.agg #[.int .i64 vk, .int .i64 (m : Int)]] W fun e w' => e = .returned (.string (valB vk m)) ∧ Below W.heap.size W w') := fun h W => sValText vk m (hv h).1 (hv h).2 W
  have HC : Hid (∀ {U : World} {L1 L2 : List Asn} {g : Nat}, Mem w0 f U L1 → Del (blk g tS namesV) L1 L2 → U.cell? ⟨g, n, none⟩ = some (.string (nameB n))) := fun M hd => name_cell M hd hn
  have s1 := decB_size rn
  have s2 := decB_size sn
  have s3 := decB_size tn
  have s4 := valB_size vk m
  have hAs := nameB_size n
  have i1 : (0 : Int) ≤ n := by omega
  have i2 : (n : Int) < 15 := by omega
  replace hf := Lib.hid hf
  clear hr hs ht hv ho
  (try clear F); have F := fxu M
  go_enter Try.func163, Try.ntmps163
  go_upto_region 4 with (first | (with_reducible refine alAu M ?_; clear M; (try clear F); intro w1 M F) | (go_at_call 113; (refine nmKu ?_; clear M; (try clear F); intro w1 M F); refine (HO.out _).mono ?_; rintro e w2 ⟨rfl, hb⟩; replace M := M.below hb; clear hb; (try clear F); have F := fxu M) | (go_at_call 126; (refine nmKu ?_; clear M; (try clear F); intro w1 M F); refine (HFo.out M).mono ?_; clear M; rintro e w2 ⟨gf, cf, rfl, M⟩; (try clear F); have F := fxu M))
  generalize w.heap.size = g1 at M ⊢
  (try clear F); have F := fxu M
  (refine held_begin (S := fun W' => ∀ j, W'.cell? ⟨g1, j, none⟩ = ([.int .i64 (n : Int), .int .i64 (rn : Int), .int .i64 (sn : Int), .int .i64 (tn : Int), .int .i64 vk, .int .i64 (m : Int)] : List Value)[j]?) (by kernel_rfl) (fun _ _ _ _ _ h => h) kc (fun HQ hHeld => ?_))
  refine tkY HQ hHeld 1 ?_; refine tkY HQ hHeld 2 ?_; clear hHeld; (refine nmu (G := fun W => wpAnyH _ _ _ _ _ _ _ _ W) ?_; clear M; (try clear F); intro w1 M F)
  refine stp 0 (fun K hK => ?_); go_simp; (go_at_call 160; (refine nmKu ?_; clear M; (try clear F); intro w1 M F); refine (HN.out M).mono ?_; clear M; rintro e w2 ⟨gn, rfl, M⟩; have hcn := HC.out M dl); (try go_wp2_with fail); refine hK.out _ _ (kc) (fun hHeld => ?_); clear hK K; (try simp only [AX])
  refine tkY HQ hHeld 3 ?_
  refine stp 4 (fun K hK => ?_); go_simp; (try go_wp2_with fail); refine hK.out _ _ (kc) (fun hHeld => ?_); clear hK K; (try simp only [AX])
  refine tkY HQ hHeld 5 ?_
  refine wpAnyH_done (by kernel_rfl) ?_ _; clear HQ; (repeat clear hHeld)
  replace M := M.drop.sel (.cons (.there .here) (.cons .here .refl))
  clear hcn HC HN HFo HO
  (try clear F); have F := fxu M
  generalize hA : nameB n = A at hAs ⊢
  replace hA := Lib.hid hA.symm
  obtain ⟨B0, B1, B2, B3⟩ := elemB M dl
  go_upto_if 18 with fail
  clear B0 B1 B2 B3
  have z1 : (9223372036854775807 < A.size + 1) = False := eq_false (by omega)
  have z2 : (9223372036854775807 < A.size + 1 + (decB rn).size) = False := eq_false (by omega)
  go_cut [1, 3, 4] from 5 (fun s1 s3 s4 wx => ∃ A : ByteArray, s1 = .pointer (some ⟨g1, 0, none⟩) ∧ s3 = .slice (some ⟨gf, 0, none⟩) 4 cf ∧ s4 = .string A ∧ Hid (A = addW f0 (nameB n) (decB rn)) ∧ A.size ≤ 8 ∧ Mem w0 f wx (blk g1 tO [.int .i64 (n : Int), .int .i64 (rn : Int), .int .i64 (sn : Int), .int .i64 (tn : Int), .int .i64 vk, .int .i64 (m : Int)] :: rowB (some ⟨gf, 0, none⟩) cf [f0, f1, f2, f3] :: L))
  case first =>
    cases f0 with
    | false =>
      go_wp2
      go_meet
      case rel => exact ⟨A, rfl, rfl, rfl, Lib.hid (by rw [hA.out]; rfl), by omega, M.sel .refl⟩
    | true =>
      go_wp2_with (first | (go_at_call 173; (refine nmKu ?_; clear M; (try clear F); intro w1 M F); refine (HR.out _).mono ?_; rintro e w2 ⟨rfl, hb⟩; replace M := M.below hb; clear hb; (try clear F); have F := fxu M))
      go_meet
      case rel => exact ⟨_, rfl, rfl, rfl, Lib.hid (by rw [hA.out]; rfl), by (rw [ByteArray.size_append, ByteArray.size_append]; have : (⟨#[32]⟩ : ByteArray).size = 1 := rfl; omega), M.sel .refl⟩
  clear M F hA z1 z2 hAs
  obtain ⟨A, rfl, rfl, rfl, hA, hAs, M⟩ := hcut
  (try clear F); have F := fxu M
  obtain ⟨B0, B1, B2, B3⟩ := elemB M dl
  go_upto_if 27 with fail
  clear B0 B1 B2 B3
  have z1 : (9223372036854775807 < A.size + 1) = False := eq_false (by omega)
  have z2 : (9223372036854775807 < A.size + 1 + (decB sn).size) = False := eq_false (by omega)
  go_cut [1, 3, 4] from 5 (fun s1 s3 s4 wx => ∃ A : ByteArray, s1 = .pointer (some ⟨g1, 0, none⟩) ∧ s3 = .slice (some ⟨gf, 0, none⟩) 4 cf ∧ s4 = .string A ∧ Hid (A = addW f1 (addW f0 (nameB n) (decB rn)) (decB sn)) ∧ A.size ≤ 11 ∧ Mem w0 f wx (blk g1 tO [.int .i64 (n : Int), .int .i64 (rn : Int), .int .i64 (sn : Int), .int .i64 (tn : Int), .int .i64 vk, .int .i64 (m : Int)] :: rowB (some ⟨gf, 0, none⟩) cf [f0, f1, f2, f3] :: L))
  case first =>
    cases f1 with
    | false =>
      go_wp2
      go_meet
      case rel => exact ⟨A, rfl, rfl, rfl, Lib.hid (by rw [hA.out]; rfl), by omega, M.sel .refl⟩
    | true =>
      go_wp2_with (first | (go_at_call 173; (refine nmKu ?_; clear M; (try clear F); intro w1 M F); refine (HS.out _).mono ?_; rintro e w2 ⟨rfl, hb⟩; replace M := M.below hb; clear hb; (try clear F); have F := fxu M))
      go_meet
      case rel => exact ⟨_, rfl, rfl, rfl, Lib.hid (by rw [hA.out]; rfl), by (rw [ByteArray.size_append, ByteArray.size_append]; have : (⟨#[32]⟩ : ByteArray).size = 1 := rfl; omega), M.sel .refl⟩
  clear M F hA z1 z2 hAs
  obtain ⟨A, rfl, rfl, rfl, hA, hAs, M⟩ := hcut
  (try clear F); have F := fxu M
  obtain ⟨B0, B1, B2, B3⟩ := elemB M dl
  go_upto_if 36 with fail
  clear B0 B1 B2 B3
  have z1 : (9223372036854775807 < A.size + 1) = False := eq_false (by omega)
  have z2 : (9223372036854775807 < A.size + 1 + (decB tn).size) = False := eq_false (by omega)
  go_cut [1, 3, 4] from 5 (fun s1 s3 s4 wx => ∃ A : ByteArray, s1 = .pointer (some ⟨g1, 0, none⟩) ∧ s3 = .slice (some ⟨gf, 0, none⟩) 4 cf ∧ s4 = .string A ∧ Hid (A = addW f2 (addW f1 (addW f0 (nameB n) (decB rn)) (decB sn)) (decB tn)) ∧ A.size ≤ 14 ∧ Mem w0 f wx (blk g1 tO [.int .i64 (n : Int), .int .i64 (rn : Int), .int .i64 (sn : Int), .int .i64 (tn : Int), .int .i64 vk, .int .i64 (m : Int)] :: rowB (some ⟨gf, 0, none⟩) cf [f0, f1, f2, f3] :: L))
  case first =>
    cases f2 with
    | false =>
      go_wp2
      go_meet
      case rel => exact ⟨A, rfl, rfl, rfl, Lib.hid (by rw [hA.out]; rfl), by omega, M.sel .refl⟩
    | true =>
      go_wp2_with (first | (go_at_call 173; (refine nmKu ?_; clear M; (try clear F); intro w1 M F); refine (HT.out _).mono ?_; rintro e w2 ⟨rfl, hb⟩; replace M := M.below hb; clear hb; (try clear F); have F := fxu M))
      go_meet
      case rel => exact ⟨_, rfl, rfl, rfl, Lib.hid (by rw [hA.out]; rfl), by (rw [ByteArray.size_append, ByteArray.size_append]; have : (⟨#[32]⟩ : ByteArray).size = 1 := rfl; omega), M.sel .refl⟩
  clear M F hA z1 z2 hAs
  obtain ⟨A, rfl, rfl, rfl, hA, hAs, M⟩ := hcut
  (try clear F); have F := fxu M
  obtain ⟨B0, B1, B2, B3⟩ := elemB M dl
  go_upto_if 45 with fail
  clear B0 B1 B2 B3
  have z1 : (9223372036854775807 < A.size + 1) = False := eq_false (by omega)
  have z2 : (9223372036854775807 < A.size + 1 + (valB vk m).size) = False := eq_false (by omega)
  go_cut [1, 3, 4] from 5 (fun s1 s3 s4 wx => ∃ A : ByteArray, s1 = .pointer (some ⟨g1, 0, none⟩) ∧ s3 = .slice (some ⟨gf, 0, none⟩) 4 cf ∧ s4 = .string A ∧ Hid (A = addW f3 (addW f2 (addW f1 (addW f0 (nameB n) (decB rn)) (decB sn)) (decB tn)) (valB vk m)) ∧ A.size ≤ 18 ∧ Mem w0 f wx (blk g1 tO [.int .i64 (n : Int), .int .i64 (rn : Int), .int .i64 (sn : Int), .int .i64 (tn : Int), .int .i64 vk, .int .i64 (m : Int)] :: rowB (some ⟨gf, 0, none⟩) cf [f0, f1, f2, f3] :: L))
  case first =>
    cases f3 with
    | false =>
      go_wp2
      go_meet
      case rel => exact ⟨A, rfl, rfl, rfl, Lib.hid (by rw [hA.out]; rfl), by omega, M.sel .refl⟩
    | true =>
      go_wp2_with (first | (go_at_call 172; (refine nmKu ?_; clear M; (try clear F); intro w1 M F); refine (HV.out rfl _).mono ?_; rintro e w2 ⟨rfl, hb⟩; replace M := M.below hb; clear hb; (try clear F); have F := fxu M))
      go_meet
      case rel => exact ⟨_, rfl, rfl, rfl, Lib.hid (by rw [hA.out]; rfl), by (rw [ByteArray.size_append, ByteArray.size_append]; have : (⟨#[32]⟩ : ByteArray).size = 1 := rfl; omega), M.sel .refl⟩
  clear M F hA z1 z2 hAs
  obtain ⟨A, rfl, rfl, rfl, hA, hAs, M⟩ := hcut
  (try clear F); have F := fxu M
  go_wp2
  go_ret
  rw [hA.out]
  exact ⟨rfl, M.drop.drop⟩
end Go.Proofs.Ytmidnaafljgbiaa
