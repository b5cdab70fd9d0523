/- The laws' marks: each cell of a run's lists is given a number of its own. -/
import Derived.Test.YtemglijebbodkaaS9
import Derived.Test.YtemglijebbodkaaOwn4
namespace Go.Proofs.Ytemglijebbodkaa
open Go.RowKit
set_option maxRecDepth 100000

def marksI (k : Int) (n : Nat) : List Int := (List.range n).map fun (i : Nat) => k + (i : Int)
def marksV (k : Int) (n : Nat) : List Vl := (List.range n).map fun (i : Nat) => ⟨k + 2 * (i : Int), k + 2 * (i : Int) + 1⟩
theorem marksI_length (k : Int) (n : Nat) : (marksI k n).length = n := by simp [marksI]
theorem marksV_length (k : Int) (n : Nat) : (marksV k n).length = n := by simp [marksV]
theorem marksI_get {k : Int} {n j : Nat} (h : j < n) : (marksI k n)[j]? = some (k + j) := by simp [marksI, h]
theorem marksV_get {k : Int} {n j : Nat} (h : j < n) : (marksV k n)[j]? = some ⟨k + 2 * j, k + 2 * j + 1⟩ := by simp [marksV, h]
theorem grown_refl (w : World) (row : Option Nat) : w.grownBy w row := ⟨rfl, rfl, rfl, Nat.le_refl _, fun _ _ _ => rfl⟩
theorem grown_trans {w a b : World} {row : Option Nat} (h : w.grownBy a row) (k : a.grownBy b row) : w.grownBy b row :=
  ⟨k.os.trans h.os, k.tape.trans h.tape, k.output.trans h.output, Nat.le_trans h.size k.size, fun i hi hne => (k.block i (Nat.lt_of_lt_of_le hi h.size) hne).trans (h.block i hi hne)⟩
theorem grown_set {w W : World} {g : Nat} (h : w.grownBy W (some g)) (j : Nat) (u : Value) : w.grownBy (W.setCell ⟨g, j, none⟩ u) (some g) :=
  grown_trans h ⟨rfl, rfl, rfl, by simp [World.setCell], fun k _ hne => Below.heap_setCell W ⟨g, j, none⟩ u k (fun e => hne (by rw [e]))⟩

set_option maxHeartbeats 1000000 in
theorem lMarkI1 (xs : List Int) (g n c base : Nat) (k0 : Int) (w : World) (h : RowL encI 1 3 w base g n c xs) (hn : n ≤ 140737488355328) (h0 : 0 ≤ k0) (h1 : k0 ≤ 1152921504606846976) :
    Calls Try.prog 45 #[.slice (some ⟨g, 0, none⟩) n c, .int .i64 k0] w fun e w' => e = .returned (.int .i64 (k0 + n)) ∧ RowL encI 1 3 w' base g n c (marksI k0 n) ∧ w.grownBy w' (some g) := by
  go_enter Try.func45, Try.ntmps45
  go_wp2
  go_loopg [1, 5] n (fun gg s1 s5 wr => ∃ (k : Nat) (cur : List Int), k ≤ n ∧ n - k ≤ gg ∧ s1 = .int .i64 (k0 + k) ∧ s5 = .int .i64 k ∧ Hid (RowL encI 1 3 wr base g n c cur) ∧ Hid (∀ j, j < k → cur[j]? = (marksI k0 n)[j]?) ∧ Hid (w.grownBy wr (some g)))
  case atStart => exact ⟨0, xs, Nat.zero_le _, by omega, by simp, rfl, h, fun j hj => absurd hj (by omega), grown_refl _ _⟩
  case round =>
    obtain ⟨k, cur, hk, hg, rfl, rfl, RW, CU, GW⟩ := hrel
    by_cases hlt : k < n
    · have hcl : k < cur.length := by rw [RW.out.1]; exact hlt
      obtain ⟨hd1, hd2⟩ := RW.out.cell encI_length hcl (i := 0) (by decide)
      have hst := Lib.hid (RW.out.store encI_length hcl (i := 0) (by decide) (x' := k0 + k) (u := .int .i64 (k0 + k)) rfl)
      have hup := Lib.hid (upto_step hcl CU.out (marksI_get hlt))
      have hge := (RW.out.ge (by omega)).2
      simp only [Nat.mul_one, Nat.add_zero] at hd1 hd2 hst
      have hd1' : wr.cell? ⟨g, k, none⟩ = some (.int .i64 cur[k]) := hd1
      clear hd1
      generalize cur[k] = y at hd1'
      have i1 : (0 : Int) ≤ k := by omega
      have i2 : (k : Int) < n := by omega
      go_wp2
      go_roundg (n - (k + 1))
      case measure => omega
      case rel => exact ⟨k + 1, cur.set k (k0 + k), by omega, by omega, by go_num, by go_num, hst.out, hup.out, grown_set GW.out _ _⟩
    · have : k = n := by omega
      subst this
      have e := upto_end (marksI_length _ _) RW.out.1 CU.out
      subst e
      have RR := Lib.hid RW.out
      clear RW CU
      go_wp2
      go_ret
      exact ⟨rfl, RR.out, GW.out⟩
set_option maxHeartbeats 1000000 in
theorem lMarkV1 (xs : List Vl) (g n c base : Nat) (k0 : Int) (w : World) (h : RowL encV 2 24 w base g n c xs) (hn : n ≤ 140737488355328) (h0 : 0 ≤ k0) (h1 : k0 ≤ 1152921504606846976) :
    Calls Try.prog 44 #[.slice (some ⟨g, 0, none⟩) n c, .int .i64 k0] w fun e w' => e = .returned (.int .i64 (k0 + 2 * n)) ∧ RowL encV 2 24 w' base g n c (marksV k0 n) ∧ w.grownBy w' (some g) := by
  go_enter Try.func44, Try.ntmps44
  go_wp2
  go_loopg [1, 5] n (fun gg s1 s5 wr => ∃ (k : Nat) (cur : List Vl), k ≤ n ∧ n - k ≤ gg ∧ s1 = .int .i64 (k0 + 2 * k) ∧ s5 = .int .i64 k ∧ Hid (RowL encV 2 24 wr base g n c cur) ∧ Hid (∀ j, j < k → cur[j]? = (marksV k0 n)[j]?) ∧ Hid (w.grownBy wr (some g)))
  case atStart => exact ⟨0, xs, Nat.zero_le _, by omega, by simp, rfl, h, fun j hj => absurd hj (by omega), grown_refl _ _⟩
  case round =>
    obtain ⟨k, cur, hk, hg, rfl, rfl, RW, CU, GW⟩ := hrel
    by_cases hlt : k < n
    · have hcl : k < cur.length := by rw [RW.out.1]; exact hlt
      obtain ⟨⟨y1, hd1⟩, ⟨y2, hd2⟩, hd3, hd4, hst⟩ := row_set2 RW.out hcl ⟨k0 + 2 * k, k0 + 2 * k + 1⟩
      have HST := Lib.hid hst
      clear hst
      have hup := Lib.hid (upto_step hcl CU.out (marksV_get hlt))
      have hge := (RW.out.ge (by omega)).2
      have i1 : (0 : Int) ≤ k := by omega
      have i2 : (k : Int) < n := by omega
      have e1 : IntKind.i64.wrap (k0 + 2 * (k : Int) + 1) = k0 + 2 * (k : Int) + 1 := by rw [IntKind.wrap_i64]; omega
      go_wp2
      go_roundg (n - (k + 1))
      case measure => omega
      case rel => exact ⟨k + 1, cur.set k ⟨k0 + 2 * k, k0 + 2 * k + 1⟩, by omega, by omega, by go_num, by go_num, HST.out, hup.out, grown_set (grown_set GW.out _ _) _ _⟩
    · have : k = n := by omega
      subst this
      have e := upto_end (marksV_length _ _) RW.out.1 CU.out
      subst e
      have RR := Lib.hid RW.out
      clear RW CU
      go_wp2
      go_ret
      exact ⟨rfl, RR.out, GW.out⟩
end Go.Proofs.Ytemglijebbodkaa
