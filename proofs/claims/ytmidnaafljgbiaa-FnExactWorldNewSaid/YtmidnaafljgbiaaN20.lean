/- Parts of the proof, in one text. -/
import Derived.StillTailTactics
import Derived.Test.YtmidnaafljgbiaaN05
import Derived.Test.YtmidnaafljgbiaaN01
/- The laws' own helpers on values and numbers: copies, sizes, comparisons. -/
namespace Go.Proofs.Ytmidnaafljgbiaa
open Go.RowKit
set_option maxRecDepth 100000

set_option maxHeartbeats 1000000 in
theorem lToVal (v : Vl) (w : World) : Calls Try.prog 52 #[.agg #[.int .i64 v.k, .int .i64 v.n]] w fun e w' => e = .returned (.agg #[.int .i64 v.k, .int .i64 v.n]) ∧ Below w.heap.size w w' := by
  obtain ⟨k, n⟩ := v
  go_enter Try.func52, Try.ntmps52
  go_wp2
  exact bodyPost_ret (v := .agg #[.int .i64 k, .int .i64 n]) (by simp [results, Try.results52, go_sem]) rfl ⟨rfl, by repeat (first | exact Below.refl _ _ | apply below_new | (refine below_set ?_ (by simp; try omega)))⟩

set_option maxHeartbeats 1000000 in
theorem lEqVal (v : Vl) (w : World) : Calls Try.prog 19 #[.agg #[.int .i64 v.k, .int .i64 v.n], .agg #[.int .i64 v.k, .int .i64 v.n]] w fun e w' => e = .returned (.bool true) ∧ Below w.heap.size w w' := by
  obtain ⟨k, n⟩ := v
  go_enter Try.func19, Try.ntmps19
  go_wp2
  go_ret
  exact ⟨rfl, by repeat (first | exact Below.refl _ _ | apply below_new)⟩

set_option maxHeartbeats 1000000 in
theorem lEqIntS (l : List Int) (A A' : Option Addr) (c c' B : Nat) (w : World) (h : ReadsI w B A l.length l) (h' : ReadsI w B A' l.length l) (hB : B ≤ w.heap.size) :
    Calls Try.prog 56 #[.slice A l.length c, .slice A' l.length c'] w fun e w' => e = .returned (.bool true) ∧ Below w.heap.size w w' := by
  have hm := h.2.1
  go_enter Try.func56, Try.ntmps56
  go_wp2
  go_loopg [5] l.length (fun gg i wr => ∃ k : Nat, k ≤ l.length ∧ l.length - k ≤ gg ∧ i = .int .i64 k ∧ Hid (Below w.heap.size w wr))
  case atStart => exact ⟨0, Nat.zero_le _, by omega, rfl, Below.refl _ _⟩
  case round =>
    obtain ⟨k, hk, hg, rfl, BW⟩ := hrel
    by_cases hlt : k < l.length
    · obtain ⟨ad, rfl, _, hc⟩ := (h.below' BW.out hB).int hlt
      obtain ⟨ad', rfl, _, hc'⟩ := (h'.below' BW.out hB).int hlt
      generalize l[k] = x at hc hc'
      have i1 : (0 : Int) ≤ k := by omega
      have i2 : (k : Int) < l.length := by omega
      go_wp2
      go_quiet (fail)
      go_wp2
      go_roundg (l.length - (k + 1))
      case measure => omega
      case rel => exact ⟨k + 1, by omega, by omega, by go_num, below_drewN BW.out _⟩
    · have : k = l.length := by omega
      subst this
      go_wp2
      go_ret
      exact ⟨rfl, BW.out⟩
end Go.Proofs.Ytmidnaafljgbiaa
/- The laws' own comparison of lists of values. -/
namespace Go.Proofs.Ytmidnaafljgbiaa
open Go.RowKit
set_option maxRecDepth 100000

set_option maxHeartbeats 1000000 in
theorem lEqValS (l : List Vl) (A A' : Option Addr) (c c' B : Nat) (w : World) (h : ReadsV w B A l.length l) (h' : ReadsV w B A' l.length l) (hB : B ≤ w.heap.size) :
    Calls Try.prog 55 #[.slice A l.length c, .slice A' l.length c'] w fun e w' => e = .returned (.bool true) ∧ Below w.heap.size w w' := by
  have hm := h.2.1
  go_enter Try.func55, Try.ntmps55
  go_wp2
  go_loopg [5] l.length (fun gg i wr => ∃ k : Nat, k ≤ l.length ∧ l.length - k ≤ gg ∧ i = .int .i64 k ∧ Hid (Below w.heap.size w wr))
  case atStart => exact ⟨0, Nat.zero_le _, by omega, rfl, Below.refl _ _⟩
  case round =>
    obtain ⟨k, hk, hg, rfl, BW⟩ := hrel
    by_cases hlt : k < l.length
    · obtain ⟨ad, rfl, _, hc1, hc2⟩ := (h.below' BW.out hB).val hlt
      obtain ⟨ad', rfl, _, hd1, hd2⟩ := (h'.below' BW.out hB).val hlt
      generalize l[k] = x at hc1 hc2 hd1 hd2
      obtain ⟨xk, xn⟩ := x
      have i1 : (0 : Int) ≤ k := by omega
      have i2 : (k : Int) < l.length := by omega
      go_wp2
      go_still_tail 8, (by kernel_rfl)
      go_wp2_with (go_at_call 19; refine (lEqVal ⟨xk, xn⟩ _).mono ?_; rintro e w' ⟨rfl, hb⟩)
      go_roundg (l.length - (k + 1))
      case measure => omega
      case rel => exact ⟨k + 1, by omega, by omega, by go_num, below_step (BW.out.drew) hb⟩
    · have : k = l.length := by omega
      subst this
      go_wp2
      go_ret
      exact ⟨rfl, BW.out⟩
end Go.Proofs.Ytmidnaafljgbiaa
/- The laws' own copies of lists. -/
namespace Go.Proofs.Ytmidnaafljgbiaa
open Go.RowKit
set_option maxRecDepth 100000

theorem infoV : (Try.prog.info? 30).map (fun i => (i.zero, i.size, i.bytes)) = some (some (.agg #[.int .i64 0, .int .i64 0]), 2, 16) := by kernel_rfl

theorem RowL.below {α : Type} {enc : α → List Value} {m t : Nat} {w w' : World} {base g n cap : Nat} {xs : List α} (h : RowL enc m t w base g n cap xs) (hb : Below w.heap.size w w') : RowL enc m t w' base g n cap xs := ⟨h.1, h.2.below hb⟩
/-- A value is laid into a row of values: what the walk asks, and what is left. -/
theorem row_set2 {w : World} {t base g n cap : Nat} {xs : List Vl} (h : RowL encV 2 t w base g n cap xs) {k : Nat} (hk : k < xs.length) (x : Vl) :
    (∃ u, w.cell? ⟨g, k * 2, none⟩ = some u) ∧ (∃ u, w.cell? ⟨g, k * 2 + 1, none⟩ = some u) ∧ w.frozen? ⟨g, k * 2, none⟩ = false ∧ w.frozen? ⟨g, k * 2 + 1, none⟩ = false ∧
      RowL encV 2 t ((w.setCell ⟨g, k * 2, none⟩ (.int .i64 x.k)).setCell ⟨g, k * 2 + 1, none⟩ (.int .i64 x.n)) base g n cap (xs.set k x) := by
  obtain ⟨c1, f1⟩ := h.cell encV_length hk (i := 0) (by decide)
  obtain ⟨c2, f2⟩ := h.cell encV_length hk (i := 1) (by decide)
  refine ⟨⟨_, c1⟩, ⟨_, c2⟩, f1, f2, ?_⟩
  have h1 := h.store encV_length hk (i := 0) (by decide) (x' := ⟨x.k, (xs[k]).n⟩) (u := .int .i64 x.k) rfl
  have hk1 : k < (xs.set k (⟨x.k, (xs[k]).n⟩ : Vl)).length := by rw [List.length_set]; exact hk
  have h2 := h1.store encV_length hk1 (i := 1) (by decide) (x' := x) (u := .int .i64 x.n) (by rw [List.getElem_set_self]; rfl)
  rw [List.set_set] at h2
  exact h2

end Go.Proofs.Ytmidnaafljgbiaa
