/- The laws' own comparison of runs. -/
import Derived.Test.YtemglijebbodkaaS7
import Derived.Test.YtemglijebbodkaaD2
namespace Go.Proofs.Ytemglijebbodkaa
open Go.RowKit
set_option maxRecDepth 100000

set_option maxHeartbeats 1000000 in
theorem lvIntsOk (l : List Int) (A A' : Option Addr) (c c' B : Nat) (w : World) (h : ReadsI w B A l.length l) (h' : ReadsI w B A' l.length l) (hB : B ≤ w.heap.size) :
    Calls Try.prog 38 #[.slice A l.length c, .slice A' l.length c'] w fun e w' => e = .returned (.bool true) ∧ Below w.heap.size w w' := by
  have hm := h.2.1
  go_enter Try.func38, Try.ntmps38
  go_wp2
  go_loopg [5] l.length (fun gg i wr => ∃ k : Nat, k ≤ l.length ∧ l.length - k ≤ gg ∧ i = .int .i64 k ∧ Hid (Below w.heap.size w wr))
  case atStart => exact ⟨0, Nat.zero_le _, by omega, rfl, Below.refl _ _⟩
  case round =>
    obtain ⟨k, hk, hg, rfl, BW⟩ := hrel
    by_cases hlt : k < l.length
    · obtain ⟨ad, rfl, _, hc⟩ := (h.below' BW.out hB).int hlt
      obtain ⟨ad', rfl, _, hc'⟩ := (h'.below' BW.out hB).int hlt
      generalize l[k] = x at hc hc'
      have i1 : (0 : Int) ≤ k := by omega
      have i2 : (k : Int) < l.length := by omega
      go_wp2
      go_quiet (fail)
      go_wp2
      go_roundg (l.length - (k + 1))
      case measure => omega
      case rel => exact ⟨k + 1, by omega, by omega, by go_num, below_drewN BW.out _⟩
    · have : k = l.length := by omega
      subst this
      go_wp2
      go_ret
      exact ⟨rfl, BW.out⟩
set_option maxHeartbeats 1000000 in
theorem lvValsOk (l : List Vl) (A A' : Option Addr) (c c' B : Nat) (w : World) (h : ReadsV w B A l.length l) (h' : ReadsV w B A' l.length l) (hB : B ≤ w.heap.size) :
    Calls Try.prog 37 #[.slice A l.length c, .slice A' l.length c'] w fun e w' => e = .returned (.bool true) ∧ Below w.heap.size w w' := by
  have hm := h.2.1
  go_enter Try.func37, Try.ntmps37
  go_wp2
  go_loopg [5] l.length (fun gg i wr => ∃ k : Nat, k ≤ l.length ∧ l.length - k ≤ gg ∧ i = .int .i64 k ∧ Hid (Below w.heap.size w wr))
  case atStart => exact ⟨0, Nat.zero_le _, by omega, rfl, Below.refl _ _⟩
  case round =>
    obtain ⟨k, hk, hg, rfl, BW⟩ := hrel
    by_cases hlt : k < l.length
    · obtain ⟨ad, rfl, _, hc1, hc2⟩ := (h.below' BW.out hB).val hlt
      obtain ⟨ad', rfl, _, hd1, hd2⟩ := (h'.below' BW.out hB).val hlt
      generalize l[k] = x at hc1 hc2 hd1 hd2
      obtain ⟨xk, xn⟩ := x
      simp only at hc1 hc2 hd1 hd2
      have i1 : (0 : Int) ≤ k := by omega
      have i2 : (k : Int) < l.length := by omega
      go_wp2
      go_quiet (fail)
      go_wp2
      go_roundg (l.length - (k + 1))
      case measure => omega
      case rel => exact ⟨k + 1, by omega, by omega, by go_num, below_drewN BW.out _⟩
    · have : k = l.length := by omega
      subst this
      go_wp2
      go_ret
      exact ⟨rfl, BW.out⟩
set_option maxHeartbeats 2000000 in
theorem lvRunOk (r : Rn) (a b : RA) (B : Nat) (w : World) (hr : ReadsRun w B r a) (hr' : ReadsRun w B r b) (hB : B ≤ w.heap.size) :
    Calls Try.prog 12 #[.agg (runArr r a), .agg (runArr r b)] w fun e w' => e = .returned (.bool true) ∧ Below w.heap.size w w' := by
  have H1 := Lib.hid (fun W (hb : Below w.heap.size w W) => lvValsOk r.slots a.sA b.sA a.sC b.sC B W (hr.slots.below' hb hB) (hr'.slots.below' hb hB) (Nat.le_trans hB hb.size))
  have H2 := Lib.hid (fun W (hb : Below w.heap.size w W) => lvValsOk r.mail a.mA b.mA a.mC b.mC B W (hr.mail.below' hb hB) (hr'.mail.below' hb hB) (Nat.le_trans hB hb.size))
  have H3 := Lib.hid (fun W (hb : Below w.heap.size w W) => lvIntsOk r.links a.lA b.lA a.lC b.lC B W (hr.links.below' hb hB) (hr'.links.below' hb hB) (Nat.le_trans hB hb.size))
  have H4 := Lib.hid (fun W (hb : Below w.heap.size w W) => lvIntsOk r.watched a.wA b.wA a.wC b.wC B W (hr.watched.below' hb hB) (hr'.watched.below' hb hB) (Nat.le_trans hB hb.size))
  clear hr hr'
  have M := Mem.nil w
  obtain ⟨id, at_, slots, full, mail, state, due, links, watched, trap, ⟨wk, wn⟩, turns⟩ := r
  obtain ⟨sA, sC, mA, mC, lA, lC, wA, wC⟩ := a
  obtain ⟨sA', sC', mA', mC', lA', lC', wA', wC'⟩ := b
  simp only [runArr] at H1 H2 H3 H4 ⊢
  go_enter Try.func12, Try.ntmps12
  go_wp2_with (first
    | ((with_reducible refine goal_alloc (G := fun W => wpList _ _ _ _ _ W) M ?_); clear M; intro w1 M; (try clear F); have F := M.facts; simp only [And.intro FX FXd] at F) | ((with_reducible apply ev_store (M := M)); rfl; rfl; ((conv => lhs; whnf); rfl); rfl; (first | exact siI | exact siR | exact siV | exact siB | exact siSI | exact siSV | exact siW | exact siSR | exact siSO | exact siO); (exact one_all rfl); (repeat (first | with_reducible exact Del.here | with_reducible apply Del.there)); (exact Nat.le_of_ble_eq_true rfl); clear M; intro w1 M; simp only [SX] at M; (try clear F); have F := M.facts; simp only [And.intro FX FXd] at F) | ((with_reducible refine goal_drewN (G := fun W => wpList _ _ _ _ _ W) M ?_); clear M; intro w1 M; (try clear F); have F := M.facts; simp only [And.intro FX FXd] at F) | ((with_reducible refine goal_drew (G := fun W => wpList _ _ _ _ _ W) M ?_); clear M; intro w1 M; (try clear F); have F := M.facts; simp only [And.intro FX FXd] at F) | ((with_reducible refine isSet (G := fun W => wpList _ _ _ _ _ W) ?_); ((with_reducible apply goal_name (G := fun W => wpList _ _ _ _ _ W)); (repeat (first | with_reducible exact M | with_reducible apply Mem.drew | with_reducible apply Mem.drewN | with_reducible apply Mem.allocD | with_reducible apply Mem.setV | with_reducible apply Mem.setD | with_reducible exact Del.here | with_reducible apply Del.there | with_reducible assumption)); clear M; intro w1 M; (try simp only [LX] at M); (try clear F); have F := M.facts; simp only [And.intro FX FXd] at F))
    | (go_at_call_of 37 (Value.slice sA slots.length sC); (apply goal_name (G := fun W => Calls _ _ _ W _)); (repeat (first | with_reducible exact M | with_reducible apply Mem.drew | with_reducible apply Mem.drewN | with_reducible apply Mem.allocD | with_reducible apply Mem.setV | with_reducible apply Mem.setD | with_reducible exact Del.here | with_reducible apply Del.there | with_reducible assumption)); clear M; intro w1 M; (try simp only [LX] at M); (try clear F); have F := M.facts; simp only [And.intro FX FXd] at F; refine (H1.out _ M.toBelow).mono ?_; rintro e w2 ⟨rfl, hb⟩; replace M := M.below hb; clear hb; (try clear F); have F := M.facts; simp only [And.intro FX FXd] at F)
    | (go_at_call_of 37 (Value.slice mA mail.length mC); (apply goal_name (G := fun W => Calls _ _ _ W _)); (repeat (first | with_reducible exact M | with_reducible apply Mem.drew | with_reducible apply Mem.drewN | with_reducible apply Mem.allocD | with_reducible apply Mem.setV | with_reducible apply Mem.setD | with_reducible exact Del.here | with_reducible apply Del.there | with_reducible assumption)); clear M; intro w1 M; (try simp only [LX] at M); (try clear F); have F := M.facts; simp only [And.intro FX FXd] at F; refine (H2.out _ M.toBelow).mono ?_; rintro e w2 ⟨rfl, hb⟩; replace M := M.below hb; clear hb; (try clear F); have F := M.facts; simp only [And.intro FX FXd] at F)
    | (go_at_call_of 38 (Value.slice lA links.length lC); (apply goal_name (G := fun W => Calls _ _ _ W _)); (repeat (first | with_reducible exact M | with_reducible apply Mem.drew | with_reducible apply Mem.drewN | with_reducible apply Mem.allocD | with_reducible apply Mem.setV | with_reducible apply Mem.setD | with_reducible exact Del.here | with_reducible apply Del.there | with_reducible assumption)); clear M; intro w1 M; (try simp only [LX] at M); (try clear F); have F := M.facts; simp only [And.intro FX FXd] at F; refine (H3.out _ M.toBelow).mono ?_; rintro e w2 ⟨rfl, hb⟩; replace M := M.below hb; clear hb; (try clear F); have F := M.facts; simp only [And.intro FX FXd] at F)
    | (go_at_call_of 38 (Value.slice wA watched.length wC); (apply goal_name (G := fun W => Calls _ _ _ W _)); (repeat (first | with_reducible exact M | with_reducible apply Mem.drew | with_reducible apply Mem.drewN | with_reducible apply Mem.allocD | with_reducible apply Mem.setV | with_reducible apply Mem.setD | with_reducible exact Del.here | with_reducible apply Del.there | with_reducible assumption)); clear M; intro w1 M; (try simp only [LX] at M); (try clear F); have F := M.facts; simp only [And.intro FX FXd] at F; refine (H4.out _ M.toBelow).mono ?_; rintro e w2 ⟨rfl, hb⟩; replace M := M.below hb; clear hb; (try clear F); have F := M.facts; simp only [And.intro FX FXd] at F))
  go_ret
  exact ⟨rfl, M.toBelow⟩
end Go.Proofs.Ytemglijebbodkaa
