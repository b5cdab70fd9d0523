/- The law of a put, at every run. -/
import Derived.Test.YtemglijebbodkaaP7
namespace Go.Proofs.Ytemglijebbodkaa
open Go.RowKit
set_option maxRecDepth 100000
set_option maxHeartbeats 2000000 in
theorem fnExactRunPut_big (r : Rn) (a : RA) (s : Int) (v : Vl) (w : World) (c : szR 1048576 r < 0) (n1 : r.slots.length ≤ 140737488355328) (n2 : r.mail.length ≤ 140737488355328) (n3 : r.links.length ≤ 140737488355328) (n4 : r.watched.length ≤ 140737488355328) :
    Calls Try.prog 7 #[.agg (runArr r a), .int .i64 s, .agg #[.int .i64 v.k, .int .i64 v.n]] w fun e w' => e = .returned (.bool true) ∧ Below w.heap.size w w' := by
  have H1 := Lib.hid (fun W => lSzRun r a 1048576 W (by omega) (by omega) n1 n2 n3 n4)
  unfold SzPost at H1
  generalize szR 1048576 r = z at c H1
  clear n1 n2 n3 n4
  have M := Mem.nil w
  simp only [runArr] at H1 ⊢
  go_enter Try.func7, Try.ntmps7
  go_wp2_with (first
    | ((with_reducible refine goal_alloc (G := fun W => wpList _ _ _ _ _ W) M ?_); clear M; intro w1 M; (try clear F); have F := M.facts; simp only [FX] at F) | ((with_reducible apply ev_store (M := M)); rfl; rfl; ((conv => lhs; whnf) <;> rfl); rfl; (first | exact siI | exact siR | exact siV | exact siB | exact siSI | exact siSV | exact siW | exact siSR | exact siSO | exact siO); (exact one_all rfl); (repeat (first | with_reducible exact Del.here | with_reducible apply Del.there)); (exact Nat.le_of_ble_eq_true rfl); clear M; intro w1 M; simp only [SX] at M; (try clear F); have F := M.facts; simp only [FX] at F) | ((with_reducible refine goal_drewN (G := fun W => wpList _ _ _ _ _ W) M ?_); clear M; intro w1 M; (try clear F); have F := M.facts; simp only [FX] at F) | ((with_reducible refine goal_drew (G := fun W => wpList _ _ _ _ _ W) M ?_); clear M; intro w1 M; (try clear F); have F := M.facts; simp only [FX] at F) | ((with_reducible refine isSet (G := fun W => wpList _ _ _ _ _ W) ?_); ((with_reducible apply goal_name (G := fun W => wpList _ _ _ _ _ W)); (repeat (first | with_reducible exact M | with_reducible apply Mem.drew | with_reducible apply Mem.drewN | with_reducible apply Mem.allocD | with_reducible apply Mem.setV | with_reducible apply Mem.setD | with_reducible exact Del.here | with_reducible apply Del.there | with_reducible assumption)); clear M; intro w1 M; (try simp only [LX] at M); (try clear F); have F := M.facts; simp only [FX] at F))
    | (go_at_call 18; refine (H1.out _).mono ?_; rintro e w2 ⟨rfl, hb⟩; replace M := M.below hb; clear hb; (try clear F); have F := M.facts; simp only [FX] at F))
  go_ret
  exact ⟨rfl, M.toBelow⟩
theorem fnExactRunPut_walk (r : Rn) (a : RA) (s : Int) (v : Vl) (w : World) (hr : ReadsRun w w.heap.size r a) (h1 : r.slots.length * 16 ≤ 140737488351232) (h2 : r.mail.length * 16 ≤ 140737488351232) (h3 : r.links.length * 8 ≤ 140737488351232) (h4 : r.watched.length * 8 ≤ 140737488351232) :
    Calls Try.prog 7 #[.agg (runArr r a), .int .i64 s, .agg #[.int .i64 v.k, .int .i64 v.n]] w fun e w' => e = .returned (.bool true) ∧ Below w.heap.size w w' := by
  by_cases c : szR 1048576 r < 0
  · exact fnExactRunPut_big r a s v w c (by omega) (by omega) (by omega) (by omega)
  · exact fnExactRunPut_small r a s v w hr c (by omega) (by omega) (by omega) (by omega)
end Go.Proofs.Ytemglijebbodkaa
