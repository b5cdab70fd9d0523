/- Parts of the proof, in one text. -/
import Derived.Test.YtmidnaafljgbiaaB42
import Derived.Test.YtmidnaafljgbiaaB18
import Derived.Test.YtmidnaafljgbiaaB37
import Derived.Test.YtmidnaafljgbiaaB19
/- The reference's put into a slot, over what is held. -/
namespace Go.Proofs.Ytmidnaafljgbiaa
open Go.RowKit
set_option maxRecDepth 100000

end Go.Proofs.Ytmidnaafljgbiaa
/- The reference's put, whole. -/
namespace Go.Proofs.Ytmidnaafljgbiaa
open Go.RowKit
set_option maxRecDepth 100000

end Go.Proofs.Ytmidnaafljgbiaa
/- The laws' helpers on runs, over what is held. -/
namespace Go.Proofs.Ytmidnaafljgbiaa
open Go.RowKit
set_option maxRecDepth 100000

set_option maxHeartbeats 2000000 in
theorem mMarkRun (r : Rn) (a : RA) (k0 : Int) {w0 w : World} {f : List Nat} {L L' : List Asn} (M : Mem w0 f w L) (hd : Del (runA r a) L L') (h0 : 0 ≤ k0) (h1 : k0 ≤ 1048576) (n1 : r.slots.length ≤ 140737488355328) (n2 : r.mail.length ≤ 140737488355328) (n3 : r.links.length ≤ 140737488355328) (n4 : r.watched.length ≤ 140737488355328) :
    Calls Try.prog 20 #[.agg (runArr r a), .int .i64 k0] w fun e w' => e = .returned (.int .i64 (marksR r k0)) ∧ Mem w0 f w' (runA (markedR r k0) a :: L') := by
  obtain ⟨id, at_, slots, full, mail, state, due, links, watched, trap, ⟨wk, wn⟩, turns⟩ := r
  obtain ⟨sA, sC, mA, mC, lA, lC, wA, wC⟩ := a
  replace M := (M.pull hd).unpackRun
  clear hd
  simp only at M n1 n2 n3 n4
  have H1 := Lib.hid (fun W (L L' : List Asn) (M : Mem w0 f W L) (hd : Del (rowV sA sC slots) L L') => mMarkV slots sA sC k0 M hd h0 (by omega))
  have H2 := Lib.hid (fun W (L L' : List Asn) (M : Mem w0 f W L) (hd : Del (rowV mA mC mail) L L') => mMarkV mail mA mC (k0 + 2 * slots.length) M hd (by omega) (by omega))
  have H3 := Lib.hid (fun W (L L' : List Asn) (M : Mem w0 f W L) (hd : Del (rowI lA lC links) L L') => mMarkI links lA lC (k0 + 2 * slots.length + 2 * mail.length) M hd (by omega) (by omega))
  have H4 := Lib.hid (fun W (L L' : List Asn) (M : Mem w0 f W L) (hd : Del (rowI wA wC watched) L L') => mMarkI watched wA wC (k0 + 2 * slots.length + 2 * mail.length + links.length) M hd (by omega) (by omega))
  simp only [runArr, marksR, markedR]
  go_enter Try.func20, Try.ntmps20
  go_wp2_with (first
    | (with_reducible refine alA M ?_; clear M; (try clear F); intro w1 M F) | ((with_reducible apply ev_store (M := M)); rfl; rfl; ((conv => lhs; whnf) <;> rfl); rfl; (first | exact siI | exact siR | exact siV | exact siB | exact siSI | exact siSV | exact siW | exact siSR | exact siSO | exact siO); (exact one_all rfl); (exact dl); (exact Nat.le_of_ble_eq_true rfl); clear M; intro w1 M; simp only [SX] at M; (try clear F); have F := fx M) | ((with_reducible refine goal_drewN (G := fun W => wpList _ _ _ _ _ W) M ?_); clear M; intro w1 M; (try clear F); have F := fx M) | ((with_reducible refine goal_drew (G := fun W => wpList _ _ _ _ _ W) M ?_); clear M; intro w1 M; (try clear F); have F := fx M) | ((with_reducible refine isSet (G := fun W => wpList _ _ _ _ _ W) ?_); (with_reducible refine nm (G := fun W => wpList _ _ _ _ _ W) ?_; clear M; (try clear F); intro w1 M F))
    | (go_at_call_of 57 (Value.slice sA slots.length sC); refine (H1.out _ _ _ M dl).mono ?_; clear M; rintro e w2 ⟨rfl, M⟩; (try clear F); have F := fx M)
    | (go_at_call_of 57 (Value.slice mA mail.length mC); refine (H2.out _ _ _ M dl).mono ?_; clear M; rintro e w2 ⟨rfl, M⟩; (try clear F); have F := fx M)
    | (go_at_call_of 58 (Value.slice lA links.length lC); refine (H3.out _ _ _ M dl).mono ?_; clear M; rintro e w2 ⟨rfl, M⟩; (try clear F); have F := fx M)
    | (go_at_call_of 58 (Value.slice wA watched.length wC); refine (H4.out _ _ _ M dl).mono ?_; clear M; rintro e w2 ⟨rfl, M⟩; (try clear F); have F := fx M))
  go_ret
  refine ⟨rfl, ?_⟩
  apply Mem.packRun
  exact M.sel sl
end Go.Proofs.Ytmidnaafljgbiaa
