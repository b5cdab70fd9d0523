/- Parts of the proof, in one text. -/
import Derived.RegionTactic
import Derived.Deep.RegionWith
import Derived.Test.YtomolbhcggaakaaGreatH16
import Derived.Test.YtomolbhcggaakaaGreatH40
import Derived.Test.YtomolbhcggaakaaGreatH22
/- A region that draws its order, all orders: loads, appends and stores one behind the other; nothing of the program. -/
namespace Go.Proofs.YtomolbhcggaakaaGreat
open Go

theorem op_of_list {P : Program} {Q : Exit → Act → World → Prop} {K : Act → World → Prop} {a : Act} {w : World} {o : Oper} (hg : o.guard = none)
    (h : wpList P #[] (fun e a w => match e with | .normal => K a w | _ => False) [o] a w) : o.wp P a w K Q := by
  unfold wpList at h
  have hw : Region.wanted o (yielded #[] a.tmps) = true := by simp [Region.wanted, hg]
  rw [if_pos hw] at h
  rcases h with h | ⟨_, _, _, h⟩
  · unfold Oper.wp at *
    generalize (execOp a.eval o).run P w = r at *
    cases r with
    | ok n w' =>
      cases n <;> simp only [Oper.upon] at h ⊢ <;> first
        | exact h
        | (refine Calls.mono h (fun e w'' he => ?_)
           cases e with
           | returned v => exact he
           | panicked c => exact he.elim
           | outgrown => obtain ⟨_, _, he⟩ := he; exact he.elim)
        | exact Rows.mono h (fun _ _ he => he)
    | halt x w' => cases x <;> simp only [Oper.upon] at h ⊢
  · exact h.elim
section
variable {P : Program} {ops : Array Oper} {Q : Exit → Act → World → Prop} {md : Region.Mode}
variable {fuel : Nat} {listed : Array Bool} {a a' : Act} {w : World}
theorem anP {oi : Oper} {v : Value} {d : Tmp} (i : Nat) (h : wpAny P md ops Q fuel (listed.setIfInBounds i true) a' w) (hi : ops[i]? = some oi := by exact rfl) (hd : oi.dst = some d := by exact rfl)
    (hs : Region.noSelect ops = true := by kernel_rfl) (hf : Region.free md ops listed i = true := by kernel_rfl) (hr : (Region.ready md ops listed).contains i = true := by kernel_rfl) (hw : Region.wanted oi (yielded ops a.tmps) = true := by kernel_rfl)
    (hQ : ∀ c a w, Q (.panic c) (a.put oi.dst v) w → Q (.panic c) a w := by exact fun _ _ _ h => h) (hy : ∀ w, (execOp a.eval oi).run P w = .ok (.value v) w := by (intro W; go_simp; (try with_reducible rfl)))
    (e : a.put (some d) v = a' := by ((try (conv => lhs; simp only [AX])) <;> rfl)) : wpAny P md ops Q (fuel + 1) listed a w := by
  subst e
  rw [← hd] at h
  exact wpAny_take hi hs hf hr hQ (Or.inl ⟨hw, hy⟩) h
theorem an1 {oi : Oper} {op : Op} {d : Option Tmp} {ty : TypeId} {pos : String} {af : Array Edge} {gd : Option (Nat × Bool)} (i : Nat)
    (h : ∀ K' : Act → World → Prop, Shut (∀ a w, wpAny P md ops Q fuel (listed.setIfInBounds i true) a w → K' a w) → Oper.wp P ⟨d, op, ty, pos, af, gd⟩ a w K' Q)
    (hi : ops[i]? = some oi := by exact rfl) (he : oi = ⟨d, op, ty, pos, af, gd⟩ := by exact rfl) (hr : Region.ready md ops listed = [i] := by kernel_rfl) (hw : Region.wanted oi (yielded ops a.tmps) = true := by kernel_rfl) : wpAny P md ops Q (fuel + 1) listed a w := by
  subst he
  exact wpAny_ready hr (by simp) (AllReady.cons hi (fun K hK => by rw [if_pos hw]; exact h K hK) AllReady.nil)
theorem an2 {oi oj : Oper} {op op2 : Op} {d d2 : Option Tmp} {ty ty2 : TypeId} {pos pos2 : String} {af af2 : Array Edge} {gd gd2 : Option (Nat × Bool)} (i j : Nat)
    (h : ∀ K' : Act → World → Prop, Shut (∀ a w, wpAny P md ops Q fuel (listed.setIfInBounds i true) a w → K' a w) → Oper.wp P ⟨d, op, ty, pos, af, gd⟩ a w K' Q)
    (h2 : ∀ K' : Act → World → Prop, Shut (∀ a w, wpAny P md ops Q fuel (listed.setIfInBounds j true) a w → K' a w) → Oper.wp P ⟨d2, op2, ty2, pos2, af2, gd2⟩ a w K' Q)
    (hi : ops[i]? = some oi := by exact rfl) (he : oi = ⟨d, op, ty, pos, af, gd⟩ := by exact rfl) (hj : ops[j]? = some oj := by exact rfl) (he2 : oj = ⟨d2, op2, ty2, pos2, af2, gd2⟩ := by exact rfl) (hr : Region.ready md ops listed = [i, j] := by kernel_rfl) (hw : Region.wanted oi (yielded ops a.tmps) = true := by kernel_rfl) (hw2 : Region.wanted oj (yielded ops a.tmps) = true := by kernel_rfl) : wpAny P md ops Q (fuel + 1) listed a w := by
  subst he he2
  exact wpAny_ready hr (by simp) (AllReady.cons hi (fun K hK => by rw [if_pos hw]; exact h K hK) (AllReady.cons hj (fun K hK => by rw [if_pos hw2]; exact h2 K hK) AllReady.nil))
end
end Go.Proofs.YtomolbhcggaakaaGreat
/- The program wakes a run: it goes, and stands behind all in the world's row. -/
namespace Go.Proofs.YtomolbhcggaakaaGreat
open Go.RowKit
set_option maxRecDepth 100000

theorem head0_mid {w0 w : World} {f : List Nat} {L L' : List Asn} {g c k : Nat} {pre post : List (Rn × RA)} {r : Rn} {a : RA} (M : Mem w0 f w L) (hd : Del (row encR 13 tR (some ⟨g, 0, none⟩) c (pre ++ (r, a) :: post)) L L') (hp : pre.length = k) :
    w.cell? ⟨g, k * 13, none⟩ = some (.int .i64 r.id) := row_mid encR_length M hd hp 0 (by decide)
set_option maxHeartbeats 4000000 in
theorem iWake (g gr k : Nat) (r : Rn) (a : RA) (pre post : List (Rn × RA)) (rc : Nat) (s0 s1 i3 i4 i5 i6 : Value) (queue : List Int) (qA : Option Addr) (qC : Nat) {w0 w : World} {f : List Nat} {L : List Asn}
    (M : Mem w0 f w (row encR 13 tR (some ⟨gr, 0, none⟩) rc (pre ++ (r, a) :: post) :: row encI 1 tI qA qC queue :: blk g tW [s0, s1, .slice qA queue.length qC, i3, i4, i5, i6] :: L)) (hp : pre.length = k) (hq : queue.length ≤ 1000000) :
    Calls Tryz.prog 113 #[.pointer (some ⟨g, 0, none⟩), .pointer (some ⟨gr, k * 13, none⟩)] w fun e w' => ∃ (A : Option Addr) (c : Nat), e = .returned (.tuple #[]) ∧ Mem w0 f w' (row encR 13 tR (some ⟨gr, 0, none⟩) rc (pre ++ ({ r with state := 1 }, a) :: post) :: row encI 1 tI A c (queue ++ [r.id]) :: blk g tW [s0, s1, .slice A (queue.length + 1) c, i3, i4, i5, i6] :: L) := by
  have AL := add_lit0
  have hpl := Lib.hid hp
  clear hp
  obtain ⟨id, at_, slots, full, mail, state, due, links, watched, trap, ⟨wk, wn⟩, turns⟩ := r
  obtain ⟨sA, sC, mA, mC, lA, lC, wA, wC⟩ := a
  simp only at *
  (try clear F); have F := fxw M
  go_enter Tryz.func113, Tryz.ntmps113
  go_upto_region 1 with ((with_reducible apply ev_elem (enc := encR) (j := 5) (k := k) (hk := encR_length) (M := M)); rfl; rfl; ((conv => lhs; whnf) <;> rfl); rfl; (first | exact siI | exact siB); rfl; (exact dl); (first | with_reducible rfl | with_reducible exact (Nat.add_zero _).symm); exact hpl.out; decide; exact setR5 _ _ _ _ _ _ _ _ _ _ _ _ _ _ _; clear M; intro w1 M; have E := heads_mid M dl hpl.out; simp only at E)
  have E0 := head0_mid M dl hpl.out
  simp only at E0
  (try clear F); have F := fxw M
  (refine wp_region_any (by kernel_rfl) ?_); (try change wpAny _ _ _ _ _ _ _ (World.drew _)); (refine nmw (G := fun W => wpAny _ _ _ _ _ _ _ W) ?_; clear M; (try clear F); intro w1 M F)
  have E0 := head0_mid M dl hpl.out
  simp only at E0
  refine anP 0 ?_; refine anP 1 ?_; refine anP 2 ?_; refine anP 3 ?_; refine anP 5 ?_; refine anP 6 ?_; refine anP 7 ?_
  refine an2 4 8 (fun K hK => ?_) (fun K hK => ?_)
  · (go_simp; (refine hK.out _ _ ?_; clear hK K; (try simp only [AX])))
    refine an1 8 (fun K hK => ?_); (go_simp; (refine hK.out _ _ ?_; clear hK K; (try simp only [AX])))
    refine an1 9 (fun K hK => ?_); (go_simp; (refine hK.out _ _ ?_; clear hK K; (try simp only [AX]); (refine nmw (G := fun W => wpAny _ _ _ _ _ _ _ W) ?_; clear M; (try clear F); intro w1 M F)))
    refine an1 10 (fun K hK => ?_); refine op_of_list rfl ?_; ((with_reducible apply ev_app1 (enc := encI) (v := id) (hk := encI_length) (hone := oneIx) (h0 := by decide) (hinfo := infIx) (ht := Tryz.underlying24) (M := M)); rfl; rfl; (exact dl); (exact dl); rfl; rfl; (first | exact Nat.le_of_ble_eq_true rfl | omega); (exact Nat.le_of_ble_eq_true rfl); clear M; intro A1 c1 w1 M; replace M := Mem.perm M (.swap _ _ _) |> Mem.drop; (try clear F); have F := fxw M); (refine hK.out _ _ ?_; clear hK K; (try simp only [AX]))
    refine anP 11 ?_; refine anP 12 ?_
    refine an1 13 (fun K hK => ?_); refine op_of_list rfl ?_; ((with_reducible apply ev_store (M := M)); rfl; rfl; ((conv => lhs; whnf) <;> rfl); rfl; (first | exact siI | exact siR | exact siV | exact siB | exact siSI | exact siSV | exact siW | exact siSR | exact siSO | exact siO); (exact one_all rfl); (exact dl); (exact Nat.le_of_ble_eq_true rfl); clear M; intro w1 M; simp only [SX] at M; (try clear F); have F := fxw M); (refine hK.out _ _ ?_; clear hK K; (try simp only [AX]))
    refine wpAny_done (by kernel_rfl) ?_ _
    go_wp2
    (first | refine bodyPost_end (results_none rfl _ _ _) rfl ?_ | refine bodyPost_ret (results_none rfl _ _ _) rfl ?_)
    exact ⟨_, _, rfl, M.sel sl⟩
  · (go_simp; (refine hK.out _ _ ?_; clear hK K; (try simp only [AX])))
    refine an2 4 9 (fun K hK => ?_) (fun K hK => ?_)
    · (go_simp; (refine hK.out _ _ ?_; clear hK K; (try simp only [AX])))
      refine an1 9 (fun K hK => ?_); (go_simp; (refine hK.out _ _ ?_; clear hK K; (try simp only [AX]); (refine nmw (G := fun W => wpAny _ _ _ _ _ _ _ W) ?_; clear M; (try clear F); intro w1 M F)))
      refine an1 10 (fun K hK => ?_); refine op_of_list rfl ?_; ((with_reducible apply ev_app1 (enc := encI) (v := id) (hk := encI_length) (hone := oneIx) (h0 := by decide) (hinfo := infIx) (ht := Tryz.underlying24) (M := M)); rfl; rfl; (exact dl); (exact dl); rfl; rfl; (first | exact Nat.le_of_ble_eq_true rfl | omega); (exact Nat.le_of_ble_eq_true rfl); clear M; intro A1 c1 w1 M; replace M := Mem.perm M (.swap _ _ _) |> Mem.drop; (try clear F); have F := fxw M); (refine hK.out _ _ ?_; clear hK K; (try simp only [AX]))
      refine anP 11 ?_; refine anP 12 ?_
      refine an1 13 (fun K hK => ?_); refine op_of_list rfl ?_; ((with_reducible apply ev_store (M := M)); rfl; rfl; ((conv => lhs; whnf) <;> rfl); rfl; (first | exact siI | exact siR | exact siV | exact siB | exact siSI | exact siSV | exact siW | exact siSR | exact siSO | exact siO); (exact one_all rfl); (exact dl); (exact Nat.le_of_ble_eq_true rfl); clear M; intro w1 M; simp only [SX] at M; (try clear F); have F := fxw M); (refine hK.out _ _ ?_; clear hK K; (try simp only [AX]))
      refine wpAny_done (by kernel_rfl) ?_ _
      go_wp2
      (first | refine bodyPost_end (results_none rfl _ _ _) rfl ?_ | refine bodyPost_ret (results_none rfl _ _ _) rfl ?_)
      exact ⟨_, _, rfl, M.sel sl⟩
    · (go_simp; (refine hK.out _ _ ?_; clear hK K; (try simp only [AX]); (refine nmw (G := fun W => wpAny _ _ _ _ _ _ _ W) ?_; clear M; (try clear F); intro w1 M F)))
      refine an1 4 (fun K hK => ?_); (go_simp; (refine hK.out _ _ ?_; clear hK K; (try simp only [AX])))
      refine an1 10 (fun K hK => ?_); refine op_of_list rfl ?_; ((with_reducible apply ev_app1 (enc := encI) (v := id) (hk := encI_length) (hone := oneIx) (h0 := by decide) (hinfo := infIx) (ht := Tryz.underlying24) (M := M)); rfl; rfl; (exact dl); (exact dl); rfl; rfl; (first | exact Nat.le_of_ble_eq_true rfl | omega); (exact Nat.le_of_ble_eq_true rfl); clear M; intro A1 c1 w1 M; replace M := Mem.perm M (.swap _ _ _) |> Mem.drop; (try clear F); have F := fxw M); (refine hK.out _ _ ?_; clear hK K; (try simp only [AX]))
      refine anP 11 ?_; refine anP 12 ?_
      refine an1 13 (fun K hK => ?_); refine op_of_list rfl ?_; ((with_reducible apply ev_store (M := M)); rfl; rfl; ((conv => lhs; whnf) <;> rfl); rfl; (first | exact siI | exact siR | exact siV | exact siB | exact siSI | exact siSV | exact siW | exact siSR | exact siSO | exact siO); (exact one_all rfl); (exact dl); (exact Nat.le_of_ble_eq_true rfl); clear M; intro w1 M; simp only [SX] at M; (try clear F); have F := fxw M); (refine hK.out _ _ ?_; clear hK K; (try simp only [AX]))
      refine wpAny_done (by kernel_rfl) ?_ _
      go_wp2
      (first | refine bodyPost_end (results_none rfl _ _ _) rfl ?_ | refine bodyPost_ret (results_none rfl _ _ _) rfl ?_)
      exact ⟨_, _, rfl, M.sel sl⟩
end Go.Proofs.YtomolbhcggaakaaGreat
