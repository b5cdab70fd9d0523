/- Parts of the proof, in one text. -/
import Derived.Deep.RegionHeld3
import Derived.Test.YtmidnaafljgbiaaB42
import Derived.Test.YtmidnaafljgbiaaB43
import Derived.Test.YtmidnaafljgbiaaB41
import Derived.Test.YtmidnaafljgbiaaB38
/- The reference fills a slot. -/
namespace Go.Proofs.Ytmidnaafljgbiaa
open Go.RowKit
set_option maxRecDepth 100000

theorem OwnL.off {α : Type} {enc : α → List Value} {m t lo lim base : Nat} {w w' : World} {v : Value} {xs : List α} (h : OwnL enc m t w base v xs) (hm : Mid lo lim w w') (hl : ∀ k, v.ownBlock = some k → k < lo) : OwnL enc m t w' base v xs := by
  obtain ⟨h0, h1, h2⟩ := h
  refine ⟨h0, h1, ?_⟩
  rcases h2 with h2 | ⟨g, cap, cur, e, hg, hh, r⟩
  · exact .inl h2
  · subst e
    exact .inr ⟨g, cap, cur, rfl, hg, (hm.block g (Array.getElem?_eq_some_iff.1 hh).1 (.inl (hl g rfl))).trans hh, r⟩

end Go.Proofs.Ytmidnaafljgbiaa
/- The reference's put. -/
namespace Go.Proofs.Ytmidnaafljgbiaa
open Go.RowKit
set_option maxRecDepth 100000
theorem runOk_shape {r : Rn} (h : runOk r = true) : r.slots.length = 4 ∧ inB r.full 0 15 = true ∧ r.mail.length ≤ 12 := by
  unfold runOk at h
  simp only [Bool.and_eq_true, beq_iff_eq, decide_eq_true_eq] at h
  obtain ⟨⟨⟨⟨⟨⟨⟨⟨⟨⟨⟨⟨⟨_, _⟩, h1⟩, h2⟩, h3⟩, _⟩, _⟩, _⟩, _⟩, _⟩, _⟩, _⟩, _⟩, _⟩ := h
  exact ⟨h1, h2, h3⟩
end Go.Proofs.Ytmidnaafljgbiaa
/- A put into a slot, on both sides, over what is held. -/
namespace Go.Proofs.Ytmidnaafljgbiaa
open Go.RowKit
set_option maxRecDepth 100000

theorem Mem.runReads {w0 w : World} {f : List Nat} {L L' : List Asn} {r : Rn} {a : RA} (M : Mem w0 f w L) (hd : Del (runA r a) L L') : ReadsRun w w.heap.size r a := (runA_reads (M.is hd)).1
theorem runZ_mem {w0 w : World} {f : List Nat} {L : List Asn} (M : Mem w0 f w L) : Mem w0 f w (runA Rn.zero ⟨none, 0, none, 0, none, 0, none, 0⟩ :: L) :=
  M.call0 (Mem.ofRun (own_zero w w) (Below.refl _ _))

set_option maxHeartbeats 2000000 in
theorem iRunPut (r : Rn) (a : RA) (s : Int) (v : Vl) {w0 w : World} {f : List Nat} {L L' : List Asn} (M : Mem w0 f w L) (hd : Del (runA r a) L L') (h3 : r.links.length ≤ 17592186044416) (h4 : r.watched.length ≤ 17592186044416) :
    Calls Try.prog 39 #[.agg (runArr r a), .int .i64 s, .agg #[.int .i64 v.k, .int .i64 v.n]] w fun e w' => ∃ b : RA, e = .returned (.agg (runArr (runPut r s v) b)) ∧ Mem w0 f w' (runA (runPut r s v) b :: runA r a :: L') := by
  have H1 := Lib.hid (fun W (h : ReadsRun W W.heap.size r a) => iRunOk r a W.heap.size W h (Nat.le_refl _))
  have H2 := Lib.hid (fun W => iIn s 0 3 W)
  have H3 := Lib.hid (fun W => iValOk v W)
  have HC := Lib.hid (fun (h : runOk r = true) W (L L' : List Asn) (M : Mem w0 f W L) (hd : Del (runA r a) L L') => iCopied r a M hd (by have := (runOk_shape h).1; omega) (by have := (runOk_shape h).2.2; omega) h3 h4)
  have HF := Lib.hid (fun (h : runOk r = true) (k : Nat) (hk : k < 4) W (L : List Asn) g b (M : Mem w0 f W (blk g tR (encR (r, b)) :: runA r b :: L)) => iFill r b g k v M (runOk_shape h).1 hk (inB_iff.1 (runOk_shape h).2.1).1 (inB_iff.1 (runOk_shape h).2.1).2)
  replace M := M.pull hd
  clear hd h3 h4
  have e : runPut r s v = if runOk r && inB s 0 3 && valOk v then { r with slots := r.slots.set s.toNat v, full := withBit r.full s } else Rn.zero := rfl
  rw [e]
  clear e
  have hq : inB s 0 3 = true → ∃ k : Nat, s = k ∧ k < 4 := fun h => ⟨s.toNat, by have := inB_iff.1 h; omega, by have := inB_iff.1 h; omega⟩
  generalize runOk r = b1 at H1 HC HF ⊢
  generalize inB s 0 3 = b2 at H2 hq ⊢
  generalize valOk v = b3 at H3 ⊢
  obtain ⟨k, n⟩ := v
  obtain ⟨id, at_, slots, full, mail, state, due, links, watched, trap, ⟨wk, wn⟩, turns⟩ := r
  obtain ⟨sA, sC, mA, mC, lA, lC, wA, wC⟩ := a
  simp only [encR, runArr] at H1 H3 HC HF ⊢
  by_cases hall : b1 = true ∧ b2 = true ∧ b3 = true
  · obtain ⟨rfl, rfl, rfl⟩ := hall
    obtain ⟨j, rfl, hj⟩ := hq rfl
    clear hq
    simp only [Bool.and_self, if_true, Int.toNat_natCast]
    go_enter Try.func39, Try.ntmps39
    go_wp2_with (first
      | (with_reducible refine alA M ?_; clear M; (try clear F); intro w1 M F) | ((with_reducible apply ev_store (M := M)); rfl; rfl; ((conv => lhs; whnf) <;> rfl); rfl; (first | exact siI | exact siR | exact siV | exact siB | exact siSI | exact siSV | exact siW | exact siSR | exact siSO | exact siO); (exact one_all rfl); (exact dl); (exact Nat.le_of_ble_eq_true rfl); clear M; intro w1 M; simp only [SX] at M; (try clear F); have F := fx M) | ((with_reducible refine goal_drewN (G := fun W => wpList _ _ _ _ _ W) M ?_); clear M; intro w1 M; (try clear F); have F := fx M) | ((with_reducible refine goal_drew (G := fun W => wpList _ _ _ _ _ W) M ?_); clear M; intro w1 M; (try clear F); have F := fx M) | ((with_reducible refine isSet (G := fun W => wpList _ _ _ _ _ W) ?_); (with_reducible refine nm (G := fun W => wpList _ _ _ _ _ W) ?_; clear M; (try clear F); intro w1 M F))
      | (go_at_call 32; refine (H1.out _ (M.runReads dl)).mono ?_; rintro e w2 ⟨rfl, hb⟩; replace M := M.below hb; clear hb; (try clear F); have F := fx M)
      | (go_at_call 75; refine (H2.out _).mono ?_; rintro e w2 ⟨rfl, rfl⟩)
      | (go_at_call 79; refine (H3.out _).mono ?_; rintro e w2 ⟨rfl, hb⟩; replace M := M.below hb; clear hb; (try clear F); have F := fx M)
      | (go_at_call 53; refine (HC.out (by trivial) _ _ _ M dl).mono ?_; clear M; rintro e w2 ⟨⟨sA2, sC2, mA2, mC2, lA2, lC2, wA2, wC2⟩, rfl, M⟩; (try clear F); have F := fx M)
      | (go_at_call 87; refine (HF.out (by trivial) j hj _ _ _ ⟨sA2, sC2, mA2, mC2, lA2, lC2, wA2, wC2⟩ (M.sel sl)).mono ?_; clear M; rintro e w2 ⟨rfl, M⟩; (try clear F); have F := fx M))
    apply ret_cell (M := M); rfl; rfl; (exact dl); (first | exact agR | exact agV | exact agW | exact agO); (first | exact siI | exact siR | exact siV | exact siB | exact siSI | exact siSV | exact siW | exact siSR | exact siSO | exact siO); rfl
    refine ⟨⟨sA2, sC2, mA2, mC2, lA2, lC2, wA2, wC2⟩, ?_, M.sel sl⟩
    simp only [List.length_set]
  · have hn : (b1 && b2 && b3) = false := by revert hall; cases b1 <;> cases b2 <;> cases b3 <;> simp
    have h3 : b1 = false ∨ (b1 = true ∧ b2 = false) ∨ (b1 = true ∧ b2 = true ∧ b3 = false) := by revert hall; cases b1 <;> cases b2 <;> cases b3 <;> simp
    rw [hn]
    clear hq HC HF hall hn
    simp only [if_false, Bool.false_eq_true, Rn.zero, Vl.zero, List.length_nil]
    rcases h3 with rfl | ⟨rfl, rfl⟩ | ⟨rfl, rfl, rfl⟩
    all_goals
      go_enter Try.func39, Try.ntmps39
      go_wp2_with (first
        | (with_reducible refine alA M ?_; clear M; (try clear F); intro w1 M F) | ((with_reducible apply ev_store (M := M)); rfl; rfl; ((conv => lhs; whnf) <;> rfl); rfl; (first | exact siI | exact siR | exact siV | exact siB | exact siSI | exact siSV | exact siW | exact siSR | exact siSO | exact siO); (exact one_all rfl); (exact dl); (exact Nat.le_of_ble_eq_true rfl); clear M; intro w1 M; simp only [SX] at M; (try clear F); have F := fx M) | ((with_reducible refine goal_drewN (G := fun W => wpList _ _ _ _ _ W) M ?_); clear M; intro w1 M; (try clear F); have F := fx M) | ((with_reducible refine goal_drew (G := fun W => wpList _ _ _ _ _ W) M ?_); clear M; intro w1 M; (try clear F); have F := fx M) | ((with_reducible refine isSet (G := fun W => wpList _ _ _ _ _ W) ?_); (with_reducible refine nm (G := fun W => wpList _ _ _ _ _ W) ?_; clear M; (try clear F); intro w1 M F))
        | (go_at_call 32; refine (H1.out _ (M.runReads dl)).mono ?_; rintro e w2 ⟨rfl, hb⟩; replace M := M.below hb; clear hb; (try clear F); have F := fx M)
        | (go_at_call 75; refine (H2.out _).mono ?_; rintro e w2 ⟨rfl, rfl⟩)
        | (go_at_call 79; refine (H3.out _).mono ?_; rintro e w2 ⟨rfl, hb⟩; replace M := M.below hb; clear hb; (try clear F); have F := fx M))
      apply ret_cell (M := M); rfl; rfl; (exact dl); (first | exact agR | exact agV | exact agW | exact agO); (first | exact siI | exact siR | exact siV | exact siB | exact siSI | exact siSV | exact siW | exact siSR | exact siSO | exact siO); rfl
      exact ⟨⟨none, 0, none, 0, none, 0, none, 0⟩, rfl, runZ_mem (M.sel sl)⟩
end Go.Proofs.Ytmidnaafljgbiaa
