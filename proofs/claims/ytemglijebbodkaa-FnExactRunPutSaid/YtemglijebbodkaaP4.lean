/- The reference's put into a slot, over what is held. -/
import Derived.Test.YtemglijebbodkaaP3
namespace Go.Proofs.Ytemglijebbodkaa
open Go.RowKit
set_option maxRecDepth 100000

set_option maxHeartbeats 2000000 in
theorem sPutM (r : Rn) (a : RA) (k : Nat) (v : Vl) {w0 w : World} {f : List Nat} {L : List Asn} (M : Mem w0 f w (runA r a :: L)) (hl : r.slots.length = 4) (hk : k < 4) (hf : 0 ≤ r.full) (hf' : r.full ≤ 15) :
    Calls Try.prog 57 #[.agg (runArr r a), .int .i64 (k : Int), .agg #[.int .i64 v.k, .int .i64 v.n]] w fun e w' => e = .returned (.agg (runArr { r with slots := r.slots.set k v, full := withBit r.full k } a)) ∧
      Mem w0 f w' (runA { r with slots := r.slots.set k v, full := withBit r.full k } a :: L) := by
  have HW := Lib.hid (fun W => sWith r.full k hf hf' (inB_iff.2 ⟨by omega, by omega⟩) W)
  obtain ⟨id, at_, slots, full, mail, state, due, links, watched, trap, ⟨wk, wn⟩, turns⟩ := r
  obtain ⟨sA, sC, mA, mC, lA, lC, wA, wC⟩ := a
  obtain ⟨vk, vn⟩ := v
  simp only at hl hf hf' HW
  replace M := M.unpackRun
  simp only at M
  obtain ⟨gs, rfl⟩ := row_form M .here (by omega)
  have k1 : (0 : Int) ≤ k := by omega
  have k2 : (k : Int) < 4 := by omega
  have AL := add_lit0
  have RE : Hid (∀ W (L L' : List Asn), Mem w0 f W L → Del (rowV (some ⟨gs, 0, none⟩) sC slots) L L' → W.cell? ⟨gs, k * 2, none⟩ = some (.int .i64 (slots[k]'(by omega)).k) ∧ W.cell? ⟨gs, k * 2 + 1, none⟩ = some (.int .i64 (slots[k]'(by omega)).n) ∧ ∀ j, W.frozen? ⟨gs, j, none⟩ = false) := by
    intro W L L' M hd
    obtain ⟨_, e2, e3⟩ := row_elem encV_length M hd (k := k) (by omega)
    exact ⟨by simpa [encV] using e2 0 (by decide), by simpa [encV] using e2 1 (by decide), e3⟩
  have hkl : k < slots.length := by omega
  simp only [runArr, hl]
  go_enter Try.func57, Try.ntmps57
  go_wp2_with (first
    | ((with_reducible refine goal_alloc (G := fun W => wpList _ _ _ _ _ W) M ?_); clear M; intro w1 M; (try clear F); have F := M.facts; simp only [FX] at F) | ((with_reducible apply ev_store (M := M)); rfl; rfl; ((conv => lhs; whnf) <;> rfl); rfl; (first | exact siI | exact siR | exact siV | exact siB | exact siSI | exact siSV | exact siW | exact siSR | exact siSO | exact siO); (exact one_all rfl); (repeat (first | with_reducible exact Del.here | with_reducible apply Del.there)); (exact Nat.le_of_ble_eq_true rfl); clear M; intro w1 M; simp only [SX] at M; (try clear F); have F := M.facts; simp only [FX] at F) | ((with_reducible refine goal_drewN (G := fun W => wpList _ _ _ _ _ W) M ?_); clear M; intro w1 M; (try clear F); have F := M.facts; simp only [FX] at F) | ((with_reducible refine goal_drew (G := fun W => wpList _ _ _ _ _ W) M ?_); clear M; intro w1 M; (try clear F); have F := M.facts; simp only [FX] at F) | ((with_reducible refine isSet (G := fun W => wpList _ _ _ _ _ W) ?_); ((with_reducible apply goal_name (G := fun W => wpList _ _ _ _ _ W)); (repeat (first | with_reducible exact M | with_reducible apply Mem.drew | with_reducible apply Mem.drewN | with_reducible apply Mem.allocD | with_reducible apply Mem.setV | with_reducible apply Mem.setD | with_reducible exact Del.here | with_reducible apply Del.there | with_reducible assumption)); clear M; intro w1 M; (try simp only [LX] at M); (try clear F); have F := M.facts; simp only [FX] at F))
    | ((with_reducible refine gate_dst (N := 7) rfl ?_); have E := RE.out _ _ _ M (by repeat (first | with_reducible exact Del.here | with_reducible apply Del.there)); clear RE)
    | (go_at_call 72; refine (HW.out _).mono ?_; rintro e w2 ⟨rfl, hb⟩; replace M := M.below hb; clear hb; (try clear F); have F := M.facts; simp only [FX] at F))
  apply ret_cell (M := M); rfl; rfl; (repeat (first | with_reducible exact Del.here | with_reducible apply Del.there)); (first | exact agR | exact agV | exact agW | exact agO); (first | exact siI | exact siR | exact siV | exact siB | exact siSI | exact siSV | exact siW | exact siSR | exact siSO | exact siO); rfl
  refine ⟨?_, ?_⟩
  · simp only [List.length_set, hl]
  · apply Mem.packRun
    exact M.sel (by repeat (first | with_reducible exact Sel.refl | with_reducible exact Sel.nil | (with_reducible refine Sel.cons (by repeat (first | with_reducible exact Del.here | with_reducible apply Del.there)) ?_) | with_reducible apply Sel.drop))
end Go.Proofs.Ytemglijebbodkaa
