/- The program's put of a value into a slot. -/
import Derived.Test.YtemglijebbodkaaM5
import Derived.Test.YtemglijebbodkaaS24
import Derived.Deep.RegionWith
import Derived.Deep.RegionHeld3
import Derived.Deep.QuietTactic
import Derived.BigQuiet
namespace Go.Proofs.Ytemglijebbodkaa
open Go.RowKit
set_option maxRecDepth 100000

theorem or_bit {k : Nat} {f : Int} (hk : k < 4) (hf : 0 ≤ f) (hf' : f ≤ 15) : bits BinOp.or IntKind.i64 f (wrap64 (2 ^ k)) = withBit f k := by
  have h : ∀ (F : Fin 16) (K : Fin 4), bits BinOp.or IntKind.i64 (F.val : Int) (wrap64 (2 ^ K.val)) = withBit (F.val : Int) (K.val : Int) := by decide +kernel
  have h1 := h ⟨f.toNat, by omega⟩ ⟨k, hk⟩
  simp only at h1
  rwa [show ((f.toNat : Nat) : Int) = f by omega] at h1
set_option maxHeartbeats 1000000 in
theorem iFill (r : Rn) (a : RA) (g k : Nat) (v : Vl) {w0 w : World} {f : List Nat} {L : List Asn} (M : Mem w0 f w (blk g tR (encR (r, a)) :: runA r a :: L)) (hl : r.slots.length = 4) (hk : k < 4) (hf : 0 ≤ r.full) (hf' : r.full ≤ 15) :
    Calls Try.prog 60 #[.pointer (some ⟨g, 0, none⟩), .int .i64 (k : Int), .agg #[.int .i64 v.k, .int .i64 v.n]] w fun e w' => e = .returned (.tuple #[]) ∧
      Mem w0 f w' (runA { r with slots := r.slots.set k v, full := withBit r.full k } a :: blk g tR (encR ({ r with slots := r.slots.set k v, full := withBit r.full k }, a)) :: L) := by
  obtain ⟨id, at_, slots, full, mail, state, due, links, watched, trap, ⟨wk, wn⟩, turns⟩ := r
  obtain ⟨sA, sC, mA, mC, lA, lC, wA, wC⟩ := a
  obtain ⟨vk, vn⟩ := v
  simp only at hl hf hf'
  replace M := (M.pull (.there .here)).unpack
  simp only [runL, List.cons_append, List.nil_append] at M
  obtain ⟨gs, rfl⟩ := row_form M .here (by omega)
  obtain ⟨e1, e2, e3⟩ := row_elem encV_length M .here (k := k) (by omega)
  have k1 : (0 : Int) ≤ k := by omega
  have k2 : (k : Int) < 4 := by omega
  have AL := add_lit0
  have c0 := e2 0 (by decide)
  have c1 := e2 1 (by decide)
  simp only [encV, List.getElem?_cons_zero, List.getElem?_cons_succ, Nat.add_zero] at c0 c1
  clear e2
  have hkl : k < slots.length := by omega
  simp only [encR, hl] at M
  (try clear F); have F := M.facts; simp only [FX] at F
  go_enter Try.func60, Try.ntmps60
  go_wp2_with (first | ((with_reducible refine goal_alloc (G := fun W => wpList _ _ _ _ _ W) M ?_); clear M; intro w1 M; (try clear F); have F := M.facts; simp only [FX] at F) | ((with_reducible apply ev_store (M := M)); rfl; rfl; ((conv => lhs; whnf) <;> rfl); rfl; (first | exact siI | exact siR | exact siV | exact siB | exact siSI | exact siSV | exact siW | exact siSR | exact siSO | exact siO); (exact one_all rfl); (repeat (first | with_reducible exact Del.here | with_reducible apply Del.there)); (exact Nat.le_of_ble_eq_true rfl); clear M; intro w1 M; simp only [SX] at M; (try clear F); have F := M.facts; simp only [FX] at F) | ((with_reducible refine goal_drewN (G := fun W => wpList _ _ _ _ _ W) M ?_); clear M; intro w1 M; (try clear F); have F := M.facts; simp only [FX] at F) | ((with_reducible refine goal_drew (G := fun W => wpList _ _ _ _ _ W) M ?_); clear M; intro w1 M; (try clear F); have F := M.facts; simp only [FX] at F) | ((with_reducible refine isSet (G := fun W => wpList _ _ _ _ _ W) ?_); ((with_reducible apply goal_name (G := fun W => wpList _ _ _ _ _ W)); (repeat (first | with_reducible exact M | with_reducible apply Mem.drew | with_reducible apply Mem.drewN | with_reducible apply Mem.allocD | with_reducible apply Mem.setV | with_reducible apply Mem.setD | with_reducible exact Del.here | with_reducible apply Del.there | with_reducible assumption)); clear M; intro w1 M; (try simp only [LX] at M); (try clear F); have F := M.facts; simp only [FX] at F)))
  go_region
  go_wp2
  ((with_reducible apply goal_name (G := fun W => Code.wp _ _ _ _ W)); (repeat (first | with_reducible exact M | with_reducible apply Mem.drew | with_reducible apply Mem.drewN | with_reducible apply Mem.allocD | with_reducible apply Mem.setV | with_reducible apply Mem.setD | with_reducible exact Del.here | with_reducible apply Del.there | with_reducible assumption)); clear M; intro w1 M; (try simp only [LX] at M); (try clear F); have F := M.facts; simp only [FX] at F)
  go_region
  (apply goal_name (G := fun W => bodyPost _ _ _ _ _ W)); (repeat (first | with_reducible exact M | with_reducible apply Mem.drew | with_reducible apply Mem.drewN | with_reducible apply Mem.allocD | with_reducible apply Mem.setV | with_reducible apply Mem.setD | with_reducible exact Del.here | with_reducible apply Del.there | with_reducible assumption)); clear M; intro w1 M; (try simp only [LX] at M); (try clear F); have F := M.facts; simp only [FX] at F
  refine bodyPost_end (v := .tuple #[]) (results_none rfl _ _ _) rfl ⟨rfl, ?_⟩
  simp only [or_bit hk hf hf'] at M
  apply Mem.packRun
  simp only [encR, List.length_set, hl]
  exact M.sel (by repeat (first | with_reducible exact Sel.refl | with_reducible exact Sel.nil | (with_reducible refine Sel.cons (by repeat (first | with_reducible exact Del.here | with_reducible apply Del.there)) ?_) | with_reducible apply Sel.drop))
end Go.Proofs.Ytemglijebbodkaa
