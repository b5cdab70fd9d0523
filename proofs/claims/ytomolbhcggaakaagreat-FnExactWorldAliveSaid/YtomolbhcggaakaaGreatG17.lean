/- Parts of the proof, in one text. -/
import Derived.Test.YtomolbhcggaakaaGreatG12
import Derived.Test.YtomolbhcggaakaaGreatG16
/- What a step of a kind has. -/
namespace Go.Proofs.YtomolbhcggaakaaGreat
open Go.RowKit
set_option maxRecDepth 100000

def encB (b : Bool) : List Value := [.bool b]
theorem encB_length (b : Bool) : (encB b).length = 1 := rfl
def rowB (A : Option Addr) (c : Nat) (xs : List Bool) : Asn := row encB 1 4 A c xs
theorem rowB_blk {w0 w : World} {f : List Nat} {L : List Asn} {g : Nat} {b0 b1 b2 b3 : Bool} (M : Mem w0 f w (blk g 4 [.bool b0, .bool b1, .bool b2, .bool b3] :: L)) : Mem w0 f w (rowB (some ⟨g, 0, none⟩) 4 [b0, b1, b2, b3] :: L) :=
  Mem.row_of encB_length (xs := [b0, b1, b2, b3]) M rfl (by simp)
theorem rowB_nil {w0 w : World} {f : List Nat} {L : List Asn} {g : Nat} (M : Mem w0 f w (blk g 4 [] :: L)) : Mem w0 f w (rowB (some ⟨g, 0, none⟩) 0 [] :: L) :=
  Mem.row_of encB_length (xs := []) M rfl (by simp)
def FormPost (k : Int) (w0 : World) (f : List Nat) (L : List Asn) (e : Ending) (w' : World) : Prop := ∃ (A : Option Addr) (c : Nat), e = .returned (.slice A (opForm k).length c) ∧ Mem w0 f w' (rowB A c (opForm k) :: L)
set_option maxHeartbeats 4000000 in
theorem sForm (k : Int) {w0 w : World} {f : List Nat} {L : List Asn} (M : Mem w0 f w L) : Calls Tryz.prog 161 #[.int .i64 k] w (FormPost k w0 f L) := by
  have HF : Hid (∀ W g b0 b1 b2 b3, opForm k = [b0, b1, b2, b3] → Mem w0 f W (blk g 4 [.bool b0, .bool b1, .bool b2, .bool b3] :: L) → FormPost k w0 f L (.returned (.slice (some ⟨g, 0, none⟩) 4 4)) W) := fun W g b0 b1 b2 b3 h M => ⟨_, _, by rw [h]; rfl, by rw [h]; exact rowB_blk M⟩
  have HN : Hid (∀ W g, opForm k = [] → Mem w0 f W (blk g 4 [] :: L) → FormPost k w0 f L (.returned (.slice (some ⟨g, 0, none⟩) 0 0)) W) := fun W g h M => ⟨_, _, by rw [h]; rfl, by rw [h]; exact rowB_nil M⟩
  go_enter Tryz.func161, Tryz.ntmps161
  go_wp2
  all_goals (apply goal_name (G := fun W => bodyPost _ _ _ _ _ W)); (repeat (first | with_reducible exact M | with_reducible apply Mem.drew | with_reducible apply Mem.drewN | with_reducible apply Mem.allocD | with_reducible apply Mem.setV | with_reducible apply Mem.setD | with_reducible exact Del.here | with_reducible apply Del.there | with_reducible assumption)); clear M; intro w1 M; (try simp only [LX] at M); (try clear F); have F := M.facts; simp only [And.intro FX FXw] at F
  all_goals go_ret
  all_goals (simp only [beq_iff_eq, beq_eq_false_iff_ne, ne_eq] at *)
  all_goals (first | (refine HF.out _ _ _ _ _ _ ?_ M; subst_vars; rfl) | (refine HN.out _ _ ?_ M; simp [opForm, *]))
end Go.Proofs.YtomolbhcggaakaaGreat
/- What kinds of steps do. -/
namespace Go.Proofs.YtomolbhcggaakaaGreat
open Go.RowKit
set_option maxRecDepth 100000

set_option maxHeartbeats 1000000 in
theorem sGoes (k : Int) (w : World) : Calls Tryz.prog 122 #[.int .i64 k] w fun e w' => e = .returned (.bool (goesTo k)) ∧ w = w' := by
  have h : goesTo k = true ∨ goesTo k = false := by cases goesTo k <;> simp
  unfold goesTo at *
  go_enter Tryz.func122, Tryz.ntmps122
  go_wp2
  all_goals go_ret
  all_goals exact ⟨by simp_all, rfl⟩
set_option maxHeartbeats 1000000 in
theorem sFills (k : Int) (w : World) : Calls Tryz.prog 124 #[.int .i64 k] w fun e w' => e = .returned (.bool (fillsR k)) ∧ w = w' := by
  unfold fillsR
  go_enter Tryz.func124, Tryz.ntmps124
  go_wp2
  all_goals go_ret
  all_goals exact ⟨by simp_all, rfl⟩
abbrev opArr (o : Opx) : Array Value := #[.int .i64 o.k, .int .i64 o.r, .int .i64 o.s, .int .i64 o.to, .int .i64 o.v.k, .int .i64 o.v.n]
def UsesPost (o : Opx) (w0 : World) (f : List Nat) (L : List Asn) (e : Ending) (w' : World) : Prop := ∃ (A : Option Addr) (c : Nat), e = .returned (.slice A (opUses o).length c) ∧ Mem w0 f w' (rowI A c (opUses o) :: L)
theorem rowI_list {w0 w : World} {f : List Nat} {L : List Asn} {g : Nat} (xs : List Int) (hl : xs.length ≤ 1000) (M : Mem w0 f w (blk g tI (xs.map (.int .i64 ·)) :: L)) : Mem w0 f w (rowI (some ⟨g, 0, none⟩) xs.length xs :: L) :=
  Mem.row_of encI_length (xs := xs) M (by clear hl M; induction xs with | nil => rfl | cons x xs ih => simp [flat, encI] at ih ⊢; exact ih) (by omega)
set_option maxHeartbeats 2000000 in
theorem sUses (o : Opx) {w0 w : World} {f : List Nat} {L : List Asn} (M : Mem w0 f w L) : Calls Tryz.prog 87 #[.agg (opArr o)] w (UsesPost o w0 f L) := by
  have HF : Hid (∀ W g (xs : List Int) n, opUses o = xs → xs.length = n → xs.length ≤ 1000 → Mem w0 f W (blk g tI (xs.map (.int .i64 ·)) :: L) → UsesPost o w0 f L (.returned (.slice (some ⟨g, 0, none⟩) n n)) W) := fun W g xs n h hn hl M => ⟨_, _, by rw [h, hn], by rw [h]; exact hn ▸ rowI_list xs hl M⟩
  obtain ⟨k, r, s, to, ⟨vk, vn⟩⟩ := o
  simp only [opArr]
  go_enter Tryz.func87, Tryz.ntmps87
  go_wp2_with (first
    | ((with_reducible refine goal_alloc (G := fun W => wpList _ _ _ _ _ W) M ?_); clear M; intro w1 M; (try clear F); have F := M.facts; simp only [And.intro FX FXw] at F) | ((with_reducible apply ev_store (M := M)); rfl; rfl; ((conv => lhs; whnf) <;> rfl); rfl; (first | exact siI | exact siR | exact siV | exact siB | exact siSI | exact siSV | exact siW | exact siSR | exact siSO | exact siO); (exact one_all rfl); (repeat (first | with_reducible exact Del.here | with_reducible apply Del.there)); (exact Nat.le_of_ble_eq_true rfl); clear M; intro w1 M; simp only [SX] at M; (try clear F); have F := M.facts; simp only [And.intro FX FXw] at F) | ((with_reducible refine goal_drewN (G := fun W => wpList _ _ _ _ _ W) M ?_); clear M; intro w1 M; (try clear F); have F := M.facts; simp only [And.intro FX FXw] at F) | ((with_reducible refine goal_drew (G := fun W => wpList _ _ _ _ _ W) M ?_); clear M; intro w1 M; (try clear F); have F := M.facts; simp only [And.intro FX FXw] at F) | ((with_reducible refine isSet (G := fun W => wpList _ _ _ _ _ W) ?_); ((with_reducible apply goal_name (G := fun W => wpList _ _ _ _ _ W)); (repeat (first | with_reducible exact M | with_reducible apply Mem.drew | with_reducible apply Mem.drewN | with_reducible apply Mem.allocD | with_reducible apply Mem.setV | with_reducible apply Mem.setD | with_reducible exact Del.here | with_reducible apply Del.there | with_reducible assumption)); clear M; intro w1 M; (try simp only [LX] at M); (try clear F); have F := M.facts; simp only [And.intro FX FXw] at F)))
  all_goals (apply goal_name (G := fun W => bodyPost _ _ _ _ _ W)); (repeat (first | with_reducible exact M | with_reducible apply Mem.drew | with_reducible apply Mem.drewN | with_reducible apply Mem.allocD | with_reducible apply Mem.setV | with_reducible apply Mem.setD | with_reducible exact Del.here | with_reducible apply Del.there | with_reducible assumption)); clear M; intro w1 M; (try simp only [LX] at M); (try clear F); have F := M.facts; simp only [And.intro FX FXw] at F
  all_goals go_ret
  all_goals (simp only [beq_iff_eq, beq_eq_false_iff_ne, ne_eq] at *)
  all_goals (first | exact HF.out _ _ [s] _ (by subst_vars; rfl) rfl (by simp) (M.sel (T := blk _ tI [.int .i64 s] :: L) (by repeat (first | with_reducible exact Sel.refl | with_reducible exact Sel.nil | (with_reducible refine Sel.cons (by repeat (first | with_reducible exact Del.here | with_reducible apply Del.there)) ?_) | with_reducible apply Sel.drop))) | exact HF.out _ _ [r, s] _ (by subst_vars; rfl) rfl (by simp) (M.sel (T := blk _ tI [.int .i64 r, .int .i64 s] :: L) (by repeat (first | with_reducible exact Sel.refl | with_reducible exact Sel.nil | (with_reducible refine Sel.cons (by repeat (first | with_reducible exact Del.here | with_reducible apply Del.there)) ?_) | with_reducible apply Sel.drop))) | exact HF.out _ _ [r] _ (by subst_vars; rfl) rfl (by simp) (M.sel (T := blk _ tI [.int .i64 r] :: L) (by repeat (first | with_reducible exact Sel.refl | with_reducible exact Sel.nil | (with_reducible refine Sel.cons (by repeat (first | with_reducible exact Del.here | with_reducible apply Del.there)) ?_) | with_reducible apply Sel.drop))) | exact HF.out _ _ [] _ (by simp [opUses, *]) rfl (by simp) (M.sel (T := blk _ tI [] :: L) (by repeat (first | with_reducible exact Sel.refl | with_reducible exact Sel.nil | (with_reducible refine Sel.cons (by repeat (first | with_reducible exact Del.here | with_reducible apply Del.there)) ?_) | with_reducible apply Sel.drop))))
end Go.Proofs.YtomolbhcggaakaaGreat
