/- Parts of the proof, in one text. -/
import Derived.Test.YtomolbhcggaakaaGreatProg
import Derived.Test.YtomolbhcggaakaaGreatH06
import Derived.Test.YtomolbhcggaakaaGreatH01
/- What a step of a kind has. -/
namespace Go.Proofs.YtomolbhcggaakaaGreat
open Go.RowKit
set_option maxRecDepth 100000

def encB (b : Bool) : List Value := [.bool b]
theorem encB_length (b : Bool) : (encB b).length = 1 := rfl
def rowB (A : Option Addr) (c : Nat) (xs : List Bool) : Asn := row encB 1 4 A c xs
theorem rowB_blk {w0 w : World} {f : List Nat} {L : List Asn} {g : Nat} {b0 b1 b2 b3 : Bool} (M : Mem w0 f w (blk g 4 [.bool b0, .bool b1, .bool b2, .bool b3] :: L)) : Mem w0 f w (rowB (some ⟨g, 0, none⟩) 4 [b0, b1, b2, b3] :: L) :=
  Mem.row_of encB_length (xs := [b0, b1, b2, b3]) M rfl (by simp)
theorem rowB_nil {w0 w : World} {f : List Nat} {L : List Asn} {g : Nat} (M : Mem w0 f w (blk g 4 [] :: L)) : Mem w0 f w (rowB (some ⟨g, 0, none⟩) 0 [] :: L) :=
  Mem.row_of encB_length (xs := []) M rfl (by simp)
def FormPost (k : Int) (w0 : World) (f : List Nat) (L : List Asn) (e : Ending) (w' : World) : Prop := ∃ (A : Option Addr) (c : Nat), e = .returned (.slice A (opForm k).length c) ∧ Mem w0 f w' (rowB A c (opForm k) :: L)
set_option maxHeartbeats 4000000 in
theorem sForm (k : Int) {w0 w : World} {f : List Nat} {L : List Asn} (M : Mem w0 f w L) : Calls Tryz.prog 161 #[.int .i64 k] w (FormPost k w0 f L) := by
  have HF : Hid (∀ W g b0 b1 b2 b3, opForm k = [b0, b1, b2, b3] → Mem w0 f W (blk g 4 [.bool b0, .bool b1, .bool b2, .bool b3] :: L) → FormPost k w0 f L (.returned (.slice (some ⟨g, 0, none⟩) 4 4)) W) := fun W g b0 b1 b2 b3 h M => ⟨_, _, by rw [h]; rfl, by rw [h]; exact rowB_blk M⟩
  have HN : Hid (∀ W g, opForm k = [] → Mem w0 f W (blk g 4 [] :: L) → FormPost k w0 f L (.returned (.slice (some ⟨g, 0, none⟩) 0 0)) W) := fun W g h M => ⟨_, _, by rw [h]; rfl, by rw [h]; exact rowB_nil M⟩
  go_enter Tryz.func161, Tryz.ntmps161
  go_wp2
  all_goals (refine nmw (G := fun W => bodyPost _ _ _ _ _ W) ?_; clear M; (try clear F); intro w1 M F)
  all_goals go_ret
  all_goals (simp only [beq_iff_eq, beq_eq_false_iff_ne, ne_eq] at *)
  all_goals (first | (refine HF.out _ _ _ _ _ _ ?_ M; subst_vars; rfl) | (refine HN.out _ _ ?_ M; simp [opForm, *]))
end Go.Proofs.YtomolbhcggaakaaGreat
/- What kinds of steps do. -/
namespace Go.Proofs.YtomolbhcggaakaaGreat
open Go.RowKit
set_option maxRecDepth 100000

set_option maxHeartbeats 1000000 in
theorem sGoes (k : Int) (w : World) : Calls Tryz.prog 122 #[.int .i64 k] w fun e w' => e = .returned (.bool (goesTo k)) ∧ w = w' := by
  have h : goesTo k = true ∨ goesTo k = false := by cases goesTo k <;> simp
  unfold goesTo at *
  go_enter Tryz.func122, Tryz.ntmps122
  go_wp2
  all_goals go_ret
  all_goals exact ⟨by simp_all, rfl⟩
set_option maxHeartbeats 1000000 in
theorem sFills (k : Int) (w : World) : Calls Tryz.prog 124 #[.int .i64 k] w fun e w' => e = .returned (.bool (fillsR k)) ∧ w = w' := by
  unfold fillsR
  go_enter Tryz.func124, Tryz.ntmps124
  go_wp2
  all_goals go_ret
  all_goals exact ⟨by simp_all, rfl⟩
abbrev opArr (o : Opx) : Array Value := #[.int .i64 o.k, .int .i64 o.r, .int .i64 o.s, .int .i64 o.to, .int .i64 o.v.k, .int .i64 o.v.n]
def UsesPost (o : Opx) (w0 : World) (f : List Nat) (L : List Asn) (e : Ending) (w' : World) : Prop := ∃ (A : Option Addr) (c : Nat), e = .returned (.slice A (opUses o).length c) ∧ Mem w0 f w' (rowI A c (opUses o) :: L)
theorem rowI_list {w0 w : World} {f : List Nat} {L : List Asn} {g : Nat} (xs : List Int) (hl : xs.length ≤ 1000) (M : Mem w0 f w (blk g tI (xs.map (.int .i64 ·)) :: L)) : Mem w0 f w (rowI (some ⟨g, 0, none⟩) xs.length xs :: L) :=
  Mem.row_of encI_length (xs := xs) M (by clear hl M; induction xs with | nil => rfl | cons x xs ih => simp [flat, encI] at ih ⊢; exact ih) (by omega)
set_option maxHeartbeats 2000000 in
theorem sUses (o : Opx) {w0 w : World} {f : List Nat} {L : List Asn} (M : Mem w0 f w L) : Calls Tryz.prog 87 #[.agg (opArr o)] w (UsesPost o w0 f L) := by
  have HF : Hid (∀ W g (xs : List Int) n, opUses o = xs → xs.length = n → xs.length ≤ 1000 → Mem w0 f W (blk g tI (xs.map (.int .i64 ·)) :: L) → UsesPost o w0 f L (.returned (.slice (some ⟨g, 0, none⟩) n n)) W) := fun W g xs n h hn hl M => ⟨_, _, by rw [h, hn], by rw [h]; exact hn ▸ rowI_list xs hl M⟩
  obtain ⟨k, r, s, to, ⟨vk, vn⟩⟩ := o
  simp only [opArr]
  go_enter Tryz.func87, Tryz.ntmps87
  go_wp2_with (first
    | (with_reducible refine alAw M ?_; clear M; (try clear F); intro w1 M F) | ((with_reducible apply ev_store (M := M)); rfl; rfl; ((conv => lhs; whnf) <;> rfl); rfl; (first | exact siI | exact siR | exact siV | exact siB | exact siSI | exact siSV | exact siW | exact siSR | exact siSO | exact siO); (exact one_all rfl); (exact dl); (exact Nat.le_of_ble_eq_true rfl); clear M; intro w1 M; simp only [SX] at M; (try clear F); have F := fxw M) | ((with_reducible refine goal_drewN (G := fun W => wpList _ _ _ _ _ W) M ?_); clear M; intro w1 M; (try clear F); have F := fxw M) | ((with_reducible refine goal_drew (G := fun W => wpList _ _ _ _ _ W) M ?_); clear M; intro w1 M; (try clear F); have F := fxw M) | ((with_reducible refine isSet (G := fun W => wpList _ _ _ _ _ W) ?_); (with_reducible refine nmw (G := fun W => wpList _ _ _ _ _ W) ?_; clear M; (try clear F); intro w1 M F)))
  all_goals (refine nmw (G := fun W => bodyPost _ _ _ _ _ W) ?_; clear M; (try clear F); intro w1 M F)
  all_goals go_ret
  all_goals (simp only [beq_iff_eq, beq_eq_false_iff_ne, ne_eq] at *)
  all_goals (first | exact HF.out _ _ [s] _ (by subst_vars; rfl) rfl (by simp) (M.sel (T := blk _ tI [.int .i64 s] :: L) sl) | exact HF.out _ _ [r, s] _ (by subst_vars; rfl) rfl (by simp) (M.sel (T := blk _ tI [.int .i64 r, .int .i64 s] :: L) sl) | exact HF.out _ _ [r] _ (by subst_vars; rfl) rfl (by simp) (M.sel (T := blk _ tI [.int .i64 r] :: L) sl) | exact HF.out _ _ [] _ (by simp [opUses, *]) rfl (by simp) (M.sel (T := blk _ tI [] :: L) sl))
end Go.Proofs.YtomolbhcggaakaaGreat
/- Small functions of values and numbers: each call returns what its plain word says. -/
namespace Go.Proofs.YtomolbhcggaakaaGreat
open Go.RowKit
set_option maxRecDepth 100000

theorem ret_bool {a b : Bool} (h : a = b) : Ending.returned (.bool a) = .returned (.bool b) := by rw [h]
theorem ret_int {a b : Int} (h : a = b) : Ending.returned (.int .i64 a) = .returned (.int .i64 b) := by rw [h]
theorem below_box (w : World) (o : Obj) : Below w.heap.size w (w.alloc o) := below_new (Below.refl _ _) _
theorem inB_lo {n lo hi : Int} (h : lo ≤ n) : inB n lo hi = decide (n ≤ hi) := by simp [inB, h]
theorem inB_out {n lo hi : Int} (h : ¬ lo ≤ n) : inB n lo hi = false := by simp only [inB, decide_eq_false h, Bool.false_and]

theorem sIn (n lo hi : Int) (w : World) : Calls Tryz.prog 45 #[.int .i64 n, .int .i64 lo, .int .i64 hi] w fun e w' => e = .returned (.bool (inB n lo hi)) ∧ w = w' := by
  by_cases h : lo ≤ n
  · have e := inB_lo (hi := hi) h
    rw [e]
    clear e
    go_enter Tryz.func45, Tryz.ntmps45
    go_wp2
    go_ret
    exact ⟨rfl, rfl⟩
  · have e := inB_out (hi := hi) h
    rw [e]
    clear e
    go_enter Tryz.func45, Tryz.ntmps45
    go_wp2
    go_ret
    exact ⟨rfl, rfl⟩
theorem iIn (n lo hi : Int) (w : World) : Calls Tryz.prog 54 #[.int .i64 n, .int .i64 lo, .int .i64 hi] w fun e w' => e = .returned (.bool (inB n lo hi)) ∧ w = w' := by
  by_cases h : lo ≤ n
  · have e := inB_lo (hi := hi) h
    rw [e]
    clear e
    go_enter Tryz.func54, Tryz.ntmps54
    go_wp2
    go_ret
    exact ⟨rfl, rfl⟩
  · have e := inB_out (hi := hi) h
    rw [e]
    clear e
    go_enter Tryz.func54, Tryz.ntmps54
    go_wp2
    go_ret
    exact ⟨rfl, rfl⟩

theorem valOk_else {k n : Int} (h0 : ¬ k = 0) (h1 : ¬ k = 1) (h2 : ¬ k = 2) (h3 : ¬ k = 3) : valOk ⟨k, n⟩ = false := by simp [valOk, h0, h1, h2, h3]
theorem sValOk (v : Vl) (w : World) : Calls Tryz.prog 39 #[.agg #[.int .i64 v.k, .int .i64 v.n]] w fun e w' => e = .returned (.bool (valOk v)) ∧ Below w.heap.size w w' := by
  obtain ⟨k, n⟩ := v
  by_cases h0 : k = 0
  · subst h0
    go_enter Tryz.func39, Tryz.ntmps39
    go_wp2
    go_ret
    exact ⟨rfl, below_box _ _⟩
  by_cases h1 : k = 1
  · subst h1
    go_enter Tryz.func39, Tryz.ntmps39
    go_wp2_with (go_at_call 45; refine (sIn _ _ _ _).mono ?_; rintro e w' ⟨rfl, rfl⟩)
    go_ret
    exact ⟨rfl, below_box _ _⟩
  by_cases h2 : k = 2
  · subst h2
    go_enter Tryz.func39, Tryz.ntmps39
    go_wp2_with (go_at_call 45; refine (sIn _ _ _ _).mono ?_; rintro e w' ⟨rfl, rfl⟩)
    go_ret
    exact ⟨rfl, below_box _ _⟩
  by_cases h3 : k = 3
  · subst h3
    go_enter Tryz.func39, Tryz.ntmps39
    go_wp2_with (go_at_call 45; refine (sIn _ _ _ _).mono ?_; rintro e w' ⟨rfl, rfl⟩)
    go_ret
    exact ⟨rfl, below_box _ _⟩
  rw [valOk_else h0 h1 h2 h3]
  go_enter Tryz.func39, Tryz.ntmps39
  go_wp2
  go_ret
  exact ⟨rfl, below_box _ _⟩
theorem sTo (n : Int) (w : World) : Calls Tryz.prog 127 #[.int .i64 n] w fun e w' => e = .returned (.bool (inB n 0 15)) ∧ w = w' := by
  go_enter Tryz.func127, Tryz.ntmps127
  go_wp2_with (go_at_call 45; refine (sIn _ _ _ _).mono ?_; rintro e w' ⟨rfl, rfl⟩)
  go_ret
  exact ⟨rfl, rfl⟩
theorem sBit (s b : Int) (h : (s = 0 ∧ b = 1) ∨ (s = 1 ∧ b = 2) ∨ (s = 2 ∧ b = 4) ∨ (s = 3 ∧ b = 8)) (w : World) : Calls Tryz.prog 123 #[.int .i64 s] w fun e w' => e = .returned (.int .i64 b) ∧ Below w.heap.size w w' := by
  rcases h with ⟨rfl, rfl⟩ | ⟨rfl, rfl⟩ | ⟨rfl, rfl⟩ | ⟨rfl, rfl⟩
  all_goals
    go_enter Tryz.func123, Tryz.ntmps123
    go_wp2
    go_ret
    exact ⟨rfl, below_box _ _⟩
theorem bitI_pairs {s : Int} (h : inB s 0 3 = true) : (s = 0 ∧ bitI s = 1) ∨ (s = 1 ∧ bitI s = 2) ∨ (s = 2 ∧ bitI s = 4) ∨ (s = 3 ∧ bitI s = 8) := by
  have b := inB_iff.1 h
  obtain rfl | rfl | rfl | rfl : s = 0 ∨ s = 1 ∨ s = 2 ∨ s = 3 := by omega
  all_goals simp [bitI]
theorem sHas (f s : Int) (hf : 0 ≤ f) (hf' : f ≤ 15) (hs : inB s 0 3 = true) (w : World) : Calls Tryz.prog 88 #[.int .i64 f, .int .i64 s] w fun e w' => e = .returned (.bool (hasBit f s)) ∧ Below w.heap.size w w' := by
  have hb := bitI_pairs hs
  have hB := fun W => sBit s (bitI s) hb W
  unfold hasBit
  generalize bitI s = b at hb hB
  clear hs
  have HB := Lib.hid hB
  clear hB
  rcases hb with ⟨rfl, rfl⟩ | ⟨rfl, rfl⟩ | ⟨rfl, rfl⟩ | ⟨rfl, rfl⟩
  all_goals
    go_enter Tryz.func88, Tryz.ntmps88
    go_wp2_with (go_at_call 123; refine (HB.out _).mono ?_; rintro e w' ⟨rfl, hb⟩)
    go_ret
    exact ⟨ret_bool (by first | rfl | simp), hb⟩
end Go.Proofs.YtomolbhcggaakaaGreat
