/- The reader of draws: it is opened, and a number is picked. -/
import Derived.Test.YtemglijebbodkaaM5
import Derived.Deep.QuietTactic
import Derived.BigQuiet
import Derived.IntWalk
namespace Go.Proofs.Ytemglijebbodkaa
open Go.RowKit
set_option maxRecDepth 100000

/-- Bytes that nobody writes: they are as they were in W0. -/
def BytesOk (W0 : World) (A : Option Addr) (n : Nat) (bs : Nat → Int) : Prop :=
  n ≤ 1048576 ∧ (∀ j, 0 ≤ bs j ∧ bs j ≤ 255) ∧ match A with
    | some ad => ∀ j, j < n → W0.cell? (ad.add j) = some (.int .u8 (bs j))
    | none => n = 0
def roB (A : Option Addr) (n : Nat) : List Nat := if 0 < n then ob A else []
def ro (W0 : World) (A : Option Addr) (n : Nat) (bs : Nat → Int) : Asn where
  fp := roB A n
  P w := BytesOk W0 A n bs ∧ W0.heap.size ≤ w.heap.size ∧ ∀ k, k ∈ roB A n → w.heap[k]? = W0.heap[k]?
  F w := n ≤ 1048576 ∧ (∀ j, 0 ≤ bs j ∧ bs j ≤ 255) ∧ match A with
    | some ad => ∀ j, j < n → w.cell? (ad.add j) = some (.int .u8 (bs j))
    | none => n = 0
  loc w w' hs hk h := ⟨h.1, Nat.le_trans h.2.1 hs, fun k hkA => (hk k hkA).trans (h.2.2 k hkA)⟩
  lt w h k hk := by
    unfold roB at hk
    split at hk
    · rename_i hn
      cases A with
      | none => simp [ob] at hk
      | some ad =>
        obtain rfl : k = ad.block := by simpa [ob] using hk
        have h1 := World.block_lt_of_cell? _ _ (h.1.2.2 0 hn)
        rw [block_of_add] at h1
        exact Nat.lt_of_lt_of_le h1 h.2.1
    · cases hk
  imp w h := by
    refine ⟨h.1.1, h.1.2.1, ?_⟩
    cases A with
    | none => exact h.1.2.2
    | some ad =>
      intro j hj
      rw [← h.1.2.2 j hj]
      refine World.cell?_of_block ?_
      rw [block_of_add]
      exact h.2.2 _ (by unfold roB; rw [if_pos (by omega)]; simp [ob])
theorem ro_F {W0 w : World} {ad : Addr} {n : Nat} {bs : Nat → Int} : (ro W0 (some ad) n bs).F w = (n ≤ 1048576 ∧ (∀ j, 0 ≤ bs j ∧ bs j ≤ 255) ∧ ∀ j, j < n → w.cell? (ad.add j) = some (.int .u8 (bs j))) := rfl
theorem ro_F0 {W0 w : World} {n : Nat} {bs : Nat → Int} : (ro W0 none n bs).F w = (n ≤ 1048576 ∧ (∀ j, 0 ≤ bs j ∧ bs j ≤ 255) ∧ n = 0) := rfl
theorem Mem.roBelow {W w' : World} {A : Option Addr} {n : Nat} {bs : Nat → Int} {L L' : List Asn} (M : Mem W (roB A n) w' L) (hd : Del (ro W A n bs) L L') : Below W.heap.size W w' := by
  have h := M.is hd
  refine ⟨M.ext.os, M.ext.tape, M.ext.output, M.ext.size, fun k hk => ?_⟩
  by_cases hm : k ∈ roB A n
  · exact h.2.2 k hm
  · exact M.ext.keep k hk hm
theorem Mem.ofBytes {W : World} {A : Option Addr} {n : Nat} {bs : Nat → Int} (h : BytesOk W A n bs) : Mem W (roB A n) W [ro W A n bs] := by
  refine ⟨⟨rfl, rfl, rfl, Nat.le_refl _, fun _ _ _ => rfl, fun k hk => .inl (by simpa [fps, ro] using hk), ?_⟩, fun X hX => ?_⟩
  · show (roB A n ++ []).Nodup
    unfold roB
    split
    · cases A <;> simp [ob]
    · simp
  · obtain rfl : X = ro W A n bs := by simpa using hX
    exact ⟨h, Nat.le_refl _, fun _ _ => rfl⟩
structure Rd where
  W0 : World
  g : Nat
  A : Option Addr
  n : Nat
  c : Nat
  bs : Nat → Int
def rdL (R : Rd) (p : Nat) : List Asn := [blk R.g 80 [.slice R.A R.n R.c, .int .i64 (p : Int)], ro R.W0 R.A R.n R.bs]
def rdr (R : Rd) (p : Nat) : Asn := pack (rdL R p)
theorem FXd : (∀ W0 w ad n bs, (ro W0 (some ad) n bs).F w = (n ≤ 1048576 ∧ (∀ j, 0 ≤ bs j ∧ bs j ≤ 255) ∧ ∀ j, j < n → w.cell? (ad.add j) = some (.int .u8 (bs j)))) ∧ (∀ W0 w n bs, (ro W0 none n bs).F w = (n ≤ 1048576 ∧ (∀ j, 0 ≤ bs j ∧ bs j ≤ 255) ∧ n = 0)) ∧ (∀ R p w, (rdr R p).F w = True) := ⟨fun _ _ _ _ _ => rfl, fun _ _ _ _ => rfl, fun _ _ _ => rfl⟩
theorem rdr_F {R : Rd} {p : Nat} {w : World} : (rdr R p).F w = True := rfl

theorem xor_i64 (X Y : Nat) (hX : X < 4611686018427387904) (hY : Y < 4611686018427387904) : bits .xor .i64 (X : Int) (Y : Int) = ((X ^^^ Y : Nat) : Int) := by
  have hx : X ^^^ Y < 2 ^ 62 := Nat.xor_lt_two_pow (by omega) (by omega)
  have e1 : (BitVec.ofInt 64 (X : Int)).toNat = X := by rw [BitVec.toNat_ofInt]; omega
  have e2 : (BitVec.ofInt 64 (Y : Int)).toNat = Y := by rw [BitVec.toNat_ofInt]; omega
  show IntKind.i64.wrap (((BitVec.ofInt 64 (X : Int)) ^^^ (BitVec.ofInt 64 (Y : Int))).toNat : Int) = _
  rw [BitVec.toNat_xor, e1, e2]
  exact IntWalk.i64_in _ (by omega)
def PickPost (m : Int) (R : Rd) (p : Nat) (w0 : World) (f : List Nat) (L : List Asn) (e : Ending) (w' : World) : Prop :=
  ∃ i : Int, e = .returned (.int .i64 i) ∧ (1 ≤ m → 0 ≤ i ∧ i < m) ∧ (m < 1 → i = 0) ∧ Mem w0 f w' (rdr R (p + 1) :: L)

theorem Mem.rdr {w0 w : World} {f : List Nat} {L : List Asn} {R : Rd} {p : Nat} (M : Mem w0 f w (blk R.g 80 [.slice R.A R.n R.c, .int .i64 ((p : Int) + 1)] :: ro R.W0 R.A R.n R.bs :: L)) : Mem w0 f w (rdr R (p + 1) :: L) := Mem.pack (L' := rdL R (p + 1)) M
set_option maxHeartbeats 1000000 in
theorem pick_none (m : Int) (R : Rd) (p : Nat) (hp : p ≤ 1000000000) {w0 w : World} {f : List Nat} {L : List Asn} (M : Mem w0 f w (rdr R p :: L)) (hm : m < 1 ∨ R.n = 0) :
    Calls Try.prog 29 #[.pointer (some ⟨R.g, 0, none⟩), .int .i64 m] w (PickPost m R p w0 f L) := by
  have HF : Hid (∀ W, Mem w0 f W (rdr R (p + 1) :: L) → PickPost m R p w0 f L (.returned (.int .i64 0)) W) := fun W M => ⟨0, rfl, fun h => ⟨by omega, by omega⟩, fun _ => rfl, M⟩
  replace M := M.unpack
  obtain ⟨W0, g, A, n, c, bs⟩ := R
  simp only [rdL, List.cons_append, List.nil_append] at M hm
  have hn : n ≤ 1048576 := (M.is (by repeat (first | with_reducible exact Del.here | with_reducible apply Del.there)) : (ro W0 A n bs).P w).1.1
  (try clear F); have F := M.facts; simp only [And.intro FX FXd] at F
  by_cases h1 : m < 1
  · clear hm
    go_enter Try.func29, Try.ntmps29
    go_wp2_with (first
      | ((with_reducible refine goal_alloc (G := fun W => wpList _ _ _ _ _ W) M ?_); clear M; intro w1 M; (try clear F); have F := M.facts; simp only [And.intro FX FXd] at F) | ((with_reducible apply ev_store (M := M)); rfl; rfl; ((conv => lhs; whnf); rfl); rfl; (first | exact siI | exact siR | exact siV | exact siB | exact siSI | exact siSV | exact siW | exact siSR | exact siSO | exact siO); (exact one_all rfl); (repeat (first | with_reducible exact Del.here | with_reducible apply Del.there)); (exact Nat.le_of_ble_eq_true rfl); clear M; intro w1 M; simp only [SX] at M; (try clear F); have F := M.facts; simp only [And.intro FX FXd] at F) | ((with_reducible refine goal_drewN (G := fun W => wpList _ _ _ _ _ W) M ?_); clear M; intro w1 M; (try clear F); have F := M.facts; simp only [And.intro FX FXd] at F) | ((with_reducible refine goal_drew (G := fun W => wpList _ _ _ _ _ W) M ?_); clear M; intro w1 M; (try clear F); have F := M.facts; simp only [And.intro FX FXd] at F) | ((with_reducible refine isSet (G := fun W => wpList _ _ _ _ _ W) ?_); ((with_reducible apply goal_name (G := fun W => wpList _ _ _ _ _ W)); (repeat (first | with_reducible exact M | with_reducible apply Mem.drew | with_reducible apply Mem.drewN | with_reducible apply Mem.allocD | with_reducible apply Mem.setV | with_reducible apply Mem.setD | with_reducible exact Del.here | with_reducible apply Del.there | with_reducible assumption)); clear M; intro w1 M; (try simp only [LX] at M); (try clear F); have F := M.facts; simp only [And.intro FX FXd] at F)))
    (apply goal_name (G := fun W => bodyPost _ _ _ _ _ W)); (repeat (first | with_reducible exact M | with_reducible apply Mem.drew | with_reducible apply Mem.drewN | with_reducible apply Mem.allocD | with_reducible apply Mem.setV | with_reducible apply Mem.setD | with_reducible exact Del.here | with_reducible apply Del.there | with_reducible assumption)); clear M; intro w1 M; (try simp only [LX] at M); (try clear F); have F := M.facts; simp only [And.intro FX FXd] at F
    (try simp only [LX] at M)
    go_ret
    exact HF.out _ (Mem.rdr M)
  · have h2 : n = 0 := by omega
    have h3 : 1 ≤ m := by omega
    subst h2
    clear hm h1
    go_enter Try.func29, Try.ntmps29
    go_wp2_with (first
      | ((with_reducible refine goal_alloc (G := fun W => wpList _ _ _ _ _ W) M ?_); clear M; intro w1 M; (try clear F); have F := M.facts; simp only [And.intro FX FXd] at F) | ((with_reducible apply ev_store (M := M)); rfl; rfl; ((conv => lhs; whnf); rfl); rfl; (first | exact siI | exact siR | exact siV | exact siB | exact siSI | exact siSV | exact siW | exact siSR | exact siSO | exact siO); (exact one_all rfl); (repeat (first | with_reducible exact Del.here | with_reducible apply Del.there)); (exact Nat.le_of_ble_eq_true rfl); clear M; intro w1 M; simp only [SX] at M; (try clear F); have F := M.facts; simp only [And.intro FX FXd] at F) | ((with_reducible refine goal_drewN (G := fun W => wpList _ _ _ _ _ W) M ?_); clear M; intro w1 M; (try clear F); have F := M.facts; simp only [And.intro FX FXd] at F) | ((with_reducible refine goal_drew (G := fun W => wpList _ _ _ _ _ W) M ?_); clear M; intro w1 M; (try clear F); have F := M.facts; simp only [And.intro FX FXd] at F) | ((with_reducible refine isSet (G := fun W => wpList _ _ _ _ _ W) ?_); ((with_reducible apply goal_name (G := fun W => wpList _ _ _ _ _ W)); (repeat (first | with_reducible exact M | with_reducible apply Mem.drew | with_reducible apply Mem.drewN | with_reducible apply Mem.allocD | with_reducible apply Mem.setV | with_reducible apply Mem.setD | with_reducible exact Del.here | with_reducible apply Del.there | with_reducible assumption)); clear M; intro w1 M; (try simp only [LX] at M); (try clear F); have F := M.facts; simp only [And.intro FX FXd] at F)))
    (apply goal_name (G := fun W => bodyPost _ _ _ _ _ W)); (repeat (first | with_reducible exact M | with_reducible apply Mem.drew | with_reducible apply Mem.drewN | with_reducible apply Mem.allocD | with_reducible apply Mem.setV | with_reducible apply Mem.setD | with_reducible exact Del.here | with_reducible apply Del.there | with_reducible assumption)); clear M; intro w1 M; (try simp only [LX] at M); (try clear F); have F := M.facts; simp only [And.intro FX FXd] at F
    (try simp only [LX] at M)
    go_ret
    exact HF.out _ (Mem.rdr M)
theorem tmod_rng {a : Int} {b : Int} (h0 : 0 ≤ a) (h : 1 ≤ b) : 0 ≤ a.tmod b ∧ a.tmod b < b := ⟨Int.tmod_nonneg _ h0, Int.tmod_lt_of_pos _ (by omega)⟩
set_option maxHeartbeats 1000000 in
theorem pick_in (m : Int) (R : Rd) (p : Nat) (hp : p < R.n) {w0 w : World} {f : List Nat} {L : List Asn} (M : Mem w0 f w (rdr R p :: L)) (hm : 1 ≤ m) :
    Calls Try.prog 29 #[.pointer (some ⟨R.g, 0, none⟩), .int .i64 m] w (PickPost m R p w0 f L) := by
  have HF : Hid (∀ W (i : Int), 0 ≤ i → i < m → Mem w0 f W (rdr R (p + 1) :: L) → PickPost m R p w0 f L (.returned (.int .i64 i)) W) := fun W i h0 h1 M => ⟨i, rfl, fun h => ⟨h0, h1⟩, fun h => by omega, M⟩
  replace M := M.unpack
  obtain ⟨W0, g, A, n, c, bs⟩ := R
  simp only [rdL, List.cons_append, List.nil_append] at M hm hp
  obtain ⟨hn, hbs, hA⟩ := (M.is (by repeat (first | with_reducible exact Del.here | with_reducible apply Del.there)) : (ro W0 A n bs).P w).1
  cases A with
  | none => simp only at hA; omega
  | some ad =>
    clear hA
    have hx := hbs p
    clear hbs
    (try clear F); have F := M.facts; simp only [And.intro FX FXd] at F
    have i1 : (0 : Int) ≤ p := by omega
    have i2 : (p : Int) < n := by omega
    have b1 : ((n : Int) == 0) = false := by simp; omega
    have b2 : decide (m < 1) = false := by simp; omega
    have b3 : decide (p < n) = true := by simpa using hp
    go_enter Try.func29, Try.ntmps29
    go_wp2_with (first
      | ((with_reducible refine goal_alloc (G := fun W => wpList _ _ _ _ _ W) M ?_); clear M; intro w1 M; (try clear F); have F := M.facts; simp only [And.intro FX FXd] at F) | ((with_reducible apply ev_store (M := M)); rfl; rfl; ((conv => lhs; whnf); rfl); rfl; (first | exact siI | exact siR | exact siV | exact siB | exact siSI | exact siSV | exact siW | exact siSR | exact siSO | exact siO); (exact one_all rfl); (repeat (first | with_reducible exact Del.here | with_reducible apply Del.there)); (exact Nat.le_of_ble_eq_true rfl); clear M; intro w1 M; simp only [SX] at M; (try clear F); have F := M.facts; simp only [And.intro FX FXd] at F) | ((with_reducible refine goal_drewN (G := fun W => wpList _ _ _ _ _ W) M ?_); clear M; intro w1 M; (try clear F); have F := M.facts; simp only [And.intro FX FXd] at F) | ((with_reducible refine goal_drew (G := fun W => wpList _ _ _ _ _ W) M ?_); clear M; intro w1 M; (try clear F); have F := M.facts; simp only [And.intro FX FXd] at F) | ((with_reducible refine isSet (G := fun W => wpList _ _ _ _ _ W) ?_); ((with_reducible apply goal_name (G := fun W => wpList _ _ _ _ _ W)); (repeat (first | with_reducible exact M | with_reducible apply Mem.drew | with_reducible apply Mem.drewN | with_reducible apply Mem.allocD | with_reducible apply Mem.setV | with_reducible apply Mem.setD | with_reducible exact Del.here | with_reducible apply Del.there | with_reducible assumption)); clear M; intro w1 M; (try simp only [LX] at M); (try clear F); have F := M.facts; simp only [And.intro FX FXd] at F)))
    go_ret
    exact HF.out _ _ (Int.emod_nonneg _ (by omega)) (Int.emod_lt_of_pos _ (by omega)) (Mem.rdr M)
set_option maxHeartbeats 2000000 in
theorem pick_far (m : Int) (R : Rd) (p : Nat) (hp : R.n ≤ p) (hpm : p ≤ 1000000000) (hn0 : 0 < R.n) {w0 w : World} {f : List Nat} {L : List Asn} (M : Mem w0 f w (rdr R p :: L)) (hm : 1 ≤ m) :
    Calls Try.prog 29 #[.pointer (some ⟨R.g, 0, none⟩), .int .i64 m] w (PickPost m R p w0 f L) := by
  have HF : Hid (∀ W (i : Int), 0 ≤ i → i < m → Mem w0 f W (rdr R (p + 1) :: L) → PickPost m R p w0 f L (.returned (.int .i64 i)) W) := fun W i h0 h1 M => ⟨i, rfl, fun h => ⟨h0, h1⟩, fun h => by omega, M⟩
  replace M := M.unpack
  obtain ⟨W0, g, A, n, c, bs⟩ := R
  simp only [rdL, List.cons_append, List.nil_append] at M hm hp hn0
  obtain ⟨hn, hbs, hA⟩ := (M.is (by repeat (first | with_reducible exact Del.here | with_reducible apply Del.there)) : (ro W0 A n bs).P w).1
  cases A with
  | none => simp only at hA; omega
  | some ad =>
    clear hA
    have i1 : (0 : Int) ≤ p := by omega
    have i2 : (n : Int) ≤ p := by omega
    have i3 : (0 : Int) < n := by omega
    have b1 : ((n : Int) == 0) = false := by simp; omega
    have b2 : decide (m < 1) = false := by simp; omega
    have b3 : decide (p < n) = false := by simp; omega
    obtain ⟨q1, hq1, hq1'⟩ : ∃ q : Nat, (p : Int) % n = q ∧ q < n := ⟨p % n, by simp, Nat.mod_lt _ hn0⟩
    obtain ⟨q2, hq2, hq2'⟩ : ∃ q : Nat, ((p : Int) * 7 + 3) % n = q ∧ q < n := ⟨(p * 7 + 3) % n, by simp, Nat.mod_lt _ hn0⟩
    have x1 := hbs q1
    have x2 := hbs q2
    clear hbs
    obtain ⟨q3, hq3, hq3'⟩ : ∃ q : Nat, (p : Int) / n = q ∧ q ≤ p := ⟨p / n, by simp, Nat.div_le_self _ _⟩
    obtain ⟨X, hX, hX'⟩ : ∃ X : Nat, bs q1 * 131 + bs q2 * 1117 + (p : Int) * 29 + (q3 : Int) * 53 = X ∧ X ≤ 100000000000 := ⟨(bs q1 * 131 + bs q2 * 1117 + (p : Int) * 29 + (q3 : Int) * 53).toNat, by omega, by omega⟩
    obtain ⟨Y, hY⟩ : ∃ Y : Nat, bits .xor .i64 (X : Int) ((X : Int) / 64) = Y := ⟨_, by
      have := xor_i64 X (X / 64) (by omega) (by omega)
      rw [← this]
      congr 1⟩
    (try clear F); have F := M.facts; simp only [And.intro FX FXd] at F
    go_enter Try.func29, Try.ntmps29
    go_wp2_with (first
      | ((with_reducible refine goal_alloc (G := fun W => wpList _ _ _ _ _ W) M ?_); clear M; intro w1 M; (try clear F); have F := M.facts; simp only [And.intro FX FXd] at F) | ((with_reducible apply ev_store (M := M)); rfl; rfl; ((conv => lhs; whnf); rfl); rfl; (first | exact siI | exact siR | exact siV | exact siB | exact siSI | exact siSV | exact siW | exact siSR | exact siSO | exact siO); (exact one_all rfl); (repeat (first | with_reducible exact Del.here | with_reducible apply Del.there)); (exact Nat.le_of_ble_eq_true rfl); clear M; intro w1 M; simp only [SX] at M; (try clear F); have F := M.facts; simp only [And.intro FX FXd] at F) | ((with_reducible refine goal_drewN (G := fun W => wpList _ _ _ _ _ W) M ?_); clear M; intro w1 M; (try clear F); have F := M.facts; simp only [And.intro FX FXd] at F) | ((with_reducible refine goal_drew (G := fun W => wpList _ _ _ _ _ W) M ?_); clear M; intro w1 M; (try clear F); have F := M.facts; simp only [And.intro FX FXd] at F) | ((with_reducible refine isSet (G := fun W => wpList _ _ _ _ _ W) ?_); ((with_reducible apply goal_name (G := fun W => wpList _ _ _ _ _ W)); (repeat (first | with_reducible exact M | with_reducible apply Mem.drew | with_reducible apply Mem.drewN | with_reducible apply Mem.allocD | with_reducible apply Mem.setV | with_reducible apply Mem.setD | with_reducible exact Del.here | with_reducible apply Del.there | with_reducible assumption)); clear M; intro w1 M; (try simp only [LX] at M); (try clear F); have F := M.facts; simp only [And.intro FX FXd] at F)))
    go_quiet (fail)
    go_wp2
    (apply goal_name (G := fun W => bodyPost _ _ _ _ _ W)); (repeat (first | with_reducible exact M | with_reducible apply Mem.drew | with_reducible apply Mem.drewN | with_reducible apply Mem.allocD | with_reducible apply Mem.setV | with_reducible apply Mem.setD | with_reducible exact Del.here | with_reducible apply Del.there | with_reducible assumption)); clear M; intro w1 M; (try simp only [LX] at M); (try clear F); have F := M.facts; simp only [And.intro FX FXd] at F
    go_ret
    exact HF.out _ _ (Int.emod_nonneg _ (by omega)) (Int.emod_lt_of_pos _ (by omega)) (Mem.rdr M)
theorem pick_any (m : Int) (R : Rd) (p : Nat) (hp : p ≤ 1000000000) {w0 w : World} {f : List Nat} {L L' : List Asn} (M : Mem w0 f w L) (hd : Del (rdr R p) L L') :
    Calls Try.prog 29 #[.pointer (some ⟨R.g, 0, none⟩), .int .i64 m] w (PickPost m R p w0 f L') := by
  replace M := M.pull hd
  by_cases h : m < 1 ∨ R.n = 0
  · exact pick_none m R p hp M h
  · by_cases h2 : p < R.n
    · exact pick_in m R p h2 M (by omega)
    · exact pick_far m R p (by omega) hp (by omega) M (by omega)
/-- A pick out of at least one. -/
theorem pick_of (m : Int) (hm : 1 ≤ m) (R : Rd) (p : Nat) (hp : p ≤ 1000000000) {w0 w : World} {f : List Nat} {L L' : List Asn} (M : Mem w0 f w L) (hd : Del (rdr R p) L L') :
    Calls Try.prog 29 #[.pointer (some ⟨R.g, 0, none⟩), .int .i64 m] w fun e w' => ∃ i : Int, e = .returned (.int .i64 i) ∧ 0 ≤ i ∧ i < m ∧ Mem w0 f w' (rdr R (p + 1) :: L') :=
  (pick_any m R p hp M hd).mono fun _ _ ⟨i, e, h, _, M⟩ => ⟨i, e, (h hm).1, (h hm).2, M⟩

set_option maxHeartbeats 1000000 in
theorem sOpen (W0 : World) (A : Option Addr) (n c : Nat) (bs : Nat → Int) (hnc : n ≤ c) {w0 w : World} {f : List Nat} {L : List Asn} (M : Mem w0 f w (ro W0 A n bs :: L)) :
    Calls Try.prog 28 #[.slice A n c] w fun e w' => ∃ R : Rd, e = .returned (.pointer (some ⟨R.g, 0, none⟩)) ∧ Mem w0 f w' (rdr R 0 :: L) := by
  have hb := (M.is (by repeat (first | with_reducible exact Del.here | with_reducible apply Del.there)) : (ro W0 A n bs).P w)
  have hn : n ≤ 1048576 := hb.1.1
  by_cases h : n ≤ 2000
  · have h1 : decide (2000 < n) = false := by simp; omega
    have HF := Lib.hid (fun W g (M : Mem w0 f W (blk g 80 [.slice A n c, .int .i64 0] :: ro W0 A n bs :: L)) => (⟨⟨W0, g, A, n, c, bs⟩, rfl, Mem.pack (L' := rdL ⟨W0, g, A, n, c, bs⟩ 0) M⟩ : ∃ R : Rd, Ending.returned (.pointer (some ⟨g, 0, none⟩)) = .returned (.pointer (some ⟨R.g, 0, none⟩)) ∧ Mem w0 f W (rdr R 0 :: L)))
    clear hb
    go_enter Try.func28, Try.ntmps28
    go_wp2_with (first
      | ((with_reducible refine goal_alloc (G := fun W => wpList _ _ _ _ _ W) M ?_); clear M; intro w1 M; (try clear F); have F := M.facts; simp only [And.intro FX FXd] at F) | ((with_reducible apply ev_store (M := M)); rfl; rfl; ((conv => lhs; whnf); rfl); rfl; (first | exact siI | exact siR | exact siV | exact siB | exact siSI | exact siSV | exact siW | exact siSR | exact siSO | exact siO); (exact one_all rfl); (repeat (first | with_reducible exact Del.here | with_reducible apply Del.there)); (exact Nat.le_of_ble_eq_true rfl); clear M; intro w1 M; simp only [SX] at M; (try clear F); have F := M.facts; simp only [And.intro FX FXd] at F) | ((with_reducible refine goal_drewN (G := fun W => wpList _ _ _ _ _ W) M ?_); clear M; intro w1 M; (try clear F); have F := M.facts; simp only [And.intro FX FXd] at F) | ((with_reducible refine goal_drew (G := fun W => wpList _ _ _ _ _ W) M ?_); clear M; intro w1 M; (try clear F); have F := M.facts; simp only [And.intro FX FXd] at F) | ((with_reducible refine isSet (G := fun W => wpList _ _ _ _ _ W) ?_); ((with_reducible apply goal_name (G := fun W => wpList _ _ _ _ _ W)); (repeat (first | with_reducible exact M | with_reducible apply Mem.drew | with_reducible apply Mem.drewN | with_reducible apply Mem.allocD | with_reducible apply Mem.setV | with_reducible apply Mem.setD | with_reducible exact Del.here | with_reducible apply Del.there | with_reducible assumption)); clear M; intro w1 M; (try simp only [LX] at M); (try clear F); have F := M.facts; simp only [And.intro FX FXd] at F)))
    (apply goal_name (G := fun W => bodyPost _ _ _ _ _ W)); (repeat (first | with_reducible exact M | with_reducible apply Mem.drew | with_reducible apply Mem.drewN | with_reducible apply Mem.allocD | with_reducible apply Mem.setV | with_reducible apply Mem.setD | with_reducible exact Del.here | with_reducible apply Del.there | with_reducible assumption)); clear M; intro w1 M; (try simp only [LX] at M); (try clear F); have F := M.facts; simp only [And.intro FX FXd] at F
    go_ret
    exact HF.out _ _ M
  · have h1 : decide (2000 < n) = true := by simp; omega
    have h2 : (2000 : Int) < n := by omega
    have h3 : (2000 : Int) ≤ c := by omega
    replace M : Mem w0 f w (ro W0 A 2000 bs :: L) := M.turn (fun h => ⟨⟨by omega, h.1.2.1, by
      have := h.1.2.2
      cases A with
      | none => simp only at this; omega
      | some ad => exact fun j hj => this j (by omega)⟩, h.2.1, by
      have := h.2.2
      unfold roB at this ⊢
      rw [if_pos (by omega)] at this
      rw [if_pos (by omega)]
      exact this⟩) (by
      show (roB A 2000).Sublist (roB A n)
      unfold roB
      rw [if_pos (by omega), if_pos (by omega)]
      exact List.Sublist.refl _)
    have HF := Lib.hid (fun W g (M : Mem w0 f W (blk g 80 [.slice A 2000 c, .int .i64 0] :: ro W0 A 2000 bs :: L)) => (⟨⟨W0, g, A, 2000, c, bs⟩, rfl, Mem.pack (L' := rdL ⟨W0, g, A, 2000, c, bs⟩ 0) M⟩ : ∃ R : Rd, Ending.returned (.pointer (some ⟨g, 0, none⟩)) = .returned (.pointer (some ⟨R.g, 0, none⟩)) ∧ Mem w0 f W (rdr R 0 :: L)))
    clear hb
    go_enter Try.func28, Try.ntmps28
    go_wp2_with (first
      | ((with_reducible refine goal_alloc (G := fun W => wpList _ _ _ _ _ W) M ?_); clear M; intro w1 M; (try clear F); have F := M.facts; simp only [And.intro FX FXd] at F) | ((with_reducible apply ev_store (M := M)); rfl; rfl; ((conv => lhs; whnf); rfl); rfl; (first | exact siI | exact siR | exact siV | exact siB | exact siSI | exact siSV | exact siW | exact siSR | exact siSO | exact siO); (exact one_all rfl); (repeat (first | with_reducible exact Del.here | with_reducible apply Del.there)); (exact Nat.le_of_ble_eq_true rfl); clear M; intro w1 M; simp only [SX] at M; (try clear F); have F := M.facts; simp only [And.intro FX FXd] at F) | ((with_reducible refine goal_drewN (G := fun W => wpList _ _ _ _ _ W) M ?_); clear M; intro w1 M; (try clear F); have F := M.facts; simp only [And.intro FX FXd] at F) | ((with_reducible refine goal_drew (G := fun W => wpList _ _ _ _ _ W) M ?_); clear M; intro w1 M; (try clear F); have F := M.facts; simp only [And.intro FX FXd] at F) | ((with_reducible refine isSet (G := fun W => wpList _ _ _ _ _ W) ?_); ((with_reducible apply goal_name (G := fun W => wpList _ _ _ _ _ W)); (repeat (first | with_reducible exact M | with_reducible apply Mem.drew | with_reducible apply Mem.drewN | with_reducible apply Mem.allocD | with_reducible apply Mem.setV | with_reducible apply Mem.setD | with_reducible exact Del.here | with_reducible apply Del.there | with_reducible assumption)); clear M; intro w1 M; (try simp only [LX] at M); (try clear F); have F := M.facts; simp only [And.intro FX FXd] at F)))
    (apply goal_name (G := fun W => bodyPost _ _ _ _ _ W)); (repeat (first | with_reducible exact M | with_reducible apply Mem.drew | with_reducible apply Mem.drewN | with_reducible apply Mem.allocD | with_reducible apply Mem.setV | with_reducible apply Mem.setD | with_reducible exact Del.here | with_reducible apply Del.there | with_reducible assumption)); clear M; intro w1 M; (try simp only [LX] at M); (try clear F); have F := M.facts; simp only [And.intro FX FXd] at F
    go_ret
    exact HF.out _ _ M
end Go.Proofs.Ytemglijebbodkaa
