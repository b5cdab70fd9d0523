/- What a new run is drawn from. -/
import Derived.Test.YtemglijebbodkaaD2
namespace Go.Proofs.Ytemglijebbodkaa
open Go.RowKit
set_option maxRecDepth 100000
theorem rdr_below {W w' : World} {f : List Nat} {L L' : List Asn} {R : Rd} {p : Nat} (M : Mem W f w' L) (hd : Del (rdr R p) L L') (h0 : R.W0 = W) (hf : roB R.A R.n = f) : Below W.heap.size W w' := by
  subst h0
  subst hf
  have M1 := Mem.unpack (L' := rdL R p) (M.pull hd)
  exact Mem.roBelow M1 (.there .here)
set_option maxHeartbeats 1000000 in
theorem sOpenW (W0 : World) (A : Option Addr) (n c : Nat) (bs : Nat → Int) (hnc : n ≤ c) {w0 w : World} {f : List Nat} {L : List Asn} (M : Mem w0 f w (ro W0 A n bs :: L)) :
    Calls Try.prog 28 #[.slice A n c] w fun e w' => ∃ R : Rd, e = .returned (.pointer (some ⟨R.g, 0, none⟩)) ∧ (R.W0 = W0 ∧ roB R.A R.n = roB A n) ∧ Mem w0 f w' (rdr R 0 :: L) := by
  have hb := (M.is (by repeat (first | with_reducible exact Del.here | with_reducible apply Del.there)) : (ro W0 A n bs).P w)
  have hn : n ≤ 1048576 := hb.1.1
  by_cases h : n ≤ 2000
  · have h1 : decide (2000 < n) = false := by simp; omega
    have HF := Lib.hid (fun W g (M : Mem w0 f W (blk g 80 [.slice A n c, .int .i64 0] :: ro W0 A n bs :: L)) => (⟨⟨W0, g, A, n, c, bs⟩, rfl, ⟨rfl, rfl⟩, Mem.pack (L' := rdL ⟨W0, g, A, n, c, bs⟩ 0) M⟩ : ∃ R : Rd, Ending.returned (.pointer (some ⟨g, 0, none⟩)) = .returned (.pointer (some ⟨R.g, 0, none⟩)) ∧ (R.W0 = W0 ∧ roB R.A R.n = roB A n) ∧ Mem w0 f W (rdr R 0 :: L)))
    clear hb
    go_enter Try.func28, Try.ntmps28
    go_wp2_with (first
      | ((with_reducible refine goal_alloc (G := fun W => wpList _ _ _ _ _ W) M ?_); clear M; intro w1 M; (try clear F); have F := M.facts; simp only [And.intro FX FXd] at F) | ((with_reducible apply ev_store (M := M)); rfl; rfl; ((conv => lhs; whnf) <;> rfl); rfl; (first | exact siI | exact siR | exact siV | exact siB | exact siSI | exact siSV | exact siW | exact siSR | exact siSO | exact siO); (exact one_all rfl); (repeat (first | with_reducible exact Del.here | with_reducible apply Del.there)); (exact Nat.le_of_ble_eq_true rfl); clear M; intro w1 M; simp only [SX] at M; (try clear F); have F := M.facts; simp only [And.intro FX FXd] at F) | ((with_reducible refine goal_drewN (G := fun W => wpList _ _ _ _ _ W) M ?_); clear M; intro w1 M; (try clear F); have F := M.facts; simp only [And.intro FX FXd] at F) | ((with_reducible refine goal_drew (G := fun W => wpList _ _ _ _ _ W) M ?_); clear M; intro w1 M; (try clear F); have F := M.facts; simp only [And.intro FX FXd] at F) | ((with_reducible refine isSet (G := fun W => wpList _ _ _ _ _ W) ?_); ((with_reducible apply goal_name (G := fun W => wpList _ _ _ _ _ W)); (repeat (first | with_reducible exact M | with_reducible apply Mem.drew | with_reducible apply Mem.drewN | with_reducible apply Mem.allocD | with_reducible apply Mem.setV | with_reducible apply Mem.setD | with_reducible exact Del.here | with_reducible apply Del.there | with_reducible assumption)); clear M; intro w1 M; (try simp only [LX] at M); (try clear F); have F := M.facts; simp only [And.intro FX FXd] at F)))
    (apply goal_name (G := fun W => bodyPost _ _ _ _ _ W)); (repeat (first | with_reducible exact M | with_reducible apply Mem.drew | with_reducible apply Mem.drewN | with_reducible apply Mem.allocD | with_reducible apply Mem.setV | with_reducible apply Mem.setD | with_reducible exact Del.here | with_reducible apply Del.there | with_reducible assumption)); clear M; intro w1 M; (try simp only [LX] at M); (try clear F); have F := M.facts; simp only [And.intro FX FXd] at F
    go_ret
    exact HF.out _ _ M
  · have h1 : decide (2000 < n) = true := by simp; omega
    have h2 : (2000 : Int) < n := by omega
    have h3 : (2000 : Int) ≤ c := by omega
    have hro : roB A 2000 = roB A n := by unfold roB; rw [if_pos (by omega), if_pos (by omega)]
    replace M : Mem w0 f w (ro W0 A 2000 bs :: L) := M.turn (fun h => ⟨⟨by omega, h.1.2.1, by
      have := h.1.2.2
      cases A with
      | none => simp only at this; omega
      | some ad => exact fun j hj => this j (by omega)⟩, h.2.1, by
      have := h.2.2
      unfold roB at this ⊢
      rw [if_pos (by omega)] at this
      rw [if_pos (by omega)]
      exact this⟩) (by
      show (roB A 2000).Sublist (roB A n)
      unfold roB
      rw [if_pos (by omega), if_pos (by omega)]
      exact List.Sublist.refl _)
    have HF := Lib.hid (fun W g (M : Mem w0 f W (blk g 80 [.slice A 2000 c, .int .i64 0] :: ro W0 A 2000 bs :: L)) => (⟨⟨W0, g, A, 2000, c, bs⟩, rfl, ⟨rfl, hro⟩, Mem.pack (L' := rdL ⟨W0, g, A, 2000, c, bs⟩ 0) M⟩ : ∃ R : Rd, Ending.returned (.pointer (some ⟨g, 0, none⟩)) = .returned (.pointer (some ⟨R.g, 0, none⟩)) ∧ (R.W0 = W0 ∧ roB R.A R.n = roB A n) ∧ Mem w0 f W (rdr R 0 :: L)))
    clear hb
    go_enter Try.func28, Try.ntmps28
    go_wp2_with (first
      | ((with_reducible refine goal_alloc (G := fun W => wpList _ _ _ _ _ W) M ?_); clear M; intro w1 M; (try clear F); have F := M.facts; simp only [And.intro FX FXd] at F) | ((with_reducible apply ev_store (M := M)); rfl; rfl; ((conv => lhs; whnf) <;> rfl); rfl; (first | exact siI | exact siR | exact siV | exact siB | exact siSI | exact siSV | exact siW | exact siSR | exact siSO | exact siO); (exact one_all rfl); (repeat (first | with_reducible exact Del.here | with_reducible apply Del.there)); (exact Nat.le_of_ble_eq_true rfl); clear M; intro w1 M; simp only [SX] at M; (try clear F); have F := M.facts; simp only [And.intro FX FXd] at F) | ((with_reducible refine goal_drewN (G := fun W => wpList _ _ _ _ _ W) M ?_); clear M; intro w1 M; (try clear F); have F := M.facts; simp only [And.intro FX FXd] at F) | ((with_reducible refine goal_drew (G := fun W => wpList _ _ _ _ _ W) M ?_); clear M; intro w1 M; (try clear F); have F := M.facts; simp only [And.intro FX FXd] at F) | ((with_reducible refine isSet (G := fun W => wpList _ _ _ _ _ W) ?_); ((with_reducible apply goal_name (G := fun W => wpList _ _ _ _ _ W)); (repeat (first | with_reducible exact M | with_reducible apply Mem.drew | with_reducible apply Mem.drewN | with_reducible apply Mem.allocD | with_reducible apply Mem.setV | with_reducible apply Mem.setD | with_reducible exact Del.here | with_reducible apply Del.there | with_reducible assumption)); clear M; intro w1 M; (try simp only [LX] at M); (try clear F); have F := M.facts; simp only [And.intro FX FXd] at F)))
    (apply goal_name (G := fun W => bodyPost _ _ _ _ _ W)); (repeat (first | with_reducible exact M | with_reducible apply Mem.drew | with_reducible apply Mem.drewN | with_reducible apply Mem.allocD | with_reducible apply Mem.setV | with_reducible apply Mem.setD | with_reducible exact Del.here | with_reducible apply Del.there | with_reducible assumption)); clear M; intro w1 M; (try simp only [LX] at M); (try clear F); have F := M.facts; simp only [And.intro FX FXd] at F
    go_ret
    exact HF.out _ _ M
def DrawNewPost (W0 : World) (A : Option Addr) (n : Nat) (w0 : World) (f : List Nat) (L : List Asn) (e : Ending) (w' : World) : Prop := ∃ (id at_ : Int) (v : Vl) (R : Rd) (p : Nat), e = .returned (.tuple #[.int .i64 id, .int .i64 at_, .agg #[.int .i64 v.k, .int .i64 v.n]]) ∧ (R.W0 = W0 ∧ roB R.A R.n = roB A n) ∧ Mem w0 f w' (rdr R p :: L)
theorem ret_ttc {P : Program} {fn : Func} {R : Ending → World → Prop} {a : Act} {w0 w : World} {f : List Nat} {L L' : List Asn} {d1 d2 d : Tmp} {t tb : TypeId} {g : Nat} {cs : List Value} {v1 v2 : Value} (hres : fn.results = #[.tmp d1, .tmp d2, .cell d t]) (h1 : a.tmps.getD d1 undef = v1) (h2 : a.tmps.getD d2 undef = v2) (hx : a.tmps.getD d undef = .pointer (some ⟨g, 0, none⟩)) (M : Mem w0 f w L) (hd : Del (blk g tb cs) L L')
    (ha : ∀ W, (isAgg t).run P W = .ok true W) (hs : (P.info? t).map (·.size) = some cs.length) (hdef : a.defers = []) (hR : R (.returned (.tuple #[v1, v2, .agg cs.toArray])) w) : bodyPost P fn R .ret a w := by
  have hrun := run_loadAgg (P := P) (off := 0) (ha w) hs (M.pull hd).facts.1.2.1 (by omega : 0 + cs.length ≤ cs.length)
  simp only [List.drop_zero, List.take_length] at hrun
  refine ⟨hdef, _, ?_, hR⟩
  simp only [Array.getD_eq_getD_getElem?] at hx h1 h2
  simp [results, hres, hx, h1, h2, asAddr, hrun]
set_option maxHeartbeats 1000000 in
theorem sDrawRunNew (W0 : World) (A : Option Addr) (n c : Nat) (bs : Nat → Int) (hnc : n ≤ c) {w0 w : World} {f : List Nat} {L : List Asn} (M : Mem w0 f w (ro W0 A n bs :: L)) :
    Calls Try.prog 9 #[.slice A n c] w (DrawNewPost W0 A n w0 f L) := by
  have HO := Lib.hid (fun W (L : List Asn) (M : Mem w0 f W (ro W0 A n bs :: L)) => sOpenW W0 A n c bs hnc M)
  have HP := Lib.hid (fun R (m : Int) (hm : 1 ≤ m) (q : Nat) (hq : q ≤ 1000000000) W (L L' : List Asn) (M : Mem w0 f W L) (hd : Del (rdr R q) L L') => pick_of m hm R q hq M hd)
  have HV := Lib.hid (fun R (q : Nat) (hq : q ≤ 900000000) W (L L' : List Asn) (M : Mem w0 f W L) (hd : Del (rdr R q) L L') => sVal R q hq M hd)
  have HF : Hid (∀ W id at_ k m R p, (R.W0 = W0 ∧ roB R.A R.n = roB A n) → Mem w0 f W (rdr R p :: L) → DrawNewPost W0 A n w0 f L (.returned (.tuple #[.int .i64 id, .int .i64 at_, .agg #[.int .i64 k, .int .i64 m]])) W) := fun W id at_ k m R p h M => ⟨id, at_, ⟨k, m⟩, R, p, rfl, h, M⟩
  unfold ValPost at HV
  clear hnc
  go_enter Try.func9, Try.ntmps9
  go_wp2_with (first
    | ((with_reducible refine goal_alloc (G := fun W => wpList _ _ _ _ _ W) M ?_); clear M; intro w1 M; (try clear F); have F := M.facts; simp only [And.intro FX FXd] at F) | ((with_reducible apply ev_store (M := M)); rfl; rfl; ((conv => lhs; whnf) <;> rfl); rfl; (first | exact siI | exact siR | exact siV | exact siB | exact siSI | exact siSV | exact siW | exact siSR | exact siSO | exact siO); (exact one_all rfl); (repeat (first | with_reducible exact Del.here | with_reducible apply Del.there)); (exact Nat.le_of_ble_eq_true rfl); clear M; intro w1 M; simp only [SX] at M; (try clear F); have F := M.facts; simp only [And.intro FX FXd] at F) | ((with_reducible refine goal_drewN (G := fun W => wpList _ _ _ _ _ W) M ?_); clear M; intro w1 M; (try clear F); have F := M.facts; simp only [And.intro FX FXd] at F) | ((with_reducible refine goal_drew (G := fun W => wpList _ _ _ _ _ W) M ?_); clear M; intro w1 M; (try clear F); have F := M.facts; simp only [And.intro FX FXd] at F) | ((with_reducible refine isSet (G := fun W => wpList _ _ _ _ _ W) ?_); ((with_reducible apply goal_name (G := fun W => wpList _ _ _ _ _ W)); (repeat (first | with_reducible exact M | with_reducible apply Mem.drew | with_reducible apply Mem.drewN | with_reducible apply Mem.allocD | with_reducible apply Mem.setV | with_reducible apply Mem.setD | with_reducible exact Del.here | with_reducible apply Del.there | with_reducible assumption)); clear M; intro w1 M; (try simp only [LX] at M); (try clear F); have F := M.facts; simp only [And.intro FX FXd] at F))
    | (go_at_call 28; refine (HO.out _ _ (M.pull (by repeat (first | with_reducible exact Del.here | with_reducible apply Del.there)))).mono ?_; clear M; rintro e w2 ⟨R, rfl, hR, M⟩; have hR := Lib.hid hR; try clear F)
    | (go_at_call 29; refine (HP.out R _ (by decide) _ ?_ _ _ _ M (by repeat (first | with_reducible exact Del.here | with_reducible apply Del.there))).mono ?_; omega; clear M; rintro e w2 ⟨i, rfl, h0, h1, M⟩; (try clear F); have F := M.facts; simp only [And.intro FX FXd] at F)
    | (go_at_call 30; refine (HV.out R _ ?_ _ _ _ M (by repeat (first | with_reducible exact Del.here | with_reducible apply Del.there))).mono ?_; omega; clear M; rintro e w2 ⟨⟨vk, vn⟩, p', rfl, hv, hp1, hp2, M⟩; (try clear F); have F := M.facts; simp only [And.intro FX FXd] at F))
  (apply goal_name (G := fun W => bodyPost _ _ _ _ _ W)); (repeat (first | with_reducible exact M | with_reducible apply Mem.drew | with_reducible apply Mem.drewN | with_reducible apply Mem.allocD | with_reducible apply Mem.setV | with_reducible apply Mem.setD | with_reducible exact Del.here | with_reducible apply Del.there | with_reducible assumption)); clear M; intro w1 M; (try simp only [LX] at M); (try clear F); have F := M.facts; simp only [And.intro FX FXd] at F
  apply ret_ttc (M := M); rfl; ((conv => lhs; whnf) <;> rfl); ((conv => lhs; whnf) <;> rfl); rfl; (repeat (first | with_reducible exact Del.here | with_reducible apply Del.there)); (first | exact agR | exact agV | exact agW | exact agO); (first | exact siI | exact siR | exact siV | exact siB | exact siSI | exact siSV | exact siW | exact siSR | exact siSO | exact siO); rfl
  exact HF.out _ _ _ _ _ _ _ hR.out (M.sel (by repeat (first | with_reducible exact Sel.refl | with_reducible exact Sel.nil | (with_reducible refine Sel.cons (by repeat (first | with_reducible exact Del.here | with_reducible apply Del.there)) ?_) | with_reducible apply Sel.drop)))
end Go.Proofs.Ytemglijebbodkaa
