/- A value is drawn. -/
import Derived.Test.YtemglijebbodkaaD1
import Derived.Deep.RegionWith
namespace Go.Proofs.Ytemglijebbodkaa
open Go.RowKit
set_option maxRecDepth 100000

theorem listAt {l : List Value} {lo hi : Int} (h : l.all (fun v => match v with | .int .i64 z => decide (lo ≤ z) && decide (z ≤ hi) | _ => false) = true) {i : Int} (h0 : 0 ≤ i) (h1 : i < l.length) : ∃ z : Int, l[i.toNat]? = some (.int .i64 z) ∧ lo ≤ z ∧ z ≤ hi := by
  have hlt : i.toNat < l.length := by omega
  have hm := List.all_eq_true.1 h _ (List.getElem_mem hlt)
  rw [List.getElem?_eq_getElem hlt]
  generalize l[i.toNat] = v at hm
  split at hm
  · simp at hm
    exact ⟨_, rfl, hm.1, hm.2⟩
  · cases hm
def VlB (v : Vl) : Prop := 0 ≤ v.k ∧ v.k ≤ 5 ∧ -100 ≤ v.n ∧ v.n ≤ 100
def ValPost (R : Rd) (p : Nat) (w0 : World) (f : List Nat) (L : List Asn) (e : Ending) (w' : World) : Prop := ∃ (v : Vl) (p' : Nat), e = .returned (.agg #[.int .i64 v.k, .int .i64 v.n]) ∧ VlB v ∧ p ≤ p' ∧ p' ≤ p + 4 ∧ Mem w0 f w' (rdr R p' :: L)
set_option maxHeartbeats 2000000 in
theorem sVal (R : Rd) (p : Nat) (hp : p ≤ 900000000) {w0 w : World} {f : List Nat} {L L' : List Asn} (M : Mem w0 f w L) (hd : Del (rdr R p) L L') :
    Calls Try.prog 30 #[.pointer (some ⟨R.g, 0, none⟩)] w (ValPost R p w0 f L') := by
  replace M := M.pull hd
  clear hd
  have HP := Lib.hid (fun (m : Int) (hm : 1 ≤ m) (q : Nat) (hq : q ≤ 1000000000) W (L L' : List Asn) (M : Mem w0 f W L) (hd : Del (rdr R q) L L') => pick_of m hm R q hq M hd)
  have HF : Hid (∀ W k n (q : Nat), VlB ⟨k, n⟩ → p ≤ q → q ≤ p + 4 → Mem w0 f W (rdr R q :: L') → ValPost R p w0 f L' (.returned (.agg #[.int .i64 k, .int .i64 n])) W) := fun W k n q h1 h2 h3 M => ⟨⟨k, n⟩, q, rfl, h1, h2, h3, M⟩
  (try clear F); have F := M.facts; simp only [And.intro FX FXd] at F
  go_enter Try.func30, Try.ntmps30
  go_wp2_with (first
    | ((with_reducible refine goal_alloc (G := fun W => wpList _ _ _ _ _ W) M ?_); clear M; intro w1 M; (try clear F); have F := M.facts; simp only [And.intro FX FXd] at F) | ((with_reducible apply ev_store (M := M)); rfl; rfl; ((conv => lhs; whnf); rfl); rfl; (first | exact siI | exact siR | exact siV | exact siB | exact siSI | exact siSV | exact siW | exact siSR | exact siSO | exact siO); (exact one_all rfl); (repeat (first | with_reducible exact Del.here | with_reducible apply Del.there)); (exact Nat.le_of_ble_eq_true rfl); clear M; intro w1 M; simp only [SX] at M; (try clear F); have F := M.facts; simp only [And.intro FX FXd] at F) | ((with_reducible refine goal_drewN (G := fun W => wpList _ _ _ _ _ W) M ?_); clear M; intro w1 M; (try clear F); have F := M.facts; simp only [And.intro FX FXd] at F) | ((with_reducible refine goal_drew (G := fun W => wpList _ _ _ _ _ W) M ?_); clear M; intro w1 M; (try clear F); have F := M.facts; simp only [And.intro FX FXd] at F) | ((with_reducible refine isSet (G := fun W => wpList _ _ _ _ _ W) ?_); ((with_reducible apply goal_name (G := fun W => wpList _ _ _ _ _ W)); (repeat (first | with_reducible exact M | with_reducible apply Mem.drew | with_reducible apply Mem.drewN | with_reducible apply Mem.allocD | with_reducible apply Mem.setV | with_reducible apply Mem.setD | with_reducible exact Del.here | with_reducible apply Del.there | with_reducible assumption)); clear M; intro w1 M; (try simp only [LX] at M); (try clear F); have F := M.facts; simp only [And.intro FX FXd] at F))
    | (go_at_call_of 29 (Value.int .i64 9); refine (HP.out _ (by decide) _ ?_ _ _ _ M (by repeat (first | with_reducible exact Del.here | with_reducible apply Del.there))).mono ?_; omega; clear M; rintro e w2 ⟨i, rfl, h0, h1, M⟩; obtain ⟨z, hz, z0, z1⟩ := listAt (l := [.int .i64 0, .int .i64 1, .int .i64 2, .int .i64 3, .int .i64 (-1), .int .i64 7, .int .i64 50, .int .i64 99, .int .i64 (-99)]) (lo := -99) (hi := 99) (by decide) h0 h1; have hc := ((M.cells (.there .here)) i.toNat).trans hz; replace M := (M.pull (.there .here)).drop; clear hz; (try clear F); have F := M.facts; simp only [And.intro FX FXd] at F)
    | (go_at_call_of 29 (Value.int .i64 3); refine (HP.out _ (by decide) _ ?_ _ _ _ M (by repeat (first | with_reducible exact Del.here | with_reducible apply Del.there))).mono ?_; omega; clear M; rintro e w2 ⟨i, rfl, h0, h1, M⟩; obtain ⟨z, hz, z0, z1⟩ := listAt (l := [.int .i64 (-100), .int .i64 100, .int .i64 10]) (lo := -100) (hi := 100) (by decide) h0 h1; have hc := ((M.cells (.there .here)) i.toNat).trans hz; replace M := (M.pull (.there .here)).drop; clear hz; (try clear F); have F := M.facts; simp only [And.intro FX FXd] at F)
    | (go_at_call 29; refine (HP.out _ (by decide) _ ?_ _ _ _ M (by repeat (first | with_reducible exact Del.here | with_reducible apply Del.there))).mono ?_; omega; clear M; rintro e w2 ⟨i, rfl, h0, h1, M⟩; (try clear F); have F := M.facts; simp only [And.intro FX FXd] at F))
  all_goals ((apply goal_name (G := fun W => bodyPost _ _ _ _ _ W)); (repeat (first | with_reducible exact M | with_reducible apply Mem.drew | with_reducible apply Mem.drewN | with_reducible apply Mem.allocD | with_reducible apply Mem.setV | with_reducible apply Mem.setD | with_reducible exact Del.here | with_reducible apply Del.there | with_reducible assumption)); clear M; intro w1 M; (try simp only [LX] at M); (try clear F); have F := M.facts; simp only [And.intro FX FXd] at F)
  all_goals (apply ret_cell (M := M); rfl; rfl; (repeat (first | with_reducible exact Del.here | with_reducible apply Del.there)); (first | exact agR | exact agV | exact agW | exact agO); (first | exact siI | exact siR | exact siV | exact siB | exact siSI | exact siSV | exact siW | exact siSR | exact siSO | exact siO); rfl)
  all_goals (refine HF.out _ _ _ _ ?_ ?_ ?_ (M.sel (by repeat (first | with_reducible exact Sel.refl | with_reducible exact Sel.nil | (with_reducible refine Sel.cons (by repeat (first | with_reducible exact Del.here | with_reducible apply Del.there)) ?_) | with_reducible apply Sel.drop))))
  all_goals (first | omega | (refine ⟨?_, ?_, ?_, ?_⟩ <;> simp only [] <;> omega))
end Go.Proofs.Ytemglijebbodkaa
