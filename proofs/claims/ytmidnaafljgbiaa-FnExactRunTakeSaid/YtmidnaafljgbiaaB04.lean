/- Parts of the proof, in one text. -/
import Derived.Deep.RegionWith
import Derived.Test.YtmidnaafljgbiaaProg
import Derived.Deep.Cut
import Derived.Test.YtmidnaafljgbiaaB03
import Derived.Test.YtmidnaafljgbiaaB01
/- A value is drawn. -/
namespace Go.Proofs.Ytmidnaafljgbiaa
open Go.RowKit
set_option maxRecDepth 100000

theorem listAt {l : List Value} {lo hi : Int} (h : l.all (fun v => match v with | .int .i64 z => decide (lo ≤ z) && decide (z ≤ hi) | _ => false) = true) {i : Int} (h0 : 0 ≤ i) (h1 : i < l.length) : ∃ z : Int, l[i.toNat]? = some (.int .i64 z) ∧ lo ≤ z ∧ z ≤ hi := by
  have hlt : i.toNat < l.length := by omega
  have hm := List.all_eq_true.1 h _ (List.getElem_mem hlt)
  rw [List.getElem?_eq_getElem hlt]
  generalize l[i.toNat] = v at hm
  split at hm
  · simp at hm
    exact ⟨_, rfl, hm.1, hm.2⟩
  · cases hm
def VlB (v : Vl) : Prop := 0 ≤ v.k ∧ v.k ≤ 5 ∧ -100 ≤ v.n ∧ v.n ≤ 100
def ValPost (R : Rd) (p : Nat) (w0 : World) (f : List Nat) (L : List Asn) (e : Ending) (w' : World) : Prop := ∃ (v : Vl) (p' : Nat), e = .returned (.agg #[.int .i64 v.k, .int .i64 v.n]) ∧ VlB v ∧ p ≤ p' ∧ p' ≤ p + 4 ∧ Mem w0 f w' (rdr R p' :: L)
set_option maxHeartbeats 2000000 in
theorem sVal (R : Rd) (p : Nat) (hp : p ≤ 900000000) {w0 w : World} {f : List Nat} {L L' : List Asn} (M : Mem w0 f w L) (hd : Del (rdr R p) L L') :
    Calls Try.prog 86 #[.pointer (some ⟨R.g, 0, none⟩)] w (ValPost R p w0 f L') := by
  replace M := M.pull hd
  clear hd
  have HP := Lib.hid (fun (m : Int) (hm : 1 ≤ m) (q : Nat) (hq : q ≤ 1000000000) W (L L' : List Asn) (M : Mem w0 f W L) (hd : Del (rdr R q) L L') => pick_of m hm R q hq M hd)
  have HF : Hid (∀ W k n (q : Nat), VlB ⟨k, n⟩ → p ≤ q → q ≤ p + 4 → Mem w0 f W (rdr R q :: L') → ValPost R p w0 f L' (.returned (.agg #[.int .i64 k, .int .i64 n])) W) := fun W k n q h1 h2 h3 M => ⟨⟨k, n⟩, q, rfl, h1, h2, h3, M⟩
  (try clear F); have F := fxd M
  go_enter Try.func86, Try.ntmps86
  go_wp2_with (first
    | (with_reducible refine alAd M ?_; clear M; (try clear F); intro w1 M F) | ((with_reducible apply ev_store (M := M)); rfl; rfl; ((conv => lhs; whnf) <;> rfl); rfl; (first | exact siI | exact siR | exact siV | exact siB | exact siSI | exact siSV | exact siW | exact siSR | exact siSO | exact siO); (exact one_all rfl); (exact dl); (exact Nat.le_of_ble_eq_true rfl); clear M; intro w1 M; simp only [SX] at M; (try clear F); have F := fxd M) | ((with_reducible refine goal_drewN (G := fun W => wpList _ _ _ _ _ W) M ?_); clear M; intro w1 M; (try clear F); have F := fxd M) | ((with_reducible refine goal_drew (G := fun W => wpList _ _ _ _ _ W) M ?_); clear M; intro w1 M; (try clear F); have F := fxd M) | ((with_reducible refine isSet (G := fun W => wpList _ _ _ _ _ W) ?_); (with_reducible refine nmd (G := fun W => wpList _ _ _ _ _ W) ?_; clear M; (try clear F); intro w1 M F))
    | (go_at_call_of 74 (Value.int .i64 9); refine (HP.out _ (by decide) _ ?_ _ _ _ M dl).mono ?_; omega; clear M; rintro e w2 ⟨i, rfl, h0, h1, M⟩; obtain ⟨z, hz, z0, z1⟩ := listAt (l := [.int .i64 0, .int .i64 1, .int .i64 2, .int .i64 3, .int .i64 (-1), .int .i64 7, .int .i64 50, .int .i64 99, .int .i64 (-99)]) (lo := -99) (hi := 99) (by decide) h0 h1; have hc := ((M.cells (.there .here)) i.toNat).trans hz; replace M := (M.pull (.there .here)).drop; clear hz; (try clear F); have F := fxd M)
    | (go_at_call_of 74 (Value.int .i64 3); refine (HP.out _ (by decide) _ ?_ _ _ _ M dl).mono ?_; omega; clear M; rintro e w2 ⟨i, rfl, h0, h1, M⟩; obtain ⟨z, hz, z0, z1⟩ := listAt (l := [.int .i64 (-100), .int .i64 100, .int .i64 10]) (lo := -100) (hi := 100) (by decide) h0 h1; have hc := ((M.cells (.there .here)) i.toNat).trans hz; replace M := (M.pull (.there .here)).drop; clear hz; (try clear F); have F := fxd M)
    | (go_at_call 74; refine (HP.out _ (by decide) _ ?_ _ _ _ M dl).mono ?_; omega; clear M; rintro e w2 ⟨i, rfl, h0, h1, M⟩; (try clear F); have F := fxd M))
  all_goals ((refine nmd (G := fun W => bodyPost _ _ _ _ _ W) ?_; clear M; (try clear F); intro w1 M F))
  all_goals (apply ret_cell (M := M); rfl; rfl; (exact dl); (first | exact agR | exact agV | exact agW | exact agO); (first | exact siI | exact siR | exact siV | exact siB | exact siSI | exact siSV | exact siW | exact siSR | exact siSO | exact siO); rfl)
  all_goals (refine HF.out _ _ _ _ ?_ ?_ ?_ (M.sel sl))
  all_goals (first | omega | (refine ⟨?_, ?_, ?_, ?_⟩ <;> simp only [] <;> omega))
end Go.Proofs.Ytmidnaafljgbiaa
/- Small functions of values and numbers: each call returns what its plain word says. -/
namespace Go.Proofs.Ytmidnaafljgbiaa
open Go.RowKit
set_option maxRecDepth 100000

theorem ret_bool {a b : Bool} (h : a = b) : Ending.returned (.bool a) = .returned (.bool b) := by rw [h]
theorem ret_int {a b : Int} (h : a = b) : Ending.returned (.int .i64 a) = .returned (.int .i64 b) := by rw [h]
theorem below_box (w : World) (o : Obj) : Below w.heap.size w (w.alloc o) := below_new (Below.refl _ _) _
theorem inB_lo {n lo hi : Int} (h : lo ≤ n) : inB n lo hi = decide (n ≤ hi) := by simp [inB, h]
theorem inB_out {n lo hi : Int} (h : ¬ lo ≤ n) : inB n lo hi = false := by simp only [inB, decide_eq_false h, Bool.false_and]

theorem sIn (n lo hi : Int) (w : World) : Calls Try.prog 80 #[.int .i64 n, .int .i64 lo, .int .i64 hi] w fun e w' => e = .returned (.bool (inB n lo hi)) ∧ w = w' := by
  by_cases h : lo ≤ n
  · have e := inB_lo (hi := hi) h
    rw [e]
    clear e
    go_enter Try.func80, Try.ntmps80
    go_wp2
    go_ret
    exact ⟨rfl, rfl⟩
  · have e := inB_out (hi := hi) h
    rw [e]
    clear e
    go_enter Try.func80, Try.ntmps80
    go_wp2
    go_ret
    exact ⟨rfl, rfl⟩
theorem iIn (n lo hi : Int) (w : World) : Calls Try.prog 75 #[.int .i64 n, .int .i64 lo, .int .i64 hi] w fun e w' => e = .returned (.bool (inB n lo hi)) ∧ w = w' := by
  by_cases h : lo ≤ n
  · have e := inB_lo (hi := hi) h
    rw [e]
    clear e
    go_enter Try.func75, Try.ntmps75
    go_wp2
    go_ret
    exact ⟨rfl, rfl⟩
  · have e := inB_out (hi := hi) h
    rw [e]
    clear e
    go_enter Try.func75, Try.ntmps75
    go_wp2
    go_ret
    exact ⟨rfl, rfl⟩

theorem valOk_else {k n : Int} (h0 : ¬ k = 0) (h1 : ¬ k = 1) (h2 : ¬ k = 2) (h3 : ¬ k = 3) : valOk ⟨k, n⟩ = false := by simp [valOk, h0, h1, h2, h3]
theorem sValOk (v : Vl) (w : World) : Calls Try.prog 42 #[.agg #[.int .i64 v.k, .int .i64 v.n]] w fun e w' => e = .returned (.bool (valOk v)) ∧ Below w.heap.size w w' := by
  obtain ⟨k, n⟩ := v
  by_cases h0 : k = 0
  · subst h0
    go_enter Try.func42, Try.ntmps42
    go_wp2
    go_ret
    exact ⟨rfl, below_box _ _⟩
  by_cases h1 : k = 1
  · subst h1
    go_enter Try.func42, Try.ntmps42
    go_wp2_with (go_at_call 80; refine (sIn _ _ _ _).mono ?_; rintro e w' ⟨rfl, rfl⟩)
    go_ret
    exact ⟨rfl, below_box _ _⟩
  by_cases h2 : k = 2
  · subst h2
    go_enter Try.func42, Try.ntmps42
    go_wp2_with (go_at_call 80; refine (sIn _ _ _ _).mono ?_; rintro e w' ⟨rfl, rfl⟩)
    go_ret
    exact ⟨rfl, below_box _ _⟩
  by_cases h3 : k = 3
  · subst h3
    go_enter Try.func42, Try.ntmps42
    go_wp2_with (go_at_call 80; refine (sIn _ _ _ _).mono ?_; rintro e w' ⟨rfl, rfl⟩)
    go_ret
    exact ⟨rfl, below_box _ _⟩
  rw [valOk_else h0 h1 h2 h3]
  go_enter Try.func42, Try.ntmps42
  go_wp2
  go_ret
  exact ⟨rfl, below_box _ _⟩
theorem sTo (n : Int) (w : World) : Calls Try.prog 81 #[.int .i64 n] w fun e w' => e = .returned (.bool (inB n 0 15)) ∧ w = w' := by
  go_enter Try.func81, Try.ntmps81
  go_wp2_with (go_at_call 80; refine (sIn _ _ _ _).mono ?_; rintro e w' ⟨rfl, rfl⟩)
  go_ret
  exact ⟨rfl, rfl⟩
theorem sBit (s b : Int) (h : (s = 0 ∧ b = 1) ∨ (s = 1 ∧ b = 2) ∨ (s = 2 ∧ b = 4) ∨ (s = 3 ∧ b = 8)) (w : World) : Calls Try.prog 107 #[.int .i64 s] w fun e w' => e = .returned (.int .i64 b) ∧ Below w.heap.size w w' := by
  rcases h with ⟨rfl, rfl⟩ | ⟨rfl, rfl⟩ | ⟨rfl, rfl⟩ | ⟨rfl, rfl⟩
  all_goals
    go_enter Try.func107, Try.ntmps107
    go_wp2
    go_ret
    exact ⟨rfl, below_box _ _⟩
theorem bitI_pairs {s : Int} (h : inB s 0 3 = true) : (s = 0 ∧ bitI s = 1) ∨ (s = 1 ∧ bitI s = 2) ∨ (s = 2 ∧ bitI s = 4) ∨ (s = 3 ∧ bitI s = 8) := by
  have b := inB_iff.1 h
  obtain rfl | rfl | rfl | rfl : s = 0 ∨ s = 1 ∨ s = 2 ∨ s = 3 := by omega
  all_goals simp [bitI]
theorem sHas (f s : Int) (hf : 0 ≤ f) (hf' : f ≤ 15) (hs : inB s 0 3 = true) (w : World) : Calls Try.prog 82 #[.int .i64 f, .int .i64 s] w fun e w' => e = .returned (.bool (hasBit f s)) ∧ Below w.heap.size w w' := by
  have hb := bitI_pairs hs
  have hB := fun W => sBit s (bitI s) hb W
  unfold hasBit
  generalize bitI s = b at hb hB
  clear hs
  have HB := Lib.hid hB
  clear hB
  rcases hb with ⟨rfl, rfl⟩ | ⟨rfl, rfl⟩ | ⟨rfl, rfl⟩ | ⟨rfl, rfl⟩
  all_goals
    go_enter Try.func82, Try.ntmps82
    go_wp2_with (go_at_call 107; refine (HB.out _).mono ?_; rintro e w' ⟨rfl, hb⟩)
    go_ret
    exact ⟨ret_bool (by first | rfl | simp), hb⟩
end Go.Proofs.Ytmidnaafljgbiaa
/- A value that is ok is drawn. -/
namespace Go.Proofs.Ytmidnaafljgbiaa
open Go.RowKit
set_option maxRecDepth 100000

def GoodPost (R : Rd) (p : Nat) (w0 : World) (f : List Nat) (L : List Asn) (e : Ending) (w' : World) : Prop := ∃ (v : Vl) (p' : Nat), e = .returned (.agg #[.int .i64 v.k, .int .i64 v.n]) ∧ valOk v = true ∧ p ≤ p' ∧ p' ≤ p + 4 ∧ Mem w0 f w' (rdr R p' :: L)
set_option maxHeartbeats 2000000 in
theorem sGood (R : Rd) (p : Nat) (hp : p ≤ 900000000) {w0 w : World} {f : List Nat} {L L' : List Asn} (M : Mem w0 f w L) (hd : Del (rdr R p) L L') :
    Calls Try.prog 103 #[.pointer (some ⟨R.g, 0, none⟩)] w (GoodPost R p w0 f L') := by
  replace M := M.pull hd
  clear hd
  have HV : Hid (∀ {U : World} {L1 L2 : List Asn}, Mem w0 f U L1 → Del (rdr R p) L1 L2 → Calls Try.prog 86 #[.pointer (some ⟨R.g, 0, none⟩)] U (ValPost R p w0 f L2)) := fun {U L1 L2} M hd => sVal R p hp M hd
  have HO : Hid (∀ (v : Vl) (V : World), Calls Try.prog 42 #[.agg #[.int .i64 v.k, .int .i64 v.n]] V (fun e w' => e = .returned (.bool (valOk v)) ∧ Below V.heap.size V w')) := fun v V => sValOk v V
  go_enter Try.func103, Try.ntmps103
  go_upto_region 2 with (first | (with_reducible refine alAd M ?_; clear M; (try clear F); intro w1 M F) | ((with_reducible apply ev_store (M := M)); rfl; rfl; ((conv => lhs; whnf) <;> rfl); rfl; (first | exact siI | exact siR | exact siV | exact siB | exact siSI | exact siSV | exact siW | exact siSR | exact siSO | exact siO); (exact one_all rfl); (exact dl); (exact Nat.le_of_ble_eq_true rfl); clear M; intro w1 M; simp only [SX] at M; (try clear F); have F := fxd M) | (go_at_call 86; (refine nmKd ?_; clear M; (try clear F); intro w1 M F); refine (HV.out M dl).mono ?_; clear M; rintro e w2 ⟨v, q, rfl, hvb, hq1, hq2, M⟩; (try clear F); have F := fxd M))
  obtain ⟨vk, vn⟩ := v
  simp only at *
  have HO := Lib.hid (HO.out ⟨vk, vn⟩)
  cases hv : valOk ⟨vk, vn⟩ with
  | true =>
    rw [hv] at HO
    go_wp2_with (first | ((with_reducible apply ev_store (M := M)); rfl; rfl; ((conv => lhs; whnf) <;> rfl); rfl; (first | exact siI | exact siR | exact siV | exact siB | exact siSI | exact siSV | exact siW | exact siSR | exact siSO | exact siO); (exact one_all rfl); (exact dl); (exact Nat.le_of_ble_eq_true rfl); clear M; intro w1 M; simp only [SX] at M; (try clear F); have F := fxd M) | (go_at_call 42; (refine nmKd ?_; clear M; (try clear F); intro w1 M F); refine (HO.out _).mono ?_; rintro e w2 ⟨rfl, hb⟩; replace M := M.below hb; clear hb; (try clear F); have F := fxd M))
    apply ret_cell (M := M); rfl; rfl; (exact dl); (first | exact agR | exact agV | exact agW | exact agO); (first | exact siI | exact siR | exact siV | exact siB | exact siSI | exact siSV | exact siW | exact siSR | exact siSO | exact siO); rfl
    exact ⟨⟨vk, vn⟩, q, rfl, hv, hq1, hq2, M.sel (.drop (.drop (.cons .here .refl)))⟩
  | false =>
    rw [hv] at HO
    go_wp2_with (first | ((with_reducible apply ev_store (M := M)); rfl; rfl; ((conv => lhs; whnf) <;> rfl); rfl; (first | exact siI | exact siR | exact siV | exact siB | exact siSI | exact siSV | exact siW | exact siSR | exact siSO | exact siO); (exact one_all rfl); (exact dl); (exact Nat.le_of_ble_eq_true rfl); clear M; intro w1 M; simp only [SX] at M; (try clear F); have F := fxd M) | (go_at_call 42; (refine nmKd ?_; clear M; (try clear F); intro w1 M F); refine (HO.out _).mono ?_; rintro e w2 ⟨rfl, hb⟩; replace M := M.below hb; clear hb; (try clear F); have F := fxd M))
    apply ret_cell (M := M); rfl; rfl; (exact dl); (first | exact agR | exact agV | exact agW | exact agO); (first | exact siI | exact siR | exact siV | exact siB | exact siSI | exact siSV | exact siW | exact siSR | exact siSO | exact siO); rfl
    exact ⟨⟨1, 1⟩, q, rfl, by decide, hq1, hq2, M.sel (.drop (.drop (.cons .here .refl)))⟩
end Go.Proofs.Ytmidnaafljgbiaa
/- Worlds that are held. -/
namespace Go.Proofs.Ytmidnaafljgbiaa
open Go.RowKit

/-! ### Worlds -/
abbrev tO : Nat := 85
abbrev tW : Nat := 45
def encO (o : Opx) : List Value := [.int .i64 o.k, .int .i64 o.r, .int .i64 o.s, .int .i64 o.to, .int .i64 o.v.k, .int .i64 o.v.n]
theorem encO_length (o : Opx) : (encO o).length = 6 := rfl
theorem oneO (o : Opx) : ∀ u ∈ encO o, u.oneCell' = true := by
  intro u hu
  simp only [encO, List.mem_cons, List.not_mem_nil, or_false] at hu
  rcases hu with rfl | rfl | rfl | rfl | rfl | rfl <;> rfl
structure Wm where
  code : List Opx
  cA : Option Addr
  cC : Nat
  ps : List (Rn × RA)
  rA : Option Addr
  rC : Nat
  queue : List Int
  qA : Option Addr
  qC : Nat
  now : Int
  sent : Int
  taken : Int
  lost : Int
def Wm.wd (W : Wm) : Wd := ⟨W.code, W.ps.map (·.1), W.queue, W.now, W.sent, W.taken, W.lost⟩
abbrev wArr (W : Wm) : Array Value := #[.slice W.cA W.code.length W.cC, .slice W.rA W.ps.length W.rC, .slice W.qA W.queue.length W.qC, .int .i64 W.now, .int .i64 W.sent, .int .i64 W.taken, .int .i64 W.lost]
def rowO (A : Option Addr) (c : Nat) (xs : List Opx) : Asn := row encO 6 tO A c xs
def rowR (A : Option Addr) (c : Nat) (xs : List (Rn × RA)) : Asn := row encR 13 tR A c xs
def wldL (W : Wm) : List Asn := [rowO W.cA W.cC W.code, rowR W.rA W.rC W.ps, rowI W.qA W.qC W.queue, rws W.ps]
def wld (W : Wm) : Asn := pack (wldL W)
theorem FXw : (∀ A c xs w, (rowO A c xs).F w = True) ∧ (∀ A c xs w, (rowR A c xs).F w = True) ∧ (∀ ps w, (rws ps).F w = True) ∧ (∀ W w, (wld W).F w = True) := ⟨fun _ _ _ _ => rfl, fun _ _ _ _ => rfl, fun _ _ => rfl, fun _ _ => rfl⟩
section
variable {w0 w : World} {f : List Nat} {L L' : List Asn} {Fc : World → Prop}
theorem fxw (M : Mem w0 f w L) (hF : ∀ w, facts w L = Fc w := by (intro w; (conv => lhs; simp only [FX, FXw]) <;> rfl)) : Fc w := by rw [← hF]; exact M.facts
theorem nmw {G : World → Prop} (h : ∀ w1, Mem w0 f w1 L' → Fc w1 → G w1) (M : Mem w0 f w L := by with_reducible repeat (first | exact M | apply Mem.drew | apply Mem.drewN | apply Mem.allocD | apply Mem.setV | apply Mem.setD | exact Del.here | apply Del.there | assumption)) (e : L = L' := by ((try simp only [LX]) <;> rfl)) (hF : ∀ w, facts w L' = Fc w := by (intro w; (conv => lhs; simp only [FX, FXw]) <;> rfl)) : G w := by subst e; exact h w M (fxw M hF)
theorem nmKw {P : Program} {n : Nat} {ag : Array Value} {Q : Ending → World → Prop} (h : ∀ w1, Mem w0 f w1 L' → Fc w1 → Calls P n ag w1 Q) (M : Mem w0 f w L := by with_reducible repeat (first | exact M | apply Mem.drew | apply Mem.drewN | apply Mem.allocD | apply Mem.setV | apply Mem.setD | exact Del.here | apply Del.there | assumption)) (e : L = L' := by ((try simp only [LX]) <;> rfl)) (hF : ∀ w, facts w L' = Fc w := by (intro w; (conv => lhs; simp only [FX, FXw]) <;> rfl)) : Calls P n ag w Q := nmw (G := fun W => Calls P n ag W Q) h M e hF
theorem alAw {P : Program} {ops : Array Oper} {Q : Exit → Act → World → Prop} {r : List Oper} {a : Act} {t : TypeId} {cs : List Value} (M : Mem w0 f w L) (h : ∀ w1, Mem w0 f w1 (blk w.heap.size t cs :: L) → Fc w1 → wpList P ops Q r a w1) (hF : ∀ w1, facts w1 (blk w.heap.size t cs :: L) = Fc w1 := by (intro w; (conv => lhs; simp only [FX, FXw]) <;> rfl)) : wpList P ops Q r a (w.alloc (.cells cs.toArray t (0, 0))) := h _ (M.alloc t cs) (fxw (M.alloc t cs) hF)
end
end Go.Proofs.Ytmidnaafljgbiaa
