/- Parts of the proof, in one text. -/
import Derived.Test.YtomolbhcggaakaaGreatH30
import Derived.Test.YtomolbhcggaakaaGreatH15
/- When a step is ok, by the program's text. Whether one is not ok, or goes nowhere. -/
namespace Go.Proofs.YtomolbhcggaakaaGreat
open Go.RowKit
set_option maxRecDepth 100000

set_option maxHeartbeats 2000000 in
theorem iOpOk_no (o : Opx) (h : inB o.k 1 14 = false) (w : World) : Calls Tryz.prog 131 #[.agg (opArr o)] w fun e w' => e = .returned (.bool (opOk o)) ∧ Below w.heap.size w w' := by
  have hno : opOk o = false := by unfold opOk; rw [h]; simp
  rw [hno]
  clear hno
  have hn : howArr o.k = #[.string ⟨#[]⟩, .string ⟨#[]⟩, .string ⟨#[]⟩, .bool false] := how_none h
  have hf : hasB o.k 86 = false := by
    have e1 : hasOf o.k = ⟨#[]⟩ := by
      have := congrArg (fun a : Array Value => a[1]?) hn
      simpa using this
    unfold hasB
    rw [e1]
    decide
  have M := Mem.nil w
  have HA := Lib.hid (fun V => iHas o 86 V)
  rw [hf] at HA
  have HH := Lib.hid (fun V (L : List Asn) (M : Mem w [] V L) => iHow o M)
  rw [hn] at HH
  have f0 := fieldM0 ⟨#[]⟩ ⟨#[]⟩ ⟨#[]⟩ false
  clear hn hf h
  obtain ⟨k, r, s, to, ⟨vk, vn⟩⟩ := o
  simp only [opArr] at *
  have hz : (vk = 0 ∧ vn = 0) ∨ (vk = 0 ∧ (vn == 0) = false) ∨ (vk == 0) = false := by
    by_cases h1 : vk = 0
    · by_cases h2 : vn = 0
      · exact .inl ⟨h1, h2⟩
      · exact .inr (.inl ⟨h1, by simpa using h2⟩)
    · exact .inr (.inr (by simpa using h1))
  rcases hz with ⟨rfl, rfl⟩ | ⟨rfl, hz⟩ | hz
  all_goals
    go_enter Tryz.func131, Tryz.ntmps131
    go_wp2_with (first
      | (with_reducible refine alA M ?_; clear M; (try clear F); intro w1 M F)
      | (go_at_call 132; (refine nmK ?_; clear M; (try clear F); intro w1 M F); with_reducible refine (HA.out _).mono ?_; rintro e w2 ⟨rfl, hb⟩; replace M := M.below hb; clear hb; (try clear F); have F := fx M)
      | (go_at_call 135; (refine nmK ?_; clear M; (try clear F); intro w1 M F); with_reducible refine (HH.out _ _ M).mono ?_; clear M; rintro e w2 ⟨rfl, M⟩; (try clear F); have F := fx M))
    go_ret
    exact ⟨rfl, M.toBelow⟩
theorem iOpOk (o : Opx) (w : World) : Calls Tryz.prog 131 #[.agg (opArr o)] w fun e w' => e = .returned (.bool (opOk o)) ∧ Below w.heap.size w w' := by
  cases h : inB o.k 1 14 with
  | false => exact iOpOk_no o h w
  | true =>
    cases hb : hasB o.k 86 with
    | true => exact iOpOk_t o h hb w
    | false => exact iOpOk_f o h hb w
end Go.Proofs.YtomolbhcggaakaaGreat
/- Code is looked through for a step that is not ok, or goes nowhere. -/
namespace Go.Proofs.YtomolbhcggaakaaGreat
open Go.RowKit
set_option maxRecDepth 100000

def wrongOp (n : Nat) (o : Opx) : Bool := !opOk o || (formAt o.k 2 && decide ((n : Int) ≤ o.to))
theorem goes_form {o : Opx} (h : opOk o = true) : formAt o.k 2 = goesTo o.k := by
  have hk := (opOk_parts h).1
  have hc : o.k = 1 ∨ o.k = 2 ∨ o.k = 3 ∨ o.k = 4 ∨ o.k = 5 ∨ o.k = 6 ∨ o.k = 7 ∨ o.k = 8 ∨ o.k = 9 ∨ o.k = 10 ∨ o.k = 11 ∨ o.k = 12 ∨ o.k = 13 ∨ o.k = 14 := by omega
  generalize o.k = k at hc
  rcases hc with rfl | rfl | rfl | rfl | rfl | rfl | rfl | rfl | rfl | rfl | rfl | rfl | rfl | rfl <;> decide
theorem wrong_step (n : Nat) (o : Opx) : wrongOp n o = !stepOk n o := by
  unfold wrongOp stepOk
  cases h : opOk o with
  | false => rfl
  | true => rw [goes_form h]; simp
set_option maxHeartbeats 2000000 in
theorem iWrong (o : Opx) (g n c : Nat) (A : Option Addr) (w : World) (hc : w.cell? ⟨g, 0, none⟩ = some (.slice A n c)) (hg : g < w.heap.size) :
    Calls Tryz.prog 130 #[.agg (opArr o), .pointer (some ⟨g, 0, none⟩)] w fun e w' => e = .returned (.bool (wrongOp n o)) ∧ Below w.heap.size w w' := by
  have M := Mem.nil w
  have HC := Lib.hid (fun V (hv : Below w.heap.size w V) => (hv.cell (p := ⟨g, 0, none⟩) hg).trans hc)
  have HO := Lib.hid (fun V => iOpOk o V)
  have HA := Lib.hid (fun V => iHas o 84 V)
  rw [(hasB_form o.k).2.2.1] at HA
  unfold wrongOp
  generalize opOk o = x at HO ⊢
  generalize formAt o.k 2 = y at HA ⊢
  clear hc hg
  obtain ⟨k, r, s, to, ⟨vk, vn⟩⟩ := o
  simp only [opArr] at *
  have hd : decide ((n : Int) ≤ to) = true ∨ decide ((n : Int) ≤ to) = false := by cases decide ((n : Int) ≤ to) <;> simp
  cases x <;> cases y <;> rcases hd with hd | hd
  all_goals
    go_enter Tryz.func130, Tryz.ntmps130
    go_wp2_with (first
      | ((with_reducible refine alAw M ?_; clear M; (try clear F); intro w1 M F); have E1 := HC.out _ M.toBelow)
      | (go_at_call 131; (refine nmKw ?_; clear M; (try clear F); intro w1 M F); with_reducible refine (HO.out _).mono ?_; rintro e w2 ⟨rfl, hb⟩; replace M := M.below hb; clear hb; (try clear F); have F := fxw M; have E1 := HC.out _ M.toBelow)
      | (go_at_call 132; (refine nmKw ?_; clear M; (try clear F); intro w1 M F); with_reducible refine (HA.out _).mono ?_; rintro e w2 ⟨rfl, hb⟩; replace M := M.below hb; clear hb; (try clear F); have F := fxw M; have E1 := HC.out _ M.toBelow))
    go_ret
    exact ⟨ret_bool (by simp [hd]), M.toBelow⟩

/-- A predicate on steps, as a function value. -/
def PredO (g : Nat) (lb : Array Value) (p : Opx → Bool) (w : World) : Prop :=
  ∀ (W : World) (x : Opx), Below w.heap.size w W → Calls Tryz.prog g (#[.agg (opArr x)] ++ lb) W fun e w' => e = .returned (.bool (p x)) ∧ Below w.heap.size w w'
set_option maxHeartbeats 1000000 in
theorem iIndexFuncO (p : Opx → Bool) (g : Nat) (lb : Array Value) (eg : ∀ args w, (callFunc g args).run Tryz.prog w = .ok (.enter g args) w) (l : List Opx) (ga c : Nat) (w : World) (hl : l.length ≤ 140737488355328)
    (h : ∀ k (hk : k < l.length), ga < w.heap.size ∧ OpAt w ga (k * 6) l[k]) (hp : PredO g lb p w) :
    Calls Tryz.prog 166 #[.slice (some ⟨ga, 0, none⟩) l.length c, .func (.func g) #[] lb] w fun e w' => e = .returned (.int .i64 (idxP p l)) ∧ Below w.heap.size w w' := by
  have AL := add_lit0
  have RE := Lib.hid (fun V (hv : Below w.heap.size w V) k (hk : k < l.length) => (h k hk).2.below hv (h k hk).1)
  clear h
  go_enter Tryz.func166, Tryz.ntmps166
  go_wp2
  go_loopg [5, 8] l.length (fun gg _ s8 wr => ∃ k : Nat, k ≤ l.length ∧ l.length - k ≤ gg ∧ s8 = .int .i64 k ∧ Hid (Below w.heap.size w wr) ∧ Hid (∀ j (hj : j < l.length), j < k → p l[j] = false))
  case atStart => exact ⟨0, Nat.zero_le _, by omega, rfl, Below.refl _ w, fun j _ h => absurd h (by omega)⟩
  case round =>
    obtain ⟨k, hk, hg, rfl, BW, hn⟩ := hrel
    by_cases hlt : k < l.length
    · have hlk : Hid (p l[k] = true → idxP p l = k) := fun h1 => idxP_hit hlt h1 (fun j hj => hn j (by omega) hj)
      have hl2 : Hid (p l[k] = false → ∀ j (hj : j < l.length), j < k + 1 → p l[j] = false) := fun h1 j hj hjk => by
        by_cases e : j = k
        · subst e; exact h1
        · exact hn j hj (by omega)
      have E := RE.out _ BW.out k hlt
      have hcall := hp wr l[k] BW.out
      have k1 : (0 : Int) ≤ k := by omega
      have k2 : (k : Int) < l.length := by omega
      clear hp hn
      generalize l[k] = x at hlk hl2 E hcall
      obtain ⟨xk, xr, xs, xt, ⟨xvk, xvn⟩⟩ := x
      simp only [OpAt, opArr] at E hcall
      cases hq : p ⟨xk, xr, xs, xt, ⟨xvk, xvn⟩⟩ with
      | true =>
        rw [hq] at hcall
        go_wp2_with (go_at_fn g; refine hcall.mono ?_; rintro e w' ⟨rfl, hb'⟩)
        go_ret
        exact ⟨ret_int (hlk.out hq).symm, hb'⟩
      | false =>
        rw [hq] at hcall
        go_wp2_with (go_at_fn g; refine hcall.mono ?_; rintro e w' ⟨rfl, hb'⟩)
        go_roundg (l.length - (k + 1))
        case measure => omega
        case rel => exact ⟨k + 1, by omega, by omega, by go_num, hb', hl2.out hq⟩
    · have : k = l.length := by omega
      subst this
      go_wp2
      go_ret
      exact ⟨ret_int (idxP_miss (fun j hj => hn.out j hj hj)).symm, BW.out⟩
end Go.Proofs.YtomolbhcggaakaaGreat
