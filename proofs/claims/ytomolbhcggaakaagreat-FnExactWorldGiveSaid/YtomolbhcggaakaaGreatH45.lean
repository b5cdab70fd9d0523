/- Parts of the proof, in one text. -/
import Derived.Deep.Cut
import Derived.Test.YtomolbhcggaakaaGreatH37
import Derived.Test.YtomolbhcggaakaaGreatH34
/- Whether a run that waits does so as it must, by the program's text. -/
namespace Go.Proofs.YtomolbhcggaakaaGreat
open Go.RowKit
set_option maxRecDepth 100000

set_option maxHeartbeats 4000000 in
theorem iWaitsOk (W : Wm) (r : Rn) (ra : RA) (h0 : 0 ≤ r.at_) (h1 : r.at_ < W.code.length) (hv : r.mail.all valOk = true) (B : Nat) (w : World) (h : RW w B W) (hr : ReadsRun w B r ra) (hB : B ≤ w.heap.size) :
    Calls Tryz.prog 101 #[.agg (wArr W), .agg (runArr r ra)] w fun e w' => e = .returned (.bool (waitsOk W.wd r)) ∧ Below w.heap.size w w' := by
  obtain ⟨k, hk⟩ := Int.eq_ofNat_of_zero_le h0
  have hlt : k < W.code.length := by omega
  obtain ⟨g, hA, hg, co⟩ := h.code k hlt
  have ho : opAt W.wd.code r.at_ = W.code[k] := by rw [hk]; exact opAt_nat hlt
  rw [waitsOk_eq ho, ← first_same' _ hv]
  clear ho
  have RC := Lib.hid (fun V (hv : Below w.heap.size w V) => co.below (hv.mono hB) hg)
  have HF := Lib.hid (fun V (hv : Below w.heap.size w V) => iFirst r ra W.code[k].s B V (hr.below hv hB) (Nat.le_trans hB hv.size))
  have i1 : (0 : Int) ≤ k := by omega
  have i2 : (k : Int) < W.code.length := by omega
  clear h co hr h0 h1 hv
  obtain ⟨code, cA, cC, ps, rA, rC, queue, qA, qC, now, sent, taken, lost⟩ := W
  simp only [Wm.wd] at *
  subst hA
  generalize code[k] = o at RC HF ⊢
  clear hlt
  obtain ⟨kk, rr, s, to, ⟨vk, vn⟩⟩ := o
  obtain ⟨id, at_, slots, full, mail, state, due, links, watched, trap, ⟨wk, wn⟩, turns⟩ := r
  obtain ⟨sA, sC, mA, mC, lA, lC, wA, wC⟩ := ra
  simp only [runArr, OpAt] at *
  subst hk
  generalize idxP (fitsOk · s) mail = ix at HF ⊢
  have M := Mem.nil w
  have AL := add_lit0
  clear hB hg
  have ways : (kk = 7 ∧ due = 0) ∨ (kk = 7 ∧ (due == 0) = false) ∨ ((kk == 7) = false ∧ (kk == 8) = false) ∨ (kk = 8 ∧ decide (now < due) = true) ∨ (kk = 8 ∧ decide (now < due) = false) := by
    by_cases q7 : kk = 7
    · subst q7
      by_cases q : due = 0
      · exact .inl ⟨rfl, q⟩
      · exact .inr (.inl ⟨rfl, by simpa using q⟩)
    · by_cases q8 : kk = 8
      · subst q8
        cases decide (now < due) <;> simp
      · exact .inr (.inr (.inl ⟨by simpa using q7, by simpa using q8⟩))
  have HR : Hid (∀ b V, b = (((kk == 7 && due == 0) || (kk == 8 && decide (now < due))) && decide (ix < 0)) → Below w.heap.size w V → (Ending.returned (.bool b) = .returned (.bool (((kk == 7 && due == 0) || (kk == 8 && decide (now < due))) && decide (ix < 0))) ∧ Below w.heap.size w V)) := fun b V h hb => ⟨by rw [h], hb⟩
  rcases ways with ⟨rfl, rfl⟩ | ⟨rfl, b2⟩ | ⟨b1, b2⟩ | ⟨rfl, b3⟩ | ⟨rfl, b3⟩
  · go_enter Tryz.func101, Tryz.ntmps101
    go_upto_region 2 with (first
      | ((with_reducible refine alA M ?_; clear M; (try clear F); intro w1 M F); have E1 := RC.out _ M.toBelow) | (((with_reducible apply ev_store (M := M)); rfl; rfl; ((conv => lhs; whnf) <;> rfl); rfl; (first | exact siI | exact siR | exact siV | exact siB | exact siSI | exact siSV | exact siW | exact siSR | exact siSO | exact siO); (exact one_all rfl); (exact dl); (exact Nat.le_of_ble_eq_true rfl); clear M; intro w1 M; simp only [SX] at M; (try clear F); have F := fx M); have E1 := RC.out _ M.toBelow))
    go_upto_region 3 with (fail)
    go_wp2_with (go_at_call 142; (refine nmK ?_; clear M; (try clear F); intro w1 M F); refine (HF.out _ M.toBelow).mono ?_; rintro e w2 ⟨rfl, hb⟩; replace M := M.below hb; clear hb; (try clear F); have F := fx M)
    go_ret
    exact HR.out _ _ (by simp) M.toBelow
  · go_enter Tryz.func101, Tryz.ntmps101
    go_upto_region 2 with (first
      | ((with_reducible refine alA M ?_; clear M; (try clear F); intro w1 M F); have E1 := RC.out _ M.toBelow) | (((with_reducible apply ev_store (M := M)); rfl; rfl; ((conv => lhs; whnf) <;> rfl); rfl; (first | exact siI | exact siR | exact siV | exact siB | exact siSI | exact siSV | exact siW | exact siSR | exact siSO | exact siO); (exact one_all rfl); (exact dl); (exact Nat.le_of_ble_eq_true rfl); clear M; intro w1 M; simp only [SX] at M; (try clear F); have F := fx M); have E1 := RC.out _ M.toBelow))
    go_upto_region 3 with (fail)
    go_wp2_with (go_at_call 142; (refine nmK ?_; clear M; (try clear F); intro w1 M F); refine (HF.out _ M.toBelow).mono ?_; rintro e w2 ⟨rfl, hb⟩; replace M := M.below hb; clear hb; (try clear F); have F := fx M)
    go_ret
    exact HR.out _ _ (by simp [b2]) M.toBelow
  · go_enter Tryz.func101, Tryz.ntmps101
    go_upto_region 2 with (first
      | ((with_reducible refine alA M ?_; clear M; (try clear F); intro w1 M F); have E1 := RC.out _ M.toBelow) | (((with_reducible apply ev_store (M := M)); rfl; rfl; ((conv => lhs; whnf) <;> rfl); rfl; (first | exact siI | exact siR | exact siV | exact siB | exact siSI | exact siSV | exact siW | exact siSR | exact siSO | exact siO); (exact one_all rfl); (exact dl); (exact Nat.le_of_ble_eq_true rfl); clear M; intro w1 M; simp only [SX] at M; (try clear F); have F := fx M); have E1 := RC.out _ M.toBelow))
    go_upto_region 3 with (fail)
    go_wp2_with (go_at_call 142; (refine nmK ?_; clear M; (try clear F); intro w1 M F); refine (HF.out _ M.toBelow).mono ?_; rintro e w2 ⟨rfl, hb⟩; replace M := M.below hb; clear hb; (try clear F); have F := fx M)
    go_ret
    exact HR.out _ _ (by simp [b1, b2]) M.toBelow
  · go_enter Tryz.func101, Tryz.ntmps101
    go_upto_region 2 with (first
      | ((with_reducible refine alA M ?_; clear M; (try clear F); intro w1 M F); have E1 := RC.out _ M.toBelow) | (((with_reducible apply ev_store (M := M)); rfl; rfl; ((conv => lhs; whnf) <;> rfl); rfl; (first | exact siI | exact siR | exact siV | exact siB | exact siSI | exact siSV | exact siW | exact siSR | exact siSO | exact siO); (exact one_all rfl); (exact dl); (exact Nat.le_of_ble_eq_true rfl); clear M; intro w1 M; simp only [SX] at M; (try clear F); have F := fx M); have E1 := RC.out _ M.toBelow))
    go_upto_region 3 with (fail)
    go_wp2_with (go_at_call 142; (refine nmK ?_; clear M; (try clear F); intro w1 M F); refine (HF.out _ M.toBelow).mono ?_; rintro e w2 ⟨rfl, hb⟩; replace M := M.below hb; clear hb; (try clear F); have F := fx M)
    go_ret
    exact HR.out _ _ (by simp [of_decide_eq_true b3]) M.toBelow
  · go_enter Tryz.func101, Tryz.ntmps101
    go_upto_region 2 with (first
      | ((with_reducible refine alA M ?_; clear M; (try clear F); intro w1 M F); have E1 := RC.out _ M.toBelow) | (((with_reducible apply ev_store (M := M)); rfl; rfl; ((conv => lhs; whnf) <;> rfl); rfl; (first | exact siI | exact siR | exact siV | exact siB | exact siSI | exact siSV | exact siW | exact siSR | exact siSO | exact siO); (exact one_all rfl); (exact dl); (exact Nat.le_of_ble_eq_true rfl); clear M; intro w1 M; simp only [SX] at M; (try clear F); have F := fx M); have E1 := RC.out _ M.toBelow))
    go_upto_region 3 with (fail)
    go_wp2_with (go_at_call 142; (refine nmK ?_; clear M; (try clear F); intro w1 M F); refine (HF.out _ M.toBelow).mono ?_; rintro e w2 ⟨rfl, hb⟩; replace M := M.below hb; clear hb; (try clear F); have F := fx M)
    go_ret
    exact HR.out _ _ (by simp [of_decide_eq_false b3]) M.toBelow
end Go.Proofs.YtomolbhcggaakaaGreat
/- Whether a predicate holds at one of some ints that lie anywhere, by the program's text. -/
namespace Go.Proofs.YtomolbhcggaakaaGreat
open Go.RowKit
set_option maxRecDepth 100000

set_option maxHeartbeats 1000000 in
theorem iIndexFuncA (p : Int → Bool) (g : Nat) (lb : Array Value) (eg : ∀ args w, (callFunc g args).run Tryz.prog w = .ok (.enter g args) w) (l : List Int) (A : Option Addr) (c : Nat) (w : World) (hl : l.length ≤ 140737488355328)
    (h : ReadsI w w.heap.size A l.length l) (hp : PredI g lb p l w) :
    Calls Tryz.prog 134 #[.slice A l.length c, .func (.func g) #[] lb] w fun e w' => e = .returned (.int .i64 (idxP p l)) ∧ Below w.heap.size w w' := by
  have RE : Hid (∀ V, Below w.heap.size w V → ∀ k (hk : k < l.length), ∃ ad : Addr, A = some ad ∧ V.cell? (ad.add k) = some (.int .i64 l[k])) := fun V hv k hk => by
    obtain ⟨ad, e1, _, e3⟩ := (h.below' hv (Nat.le_refl _)).int hk
    exact ⟨ad, e1, e3⟩
  clear h
  go_enter Tryz.func134, Tryz.ntmps134
  go_wp2
  go_loopg [5, 8] l.length (fun gg _ s8 wr => ∃ k : Nat, k ≤ l.length ∧ l.length - k ≤ gg ∧ s8 = .int .i64 k ∧ Hid (Below w.heap.size w wr) ∧ Hid (∀ j (hj : j < l.length), j < k → p l[j] = false))
  case atStart => exact ⟨0, Nat.zero_le _, by omega, rfl, Below.refl _ w, fun j _ h => absurd h (by omega)⟩
  case round =>
    obtain ⟨k, hk, hg, rfl, BW, hn⟩ := hrel
    by_cases hlt : k < l.length
    · have hlk : Hid (p l[k] = true → idxP p l = k) := fun h1 => idxP_hit hlt h1 (fun j hj => hn j (by omega) hj)
      have hl2 : Hid (p l[k] = false → ∀ j (hj : j < l.length), j < k + 1 → p l[j] = false) := fun h1 j hj hjk => by
        by_cases e : j = k
        · subst e; exact h1
        · exact hn j hj (by omega)
      obtain ⟨ad, rfl, E⟩ := RE.out _ BW.out k hlt
      have hcall := hp wr l[k] (List.getElem_mem hlt) BW.out
      have k1 : (0 : Int) ≤ k := by omega
      have k2 : (k : Int) < l.length := by omega
      clear hp hn
      generalize l[k] = x at hlk hl2 E hcall
      cases hq : p x with
      | true =>
        rw [hq] at hcall
        go_wp2_with (go_at_fn g; refine hcall.mono ?_; rintro e w' ⟨rfl, hb'⟩)
        go_ret
        exact ⟨ret_int (hlk.out hq).symm, hb'⟩
      | false =>
        rw [hq] at hcall
        go_wp2_with (go_at_fn g; refine hcall.mono ?_; rintro e w' ⟨rfl, hb'⟩)
        go_roundg (l.length - (k + 1))
        case measure => omega
        case rel => exact ⟨k + 1, by omega, by omega, by go_num, hb', hl2.out hq⟩
    · have : k = l.length := by omega
      subst this
      go_wp2
      go_ret
      exact ⟨ret_int (idxP_miss (fun j hj => hn.out j hj hj)).symm, BW.out⟩
theorem iContainsA (p : Int → Bool) (g : Nat) (lb : Array Value) (eg : ∀ args w, (callFunc g args).run Tryz.prog w = .ok (.enter g args) w) (l : List Int) (A : Option Addr) (c : Nat) (w : World) (hl : l.length ≤ 140737488355328)
    (h : ReadsI w w.heap.size A l.length l) (hp : PredI g lb p l w) :
    Calls Tryz.prog 96 #[.slice A l.length c, .func (.func g) #[] lb] w fun e w' => e = .returned (.bool (l.any p)) ∧ Below w.heap.size w w' := by
  rw [← idxP_any]
  have HI := Lib.hid (iIndexFuncA p g lb eg l A c w hl h hp)
  clear h hp eg
  generalize idxP p l = ix at HI ⊢
  go_enter Tryz.func96, Tryz.ntmps96
  go_wp2_with (go_at_call 134; refine HI.out.mono ?_; rintro e w' ⟨rfl, hb⟩)
  go_ret
  exact ⟨rfl, hb⟩
end Go.Proofs.YtomolbhcggaakaaGreat
