/- Parts of the proof, in one text. -/
import Derived.Deep.RegionHeld3
import Derived.Test.YtomolbhcggaakaaGreatH44
import Derived.Test.YtomolbhcggaakaaGreatH48
import Derived.Test.YtomolbhcggaakaaGreatH49
import Derived.Test.YtomolbhcggaakaaGreatH25
import Derived.Test.YtomolbhcggaakaaGreatH27
/- The program's WorldGive. -/
namespace Go.Proofs.YtomolbhcggaakaaGreat
open Go.RowKit
set_option maxRecDepth 100000

theorem iGive (W : Wm) (id : Int) (v : Vl) (g : Nat) {w0 w : World} {f : List Nat} {L : List Asn} (M : Mem w0 f w (blk g tW (w7 W) :: wld W :: L)) (hok : worldOk W.wd = true) (hv : valOk v = true) :
    Calls Tryz.prog 69 #[.pointer (some ⟨g, 0, none⟩), .int .i64 id, .agg #[.int .i64 v.k, .int .i64 v.n]] w (IGPost W id v g w0 f L) := by
  obtain ⟨hl, hf⟩ := wok_ps hok
  have hm : ∀ k (hk : k < W.ps.length), W.ps[k].1.mail.length ≤ 12 := fun k hk => (runOk_parts (hf k hk).ok).2.2.2.2.1
  have hq := wok_queue hok
  cases h : (aliveIn W.wd.runs id && decide ((getR W.wd.runs id).mail.length < 12)) with
  | false => exact iGive_out W id v g M hl.1 (by omega) hm h
  | true =>
    simp only [Bool.and_eq_true, decide_eq_true_eq] at h
    have q2 := aliveIn_iff.1 h.1
    rw [runsLen] at q2
    obtain ⟨k, hk⟩ : ∃ k : Nat, id = (k : Int) + 1 := ⟨(id - 1).toNat, by omega⟩
    subst hk
    have hk : k < W.ps.length := by omega
    rw [getR_ps hk] at h q2
    have hr := hf k hk
    exact iGive_in W k v g M hk (by omega) (by have e : W.wd.queue = W.queue := rfl; rw [e] at hq; omega) q2.2 h.2 (fun _ => ⟨(runOk_parts hr.ok).2.1.1, by have := hr.at_; simpa [Wm.wd] using this⟩) hr.id hv
set_option maxHeartbeats 4000000 in
theorem iWorldGive (W : Wm) (id : Int) (v : Vl) {w0 w : World} {f : List Nat} {L L' : List Asn} (M : Mem w0 f w L) (hd : Del (wld W) L L') (hz : SmallW W) :
    Calls Tryz.prog 29 #[.agg (wArr W), .int .i64 id, .agg #[.int .i64 v.k, .int .i64 v.n]] w (WGPost W id v w0 f L') := by
  have HO := Lib.hid (fun V (L L' : List Asn) (M : Mem w0 f V L) (hd : Del (wld W) L L') => iWorldOk W M hd)
  have HV := Lib.hid (fun V => iValOk v V)
  have HC := Lib.hid (fun V (L L' : List Asn) (M : Mem w0 f V L) (hd : Del (wld W) L L') => iCopyW W V.heap.size V (M.readsW hd) (Nat.le_refl _) (M.nilW hd) hz)
  unfold CopyPost at HC
  replace M := M.pull hd
  have HF : Hid (∀ U e (V : Wm), V.wd = worldGive W.wd id v → e = .returned (.agg (wArr V)) → Mem w0 f U (wld V :: wld W :: L') → WGPost W id v w0 f L' e U) := fun U e V h1 h2 h3 => ⟨V, h1, h2, h3⟩
  unfold worldGive at HF
  clear hd hz
  by_cases hall : worldOk W.wd = true ∧ valOk v = true ∧ decide (W.wd.sent < 9990) = true
  · obtain ⟨a1, a2, a3⟩ := hall
    have HG : Hid (∀ (V : World) (g : Nat) (L L1 L2 : List Asn) (X : Wm), X.wd = W.wd → Mem w0 f V L → Del (blk g tW (w7 X)) L L1 → Del (wld X) L1 L2 → Calls Tryz.prog 69 #[.pointer (some ⟨g, 0, none⟩), .int .i64 id, .agg #[.int .i64 v.k, .int .i64 v.n]] V (IGPost X id v g w0 f L2)) :=
      fun V g L L1 L2 X hX M hd1 hd2 => iGive X id v g (M.perm (hd1.perm.trans (.cons _ hd2.perm))) (by rw [hX]; exact a1) a2
    unfold IGPost at HG
    rw [a1] at HO
    rw [a2] at HV
    rw [a1, a2, a3] at HF
    simp only [Bool.and_self, if_true] at HF
    have hs : ¬ (9990 ≤ W.sent) := by have := of_decide_eq_true a3; simp only [Wm.wd] at this; omega
    clear a1 a2 a3
    obtain ⟨vk, vn⟩ := v
    simp only [w7] at *
    go_enter Tryz.func29, Tryz.ntmps29
    go_wp2_with (first
      | (with_reducible refine alAw M ?_; clear M; (try clear F); intro w1 M F) | ((with_reducible apply ev_store (M := M)); rfl; rfl; ((conv => lhs; whnf) <;> rfl); rfl; (first | exact siI | exact siR | exact siV | exact siB | exact siSI | exact siSV | exact siW | exact siSR | exact siSO | exact siO); (exact one_all rfl); (exact dl); (exact Nat.le_of_ble_eq_true rfl); clear M; intro w1 M; simp only [SX] at M; (try clear F); have F := fxw M)
      | (go_at_call 15; (refine nmKw ?_; clear M; (try clear F); intro w1 M F); refine (HO.out _ _ _ M dl).mono ?_; clear M; rintro e w2 ⟨rfl, M⟩; (try clear F); have F := fxw M)
      | (go_at_call 67; (refine nmKw ?_; clear M; (try clear F); intro w1 M F); refine (HV.out _).mono ?_; rintro e w2 ⟨rfl, hb⟩; replace M := M.below hb; clear hb; (try clear F); have F := fxw M)
      | (go_at_call 68; (refine nmKw ?_; clear M; (try clear F); intro w1 M F); refine (HC.out _ _ _ M dl).mono ?_; rintro e w2 ⟨X, hX, rfl, hm⟩; have hX := Lib.hid hX; replace M := M.call0 hm; clear hm; (try clear F); have F := fxw M)
      | (go_at_call 69; (refine nmKw ?_; clear M; (try clear F); intro w1 M F); refine (HG.out _ _ _ _ _ X hX.out M dl dl).mono ?_; clear M; rintro e w2 ⟨Y, hY, rfl, M⟩; have hY := Lib.hid hY; (try clear F); have F := fxw M))
    apply ret_cell (M := M); rfl; rfl; (exact dl); (first | exact agR | exact agV | exact agW | exact agO); (first | exact siI | exact siR | exact siV | exact siB | exact siSI | exact siSV | exact siW | exact siSR | exact siSO | exact siO); rfl
    exact HF.out _ _ Y (by rw [hY.out, hX.out]) rfl (M.sel sl)
  · have hn : (worldOk W.wd && valOk v && decide (W.wd.sent < 9990)) = false := by
      revert hall
      cases worldOk W.wd <;> cases valOk v <;> cases decide (W.wd.sent < 9990) <;> simp
    rw [hn] at HF
    simp only [Bool.false_eq_true, if_false] at HF
    have h3 : worldOk W.wd = false ∨ (worldOk W.wd = true ∧ valOk v = false) ∨ (worldOk W.wd = true ∧ valOk v = true ∧ 9990 ≤ W.sent) := by
      cases a1 : worldOk W.wd
      · exact .inl rfl
      · cases a2 : valOk v
        · exact .inr (.inl ⟨rfl, rfl⟩)
        · rw [a1, a2] at hn
          refine .inr (.inr ⟨rfl, rfl, ?_⟩)
          have := of_decide_eq_false (by simpa using hn : decide (W.wd.sent < 9990) = false)
          simp only [Wm.wd] at this
          omega
    have HF := Lib.hid (fun U (M : Mem w0 f U (wld WZ :: wld W :: L')) => HF.out U _ WZ rfl rfl M)
    clear hn hall HC
    obtain ⟨vk, vn⟩ := v
    rcases h3 with h | ⟨h, h'⟩ | ⟨h, h', hs⟩
    all_goals
      rw [h] at HO
      try rw [h'] at HV
      simp only at *
      go_enter Tryz.func29, Tryz.ntmps29
      go_wp2_with (first
        | (with_reducible refine alAw M ?_; clear M; (try clear F); intro w1 M F) | ((with_reducible apply ev_store (M := M)); rfl; rfl; ((conv => lhs; whnf) <;> rfl); rfl; (first | exact siI | exact siR | exact siV | exact siB | exact siSI | exact siSV | exact siW | exact siSR | exact siSO | exact siO); (exact one_all rfl); (exact dl); (exact Nat.le_of_ble_eq_true rfl); clear M; intro w1 M; simp only [SX] at M; (try clear F); have F := fxw M)
        | (go_at_call 15; (refine nmKw ?_; clear M; (try clear F); intro w1 M F); refine (HO.out _ _ _ M dl).mono ?_; clear M; rintro e w2 ⟨rfl, M⟩; (try clear F); have F := fxw M)
        | (go_at_call 67; (refine nmKw ?_; clear M; (try clear F); intro w1 M F); refine (HV.out _).mono ?_; rintro e w2 ⟨rfl, hb⟩; replace M := M.below hb; clear hb; (try clear F); have F := fxw M))
      apply ret_cell (M := M); rfl; rfl; (exact dl); (first | exact agR | exact agV | exact agW | exact agO); (first | exact siI | exact siR | exact siV | exact siB | exact siSI | exact siSV | exact siW | exact siSR | exact siSO | exact siO); rfl
      exact HF.out _ (Mem.wldZ (M.sel sl))
end Go.Proofs.YtomolbhcggaakaaGreat
/- Sizes of a law's world; both texts' answers. -/
namespace Go.Proofs.YtomolbhcggaakaaGreat
open Go.RowKit
set_option maxRecDepth 100000

theorem sizeW_bounds {W : Wm} (c : ¬ szTo 1048576 (sizeW W.wd) < 0) : W.code.length ≤ 1048576 ∧ W.ps.length ≤ 1048576 ∧ W.queue.length ≤ 1048576 ∧ ∀ k (hk : k < W.ps.length), W.ps[k].1.slots.length ≤ 1048576 ∧ W.ps[k].1.mail.length ≤ 1048576 ∧ W.ps[k].1.links.length ≤ 1048576 ∧ W.ps[k].1.watched.length ≤ 1048576 := by
  have h : sizeW W.wd ≤ 1048576 := by
    unfold szTo at c
    split at c
    · exact absurd (by decide) c
    · omega
  have e : sizeW W.wd = W.code.length + (W.ps.length + sizesR (W.ps.map (·.1))) + W.queue.length := by simp [sizeW, Wm.wd]
  have nn := sizesR_nonneg (W.ps.map (·.1))
  refine ⟨by omega, by omega, by omega, fun k hk => ?_⟩
  have h1 := sizesR_ps W.ps hk
  have h2 := sizesR_psle W.ps (k + 1)
  have h3 := sizesR_psnn W.ps k
  have h4 : sizeR W.ps[k].1 = W.ps[k].1.slots.length + W.ps[k].1.mail.length + W.ps[k].1.links.length + W.ps[k].1.watched.length := rfl
  omega
theorem lToWorldZ (W : Wm) (B : Nat) (w : World) (h : ReadsW w B W) (hB : B ≤ w.heap.size) (c : ¬ szTo 1048576 (sizeW W.wd) < 0) :
    Calls Tryz.prog 14 #[.agg (wArr W)] w fun e w' => ∃ V : Wm, V.wd = W.wd ∧ e = .returned (.agg (wArr V)) ∧ Mem w [] w' [wld V] :=
  have s := sizeW_bounds c
  lToWorld W B w h hB s.1 s.2.1 s.2.2.1 s.2.2.2
end Go.Proofs.YtomolbhcggaakaaGreat
