/- Parts of the proof, in one text. -/
import Derived.Deep.RegionWith
import Derived.Test.YtomolbhcggaakaaGreatH39
/- The reference's WorldGive: a world that is not given to. -/
namespace Go.Proofs.YtomolbhcggaakaaGreat
open Go.RowKit
set_option maxRecDepth 100000

def WZ : Wm := ⟨[], none, 0, [], none, 0, [], none, 0, 0, 0, 0, 0⟩
theorem Mem.wldZ {w0 w : World} {f : List Nat} {L : List Asn} (M : Mem w0 f w L) : Mem w0 f w (wld WZ :: L) := by
  have M1 : Mem w0 f w (row encO 6 tO none 0 ([] : List Opx) :: row encR 13 tR none 0 ([] : List (Rn × RA)) :: row encI 1 tI none 0 ([] : List Int) :: rws [] :: L) := M.rwsNil.nilRow.nilRow.nilRow
  exact Mem.packW (W := WZ) M1
/-- An ok world's lists are small. -/
theorem small_of {W : Wm} (h : worldOk W.wd = true) (hc : W.code.length ≤ 1048576) (hl : ∀ k (hk : k < W.ps.length), W.ps[k].1.links.length ≤ 1048576 ∧ W.ps[k].1.watched.length ≤ 1048576) (hq : W.queue.length ≤ 1048576) : SmallW W := by
  obtain ⟨hn, hf⟩ := wok_ps h
  refine ⟨hc, by omega, hq, fun k hk => ?_⟩
  have hs := runOk_parts (hf k hk).ok
  have := hl k hk
  have p3 := hs.2.2.1
  have p6 := hs.2.2.2.2.2.1
  exact ⟨by omega, by omega, this.1, this.2⟩
end Go.Proofs.YtomolbhcggaakaaGreat
/- The reference's WorldGive. -/
namespace Go.Proofs.YtomolbhcggaakaaGreat
open Go.RowKit
set_option maxRecDepth 100000

def WGPost (W : Wm) (id : Int) (v : Vl) (w0 : World) (f : List Nat) (L : List Asn) (e : Ending) (w' : World) : Prop := ∃ V : Wm, V.wd = worldGive W.wd id v ∧ e = .returned (.agg (wArr V)) ∧ Mem w0 f w' (wld V :: wld W :: L)
theorem give_at {W : Wm} (h : worldOk W.wd = true) (id : Int) (ha : aliveIn W.wd.runs id = true) : 0 ≤ (getR W.wd.runs id).at_ ∧ (getR W.wd.runs id).at_ < W.code.length := by
  have h1 := worldOk_iff.1 h
  have h2 := aliveIn_iff.1 ha
  have hr := h1.run h2.1.1 h2.1.2
  exact ⟨(runOk_parts hr.ok).2.1.1, by have := hr.at_; simpa [Wm.wd] using this⟩
set_option maxHeartbeats 4000000 in
theorem sWorldGive (W : Wm) (id : Int) (v : Vl) {w0 w : World} {f : List Nat} {L L' : List Asn} (M : Mem w0 f w L) (hd : Del (wld W) L L') (hz : SmallW W) (hqs : worldOk W.wd = true → W.queue.length ≤ 1000000) :
    Calls Tryz.prog 27 #[.agg (wArr W), .int .i64 id, .agg #[.int .i64 v.k, .int .i64 v.n]] w (WGPost W id v w0 f L') := by
  have HO := Lib.hid (fun V (L L' : List Asn) (M : Mem w0 f V L) (hd : Del (wld W) L L') => sWorldOk W M hd)
  have HV := Lib.hid (fun V => sValOk v V)
  have HC := Lib.hid (fun V (L L' : List Asn) (M : Mem w0 f V L) (hd : Del (wld W) L L') => sCopyW W V.heap.size V (M.readsW hd) (Nat.le_refl _) (M.nilW hd) hz)
  unfold CopyPost at HC
  have hq := hz.queue
  replace M := M.pull hd
  have HF : Hid (∀ U e (V : Wm), V.wd = worldGive W.wd id v → e = .returned (.agg (wArr V)) → Mem w0 f U (wld V :: wld W :: L') → WGPost W id v w0 f L' e U) := fun U e V h1 h2 h3 => ⟨V, h1, h2, h3⟩
  unfold worldGive at HF
  clear hd hz
  by_cases hall : worldOk W.wd = true ∧ valOk v = true ∧ decide (W.wd.sent < 9990) = true
  · obtain ⟨a1, a2, a3⟩ := hall
    have hn := (wok_ps a1).1
    have HG : Hid (∀ (V : World) (L L' : List Asn) (X : Wm), X.wd = W.wd → Mem w0 f V L → Del (wld X) L L' → Calls Tryz.prog 65 #[.agg (wArr X), .int .i64 id, .agg #[.int .i64 v.k, .int .i64 v.n]] V (GivePost X id v w0 f L')) := by
      intro V L L' X hX M hd
      have e1 : X.ps.length = W.ps.length := by rw [← runsLen, ← runsLen, hX]
      have e2 : X.queue = W.queue := congrArg Wd.queue hX
      have e3 : X.code = W.code := congrArg Wd.code hX
      exact sGive X id v M hd (by omega) (by rw [e2]; exact hqs a1) (fun h _ => by rw [e3]; rw [hX] at h ⊢; exact give_at a1 id h)
    unfold GivePost at HG
    rw [a1] at HO
    rw [a2] at HV
    rw [a1, a2, a3] at HF
    simp only [Bool.and_self, if_true] at HF
    have hs : ¬ (9990 ≤ W.sent) := by have := of_decide_eq_true a3; simp only [Wm.wd] at this; omega
    clear a1 a2 a3 hq hn
    obtain ⟨vk, vn⟩ := v
    simp only at *
    go_enter Tryz.func27, Tryz.ntmps27
    go_upto_region 1 with (first | (with_reducible refine alA M ?_; clear M; (try clear F); intro w1 M F))
    go_upto_region 3 with (first
      | (go_at_call 13; (refine nmK ?_; clear M; (try clear F); intro w1 M F); refine (HO.out _ _ _ M dl).mono ?_; clear M; rintro e w2 ⟨rfl, M⟩; (try clear F); have F := fx M)
      | (go_at_call 39; (refine nmK ?_; clear M; (try clear F); intro w1 M F); refine (HV.out _).mono ?_; rintro e w2 ⟨rfl, hb⟩; replace M := M.below hb; clear hb; (try clear F); have F := fx M))
    go_region_with (first
      | (go_at_call 66; (refine nmK ?_; clear M; (try clear F); intro w1 M F); refine (HC.out _ _ _ M dl).mono ?_; rintro e w2 ⟨X, hX, rfl, hm⟩; have hX := Lib.hid hX; replace M := M.call0 hm; clear hm; (try clear F); have F := fx M)
      | (go_at_call 65; (refine nmK ?_; clear M; (try clear F); intro w1 M F); refine (HG.out _ _ _ X hX.out M dl).mono ?_; clear M; rintro e w2 ⟨Y, hY, rfl, M⟩; (try clear F); have F := fx M))
    all_goals go_wp2
    all_goals (refine nm (G := fun W => bodyPost _ _ _ _ _ W) ?_; clear M; (try clear F); intro w1 M F)
    all_goals apply ret_cell (M := M); rfl; rfl; (exact dl); (first | exact agR | exact agV | exact agW | exact agO); (first | exact siI | exact siR | exact siV | exact siB | exact siSI | exact siSV | exact siW | exact siSR | exact siSO | exact siO); rfl
    all_goals exact HF.out _ _ Y (by rw [hY, hX.out]) rfl (M.sel sl)
  · have hn : (worldOk W.wd && valOk v && decide (W.wd.sent < 9990)) = false := by
      revert hall
      cases worldOk W.wd <;> cases valOk v <;> cases decide (W.wd.sent < 9990) <;> simp
    rw [hn] at HF
    simp only [Bool.false_eq_true, if_false] at HF
    have h3 : worldOk W.wd = false ∨ (worldOk W.wd = true ∧ valOk v = false) ∨ (worldOk W.wd = true ∧ valOk v = true ∧ 9990 ≤ W.sent) := by
      cases a1 : worldOk W.wd
      · exact .inl rfl
      · cases a2 : valOk v
        · exact .inr (.inl ⟨rfl, rfl⟩)
        · rw [a1, a2] at hn
          refine .inr (.inr ⟨rfl, rfl, ?_⟩)
          have := of_decide_eq_false (by simpa using hn : decide (W.wd.sent < 9990) = false)
          simp only [Wm.wd] at this
          omega
    have HF := Lib.hid (fun U (M : Mem w0 f U (wld WZ :: wld W :: L')) => HF.out U _ WZ rfl rfl M)
    clear hn hall HC hq
    obtain ⟨vk, vn⟩ := v
    rcases h3 with h | ⟨h, h'⟩ | ⟨h, h', hs⟩
    all_goals
      rw [h] at HO
      try rw [h'] at HV
      simp only at *
      go_enter Tryz.func27, Tryz.ntmps27
      go_upto_region 1 with (first | (with_reducible refine alA M ?_; clear M; (try clear F); intro w1 M F))
      go_upto_region 2 with (first
        | (go_at_call 13; (refine nmK ?_; clear M; (try clear F); intro w1 M F); refine (HO.out _ _ _ M dl).mono ?_; clear M; rintro e w2 ⟨rfl, M⟩; (try clear F); have F := fx M)
        | (go_at_call 39; (refine nmK ?_; clear M; (try clear F); intro w1 M F); refine (HV.out _).mono ?_; rintro e w2 ⟨rfl, hb⟩; replace M := M.below hb; clear hb; (try clear F); have F := fx M))
      go_wp2_with (first | (with_reducible refine alA M ?_; clear M; (try clear F); intro w1 M F) | ((with_reducible apply ev_store (M := M)); rfl; rfl; ((conv => lhs; whnf) <;> rfl); rfl; (first | exact siI | exact siR | exact siV | exact siB | exact siSI | exact siSV | exact siW | exact siSR | exact siSO | exact siO); (exact one_all rfl); (exact dl); (exact Nat.le_of_ble_eq_true rfl); clear M; intro w1 M; simp only [SX] at M; (try clear F); have F := fx M))
      apply ret_cell (M := M); rfl; rfl; (exact dl); (first | exact agR | exact agV | exact agW | exact agO); (first | exact siI | exact siR | exact siV | exact siB | exact siSI | exact siSV | exact siW | exact siSR | exact siSO | exact siO); rfl
      exact HF.out _ (Mem.wldZ (M.sel sl))
end Go.Proofs.YtomolbhcggaakaaGreat
