/- Parts of the proof, in one text. -/
import Derived.Test.YtmidnaafljgbiaaN32
import Derived.Test.YtmidnaafljgbiaaN42
import Derived.Test.YtmidnaafljgbiaaN31
/- The laws' marks on steps, held. -/
namespace Go.Proofs.Ytmidnaafljgbiaa
open Go.RowKit
set_option maxRecDepth 100000

set_option maxHeartbeats 4000000 in
theorem lHeldOpS (n : Nat) (k0 : Int) (A : Option Addr) (c B : Nat) (w : World) (h : ReadsL encO 6 w B A n (marksO k0 n)) (h0 : 0 ≤ k0) (h1 : k0 ≤ 1152921504606846976) :
    Calls Try.prog 70 #[.slice A n c, .int .i64 k0] w fun e w' => e = .returned (.int .i64 (k0 + 6 * n)) ∧ w = w' := by
  have hm := h.2.1
  go_enter Try.func70, Try.ntmps70
  go_wp2
  go_loopg [1, 5] n (fun gg s1 s5 wr => ∃ k : Nat, k ≤ n ∧ n - k ≤ gg ∧ s1 = .int .i64 (k0 + 6 * k) ∧ s5 = .int .i64 k ∧ wr = w)
  case atStart => exact ⟨0, Nat.zero_le _, by omega, by simp, rfl, rfl⟩
  case round =>
    obtain ⟨k, hk, hg, rfl, rfl, rfl⟩ := hrel
    by_cases hlt : k < n
    · obtain ⟨ad, rfl, _, hc0, hc1, hc2, hc3, hc4, hc5⟩ := h.op (j := k) (by rw [marksO_length]; exact hlt)
      rw [marksO_get] at hc0 hc1 hc2 hc3 hc4 hc5
      simp only [markO] at hc0 hc1 hc2 hc3 hc4 hc5
      have i1 : (0 : Int) ≤ k := by omega
      have i2 : (k : Int) < n := by omega
      have a0 : IntKind.i64.wrap (k0 + 6 * (k : Int) + 1) = k0 + 6 * (k : Int) + 1 := by rw [IntKind.wrap_i64]; omega
      have a1 : IntKind.i64.wrap (k0 + 6 * (k : Int) + 1 + 1) = k0 + 6 * (k : Int) + 2 := by rw [IntKind.wrap_i64]; omega
      have a2 : IntKind.i64.wrap (k0 + 6 * (k : Int) + 2 + 1) = k0 + 6 * (k : Int) + 3 := by rw [IntKind.wrap_i64]; omega
      have a3 : IntKind.i64.wrap (k0 + 6 * (k : Int) + 3 + 1) = k0 + 6 * (k : Int) + 4 := by rw [IntKind.wrap_i64]; omega
      have a4 : IntKind.i64.wrap (k0 + 6 * (k : Int) + 4 + 1) = k0 + 6 * (k : Int) + 5 := by rw [IntKind.wrap_i64]; omega
      have a5 : IntKind.i64.wrap (k0 + 6 * (k : Int) + 5 + 1) = k0 + 6 * ((k + 1 : Nat) : Int) := by rw [IntKind.wrap_i64]; omega
      have b2 : IntKind.i64.wrap (k0 + 6 * (k : Int) + 2) = k0 + 6 * (k : Int) + 2 := by rw [IntKind.wrap_i64]; omega
      have b3 : IntKind.i64.wrap (k0 + 6 * (k : Int) + 3) = k0 + 6 * (k : Int) + 3 := by rw [IntKind.wrap_i64]; omega
      have b4 : IntKind.i64.wrap (k0 + 6 * (k : Int) + 4) = k0 + 6 * (k : Int) + 4 := by rw [IntKind.wrap_i64]; omega
      have b5 : IntKind.i64.wrap (k0 + 6 * (k : Int) + 5) = k0 + 6 * (k : Int) + 5 := by rw [IntKind.wrap_i64]; omega
      have b6 : IntKind.i64.wrap (k0 + 6 * (k : Int) + 6) = k0 + 6 * ((k + 1 : Nat) : Int) := by rw [IntKind.wrap_i64]; omega
      go_wp2
      go_roundg (n - (k + 1))
      case measure => omega
      case rel => exact ⟨k + 1, by omega, by omega, rfl, by go_num, rfl⟩
    · have : k = n := by omega
      subst this
      go_wp2
      go_ret
      exact ⟨rfl, rfl⟩
end Go.Proofs.Ytmidnaafljgbiaa
/- The laws' marks on runs and worlds, held. -/
namespace Go.Proofs.Ytmidnaafljgbiaa
open Go.RowKit
set_option maxRecDepth 100000

theorem mks_get {k0 : Int} {ps : List (Rn × RA)} {k : Nat} (hk : k < ps.length) (h : k < (mksP k0 ps).length) : (mksP k0 ps)[k] = (mkR (mksN k0 (ps.take k)) ps[k].1, ps[k].2) := by
  induction ps generalizing k0 k with
  | nil => simp at hk
  | cons p l ih =>
    cases k with
    | zero => rfl
    | succ k =>
      have hk' : k < l.length := by simpa using hk
      have := ih (k0 := mkN k0 p.1) hk' (by rw [mksP_length]; exact hk')
      simpa [mksP, mksN] using this
set_option maxHeartbeats 8000000 in
theorem lHeldRunS (ps : List (Rn × RA)) (A : Option Addr) (c n : Nat) (hnn : n = ps.length) (k0 : Int) (B : Nat) (w : World) (h : ReadsL encR 13 w B A n (mksP k0 ps)) (he : ∀ k (hk : k < ps.length), ReadsRun w B (mkR (mksN k0 (ps.take k)) ps[k].1) ps[k].2) (h0 : 0 ≤ k0) (h1 : k0 ≤ 1000000000) (hn : ps.length ≤ 1048576) (hs : sizesR (ps.map (·.1)) ≤ 1000000000) :
    Calls Try.prog 71 #[.slice A n c, .int .i64 k0] w fun e w' => e = .returned (.int .i64 (mksN k0 ps)) ∧ w' = w := by
  subst hnn
  have HF : Hid (∀ (V : World) z, z = mksN k0 ps → V = w → ((Ending.returned (.int .i64 z)) = .returned (.int .i64 (mksN k0 ps)) ∧ V = w)) := fun V z hz hV => ⟨by rw [hz], hV⟩
  go_enter Try.func71, Try.ntmps71
  go_wp2
  go_loopg [1, 5] ps.length (fun gg s1 s5 wr => ∃ k : Nat, k ≤ ps.length ∧ ps.length - k ≤ gg ∧ s1 = .int .i64 (mksN k0 (ps.take k)) ∧ s5 = .int .i64 k ∧ wr = w)
  case atStart => exact ⟨0, Nat.zero_le _, by omega, rfl, rfl, rfl⟩
  case round =>
    obtain ⟨k, hk, hg, rfl, rfl, rfl⟩ := hrel
    by_cases hlt : k < ps.length
    · obtain ⟨ad, rfl, _, hc⟩ := h.run (j := k) (by rw [mksP_length]; exact hlt)
      rw [mks_get hlt] at hc
      have hE := he k hlt
      have hsn := mks_snoc k0 (ps.take k) ps[k]
      rw [← takeS ps hlt] at hsn
      have hb := mksN_le k0 (ps.take k)
      have hb2 := mksN_le k0 (ps.take (k + 1))
      rw [hsn.2, mkN_eq] at hb2
      have hz := sizesR_psle ps k
      have hz2 := sizesR_psle ps (k + 1)
      have hl1 : (ps.take k).length ≤ 1048576 := by rw [List.length_take]; omega
      have hl2 : (ps.take (k + 1)).length ≤ 1048576 := by rw [List.length_take]; omega
      have hsn := Lib.hid hsn.2
      generalize mksN k0 (ps.take k) = kk at hb hb2 hsn hc hE
      generalize ps[k] = p at hsn hb2 hc hE
      obtain ⟨⟨id, at_, slots, full, mail, state, due, links, watched, trap, ⟨wk, wn⟩, turns⟩, ⟨sA, sC, mA, mC, lA, lC, wA, wC⟩⟩ := p
      simp only at hb2
      have K0 : 0 ≤ kk ∧ kk ≤ 4000000000 := by omega
      have KS : slots.length ≤ 4000000000 ∧ mail.length ≤ 4000000000 ∧ links.length ≤ 4000000000 ∧ watched.length ≤ 4000000000 := by omega
      obtain ⟨v1, hv1⟩ : ∃ v1 : Int, v1 = kk + 2 + 2 * slots.length := ⟨_, rfl⟩
      obtain ⟨v2, hv2⟩ : ∃ v2 : Int, v2 = v1 + 1 + 2 * mail.length := ⟨_, rfl⟩
      obtain ⟨v3, hv3⟩ : ∃ v3 : Int, v3 = v2 + 2 + links.length := ⟨_, rfl⟩
      obtain ⟨v4, hv4⟩ : ∃ v4 : Int, v4 = v3 + watched.length := ⟨_, rfl⟩
      have B1 : 0 ≤ v1 ∧ v1 ≤ 100000000000 := by omega
      have B2 : 0 ≤ v2 ∧ v2 ≤ 100000000000 := by omega
      have B3 : 0 ≤ v3 ∧ v3 ≤ 100000000000 := by omega
      have B4 : 0 ≤ v4 ∧ v4 ≤ 100000000000 := by omega
      have e1 : mk1 kk ⟨id, at_, slots, full, mail, state, due, links, watched, trap, ⟨wk, wn⟩, turns⟩ = v1 := hv1.symm
      have e2 : mk2 kk ⟨id, at_, slots, full, mail, state, due, links, watched, trap, ⟨wk, wn⟩, turns⟩ = v2 := by unfold mk2; rw [e1]; exact hv2.symm
      have e3 : mk3 kk ⟨id, at_, slots, full, mail, state, due, links, watched, trap, ⟨wk, wn⟩, turns⟩ = v3 := by unfold mk3; rw [e2]; exact hv3.symm
      have e4 : mk4 kk ⟨id, at_, slots, full, mail, state, due, links, watched, trap, ⟨wk, wn⟩, turns⟩ = v4 := by unfold mk4; rw [e3]; exact hv4.symm
      have hsn2 := hsn.out
      simp only [mkN, e4] at hsn2
      have hsn2 := Lib.hid hsn2
      have R1 := hE.slots
      have R2 := hE.mail
      have R3 := hE.links
      have R4 := hE.watched
      simp only [mkR, e1, e2, e3, e4, RunCells, marksV_length, marksI_length] at hc R1 R2 R3 R4
      have H1 := Lib.hid (lHeldV slots.length (kk + 2) sA sC B wr R1 (by omega) (by omega))
      rw [← hv1] at H1
      have H2 := Lib.hid (lHeldV mail.length (v1 + 1) mA mC B wr R2 (by omega) (by omega))
      rw [← hv2] at H2
      have H3 := Lib.hid (lHeldI links.length (v2 + 2) lA lC B wr R3 (by omega) (by omega))
      rw [← hv3] at H3
      have H4 := Lib.hid (lHeldI watched.length v3 wA wC B wr R4 (by omega) (by omega))
      rw [← hv4] at H4
      have n1 : ¬ v1 < 0 := by omega
      have n2 : ¬ v2 < 0 := by omega
      have n3 : ¬ v3 < 0 := by omega
      have n4 : ¬ v4 < 0 := by omega
      clear e1 e2 e3 e4 hsn hv1 hv2 hv3 hv4 hb hb2 hz hz2 hl1 hl2 hE R1 R2 R3 R4
      obtain ⟨hc0, hc1, hc2, hc3, hc4, hc5, hc6, hc7, hc8, hc9, hc10, hc11, hc12⟩ := hc
      have a0 : IntKind.i64.wrap (kk + 1) = kk + 1 := by rw [IntKind.wrap_i64]; omega
      have a1 : IntKind.i64.wrap (kk + 1 + 1) = kk + 2 := by rw [IntKind.wrap_i64]; omega
      have a2 : IntKind.i64.wrap (kk + 2) = kk + 2 := by rw [IntKind.wrap_i64]; omega
      have a3 : IntKind.i64.wrap (v1 + 1) = v1 + 1 := by rw [IntKind.wrap_i64]; omega
      have a4 : IntKind.i64.wrap (v2 + 1) = v2 + 1 := by rw [IntKind.wrap_i64]; omega
      have a5 : IntKind.i64.wrap (v2 + 1 + 1) = v2 + 2 := by rw [IntKind.wrap_i64]; omega
      have a6 : IntKind.i64.wrap (v2 + 2) = v2 + 2 := by rw [IntKind.wrap_i64]; omega
      have a7 : IntKind.i64.wrap (v4 + 1) = v4 + 1 := by rw [IntKind.wrap_i64]; omega
      have a8 : IntKind.i64.wrap (v4 + 1 + 1) = v4 + 2 := by rw [IntKind.wrap_i64]; omega
      have a9 : IntKind.i64.wrap (v4 + 2) = v4 + 2 := by rw [IntKind.wrap_i64]; omega
      have a10 : IntKind.i64.wrap (v4 + 2 + 1) = v4 + 3 := by rw [IntKind.wrap_i64]; omega
      have a11 : IntKind.i64.wrap (v4 + 3) = v4 + 3 := by rw [IntKind.wrap_i64]; omega
      have a12 : IntKind.i64.wrap (v4 + 3 + 1) = v4 + 4 := by rw [IntKind.wrap_i64]; omega
      have a13 : IntKind.i64.wrap (v4 + 4) = v4 + 4 := by rw [IntKind.wrap_i64]; omega
      have tm : 0 ≤ v4.tmod 3 ∧ v4.tmod 3 < 3 := ⟨Int.tmod_nonneg _ (by omega), Int.tmod_lt_of_pos _ (by omega)⟩
      have a14 : IntKind.i64.wrap (v4.tmod 3) = v4.tmod 3 := by rw [IntKind.wrap_i64]; omega
      have em : v4.tmod 3 = v4 % 3 := Int.tmod_eq_emod_of_nonneg (by omega)
      rw [em] at hc9 a14
      have i1 : (0 : Int) ≤ k := by omega
      have i2 : (k : Int) < ps.length := by omega
      clear K0 KS B1 B2 B3 B4
      by_cases ht : v4 % 3 = 0
      · have hb1 : (v4 % 3 == 0) = true := by simpa using ht
        rw [hb1] at hc9
        go_wp2_with (first
          | (go_at_call_of 59 (Value.slice sA slots.length sC); refine H1.out.mono ?_; rintro e w2 ⟨rfl, rfl⟩)
          | (go_at_call_of 59 (Value.slice mA mail.length mC); refine H2.out.mono ?_; rintro e w2 ⟨rfl, rfl⟩)
          | (go_at_call_of 60 (Value.slice lA links.length lC); refine H3.out.mono ?_; rintro e w2 ⟨rfl, rfl⟩)
          | (go_at_call_of 60 (Value.slice wA watched.length wC); refine H4.out.mono ?_; rintro e w2 ⟨rfl, rfl⟩))
        go_roundg (ps.length - (k + 1))
        case measure => omega
        case rel => exact ⟨k + 1, by omega, by omega, by rw [hsn2.out], by go_num, rfl⟩
      · have hb1 : (v4 % 3 == 0) = false := by simpa using ht
        rw [hb1] at hc9
        go_wp2_with (first
          | (go_at_call_of 59 (Value.slice sA slots.length sC); refine H1.out.mono ?_; rintro e w2 ⟨rfl, rfl⟩)
          | (go_at_call_of 59 (Value.slice mA mail.length mC); refine H2.out.mono ?_; rintro e w2 ⟨rfl, rfl⟩)
          | (go_at_call_of 60 (Value.slice lA links.length lC); refine H3.out.mono ?_; rintro e w2 ⟨rfl, rfl⟩)
          | (go_at_call_of 60 (Value.slice wA watched.length wC); refine H4.out.mono ?_; rintro e w2 ⟨rfl, rfl⟩))
        go_roundg (ps.length - (k + 1))
        case measure => omega
        case rel => exact ⟨k + 1, by omega, by omega, by rw [hsn2.out], by go_num, rfl⟩
    · have : k = ps.length := by omega
      subst this
      go_wp2
      go_ret
      exact HF.out _ _ (by first | rfl | (rw [List.take_length])) rfl
set_option maxHeartbeats 2000000 in
theorem lHeldWorld (W : Wm) (k0 : Int) (B : Nat) (w : World) (h : ReadsW w B (mkW k0 W)) (hB : B ≤ w.heap.size) (h0 : 0 ≤ k0) (h1 : k0 ≤ 1000000) (s1 : W.code.length ≤ 1048576) (s2 : W.ps.length ≤ 1048576) (s3 : W.queue.length ≤ 1048576) (s4 : sizesR (W.ps.map (·.1)) ≤ 100000000) :
    Calls Try.prog 30 #[.agg (wArr W), .int .i64 k0] w fun e w' => e = .returned (.int .i64 (mkEnd k0 W)) ∧ Below w.heap.size w w' := by
  have Bd := mkEnd_le h0 h1 s1 s2 s3 s4
  have hc := h.code
  have hr := h.runs
  have hq := h.queue
  have he := h.each
  simp only [mkW, marksO_length, marksI_length, mksP_length] at hc hr hq
  have HC := Lib.hid (fun V (hb : Below w.heap.size w V) => lHeldOpS W.code.length k0 W.cA W.cC B V (hc.below' hb hB) h0 (by omega))
  have HR := Lib.hid (fun V (hb : Below w.heap.size w V) => lHeldRunS W.ps W.rA W.rC W.ps.length rfl (k0 + 6 * W.code.length) B V (hr.below' hb hB) (fun k hk => by
    have hk2 : k < (mkW k0 W).ps.length := by simpa [mkW, mksP_length] using hk
    have := (he k hk2).below hb hB
    have e : (mkW k0 W).ps[k] = (mkR (mksN (k0 + 6 * W.code.length) (W.ps.take k)) W.ps[k].1, W.ps[k].2) := mks_get hk hk2
    rw [e] at this
    exact this) (by omega) (by omega) s2 (by omega))
  have HQ := Lib.hid (fun V (hb : Below w.heap.size w V) => lHeldI W.queue.length (mkQ k0 W) W.qA W.qC B V (hq.below' hb hB) (by omega) (by omega))
  have e0 : mksN (k0 + 6 * W.code.length) W.ps = mkQ k0 W := rfl
  rw [e0] at HR
  have e1 : mkEnd k0 W = mkQ k0 W + W.queue.length := rfl
  rw [e1]
  have M := Mem.nil w
  have n1 : ¬ (k0 + 6 * (W.code.length : Int)) < 0 := by omega
  have n2 : ¬ mkQ k0 W < 0 := by omega
  have n3 : ¬ mkQ k0 W + (W.queue.length : Int) < 0 := by omega
  clear h hc hr hq he Bd s1 s2 s3 s4 h0 h1 e0 e1 hB
  obtain ⟨code, cA, cC, ps, rA, rC, queue, qA, qC, now, sent, taken, lost⟩ := W
  simp only at *
  generalize mkQ k0 ⟨code, cA, cC, ps, rA, rC, queue, qA, qC, now, sent, taken, lost⟩ = q at *
  go_enter Try.func30, Try.ntmps30
  go_wp2_with (first
    | (with_reducible refine alAw M ?_; clear M; (try clear F); intro w1 M F)
    | (go_at_call 70; (refine nmKw ?_; clear M; (try clear F); intro w1 M F); refine (HC.out _ M.toBelow).mono ?_; rintro e w2 ⟨rfl, rfl⟩)
    | (go_at_call 71; (refine nmKw ?_; clear M; (try clear F); intro w1 M F); refine (HR.out _ M.toBelow).mono ?_; rintro e w2 ⟨rfl, rfl⟩)
    | (go_at_call 60; (refine nmKw ?_; clear M; (try clear F); intro w1 M F); refine (HQ.out _ M.toBelow).mono ?_; rintro e w2 ⟨rfl, rfl⟩))
  go_ret
  exact ⟨rfl, M.toBelow⟩
end Go.Proofs.Ytmidnaafljgbiaa
/- A world's result is marked, and looked at again. -/
namespace Go.Proofs.Ytmidnaafljgbiaa
open Go.RowKit
set_option maxRecDepth 100000

theorem wm_sizes {V : Wm} {w : Wd} (h : V.wd = w) : V.code.length = w.code.length ∧ V.ps.length = w.runs.length ∧ V.queue.length = w.queue.length ∧ sizesR (V.ps.map (·.1)) = sizesR w.runs := by
  subst h
  exact ⟨rfl, by simp [Wm.wd], rfl, rfl⟩
/-- A law's world is marked, and looked at again. -/
theorem lMarkKept (R : Wd) (s1 : R.code.length ≤ 1048576) (s2 : R.runs.length ≤ 1048576) (s3 : R.queue.length ≤ 1048576) (s4 : sizesR R.runs ≤ 100000000) (X : Wm) (hX : X.wd = R) {w0 w : World} {f : List Nat} {L L' : List Asn} (M : Mem w0 f w L) (hd : Del (wld X) L L') :
    Calls Try.prog 29 #[.agg (wArr X), .int .i64 1] w fun e w' => ∃ z : Int, ¬ z < 0 ∧ Hid (z = mkEnd 1 X) ∧ e = .returned (.int .i64 z) ∧ Mem w0 f w' (wld (mkW 1 X) :: L') := by
  have s := wm_sizes hX
  refine (lMarkWorld X 1 M hd (by decide) (by decide) (by omega) (by omega) (by omega) (by omega)).mono ?_
  rintro e w' ⟨rfl, M⟩
  exact ⟨_, by have := mkEnd_le (k0 := 1) (W := X) (by decide) (by decide) (by omega) (by omega) (by omega) (by omega); omega, rfl, rfl, M⟩
theorem lHeldKept (R : Wd) (s1 : R.code.length ≤ 1048576) (s2 : R.runs.length ≤ 1048576) (s3 : R.queue.length ≤ 1048576) (s4 : sizesR R.runs ≤ 100000000) (X : Wm) (hX : X.wd = R) (z : Int) (hz : z = mkEnd 1 X) {w0 w : World} {f : List Nat} {L L' : List Asn} (M : Mem w0 f w L) (hd : Del (wld (mkW 1 X)) L L') :
    Calls Try.prog 30 #[.agg (wArr X), .int .i64 1] w fun e w' => e = .returned (.int .i64 z) ∧ Below w.heap.size w w' := by
  have s := wm_sizes hX
  rw [hz]
  exact lHeldWorld X 1 w.heap.size w (M.readsW hd) (Nat.le_refl _) (by decide) (by decide) (by omega) (by omega) (by omega) (by omega)
end Go.Proofs.Ytmidnaafljgbiaa
