/- Parts of the proof, in one text. -/
import Derived.Deep.Cut
import Derived.Test.YtomolbhcggaakaaGreatH20
import Derived.Test.YtomolbhcggaakaaGreatH06
/- When a world is ok: its runs, its queue, its links, its sum. -/
namespace Go.Proofs.YtomolbhcggaakaaGreat
open Go.RowKit
set_option maxRecDepth 100000
attribute [local go_sem ↓] Go.wp_at_zero Go.wp_at_succ

theorem waits_take {l : List Rn} {k : Nat} (hk : k < l.length) : waits (l.take (k + 1)) = waits (l.take k) + (l[k].mail.length : Int) := by
  induction l generalizing k with
  | nil => simp at hk
  | cons r l ih =>
    cases k with
    | zero => simp [waits]
    | succ k =>
      have := ih (k := k) (by simpa using hk)
      simp only [List.take_succ_cons, waits, List.getElem_cons_succ, this]
      omega
theorem fits_all {w : Wd} {F : List Int} (h : ∀ j (hj : j < w.runs.length), runFits w F j w.runs[j] = true) : fitsFrom w F 0 w.runs = true := fitsFrom_iff.2 (fun k hk => by rw [Nat.zero_add]; exact h k hk)
theorem fits_not {w : Wd} {F : List Int} {j : Nat} (hj : j < w.runs.length) (h : runFits w F j w.runs[j] = false) : fitsFrom w F 0 w.runs = false := by
  cases hx : fitsFrom w F 0 w.runs with
  | false => rfl
  | true =>
    have := fitsFrom_iff.1 hx j hj
    rw [Nat.zero_add, h] at this
    cases this
theorem linked_all {l : List Rn} (h : ∀ a b, b < a → a < l.length → linkedWith l a b = true) : linkedAll l = true := by
  unfold linkedAll
  simp only [List.all_eq_true, List.mem_range]
  exact fun a ha b hb => h a b hb ha
theorem linked_not {l : List Rn} {a b : Nat} (hb : b < a) (ha : a < l.length) (h : linkedWith l a b = false) : linkedAll l = false := by
  cases hx : linkedAll l with
  | false => rfl
  | true =>
    unfold linkedAll at hx
    simp only [List.all_eq_true, List.mem_range] at hx
    rw [hx a ha b hb] at h
    cases h
theorem linked_ps {ps : List (Rn × RA)} {a b : Nat} (ha : a < ps.length) (hb : b < ps.length) : linkedWith (ps.map (·.1)) a b = (inL ps[a].1.links ((b : Int) + 1) == inL ps[b].1.links ((a : Int) + 1)) := by
  unfold linkedWith
  rw [getD_eq (by simpa using ha), getD_eq (by simpa using hb)]
  simp [inL]
theorem gates_parts {w : Wd} (h : gates w = true) : codeSafe w.code = true ∧ (1 ≤ (w.runs.length : Int) ∧ (w.runs.length : Int) ≤ 6) ∧ (0 ≤ w.now ∧ w.now ≤ 300) ∧ (0 ≤ w.sent ∧ w.sent ≤ 9999) ∧ (0 ≤ w.taken ∧ w.taken ≤ 9999) ∧ (0 ≤ w.lost ∧ w.lost ≤ 9999) ∧ idsOk w.queue 0 = true := by
  simp only [gates, Bool.and_eq_true, inB_iff] at h
  obtain ⟨⟨⟨⟨⟨⟨h1, h2⟩, h3⟩, h4⟩, h5⟩, h6⟩, h7⟩ := h
  exact ⟨h1, h2, h3, h4, h5, h6, h7⟩
theorem safe_ok {c : List Opx} (h : codeSafe c = true) : codeOk c = true := by
  unfold codeSafe at h
  exact (Bool.and_eq_true_iff.1 h).1
set_option maxHeartbeats 2000000 in
theorem sWorldOk_pass (W : Wm) {w0 w : World} {f : List Nat} {L : List Asn} (M : Mem w0 f w (wld W :: L)) (hg : gates W.wd = true) :
    Calls Tryz.prog 13 #[.agg (wArr W)] w fun e w' => e = .returned (.bool (worldOk W.wd)) ∧ Mem w0 f w' (wld W :: L) := by
  have HP := Lib.hid (fun V (M : Mem w0 f V (rowO W.cA W.cC W.code :: rowR W.rA W.rC W.ps :: rowI W.qA W.qC W.queue :: rws W.ps :: L)) => M.packW)
  replace M := M.unpackW
  obtain ⟨p1, p2, p3, p4, p5, p6, p7⟩ := gates_parts hg
  have e3 : W.wd.runs.length = W.ps.length := by simp [Wm.wd]
  rw [e3] at p2
  replace p1 : codeSafe W.code = true := p1
  replace p3 : 0 ≤ W.now ∧ W.now ≤ 300 := p3
  replace p4 : 0 ≤ W.sent ∧ W.sent ≤ 9999 := p4
  replace p5 : 0 ≤ W.taken ∧ W.taken ≤ 9999 := p5
  replace p6 : 0 ≤ W.lost ∧ W.lost ≤ 9999 := p6
  replace p7 : idsOk W.queue 0 = true := p7
  have WE := Lib.hid (worldOk_eq W.wd)
  have hWE : Hid (worldOk W.wd = (fitsFrom W.wd (fullOf W.code) 0 (W.ps.map (·.1)) && W.queue.all (fun q => decide (q ≤ (W.ps.length : Int))) && linkedAll (W.ps.map (·.1)) && W.sent == W.taken + W.lost + waits (W.ps.map (·.1)))) := by
    unfold Hid
    have hx := WE.out
    unfold gates at hg
    rw [hg, Bool.true_and] at hx
    rw [hx]
    simp [Wm.wd]
  clear WE hg
  have C1 := codeOk_parts (safe_ok p1)
  have SET := Lib.hid (settled_of p1)
  have HC := Lib.hid (fun V (L L' : List Asn) (M : Mem w0 f V L) (hd : Del (rowO W.cA W.cC W.code) L L') => sCodeSafe W.code W.cA W.cC (M.pull hd))
  rw [show codeSafe W.code = true from p1] at HC
  have HN := Lib.hid (fun V => sIn W.ps.length 1 6 V)
  rw [inB_iff.2 p2] at HN
  have HNow := Lib.hid (fun V => sIn W.now 0 300 V)
  rw [inB_iff.2 p3] at HNow
  have HS := Lib.hid (fun V => sIn W.sent 0 9999 V)
  rw [inB_iff.2 p4] at HS
  have HT := Lib.hid (fun V => sIn W.taken 0 9999 V)
  rw [inB_iff.2 p5] at HT
  have HL := Lib.hid (fun V => sIn W.lost 0 9999 V)
  rw [inB_iff.2 p6] at HL
  have HQ := Lib.hid (fun V (L L' : List Asn) (M : Mem w0 f V L) (hd : Del (rowI W.qA W.qC W.queue) L L') => sIds W.queue 0 W.qA W.qC V.heap.size V (readsI M hd) (row_reads M hd).2.1 (Nat.le_refl _))
  rw [show idsOk W.queue 0 = true from p7] at HQ
  have HF := Lib.hid (fun V (L L' : List Asn) (M : Mem w0 f V L) (hd : Del (rowO W.cA W.cC W.code) L L') => sFull W.code W.cA W.cC (M.pull hd) C1.1 C1.2.1 C1.2.2)
  have hFl : (fullOf W.code).length = W.code.length := SET.out.1.1
  have hFb : Bits (fullOf W.code) := SET.out.1.2.1
  have H12 := Lib.hid (fun V (fA : Option Addr) (fC : Nat) (L : List Asn) (M : Mem w0 f V (rowI fA fC (fullOf W.code) :: rowO W.cA W.cC W.code :: rowR W.rA W.rC W.ps :: rowI W.qA W.qC W.queue :: rws W.ps :: L)) (k : Nat) (hk : k < W.ps.length) => sRun12 W (fullOf W.code) fA fC k hk (by omega) V.heap.size V (Mem.rw_ M.drop) (readsI M .here) hFl hFb (Nat.le_refl _))
  have HLK := Lib.hid (fun V (L : List Asn) (M : Mem w0 f V (rowO W.cA W.cC W.code :: rowR W.rA W.rC W.ps :: rowI W.qA W.qC W.queue :: rws W.ps :: L)) (a b : Nat) (ha : a < W.ps.length) (hb : b < W.ps.length) => sLinked W a b ha hb V.heap.size V (Mem.rw_ M) (Nat.le_refl _) (by omega))
  have FLN := Lib.hid hFl
  have hq6 := len6 p7
  clear p7 p1 C1 SET hFl hFb e3 p3
  obtain ⟨gr, hgr⟩ := row_form M (.there .here) (by omega)
  obtain ⟨code, cA, cC, ps, rA, rC, queue, qA, qC, now, sent, taken, lost⟩ := W
  simp only [Wm.wd] at *
  subst hgr
  rw [FLN.out] at H12
  go_enter Tryz.func13, Tryz.ntmps13
  go_upto_region 4 with (first
      | (with_reducible refine alAw M ?_; clear M; (try clear F); intro w1 M F)
      | (go_at_call 44; (refine nmKw ?_; clear M; (try clear F); intro w1 M F); refine (HC.out _ _ _ M dl).mono ?_; clear M; rintro e w2 ⟨rfl, M⟩; (try clear F); have F := fxw M)
      | (go_at_call 45; with_reducible refine (HN.out _).mono ?_; rintro e w2 ⟨rfl, rfl⟩)
      | (go_at_call 45; with_reducible refine (HNow.out _).mono ?_; rintro e w2 ⟨rfl, rfl⟩)
      | (go_at_call 45; with_reducible refine (HS.out _).mono ?_; rintro e w2 ⟨rfl, rfl⟩)
      | (go_at_call 45; with_reducible refine (HT.out _).mono ?_; rintro e w2 ⟨rfl, rfl⟩)
      | (go_at_call 45; with_reducible refine (HL.out _).mono ?_; rintro e w2 ⟨rfl, rfl⟩)
      | (go_at_call 46; (refine nmKw ?_; clear M; (try clear F); intro w1 M F); refine (HQ.out _ _ _ M dl).mono ?_; rintro e w2 ⟨rfl, hb⟩; replace M := M.below hb; clear hb; (try clear F); have F := fxw M)
      | (go_at_call 47; (refine nmKw ?_; clear M; (try clear F); intro w1 M F); refine (HF.out _ _ _ M dl).mono ?_; clear M; rintro e w2 ⟨fA, fC, rfl, M⟩; (try clear F); have F := fxw M))
  go_cut [1, 2, 3, 4] from 9 (fun s1 s2 s3 s4 wx => ∃ (g1 : Nat) (fA : Option Addr) (fC : Nat), s1 = .pointer (some ⟨g1, 0, none⟩) ∧ s2 = .bool false ∧ s3 = .slice fA code.length fC ∧ s4 = .int .i64 0 ∧ Mem w0 f wx (blk g1 tW [.slice cA code.length cC, .slice (some ⟨gr, 0, none⟩) ps.length rC, .slice qA queue.length qC, .int .i64 now, .int .i64 sent, .int .i64 taken, .int .i64 lost] :: rowI fA fC (fullOf code) :: rowO cA cC code :: rowR (some ⟨gr, 0, none⟩) rC ps :: rowI qA qC queue :: rws ps :: L))
  case first =>
    go_wp2
    go_meet
    case rel => exact ⟨_, _, _, rfl, rfl, rfl, rfl, M.sel sl⟩
  clear M
  obtain ⟨g1, fA, fC, rfl, rfl, rfl, rfl, M⟩ := hcut
  (try clear F); have F := fxw M
  clear HC HN HNow HS HT HL HQ HF
  go_wp2
  go_loopg [4, 5] ps.length (fun gg s4 s5 wr => ∃ k : Nat, k ≤ ps.length ∧ ps.length - k ≤ gg ∧ s5 = .int .i64 k ∧ s4 = .int .i64 (waits ((ps.map (·.1)).take k)) ∧ (0 ≤ waits ((ps.map (·.1)).take k) ∧ waits ((ps.map (·.1)).take k) ≤ 12 * k) ∧ Hid (∀ j (hj : j < ps.length), j < k → runFits ⟨code, ps.map (·.1), queue, now, sent, taken, lost⟩ (fullOf code) j ps[j].1 = true) ∧ Hid (Mem w0 f wr (blk g1 tW [.slice cA code.length cC, .slice (some ⟨gr, 0, none⟩) ps.length rC, .slice qA queue.length qC, .int .i64 now, .int .i64 sent, .int .i64 taken, .int .i64 lost] :: rowI fA fC (fullOf code) :: rowO cA cC code :: rowR (some ⟨gr, 0, none⟩) rC ps :: rowI qA qC queue :: rws ps :: L)))
  case atStart => exact ⟨0, by omega, by omega, rfl, rfl, ⟨Int.le_refl _, Int.le_refl _⟩, fun j _ h => absurd h (by omega), M⟩
  case round =>
    clear M
    obtain ⟨k, hk, hgg, rfl, rfl, hsum, HFI, M⟩ := hrel
    replace M := M.out
    (try clear F); have F := fxw M
    by_cases hlt : k < ps.length
    · have k1 : (0 : Int) ≤ k := by omega
      have k2 : (k : Int) < ps.length := by omega
      have hlt2 : k < (ps.map (·.1)).length := by simpa using hlt
      have WT := waits_take (l := ps.map (·.1)) hlt2
      have NO : Hid (runFits ⟨code, ps.map (·.1), queue, now, sent, taken, lost⟩ (fullOf code) k ps[k].1 = false → worldOk ⟨code, ps.map (·.1), queue, now, sent, taken, lost⟩ = false) := fun h => by
        rw [hWE.out, fits_not (j := k) hlt2 (by simpa using h)]
        rfl
      have YES : Hid (runFits ⟨code, ps.map (·.1), queue, now, sent, taken, lost⟩ (fullOf code) k ps[k].1 = true → ∀ j (hj : j < ps.length), j < k + 1 → runFits ⟨code, ps.map (·.1), queue, now, sent, taken, lost⟩ (fullOf code) j ps[j].1 = true) := fun h j hj hjk => by
        by_cases he : j = k
        · subst he; exact h
        · exact HFI.out j hj (by omega)
      have OKM : Hid (runFits ⟨code, ps.map (·.1), queue, now, sent, taken, lost⟩ (fullOf code) k ps[k].1 = true → ps[k].1.mail.length ≤ 12) := fun h => (runOk_parts (runFits_iff.1 h).ok).2.2.2.2.1
      have HR := Lib.hid (fun V (L : List Asn) M => H12.out V fA fC L M k hlt)
      have RE := Lib.hid (fun V (L L' : List Asn) (M : Mem w0 f V L) (hd : Del (rowR (some ⟨gr, 0, none⟩) rC ps) L L') => (elemR M hd hlt).2.2.2.2.1)
      have em : (ps.map (·.1))[k] = ps[k].1 := by simp
      rw [em] at WT
      clear em hlt2
      have hWT := Lib.hid WT
      clear WT HFI
      generalize waits ((ps.map (·.1)).take k) = sk at hsum hWT
      generalize runFits ⟨code, ps.map (·.1), queue, now, sent, taken, lost⟩ (fullOf code) k ps[k].1 = x at NO YES OKM HR
      generalize ps[k] = p at RE OKM hWT
      obtain ⟨pr, pa⟩ := p
      simp only at RE OKM hWT
      have E4 := RE.out _ _ _ M dl
      cases x with
      | false =>
        have hno := Lib.hid (NO.out rfl)
        clear NO YES OKM
        go_wp2_with ((go_at_call 48; (refine nmKw ?_; clear M; (try clear F); intro w1 M F); refine (HR.out _ _ M.drop).mono ?_; rintro e w2 ⟨rfl, hb⟩; replace M := M.below hb; clear hb; (try clear F); have F := fxw M))
        go_ret
        exact ⟨ret_bool hno.out.symm, HP.out _ M.drop.drop⟩
      | true =>
        have hyes := Lib.hid (YES.out rfl)
        have hm12 := OKM.out rfl
        clear NO YES OKM
        go_wp2_with ((go_at_call 48; (refine nmKw ?_; clear M; (try clear F); intro w1 M F); refine (HR.out _ _ M.drop).mono ?_; rintro e w2 ⟨rfl, hb⟩; replace M := M.below hb; clear hb; (try clear F); have F := fxw M; clear E4; have E4 := RE.out _ _ _ M dl))
        go_roundg (ps.length - (k + 1))
        case measure => omega
        case rel => exact ⟨k + 1, by omega, by omega, by go_num, by rw [hWT.out], by rw [hWT.out]; omega, hyes, M⟩
    · have hkn : k = ps.length := by omega
      subst hkn
      have hfit := Lib.hid (fits_all (w := ⟨code, ps.map (·.1), queue, now, sent, taken, lost⟩) (F := fullOf code) (fun j hj => by simpa using HFI.out j (by simpa using hj) (by simpa using hj)))
      have htk : (ps.map (·.1)).take ps.length = ps.map (·.1) := by rw [List.take_of_length_le (by simp)]
      rw [htk] at hsum
      rw [htk]
      clear htk HFI H12
      have hs72 : waits (ps.map (·.1)) ≤ 72 := by omega
      have hs0 := hsum.1
      clear hsum
      generalize waits (ps.map (·.1)) = sw at hs0 hs72 hWE ⊢
      go_wp2
      go_loopg [6] queue.length (fun gg s6 wr => ∃ k : Nat, k ≤ queue.length ∧ queue.length - k ≤ gg ∧ s6 = .int .i64 k ∧ Hid (∀ j (hj : j < queue.length), j < k → queue[j] ≤ (ps.length : Int)) ∧ Hid (Mem w0 f wr (blk g1 tW [.slice cA code.length cC, .slice (some ⟨gr, 0, none⟩) ps.length rC, .slice qA queue.length qC, .int .i64 now, .int .i64 sent, .int .i64 taken, .int .i64 lost] :: rowI fA fC (fullOf code) :: rowO cA cC code :: rowR (some ⟨gr, 0, none⟩) rC ps :: rowI qA qC queue :: rws ps :: L)))
      case atStart => exact ⟨0, by omega, by omega, rfl, fun j _ h => absurd h (by omega), M⟩
      case round =>
        clear M
        obtain ⟨k, hk, hgg, rfl, HQK, M⟩ := hrel
        replace M := M.out
        (try clear F); have F := fxw M
        by_cases hlt : k < queue.length
        · obtain ⟨gq, hgq⟩ := row_form M (.there (.there (.there (.there .here)))) (by omega)
          subst hgq
          have k1 : (0 : Int) ≤ k := by omega
          have k2 : (k : Int) < queue.length := by omega
          have HE := Lib.hid (fun V (M : Mem w0 f V (blk g1 tW [.slice cA code.length cC, .slice (some ⟨gr, 0, none⟩) ps.length rC, .slice (some ⟨gq, 0, none⟩) queue.length qC, .int .i64 now, .int .i64 sent, .int .i64 taken, .int .i64 lost] :: rowI fA fC (fullOf code) :: rowO cA cC code :: rowR (some ⟨gr, 0, none⟩) rC ps :: rowI (some ⟨gq, 0, none⟩) qC queue :: rws ps :: L)) => (elemI M (.there (.there (.there (.there .here)))) hlt).1)
          have NO : Hid ((ps.length : Int) < queue[k] → worldOk ⟨code, ps.map (·.1), queue, now, sent, taken, lost⟩ = false) := fun h => by
            have : queue.all (fun q => decide (q ≤ (ps.length : Int))) = false := by
              rw [List.all_eq_false]
              exact ⟨queue[k], List.getElem_mem hlt, by simpa using h⟩
            rw [hWE.out, this, Bool.and_false]
            rfl
          have YES : Hid (¬ (ps.length : Int) < queue[k] → ∀ j (hj : j < queue.length), j < k + 1 → queue[j] ≤ (ps.length : Int)) := fun h j hj hjk => by
            by_cases he : j = k
            · subst he; omega
            · exact HQK.out j hj (by omega)
          clear HQK
          generalize queue[k] = y at HE NO YES
          by_cases hy : (ps.length : Int) < y
          · have hno := Lib.hid (NO.out hy)
            have d1 : decide ((ps.length : Int) < y) = true := decide_eq_true hy
            clear NO YES
            go_wp2
            refine held_begin (S := (fun W => (∀ j, W.cell? ⟨g1, j, none⟩ = ([.slice cA code.length cC, .slice (some ⟨gr, 0, none⟩) ps.length rC, .slice (some ⟨gq, 0, none⟩) queue.length qC, .int .i64 now, .int .i64 sent, .int .i64 taken, .int .i64 lost] : List Value)[j]?) ∧ W.cell? ⟨gq, k, none⟩ = some (.int .i64 y))) (by kernel_rfl) (fun _ _ _ _ _ h => h) (by (refine ⟨?_, HE.out _ (by exact mb)⟩; (exact kc))) (fun HQ hHeld => ?_)
            refine tkY HQ hHeld 0 ?_; refine tkY HQ hHeld 1 ?_; refine tkY HQ hHeld 2 ?_; refine tkY HQ hHeld 3 ?_; refine tkY HQ hHeld 4 ?_; refine tkY HQ hHeld 5 ?_; refine tkY HQ hHeld 6 ?_; refine tkY HQ hHeld 7 ?_; refine tkY HQ hHeld 8 ?_
            refine wpAnyH_done (by kernel_rfl) ?_ _; clear HQ; (repeat clear hHeld)
            go_wp2
            go_ret
            exact ⟨ret_bool hno.out.symm, HP.out _ (Mem.drew M).drop.drop⟩
          · have hyes := Lib.hid (YES.out hy)
            have d1 : decide ((ps.length : Int) < y) = false := decide_eq_false hy
            clear NO YES
            go_wp2
            refine held_begin (S := (fun W => (∀ j, W.cell? ⟨g1, j, none⟩ = ([.slice cA code.length cC, .slice (some ⟨gr, 0, none⟩) ps.length rC, .slice (some ⟨gq, 0, none⟩) queue.length qC, .int .i64 now, .int .i64 sent, .int .i64 taken, .int .i64 lost] : List Value)[j]?) ∧ W.cell? ⟨gq, k, none⟩ = some (.int .i64 y))) (by kernel_rfl) (fun _ _ _ _ _ h => h) (by (refine ⟨?_, HE.out _ (by exact mb)⟩; (exact kc))) (fun HQ hHeld => ?_)
            refine tkY HQ hHeld 0 ?_; refine tkY HQ hHeld 1 ?_; refine tkY HQ hHeld 2 ?_; refine tkY HQ hHeld 3 ?_; refine tkY HQ hHeld 4 ?_; refine tkY HQ hHeld 5 ?_; refine tkY HQ hHeld 6 ?_; refine tkY HQ hHeld 7 ?_; refine tkY HQ hHeld 8 ?_
            refine wpAnyH_done (by kernel_rfl) ?_ _; clear HQ; (repeat clear hHeld)
            go_wp2
            go_roundg (queue.length - (k + 1))
            case measure => omega
            case rel => exact ⟨k + 1, by omega, by omega, by go_num, hyes, Mem.drew M⟩
        · have hkn : k = queue.length := by omega
          subst hkn
          have hqall : queue.all (fun q => decide (q ≤ (ps.length : Int))) = true := by
            rw [List.all_eq_true]
            intro y hy
            obtain ⟨j, hj, rfl⟩ := List.getElem_of_mem hy
            exact decide_eq_true (HQK.out j hj hj)
          have HQA := Lib.hid hqall
          clear hqall HQK
          go_wp2
          go_loopg [7] ps.length (fun gg s7 wr => ∃ a : Nat, a ≤ ps.length ∧ ps.length - a ≤ gg ∧ s7 = .int .i64 a ∧ Hid (∀ x y, y < x → x < a → linkedWith (ps.map (·.1)) x y = true) ∧ Hid (Mem w0 f wr (blk g1 tW [.slice cA code.length cC, .slice (some ⟨gr, 0, none⟩) ps.length rC, .slice qA queue.length qC, .int .i64 now, .int .i64 sent, .int .i64 taken, .int .i64 lost] :: rowI fA fC (fullOf code) :: rowO cA cC code :: rowR (some ⟨gr, 0, none⟩) rC ps :: rowI qA qC queue :: rws ps :: L)))
          case atStart => exact ⟨0, by omega, by omega, rfl, fun x y _ h => absurd h (by omega), M⟩
          case round =>
            clear M
            obtain ⟨a, ha, hga, rfl, HLA, M⟩ := hrel
            replace M := M.out
            (try clear F); have F := fxw M
            by_cases hla : a < ps.length
            · have a1 : (0 : Int) ≤ a := by omega
              have a2 : (a : Int) < ps.length := by omega
              go_wp2
              go_loopg [8] a (fun gg s8 wr => ∃ b : Nat, b ≤ a ∧ a - b ≤ gg ∧ s8 = .int .i64 b ∧ Hid (∀ y, y < b → linkedWith (ps.map (·.1)) a y = true) ∧ Hid (Mem w0 f wr (blk g1 tW [.slice cA code.length cC, .slice (some ⟨gr, 0, none⟩) ps.length rC, .slice qA queue.length qC, .int .i64 now, .int .i64 sent, .int .i64 taken, .int .i64 lost] :: rowI fA fC (fullOf code) :: rowO cA cC code :: rowR (some ⟨gr, 0, none⟩) rC ps :: rowI qA qC queue :: rws ps :: L)))
              case atStart => exact ⟨0, by omega, by omega, rfl, fun y h => absurd h (by omega), M⟩
              case round =>
                clear M
                obtain ⟨b, hb, hgb, rfl, HLB, M⟩ := hrel
                replace M := M.out
                (try clear F); have F := fxw M
                by_cases hlb : b < a
                · have b1 : (0 : Int) ≤ b := by omega
                  have b2 : decide (b < a) = true := decide_eq_true hlb
                  have HK := Lib.hid (fun V (L : List Asn) M => HLK.out V L M a b hla (by omega))
                  rw [← linked_ps hla (by omega)] at HK
                  have NO : Hid (linkedWith (ps.map (·.1)) a b = false → worldOk ⟨code, ps.map (·.1), queue, now, sent, taken, lost⟩ = false) := fun h => by
                    rw [hWE.out, linked_not hlb (by simpa using hla) h, Bool.and_false]
                    rfl
                  have YES : Hid (linkedWith (ps.map (·.1)) a b = true → ∀ y, y < b + 1 → linkedWith (ps.map (·.1)) a y = true) := fun h y hy => by
                    by_cases he : y = b
                    · subst he; exact h
                    · exact HLB.out y (by omega)
                  clear HLB
                  generalize linkedWith (ps.map (·.1)) a b = x at HK NO YES
                  cases x with
                  | false =>
                    have hno := Lib.hid (NO.out rfl)
                    clear NO YES
                    go_wp2_with ((go_at_call 49; (refine nmKw ?_; clear M; (try clear F); intro w1 M F); refine (HK.out _ _ M.drop.drop).mono ?_; rintro e w2 ⟨rfl, hb⟩; replace M := M.below hb; clear hb; (try clear F); have F := fxw M))
                    go_ret
                    exact ⟨ret_bool hno.out.symm, HP.out _ M.drop.drop⟩
                  | true =>
                    have hyes := Lib.hid (YES.out rfl)
                    clear NO YES
                    go_wp2_with ((go_at_call 49; (refine nmKw ?_; clear M; (try clear F); intro w1 M F); refine (HK.out _ _ M.drop.drop).mono ?_; rintro e w2 ⟨rfl, hb⟩; replace M := M.below hb; clear hb; (try clear F); have F := fxw M))
                    go_roundg (a - (b + 1))
                    case measure => omega
                    case rel => exact ⟨b + 1, by omega, by omega, by go_num, hyes, M⟩
                · have hbn : b = a := by omega
                  subst hbn
                  have hyes : Hid (∀ x y, y < x → x < b + 1 → linkedWith (ps.map (·.1)) x y = true) := fun x y hy hx => by
                    by_cases he : x = b
                    · subst he; exact HLB.out y hy
                    · exact HLA.out x y hy (by omega)
                  clear HLB HLA
                  go_wp2
                  go_roundg (ps.length - (b + 1))
                  case measure => omega
                  case rel => exact ⟨b + 1, by omega, by omega, by go_num, hyes, M⟩
            · have han : a = ps.length := by omega
              subst han
              have hfin : Hid (worldOk ⟨code, ps.map (·.1), queue, now, sent, taken, lost⟩ = (sent == taken + lost + sw)) := by
                unfold Hid
                rw [hWE.out, HQA.out, linked_all (l := ps.map (·.1)) (fun x y hy hx => HLA.out x y hy (by simpa using hx)), hfit.out]
                simp
              clear HLA
              go_wp2
              go_ret
              exact ⟨ret_bool hfin.out.symm, HP.out _ M.drop.drop⟩
theorem sWorldOk (W : Wm) {w0 w : World} {f : List Nat} {L L' : List Asn} (M : Mem w0 f w L) (hd : Del (wld W) L L') :
    Calls Tryz.prog 13 #[.agg (wArr W)] w fun e w' => e = .returned (.bool (worldOk W.wd)) ∧ Mem w0 f w' (wld W :: L') := by
  cases h : gates W.wd with
  | false => exact sWorldOk_early W (M.pull hd) h
  | true => exact sWorldOk_pass W (M.pull hd) h
end Go.Proofs.YtomolbhcggaakaaGreat
/- One element is appended to a row that is held; an empty row; nothing of the program. -/
namespace Go.Proofs.YtomolbhcggaakaaGreat
open Go.RowKit

theorem info_zero {P : Program} {t : TypeId} {m bytes : Nat} (h : (P.info? t).map (fun i => (i.zero.map (·.cells.size), i.size, i.bytes)) = some (some m, m, bytes)) : ∃ z : Value, (P.info? t).map (fun i => (i.zero, i.size, i.bytes)) = some (some z, m, bytes) ∧ z.cells.size = m := by
  obtain ⟨i, hi, h2⟩ := Option.map_eq_some_iff.1 h
  simp only [Prod.mk.injEq] at h2
  obtain ⟨h3, h4, h5⟩ := h2
  obtain ⟨z, hz, hz2⟩ := Option.map_eq_some_iff.1 h3
  exact ⟨z, by rw [hi]; simp [hz, h4, h5], hz2⟩
section
variable {α : Type} {enc : α → List Value} {m : Nat} {t : TypeId} {A : Option Addr} {c : Nat} {xs : List α} {w0 w : World} {f : List Nat} {L L' L2 : List Asn}
variable {P : Program} {ops : Array Oper} {rest : List Oper} {Q : Exit → Act → World → Prop} {a : Act} {x y : Operand} {ty tt : TypeId} {pos : String} {after : Array Edge}
theorem ev_app1 (v : α) (hk : ∀ x, (enc x).length = m) (hone : ∀ x, ∀ u ∈ enc x, u.oneCell' = true) (h0 : 0 < m) {bytes : Nat} (hinfo : (P.info? t).map (fun i => (i.zero.map (·.cells.size), i.size, i.bytes)) = some (some m, m, bytes)) (ht : P.underlying tt = some (.slice t))
    {dst : Option Tmp} {n g : Nat} {cs : List Value} (hs : a.eval x = .slice A n c) (hx : a.eval y = .slice (some ⟨g, 0, none⟩) 1 1) (M : Mem w0 f w L) (hd : Del (row enc m t A c xs) L L') (hd2 : Del (blk g t cs) L L2) (hc : cs = enc v) (hn : n = xs.length) (hlen : (xs.length + 1) * bytes ≤ 1000000000) (hb : 1 ≤ bytes)
    (h : ∀ A' c' w1, Mem w0 f w1 (row enc m t A' c' (xs ++ [v]) :: L') → wpList P ops Q rest (a.put dst (.slice A' (n + 1) c')) w1) :
    wpList P ops Q (⟨dst, .call { callee := .builtin .append, args := #[x, y], argTypes := #[tt, tt] }, ty, pos, after, none⟩ :: rest) a w := by
  obtain ⟨z, hz, hzs⟩ := info_zero hinfo
  have hle : xs.length + 1 ≤ (xs.length + 1) * bytes := Nat.le_mul_of_pos_right _ hb
  exact ev_append (ys := [v]) hk hone ht hz hzs h0 hs M hd hn hx (blk_reads hk M hd2 (by rw [hc]; simp [flat]) (by simp)) (by intro e; cases e) (by simp; omega) (by simp; omega) h
theorem Mem.nilRow (M : Mem w0 f w L) : Mem w0 f w (row enc m t none 0 ([] : List α) :: L) := by
  refine M.call0 ⟨⟨rfl, rfl, rfl, Nat.le_refl _, fun _ _ _ => rfl, fun k hk => ?_, ?_⟩, fun X hX => ?_⟩
  · rw [fps_one] at hk
    simp [row, ob] at hk
  · rw [fps_one]
    simp [row, ob]
  · obtain rfl : X = row enc m t none 0 ([] : List α) := by simpa using hX
    exact OwnL.nil _ _
end
end Go.Proofs.YtomolbhcggaakaaGreat
/- What the reference says of worlds: how many values wait, who is alive, whether all is idle. -/
namespace Go.Proofs.YtomolbhcggaakaaGreat
open Go.RowKit
set_option maxRecDepth 100000

def worldWaits (w : Wd) : Int := if worldOk w then waits w.runs else -1
def dueR (r : Rn) : Bool := r.state == 2 && decide (0 < r.due)
def worldIdle (w : Wd) : Bool := worldOk w && ((w.queue.length : Int) == 0) && !(w.runs.any dueR)
def aliveFrom : Int → List Rn → List Int
  | _, [] => []
  | i, r :: l => (if r.state == 3 then [] else [i]) ++ aliveFrom (i + 1) l
def worldAlive (w : Wd) : List Int := if worldOk w then aliveFrom 1 w.runs else []
theorem aliveFrom_take {l : List Rn} {k : Nat} (hk : k < l.length) (i : Int) : aliveFrom i (l.take (k + 1)) = aliveFrom i (l.take k) ++ (if l[k].state == 3 then [] else [i + k]) := by
  induction l generalizing k i with
  | nil => simp at hk
  | cons r l ih =>
    cases k with
    | zero => simp [aliveFrom]
    | succ k =>
      have := ih (k := k) (by simpa using hk) (i + 1)
      simp only [List.take_succ_cons, aliveFrom, List.getElem_cons_succ, this, List.append_assoc]
      congr 2
      have e : i + 1 + (k : Int) = i + ((k + 1 : Nat) : Int) := by omega
      rw [e]
theorem alive_ps (ps : List (Rn × RA)) {k : Nat} (hk : k < ps.length) : aliveFrom 1 ((ps.take (k + 1)).map (·.1)) = aliveFrom 1 ((ps.take k).map (·.1)) ++ (if ps[k].1.state == 3 then [] else [1 + (k : Int)]) := by
  have h := aliveFrom_take (l := ps.map (·.1)) (k := k) (by simpa using hk) 1
  rw [List.map_take, List.map_take]
  simpa using h
theorem alive_le (l : List Rn) (i : Int) : (aliveFrom i l).length ≤ l.length := by
  induction l generalizing i with
  | nil => simp [aliveFrom]
  | cons r l ih =>
    have := ih (i + 1)
    simp only [aliveFrom, List.length_append, List.length_cons]
    split <;> simp <;> omega
theorem waits_psS (ps : List (Rn × RA)) {k : Nat} (hk : k < ps.length) : waits ((ps.take (k + 1)).map (·.1)) = waits ((ps.take k).map (·.1)) + (ps[k].1.mail.length : Int) := by
  have h := waits_take (l := ps.map (·.1)) (k := k) (by simpa using hk)
  rw [List.map_take, List.map_take]
  simpa using h
theorem wok_ps {W : Wm} (h : worldOk W.wd = true) : (1 ≤ W.ps.length ∧ W.ps.length ≤ 6) ∧ ∀ k (hk : k < W.ps.length), FitR W.wd (fullOf W.code) k W.ps[k].1 := by
  have h1 := worldOk_iff.1 h
  have e : W.wd.runs.length = W.ps.length := by simp [Wm.wd]
  refine ⟨by have := h1.len; omega, fun k hk => ?_⟩
  have := h1.fit k (by rw [e]; exact hk)
  have e2 : W.wd.runs[k]'(by rw [e]; exact hk) = W.ps[k].1 := by simp [Wm.wd]
  rw [e2] at this
  exact this
set_option maxHeartbeats 2000000 in
theorem sWorldWaits (W : Wm) {w0 w : World} {f : List Nat} {L L' : List Asn} (M : Mem w0 f w L) (hd : Del (wld W) L L') :
    Calls Tryz.prog 19 #[.agg (wArr W)] w fun e w' => e = .returned (.int .i64 (worldWaits W.wd)) ∧ Mem w0 f w' (wld W :: L') := by
  have HO := Lib.hid (fun V (L L' : List Asn) (M : Mem w0 f V L) (hd : Del (wld W) L L') => sWorldOk W M hd)
  replace M := M.pull hd
  unfold worldWaits
  clear hd
  cases h : worldOk W.wd with
  | false =>
    rw [h] at HO
    simp only [Bool.false_eq_true, if_false]
    clear h
    go_enter Tryz.func19, Tryz.ntmps19
    go_wp2_with (first | (with_reducible refine alAw M ?_; clear M; (try clear F); intro w1 M F) | (go_at_call 13; (refine nmKw ?_; clear M; (try clear F); intro w1 M F); refine (HO.out _ _ _ M dl).mono ?_; clear M; rintro e w2 ⟨rfl, M⟩; (try clear F); have F := fxw M))
    go_ret
    exact ⟨rfl, (Mem.perm M (.swap _ _ _)).drop⟩
  | true =>
    rw [h] at HO
    simp only [if_true]
    obtain ⟨hl, hfit⟩ := wok_ps h
    have HP := Lib.hid (fun V (M : Mem w0 f V (rowO W.cA W.cC W.code :: rowR W.rA W.rC W.ps :: rowI W.qA W.qC W.queue :: rws W.ps :: L')) => M.packW)
    have HM := Lib.hid (fun k (hk : k < W.ps.length) => (runOk_parts (hfit k hk).ok).2.2.2.2.1)
    have UP := Lib.hid (fun V (L : List Asn) (M : Mem w0 f V (wld W :: L)) => M.unpackW)
    have e0 : W.wd.runs = W.ps.map (·.1) := rfl
    rw [e0]
    clear h hfit e0
    obtain ⟨code, cA, cC, ps, rA, rC, queue, qA, qC, now, sent, taken, lost⟩ := W
    simp only at *
    go_enter Tryz.func19, Tryz.ntmps19
    go_wp2_with (first | (with_reducible refine alAw M ?_; clear M; (try clear F); intro w1 M F) | (go_at_call 13; (refine nmKw ?_; clear M; (try clear F); intro w1 M F); refine (HO.out _ _ _ M dl).mono ?_; clear M; rintro e w2 ⟨rfl, M⟩; (try clear F); have F := fxw M))
    replace M := UP.out _ _ M
    obtain ⟨gr, rfl⟩ := row_form M (.there .here) (by omega)
    go_loopg [3, 4] ps.length (fun gg v i wr => ∃ k : Nat, k ≤ ps.length ∧ ps.length - k ≤ gg ∧ v = .int .i64 (waits ((ps.take k).map (·.1))) ∧ i = .int .i64 k ∧ (0 ≤ waits ((ps.take k).map (·.1)) ∧ waits ((ps.take k).map (·.1)) ≤ 12 * k) ∧ Hid (Mem w0 f wr (rowO cA cC code :: rowR (some ⟨gr, 0, none⟩) rC ps :: rowI qA qC queue :: rws ps :: blk w.heap.size tW [.slice cA code.length cC, .slice (some ⟨gr, 0, none⟩) ps.length rC, .slice qA queue.length qC, .int .i64 now, .int .i64 sent, .int .i64 taken, .int .i64 lost] :: L')))
    case atStart => exact ⟨0, by omega, by omega, rfl, rfl, ⟨Int.le_refl _, Int.le_refl _⟩, M⟩
    case round =>
      clear M F
      obtain ⟨k, hk, hg, rfl, rfl, hb, M⟩ := hrel
      replace M := M.out
      (try clear F); have F := fxw M
      by_cases hlt : k < ps.length
      · have E := (elemR M (.there .here) hlt).2.2.2.2.1
        have e1 := Lib.hid (waits_psS ps hlt)
        have ml := HM.out k hlt
        generalize ps[k] = p at E e1 ml
        obtain ⟨⟨_, _, _, _, mail, _, _, _, _, _, _, _⟩, ⟨_, _, mA, mC, _, _, _, _⟩⟩ := p
        simp only at E e1 ml
        generalize waits ((ps.take k).map (·.1)) = s at hb e1
        have i1 : (0 : Int) ≤ k := by omega
        have i2 : (k : Int) < ps.length := by omega
        have wi : IntKind.i64.wrap (s + (mail.length : Int)) = s + (mail.length : Int) := by rw [IntKind.wrap_i64]; omega
        go_wp2
        go_roundg (ps.length - (k + 1))
        case measure => omega
        case rel => exact ⟨k + 1, by omega, by omega, by rw [e1.out], by go_num, by rw [e1.out]; omega, M⟩
      · have : k = ps.length := by omega
        subst this
        have e := Lib.hid (congrArg (fun l : List (Rn × RA) => waits (l.map (·.1))) (List.take_length (l := ps)))
        go_wp2
        go_ret
        exact ⟨by first | rfl | exact ret_int e.out, HP.out _ (M.perm (L' := rowO cA cC code :: rowR (some ⟨gr, 0, none⟩) rC ps :: rowI qA qC queue :: rws ps :: blk w.heap.size tW _ :: L') (List.Perm.refl _) |> fun M => M.sel sl)⟩
set_option maxHeartbeats 2000000 in
theorem sWorldIdle (W : Wm) {w0 w : World} {f : List Nat} {L L' : List Asn} (M : Mem w0 f w L) (hd : Del (wld W) L L') :
    Calls Tryz.prog 17 #[.agg (wArr W)] w fun e w' => e = .returned (.bool (worldIdle W.wd)) ∧ Mem w0 f w' (wld W :: L') := by
  have HO := Lib.hid (fun V (L L' : List Asn) (M : Mem w0 f V L) (hd : Del (wld W) L L') => sWorldOk W M hd)
  replace M := M.pull hd
  clear hd
  have WI : worldIdle W.wd = (worldOk W.wd && ((W.queue.length : Int) == 0) && !((W.ps.map (·.1)).any dueR)) := rfl
  rw [WI]
  clear WI
  cases h : worldOk W.wd with
  | false =>
    rw [h] at HO
    simp only [Bool.false_and]
    clear h
    go_enter Tryz.func17, Tryz.ntmps17
    go_upto_region 1 with (first | (with_reducible refine alAw M ?_; clear M; (try clear F); intro w1 M F))
    go_wp2_with ((go_at_call 13; (refine nmKw ?_; clear M; (try clear F); intro w1 M F); refine (HO.out _ _ _ M dl).mono ?_; clear M; rintro e w2 ⟨rfl, M⟩; (try clear F); have F := fxw M))
    go_ret
    exact ⟨rfl, (Mem.perm M (.swap _ _ _)).drop⟩
  | true =>
    rw [h] at HO
    simp only [Bool.true_and]
    obtain ⟨hl, hfit⟩ := wok_ps h
    have HP := Lib.hid (fun V (M : Mem w0 f V (rowO W.cA W.cC W.code :: rowR W.rA W.rC W.ps :: rowI W.qA W.qC W.queue :: rws W.ps :: L')) => M.packW)
    have UP := Lib.hid (fun V (L : List Asn) (M : Mem w0 f V (wld W :: L)) => M.unpackW)
    clear h hfit
    obtain ⟨code, cA, cC, ps, rA, rC, queue, qA, qC, now, sent, taken, lost⟩ := W
    simp only at *
    cases queue with
    | cons y ys =>
      have e : (((y :: ys).length : Int) == 0) = false := by simp; omega
      rw [e]
      clear e
      go_enter Tryz.func17, Tryz.ntmps17
      go_upto_region 1 with (first | (with_reducible refine alAw M ?_; clear M; (try clear F); intro w1 M F))
      go_wp2_with ((go_at_call 13; (refine nmKw ?_; clear M; (try clear F); intro w1 M F); refine (HO.out _ _ _ M dl).mono ?_; clear M; rintro e w2 ⟨rfl, M⟩; (try clear F); have F := fxw M))
      go_ret
      exact ⟨rfl, (Mem.perm M (.swap _ _ _)).drop⟩
    | nil =>
      have e : ((([] : List Int).length : Int) == 0) = true := rfl
      rw [e, Bool.true_and]
      clear e
      have RES := Lib.hid (rfl : (ps.map (·.1)).any dueR = (ps.map (·.1)).any dueR)
      have DU : Hid ((∀ j (hj : j < ps.length), dueR ps[j].1 = false) → (ps.map (·.1)).any dueR = false) := fun h => by
        rw [List.any_eq_false]
        intro x hx
        obtain ⟨p, hp, rfl⟩ := List.mem_map.1 hx
        obtain ⟨j, hj, rfl⟩ := List.getElem_of_mem hp
        rw [h j hj]
        simp
      have DN : Hid (∀ j (hj : j < ps.length), dueR ps[j].1 = true → (ps.map (·.1)).any dueR = true) := fun j hj h => by
        rw [List.any_eq_true]
        exact ⟨ps[j].1, List.mem_map.2 ⟨ps[j], List.getElem_mem hj, rfl⟩, h⟩
      generalize (ps.map (·.1)).any dueR = res at DU DN ⊢
      clear RES
      go_enter Tryz.func17, Tryz.ntmps17
      go_upto_region 1 with (first | (with_reducible refine alAw M ?_; clear M; (try clear F); intro w1 M F))
      go_wp2_with ((go_at_call 13; (refine nmKw ?_; clear M; (try clear F); intro w1 M F); refine (HO.out _ _ _ M dl).mono ?_; clear M; rintro e w2 ⟨rfl, M⟩; (try clear F); have F := fxw M))
      replace M := UP.out _ _ M
      obtain ⟨gr, rfl⟩ := row_form M (.there .here) (by omega)
      go_loopg [3] ps.length (fun gg i wr => ∃ k : Nat, k ≤ ps.length ∧ ps.length - k ≤ gg ∧ i = .int .i64 k ∧ Hid (∀ j (hj : j < ps.length), j < k → dueR ps[j].1 = false) ∧ Hid (Mem w0 f wr (rowO cA cC code :: rowR (some ⟨gr, 0, none⟩) rC ps :: rowI qA qC [] :: rws ps :: blk w.heap.size tW [.slice cA code.length cC, .slice (some ⟨gr, 0, none⟩) ps.length rC, .slice qA ([] : List Int).length qC, .int .i64 now, .int .i64 sent, .int .i64 taken, .int .i64 lost] :: L')))
      case atStart => exact ⟨0, by omega, by omega, rfl, fun j _ h => absurd h (by omega), M⟩
      case round =>
        clear M F
        obtain ⟨k, hk, hg, rfl, HA, M⟩ := hrel
        replace M := M.out
        (try clear F); have F := fxw M
        by_cases hlt : k < ps.length
        · have E5 := (elemR M (.there .here) hlt).2.2.2.2.2.1
          have E6 := (elemR M (.there .here) hlt).2.2.2.2.2.2.1
          have YES : Hid (dueR ps[k].1 = false → ∀ j (hj : j < ps.length), j < k + 1 → dueR ps[j].1 = false) := fun h j hj hjk => by
            by_cases he : j = k
            · subst he; exact h
            · exact HA.out j hj (by omega)
          have NO := Lib.hid (DN.out k hlt)
          clear HA
          generalize ps[k] = p at E5 E6 YES NO
          obtain ⟨⟨_, _, _, _, _, state, due, _, _, _, _, _⟩, _⟩ := p
          simp only [dueR] at E5 E6 YES NO
          have i1 : (0 : Int) ≤ k := by omega
          have i2 : (k : Int) < ps.length := by omega
          by_cases hs : state = 2
          · subst hs
            cases hd : decide (0 < due) with
            | true =>
              have hno := Lib.hid (NO.out (by rw [hd]; rfl))
              clear NO YES
              go_wp2
              go_ret
              exact ⟨ret_bool (by rw [hno.out]; rfl), HP.out _ (M.sel sl)⟩
            | false =>
              have hyes := Lib.hid (YES.out (by rw [hd]; rfl))
              clear NO YES
              go_wp2
              go_roundg (ps.length - (k + 1))
              case measure => omega
              case rel => exact ⟨k + 1, by omega, by omega, by go_num, hyes, M⟩
          · have hs2 : (state == 2) = false := by simpa using hs
            have hyes := Lib.hid (YES.out (by rw [hs2]; rfl))
            clear NO YES hs
            go_wp2
            go_roundg (ps.length - (k + 1))
            case measure => omega
            case rel => exact ⟨k + 1, by omega, by omega, by go_num, hyes, M⟩
        · have : k = ps.length := by omega
          subst this
          have e := Lib.hid (DU.out (fun j hj => HA.out j hj hj))
          clear DU DN HA
          go_wp2
          go_ret
          exact ⟨ret_bool (by rw [e.out]; rfl), HP.out _ (M.sel sl)⟩
end Go.Proofs.YtomolbhcggaakaaGreat
