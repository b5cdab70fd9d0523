/- Parts of the proof, in one text. -/
import Derived.Test.YtomolbhcggaakaaGreatG46
import Derived.Test.YtomolbhcggaakaaGreatG47
import Derived.Test.YtomolbhcggaakaaGreatG40
/- When a world is ok: its runs, its queue, its links, its sum. -/
namespace Go.Proofs.YtomolbhcggaakaaGreat
open Go.RowKit
set_option maxRecDepth 100000
attribute [local go_sem ↓] Go.wp_at_zero Go.wp_at_succ

theorem waits_take {l : List Rn} {k : Nat} (hk : k < l.length) : waits (l.take (k + 1)) = waits (l.take k) + (l[k].mail.length : Int) := by
  induction l generalizing k with
  | nil => simp at hk
  | cons r l ih =>
    cases k with
    | zero => simp [waits]
    | succ k =>
      have := ih (k := k) (by simpa using hk)
      simp only [List.take_succ_cons, waits, List.getElem_cons_succ, this]
      omega
theorem fits_all {w : Wd} {F : List Int} (h : ∀ j (hj : j < w.runs.length), runFits w F j w.runs[j] = true) : fitsFrom w F 0 w.runs = true := fitsFrom_iff.2 (fun k hk => by rw [Nat.zero_add]; exact h k hk)
theorem fits_not {w : Wd} {F : List Int} {j : Nat} (hj : j < w.runs.length) (h : runFits w F j w.runs[j] = false) : fitsFrom w F 0 w.runs = false := by
  cases hx : fitsFrom w F 0 w.runs with
  | false => rfl
  | true =>
    have := fitsFrom_iff.1 hx j hj
    rw [Nat.zero_add, h] at this
    cases this
theorem linked_all {l : List Rn} (h : ∀ a b, b < a → a < l.length → linkedWith l a b = true) : linkedAll l = true := by
  unfold linkedAll
  simp only [List.all_eq_true, List.mem_range]
  exact fun a ha b hb => h a b hb ha
theorem linked_not {l : List Rn} {a b : Nat} (hb : b < a) (ha : a < l.length) (h : linkedWith l a b = false) : linkedAll l = false := by
  cases hx : linkedAll l with
  | false => rfl
  | true =>
    unfold linkedAll at hx
    simp only [List.all_eq_true, List.mem_range] at hx
    rw [hx a ha b hb] at h
    cases h
theorem linked_ps {ps : List (Rn × RA)} {a b : Nat} (ha : a < ps.length) (hb : b < ps.length) : linkedWith (ps.map (·.1)) a b = (inL ps[a].1.links ((b : Int) + 1) == inL ps[b].1.links ((a : Int) + 1)) := by
  unfold linkedWith
  rw [getD_eq (by simpa using ha), getD_eq (by simpa using hb)]
  simp [inL]
theorem gates_parts {w : Wd} (h : gates w = true) : codeSafe w.code = true ∧ (1 ≤ (w.runs.length : Int) ∧ (w.runs.length : Int) ≤ 6) ∧ (0 ≤ w.now ∧ w.now ≤ 300) ∧ (0 ≤ w.sent ∧ w.sent ≤ 9999) ∧ (0 ≤ w.taken ∧ w.taken ≤ 9999) ∧ (0 ≤ w.lost ∧ w.lost ≤ 9999) ∧ idsOk w.queue 0 = true := by
  simp only [gates, Bool.and_eq_true, inB_iff] at h
  obtain ⟨⟨⟨⟨⟨⟨h1, h2⟩, h3⟩, h4⟩, h5⟩, h6⟩, h7⟩ := h
  exact ⟨h1, h2, h3, h4, h5, h6, h7⟩
theorem safe_ok {c : List Opx} (h : codeSafe c = true) : codeOk c = true := by
  unfold codeSafe at h
  exact (Bool.and_eq_true_iff.1 h).1
set_option maxHeartbeats 2000000 in
theorem sWorldOk_pass (W : Wm) {w0 w : World} {f : List Nat} {L : List Asn} (M : Mem w0 f w (wld W :: L)) (hg : gates W.wd = true) :
    Calls Tryz.prog 13 #[.agg (wArr W)] w fun e w' => e = .returned (.bool (worldOk W.wd)) ∧ Mem w0 f w' (wld W :: L) := by
  have HP := Lib.hid (fun V (M : Mem w0 f V (rowO W.cA W.cC W.code :: rowR W.rA W.rC W.ps :: rowI W.qA W.qC W.queue :: rws W.ps :: L)) => M.packW)
  replace M := M.unpackW
  obtain ⟨p1, p2, p3, p4, p5, p6, p7⟩ := gates_parts hg
  have e3 : W.wd.runs.length = W.ps.length := by simp [Wm.wd]
  rw [e3] at p2
  replace p1 : codeSafe W.code = true := p1
  replace p3 : 0 ≤ W.now ∧ W.now ≤ 300 := p3
  replace p4 : 0 ≤ W.sent ∧ W.sent ≤ 9999 := p4
  replace p5 : 0 ≤ W.taken ∧ W.taken ≤ 9999 := p5
  replace p6 : 0 ≤ W.lost ∧ W.lost ≤ 9999 := p6
  replace p7 : idsOk W.queue 0 = true := p7
  have WE := Lib.hid (worldOk_eq W.wd)
  have hWE : Hid (worldOk W.wd = (fitsFrom W.wd (fullOf W.code) 0 (W.ps.map (·.1)) && W.queue.all (fun q => decide (q ≤ (W.ps.length : Int))) && linkedAll (W.ps.map (·.1)) && W.sent == W.taken + W.lost + waits (W.ps.map (·.1)))) := by
    unfold Hid
    have hx := WE.out
    unfold gates at hg
    rw [hg, Bool.true_and] at hx
    rw [hx]
    simp [Wm.wd]
  clear WE hg
  have C1 := codeOk_parts (safe_ok p1)
  have SET := Lib.hid (settled_of p1)
  have HC := Lib.hid (fun V (L L' : List Asn) (M : Mem w0 f V L) (hd : Del (rowO W.cA W.cC W.code) L L') => sCodeSafe W.code W.cA W.cC (M.pull hd))
  rw [show codeSafe W.code = true from p1] at HC
  have HN := Lib.hid (fun V => sIn W.ps.length 1 6 V)
  rw [inB_iff.2 p2] at HN
  have HNow := Lib.hid (fun V => sIn W.now 0 300 V)
  rw [inB_iff.2 p3] at HNow
  have HS := Lib.hid (fun V => sIn W.sent 0 9999 V)
  rw [inB_iff.2 p4] at HS
  have HT := Lib.hid (fun V => sIn W.taken 0 9999 V)
  rw [inB_iff.2 p5] at HT
  have HL := Lib.hid (fun V => sIn W.lost 0 9999 V)
  rw [inB_iff.2 p6] at HL
  have HQ := Lib.hid (fun V (L L' : List Asn) (M : Mem w0 f V L) (hd : Del (rowI W.qA W.qC W.queue) L L') => sIds W.queue 0 W.qA W.qC V.heap.size V (readsI M hd) (row_reads M hd).2.1 (Nat.le_refl _))
  rw [show idsOk W.queue 0 = true from p7] at HQ
  have HF := Lib.hid (fun V (L L' : List Asn) (M : Mem w0 f V L) (hd : Del (rowO W.cA W.cC W.code) L L') => sFull W.code W.cA W.cC (M.pull hd) C1.1 C1.2.1 C1.2.2)
  have hFl : (fullOf W.code).length = W.code.length := SET.out.1.1
  have hFb : Bits (fullOf W.code) := SET.out.1.2.1
  have H12 := Lib.hid (fun V (fA : Option Addr) (fC : Nat) (L : List Asn) (M : Mem w0 f V (rowI fA fC (fullOf W.code) :: rowO W.cA W.cC W.code :: rowR W.rA W.rC W.ps :: rowI W.qA W.qC W.queue :: rws W.ps :: L)) (k : Nat) (hk : k < W.ps.length) => sRun12 W (fullOf W.code) fA fC k hk (by omega) V.heap.size V (Mem.rw_ M.drop) (readsI M .here) hFl hFb (Nat.le_refl _))
  have HLK := Lib.hid (fun V (L : List Asn) (M : Mem w0 f V (rowO W.cA W.cC W.code :: rowR W.rA W.rC W.ps :: rowI W.qA W.qC W.queue :: rws W.ps :: L)) (a b : Nat) (ha : a < W.ps.length) (hb : b < W.ps.length) => sLinked W a b ha hb V.heap.size V (Mem.rw_ M) (Nat.le_refl _) (by omega))
  have FLN := Lib.hid hFl
  have hq6 := len6 p7
  clear p7 p1 C1 SET hFl hFb e3 p3
  obtain ⟨gr, hgr⟩ := row_form M (.there .here) (by omega)
  obtain ⟨code, cA, cC, ps, rA, rC, queue, qA, qC, now, sent, taken, lost⟩ := W
  simp only [Wm.wd] at *
  subst hgr
  rw [FLN.out] at H12
  go_enter Tryz.func13, Tryz.ntmps13
  go_upto_region 4 with (first
      | ((with_reducible refine goal_alloc (G := fun W => wpList _ _ _ _ _ W) M ?_); clear M; intro w1 M; (try clear F); have F := M.facts; simp only [And.intro FX FXw] at F)
      | (go_at_call 44; (apply goal_name (G := fun W => Calls _ _ _ W _)); (repeat (first | with_reducible exact M | with_reducible apply Mem.drew | with_reducible apply Mem.drewN | with_reducible apply Mem.allocD | with_reducible apply Mem.setV | with_reducible apply Mem.setD | with_reducible exact Del.here | with_reducible apply Del.there | with_reducible assumption)); clear M; intro w1 M; skip; (try clear F); have F := M.facts; simp only [And.intro FX FXw] at F; refine (HC.out _ _ _ M (by repeat (first | with_reducible exact Del.here | with_reducible apply Del.there))).mono ?_; clear M; rintro e w2 ⟨rfl, M⟩; (try clear F); have F := M.facts; simp only [And.intro FX FXw] at F)
      | (go_at_call 45; with_reducible refine (HN.out _).mono ?_; rintro e w2 ⟨rfl, rfl⟩)
      | (go_at_call 45; with_reducible refine (HNow.out _).mono ?_; rintro e w2 ⟨rfl, rfl⟩)
      | (go_at_call 45; with_reducible refine (HS.out _).mono ?_; rintro e w2 ⟨rfl, rfl⟩)
      | (go_at_call 45; with_reducible refine (HT.out _).mono ?_; rintro e w2 ⟨rfl, rfl⟩)
      | (go_at_call 45; with_reducible refine (HL.out _).mono ?_; rintro e w2 ⟨rfl, rfl⟩)
      | (go_at_call 46; (apply goal_name (G := fun W => Calls _ _ _ W _)); (repeat (first | with_reducible exact M | with_reducible apply Mem.drew | with_reducible apply Mem.drewN | with_reducible apply Mem.allocD | with_reducible apply Mem.setV | with_reducible apply Mem.setD | with_reducible exact Del.here | with_reducible apply Del.there | with_reducible assumption)); clear M; intro w1 M; (try simp only [LX] at M); (try clear F); have F := M.facts; simp only [And.intro FX FXw] at F; refine (HQ.out _ _ _ M (by repeat (first | with_reducible exact Del.here | with_reducible apply Del.there))).mono ?_; rintro e w2 ⟨rfl, hb⟩; replace M := M.below hb; clear hb; (try clear F); have F := M.facts; simp only [And.intro FX FXw] at F)
      | (go_at_call 47; (apply goal_name (G := fun W => Calls _ _ _ W _)); (repeat (first | with_reducible exact M | with_reducible apply Mem.drew | with_reducible apply Mem.drewN | with_reducible apply Mem.allocD | with_reducible apply Mem.setV | with_reducible apply Mem.setD | with_reducible exact Del.here | with_reducible apply Del.there | with_reducible assumption)); clear M; intro w1 M; (try simp only [LX] at M); (try clear F); have F := M.facts; simp only [And.intro FX FXw] at F; refine (HF.out _ _ _ M (by repeat (first | with_reducible exact Del.here | with_reducible apply Del.there))).mono ?_; clear M; rintro e w2 ⟨fA, fC, rfl, M⟩; (try clear F); have F := M.facts; simp only [And.intro FX FXw] at F))
  go_cut [1, 2, 3, 4] from 9 (fun s1 s2 s3 s4 wx => ∃ (g1 : Nat) (fA : Option Addr) (fC : Nat), s1 = .pointer (some ⟨g1, 0, none⟩) ∧ s2 = .bool false ∧ s3 = .slice fA code.length fC ∧ s4 = .int .i64 0 ∧ Mem w0 f wx (blk g1 tW [.slice cA code.length cC, .slice (some ⟨gr, 0, none⟩) ps.length rC, .slice qA queue.length qC, .int .i64 now, .int .i64 sent, .int .i64 taken, .int .i64 lost] :: rowI fA fC (fullOf code) :: rowO cA cC code :: rowR (some ⟨gr, 0, none⟩) rC ps :: rowI qA qC queue :: rws ps :: L))
  case first =>
    go_wp2
    go_meet
    case rel => exact ⟨_, _, _, rfl, rfl, rfl, rfl, M.sel (by repeat (first | with_reducible exact Sel.refl | with_reducible exact Sel.nil | (with_reducible refine Sel.cons (by repeat (first | with_reducible exact Del.here | with_reducible apply Del.there)) ?_) | with_reducible apply Sel.drop))⟩
  clear M
  obtain ⟨g1, fA, fC, rfl, rfl, rfl, rfl, M⟩ := hcut
  (try clear F); have F := M.facts; simp only [And.intro FX FXw] at F
  clear HC HN HNow HS HT HL HQ HF
  go_wp2
  go_loopg [4, 5] ps.length (fun gg s4 s5 wr => ∃ k : Nat, k ≤ ps.length ∧ ps.length - k ≤ gg ∧ s5 = .int .i64 k ∧ s4 = .int .i64 (waits ((ps.map (·.1)).take k)) ∧ (0 ≤ waits ((ps.map (·.1)).take k) ∧ waits ((ps.map (·.1)).take k) ≤ 12 * k) ∧ Hid (∀ j (hj : j < ps.length), j < k → runFits ⟨code, ps.map (·.1), queue, now, sent, taken, lost⟩ (fullOf code) j ps[j].1 = true) ∧ Hid (Mem w0 f wr (blk g1 tW [.slice cA code.length cC, .slice (some ⟨gr, 0, none⟩) ps.length rC, .slice qA queue.length qC, .int .i64 now, .int .i64 sent, .int .i64 taken, .int .i64 lost] :: rowI fA fC (fullOf code) :: rowO cA cC code :: rowR (some ⟨gr, 0, none⟩) rC ps :: rowI qA qC queue :: rws ps :: L)))
  case atStart => exact ⟨0, by omega, by omega, rfl, rfl, ⟨Int.le_refl _, Int.le_refl _⟩, fun j _ h => absurd h (by omega), M⟩
  case round =>
    clear M
    obtain ⟨k, hk, hgg, rfl, rfl, hsum, HFI, M⟩ := hrel
    replace M := M.out
    (try clear F); have F := M.facts; simp only [And.intro FX FXw] at F
    by_cases hlt : k < ps.length
    · have k1 : (0 : Int) ≤ k := by omega
      have k2 : (k : Int) < ps.length := by omega
      have hlt2 : k < (ps.map (·.1)).length := by simpa using hlt
      have WT := waits_take (l := ps.map (·.1)) hlt2
      have NO : Hid (runFits ⟨code, ps.map (·.1), queue, now, sent, taken, lost⟩ (fullOf code) k ps[k].1 = false → worldOk ⟨code, ps.map (·.1), queue, now, sent, taken, lost⟩ = false) := fun h => by
        rw [hWE.out, fits_not (j := k) hlt2 (by simpa using h)]
        rfl
      have YES : Hid (runFits ⟨code, ps.map (·.1), queue, now, sent, taken, lost⟩ (fullOf code) k ps[k].1 = true → ∀ j (hj : j < ps.length), j < k + 1 → runFits ⟨code, ps.map (·.1), queue, now, sent, taken, lost⟩ (fullOf code) j ps[j].1 = true) := fun h j hj hjk => by
        by_cases he : j = k
        · subst he; exact h
        · exact HFI.out j hj (by omega)
      have OKM : Hid (runFits ⟨code, ps.map (·.1), queue, now, sent, taken, lost⟩ (fullOf code) k ps[k].1 = true → ps[k].1.mail.length ≤ 12) := fun h => (runOk_parts (runFits_iff.1 h).ok).2.2.2.2.1
      have HR := Lib.hid (fun V (L : List Asn) M => H12.out V fA fC L M k hlt)
      have RE := Lib.hid (fun V (L L' : List Asn) (M : Mem w0 f V L) (hd : Del (rowR (some ⟨gr, 0, none⟩) rC ps) L L') => (elemR M hd hlt).2.2.2.2.1)
      have em : (ps.map (·.1))[k] = ps[k].1 := by simp
      rw [em] at WT
      clear em hlt2
      have hWT := Lib.hid WT
      clear WT HFI
      generalize waits ((ps.map (·.1)).take k) = sk at hsum hWT
      generalize runFits ⟨code, ps.map (·.1), queue, now, sent, taken, lost⟩ (fullOf code) k ps[k].1 = x at NO YES OKM HR
      generalize ps[k] = p at RE OKM hWT
      obtain ⟨pr, pa⟩ := p
      simp only at RE OKM hWT
      have E4 := RE.out _ _ _ M (by repeat (first | with_reducible exact Del.here | with_reducible apply Del.there))
      cases x with
      | false =>
        have hno := Lib.hid (NO.out rfl)
        clear NO YES OKM
        go_wp2_with ((go_at_call 48; (apply goal_name (G := fun W => Calls _ _ _ W _)); (repeat (first | with_reducible exact M | with_reducible apply Mem.drew | with_reducible apply Mem.drewN | with_reducible apply Mem.allocD | with_reducible apply Mem.setV | with_reducible apply Mem.setD | with_reducible exact Del.here | with_reducible apply Del.there | with_reducible assumption)); clear M; intro w1 M; (try simp only [LX] at M); (try clear F); have F := M.facts; simp only [And.intro FX FXw] at F; refine (HR.out _ _ M.drop).mono ?_; rintro e w2 ⟨rfl, hb⟩; replace M := M.below hb; clear hb; (try clear F); have F := M.facts; simp only [And.intro FX FXw] at F))
        go_ret
        exact ⟨ret_bool hno.out.symm, HP.out _ M.drop.drop⟩
      | true =>
        have hyes := Lib.hid (YES.out rfl)
        have hm12 := OKM.out rfl
        clear NO YES OKM
        go_wp2_with ((go_at_call 48; (apply goal_name (G := fun W => Calls _ _ _ W _)); (repeat (first | with_reducible exact M | with_reducible apply Mem.drew | with_reducible apply Mem.drewN | with_reducible apply Mem.allocD | with_reducible apply Mem.setV | with_reducible apply Mem.setD | with_reducible exact Del.here | with_reducible apply Del.there | with_reducible assumption)); clear M; intro w1 M; (try simp only [LX] at M); (try clear F); have F := M.facts; simp only [And.intro FX FXw] at F; refine (HR.out _ _ M.drop).mono ?_; rintro e w2 ⟨rfl, hb⟩; replace M := M.below hb; clear hb; (try clear F); have F := M.facts; simp only [And.intro FX FXw] at F; clear E4; have E4 := RE.out _ _ _ M (by repeat (first | with_reducible exact Del.here | with_reducible apply Del.there))))
        go_roundg (ps.length - (k + 1))
        case measure => omega
        case rel => exact ⟨k + 1, by omega, by omega, by go_num, by rw [hWT.out], by rw [hWT.out]; omega, hyes, M⟩
    · have hkn : k = ps.length := by omega
      subst hkn
      have hfit := Lib.hid (fits_all (w := ⟨code, ps.map (·.1), queue, now, sent, taken, lost⟩) (F := fullOf code) (fun j hj => by simpa using HFI.out j (by simpa using hj) (by simpa using hj)))
      have htk : (ps.map (·.1)).take ps.length = ps.map (·.1) := by rw [List.take_of_length_le (by simp)]
      rw [htk] at hsum
      rw [htk]
      clear htk HFI H12
      have hs72 : waits (ps.map (·.1)) ≤ 72 := by omega
      have hs0 := hsum.1
      clear hsum
      generalize waits (ps.map (·.1)) = sw at hs0 hs72 hWE ⊢
      go_wp2
      go_loopg [6] queue.length (fun gg s6 wr => ∃ k : Nat, k ≤ queue.length ∧ queue.length - k ≤ gg ∧ s6 = .int .i64 k ∧ Hid (∀ j (hj : j < queue.length), j < k → queue[j] ≤ (ps.length : Int)) ∧ Hid (Mem w0 f wr (blk g1 tW [.slice cA code.length cC, .slice (some ⟨gr, 0, none⟩) ps.length rC, .slice qA queue.length qC, .int .i64 now, .int .i64 sent, .int .i64 taken, .int .i64 lost] :: rowI fA fC (fullOf code) :: rowO cA cC code :: rowR (some ⟨gr, 0, none⟩) rC ps :: rowI qA qC queue :: rws ps :: L)))
      case atStart => exact ⟨0, by omega, by omega, rfl, fun j _ h => absurd h (by omega), M⟩
      case round =>
        clear M
        obtain ⟨k, hk, hgg, rfl, HQK, M⟩ := hrel
        replace M := M.out
        (try clear F); have F := M.facts; simp only [And.intro FX FXw] at F
        by_cases hlt : k < queue.length
        · obtain ⟨gq, hgq⟩ := row_form M (.there (.there (.there (.there .here)))) (by omega)
          subst hgq
          have k1 : (0 : Int) ≤ k := by omega
          have k2 : (k : Int) < queue.length := by omega
          have HE := Lib.hid (fun V (M : Mem w0 f V (blk g1 tW [.slice cA code.length cC, .slice (some ⟨gr, 0, none⟩) ps.length rC, .slice (some ⟨gq, 0, none⟩) queue.length qC, .int .i64 now, .int .i64 sent, .int .i64 taken, .int .i64 lost] :: rowI fA fC (fullOf code) :: rowO cA cC code :: rowR (some ⟨gr, 0, none⟩) rC ps :: rowI (some ⟨gq, 0, none⟩) qC queue :: rws ps :: L)) => (elemI M (.there (.there (.there (.there .here)))) hlt).1)
          have NO : Hid ((ps.length : Int) < queue[k] → worldOk ⟨code, ps.map (·.1), queue, now, sent, taken, lost⟩ = false) := fun h => by
            have : queue.all (fun q => decide (q ≤ (ps.length : Int))) = false := by
              rw [List.all_eq_false]
              exact ⟨queue[k], List.getElem_mem hlt, by simpa using h⟩
            rw [hWE.out, this, Bool.and_false]
            rfl
          have YES : Hid (¬ (ps.length : Int) < queue[k] → ∀ j (hj : j < queue.length), j < k + 1 → queue[j] ≤ (ps.length : Int)) := fun h j hj hjk => by
            by_cases he : j = k
            · subst he; omega
            · exact HQK.out j hj (by omega)
          clear HQK
          generalize queue[k] = y at HE NO YES
          by_cases hy : (ps.length : Int) < y
          · have hno := Lib.hid (NO.out hy)
            have d1 : decide ((ps.length : Int) < y) = true := decide_eq_true hy
            clear NO YES
            go_wp2
            refine held_begin (S := (fun W => (∀ j, W.cell? ⟨g1, j, none⟩ = ([.slice cA code.length cC, .slice (some ⟨gr, 0, none⟩) ps.length rC, .slice (some ⟨gq, 0, none⟩) queue.length qC, .int .i64 now, .int .i64 sent, .int .i64 taken, .int .i64 lost] : List Value)[j]?) ∧ W.cell? ⟨gq, k, none⟩ = some (.int .i64 y))) (by kernel_rfl) (fun _ _ _ _ _ h => h) (by (refine ⟨?_, HE.out _ (by (repeat (first | with_reducible exact M | with_reducible apply Mem.drew | with_reducible apply Mem.drewN | with_reducible apply Mem.allocD | with_reducible apply Mem.setV | with_reducible apply Mem.setD | with_reducible exact Del.here | with_reducible apply Del.there | with_reducible assumption)))⟩; (apply Mem.cells; (repeat (first | with_reducible exact M | with_reducible apply Mem.drew | with_reducible apply Mem.drewN | with_reducible apply Mem.allocD | with_reducible apply Mem.setV | with_reducible apply Mem.setD | with_reducible exact Del.here | with_reducible apply Del.there | with_reducible assumption))))) (fun HQ hHeld => ?_)
            (refine take_yes (v := ?_) HQ hHeld 0 rfl rfl (by kernel_rfl) (by kernel_rfl) ?_ ?_; rotate_left; focus (intro W hSw; (try dsimp only at hSw); go_simp; (try with_reducible rfl))); (try simp only [Act.put, List.setIfInBounds_toArray, List.set_cons_zero, List.set_cons_succ]); (refine take_yes (v := ?_) HQ hHeld 1 rfl rfl (by kernel_rfl) (by kernel_rfl) ?_ ?_; rotate_left; focus (intro W hSw; (try dsimp only at hSw); go_simp; (try with_reducible rfl))); (try simp only [Act.put, List.setIfInBounds_toArray, List.set_cons_zero, List.set_cons_succ]); (refine take_yes (v := ?_) HQ hHeld 2 rfl rfl (by kernel_rfl) (by kernel_rfl) ?_ ?_; rotate_left; focus (intro W hSw; (try dsimp only at hSw); go_simp; (try with_reducible rfl))); (try simp only [Act.put, List.setIfInBounds_toArray, List.set_cons_zero, List.set_cons_succ]); (refine take_yes (v := ?_) HQ hHeld 3 rfl rfl (by kernel_rfl) (by kernel_rfl) ?_ ?_; rotate_left; focus (intro W hSw; (try dsimp only at hSw); go_simp; (try with_reducible rfl))); (try simp only [Act.put, List.setIfInBounds_toArray, List.set_cons_zero, List.set_cons_succ]); (refine take_yes (v := ?_) HQ hHeld 4 rfl rfl (by kernel_rfl) (by kernel_rfl) ?_ ?_; rotate_left; focus (intro W hSw; (try dsimp only at hSw); go_simp; (try with_reducible rfl))); (try simp only [Act.put, List.setIfInBounds_toArray, List.set_cons_zero, List.set_cons_succ]); (refine take_yes (v := ?_) HQ hHeld 5 rfl rfl (by kernel_rfl) (by kernel_rfl) ?_ ?_; rotate_left; focus (intro W hSw; (try dsimp only at hSw); go_simp; (try with_reducible rfl))); (try simp only [Act.put, List.setIfInBounds_toArray, List.set_cons_zero, List.set_cons_succ]); (refine take_yes (v := ?_) HQ hHeld 6 rfl rfl (by kernel_rfl) (by kernel_rfl) ?_ ?_; rotate_left; focus (intro W hSw; (try dsimp only at hSw); go_simp; (try with_reducible rfl))); (try simp only [Act.put, List.setIfInBounds_toArray, List.set_cons_zero, List.set_cons_succ]); (refine take_yes (v := ?_) HQ hHeld 7 rfl rfl (by kernel_rfl) (by kernel_rfl) ?_ ?_; rotate_left; focus (intro W hSw; (try dsimp only at hSw); go_simp; (try with_reducible rfl))); (try simp only [Act.put, List.setIfInBounds_toArray, List.set_cons_zero, List.set_cons_succ]); (refine take_yes (v := ?_) HQ hHeld 8 rfl rfl (by kernel_rfl) (by kernel_rfl) ?_ ?_; rotate_left; focus (intro W hSw; (try dsimp only at hSw); go_simp; (try with_reducible rfl))); (try simp only [Act.put, List.setIfInBounds_toArray, List.set_cons_zero, List.set_cons_succ])
            refine wpAnyH_done (by kernel_rfl) ?_ _; clear HQ; (repeat clear hHeld)
            go_wp2
            go_ret
            exact ⟨ret_bool hno.out.symm, HP.out _ (Mem.drew M).drop.drop⟩
          · have hyes := Lib.hid (YES.out hy)
            have d1 : decide ((ps.length : Int) < y) = false := decide_eq_false hy
            clear NO YES
            go_wp2
            refine held_begin (S := (fun W => (∀ j, W.cell? ⟨g1, j, none⟩ = ([.slice cA code.length cC, .slice (some ⟨gr, 0, none⟩) ps.length rC, .slice (some ⟨gq, 0, none⟩) queue.length qC, .int .i64 now, .int .i64 sent, .int .i64 taken, .int .i64 lost] : List Value)[j]?) ∧ W.cell? ⟨gq, k, none⟩ = some (.int .i64 y))) (by kernel_rfl) (fun _ _ _ _ _ h => h) (by (refine ⟨?_, HE.out _ (by (repeat (first | with_reducible exact M | with_reducible apply Mem.drew | with_reducible apply Mem.drewN | with_reducible apply Mem.allocD | with_reducible apply Mem.setV | with_reducible apply Mem.setD | with_reducible exact Del.here | with_reducible apply Del.there | with_reducible assumption)))⟩; (apply Mem.cells; (repeat (first | with_reducible exact M | with_reducible apply Mem.drew | with_reducible apply Mem.drewN | with_reducible apply Mem.allocD | with_reducible apply Mem.setV | with_reducible apply Mem.setD | with_reducible exact Del.here | with_reducible apply Del.there | with_reducible assumption))))) (fun HQ hHeld => ?_)
            (refine take_yes (v := ?_) HQ hHeld 0 rfl rfl (by kernel_rfl) (by kernel_rfl) ?_ ?_; rotate_left; focus (intro W hSw; (try dsimp only at hSw); go_simp; (try with_reducible rfl))); (try simp only [Act.put, List.setIfInBounds_toArray, List.set_cons_zero, List.set_cons_succ]); (refine take_yes (v := ?_) HQ hHeld 1 rfl rfl (by kernel_rfl) (by kernel_rfl) ?_ ?_; rotate_left; focus (intro W hSw; (try dsimp only at hSw); go_simp; (try with_reducible rfl))); (try simp only [Act.put, List.setIfInBounds_toArray, List.set_cons_zero, List.set_cons_succ]); (refine take_yes (v := ?_) HQ hHeld 2 rfl rfl (by kernel_rfl) (by kernel_rfl) ?_ ?_; rotate_left; focus (intro W hSw; (try dsimp only at hSw); go_simp; (try with_reducible rfl))); (try simp only [Act.put, List.setIfInBounds_toArray, List.set_cons_zero, List.set_cons_succ]); (refine take_yes (v := ?_) HQ hHeld 3 rfl rfl (by kernel_rfl) (by kernel_rfl) ?_ ?_; rotate_left; focus (intro W hSw; (try dsimp only at hSw); go_simp; (try with_reducible rfl))); (try simp only [Act.put, List.setIfInBounds_toArray, List.set_cons_zero, List.set_cons_succ]); (refine take_yes (v := ?_) HQ hHeld 4 rfl rfl (by kernel_rfl) (by kernel_rfl) ?_ ?_; rotate_left; focus (intro W hSw; (try dsimp only at hSw); go_simp; (try with_reducible rfl))); (try simp only [Act.put, List.setIfInBounds_toArray, List.set_cons_zero, List.set_cons_succ]); (refine take_yes (v := ?_) HQ hHeld 5 rfl rfl (by kernel_rfl) (by kernel_rfl) ?_ ?_; rotate_left; focus (intro W hSw; (try dsimp only at hSw); go_simp; (try with_reducible rfl))); (try simp only [Act.put, List.setIfInBounds_toArray, List.set_cons_zero, List.set_cons_succ]); (refine take_yes (v := ?_) HQ hHeld 6 rfl rfl (by kernel_rfl) (by kernel_rfl) ?_ ?_; rotate_left; focus (intro W hSw; (try dsimp only at hSw); go_simp; (try with_reducible rfl))); (try simp only [Act.put, List.setIfInBounds_toArray, List.set_cons_zero, List.set_cons_succ]); (refine take_yes (v := ?_) HQ hHeld 7 rfl rfl (by kernel_rfl) (by kernel_rfl) ?_ ?_; rotate_left; focus (intro W hSw; (try dsimp only at hSw); go_simp; (try with_reducible rfl))); (try simp only [Act.put, List.setIfInBounds_toArray, List.set_cons_zero, List.set_cons_succ]); (refine take_yes (v := ?_) HQ hHeld 8 rfl rfl (by kernel_rfl) (by kernel_rfl) ?_ ?_; rotate_left; focus (intro W hSw; (try dsimp only at hSw); go_simp; (try with_reducible rfl))); (try simp only [Act.put, List.setIfInBounds_toArray, List.set_cons_zero, List.set_cons_succ])
            refine wpAnyH_done (by kernel_rfl) ?_ _; clear HQ; (repeat clear hHeld)
            go_wp2
            go_roundg (queue.length - (k + 1))
            case measure => omega
            case rel => exact ⟨k + 1, by omega, by omega, by go_num, hyes, Mem.drew M⟩
        · have hkn : k = queue.length := by omega
          subst hkn
          have hqall : queue.all (fun q => decide (q ≤ (ps.length : Int))) = true := by
            rw [List.all_eq_true]
            intro y hy
            obtain ⟨j, hj, rfl⟩ := List.getElem_of_mem hy
            exact decide_eq_true (HQK.out j hj hj)
          have HQA := Lib.hid hqall
          clear hqall HQK
          go_wp2
          go_loopg [7] ps.length (fun gg s7 wr => ∃ a : Nat, a ≤ ps.length ∧ ps.length - a ≤ gg ∧ s7 = .int .i64 a ∧ Hid (∀ x y, y < x → x < a → linkedWith (ps.map (·.1)) x y = true) ∧ Hid (Mem w0 f wr (blk g1 tW [.slice cA code.length cC, .slice (some ⟨gr, 0, none⟩) ps.length rC, .slice qA queue.length qC, .int .i64 now, .int .i64 sent, .int .i64 taken, .int .i64 lost] :: rowI fA fC (fullOf code) :: rowO cA cC code :: rowR (some ⟨gr, 0, none⟩) rC ps :: rowI qA qC queue :: rws ps :: L)))
          case atStart => exact ⟨0, by omega, by omega, rfl, fun x y _ h => absurd h (by omega), M⟩
          case round =>
            clear M
            obtain ⟨a, ha, hga, rfl, HLA, M⟩ := hrel
            replace M := M.out
            (try clear F); have F := M.facts; simp only [And.intro FX FXw] at F
            by_cases hla : a < ps.length
            · have a1 : (0 : Int) ≤ a := by omega
              have a2 : (a : Int) < ps.length := by omega
              go_wp2
              go_loopg [8] a (fun gg s8 wr => ∃ b : Nat, b ≤ a ∧ a - b ≤ gg ∧ s8 = .int .i64 b ∧ Hid (∀ y, y < b → linkedWith (ps.map (·.1)) a y = true) ∧ Hid (Mem w0 f wr (blk g1 tW [.slice cA code.length cC, .slice (some ⟨gr, 0, none⟩) ps.length rC, .slice qA queue.length qC, .int .i64 now, .int .i64 sent, .int .i64 taken, .int .i64 lost] :: rowI fA fC (fullOf code) :: rowO cA cC code :: rowR (some ⟨gr, 0, none⟩) rC ps :: rowI qA qC queue :: rws ps :: L)))
              case atStart => exact ⟨0, by omega, by omega, rfl, fun y h => absurd h (by omega), M⟩
              case round =>
                clear M
                obtain ⟨b, hb, hgb, rfl, HLB, M⟩ := hrel
                replace M := M.out
                (try clear F); have F := M.facts; simp only [And.intro FX FXw] at F
                by_cases hlb : b < a
                · have b1 : (0 : Int) ≤ b := by omega
                  have b2 : decide (b < a) = true := decide_eq_true hlb
                  have HK := Lib.hid (fun V (L : List Asn) M => HLK.out V L M a b hla (by omega))
                  rw [← linked_ps hla (by omega)] at HK
                  have NO : Hid (linkedWith (ps.map (·.1)) a b = false → worldOk ⟨code, ps.map (·.1), queue, now, sent, taken, lost⟩ = false) := fun h => by
                    rw [hWE.out, linked_not hlb (by simpa using hla) h, Bool.and_false]
                    rfl
                  have YES : Hid (linkedWith (ps.map (·.1)) a b = true → ∀ y, y < b + 1 → linkedWith (ps.map (·.1)) a y = true) := fun h y hy => by
                    by_cases he : y = b
                    · subst he; exact h
                    · exact HLB.out y (by omega)
                  clear HLB
                  generalize linkedWith (ps.map (·.1)) a b = x at HK NO YES
                  cases x with
                  | false =>
                    have hno := Lib.hid (NO.out rfl)
                    clear NO YES
                    go_wp2_with ((go_at_call 49; (apply goal_name (G := fun W => Calls _ _ _ W _)); (repeat (first | with_reducible exact M | with_reducible apply Mem.drew | with_reducible apply Mem.drewN | with_reducible apply Mem.allocD | with_reducible apply Mem.setV | with_reducible apply Mem.setD | with_reducible exact Del.here | with_reducible apply Del.there | with_reducible assumption)); clear M; intro w1 M; (try simp only [LX] at M); (try clear F); have F := M.facts; simp only [And.intro FX FXw] at F; refine (HK.out _ _ M.drop.drop).mono ?_; rintro e w2 ⟨rfl, hb⟩; replace M := M.below hb; clear hb; (try clear F); have F := M.facts; simp only [And.intro FX FXw] at F))
                    go_ret
                    exact ⟨ret_bool hno.out.symm, HP.out _ M.drop.drop⟩
                  | true =>
                    have hyes := Lib.hid (YES.out rfl)
                    clear NO YES
                    go_wp2_with ((go_at_call 49; (apply goal_name (G := fun W => Calls _ _ _ W _)); (repeat (first | with_reducible exact M | with_reducible apply Mem.drew | with_reducible apply Mem.drewN | with_reducible apply Mem.allocD | with_reducible apply Mem.setV | with_reducible apply Mem.setD | with_reducible exact Del.here | with_reducible apply Del.there | with_reducible assumption)); clear M; intro w1 M; (try simp only [LX] at M); (try clear F); have F := M.facts; simp only [And.intro FX FXw] at F; refine (HK.out _ _ M.drop.drop).mono ?_; rintro e w2 ⟨rfl, hb⟩; replace M := M.below hb; clear hb; (try clear F); have F := M.facts; simp only [And.intro FX FXw] at F))
                    go_roundg (a - (b + 1))
                    case measure => omega
                    case rel => exact ⟨b + 1, by omega, by omega, by go_num, hyes, M⟩
                · have hbn : b = a := by omega
                  subst hbn
                  have hyes : Hid (∀ x y, y < x → x < b + 1 → linkedWith (ps.map (·.1)) x y = true) := fun x y hy hx => by
                    by_cases he : x = b
                    · subst he; exact HLB.out y hy
                    · exact HLA.out x y hy (by omega)
                  clear HLB HLA
                  go_wp2
                  go_roundg (ps.length - (b + 1))
                  case measure => omega
                  case rel => exact ⟨b + 1, by omega, by omega, by go_num, hyes, M⟩
            · have han : a = ps.length := by omega
              subst han
              have hfin : Hid (worldOk ⟨code, ps.map (·.1), queue, now, sent, taken, lost⟩ = (sent == taken + lost + sw)) := by
                unfold Hid
                rw [hWE.out, HQA.out, linked_all (l := ps.map (·.1)) (fun x y hy hx => HLA.out x y hy (by simpa using hx)), hfit.out]
                simp
              clear HLA
              go_wp2
              go_ret
              exact ⟨ret_bool hfin.out.symm, HP.out _ M.drop.drop⟩
theorem sWorldOk (W : Wm) {w0 w : World} {f : List Nat} {L L' : List Asn} (M : Mem w0 f w L) (hd : Del (wld W) L L') :
    Calls Tryz.prog 13 #[.agg (wArr W)] w fun e w' => e = .returned (.bool (worldOk W.wd)) ∧ Mem w0 f w' (wld W :: L') := by
  cases h : gates W.wd with
  | false => exact sWorldOk_early W (M.pull hd) h
  | true => exact sWorldOk_pass W (M.pull hd) h
end Go.Proofs.YtomolbhcggaakaaGreat
/- How many values wait in a world, by the program's text. -/
namespace Go.Proofs.YtomolbhcggaakaaGreat
open Go.RowKit
set_option maxRecDepth 100000

theorem waits_ps (ps : List (Rn × RA)) {k : Nat} (hk : k < ps.length) : waits ((ps.take (k + 1)).map (·.1)) = waits ((ps.take k).map (·.1)) + (ps[k].1.mail.length : Int) := by
  have h := waits_take (l := ps.map (·.1)) (k := k) (by simpa using hk)
  rw [List.map_take, List.map_take]
  simpa using h
set_option maxHeartbeats 1000000 in
theorem iWaiting (W : Wm) (B : Nat) (w : World) (h : RW w B W) (hB : B ≤ w.heap.size) (h6 : W.ps.length ≤ 6) :
    Calls Tryz.prog 55 #[.agg (wArr W)] w fun e w' => e = .returned (.int .i64 (waits W.wd.runs)) ∧ Below w.heap.size w w' := by
  have AL := add_lit0
  have RR : Hid (∀ V, Below w.heap.size w V → ∀ k (hk : k < W.ps.length), ∃ g, W.rA = some ⟨g, 0, none⟩ ∧ RunAt V g (k * 13) W.ps[k].1 W.ps[k].2) := fun V hv k hk => by
    obtain ⟨g, e1, e2, e3⟩ := h.runs k hk
    exact ⟨g, e1, e3.below (hv.mono hB) e2⟩
  have ML : Hid (∀ k (hk : k < W.ps.length), W.ps[k].1.mail.length ≤ 140737488355328) := fun k hk => (h.each k hk).mail.2.1
  have e0 : W.wd.runs = W.ps.map (·.1) := rfl
  rw [e0]
  clear h hB e0
  have M := Mem.nil w
  obtain ⟨code, cA, cC, ps, rA, rC, queue, qA, qC, now, sent, taken, lost⟩ := W
  simp only at *
  have RES := Lib.hid (rfl : waits (ps.map (·.1)) = waits (ps.map (·.1)))
  go_enter Tryz.func55, Tryz.ntmps55
  go_wp2_with (first | ((with_reducible refine goal_alloc (G := fun W => wpList _ _ _ _ _ W) M ?_); clear M; intro w1 M; (try clear F); have F := M.facts; simp only [And.intro FX FXw] at F))
  go_loopg [3, 9] ps.length (fun gg v i wr => ∃ k : Nat, k ≤ ps.length ∧ ps.length - k ≤ gg ∧ v = .int .i64 (waits ((ps.take k).map (·.1))) ∧ i = .int .i64 k ∧ (0 ≤ waits ((ps.take k).map (·.1)) ∧ waits ((ps.take k).map (·.1)) ≤ 140737488355328 * k) ∧ Hid (Below w.heap.size w wr))
  case atStart => exact ⟨0, Nat.zero_le _, by omega, rfl, rfl, ⟨Int.le_refl _, Int.le_refl _⟩, M.toBelow⟩
  case round =>
    clear M F
    obtain ⟨k, hk, hg, rfl, rfl, hb, BW⟩ := hrel
    by_cases hlt : k < ps.length
    · obtain ⟨g, rfl, E⟩ := RR.out _ BW.out k hlt
      have e1 := waits_ps ps hlt
      have ml := ML.out k hlt
      generalize ps[k] = p at E e1 ml
      obtain ⟨⟨id, at_, slots, full, mail, state, due, links, watched, trap, ⟨wk, wn⟩, turns⟩, ⟨sA, sC, mA, mC, lA, lC, wA, wC⟩⟩ := p
      simp only [RunAt] at E e1 ml
      have e1 := Lib.hid e1
      generalize waits ((ps.take k).map (·.1)) = s at hb e1
      have i1 : (0 : Int) ≤ k := by omega
      have i2 : (k : Int) < ps.length := by omega
      have wi : IntKind.i64.wrap (s + (mail.length : Int)) = s + (mail.length : Int) := by rw [IntKind.wrap_i64]; omega
      have M := Mem.nil wr
      go_wp2_with (first | ((with_reducible refine goal_alloc (G := fun W => wpList _ _ _ _ _ W) M ?_); clear M; intro w1 M; (try clear F); have F := M.facts; simp only [And.intro FX FXw] at F) | ((with_reducible apply ev_store (M := M)); rfl; rfl; ((conv => lhs; whnf) <;> rfl); rfl; (first | exact siI | exact siR | exact siV | exact siB | exact siSI | exact siSV | exact siW | exact siSR | exact siSO | exact siO); (exact one_all rfl); (repeat (first | with_reducible exact Del.here | with_reducible apply Del.there)); (exact Nat.le_of_ble_eq_true rfl); clear M; intro w1 M; simp only [SX] at M; (try clear F); have F := M.facts; simp only [And.intro FX FXw] at F))
      go_roundg (ps.length - (k + 1))
      case measure => omega
      case rel => exact ⟨k + 1, by omega, by omega, by rw [e1.out], by go_num, by rw [e1.out]; omega, below_step BW.out M.toBelow⟩
    · have : k = ps.length := by omega
      subst this
      have e := Lib.hid (congrArg (fun l : List (Rn × RA) => waits (l.map (·.1))) (List.take_length (l := ps)))
      go_wp2
      go_ret
      exact ⟨by first | rfl | exact ret_int e.out, BW.out⟩
end Go.Proofs.YtomolbhcggaakaaGreat
