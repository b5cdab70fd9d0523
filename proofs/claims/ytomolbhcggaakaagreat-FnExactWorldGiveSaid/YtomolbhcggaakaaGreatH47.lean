/- Parts of the proof, in one text. -/
import Derived.Deep.Cut
import Derived.Test.YtomolbhcggaakaaGreatH46
/- When a world is ok, by the program's text: the tests ahead of the runs. -/
namespace Go.Proofs.YtomolbhcggaakaaGreat
open Go.RowKit
set_option maxRecDepth 100000
attribute [local go_sem ↓] Go.wp_at_zero Go.wp_at_succ

theorem worldOkI_parts (w : Wd) : worldOkI w = (codeSafe w.code && inB w.runs.length 1 6 && inB w.now 0 300 && inB w.sent 0 9999 && inB w.taken 0 9999 && inB w.lost 0 9999 && w.sent == w.taken + w.lost + waits w.runs && fitsFromI w (fullOf w.code) 0 w.runs && (w.queue.length : Int) == going w.runs) := rfl
theorem gate3 : ∀ x1 x2 x3 : Bool, (x1 && x2 && x3) = false → x1 = false ∨ (x1 = true ∧ x2 = false) ∨ (x1 = true ∧ x2 = true ∧ x3 = false) := by decide
theorem gate4 : ∀ x1 x2 x3 x4 : Bool, (x1 && x2 && x3 && x4) = false → x1 = false ∨ (x1 = true ∧ x2 = false) ∨ (x1 = true ∧ x2 = true ∧ x3 = false) ∨ (x1 = true ∧ x2 = true ∧ x3 = true ∧ x4 = false) := by decide
set_option maxHeartbeats 4000000 in
theorem iWorldOk_a (W : Wm) {w0 w : World} {f : List Nat} {L : List Asn} (M : Mem w0 f w (wld W :: L)) (hg : (codeSafe W.code && inB W.ps.length 1 6 && inB W.now 0 300) = false) :
    Calls Tryz.prog 15 #[.agg (wArr W)] w fun e w' => e = .returned (.bool (worldOk W.wd)) ∧ Mem w0 f w' (wld W :: L) := by
  have hno : worldOk W.wd = false := by
    rw [← worldOkI_eq, worldOkI_parts]
    have e1 : W.wd.code = W.code := rfl
    have e2 : W.wd.runs.length = W.ps.length := by simp [Wm.wd]
    have e3 : W.wd.now = W.now := rfl
    rw [e1, e2, e3, hg]
    simp
  rw [hno]
  clear hno
  have HP := Lib.hid (fun V (M : Mem w0 f V (rowO W.cA W.cC W.code :: rowR W.rA W.rC W.ps :: rowI W.qA W.qC W.queue :: rws W.ps :: L)) => M.packW)
  replace M := M.unpackW
  have HC := Lib.hid (fun V (L L' : List Asn) (M : Mem w0 f V L) (hd : Del (rowO W.cA W.cC W.code) L L') => iCodeSafe W.code W.cA W.cC (M.pull hd))
  have HN := Lib.hid (fun V => iIn W.ps.length 1 6 V)
  have HNow := Lib.hid (fun V => iIn W.now 0 300 V)
  obtain ⟨code, cA, cC, ps, rA, rC, queue, qA, qC, now, sent, taken, lost⟩ := W
  simp only at *
  generalize codeSafe code = x1 at *
  generalize inB (ps.length : Int) 1 6 = x2 at *
  generalize inB now 0 300 = x3 at *
  have hx := gate3 x1 x2 x3 hg
  clear hg
  rcases hx with rfl | ⟨rfl, rfl⟩ | ⟨rfl, rfl, rfl⟩
  all_goals
    go_enter Tryz.func15, Tryz.ntmps15
    go_wp2_with (first
      | (with_reducible refine alA M ?_; clear M; (try clear F); intro w1 M F)
      | (go_at_call 53; (refine nmK ?_; clear M; (try clear F); intro w1 M F); refine (HC.out _ _ _ M dl).mono ?_; clear M; rintro e w2 ⟨rfl, M⟩; (try clear F); have F := fx M)
      | (go_at_call 54; with_reducible refine (HN.out _).mono ?_; rintro e w2 ⟨rfl, rfl⟩)
      | (go_at_call 54; with_reducible refine (HNow.out _).mono ?_; rintro e w2 ⟨rfl, rfl⟩))
    go_ret
    exact ⟨rfl, HP.out _ (M.sel sl)⟩
set_option maxHeartbeats 4000000 in
theorem iWorldOk_b (W : Wm) {w0 w : World} {f : List Nat} {L : List Asn} (M : Mem w0 f w (wld W :: L)) (hg1 : codeSafe W.code = true) (hg2 : inB W.ps.length 1 6 = true) (hg3 : inB W.now 0 300 = true) (hg : (inB W.sent 0 9999 && inB W.taken 0 9999 && inB W.lost 0 9999 && W.sent == W.taken + W.lost + waits W.wd.runs) = false) :
    Calls Tryz.prog 15 #[.agg (wArr W)] w fun e w' => e = .returned (.bool (worldOk W.wd)) ∧ Mem w0 f w' (wld W :: L) := by
  have hno : worldOk W.wd = false := by
    rw [← worldOkI_eq, worldOkI_parts]
    have e1 : W.wd.sent = W.sent := rfl
    have e2 : W.wd.taken = W.taken := rfl
    have e3 : W.wd.lost = W.lost := rfl
    rw [e1, e2, e3]
    generalize waits W.wd.runs = s at hg ⊢
    generalize inB W.sent 0 9999 = x1 at *
    generalize inB W.taken 0 9999 = x2 at *
    generalize inB W.lost 0 9999 = x3 at *
    generalize (W.sent == W.taken + W.lost + s) = x4 at *
    generalize (codeSafe W.wd.code && inB W.wd.runs.length 1 6 && inB W.wd.now 0 300) = y
    generalize fitsFromI W.wd (fullOf W.wd.code) 0 W.wd.runs = z
    generalize ((W.wd.queue.length : Int) == going W.wd.runs) = u
    revert hg
    cases x1 <;> cases x2 <;> cases x3 <;> cases x4 <;> cases y <;> cases z <;> cases u <;> decide
  rw [hno]
  clear hno
  have HP := Lib.hid (fun V (M : Mem w0 f V (rowO W.cA W.cC W.code :: rowR W.rA W.rC W.ps :: rowI W.qA W.qC W.queue :: rws W.ps :: L)) => M.packW)
  replace M := M.unpackW
  have HC := Lib.hid (fun V (L L' : List Asn) (M : Mem w0 f V L) (hd : Del (rowO W.cA W.cC W.code) L L') => iCodeSafe W.code W.cA W.cC (M.pull hd))
  rw [hg1] at HC
  have HN := Lib.hid (fun V => iIn W.ps.length 1 6 V)
  rw [hg2] at HN
  have HNow := Lib.hid (fun V => iIn W.now 0 300 V)
  rw [hg3] at HNow
  have p2 := inB_iff.1 hg2
  have HS := Lib.hid (fun V => iIn W.sent 0 9999 V)
  have HT := Lib.hid (fun V => iIn W.taken 0 9999 V)
  have HL := Lib.hid (fun V => iIn W.lost 0 9999 V)
  have HWT := Lib.hid (fun V (B : Asn) (L : List Asn) (M : Mem w0 f V (B :: rowO W.cA W.cC W.code :: rowR W.rA W.rC W.ps :: rowI W.qA W.qC W.queue :: rws W.ps :: L)) => iWaiting W V.heap.size V (Mem.rw_ M.drop) (Nat.le_refl _) (by omega))
  have wrng : W.sent ≤ 9999 → True := fun _ => trivial
  have SB : ∀ s : Int, (W.taken + W.lost + s) = (W.taken + W.lost + s) := fun _ => rfl
  clear SB wrng
  have WB : 0 ≤ waits W.wd.runs ∧ waits W.wd.runs ≤ 844424930131968 := by
    have key : ∀ (l : List (Rn × RA)), (∀ k (hk : k < l.length), l[k].1.mail.length ≤ 140737488355328) → 0 ≤ waits (l.map (·.1)) ∧ waits (l.map (·.1)) ≤ 140737488355328 * (l.length : Int) := by
      intro l
      induction l with
      | nil => intro _; simp [waits]
      | cons p l ih =>
        intro h
        have h1 := ih (fun k hk => h (k + 1) (by simpa using hk))
        have h2 := h 0 (by simp)
        simp only [List.map_cons, waits, List.length_cons, List.getElem_cons_zero] at h1 h2 ⊢
        omega
    have h := key W.ps (fun k hk => ((rws_reads (M.is (.there (.there (.there .here)))) hk).1).mail.2.1)
    have e : W.wd.runs = W.ps.map (·.1) := rfl
    rw [e]
    omega
  generalize waits W.wd.runs = sw at hg HWT WB
  obtain ⟨code, cA, cC, ps, rA, rC, queue, qA, qC, now, sent, taken, lost⟩ := W
  simp only at *
  have LT : Hid (inB taken 0 9999 = true → inB lost 0 9999 = true → IntKind.i64.wrap (taken + lost) = taken + lost ∧ IntKind.i64.wrap (taken + lost + sw) = taken + lost + sw) := fun h1 h2 => by
    have h1 := inB_iff.1 h1
    have h2 := inB_iff.1 h2
    rw [IntKind.wrap_i64, IntKind.wrap_i64] <;> omega
  generalize hx1 : inB sent 0 9999 = x1 at *
  generalize hx2 : inB taken 0 9999 = x2 at *
  generalize hx3 : inB lost 0 9999 = x3 at *
  clear hx1 hx2 hx3
  generalize hx4 : (sent == taken + lost + sw) = x4 at *
  have hx := gate4 x1 x2 x3 x4 hg
  clear hg hg1 hg2 hg3 p2 WB
  have NX : x4 = false → (sent != taken + lost + sw) = true := fun h => by rw [← hx4] at h; simp [bne, h]
  have NX := Lib.hid NX
  clear hx4
  go_enter Tryz.func15, Tryz.ntmps15
  go_upto_region 3 with (first
      | (with_reducible refine alA M ?_; clear M; (try clear F); intro w1 M F)
      | (go_at_call 53; (refine nmK ?_; clear M; (try clear F); intro w1 M F); refine (HC.out _ _ _ M dl).mono ?_; clear M; rintro e w2 ⟨rfl, M⟩; (try clear F); have F := fx M)
      | (go_at_call 54; with_reducible refine (HN.out _).mono ?_; rintro e w2 ⟨rfl, rfl⟩)
      | (go_at_call 54; with_reducible refine (HNow.out _).mono ?_; rintro e w2 ⟨rfl, rfl⟩))
  clear F
  generalize w.heap.size = g1 at M ⊢
  replace M := M.sel (T := (blk g1 tW [.slice cA code.length cC, .slice rA ps.length rC, .slice qA queue.length qC, .int .i64 now, .int .i64 sent, .int .i64 taken, .int .i64 lost] :: rowO cA cC code :: rowR rA rC ps :: rowI qA qC queue :: rws ps :: L)) sl
  (try clear F); have F := fx M
  clear HC HN HNow
  rcases hx with rfl | ⟨rfl, rfl⟩ | ⟨rfl, rfl, rfl⟩ | ⟨rfl, rfl, rfl, rfl⟩
  · clear NX LT
    refine held_begin (S := (fun W => ∀ j, W.cell? ⟨g1, j, none⟩ = ([.slice cA code.length cC, .slice rA ps.length rC, .slice qA queue.length qC, .int .i64 now, .int .i64 sent, .int .i64 taken, .int .i64 lost] : List Value)[j]?)) (by kernel_rfl) (fun _ _ _ _ _ h => h) (by (exact kc)) (fun HQ hHeld => ?_)
    refine tkY HQ hHeld 0 ?_; refine tkY HQ hHeld 1 ?_
    refine stp 2 (fun K hK => ?_); go_simp
    (first | (go_at_call 54; (refine nmK ?_; clear M; (try clear F); intro w1 M F); with_reducible refine (HS.out _).mono ?_; rintro e w2 ⟨rfl, rfl⟩) | (go_at_call 54; (refine nmK ?_; clear M; (try clear F); intro w1 M F); with_reducible refine (HT.out _).mono ?_; rintro e w2 ⟨rfl, rfl⟩) | (go_at_call 54; (refine nmK ?_; clear M; (try clear F); intro w1 M F); with_reducible refine (HL.out _).mono ?_; rintro e w2 ⟨rfl, rfl⟩) | (go_at_call 55; (refine nmK ?_; clear M; (try clear F); intro w1 M F); refine (HWT.out _ _ _ M).mono ?_; rintro e w2 ⟨rfl, hb⟩; replace M := M.below hb; clear hb; (try clear F); have F := fx M))
    (try go_wp2_with fail); refine hK.out _ _ (by (exact kc)) (fun hHeld => ?_); clear hK K; (try simp only [AX])
    refine tkY HQ hHeld 3 ?_; refine tkY HQ hHeld 4 ?_; refine tkN HQ hHeld 5 ?_; refine tkN HQ hHeld 6 ?_; refine tkN HQ hHeld 7 ?_; refine tkN HQ hHeld 8 ?_; refine tkY HQ hHeld 9 ?_; refine tkY HQ hHeld 10 ?_; refine tkN HQ hHeld 11 ?_; refine tkN HQ hHeld 12 ?_; refine tkN HQ hHeld 13 ?_; refine tkN HQ hHeld 14 ?_; refine tkY HQ hHeld 15 ?_; refine tkY HQ hHeld 16 ?_; refine tkN HQ hHeld 17 ?_; refine tkN HQ hHeld 18 ?_; refine tkN HQ hHeld 19 ?_; refine tkN HQ hHeld 20 ?_; refine tkN HQ hHeld 21 ?_; refine tkN HQ hHeld 22 ?_; refine tkN HQ hHeld 23 ?_; refine tkN HQ hHeld 24 ?_; refine tkN HQ hHeld 25 ?_; refine tkN HQ hHeld 26 ?_; refine tkN HQ hHeld 27 ?_; refine tkY HQ hHeld 28 ?_
    refine wpAnyH_done (by kernel_rfl) ?_ _; clear HQ; (repeat clear hHeld)
    go_wp2
    go_ret
    exact ⟨rfl, HP.out _ M.drop⟩
  · clear NX LT
    refine held_begin (S := (fun W => ∀ j, W.cell? ⟨g1, j, none⟩ = ([.slice cA code.length cC, .slice rA ps.length rC, .slice qA queue.length qC, .int .i64 now, .int .i64 sent, .int .i64 taken, .int .i64 lost] : List Value)[j]?)) (by kernel_rfl) (fun _ _ _ _ _ h => h) (by (exact kc)) (fun HQ hHeld => ?_)
    refine tkY HQ hHeld 0 ?_; refine tkY HQ hHeld 1 ?_
    refine stp 2 (fun K hK => ?_); go_simp
    (first | (go_at_call 54; (refine nmK ?_; clear M; (try clear F); intro w1 M F); with_reducible refine (HS.out _).mono ?_; rintro e w2 ⟨rfl, rfl⟩) | (go_at_call 54; (refine nmK ?_; clear M; (try clear F); intro w1 M F); with_reducible refine (HT.out _).mono ?_; rintro e w2 ⟨rfl, rfl⟩) | (go_at_call 54; (refine nmK ?_; clear M; (try clear F); intro w1 M F); with_reducible refine (HL.out _).mono ?_; rintro e w2 ⟨rfl, rfl⟩) | (go_at_call 55; (refine nmK ?_; clear M; (try clear F); intro w1 M F); refine (HWT.out _ _ _ M).mono ?_; rintro e w2 ⟨rfl, hb⟩; replace M := M.below hb; clear hb; (try clear F); have F := fx M))
    (try go_wp2_with fail); refine hK.out _ _ (by (exact kc)) (fun hHeld => ?_); clear hK K; (try simp only [AX])
    refine tkY HQ hHeld 3 ?_; refine tkY HQ hHeld 4 ?_; refine tkY HQ hHeld 5 ?_; refine tkY HQ hHeld 6 ?_
    refine stp 7 (fun K hK => ?_); go_simp
    (first | (go_at_call 54; (refine nmK ?_; clear M; (try clear F); intro w1 M F); with_reducible refine (HS.out _).mono ?_; rintro e w2 ⟨rfl, rfl⟩) | (go_at_call 54; (refine nmK ?_; clear M; (try clear F); intro w1 M F); with_reducible refine (HT.out _).mono ?_; rintro e w2 ⟨rfl, rfl⟩) | (go_at_call 54; (refine nmK ?_; clear M; (try clear F); intro w1 M F); with_reducible refine (HL.out _).mono ?_; rintro e w2 ⟨rfl, rfl⟩) | (go_at_call 55; (refine nmK ?_; clear M; (try clear F); intro w1 M F); refine (HWT.out _ _ _ M).mono ?_; rintro e w2 ⟨rfl, hb⟩; replace M := M.below hb; clear hb; (try clear F); have F := fx M))
    (try go_wp2_with fail); refine hK.out _ _ (by (exact kc)) (fun hHeld => ?_); clear hK K; (try simp only [AX])
    refine tkY HQ hHeld 8 ?_; refine tkY HQ hHeld 9 ?_; refine tkY HQ hHeld 10 ?_; refine tkN HQ hHeld 11 ?_; refine tkN HQ hHeld 12 ?_; refine tkN HQ hHeld 13 ?_; refine tkN HQ hHeld 14 ?_; refine tkY HQ hHeld 15 ?_; refine tkY HQ hHeld 16 ?_; refine tkN HQ hHeld 17 ?_; refine tkN HQ hHeld 18 ?_; refine tkN HQ hHeld 19 ?_; refine tkN HQ hHeld 20 ?_; refine tkN HQ hHeld 21 ?_; refine tkN HQ hHeld 22 ?_; refine tkN HQ hHeld 23 ?_; refine tkN HQ hHeld 24 ?_; refine tkN HQ hHeld 25 ?_; refine tkN HQ hHeld 26 ?_; refine tkN HQ hHeld 27 ?_; refine tkY HQ hHeld 28 ?_
    refine wpAnyH_done (by kernel_rfl) ?_ _; clear HQ; (repeat clear hHeld)
    go_wp2
    go_ret
    exact ⟨rfl, HP.out _ M.drop⟩
  · clear NX LT
    refine held_begin (S := (fun W => ∀ j, W.cell? ⟨g1, j, none⟩ = ([.slice cA code.length cC, .slice rA ps.length rC, .slice qA queue.length qC, .int .i64 now, .int .i64 sent, .int .i64 taken, .int .i64 lost] : List Value)[j]?)) (by kernel_rfl) (fun _ _ _ _ _ h => h) (by (exact kc)) (fun HQ hHeld => ?_)
    refine tkY HQ hHeld 0 ?_; refine tkY HQ hHeld 1 ?_
    refine stp 2 (fun K hK => ?_); go_simp
    (first | (go_at_call 54; (refine nmK ?_; clear M; (try clear F); intro w1 M F); with_reducible refine (HS.out _).mono ?_; rintro e w2 ⟨rfl, rfl⟩) | (go_at_call 54; (refine nmK ?_; clear M; (try clear F); intro w1 M F); with_reducible refine (HT.out _).mono ?_; rintro e w2 ⟨rfl, rfl⟩) | (go_at_call 54; (refine nmK ?_; clear M; (try clear F); intro w1 M F); with_reducible refine (HL.out _).mono ?_; rintro e w2 ⟨rfl, rfl⟩) | (go_at_call 55; (refine nmK ?_; clear M; (try clear F); intro w1 M F); refine (HWT.out _ _ _ M).mono ?_; rintro e w2 ⟨rfl, hb⟩; replace M := M.below hb; clear hb; (try clear F); have F := fx M))
    (try go_wp2_with fail); refine hK.out _ _ (by (exact kc)) (fun hHeld => ?_); clear hK K; (try simp only [AX])
    refine tkY HQ hHeld 3 ?_; refine tkY HQ hHeld 4 ?_; refine tkY HQ hHeld 5 ?_; refine tkY HQ hHeld 6 ?_
    refine stp 7 (fun K hK => ?_); go_simp
    (first | (go_at_call 54; (refine nmK ?_; clear M; (try clear F); intro w1 M F); with_reducible refine (HS.out _).mono ?_; rintro e w2 ⟨rfl, rfl⟩) | (go_at_call 54; (refine nmK ?_; clear M; (try clear F); intro w1 M F); with_reducible refine (HT.out _).mono ?_; rintro e w2 ⟨rfl, rfl⟩) | (go_at_call 54; (refine nmK ?_; clear M; (try clear F); intro w1 M F); with_reducible refine (HL.out _).mono ?_; rintro e w2 ⟨rfl, rfl⟩) | (go_at_call 55; (refine nmK ?_; clear M; (try clear F); intro w1 M F); refine (HWT.out _ _ _ M).mono ?_; rintro e w2 ⟨rfl, hb⟩; replace M := M.below hb; clear hb; (try clear F); have F := fx M))
    (try go_wp2_with fail); refine hK.out _ _ (by (exact kc)) (fun hHeld => ?_); clear hK K; (try simp only [AX])
    refine tkY HQ hHeld 8 ?_; refine tkY HQ hHeld 9 ?_; refine tkY HQ hHeld 10 ?_; refine tkY HQ hHeld 11 ?_; refine tkY HQ hHeld 12 ?_
    refine stp 13 (fun K hK => ?_); go_simp
    (first | (go_at_call 54; (refine nmK ?_; clear M; (try clear F); intro w1 M F); with_reducible refine (HS.out _).mono ?_; rintro e w2 ⟨rfl, rfl⟩) | (go_at_call 54; (refine nmK ?_; clear M; (try clear F); intro w1 M F); with_reducible refine (HT.out _).mono ?_; rintro e w2 ⟨rfl, rfl⟩) | (go_at_call 54; (refine nmK ?_; clear M; (try clear F); intro w1 M F); with_reducible refine (HL.out _).mono ?_; rintro e w2 ⟨rfl, rfl⟩) | (go_at_call 55; (refine nmK ?_; clear M; (try clear F); intro w1 M F); refine (HWT.out _ _ _ M).mono ?_; rintro e w2 ⟨rfl, hb⟩; replace M := M.below hb; clear hb; (try clear F); have F := fx M))
    (try go_wp2_with fail); refine hK.out _ _ (by (exact kc)) (fun hHeld => ?_); clear hK K; (try simp only [AX])
    refine tkY HQ hHeld 14 ?_; refine tkY HQ hHeld 15 ?_; refine tkY HQ hHeld 16 ?_; refine tkN HQ hHeld 17 ?_; refine tkN HQ hHeld 18 ?_; refine tkN HQ hHeld 19 ?_; refine tkN HQ hHeld 20 ?_; refine tkN HQ hHeld 21 ?_; refine tkN HQ hHeld 22 ?_; refine tkN HQ hHeld 23 ?_; refine tkN HQ hHeld 24 ?_; refine tkN HQ hHeld 25 ?_; refine tkN HQ hHeld 26 ?_; refine tkN HQ hHeld 27 ?_; refine tkY HQ hHeld 28 ?_
    refine wpAnyH_done (by kernel_rfl) ?_ _; clear HQ; (repeat clear hHeld)
    go_wp2
    go_ret
    exact ⟨rfl, HP.out _ M.drop⟩
  · have NX := NX.out rfl
    have LT1 := (LT.out rfl rfl).1
    have LT2 := (LT.out rfl rfl).2
    clear LT
    refine held_begin (S := (fun W => ∀ j, W.cell? ⟨g1, j, none⟩ = ([.slice cA code.length cC, .slice rA ps.length rC, .slice qA queue.length qC, .int .i64 now, .int .i64 sent, .int .i64 taken, .int .i64 lost] : List Value)[j]?)) (by kernel_rfl) (fun _ _ _ _ _ h => h) (by (exact kc)) (fun HQ hHeld => ?_)
    refine tkY HQ hHeld 0 ?_; refine tkY HQ hHeld 1 ?_
    refine stp 2 (fun K hK => ?_); go_simp
    (first | (go_at_call 54; (refine nmK ?_; clear M; (try clear F); intro w1 M F); with_reducible refine (HS.out _).mono ?_; rintro e w2 ⟨rfl, rfl⟩) | (go_at_call 54; (refine nmK ?_; clear M; (try clear F); intro w1 M F); with_reducible refine (HT.out _).mono ?_; rintro e w2 ⟨rfl, rfl⟩) | (go_at_call 54; (refine nmK ?_; clear M; (try clear F); intro w1 M F); with_reducible refine (HL.out _).mono ?_; rintro e w2 ⟨rfl, rfl⟩) | (go_at_call 55; (refine nmK ?_; clear M; (try clear F); intro w1 M F); refine (HWT.out _ _ _ M).mono ?_; rintro e w2 ⟨rfl, hb⟩; replace M := M.below hb; clear hb; (try clear F); have F := fx M))
    (try go_wp2_with fail); refine hK.out _ _ (by (exact kc)) (fun hHeld => ?_); clear hK K; (try simp only [AX])
    refine tkY HQ hHeld 3 ?_; refine tkY HQ hHeld 4 ?_; refine tkY HQ hHeld 5 ?_; refine tkY HQ hHeld 6 ?_
    refine stp 7 (fun K hK => ?_); go_simp
    (first | (go_at_call 54; (refine nmK ?_; clear M; (try clear F); intro w1 M F); with_reducible refine (HS.out _).mono ?_; rintro e w2 ⟨rfl, rfl⟩) | (go_at_call 54; (refine nmK ?_; clear M; (try clear F); intro w1 M F); with_reducible refine (HT.out _).mono ?_; rintro e w2 ⟨rfl, rfl⟩) | (go_at_call 54; (refine nmK ?_; clear M; (try clear F); intro w1 M F); with_reducible refine (HL.out _).mono ?_; rintro e w2 ⟨rfl, rfl⟩) | (go_at_call 55; (refine nmK ?_; clear M; (try clear F); intro w1 M F); refine (HWT.out _ _ _ M).mono ?_; rintro e w2 ⟨rfl, hb⟩; replace M := M.below hb; clear hb; (try clear F); have F := fx M))
    (try go_wp2_with fail); refine hK.out _ _ (by (exact kc)) (fun hHeld => ?_); clear hK K; (try simp only [AX])
    refine tkY HQ hHeld 8 ?_; refine tkY HQ hHeld 9 ?_; refine tkY HQ hHeld 10 ?_; refine tkY HQ hHeld 11 ?_; refine tkY HQ hHeld 12 ?_
    refine stp 13 (fun K hK => ?_); go_simp
    (first | (go_at_call 54; (refine nmK ?_; clear M; (try clear F); intro w1 M F); with_reducible refine (HS.out _).mono ?_; rintro e w2 ⟨rfl, rfl⟩) | (go_at_call 54; (refine nmK ?_; clear M; (try clear F); intro w1 M F); with_reducible refine (HT.out _).mono ?_; rintro e w2 ⟨rfl, rfl⟩) | (go_at_call 54; (refine nmK ?_; clear M; (try clear F); intro w1 M F); with_reducible refine (HL.out _).mono ?_; rintro e w2 ⟨rfl, rfl⟩) | (go_at_call 55; (refine nmK ?_; clear M; (try clear F); intro w1 M F); refine (HWT.out _ _ _ M).mono ?_; rintro e w2 ⟨rfl, hb⟩; replace M := M.below hb; clear hb; (try clear F); have F := fx M))
    (try go_wp2_with fail); refine hK.out _ _ (by (exact kc)) (fun hHeld => ?_); clear hK K; (try simp only [AX])
    refine tkY HQ hHeld 14 ?_; refine tkY HQ hHeld 15 ?_; refine tkY HQ hHeld 16 ?_; refine tkY HQ hHeld 17 ?_; refine tkY HQ hHeld 18 ?_; refine tkY HQ hHeld 19 ?_; refine tkY HQ hHeld 20 ?_; refine tkY HQ hHeld 21 ?_; refine tkY HQ hHeld 22 ?_; refine tkY HQ hHeld 23 ?_; refine tkY HQ hHeld 24 ?_
    refine stp 25 (fun K hK => ?_); go_simp
    (first | (go_at_call 54; (refine nmK ?_; clear M; (try clear F); intro w1 M F); with_reducible refine (HS.out _).mono ?_; rintro e w2 ⟨rfl, rfl⟩) | (go_at_call 54; (refine nmK ?_; clear M; (try clear F); intro w1 M F); with_reducible refine (HT.out _).mono ?_; rintro e w2 ⟨rfl, rfl⟩) | (go_at_call 54; (refine nmK ?_; clear M; (try clear F); intro w1 M F); with_reducible refine (HL.out _).mono ?_; rintro e w2 ⟨rfl, rfl⟩) | (go_at_call 55; (refine nmK ?_; clear M; (try clear F); intro w1 M F); refine (HWT.out _ _ _ M).mono ?_; rintro e w2 ⟨rfl, hb⟩; replace M := M.below hb; clear hb; (try clear F); have F := fx M))
    (try go_wp2_with fail); refine hK.out _ _ (by (exact kc)) (fun hHeld => ?_); clear hK K; (try simp only [AX])
    refine tkY HQ hHeld 26 ?_; refine tkY HQ hHeld 27 ?_; refine tkY HQ hHeld 28 ?_
    refine wpAnyH_done (by kernel_rfl) ?_ _; clear HQ; (repeat clear hHeld)
    go_wp2
    go_ret
    exact ⟨rfl, HP.out _ M.drop⟩
end Go.Proofs.YtomolbhcggaakaaGreat
/- When a world is ok, by the program's text. -/
namespace Go.Proofs.YtomolbhcggaakaaGreat
open Go.RowKit
set_option maxRecDepth 100000
attribute [local go_sem ↓] Go.wp_at_zero Go.wp_at_succ

def fitI (w : Wd) (F : List Int) (k : Nat) (r : Rn) : Bool := r.id == (k : Int) + 1 && runFitsI w F r && (!(r.state == 1) || inL w.queue r.id) && r.links.all (fun x => inL (getR w.runs x).links r.id)
theorem fitsFromI_cons (w : Wd) (F : List Int) (i : Nat) (r : Rn) (l : List Rn) : fitsFromI w F i (r :: l) = (fitI w F i r && fitsFromI w F (i + 1) l) := rfl
theorem fitsI_iff {w : Wd} {F : List Int} : ∀ {l : List Rn} {i : Nat}, fitsFromI w F i l = true ↔ ∀ k (hk : k < l.length), fitI w F (i + k) l[k] = true := by
  intro l
  induction l with
  | nil => intro i; simp [fitsFromI]
  | cons r l ih =>
    intro i
    rw [fitsFromI_cons, Bool.and_eq_true, ih]
    constructor
    · rintro ⟨h0, h1⟩ k hk
      cases k with
      | zero => simpa using h0
      | succ k => have := h1 k (by simpa using hk); simpa [Nat.add_assoc, Nat.add_comm 1 k] using this
    · intro h
      have h0 := h 0 (Nat.zero_lt_succ _)
      rw [Nat.add_zero] at h0
      refine ⟨h0, fun k hk => ?_⟩
      have := h (k + 1) (by simpa using hk)
      simpa [Nat.add_assoc, Nat.add_comm 1 k] using this
theorem fitsI_all {w : Wd} {F : List Int} (h : ∀ j (hj : j < w.runs.length), fitI w F j w.runs[j] = true) : fitsFromI w F 0 w.runs = true := fitsI_iff.2 (fun k hk => by rw [Nat.zero_add]; exact h k hk)
theorem fitsI_not {w : Wd} {F : List Int} {j : Nat} (hj : j < w.runs.length) (h : fitI w F j w.runs[j] = false) : fitsFromI w F 0 w.runs = false := by
  cases hx : fitsFromI w F 0 w.runs with
  | false => rfl
  | true =>
    have := fitsI_iff.1 hx j hj
    rw [Nat.zero_add, h] at this
    cases this
theorem going_ps (ps : List (Rn × RA)) {k : Nat} (hk : k < ps.length) : going ((ps.take (k + 1)).map (·.1)) = going ((ps.take k).map (·.1)) + (if ps[k].1.state == 1 then 1 else 0) := by
  induction ps generalizing k with
  | nil => simp at hk
  | cons p ps ih =>
    cases k with
    | zero => simp [going]
    | succ k =>
      have := ih (k := k) (by simpa using hk)
      simp only [List.take_succ_cons, List.map_cons, going, List.getElem_cons_succ, this]
      omega
theorem fitI_parts {w : Wd} {F : List Int} {k : Nat} {r : Rn} (h2 : runFitsI w F r = true) : (r.state = 3 ∧ r.links = []) ∨ ∀ x ∈ r.links, aliveIn w.runs x = true := by
  simp only [runFitsI, Bool.and_eq_true, Bool.or_eq_true, List.all_eq_true, beq_iff_eq] at h2
  obtain ⟨⟨⟨h1, _⟩, _⟩, h4⟩ := h2
  rcases h4 with h4 | h4
  · obtain ⟨_, _, _, _, _, _, _, _, _, _, _, _, _, k, _⟩ := runOk_parts h1
    exact .inl ⟨h4, (k h4).2.1⟩
  · exact .inr h4.1.1
set_option maxHeartbeats 8000000 in
theorem iWorldOk_c (W : Wm) {w0 w : World} {f : List Nat} {L : List Asn} (M : Mem w0 f w (wld W :: L)) (hg1 : codeSafe W.code = true) (hg2 : inB W.ps.length 1 6 = true) (hg3 : inB W.now 0 300 = true) (hg4 : inB W.sent 0 9999 = true) (hg5 : inB W.taken 0 9999 = true) (hg6 : inB W.lost 0 9999 = true) (hg7 : (W.sent == W.taken + W.lost + waits W.wd.runs) = true) :
    Calls Tryz.prog 15 #[.agg (wArr W)] w fun e w' => e = .returned (.bool (worldOk W.wd)) ∧ Mem w0 f w' (wld W :: L) := by
  have hWE : Hid (worldOk W.wd = (fitsFromI W.wd (fullOf W.code) 0 (W.ps.map (·.1)) && (W.queue.length : Int) == going (W.ps.map (·.1)))) := by
    unfold Hid
    rw [← worldOkI_eq, worldOkI_parts]
    have e1 : W.wd.sent = W.sent := rfl
    have e2 : W.wd.taken = W.taken := rfl
    have e3 : W.wd.lost = W.lost := rfl
    have e4 : W.wd.code = W.code := rfl
    have e5 : W.wd.runs.length = W.ps.length := by simp [Wm.wd]
    have e6 : W.wd.now = W.now := rfl
    rw [e1, e2, e3, e4, e5, e6, hg1, hg2, hg3, hg4, hg5, hg6, hg7]
    simp [Wm.wd]
  have HP := Lib.hid (fun V (M : Mem w0 f V (rowO W.cA W.cC W.code :: rowR W.rA W.rC W.ps :: rowI W.qA W.qC W.queue :: rws W.ps :: L)) => M.packW)
  replace M := M.unpackW
  have HC := Lib.hid (fun V (L L' : List Asn) (M : Mem w0 f V L) (hd : Del (rowO W.cA W.cC W.code) L L') => iCodeSafe W.code W.cA W.cC (M.pull hd))
  rw [hg1] at HC
  have HN := Lib.hid (fun V => iIn W.ps.length 1 6 V)
  rw [hg2] at HN
  have HNow := Lib.hid (fun V => iIn W.now 0 300 V)
  rw [hg3] at HNow
  have p2 := inB_iff.1 hg2
  have HS := Lib.hid (fun V => iIn W.sent 0 9999 V)
  rw [hg4] at HS
  have HT := Lib.hid (fun V => iIn W.taken 0 9999 V)
  rw [hg5] at HT
  have HL := Lib.hid (fun V => iIn W.lost 0 9999 V)
  rw [hg6] at HL
  have HWT := Lib.hid (fun V (B : Asn) (L : List Asn) (M : Mem w0 f V (B :: rowO W.cA W.cC W.code :: rowR W.rA W.rC W.ps :: rowI W.qA W.qC W.queue :: rws W.ps :: L)) => iWaiting W V.heap.size V (Mem.rw_ M.drop) (Nat.le_refl _) (by omega))
  have SET := settled_of hg1
  have C1 := codeOk_parts (safe_ok hg1)
  have hst := codeOk_steps (safe_ok hg1)
  have HF := Lib.hid (fun V (L L' : List Asn) (M : Mem w0 f V L) (hd : Del (rowO W.cA W.cC W.code) L L') => iFull W.code W.cA W.cC (M.pull hd) C1.1 C1.2.1 C1.2.2 hst)
  have hFl : (fullOf W.code).length = W.code.length := SET.1.1
  have hFb : Bits (fullOf W.code) := SET.1.2.1
  have HRW := Lib.hid (fun V (fA : Option Addr) (fC : Nat) (B : Asn) (L : List Asn) (M : Mem w0 f V (rowI fA fC (fullOf W.code) :: B :: rowO W.cA W.cC W.code :: rowR W.rA W.rC W.ps :: rowI W.qA W.qC W.queue :: rws W.ps :: L)) (k : Nat) (hk : k < W.ps.length) => iRunOkW W W.ps[k].1 W.ps[k].2 (fullOf W.code) fA fC W.code.length hFl.symm V.heap.size V (Mem.rw_ M.drop.drop) (rws_reads (M.is (.there (.there (.there (.there (.there .here)))))) hk).1 (readsI M .here) hFl hFb (Nat.le_refl _) (by omega) (by omega))
  have HLI := Lib.hid (fun V (L L' : List Asn) (M : Mem w0 f V L) (hd : Del (rws W.ps) L L') (k : Nat) (hk : k < W.ps.length) => (rws_reads (M.is hd) hk).1.links)
  have HQ := Lib.hid (fun V (L L' : List Asn) (M : Mem w0 f V L) (hd : Del (rowI W.qA W.qC W.queue) L L') (n : Int) => iContains W.queue n W.qA W.qC V.heap.size V (readsI M hd))
  have FLN := Lib.hid hFl
  have GR : ∀ (j : Nat) (hj : j < W.ps.length), getR (W.ps.map (·.1)) ((j : Int) + 1) = W.ps[j].1 := fun j hj => getR_ps (W := W) hj
  have GR := Lib.hid GR
  clear C1 SET hst hFl hFb
  have WB : Hid (IntKind.i64.wrap (W.taken + W.lost) = W.taken + W.lost ∧ IntKind.i64.wrap (W.taken + W.lost + waits W.wd.runs) = W.taken + W.lost + waits W.wd.runs) := by
    have h1 := inB_iff.1 hg4
    have h2 := inB_iff.1 hg5
    have h3 := inB_iff.1 hg6
    have h4 := beq_iff_eq.1 hg7
    unfold Hid
    rw [IntKind.wrap_i64, IntKind.wrap_i64] <;> omega
  have NX : (W.sent != W.taken + W.lost + waits W.wd.runs) = false := by simp [bne, hg7]
  obtain ⟨gr, hgr⟩ := row_form M (.there .here) (by omega)
  have qb := (row_reads M (.there (.there .here))).1.2.1
  generalize waits W.wd.runs = sw at HWT WB NX
  obtain ⟨code, cA, cC, ps, rA, rC, queue, qA, qC, now, sent, taken, lost⟩ := W
  simp only [Wm.wd] at *
  subst hgr
  clear hg1 hg2 hg3 hg4 hg5 hg6 hg7
  go_enter Tryz.func15, Tryz.ntmps15
  go_upto_region 3 with (first
      | (with_reducible refine alAw M ?_; clear M; (try clear F); intro w1 M F)
      | (go_at_call 53; (refine nmKw ?_; clear M; (try clear F); intro w1 M F); refine (HC.out _ _ _ M dl).mono ?_; clear M; rintro e w2 ⟨rfl, M⟩; (try clear F); have F := fxw M)
      | (go_at_call 54; with_reducible refine (HN.out _).mono ?_; rintro e w2 ⟨rfl, rfl⟩)
      | (go_at_call 54; with_reducible refine (HNow.out _).mono ?_; rintro e w2 ⟨rfl, rfl⟩))
  clear F
  generalize w.heap.size = g1 at M ⊢
  replace M := M.sel (T := (blk g1 tW [.slice cA code.length cC, .slice (some ⟨gr, 0, none⟩) ps.length rC, .slice qA queue.length qC, .int .i64 now, .int .i64 sent, .int .i64 taken, .int .i64 lost] :: rowO cA cC code :: rowR (some ⟨gr, 0, none⟩) rC ps :: rowI qA qC queue :: rws ps :: L)) sl
  (try clear F); have F := fxw M
  clear HC HN HNow
  have LT1 := WB.out.1
  have LT2 := WB.out.2
  refine held_begin (S := (fun W => ∀ j, W.cell? ⟨g1, j, none⟩ = ([.slice cA code.length cC, .slice (some ⟨gr, 0, none⟩) ps.length rC, .slice qA queue.length qC, .int .i64 now, .int .i64 sent, .int .i64 taken, .int .i64 lost] : List Value)[j]?)) (by kernel_rfl) (fun _ _ _ _ _ h => h) (by (exact kc)) (fun HQ hHeld => ?_)
  refine tkY HQ hHeld 0 ?_; refine tkY HQ hHeld 1 ?_
  refine stp 2 (fun K hK => ?_); go_simp
  (first | (go_at_call 54; (refine nmKw ?_; clear M; (try clear F); intro w1 M F); with_reducible refine (HS.out _).mono ?_; rintro e w2 ⟨rfl, rfl⟩) | (go_at_call 54; (refine nmKw ?_; clear M; (try clear F); intro w1 M F); with_reducible refine (HT.out _).mono ?_; rintro e w2 ⟨rfl, rfl⟩) | (go_at_call 54; (refine nmKw ?_; clear M; (try clear F); intro w1 M F); with_reducible refine (HL.out _).mono ?_; rintro e w2 ⟨rfl, rfl⟩) | (go_at_call 55; (refine nmKw ?_; clear M; (try clear F); intro w1 M F); refine (HWT.out _ _ _ M).mono ?_; rintro e w2 ⟨rfl, hb⟩; replace M := M.below hb; clear hb; (try clear F); have F := fxw M))
  (try go_wp2_with fail); refine hK.out _ _ (by (exact kc)) (fun hHeld => ?_); clear hK K; (try simp only [AX])
  refine tkY HQ hHeld 3 ?_; refine tkY HQ hHeld 4 ?_; refine tkY HQ hHeld 5 ?_; refine tkY HQ hHeld 6 ?_
  refine stp 7 (fun K hK => ?_); go_simp
  (first | (go_at_call 54; (refine nmKw ?_; clear M; (try clear F); intro w1 M F); with_reducible refine (HS.out _).mono ?_; rintro e w2 ⟨rfl, rfl⟩) | (go_at_call 54; (refine nmKw ?_; clear M; (try clear F); intro w1 M F); with_reducible refine (HT.out _).mono ?_; rintro e w2 ⟨rfl, rfl⟩) | (go_at_call 54; (refine nmKw ?_; clear M; (try clear F); intro w1 M F); with_reducible refine (HL.out _).mono ?_; rintro e w2 ⟨rfl, rfl⟩) | (go_at_call 55; (refine nmKw ?_; clear M; (try clear F); intro w1 M F); refine (HWT.out _ _ _ M).mono ?_; rintro e w2 ⟨rfl, hb⟩; replace M := M.below hb; clear hb; (try clear F); have F := fxw M))
  (try go_wp2_with fail); refine hK.out _ _ (by (exact kc)) (fun hHeld => ?_); clear hK K; (try simp only [AX])
  refine tkY HQ hHeld 8 ?_; refine tkY HQ hHeld 9 ?_; refine tkY HQ hHeld 10 ?_; refine tkY HQ hHeld 11 ?_; refine tkY HQ hHeld 12 ?_
  refine stp 13 (fun K hK => ?_); go_simp
  (first | (go_at_call 54; (refine nmKw ?_; clear M; (try clear F); intro w1 M F); with_reducible refine (HS.out _).mono ?_; rintro e w2 ⟨rfl, rfl⟩) | (go_at_call 54; (refine nmKw ?_; clear M; (try clear F); intro w1 M F); with_reducible refine (HT.out _).mono ?_; rintro e w2 ⟨rfl, rfl⟩) | (go_at_call 54; (refine nmKw ?_; clear M; (try clear F); intro w1 M F); with_reducible refine (HL.out _).mono ?_; rintro e w2 ⟨rfl, rfl⟩) | (go_at_call 55; (refine nmKw ?_; clear M; (try clear F); intro w1 M F); refine (HWT.out _ _ _ M).mono ?_; rintro e w2 ⟨rfl, hb⟩; replace M := M.below hb; clear hb; (try clear F); have F := fxw M))
  (try go_wp2_with fail); refine hK.out _ _ (by (exact kc)) (fun hHeld => ?_); clear hK K; (try simp only [AX])
  refine tkY HQ hHeld 14 ?_; refine tkY HQ hHeld 15 ?_; refine tkY HQ hHeld 16 ?_; refine tkY HQ hHeld 17 ?_; refine tkY HQ hHeld 18 ?_; refine tkY HQ hHeld 19 ?_; refine tkY HQ hHeld 20 ?_; refine tkY HQ hHeld 21 ?_; refine tkY HQ hHeld 22 ?_; refine tkY HQ hHeld 23 ?_; refine tkY HQ hHeld 24 ?_
  refine stp 25 (fun K hK => ?_); go_simp
  (first | (go_at_call 54; (refine nmKw ?_; clear M; (try clear F); intro w1 M F); with_reducible refine (HS.out _).mono ?_; rintro e w2 ⟨rfl, rfl⟩) | (go_at_call 54; (refine nmKw ?_; clear M; (try clear F); intro w1 M F); with_reducible refine (HT.out _).mono ?_; rintro e w2 ⟨rfl, rfl⟩) | (go_at_call 54; (refine nmKw ?_; clear M; (try clear F); intro w1 M F); with_reducible refine (HL.out _).mono ?_; rintro e w2 ⟨rfl, rfl⟩) | (go_at_call 55; (refine nmKw ?_; clear M; (try clear F); intro w1 M F); refine (HWT.out _ _ _ M).mono ?_; rintro e w2 ⟨rfl, hb⟩; replace M := M.below hb; clear hb; (try clear F); have F := fxw M))
  (try go_wp2_with fail); refine hK.out _ _ (by (exact kc)) (fun hHeld => ?_); clear hK K; (try simp only [AX])
  refine tkY HQ hHeld 26 ?_; refine tkY HQ hHeld 27 ?_; refine tkY HQ hHeld 28 ?_
  refine wpAnyH_done (by kernel_rfl) ?_ _; clear HQ; (repeat clear hHeld)
  clear LT1 LT2 NX WB HS HT HL HWT
  go_wp2_with ((go_at_call 56; (refine nmKw ?_; clear M; (try clear F); intro w1 M F); refine (HF.out _ _ _ M dl).mono ?_; clear M; rintro e w2 ⟨fA, fC, rfl, M⟩; (try clear F); have F := fxw M))
  clear HF
  have M : Mem w0 f w2 (rowI fA fC (fullOf code) :: blk g1 tW [.slice cA code.length cC, .slice (some ⟨gr, 0, none⟩) ps.length rC, .slice qA queue.length qC, .int .i64 now, .int .i64 sent, .int .i64 taken, .int .i64 lost] :: rowO cA cC code :: rowR (some ⟨gr, 0, none⟩) rC ps :: rowI qA qC queue :: rws ps :: L) := M.perm (by first | exact (List.Perm.refl _) | exact (List.Perm.swap _ _ _).cons _)
  go_loopg [4, 61] ps.length (fun gg s4 s61 wr => ∃ k : Nat, k ≤ ps.length ∧ ps.length - k ≤ gg ∧ s61 = .int .i64 k ∧ s4 = .int .i64 (going ((ps.take k).map (·.1))) ∧ (0 ≤ going ((ps.take k).map (·.1)) ∧ going ((ps.take k).map (·.1)) ≤ k) ∧ Hid (∀ j (hj : j < ps.length), j < k → fitI ⟨code, ps.map (·.1), queue, now, sent, taken, lost⟩ (fullOf code) j ps[j].1 = true) ∧ Hid (Mem w0 f wr (rowI fA fC (fullOf code) :: blk g1 tW [.slice cA code.length cC, .slice (some ⟨gr, 0, none⟩) ps.length rC, .slice qA queue.length qC, .int .i64 now, .int .i64 sent, .int .i64 taken, .int .i64 lost] :: rowO cA cC code :: rowR (some ⟨gr, 0, none⟩) rC ps :: rowI qA qC queue :: rws ps :: L)))
  case atStart => exact ⟨0, by omega, by omega, rfl, rfl, ⟨Int.le_refl _, Int.le_refl _⟩, fun j _ h => absurd h (by omega), M⟩
  case round =>
    clear M
    obtain ⟨k, hk, hgg, rfl, rfl, hgo, HFI, M⟩ := hrel
    replace M := M.out
    (try clear F); have F := fxw M
    by_cases hlt : k < ps.length
    · have k1 : (0 : Int) ≤ k := by omega
      have k2 : (k : Int) < ps.length := by omega
      have NO : Hid (fitI ⟨code, ps.map (·.1), queue, now, sent, taken, lost⟩ (fullOf code) k ps[k].1 = false → worldOk ⟨code, ps.map (·.1), queue, now, sent, taken, lost⟩ = false) := fun h => by
        rw [hWE.out, fitsI_not (w := ⟨code, ps.map (·.1), queue, now, sent, taken, lost⟩) (j := k) (by simpa using hlt) (by simpa using h)]
        rfl
      have YES : Hid (fitI ⟨code, ps.map (·.1), queue, now, sent, taken, lost⟩ (fullOf code) k ps[k].1 = true → ∀ j (hj : j < ps.length), j < k + 1 → fitI ⟨code, ps.map (·.1), queue, now, sent, taken, lost⟩ (fullOf code) j ps[j].1 = true) := fun h j hj hjk => by
        by_cases he : j = k
        · subst he; exact h
        · exact HFI.out j hj (by omega)
      have HR := Lib.hid (fun V (fA : Option Addr) (fC : Nat) (B : Asn) (L : List Asn) M => HRW.out V fA fC B L M k hlt)
      have RE := Lib.hid (fun V (L L' : List Asn) (M : Mem w0 f V L) (hd : Del (rowR (some ⟨gr, 0, none⟩) rC ps) L L') => elemR M hd hlt)
      have RL := Lib.hid (fun V (L L' : List Asn) (M : Mem w0 f V L) (hd : Del (rws ps) L L') => HLI.out V L L' M hd k hlt)
      have GO := Lib.hid (going_ps ps hlt)
      have FI : fitI ⟨code, ps.map (·.1), queue, now, sent, taken, lost⟩ (fullOf code) k ps[k].1 = (ps[k].1.id == (k : Int) + 1 && runFitsI ⟨code, ps.map (·.1), queue, now, sent, taken, lost⟩ (fullOf code) ps[k].1 && (!(ps[k].1.state == 1) || inL queue ps[k].1.id) && ps[k].1.links.all (fun x => inL (getR (ps.map (·.1)) x).links ps[k].1.id)) := rfl
      rw [FI] at NO YES
      clear FI HFI
      have AL2 : Hid (runFitsI ⟨code, ps.map (·.1), queue, now, sent, taken, lost⟩ (fullOf code) ps[k].1 = true → (ps[k].1.state = 3 ∧ ps[k].1.links = []) ∨ ∀ x ∈ ps[k].1.links, aliveIn (ps.map (·.1)) x = true) := fun h => fitI_parts (k := k) h
      have E4 := RE.out _ _ _ M dl
      generalize going ((ps.take k).map (·.1)) = gk at hgo GO
      generalize runFitsI ⟨code, ps.map (·.1), queue, now, sent, taken, lost⟩ (fullOf code) ps[k].1 = x at NO YES HR AL2
      generalize ps[k] = p at RE RL NO YES HR AL2 GO E4
      obtain ⟨⟨id, at_, slots, full, mail, state, due, links, watched, trap, ⟨wk, wn⟩, turns⟩, ⟨sA, sC, mA, mC, lA, lC, wA, wC⟩⟩ := p
      simp only [RunAt, runArr] at RE RL NO YES HR AL2 GO E4
      have wi : IntKind.i64.wrap ((k : Int) + 1) = (k : Int) + 1 := by rw [IntKind.wrap_i64]; omega
      have wg : IntKind.i64.wrap (gk + 1) = gk + 1 := by rw [IntKind.wrap_i64]; omega
      cases c1 : (id == (k : Int) + 1) with
      | false =>
        have b1 : (id != (k : Int) + 1) = true := by simp [bne, c1]
        have hno := Lib.hid (NO.out (by rw [c1]; rfl))
        clear NO YES c1
        go_upto_region 10 with (first | (with_reducible refine alAw M ?_; clear M; (try clear F); intro w1 M F) | ((with_reducible apply ev_store (M := M)); rfl; rfl; ((conv => lhs; whnf) <;> rfl); rfl; (first | exact siI | exact siR | exact siV | exact siB | exact siSI | exact siSV | exact siW | exact siSR | exact siSO | exact siO); (exact one_all rfl); (exact dl); (exact Nat.le_of_ble_eq_true rfl); clear M; intro w1 M; simp only [SX] at M; (try clear F); have F := fxw M))
        go_wp2
        go_ret
        exact ⟨ret_bool hno.out.symm, HP.out _ M.drop.drop.drop⟩
      | true =>
      have b1 : (id != (k : Int) + 1) = false := by simp [bne, c1]
      rw [c1, Bool.true_and] at NO YES
      clear c1
      cases x with
      | false =>
        have hno := Lib.hid (NO.out rfl)
        clear NO YES
        go_upto_region 10 with (first | (with_reducible refine alAw M ?_; clear M; (try clear F); intro w1 M F) | ((with_reducible apply ev_store (M := M)); rfl; rfl; ((conv => lhs; whnf) <;> rfl); rfl; (first | exact siI | exact siR | exact siV | exact siB | exact siSI | exact siSV | exact siW | exact siSR | exact siSO | exact siO); (exact one_all rfl); (exact dl); (exact Nat.le_of_ble_eq_true rfl); clear M; intro w1 M; simp only [SX] at M; (try clear F); have F := fxw M))
        go_wp2_with (go_at_call 57; (refine nmKw ?_; clear M; (try clear F); intro w1 M F); refine (HR.out _ _ _ _ _ M.drop).mono ?_; rintro e w2 ⟨rfl, hb⟩; replace M := M.below hb; clear hb; (try clear F); have F := fxw M)
        go_ret
        exact ⟨ret_bool hno.out.symm, HP.out _ M.drop.drop.drop⟩
      | true =>
      rw [Bool.true_and] at NO YES
      have HQk := Lib.hid (fun V (L L' : List Asn) M hd => HQ.out V L L' M hd id)
      generalize hqx : inL queue id = qx at HQk NO YES
      clear hqx
      by_cases hs : state = 1
      · subst hs
        cases qx with
        | false =>
          have hno := Lib.hid (NO.out rfl)
          clear NO YES
          go_upto_region 10 with (first | (with_reducible refine alAw M ?_; clear M; (try clear F); intro w1 M F) | ((with_reducible apply ev_store (M := M)); rfl; rfl; ((conv => lhs; whnf) <;> rfl); rfl; (first | exact siI | exact siR | exact siV | exact siB | exact siSI | exact siSV | exact siW | exact siSR | exact siSO | exact siO); (exact one_all rfl); (exact dl); (exact Nat.le_of_ble_eq_true rfl); clear M; intro w1 M; simp only [SX] at M; (try clear F); have F := fxw M))
          go_wp2_with (first | (go_at_call 57; (refine nmKw ?_; clear M; (try clear F); intro w1 M F); refine (HR.out _ _ _ _ _ M.drop).mono ?_; rintro e w2 ⟨rfl, hb⟩; replace M := M.below hb; clear hb; (try clear F); have F := fxw M) | (go_at_call 58; (refine nmKw ?_; clear M; (try clear F); intro w1 M F); refine (HQk.out _ _ _ M dl).mono ?_; rintro e w2 ⟨rfl, rfl⟩))
          go_ret
          exact ⟨ret_bool hno.out.symm, HP.out _ M.drop.drop.drop⟩
        | true =>
          go_upto_region 10 with (first | (with_reducible refine alAw M ?_; clear M; (try clear F); intro w1 M F) | ((with_reducible apply ev_store (M := M)); rfl; rfl; ((conv => lhs; whnf) <;> rfl); rfl; (first | exact siI | exact siR | exact siV | exact siB | exact siSI | exact siSV | exact siW | exact siSR | exact siSO | exact siO); (exact one_all rfl); (exact dl); (exact Nat.le_of_ble_eq_true rfl); clear M; intro w1 M; simp only [SX] at M; (try clear F); have F := fxw M))
          clear F
          generalize wr.heap.size = g6 at M ⊢
          (try clear F); have F := fxw M
          go_wp2_with (first | (go_at_call 57; (refine nmKw ?_; clear M; (try clear F); intro w1 M F); refine (HR.out _ _ _ _ _ M.drop).mono ?_; rintro e w2 ⟨rfl, hb⟩; replace M := M.below hb; clear hb; (try clear F); have F := fxw M) | (go_at_call 58; (refine nmKw ?_; clear M; (try clear F); intro w1 M F); refine (HQk.out _ _ _ M dl).mono ?_; rintro e w2 ⟨rfl, rfl⟩))
          have lb := (RL.out _ _ _ M dl).2.1
          go_loopg [92] links.length (fun gg i wr2 => ∃ m : Nat, m ≤ links.length ∧ links.length - m ≤ gg ∧ i = .int .i64 m ∧ Hid (∀ j (hj : j < links.length), j < m → inL (getR (ps.map (·.1)) links[j]).links id = true) ∧ Hid (Mem w0 f wr2 (blk g6 tR [.int .i64 id, .int .i64 at_, .slice sA slots.length sC, .int .i64 full, .slice mA mail.length mC, .int .i64 1, .int .i64 due, .slice lA links.length lC, .slice wA watched.length wC, .bool trap, .int .i64 wk, .int .i64 wn, .int .i64 turns] :: (rowI fA fC (fullOf code) :: blk g1 tW [.slice cA code.length cC, .slice (some ⟨gr, 0, none⟩) ps.length rC, .slice qA queue.length qC, .int .i64 now, .int .i64 sent, .int .i64 taken, .int .i64 lost] :: rowO cA cC code :: rowR (some ⟨gr, 0, none⟩) rC ps :: rowI qA qC queue :: rws ps :: L))))
          case atStart => exact ⟨0, by omega, by omega, rfl, fun j _ h => absurd h (by omega), M⟩
          case round =>
            clear M
            obtain ⟨m, hm, hg2, rfl, HLK, M⟩ := hrel
            replace M := M.out
            (try clear F); have F := fxw M
            by_cases hml : m < links.length
            · have lives : ∀ x ∈ links, aliveIn (ps.map (·.1)) x = true := by
                rcases AL2.out (by first | trivial | rfl) with h | h
                · rw [h.2] at hml
                  simp at hml
                · exact h
              obtain ⟨⟨l1, l2⟩, _⟩ := aliveIn_iff.1 (lives _ (List.getElem_mem hml))
              rw [List.length_map] at l2
              obtain ⟨j, hj⟩ : ∃ j : Nat, links[m] = (j : Int) + 1 := ⟨(links[m] - 1).toNat, by omega⟩
              have hjl : j < ps.length := by omega
              obtain ⟨ad, hlA, _, hc⟩ := (RL.out _ _ _ M dl).int hml
              subst hlA
              rw [hj] at hc
              have HCj := Lib.hid (fun V (L L' : List Asn) (M : Mem w0 f V L) (hd : Del (rws ps) L L') => iContains ps[j].1.links id ps[j].2.lA ps[j].2.lC V.heap.size V (HLI.out V L L' M hd j hjl))
              have REj := Lib.hid (fun V (L L' : List Asn) (M : Mem w0 f V L) (hd : Del (rowR (some ⟨gr, 0, none⟩) rC ps) L L') => (elemR M hd hjl).2.2.2.2.2.2.2.1)
              have gj := GR.out j hjl
              have NOm : Hid (inL ps[j].1.links id = false → worldOk ⟨code, ps.map (·.1), queue, now, sent, taken, lost⟩ = false) := fun h => by
                refine NO.out ?_
                have : links.all (fun x => inL (getR (ps.map (·.1)) x).links id) = false := by
                  rw [List.all_eq_false]
                  exact ⟨links[m], List.getElem_mem hml, by rw [hj, gj, h]; simp⟩
                rw [this, Bool.and_false]
              have YESm : Hid (inL ps[j].1.links id = true → ∀ j' (hj' : j' < links.length), j' < m + 1 → inL (getR (ps.map (·.1)) links[j']).links id = true) := fun h j' hj' hjm => by
                by_cases he : j' = m
                · subst he
                  rw [hj, gj]
                  exact h
                · exact HLK.out j' hj' (by omega)
              have EJ := REj.out _ _ _ M dl
              clear HLK lives l1 l2 gj hj
              generalize inL ps[j].1.links id = y at HCj NOm YESm
              generalize ps[j] = q at HCj REj EJ
              obtain ⟨⟨_, _, _, _, _, _, _, qlinks, _, _, _, _⟩, ⟨_, _, _, _, qA2, qC2, _, _⟩⟩ := q
              simp only at HCj REj EJ
              have m1 : (0 : Int) ≤ m := by omega
              have m2 : (m : Int) < links.length := by omega
              have j1 : (0 : Int) ≤ j := by omega
              have j2 : (j : Int) < ps.length := by omega
              have wj : IntKind.i64.wrap ((j : Int) + 1 - 1) = (j : Int) := by rw [IntKind.wrap_i64]; omega
              have wj2 : IntKind.i64.wrap (j : Int) = (j : Int) := by rw [IntKind.wrap_i64]; omega
              cases y
              · have hno := Lib.hid (NOm.out rfl)
                clear NOm YESm NO YES
                go_upto_region 19 with (fail)
                go_region_held3 (fun W => (∀ j, W.cell? ⟨g1, j, none⟩ = ([.slice cA code.length cC, .slice (some ⟨gr, 0, none⟩) ps.length rC, .slice qA queue.length qC, .int .i64 now, .int .i64 sent, .int .i64 taken, .int .i64 lost] : List Value)[j]?) ∧ (∀ j, W.cell? ⟨g6, j, none⟩ = ([.int .i64 id, .int .i64 at_, .slice sA slots.length sC, .int .i64 full, .slice mA mail.length mC, .int .i64 1, .int .i64 due, .slice (some ad) links.length lC, .slice wA watched.length wC, .bool trap, .int .i64 wk, .int .i64 wn, .int .i64 turns] : List Value)[j]?) ∧ W.cell? ⟨gr, j * 13 + 7, none⟩ = some (.slice qA2 qlinks.length qC2)) ((refine ⟨?_, ?_, ?_⟩; (exact kc); (exact kc); (exact REj.out _ _ _ (by exact mb) dl))) ((go_at_call 58; (refine nmKw ?_; clear M; (try clear F); intro w1 M F); refine (HCj.out _ _ _ M dl).mono ?_; rintro e w2 ⟨rfl, rfl⟩))
                go_wp2
                go_ret
                exact ⟨ret_bool hno.out.symm, HP.out _ M.drop.drop.drop⟩
              · have hyes := Lib.hid (YESm.out rfl)
                clear NOm YESm
                go_upto_region 19 with (fail)
                go_region_held3 (fun W => (∀ j, W.cell? ⟨g1, j, none⟩ = ([.slice cA code.length cC, .slice (some ⟨gr, 0, none⟩) ps.length rC, .slice qA queue.length qC, .int .i64 now, .int .i64 sent, .int .i64 taken, .int .i64 lost] : List Value)[j]?) ∧ (∀ j, W.cell? ⟨g6, j, none⟩ = ([.int .i64 id, .int .i64 at_, .slice sA slots.length sC, .int .i64 full, .slice mA mail.length mC, .int .i64 1, .int .i64 due, .slice (some ad) links.length lC, .slice wA watched.length wC, .bool trap, .int .i64 wk, .int .i64 wn, .int .i64 turns] : List Value)[j]?) ∧ W.cell? ⟨gr, j * 13 + 7, none⟩ = some (.slice qA2 qlinks.length qC2)) ((refine ⟨?_, ?_, ?_⟩; (exact kc); (exact kc); (exact REj.out _ _ _ (by exact mb) dl))) ((go_at_call 58; (refine nmKw ?_; clear M; (try clear F); intro w1 M F); refine (HCj.out _ _ _ M dl).mono ?_; rintro e w2 ⟨rfl, rfl⟩))
                go_wp2
                go_roundg (links.length - (m + 1))
                case measure => omega
                case rel => exact ⟨m + 1, by omega, by omega, by go_num, hyes, M⟩
            · have hmn : m = links.length := by omega
              subst hmn
              have hall : links.all (fun x => inL (getR (ps.map (·.1)) x).links id) = true := by
                rw [List.all_eq_true]
                intro y hy
                obtain ⟨j, hj, rfl⟩ := List.getElem_of_mem hy
                exact HLK.out j hj hj
              have hyes := Lib.hid (YES.out (by rw [hall]; rfl))
              clear hall NO YES HLK
              go_wp2
              go_roundg (ps.length - (k + 1))
              case measure => omega
              case rel => exact ⟨k + 1, by omega, by omega, by go_num, by rw [GO.out]; simp, by rw [GO.out]; simp <;> omega, hyes, M.drop⟩
      · have hs2 : (state == 1) = false := by simpa using hs
        rw [hs2] at NO YES GO
        clear hs
        go_upto_region 10 with (first | (with_reducible refine alAw M ?_; clear M; (try clear F); intro w1 M F) | ((with_reducible apply ev_store (M := M)); rfl; rfl; ((conv => lhs; whnf) <;> rfl); rfl; (first | exact siI | exact siR | exact siV | exact siB | exact siSI | exact siSV | exact siW | exact siSR | exact siSO | exact siO); (exact one_all rfl); (exact dl); (exact Nat.le_of_ble_eq_true rfl); clear M; intro w1 M; simp only [SX] at M; (try clear F); have F := fxw M))
        clear F
        generalize wr.heap.size = g6 at M ⊢
        (try clear F); have F := fxw M
        go_wp2_with (first | (go_at_call 57; (refine nmKw ?_; clear M; (try clear F); intro w1 M F); refine (HR.out _ _ _ _ _ M.drop).mono ?_; rintro e w2 ⟨rfl, hb⟩; replace M := M.below hb; clear hb; (try clear F); have F := fxw M))
        have lb := (RL.out _ _ _ M dl).2.1
        go_loopg [92] links.length (fun gg i wr2 => ∃ m : Nat, m ≤ links.length ∧ links.length - m ≤ gg ∧ i = .int .i64 m ∧ Hid (∀ j (hj : j < links.length), j < m → inL (getR (ps.map (·.1)) links[j]).links id = true) ∧ Hid (Mem w0 f wr2 (blk g6 tR [.int .i64 id, .int .i64 at_, .slice sA slots.length sC, .int .i64 full, .slice mA mail.length mC, .int .i64 state, .int .i64 due, .slice lA links.length lC, .slice wA watched.length wC, .bool trap, .int .i64 wk, .int .i64 wn, .int .i64 turns] :: (rowI fA fC (fullOf code) :: blk g1 tW [.slice cA code.length cC, .slice (some ⟨gr, 0, none⟩) ps.length rC, .slice qA queue.length qC, .int .i64 now, .int .i64 sent, .int .i64 taken, .int .i64 lost] :: rowO cA cC code :: rowR (some ⟨gr, 0, none⟩) rC ps :: rowI qA qC queue :: rws ps :: L))))
        case atStart => exact ⟨0, by omega, by omega, rfl, fun j _ h => absurd h (by omega), M⟩
        case round =>
          clear M
          obtain ⟨m, hm, hg2, rfl, HLK, M⟩ := hrel
          replace M := M.out
          (try clear F); have F := fxw M
          by_cases hml : m < links.length
          · have lives : ∀ x ∈ links, aliveIn (ps.map (·.1)) x = true := by
              rcases AL2.out (by first | trivial | rfl) with h | h
              · rw [h.2] at hml
                simp at hml
              · exact h
            obtain ⟨⟨l1, l2⟩, _⟩ := aliveIn_iff.1 (lives _ (List.getElem_mem hml))
            rw [List.length_map] at l2
            obtain ⟨j, hj⟩ : ∃ j : Nat, links[m] = (j : Int) + 1 := ⟨(links[m] - 1).toNat, by omega⟩
            have hjl : j < ps.length := by omega
            obtain ⟨ad, hlA, _, hc⟩ := (RL.out _ _ _ M dl).int hml
            subst hlA
            rw [hj] at hc
            have HCj := Lib.hid (fun V (L L' : List Asn) (M : Mem w0 f V L) (hd : Del (rws ps) L L') => iContains ps[j].1.links id ps[j].2.lA ps[j].2.lC V.heap.size V (HLI.out V L L' M hd j hjl))
            have REj := Lib.hid (fun V (L L' : List Asn) (M : Mem w0 f V L) (hd : Del (rowR (some ⟨gr, 0, none⟩) rC ps) L L') => (elemR M hd hjl).2.2.2.2.2.2.2.1)
            have gj := GR.out j hjl
            have NOm : Hid (inL ps[j].1.links id = false → worldOk ⟨code, ps.map (·.1), queue, now, sent, taken, lost⟩ = false) := fun h => by
              refine NO.out ?_
              have : links.all (fun x => inL (getR (ps.map (·.1)) x).links id) = false := by
                rw [List.all_eq_false]
                exact ⟨links[m], List.getElem_mem hml, by rw [hj, gj, h]; simp⟩
              rw [this, Bool.and_false]
            have YESm : Hid (inL ps[j].1.links id = true → ∀ j' (hj' : j' < links.length), j' < m + 1 → inL (getR (ps.map (·.1)) links[j']).links id = true) := fun h j' hj' hjm => by
              by_cases he : j' = m
              · subst he
                rw [hj, gj]
                exact h
              · exact HLK.out j' hj' (by omega)
            have EJ := REj.out _ _ _ M dl
            clear HLK lives l1 l2 gj hj
            generalize inL ps[j].1.links id = y at HCj NOm YESm
            generalize ps[j] = q at HCj REj EJ
            obtain ⟨⟨_, _, _, _, _, _, _, qlinks, _, _, _, _⟩, ⟨_, _, _, _, qA2, qC2, _, _⟩⟩ := q
            simp only at HCj REj EJ
            have m1 : (0 : Int) ≤ m := by omega
            have m2 : (m : Int) < links.length := by omega
            have j1 : (0 : Int) ≤ j := by omega
            have j2 : (j : Int) < ps.length := by omega
            have wj : IntKind.i64.wrap ((j : Int) + 1 - 1) = (j : Int) := by rw [IntKind.wrap_i64]; omega
            have wj2 : IntKind.i64.wrap (j : Int) = (j : Int) := by rw [IntKind.wrap_i64]; omega
            cases y
            · have hno := Lib.hid (NOm.out rfl)
              clear NOm YESm NO YES
              go_upto_region 19 with (fail)
              go_region_held3 (fun W => (∀ j, W.cell? ⟨g1, j, none⟩ = ([.slice cA code.length cC, .slice (some ⟨gr, 0, none⟩) ps.length rC, .slice qA queue.length qC, .int .i64 now, .int .i64 sent, .int .i64 taken, .int .i64 lost] : List Value)[j]?) ∧ (∀ j, W.cell? ⟨g6, j, none⟩ = ([.int .i64 id, .int .i64 at_, .slice sA slots.length sC, .int .i64 full, .slice mA mail.length mC, .int .i64 state, .int .i64 due, .slice (some ad) links.length lC, .slice wA watched.length wC, .bool trap, .int .i64 wk, .int .i64 wn, .int .i64 turns] : List Value)[j]?) ∧ W.cell? ⟨gr, j * 13 + 7, none⟩ = some (.slice qA2 qlinks.length qC2)) ((refine ⟨?_, ?_, ?_⟩; (exact kc); (exact kc); (exact REj.out _ _ _ (by exact mb) dl))) ((go_at_call 58; (refine nmKw ?_; clear M; (try clear F); intro w1 M F); refine (HCj.out _ _ _ M dl).mono ?_; rintro e w2 ⟨rfl, rfl⟩))
              go_wp2
              go_ret
              exact ⟨ret_bool hno.out.symm, HP.out _ M.drop.drop.drop⟩
            · have hyes := Lib.hid (YESm.out rfl)
              clear NOm YESm
              go_upto_region 19 with (fail)
              go_region_held3 (fun W => (∀ j, W.cell? ⟨g1, j, none⟩ = ([.slice cA code.length cC, .slice (some ⟨gr, 0, none⟩) ps.length rC, .slice qA queue.length qC, .int .i64 now, .int .i64 sent, .int .i64 taken, .int .i64 lost] : List Value)[j]?) ∧ (∀ j, W.cell? ⟨g6, j, none⟩ = ([.int .i64 id, .int .i64 at_, .slice sA slots.length sC, .int .i64 full, .slice mA mail.length mC, .int .i64 state, .int .i64 due, .slice (some ad) links.length lC, .slice wA watched.length wC, .bool trap, .int .i64 wk, .int .i64 wn, .int .i64 turns] : List Value)[j]?) ∧ W.cell? ⟨gr, j * 13 + 7, none⟩ = some (.slice qA2 qlinks.length qC2)) ((refine ⟨?_, ?_, ?_⟩; (exact kc); (exact kc); (exact REj.out _ _ _ (by exact mb) dl))) ((go_at_call 58; (refine nmKw ?_; clear M; (try clear F); intro w1 M F); refine (HCj.out _ _ _ M dl).mono ?_; rintro e w2 ⟨rfl, rfl⟩))
              go_wp2
              go_roundg (links.length - (m + 1))
              case measure => omega
              case rel => exact ⟨m + 1, by omega, by omega, by go_num, hyes, M⟩
          · have hmn : m = links.length := by omega
            subst hmn
            have hall : links.all (fun x => inL (getR (ps.map (·.1)) x).links id) = true := by
              rw [List.all_eq_true]
              intro y hy
              obtain ⟨j, hj, rfl⟩ := List.getElem_of_mem hy
              exact HLK.out j hj hj
            have hyes := Lib.hid (YES.out (by rw [hall]; rfl))
            clear hall NO YES HLK
            go_wp2
            go_roundg (ps.length - (k + 1))
            case measure => omega
            case rel => exact ⟨k + 1, by omega, by omega, by go_num, by rw [GO.out]; simp, by rw [GO.out]; simp <;> omega, hyes, M.drop⟩
    · have hkn : k = ps.length := by omega
      subst hkn
      have hfit := fitsI_all (w := ⟨code, ps.map (·.1), queue, now, sent, taken, lost⟩) (F := fullOf code) (fun j hj => by simpa using HFI.out j (by simpa using hj) (by simpa using hj))
      have hfin : worldOk ⟨code, ps.map (·.1), queue, now, sent, taken, lost⟩ = ((queue.length : Int) == going ((ps.take ps.length).map (·.1))) := by
        rw [hWE.out, hfit, List.take_length]
        rfl
      have hfin := Lib.hid hfin
      clear HFI hfit
      go_wp2
      go_ret
      exact ⟨ret_bool (by first | with_reducible rfl | exact hfin.out.symm | (have h5 := hfin.out; simp only [List.take_length] at h5; exact h5.symm)), HP.out _ M.drop.drop⟩
theorem iWorldOk (W : Wm) {w0 w : World} {f : List Nat} {L L' : List Asn} (M : Mem w0 f w L) (hd : Del (wld W) L L') :
    Calls Tryz.prog 15 #[.agg (wArr W)] w fun e w' => e = .returned (.bool (worldOk W.wd)) ∧ Mem w0 f w' (wld W :: L') := by
  cases h : (codeSafe W.code && inB W.ps.length 1 6 && inB W.now 0 300) with
  | false => exact iWorldOk_a W (M.pull hd) h
  | true =>
    simp only [Bool.and_eq_true] at h
    cases h2 : (inB W.sent 0 9999 && inB W.taken 0 9999 && inB W.lost 0 9999 && W.sent == W.taken + W.lost + waits W.wd.runs) with
    | false => exact iWorldOk_b W (M.pull hd) h.1.1 h.1.2 h.2 h2
    | true =>
      simp only [Bool.and_eq_true] at h2
      exact iWorldOk_c W (M.pull hd) h.1.1 h.1.2 h.2 h2.1.1.1 h2.1.1.2 h2.1.2 h2.2
end Go.Proofs.YtomolbhcggaakaaGreat
