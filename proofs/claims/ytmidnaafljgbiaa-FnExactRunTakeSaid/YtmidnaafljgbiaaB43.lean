/- Parts of the proof, in one text. -/
import Derived.Test.YtmidnaafljgbiaaB12
import Derived.Test.YtmidnaafljgbiaaB39
import Derived.Test.YtmidnaafljgbiaaB06
import Derived.Test.YtmidnaafljgbiaaB37
import Derived.Test.YtmidnaafljgbiaaB28
import Derived.Test.YtmidnaafljgbiaaB42
import Derived.Test.YtmidnaafljgbiaaB34
/- The first fitting message of a run: program and reference answer alike. -/
namespace Go.Proofs.Ytmidnaafljgbiaa
open Go.RowKit
set_option maxRecDepth 100000

theorem idxP_congr {α : Type} {p q : α → Bool} {l : List α} (h : ∀ x ∈ l, p x = q x) : idxP p l = idxP q l := by
  have e : l.findIdx? p = l.findIdx? q := by
    induction l with
    | nil => rfl
    | cons x l ih =>
      rw [List.findIdx?_cons, List.findIdx?_cons, h x (by simp), ih fun y hy => h y (by simp [hy])]
  unfold idxP
  rw [e]
theorem first_same {r : Rn} (kind : Int) (h : runOk r = true) : idxP (fitsOk · kind) r.mail = idxP (fits · kind) r.mail := by
  refine idxP_congr fun x hx => ?_
  have hm : r.mail.all valOk = true := by
    unfold runOk at h
    simp only [Bool.and_eq_true] at h
    exact h.1.1.1.1.2
  unfold fitsOk
  rw [List.all_eq_true.1 hm x hx, Bool.true_and]
theorem runFirst_eq (r : Rn) (kind : Int) : runFirst r kind = if runOk r && inB kind 0 3 && decide (0 ≤ idxP (fits · kind) r.mail) then (idxP (fits · kind) r.mail, true) else (0, false) := by
  unfold runFirst firstIx idxP
  cases h1 : runOk r && inB kind 0 3 with
  | false => simp
  | true =>
    simp only [if_true, Bool.true_and]
    cases List.findIdx? (fits · kind) r.mail with
    | none => simp
    | some i => simp
/-- What both sides answer. -/
def FirstPost (r : Rn) (kind : Int) (w : World) (e : Ending) (w' : World) : Prop := e = .returned (.tuple #[.int .i64 (runFirst r kind).1, .bool (runFirst r kind).2]) ∧ Below w.heap.size w w'

set_option maxHeartbeats 2000000 in
theorem sRunFirst (r : Rn) (a : RA) (kind : Int) (B : Nat) (w : World) (hr : ReadsRun w B r a) (hB : B ≤ w.heap.size) : Calls Try.prog 35 #[.agg (runArr r a), .int .i64 kind] w (FirstPost r kind w) := by
  unfold FirstPost
  rw [runFirst_eq]
  have H1 := Lib.hid (fun W (hb : Below w.heap.size w W) => sRunOk r a B W (hr.below hb hB) (Nat.le_trans hB hb.size))
  have H2 := Lib.hid (fun W (hb : Below w.heap.size w W) => sFirst r a kind B W (hr.below hb hB) (Nat.le_trans hB hb.size))
  have H3 := Lib.hid (fun W => sIn kind 0 3 W)
  clear hr
  generalize runOk r = b1 at H1 ⊢
  generalize inB kind 0 3 = b2 at H3 ⊢
  generalize idxP (fits · kind) r.mail = ix at H2 ⊢
  obtain ⟨id, at_, slots, full, mail, state, due, links, watched, trap, ⟨wk, wn⟩, turns⟩ := r
  obtain ⟨sA, sC, mA, mC, lA, lC, wA, wC⟩ := a
  simp only [runArr] at H1 H2 ⊢
  cases b1 with
  | false =>
    simp only [Bool.false_and, if_false, Bool.false_eq_true]
    go_enter Try.func35, Try.ntmps35
    go_wp2_with (go_at_call 33; refine (H1.out _ (below_box _ _)).mono ?_; rintro e w1 ⟨rfl, hb1⟩; have B1 := below_step (below_box _ _) hb1)
    go_ret2
    exact ⟨rfl, B1⟩
  | true =>
    cases b2 with
    | false =>
      simp only [Bool.and_false, Bool.false_and, if_false, Bool.false_eq_true]
      go_enter Try.func35, Try.ntmps35
      go_wp2_with (first | (go_at_call 33; refine (H1.out _ (below_box _ _)).mono ?_; rintro e w1 ⟨rfl, hb1⟩; have B1 := below_step (below_box _ _) hb1) | (go_at_call 80; refine (H3.out _).mono ?_; rintro e w' ⟨rfl, rfl⟩))
      go_ret2
      exact ⟨rfl, B1⟩
    | true =>
      by_cases h0 : 0 ≤ ix
      · simp only [Bool.and_self, h0, decide_true, if_true]
        go_enter Try.func35, Try.ntmps35
        go_wp2_with (first | (go_at_call 33; refine (H1.out _ (below_box _ _)).mono ?_; rintro e w1 ⟨rfl, hb1⟩; have B1 := below_step (below_box _ _) hb1; obtain ⟨hc1, hf1⟩ := bcell hb1; have hx1 : w.heap.size < w1.heap.size := (by have := hb1.size; simp at this; omega)) | (go_at_call 80; refine (H3.out _).mono ?_; rintro e w' ⟨rfl, rfl⟩) | (go_at_call 84; refine (H2.out _ B1).mono ?_; rintro e w2 ⟨rfl, hb2⟩; have B2 := below_step B1 hb2))
        go_ret2
        refine ⟨?_, B2⟩
        simp [h0]
      · simp only [h0, decide_false, Bool.and_false, if_false, Bool.false_eq_true]
        go_enter Try.func35, Try.ntmps35
        go_wp2_with (first | (go_at_call 33; refine (H1.out _ (below_box _ _)).mono ?_; rintro e w1 ⟨rfl, hb1⟩; have B1 := below_step (below_box _ _) hb1; obtain ⟨hc1, hf1⟩ := bcell hb1; have hx1 : w.heap.size < w1.heap.size := (by have := hb1.size; simp at this; omega)) | (go_at_call 80; refine (H3.out _).mono ?_; rintro e w' ⟨rfl, rfl⟩) | (go_at_call 84; refine (H2.out _ B1).mono ?_; rintro e w2 ⟨rfl, hb2⟩; have B2 := below_step B1 hb2))
        go_ret2
        refine ⟨?_, B2⟩
        simp [h0]

set_option maxHeartbeats 2000000 in
theorem iRunFirst (r : Rn) (a : RA) (kind : Int) (B : Nat) (w : World) (hr : ReadsRun w B r a) (hB : B ≤ w.heap.size) : Calls Try.prog 36 #[.agg (runArr r a), .int .i64 kind] w (FirstPost r kind w) := by
  unfold FirstPost
  rw [runFirst_eq]
  have H1 := Lib.hid (fun W (hb : Below w.heap.size w W) => iRunOk r a B W (hr.below hb hB) (Nat.le_trans hB hb.size))
  have H2 := Lib.hid (fun W (hb : Below w.heap.size w W) => iFirst r a kind B W (hr.below hb hB) (Nat.le_trans hB hb.size))
  have H3 := Lib.hid (fun W => iIn kind 0 3 W)
  have hs := Lib.hid (first_same (r := r) kind)
  clear hr
  generalize runOk r = b1 at H1 hs ⊢
  generalize inB kind 0 3 = b2 at H3 ⊢
  generalize idxP (fitsOk · kind) r.mail = iy at H2 hs
  generalize idxP (fits · kind) r.mail = ix at hs ⊢
  obtain ⟨id, at_, slots, full, mail, state, due, links, watched, trap, ⟨wk, wn⟩, turns⟩ := r
  obtain ⟨sA, sC, mA, mC, lA, lC, wA, wC⟩ := a
  simp only [runArr] at H1 H2 ⊢
  cases b1 with
  | false =>
    simp only [Bool.false_and, if_false, Bool.false_eq_true]
    go_enter Try.func36, Try.ntmps36
    go_wp2_with (go_at_call 32; refine (H1.out _ (below_box _ _)).mono ?_; rintro e w1 ⟨rfl, hb1⟩; have B1 := below_step (below_box _ _) hb1)
    go_ret2
    exact ⟨rfl, B1⟩
  | true =>
    have hs' := hs.out rfl
    subst hs'
    cases b2 with
    | false =>
      simp only [Bool.and_false, Bool.false_and, if_false, Bool.false_eq_true]
      go_enter Try.func36, Try.ntmps36
      go_wp2_with (first | (go_at_call 32; refine (H1.out _ (below_box _ _)).mono ?_; rintro e w1 ⟨rfl, hb1⟩; have B1 := below_step (below_box _ _) hb1) | (go_at_call 75; refine (H3.out _).mono ?_; rintro e w' ⟨rfl, rfl⟩))
      go_ret2
      exact ⟨rfl, B1⟩
    | true =>
      by_cases h0 : 0 ≤ iy
      · simp only [Bool.and_self, h0, decide_true, if_true]
        go_enter Try.func36, Try.ntmps36
        have hlt : ¬ iy < 0 := by omega
        go_wp2_with (first | (go_at_call 32; refine (H1.out _ (below_box _ _)).mono ?_; rintro e w1 ⟨rfl, hb1⟩; have B1 := below_step (below_box _ _) hb1; obtain ⟨hc1, hf1⟩ := bcell hb1; have hx1 : w.heap.size < w1.heap.size := (by have := hb1.size; simp at this; omega)) | (go_at_call 75; refine (H3.out _).mono ?_; rintro e w' ⟨rfl, rfl⟩) | (go_at_call 85; refine (H2.out _ B2).mono ?_; rintro e w3 ⟨rfl, hb3⟩; have B3 := below_step B2 hb3) | (go_at_call 85; refine (H2.out _ B1).mono ?_; rintro e w2 ⟨rfl, hb2⟩; have B2 := below_step B1 hb2; obtain ⟨hc2, hf2⟩ := bcell hb2; have hx2 : w.heap.size < w2.heap.size := (by have := hb2.size; omega)))
        go_ret2
        exact ⟨rfl, B3⟩
      · simp only [h0, decide_false, Bool.and_false, if_false, Bool.false_eq_true]
        go_enter Try.func36, Try.ntmps36
        have hlt : iy < 0 := by omega
        go_wp2_with (first | (go_at_call 32; refine (H1.out _ (below_box _ _)).mono ?_; rintro e w1 ⟨rfl, hb1⟩; have B1 := below_step (below_box _ _) hb1; obtain ⟨hc1, hf1⟩ := bcell hb1; have hx1 : w.heap.size < w1.heap.size := (by have := hb1.size; simp at this; omega)) | (go_at_call 75; refine (H3.out _).mono ?_; rintro e w' ⟨rfl, rfl⟩) | (go_at_call 85; refine (H2.out _ B1).mono ?_; rintro e w2 ⟨rfl, hb2⟩; have B2 := below_step B1 hb2; obtain ⟨hc2, hf2⟩ := bcell hb2; have hx2 : w.heap.size < w2.heap.size := (by have := hb2.size; omega)))
        go_ret2
        exact ⟨rfl, B2⟩
end Go.Proofs.Ytmidnaafljgbiaa
/- What a taking comes to, by the place of what fits first. -/
namespace Go.Proofs.Ytmidnaafljgbiaa

theorem runTake_of (r : Rn) (kind : Int) : (∃ k : Nat, ∃ h : k < r.mail.length, runOk r = true ∧ runFirst r kind = ((k : Int), true) ∧ runTake r kind = ({ r with mail := r.mail.eraseIdx k }, r.mail[k], true)) ∨
    (runFirst r kind = (0, false) ∧ runTake r kind = (Rn.zero, Vl.zero, false)) := by
  unfold runFirst runTake
  cases hb : runOk r && inB kind 0 3 with
  | false => exact .inr (by simp)
  | true =>
    cases hf : firstIx r.mail kind with
    | none => exact .inr (by simp)
    | some k =>
      obtain ⟨hk, _⟩ := firstIx_some hf
      refine .inl ⟨k, hk, (Bool.and_eq_true_iff.1 hb).1, by simp, ?_⟩
      simp [List.getD_eq_getElem?_getD, List.getElem?_eq_getElem hk]
end Go.Proofs.Ytmidnaafljgbiaa
/- A value is taken from a run's mail, by the program. -/
namespace Go.Proofs.Ytmidnaafljgbiaa
open Go.RowKit
set_option maxRecDepth 100000

set_option maxHeartbeats 2000000 in
theorem iTake (r : Rn) (a : RA) (g k : Nat) {w0 w : World} {f : List Nat} {L : List Asn} (M : Mem w0 f w (blk g tR (encR (r, a)) :: row encV 2 tV a.mA a.mC r.mail :: L)) (hk : k < r.mail.length) (hl : r.mail.length ≤ 1000) :
    Calls Try.prog 54 #[.pointer (some ⟨g, 0, none⟩), .int .i64 (k : Int)] w fun e w' => e = .returned (.agg #[.int .i64 r.mail[k].k, .int .i64 r.mail[k].n]) ∧
      Mem w0 f w' (blk g tR (encR ({ r with mail := r.mail.eraseIdx k }, a)) :: row encV 2 tV a.mA a.mC (r.mail.eraseIdx k) :: L) := by
  obtain ⟨id, at_, slots, full, mail, state, due, links, watched, trap, ⟨wk, wn⟩, turns⟩ := r
  obtain ⟨sA, sC, mA, mC, lA, lC, wA, wC⟩ := a
  simp only at hk hl M ⊢
  obtain ⟨gm, rfl⟩ := row_form M (.there .here) (by omega)
  have HRE : Hid (∀ (U : World) (L1 L2 : List Asn), Mem w0 f U L1 → Del (row encV 2 tV (some ⟨gm, 0, none⟩) mC mail) L1 L2 → U.cell? ⟨gm, k * 2, none⟩ = some (.int .i64 mail[k].k) ∧ U.cell? ⟨gm, k * 2 + 1, none⟩ = some (.int .i64 mail[k].n)) := by
    intro U L1 L2 M hd
    obtain ⟨_, e2, _⟩ := row_elem encV_length M hd (k := k) hk
    exact ⟨by simpa [encV] using e2 0 (by decide), by simpa [encV] using e2 1 (by decide)⟩
  have HDe : Hid (∀ {U : World} {L1 L2 : List Asn}, Mem w0 f U L1 → Del (row encV 2 tV (some ⟨gm, 0, none⟩) mC mail) L1 L2 → Calls Try.prog 93 #[.slice (some ⟨gm, 0, none⟩) mail.length mC, .int .i64 (k : Int), .int .i64 ((k : Int) + 1)] U fun e w' => e = .returned (.slice (some ⟨gm, 0, none⟩) (mail.eraseIdx k).length mC) ∧ Mem w0 f w' (row encV 2 tV (some ⟨gm, 0, none⟩) mC (mail.eraseIdx k) :: L2)) := fun {U L1 L2} M hd => by
    rw [List.length_eraseIdx, if_pos hk]
    exact iDelete mail gm mC k M hd hk hl
  have AL := add_lit0
  have k1 : (0 : Int) ≤ k := by omega
  have k2 : (k : Int) < mail.length := by omega
  have hw1 : IntKind.i64.wrap ((k : Int) + 1) = (k : Int) + 1 := by rw [IntKind.wrap_i64]; omega
  generalize hx : mail[k] = x at HRE ⊢
  obtain ⟨xk, xn⟩ := x
  clear hx hl
  generalize mail.eraseIdx k = ml at HDe ⊢
  have M : Mem w0 f w (blk g tR [.int .i64 id, .int .i64 at_, .slice sA slots.length sC, .int .i64 full, .slice (some ⟨gm, 0, none⟩) mail.length mC, .int .i64 state, .int .i64 due, .slice lA links.length lC, .slice wA watched.length wC, .bool trap, .int .i64 wk, .int .i64 wn, .int .i64 turns] :: row encV 2 tV (some ⟨gm, 0, none⟩) mC mail :: L) := M
  (try clear F); have F := fx M
  go_enter Try.func54, Try.ntmps54
  go_upto_region 1 with (first | (with_reducible refine alA M ?_; clear M; (try clear F); intro w1 M F))
  have E := HRE.out _ _ _ M dl
  go_upto_region 2 with (first | ((with_reducible refine alA M ?_; clear M; (try clear F); intro w1 M F); replace E := HRE.out _ _ _ M dl) | ((with_reducible apply ev_store (M := M)); rfl; rfl; ((conv => lhs; whnf) <;> rfl); rfl; (first | exact siI | exact siR | exact siV | exact siB | exact siSI | exact siSV | exact siW | exact siSR | exact siSO | exact siO); (exact one_all rfl); (exact dl); (exact Nat.le_of_ble_eq_true rfl); clear M; intro w1 M; simp only [SX] at M; (try clear F); have F := fx M))
  clear E
  go_wp2_with (first | ((with_reducible apply ev_store (M := M)); rfl; rfl; ((conv => lhs; whnf) <;> rfl); rfl; (first | exact siI | exact siR | exact siV | exact siB | exact siSI | exact siSV | exact siW | exact siSR | exact siSO | exact siO); (exact one_all rfl); (exact dl); (exact Nat.le_of_ble_eq_true rfl); clear M; intro w1 M; simp only [SX] at M; (try clear F); have F := fx M) | (go_at_call 93; (refine nmK ?_; clear M; (try clear F); intro w1 M F); with_reducible refine (HDe.out M dl).mono ?_; clear M; rintro e w2 ⟨rfl, M⟩; (try clear F); have F := fx M))
  apply ret_cell (M := M); rfl; rfl; (exact dl); (first | exact agR | exact agV | exact agW | exact agO); (first | exact siI | exact siR | exact siV | exact siB | exact siSI | exact siSV | exact siW | exact siSR | exact siSO | exact siO); rfl
  exact ⟨rfl, M.sel (.cons (.there .here) (.cons (.there .here) (.drop (.drop .refl))))⟩
theorem iTakeR (r : Rn) (a : RA) (g k : Nat) {w0 w : World} {f : List Nat} {L L1 L2 : List Asn} (M : Mem w0 f w L) (hb : Del (blk g tR (encR (r, a))) L L1) (hd : Del (runA r a) L1 L2) (hk : k < r.mail.length) (hl : r.mail.length ≤ 1000) :
    Calls Try.prog 54 #[.pointer (some ⟨g, 0, none⟩), .int .i64 (k : Int)] w fun e w' => e = .returned (.agg #[.int .i64 r.mail[k].k, .int .i64 r.mail[k].n]) ∧
      Mem w0 f w' (blk g tR (encR ({ r with mail := r.mail.eraseIdx k }, a)) :: runA { r with mail := r.mail.eraseIdx k } a :: L2) := by
  have M1 := (M.perm (hb.perm.trans ((List.Perm.cons _ hd.perm).trans (List.Perm.swap _ _ _)))).unpackRun
  refine (iTake r a g k (M1.sel (.cons (.there (.there (.there (.there .here)))) (.cons (.there .here) .refl))) hk hl).mono ?_
  rintro e w' ⟨rfl, M⟩
  have M2 : Mem w0 f w' (runA { r with mail := r.mail.eraseIdx k } a :: blk g tR (encR ({ r with mail := r.mail.eraseIdx k }, a)) :: L2) := Mem.packRun (r := { r with mail := r.mail.eraseIdx k }) (a := a) (M.sel (.cons (.there (.there .here)) (.cons (.there .here) (.cons (.there .here) (.cons (.there .here) .refl)))))
  exact ⟨rfl, M2.perm (List.Perm.swap _ _ _)⟩
theorem sTakeR (r : Rn) (a : RA) (k : Nat) {w0 w : World} {f : List Nat} {L L' : List Asn} (M : Mem w0 f w L) (hd : Del (runA r a) L L') (hk : k < r.mail.length) (hl : r.mail.length ≤ 1000) :
    Calls Try.prog 48 #[.agg (runArr r a), .int .i64 (k : Int)] w fun e w' => ∃ b : RA, e = .returned (.tuple #[.agg (runArr { r with mail := r.mail.eraseIdx k } b), .agg #[.int .i64 r.mail[k].k, .int .i64 r.mail[k].n]]) ∧ Mem w0 f w' (runA { r with mail := r.mail.eraseIdx k } b :: L') := by
  have M1 := (M.pull hd).unpackRun
  refine (sTake11 r a k M1 (.there .here) hk hl).mono ?_
  rintro e w' ⟨A, c, rfl, M⟩
  exact ⟨{ a with mA := A, mC := c }, rfl, Mem.packRun (r := { r with mail := r.mail.eraseIdx k }) (a := { a with mA := A, mC := c }) (M.sel (.cons (.there (.there .here)) (.cons .here (.drop .refl))))⟩
def TakePost (q : Rn × Vl × Bool) (r : Rn) (a : RA) (w0 : World) (f : List Nat) (L : List Asn) (e : Ending) (w' : World) : Prop := ∃ b : RA, e = .returned (.tuple #[.agg (runArr q.1 b), .agg #[.int .i64 q.2.1.k, .int .i64 q.2.1.n], .bool q.2.2]) ∧ Mem w0 f w' (runA q.1 b :: runA r a :: L)
set_option maxHeartbeats 4000000 in
theorem iRunTake (r : Rn) (a : RA) (kind : Int) {w0 w : World} {f : List Nat} {L L' : List Asn} (M : Mem w0 f w L) (hd : Del (runA r a) L L') (h3 : r.links.length ≤ 17592186044416) (h4 : r.watched.length ≤ 17592186044416) :
    Calls Try.prog 17 #[.agg (runArr r a), .int .i64 kind] w (TakePost (runTake r kind) r a w0 f L') := by
  have HF : Hid (∀ {U : World} {L1 L2 : List Asn}, Mem w0 f U L1 → Del (runA r a) L1 L2 → Calls Try.prog 36 #[.agg (runArr r a), .int .i64 kind] U fun e w' => e = .returned (.tuple #[.int .i64 (runFirst r kind).1, .bool (runFirst r kind).2]) ∧ Below U.heap.size U w') := fun {U L1 L2} M hd => iRunFirst r a kind U.heap.size U (M.runReads hd) (Nat.le_refl _)
  rcases runTake_of r kind with ⟨k, hk, hok, e1, e2⟩ | ⟨e1, e2⟩
  · have H1 : Hid (∀ {U : World} {L1 L2 : List Asn}, Mem w0 f U L1 → Del (runA r a) L1 L2 → Calls Try.prog 36 #[.agg (runArr r a), .int .i64 kind] U fun e w' => e = .returned (.tuple #[.int .i64 (k : Int), .bool true]) ∧ Below U.heap.size U w') := fun {U L1 L2} M hd => by
      have h := HF.out M hd
      rw [e1] at h
      exact h
    have HC : Hid (∀ {U : World} {L1 L2 : List Asn}, Mem w0 f U L1 → Del (runA r a) L1 L2 → Calls Try.prog 53 #[.agg (runArr r a)] U fun e w' => ∃ b : RA, e = .returned (.agg (runArr r b)) ∧ Mem w0 f w' (runA r b :: runA r a :: L2)) := fun {U L1 L2} M hd => iCopied r a M hd (by have := (runOk_shape hok).1; omega) (by have := (runOk_shape hok).2.2; omega) h3 h4
    have HT : Hid (∀ {U : World} {L1 L2 L3 : List Asn} {g : Nat} (b : RA), Mem w0 f U L1 → Del (blk g tR (encR (r, b))) L1 L2 → Del (runA r b) L2 L3 → Calls Try.prog 54 #[.pointer (some ⟨g, 0, none⟩), .int .i64 (k : Int)] U fun e w' => e = .returned (.agg #[.int .i64 r.mail[k].k, .int .i64 r.mail[k].n]) ∧
      Mem w0 f w' (blk g tR (encR ({ r with mail := r.mail.eraseIdx k }, b)) :: runA { r with mail := r.mail.eraseIdx k } b :: L3)) := fun {U L1 L2 L3 g} b M h1 h2 => iTakeR r b g k M h1 h2 hk (by have := (runOk_shape hok).2.2; omega)
    rw [e2]
    replace M := M.pull hd
    clear hd h3 h4 e1 e2 hok HF
    generalize hx : r.mail[k] = x at HT ⊢
    clear hx
    generalize hm : r.mail.eraseIdx k = ml at HT ⊢
    clear hm hk
    obtain ⟨xk, xn⟩ := x
    have HZ : Hid (∀ {U : World} {b : RA}, Mem w0 f U (runA { r with mail := ml } b :: runA r a :: L') → TakePost ({ r with mail := ml }, ⟨xk, xn⟩, true) r a w0 f L' (.returned (.tuple #[.agg (runArr { r with mail := ml } b), .agg #[.int .i64 xk, .int .i64 xn], .bool true])) U) := fun {U b} M => ⟨b, rfl, M⟩
    obtain ⟨id, at_, slots, full, mail, state, due, links, watched, trap, ⟨wk, wn⟩, turns⟩ := r
    obtain ⟨sA, sC, mA, mC, lA, lC, wA, wC⟩ := a
    simp only [runArr, encR] at H1 HC HT HZ ⊢
    (try clear F); have F := fx M
    go_enter Try.func17, Try.ntmps17
    go_upto_region 5 with (first
      | (with_reducible refine alA M ?_; clear M; (try clear F); intro w1 M F)
      | ((with_reducible apply ev_store (M := M)); rfl; rfl; ((conv => lhs; whnf) <;> rfl); rfl; (first | exact siI | exact siR | exact siV | exact siB | exact siSI | exact siSV | exact siW | exact siSR | exact siSO | exact siO); (exact one_all rfl); (exact dl); (exact Nat.le_of_ble_eq_true rfl); clear M; intro w1 M; simp only [SX] at M; (try clear F); have F := fx M)
      | (go_at_call 36; (refine nmK ?_; clear M; (try clear F); intro w1 M F); with_reducible refine (H1.out M dl).mono ?_; rintro e w2 ⟨rfl, hb⟩; replace M := M.below hb; clear hb; (try clear F); have F := fx M)
      | (go_at_call 53; (refine nmK ?_; clear M; (try clear F); intro w1 M F); with_reducible refine (HC.out M dl).mono ?_; clear M; rintro e w2 ⟨⟨sA2, sC2, mA2, mC2, lA2, lC2, wA2, wC2⟩, rfl, M⟩; (try simp only at M); (try clear F); have F := fx M))
    generalize w2.heap.size = g9 at M ⊢
    (try clear F); have F := fx M
    go_upto_region 6 with (first
      | (with_reducible refine alA M ?_; clear M; (try clear F); intro w1 M F)
      | ((with_reducible apply ev_store (M := M)); rfl; rfl; ((conv => lhs; whnf) <;> rfl); rfl; (first | exact siI | exact siR | exact siV | exact siB | exact siSI | exact siSV | exact siW | exact siSR | exact siSO | exact siO); (exact one_all rfl); (exact dl); (exact Nat.le_of_ble_eq_true rfl); clear M; intro w1 M; simp only [SX] at M; (try clear F); have F := fx M)
      | (go_at_call 54; (refine nmK ?_; clear M; (try clear F); intro w1 M F); with_reducible refine (HT.out ⟨sA2, sC2, mA2, mC2, lA2, lC2, wA2, wC2⟩ M dl dl).mono ?_; clear M; rintro e w2 ⟨rfl, M⟩; (try simp only at M); (try clear F); have F := fx M))
    generalize w2.heap.size = g10 at M ⊢
    (try clear F); have F := fx M
    (refine held_begin (S := fun W' => (∀ j, W'.cell? ⟨g9, j, none⟩ = ([.int .i64 id, .int .i64 at_, .slice sA2 slots.length sC2, .int .i64 full, .slice mA2 ml.length mC2, .int .i64 state, .int .i64 due, .slice lA2 links.length lC2, .slice wA2 watched.length wC2, .bool trap, .int .i64 wk, .int .i64 wn, .int .i64 turns] : List Value)[j]?) ∧ ∀ j, W'.cell? ⟨g10, j, none⟩ = ([.int .i64 xk, .int .i64 xn] : List Value)[j]?) (by kernel_rfl) (fun _ _ _ _ _ h => h) (by (exact ⟨kc, kc⟩)) (fun HQ hHeld => ?_))
    refine tkY HQ hHeld 0 ?_; refine tkY HQ hHeld 1 ?_; clear hHeld; (refine nm (G := fun W => wpAnyH _ _ _ _ _ _ _ _ W) ?_; clear M; (try clear F); intro w1 M F)
    refine stp 2 (fun K hK => ?_)
    refine op_of_list rfl ?_; ((with_reducible apply ev_store (M := M)); rfl; rfl; ((conv => lhs; whnf) <;> rfl); rfl; (first | exact siI | exact siR | exact siV | exact siB | exact siSI | exact siSV | exact siW | exact siSR | exact siSO | exact siO); (exact one_all rfl); (exact dl); (exact Nat.le_of_ble_eq_true rfl); clear M; intro w1 M; simp only [SX] at M; (try clear F); have F := fx M)
    (try go_wp2_with fail); refine hK.out _ _ (by (exact ⟨kc, kc⟩)) (fun hHeld => ?_); clear hK K; (try simp only [AX])
    refine stp 3 (fun K hK => ?_)
    refine op_of_list rfl ?_; ((with_reducible apply ev_store (M := M)); rfl; rfl; ((conv => lhs; whnf) <;> rfl); rfl; (first | exact siI | exact siR | exact siV | exact siB | exact siSI | exact siSV | exact siW | exact siSR | exact siSO | exact siO); (exact one_all rfl); (exact dl); (exact Nat.le_of_ble_eq_true rfl); clear M; intro w1 M; simp only [SX] at M; (try clear F); have F := fx M)
    (try go_wp2_with fail); refine hK.out _ _ (by (exact ⟨kc, kc⟩)) (fun hHeld => ?_); clear hK K; (try simp only [AX])
    refine tkY HQ hHeld 4 ?_
    refine wpAnyH_done (by kernel_rfl) ?_ _; clear HQ; (repeat clear hHeld)
    go_wp2
    (apply ret_cell_cell_tmp (M := M); rfl; rfl; rfl; rfl; (exact dl); (exact dl); (first | exact agR | exact agV | exact agW | exact agO); (first | exact agR | exact agV | exact agW | exact agO); (first | exact siI | exact siR | exact siV | exact siB | exact siSI | exact siSV | exact siW | exact siSR | exact siSO | exact siO); (first | exact siI | exact siR | exact siV | exact siB | exact siSI | exact siSV | exact siW | exact siSR | exact siSO | exact siO); rfl)
    exact HZ.out (b := ⟨sA2, sC2, mA2, mC2, lA2, lC2, wA2, wC2⟩) (M.sel sl)
  · have H1 : Hid (∀ {U : World} {L1 L2 : List Asn}, Mem w0 f U L1 → Del (runA r a) L1 L2 → Calls Try.prog 36 #[.agg (runArr r a), .int .i64 kind] U fun e w' => e = .returned (.tuple #[.int .i64 0, .bool false]) ∧ Below U.heap.size U w') := fun {U L1 L2} M hd => by
      have h := HF.out M hd
      rw [e1] at h
      exact h
    rw [e2]
    replace M := M.pull hd
    clear hd h3 h4 e1 e2 HF
    have HZ : Hid (∀ {U : World}, Mem w0 f U (runA r a :: L') → TakePost (Rn.zero, Vl.zero, false) r a w0 f L' (.returned (.tuple #[.agg (List.toArray [.int .i64 0, .int .i64 0, .slice none 0 0, .int .i64 0, .slice none 0 0, .int .i64 0, .int .i64 0, .slice none 0 0, .slice none 0 0, .bool false, .int .i64 0, .int .i64 0, .int .i64 0]), .agg #[.int .i64 0, .int .i64 0], .bool false])) U) := fun {U} M => ⟨⟨none, 0, none, 0, none, 0, none, 0⟩, rfl, runZ_mem M⟩
    obtain ⟨id, at_, slots, full, mail, state, due, links, watched, trap, ⟨wk, wn⟩, turns⟩ := r
    obtain ⟨sA, sC, mA, mC, lA, lC, wA, wC⟩ := a
    simp only [runArr] at H1 ⊢
    (try clear F); have F := fx M
    go_enter Try.func17, Try.ntmps17
    go_wp2_with (first
      | (with_reducible refine alA M ?_; clear M; (try clear F); intro w1 M F)
      | ((with_reducible apply ev_store (M := M)); rfl; rfl; ((conv => lhs; whnf) <;> rfl); rfl; (first | exact siI | exact siR | exact siV | exact siB | exact siSI | exact siSV | exact siW | exact siSR | exact siSO | exact siO); (exact one_all rfl); (exact dl); (exact Nat.le_of_ble_eq_true rfl); clear M; intro w1 M; simp only [SX] at M; (try clear F); have F := fx M)
      | (go_at_call 36; (refine nmK ?_; clear M; (try clear F); intro w1 M F); with_reducible refine (H1.out M dl).mono ?_; rintro e w2 ⟨rfl, hb⟩; replace M := M.below hb; clear hb; (try clear F); have F := fx M))
    (apply ret_cell_cell_tmp (M := M); rfl; rfl; rfl; rfl; (exact dl); (exact dl); (first | exact agR | exact agV | exact agW | exact agO); (first | exact agR | exact agV | exact agW | exact agO); (first | exact siI | exact siR | exact siV | exact siB | exact siSI | exact siSV | exact siW | exact siSR | exact siSO | exact siO); (first | exact siI | exact siR | exact siV | exact siB | exact siSI | exact siSV | exact siW | exact siSR | exact siSO | exact siO); rfl)
    exact HZ.out (M.sel sl)
theorem sRunTake (r : Rn) (a : RA) (kind : Int) {w0 w : World} {f : List Nat} {L L' : List Asn} (M : Mem w0 f w L) (hd : Del (runA r a) L L') (h3 : r.links.length ≤ 17592186044416) (h4 : r.watched.length ≤ 17592186044416) :
    Calls Try.prog 15 #[.agg (runArr r a), .int .i64 kind] w (TakePost (runTake r kind) r a w0 f L') := by
  have HF : Hid (∀ {U : World} {L1 L2 : List Asn}, Mem w0 f U L1 → Del (runA r a) L1 L2 → Calls Try.prog 35 #[.agg (runArr r a), .int .i64 kind] U fun e w' => e = .returned (.tuple #[.int .i64 (runFirst r kind).1, .bool (runFirst r kind).2]) ∧ Below U.heap.size U w') := fun {U L1 L2} M hd => sRunFirst r a kind U.heap.size U (M.runReads hd) (Nat.le_refl _)
  rcases runTake_of r kind with ⟨k, hk, hok, e1, e2⟩ | ⟨e1, e2⟩
  · have H1 : Hid (∀ {U : World} {L1 L2 : List Asn}, Mem w0 f U L1 → Del (runA r a) L1 L2 → Calls Try.prog 35 #[.agg (runArr r a), .int .i64 kind] U fun e w' => e = .returned (.tuple #[.int .i64 (k : Int), .bool true]) ∧ Below U.heap.size U w') := fun {U L1 L2} M hd => by
      have h := HF.out M hd
      rw [e1] at h
      exact h
    have HC : Hid (∀ {U : World} {L1 L2 : List Asn}, Mem w0 f U L1 → Del (runA r a) L1 L2 → Calls Try.prog 49 #[.agg (runArr r a)] U fun e w' => ∃ b : RA, e = .returned (.agg (runArr r b)) ∧ Mem w0 f w' (runA r b :: runA r a :: L2)) := fun {U L1 L2} M hd => by
      have hs := runOk_shape hok
      have hr := runA_reads (M.is hd)
      refine (sCopy r a U.heap.size U hr.1 (Nat.le_refl _) hr.2 (by omega) (by omega) h3 h4).mono ?_
      rintro e w' ⟨b, rfl, ho, hb⟩
      exact ⟨b, rfl, ((M.pull hd).call0 (Mem.ofRun ho hb))⟩
    have HT : Hid (∀ {U : World} {L1 L2 : List Asn} (b : RA), Mem w0 f U L1 → Del (runA r b) L1 L2 → Calls Try.prog 48 #[.agg (runArr r b), .int .i64 (k : Int)] U fun e w' => ∃ b' : RA, e = .returned (.tuple #[.agg (runArr { r with mail := r.mail.eraseIdx k } b'), .agg #[.int .i64 r.mail[k].k, .int .i64 r.mail[k].n]]) ∧ Mem w0 f w' (runA { r with mail := r.mail.eraseIdx k } b' :: L2)) := fun {U L1 L2} b M h1 => sTakeR r b k M h1 hk (by have := (runOk_shape hok).2.2; omega)
    rw [e2]
    replace M := M.pull hd
    clear hd h3 h4 e1 e2 hok HF
    generalize hx : r.mail[k] = x at HT ⊢
    clear hx
    generalize hm : r.mail.eraseIdx k = ml at HT ⊢
    clear hm hk
    obtain ⟨xk, xn⟩ := x
    have HZ : Hid (∀ {U : World} {b : RA}, Mem w0 f U (runA { r with mail := ml } b :: runA r a :: L') → TakePost ({ r with mail := ml }, ⟨xk, xn⟩, true) r a w0 f L' (.returned (.tuple #[.agg (runArr { r with mail := ml } b), .agg #[.int .i64 xk, .int .i64 xn], .bool true])) U) := fun {U b} M => ⟨b, rfl, M⟩
    obtain ⟨id, at_, slots, full, mail, state, due, links, watched, trap, ⟨wk, wn⟩, turns⟩ := r
    obtain ⟨sA, sC, mA, mC, lA, lC, wA, wC⟩ := a
    simp only [runArr] at H1 HC HT HZ ⊢
    (try clear F); have F := fx M
    go_enter Try.func15, Try.ntmps15
    go_upto_region 5 with (first
      | (with_reducible refine alA M ?_; clear M; (try clear F); intro w1 M F)
      | ((with_reducible apply ev_store (M := M)); rfl; rfl; ((conv => lhs; whnf) <;> rfl); rfl; (first | exact siI | exact siR | exact siV | exact siB | exact siSI | exact siSV | exact siW | exact siSR | exact siSO | exact siO); (exact one_all rfl); (exact dl); (exact Nat.le_of_ble_eq_true rfl); clear M; intro w1 M; simp only [SX] at M; (try clear F); have F := fx M)
      | (go_at_call 35; (refine nmK ?_; clear M; (try clear F); intro w1 M F); with_reducible refine (H1.out M dl).mono ?_; rintro e w2 ⟨rfl, hb⟩; replace M := M.below hb; clear hb; (try clear F); have F := fx M)
      | (go_at_call 49; (refine nmK ?_; clear M; (try clear F); intro w1 M F); with_reducible refine (HC.out M dl).mono ?_; clear M; rintro e w2 ⟨⟨sA1, sC1, mA1, mC1, lA1, lC1, wA1, wC1⟩, rfl, M⟩; (try simp only at M); (try clear F); have F := fx M)
      | (go_at_call 48; (refine nmK ?_; clear M; (try clear F); intro w1 M F); with_reducible refine (HT.out ⟨sA1, sC1, mA1, mC1, lA1, lC1, wA1, wC1⟩ M dl).mono ?_; clear M; rintro e w2 ⟨⟨sA2, sC2, mA2, mC2, lA2, lC2, wA2, wC2⟩, rfl, M⟩; (try simp only at M); (try clear F); have F := fx M))
    rename_i u1 u2 u3 _ _
    generalize u1.heap.size = g10 at M ⊢
    generalize w2.heap.size = g9 at M ⊢
    (try clear F); have F := fx M
    (refine held_begin (S := fun W' => (∀ j, W'.cell? ⟨g9, j, none⟩ = ([.int .i64 id, .int .i64 at_, .slice sA2 slots.length sC2, .int .i64 full, .slice mA2 ml.length mC2, .int .i64 state, .int .i64 due, .slice lA2 links.length lC2, .slice wA2 watched.length wC2, .bool trap, .int .i64 wk, .int .i64 wn, .int .i64 turns] : List Value)[j]?) ∧ ∀ j, W'.cell? ⟨g10, j, none⟩ = ([.int .i64 xk, .int .i64 xn] : List Value)[j]?) (by kernel_rfl) (fun _ _ _ _ _ h => h) (by (exact ⟨kc, kc⟩)) (fun HQ hHeld => ?_))
    refine tkY HQ hHeld 0 ?_; refine tkY HQ hHeld 1 ?_; clear hHeld; (refine nm (G := fun W => wpAnyH _ _ _ _ _ _ _ _ W) ?_; clear M; (try clear F); intro w1 M F)
    refine stp 2 (fun K hK => ?_)
    refine op_of_list rfl ?_; ((with_reducible apply ev_store (M := M)); rfl; rfl; ((conv => lhs; whnf) <;> rfl); rfl; (first | exact siI | exact siR | exact siV | exact siB | exact siSI | exact siSV | exact siW | exact siSR | exact siSO | exact siO); (exact one_all rfl); (exact dl); (exact Nat.le_of_ble_eq_true rfl); clear M; intro w1 M; simp only [SX] at M; (try clear F); have F := fx M)
    (try go_wp2_with fail); refine hK.out _ _ (by (exact ⟨kc, kc⟩)) (fun hHeld => ?_); clear hK K; (try simp only [AX])
    refine stp 3 (fun K hK => ?_)
    refine op_of_list rfl ?_; ((with_reducible apply ev_store (M := M)); rfl; rfl; ((conv => lhs; whnf) <;> rfl); rfl; (first | exact siI | exact siR | exact siV | exact siB | exact siSI | exact siSV | exact siW | exact siSR | exact siSO | exact siO); (exact one_all rfl); (exact dl); (exact Nat.le_of_ble_eq_true rfl); clear M; intro w1 M; simp only [SX] at M; (try clear F); have F := fx M)
    (try go_wp2_with fail); refine hK.out _ _ (by (exact ⟨kc, kc⟩)) (fun hHeld => ?_); clear hK K; (try simp only [AX])
    refine tkY HQ hHeld 4 ?_
    refine wpAnyH_done (by kernel_rfl) ?_ _; clear HQ; (repeat clear hHeld)
    go_wp2
    (apply ret_cell_cell_tmp (M := M); rfl; rfl; rfl; rfl; (exact dl); (exact dl); (first | exact agR | exact agV | exact agW | exact agO); (first | exact agR | exact agV | exact agW | exact agO); (first | exact siI | exact siR | exact siV | exact siB | exact siSI | exact siSV | exact siW | exact siSR | exact siSO | exact siO); (first | exact siI | exact siR | exact siV | exact siB | exact siSI | exact siSV | exact siW | exact siSR | exact siSO | exact siO); rfl)
    exact HZ.out (b := ⟨sA2, sC2, mA2, mC2, lA2, lC2, wA2, wC2⟩) (M.sel sl)
  · have H1 : Hid (∀ {U : World} {L1 L2 : List Asn}, Mem w0 f U L1 → Del (runA r a) L1 L2 → Calls Try.prog 35 #[.agg (runArr r a), .int .i64 kind] U fun e w' => e = .returned (.tuple #[.int .i64 0, .bool false]) ∧ Below U.heap.size U w') := fun {U L1 L2} M hd => by
      have h := HF.out M hd
      rw [e1] at h
      exact h
    rw [e2]
    replace M := M.pull hd
    clear hd h3 h4 e1 e2 HF
    have HZ : Hid (∀ {U : World}, Mem w0 f U (runA r a :: L') → TakePost (Rn.zero, Vl.zero, false) r a w0 f L' (.returned (.tuple #[.agg (List.toArray [.int .i64 0, .int .i64 0, .slice none 0 0, .int .i64 0, .slice none 0 0, .int .i64 0, .int .i64 0, .slice none 0 0, .slice none 0 0, .bool false, .int .i64 0, .int .i64 0, .int .i64 0]), .agg #[.int .i64 0, .int .i64 0], .bool false])) U) := fun {U} M => ⟨⟨none, 0, none, 0, none, 0, none, 0⟩, rfl, runZ_mem M⟩
    obtain ⟨id, at_, slots, full, mail, state, due, links, watched, trap, ⟨wk, wn⟩, turns⟩ := r
    obtain ⟨sA, sC, mA, mC, lA, lC, wA, wC⟩ := a
    simp only [runArr] at H1 ⊢
    (try clear F); have F := fx M
    go_enter Try.func15, Try.ntmps15
    go_wp2_with (first
      | (with_reducible refine alA M ?_; clear M; (try clear F); intro w1 M F)
      | ((with_reducible apply ev_store (M := M)); rfl; rfl; ((conv => lhs; whnf) <;> rfl); rfl; (first | exact siI | exact siR | exact siV | exact siB | exact siSI | exact siSV | exact siW | exact siSR | exact siSO | exact siO); (exact one_all rfl); (exact dl); (exact Nat.le_of_ble_eq_true rfl); clear M; intro w1 M; simp only [SX] at M; (try clear F); have F := fx M)
      | (go_at_call 35; (refine nmK ?_; clear M; (try clear F); intro w1 M F); with_reducible refine (H1.out M dl).mono ?_; rintro e w2 ⟨rfl, hb⟩; replace M := M.below hb; clear hb; (try clear F); have F := fx M))
    (apply ret_cell_cell_tmp (M := M); rfl; rfl; rfl; rfl; (exact dl); (exact dl); (first | exact agR | exact agV | exact agW | exact agO); (first | exact agR | exact agV | exact agW | exact agO); (first | exact siI | exact siR | exact siV | exact siB | exact siSI | exact siSV | exact siW | exact siSR | exact siSO | exact siO); (first | exact siI | exact siR | exact siV | exact siB | exact siSI | exact siSV | exact siW | exact siSR | exact siSO | exact siO); rfl)
    exact HZ.out (M.sel sl)
end Go.Proofs.Ytmidnaafljgbiaa
