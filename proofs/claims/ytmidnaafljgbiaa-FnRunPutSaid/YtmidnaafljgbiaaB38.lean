/- Parts of the proof, in one text. -/
import Derived.Test.YtmidnaafljgbiaaB04
import Derived.Test.YtmidnaafljgbiaaB37
import Derived.Test.YtmidnaafljgbiaaB11
/- What a new run is drawn from. -/
namespace Go.Proofs.Ytmidnaafljgbiaa
open Go.RowKit
set_option maxRecDepth 100000
theorem rdr_below {W w' : World} {f : List Nat} {L L' : List Asn} {R : Rd} {p : Nat} (M : Mem W f w' L) (hd : Del (rdr R p) L L') (h0 : R.W0 = W) (hf : roB R.A R.n = f) : Below W.heap.size W w' := by
  subst h0
  subst hf
  have M1 := Mem.unpack (L' := rdL R p) (M.pull hd)
  exact Mem.roBelow M1 (.there .here)
set_option maxHeartbeats 1000000 in
theorem sOpenW (W0 : World) (A : Option Addr) (n c : Nat) (bs : Nat → Int) (hnc : n ≤ c) {w0 w : World} {f : List Nat} {L : List Asn} (M : Mem w0 f w (ro W0 A n bs :: L)) :
    Calls Try.prog 72 #[.slice A n c] w fun e w' => ∃ R : Rd, e = .returned (.pointer (some ⟨R.g, 0, none⟩)) ∧ (R.W0 = W0 ∧ roB R.A R.n = roB A n) ∧ Mem w0 f w' (rdr R 0 :: L) := by
  have hb := (M.is dl : (ro W0 A n bs).P w)
  have hn : n ≤ 1048576 := hb.1.1
  by_cases h : n ≤ 2000
  · have h1 : decide (2000 < n) = false := by simp; omega
    have HF := Lib.hid (fun W g (M : Mem w0 f W (blk g 113 [.slice A n c, .int .i64 0] :: ro W0 A n bs :: L)) => (⟨⟨W0, g, A, n, c, bs⟩, rfl, ⟨rfl, rfl⟩, Mem.pack (L' := rdL ⟨W0, g, A, n, c, bs⟩ 0) M⟩ : ∃ R : Rd, Ending.returned (.pointer (some ⟨g, 0, none⟩)) = .returned (.pointer (some ⟨R.g, 0, none⟩)) ∧ (R.W0 = W0 ∧ roB R.A R.n = roB A n) ∧ Mem w0 f W (rdr R 0 :: L)))
    clear hb
    go_enter Try.func72, Try.ntmps72
    go_wp2_with (first
      | (with_reducible refine alAd M ?_; clear M; (try clear F); intro w1 M F) | ((with_reducible apply ev_store (M := M)); rfl; rfl; ((conv => lhs; whnf) <;> rfl); rfl; (first | exact siI | exact siR | exact siV | exact siB | exact siSI | exact siSV | exact siW | exact siSR | exact siSO | exact siO); (exact one_all rfl); (exact dl); (exact Nat.le_of_ble_eq_true rfl); clear M; intro w1 M; simp only [SX] at M; (try clear F); have F := fxd M) | ((with_reducible refine goal_drewN (G := fun W => wpList _ _ _ _ _ W) M ?_); clear M; intro w1 M; (try clear F); have F := fxd M) | ((with_reducible refine goal_drew (G := fun W => wpList _ _ _ _ _ W) M ?_); clear M; intro w1 M; (try clear F); have F := fxd M) | ((with_reducible refine isSet (G := fun W => wpList _ _ _ _ _ W) ?_); (with_reducible refine nmd (G := fun W => wpList _ _ _ _ _ W) ?_; clear M; (try clear F); intro w1 M F)))
    (refine nmd (G := fun W => bodyPost _ _ _ _ _ W) ?_; clear M; (try clear F); intro w1 M F)
    go_ret
    exact HF.out _ _ M
  · have h1 : decide (2000 < n) = true := by simp; omega
    have h2 : (2000 : Int) < n := by omega
    have h3 : (2000 : Int) ≤ c := by omega
    have hro : roB A 2000 = roB A n := by unfold roB; rw [if_pos (by omega), if_pos (by omega)]
    replace M : Mem w0 f w (ro W0 A 2000 bs :: L) := M.turn (fun h => ⟨⟨by omega, h.1.2.1, by
      have := h.1.2.2
      cases A with
      | none => simp only at this; omega
      | some ad => exact fun j hj => this j (by omega)⟩, h.2.1, by
      have := h.2.2
      unfold roB at this ⊢
      rw [if_pos (by omega)] at this
      rw [if_pos (by omega)]
      exact this⟩) (by
      show (roB A 2000).Sublist (roB A n)
      unfold roB
      rw [if_pos (by omega), if_pos (by omega)]
      exact List.Sublist.refl _)
    have HF := Lib.hid (fun W g (M : Mem w0 f W (blk g 113 [.slice A 2000 c, .int .i64 0] :: ro W0 A 2000 bs :: L)) => (⟨⟨W0, g, A, 2000, c, bs⟩, rfl, ⟨rfl, hro⟩, Mem.pack (L' := rdL ⟨W0, g, A, 2000, c, bs⟩ 0) M⟩ : ∃ R : Rd, Ending.returned (.pointer (some ⟨g, 0, none⟩)) = .returned (.pointer (some ⟨R.g, 0, none⟩)) ∧ (R.W0 = W0 ∧ roB R.A R.n = roB A n) ∧ Mem w0 f W (rdr R 0 :: L)))
    clear hb
    go_enter Try.func72, Try.ntmps72
    go_wp2_with (first
      | (with_reducible refine alAd M ?_; clear M; (try clear F); intro w1 M F) | ((with_reducible apply ev_store (M := M)); rfl; rfl; ((conv => lhs; whnf) <;> rfl); rfl; (first | exact siI | exact siR | exact siV | exact siB | exact siSI | exact siSV | exact siW | exact siSR | exact siSO | exact siO); (exact one_all rfl); (exact dl); (exact Nat.le_of_ble_eq_true rfl); clear M; intro w1 M; simp only [SX] at M; (try clear F); have F := fxd M) | ((with_reducible refine goal_drewN (G := fun W => wpList _ _ _ _ _ W) M ?_); clear M; intro w1 M; (try clear F); have F := fxd M) | ((with_reducible refine goal_drew (G := fun W => wpList _ _ _ _ _ W) M ?_); clear M; intro w1 M; (try clear F); have F := fxd M) | ((with_reducible refine isSet (G := fun W => wpList _ _ _ _ _ W) ?_); (with_reducible refine nmd (G := fun W => wpList _ _ _ _ _ W) ?_; clear M; (try clear F); intro w1 M F)))
    (refine nmd (G := fun W => bodyPost _ _ _ _ _ W) ?_; clear M; (try clear F); intro w1 M F)
    go_ret
    exact HF.out _ _ M
end Go.Proofs.Ytmidnaafljgbiaa
/- A run is drawn from the bytes. -/
namespace Go.Proofs.Ytmidnaafljgbiaa
open Go.RowKit
set_option maxRecDepth 100000

def DRO (W0 : World) (A : Option Addr) (n : Nat) (w0 : World) (f : List Nat) (L : List Asn) (e : Ending) (w' : World) : Prop := ∃ (r : Rn) (a : RA) (R : Rd) (p : Nat), e = .returned (.agg (runArr r a)) ∧ RSx r ∧ (R.W0 = W0 ∧ roB R.A R.n = roB A n) ∧ Mem w0 f w' (runA r a :: rdr R p :: L)
set_option maxHeartbeats 4000000 in
theorem sDrawRunOk (W0 : World) (A : Option Addr) (n c : Nat) (bs : Nat → Int) (hnc : n ≤ c) {w0 w : World} {f : List Nat} {L : List Asn} (M : Mem w0 f w (ro W0 A n bs :: L)) :
    Calls Try.prog 31 #[.slice A n c] w (DRO W0 A n w0 f L) := by
  have HOp : Hid (∀ {W : World} {L : List Asn}, Mem w0 f W (ro W0 A n bs :: L) → Calls Try.prog 72 #[.slice A n c] W fun e w' => ∃ R : Rd, e = .returned (.pointer (some ⟨R.g, 0, none⟩)) ∧ (R.W0 = W0 ∧ roB R.A R.n = roB A n) ∧ Mem w0 f w' (rdr R 0 :: L)) := fun {W L} M => sOpenW W0 A n c bs hnc M
  have HP := Lib.hid (fun R (m : Int) (hm : 1 ≤ m) (q : Nat) (hq : q ≤ 1000000000) W (L L' : List Asn) (M : Mem w0 f W L) (hd : Del (rdr R q) L L') => pick_of m hm R q hq M hd)
  have HRun : Hid (∀ (R : Rd) {U : World} {L1 L2 : List Asn}, Mem w0 f U L1 → Del (rdr R 0) L1 L2 → Calls Try.prog 73 #[.pointer (some ⟨R.g, 0, none⟩)] U (DRunPost R 0 w0 f L2)) := fun R U L1 L2 M hd => sRunD R 0 (by omega) M hd
  clear hnc
  (try clear F); have F := fxd M
  go_enter Try.func31, Try.ntmps31
  go_upto_if 11 with (first | (with_reducible refine alAd M ?_; clear M; (try clear F); intro w1 M F) | ((with_reducible apply ev_store (M := M)); rfl; rfl; ((conv => lhs; whnf) <;> rfl); rfl; (first | exact siI | exact siR | exact siV | exact siB | exact siSI | exact siSV | exact siW | exact siSR | exact siSO | exact siO); (exact one_all rfl); (exact dl); (exact Nat.le_of_ble_eq_true rfl); clear M; intro w1 M; simp only [SX] at M; (try clear F); have F := fxd M) | (go_at_call 72; (refine nmKd ?_; clear M; (try clear F); intro w1 M F); refine (HOp.out (M.pull dl)).mono ?_; clear M; rintro e w2 ⟨R, rfl, hR, M⟩; have hR := Lib.hid hR; (try clear F); have F := fxd M) | (go_at_call 73; (refine nmKd ?_; clear M; (try clear F); intro w1 M F); refine (HRun.out R M dl).mono ?_; clear M; rintro e w2 ⟨⟨id, at_, slots, full, mail, state, due, links, watched, trap, ⟨wk, wn⟩, turns⟩, ⟨sA, sC, mA, mC, lA, lC, wA, wC⟩, q, rfl, hr, hq1, hq2, M⟩; replace hr := Lib.hid hr; (try simp only at M); (try clear F); have F := fxd M) | (go_at_call 74; (refine nmKd ?_; clear M; (try clear F); intro w1 M F); refine (HP.out R _ (by omega) _ ?_ _ _ _ M dl).mono ?_; omega; clear M; rintro e w2 ⟨i, rfl, i0, i1, M⟩; (try clear F); have F := fxd M))
  have HZ : Hid (∀ {U : World} {id : Int} {q' : Nat}, Mem w0 f U (runA ⟨id, at_, slots, full, mail, state, due, links, watched, trap, ⟨wk, wn⟩, turns⟩ ⟨sA, sC, mA, mC, lA, lC, wA, wC⟩ :: rdr R q' :: L) → DRO W0 A n w0 f L (.returned (.agg (List.toArray [.int .i64 id, .int .i64 at_, .slice sA slots.length sC, .int .i64 full, .slice mA mail.length mC, .int .i64 state, .int .i64 due, .slice lA links.length lC, .slice wA watched.length wC, .bool trap, .int .i64 wk, .int .i64 wn, .int .i64 turns]))) U) :=
    fun {U id q'} M => ⟨⟨id, at_, slots, full, mail, state, due, links, watched, trap, ⟨wk, wn⟩, turns⟩, ⟨sA, sC, mA, mC, lA, lC, wA, wC⟩, R, q', rfl, hr.out, hR.out, M⟩
  have HI : Hid (∀ {U : World} {id1 id2 : Int} {L1 : List Asn}, Mem w0 f U (runA ⟨id1, at_, slots, full, mail, state, due, links, watched, trap, ⟨wk, wn⟩, turns⟩ ⟨sA, sC, mA, mC, lA, lC, wA, wC⟩ :: L1) → Mem w0 f U (runA ⟨id2, at_, slots, full, mail, state, due, links, watched, trap, ⟨wk, wn⟩, turns⟩ ⟨sA, sC, mA, mC, lA, lC, wA, wC⟩ :: L1)) := fun M => M
  cases hi : (i == 0) with
  | true =>
    clear i0 i1 hi
    go_wp2_with (first | ((with_reducible apply ev_store (M := M)); rfl; rfl; ((conv => lhs; whnf) <;> rfl); rfl; (first | exact siI | exact siR | exact siV | exact siB | exact siSI | exact siSV | exact siW | exact siSR | exact siSO | exact siO); (exact one_all rfl); (exact dl); (exact Nat.le_of_ble_eq_true rfl); clear M; intro w1 M; simp only [SX] at M; (try clear F); have F := fxd M) | (go_at_call 74; (refine nmKd ?_; clear M; (try clear F); intro w1 M F); refine (HP.out R _ (by omega) _ ?_ _ _ _ M dl).mono ?_; omega; clear M; rintro e w2 ⟨i, rfl, i0, i1, M⟩; (try clear F); have F := fxd M))
    apply ret_cell (M := M); rfl; rfl; (exact dl); (first | exact agR | exact agV | exact agW | exact agO); (first | exact siI | exact siR | exact siV | exact siB | exact siSI | exact siSV | exact siW | exact siSR | exact siSO | exact siO); rfl
    exact HZ.out (HI.out (M.sel (.drop (.drop (.cons (.there .here) .refl)))))
  | false =>
    go_wp2_with (first | ((with_reducible apply ev_store (M := M)); rfl; rfl; ((conv => lhs; whnf) <;> rfl); rfl; (first | exact siI | exact siR | exact siV | exact siB | exact siSI | exact siSV | exact siW | exact siSR | exact siSO | exact siO); (exact one_all rfl); (exact dl); (exact Nat.le_of_ble_eq_true rfl); clear M; intro w1 M; simp only [SX] at M; (try clear F); have F := fxd M))
    apply ret_cell (M := M); rfl; rfl; (exact dl); (first | exact agR | exact agV | exact agW | exact agO); (first | exact siI | exact siR | exact siV | exact siB | exact siSI | exact siSV | exact siW | exact siSR | exact siSO | exact siO); rfl
    exact HZ.out (M.sel (.drop (.cons (.there (.there .here)) (.cons .here (.drop .refl)))))
end Go.Proofs.Ytmidnaafljgbiaa
/- When a run is ok, by the program's text, whole. -/
namespace Go.Proofs.Ytmidnaafljgbiaa
open Go.RowKit
set_option maxRecDepth 100000

/-- The tests of the program's text, in its order, the first that fails. -/
theorem gates10 (b1 b2 b3 : Bool) (p4 : Prop) (b5 b6 b7 b8 b9 b10 : Bool) :
    (b1 = false ∨ (b1 = true ∧ b2 = false) ∨ (b1 = true ∧ b2 = true ∧ b3 = false) ∨ (b1 = true ∧ b2 = true ∧ b3 = true ∧ ¬ p4) ∨ (b1 = true ∧ b2 = true ∧ b3 = true ∧ p4 ∧ b5 = false)) ∨
    ((b1 = true ∧ b2 = true ∧ b3 = true ∧ p4 ∧ b5 = true) ∧ (b6 = false ∨ (b6 = true ∧ b7 = false) ∨ (b6 = true ∧ b7 = true ∧ b8 = false) ∨ (b6 = true ∧ b7 = true ∧ b8 = true ∧ b9 = false) ∨ (b6 = true ∧ b7 = true ∧ b8 = true ∧ b9 = true ∧ b10 = false))) ∨
    ((b1 = true ∧ b2 = true ∧ b3 = true ∧ p4 ∧ b5 = true) ∧ (b6 = true ∧ b7 = true ∧ b8 = true ∧ b9 = true ∧ b10 = true)) := by
  by_cases h : p4 <;> cases b1 <;> cases b2 <;> cases b3 <;> cases b5 <;> cases b6 <;> cases b7 <;> cases b8 <;> cases b9 <;> cases b10 <;> simp [h]

theorem runOk_gates (r : Rn) : runOk r = (inB r.id 1 6 && inB r.at_ 0 15 && slotsB r && decide (r.mail.length ≤ 12) && allOk r.mail && inB r.state 1 3 && inB r.due (-1) 400 && inB r.turns 0 9999 && idsOk r.links r.id && idsOk r.watched r.id &&
    (if r.state = 3 then r.mail.isEmpty && r.links.isEmpty && r.watched.isEmpty && valOk r.why else r.why == Vl.zero)) := by
  have hs : slotsFrom r.full 0 r.slots = true → allOk r.slots = true := fun h => allOk_cut.2 (fun k hk => (slotsFrom_cut.1 h k hk).1)
  have hz : r.why = Vl.zero → valOk r.why = true := fun h => by rw [h]; rfl
  rw [Bool.eq_iff_iff]
  simp only [runOk, slotsB, Bool.and_eq_true, beq_iff_eq, decide_eq_true_eq]
  unfold allOk at hs ⊢
  split
  · simp only [Bool.and_eq_true]
    constructor
    · rintro ⟨⟨⟨⟨⟨⟨⟨⟨⟨⟨⟨⟨⟨h1, h2⟩, h3⟩, h4⟩, h5⟩, h6⟩, h7⟩, h8⟩, h9⟩, h10⟩, h11⟩, h12⟩, h13⟩, h14⟩
      exact ⟨⟨⟨⟨⟨⟨⟨⟨⟨⟨h1, h2⟩, ⟨⟨h3, hs h9⟩, h4⟩, h9⟩, h5⟩, h10⟩, h6⟩, h7⟩, h8⟩, h11⟩, h12⟩, h14, h13⟩
    · rintro ⟨⟨⟨⟨⟨⟨⟨⟨⟨⟨h1, h2⟩, ⟨⟨h3, _⟩, h4⟩, h9⟩, h5⟩, h10⟩, h6⟩, h7⟩, h8⟩, h11⟩, h12⟩, h14, h13⟩
      exact ⟨⟨⟨⟨⟨⟨⟨⟨⟨⟨⟨⟨⟨h1, h2⟩, h3⟩, h4⟩, h5⟩, h6⟩, h7⟩, h8⟩, h9⟩, h10⟩, h11⟩, h12⟩, h13⟩, h14⟩
  · simp only [beq_iff_eq]
    constructor
    · rintro ⟨⟨⟨⟨⟨⟨⟨⟨⟨⟨⟨⟨⟨h1, h2⟩, h3⟩, h4⟩, h5⟩, h6⟩, h7⟩, h8⟩, h9⟩, h10⟩, h11⟩, h12⟩, h13⟩, h14⟩
      exact ⟨⟨⟨⟨⟨⟨⟨⟨⟨⟨h1, h2⟩, ⟨⟨h3, hs h9⟩, h4⟩, h9⟩, h5⟩, h10⟩, h6⟩, h7⟩, h8⟩, h11⟩, h12⟩, h14⟩
    · rintro ⟨⟨⟨⟨⟨⟨⟨⟨⟨⟨h1, h2⟩, ⟨⟨h3, _⟩, h4⟩, h9⟩, h5⟩, h10⟩, h6⟩, h7⟩, h8⟩, h11⟩, h12⟩, h14⟩
      exact ⟨⟨⟨⟨⟨⟨⟨⟨⟨⟨⟨⟨⟨h1, h2⟩, h3⟩, h4⟩, h5⟩, h6⟩, h7⟩, h8⟩, h9⟩, h10⟩, h11⟩, h12⟩, hz h14⟩, h14⟩

set_option maxHeartbeats 8000000 in
theorem iRunOk (r : Rn) (a : RA) (B : Nat) (w : World) (hr : ReadsRun w B r a) (hB : B ≤ w.heap.size) :
    Calls Try.prog 32 #[.agg (runArr r a)] w fun e w' => e = .returned (.bool (runOk r)) ∧ Below w.heap.size w w' := by
  have hend := runOk_gates r
  have hS := Lib.hid (fun W (hbb : Below w.heap.size w W) => iSlotsOk r a B W (hr.below hbb hB) (Nat.le_trans hB hbb.size))
  have hV := Lib.hid (fun W => iValOk r.why W)
  have hVs := Lib.hid (fun W (hbb : Below w.heap.size w W) => iValsOk r.mail a.mA a.mC B W (hr.mail.below' hbb hB) (Nat.le_trans hB hbb.size))
  have hL := Lib.hid (fun W (hbb : Below w.heap.size w W) => iOthers r.links r.id a.lA a.lC B W (hr.links.below' hbb hB) hr.lC)
  have hO := Lib.hid (fun W (hbb : Below w.heap.size w W) => iOthers r.watched r.id a.wA a.wC B W (hr.watched.below' hbb hB) hr.wC)
  have hll := hr.links.2.1
  have hwl := hr.watched.2.1
  clear hr
  generalize slotsB r = b3 at hS hend
  generalize allOk r.mail = b5 at hVs hend
  generalize idsOk r.links r.id = b9 at hL hend
  generalize idsOk r.watched r.id = b10 at hO hend
  generalize valOk r.why = b11 at hV hend
  obtain ⟨b, hb⟩ : ∃ b, b = runOk r := ⟨_, rfl⟩
  rw [← hb] at hend ⊢
  clear hb
  obtain ⟨id, at_, slots, full, mail, state, due, links, watched, trap, ⟨wk, wn⟩, turns⟩ := r
  obtain ⟨sA, sC, mA, mC, lA, lC, wA, wC⟩ := a
  simp only [runArr] at hend hS hV hVs hL hO hll hwl ⊢
  have HE := Lib.hid hend
  clear hend
  rcases gates10 (inB id 1 6) (inB at_ 0 15) b3 (mail.length ≤ 12) b5 (inB state 1 3) (inB due (-1) 400) (inB turns 0 9999) b9 b10 with h | ⟨⟨g1, g2, g3, g4, g5⟩, h⟩ | ⟨⟨g1, g2, g3, g4, g5⟩, g6, g7, g8, g9, g10⟩
  · have hbf : b = false := by
      rw [HE.out]
      rcases h with h | ⟨_, h⟩ | ⟨_, _, h⟩ | ⟨_, _, _, h⟩ | ⟨_, _, _, _, h⟩ <;> simp [h]
    subst hbf
    clear HE
    rcases h with h | ⟨h1, h⟩ | ⟨h1, h2, rfl⟩ | ⟨h1, h2, rfl, h⟩ | ⟨h1, h2, rfl, h4, rfl⟩
    all_goals
      go_enter Try.func32, Try.ntmps32
      go_wp2_with (first
        | ((with_reducible refine gate_dst (N := 1) rfl ?_); refine box_ev ?hg (N := 1) ?hd (cs := #[.int .i64 id, .int .i64 at_, .slice sA slots.length sC, .int .i64 full, .slice mA mail.length mC, .int .i64 state, .int .i64 due, .slice lA links.length lC, .slice wA watched.length wC, .bool trap, .int .i64 wk, .int .i64 wn, .int .i64 turns]) (t := 32) ?hr ?_; (case hd => rfl); (case hg => rfl); (case hr => first | (go_simp; done) | (go_simp; rfl)); intro g w1 hg hbox hW; obtain ⟨hgl, hcell⟩ := hbox)
        | (go_at_call 75; refine (iIn _ _ _ _).mono ?_; rintro e w' ⟨rfl, rfl⟩) | (go_at_call 76; refine (hS.out _ hW).mono ?_; rintro e w' ⟨rfl, hb1⟩; have hcell1 := keepB hb1 hgl hcell) | (go_at_call 77; refine (hVs.out _ (below_step hW hb1)).mono ?_; rintro e w' ⟨rfl, hb2⟩; have hcell2 := keepB hb2 (Nat.lt_of_lt_of_le hgl hb1.size) hcell1))
      go_ret
      exact ⟨rfl, by repeat (first | exact hW | (refine below_step ?_ (by assumption)))⟩
  · have hbf : b = false := by
      rw [HE.out]
      rcases h with h | ⟨_, h⟩ | ⟨_, _, h⟩ | ⟨_, _, _, h⟩ | ⟨_, _, _, _, h⟩ <;> simp [h]
    subst hbf
    subst g3
    subst g5
    clear HE
    rcases h with h | ⟨h1, h⟩ | ⟨h1, h2, h⟩ | ⟨h1, h2, h3, rfl⟩ | ⟨h1, h2, h3, rfl, rfl⟩
    all_goals
      go_enter Try.func32, Try.ntmps32
      go_wp2_with (first
        | ((with_reducible refine gate_dst (N := 1) rfl ?_); refine box_ev ?hg (N := 1) ?hd (cs := #[.int .i64 id, .int .i64 at_, .slice sA slots.length sC, .int .i64 full, .slice mA mail.length mC, .int .i64 state, .int .i64 due, .slice lA links.length lC, .slice wA watched.length wC, .bool trap, .int .i64 wk, .int .i64 wn, .int .i64 turns]) (t := 32) ?hr ?_; (case hd => rfl); (case hg => rfl); (case hr => first | (go_simp; done) | (go_simp; rfl)); intro g w1 hg hbox hW; obtain ⟨hgl, hcell⟩ := hbox)
        | (go_at_call 75; refine (iIn _ _ _ _).mono ?_; rintro e w' ⟨rfl, rfl⟩) | (go_at_call 76; refine (hS.out _ hW).mono ?_; rintro e w' ⟨rfl, hb1⟩; have hcell1 := keepB hb1 hgl hcell) | (go_at_call 77; refine (hVs.out _ (below_step hW hb1)).mono ?_; rintro e w' ⟨rfl, hb2⟩; have hcell2 := keepB hb2 (Nat.lt_of_lt_of_le hgl hb1.size) hcell1)
        | (go_at_call_of 78 (Value.slice lA links.length lC); refine (hL.out _ (below_step (below_step hW hb1) hb2)).mono ?_; rintro e w' ⟨rfl, rfl⟩) | (go_at_call_of 78 (Value.slice wA watched.length wC); refine (hO.out _ (below_step (below_step hW hb1) hb2)).mono ?_; rintro e w' ⟨rfl, rfl⟩))
      go_ret
      exact ⟨rfl, by repeat (first | exact hW | (refine below_step ?_ (by assumption)))⟩
  · subst g3
    subst g5
    subst g9
    subst g10
    have HE2 := Lib.hid (show b = (if state = 3 then mail.isEmpty && links.isEmpty && watched.isEmpty && b11 else (⟨wk, wn⟩ : Vl) == Vl.zero) by rw [HE.out]; simp [g1, g2, g4, g6, g7, g8])
    clear HE
    by_cases hst : state = 3
    · rw [if_pos hst] at HE2
      subst hst
      by_cases m0 : mail.length = 0
      · by_cases l0 : links.length = 0
        · by_cases w0 : watched.length = 0
          · have hz := Lib.hid (show b11 = b by
              rw [HE2.out, List.eq_nil_of_length_eq_zero m0, List.eq_nil_of_length_eq_zero l0, List.eq_nil_of_length_eq_zero w0]; rfl)
            clear HE2
            have m1 : ((mail.length : Int) == 0) = true := by rw [m0]; rfl
            have l1 : ((links.length : Int) == 0) = true := by rw [l0]; rfl
            clear m0 l0
            have w1' : ((watched.length : Int) == 0) = true := by rw [w0]; rfl
            clear w0
            go_enter Try.func32, Try.ntmps32
            go_wp2_with (first
              | ((with_reducible refine gate_dst (N := 1) rfl ?_); refine box_ev ?hg (N := 1) ?hd (cs := #[.int .i64 id, .int .i64 at_, .slice sA slots.length sC, .int .i64 full, .slice mA mail.length mC, .int .i64 3, .int .i64 due, .slice lA links.length lC, .slice wA watched.length wC, .bool trap, .int .i64 wk, .int .i64 wn, .int .i64 turns]) (t := 32) ?hr ?_; (case hd => rfl); (case hg => rfl); (case hr => first | (go_simp; done) | (go_simp; rfl)); intro g w1 hg hbox hW; obtain ⟨hgl, hcell⟩ := hbox)
              | (go_at_call 75; refine (iIn _ _ _ _).mono ?_; rintro e w' ⟨rfl, rfl⟩) | (go_at_call 76; refine (hS.out _ hW).mono ?_; rintro e w' ⟨rfl, hb1⟩; have hcell1 := keepB hb1 hgl hcell) | (go_at_call 77; refine (hVs.out _ (below_step hW hb1)).mono ?_; rintro e w' ⟨rfl, hb2⟩; have hcell2 := keepB hb2 (Nat.lt_of_lt_of_le hgl hb1.size) hcell1)
              | (go_at_call_of 78 (Value.slice lA links.length lC); refine (hL.out _ (below_step (below_step hW hb1) hb2)).mono ?_; rintro e w' ⟨rfl, rfl⟩) | (go_at_call_of 78 (Value.slice wA watched.length wC); refine (hO.out _ (below_step (below_step hW hb1) hb2)).mono ?_; rintro e w' ⟨rfl, rfl⟩)
              | (go_at_call 79; refine (hV.out _).mono ?_; rintro e w' ⟨rfl, hb3⟩))
            go_ret
            exact ⟨ret_bool hz.out, by repeat (first | exact hW | (refine below_step ?_ (by assumption)))⟩
          · have hz := Lib.hid (show false = b by
              rw [HE2.out]
              cases watched with
              | nil => simp at w0
              | cons _ _ => simp)
            clear HE2
            have m1 : ((mail.length : Int) == 0) = true := by rw [m0]; rfl
            have l1 : ((links.length : Int) == 0) = true := by rw [l0]; rfl
            clear m0 l0
            go_enter Try.func32, Try.ntmps32
            go_wp2_with (first
              | ((with_reducible refine gate_dst (N := 1) rfl ?_); refine box_ev ?hg (N := 1) ?hd (cs := #[.int .i64 id, .int .i64 at_, .slice sA slots.length sC, .int .i64 full, .slice mA mail.length mC, .int .i64 3, .int .i64 due, .slice lA links.length lC, .slice wA watched.length wC, .bool trap, .int .i64 wk, .int .i64 wn, .int .i64 turns]) (t := 32) ?hr ?_; (case hd => rfl); (case hg => rfl); (case hr => first | (go_simp; done) | (go_simp; rfl)); intro g w1 hg hbox hW; obtain ⟨hgl, hcell⟩ := hbox)
              | (go_at_call 75; refine (iIn _ _ _ _).mono ?_; rintro e w' ⟨rfl, rfl⟩) | (go_at_call 76; refine (hS.out _ hW).mono ?_; rintro e w' ⟨rfl, hb1⟩; have hcell1 := keepB hb1 hgl hcell) | (go_at_call 77; refine (hVs.out _ (below_step hW hb1)).mono ?_; rintro e w' ⟨rfl, hb2⟩; have hcell2 := keepB hb2 (Nat.lt_of_lt_of_le hgl hb1.size) hcell1)
              | (go_at_call_of 78 (Value.slice lA links.length lC); refine (hL.out _ (below_step (below_step hW hb1) hb2)).mono ?_; rintro e w' ⟨rfl, rfl⟩) | (go_at_call_of 78 (Value.slice wA watched.length wC); refine (hO.out _ (below_step (below_step hW hb1) hb2)).mono ?_; rintro e w' ⟨rfl, rfl⟩)
              | (go_at_call 79; refine (hV.out _).mono ?_; rintro e w' ⟨rfl, hb3⟩))
            go_ret
            exact ⟨ret_bool hz.out, by repeat (first | exact hW | (refine below_step ?_ (by assumption)))⟩
        · have hz := Lib.hid (show false = b by
            rw [HE2.out]
            cases links with
            | nil => simp at l0
            | cons _ _ => simp)
          clear HE2
          have m1 : ((mail.length : Int) == 0) = true := by rw [m0]; rfl
          clear m0
          go_enter Try.func32, Try.ntmps32
          go_wp2_with (first
            | ((with_reducible refine gate_dst (N := 1) rfl ?_); refine box_ev ?hg (N := 1) ?hd (cs := #[.int .i64 id, .int .i64 at_, .slice sA slots.length sC, .int .i64 full, .slice mA mail.length mC, .int .i64 3, .int .i64 due, .slice lA links.length lC, .slice wA watched.length wC, .bool trap, .int .i64 wk, .int .i64 wn, .int .i64 turns]) (t := 32) ?hr ?_; (case hd => rfl); (case hg => rfl); (case hr => first | (go_simp; done) | (go_simp; rfl)); intro g w1 hg hbox hW; obtain ⟨hgl, hcell⟩ := hbox)
            | (go_at_call 75; refine (iIn _ _ _ _).mono ?_; rintro e w' ⟨rfl, rfl⟩) | (go_at_call 76; refine (hS.out _ hW).mono ?_; rintro e w' ⟨rfl, hb1⟩; have hcell1 := keepB hb1 hgl hcell) | (go_at_call 77; refine (hVs.out _ (below_step hW hb1)).mono ?_; rintro e w' ⟨rfl, hb2⟩; have hcell2 := keepB hb2 (Nat.lt_of_lt_of_le hgl hb1.size) hcell1)
            | (go_at_call_of 78 (Value.slice lA links.length lC); refine (hL.out _ (below_step (below_step hW hb1) hb2)).mono ?_; rintro e w' ⟨rfl, rfl⟩) | (go_at_call_of 78 (Value.slice wA watched.length wC); refine (hO.out _ (below_step (below_step hW hb1) hb2)).mono ?_; rintro e w' ⟨rfl, rfl⟩)
            | (go_at_call 79; refine (hV.out _).mono ?_; rintro e w' ⟨rfl, hb3⟩))
          go_ret
          exact ⟨ret_bool hz.out, by repeat (first | exact hW | (refine below_step ?_ (by assumption)))⟩
      · have hz := Lib.hid (show false = b by
          rw [HE2.out]
          cases mail with
          | nil => simp at m0
          | cons _ _ => simp)
        clear HE2
        go_enter Try.func32, Try.ntmps32
        go_wp2_with (first
          | ((with_reducible refine gate_dst (N := 1) rfl ?_); refine box_ev ?hg (N := 1) ?hd (cs := #[.int .i64 id, .int .i64 at_, .slice sA slots.length sC, .int .i64 full, .slice mA mail.length mC, .int .i64 3, .int .i64 due, .slice lA links.length lC, .slice wA watched.length wC, .bool trap, .int .i64 wk, .int .i64 wn, .int .i64 turns]) (t := 32) ?hr ?_; (case hd => rfl); (case hg => rfl); (case hr => first | (go_simp; done) | (go_simp; rfl)); intro g w1 hg hbox hW; obtain ⟨hgl, hcell⟩ := hbox)
          | (go_at_call 75; refine (iIn _ _ _ _).mono ?_; rintro e w' ⟨rfl, rfl⟩) | (go_at_call 76; refine (hS.out _ hW).mono ?_; rintro e w' ⟨rfl, hb1⟩; have hcell1 := keepB hb1 hgl hcell) | (go_at_call 77; refine (hVs.out _ (below_step hW hb1)).mono ?_; rintro e w' ⟨rfl, hb2⟩; have hcell2 := keepB hb2 (Nat.lt_of_lt_of_le hgl hb1.size) hcell1)
          | (go_at_call_of 78 (Value.slice lA links.length lC); refine (hL.out _ (below_step (below_step hW hb1) hb2)).mono ?_; rintro e w' ⟨rfl, rfl⟩) | (go_at_call_of 78 (Value.slice wA watched.length wC); refine (hO.out _ (below_step (below_step hW hb1) hb2)).mono ?_; rintro e w' ⟨rfl, rfl⟩)
          | (go_at_call 79; refine (hV.out _).mono ?_; rintro e w' ⟨rfl, hb3⟩))
        go_ret
        exact ⟨ret_bool hz.out, by repeat (first | exact hW | (refine below_step ?_ (by assumption)))⟩
    · rw [if_neg hst] at HE2
      have hz := Lib.hid (show b = (wk == 0 && wn == 0) by rw [HE2.out, ← eq_zero wk wn]; simp)
      clear HE2
      go_enter Try.func32, Try.ntmps32
      go_wp2_with (first
        | ((with_reducible refine gate_dst (N := 1) rfl ?_); refine box_ev ?hg (N := 1) ?hd (cs := #[.int .i64 id, .int .i64 at_, .slice sA slots.length sC, .int .i64 full, .slice mA mail.length mC, .int .i64 state, .int .i64 due, .slice lA links.length lC, .slice wA watched.length wC, .bool trap, .int .i64 wk, .int .i64 wn, .int .i64 turns]) (t := 32) ?hr ?_; (case hd => rfl); (case hg => rfl); (case hr => first | (go_simp; done) | (go_simp; rfl)); intro g w1 hg hbox hW; obtain ⟨hgl, hcell⟩ := hbox)
        | (go_at_call 75; refine (iIn _ _ _ _).mono ?_; rintro e w' ⟨rfl, rfl⟩) | (go_at_call 76; refine (hS.out _ hW).mono ?_; rintro e w' ⟨rfl, hb1⟩; have hcell1 := keepB hb1 hgl hcell) | (go_at_call 77; refine (hVs.out _ (below_step hW hb1)).mono ?_; rintro e w' ⟨rfl, hb2⟩; have hcell2 := keepB hb2 (Nat.lt_of_lt_of_le hgl hb1.size) hcell1)
        | (go_at_call_of 78 (Value.slice lA links.length lC); refine (hL.out _ (below_step (below_step hW hb1) hb2)).mono ?_; rintro e w' ⟨rfl, rfl⟩) | (go_at_call_of 78 (Value.slice wA watched.length wC); refine (hO.out _ (below_step (below_step hW hb1) hb2)).mono ?_; rintro e w' ⟨rfl, rfl⟩))
      · have e1 : wk = 0 := by assumption
        have e2 : wn = 0 := by assumption
        go_ret
        exact ⟨ret_bool (by rw [hz.out, e1, e2]; rfl), by repeat (first | exact hW | (refine below_step ?_ (by assumption)))⟩
      · have e2 : ¬ wn = 0 := by assumption
        go_ret
        exact ⟨ret_bool (by rw [hz.out, beq_false_of_ne e2, Bool.and_false]), by repeat (first | exact hW | (refine below_step ?_ (by assumption)))⟩
      · have e1 : ¬ wk = 0 := by assumption
        go_ret
        exact ⟨ret_bool (by rw [hz.out, beq_false_of_ne e1, Bool.false_and]), by repeat (first | exact hW | (refine below_step ?_ (by assumption)))⟩
end Go.Proofs.Ytmidnaafljgbiaa
