/- Parts of the proof, in one text. -/
import Derived.Deep.Cut
import Derived.Test.YtmidnaafljgbiaaB38
import Derived.Test.YtmidnaafljgbiaaB11
/- The program's copy of a run. -/
namespace Go.Proofs.Ytmidnaafljgbiaa
open Go.RowKit
set_option maxRecDepth 100000

set_option maxHeartbeats 2000000 in
theorem iCopied (r : Rn) (a : RA) {w0 w : World} {f : List Nat} {L L' : List Asn} (M : Mem w0 f w L) (hd : Del (runA r a) L L') (h1 : r.slots.length ≤ 8796093022208) (h2 : r.mail.length ≤ 8796093022208) (h3 : r.links.length ≤ 17592186044416) (h4 : r.watched.length ≤ 17592186044416) :
    Calls Try.prog 53 #[.agg (runArr r a)] w fun e w' => ∃ b : RA, e = .returned (.agg (runArr r b)) ∧ Mem w0 f w' (runA r b :: runA r a :: L') := by
  obtain ⟨id, at_, slots, full, mail, state, due, links, watched, trap, ⟨wk, wn⟩, turns⟩ := r
  obtain ⟨sA, sC, mA, mC, lA, lC, wA, wC⟩ := a
  replace M := (M.pull hd).unpackRun
  simp only at M h1 h2 h3 h4
  clear hd
  have HV := Lib.hid (fun (l : List Vl) (A : Option Addr) (c : Nat) (W : World) (h : ReadsL encV 2 W W.heap.size A l.length l) => iCloneV l A c W.heap.size W h (Nat.le_refl _))
  have HI := Lib.hid (fun (l : List Int) (A : Option Addr) (c : Nat) (W : World) (h : ReadsL encI 1 W W.heap.size A l.length l) => iCloneI l A c W.heap.size W h (Nat.le_refl _))
  simp only [runArr]
  (try clear F); have F := fx M
  go_enter Try.func53, Try.ntmps53
  go_wp2_with (first | (with_reducible refine alA M ?_; clear M; (try clear F); intro w1 M F) | ((with_reducible apply ev_store (M := M)); rfl; rfl; ((conv => lhs; whnf) <;> rfl); rfl; (first | exact siI | exact siR | exact siV | exact siB | exact siSI | exact siSV | exact siW | exact siSR | exact siSO | exact siO); (exact one_all rfl); (exact dl); (exact Nat.le_of_ble_eq_true rfl); clear M; intro w1 M; simp only [SX] at M; (try clear F); have F := fx M) | ((with_reducible refine goal_drewN (G := fun W => wpList _ _ _ _ _ W) M ?_); clear M; intro w1 M; (try clear F); have F := fx M) | ((with_reducible refine goal_drew (G := fun W => wpList _ _ _ _ _ W) M ?_); clear M; intro w1 M; (try clear F); have F := fx M) | ((with_reducible refine isSet (G := fun W => wpList _ _ _ _ _ W) ?_); (with_reducible refine nm (G := fun W => wpList _ _ _ _ _ W) ?_; clear M; (try clear F); intro w1 M F)))
  (refine nm (G := fun W => Code.wp _ _ _ _ W) ?_; clear M; (try clear F); intro w1 M F)
  go_cut [1, 2] from 3 (fun s1 s2 wx => ∃ (g1 g2 : Nat) (A1 A2 : Option Addr) (c1 c2 : Nat), s1 = .pointer (some ⟨g1, 0, none⟩) ∧ s2 = .pointer (some ⟨g2, 0, none⟩) ∧ Mem w0 f wx (rowV A1 c1 slots :: rowV A2 c2 mail :: blk g1 tR [.int .i64 id, .int .i64 at_, .slice A1 slots.length c1, .int .i64 full, .slice A2 mail.length c2, .int .i64 state, .int .i64 due, .slice lA links.length lC, .slice wA watched.length wC, .bool trap, .int .i64 wk, .int .i64 wn, .int .i64 turns] ::
    blk g2 tR [.int .i64 0, .int .i64 0, .slice none 0 0, .int .i64 0, .slice none 0 0, .int .i64 0, .int .i64 0, .slice none 0 0, .slice none 0 0, .bool false, .int .i64 0, .int .i64 0, .int .i64 0] :: rowV sA sC slots :: rowV mA mC mail :: rowI lA lC links :: rowI wA wC watched :: L'))
  case first =>
    go_region_with (first
      | ((go_at_call_of 91 (Value.slice sA slots.length sC)); (refine nmK ?_; clear M; (try clear F); intro w1 M F); refine (HV.out slots sA sC _ (readsV M dl) h1).mono ?_; rintro e w2 ⟨v, rfl, ho, hb⟩; obtain ⟨A1, c1, rfl, M2⟩ := M.newV ho hb; clear M ho hb; have M := M2; clear M2; (try clear F); have F := fx M)
      | ((go_at_call_of 91 (Value.slice mA mail.length mC)); (refine nmK ?_; clear M; (try clear F); intro w1 M F); refine (HV.out mail mA mC _ (readsV M dl) h2).mono ?_; rintro e w2 ⟨v, rfl, ho, hb⟩; obtain ⟨A2, c2, rfl, M2⟩ := M.newV ho hb; clear M ho hb; have M := M2; clear M2; (try clear F); have F := fx M))
    all_goals go_wp2
    all_goals ((refine nm (G := fun W => Met _ _ W) ?_; clear M; (try clear F); intro w1 M F); go_meet; case rel => exact ⟨_, _, _, _, _, _, rfl, rfl, M.sel sl⟩)
  case rest =>
    obtain ⟨g1, g2, A1, A2, c1, c2, rfl, rfl, M⟩ := hcut
    (try clear F); have F := fx M
    go_wp2
    go_cut [1, 2] from 3 (fun s1 s2 wx => ∃ (g1 g2 : Nat) (A3 A4 : Option Addr) (c3 c4 : Nat), s1 = .pointer (some ⟨g1, 0, none⟩) ∧ s2 = .pointer (some ⟨g2, 0, none⟩) ∧ Mem w0 f wx (rowV A1 c1 slots :: rowV A2 c2 mail :: rowI A3 c3 links :: rowI A4 c4 watched :: blk g1 tR [.int .i64 id, .int .i64 at_, .slice A1 slots.length c1, .int .i64 full, .slice A2 mail.length c2, .int .i64 state, .int .i64 due, .slice A3 links.length c3, .slice A4 watched.length c4, .bool trap, .int .i64 wk, .int .i64 wn, .int .i64 turns] ::
      blk g2 tR [.int .i64 0, .int .i64 0, .slice none 0 0, .int .i64 0, .slice none 0 0, .int .i64 0, .int .i64 0, .slice none 0 0, .slice none 0 0, .bool false, .int .i64 0, .int .i64 0, .int .i64 0] :: rowV sA sC slots :: rowV mA mC mail :: rowI lA lC links :: rowI wA wC watched :: L'))
    case first =>
      go_region_with (first
        | ((go_at_call_of 92 (Value.slice lA links.length lC)); (refine nmK ?_; clear M; (try clear F); intro w1 M F); refine (HI.out links lA lC _ (readsI M dl) h3).mono ?_; rintro e w2 ⟨v, rfl, ho, hb⟩; obtain ⟨A3, c3, rfl, M2⟩ := M.newI ho hb; clear M ho hb; have M := M2; clear M2; (try clear F); have F := fx M)
        | ((go_at_call_of 92 (Value.slice wA watched.length wC)); (refine nmK ?_; clear M; (try clear F); intro w1 M F); refine (HI.out watched wA wC _ (readsI M dl) h4).mono ?_; rintro e w2 ⟨v, rfl, ho, hb⟩; obtain ⟨A4, c4, rfl, M2⟩ := M.newI ho hb; clear M ho hb; have M := M2; clear M2; (try clear F); have F := fx M))
      all_goals go_wp2
      all_goals ((refine nm (G := fun W => Met _ _ W) ?_; clear M; (try clear F); intro w1 M F); go_meet; case rel => exact ⟨_, _, _, _, _, _, rfl, rfl, M.sel sl⟩)
    case rest =>
      obtain ⟨g1, g2, A3, A4, c3, c4, rfl, rfl, M⟩ := hcut
      (try clear F); have F := fx M
      go_wp2_with (first | (with_reducible refine alA M ?_; clear M; (try clear F); intro w1 M F) | ((with_reducible apply ev_store (M := M)); rfl; rfl; ((conv => lhs; whnf) <;> rfl); rfl; (first | exact siI | exact siR | exact siV | exact siB | exact siSI | exact siSV | exact siW | exact siSR | exact siSO | exact siO); (exact one_all rfl); (exact dl); (exact Nat.le_of_ble_eq_true rfl); clear M; intro w1 M; simp only [SX] at M; (try clear F); have F := fx M) | ((with_reducible refine goal_drewN (G := fun W => wpList _ _ _ _ _ W) M ?_); clear M; intro w1 M; (try clear F); have F := fx M) | ((with_reducible refine goal_drew (G := fun W => wpList _ _ _ _ _ W) M ?_); clear M; intro w1 M; (try clear F); have F := fx M) | ((with_reducible refine isSet (G := fun W => wpList _ _ _ _ _ W) ?_); (with_reducible refine nm (G := fun W => wpList _ _ _ _ _ W) ?_; clear M; (try clear F); intro w1 M F)))
      apply ret_cell (M := M); rfl; rfl; (exact dl); (first | exact agR | exact agV | exact agW | exact agO); (first | exact siI | exact siR | exact siV | exact siB | exact siSI | exact siSV | exact siW | exact siSR | exact siSO | exact siO); rfl
      refine ⟨⟨A1, c1, A2, c2, A3, c3, A4, c4⟩, rfl, ?_⟩
      apply Mem.packRun
      refine Mem.sel (Mem.packRun (r := ⟨id, at_, slots, full, mail, state, due, links, watched, trap, ⟨wk, wn⟩, turns⟩) (a := ⟨sA, sC, mA, mC, lA, lC, wA, wC⟩) (L := rowV A1 c1 slots :: rowV A2 c2 mail :: rowI A3 c3 links :: rowI A4 c4 watched :: L') (M.sel ?_)) ?_ <;> simp only [] <;> exact sl
end Go.Proofs.Ytmidnaafljgbiaa
/- When a run is ok, by the program's text, whole. -/
namespace Go.Proofs.Ytmidnaafljgbiaa
open Go.RowKit
set_option maxRecDepth 100000

/-- The tests of the program's text, in its order, the first that fails. -/
theorem gates10 (b1 b2 b3 : Bool) (p4 : Prop) (b5 b6 b7 b8 b9 b10 : Bool) :
    (b1 = false ∨ (b1 = true ∧ b2 = false) ∨ (b1 = true ∧ b2 = true ∧ b3 = false) ∨ (b1 = true ∧ b2 = true ∧ b3 = true ∧ ¬ p4) ∨ (b1 = true ∧ b2 = true ∧ b3 = true ∧ p4 ∧ b5 = false)) ∨
    ((b1 = true ∧ b2 = true ∧ b3 = true ∧ p4 ∧ b5 = true) ∧ (b6 = false ∨ (b6 = true ∧ b7 = false) ∨ (b6 = true ∧ b7 = true ∧ b8 = false) ∨ (b6 = true ∧ b7 = true ∧ b8 = true ∧ b9 = false) ∨ (b6 = true ∧ b7 = true ∧ b8 = true ∧ b9 = true ∧ b10 = false))) ∨
    ((b1 = true ∧ b2 = true ∧ b3 = true ∧ p4 ∧ b5 = true) ∧ (b6 = true ∧ b7 = true ∧ b8 = true ∧ b9 = true ∧ b10 = true)) := by
  by_cases h : p4 <;> cases b1 <;> cases b2 <;> cases b3 <;> cases b5 <;> cases b6 <;> cases b7 <;> cases b8 <;> cases b9 <;> cases b10 <;> simp [h]

theorem runOk_gates (r : Rn) : runOk r = (inB r.id 1 6 && inB r.at_ 0 15 && slotsB r && decide (r.mail.length ≤ 12) && allOk r.mail && inB r.state 1 3 && inB r.due (-1) 400 && inB r.turns 0 9999 && idsOk r.links r.id && idsOk r.watched r.id &&
    (if r.state = 3 then r.mail.isEmpty && r.links.isEmpty && r.watched.isEmpty && valOk r.why else r.why == Vl.zero)) := by
  have hs : slotsFrom r.full 0 r.slots = true → allOk r.slots = true := fun h => allOk_cut.2 (fun k hk => (slotsFrom_cut.1 h k hk).1)
  have hz : r.why = Vl.zero → valOk r.why = true := fun h => by rw [h]; rfl
  rw [Bool.eq_iff_iff]
  simp only [runOk, slotsB, Bool.and_eq_true, beq_iff_eq, decide_eq_true_eq]
  unfold allOk at hs ⊢
  split
  · simp only [Bool.and_eq_true]
    constructor
    · rintro ⟨⟨⟨⟨⟨⟨⟨⟨⟨⟨⟨⟨⟨h1, h2⟩, h3⟩, h4⟩, h5⟩, h6⟩, h7⟩, h8⟩, h9⟩, h10⟩, h11⟩, h12⟩, h13⟩, h14⟩
      exact ⟨⟨⟨⟨⟨⟨⟨⟨⟨⟨h1, h2⟩, ⟨⟨h3, hs h9⟩, h4⟩, h9⟩, h5⟩, h10⟩, h6⟩, h7⟩, h8⟩, h11⟩, h12⟩, h14, h13⟩
    · rintro ⟨⟨⟨⟨⟨⟨⟨⟨⟨⟨h1, h2⟩, ⟨⟨h3, _⟩, h4⟩, h9⟩, h5⟩, h10⟩, h6⟩, h7⟩, h8⟩, h11⟩, h12⟩, h14, h13⟩
      exact ⟨⟨⟨⟨⟨⟨⟨⟨⟨⟨⟨⟨⟨h1, h2⟩, h3⟩, h4⟩, h5⟩, h6⟩, h7⟩, h8⟩, h9⟩, h10⟩, h11⟩, h12⟩, h13⟩, h14⟩
  · simp only [beq_iff_eq]
    constructor
    · rintro ⟨⟨⟨⟨⟨⟨⟨⟨⟨⟨⟨⟨⟨h1, h2⟩, h3⟩, h4⟩, h5⟩, h6⟩, h7⟩, h8⟩, h9⟩, h10⟩, h11⟩, h12⟩, h13⟩, h14⟩
      exact ⟨⟨⟨⟨⟨⟨⟨⟨⟨⟨h1, h2⟩, ⟨⟨h3, hs h9⟩, h4⟩, h9⟩, h5⟩, h10⟩, h6⟩, h7⟩, h8⟩, h11⟩, h12⟩, h14⟩
    · rintro ⟨⟨⟨⟨⟨⟨⟨⟨⟨⟨h1, h2⟩, ⟨⟨h3, _⟩, h4⟩, h9⟩, h5⟩, h10⟩, h6⟩, h7⟩, h8⟩, h11⟩, h12⟩, h14⟩
      exact ⟨⟨⟨⟨⟨⟨⟨⟨⟨⟨⟨⟨⟨h1, h2⟩, h3⟩, h4⟩, h5⟩, h6⟩, h7⟩, h8⟩, h9⟩, h10⟩, h11⟩, h12⟩, hz h14⟩, h14⟩

set_option maxHeartbeats 8000000 in
theorem iRunOk (r : Rn) (a : RA) (B : Nat) (w : World) (hr : ReadsRun w B r a) (hB : B ≤ w.heap.size) :
    Calls Try.prog 32 #[.agg (runArr r a)] w fun e w' => e = .returned (.bool (runOk r)) ∧ Below w.heap.size w w' := by
  have hend := runOk_gates r
  have hS := Lib.hid (fun W (hbb : Below w.heap.size w W) => iSlotsOk r a B W (hr.below hbb hB) (Nat.le_trans hB hbb.size))
  have hV := Lib.hid (fun W => iValOk r.why W)
  have hVs := Lib.hid (fun W (hbb : Below w.heap.size w W) => iValsOk r.mail a.mA a.mC B W (hr.mail.below' hbb hB) (Nat.le_trans hB hbb.size))
  have hL := Lib.hid (fun W (hbb : Below w.heap.size w W) => iOthers r.links r.id a.lA a.lC B W (hr.links.below' hbb hB) hr.lC)
  have hO := Lib.hid (fun W (hbb : Below w.heap.size w W) => iOthers r.watched r.id a.wA a.wC B W (hr.watched.below' hbb hB) hr.wC)
  have hll := hr.links.2.1
  have hwl := hr.watched.2.1
  clear hr
  generalize slotsB r = b3 at hS hend
  generalize allOk r.mail = b5 at hVs hend
  generalize idsOk r.links r.id = b9 at hL hend
  generalize idsOk r.watched r.id = b10 at hO hend
  generalize valOk r.why = b11 at hV hend
  obtain ⟨b, hb⟩ : ∃ b, b = runOk r := ⟨_, rfl⟩
  rw [← hb] at hend ⊢
  clear hb
  obtain ⟨id, at_, slots, full, mail, state, due, links, watched, trap, ⟨wk, wn⟩, turns⟩ := r
  obtain ⟨sA, sC, mA, mC, lA, lC, wA, wC⟩ := a
  simp only [runArr] at hend hS hV hVs hL hO hll hwl ⊢
  have HE := Lib.hid hend
  clear hend
  rcases gates10 (inB id 1 6) (inB at_ 0 15) b3 (mail.length ≤ 12) b5 (inB state 1 3) (inB due (-1) 400) (inB turns 0 9999) b9 b10 with h | ⟨⟨g1, g2, g3, g4, g5⟩, h⟩ | ⟨⟨g1, g2, g3, g4, g5⟩, g6, g7, g8, g9, g10⟩
  · have hbf : b = false := by
      rw [HE.out]
      rcases h with h | ⟨_, h⟩ | ⟨_, _, h⟩ | ⟨_, _, _, h⟩ | ⟨_, _, _, _, h⟩ <;> simp [h]
    subst hbf
    clear HE
    rcases h with h | ⟨h1, h⟩ | ⟨h1, h2, rfl⟩ | ⟨h1, h2, rfl, h⟩ | ⟨h1, h2, rfl, h4, rfl⟩
    all_goals
      go_enter Try.func32, Try.ntmps32
      go_wp2_with (first
        | ((with_reducible refine gate_dst (N := 1) rfl ?_); refine box_ev ?hg (N := 1) ?hd (cs := #[.int .i64 id, .int .i64 at_, .slice sA slots.length sC, .int .i64 full, .slice mA mail.length mC, .int .i64 state, .int .i64 due, .slice lA links.length lC, .slice wA watched.length wC, .bool trap, .int .i64 wk, .int .i64 wn, .int .i64 turns]) (t := 32) ?hr ?_; (case hd => rfl); (case hg => rfl); (case hr => first | (go_simp; done) | (go_simp; rfl)); intro g w1 hg hbox hW; obtain ⟨hgl, hcell⟩ := hbox)
        | (go_at_call 75; refine (iIn _ _ _ _).mono ?_; rintro e w' ⟨rfl, rfl⟩) | (go_at_call 76; refine (hS.out _ hW).mono ?_; rintro e w' ⟨rfl, hb1⟩; have hcell1 := keepB hb1 hgl hcell) | (go_at_call 77; refine (hVs.out _ (below_step hW hb1)).mono ?_; rintro e w' ⟨rfl, hb2⟩; have hcell2 := keepB hb2 (Nat.lt_of_lt_of_le hgl hb1.size) hcell1))
      go_ret
      exact ⟨rfl, by repeat (first | exact hW | (refine below_step ?_ (by assumption)))⟩
  · have hbf : b = false := by
      rw [HE.out]
      rcases h with h | ⟨_, h⟩ | ⟨_, _, h⟩ | ⟨_, _, _, h⟩ | ⟨_, _, _, _, h⟩ <;> simp [h]
    subst hbf
    subst g3
    subst g5
    clear HE
    rcases h with h | ⟨h1, h⟩ | ⟨h1, h2, h⟩ | ⟨h1, h2, h3, rfl⟩ | ⟨h1, h2, h3, rfl, rfl⟩
    all_goals
      go_enter Try.func32, Try.ntmps32
      go_wp2_with (first
        | ((with_reducible refine gate_dst (N := 1) rfl ?_); refine box_ev ?hg (N := 1) ?hd (cs := #[.int .i64 id, .int .i64 at_, .slice sA slots.length sC, .int .i64 full, .slice mA mail.length mC, .int .i64 state, .int .i64 due, .slice lA links.length lC, .slice wA watched.length wC, .bool trap, .int .i64 wk, .int .i64 wn, .int .i64 turns]) (t := 32) ?hr ?_; (case hd => rfl); (case hg => rfl); (case hr => first | (go_simp; done) | (go_simp; rfl)); intro g w1 hg hbox hW; obtain ⟨hgl, hcell⟩ := hbox)
        | (go_at_call 75; refine (iIn _ _ _ _).mono ?_; rintro e w' ⟨rfl, rfl⟩) | (go_at_call 76; refine (hS.out _ hW).mono ?_; rintro e w' ⟨rfl, hb1⟩; have hcell1 := keepB hb1 hgl hcell) | (go_at_call 77; refine (hVs.out _ (below_step hW hb1)).mono ?_; rintro e w' ⟨rfl, hb2⟩; have hcell2 := keepB hb2 (Nat.lt_of_lt_of_le hgl hb1.size) hcell1)
        | (go_at_call_of 78 (Value.slice lA links.length lC); refine (hL.out _ (below_step (below_step hW hb1) hb2)).mono ?_; rintro e w' ⟨rfl, rfl⟩) | (go_at_call_of 78 (Value.slice wA watched.length wC); refine (hO.out _ (below_step (below_step hW hb1) hb2)).mono ?_; rintro e w' ⟨rfl, rfl⟩))
      go_ret
      exact ⟨rfl, by repeat (first | exact hW | (refine below_step ?_ (by assumption)))⟩
  · subst g3
    subst g5
    subst g9
    subst g10
    have HE2 := Lib.hid (show b = (if state = 3 then mail.isEmpty && links.isEmpty && watched.isEmpty && b11 else (⟨wk, wn⟩ : Vl) == Vl.zero) by rw [HE.out]; simp [g1, g2, g4, g6, g7, g8])
    clear HE
    by_cases hst : state = 3
    · rw [if_pos hst] at HE2
      subst hst
      by_cases m0 : mail.length = 0
      · by_cases l0 : links.length = 0
        · by_cases w0 : watched.length = 0
          · have hz := Lib.hid (show b11 = b by
              rw [HE2.out, List.eq_nil_of_length_eq_zero m0, List.eq_nil_of_length_eq_zero l0, List.eq_nil_of_length_eq_zero w0]; rfl)
            clear HE2
            have m1 : ((mail.length : Int) == 0) = true := by rw [m0]; rfl
            have l1 : ((links.length : Int) == 0) = true := by rw [l0]; rfl
            clear m0 l0
            have w1' : ((watched.length : Int) == 0) = true := by rw [w0]; rfl
            clear w0
            go_enter Try.func32, Try.ntmps32
            go_wp2_with (first
              | ((with_reducible refine gate_dst (N := 1) rfl ?_); refine box_ev ?hg (N := 1) ?hd (cs := #[.int .i64 id, .int .i64 at_, .slice sA slots.length sC, .int .i64 full, .slice mA mail.length mC, .int .i64 3, .int .i64 due, .slice lA links.length lC, .slice wA watched.length wC, .bool trap, .int .i64 wk, .int .i64 wn, .int .i64 turns]) (t := 32) ?hr ?_; (case hd => rfl); (case hg => rfl); (case hr => first | (go_simp; done) | (go_simp; rfl)); intro g w1 hg hbox hW; obtain ⟨hgl, hcell⟩ := hbox)
              | (go_at_call 75; refine (iIn _ _ _ _).mono ?_; rintro e w' ⟨rfl, rfl⟩) | (go_at_call 76; refine (hS.out _ hW).mono ?_; rintro e w' ⟨rfl, hb1⟩; have hcell1 := keepB hb1 hgl hcell) | (go_at_call 77; refine (hVs.out _ (below_step hW hb1)).mono ?_; rintro e w' ⟨rfl, hb2⟩; have hcell2 := keepB hb2 (Nat.lt_of_lt_of_le hgl hb1.size) hcell1)
              | (go_at_call_of 78 (Value.slice lA links.length lC); refine (hL.out _ (below_step (below_step hW hb1) hb2)).mono ?_; rintro e w' ⟨rfl, rfl⟩) | (go_at_call_of 78 (Value.slice wA watched.length wC); refine (hO.out _ (below_step (below_step hW hb1) hb2)).mono ?_; rintro e w' ⟨rfl, rfl⟩)
              | (go_at_call 79; refine (hV.out _).mono ?_; rintro e w' ⟨rfl, hb3⟩))
            go_ret
            exact ⟨ret_bool hz.out, by repeat (first | exact hW | (refine below_step ?_ (by assumption)))⟩
          · have hz := Lib.hid (show false = b by
              rw [HE2.out]
              cases watched with
              | nil => simp at w0
              | cons _ _ => simp)
            clear HE2
            have m1 : ((mail.length : Int) == 0) = true := by rw [m0]; rfl
            have l1 : ((links.length : Int) == 0) = true := by rw [l0]; rfl
            clear m0 l0
            go_enter Try.func32, Try.ntmps32
            go_wp2_with (first
              | ((with_reducible refine gate_dst (N := 1) rfl ?_); refine box_ev ?hg (N := 1) ?hd (cs := #[.int .i64 id, .int .i64 at_, .slice sA slots.length sC, .int .i64 full, .slice mA mail.length mC, .int .i64 3, .int .i64 due, .slice lA links.length lC, .slice wA watched.length wC, .bool trap, .int .i64 wk, .int .i64 wn, .int .i64 turns]) (t := 32) ?hr ?_; (case hd => rfl); (case hg => rfl); (case hr => first | (go_simp; done) | (go_simp; rfl)); intro g w1 hg hbox hW; obtain ⟨hgl, hcell⟩ := hbox)
              | (go_at_call 75; refine (iIn _ _ _ _).mono ?_; rintro e w' ⟨rfl, rfl⟩) | (go_at_call 76; refine (hS.out _ hW).mono ?_; rintro e w' ⟨rfl, hb1⟩; have hcell1 := keepB hb1 hgl hcell) | (go_at_call 77; refine (hVs.out _ (below_step hW hb1)).mono ?_; rintro e w' ⟨rfl, hb2⟩; have hcell2 := keepB hb2 (Nat.lt_of_lt_of_le hgl hb1.size) hcell1)
              | (go_at_call_of 78 (Value.slice lA links.length lC); refine (hL.out _ (below_step (below_step hW hb1) hb2)).mono ?_; rintro e w' ⟨rfl, rfl⟩) | (go_at_call_of 78 (Value.slice wA watched.length wC); refine (hO.out _ (below_step (below_step hW hb1) hb2)).mono ?_; rintro e w' ⟨rfl, rfl⟩)
              | (go_at_call 79; refine (hV.out _).mono ?_; rintro e w' ⟨rfl, hb3⟩))
            go_ret
            exact ⟨ret_bool hz.out, by repeat (first | exact hW | (refine below_step ?_ (by assumption)))⟩
        · have hz := Lib.hid (show false = b by
            rw [HE2.out]
            cases links with
            | nil => simp at l0
            | cons _ _ => simp)
          clear HE2
          have m1 : ((mail.length : Int) == 0) = true := by rw [m0]; rfl
          clear m0
          go_enter Try.func32, Try.ntmps32
          go_wp2_with (first
            | ((with_reducible refine gate_dst (N := 1) rfl ?_); refine box_ev ?hg (N := 1) ?hd (cs := #[.int .i64 id, .int .i64 at_, .slice sA slots.length sC, .int .i64 full, .slice mA mail.length mC, .int .i64 3, .int .i64 due, .slice lA links.length lC, .slice wA watched.length wC, .bool trap, .int .i64 wk, .int .i64 wn, .int .i64 turns]) (t := 32) ?hr ?_; (case hd => rfl); (case hg => rfl); (case hr => first | (go_simp; done) | (go_simp; rfl)); intro g w1 hg hbox hW; obtain ⟨hgl, hcell⟩ := hbox)
            | (go_at_call 75; refine (iIn _ _ _ _).mono ?_; rintro e w' ⟨rfl, rfl⟩) | (go_at_call 76; refine (hS.out _ hW).mono ?_; rintro e w' ⟨rfl, hb1⟩; have hcell1 := keepB hb1 hgl hcell) | (go_at_call 77; refine (hVs.out _ (below_step hW hb1)).mono ?_; rintro e w' ⟨rfl, hb2⟩; have hcell2 := keepB hb2 (Nat.lt_of_lt_of_le hgl hb1.size) hcell1)
            | (go_at_call_of 78 (Value.slice lA links.length lC); refine (hL.out _ (below_step (below_step hW hb1) hb2)).mono ?_; rintro e w' ⟨rfl, rfl⟩) | (go_at_call_of 78 (Value.slice wA watched.length wC); refine (hO.out _ (below_step (below_step hW hb1) hb2)).mono ?_; rintro e w' ⟨rfl, rfl⟩)
            | (go_at_call 79; refine (hV.out _).mono ?_; rintro e w' ⟨rfl, hb3⟩))
          go_ret
          exact ⟨ret_bool hz.out, by repeat (first | exact hW | (refine below_step ?_ (by assumption)))⟩
      · have hz := Lib.hid (show false = b by
          rw [HE2.out]
          cases mail with
          | nil => simp at m0
          | cons _ _ => simp)
        clear HE2
        go_enter Try.func32, Try.ntmps32
        go_wp2_with (first
          | ((with_reducible refine gate_dst (N := 1) rfl ?_); refine box_ev ?hg (N := 1) ?hd (cs := #[.int .i64 id, .int .i64 at_, .slice sA slots.length sC, .int .i64 full, .slice mA mail.length mC, .int .i64 3, .int .i64 due, .slice lA links.length lC, .slice wA watched.length wC, .bool trap, .int .i64 wk, .int .i64 wn, .int .i64 turns]) (t := 32) ?hr ?_; (case hd => rfl); (case hg => rfl); (case hr => first | (go_simp; done) | (go_simp; rfl)); intro g w1 hg hbox hW; obtain ⟨hgl, hcell⟩ := hbox)
          | (go_at_call 75; refine (iIn _ _ _ _).mono ?_; rintro e w' ⟨rfl, rfl⟩) | (go_at_call 76; refine (hS.out _ hW).mono ?_; rintro e w' ⟨rfl, hb1⟩; have hcell1 := keepB hb1 hgl hcell) | (go_at_call 77; refine (hVs.out _ (below_step hW hb1)).mono ?_; rintro e w' ⟨rfl, hb2⟩; have hcell2 := keepB hb2 (Nat.lt_of_lt_of_le hgl hb1.size) hcell1)
          | (go_at_call_of 78 (Value.slice lA links.length lC); refine (hL.out _ (below_step (below_step hW hb1) hb2)).mono ?_; rintro e w' ⟨rfl, rfl⟩) | (go_at_call_of 78 (Value.slice wA watched.length wC); refine (hO.out _ (below_step (below_step hW hb1) hb2)).mono ?_; rintro e w' ⟨rfl, rfl⟩)
          | (go_at_call 79; refine (hV.out _).mono ?_; rintro e w' ⟨rfl, hb3⟩))
        go_ret
        exact ⟨ret_bool hz.out, by repeat (first | exact hW | (refine below_step ?_ (by assumption)))⟩
    · rw [if_neg hst] at HE2
      have hz := Lib.hid (show b = (wk == 0 && wn == 0) by rw [HE2.out, ← eq_zero wk wn]; simp)
      clear HE2
      go_enter Try.func32, Try.ntmps32
      go_wp2_with (first
        | ((with_reducible refine gate_dst (N := 1) rfl ?_); refine box_ev ?hg (N := 1) ?hd (cs := #[.int .i64 id, .int .i64 at_, .slice sA slots.length sC, .int .i64 full, .slice mA mail.length mC, .int .i64 state, .int .i64 due, .slice lA links.length lC, .slice wA watched.length wC, .bool trap, .int .i64 wk, .int .i64 wn, .int .i64 turns]) (t := 32) ?hr ?_; (case hd => rfl); (case hg => rfl); (case hr => first | (go_simp; done) | (go_simp; rfl)); intro g w1 hg hbox hW; obtain ⟨hgl, hcell⟩ := hbox)
        | (go_at_call 75; refine (iIn _ _ _ _).mono ?_; rintro e w' ⟨rfl, rfl⟩) | (go_at_call 76; refine (hS.out _ hW).mono ?_; rintro e w' ⟨rfl, hb1⟩; have hcell1 := keepB hb1 hgl hcell) | (go_at_call 77; refine (hVs.out _ (below_step hW hb1)).mono ?_; rintro e w' ⟨rfl, hb2⟩; have hcell2 := keepB hb2 (Nat.lt_of_lt_of_le hgl hb1.size) hcell1)
        | (go_at_call_of 78 (Value.slice lA links.length lC); refine (hL.out _ (below_step (below_step hW hb1) hb2)).mono ?_; rintro e w' ⟨rfl, rfl⟩) | (go_at_call_of 78 (Value.slice wA watched.length wC); refine (hO.out _ (below_step (below_step hW hb1) hb2)).mono ?_; rintro e w' ⟨rfl, rfl⟩))
      · have e1 : wk = 0 := by assumption
        have e2 : wn = 0 := by assumption
        go_ret
        exact ⟨ret_bool (by rw [hz.out, e1, e2]; rfl), by repeat (first | exact hW | (refine below_step ?_ (by assumption)))⟩
      · have e2 : ¬ wn = 0 := by assumption
        go_ret
        exact ⟨ret_bool (by rw [hz.out, beq_false_of_ne e2, Bool.and_false]), by repeat (first | exact hW | (refine below_step ?_ (by assumption)))⟩
      · have e1 : ¬ wk = 0 := by assumption
        go_ret
        exact ⟨ret_bool (by rw [hz.out, beq_false_of_ne e1, Bool.false_and]), by repeat (first | exact hW | (refine below_step ?_ (by assumption)))⟩
end Go.Proofs.Ytmidnaafljgbiaa
/- A slot is filled: its bit, and its value, on both sides. -/
namespace Go.Proofs.Ytmidnaafljgbiaa
open Go.RowKit
set_option maxRecDepth 100000

theorem sWith (f s : Int) (hf : 0 ≤ f) (hf' : f ≤ 15) (hs : inB s 0 3 = true) (w : World) : Calls Try.prog 112 #[.int .i64 f, .int .i64 s] w fun e w' => e = .returned (.int .i64 (withBit f s)) ∧ Below w.heap.size w w' := by
  have hb := bitI_pairs hs
  have HB := Lib.hid (fun W => sBit s (bitI s) hb W)
  have HH := Lib.hid (fun W => sHas f s hf hf' hs W)
  have hsum : IntKind.i64.wrap (f + bitI s) = f + bitI s := by rw [IntKind.wrap_i64]; omega
  unfold withBit
  generalize bitI s = b at HB hsum ⊢
  clear hb hs
  cases hq : hasBit f s with
  | true =>
    rw [hq] at HH
    simp only [if_true]
    go_enter Try.func112, Try.ntmps112
    go_wp2_with (go_at_call 82; refine (HH.out _).mono ?_; rintro e w1 ⟨rfl, hb1⟩)
    go_ret
    exact ⟨rfl, hb1⟩
  | false =>
    rw [hq] at HH
    simp only [if_false, Bool.false_eq_true]
    go_enter Try.func112, Try.ntmps112
    go_wp2_with (first | (go_at_call 82; refine (HH.out _).mono ?_; rintro e w1 ⟨rfl, hb1⟩) | (go_at_call 107; refine (HB.out _).mono ?_; rintro e w2 ⟨rfl, hb2⟩; have B2 := below_step hb1 hb2))
    go_ret
    exact ⟨ret_int (by simp), B2⟩
end Go.Proofs.Ytmidnaafljgbiaa
