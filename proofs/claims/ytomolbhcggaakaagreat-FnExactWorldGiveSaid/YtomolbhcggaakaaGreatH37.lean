/- Parts of the proof, in one text. -/
import Derived.Test.YtomolbhcggaakaaGreatH14
import Derived.Test.YtomolbhcggaakaaGreatH36
import Derived.Test.YtomolbhcggaakaaGreatH15
/- When a run is ok, by the program's text, whole. -/
namespace Go.Proofs.YtomolbhcggaakaaGreat
open Go.RowKit
set_option maxRecDepth 100000

/-- The tests of the program's text, in its order, the first that fails. -/
theorem gates10 (b1 b2 b3 : Bool) (p4 : Prop) (b5 b6 b7 b8 b9 b10 : Bool) :
    (b1 = false ∨ (b1 = true ∧ b2 = false) ∨ (b1 = true ∧ b2 = true ∧ b3 = false) ∨ (b1 = true ∧ b2 = true ∧ b3 = true ∧ ¬ p4) ∨ (b1 = true ∧ b2 = true ∧ b3 = true ∧ p4 ∧ b5 = false)) ∨
    ((b1 = true ∧ b2 = true ∧ b3 = true ∧ p4 ∧ b5 = true) ∧ (b6 = false ∨ (b6 = true ∧ b7 = false) ∨ (b6 = true ∧ b7 = true ∧ b8 = false) ∨ (b6 = true ∧ b7 = true ∧ b8 = true ∧ b9 = false) ∨ (b6 = true ∧ b7 = true ∧ b8 = true ∧ b9 = true ∧ b10 = false))) ∨
    ((b1 = true ∧ b2 = true ∧ b3 = true ∧ p4 ∧ b5 = true) ∧ (b6 = true ∧ b7 = true ∧ b8 = true ∧ b9 = true ∧ b10 = true)) := by
  by_cases h : p4 <;> cases b1 <;> cases b2 <;> cases b3 <;> cases b5 <;> cases b6 <;> cases b7 <;> cases b8 <;> cases b9 <;> cases b10 <;> simp [h]

theorem runOk_gates (r : Rn) : runOk r = (inB r.id 1 6 && inB r.at_ 0 15 && slotsB r && decide (r.mail.length ≤ 12) && allOk r.mail && inB r.state 1 3 && inB r.due (-1) 400 && inB r.turns 0 9999 && idsOk r.links r.id && idsOk r.watched r.id &&
    (if r.state = 3 then r.mail.isEmpty && r.links.isEmpty && r.watched.isEmpty && valOk r.why else r.why == Vl.zero)) := by
  have hs : slotsFrom r.full 0 r.slots = true → allOk r.slots = true := fun h => allOk_cut.2 (fun k hk => (slotsFrom_cut.1 h k hk).1)
  have hz : r.why = Vl.zero → valOk r.why = true := fun h => by rw [h]; rfl
  rw [Bool.eq_iff_iff]
  simp only [runOk, slotsB, Bool.and_eq_true, beq_iff_eq, decide_eq_true_eq]
  unfold allOk at hs ⊢
  split
  · simp only [Bool.and_eq_true]
    constructor
    · rintro ⟨⟨⟨⟨⟨⟨⟨⟨⟨⟨⟨⟨⟨h1, h2⟩, h3⟩, h4⟩, h5⟩, h6⟩, h7⟩, h8⟩, h9⟩, h10⟩, h11⟩, h12⟩, h13⟩, h14⟩
      exact ⟨⟨⟨⟨⟨⟨⟨⟨⟨⟨h1, h2⟩, ⟨⟨h3, hs h9⟩, h4⟩, h9⟩, h5⟩, h10⟩, h6⟩, h7⟩, h8⟩, h11⟩, h12⟩, h14, h13⟩
    · rintro ⟨⟨⟨⟨⟨⟨⟨⟨⟨⟨h1, h2⟩, ⟨⟨h3, _⟩, h4⟩, h9⟩, h5⟩, h10⟩, h6⟩, h7⟩, h8⟩, h11⟩, h12⟩, h14, h13⟩
      exact ⟨⟨⟨⟨⟨⟨⟨⟨⟨⟨⟨⟨⟨h1, h2⟩, h3⟩, h4⟩, h5⟩, h6⟩, h7⟩, h8⟩, h9⟩, h10⟩, h11⟩, h12⟩, h13⟩, h14⟩
  · simp only [beq_iff_eq]
    constructor
    · rintro ⟨⟨⟨⟨⟨⟨⟨⟨⟨⟨⟨⟨⟨h1, h2⟩, h3⟩, h4⟩, h5⟩, h6⟩, h7⟩, h8⟩, h9⟩, h10⟩, h11⟩, h12⟩, h13⟩, h14⟩
      exact ⟨⟨⟨⟨⟨⟨⟨⟨⟨⟨h1, h2⟩, ⟨⟨h3, hs h9⟩, h4⟩, h9⟩, h5⟩, h10⟩, h6⟩, h7⟩, h8⟩, h11⟩, h12⟩, h14⟩
    · rintro ⟨⟨⟨⟨⟨⟨⟨⟨⟨⟨h1, h2⟩, ⟨⟨h3, _⟩, h4⟩, h9⟩, h5⟩, h10⟩, h6⟩, h7⟩, h8⟩, h11⟩, h12⟩, h14⟩
      exact ⟨⟨⟨⟨⟨⟨⟨⟨⟨⟨⟨⟨⟨h1, h2⟩, h3⟩, h4⟩, h5⟩, h6⟩, h7⟩, h8⟩, h9⟩, h10⟩, h11⟩, h12⟩, hz h14⟩, h14⟩

set_option maxHeartbeats 8000000 in
theorem iRunOk (r : Rn) (a : RA) (B : Nat) (w : World) (hr : ReadsRun w B r a) (hB : B ≤ w.heap.size) :
    Calls Tryz.prog 100 #[.agg (runArr r a)] w fun e w' => e = .returned (.bool (runOk r)) ∧ Below w.heap.size w w' := by
  have hend := runOk_gates r
  have hS := Lib.hid (fun W (hbb : Below w.heap.size w W) => iSlotsOk r a B W (hr.below hbb hB) (Nat.le_trans hB hbb.size))
  have hV := Lib.hid (fun W => iValOk r.why W)
  have hVs := Lib.hid (fun W (hbb : Below w.heap.size w W) => iValsOk r.mail a.mA a.mC B W (hr.mail.below' hbb hB) (Nat.le_trans hB hbb.size))
  have hL := Lib.hid (fun W (hbb : Below w.heap.size w W) => iOthers r.links r.id a.lA a.lC B W (hr.links.below' hbb hB) hr.lC)
  have hO := Lib.hid (fun W (hbb : Below w.heap.size w W) => iOthers r.watched r.id a.wA a.wC B W (hr.watched.below' hbb hB) hr.wC)
  have hll := hr.links.2.1
  have hwl := hr.watched.2.1
  clear hr
  generalize slotsB r = b3 at hS hend
  generalize allOk r.mail = b5 at hVs hend
  generalize idsOk r.links r.id = b9 at hL hend
  generalize idsOk r.watched r.id = b10 at hO hend
  generalize valOk r.why = b11 at hV hend
  obtain ⟨b, hb⟩ : ∃ b, b = runOk r := ⟨_, rfl⟩
  rw [← hb] at hend ⊢
  clear hb
  obtain ⟨id, at_, slots, full, mail, state, due, links, watched, trap, ⟨wk, wn⟩, turns⟩ := r
  obtain ⟨sA, sC, mA, mC, lA, lC, wA, wC⟩ := a
  simp only [runArr] at hend hS hV hVs hL hO hll hwl ⊢
  have HE := Lib.hid hend
  clear hend
  rcases gates10 (inB id 1 6) (inB at_ 0 15) b3 (mail.length ≤ 12) b5 (inB state 1 3) (inB due (-1) 400) (inB turns 0 9999) b9 b10 with h | ⟨⟨g1, g2, g3, g4, g5⟩, h⟩ | ⟨⟨g1, g2, g3, g4, g5⟩, g6, g7, g8, g9, g10⟩
  · have hbf : b = false := by
      rw [HE.out]
      rcases h with h | ⟨_, h⟩ | ⟨_, _, h⟩ | ⟨_, _, _, h⟩ | ⟨_, _, _, _, h⟩ <;> simp [h]
    subst hbf
    clear HE
    rcases h with h | ⟨h1, h⟩ | ⟨h1, h2, rfl⟩ | ⟨h1, h2, rfl, h⟩ | ⟨h1, h2, rfl, h4, rfl⟩
    all_goals
      go_enter Tryz.func100, Tryz.ntmps100
      go_wp2_with (first
        | ((with_reducible refine gate_dst (N := 1) rfl ?_); refine box_ev ?hg (N := 1) ?hd (cs := #[.int .i64 id, .int .i64 at_, .slice sA slots.length sC, .int .i64 full, .slice mA mail.length mC, .int .i64 state, .int .i64 due, .slice lA links.length lC, .slice wA watched.length wC, .bool trap, .int .i64 wk, .int .i64 wn, .int .i64 turns]) (t := 56) ?hr ?_; (case hd => rfl); (case hg => rfl); (case hr => first | (go_simp; done) | (go_simp; rfl)); intro g w1 hg hbox hW; obtain ⟨hgl, hcell⟩ := hbox)
        | (go_at_call 54; refine (iIn _ _ _ _).mono ?_; rintro e w' ⟨rfl, rfl⟩) | (go_at_call 139; refine (hS.out _ hW).mono ?_; rintro e w' ⟨rfl, hb1⟩; have hcell1 := keepB hb1 hgl hcell) | (go_at_call 140; refine (hVs.out _ (below_step hW hb1)).mono ?_; rintro e w' ⟨rfl, hb2⟩; have hcell2 := keepB hb2 (Nat.lt_of_lt_of_le hgl hb1.size) hcell1))
      go_ret
      exact ⟨rfl, by repeat (first | exact hW | (refine below_step ?_ (by assumption)))⟩
  · have hbf : b = false := by
      rw [HE.out]
      rcases h with h | ⟨_, h⟩ | ⟨_, _, h⟩ | ⟨_, _, _, h⟩ | ⟨_, _, _, _, h⟩ <;> simp [h]
    subst hbf
    subst g3
    subst g5
    clear HE
    rcases h with h | ⟨h1, h⟩ | ⟨h1, h2, h⟩ | ⟨h1, h2, h3, rfl⟩ | ⟨h1, h2, h3, rfl, rfl⟩
    all_goals
      go_enter Tryz.func100, Tryz.ntmps100
      go_wp2_with (first
        | ((with_reducible refine gate_dst (N := 1) rfl ?_); refine box_ev ?hg (N := 1) ?hd (cs := #[.int .i64 id, .int .i64 at_, .slice sA slots.length sC, .int .i64 full, .slice mA mail.length mC, .int .i64 state, .int .i64 due, .slice lA links.length lC, .slice wA watched.length wC, .bool trap, .int .i64 wk, .int .i64 wn, .int .i64 turns]) (t := 56) ?hr ?_; (case hd => rfl); (case hg => rfl); (case hr => first | (go_simp; done) | (go_simp; rfl)); intro g w1 hg hbox hW; obtain ⟨hgl, hcell⟩ := hbox)
        | (go_at_call 54; refine (iIn _ _ _ _).mono ?_; rintro e w' ⟨rfl, rfl⟩) | (go_at_call 139; refine (hS.out _ hW).mono ?_; rintro e w' ⟨rfl, hb1⟩; have hcell1 := keepB hb1 hgl hcell) | (go_at_call 140; refine (hVs.out _ (below_step hW hb1)).mono ?_; rintro e w' ⟨rfl, hb2⟩; have hcell2 := keepB hb2 (Nat.lt_of_lt_of_le hgl hb1.size) hcell1)
        | (go_at_call_of 141 (Value.slice lA links.length lC); refine (hL.out _ (below_step (below_step hW hb1) hb2)).mono ?_; rintro e w' ⟨rfl, rfl⟩) | (go_at_call_of 141 (Value.slice wA watched.length wC); refine (hO.out _ (below_step (below_step hW hb1) hb2)).mono ?_; rintro e w' ⟨rfl, rfl⟩))
      go_ret
      exact ⟨rfl, by repeat (first | exact hW | (refine below_step ?_ (by assumption)))⟩
  · subst g3
    subst g5
    subst g9
    subst g10
    have HE2 := Lib.hid (show b = (if state = 3 then mail.isEmpty && links.isEmpty && watched.isEmpty && b11 else (⟨wk, wn⟩ : Vl) == Vl.zero) by rw [HE.out]; simp [g1, g2, g4, g6, g7, g8])
    clear HE
    by_cases hst : state = 3
    · rw [if_pos hst] at HE2
      subst hst
      by_cases m0 : mail.length = 0
      · by_cases l0 : links.length = 0
        · by_cases w0 : watched.length = 0
          · have hz := Lib.hid (show b11 = b by
              rw [HE2.out, List.eq_nil_of_length_eq_zero m0, List.eq_nil_of_length_eq_zero l0, List.eq_nil_of_length_eq_zero w0]; rfl)
            clear HE2
            have m1 : ((mail.length : Int) == 0) = true := by rw [m0]; rfl
            have l1 : ((links.length : Int) == 0) = true := by rw [l0]; rfl
            clear m0 l0
            have w1' : ((watched.length : Int) == 0) = true := by rw [w0]; rfl
            clear w0
            go_enter Tryz.func100, Tryz.ntmps100
            go_wp2_with (first
              | ((with_reducible refine gate_dst (N := 1) rfl ?_); refine box_ev ?hg (N := 1) ?hd (cs := #[.int .i64 id, .int .i64 at_, .slice sA slots.length sC, .int .i64 full, .slice mA mail.length mC, .int .i64 3, .int .i64 due, .slice lA links.length lC, .slice wA watched.length wC, .bool trap, .int .i64 wk, .int .i64 wn, .int .i64 turns]) (t := 56) ?hr ?_; (case hd => rfl); (case hg => rfl); (case hr => first | (go_simp; done) | (go_simp; rfl)); intro g w1 hg hbox hW; obtain ⟨hgl, hcell⟩ := hbox)
              | (go_at_call 54; refine (iIn _ _ _ _).mono ?_; rintro e w' ⟨rfl, rfl⟩) | (go_at_call 139; refine (hS.out _ hW).mono ?_; rintro e w' ⟨rfl, hb1⟩; have hcell1 := keepB hb1 hgl hcell) | (go_at_call 140; refine (hVs.out _ (below_step hW hb1)).mono ?_; rintro e w' ⟨rfl, hb2⟩; have hcell2 := keepB hb2 (Nat.lt_of_lt_of_le hgl hb1.size) hcell1)
              | (go_at_call_of 141 (Value.slice lA links.length lC); refine (hL.out _ (below_step (below_step hW hb1) hb2)).mono ?_; rintro e w' ⟨rfl, rfl⟩) | (go_at_call_of 141 (Value.slice wA watched.length wC); refine (hO.out _ (below_step (below_step hW hb1) hb2)).mono ?_; rintro e w' ⟨rfl, rfl⟩)
              | (go_at_call 67; refine (hV.out _).mono ?_; rintro e w' ⟨rfl, hb3⟩))
            go_ret
            exact ⟨ret_bool hz.out, by repeat (first | exact hW | (refine below_step ?_ (by assumption)))⟩
          · have hz := Lib.hid (show false = b by
              rw [HE2.out]
              cases watched with
              | nil => simp at w0
              | cons _ _ => simp)
            clear HE2
            have m1 : ((mail.length : Int) == 0) = true := by rw [m0]; rfl
            have l1 : ((links.length : Int) == 0) = true := by rw [l0]; rfl
            clear m0 l0
            go_enter Tryz.func100, Tryz.ntmps100
            go_wp2_with (first
              | ((with_reducible refine gate_dst (N := 1) rfl ?_); refine box_ev ?hg (N := 1) ?hd (cs := #[.int .i64 id, .int .i64 at_, .slice sA slots.length sC, .int .i64 full, .slice mA mail.length mC, .int .i64 3, .int .i64 due, .slice lA links.length lC, .slice wA watched.length wC, .bool trap, .int .i64 wk, .int .i64 wn, .int .i64 turns]) (t := 56) ?hr ?_; (case hd => rfl); (case hg => rfl); (case hr => first | (go_simp; done) | (go_simp; rfl)); intro g w1 hg hbox hW; obtain ⟨hgl, hcell⟩ := hbox)
              | (go_at_call 54; refine (iIn _ _ _ _).mono ?_; rintro e w' ⟨rfl, rfl⟩) | (go_at_call 139; refine (hS.out _ hW).mono ?_; rintro e w' ⟨rfl, hb1⟩; have hcell1 := keepB hb1 hgl hcell) | (go_at_call 140; refine (hVs.out _ (below_step hW hb1)).mono ?_; rintro e w' ⟨rfl, hb2⟩; have hcell2 := keepB hb2 (Nat.lt_of_lt_of_le hgl hb1.size) hcell1)
              | (go_at_call_of 141 (Value.slice lA links.length lC); refine (hL.out _ (below_step (below_step hW hb1) hb2)).mono ?_; rintro e w' ⟨rfl, rfl⟩) | (go_at_call_of 141 (Value.slice wA watched.length wC); refine (hO.out _ (below_step (below_step hW hb1) hb2)).mono ?_; rintro e w' ⟨rfl, rfl⟩)
              | (go_at_call 67; refine (hV.out _).mono ?_; rintro e w' ⟨rfl, hb3⟩))
            go_ret
            exact ⟨ret_bool hz.out, by repeat (first | exact hW | (refine below_step ?_ (by assumption)))⟩
        · have hz := Lib.hid (show false = b by
            rw [HE2.out]
            cases links with
            | nil => simp at l0
            | cons _ _ => simp)
          clear HE2
          have m1 : ((mail.length : Int) == 0) = true := by rw [m0]; rfl
          clear m0
          go_enter Tryz.func100, Tryz.ntmps100
          go_wp2_with (first
            | ((with_reducible refine gate_dst (N := 1) rfl ?_); refine box_ev ?hg (N := 1) ?hd (cs := #[.int .i64 id, .int .i64 at_, .slice sA slots.length sC, .int .i64 full, .slice mA mail.length mC, .int .i64 3, .int .i64 due, .slice lA links.length lC, .slice wA watched.length wC, .bool trap, .int .i64 wk, .int .i64 wn, .int .i64 turns]) (t := 56) ?hr ?_; (case hd => rfl); (case hg => rfl); (case hr => first | (go_simp; done) | (go_simp; rfl)); intro g w1 hg hbox hW; obtain ⟨hgl, hcell⟩ := hbox)
            | (go_at_call 54; refine (iIn _ _ _ _).mono ?_; rintro e w' ⟨rfl, rfl⟩) | (go_at_call 139; refine (hS.out _ hW).mono ?_; rintro e w' ⟨rfl, hb1⟩; have hcell1 := keepB hb1 hgl hcell) | (go_at_call 140; refine (hVs.out _ (below_step hW hb1)).mono ?_; rintro e w' ⟨rfl, hb2⟩; have hcell2 := keepB hb2 (Nat.lt_of_lt_of_le hgl hb1.size) hcell1)
            | (go_at_call_of 141 (Value.slice lA links.length lC); refine (hL.out _ (below_step (below_step hW hb1) hb2)).mono ?_; rintro e w' ⟨rfl, rfl⟩) | (go_at_call_of 141 (Value.slice wA watched.length wC); refine (hO.out _ (below_step (below_step hW hb1) hb2)).mono ?_; rintro e w' ⟨rfl, rfl⟩)
            | (go_at_call 67; refine (hV.out _).mono ?_; rintro e w' ⟨rfl, hb3⟩))
          go_ret
          exact ⟨ret_bool hz.out, by repeat (first | exact hW | (refine below_step ?_ (by assumption)))⟩
      · have hz := Lib.hid (show false = b by
          rw [HE2.out]
          cases mail with
          | nil => simp at m0
          | cons _ _ => simp)
        clear HE2
        go_enter Tryz.func100, Tryz.ntmps100
        go_wp2_with (first
          | ((with_reducible refine gate_dst (N := 1) rfl ?_); refine box_ev ?hg (N := 1) ?hd (cs := #[.int .i64 id, .int .i64 at_, .slice sA slots.length sC, .int .i64 full, .slice mA mail.length mC, .int .i64 3, .int .i64 due, .slice lA links.length lC, .slice wA watched.length wC, .bool trap, .int .i64 wk, .int .i64 wn, .int .i64 turns]) (t := 56) ?hr ?_; (case hd => rfl); (case hg => rfl); (case hr => first | (go_simp; done) | (go_simp; rfl)); intro g w1 hg hbox hW; obtain ⟨hgl, hcell⟩ := hbox)
          | (go_at_call 54; refine (iIn _ _ _ _).mono ?_; rintro e w' ⟨rfl, rfl⟩) | (go_at_call 139; refine (hS.out _ hW).mono ?_; rintro e w' ⟨rfl, hb1⟩; have hcell1 := keepB hb1 hgl hcell) | (go_at_call 140; refine (hVs.out _ (below_step hW hb1)).mono ?_; rintro e w' ⟨rfl, hb2⟩; have hcell2 := keepB hb2 (Nat.lt_of_lt_of_le hgl hb1.size) hcell1)
          | (go_at_call_of 141 (Value.slice lA links.length lC); refine (hL.out _ (below_step (below_step hW hb1) hb2)).mono ?_; rintro e w' ⟨rfl, rfl⟩) | (go_at_call_of 141 (Value.slice wA watched.length wC); refine (hO.out _ (below_step (below_step hW hb1) hb2)).mono ?_; rintro e w' ⟨rfl, rfl⟩)
          | (go_at_call 67; refine (hV.out _).mono ?_; rintro e w' ⟨rfl, hb3⟩))
        go_ret
        exact ⟨ret_bool hz.out, by repeat (first | exact hW | (refine below_step ?_ (by assumption)))⟩
    · rw [if_neg hst] at HE2
      have hz := Lib.hid (show b = (wk == 0 && wn == 0) by rw [HE2.out, ← eq_zero wk wn]; simp)
      clear HE2
      go_enter Tryz.func100, Tryz.ntmps100
      go_wp2_with (first
        | ((with_reducible refine gate_dst (N := 1) rfl ?_); refine box_ev ?hg (N := 1) ?hd (cs := #[.int .i64 id, .int .i64 at_, .slice sA slots.length sC, .int .i64 full, .slice mA mail.length mC, .int .i64 state, .int .i64 due, .slice lA links.length lC, .slice wA watched.length wC, .bool trap, .int .i64 wk, .int .i64 wn, .int .i64 turns]) (t := 56) ?hr ?_; (case hd => rfl); (case hg => rfl); (case hr => first | (go_simp; done) | (go_simp; rfl)); intro g w1 hg hbox hW; obtain ⟨hgl, hcell⟩ := hbox)
        | (go_at_call 54; refine (iIn _ _ _ _).mono ?_; rintro e w' ⟨rfl, rfl⟩) | (go_at_call 139; refine (hS.out _ hW).mono ?_; rintro e w' ⟨rfl, hb1⟩; have hcell1 := keepB hb1 hgl hcell) | (go_at_call 140; refine (hVs.out _ (below_step hW hb1)).mono ?_; rintro e w' ⟨rfl, hb2⟩; have hcell2 := keepB hb2 (Nat.lt_of_lt_of_le hgl hb1.size) hcell1)
        | (go_at_call_of 141 (Value.slice lA links.length lC); refine (hL.out _ (below_step (below_step hW hb1) hb2)).mono ?_; rintro e w' ⟨rfl, rfl⟩) | (go_at_call_of 141 (Value.slice wA watched.length wC); refine (hO.out _ (below_step (below_step hW hb1) hb2)).mono ?_; rintro e w' ⟨rfl, rfl⟩))
      · have e1 : wk = 0 := by assumption
        have e2 : wn = 0 := by assumption
        go_ret
        exact ⟨ret_bool (by rw [hz.out, e1, e2]; rfl), by repeat (first | exact hW | (refine below_step ?_ (by assumption)))⟩
      · have e2 : ¬ wn = 0 := by assumption
        go_ret
        exact ⟨ret_bool (by rw [hz.out, beq_false_of_ne e2, Bool.and_false]), by repeat (first | exact hW | (refine below_step ?_ (by assumption)))⟩
      · have e1 : ¬ wk = 0 := by assumption
        go_ret
        exact ⟨ret_bool (by rw [hz.out, beq_false_of_ne e1, Bool.false_and]), by repeat (first | exact hW | (refine below_step ?_ (by assumption)))⟩
end Go.Proofs.YtomolbhcggaakaaGreat
/- Readers of a world by the program's text: a run, one that did not end, how many values wait, whether one waits as it must. -/
namespace Go.Proofs.YtomolbhcggaakaaGreat
open Go.RowKit
set_option maxRecDepth 100000

/-- The cells of a world in a block. -/
def BoxW (w : World) (g : Nat) (W : Wm) : Prop := g < w.heap.size ∧ ∀ j, w.cell? ⟨g, j, none⟩ = ([.slice W.cA W.code.length W.cC, .slice W.rA W.ps.length W.rC, .slice W.qA W.queue.length W.qC, .int .i64 W.now, .int .i64 W.sent, .int .i64 W.taken, .int .i64 W.lost] : List Value)[j]?
theorem BoxW.below {w w' : World} {g : Nat} {W : Wm} (h : BoxW w g W) (hb : Below w.heap.size w w') : BoxW w' g W := ⟨Nat.lt_of_lt_of_le h.1 hb.size, fun j => (hb.cell (p := ⟨g, j, none⟩) h.1).trans (h.2 j)⟩
theorem BoxW.of {w0 w : World} {f : List Nat} {L L' : List Asn} {g : Nat} {t : TypeId} {W : Wm} (M : Mem w0 f w L) (hd : Del (blk g t [.slice W.cA W.code.length W.cC, .slice W.rA W.ps.length W.rC, .slice W.qA W.queue.length W.qC, .int .i64 W.now, .int .i64 W.sent, .int .i64 W.taken, .int .i64 W.lost]) L L') : BoxW w g W := by
  have h := M.is hd |> (blk g t _).imp w
  exact ⟨h.1, h.2.1⟩
theorem iRunIn (W : Wm) (g gr : Nat) (k : Nat) (hk : k < W.ps.length) (hn : W.ps.length ≤ 1000) (hA : W.rA = some ⟨gr, 0, none⟩) (w : World) (h : BoxW w g W) :
    Calls Tryz.prog 76 #[.pointer (some ⟨g, 0, none⟩), .int .i64 ((k : Int) + 1)] w fun e w' => e = .returned (.pointer (some ⟨gr, k * 13, none⟩)) ∧ w' = w := by
  have AL := add_lit0
  have HI := Lib.hid (fun V => iIn ((k : Int) + 1) 1 W.ps.length V)
  rw [inB_iff.2 ⟨by omega, by omega⟩] at HI
  have hc := h.2
  obtain ⟨code, cA, cC, ps, rA, rC, queue, qA, qC, now, sent, taken, lost⟩ := W
  simp only at *
  subst hA
  have i1 : (0 : Int) ≤ k := by omega
  have i2 : (k : Int) < ps.length := by omega
  have wi : IntKind.i64.wrap ((k : Int) + 1 - 1) = (k : Int) := by rw [IntKind.wrap_i64]; omega
  clear h
  go_enter Tryz.func76, Tryz.ntmps76
  go_wp2_with (go_at_call 54; refine (HI.out _).mono ?_; rintro e w2 ⟨rfl, rfl⟩)
  go_ret
  exact ⟨rfl, rfl⟩
theorem iRunOut (W : Wm) (g : Nat) (id : Int) (hk : inB id 1 W.ps.length = false) (w : World) (h : BoxW w g W) :
    Calls Tryz.prog 76 #[.pointer (some ⟨g, 0, none⟩), .int .i64 id] w fun e w' => e = .returned (.pointer none) ∧ w' = w := by
  have HI := Lib.hid (fun V => iIn id 1 W.ps.length V)
  rw [hk] at HI
  have hc := h.2
  obtain ⟨code, cA, cC, ps, rA, rC, queue, qA, qC, now, sent, taken, lost⟩ := W
  simp only at *
  clear h hk
  go_enter Tryz.func76, Tryz.ntmps76
  go_wp2_with (go_at_call 54; refine (HI.out _).mono ?_; rintro e w2 ⟨rfl, rfl⟩)
  go_ret
  exact ⟨rfl, rfl⟩
theorem iAliveOut (W : Wm) (g : Nat) (id : Int) (hk : inB id 1 W.ps.length = false) (w : World) (h : BoxW w g W) :
    Calls Tryz.prog 75 #[.pointer (some ⟨g, 0, none⟩), .int .i64 id] w fun e w' => e = .returned (.pointer none) ∧ w' = w := by
  have HR := Lib.hid (iRunOut W g id hk w h)
  clear h hk
  go_enter Tryz.func75, Tryz.ntmps75
  go_wp2_with (go_at_call 76; refine HR.out.mono ?_; rintro e w2 ⟨rfl, rfl⟩)
  go_ret
  exact ⟨rfl, rfl⟩
theorem iAliveIn (W : Wm) (g gr : Nat) (k : Nat) (hk : k < W.ps.length) (hn : W.ps.length ≤ 1000) (hA : W.rA = some ⟨gr, 0, none⟩) (w : World) (h : BoxW w g W) (hs : w.cell? ⟨gr, k * 13 + 5, none⟩ = some (.int .i64 W.ps[k].1.state)) :
    Calls Tryz.prog 75 #[.pointer (some ⟨g, 0, none⟩), .int .i64 ((k : Int) + 1)] w fun e w' => e = .returned (.pointer (if W.ps[k].1.state = 3 then none else some ⟨gr, k * 13, none⟩)) ∧ w' = w := by
  have AL := add_lit0
  have HR := Lib.hid (iRunIn W g gr k hk hn hA w h)
  clear h
  generalize W.ps[k].1.state = s at *
  by_cases q : s = 3
  · rw [if_pos q]
    subst q
    go_enter Tryz.func75, Tryz.ntmps75
    go_wp2_with (go_at_call 76; refine HR.out.mono ?_; rintro e w2 ⟨rfl, rfl⟩)
    go_ret
    exact ⟨rfl, rfl⟩
  · rw [if_neg q]
    have q2 : (s == 3) = false := by simpa using q
    go_enter Tryz.func75, Tryz.ntmps75
    go_wp2_with (go_at_call 76; refine HR.out.mono ?_; rintro e w2 ⟨rfl, rfl⟩)
    go_ret
    exact ⟨rfl, rfl⟩
/-- A pointer to the run of a number, nil where it ended or never was. -/
def aliveP (W : Wm) (gr : Nat) (id : Int) : Option Addr := if aliveIn W.wd.runs id then some ⟨gr, (id - 1).toNat * 13, none⟩ else none
theorem getR_ps {W : Wm} {k : Nat} (hk : k < W.ps.length) : getR W.wd.runs ((k : Int) + 1) = W.ps[k].1 := by
  have e : ((k : Int) + 1 - 1).toNat = k := by omega
  simp [getR, Wm.wd, List.getD_eq_getElem?_getD, hk]
theorem runsLen (W : Wm) : W.wd.runs.length = W.ps.length := by simp [Wm.wd]
theorem iAlive (W : Wm) (g gr : Nat) (id : Int) (hn : W.ps.length ≤ 1000) (hA : W.rA = some ⟨gr, 0, none⟩) (w : World) (h : BoxW w g W) (hs : ∀ k (hk : k < W.ps.length), RunAt w gr (k * 13) W.ps[k].1 W.ps[k].2) :
    Calls Tryz.prog 75 #[.pointer (some ⟨g, 0, none⟩), .int .i64 id] w fun e w' => e = .returned (.pointer (aliveP W gr id)) ∧ w' = w := by
  unfold aliveP
  cases q : inB id 1 W.ps.length with
  | false =>
    have e : aliveIn W.wd.runs id = false := by unfold aliveIn; rw [runsLen, q]; rfl
    rw [e]
    exact iAliveOut W g id q w h
  | true =>
    have q2 := inB_iff.1 q
    obtain ⟨k, hk⟩ : ∃ k : Nat, id = (k : Int) + 1 := ⟨(id - 1).toNat, by omega⟩
    subst hk
    have hk : k < W.ps.length := by omega
    have e : aliveIn W.wd.runs ((k : Int) + 1) = !(W.ps[k].1.state == 3) := by unfold aliveIn; rw [runsLen, q, getR_ps hk]; rfl
    have e2 : ((k : Int) + 1 - 1).toNat = k := by omega
    rw [e, e2]
    have := iAliveIn W g gr k hk hn hA w h (hs k hk).2.2.2.2.2.1
    by_cases q3 : W.ps[k].1.state = 3
    · simpa [q3] using this
    · simpa [q3] using this
theorem iGone (W : Wm) (g gr : Nat) (id : Int) (hn : W.ps.length ≤ 1000) (hA : W.rA = some ⟨gr, 0, none⟩) (w : World) (h : BoxW w g W) (hs : ∀ k (hk : k < W.ps.length), RunAt w gr (k * 13) W.ps[k].1 W.ps[k].2) :
    Calls Tryz.prog 102 #[.int .i64 id, .pointer (some ⟨g, 0, none⟩)] w fun e w' => e = .returned (.bool (!aliveIn W.wd.runs id)) ∧ w' = w := by
  have HA := Lib.hid (iAlive W g gr id hn hA w h hs)
  unfold aliveP at HA
  clear h hs
  cases q : aliveIn W.wd.runs id with
  | false =>
    rw [q] at HA
    simp only [Bool.false_eq_true, if_false] at HA
    go_enter Tryz.func102, Tryz.ntmps102
    go_wp2_with (go_at_call 75; refine HA.out.mono ?_; rintro e w2 ⟨rfl, rfl⟩)
    go_ret
    exact ⟨rfl, rfl⟩
  | true =>
    rw [q] at HA
    simp only [if_true] at HA
    go_enter Tryz.func102, Tryz.ntmps102
    go_wp2_with (go_at_call 75; refine HA.out.mono ?_; rintro e w2 ⟨rfl, rfl⟩)
    go_ret
    exact ⟨rfl, rfl⟩
theorem idxP_congr' {α : Type} {p q : α → Bool} {l : List α} (h : ∀ x ∈ l, p x = q x) : idxP p l = idxP q l := by
  have e : l.findIdx? p = l.findIdx? q := by
    induction l with
    | nil => rfl
    | cons x l ih => rw [List.findIdx?_cons, List.findIdx?_cons, h x (by simp), ih fun y hy => h y (by simp [hy])]
  unfold idxP
  rw [e]
theorem first_same' {r : Rn} (kind : Int) (h : r.mail.all valOk = true) : idxP (fitsOk · kind) r.mail = idxP (fits · kind) r.mail := by
  refine idxP_congr' fun x hx => ?_
  unfold fitsOk
  rw [List.all_eq_true.1 h x hx, Bool.true_and]
end Go.Proofs.YtomolbhcggaakaaGreat
