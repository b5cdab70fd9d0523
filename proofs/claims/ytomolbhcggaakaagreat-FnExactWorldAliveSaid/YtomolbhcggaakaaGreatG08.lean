/- Parts of the proof, in one text. -/
import Derived.Deep.RegionWith
import Derived.Test.YtomolbhcggaakaaGreatG07
/- When a run is ok, by the reference's text. -/
namespace Go.Proofs.YtomolbhcggaakaaGreat
open Go.RowKit
set_option maxRecDepth 100000

/-- The first eight tests. -/
def early8 (r : Rn) : Prop :=
  inB r.id 1 6 = false ∨ (inB r.id 1 6 = true ∧ inB r.at_ 0 15 = false) ∨ (inB r.id 1 6 = true ∧ inB r.at_ 0 15 = true ∧ ¬ r.slots.length = 4) ∨ (inB r.id 1 6 = true ∧ inB r.at_ 0 15 = true ∧ r.slots.length = 4 ∧ inB r.full 0 15 = false) ∨
    (inB r.id 1 6 = true ∧ inB r.at_ 0 15 = true ∧ r.slots.length = 4 ∧ inB r.full 0 15 = true ∧ ¬ r.mail.length ≤ 12) ∨ (inB r.id 1 6 = true ∧ inB r.at_ 0 15 = true ∧ r.slots.length = 4 ∧ inB r.full 0 15 = true ∧ r.mail.length ≤ 12 ∧ inB r.state 1 3 = false) ∨
    (inB r.id 1 6 = true ∧ inB r.at_ 0 15 = true ∧ r.slots.length = 4 ∧ inB r.full 0 15 = true ∧ r.mail.length ≤ 12 ∧ inB r.state 1 3 = true ∧ inB r.due (-1) 400 = false) ∨
    (inB r.id 1 6 = true ∧ inB r.at_ 0 15 = true ∧ r.slots.length = 4 ∧ inB r.full 0 15 = true ∧ r.mail.length ≤ 12 ∧ inB r.state 1 3 = true ∧ inB r.due (-1) 400 = true ∧ inB r.turns 0 9999 = false)
def pass8 (r : Rn) : Prop := inB r.id 1 6 = true ∧ inB r.at_ 0 15 = true ∧ r.slots.length = 4 ∧ inB r.full 0 15 = true ∧ r.mail.length ≤ 12 ∧ inB r.state 1 3 = true ∧ inB r.due (-1) 400 = true ∧ inB r.turns 0 9999 = true
theorem gate8 (r : Rn) : early8 r ∨ pass8 r := by
  unfold early8 pass8
  cases inB r.id 1 6 <;> cases inB r.at_ 0 15 <;> by_cases h3 : r.slots.length = 4 <;> cases inB r.full 0 15 <;> by_cases h5 : r.mail.length ≤ 12 <;> cases inB r.state 1 3 <;> cases inB r.due (-1) 400 <;> cases inB r.turns 0 9999 <;> simp [h3, h5]
theorem early8_no {r : Rn} (h : early8 r) : runOk r = false := by
  unfold early8 at h
  rcases h with h | h | h | h | h | h | h | h <;> simp [runOk, h]

set_option maxHeartbeats 4000000 in
theorem sRunOk_early (r : Rn) (a : RA) (w : World) (h : early8 r) : Calls Tryz.prog 90 #[.agg (runArr r a)] w fun e w' => e = .returned (.bool (runOk r)) ∧ Below w.heap.size w w' := by
  rw [early8_no h]
  unfold early8 at h
  obtain ⟨id, at_, slots, full, mail, state, due, links, watched, trap, ⟨wk, wn⟩, turns⟩ := r
  obtain ⟨sA, sC, mA, mC, lA, lC, wA, wC⟩ := a
  simp only [runArr] at h ⊢
  generalize slots.length = ns at h ⊢
  generalize mail.length = nm at h ⊢
  rcases h with h | ⟨h1, h⟩ | ⟨h1, h2, h⟩ | ⟨h1, h2, h3, h⟩ | ⟨h1, h2, h3, h4, h⟩ | ⟨h1, h2, h3, h4, h5, h⟩ | ⟨h1, h2, h3, h4, h5, h6, h⟩ | ⟨h1, h2, h3, h4, h5, h6, h7, h⟩
  all_goals
    go_enter Tryz.func90, Tryz.ntmps90
    go_wp2_with (first | (go_at_call 45; refine (sIn _ _ _ _).mono ?_; rintro e w' ⟨rfl, rfl⟩) | (go_at_call 127; refine (sTo _ _).mono ?_; rintro e w' ⟨rfl, rfl⟩))
    go_ret
    exact ⟨rfl, below_box _ _⟩

theorem slotsFrom_cut {f : Int} {l : List Vl} {i : Int} : slotsFrom f i l = true ↔ ∀ k (hk : k < l.length), valOk l[k] = true ∧ (hasBit f (i + k) = true ∨ (l[k] == Vl.zero) = true) := by
  induction l generalizing i with
  | nil => simp [slotsFrom]
  | cons x l ih =>
    simp only [slotsFrom, Bool.and_eq_true, Bool.or_eq_true, ih]
    constructor
    · rintro ⟨⟨h1, h2⟩, h3⟩ k hk
      cases k with
      | zero => exact ⟨h1, by simpa using h2⟩
      | succ k => have := h3 k (by simpa using hk); simpa [Int.add_assoc, Int.add_comm 1] using this
    · intro h
      have h0 := h 0 (by simp)
      refine ⟨⟨h0.1, by simpa using h0.2⟩, fun k hk => ?_⟩
      have := h (k + 1) (by simpa using hk)
      simpa [Int.add_assoc, Int.add_comm 1] using this
theorem allOk_cut {l : List Vl} : allOk l = true ↔ ∀ k (hk : k < l.length), valOk l[k] = true := by
  unfold allOk
  rw [List.all_eq_true]
  constructor
  · intro h k hk
    exact h _ (List.getElem_mem _)
  · intro h x hx
    obtain ⟨k, hk, rfl⟩ := List.getElem_of_mem hx
    exact h k hk

theorem not_n {p : Prop} {b : Bool} {k n : Int} (hb : b = false) (hn : ¬ n = 0) : ¬ (p ∧ (b = true ∨ ((⟨k, n⟩ : Vl) == Vl.zero) = true)) := by
  rintro ⟨_, h | h⟩
  · rw [hb] at h; cases h
  · rw [beq_iff_eq] at h
    exact hn (congrArg Vl.n h)
theorem not_k {p : Prop} {b : Bool} {k n : Int} (hb : b = false) (hn : ¬ k = 0) : ¬ (p ∧ (b = true ∨ ((⟨k, n⟩ : Vl) == Vl.zero) = true)) := by
  rintro ⟨_, h | h⟩
  · rw [hb] at h; cases h
  · rw [beq_iff_eq] at h
    exact hn (congrArg Vl.k h)

theorem sum_nil (a : List Vl) (b c : List Int) : ((a.length : Int) + b.length + c.length == 0) = (true && true && true && (a.isEmpty && b.isEmpty && c.isEmpty)) := by
  cases a <;> cases b <;> cases c <;> simp <;> omega
theorem eq_zero (k n : Int) : (true && true && true && ((⟨k, n⟩ : Vl) == Vl.zero)) = (k == 0 && n == 0) := by
  rw [Bool.eq_iff_iff]
  simp only [Bool.true_and, beq_iff_eq, Bool.and_eq_true]
  exact ⟨fun h => ⟨congrArg Vl.k h, congrArg Vl.n h⟩, fun h => by rw [h.1, h.2]; rfl⟩

set_option maxHeartbeats 4000000 in
theorem sRunOk_pass (r : Rn) (a : RA) (B : Nat) (w : World) (h : pass8 r) (hr : ReadsRun w B r a) (hB : B ≤ w.heap.size) : Calls Tryz.prog 90 #[.agg (runArr r a)] w fun e w' => e = .returned (.bool (runOk r)) ∧ Below w.heap.size w w' := by
  obtain ⟨p1, p2, p3, p4, p5, p6, p7, p8⟩ := h
  have hrk : Hid (∀ b1 b2 b3 b4 b5 b6, slotsFrom r.full 0 r.slots = b1 → allOk r.mail = b2 → idsOk r.links r.id = b3 → idsOk r.watched r.id = b4 → valOk r.why = b5 → (if r.state = 3 then r.mail.isEmpty && r.links.isEmpty && r.watched.isEmpty else r.why == Vl.zero) = b6 → runOk r = (b1 && b2 && b3 && b4 && b5 && b6)) := by
    rintro _ _ _ _ _ _ rfl rfl rfl rfl rfl rfl
    simp [runOk, allOk, p1, p2, p3, p4, p5, p6, p7, p8]
  have hsl := @slotsFrom_cut r.full r.slots 0
  have hml := @allOk_cut r.mail
  obtain ⟨id, at_, slots, full, mail, state, due, links, watched, trap, ⟨wk, wn⟩, turns⟩ := r
  obtain ⟨sA, sC, mA, mC, lA, lC, wA, wC⟩ := a
  simp only at p1 p2 p3 p4 p5 p6 p7 p8 hsl hml
  have HSL := Lib.hid hsl
  have HML := Lib.hid hml
  clear hsl hml
  obtain ⟨b, hb⟩ : ∃ b, b = runOk ⟨id, at_, slots, full, mail, state, due, links, watched, trap, ⟨wk, wn⟩, turns⟩ := ⟨_, rfl⟩
  rw [← hb]
  have HB := Lib.hid hb
  clear hb
  obtain ⟨f0, f15⟩ := inB_iff.1 p4
  simp only [runArr]
  rw [p3]
  have P3 := Lib.hid p3
  clear p3
  go_enter Tryz.func90, Tryz.ntmps90
  go_wp2_with (first
    | ((with_reducible refine gate_dst (N := 1) rfl ?_); refine box_ev ?hg (N := 1) ?hd (cs := #[.int .i64 id, .int .i64 at_, .slice sA 4 sC, .int .i64 full, .slice mA mail.length mC, .int .i64 state, .int .i64 due, .slice lA links.length lC, .slice wA watched.length wC, .bool trap, .int .i64 wk, .int .i64 wn, .int .i64 turns]) (t := 56) ?hr ?_; (case hd => rfl); (case hg => rfl); (case hr => first | (go_simp; done) | (go_simp; rfl)); intro g w1 hg hbox hW; obtain ⟨hgl, hcell⟩ := hbox)
    | (go_at_call 45; refine (sIn _ _ _ _).mono ?_; rintro e w' ⟨rfl, rfl⟩) | (go_at_call 127; refine (sTo _ _).mono ?_; rintro e w' ⟨rfl, rfl⟩))
  go_loopg [3] 4 (fun gg s3 wr => ∃ k : Nat, k ≤ 4 ∧ 4 - k ≤ gg ∧ s3 = .int .i64 k ∧ Hid (Below w1.heap.size w1 wr) ∧ Hid (∀ j (hj : j < slots.length), j < k → valOk slots[j] = true ∧ (hasBit full (0 + j) = true ∨ (slots[j] == Vl.zero) = true)))
  case atStart => exact ⟨0, Nat.zero_le _, by omega, rfl, Below.refl _ _, fun j _ h => absurd h (by omega)⟩
  case round =>
    obtain ⟨k, hk, hgg, rfl, BW, hn⟩ := hrel
    have hcell1 := keepB BW.out hgl hcell
    have hgr : g < wr.heap.size := Nat.lt_of_lt_of_le hgl BW.out.size
    have hr1 := (hr.below hW hB).below BW.out (Nat.le_trans hB hW.size)
    have hs1 := Lib.hid hr1.slots
    have hr1' := Lib.hid hr1
    clear hr1
    by_cases hlt : k < 4
    · have hlt' : k < slots.length := by rw [P3.out]; exact hlt
      obtain ⟨ad, rfl, hab, hc1, hc2⟩ := hs1.out.val hlt'
      have har : (ad.add (k * 2)).block < wr.heap.size := by rw [block_of_add]; have := hW.size; have := BW.out.size; omega
      have hx : Hid (∀ b, ¬ (valOk slots[k] = true ∧ (hasBit full (0 + (k : Int)) = true ∨ (slots[k] == Vl.zero) = true)) → b = runOk ⟨id, at_, slots, full, mail, state, due, links, watched, trap, ⟨wk, wn⟩, turns⟩ → false = b) := by
        intro b h1 hb
        rw [hb, hrk.out _ _ _ _ _ _ rfl rfl rfl rfl rfl rfl]
        cases hq : slotsFrom full 0 slots with
        | false => rfl
        | true => exact absurd (HSL.out.1 hq k hlt') h1
      have hl2 : Hid (valOk slots[k] = true ∧ (hasBit full (0 + (k : Int)) = true ∨ (slots[k] == Vl.zero) = true) → ∀ j (hj : j < slots.length), j < k + 1 → valOk slots[j] = true ∧ (hasBit full (0 + (j : Int)) = true ∨ (slots[j] == Vl.zero) = true)) := fun h1 j hj hjk => by
        by_cases e : j = k
        · subst e; exact h1
        · exact hn j hj (by omega)
      rw [Int.zero_add] at hx hl2
      generalize slots[k] = x at hc1 hc2 hx hl2
      obtain ⟨xk, xn⟩ := x
      have hbit := Lib.hid (sHas full k f0 f15 (inB_iff.2 ⟨by omega, by omega⟩))
      cases h1 : valOk ⟨xk, xn⟩ with
      | false =>
        have hz := Lib.hid (hx.out b (by simp [h1]) HB.out)
        go_wp2_with (first | (go_at_call 39; refine (sValOk ⟨xk, xn⟩ _).mono ?_; rintro e w' ⟨rfl, hb1⟩))
        go_ret
        exact ⟨ret_bool hz.out, below_step (below_step hW BW.out) hb1⟩
      | true =>
        cases h2 : hasBit full k with
        | true =>
          have hz := Lib.hid (hl2.out (by simp [h1, h2]))
          go_wp2_with (first | (go_at_call 39; refine (sValOk ⟨xk, xn⟩ _).mono ?_; rintro e w' ⟨rfl, hb1⟩; have hcell2 := keepB hb1 hgr hcell1; obtain ⟨hd1, hd2⟩ := keep2 hb1 har hc1 hc2) | (go_at_call 88; refine (hbit.out _).mono ?_; rintro e w' ⟨rfl, hb2⟩))
          go_roundg (4 - (k + 1))
          case measure => omega
          case rel => exact ⟨k + 1, by omega, by omega, by go_num, below_step (below_step BW.out hb1) hb2, hz.out⟩
        | false =>
          go_wp2_with (first | (go_at_call 39; refine (sValOk ⟨xk, xn⟩ _).mono ?_; rintro e w' ⟨rfl, hb1⟩; have hcell2 := keepB hb1 hgr hcell1; obtain ⟨hd1, hd2⟩ := keep2 hb1 har hc1 hc2) | (go_at_call 88; refine (hbit.out _).mono ?_; rintro e w' ⟨rfl, hb2⟩; have hcell3 := keepB hb2 (Nat.lt_of_lt_of_le hgr hb1.size) hcell2; obtain ⟨he1, he2⟩ := keep2 hb2 (Nat.lt_of_lt_of_le har hb1.size) hd1 hd2))
          · have e1 : xk = 0 := by assumption
            have e2 : xn = 0 := by assumption
            have hz := Lib.hid (hl2.out ⟨h1, .inr (by rw [e1, e2]; rfl)⟩)
            clear e1 e2
            go_roundg (4 - (k + 1))
            case measure => omega
            case rel => exact ⟨k + 1, by omega, by omega, by go_num, below_step (below_step BW.out hb1) hb2, hz.out⟩
          · have e2 : ¬ xn = 0 := by assumption
            have hz := Lib.hid (hx.out b (not_n h2 e2) HB.out)
            go_ret
            exact ⟨ret_bool hz.out, below_step (below_step (below_step hW BW.out) hb1) hb2⟩
          · have e1 : ¬ xk = 0 := by assumption
            have hz := Lib.hid (hx.out b (not_k h2 e1) HB.out)
            go_ret
            exact ⟨ret_bool hz.out, below_step (below_step (below_step hW BW.out) hb1) hb2⟩
    · have hk4 : k = 4 := by omega
      subst hk4
      have hsf : Hid (slotsFrom full 0 slots = true) := HSL.out.2 (fun j hj => hn.out j hj (by have := P3.out; omega))
      clear hn hgg hk hlt
      obtain ⟨w2, rfl⟩ : ∃ w2 : World, w2 = wr := ⟨_, rfl⟩
      have hW2 := Lib.hid (below_step hW BW.out)
      clear BW hcell hW hgl hs1 hr
      go_wp2
      go_loopg [4] mail.length (fun gg s4 wr => ∃ k : Nat, k ≤ mail.length ∧ mail.length - k ≤ gg ∧ s4 = .int .i64 k ∧ Hid (Below w2.heap.size w2 wr) ∧ Hid (∀ j (hj : j < mail.length), j < k → valOk mail[j] = true))
      case atStart => exact ⟨0, Nat.zero_le _, by omega, rfl, Below.refl _ _, fun j _ h => absurd h (by omega)⟩
      case round =>
        obtain ⟨k, hk, hgg, rfl, BW, hn⟩ := hrel
        have hcell2 := keepB BW.out hgr hcell1
        have hgr2 : g < wr.heap.size := Nat.lt_of_lt_of_le hgr BW.out.size
        have hr2 := Lib.hid (hr1'.out.below BW.out (Nat.le_trans hB hW2.out.size))
        by_cases hlt : k < mail.length
        · obtain ⟨ad, rfl, hab, hc1, hc2⟩ := hr2.out.mail.val hlt
          have har : (ad.add (k * 2)).block < wr.heap.size := by rw [block_of_add]; have := hW2.out.size; have := BW.out.size; omega
          have hx : Hid (∀ b, ¬ (valOk mail[k] = true) → b = runOk ⟨id, at_, slots, full, mail, state, due, links, watched, trap, ⟨wk, wn⟩, turns⟩ → false = b) := by
            intro b h1 hb
            rw [hb, hrk.out _ _ _ _ _ _ rfl rfl rfl rfl rfl rfl]
            cases hq : allOk mail with
            | false => simp
            | true => exact absurd (HML.out.1 hq k hlt) h1
          have hl2 : Hid (valOk mail[k] = true → ∀ j (hj : j < mail.length), j < k + 1 → valOk mail[j] = true) := fun h1 j hj hjk => by
            by_cases e : j = k
            · subst e; exact h1
            · exact hn j hj (by omega)
          generalize mail[k] = x at hc1 hc2 hx hl2
          obtain ⟨xk, xn⟩ := x
          cases h1 : valOk ⟨xk, xn⟩ with
          | false =>
            have hz := Lib.hid (hx.out b (by simp [h1]) HB.out)
            go_wp2_with (first | (go_at_call 39; refine (sValOk ⟨xk, xn⟩ _).mono ?_; rintro e w' ⟨rfl, hb1⟩))
            go_ret
            exact ⟨ret_bool hz.out, below_step (below_step hW2.out BW.out) hb1⟩
          | true =>
            have hz := Lib.hid (hl2.out h1)
            go_wp2_with (first | (go_at_call 39; refine (sValOk ⟨xk, xn⟩ _).mono ?_; rintro e w' ⟨rfl, hb1⟩))
            go_roundg (mail.length - (k + 1))
            case measure => omega
            case rel => exact ⟨k + 1, by omega, by omega, by go_num, below_step BW.out hb1, hz.out⟩
        · have hkm : k = mail.length := by omega
          have hmf : Hid (allOk mail = true) := HML.out.2 (fun j hj => hn.out j hj (by omega))
          clear hn hgg hk
          have hW3 := Lib.hid (below_step hW2.out BW.out)
          obtain ⟨w3, rfl⟩ : ∃ w3 : World, w3 = wr := ⟨_, rfl⟩
          have hI1 := Lib.hid (fun W (hb : Below w3.heap.size w3 W) => sIds links id lA lC B W (hr2.out.links.below' hb (Nat.le_trans hB hW3.out.size)) hr2.out.lC (Nat.le_trans hB (Nat.le_trans hW3.out.size hb.size)))
          have hI2 := Lib.hid (fun W (hb : Below w3.heap.size w3 W) => sIds watched id wA wC B W (hr2.out.watched.below' hb (Nat.le_trans hB hW3.out.size)) hr2.out.wC (Nat.le_trans hB (Nat.le_trans hW3.out.size hb.size)))
          have hend : Hid (∀ b3 b4 b5 b6, idsOk links id = b3 → idsOk watched id = b4 → valOk ⟨wk, wn⟩ = b5 → (if state = 3 then mail.isEmpty && links.isEmpty && watched.isEmpty else (⟨wk, wn⟩ : Vl) == Vl.zero) = b6 → (b3 && b4 && b5 && b6) = b) := by
            intro b3 b4 b5 b6 e3 e4 e5 e6
            rw [HB.out, hrk.out _ _ _ _ _ _ hsf.out hmf.out e3 e4 e5 e6]
            simp
          clear hr1' hcell1 hgr BW
          generalize idsOk links id = b3 at hI1 hend
          generalize idsOk watched id = b4 at hI2 hend
          have hV := Lib.hid (fun W => sValOk ⟨wk, wn⟩ W)
          obtain ⟨b5, hb5⟩ : ∃ b5, b5 = valOk ⟨wk, wn⟩ := ⟨_, rfl⟩
          rw [← hb5] at hV hend
          clear hb5
          cases b3 with
          | false =>
            go_wp2_with (first | (go_at_call 46; refine (hI1.out _ (Below.refl _ _)).mono ?_; rintro e w' ⟨rfl, hb1⟩; have hcell3 := keepB hb1 hgr2 hcell2))
            go_ret
            exact ⟨ret_bool (hend.out _ _ _ _ rfl rfl rfl rfl), below_step hW3.out hb1⟩
          | true =>
            cases b4 with
            | false =>
              go_wp2_with (first | (go_at_call_of 46 (Value.slice lA links.length lC); refine (hI1.out _ (Below.refl _ _)).mono ?_; rintro e w' ⟨rfl, hb1⟩; have hcell3 := keepB hb1 hgr2 hcell2) | (go_at_call_of 46 (Value.slice wA watched.length wC); refine (hI2.out _ hb1).mono ?_; rintro e w' ⟨rfl, hb2⟩; have hcell4 := keepB hb2 (Nat.lt_of_lt_of_le hgr2 hb1.size) hcell3))
              go_ret
              exact ⟨ret_bool (hend.out _ _ _ _ rfl rfl rfl rfl), below_step (below_step hW3.out hb1) hb2⟩
            | true =>
              cases b5 with
              | false =>
                go_wp2_with (first | (go_at_call_of 46 (Value.slice lA links.length lC); refine (hI1.out _ (Below.refl _ _)).mono ?_; rintro e w' ⟨rfl, hb1⟩; have hcell3 := keepB hb1 hgr2 hcell2) | (go_at_call_of 46 (Value.slice wA watched.length wC); refine (hI2.out _ hb1).mono ?_; rintro e w' ⟨rfl, hb2⟩; have hcell4 := keepB hb2 (Nat.lt_of_lt_of_le hgr2 hb1.size) hcell3) | (go_at_call 39; refine (hV.out _).mono ?_; rintro e w' ⟨rfl, hb3⟩; have hcell5 := keepB hb3 (Nat.lt_of_lt_of_le (Nat.lt_of_lt_of_le hgr2 hb1.size) hb2.size) hcell4))
                go_ret
                exact ⟨ret_bool (hend.out _ _ _ _ rfl rfl rfl rfl), below_step (below_step (below_step hW3.out hb1) hb2) hb3⟩
              | true =>
                by_cases hst : state = 3
                · have hz := Lib.hid (hend.out _ _ _ _ rfl rfl rfl rfl)
                  rw [if_pos hst] at hz
                  subst hst
                  have hll := hr2.out.links.2.1
                  have hwl := hr2.out.watched.2.1
                  go_wp2_with (first | (go_at_call_of 46 (Value.slice lA links.length lC); refine (hI1.out _ (Below.refl _ _)).mono ?_; rintro e w' ⟨rfl, hb1⟩; have hcell3 := keepB hb1 hgr2 hcell2) | (go_at_call_of 46 (Value.slice wA watched.length wC); refine (hI2.out _ hb1).mono ?_; rintro e w' ⟨rfl, hb2⟩; have hcell4 := keepB hb2 (Nat.lt_of_lt_of_le hgr2 hb1.size) hcell3) | (go_at_call 39; refine (hV.out _).mono ?_; rintro e w' ⟨rfl, hb3⟩; have hcell5 := keepB hb3 (Nat.lt_of_lt_of_le (Nat.lt_of_lt_of_le hgr2 hb1.size) hb2.size) hcell4))
                  go_ret
                  exact ⟨ret_bool (by rw [← hz.out]; exact sum_nil _ _ _), below_step (below_step (below_step hW3.out hb1) hb2) hb3⟩
                · have hz := Lib.hid (hend.out _ _ _ _ rfl rfl rfl rfl)
                  rw [if_neg hst] at hz
                  go_wp2_with (first | (go_at_call_of 46 (Value.slice lA links.length lC); refine (hI1.out _ (Below.refl _ _)).mono ?_; rintro e w' ⟨rfl, hb1⟩; have hcell3 := keepB hb1 hgr2 hcell2) | (go_at_call_of 46 (Value.slice wA watched.length wC); refine (hI2.out _ hb1).mono ?_; rintro e w' ⟨rfl, hb2⟩; have hcell4 := keepB hb2 (Nat.lt_of_lt_of_le hgr2 hb1.size) hcell3) | (go_at_call 39; refine (hV.out _).mono ?_; rintro e w' ⟨rfl, hb3⟩; have hcell5 := keepB hb3 (Nat.lt_of_lt_of_le (Nat.lt_of_lt_of_le hgr2 hb1.size) hb2.size) hcell4))
                  · have e1 : wk = 0 := by assumption
                    have e2 : wn = 0 := by assumption
                    go_ret
                    exact ⟨ret_bool (by rw [← hz.out, eq_zero, e1, e2]; rfl), below_step (below_step (below_step hW3.out hb1) hb2) hb3⟩
                  · have e2 : ¬ wn = 0 := by assumption
                    go_ret
                    exact ⟨ret_bool (by rw [← hz.out, eq_zero, beq_false_of_ne e2, Bool.and_false]), below_step (below_step (below_step hW3.out hb1) hb2) hb3⟩
                  · have e1 : ¬ wk = 0 := by assumption
                    go_ret
                    exact ⟨ret_bool (by rw [← hz.out, eq_zero, beq_false_of_ne e1, Bool.false_and]), below_step (below_step (below_step hW3.out hb1) hb2) hb3⟩
theorem sRunOk (r : Rn) (a : RA) (B : Nat) (w : World) (hr : ReadsRun w B r a) (hB : B ≤ w.heap.size) : Calls Tryz.prog 90 #[.agg (runArr r a)] w fun e w' => e = .returned (.bool (runOk r)) ∧ Below w.heap.size w w' :=
  (gate8 r).elim (sRunOk_early r a w) (fun h => sRunOk_pass r a B w h hr hB)
end Go.Proofs.YtomolbhcggaakaaGreat
/- The laws' own size and comparison of runs. -/
namespace Go.Proofs.YtomolbhcggaakaaGreat
open Go.RowKit
set_option maxRecDepth 100000

/-- How many elements a run's lists have. -/
def sizeR (r : Rn) : Int := r.slots.length + r.mail.length + r.links.length + r.watched.length
/-- What szRun answers. -/
def szR (left : Int) (r : Rn) : Int := if left - r.slots.length < 0 then -1 else if left - r.slots.length - r.mail.length < 0 then -1 else if left - r.slots.length - r.mail.length - r.links.length < 0 then -1 else if left - r.slots.length - r.mail.length - r.links.length - r.watched.length < 0 then -1 else left - r.slots.length - r.mail.length - r.links.length - r.watched.length
theorem szR_size {left : Int} {r : Rn} (h : ¬ szR left r < 0) : sizeR r ≤ left := by
  unfold szR at h
  unfold sizeR
  repeat (split at h; · exact absurd (by decide) h)
  omega
def SzPost (left : Int) (r : Rn) (w : World) (e : Ending) (w' : World) : Prop := e = .returned (.int .i64 (szR left r)) ∧ Below w.heap.size w w'
set_option maxHeartbeats 2000000 in
theorem lSzRun (r : Rn) (a : RA) (left : Int) (w : World) (h0 : 0 ≤ left) (hl : left ≤ 1048576) (n1 : r.slots.length ≤ 140737488355328) (n2 : r.mail.length ≤ 140737488355328) (n3 : r.links.length ≤ 140737488355328) (n4 : r.watched.length ≤ 140737488355328) :
    Calls Tryz.prog 85 #[.agg (runArr r a), .int .i64 left] w (SzPost left r w) := by
  obtain ⟨id, at_, slots, full, mail, state, due, links, watched, trap, ⟨wk, wn⟩, turns⟩ := r
  obtain ⟨sA, sC, mA, mC, lA, lC, wA, wC⟩ := a
  simp only at n1 n2 n3 n4
  simp only [runArr]
  have S1 := Lib.hid (fun W => lSzValS slots left sA sC W n1 h0 hl)
  by_cases c1 : left - slots.length < 0
  · have fin : Hid (∀ W, Below w.heap.size w W → SzPost left ⟨id, at_, slots, full, mail, state, due, links, watched, trap, ⟨wk, wn⟩, turns⟩ w (.returned (.int .i64 (-1))) W) := fun W hW => ⟨by unfold szR; simp only; rw [if_pos c1], hW⟩
    rw [if_pos c1] at S1
    go_enter Tryz.func85, Tryz.ntmps85
    go_wp2_with (first | (go_at_call_of 120 (Value.slice sA slots.length sC); refine (S1.out _).mono ?_; rintro e w' ⟨rfl, rfl⟩))
    go_ret
    exact fin.out _ (below_box _ _)
  rw [if_neg c1] at S1
  have S2 := Lib.hid (fun W => lSzValS mail (left - slots.length) mA mC W n2 (by omega) (by omega))
  by_cases c2 : left - slots.length - mail.length < 0
  · have fin : Hid (∀ W, Below w.heap.size w W → SzPost left ⟨id, at_, slots, full, mail, state, due, links, watched, trap, ⟨wk, wn⟩, turns⟩ w (.returned (.int .i64 (-1))) W) := fun W hW => ⟨by unfold szR; simp only; rw [if_neg c1, if_pos c2], hW⟩
    rw [if_pos c2] at S2
    go_enter Tryz.func85, Tryz.ntmps85
    go_wp2_with (first | (go_at_call_of 120 (Value.slice sA slots.length sC); refine (S1.out _).mono ?_; rintro e w' ⟨rfl, rfl⟩) | (go_at_call_of 120 (Value.slice mA mail.length mC); refine (S2.out _).mono ?_; rintro e w' ⟨rfl, rfl⟩))
    go_ret
    exact fin.out _ (below_box _ _)
  rw [if_neg c2] at S2
  have S3 := Lib.hid (fun W => lSzIntS links (left - slots.length - mail.length) lA lC W n3 (by omega) (by omega))
  by_cases c3 : left - slots.length - mail.length - links.length < 0
  · have fin : Hid (∀ W, Below w.heap.size w W → SzPost left ⟨id, at_, slots, full, mail, state, due, links, watched, trap, ⟨wk, wn⟩, turns⟩ w (.returned (.int .i64 (-1))) W) := fun W hW => ⟨by unfold szR; simp only; rw [if_neg c1, if_neg c2, if_pos c3], hW⟩
    rw [if_pos c3] at S3
    go_enter Tryz.func85, Tryz.ntmps85
    go_wp2_with (first | (go_at_call_of 120 (Value.slice sA slots.length sC); refine (S1.out _).mono ?_; rintro e w' ⟨rfl, rfl⟩) | (go_at_call_of 120 (Value.slice mA mail.length mC); refine (S2.out _).mono ?_; rintro e w' ⟨rfl, rfl⟩) | (go_at_call_of 43 (Value.slice lA links.length lC); refine (S3.out _).mono ?_; rintro e w' ⟨rfl, rfl⟩))
    go_ret
    exact fin.out _ (below_box _ _)
  rw [if_neg c3] at S3
  have S4 := Lib.hid (fun W => lSzIntS watched (left - slots.length - mail.length - links.length) wA wC W n4 (by omega) (by omega))
  by_cases c4 : left - slots.length - mail.length - links.length - watched.length < 0
  · have fin : Hid (∀ W, Below w.heap.size w W → SzPost left ⟨id, at_, slots, full, mail, state, due, links, watched, trap, ⟨wk, wn⟩, turns⟩ w (.returned (.int .i64 (-1))) W) := fun W hW => ⟨by unfold szR; simp only; rw [if_neg c1, if_neg c2, if_neg c3, if_pos c4], hW⟩
    rw [if_pos c4] at S4
    go_enter Tryz.func85, Tryz.ntmps85
    go_wp2_with (first | (go_at_call_of 120 (Value.slice sA slots.length sC); refine (S1.out _).mono ?_; rintro e w' ⟨rfl, rfl⟩) | (go_at_call_of 120 (Value.slice mA mail.length mC); refine (S2.out _).mono ?_; rintro e w' ⟨rfl, rfl⟩) | (go_at_call_of 43 (Value.slice lA links.length lC); refine (S3.out _).mono ?_; rintro e w' ⟨rfl, rfl⟩) | (go_at_call_of 43 (Value.slice wA watched.length wC); refine (S4.out _).mono ?_; rintro e w' ⟨rfl, rfl⟩))
    go_ret
    exact fin.out _ (below_box _ _)
  rw [if_neg c4] at S4
  have fin : Hid (∀ W, Below w.heap.size w W → SzPost left ⟨id, at_, slots, full, mail, state, due, links, watched, trap, ⟨wk, wn⟩, turns⟩ w (.returned (.int .i64 (left - slots.length - mail.length - links.length - watched.length))) W) := fun W hW => ⟨by unfold szR; simp only; rw [if_neg c1, if_neg c2, if_neg c3, if_neg c4], hW⟩
  go_enter Tryz.func85, Tryz.ntmps85
  go_wp2_with (first | (go_at_call_of 120 (Value.slice sA slots.length sC); refine (S1.out _).mono ?_; rintro e w' ⟨rfl, rfl⟩) | (go_at_call_of 120 (Value.slice mA mail.length mC); refine (S2.out _).mono ?_; rintro e w' ⟨rfl, rfl⟩) | (go_at_call_of 43 (Value.slice lA links.length lC); refine (S3.out _).mono ?_; rintro e w' ⟨rfl, rfl⟩) | (go_at_call_of 43 (Value.slice wA watched.length wC); refine (S4.out _).mono ?_; rintro e w' ⟨rfl, rfl⟩))
  go_ret
  exact fin.out _ (below_box _ _)

set_option maxHeartbeats 2000000 in
theorem lEqRun (r : Rn) (a b : RA) (B : Nat) (w : World) (hr : ReadsRun w B r a) (hr' : ReadsRun w B r b) (hB : B ≤ w.heap.size) :
    Calls Tryz.prog 105 #[.agg (runArr r a), .agg (runArr r b)] w fun e w' => e = .returned (.bool true) ∧ Below w.heap.size w w' := by
  obtain ⟨id, at_, slots, full, mail, state, due, links, watched, trap, ⟨wk, wn⟩, turns⟩ := r
  obtain ⟨sA, sC, mA, mC, lA, lC, wA, wC⟩ := a
  obtain ⟨sA', sC', mA', mC', lA', lC', wA', wC'⟩ := b
  have H1 := Lib.hid (fun W (hbb : Below w.heap.size w W) => lEqValS slots sA sA' sC sC' B W (hr.slots.below' hbb hB) (hr'.slots.below' hbb hB) (Nat.le_trans hB hbb.size))
  have H2 := Lib.hid (fun W (hbb : Below w.heap.size w W) => lEqValS mail mA mA' mC mC' B W (hr.mail.below' hbb hB) (hr'.mail.below' hbb hB) (Nat.le_trans hB hbb.size))
  have H3 := Lib.hid (fun W (hbb : Below w.heap.size w W) => lEqIntS links lA lA' lC lC' B W (hr.links.below' hbb hB) (hr'.links.below' hbb hB) (Nat.le_trans hB hbb.size))
  have H4 := Lib.hid (fun W (hbb : Below w.heap.size w W) => lEqIntS watched wA wA' wC wC' B W (hr.watched.below' hbb hB) (hr'.watched.below' hbb hB) (Nat.le_trans hB hbb.size))
  clear hr hr'
  simp only [runArr]
  go_enter Tryz.func105, Tryz.ntmps105
  go_wp2_with (first
    | (go_at_call_of 144 (Value.slice sA slots.length sC); refine (H1.out _ ?p1).mono ?_; (case p1 => repeat (first | (with_reducible apply below_new) | (with_reducible exact Below.refl _ _))); rintro e w1 ⟨rfl, hb1⟩; have B1 : Below w.heap.size w w1 := (below_step (by repeat (first | (with_reducible apply below_new) | (with_reducible exact Below.refl _ _))) hb1); obtain ⟨hc1, hf1⟩ := bcell hb1)
    | (go_at_call_of 144 (Value.slice mA mail.length mC); refine (H2.out _ B1).mono ?_; rintro e w2 ⟨rfl, hb2⟩; have B2 := below_step B1 hb2; have hx1 : w.heap.size < w1.heap.size := (by have := hb1.size; simp at this; omega); have hy1 : w.heap.size + 1 < w1.heap.size := (by have := hb1.size; simp at this; omega); obtain ⟨hc2, hf2⟩ := bcell hb2)
    | (go_at_call_of 23 (Value.slice lA links.length lC); refine (H3.out _ B2).mono ?_; rintro e w3 ⟨rfl, hb3⟩; have B3 := below_step B2 hb3; have hx2 : w.heap.size < w2.heap.size := (by have := hb2.size; omega); have hy2 : w.heap.size + 1 < w2.heap.size := (by have := hb2.size; omega); obtain ⟨hc3, hf3⟩ := bcell hb3)
    | (go_at_call_of 23 (Value.slice wA watched.length wC); refine (H4.out _ B3).mono ?_; rintro e w4 ⟨rfl, hb4⟩; have B4 := below_step B3 hb4; have hx3 : w.heap.size < w3.heap.size := (by have := hb3.size; omega); have hy3 : w.heap.size + 1 < w3.heap.size := (by have := hb3.size; omega); obtain ⟨hc4, hf4⟩ := bcell hb4)
    | (go_at_call 143; refine (lEqVal ⟨wk, wn⟩ _).mono ?_; rintro e w5 ⟨rfl, hb5⟩; have B5 := below_step B4 hb5; have hx4 : w.heap.size < w4.heap.size := (by have := hb4.size; omega); have hy4 : w.heap.size + 1 < w4.heap.size := (by have := hb4.size; omega); obtain ⟨hc5, hf5⟩ := bcell hb5))
  go_ways
  go_ret
  exact ⟨rfl, B5⟩
end Go.Proofs.YtomolbhcggaakaaGreat
