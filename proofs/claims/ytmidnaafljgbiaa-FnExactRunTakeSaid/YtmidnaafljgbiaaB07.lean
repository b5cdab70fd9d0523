/- Parts of the proof, in one text. -/
import Derived.Deep.RegionWith
import Derived.Deep.LoopGhost
import Derived.Test.YtmidnaafljgbiaaB06
/- Values and numbers of runs, looked at by both texts. -/
namespace Go.Proofs.Ytmidnaafljgbiaa
open Go.RowKit
set_option maxRecDepth 100000

theorem iValOk (v : Vl) (w : World) : Calls Try.prog 79 #[.agg #[.int .i64 v.k, .int .i64 v.n]] w fun e w' => e = .returned (.bool (valOk v)) ∧ Below w.heap.size w w' := by
  obtain ⟨k, n⟩ := v
  by_cases h0 : k = 0
  · subst h0
    go_enter Try.func79, Try.ntmps79
    go_wp2
    go_ret
    exact ⟨rfl, below_box _ _⟩
  by_cases h1 : k = 1
  · subst h1
    go_enter Try.func79, Try.ntmps79
    go_wp2_with (go_at_call 75; refine (iIn _ _ _ _).mono ?_; rintro e w' ⟨rfl, rfl⟩)
    go_ret
    exact ⟨rfl, below_box _ _⟩
  by_cases h2 : k = 2
  · subst h2
    go_enter Try.func79, Try.ntmps79
    go_wp2_with (go_at_call 75; refine (iIn _ _ _ _).mono ?_; rintro e w' ⟨rfl, rfl⟩)
    go_ret
    exact ⟨rfl, below_box _ _⟩
  by_cases h3 : k = 3
  · subst h3
    go_enter Try.func79, Try.ntmps79
    go_wp2_with (go_at_call 75; refine (iIn _ _ _ _).mono ?_; rintro e w' ⟨rfl, rfl⟩)
    go_ret
    exact ⟨rfl, below_box _ _⟩
  rw [valOk_else h0 h1 h2 h3]
  go_enter Try.func79, Try.ntmps79
  go_wp2
  go_ret
  exact ⟨rfl, below_box _ _⟩

theorem iValsOk1 (v : Vl) (w : World) : Calls Try.prog 105 #[.agg #[.int .i64 v.k, .int .i64 v.n]] w fun e w' => e = .returned (.bool (!valOk v)) ∧ Below w.heap.size w w' := by
  obtain ⟨k, n⟩ := v
  go_enter Try.func105, Try.ntmps105
  go_wp2_with (go_at_call 79; refine (iValOk ⟨k, n⟩ _).mono ?_; rintro e w' ⟨rfl, hb⟩)
  go_ret
  exact ⟨rfl, below_step (below_box _ _) hb⟩
theorem iContainsFunc (p : Vl → Bool) (g : Nat) (lb : Array Value) (eg : ∀ args w, (callFunc g args).run Try.prog w = .ok (.enter g args) w) (l : List Vl) (A : Option Addr) (c B : Nat) (w : World) (h : ReadsV w B A l.length l) (hB : B ≤ w.heap.size) (hp : PredV g lb p w) :
    Calls Try.prog 104 #[.slice A l.length c, .func (.func g) #[] lb] w fun e w' => e = .returned (.bool (l.any p)) ∧ Below w.heap.size w w' := by
  have e := idxP_any p l
  rw [← e]
  clear e
  go_enter Try.func104, Try.ntmps104
  go_wp2_with (go_at_call 110; refine (iIndexFunc p g lb eg l A c B _ h hB hp).mono ?_; rintro e w' ⟨rfl, hb⟩)
  go_ret
  exact ⟨rfl, hb⟩
theorem any_not (l : List Vl) : l.any (fun v => !valOk v) = !l.all valOk := by
  rw [List.all_eq_not_any_not, Bool.not_not]
/-- Are all values ok? -/
def allOk (l : List Vl) : Bool := l.all valOk
theorem iValsOk (l : List Vl) (A : Option Addr) (c B : Nat) (w : World) (h : ReadsV w B A l.length l) (hB : B ≤ w.heap.size) :
    Calls Try.prog 77 #[.slice A l.length c] w fun e w' => e = .returned (.bool (allOk l)) ∧ Below w.heap.size w w' := by
  have eg := enters_of Try.func105 (by kernel_rfl) rfl
  have hp : PredV 105 #[] (fun v => !valOk v) w := fun W x hb => (iValsOk1 x W).mono fun e w' ⟨h1, h2⟩ => ⟨h1, hb.trans (h2.mono hb.size)⟩
  have hC := Lib.hid (iContainsFunc _ _ _ eg l A c B w h hB hp)
  rw [any_not] at hC
  unfold allOk
  clear eg hp
  generalize l.all valOk = b at hC
  go_enter Try.func77, Try.ntmps77
  go_wp2_with (go_at_call 104; refine hC.out.mono ?_; rintro e w' ⟨rfl, hb⟩)
  go_ret
  exact ⟨ret_bool (by simp), hb⟩

/-! ### Numbers of other runs -/
theorem idsFrom_cut {own : Int} {l pre : List Int} : idsFrom own pre l = true ↔ ∀ k (hk : k < l.length), inB l[k] 1 6 = true ∧ (l[k] == own) = false ∧ inL (pre ++ l.take k) l[k] = false := by
  induction l generalizing pre with
  | nil => simp [idsFrom]
  | cons x l ih =>
    simp only [idsFrom, Bool.and_eq_true, ih, Bool.not_eq_true']
    constructor
    · rintro ⟨⟨⟨h1, h2⟩, h3⟩, h4⟩ k hk
      cases k with
      | zero => exact ⟨h1, h2, by simpa [inL] using h3⟩
      | succ k => have := h4 k (by simpa using hk); simpa [List.append_assoc] using this
    · intro h
      have h0 := h 0 (by simp)
      refine ⟨⟨⟨h0.1, h0.2.1⟩, by simpa [inL] using h0.2.2⟩, fun k hk => ?_⟩
      have := h (k + 1) (by simpa using hk)
      simpa [List.append_assoc] using this
theorem idsOk_cut {own : Int} {l : List Int} : idsOk l own = true ↔ ∀ k (hk : k < l.length), inB l[k] 1 6 = true ∧ (l[k] == own) = false ∧ inL (l.take k) l[k] = false := by
  unfold idsOk
  rw [idsFrom_cut]
  simp

set_option maxHeartbeats 1000000 in
theorem iOthers (l : List Int) (own : Int) (A : Option Addr) (c B : Nat) (w : World) (h : ReadsI w B A l.length l) (hc : l.length ≤ c) :
    Calls Try.prog 78 #[.slice A l.length c, .int .i64 own] w fun e w' => e = .returned (.bool (idsOk l own)) ∧ w = w' := by
  have hm := h.2.1
  go_enter Try.func78, Try.ntmps78
  go_wp2
  go_loop [5, 6, 9] (fun _ _ i => ∃ k : Nat, k ≤ l.length ∧ i = .int .i64 k ∧ Hid (∀ j (hj : j < l.length), j < k → inB l[j] 1 6 = true ∧ (l[j] == own) = false ∧ inL (l.take j) l[j] = false)) (fun _ _ i => l.length - (intOf i).toNat)
  case atStart => exact ⟨0, Nat.zero_le _, rfl, fun j _ h => absurd h (by omega)⟩
  case round =>
    obtain ⟨k, hk, rfl, hn⟩ := hrel
    by_cases hlt : k < l.length
    · obtain ⟨ad, rfl, _, hce⟩ := h.int hlt
      have ht := h.take encI_length hk
      have htl : (l.take k).length = k := by rw [List.length_take]; omega
      have hl2 : Hid (inB l[k] 1 6 = true → (l[k] == own) = false → inL (l.take k) l[k] = false → ∀ j (hj : j < l.length), j < k + 1 → inB l[j] 1 6 = true ∧ (l[j] == own) = false ∧ inL (l.take j) l[j] = false) := fun h1 h2 h3 j hj hjk => by
        by_cases e : j = k
        · subst e; exact ⟨h1, h2, h3⟩
        · exact hn j hj (by omega)
      have hno : Hid (¬ (inB l[k] 1 6 = true ∧ (l[k] == own) = false ∧ inL (l.take k) l[k] = false) → idsOk l own = false) := fun hh => by
        cases he : idsOk l own with
        | false => rfl
        | true => exact absurd (idsOk_cut.1 he k hlt) hh
      have hcall := fun (x : Int) => iContains (l.take k) x (some ad) c B w (by rw [htl]; exact ht)
      rw [htl] at hcall
      have HC := Lib.hid hcall
      clear hcall ht htl
      generalize l[k] = x at hce hl2 hno
      generalize l.take k = pre at hl2 hno HC
      cases h1 : inB x 1 6 with
      | false =>
        have hr := Lib.hid (hno.out (by simp [h1]))
        go_wp2_with (go_at_call 75; refine (iIn _ _ _ _).mono ?_; rintro e w' ⟨rfl, rfl⟩)
        go_ret
        exact ⟨ret_bool hr.out.symm, rfl⟩
      | true =>
        cases h2 : (x == own) with
        | true =>
          have hr := Lib.hid (hno.out (by simp [h2]))
          go_wp2_with (go_at_call 75; refine (iIn _ _ _ _).mono ?_; rintro e w' ⟨rfl, rfl⟩)
          go_ret
          exact ⟨ret_bool hr.out.symm, rfl⟩
        | false =>
          cases h3 : inL pre x with
          | true =>
            have hr := Lib.hid (hno.out (by simp [h3]))
            go_wp2_with (first | (go_at_call 75; refine (iIn _ _ _ _).mono ?_; rintro e w' ⟨rfl, rfl⟩) | (go_at_call 106; refine (HC.out x).mono ?_; rintro e w' ⟨rfl, rfl⟩))
            go_ret
            exact ⟨ret_bool hr.out.symm, rfl⟩
          | false =>
            have hr := Lib.hid (hl2.out h1 h2 h3)
            go_wp2_with (first | (go_at_call 75; refine (iIn _ _ _ _).mono ?_; rintro e w' ⟨rfl, rfl⟩) | (go_at_call 106; refine (HC.out x).mono ?_; rintro e w' ⟨rfl, rfl⟩))
            go_round
            case rel => exact ⟨k + 1, by omega, by go_num, hr.out⟩
            case measure => simp [intOf]; omega
    · have : k = l.length := by omega
      subst this
      have hr := Lib.hid (idsOk_cut.2 (fun k hk => hn.out k hk hk))
      go_wp2
      go_ret
      exact ⟨ret_bool hr.out.symm, rfl⟩

set_option maxHeartbeats 1000000 in
theorem sIds (l : List Int) (own : Int) (A : Option Addr) (c B : Nat) (w : World) (h : ReadsI w B A l.length l) (hc : l.length ≤ c) (hB : B ≤ w.heap.size) :
    Calls Try.prog 83 #[.slice A l.length c, .int .i64 own] w fun e w' => e = .returned (.bool (idsOk l own)) ∧ Below w.heap.size w w' := by
  have hm := h.2.1
  go_enter Try.func83, Try.ntmps83
  go_wp2
  go_loopg [5] l.length (fun gg i wr => ∃ k : Nat, k ≤ l.length ∧ l.length - k ≤ gg ∧ i = .int .i64 k ∧ Hid (Below w.heap.size w wr) ∧ Hid (∀ j (hj : j < l.length), j < k → inB l[j] 1 6 = true ∧ (l[j] == own) = false ∧ inL (l.take j) l[j] = false))
  case atStart => exact ⟨0, Nat.zero_le _, by omega, rfl, Below.refl _ _, fun j _ h => absurd h (by omega)⟩
  case round =>
    obtain ⟨k, hk, hg, rfl, BW, hn⟩ := hrel
    by_cases hlt : k < l.length
    · have hw := h.below' BW.out hB
      obtain ⟨ad, rfl, _, hce⟩ := hw.int hlt
      have ht := hw.take encI_length hk
      have htl : (l.take k).length = k := by rw [List.length_take]; omega
      have hl2 : Hid (inB l[k] 1 6 = true → (l[k] == own) = false → inL (l.take k) l[k] = false → ∀ j (hj : j < l.length), j < k + 1 → inB l[j] 1 6 = true ∧ (l[j] == own) = false ∧ inL (l.take j) l[j] = false) := fun h1 h2 h3 j hj hjk => by
        by_cases e : j = k
        · subst e; exact ⟨h1, h2, h3⟩
        · exact hn j hj (by omega)
      have hno : Hid (¬ (inB l[k] 1 6 = true ∧ (l[k] == own) = false ∧ inL (l.take k) l[k] = false) → idsOk l own = false) := fun hh => by
        cases he : idsOk l own with
        | false => rfl
        | true => exact absurd (idsOk_cut.1 he k hlt) hh
      have hcall := fun (x : Int) (n : Nat) => sAmong (l.take k) x (some ad) c B (wr.drewN n) (by rw [htl]; exact ht.drewN n)
      rw [htl] at hcall
      have HC := Lib.hid hcall
      clear hcall ht htl hw
      have i1 : (0 : Int) ≤ k := by omega
      have i2 : (k : Int) < l.length := by omega
      have i3 : (k : Int) ≤ c := by omega
      generalize l[k] = x at hce hl2 hno
      generalize l.take k = pre at hl2 hno HC
      cases h1 : inB x 1 6 with
      | false =>
        have hr := Lib.hid (hno.out (by simp [h1]))
        go_wp2
        go_quiet ((first | (go_at_call 80; exact quiet_eq (sIn _ _ _ _)) | (go_at_call 108; exact quiet_eq (HC.out _ _))))
        go_wp2
        go_ret
        exact ⟨ret_bool hr.out.symm, below_drewN BW.out _⟩
      | true =>
        cases h2 : (x == own) with
        | true =>
          have hr := Lib.hid (hno.out (by simp [h2]))
          go_wp2
          go_quiet ((first | (go_at_call 80; exact quiet_eq (sIn _ _ _ _)) | (go_at_call 108; exact quiet_eq (HC.out _ _))))
          go_wp2
          go_ret
          exact ⟨ret_bool hr.out.symm, below_drewN BW.out _⟩
        | false =>
          cases h3 : inL pre x with
          | true =>
            have hr := Lib.hid (hno.out (by simp [h3]))
            go_wp2
            go_quiet ((first | (go_at_call 80; exact quiet_eq (sIn _ _ _ _)) | (go_at_call 108; exact quiet_eq (HC.out _ _))))
            go_wp2
            go_ret
            exact ⟨ret_bool hr.out.symm, below_drewN BW.out _⟩
          | false =>
            have hr := Lib.hid (hl2.out h1 h2 h3)
            go_wp2
            go_quiet ((first | (go_at_call 80; exact quiet_eq (sIn _ _ _ _)) | (go_at_call 108; exact quiet_eq (HC.out _ _))))
            go_wp2
            go_roundg (l.length - (k + 1))
            case measure => omega
            case rel => exact ⟨k + 1, by omega, by omega, by go_num, below_drewN BW.out _, hr.out⟩
    · have : k = l.length := by omega
      subst this
      have hr := Lib.hid (idsOk_cut.2 (fun k hk => hn.out k hk hk))
      go_wp2
      go_ret
      exact ⟨ret_bool hr.out.symm, BW.out⟩

end Go.Proofs.Ytmidnaafljgbiaa
/- When a run is ok, by the reference's text. -/
namespace Go.Proofs.Ytmidnaafljgbiaa
open Go.RowKit
set_option maxRecDepth 100000

/-- The first eight tests. -/
def early8 (r : Rn) : Prop :=
  inB r.id 1 6 = false ∨ (inB r.id 1 6 = true ∧ inB r.at_ 0 15 = false) ∨ (inB r.id 1 6 = true ∧ inB r.at_ 0 15 = true ∧ ¬ r.slots.length = 4) ∨ (inB r.id 1 6 = true ∧ inB r.at_ 0 15 = true ∧ r.slots.length = 4 ∧ inB r.full 0 15 = false) ∨
    (inB r.id 1 6 = true ∧ inB r.at_ 0 15 = true ∧ r.slots.length = 4 ∧ inB r.full 0 15 = true ∧ ¬ r.mail.length ≤ 12) ∨ (inB r.id 1 6 = true ∧ inB r.at_ 0 15 = true ∧ r.slots.length = 4 ∧ inB r.full 0 15 = true ∧ r.mail.length ≤ 12 ∧ inB r.state 1 3 = false) ∨
    (inB r.id 1 6 = true ∧ inB r.at_ 0 15 = true ∧ r.slots.length = 4 ∧ inB r.full 0 15 = true ∧ r.mail.length ≤ 12 ∧ inB r.state 1 3 = true ∧ inB r.due (-1) 400 = false) ∨
    (inB r.id 1 6 = true ∧ inB r.at_ 0 15 = true ∧ r.slots.length = 4 ∧ inB r.full 0 15 = true ∧ r.mail.length ≤ 12 ∧ inB r.state 1 3 = true ∧ inB r.due (-1) 400 = true ∧ inB r.turns 0 9999 = false)
def pass8 (r : Rn) : Prop := inB r.id 1 6 = true ∧ inB r.at_ 0 15 = true ∧ r.slots.length = 4 ∧ inB r.full 0 15 = true ∧ r.mail.length ≤ 12 ∧ inB r.state 1 3 = true ∧ inB r.due (-1) 400 = true ∧ inB r.turns 0 9999 = true
theorem gate8 (r : Rn) : early8 r ∨ pass8 r := by
  unfold early8 pass8
  cases inB r.id 1 6 <;> cases inB r.at_ 0 15 <;> by_cases h3 : r.slots.length = 4 <;> cases inB r.full 0 15 <;> by_cases h5 : r.mail.length ≤ 12 <;> cases inB r.state 1 3 <;> cases inB r.due (-1) 400 <;> cases inB r.turns 0 9999 <;> simp [h3, h5]
theorem early8_no {r : Rn} (h : early8 r) : runOk r = false := by
  unfold early8 at h
  rcases h with h | h | h | h | h | h | h | h <;> simp [runOk, h]

set_option maxHeartbeats 4000000 in
theorem sRunOk_early (r : Rn) (a : RA) (w : World) (h : early8 r) : Calls Try.prog 33 #[.agg (runArr r a)] w fun e w' => e = .returned (.bool (runOk r)) ∧ Below w.heap.size w w' := by
  rw [early8_no h]
  unfold early8 at h
  obtain ⟨id, at_, slots, full, mail, state, due, links, watched, trap, ⟨wk, wn⟩, turns⟩ := r
  obtain ⟨sA, sC, mA, mC, lA, lC, wA, wC⟩ := a
  simp only [runArr] at h ⊢
  generalize slots.length = ns at h ⊢
  generalize mail.length = nm at h ⊢
  rcases h with h | ⟨h1, h⟩ | ⟨h1, h2, h⟩ | ⟨h1, h2, h3, h⟩ | ⟨h1, h2, h3, h4, h⟩ | ⟨h1, h2, h3, h4, h5, h⟩ | ⟨h1, h2, h3, h4, h5, h6, h⟩ | ⟨h1, h2, h3, h4, h5, h6, h7, h⟩
  all_goals
    go_enter Try.func33, Try.ntmps33
    go_wp2_with (first | (go_at_call 80; refine (sIn _ _ _ _).mono ?_; rintro e w' ⟨rfl, rfl⟩) | (go_at_call 81; refine (sTo _ _).mono ?_; rintro e w' ⟨rfl, rfl⟩))
    go_ret
    exact ⟨rfl, below_box _ _⟩

theorem slotsFrom_cut {f : Int} {l : List Vl} {i : Int} : slotsFrom f i l = true ↔ ∀ k (hk : k < l.length), valOk l[k] = true ∧ (hasBit f (i + k) = true ∨ (l[k] == Vl.zero) = true) := by
  induction l generalizing i with
  | nil => simp [slotsFrom]
  | cons x l ih =>
    simp only [slotsFrom, Bool.and_eq_true, Bool.or_eq_true, ih]
    constructor
    · rintro ⟨⟨h1, h2⟩, h3⟩ k hk
      cases k with
      | zero => exact ⟨h1, by simpa using h2⟩
      | succ k => have := h3 k (by simpa using hk); simpa [Int.add_assoc, Int.add_comm 1] using this
    · intro h
      have h0 := h 0 (by simp)
      refine ⟨⟨h0.1, by simpa using h0.2⟩, fun k hk => ?_⟩
      have := h (k + 1) (by simpa using hk)
      simpa [Int.add_assoc, Int.add_comm 1] using this
theorem allOk_cut {l : List Vl} : allOk l = true ↔ ∀ k (hk : k < l.length), valOk l[k] = true := by
  unfold allOk
  rw [List.all_eq_true]
  constructor
  · intro h k hk
    exact h _ (List.getElem_mem _)
  · intro h x hx
    obtain ⟨k, hk, rfl⟩ := List.getElem_of_mem hx
    exact h k hk

theorem not_n {p : Prop} {b : Bool} {k n : Int} (hb : b = false) (hn : ¬ n = 0) : ¬ (p ∧ (b = true ∨ ((⟨k, n⟩ : Vl) == Vl.zero) = true)) := by
  rintro ⟨_, h | h⟩
  · rw [hb] at h; cases h
  · rw [beq_iff_eq] at h
    exact hn (congrArg Vl.n h)
theorem not_k {p : Prop} {b : Bool} {k n : Int} (hb : b = false) (hn : ¬ k = 0) : ¬ (p ∧ (b = true ∨ ((⟨k, n⟩ : Vl) == Vl.zero) = true)) := by
  rintro ⟨_, h | h⟩
  · rw [hb] at h; cases h
  · rw [beq_iff_eq] at h
    exact hn (congrArg Vl.k h)

theorem sum_nil (a : List Vl) (b c : List Int) : ((a.length : Int) + b.length + c.length == 0) = (true && true && true && (a.isEmpty && b.isEmpty && c.isEmpty)) := by
  cases a <;> cases b <;> cases c <;> simp <;> omega
theorem eq_zero (k n : Int) : (true && true && true && ((⟨k, n⟩ : Vl) == Vl.zero)) = (k == 0 && n == 0) := by
  rw [Bool.eq_iff_iff]
  simp only [Bool.true_and, beq_iff_eq, Bool.and_eq_true]
  exact ⟨fun h => ⟨congrArg Vl.k h, congrArg Vl.n h⟩, fun h => by rw [h.1, h.2]; rfl⟩

set_option maxHeartbeats 4000000 in
theorem sRunOk_pass (r : Rn) (a : RA) (B : Nat) (w : World) (h : pass8 r) (hr : ReadsRun w B r a) (hB : B ≤ w.heap.size) : Calls Try.prog 33 #[.agg (runArr r a)] w fun e w' => e = .returned (.bool (runOk r)) ∧ Below w.heap.size w w' := by
  obtain ⟨p1, p2, p3, p4, p5, p6, p7, p8⟩ := h
  have hrk : Hid (∀ b1 b2 b3 b4 b5 b6, slotsFrom r.full 0 r.slots = b1 → allOk r.mail = b2 → idsOk r.links r.id = b3 → idsOk r.watched r.id = b4 → valOk r.why = b5 → (if r.state = 3 then r.mail.isEmpty && r.links.isEmpty && r.watched.isEmpty else r.why == Vl.zero) = b6 → runOk r = (b1 && b2 && b3 && b4 && b5 && b6)) := by
    rintro _ _ _ _ _ _ rfl rfl rfl rfl rfl rfl
    simp [runOk, allOk, p1, p2, p3, p4, p5, p6, p7, p8]
  have hsl := @slotsFrom_cut r.full r.slots 0
  have hml := @allOk_cut r.mail
  obtain ⟨id, at_, slots, full, mail, state, due, links, watched, trap, ⟨wk, wn⟩, turns⟩ := r
  obtain ⟨sA, sC, mA, mC, lA, lC, wA, wC⟩ := a
  simp only at p1 p2 p3 p4 p5 p6 p7 p8 hsl hml
  have HSL := Lib.hid hsl
  have HML := Lib.hid hml
  clear hsl hml
  obtain ⟨b, hb⟩ : ∃ b, b = runOk ⟨id, at_, slots, full, mail, state, due, links, watched, trap, ⟨wk, wn⟩, turns⟩ := ⟨_, rfl⟩
  rw [← hb]
  have HB := Lib.hid hb
  clear hb
  obtain ⟨f0, f15⟩ := inB_iff.1 p4
  simp only [runArr]
  rw [p3]
  have P3 := Lib.hid p3
  clear p3
  go_enter Try.func33, Try.ntmps33
  go_wp2_with (first
    | ((with_reducible refine gate_dst (N := 1) rfl ?_); refine box_ev ?hg (N := 1) ?hd (cs := #[.int .i64 id, .int .i64 at_, .slice sA 4 sC, .int .i64 full, .slice mA mail.length mC, .int .i64 state, .int .i64 due, .slice lA links.length lC, .slice wA watched.length wC, .bool trap, .int .i64 wk, .int .i64 wn, .int .i64 turns]) (t := 32) ?hr ?_; (case hd => rfl); (case hg => rfl); (case hr => first | (go_simp; done) | (go_simp; rfl)); intro g w1 hg hbox hW; obtain ⟨hgl, hcell⟩ := hbox)
    | (go_at_call 80; refine (sIn _ _ _ _).mono ?_; rintro e w' ⟨rfl, rfl⟩) | (go_at_call 81; refine (sTo _ _).mono ?_; rintro e w' ⟨rfl, rfl⟩))
  go_loopg [3] 4 (fun gg s3 wr => ∃ k : Nat, k ≤ 4 ∧ 4 - k ≤ gg ∧ s3 = .int .i64 k ∧ Hid (Below w1.heap.size w1 wr) ∧ Hid (∀ j (hj : j < slots.length), j < k → valOk slots[j] = true ∧ (hasBit full (0 + j) = true ∨ (slots[j] == Vl.zero) = true)))
  case atStart => exact ⟨0, Nat.zero_le _, by omega, rfl, Below.refl _ _, fun j _ h => absurd h (by omega)⟩
  case round =>
    obtain ⟨k, hk, hgg, rfl, BW, hn⟩ := hrel
    have hcell1 := keepB BW.out hgl hcell
    have hgr : g < wr.heap.size := Nat.lt_of_lt_of_le hgl BW.out.size
    have hr1 := (hr.below hW hB).below BW.out (Nat.le_trans hB hW.size)
    have hs1 := Lib.hid hr1.slots
    have hr1' := Lib.hid hr1
    clear hr1
    by_cases hlt : k < 4
    · have hlt' : k < slots.length := by rw [P3.out]; exact hlt
      obtain ⟨ad, rfl, hab, hc1, hc2⟩ := hs1.out.val hlt'
      have har : (ad.add (k * 2)).block < wr.heap.size := by rw [block_of_add]; have := hW.size; have := BW.out.size; omega
      have hx : Hid (∀ b, ¬ (valOk slots[k] = true ∧ (hasBit full (0 + (k : Int)) = true ∨ (slots[k] == Vl.zero) = true)) → b = runOk ⟨id, at_, slots, full, mail, state, due, links, watched, trap, ⟨wk, wn⟩, turns⟩ → false = b) := by
        intro b h1 hb
        rw [hb, hrk.out _ _ _ _ _ _ rfl rfl rfl rfl rfl rfl]
        cases hq : slotsFrom full 0 slots with
        | false => rfl
        | true => exact absurd (HSL.out.1 hq k hlt') h1
      have hl2 : Hid (valOk slots[k] = true ∧ (hasBit full (0 + (k : Int)) = true ∨ (slots[k] == Vl.zero) = true) → ∀ j (hj : j < slots.length), j < k + 1 → valOk slots[j] = true ∧ (hasBit full (0 + (j : Int)) = true ∨ (slots[j] == Vl.zero) = true)) := fun h1 j hj hjk => by
        by_cases e : j = k
        · subst e; exact h1
        · exact hn j hj (by omega)
      rw [Int.zero_add] at hx hl2
      generalize slots[k] = x at hc1 hc2 hx hl2
      obtain ⟨xk, xn⟩ := x
      have hbit := Lib.hid (sHas full k f0 f15 (inB_iff.2 ⟨by omega, by omega⟩))
      cases h1 : valOk ⟨xk, xn⟩ with
      | false =>
        have hz := Lib.hid (hx.out b (by simp [h1]) HB.out)
        go_wp2_with (first | (go_at_call 42; refine (sValOk ⟨xk, xn⟩ _).mono ?_; rintro e w' ⟨rfl, hb1⟩))
        go_ret
        exact ⟨ret_bool hz.out, below_step (below_step hW BW.out) hb1⟩
      | true =>
        cases h2 : hasBit full k with
        | true =>
          have hz := Lib.hid (hl2.out (by simp [h1, h2]))
          go_wp2_with (first | (go_at_call 42; refine (sValOk ⟨xk, xn⟩ _).mono ?_; rintro e w' ⟨rfl, hb1⟩; have hcell2 := keepB hb1 hgr hcell1; obtain ⟨hd1, hd2⟩ := keep2 hb1 har hc1 hc2) | (go_at_call 82; refine (hbit.out _).mono ?_; rintro e w' ⟨rfl, hb2⟩))
          go_roundg (4 - (k + 1))
          case measure => omega
          case rel => exact ⟨k + 1, by omega, by omega, by go_num, below_step (below_step BW.out hb1) hb2, hz.out⟩
        | false =>
          go_wp2_with (first | (go_at_call 42; refine (sValOk ⟨xk, xn⟩ _).mono ?_; rintro e w' ⟨rfl, hb1⟩; have hcell2 := keepB hb1 hgr hcell1; obtain ⟨hd1, hd2⟩ := keep2 hb1 har hc1 hc2) | (go_at_call 82; refine (hbit.out _).mono ?_; rintro e w' ⟨rfl, hb2⟩; have hcell3 := keepB hb2 (Nat.lt_of_lt_of_le hgr hb1.size) hcell2; obtain ⟨he1, he2⟩ := keep2 hb2 (Nat.lt_of_lt_of_le har hb1.size) hd1 hd2))
          · have e1 : xk = 0 := by assumption
            have e2 : xn = 0 := by assumption
            have hz := Lib.hid (hl2.out ⟨h1, .inr (by rw [e1, e2]; rfl)⟩)
            clear e1 e2
            go_roundg (4 - (k + 1))
            case measure => omega
            case rel => exact ⟨k + 1, by omega, by omega, by go_num, below_step (below_step BW.out hb1) hb2, hz.out⟩
          · have e2 : ¬ xn = 0 := by assumption
            have hz := Lib.hid (hx.out b (not_n h2 e2) HB.out)
            go_ret
            exact ⟨ret_bool hz.out, below_step (below_step (below_step hW BW.out) hb1) hb2⟩
          · have e1 : ¬ xk = 0 := by assumption
            have hz := Lib.hid (hx.out b (not_k h2 e1) HB.out)
            go_ret
            exact ⟨ret_bool hz.out, below_step (below_step (below_step hW BW.out) hb1) hb2⟩
    · have hk4 : k = 4 := by omega
      subst hk4
      have hsf : Hid (slotsFrom full 0 slots = true) := HSL.out.2 (fun j hj => hn.out j hj (by have := P3.out; omega))
      clear hn hgg hk hlt
      obtain ⟨w2, rfl⟩ : ∃ w2 : World, w2 = wr := ⟨_, rfl⟩
      have hW2 := Lib.hid (below_step hW BW.out)
      clear BW hcell hW hgl hs1 hr
      go_wp2
      go_loopg [4] mail.length (fun gg s4 wr => ∃ k : Nat, k ≤ mail.length ∧ mail.length - k ≤ gg ∧ s4 = .int .i64 k ∧ Hid (Below w2.heap.size w2 wr) ∧ Hid (∀ j (hj : j < mail.length), j < k → valOk mail[j] = true))
      case atStart => exact ⟨0, Nat.zero_le _, by omega, rfl, Below.refl _ _, fun j _ h => absurd h (by omega)⟩
      case round =>
        obtain ⟨k, hk, hgg, rfl, BW, hn⟩ := hrel
        have hcell2 := keepB BW.out hgr hcell1
        have hgr2 : g < wr.heap.size := Nat.lt_of_lt_of_le hgr BW.out.size
        have hr2 := Lib.hid (hr1'.out.below BW.out (Nat.le_trans hB hW2.out.size))
        by_cases hlt : k < mail.length
        · obtain ⟨ad, rfl, hab, hc1, hc2⟩ := hr2.out.mail.val hlt
          have har : (ad.add (k * 2)).block < wr.heap.size := by rw [block_of_add]; have := hW2.out.size; have := BW.out.size; omega
          have hx : Hid (∀ b, ¬ (valOk mail[k] = true) → b = runOk ⟨id, at_, slots, full, mail, state, due, links, watched, trap, ⟨wk, wn⟩, turns⟩ → false = b) := by
            intro b h1 hb
            rw [hb, hrk.out _ _ _ _ _ _ rfl rfl rfl rfl rfl rfl]
            cases hq : allOk mail with
            | false => simp
            | true => exact absurd (HML.out.1 hq k hlt) h1
          have hl2 : Hid (valOk mail[k] = true → ∀ j (hj : j < mail.length), j < k + 1 → valOk mail[j] = true) := fun h1 j hj hjk => by
            by_cases e : j = k
            · subst e; exact h1
            · exact hn j hj (by omega)
          generalize mail[k] = x at hc1 hc2 hx hl2
          obtain ⟨xk, xn⟩ := x
          cases h1 : valOk ⟨xk, xn⟩ with
          | false =>
            have hz := Lib.hid (hx.out b (by simp [h1]) HB.out)
            go_wp2_with (first | (go_at_call 42; refine (sValOk ⟨xk, xn⟩ _).mono ?_; rintro e w' ⟨rfl, hb1⟩))
            go_ret
            exact ⟨ret_bool hz.out, below_step (below_step hW2.out BW.out) hb1⟩
          | true =>
            have hz := Lib.hid (hl2.out h1)
            go_wp2_with (first | (go_at_call 42; refine (sValOk ⟨xk, xn⟩ _).mono ?_; rintro e w' ⟨rfl, hb1⟩))
            go_roundg (mail.length - (k + 1))
            case measure => omega
            case rel => exact ⟨k + 1, by omega, by omega, by go_num, below_step BW.out hb1, hz.out⟩
        · have hkm : k = mail.length := by omega
          have hmf : Hid (allOk mail = true) := HML.out.2 (fun j hj => hn.out j hj (by omega))
          clear hn hgg hk
          have hW3 := Lib.hid (below_step hW2.out BW.out)
          obtain ⟨w3, rfl⟩ : ∃ w3 : World, w3 = wr := ⟨_, rfl⟩
          have hI1 := Lib.hid (fun W (hb : Below w3.heap.size w3 W) => sIds links id lA lC B W (hr2.out.links.below' hb (Nat.le_trans hB hW3.out.size)) hr2.out.lC (Nat.le_trans hB (Nat.le_trans hW3.out.size hb.size)))
          have hI2 := Lib.hid (fun W (hb : Below w3.heap.size w3 W) => sIds watched id wA wC B W (hr2.out.watched.below' hb (Nat.le_trans hB hW3.out.size)) hr2.out.wC (Nat.le_trans hB (Nat.le_trans hW3.out.size hb.size)))
          have hend : Hid (∀ b3 b4 b5 b6, idsOk links id = b3 → idsOk watched id = b4 → valOk ⟨wk, wn⟩ = b5 → (if state = 3 then mail.isEmpty && links.isEmpty && watched.isEmpty else (⟨wk, wn⟩ : Vl) == Vl.zero) = b6 → (b3 && b4 && b5 && b6) = b) := by
            intro b3 b4 b5 b6 e3 e4 e5 e6
            rw [HB.out, hrk.out _ _ _ _ _ _ hsf.out hmf.out e3 e4 e5 e6]
            simp
          clear hr1' hcell1 hgr BW
          generalize idsOk links id = b3 at hI1 hend
          generalize idsOk watched id = b4 at hI2 hend
          have hV := Lib.hid (fun W => sValOk ⟨wk, wn⟩ W)
          obtain ⟨b5, hb5⟩ : ∃ b5, b5 = valOk ⟨wk, wn⟩ := ⟨_, rfl⟩
          rw [← hb5] at hV hend
          clear hb5
          cases b3 with
          | false =>
            go_wp2_with (first | (go_at_call 83; refine (hI1.out _ (Below.refl _ _)).mono ?_; rintro e w' ⟨rfl, hb1⟩; have hcell3 := keepB hb1 hgr2 hcell2))
            go_ret
            exact ⟨ret_bool (hend.out _ _ _ _ rfl rfl rfl rfl), below_step hW3.out hb1⟩
          | true =>
            cases b4 with
            | false =>
              go_wp2_with (first | (go_at_call_of 83 (Value.slice lA links.length lC); refine (hI1.out _ (Below.refl _ _)).mono ?_; rintro e w' ⟨rfl, hb1⟩; have hcell3 := keepB hb1 hgr2 hcell2) | (go_at_call_of 83 (Value.slice wA watched.length wC); refine (hI2.out _ hb1).mono ?_; rintro e w' ⟨rfl, hb2⟩; have hcell4 := keepB hb2 (Nat.lt_of_lt_of_le hgr2 hb1.size) hcell3))
              go_ret
              exact ⟨ret_bool (hend.out _ _ _ _ rfl rfl rfl rfl), below_step (below_step hW3.out hb1) hb2⟩
            | true =>
              cases b5 with
              | false =>
                go_wp2_with (first | (go_at_call_of 83 (Value.slice lA links.length lC); refine (hI1.out _ (Below.refl _ _)).mono ?_; rintro e w' ⟨rfl, hb1⟩; have hcell3 := keepB hb1 hgr2 hcell2) | (go_at_call_of 83 (Value.slice wA watched.length wC); refine (hI2.out _ hb1).mono ?_; rintro e w' ⟨rfl, hb2⟩; have hcell4 := keepB hb2 (Nat.lt_of_lt_of_le hgr2 hb1.size) hcell3) | (go_at_call 42; refine (hV.out _).mono ?_; rintro e w' ⟨rfl, hb3⟩; have hcell5 := keepB hb3 (Nat.lt_of_lt_of_le (Nat.lt_of_lt_of_le hgr2 hb1.size) hb2.size) hcell4))
                go_ret
                exact ⟨ret_bool (hend.out _ _ _ _ rfl rfl rfl rfl), below_step (below_step (below_step hW3.out hb1) hb2) hb3⟩
              | true =>
                by_cases hst : state = 3
                · have hz := Lib.hid (hend.out _ _ _ _ rfl rfl rfl rfl)
                  rw [if_pos hst] at hz
                  subst hst
                  have hll := hr2.out.links.2.1
                  have hwl := hr2.out.watched.2.1
                  go_wp2_with (first | (go_at_call_of 83 (Value.slice lA links.length lC); refine (hI1.out _ (Below.refl _ _)).mono ?_; rintro e w' ⟨rfl, hb1⟩; have hcell3 := keepB hb1 hgr2 hcell2) | (go_at_call_of 83 (Value.slice wA watched.length wC); refine (hI2.out _ hb1).mono ?_; rintro e w' ⟨rfl, hb2⟩; have hcell4 := keepB hb2 (Nat.lt_of_lt_of_le hgr2 hb1.size) hcell3) | (go_at_call 42; refine (hV.out _).mono ?_; rintro e w' ⟨rfl, hb3⟩; have hcell5 := keepB hb3 (Nat.lt_of_lt_of_le (Nat.lt_of_lt_of_le hgr2 hb1.size) hb2.size) hcell4))
                  go_ret
                  exact ⟨ret_bool (by rw [← hz.out]; exact sum_nil _ _ _), below_step (below_step (below_step hW3.out hb1) hb2) hb3⟩
                · have hz := Lib.hid (hend.out _ _ _ _ rfl rfl rfl rfl)
                  rw [if_neg hst] at hz
                  go_wp2_with (first | (go_at_call_of 83 (Value.slice lA links.length lC); refine (hI1.out _ (Below.refl _ _)).mono ?_; rintro e w' ⟨rfl, hb1⟩; have hcell3 := keepB hb1 hgr2 hcell2) | (go_at_call_of 83 (Value.slice wA watched.length wC); refine (hI2.out _ hb1).mono ?_; rintro e w' ⟨rfl, hb2⟩; have hcell4 := keepB hb2 (Nat.lt_of_lt_of_le hgr2 hb1.size) hcell3) | (go_at_call 42; refine (hV.out _).mono ?_; rintro e w' ⟨rfl, hb3⟩; have hcell5 := keepB hb3 (Nat.lt_of_lt_of_le (Nat.lt_of_lt_of_le hgr2 hb1.size) hb2.size) hcell4))
                  · have e1 : wk = 0 := by assumption
                    have e2 : wn = 0 := by assumption
                    go_ret
                    exact ⟨ret_bool (by rw [← hz.out, eq_zero, e1, e2]; rfl), below_step (below_step (below_step hW3.out hb1) hb2) hb3⟩
                  · have e2 : ¬ wn = 0 := by assumption
                    go_ret
                    exact ⟨ret_bool (by rw [← hz.out, eq_zero, beq_false_of_ne e2, Bool.and_false]), below_step (below_step (below_step hW3.out hb1) hb2) hb3⟩
                  · have e1 : ¬ wk = 0 := by assumption
                    go_ret
                    exact ⟨ret_bool (by rw [← hz.out, eq_zero, beq_false_of_ne e1, Bool.false_and]), below_step (below_step (below_step hW3.out hb1) hb2) hb3⟩
theorem sRunOk (r : Rn) (a : RA) (B : Nat) (w : World) (hr : ReadsRun w B r a) (hB : B ≤ w.heap.size) : Calls Try.prog 33 #[.agg (runArr r a)] w fun e w' => e = .returned (.bool (runOk r)) ∧ Below w.heap.size w w' :=
  (gate8 r).elim (sRunOk_early r a w) (fun h => sRunOk_pass r a B w h hr hB)
end Go.Proofs.Ytmidnaafljgbiaa
/- The bits that two have, and what is full in one more way. -/
namespace Go.Proofs.Ytmidnaafljgbiaa
open Go.RowKit
set_option maxRecDepth 100000

def bothUpto (a b : Int) : Nat → Int
  | 0 => 0
  | k + 1 => bothUpto a b k + if hasBit a k && hasBit b k then bitI k else 0
theorem bothUpto_four (a b : Int) (h : 0 ≤ a) : bothUpto a b 4 = both a b := by
  unfold both
  rw [if_neg (by omega)]
  simp [bothUpto, bitI]
theorem bothUpto_le (a b : Int) : ∀ k, k ≤ 4 → 0 ≤ bothUpto a b k ∧ bothUpto a b k ≤ 8 * k := by
  intro k
  induction k with
  | zero => intro _; simp [bothUpto]
  | succ k ih =>
    intro hk
    have := ih (by omega)
    have hb : 0 ≤ bitI k ∧ bitI k ≤ 8 := by unfold bitI; (repeat' split) <;> omega
    unfold bothUpto
    split <;> omega
set_option maxHeartbeats 2000000 in
theorem sBoth (a b : Int) (ha : -1 ≤ a) (ha' : a ≤ 15) (hb : 0 ≤ b) (hb' : b ≤ 15) (w : World) : Calls Try.prog 141 #[.int .i64 a, .int .i64 b] w fun e w' => e = .returned (.int .i64 (both a b)) ∧ Below w.heap.size w w' := by
  by_cases h0 : a < 0
  · have e : both a b = b := by unfold both; rw [if_pos h0]
    rw [e]
    have b1 : decide (a < 0) = true := by simpa using h0
    clear e
    go_enter Try.func141, Try.ntmps141
    go_wp2
    go_ret
    exact ⟨rfl, Below.refl _ _⟩
  · have h1 : 0 ≤ a := by omega
    rw [← bothUpto_four a b h1]
    have HA := Lib.hid (fun (k : Nat) (hk : k < 4) W => sHas a k h1 ha' (inB_iff.2 ⟨by omega, by omega⟩) W)
    have HB := Lib.hid (fun (k : Nat) (hk : k < 4) W => sHas b k hb hb' (inB_iff.2 ⟨by omega, by omega⟩) W)
    have HI := Lib.hid (fun (k : Nat) (hk : k < 4) W => sBit k (bitI k) (bitI_pairs (inB_iff.2 ⟨by omega, by omega⟩)) W)
    have HL := Lib.hid (bothUpto_le a b)
    have b1 : decide (a < 0) = false := by simpa using h0
    clear ha h0
    go_enter Try.func141, Try.ntmps141
    go_wp2
    go_loopg [5, 6] 4 (fun gg s5 s6 wr => ∃ k : Nat, k ≤ 4 ∧ 4 - k ≤ gg ∧ s5 = .int .i64 (bothUpto a b k) ∧ s6 = .int .i64 k ∧ Hid (Below w.heap.size w wr))
    case atStart => exact ⟨0, by omega, by omega, rfl, rfl, Below.refl _ _⟩
    case round =>
      obtain ⟨k, hk, hg, rfl, rfl, BW⟩ := hrel
      by_cases hlt : k < 4
      · have hq := HL.out k (by omega)
        have hbi : 0 ≤ bitI k ∧ bitI k ≤ 8 := by unfold bitI; (repeat' split) <;> omega
        have H1 := Lib.hid (HA.out k hlt)
        have H2 := Lib.hid (HB.out k hlt)
        have H3 := Lib.hid (HI.out k hlt)
        have HS : Hid (bothUpto a b (k + 1) = bothUpto a b k + if hasBit a k && hasBit b k then bitI k else 0) := rfl
        clear HA HB HI HL
        have i1 : (0 : Int) ≤ k := by omega
        have i2 : (k : Int) ≤ 3 := by omega
        have MW := Mem.nil wr
        have M := MW
        clear MW
        generalize hasBit a k = x at H1 HS
        generalize hasBit b k = y at H2 HS
        cases x <;> cases y
        all_goals
          go_wp2_with (first
            | (go_at_call_of 82 (Value.int .i64 a); refine (H1.out _).mono ?_; rintro e w2 ⟨rfl, hb⟩; replace M := M.below hb; clear hb)
            | (go_at_call_of 82 (Value.int .i64 b); refine (H2.out _).mono ?_; rintro e w2 ⟨rfl, hb⟩; replace M := M.below hb; clear hb)
            | (go_at_call 107; refine (H3.out _).mono ?_; rintro e w2 ⟨rfl, hb⟩; replace M := M.below hb; clear hb))
          go_roundg (4 - (k + 1))
          case measure => omega
          case rel => exact ⟨k + 1, by omega, by omega, by rw [HS.out]; simp, by go_num, below_step BW.out M.toBelow⟩
      · have : k = 4 := by omega
        subst this
        go_wp2
        go_ret
        exact ⟨rfl, BW.out⟩
end Go.Proofs.Ytmidnaafljgbiaa
/- What is full is met with one more way. -/
namespace Go.Proofs.Ytmidnaafljgbiaa
open Go.RowKit
set_option maxRecDepth 100000

theorem Mem.setI {w0 w : World} {f : List Nat} {L L' : List Asn} {g k c : Nat} {z : Int} {xs : List Int} (M : Mem w0 f w L) (hd : Del (rowI (some ⟨g, 0, none⟩) c xs) L L') (hlt : k < xs.length) : Mem w0 f (w.setCell ⟨g, k, none⟩ (.int .i64 z)) (rowI (some ⟨g, 0, none⟩) c (xs.set k z) :: L') := by
  have M1 := Mem.setRow encI_length (j := 0) (u := .int .i64 z) (x' := z) M hd hlt (by decide) rfl
  rw [show k * 1 + 0 = k by omega] at M1
  exact M1
theorem elemI {w0 w : World} {f : List Nat} {L L' : List Asn} {g k c : Nat} {xs : List Int} (M : Mem w0 f w L) (hd : Del (rowI (some ⟨g, 0, none⟩) c xs) L L') (hlt : k < xs.length) : w.cell? ⟨g, k, none⟩ = some (.int .i64 xs[k]) ∧ w.frozen? ⟨g, k, none⟩ = false := by
  obtain ⟨_, h1, h2⟩ := row_elem encI_length M hd hlt
  have := h1 0 (by decide)
  simp only [Nat.mul_one, Nat.add_zero] at this
  exact ⟨this, h2 k⟩
set_option maxHeartbeats 2000000 in
theorem sMerge (F : List Int) (A : Option Addr) (c k : Nat) (b : Int) {w0 w : World} {f : List Nat} {L : List Asn} (M : Mem w0 f w (rowI A c F :: L)) (hF : Bits F) (hb : 0 ≤ b) (hb' : b ≤ 15) (hl : F.length ≤ 1000) (hk : k ≤ 1000) :
    Calls Try.prog 128 #[.slice A F.length c, .int .i64 (k : Int), .int .i64 b] w fun e w' => e = .returned (.bool (merge F k b).2) ∧ Mem w0 f w' (rowI A c (merge F k b).1 :: L) := by
  by_cases h : k < F.length
  · have hm : merge F k b = if both (F[k]) b = F[k] then (F, false) else (F.set k (both (F[k]) b), true) := by
      unfold merge getI
      rw [if_neg (by omega)]
      simp only [Int.toNat_natCast, List.getD_eq_getElem?_getD, List.getElem?_eq_getElem h, Option.getD_some]
    have hx := hF F[k] (List.getElem_mem h)
    obtain ⟨g, rfl⟩ := row_form M .here (by omega)
    have E := elemI M .here h
    have RE := Lib.hid (fun W (L L' : List Asn) (M : Mem w0 f W L) (hd : Del (rowI (some ⟨g, 0, none⟩) c F) L L') => elemI M hd h)
    have HB := Lib.hid (fun W => sBoth F[k] b hx.1 hx.2 hb hb' W)
    have AL := add_lit0
    rw [hm]
    generalize F[k] = x at E RE HB hx ⊢
    generalize hy : both x b = y at HB ⊢
    clear hm hF hx hy
    have i1 : (0 : Int) ≤ k := by omega
    have i2 : (k : Int) < F.length := by omega
    by_cases he : y = x
    · subst he
      rw [if_pos rfl]
      go_enter Try.func128, Try.ntmps128
      go_wp2_with (first
        | (go_at_call 141; refine (HB.out _).mono ?_; rintro e w2 ⟨rfl, hb⟩; replace M := M.below hb; clear hb; have E2 := RE.out _ _ _ M dl))
      go_ret
      exact ⟨rfl, M⟩
    · rw [if_neg he]
      have b1 : (y == x) = false := by simpa using he
      go_enter Try.func128, Try.ntmps128
      go_wp2_with (first
        | (go_at_call 141; refine (HB.out _).mono ?_; rintro e w2 ⟨rfl, hb⟩; replace M := M.below hb; clear hb; have E2 := RE.out _ _ _ M dl))
      go_ret
      exact ⟨rfl, Mem.setI M .here h⟩
  · have hm : merge F k b = (F, false) := by unfold merge; rw [if_pos (by omega)]
    rw [hm]
    have i1 : (F.length : Int) ≤ k := by omega
    clear hm hF
    go_enter Try.func128, Try.ntmps128
    go_wp2
    go_ret
    exact ⟨rfl, M⟩
end Go.Proofs.Ytmidnaafljgbiaa
