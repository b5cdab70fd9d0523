/- Values and numbers of runs, looked at by both texts. -/
import Derived.Test.YtemglijebbodkaaS2
namespace Go.Proofs.Ytemglijebbodkaa
open Go.RowKit
set_option maxRecDepth 100000

theorem iValOk (v : Vl) (w : World) : Calls Try.prog 36 #[.agg #[.int .i64 v.k, .int .i64 v.n]] w fun e w' => e = .returned (.bool (valOk v)) ∧ Below w.heap.size w w' := by
  obtain ⟨k, n⟩ := v
  by_cases h0 : k = 0
  · subst h0
    go_enter Try.func36, Try.ntmps36
    go_wp2
    go_ret
    exact ⟨rfl, below_box _ _⟩
  by_cases h1 : k = 1
  · subst h1
    go_enter Try.func36, Try.ntmps36
    go_wp2_with (go_at_call 35; refine (iIn _ _ _ _).mono ?_; rintro e w' ⟨rfl, rfl⟩)
    go_ret
    exact ⟨rfl, below_box _ _⟩
  by_cases h2 : k = 2
  · subst h2
    go_enter Try.func36, Try.ntmps36
    go_wp2_with (go_at_call 35; refine (iIn _ _ _ _).mono ?_; rintro e w' ⟨rfl, rfl⟩)
    go_ret
    exact ⟨rfl, below_box _ _⟩
  by_cases h3 : k = 3
  · subst h3
    go_enter Try.func36, Try.ntmps36
    go_wp2_with (go_at_call 35; refine (iIn _ _ _ _).mono ?_; rintro e w' ⟨rfl, rfl⟩)
    go_ret
    exact ⟨rfl, below_box _ _⟩
  rw [valOk_else h0 h1 h2 h3]
  go_enter Try.func36, Try.ntmps36
  go_wp2
  go_ret
  exact ⟨rfl, below_box _ _⟩

theorem iValsOk1 (v : Vl) (w : World) : Calls Try.prog 64 #[.agg #[.int .i64 v.k, .int .i64 v.n]] w fun e w' => e = .returned (.bool (!valOk v)) ∧ Below w.heap.size w w' := by
  obtain ⟨k, n⟩ := v
  go_enter Try.func64, Try.ntmps64
  go_wp2_with (go_at_call 36; refine (iValOk ⟨k, n⟩ _).mono ?_; rintro e w' ⟨rfl, hb⟩)
  go_ret
  exact ⟨rfl, below_step (below_box _ _) hb⟩
theorem iContainsFunc (p : Vl → Bool) (g : Nat) (lb : Array Value) (eg : ∀ args w, (callFunc g args).run Try.prog w = .ok (.enter g args) w) (l : List Vl) (A : Option Addr) (c B : Nat) (w : World) (h : ReadsV w B A l.length l) (hB : B ≤ w.heap.size) (hp : PredV g lb p w) :
    Calls Try.prog 63 #[.slice A l.length c, .func (.func g) #[] lb] w fun e w' => e = .returned (.bool (l.any p)) ∧ Below w.heap.size w w' := by
  have e := idxP_any p l
  rw [← e]
  clear e
  go_enter Try.func63, Try.ntmps63
  go_wp2_with (go_at_call 69; refine (iIndexFunc p g lb eg l A c B _ h hB hp).mono ?_; rintro e w' ⟨rfl, hb⟩)
  go_ret
  exact ⟨rfl, hb⟩
theorem any_not (l : List Vl) : l.any (fun v => !valOk v) = !l.all valOk := by
  rw [List.all_eq_not_any_not, Bool.not_not]
/-- Are all values ok? -/
def allOk (l : List Vl) : Bool := l.all valOk
theorem iValsOk (l : List Vl) (A : Option Addr) (c B : Nat) (w : World) (h : ReadsV w B A l.length l) (hB : B ≤ w.heap.size) :
    Calls Try.prog 40 #[.slice A l.length c] w fun e w' => e = .returned (.bool (allOk l)) ∧ Below w.heap.size w w' := by
  have eg := enters_of Try.func64 (by kernel_rfl) rfl
  have hp : PredV 64 #[] (fun v => !valOk v) w := fun W x hb => (iValsOk1 x W).mono fun e w' ⟨h1, h2⟩ => ⟨h1, hb.trans (h2.mono hb.size)⟩
  have hC := Lib.hid (iContainsFunc _ _ _ eg l A c B w h hB hp)
  rw [any_not] at hC
  unfold allOk
  clear eg hp
  generalize l.all valOk = b at hC
  go_enter Try.func40, Try.ntmps40
  go_wp2_with (go_at_call 63; refine hC.out.mono ?_; rintro e w' ⟨rfl, hb⟩)
  go_ret
  exact ⟨ret_bool (by simp), hb⟩

/-! ### Numbers of other runs -/
theorem idsFrom_cut {own : Int} {l pre : List Int} : idsFrom own pre l = true ↔ ∀ k (hk : k < l.length), inB l[k] 1 6 = true ∧ (l[k] == own) = false ∧ inL (pre ++ l.take k) l[k] = false := by
  induction l generalizing pre with
  | nil => simp [idsFrom]
  | cons x l ih =>
    simp only [idsFrom, Bool.and_eq_true, ih, Bool.not_eq_true']
    constructor
    · rintro ⟨⟨⟨h1, h2⟩, h3⟩, h4⟩ k hk
      cases k with
      | zero => exact ⟨h1, h2, by simpa [inL] using h3⟩
      | succ k => have := h4 k (by simpa using hk); simpa [List.append_assoc] using this
    · intro h
      have h0 := h 0 (by simp)
      refine ⟨⟨⟨h0.1, h0.2.1⟩, by simpa [inL] using h0.2.2⟩, fun k hk => ?_⟩
      have := h (k + 1) (by simpa using hk)
      simpa [List.append_assoc] using this
theorem idsOk_cut {own : Int} {l : List Int} : idsOk l own = true ↔ ∀ k (hk : k < l.length), inB l[k] 1 6 = true ∧ (l[k] == own) = false ∧ inL (l.take k) l[k] = false := by
  unfold idsOk
  rw [idsFrom_cut]
  simp

set_option maxHeartbeats 1000000 in
theorem iOthers (l : List Int) (own : Int) (A : Option Addr) (c B : Nat) (w : World) (h : ReadsI w B A l.length l) (hc : l.length ≤ c) :
    Calls Try.prog 41 #[.slice A l.length c, .int .i64 own] w fun e w' => e = .returned (.bool (idsOk l own)) ∧ w = w' := by
  have hm := h.2.1
  go_enter Try.func41, Try.ntmps41
  go_wp2
  go_loop [5, 6, 9] (fun _ _ i => ∃ k : Nat, k ≤ l.length ∧ i = .int .i64 k ∧ Hid (∀ j (hj : j < l.length), j < k → inB l[j] 1 6 = true ∧ (l[j] == own) = false ∧ inL (l.take j) l[j] = false)) (fun _ _ i => l.length - (intOf i).toNat)
  case atStart => exact ⟨0, Nat.zero_le _, rfl, fun j _ h => absurd h (by omega)⟩
  case round =>
    obtain ⟨k, hk, rfl, hn⟩ := hrel
    by_cases hlt : k < l.length
    · obtain ⟨ad, rfl, _, hce⟩ := h.int hlt
      have ht := h.take encI_length hk
      have htl : (l.take k).length = k := by rw [List.length_take]; omega
      have hl2 : Hid (inB l[k] 1 6 = true → (l[k] == own) = false → inL (l.take k) l[k] = false → ∀ j (hj : j < l.length), j < k + 1 → inB l[j] 1 6 = true ∧ (l[j] == own) = false ∧ inL (l.take j) l[j] = false) := fun h1 h2 h3 j hj hjk => by
        by_cases e : j = k
        · subst e; exact ⟨h1, h2, h3⟩
        · exact hn j hj (by omega)
      have hno : Hid (¬ (inB l[k] 1 6 = true ∧ (l[k] == own) = false ∧ inL (l.take k) l[k] = false) → idsOk l own = false) := fun hh => by
        cases he : idsOk l own with
        | false => rfl
        | true => exact absurd (idsOk_cut.1 he k hlt) hh
      have hcall := fun (x : Int) => iContains (l.take k) x (some ad) c B w (by rw [htl]; exact ht)
      rw [htl] at hcall
      have HC := Lib.hid hcall
      clear hcall ht htl
      generalize l[k] = x at hce hl2 hno
      generalize l.take k = pre at hl2 hno HC
      cases h1 : inB x 1 6 with
      | false =>
        have hr := Lib.hid (hno.out (by simp [h1]))
        go_wp2_with (go_at_call 35; refine (iIn _ _ _ _).mono ?_; rintro e w' ⟨rfl, rfl⟩)
        go_ret
        exact ⟨ret_bool hr.out.symm, rfl⟩
      | true =>
        cases h2 : (x == own) with
        | true =>
          have hr := Lib.hid (hno.out (by simp [h2]))
          go_wp2_with (go_at_call 35; refine (iIn _ _ _ _).mono ?_; rintro e w' ⟨rfl, rfl⟩)
          go_ret
          exact ⟨ret_bool hr.out.symm, rfl⟩
        | false =>
          cases h3 : inL pre x with
          | true =>
            have hr := Lib.hid (hno.out (by simp [h3]))
            go_wp2_with (first | (go_at_call 35; refine (iIn _ _ _ _).mono ?_; rintro e w' ⟨rfl, rfl⟩) | (go_at_call 65; refine (HC.out x).mono ?_; rintro e w' ⟨rfl, rfl⟩))
            go_ret
            exact ⟨ret_bool hr.out.symm, rfl⟩
          | false =>
            have hr := Lib.hid (hl2.out h1 h2 h3)
            go_wp2_with (first | (go_at_call 35; refine (iIn _ _ _ _).mono ?_; rintro e w' ⟨rfl, rfl⟩) | (go_at_call 65; refine (HC.out x).mono ?_; rintro e w' ⟨rfl, rfl⟩))
            go_round
            case rel => exact ⟨k + 1, by omega, by go_num, hr.out⟩
            case measure => simp [intOf]; omega
    · have : k = l.length := by omega
      subst this
      have hr := Lib.hid (idsOk_cut.2 (fun k hk => hn.out k hk hk))
      go_wp2
      go_ret
      exact ⟨ret_bool hr.out.symm, rfl⟩

set_option maxHeartbeats 1000000 in
theorem sIds (l : List Int) (own : Int) (A : Option Addr) (c B : Nat) (w : World) (h : ReadsI w B A l.length l) (hc : l.length ≤ c) (hB : B ≤ w.heap.size) :
    Calls Try.prog 51 #[.slice A l.length c, .int .i64 own] w fun e w' => e = .returned (.bool (idsOk l own)) ∧ Below w.heap.size w w' := by
  have hm := h.2.1
  go_enter Try.func51, Try.ntmps51
  go_wp2
  go_loopg [5] l.length (fun gg i wr => ∃ k : Nat, k ≤ l.length ∧ l.length - k ≤ gg ∧ i = .int .i64 k ∧ Hid (Below w.heap.size w wr) ∧ Hid (∀ j (hj : j < l.length), j < k → inB l[j] 1 6 = true ∧ (l[j] == own) = false ∧ inL (l.take j) l[j] = false))
  case atStart => exact ⟨0, Nat.zero_le _, by omega, rfl, Below.refl _ _, fun j _ h => absurd h (by omega)⟩
  case round =>
    obtain ⟨k, hk, hg, rfl, BW, hn⟩ := hrel
    by_cases hlt : k < l.length
    · have hw := h.below' BW.out hB
      obtain ⟨ad, rfl, _, hce⟩ := hw.int hlt
      have ht := hw.take encI_length hk
      have htl : (l.take k).length = k := by rw [List.length_take]; omega
      have hl2 : Hid (inB l[k] 1 6 = true → (l[k] == own) = false → inL (l.take k) l[k] = false → ∀ j (hj : j < l.length), j < k + 1 → inB l[j] 1 6 = true ∧ (l[j] == own) = false ∧ inL (l.take j) l[j] = false) := fun h1 h2 h3 j hj hjk => by
        by_cases e : j = k
        · subst e; exact ⟨h1, h2, h3⟩
        · exact hn j hj (by omega)
      have hno : Hid (¬ (inB l[k] 1 6 = true ∧ (l[k] == own) = false ∧ inL (l.take k) l[k] = false) → idsOk l own = false) := fun hh => by
        cases he : idsOk l own with
        | false => rfl
        | true => exact absurd (idsOk_cut.1 he k hlt) hh
      have hcall := fun (x : Int) (n : Nat) => sAmong (l.take k) x (some ad) c B (wr.drewN n) (by rw [htl]; exact ht.drewN n)
      rw [htl] at hcall
      have HC := Lib.hid hcall
      clear hcall ht htl hw
      have i1 : (0 : Int) ≤ k := by omega
      have i2 : (k : Int) < l.length := by omega
      have i3 : (k : Int) ≤ c := by omega
      generalize l[k] = x at hce hl2 hno
      generalize l.take k = pre at hl2 hno HC
      cases h1 : inB x 1 6 with
      | false =>
        have hr := Lib.hid (hno.out (by simp [h1]))
        go_wp2
        go_quiet ((first | (go_at_call 31; exact quiet_eq (sIn _ _ _ _)) | (go_at_call 67; exact quiet_eq (HC.out _ _))))
        go_wp2
        go_ret
        exact ⟨ret_bool hr.out.symm, below_drewN BW.out _⟩
      | true =>
        cases h2 : (x == own) with
        | true =>
          have hr := Lib.hid (hno.out (by simp [h2]))
          go_wp2
          go_quiet ((first | (go_at_call 31; exact quiet_eq (sIn _ _ _ _)) | (go_at_call 67; exact quiet_eq (HC.out _ _))))
          go_wp2
          go_ret
          exact ⟨ret_bool hr.out.symm, below_drewN BW.out _⟩
        | false =>
          cases h3 : inL pre x with
          | true =>
            have hr := Lib.hid (hno.out (by simp [h3]))
            go_wp2
            go_quiet ((first | (go_at_call 31; exact quiet_eq (sIn _ _ _ _)) | (go_at_call 67; exact quiet_eq (HC.out _ _))))
            go_wp2
            go_ret
            exact ⟨ret_bool hr.out.symm, below_drewN BW.out _⟩
          | false =>
            have hr := Lib.hid (hl2.out h1 h2 h3)
            go_wp2
            go_quiet ((first | (go_at_call 31; exact quiet_eq (sIn _ _ _ _)) | (go_at_call 67; exact quiet_eq (HC.out _ _))))
            go_wp2
            go_roundg (l.length - (k + 1))
            case measure => omega
            case rel => exact ⟨k + 1, by omega, by omega, by go_num, below_drewN BW.out _, hr.out⟩
    · have : k = l.length := by omega
      subst this
      have hr := Lib.hid (idsOk_cut.2 (fun k hk => hn.out k hk hk))
      go_wp2
      go_ret
      exact ⟨ret_bool hr.out.symm, BW.out⟩

end Go.Proofs.Ytemglijebbodkaa
