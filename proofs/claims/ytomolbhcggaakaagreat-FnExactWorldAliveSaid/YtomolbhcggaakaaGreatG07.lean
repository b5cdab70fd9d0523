/- Parts of the proof, in one text. -/
import Derived.Deep.RegionWith
import Derived.Test.YtomolbhcggaakaaGreatG05
import Derived.Test.YtomolbhcggaakaaGreatG06
import Derived.Test.YtomolbhcggaakaaGreatG03
/- The laws' own copy of a run. -/
namespace Go.Proofs.YtomolbhcggaakaaGreat
open Go.RowKit
set_option maxRecDepth 100000

set_option maxHeartbeats 2000000 in
theorem lToRun (r : Rn) (a : RA) (B : Nat) (w : World) (hr : ReadsRun w B r a) (hB : B ≤ w.heap.size) (h1 : r.slots.length ≤ 8796093022208) (h2 : r.mail.length ≤ 8796093022208) (h3 : r.links.length ≤ 17592186044416) (h4 : r.watched.length ≤ 17592186044416) :
    Calls Tryz.prog 94 #[.agg (runArr r a)] w fun e w' => ∃ s m l o, e = .returned (.agg #[.int .i64 r.id, .int .i64 r.at_, s, .int .i64 r.full, m, .int .i64 r.state, .int .i64 r.due, l, o, .bool r.trap, .int .i64 r.why.k, .int .i64 r.why.n, .int .i64 r.turns]) ∧ OwnRun 44 3 w' w.heap.size r s m l o ∧ Below w.heap.size w w' := by
  obtain ⟨id, at_, slots, full, mail, state, due, links, watched, trap, ⟨wk, wn⟩, turns⟩ := r
  obtain ⟨sA, sC, mA, mC, lA, lC, wA, wC⟩ := a
  have H1 := Lib.hid (fun W (hbb : Below w.heap.size w W) => lToValS slots sA sC B W (hr.slots.below' hbb hB) (Nat.le_trans hB hbb.size) h1)
  have H2 := Lib.hid (fun W (hbb : Below w.heap.size w W) => lToValS mail mA mC B W (hr.mail.below' hbb hB) (Nat.le_trans hB hbb.size) h2)
  have H3 := Lib.hid (fun W (hbb : Below w.heap.size w W) => lToIntS links lA lC B W (hr.links.below' hbb hB) (Nat.le_trans hB hbb.size) h3)
  have H4 := Lib.hid (fun W (hbb : Below w.heap.size w W) => lToIntS watched wA wC B W (hr.watched.below' hbb hB) (Nat.le_trans hB hbb.size) h4)
  clear hr h1 h2 h3 h4
  simp only [runArr]
  go_enter Tryz.func94, Tryz.ntmps94
  go_wp2_with (first
    | (go_at_call_of 129 (Value.slice sA slots.length sC); refine (H1.out _ ?p1).mono ?_; (case p1 => repeat (first | exact Below.refl _ _ | apply below_new | (refine below_set ?_ (by first | (simp; done) | omega | (simp; omega))))); rintro e w1 ⟨v1, rfl, ho1, hb1⟩; obtain ⟨A1, c1, rfl, _, _⟩ := ho1.reads; have O1 := Lib.hid (ho1.lower (base' := w.heap.size + 3) (by simp)); clear ho1; obtain ⟨hc1, hf1⟩ := bcell hb1; have hx1 : w.heap.size < w1.heap.size := (by have := hb1.size; simp at this; omega); have hy1 : w.heap.size + 1 < w1.heap.size := (by have := hb1.size; simp at this; omega); have hz1 : w.heap.size + 1 + 1 < w1.heap.size := (by have := hb1.size; simp at this; omega); have B1 : Below w.heap.size w w1 := (below_step (by repeat (first | (with_reducible apply below_new) | (with_reducible exact Below.refl _ _))) hb1))
    | (go_at_call_of 129 (Value.slice mA mail.length mC); refine (H2.out _ ?p2).mono ?_; (case p2 => repeat (first | exact Below.refl _ _ | apply below_new | (refine below_set ?_ (by first | (simp; done) | omega | (simp; omega))) | (refine below_step ?_ hb1))); rintro e w2 ⟨v2, rfl, ho2, hb2⟩; obtain ⟨A2, c2, rfl, _, _⟩ := ho2.reads; have O2 := Lib.hid (ho2.lower (base' := w1.heap.size) (by simp)); clear ho2; obtain ⟨hc2, hf2⟩ := bcell hb2; have hx2 : w.heap.size < w2.heap.size := (by have := hb2.size; simp at this; omega); have hy2 : w.heap.size + 1 < w2.heap.size := (by have := hb2.size; simp at this; omega); have hz2 : w.heap.size + 1 + 1 < w2.heap.size := (by have := hb2.size; simp at this; omega); have M2 : Mid w.heap.size (w.heap.size + 3) w1 w2 := (by refine Mid.below ?_ hb2; repeat (first | (with_reducible refine Mid.set ?_ (by first | exact Nat.le_add_right _ _ | exact Nat.le_trans (Nat.le_add_right _ 1) (Nat.le_add_right _ 1)) (by first | exact Nat.lt_succ_self _ | exact Nat.lt_succ_of_lt (Nat.lt_succ_self _)) _) | (with_reducible exact Mid.refl _ _ _))))
    | (go_at_call_of 52 (Value.slice lA links.length lC); refine (H3.out _ ?p3).mono ?_; (case p3 => repeat (first | exact Below.refl _ _ | apply below_new | (refine below_set ?_ (by first | (simp; done) | omega | (simp; omega))) | (refine below_step ?_ hb2) | (refine below_step ?_ hb1))); rintro e w3 ⟨v3, rfl, ho3, hb3⟩; obtain ⟨A3, c3, rfl, _, _⟩ := ho3.reads; have O3 := Lib.hid (ho3.lower (base' := w2.heap.size) (by simp)); clear ho3; obtain ⟨hc3, hf3⟩ := bcell hb3; have hx3 : w.heap.size < w3.heap.size := (by have := hb3.size; simp at this; omega); have hy3 : w.heap.size + 1 < w3.heap.size := (by have := hb3.size; simp at this; omega); have hz3 : w.heap.size + 1 + 1 < w3.heap.size := (by have := hb3.size; simp at this; omega); have M3 : Mid w.heap.size (w.heap.size + 3) w2 w3 := (by refine Mid.below ?_ hb3; repeat (first | (with_reducible refine Mid.set ?_ (by first | exact Nat.le_add_right _ _ | exact Nat.le_trans (Nat.le_add_right _ 1) (Nat.le_add_right _ 1)) (by first | exact Nat.lt_succ_self _ | exact Nat.lt_succ_of_lt (Nat.lt_succ_self _)) _) | (with_reducible exact Mid.refl _ _ _))))
    | (go_at_call_of 52 (Value.slice wA watched.length wC); refine (H4.out _ ?p4).mono ?_; (case p4 => repeat (first | exact Below.refl _ _ | apply below_new | (refine below_set ?_ (by first | (simp; done) | omega | (simp; omega))) | (refine below_step ?_ hb3) | (refine below_step ?_ hb2) | (refine below_step ?_ hb1))); rintro e w4 ⟨v4, rfl, ho4, hb4⟩; obtain ⟨A4, c4, rfl, _, _⟩ := ho4.reads; have O4 := Lib.hid (ho4.lower (base' := w3.heap.size) (by simp)); clear ho4; obtain ⟨hc4, hf4⟩ := bcell hb4; have hx4 : w.heap.size < w4.heap.size := (by have := hb4.size; simp at this; omega); have hy4 : w.heap.size + 1 < w4.heap.size := (by have := hb4.size; simp at this; omega); have hz4 : w.heap.size + 1 + 1 < w4.heap.size := (by have := hb4.size; simp at this; omega); have M4 : Mid w.heap.size (w.heap.size + 3) w3 w4 := (by refine Mid.below ?_ hb4; repeat (first | (with_reducible refine Mid.set ?_ (by first | exact Nat.le_add_right _ _ | exact Nat.le_trans (Nat.le_add_right _ 1) (Nat.le_add_right _ 1)) (by first | exact Nat.lt_succ_self _ | exact Nat.lt_succ_of_lt (Nat.lt_succ_self _)) _) | (with_reducible exact Mid.refl _ _ _))))
    | (go_at_call 28; refine (lToVal ⟨wk, wn⟩ _).mono ?_; rintro e w5 ⟨rfl, hb5⟩; obtain ⟨hc5, hf5⟩ := bcell hb5; have hx5 : w.heap.size < w5.heap.size := (by have := hb5.size; simp at this; omega); have hy5 : w.heap.size + 1 < w5.heap.size := (by have := hb5.size; simp at this; omega); have hz5 : w.heap.size + 1 + 1 < w5.heap.size := (by have := hb5.size; simp at this; omega); have M5 : Mid w.heap.size (w.heap.size + 3) w4 w5 := (by refine Mid.below ?_ hb5; repeat (first | (with_reducible refine Mid.set ?_ (by first | exact Nat.le_add_right _ _ | exact Nat.le_trans (Nat.le_add_right _ 1) (Nat.le_add_right _ 1)) (by first | exact Nat.lt_succ_self _ | exact Nat.lt_succ_of_lt (Nat.lt_succ_self _)) _) | (with_reducible exact Mid.refl _ _ _)))))
  have s12 : w1.heap.size ≤ w2.heap.size := by have := hb2.size; simpa using this
  have s23 : w2.heap.size ≤ w3.heap.size := by have := hb3.size; simpa using this
  have hfin := Lib.hid (fun (W : World) (M : Mid w.heap.size (w.heap.size + 3) w5 W) => (show OwnRun 44 3 W w.heap.size ⟨id, at_, slots, full, mail, state, due, links, watched, trap, ⟨wk, wn⟩, turns⟩ (.slice A1 slots.length c1) (.slice A2 mail.length c2) (.slice A3 links.length c3) (.slice A4 watched.length c4) ∧ Below w.heap.size w W from
    ⟨⟨(O1.out.mid ((((M2.trans M3).trans M4).trans M5).trans M) (Nat.le_refl _)).lower (by omega), (O2.out.mid (((M3.trans M4).trans M5).trans M) hz1).lower (by omega), (O3.out.mid ((M4.trans M5).trans M) hz2).lower (by omega), (O4.out.mid (M5.trans M) hz3).lower (by omega),
      O1.out.ne O2.out (Nat.le_refl _), O1.out.ne O3.out s12, O1.out.ne O4.out (Nat.le_trans s12 s23), O2.out.ne O3.out (Nat.le_refl _), O2.out.ne O4.out s23, O3.out.ne O4.out (Nat.le_refl _)⟩,
      Mid.low B1 ((((M2.trans M3).trans M4).trans M5).trans M) B1.size⟩))
  refine bodyPost_ret (v := .agg #[.int .i64 id, .int .i64 at_, .slice A1 slots.length c1, .int .i64 full, .slice A2 mail.length c2, .int .i64 state, .int .i64 due, .slice A3 links.length c3, .slice A4 watched.length c4, .bool trap, .int .i64 wk, .int .i64 wn, .int .i64 turns]) (by simp [results, Tryz.results94, go_sem, hc1, hc2, hc3, hc4, hc5, hy1, hy2, hy3, hy4]) rfl ?_
  exact ⟨_, _, _, _, rfl, hfin.out _ (by repeat (first | (with_reducible refine Mid.set ?_ (by first | exact Nat.le_add_right _ _ | exact Nat.le_trans (Nat.le_add_right _ 1) (Nat.le_add_right _ 1)) (by first | exact Nat.lt_succ_self _ | exact Nat.lt_succ_of_lt (Nat.lt_succ_self _)) _) | (with_reducible exact Mid.refl _ _ _)))⟩
end Go.Proofs.YtomolbhcggaakaaGreat
/- Values and numbers of runs, looked at by both texts. -/
namespace Go.Proofs.YtomolbhcggaakaaGreat
open Go.RowKit
set_option maxRecDepth 100000

theorem iValOk (v : Vl) (w : World) : Calls Tryz.prog 67 #[.agg #[.int .i64 v.k, .int .i64 v.n]] w fun e w' => e = .returned (.bool (valOk v)) ∧ Below w.heap.size w w' := by
  obtain ⟨k, n⟩ := v
  by_cases h0 : k = 0
  · subst h0
    go_enter Tryz.func67, Tryz.ntmps67
    go_wp2
    go_ret
    exact ⟨rfl, below_box _ _⟩
  by_cases h1 : k = 1
  · subst h1
    go_enter Tryz.func67, Tryz.ntmps67
    go_wp2_with (go_at_call 54; refine (iIn _ _ _ _).mono ?_; rintro e w' ⟨rfl, rfl⟩)
    go_ret
    exact ⟨rfl, below_box _ _⟩
  by_cases h2 : k = 2
  · subst h2
    go_enter Tryz.func67, Tryz.ntmps67
    go_wp2_with (go_at_call 54; refine (iIn _ _ _ _).mono ?_; rintro e w' ⟨rfl, rfl⟩)
    go_ret
    exact ⟨rfl, below_box _ _⟩
  by_cases h3 : k = 3
  · subst h3
    go_enter Tryz.func67, Tryz.ntmps67
    go_wp2_with (go_at_call 54; refine (iIn _ _ _ _).mono ?_; rintro e w' ⟨rfl, rfl⟩)
    go_ret
    exact ⟨rfl, below_box _ _⟩
  rw [valOk_else h0 h1 h2 h3]
  go_enter Tryz.func67, Tryz.ntmps67
  go_wp2
  go_ret
  exact ⟨rfl, below_box _ _⟩

theorem iValsOk1 (v : Vl) (w : World) : Calls Tryz.prog 169 #[.agg #[.int .i64 v.k, .int .i64 v.n]] w fun e w' => e = .returned (.bool (!valOk v)) ∧ Below w.heap.size w w' := by
  obtain ⟨k, n⟩ := v
  go_enter Tryz.func169, Tryz.ntmps169
  go_wp2_with (go_at_call 67; refine (iValOk ⟨k, n⟩ _).mono ?_; rintro e w' ⟨rfl, hb⟩)
  go_ret
  exact ⟨rfl, below_step (below_box _ _) hb⟩
theorem iContainsFunc (p : Vl → Bool) (g : Nat) (lb : Array Value) (eg : ∀ args w, (callFunc g args).run Tryz.prog w = .ok (.enter g args) w) (l : List Vl) (A : Option Addr) (c B : Nat) (w : World) (h : ReadsV w B A l.length l) (hB : B ≤ w.heap.size) (hp : PredV g lb p w) :
    Calls Tryz.prog 168 #[.slice A l.length c, .func (.func g) #[] lb] w fun e w' => e = .returned (.bool (l.any p)) ∧ Below w.heap.size w w' := by
  have e := idxP_any p l
  rw [← e]
  clear e
  go_enter Tryz.func168, Tryz.ntmps168
  go_wp2_with (go_at_call 170; refine (iIndexFunc p g lb eg l A c B _ h hB hp).mono ?_; rintro e w' ⟨rfl, hb⟩)
  go_ret
  exact ⟨rfl, hb⟩
theorem any_not (l : List Vl) : l.any (fun v => !valOk v) = !l.all valOk := by
  rw [List.all_eq_not_any_not, Bool.not_not]
/-- Are all values ok? -/
def allOk (l : List Vl) : Bool := l.all valOk
theorem iValsOk (l : List Vl) (A : Option Addr) (c B : Nat) (w : World) (h : ReadsV w B A l.length l) (hB : B ≤ w.heap.size) :
    Calls Tryz.prog 140 #[.slice A l.length c] w fun e w' => e = .returned (.bool (allOk l)) ∧ Below w.heap.size w w' := by
  have eg := enters_of Tryz.func169 (by kernel_rfl) rfl
  have hp : PredV 169 #[] (fun v => !valOk v) w := fun W x hb => (iValsOk1 x W).mono fun e w' ⟨h1, h2⟩ => ⟨h1, hb.trans (h2.mono hb.size)⟩
  have hC := Lib.hid (iContainsFunc _ _ _ eg l A c B w h hB hp)
  rw [any_not] at hC
  unfold allOk
  clear eg hp
  generalize l.all valOk = b at hC
  go_enter Tryz.func140, Tryz.ntmps140
  go_wp2_with (go_at_call 168; refine hC.out.mono ?_; rintro e w' ⟨rfl, hb⟩)
  go_ret
  exact ⟨ret_bool (by simp), hb⟩

/-! ### Numbers of other runs -/
theorem idsFrom_cut {own : Int} {l pre : List Int} : idsFrom own pre l = true ↔ ∀ k (hk : k < l.length), inB l[k] 1 6 = true ∧ (l[k] == own) = false ∧ inL (pre ++ l.take k) l[k] = false := by
  induction l generalizing pre with
  | nil => simp [idsFrom]
  | cons x l ih =>
    simp only [idsFrom, Bool.and_eq_true, ih, Bool.not_eq_true']
    constructor
    · rintro ⟨⟨⟨h1, h2⟩, h3⟩, h4⟩ k hk
      cases k with
      | zero => exact ⟨h1, h2, by simpa [inL] using h3⟩
      | succ k => have := h4 k (by simpa using hk); simpa [List.append_assoc] using this
    · intro h
      have h0 := h 0 (by simp)
      refine ⟨⟨⟨h0.1, h0.2.1⟩, by simpa [inL] using h0.2.2⟩, fun k hk => ?_⟩
      have := h (k + 1) (by simpa using hk)
      simpa [List.append_assoc] using this
theorem idsOk_cut {own : Int} {l : List Int} : idsOk l own = true ↔ ∀ k (hk : k < l.length), inB l[k] 1 6 = true ∧ (l[k] == own) = false ∧ inL (l.take k) l[k] = false := by
  unfold idsOk
  rw [idsFrom_cut]
  simp

set_option maxHeartbeats 1000000 in
theorem iOthers (l : List Int) (own : Int) (A : Option Addr) (c B : Nat) (w : World) (h : ReadsI w B A l.length l) (hc : l.length ≤ c) :
    Calls Tryz.prog 141 #[.slice A l.length c, .int .i64 own] w fun e w' => e = .returned (.bool (idsOk l own)) ∧ w = w' := by
  have hm := h.2.1
  go_enter Tryz.func141, Tryz.ntmps141
  go_wp2
  go_loop [5, 6, 9] (fun _ _ i => ∃ k : Nat, k ≤ l.length ∧ i = .int .i64 k ∧ Hid (∀ j (hj : j < l.length), j < k → inB l[j] 1 6 = true ∧ (l[j] == own) = false ∧ inL (l.take j) l[j] = false)) (fun _ _ i => l.length - (intOf i).toNat)
  case atStart => exact ⟨0, Nat.zero_le _, rfl, fun j _ h => absurd h (by omega)⟩
  case round =>
    obtain ⟨k, hk, rfl, hn⟩ := hrel
    by_cases hlt : k < l.length
    · obtain ⟨ad, rfl, _, hce⟩ := h.int hlt
      have ht := h.take encI_length hk
      have htl : (l.take k).length = k := by rw [List.length_take]; omega
      have hl2 : Hid (inB l[k] 1 6 = true → (l[k] == own) = false → inL (l.take k) l[k] = false → ∀ j (hj : j < l.length), j < k + 1 → inB l[j] 1 6 = true ∧ (l[j] == own) = false ∧ inL (l.take j) l[j] = false) := fun h1 h2 h3 j hj hjk => by
        by_cases e : j = k
        · subst e; exact ⟨h1, h2, h3⟩
        · exact hn j hj (by omega)
      have hno : Hid (¬ (inB l[k] 1 6 = true ∧ (l[k] == own) = false ∧ inL (l.take k) l[k] = false) → idsOk l own = false) := fun hh => by
        cases he : idsOk l own with
        | false => rfl
        | true => exact absurd (idsOk_cut.1 he k hlt) hh
      have hcall := fun (x : Int) => iContains (l.take k) x (some ad) c B w (by rw [htl]; exact ht)
      rw [htl] at hcall
      have HC := Lib.hid hcall
      clear hcall ht htl
      generalize l[k] = x at hce hl2 hno
      generalize l.take k = pre at hl2 hno HC
      cases h1 : inB x 1 6 with
      | false =>
        have hr := Lib.hid (hno.out (by simp [h1]))
        go_wp2_with (go_at_call 54; refine (iIn _ _ _ _).mono ?_; rintro e w' ⟨rfl, rfl⟩)
        go_ret
        exact ⟨ret_bool hr.out.symm, rfl⟩
      | true =>
        cases h2 : (x == own) with
        | true =>
          have hr := Lib.hid (hno.out (by simp [h2]))
          go_wp2_with (go_at_call 54; refine (iIn _ _ _ _).mono ?_; rintro e w' ⟨rfl, rfl⟩)
          go_ret
          exact ⟨ret_bool hr.out.symm, rfl⟩
        | false =>
          cases h3 : inL pre x with
          | true =>
            have hr := Lib.hid (hno.out (by simp [h3]))
            go_wp2_with (first | (go_at_call 54; refine (iIn _ _ _ _).mono ?_; rintro e w' ⟨rfl, rfl⟩) | (go_at_call 58; refine (HC.out x).mono ?_; rintro e w' ⟨rfl, rfl⟩))
            go_ret
            exact ⟨ret_bool hr.out.symm, rfl⟩
          | false =>
            have hr := Lib.hid (hl2.out h1 h2 h3)
            go_wp2_with (first | (go_at_call 54; refine (iIn _ _ _ _).mono ?_; rintro e w' ⟨rfl, rfl⟩) | (go_at_call 58; refine (HC.out x).mono ?_; rintro e w' ⟨rfl, rfl⟩))
            go_round
            case rel => exact ⟨k + 1, by omega, by go_num, hr.out⟩
            case measure => simp [intOf]; omega
    · have : k = l.length := by omega
      subst this
      have hr := Lib.hid (idsOk_cut.2 (fun k hk => hn.out k hk hk))
      go_wp2
      go_ret
      exact ⟨ret_bool hr.out.symm, rfl⟩

set_option maxHeartbeats 1000000 in
theorem sIds (l : List Int) (own : Int) (A : Option Addr) (c B : Nat) (w : World) (h : ReadsI w B A l.length l) (hc : l.length ≤ c) (hB : B ≤ w.heap.size) :
    Calls Tryz.prog 46 #[.slice A l.length c, .int .i64 own] w fun e w' => e = .returned (.bool (idsOk l own)) ∧ Below w.heap.size w w' := by
  have hm := h.2.1
  go_enter Tryz.func46, Tryz.ntmps46
  go_wp2
  go_loopg [5] l.length (fun gg i wr => ∃ k : Nat, k ≤ l.length ∧ l.length - k ≤ gg ∧ i = .int .i64 k ∧ Hid (Below w.heap.size w wr) ∧ Hid (∀ j (hj : j < l.length), j < k → inB l[j] 1 6 = true ∧ (l[j] == own) = false ∧ inL (l.take j) l[j] = false))
  case atStart => exact ⟨0, Nat.zero_le _, by omega, rfl, Below.refl _ _, fun j _ h => absurd h (by omega)⟩
  case round =>
    obtain ⟨k, hk, hg, rfl, BW, hn⟩ := hrel
    by_cases hlt : k < l.length
    · have hw := h.below' BW.out hB
      obtain ⟨ad, rfl, _, hce⟩ := hw.int hlt
      have ht := hw.take encI_length hk
      have htl : (l.take k).length = k := by rw [List.length_take]; omega
      have hl2 : Hid (inB l[k] 1 6 = true → (l[k] == own) = false → inL (l.take k) l[k] = false → ∀ j (hj : j < l.length), j < k + 1 → inB l[j] 1 6 = true ∧ (l[j] == own) = false ∧ inL (l.take j) l[j] = false) := fun h1 h2 h3 j hj hjk => by
        by_cases e : j = k
        · subst e; exact ⟨h1, h2, h3⟩
        · exact hn j hj (by omega)
      have hno : Hid (¬ (inB l[k] 1 6 = true ∧ (l[k] == own) = false ∧ inL (l.take k) l[k] = false) → idsOk l own = false) := fun hh => by
        cases he : idsOk l own with
        | false => rfl
        | true => exact absurd (idsOk_cut.1 he k hlt) hh
      have hcall := fun (x : Int) (n : Nat) => sAmong (l.take k) x (some ad) c B (wr.drewN n) (by rw [htl]; exact ht.drewN n)
      rw [htl] at hcall
      have HC := Lib.hid hcall
      clear hcall ht htl hw
      have i1 : (0 : Int) ≤ k := by omega
      have i2 : (k : Int) < l.length := by omega
      have i3 : (k : Int) ≤ c := by omega
      generalize l[k] = x at hce hl2 hno
      generalize l.take k = pre at hl2 hno HC
      cases h1 : inB x 1 6 with
      | false =>
        have hr := Lib.hid (hno.out (by simp [h1]))
        go_wp2
        go_quiet ((first | (go_at_call 45; exact quiet_eq (sIn _ _ _ _)) | (go_at_call 74; exact quiet_eq (HC.out _ _))))
        go_wp2
        go_ret
        exact ⟨ret_bool hr.out.symm, below_drewN BW.out _⟩
      | true =>
        cases h2 : (x == own) with
        | true =>
          have hr := Lib.hid (hno.out (by simp [h2]))
          go_wp2
          go_quiet ((first | (go_at_call 45; exact quiet_eq (sIn _ _ _ _)) | (go_at_call 74; exact quiet_eq (HC.out _ _))))
          go_wp2
          go_ret
          exact ⟨ret_bool hr.out.symm, below_drewN BW.out _⟩
        | false =>
          cases h3 : inL pre x with
          | true =>
            have hr := Lib.hid (hno.out (by simp [h3]))
            go_wp2
            go_quiet ((first | (go_at_call 45; exact quiet_eq (sIn _ _ _ _)) | (go_at_call 74; exact quiet_eq (HC.out _ _))))
            go_wp2
            go_ret
            exact ⟨ret_bool hr.out.symm, below_drewN BW.out _⟩
          | false =>
            have hr := Lib.hid (hl2.out h1 h2 h3)
            go_wp2
            go_quiet ((first | (go_at_call 45; exact quiet_eq (sIn _ _ _ _)) | (go_at_call 74; exact quiet_eq (HC.out _ _))))
            go_wp2
            go_roundg (l.length - (k + 1))
            case measure => omega
            case rel => exact ⟨k + 1, by omega, by omega, by go_num, below_drewN BW.out _, hr.out⟩
    · have : k = l.length := by omega
      subst this
      have hr := Lib.hid (idsOk_cut.2 (fun k hk => hn.out k hk hk))
      go_wp2
      go_ret
      exact ⟨ret_bool hr.out.symm, BW.out⟩

end Go.Proofs.YtomolbhcggaakaaGreat
