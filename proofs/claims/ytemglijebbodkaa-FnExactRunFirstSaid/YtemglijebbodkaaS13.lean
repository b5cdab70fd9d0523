/- The first value of a run's mail that fits, on both sides. -/
import Derived.Test.YtemglijebbodkaaS5
namespace Go.Proofs.Ytemglijebbodkaa
open Go.RowKit
set_option maxRecDepth 100000

theorem sFits (v : Vl) (kind : Int) (w : World) : Calls Try.prog 68 #[.agg #[.int .i64 v.k, .int .i64 v.n], .int .i64 kind] w fun e w' => e = .returned (.bool (fits v kind)) ∧ Below w.heap.size w w' := by
  obtain ⟨k, n⟩ := v
  unfold fits
  by_cases h : kind = 0
  · have e : (kind == 0 || (⟨k, n⟩ : Vl).k == kind) = true := by simp [h]
    rw [e]
    clear e
    have h' : (kind == 0) = true := by simp [h]
    clear h
    go_enter Try.func68, Try.ntmps68
    go_wp2
    go_ret
    exact ⟨rfl, below_box _ _⟩
  · have e : (kind == 0 || (⟨k, n⟩ : Vl).k == kind) = (k == kind) := by simp [h]
    rw [e]
    clear e
    have h' : (kind == 0) = false := by simp [h]
    clear h
    go_enter Try.func68, Try.ntmps68
    go_wp2
    go_ret
    exact ⟨ret_bool (by simp), below_box _ _⟩
def fitsOk (v : Vl) (kind : Int) : Bool := valOk v && fits v kind
set_option maxHeartbeats 1000000 in
theorem iFits (v : Vl) (kind : Int) (w : World) : Calls Try.prog 71 #[.agg #[.int .i64 v.k, .int .i64 v.n], .int .i64 kind] w fun e w' => e = .returned (.bool (fitsOk v kind)) ∧ Below w.heap.size w w' := by
  obtain ⟨k, n⟩ := v
  have hv := Lib.hid (fun W => iValOk ⟨k, n⟩ W)
  unfold fitsOk fits
  generalize valOk ⟨k, n⟩ = b at hv ⊢
  cases b with
  | false =>
    go_enter Try.func71, Try.ntmps71
    go_wp2_with (go_at_call 36; refine (hv.out _).mono ?_; rintro e w1 ⟨rfl, hb1⟩; have B1 := below_step (below_box _ _) hb1)
    go_ret
    exact ⟨ret_bool (by simp), B1⟩
  | true =>
    by_cases h : kind = 0
    · have e : (true && (kind == 0 || (⟨k, n⟩ : Vl).k == kind)) = true := by simp [h]
      rw [e]
      clear e
      have h' : (kind == 0) = true := by simp [h]
      clear h
      go_enter Try.func71, Try.ntmps71
      go_wp2_with (go_at_call 36; refine (hv.out _).mono ?_; rintro e w1 ⟨rfl, hb1⟩; have B1 := below_step (below_box _ _) hb1; obtain ⟨hc1, hf1⟩ := bcell hb1; have hx1 : w.heap.size < w1.heap.size := (by have := hb1.size; simp at this; omega))
      go_ret
      exact ⟨ret_bool (by simp), B1⟩
    · have e : (true && (kind == 0 || (⟨k, n⟩ : Vl).k == kind)) = (kind == k) := by simp only [Bool.true_and, beq_eq_false_iff_ne.2 h, Bool.false_or]; exact Bool.eq_iff_iff.2 ⟨fun h => by simpa using (beq_iff_eq.1 h).symm, fun h => by simpa using (beq_iff_eq.1 h).symm⟩
      rw [e]
      clear e
      have h' : (kind == 0) = false := by simp [h]
      clear h
      go_enter Try.func71, Try.ntmps71
      go_wp2_with (go_at_call 36; refine (hv.out _).mono ?_; rintro e w1 ⟨rfl, hb1⟩; have B1 := below_step (below_box _ _) hb1; obtain ⟨hc1, hf1⟩ := bcell hb1; have hx1 : w.heap.size < w1.heap.size := (by have := hb1.size; simp at this; omega))
      go_ret
      exact ⟨ret_bool (by simp), B1⟩
theorem iFirst1 (v : Vl) (kind : Int) (g : Nat) (w : World) (hc : w.cell? ⟨g, 0, none⟩ = some (.int .i64 kind)) (hg : g < w.heap.size) : Calls Try.prog 70 #[.agg #[.int .i64 v.k, .int .i64 v.n], .pointer (some ⟨g, 0, none⟩)] w fun e w' => e = .returned (.bool (fitsOk v kind)) ∧ Below w.heap.size w w' := by
  obtain ⟨k, n⟩ := v
  have hv := Lib.hid (fun W => iFits ⟨k, n⟩ kind W)
  generalize fitsOk ⟨k, n⟩ kind = b at hv ⊢
  go_enter Try.func70, Try.ntmps70
  go_wp2_with (go_at_call 71; refine (hv.out _).mono ?_; rintro e w1 ⟨rfl, hb1⟩; have B1 := below_step (below_box _ _) hb1)
  go_ret
  exact ⟨rfl, B1⟩

set_option maxHeartbeats 1000000 in
theorem iFirst (r : Rn) (a : RA) (kind : Int) (B : Nat) (w : World) (hr : ReadsRun w B r a) (hB : B ≤ w.heap.size) : Calls Try.prog 55 #[.agg (runArr r a), .int .i64 kind] w fun e w' => e = .returned (.int .i64 (idxP (fitsOk · kind) r.mail)) ∧ Below w.heap.size w w' := by
  have eg := enters_of Try.func70 (by kernel_rfl) rfl
  have hp : ∀ (W : World) (g : Nat), W.cell? ⟨g, 0, none⟩ = some (.int .i64 kind) → g < W.heap.size → PredV 70 #[.pointer (some ⟨g, 0, none⟩)] (fitsOk · kind) W :=
    fun W g hc hg V x hb => (iFirst1 x kind g V ((hb.cell (p := ⟨g, 0, none⟩) hg).trans hc) (Nat.lt_of_lt_of_le hg hb.size)).mono fun e w' ⟨h1, h2⟩ => ⟨h1, hb.trans (h2.mono hb.size)⟩
  have HC := Lib.hid (fun W (hb : Below w.heap.size w W) g (hc : W.cell? ⟨g, 0, none⟩ = some (.int .i64 kind)) (hg : g < W.heap.size) => iIndexFunc _ _ _ eg r.mail a.mA a.mC B W (hr.mail.below' hb hB) (Nat.le_trans hB hb.size) (hp W g hc hg))
  clear eg hp hr
  generalize idxP (fitsOk · kind) r.mail = ix at HC ⊢
  obtain ⟨id, at_, slots, full, mail, state, due, links, watched, trap, ⟨wk, wn⟩, turns⟩ := r
  obtain ⟨sA, sC, mA, mC, lA, lC, wA, wC⟩ := a
  simp only [runArr] at HC ⊢
  go_enter Try.func55, Try.ntmps55
  go_wp2_with (go_at_call 69; refine (HC.out _ ?p1 _ ?p2 ?p3).mono ?_; (case p1 => exact below_new (below_box _ _) _); (case p2 => simp [go_sem]; done); (case p3 => simp; done); rintro e w1 ⟨rfl, hb1⟩; have B1 := below_step (below_new (below_box _ _) _) hb1)
  go_ret
  exact ⟨rfl, B1⟩

set_option maxHeartbeats 2000000 in
theorem sFirst (r : Rn) (a : RA) (kind : Int) (B : Nat) (w : World) (hr : ReadsRun w B r a) (hB : B ≤ w.heap.size) : Calls Try.prog 54 #[.agg (runArr r a), .int .i64 kind] w fun e w' => e = .returned (.int .i64 (idxP (fits · kind) r.mail)) ∧ Below w.heap.size w w' := by
  have hm := hr.mail
  have hm2 := hm.2.1
  clear hr
  have HX := Lib.hid (rfl : idxP (fits · kind) r.mail = idxP (fits · kind) r.mail)
  obtain ⟨id, at_, slots, full, mail, state, due, links, watched, trap, ⟨wk, wn⟩, turns⟩ := r
  obtain ⟨sA, sC, mA, mC, lA, lC, wA, wC⟩ := a
  simp only [runArr] at hm hm2 ⊢
  go_enter Try.func54, Try.ntmps54
  go_wp2_with (first
    | ((with_reducible refine gate_dst (N := 2) rfl ?_); refine box_ev ?hg (N := 2) ?hd (cs := #[.int .i64 id, .int .i64 at_, .slice sA slots.length sC, .int .i64 full, .slice mA mail.length mC, .int .i64 state, .int .i64 due, .slice lA links.length lC, .slice wA watched.length wC, .bool trap, .int .i64 wk, .int .i64 wn, .int .i64 turns]) (t := 30) ?hr ?_; (case hd => rfl); (case hg => rfl); (case hr => first | (go_simp; done) | (go_simp; rfl)); intro g w1 hg hbox hW; obtain ⟨hgl, hcell⟩ := hbox))
  go_loopg [5] mail.length (fun gg s5 wr => ∃ k : Nat, k ≤ mail.length ∧ mail.length - k ≤ gg ∧ s5 = .int .i64 k ∧ Hid (Below w1.heap.size w1 wr) ∧ Hid (∀ j (hj : j < mail.length), j < k → fits mail[j] kind = false))
  case atStart => exact ⟨0, Nat.zero_le _, by omega, rfl, Below.refl _ _, fun j _ h => absurd h (by omega)⟩
  case round =>
    obtain ⟨k, hk, hgg, rfl, BW, hn⟩ := hrel
    have hcell1 := keepB BW.out hgl hcell
    have hgr : g < wr.heap.size := Nat.lt_of_lt_of_le hgl BW.out.size
    by_cases hlt : k < mail.length
    · have hlk : Hid (fits mail[k] kind = true → idxP (fits · kind) mail = k) := fun h1 => idxP_hit hlt h1 (fun j hj => hn j (by omega) hj)
      have hl2 : Hid (fits mail[k] kind = false → ∀ j (hj : j < mail.length), j < k + 1 → fits mail[j] kind = false) := fun h1 j hj hjk => by
        by_cases e : j = k
        · subst e; exact h1
        · exact hn j hj (by omega)
      obtain ⟨ad, rfl, hab, hc1, hc2⟩ := ((hm.below' hW hB).below' BW.out (Nat.le_trans hB hW.size)).val hlt
      generalize mail[k] = x at hlk hl2 hc1 hc2
      obtain ⟨xk, xn⟩ := x
      have hcall := Lib.hid (fun W => sFits ⟨xk, xn⟩ kind W)
      generalize fits ⟨xk, xn⟩ kind = q at hcall hlk hl2
      cases q with
      | true =>
        go_wp2_with (go_at_call 68; refine (hcall.out _).mono ?_; rintro e w2 ⟨rfl, hb2⟩)
        go_ret
        exact ⟨ret_int (hlk.out (by trivial)).symm, below_step (below_step hW BW.out) hb2⟩
      | false =>
        go_wp2_with (go_at_call 68; refine (hcall.out _).mono ?_; rintro e w2 ⟨rfl, hb2⟩)
        go_roundg (mail.length - (k + 1))
        case measure => omega
        case rel => exact ⟨k + 1, by omega, by omega, by go_num, below_step BW.out hb2, hl2.out (by trivial)⟩
    · have hkl : k = mail.length := by omega
      subst hkl
      go_wp2
      go_ret
      exact ⟨ret_int (idxP_miss (fun j hj => hn.out j hj hj)).symm, below_step hW BW.out⟩
end Go.Proofs.Ytemglijebbodkaa
