/- Parts of the proof, in one text. -/
import Derived.Deep.RegionWith
import Derived.Deep.LoopGhost
import Derived.Test.YtmidnaafljgbiaaB17
import Derived.Test.YtmidnaafljgbiaaB01
import Derived.Test.YtmidnaafljgbiaaB02
import Derived.Test.YtmidnaafljgbiaaB07
import Derived.Test.YtmidnaafljgbiaaB05
/- The laws' own copies of lists. -/
namespace Go.Proofs.Ytmidnaafljgbiaa
open Go.RowKit
set_option maxRecDepth 100000

theorem infoI : (Try.prog.info? 3).map (fun i => (i.zero, i.size, i.bytes)) = some (some (.int .i64 0), 1, 8) := by kernel_rfl
theorem infoV : (Try.prog.info? 30).map (fun i => (i.zero, i.size, i.bytes)) = some (some (.agg #[.int .i64 0, .int .i64 0]), 2, 16) := by kernel_rfl

theorem RowL.below {α : Type} {enc : α → List Value} {m t : Nat} {w w' : World} {base g n cap : Nat} {xs : List α} (h : RowL enc m t w base g n cap xs) (hb : Below w.heap.size w w') : RowL enc m t w' base g n cap xs := ⟨h.1, h.2.below hb⟩
/-- A value is laid into a row of values: what the walk asks, and what is left. -/
theorem row_set2 {w : World} {t base g n cap : Nat} {xs : List Vl} (h : RowL encV 2 t w base g n cap xs) {k : Nat} (hk : k < xs.length) (x : Vl) :
    (∃ u, w.cell? ⟨g, k * 2, none⟩ = some u) ∧ (∃ u, w.cell? ⟨g, k * 2 + 1, none⟩ = some u) ∧ w.frozen? ⟨g, k * 2, none⟩ = false ∧ w.frozen? ⟨g, k * 2 + 1, none⟩ = false ∧
      RowL encV 2 t ((w.setCell ⟨g, k * 2, none⟩ (.int .i64 x.k)).setCell ⟨g, k * 2 + 1, none⟩ (.int .i64 x.n)) base g n cap (xs.set k x) := by
  obtain ⟨c1, f1⟩ := h.cell encV_length hk (i := 0) (by decide)
  obtain ⟨c2, f2⟩ := h.cell encV_length hk (i := 1) (by decide)
  refine ⟨⟨_, c1⟩, ⟨_, c2⟩, f1, f2, ?_⟩
  have h1 := h.store encV_length hk (i := 0) (by decide) (x' := ⟨x.k, (xs[k]).n⟩) (u := .int .i64 x.k) rfl
  have hk1 : k < (xs.set k (⟨x.k, (xs[k]).n⟩ : Vl)).length := by rw [List.length_set]; exact hk
  have h2 := h1.store encV_length hk1 (i := 1) (by decide) (x' := x) (u := .int .i64 x.n) (by rw [List.getElem_set_self]; rfl)
  rw [List.set_set] at h2
  exact h2

set_option maxHeartbeats 1000000 in
theorem lToIntS (l : List Int) (A : Option Addr) (c B : Nat) (w : World) (h : ReadsI w B A l.length l) (hB : B ≤ w.heap.size) (hs : l.length ≤ 17592186044416) :
    Calls Try.prog 51 #[.slice A l.length c] w fun e w' => ∃ v, e = .returned v ∧ OwnL encI 1 3 w' w.heap.size v l ∧ Below w.heap.size w w' := by
  have hm := h.2.1
  have hmk := fun W => run_make_m (P := Try.prog) 23 3 (.int .i64 0) 1 8 Try.underlying23 infoI l.length (by omega) (by omega) W
  have hz : (Value.int .i64 0).cells = #[.int .i64 0] := rfl
  rw [hz] at hmk
  clear hz
  have hrow := Lib.hid (RowL.made (α := Int) (enc := encI) (m := 1) (t := 3) (w := w) (base := w.heap.size) (z := #[.int .i64 0]) (x := 0) rfl (by decide) rfl (n := l.length) hm (Nat.le_refl _))
  rw [Nat.mul_one] at hrow
  go_enter Try.func51, Try.ntmps51
  go_wp2
  clear hmk
  go_loopg [4] l.length (fun gg i wr => ∃ (k : Nat) (cur : List Int), k ≤ l.length ∧ l.length - k ≤ gg ∧ i = .int .i64 k ∧ Hid (RowL encI 1 3 wr w.heap.size w.heap.size l.length l.length cur) ∧ Hid (∀ j, j < k → cur[j]? = l[j]?) ∧ Hid (Below w.heap.size w wr))
  case atStart => exact ⟨0, List.replicate l.length 0, Nat.zero_le _, by omega, rfl, hrow, fun j hj => absurd hj (by omega), below_box _ _⟩
  case round =>
    obtain ⟨k, cur, hk, hg, rfl, RW, CU, BW⟩ := hrel
    by_cases hlt : k < l.length
    · obtain ⟨ad, rfl, _, hc⟩ := (h.below' BW.out hB).int hlt
      have hcl : k < cur.length := by rw [RW.out.1]; exact hlt
      obtain ⟨hd1, hd2⟩ := RW.out.cell encI_length hcl (i := 0) (by decide)
      have hst := Lib.hid (RW.out.store encI_length hcl (i := 0) (by decide) (x' := l[k]) (u := .int .i64 l[k]) rfl)
      have hup := Lib.hid (upto_step hcl CU.out (List.getElem?_eq_getElem hlt))
      have hge := (RW.out.ge (by omega)).2
      simp only [Nat.mul_one, Nat.add_zero] at hd1 hd2 hst
      have hd1' : wr.cell? ⟨w.heap.size, k, none⟩ = some (.int .i64 cur[k]) := hd1
      clear hd1
      generalize cur[k] = y at hd1'
      generalize l[k] = x at hc hst hup
      have i1 : (0 : Int) ≤ k := by omega
      have i2 : (k : Int) < l.length := by omega
      go_wp2
      go_roundg (l.length - (k + 1))
      case measure => omega
      case rel => exact ⟨k + 1, cur.set k x, by omega, by omega, by go_num, hst.out, hup.out, below_set BW.out (Nat.le_refl _)⟩
    · have : k = l.length := by omega
      subst this
      have e := upto_end rfl RW.out.1 CU.out
      subst e
      have RR := Lib.hid RW.out.2
      clear RW CU
      go_wp2
      go_ret
      exact ⟨_, rfl, RR.out, BW.out⟩
set_option maxHeartbeats 1000000 in
theorem lToValS (l : List Vl) (A : Option Addr) (c B : Nat) (w : World) (h : ReadsV w B A l.length l) (hB : B ≤ w.heap.size) (hs : l.length ≤ 8796093022208) :
    Calls Try.prog 50 #[.slice A l.length c] w fun e w' => ∃ v, e = .returned v ∧ OwnL encV 2 30 w' w.heap.size v l ∧ Below w.heap.size w w' := by
  have hm := h.2.1
  have hmk := fun W => run_make_m (P := Try.prog) 29 30 (.agg #[.int .i64 0, .int .i64 0]) 2 16 Try.underlying29 infoV l.length (by omega) (by omega) W
  have hz : (Value.agg #[.int .i64 0, .int .i64 0]).cells = #[.int .i64 0, .int .i64 0] := rfl
  rw [hz] at hmk
  clear hz
  have hrow := Lib.hid (RowL.made (α := Vl) (enc := encV) (m := 2) (t := 30) (w := w) (base := w.heap.size) (z := #[.int .i64 0, .int .i64 0]) (x := Vl.zero) rfl (by decide) rfl (n := l.length) hm (Nat.le_refl _))
  go_enter Try.func50, Try.ntmps50
  go_wp2
  clear hmk
  go_loopg [4] l.length (fun gg i wr => ∃ (k : Nat) (cur : List Vl), k ≤ l.length ∧ l.length - k ≤ gg ∧ i = .int .i64 k ∧ Hid (RowL encV 2 30 wr w.heap.size w.heap.size l.length l.length cur) ∧ Hid (∀ j, j < k → cur[j]? = l[j]?) ∧ Hid (Below w.heap.size w wr))
  case atStart => exact ⟨0, List.replicate l.length Vl.zero, Nat.zero_le _, by omega, rfl, hrow, fun j hj => absurd hj (by omega), below_box _ _⟩
  case round =>
    obtain ⟨k, cur, hk, hg, rfl, RW, CU, BW⟩ := hrel
    by_cases hlt : k < l.length
    · obtain ⟨ad, rfl, _, hc1, hc2⟩ := (h.below' BW.out hB).val hlt
      have hcl : k < cur.length := by rw [RW.out.1]; exact hlt
      have hup := Lib.hid (upto_step hcl CU.out (List.getElem?_eq_getElem hlt))
      have hge := (RW.out.ge (by omega)).2
      have hstore := Lib.hid (fun (W : World) (hb : Below wr.heap.size wr W) => row_set2 (RW.out.below hb) hcl l[k])
      generalize l[k] = x at hc1 hc2 hup hstore
      obtain ⟨xk, xn⟩ := x
      have i1 : (0 : Int) ≤ k := by omega
      have i2 : (k : Int) < l.length := by omega
      go_wp2_with (go_at_call 52; refine (lToVal ⟨xk, xn⟩ _).mono ?_; rintro e w' ⟨rfl, hb⟩; obtain ⟨⟨y1, hd1⟩, ⟨y2, hd2⟩, hd3, hd4, hd5⟩ := hstore.out _ hb; have hd6 := Lib.hid hd5; clear hd5)
      go_roundg (l.length - (k + 1))
      case measure => omega
      case rel => exact ⟨k + 1, cur.set k ⟨xk, xn⟩, by omega, by omega, by go_num, hd6.out, hup.out, below_set (below_set (below_step BW.out hb) (Nat.le_refl _)) (Nat.le_refl _)⟩
    · have : k = l.length := by omega
      subst this
      have e := upto_end rfl RW.out.1 CU.out
      subst e
      have RR := Lib.hid RW.out.2
      clear RW CU
      go_wp2
      go_ret
      exact ⟨_, rfl, RR.out, BW.out⟩
end Go.Proofs.Ytmidnaafljgbiaa
/- The laws' own copy of a run. -/
namespace Go.Proofs.Ytmidnaafljgbiaa
open Go.RowKit
set_option maxRecDepth 100000

set_option maxHeartbeats 2000000 in
theorem lToRun (r : Rn) (a : RA) (B : Nat) (w : World) (hr : ReadsRun w B r a) (hB : B ≤ w.heap.size) (h1 : r.slots.length ≤ 8796093022208) (h2 : r.mail.length ≤ 8796093022208) (h3 : r.links.length ≤ 17592186044416) (h4 : r.watched.length ≤ 17592186044416) :
    Calls Try.prog 16 #[.agg (runArr r a)] w fun e w' => ∃ s m l o, e = .returned (.agg #[.int .i64 r.id, .int .i64 r.at_, s, .int .i64 r.full, m, .int .i64 r.state, .int .i64 r.due, l, o, .bool r.trap, .int .i64 r.why.k, .int .i64 r.why.n, .int .i64 r.turns]) ∧ OwnRun 30 3 w' w.heap.size r s m l o ∧ Below w.heap.size w w' := by
  obtain ⟨id, at_, slots, full, mail, state, due, links, watched, trap, ⟨wk, wn⟩, turns⟩ := r
  obtain ⟨sA, sC, mA, mC, lA, lC, wA, wC⟩ := a
  have H1 := Lib.hid (fun W (hbb : Below w.heap.size w W) => lToValS slots sA sC B W (hr.slots.below' hbb hB) (Nat.le_trans hB hbb.size) h1)
  have H2 := Lib.hid (fun W (hbb : Below w.heap.size w W) => lToValS mail mA mC B W (hr.mail.below' hbb hB) (Nat.le_trans hB hbb.size) h2)
  have H3 := Lib.hid (fun W (hbb : Below w.heap.size w W) => lToIntS links lA lC B W (hr.links.below' hbb hB) (Nat.le_trans hB hbb.size) h3)
  have H4 := Lib.hid (fun W (hbb : Below w.heap.size w W) => lToIntS watched wA wC B W (hr.watched.below' hbb hB) (Nat.le_trans hB hbb.size) h4)
  clear hr h1 h2 h3 h4
  simp only [runArr]
  go_enter Try.func16, Try.ntmps16
  go_wp2_with (first
    | (go_at_call_of 50 (Value.slice sA slots.length sC); refine (H1.out _ ?p1).mono ?_; (case p1 => repeat (first | exact Below.refl _ _ | apply below_new | (refine below_set ?_ (by first | (simp; done) | omega | (simp; omega))))); rintro e w1 ⟨v1, rfl, ho1, hb1⟩; obtain ⟨A1, c1, rfl, _, _⟩ := ho1.reads; have O1 := Lib.hid (ho1.lower (base' := w.heap.size + 3) (by simp)); clear ho1; obtain ⟨hc1, hf1⟩ := bcell hb1; have hx1 : w.heap.size < w1.heap.size := (by have := hb1.size; simp at this; omega); have hy1 : w.heap.size + 1 < w1.heap.size := (by have := hb1.size; simp at this; omega); have hz1 : w.heap.size + 1 + 1 < w1.heap.size := (by have := hb1.size; simp at this; omega); have B1 : Below w.heap.size w w1 := (below_step (by repeat (first | (with_reducible apply below_new) | (with_reducible exact Below.refl _ _))) hb1))
    | (go_at_call_of 50 (Value.slice mA mail.length mC); refine (H2.out _ ?p2).mono ?_; (case p2 => repeat (first | exact Below.refl _ _ | apply below_new | (refine below_set ?_ (by first | (simp; done) | omega | (simp; omega))) | (refine below_step ?_ hb1))); rintro e w2 ⟨v2, rfl, ho2, hb2⟩; obtain ⟨A2, c2, rfl, _, _⟩ := ho2.reads; have O2 := Lib.hid (ho2.lower (base' := w1.heap.size) (by simp)); clear ho2; obtain ⟨hc2, hf2⟩ := bcell hb2; have hx2 : w.heap.size < w2.heap.size := (by have := hb2.size; simp at this; omega); have hy2 : w.heap.size + 1 < w2.heap.size := (by have := hb2.size; simp at this; omega); have hz2 : w.heap.size + 1 + 1 < w2.heap.size := (by have := hb2.size; simp at this; omega); have M2 : Mid w.heap.size (w.heap.size + 3) w1 w2 := (by refine Mid.below ?_ hb2; repeat (first | (with_reducible refine Mid.set ?_ (by first | exact Nat.le_add_right _ _ | exact Nat.le_trans (Nat.le_add_right _ 1) (Nat.le_add_right _ 1)) (by first | exact Nat.lt_succ_self _ | exact Nat.lt_succ_of_lt (Nat.lt_succ_self _)) _) | (with_reducible exact Mid.refl _ _ _))))
    | (go_at_call_of 51 (Value.slice lA links.length lC); refine (H3.out _ ?p3).mono ?_; (case p3 => repeat (first | exact Below.refl _ _ | apply below_new | (refine below_set ?_ (by first | (simp; done) | omega | (simp; omega))) | (refine below_step ?_ hb2) | (refine below_step ?_ hb1))); rintro e w3 ⟨v3, rfl, ho3, hb3⟩; obtain ⟨A3, c3, rfl, _, _⟩ := ho3.reads; have O3 := Lib.hid (ho3.lower (base' := w2.heap.size) (by simp)); clear ho3; obtain ⟨hc3, hf3⟩ := bcell hb3; have hx3 : w.heap.size < w3.heap.size := (by have := hb3.size; simp at this; omega); have hy3 : w.heap.size + 1 < w3.heap.size := (by have := hb3.size; simp at this; omega); have hz3 : w.heap.size + 1 + 1 < w3.heap.size := (by have := hb3.size; simp at this; omega); have M3 : Mid w.heap.size (w.heap.size + 3) w2 w3 := (by refine Mid.below ?_ hb3; repeat (first | (with_reducible refine Mid.set ?_ (by first | exact Nat.le_add_right _ _ | exact Nat.le_trans (Nat.le_add_right _ 1) (Nat.le_add_right _ 1)) (by first | exact Nat.lt_succ_self _ | exact Nat.lt_succ_of_lt (Nat.lt_succ_self _)) _) | (with_reducible exact Mid.refl _ _ _))))
    | (go_at_call_of 51 (Value.slice wA watched.length wC); refine (H4.out _ ?p4).mono ?_; (case p4 => repeat (first | exact Below.refl _ _ | apply below_new | (refine below_set ?_ (by first | (simp; done) | omega | (simp; omega))) | (refine below_step ?_ hb3) | (refine below_step ?_ hb2) | (refine below_step ?_ hb1))); rintro e w4 ⟨v4, rfl, ho4, hb4⟩; obtain ⟨A4, c4, rfl, _, _⟩ := ho4.reads; have O4 := Lib.hid (ho4.lower (base' := w3.heap.size) (by simp)); clear ho4; obtain ⟨hc4, hf4⟩ := bcell hb4; have hx4 : w.heap.size < w4.heap.size := (by have := hb4.size; simp at this; omega); have hy4 : w.heap.size + 1 < w4.heap.size := (by have := hb4.size; simp at this; omega); have hz4 : w.heap.size + 1 + 1 < w4.heap.size := (by have := hb4.size; simp at this; omega); have M4 : Mid w.heap.size (w.heap.size + 3) w3 w4 := (by refine Mid.below ?_ hb4; repeat (first | (with_reducible refine Mid.set ?_ (by first | exact Nat.le_add_right _ _ | exact Nat.le_trans (Nat.le_add_right _ 1) (Nat.le_add_right _ 1)) (by first | exact Nat.lt_succ_self _ | exact Nat.lt_succ_of_lt (Nat.lt_succ_self _)) _) | (with_reducible exact Mid.refl _ _ _))))
    | (go_at_call 52; refine (lToVal ⟨wk, wn⟩ _).mono ?_; rintro e w5 ⟨rfl, hb5⟩; obtain ⟨hc5, hf5⟩ := bcell hb5; have hx5 : w.heap.size < w5.heap.size := (by have := hb5.size; simp at this; omega); have hy5 : w.heap.size + 1 < w5.heap.size := (by have := hb5.size; simp at this; omega); have hz5 : w.heap.size + 1 + 1 < w5.heap.size := (by have := hb5.size; simp at this; omega); have M5 : Mid w.heap.size (w.heap.size + 3) w4 w5 := (by refine Mid.below ?_ hb5; repeat (first | (with_reducible refine Mid.set ?_ (by first | exact Nat.le_add_right _ _ | exact Nat.le_trans (Nat.le_add_right _ 1) (Nat.le_add_right _ 1)) (by first | exact Nat.lt_succ_self _ | exact Nat.lt_succ_of_lt (Nat.lt_succ_self _)) _) | (with_reducible exact Mid.refl _ _ _)))))
  have s12 : w1.heap.size ≤ w2.heap.size := by have := hb2.size; simpa using this
  have s23 : w2.heap.size ≤ w3.heap.size := by have := hb3.size; simpa using this
  have hfin := Lib.hid (fun (W : World) (M : Mid w.heap.size (w.heap.size + 3) w5 W) => (show OwnRun 30 3 W w.heap.size ⟨id, at_, slots, full, mail, state, due, links, watched, trap, ⟨wk, wn⟩, turns⟩ (.slice A1 slots.length c1) (.slice A2 mail.length c2) (.slice A3 links.length c3) (.slice A4 watched.length c4) ∧ Below w.heap.size w W from
    ⟨⟨(O1.out.mid ((((M2.trans M3).trans M4).trans M5).trans M) (Nat.le_refl _)).lower (by omega), (O2.out.mid (((M3.trans M4).trans M5).trans M) hz1).lower (by omega), (O3.out.mid ((M4.trans M5).trans M) hz2).lower (by omega), (O4.out.mid (M5.trans M) hz3).lower (by omega),
      O1.out.ne O2.out (Nat.le_refl _), O1.out.ne O3.out s12, O1.out.ne O4.out (Nat.le_trans s12 s23), O2.out.ne O3.out (Nat.le_refl _), O2.out.ne O4.out s23, O3.out.ne O4.out (Nat.le_refl _)⟩,
      Mid.low B1 ((((M2.trans M3).trans M4).trans M5).trans M) B1.size⟩))
  refine bodyPost_ret (v := .agg #[.int .i64 id, .int .i64 at_, .slice A1 slots.length c1, .int .i64 full, .slice A2 mail.length c2, .int .i64 state, .int .i64 due, .slice A3 links.length c3, .slice A4 watched.length c4, .bool trap, .int .i64 wk, .int .i64 wn, .int .i64 turns]) (by simp [results, Try.results16, go_sem, hc1, hc2, hc3, hc4, hc5, hy1, hy2, hy3, hy4]) rfl ?_
  exact ⟨_, _, _, _, rfl, hfin.out _ (by repeat (first | (with_reducible refine Mid.set ?_ (by first | exact Nat.le_add_right _ _ | exact Nat.le_trans (Nat.le_add_right _ 1) (Nat.le_add_right _ 1)) (by first | exact Nat.lt_succ_self _ | exact Nat.lt_succ_of_lt (Nat.lt_succ_self _)) _) | (with_reducible exact Mid.refl _ _ _)))⟩
end Go.Proofs.Ytmidnaafljgbiaa
/- The laws' own size and comparison of runs. -/
namespace Go.Proofs.Ytmidnaafljgbiaa
open Go.RowKit
set_option maxRecDepth 100000

/-- How many elements a run's lists have. -/
def sizeR (r : Rn) : Int := r.slots.length + r.mail.length + r.links.length + r.watched.length
/-- What szRun answers. -/
def szR (left : Int) (r : Rn) : Int := if left - r.slots.length < 0 then -1 else if left - r.slots.length - r.mail.length < 0 then -1 else if left - r.slots.length - r.mail.length - r.links.length < 0 then -1 else if left - r.slots.length - r.mail.length - r.links.length - r.watched.length < 0 then -1 else left - r.slots.length - r.mail.length - r.links.length - r.watched.length
theorem szR_size {left : Int} {r : Rn} (h : ¬ szR left r < 0) : sizeR r ≤ left := by
  unfold szR at h
  unfold sizeR
  repeat (split at h; · exact absurd (by decide) h)
  omega
def SzPost (left : Int) (r : Rn) (w : World) (e : Ending) (w' : World) : Prop := e = .returned (.int .i64 (szR left r)) ∧ Below w.heap.size w w'
set_option maxHeartbeats 2000000 in
theorem lSzRun (r : Rn) (a : RA) (left : Int) (w : World) (h0 : 0 ≤ left) (hl : left ≤ 1048576) (n1 : r.slots.length ≤ 140737488355328) (n2 : r.mail.length ≤ 140737488355328) (n3 : r.links.length ≤ 140737488355328) (n4 : r.watched.length ≤ 140737488355328) :
    Calls Try.prog 14 #[.agg (runArr r a), .int .i64 left] w (SzPost left r w) := by
  obtain ⟨id, at_, slots, full, mail, state, due, links, watched, trap, ⟨wk, wn⟩, turns⟩ := r
  obtain ⟨sA, sC, mA, mC, lA, lC, wA, wC⟩ := a
  simp only at n1 n2 n3 n4
  simp only [runArr]
  have S1 := Lib.hid (fun W => lSzValS slots left sA sC W n1 h0 hl)
  by_cases c1 : left - slots.length < 0
  · have fin : Hid (∀ W, Below w.heap.size w W → SzPost left ⟨id, at_, slots, full, mail, state, due, links, watched, trap, ⟨wk, wn⟩, turns⟩ w (.returned (.int .i64 (-1))) W) := fun W hW => ⟨by unfold szR; simp only; rw [if_pos c1], hW⟩
    rw [if_pos c1] at S1
    go_enter Try.func14, Try.ntmps14
    go_wp2_with (first | (go_at_call_of 46 (Value.slice sA slots.length sC); refine (S1.out _).mono ?_; rintro e w' ⟨rfl, rfl⟩))
    go_ret
    exact fin.out _ (below_box _ _)
  rw [if_neg c1] at S1
  have S2 := Lib.hid (fun W => lSzValS mail (left - slots.length) mA mC W n2 (by omega) (by omega))
  by_cases c2 : left - slots.length - mail.length < 0
  · have fin : Hid (∀ W, Below w.heap.size w W → SzPost left ⟨id, at_, slots, full, mail, state, due, links, watched, trap, ⟨wk, wn⟩, turns⟩ w (.returned (.int .i64 (-1))) W) := fun W hW => ⟨by unfold szR; simp only; rw [if_neg c1, if_pos c2], hW⟩
    rw [if_pos c2] at S2
    go_enter Try.func14, Try.ntmps14
    go_wp2_with (first | (go_at_call_of 46 (Value.slice sA slots.length sC); refine (S1.out _).mono ?_; rintro e w' ⟨rfl, rfl⟩) | (go_at_call_of 46 (Value.slice mA mail.length mC); refine (S2.out _).mono ?_; rintro e w' ⟨rfl, rfl⟩))
    go_ret
    exact fin.out _ (below_box _ _)
  rw [if_neg c2] at S2
  have S3 := Lib.hid (fun W => lSzIntS links (left - slots.length - mail.length) lA lC W n3 (by omega) (by omega))
  by_cases c3 : left - slots.length - mail.length - links.length < 0
  · have fin : Hid (∀ W, Below w.heap.size w W → SzPost left ⟨id, at_, slots, full, mail, state, due, links, watched, trap, ⟨wk, wn⟩, turns⟩ w (.returned (.int .i64 (-1))) W) := fun W hW => ⟨by unfold szR; simp only; rw [if_neg c1, if_neg c2, if_pos c3], hW⟩
    rw [if_pos c3] at S3
    go_enter Try.func14, Try.ntmps14
    go_wp2_with (first | (go_at_call_of 46 (Value.slice sA slots.length sC); refine (S1.out _).mono ?_; rintro e w' ⟨rfl, rfl⟩) | (go_at_call_of 46 (Value.slice mA mail.length mC); refine (S2.out _).mono ?_; rintro e w' ⟨rfl, rfl⟩) | (go_at_call_of 47 (Value.slice lA links.length lC); refine (S3.out _).mono ?_; rintro e w' ⟨rfl, rfl⟩))
    go_ret
    exact fin.out _ (below_box _ _)
  rw [if_neg c3] at S3
  have S4 := Lib.hid (fun W => lSzIntS watched (left - slots.length - mail.length - links.length) wA wC W n4 (by omega) (by omega))
  by_cases c4 : left - slots.length - mail.length - links.length - watched.length < 0
  · have fin : Hid (∀ W, Below w.heap.size w W → SzPost left ⟨id, at_, slots, full, mail, state, due, links, watched, trap, ⟨wk, wn⟩, turns⟩ w (.returned (.int .i64 (-1))) W) := fun W hW => ⟨by unfold szR; simp only; rw [if_neg c1, if_neg c2, if_neg c3, if_pos c4], hW⟩
    rw [if_pos c4] at S4
    go_enter Try.func14, Try.ntmps14
    go_wp2_with (first | (go_at_call_of 46 (Value.slice sA slots.length sC); refine (S1.out _).mono ?_; rintro e w' ⟨rfl, rfl⟩) | (go_at_call_of 46 (Value.slice mA mail.length mC); refine (S2.out _).mono ?_; rintro e w' ⟨rfl, rfl⟩) | (go_at_call_of 47 (Value.slice lA links.length lC); refine (S3.out _).mono ?_; rintro e w' ⟨rfl, rfl⟩) | (go_at_call_of 47 (Value.slice wA watched.length wC); refine (S4.out _).mono ?_; rintro e w' ⟨rfl, rfl⟩))
    go_ret
    exact fin.out _ (below_box _ _)
  rw [if_neg c4] at S4
  have fin : Hid (∀ W, Below w.heap.size w W → SzPost left ⟨id, at_, slots, full, mail, state, due, links, watched, trap, ⟨wk, wn⟩, turns⟩ w (.returned (.int .i64 (left - slots.length - mail.length - links.length - watched.length))) W) := fun W hW => ⟨by unfold szR; simp only; rw [if_neg c1, if_neg c2, if_neg c3, if_neg c4], hW⟩
  go_enter Try.func14, Try.ntmps14
  go_wp2_with (first | (go_at_call_of 46 (Value.slice sA slots.length sC); refine (S1.out _).mono ?_; rintro e w' ⟨rfl, rfl⟩) | (go_at_call_of 46 (Value.slice mA mail.length mC); refine (S2.out _).mono ?_; rintro e w' ⟨rfl, rfl⟩) | (go_at_call_of 47 (Value.slice lA links.length lC); refine (S3.out _).mono ?_; rintro e w' ⟨rfl, rfl⟩) | (go_at_call_of 47 (Value.slice wA watched.length wC); refine (S4.out _).mono ?_; rintro e w' ⟨rfl, rfl⟩))
  go_ret
  exact fin.out _ (below_box _ _)

set_option maxHeartbeats 2000000 in
theorem lEqRun (r : Rn) (a b : RA) (B : Nat) (w : World) (hr : ReadsRun w B r a) (hr' : ReadsRun w B r b) (hB : B ≤ w.heap.size) :
    Calls Try.prog 18 #[.agg (runArr r a), .agg (runArr r b)] w fun e w' => e = .returned (.bool true) ∧ Below w.heap.size w w' := by
  obtain ⟨id, at_, slots, full, mail, state, due, links, watched, trap, ⟨wk, wn⟩, turns⟩ := r
  obtain ⟨sA, sC, mA, mC, lA, lC, wA, wC⟩ := a
  obtain ⟨sA', sC', mA', mC', lA', lC', wA', wC'⟩ := b
  have H1 := Lib.hid (fun W (hbb : Below w.heap.size w W) => lEqValS slots sA sA' sC sC' B W (hr.slots.below' hbb hB) (hr'.slots.below' hbb hB) (Nat.le_trans hB hbb.size))
  have H2 := Lib.hid (fun W (hbb : Below w.heap.size w W) => lEqValS mail mA mA' mC mC' B W (hr.mail.below' hbb hB) (hr'.mail.below' hbb hB) (Nat.le_trans hB hbb.size))
  have H3 := Lib.hid (fun W (hbb : Below w.heap.size w W) => lEqIntS links lA lA' lC lC' B W (hr.links.below' hbb hB) (hr'.links.below' hbb hB) (Nat.le_trans hB hbb.size))
  have H4 := Lib.hid (fun W (hbb : Below w.heap.size w W) => lEqIntS watched wA wA' wC wC' B W (hr.watched.below' hbb hB) (hr'.watched.below' hbb hB) (Nat.le_trans hB hbb.size))
  clear hr hr'
  simp only [runArr]
  go_enter Try.func18, Try.ntmps18
  go_wp2_with (first
    | (go_at_call_of 55 (Value.slice sA slots.length sC); refine (H1.out _ ?p1).mono ?_; (case p1 => repeat (first | (with_reducible apply below_new) | (with_reducible exact Below.refl _ _))); rintro e w1 ⟨rfl, hb1⟩; have B1 : Below w.heap.size w w1 := (below_step (by repeat (first | (with_reducible apply below_new) | (with_reducible exact Below.refl _ _))) hb1); obtain ⟨hc1, hf1⟩ := bcell hb1)
    | (go_at_call_of 55 (Value.slice mA mail.length mC); refine (H2.out _ B1).mono ?_; rintro e w2 ⟨rfl, hb2⟩; have B2 := below_step B1 hb2; have hx1 : w.heap.size < w1.heap.size := (by have := hb1.size; simp at this; omega); have hy1 : w.heap.size + 1 < w1.heap.size := (by have := hb1.size; simp at this; omega); obtain ⟨hc2, hf2⟩ := bcell hb2)
    | (go_at_call_of 56 (Value.slice lA links.length lC); refine (H3.out _ B2).mono ?_; rintro e w3 ⟨rfl, hb3⟩; have B3 := below_step B2 hb3; have hx2 : w.heap.size < w2.heap.size := (by have := hb2.size; omega); have hy2 : w.heap.size + 1 < w2.heap.size := (by have := hb2.size; omega); obtain ⟨hc3, hf3⟩ := bcell hb3)
    | (go_at_call_of 56 (Value.slice wA watched.length wC); refine (H4.out _ B3).mono ?_; rintro e w4 ⟨rfl, hb4⟩; have B4 := below_step B3 hb4; have hx3 : w.heap.size < w3.heap.size := (by have := hb3.size; omega); have hy3 : w.heap.size + 1 < w3.heap.size := (by have := hb3.size; omega); obtain ⟨hc4, hf4⟩ := bcell hb4)
    | (go_at_call 19; refine (lEqVal ⟨wk, wn⟩ _).mono ?_; rintro e w5 ⟨rfl, hb5⟩; have B5 := below_step B4 hb5; have hx4 : w.heap.size < w4.heap.size := (by have := hb4.size; omega); have hy4 : w.heap.size + 1 < w4.heap.size := (by have := hb4.size; omega); obtain ⟨hc5, hf5⟩ := bcell hb5))
  go_ways
  go_ret
  exact ⟨rfl, B5⟩
end Go.Proofs.Ytmidnaafljgbiaa
/- The laws' own sizes of worlds; rows that a law is given; rows that are filled one by one. -/
namespace Go.Proofs.Ytmidnaafljgbiaa
open Go.RowKit
set_option maxRecDepth 100000

section
variable {w0 w w' : World} {B n : Nat} {A : Option Addr}
theorem ReadsL.op {xs : List Opx} (h : ReadsL encO 6 w B A n xs) {j : Nat} (hj : j < xs.length) :
    ∃ ad, A = some ad ∧ ad.block < B ∧ w.cell? (ad.add (j * 6)) = some (.int .i64 xs[j].k) ∧ w.cell? ⟨(ad.add (j * 6)).block, (ad.add (j * 6)).off + 1, none⟩ = some (.int .i64 xs[j].r) ∧ w.cell? ⟨(ad.add (j * 6)).block, (ad.add (j * 6)).off + 2, none⟩ = some (.int .i64 xs[j].s) ∧
      w.cell? ⟨(ad.add (j * 6)).block, (ad.add (j * 6)).off + 3, none⟩ = some (.int .i64 xs[j].to) ∧ w.cell? ⟨(ad.add (j * 6)).block, (ad.add (j * 6)).off + 4, none⟩ = some (.int .i64 xs[j].v.k) ∧ w.cell? ⟨(ad.add (j * 6)).block, (ad.add (j * 6)).off + 5, none⟩ = some (.int .i64 xs[j].v.n) := by
  obtain ⟨ad, e, hb, hc⟩ := h.row encO_length hj
  refine ⟨ad, e, hb, by have := hc 0 _ rfl; rwa [add_of_add] at this, ?_, ?_, ?_, ?_, ?_⟩
  · rw [add_succ, ← add_of_add]; exact hc 1 _ rfl
  · rw [add_succ, ← add_of_add]; exact hc 2 _ rfl
  · rw [add_succ, ← add_of_add]; exact hc 3 _ rfl
  · rw [add_succ, ← add_of_add]; exact hc 4 _ rfl
  · rw [add_succ, ← add_of_add]; exact hc 5 _ rfl
/-- The cells of a run that a law is given, behind the first. -/
def RunCells (w : World) (a : Addr) (r : Rn) (ra : RA) : Prop :=
  w.cell? a = some (.int .i64 r.id) ∧ w.cell? ⟨a.block, a.off + 1, none⟩ = some (.int .i64 r.at_) ∧ w.cell? ⟨a.block, a.off + 2, none⟩ = some (.slice ra.sA r.slots.length ra.sC) ∧ w.cell? ⟨a.block, a.off + 3, none⟩ = some (.int .i64 r.full) ∧
  w.cell? ⟨a.block, a.off + 4, none⟩ = some (.slice ra.mA r.mail.length ra.mC) ∧ w.cell? ⟨a.block, a.off + 5, none⟩ = some (.int .i64 r.state) ∧ w.cell? ⟨a.block, a.off + 6, none⟩ = some (.int .i64 r.due) ∧ w.cell? ⟨a.block, a.off + 7, none⟩ = some (.slice ra.lA r.links.length ra.lC) ∧
  w.cell? ⟨a.block, a.off + 8, none⟩ = some (.slice ra.wA r.watched.length ra.wC) ∧ w.cell? ⟨a.block, a.off + 9, none⟩ = some (.bool r.trap) ∧ w.cell? ⟨a.block, a.off + 10, none⟩ = some (.int .i64 r.why.k) ∧ w.cell? ⟨a.block, a.off + 11, none⟩ = some (.int .i64 r.why.n) ∧ w.cell? ⟨a.block, a.off + 12, none⟩ = some (.int .i64 r.turns)
theorem ReadsL.run {xs : List (Rn × RA)} (h : ReadsL encR 13 w B A n xs) {j : Nat} (hj : j < xs.length) :
    ∃ ad, A = some ad ∧ ad.block < B ∧ RunCells w (ad.add (j * 13)) xs[j].1 xs[j].2 := by
  obtain ⟨ad, e, hb, hc⟩ := h.row encR_length hj
  have key : ∀ i u, (encR xs[j])[i + 1]? = some u → w.cell? ⟨(ad.add (j * 13)).block, (ad.add (j * 13)).off + (i + 1), none⟩ = some u := fun i u hu => by
    rw [add_succ, ← add_of_add]; exact hc _ _ hu
  exact ⟨ad, e, hb, by have := hc 0 _ rfl; rwa [add_of_add] at this, key 0 _ rfl, key 1 _ rfl, key 2 _ rfl, key 3 _ rfl, key 4 _ rfl, key 5 _ rfl, key 6 _ rfl, key 7 _ rfl, key 8 _ rfl, key 9 _ rfl, key 10 _ rfl, key 11 _ rfl⟩
end
/-! A row that is filled one by one. -/
section
variable {α : Type}
theorem takeS (l : List α) {k : Nat} (hk : k < l.length) : l.take (k + 1) = l.take k ++ [l[k]] := by rw [List.take_add_one, List.getElem?_eq_getElem hk]; rfl
end
section
variable {P : Program} {ops : Array Oper} {rest : List Oper} {Q : Exit → Act → World → Prop} {a : Act} {x y : Operand} {ty tt : TypeId} {pos : String} {after : Array Edge} {gd : Option (Nat × Bool)}
variable {α : Type} {enc : α → List Value} {m : Nat} {t : TypeId} {c : Nat} {xs : List α} {w0 w : World} {f : List Nat} {L L' : List Asn}
/-- A whole element is stored into a row. -/
theorem ev_put_row (x' : α) (hk : ∀ x, (enc x).length = m) (hone : ∀ x, ∀ u ∈ enc x, u.oneCell' = true) (M : Mem w0 f w L) {v : Value} {g off k : Nat} (hw : Region.wanted ⟨none, .store tt x y, ty, pos, after, gd⟩ (yielded ops a.tmps) = true) (hx : a.eval x = .pointer (some ⟨g, off, none⟩)) (hy : a.eval y = v) (hv : v.cells = (enc x').toArray)
    (hs : (P.info? tt).map (·.size) = some m) (hd : Del (row enc m t (some ⟨g, 0, none⟩) c xs) L L') (ho : off = k * m) (hlt : k < xs.length)
    (h : ∀ w1, Mem w0 f w1 (row enc m t (some ⟨g, 0, none⟩) c (xs.set k x') :: L') → wpList P ops Q rest a w1) : wpList P ops Q (⟨none, .store tt x y, ty, pos, after, gd⟩ :: rest) a w := by
  refine ev_store_row (j := 0) (k := k) (x' := x') hk hw hx hy hv (by rw [hs, hk]) (hone x') M hd (by rw [ho, Nat.add_zero]) hlt (by rw [Nat.zero_add, hk]; exact Nat.le_refl _) ?_ h
  unfold splice
  simp only [List.take_zero, List.nil_append, Nat.zero_add]
  rw [List.drop_eq_nil_of_le (by rw [hk, hk]; exact Nat.le_refl _), List.append_nil]
end

/-! Sizes. -/
def sizesR : List Rn → Int
  | [] => 0
  | r :: l => sizeR r + sizesR l
end Go.Proofs.Ytmidnaafljgbiaa
