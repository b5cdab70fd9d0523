/- Parts of the proof, in one text. -/
import Derived.Deep.RegionWith
import Derived.Test.YtmidnaafljgbiaaB39
import Derived.Test.YtmidnaafljgbiaaB37
/- A list appended to an empty row: a copy of the call's own. -/
namespace Go.Proofs.Ytmidnaafljgbiaa
open Go.RowKit
set_option maxRecDepth 100000

/-- A nil list has no room. -/
def NilZ (a : RA) : Prop := (a.sA = none → a.sC = 0) ∧ (a.mA = none → a.mC = 0) ∧ (a.lA = none → a.lC = 0) ∧ (a.wA = none → a.wC = 0)
theorem wpList_copy {α : Type} {enc : α → List Value} {m : Nat} (hk : ∀ x, (enc x).length = m) (hone : ∀ x, ∀ u ∈ enc x, u.oneCell' = true) {P : Program} (w : World) {ops : Array Oper} {rest : List Oper} {o : Oper} {a : Act} {Q : Exit → Act → World → Prop} (hgd : o.guard = none) (s x : Operand) (t : TypeId)
    (ho : o.op = .call { callee := .builtin .append, args := #[s, x], argTypes := #[t, t] })
    (e : TypeId) (z : Value) (bytes : Nat) (ht : P.underlying t = some (.slice e)) (hinfo : (P.info? e).map (fun i => (i.zero, i.size, i.bytes)) = some (some z, m, bytes)) (hzs : z.cells.size = m) (h0 : 0 < m)
    (g base B : Nat) (hb : base ≤ g) (hB : base ≤ w.heap.size) (hg : w.heap[g]? = some (.cells #[] e)) (hs : a.eval s = .slice (some ⟨g, 0, none⟩) 0 0) (l : List α) (A : Option Addr) (c : Nat) (hx : a.eval x = .slice A l.length c) (hr : ReadsL enc m w B A l.length l) (hz : A = none → c = 0) (hby : l.length * bytes ≤ 140737488355328)
    (K : ∀ v' w', OwnL enc m e w' base v' l → w.grownBy w' (some g) → wpList P ops Q rest (a.put o.dst v') w') : wpList P ops Q (o :: rest) a w := by
  obtain ⟨i, hi, hzz⟩ := Option.map_eq_some_iff.1 hinfo
  simp only [Prod.mk.injEq] at hzz
  obtain ⟨hz0, hz1, hz2⟩ := hzz
  have hrow : w.ownsRow base e m (.slice (some ⟨g, 0, none⟩) 0 0) 0 [] := ⟨by simp, .inr ⟨g, 0, #[], rfl, hb, hg, Nat.le_refl _, by simp [maxLen], by simp, by simp⟩⟩
  have hn := hr.2.1
  cases A with
  | none =>
    have hl : l.length = 0 := by
      by_cases hp : 0 < l.length
      · obtain ⟨_, e, _⟩ := hr.2.2.2 hp
        cases e
      · omega
    obtain rfl : l = [] := List.length_eq_zero_iff.1 hl
    obtain rfl := hz rfl
    exact wpList_append_fits_any w hgd s x t ho base e i m ht hi hz1 g 0 0 [] hs hrow none 0 0 [] hx (by simp) (fun _ => ⟨rfl, rfl⟩) (fun ad h => by cases h) (fun u hu => by cases hu) (Nat.le_refl _) fun w' hw' hg' => K _ w' ⟨by simp, hw'⟩ hg'
  | some ad =>
    refine wpList_append_own w hgd s x t ho base e i z m bytes ht hi hz0 hz1 hz2 hzs h0 _ 0 [] hs hrow ad l.length c (flat enc l) hx (flat_length hk l) ?_ ?_ (by unfold maxLen; omega) (by rw [Nat.zero_add]; exact hby) hB fun v' w' hw' hg' _ => K v' w' ⟨hn, by simpa using hw'⟩ hg'
    · intro j u hu
      have hp : 0 < l.length := by
        by_cases hp : 0 < l.length
        · exact hp
        · obtain rfl : l = [] := List.length_eq_zero_iff.1 (by omega)
          simp [flat] at hu
      obtain ⟨ad', e, _, hc⟩ := hr.2.2.2 hp
      injection e with e
      subst e
      exact hc j u hu
    · intro u hu
      obtain ⟨y, _, hy⟩ := List.mem_flatMap.1 hu
      exact hone y u hy
end Go.Proofs.Ytmidnaafljgbiaa
/- The reference's copy of a run. -/
namespace Go.Proofs.Ytmidnaafljgbiaa
open Go.RowKit
set_option maxRecDepth 100000

theorem honeV (x : Vl) : ∀ u ∈ encV x, u.oneCell' = true := by
  intro u hx
  simp only [encV, List.mem_cons, List.not_mem_nil, _root_.or_false] at hx
  rcases hx with rfl | rfl <;> rfl
theorem honeI (x : Int) : ∀ u ∈ encI x, u.oneCell' = true := by
  intro u hx
  simp only [encI, List.mem_cons, List.not_mem_nil, _root_.or_false] at hx
  subst hx
  rfl
theorem grown_box {W w1 : World} {o : Obj} {g : Nat} (hg : (W.alloc o).grownBy w1 (some g)) (e : g = W.heap.size) : Below W.heap.size W w1 := by
  subst e
  exact (below_box W _).trans ⟨hg.os, hg.tape, hg.output, hg.size, fun k hk => hg.block k (by simp; omega) (fun e => by injection e with e; omega)⟩
theorem heap_new_at {W : World} {o : Obj} {g : Nat} (e : g = W.heap.size) : (W.alloc o).heap[g]? = some o := by
  subst e
  exact heap_alloc_new W o

set_option maxHeartbeats 2000000 in
theorem sCopy (r : Rn) (a : RA) (B : Nat) (w : World) (hr : ReadsRun w B r a) (hB : B ≤ w.heap.size) (hz : NilZ a) (h1 : r.slots.length ≤ 8796093022208) (h2 : r.mail.length ≤ 8796093022208) (h3 : r.links.length ≤ 17592186044416) (h4 : r.watched.length ≤ 17592186044416) :
    Calls Try.prog 49 #[.agg (runArr r a)] w fun e w' => ∃ b : RA, e = .returned (.agg (runArr r b)) ∧ OwnA w' w.heap.size r b ∧ Below w.heap.size w w' := by
  obtain ⟨id, at_, slots, full, mail, state, due, links, watched, trap, ⟨wk, wn⟩, turns⟩ := r
  obtain ⟨sA, sC, mA, mC, lA, lC, wA, wC⟩ := a
  obtain ⟨z1, z2, z3, z4⟩ := hz
  have H1 := Lib.hid (fun W (hbb : Below w.heap.size w W) => hr.slots.below' hbb hB)
  have H2 := Lib.hid (fun W (hbb : Below w.heap.size w W) => hr.mail.below' hbb hB)
  have H3 := Lib.hid (fun W (hbb : Below w.heap.size w W) => hr.links.below' hbb hB)
  have H4 := Lib.hid (fun W (hbb : Below w.heap.size w W) => hr.watched.below' hbb hB)
  have Z1 := Lib.hid z1
  have Z2 := Lib.hid z2
  have Z3 := Lib.hid z3
  have Z4 := Lib.hid z4
  clear hr z1 z2 z3 z4
  simp only [runArr] at H1 H2 H3 H4 Z1 Z2 Z3 Z4 h1 h2 h3 h4 ⊢
  have s0 : w.heap.size < w.heap.size + 1 + 1 := by omega
  have s1 : w.heap.size + 1 < w.heap.size + 1 + 1 := by omega
  go_enter Try.func49, Try.ntmps49
  go_wp2_with (first
    | (at_builtin; refine wpList_copy encI_length honeI _ rfl _ _ 23 rfl 3 (.int .i64 0) 8 Try.underlying23 infoI rfl (by decide) w3.heap.size w3.heap.size B (Nat.le_refl _) (by simp) (heap_new_at (by simp)) rfl watched wA wC rfl (H4.out _ ?p4) Z4.out (by omega) ?_; (case p4 => exact below_new (below_set B3 (Nat.le_refl _)) _); intro v4 w4 o4 g4; have hb4 := grown_box g4 (by simp); clear g4; obtain ⟨A4, c4, rfl, _, _⟩ := o4.reads; have O4 := Lib.hid o4; clear o4; obtain ⟨hc4, hf4⟩ := bcell hb4; have M4 : Mid w.heap.size (w.heap.size + 1 + 1) w3 w4 := Mid.below (Mid.set (Mid.refl _ _ _) (Nat.le_refl _) (Nat.lt_succ_of_lt (Nat.lt_succ_self _)) _) hb4; have B4 := Mid.low B3 M4 B3.size; have x4 : w.heap.size < w4.heap.size := Nat.lt_of_lt_of_le x3 M4.size; have y4 : w.heap.size + 1 < w4.heap.size := Nat.lt_of_lt_of_le y3 M4.size)
    | (at_builtin; refine wpList_copy encI_length honeI _ rfl _ _ 23 rfl 3 (.int .i64 0) 8 Try.underlying23 infoI rfl (by decide) w2.heap.size w2.heap.size B (Nat.le_refl _) (by simp) (heap_new_at (by simp)) rfl links lA lC rfl (H3.out _ ?p3) Z3.out (by omega) ?_; (case p3 => exact below_new (below_set B2 (Nat.le_refl _)) _); intro v3 w3 o3 g3; have hb3 := grown_box g3 (by simp); clear g3; obtain ⟨A3, c3, rfl, _, _⟩ := o3.reads; have O3 := Lib.hid o3; clear o3; obtain ⟨hc3, hf3⟩ := bcell hb3; have M3 : Mid w.heap.size (w.heap.size + 1 + 1) w2 w3 := Mid.below (Mid.set (Mid.refl _ _ _) (Nat.le_refl _) (Nat.lt_succ_of_lt (Nat.lt_succ_self _)) _) hb3; have B3 := Mid.low B2 M3 B2.size; have x3 : w.heap.size < w3.heap.size := Nat.lt_of_lt_of_le x2 M3.size; have y3 : w.heap.size + 1 < w3.heap.size := Nat.lt_of_lt_of_le y2 M3.size)
    | (at_builtin; refine wpList_copy encV_length honeV _ rfl _ _ 29 rfl 30 (.agg #[.int .i64 0, .int .i64 0]) 16 Try.underlying29 infoV rfl (by decide) w1.heap.size w1.heap.size B (Nat.le_refl _) (by simp) (heap_new_at (by simp)) rfl mail mA mC rfl (H2.out _ ?p2) Z2.out (by omega) ?_; (case p2 => exact below_new (below_set B1 (Nat.le_refl _)) _); intro v2 w2 o2 g2; have hb2 := grown_box g2 (by simp); clear g2; obtain ⟨A2, c2, rfl, _, _⟩ := o2.reads; have O2 := Lib.hid o2; clear o2; obtain ⟨hc2, hf2⟩ := bcell hb2; have M2 : Mid w.heap.size (w.heap.size + 1 + 1) w1 w2 := Mid.below (Mid.set (Mid.refl _ _ _) (Nat.le_refl _) (Nat.lt_succ_of_lt (Nat.lt_succ_self _)) _) hb2; have B2 := Mid.low B1 M2 B1.size; have x2 : w.heap.size < w2.heap.size := Nat.lt_of_lt_of_le x1 M2.size; have y2 : w.heap.size + 1 < w2.heap.size := Nat.lt_of_lt_of_le y1 M2.size)
    | (at_builtin; refine wpList_copy encV_length honeV _ rfl _ _ 29 rfl 30 (.agg #[.int .i64 0, .int .i64 0]) 16 Try.underlying29 infoV rfl (by decide) (w.heap.size + 1 + 1) (w.heap.size + 1 + 1) B (Nat.le_refl _) (by simp) (heap_new_at (by simp)) rfl slots sA sC rfl (H1.out _ ?p1) Z1.out (by omega) ?_; (case p1 => repeat (first | (with_reducible apply below_new) | (with_reducible exact Below.refl _ _))); intro v1 w1 o1 g1; have hb1 := grown_box g1 (by simp); clear g1; obtain ⟨A1, c1, rfl, _, _⟩ := o1.reads; have O1 := Lib.hid o1; clear o1; obtain ⟨hc1, hf1⟩ := bcell hb1; have B1 : Below w.heap.size w w1 := below_step (below_new (below_box _ _) _) hb1; have x1 : w.heap.size < w1.heap.size := (by have := hb1.size; simp at this; omega); have y1 : w.heap.size + 1 < w1.heap.size := (by have := hb1.size; simp at this; omega)))
  have y1' : w.heap.size + 1 + 1 ≤ w1.heap.size := y1
  have s12 := M2.size
  have s23 := M3.size
  have hfin := Lib.hid (fun (W : World) (M : Mid w.heap.size (w.heap.size + 1 + 1) w4 W) => (show OwnA W w.heap.size ⟨id, at_, slots, full, mail, state, due, links, watched, trap, ⟨wk, wn⟩, turns⟩ ⟨A1, c1, A2, c2, A3, c3, A4, c4⟩ ∧ Below w.heap.size w W from
    ⟨⟨(O1.out.mid (((M2.trans M3).trans M4).trans M) (Nat.le_refl _)).lower (by omega), (O2.out.mid ((M3.trans M4).trans M) y1').lower (by omega), (O3.out.mid (M4.trans M) (Nat.le_trans y1' s12)).lower (by omega), (O4.out.mid M (Nat.le_trans y1' (Nat.le_trans s12 s23))).lower (by omega),
      O1.out.ne O2.out (Nat.le_refl _), O1.out.ne O3.out s12, O1.out.ne O4.out (Nat.le_trans s12 s23), O2.out.ne O3.out (Nat.le_refl _), O2.out.ne O4.out s23, O3.out.ne O4.out (Nat.le_refl _)⟩,
      Mid.low B4 M B4.size⟩))
  refine bodyPost_ret (v := .agg #[.int .i64 id, .int .i64 at_, .slice A1 slots.length c1, .int .i64 full, .slice A2 mail.length c2, .int .i64 state, .int .i64 due, .slice A3 links.length c3, .slice A4 watched.length c4, .bool trap, .int .i64 wk, .int .i64 wn, .int .i64 turns]) (by simp [results, Try.results49, go_sem, hc1, hc2, hc3, hc4, s1, y1, y2, y3]) rfl ?_
  refine ⟨⟨A1, c1, A2, c2, A3, c3, A4, c4⟩, rfl, hfin.out _ ?_⟩
  repeat (first | (with_reducible refine Mid.set ?_ (by first | exact Nat.le_refl _ | exact Nat.le_add_right _ _) (by first | exact Nat.lt_succ_of_lt (Nat.lt_succ_self _) | exact Nat.lt_succ_self _) _) | (with_reducible exact Mid.refl _ _ _))
end Go.Proofs.Ytmidnaafljgbiaa
/- A new run on both sides: the run that is made when all is valid. -/
namespace Go.Proofs.Ytmidnaafljgbiaa
open Go.RowKit
set_option maxRecDepth 100000

theorem NeB.none_right (v : Value) : NeB v (.slice none 0 0) := fun _ _ h => by cases h
def OwnPost (r : Rn) (ok : Bool) (w : World) (e : Ending) (w' : World) : Prop := ∃ a : RA, e = .returned (.tuple #[.agg (runArr r a), .bool ok]) ∧ OwnA w' w.heap.size r a ∧ Below w.heap.size w w'
def ReadPost (r : Rn) (ok : Bool) (w : World) (e : Ending) (w' : World) : Prop := ∃ a : RA, e = .returned (.tuple #[.agg (runArr r a), .bool ok]) ∧ ReadsRun w' w'.heap.size r a ∧ Below w.heap.size w w'
theorem own_zero (w w' : World) : OwnA w' w.heap.size Rn.zero ⟨none, 0, none, 0, none, 0, none, 0⟩ :=
  ⟨OwnL.nil _ _, OwnL.nil _ _, OwnL.nil _ _, OwnL.nil _ _, NeB.none_right _, NeB.none_right _, NeB.none_right _, NeB.none_right _, NeB.none_right _, NeB.none_right _⟩
theorem OwnPost.read {r : Rn} {ok : Bool} {w w' : World} {e : Ending} (h : OwnPost r ok w e w') : ReadPost r ok w e w' := by
  obtain ⟨a, he, ho, hb⟩ := h
  obtain ⟨b, e1, e2, e3, e4, hr⟩ := ho.reads
  injection e1 with a1 _ c1
  injection e2 with a2 _ c2
  injection e3 with a3 _ c3
  injection e4 with a4 _ c4
  obtain ⟨sA, sC, mA, mC, lA, lC, wA, wC⟩ := a
  obtain ⟨sA', sC', mA', mC', lA', lC', wA', wC'⟩ := b
  simp only at a1 c1 a2 c2 a3 c3 a4 c4
  subst a1 c1 a2 c2 a3 c3 a4 c4
  exact ⟨_, he, hr, hb⟩
end Go.Proofs.Ytmidnaafljgbiaa
