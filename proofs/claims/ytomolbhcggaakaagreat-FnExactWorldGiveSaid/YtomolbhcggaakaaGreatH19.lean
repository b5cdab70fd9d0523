/- Parts of the proof, in one text. -/
import Derived.Deep.RegionWith
import Derived.Deep.DrawnRows
import Derived.Test.YtomolbhcggaakaaGreatH18
import Derived.Test.YtomolbhcggaakaaGreatH16
import Derived.Test.YtomolbhcggaakaaGreatH17
/- Who falls, who is told, what is lost. No Go and no memory here. -/
namespace Go.Proofs.YtomolbhcggaakaaGreat

theorem sumR_le {g : Rn → Nat} {l m : List Rn} (hl : l.length = m.length) (h : ∀ x : Int, 1 ≤ x → x ≤ l.length → g (getR l x) ≤ g (getR m x)) : sumR g l ≤ sumR g m := by
  induction l generalizing m with
  | nil => simp [sumR]
  | cons r l ih =>
    cases m with
    | nil => simp at hl
    | cons s m =>
      have h1 := h 1 (by omega) (by simp; omega)
      have e1 : getR (r :: l) 1 = r := rfl
      have e2 : getR (s :: m) 1 = s := rfl
      rw [e1, e2] at h1
      have := ih (m := m) (by simpa using hl) (fun x x1 x2 => by
        have := h (x + 1) (by omega) (by simp; omega)
        have e3 : ∀ (y : Rn) (q : List Rn), getR (y :: q) (x + 1) = getR q x := by
          intro y q
          unfold getR
          rw [show (x + 1 - 1).toNat = (x - 1).toNat + 1 by omega]
          rfl
        rwa [e3, e3] at this)
      simp only [sumR]
      omega
theorem sumR_set {g : Rn → Nat} {l : List Rn} {k : Nat} (hk : k < l.length) (r : Rn) : sumR g (l.set k r) + g l[k] = sumR g l + g r := by
  induction l generalizing k with
  | nil => simp at hk
  | cons x l ih =>
    cases k with
    | zero => simp only [List.set_cons_zero, sumR, List.getElem_cons_zero]; omega
    | succ k => have := ih (k := k) (by simpa using hk); simp only [List.set_cons_succ, sumR, List.getElem_cons_succ]; omega
theorem sumR_down {g : Rn → Nat} {l m : List Rn} (hl : l.length = m.length) (h : ∀ x : Int, 1 ≤ x → x ≤ l.length → g (getR l x) ≤ g (getR m x)) {id : Int} (i1 : 1 ≤ id) (i2 : id ≤ l.length) {c : Nat} (hc : g (getR l id) + c ≤ g (getR m id)) : sumR g l + c ≤ sumR g m := by
  -- the run at id laid into m
  have hk : (id - 1).toNat < m.length := by omega
  have e := sumR_set (g := g) hk (getR l id)
  rw [← mem_getR i1 (by omega)] at e
  have := sumR_le (g := g) (l := l) (m := m.set (id - 1).toNat (getR l id)) (by simp [hl]) (fun x x1 x2 => by
    have e2 := getR_updR (l := m) i1 (by omega) x1 (fun _ => getR l id)
    unfold updR at e2
    rw [e2]
    split
    · rename_i e3
      rw [e3]
      exact Nat.le_refl _
    · exact h x x1 x2)
  omega
theorem len6 {l : List Int} {own : Int} (h : idsOk l own = true) : l.length ≤ 6 := by
  obtain ⟨h1, h2⟩ := idsOk_iff.1 h
  refine length_of_sub (b := [1, 2, 3, 4, 5, 6]) h2 (fun x hx => ?_)
  have := h1 x hx
  simp only [List.mem_cons, List.not_mem_nil, or_false]
  omega
theorem live_le {w : Wd} (h : WOk w) : sumR liveW w.runs ≤ 6 := by
  have : ∀ l : List Rn, sumR liveW l ≤ l.length := by
    intro l
    induction l with
    | nil => simp [sumR]
    | cons r l ih => simp only [sumR, List.length_cons, liveW]; split <;> omega
  have := this w.runs
  have := h.len.2
  omega

/-! ### What giving leaves as it is -/
theorem giveAll_fields (id : Int) : ∀ (l : List Int) (w : Wd) {x : Int}, 1 ≤ x →
    (getR (giveAll id w l).runs x).at_ = (getR w.runs x).at_ ∧ (getR (giveAll id w l).runs x).slots = (getR w.runs x).slots ∧ (getR (giveAll id w l).runs x).links = (getR w.runs x).links ∧ (getR (giveAll id w l).runs x).watched = (getR w.runs x).watched ∧
    (getR (giveAll id w l).runs x).why = (getR w.runs x).why ∧ ((getR (giveAll id w l).runs x).state = 3 ↔ (getR w.runs x).state = 3) ∧ (∃ m, (getR (giveAll id w l).runs x).mail = (getR w.runs x).mail ++ m) ∧ (x ∉ l → (getR (giveAll id w l).runs x).mail = (getR w.runs x).mail) := by
  intro l
  induction l with
  | nil => intro w x _; exact ⟨rfl, rfl, rfl, rfl, rfl, Iff.rfl, ⟨[], by simp [giveAll]⟩, fun _ => rfl⟩
  | cons k l ih =>
    intro w x hx
    obtain ⟨a1, a2, a3, a4, a5, a6, ⟨m, a7⟩, a8⟩ := ih (give w k ⟨3, id⟩) hx
    obtain ⟨_, b1, b2, _, b3, b4, _, b5, b6, _, _⟩ := give_fields w k ⟨3, id⟩ hx
    have bm : (∃ m, (getR (give w k ⟨3, id⟩).runs x).mail = (getR w.runs x).mail ++ m) ∧ (x ≠ k → (getR (give w k ⟨3, id⟩).runs x).mail = (getR w.runs x).mail) := by
      have e := give_run w k ⟨3, id⟩ hx
      by_cases h : (aliveIn w.runs k && decide ((getR w.runs k).mail.length < 12)) = true ∧ x = k
      · rw [if_pos h] at e
        rw [e]
        exact ⟨⟨[⟨3, id⟩], rfl⟩, fun hn => absurd h.2 hn⟩
      · rw [if_neg h] at e
        rw [e]
        exact ⟨⟨[], by simp⟩, fun _ => rfl⟩
    obtain ⟨⟨m', bm1⟩, bm2⟩ := bm
    refine ⟨a1.trans b1, a2.trans b2, a3.trans b3, a4.trans b4, a5.trans b5, a6.trans b6, ⟨m' ++ m, ?_⟩, fun hn => ?_⟩
    · show (getR (giveAll id (give w k _) l).runs x).mail = _
      rw [a7, bm1, List.append_assoc]
    · simp only [List.mem_cons, not_or] at hn
      show (getR (giveAll id (give w k _) l).runs x).mail = _
      rw [a8 hn.2, bm2 hn.1]
theorem giveAll_alive (id : Int) (l : List Int) (w : Wd) (x : Int) : aliveIn (giveAll id w l).runs x = aliveIn w.runs x := by
  rw [Bool.eq_iff_iff, aliveIn_iff, aliveIn_iff, giveAll_length]
  constructor
  · rintro ⟨h, hs⟩
    exact ⟨h, fun e => hs ((giveAll_fields id l w h.1).2.2.2.2.2.1.2 e)⟩
  · rintro ⟨h, hs⟩
    exact ⟨h, fun e => hs ((giveAll_fields id l w h.1).2.2.2.2.2.1.1 e)⟩
/-- One that is given to, with room, has it. -/
theorem giveAll_has (id : Int) : ∀ (l : List Int) (w : Wd) {x : Int}, aliveIn w.runs x = true → (getR w.runs x).mail.length < 12 → x ∈ l → ∃ m, (getR (giveAll id w l).runs x).mail = (getR w.runs x).mail ++ ⟨3, id⟩ :: m := by
  intro l
  induction l with
  | nil => intro w x _ _ hm; simp at hm
  | cons k l ih =>
    intro w x ha hl hm
    have x1 := (aliveIn_iff.1 ha).1.1
    have e := give_run w k ⟨3, id⟩ x1
    by_cases hk : x = k
    · subst hk
      rw [if_pos ⟨by simp [ha, hl], rfl⟩] at e
      obtain ⟨_, _, _, _, _, _, ⟨m, a7⟩, _⟩ := giveAll_fields id l (give w x ⟨3, id⟩) x1
      refine ⟨m, ?_⟩
      show (getR (giveAll id (give w x _) l).runs x).mail = _
      rw [a7, e]
      simp
    · have hn : ¬ ((aliveIn w.runs k && decide ((getR w.runs k).mail.length < 12)) = true ∧ x = k) := fun hh => hk hh.2
      rw [if_neg hn] at e
      obtain ⟨m, h⟩ := ih (give w k ⟨3, id⟩) (x := x) (by rw [give_alive]; exact ha) (by rw [e]; exact hl) (by simpa [hk] using hm)
      refine ⟨m, ?_⟩
      show (getR (giveAll id (give w k _) l).runs x).mail = _
      rw [h, e]

/-! ### One run's end -/
structure Ended (w : Wd) (id : Int) (why : Vl) (e : Wd × List Int) : Prop where
  ok : WOk e.1
  code : e.1.code = w.code
  len : e.1.runs.length = w.runs.length
  now : e.1.now = w.now
  taken : e.1.taken = w.taken
  sent : w.sent ≤ e.1.sent ∧ e.1.sent ≤ w.sent + 12
  lost : w.lost + (getR w.runs id).mail.length ≤ e.1.lost
  alive : ∀ x, aliveIn e.1.runs x = true ↔ aliveIn w.runs x = true ∧ x ≠ id
  self : (getR e.1.runs id).why = why ∧ (getR e.1.runs id).state = 3
  dead : ∀ x : Int, 1 ≤ x → x ≤ w.runs.length → (getR w.runs x).state = 3 → (getR e.1.runs x).why = (getR w.runs x).why ∧ (getR e.1.runs x).mail = (getR w.runs x).mail
  stays : ∀ x : Int, 1 ≤ x → x ≤ w.runs.length → (getR e.1.runs x).at_ = (getR w.runs x).at_ ∧ (getR e.1.runs x).slots = (getR w.runs x).slots ∧ (getR e.1.runs x).trap = (getR w.runs x).trap
  links : ∀ x : Int, 1 ≤ x → x ≤ w.runs.length → (∀ y ∈ (getR e.1.runs x).links, y ∈ (getR w.runs x).links) ∧ (∀ y ∈ (getR e.1.runs x).watched, y ∈ (getR w.runs x).watched)
  fewer : ∀ x : Int, 1 ≤ x → x ≤ w.runs.length → (getR e.1.runs x).links.length ≤ (getR w.runs x).links.length
  mail : ∀ x : Int, 1 ≤ x → x ≤ w.runs.length → x ≠ id → ∃ m, (getR e.1.runs x).mail = (getR w.runs x).mail ++ m
  quiet : ∀ x : Int, 1 ≤ x → x ≤ w.runs.length → x ≠ id → (x ∉ (getR w.runs id).links ∨ isNormal why = true) → x ∉ (getR w.runs id).watched → (getR e.1.runs x).mail = (getR w.runs x).mail
  next : ∀ k ∈ e.2, k ∈ (getR w.runs id).links ∧ (getR w.runs k).trap = false
  normal : isNormal why = true → e.2 = []
  nexts : e.2.length ≤ (getR w.runs id).links.length
  told : ∀ x, aliveIn w.runs x = true → x ≠ id → (getR w.runs x).mail.length < 12 → (x ∈ (getR w.runs id).watched ∨ isNormal why = false ∧ x ∈ (getR w.runs id).links ∧ (getR w.runs x).trap = true) → ∃ m, (getR e.1.runs x).mail = (getR w.runs x).mail ++ ⟨3, id⟩ :: m
  many : ∀ l : List Int, l.Nodup → (∀ x ∈ l, x ∈ (getR w.runs id).watched ∨ isNormal why = false ∧ x ∈ (getR w.runs id).links ∧ (getR w.runs x).trap = true) → w.sent + l.length ≤ e.1.sent

theorem endRun_facts {w : Wd} (h : WOk w) {id : Int} (ha : aliveIn w.runs id = true) {why : Vl} (hv : valOk why = true) (hs : w.sent + 12 ≤ 9999) : Ended w id why (endRun w id why) := by
  obtain ⟨⟨i1, i2⟩, i3⟩ := aliveIn_iff.1 ha
  have fr := h.run i1 i2
  obtain ⟨_, _, _, _, _, _, _, _, _, _, o1, o2, _, _, _⟩ := runOk_parts fr.ok
  have hl1 := len6 o1
  have hl2 := len6 o2
  have hid : 1 ≤ id ∧ id ≤ 6 := ⟨i1, by have := h.len; omega⟩
  have hc := cleared_ok h ha hv
  obtain ⟨c1, c2, c3, c4, c5, c6⟩ := cleared_rest w id why
  have clen := cleared_length w id why
  obtain ⟨T, hT⟩ : ∃ T, T = (if isNormal why then [] else (getR w.runs id).links.filter (fun k => (getR w.runs k).trap)) ++ (getR w.runs id).watched := ⟨_, rfl⟩
  have hTl : T.length ≤ 12 := by
    rw [hT, List.length_append]
    have : (if isNormal why then ([] : List Int) else (getR w.runs id).links.filter (fun k => (getR w.runs k).trap)).length ≤ 6 := by
      split
      · simp
      · exact Nat.le_trans (List.length_filter_le _ _) hl1
    omega
  have hTm : ∀ x, x ∈ T ↔ (isNormal why = false ∧ x ∈ (getR w.runs id).links ∧ (getR w.runs x).trap = true) ∨ x ∈ (getR w.runs id).watched := by
    intro x
    rw [hT, List.mem_append]
    split
    · rename_i hn
      simp [hn]
    · rename_i hn
      simp [hn]
  have e : endRun w id why = (giveAll id (cleared w id why) T, if isNormal why then [] else (getR w.runs id).links.filter (fun k => !(getR w.runs k).trap)) := by rw [endRun_eq h i1 i2 why, hT]
  obtain ⟨g1, g2, g3, g4, g5, g6⟩ := giveAll_ok hid T hc (by rw [c4]; omega)
  have wn := waits_nonneg w.runs
  have wg := waits_ge i1 i2
  have b1 := h.sent; have b2 := h.taken; have b3 := h.lost; have b4 := h.sum
  have hlost : (cleared w id why).lost = w.lost + (getR w.runs id).mail.length := by rw [c6, wr_eq (by omega) (by omega)]
  have hrun : ∀ x : Int, 1 ≤ x → x ≤ w.runs.length → getR (cleared w id why).runs x = if x = id then endOne why (getR w.runs id) else { getR w.runs x with links := less (getR w.runs x).links id, watched := less (getR w.runs x).watched id } := fun x x1 x2 => cleared_run h i1 i2 why x1 x2
  rw [e]
  have F := fun (x : Int) (x1 : 1 ≤ x) => giveAll_fields id T (cleared w id why) x1
  refine ⟨g1, g4.trans c1, by rw [giveAll_length, clen], g5.trans c3, g3.trans c5, ?_, ?_, fun x => ?_, ?_, fun x x1 x2 hx => ?_, fun x x1 x2 => ?_, fun x x1 x2 => ?_, fun x x1 x2 => ?_, fun x x1 x2 hx => ?_, fun x x1 x2 hx hl hw => ?_, fun k hk => ?_, fun hn => ?_, ?_, fun x xa hx hm ht => ?_, fun l hnd hl => ?_⟩
  · show w.sent ≤ (giveAll id _ T).sent ∧ (giveAll id _ T).sent ≤ _
    rw [g2, c4]; omega
  · show _ ≤ (giveAll id _ T).lost
    omega
  · show aliveIn (giveAll id _ T).runs x = true ↔ _
    rw [giveAll_alive, cleared_alive h i1 i2 why]
  · obtain ⟨_, _, _, _, f5, f6, _, _⟩ := F id i1
    have := hrun id i1 i2
    rw [if_pos rfl] at this
    refine ⟨?_, ?_⟩
    · show (getR (giveAll id _ T).runs id).why = why
      rw [f5, this]; rfl
    · show (getR (giveAll id _ T).runs id).state = 3
      rw [f6, this]; rfl
  · have hne : x ≠ id := fun e => i3 (by rw [← e]; exact hx)
    obtain ⟨_, _, _, _, f5, f6, _, f8⟩ := F x x1
    have hr := hrun x x1 x2
    rw [if_neg hne] at hr
    have hxT : x ∉ T := by
      rw [hTm]
      rintro (⟨_, hm, _⟩ | hm)
      · exact (h.link i1 i2 hm).2.2.1 hx
      · exact (aliveIn_iff.1 (fr.watched x hm)).2 hx
    refine ⟨?_, ?_⟩
    · show (getR (giveAll id _ T).runs x).why = _
      rw [f5, hr]
    · show (getR (giveAll id _ T).runs x).mail = _
      rw [f8 hxT, hr]
  · obtain ⟨f1, f2, _, _, _, _, _, _⟩ := F x x1
    have f9 := giveAll_trap id T (cleared w id why) x x1
    have hr := hrun x x1 x2
    show (getR (giveAll id _ T).runs x).at_ = _ ∧ (getR (giveAll id _ T).runs x).slots = _ ∧ (getR (giveAll id _ T).runs x).trap = _
    rw [f1, f2, f9, hr]
    split
    · rename_i e
      rw [e]
      exact ⟨rfl, rfl, rfl⟩
    · exact ⟨rfl, rfl, rfl⟩
  · obtain ⟨_, _, f3, f4, _, _, _, _⟩ := F x x1
    have hr := hrun x x1 x2
    show (∀ y ∈ (getR (giveAll id _ T).runs x).links, _) ∧ (∀ y ∈ (getR (giveAll id _ T).runs x).watched, _)
    rw [f3, f4, hr]
    split
    · exact ⟨fun y hy => by simp [endOne] at hy, fun y hy => by simp [endOne] at hy⟩
    · exact ⟨fun y hy => (mem_less.1 hy).1, fun y hy => (mem_less.1 hy).1⟩
  · obtain ⟨_, _, f3, _, _, _, _, _⟩ := F x x1
    have hr := hrun x x1 x2
    show (getR (giveAll id _ T).runs x).links.length ≤ _
    rw [f3, hr]
    split
    · simp [endOne]
    · exact List.length_filter_le _ _
  · obtain ⟨_, _, _, _, _, _, ⟨m, f7⟩, _⟩ := F x x1
    have hr := hrun x x1 x2
    rw [if_neg hx] at hr
    refine ⟨m, ?_⟩
    show (getR (giveAll id _ T).runs x).mail = _
    rw [f7, hr]
  · obtain ⟨_, _, _, _, _, _, _, f8⟩ := F x x1
    have hr := hrun x x1 x2
    rw [if_neg hx] at hr
    have hxT : x ∉ T := by
      rw [hTm]
      rintro (⟨hn, hm, _⟩ | hm)
      · rcases hl with hl | hl
        · exact hl hm
        · rw [hl] at hn; cases hn
      · exact hw hm
    show (getR (giveAll id _ T).runs x).mail = _
    rw [f8 hxT, hr]
  · have hk' : k ∈ (if isNormal why then ([] : List Int) else (getR w.runs id).links.filter (fun k => !(getR w.runs k).trap)) := hk
    split at hk'
    · simp at hk'
    · simpa using hk'
  · show (if isNormal why then ([] : List Int) else _) = []
    rw [if_pos hn]
  · show (if isNormal why then ([] : List Int) else (getR w.runs id).links.filter (fun k => !(getR w.runs k).trap)).length ≤ _
    split
    · simp
    · exact List.length_filter_le _ _
  · have x1 := (aliveIn_iff.1 xa).1
    have hr := hrun x x1.1 x1.2
    rw [if_neg hx] at hr
    have := giveAll_has id T (cleared w id why) (x := x) ((cleared_alive h i1 i2 why).2 ⟨xa, hx⟩) (by rw [hr]; exact hm) ((hTm x).2 (ht.symm))
    rw [hr] at this
    exact this
  · show _ ≤ (giveAll id _ T).sent
    have := length_of_sub hnd (b := T) (fun x hx => (hTm x).2 (hl x hx).symm)
    rw [g2, c4]
    omega

end Go.Proofs.YtomolbhcggaakaaGreat
/- Whether a run fits its world. Those that it knows are alive, and what is full is enough. -/
namespace Go.Proofs.YtomolbhcggaakaaGreat
open Go.RowKit
set_option maxRecDepth 100000
attribute [local go_sem ↓] Go.wp_at_zero Go.wp_at_succ

theorem getR_nat {l : List Rn} {m : Nat} {x : Int} (hx : x = (m : Int) + 1) (hm : m < l.length) : getR l x = l[m] := by
  subst hx
  rw [mem_getR (by omega) (by omega)]
  congr 1
  omega
theorem alive_nat {l : List Rn} {m : Nat} {x : Int} (hx : x = (m : Int) + 1) (hm : m < l.length) : aliveIn l x = !(l[m].state == 3) := by
  unfold aliveIn
  rw [getR_nat hx hm, inB_iff.2 ⟨by omega, by omega⟩, Bool.true_and]
theorem alive_far {l : List Rn} {x : Int} (hx : (l.length : Int) < x) : aliveIn l x = false := by
  unfold aliveIn
  have : inB x 1 l.length = false := by
    cases h : inB x 1 l.length with
    | false => rfl
    | true => have := inB_iff.1 h; omega
  rw [this, Bool.false_and]
set_option maxHeartbeats 4000000 in
theorem sRun12_f (W : Wm) (FL : List Int) (fA : Option Addr) (fC i : Nat) (hi : i < W.ps.length) (hl6 : W.ps.length ≤ 6) (B : Nat) (w : World) (h : RW w B W) (hF : ReadsI w B fA FL.length FL) (hFl : FL.length = W.code.length) (hFb : Bits FL) (hB : B ≤ w.heap.size) (hb1 : runOk W.ps[i].1 = true) (hb2 : (W.ps[i].1.id == (i : Int) + 1) = true) (hb3 : W.ps[i].1.at_ < W.code.length) (hb4 : (inL W.queue W.ps[i].1.id == (W.ps[i].1.state == 1)) = true)
    (hb5 : (W.ps[i].1.state == 2) = true → waitsOk W.wd W.ps[i].1 = true) (hb6 : (W.ps[i].1.state == 3) = false) :
    Calls Tryz.prog 48 #[.agg (wArr W), .slice fA FL.length fC, .int .i64 (i : Int)] w fun e w' => e = .returned (.bool (runFits W.wd FL i W.ps[i].1)) ∧ Below w.heap.size w w' := by
  have HS5 := Lib.hid (fun V (hv : Below w.heap.size w V) (m : Nat) (hm : m < W.ps.length) => (h.below hv hB).runs m hm)
  rw [runFits_eq W.wd FL i W.ps[i].1]
  obtain ⟨g, hA, hg, ca⟩ := h.runs i hi
  have RX := Lib.hid (fun V (hv : Below w.heap.size w V) => ca.below (hv.mono hB) hg)
  have hr := h.each i hi
  have HR := Lib.hid (fun V (hv : Below w.heap.size w V) => sRunOk W.ps[i].1 W.ps[i].2 B V (hr.below hv hB) (Nat.le_trans hB hv.size))
  have HA := Lib.hid (fun V (hv : Below w.heap.size w V) => sAmong W.queue W.ps[i].1.id W.qA W.qC B V (h.queue.below' hv hB))
  have HW := Lib.hid (fun (h0 : 0 ≤ W.ps[i].1.at_) (h1 : W.ps[i].1.at_ < W.code.length) V (hv : Below w.heap.size w V) => sWaiting W W.ps[i].1 W.ps[i].2 h0 h1 B V (h.below hv hB) (hr.below hv hB) (Nat.le_trans hB hv.size))
  have HPS := Lib.hid h
  have HFF := Lib.hid hF
  have HFB := Lib.hid hFb
  have HFL := Lib.hid hFl
  clear h ca hF hFb hFl
  have i1 : (0 : Int) ≤ i := by omega
  have i2 : (i : Int) < W.ps.length := by omega
  have wi : IntKind.i64.wrap ((i : Int) + 1) = (i : Int) + 1 := by rw [IntKind.wrap_i64]; omega
  have AL := add_lit0
  have M := Mem.nil w
  have HRR := Lib.hid hr
  clear hr
  generalize hp : W.ps[i] = p at *
  have HP := Lib.hid hp
  clear hp
  obtain ⟨r, ra⟩ := p
  simp only at *
  generalize hx1 : runOk r = x1 at HR ⊢
  have HX1 := Lib.hid hx1
  clear hx1
  have e1 : W.wd.code = W.code := rfl
  have e2 : W.wd.queue = W.queue := rfl
  rw [e1, e2]
  clear e1 e2
  generalize inL W.queue r.id = xa at *
  generalize waitsOk W.wd r = xw at *
  generalize hxr : (r.links.all (aliveIn W.wd.runs) && r.watched.all (aliveIn W.wd.runs) && needOk FL r) = xr
  have HXR := Lib.hid hxr
  clear hxr
  obtain ⟨code, cA, cC, ps, rA, rC, queue, qA, qC, now, sent, taken, lost⟩ := W
  simp only at *
  subst hA
  obtain ⟨id, at_, slots, full, mail, state, due, links, watched, trap, ⟨wk, wn⟩, turns⟩ := r
  obtain ⟨sA, sC, mA, mC, lA, lC, wA, wC⟩ := ra
  simp only [runArr, RunAt] at RX HR HW HA ⊢
  go_enter Tryz.func48, Tryz.ntmps48
  go_upto_region 1 with (first | ((with_reducible refine alAw M ?_; clear M; (try clear F); intro w1 M F); have E1 := RX.out _ M.toBelow) | (((with_reducible apply ev_store (M := M)); rfl; rfl; ((conv => lhs; whnf) <;> rfl); rfl; (first | exact siI | exact siR | exact siV | exact siB | exact siSI | exact siSV | exact siW | exact siSR | exact siSO | exact siO); (exact one_all rfl); (exact dl); (exact Nat.le_of_ble_eq_true rfl); clear M; intro w1 M; simp only [SX] at M; (try clear F); have F := fxw M); have E1 := RX.out _ M.toBelow))
  go_cut [3, 6, 7] from 10 (fun s3 s6 s7 wx => ∃ (g3 g7 : Nat), s3 = .pointer (some ⟨g3, 0, none⟩) ∧ s6 = .bool false ∧ s7 = .pointer (some ⟨g7, 0, none⟩) ∧ Mem w [] wx [blk g7 tR [.int .i64 id, .int .i64 at_, .slice sA slots.length sC, .int .i64 full, .slice mA mail.length mC, .int .i64 state, .int .i64 due, .slice lA links.length lC, .slice wA watched.length wC, .bool trap, .int .i64 wk, .int .i64 wn, .int .i64 turns], blk g3 tW [.slice cA code.length cC, .slice (some ⟨g, 0, none⟩) ps.length rC, .slice qA queue.length qC, .int .i64 now, .int .i64 sent, .int .i64 taken, .int .i64 lost]])
  case first =>
    go_wp2_with (first | ((with_reducible refine alAw M ?_; clear M; (try clear F); intro w1 M F); have E1 := RX.out _ M.toBelow) | (((with_reducible apply ev_store (M := M)); rfl; rfl; ((conv => lhs; whnf) <;> rfl); rfl; (first | exact siI | exact siR | exact siV | exact siB | exact siSI | exact siSV | exact siW | exact siSR | exact siSO | exact siO); (exact one_all rfl); (exact dl); (exact Nat.le_of_ble_eq_true rfl); clear M; intro w1 M; simp only [SX] at M; (try clear F); have F := fxw M); have E1 := RX.out _ M.toBelow))
    go_meet
    case rel => exact ⟨_, _, rfl, rfl, rfl, M.sel sl⟩
  clear M
  obtain ⟨g3, g7, rfl, rfl, rfl, M⟩ := hcut
  (try clear F); have F := fxw M
  simp only at hb3
  rw [HX1.out] at hb1
  subst hb1
  have c2' : (id != (i : Int) + 1) = false := by simp [bne, hb2]
  have C2 := Lib.hid hb2
  have c3' : decide ((code.length : Int) ≤ at_) = false := decide_eq_false (by omega)
  have C3 := Lib.hid hb3
  have pat := (runOk_parts HX1.out).2.1
  have pf := (runOk_parts HX1.out).2.2.2.1
  have pst := (runOk_parts HX1.out).2.2.2.2.2.1
  have o1 := (runOk_parts HX1.out).2.2.2.2.2.2.2.2.2.2.1
  have o2 := (runOk_parts HX1.out).2.2.2.2.2.2.2.2.2.2.2.1
  have HW2 := Lib.hid (HW.out pat.1 C3.out)
  have ll := len6 o1
  have wl := len6 o2
  have ORD := Lib.hid (fun y (hy : y ∈ links ++ watched) => (List.mem_append.1 hy).elim (fun h => (idsOk_iff.1 o1).1 y h) (fun h => (idsOk_iff.1 o2).1 y h))
  clear HW o1 o2
  simp only at pat pf ll wl pst
  clear hb2 hb3
  have HST : (state = 1 ∧ xa = true) ∨ (state = 2 ∧ xa = false ∧ xw = true) := by
    have h6 : ¬ state = 3 := by simpa using hb6
    have h12 : state = 1 ∨ state = 2 := by omega
    rcases h12 with rfl | rfl
    · exact .inl ⟨rfl, by simpa using hb4⟩
    · exact .inr ⟨rfl, by simpa using hb4, hb5 rfl⟩
  have GOAL : Hid (∀ b, (links.all (aliveIn (ps.map (·.1))) && watched.all (aliveIn (ps.map (·.1))) && needOk FL ⟨id, at_, slots, full, mail, state, due, links, watched, trap, ⟨wk, wn⟩, turns⟩) = b → (true && id == (i : Int) + 1 && decide (at_ < code.length) && (xa == (state == 1)) && (!(state == 2) || xw) && (state == 3 || xr)) = b) := by
    intro b hb
    have e : xr = b := HXR.out.symm.trans hb
    have e5 : (!(state == 2) || xw) = true := by
      cases hs : (state == 2) with
      | false => rfl
      | true => rw [hb5 hs]; rfl
    rw [e5, C2.out, hb4, hb6, e, show decide (at_ < (code.length : Int)) = true from decide_eq_true C3.out]
    simp
  clear hb4 hb5 hb6 pst
  have NEED : Hid (needOk FL ⟨id, at_, slots, full, mail, state, due, links, watched, trap, ⟨wk, wn⟩, turns⟩ = (decide (0 ≤ getI FL at_) && both (getI FL at_) full == getI FL at_)) := rfl
  have HS6 := Lib.hid (fun V (hv : Below w.heap.size w V) (m : Nat) (hm : m < ps.length) => (show V.cell? ⟨g, m * 13 + 5, none⟩ = some (.int .i64 ps[m].1.state) from by
    obtain ⟨g', e, _, hc⟩ := HS5.out V hv m hm
    injection e with e
    injection e with e
    subst e
    exact hc.2.2.2.2.2.1))
  clear HS5
  rcases HST with ⟨rfl, rfl⟩ | ⟨rfl, rfl, rfl⟩
  · go_wp2
    refine held_begin (S := (fun W => (∀ j, W.cell? ⟨g7, j, none⟩ = ([.int .i64 id, .int .i64 at_, .slice sA slots.length sC, .int .i64 full, .slice mA mail.length mC, .int .i64 1, .int .i64 due, .slice lA links.length lC, .slice wA watched.length wC, .bool trap, .int .i64 wk, .int .i64 wn, .int .i64 turns] : List Value)[j]?) ∧ ∀ j, W.cell? ⟨g3, j, none⟩ = ([.slice cA code.length cC, .slice (some ⟨g, 0, none⟩) ps.length rC, .slice qA queue.length qC, .int .i64 now, .int .i64 sent, .int .i64 taken, .int .i64 lost] : List Value)[j]?)) (by kernel_rfl) (fun _ _ _ _ _ h => h) (by (refine ⟨?_, ?_⟩ <;> (exact kc))) (fun HQ hHeld => ?_)
    refine tkY HQ hHeld 0 ?_
    refine stp 1 (fun K hK => ?_); go_simp
    (first | (go_at_call 90; (refine nmKw ?_; clear M; (try clear F); intro w1 M F); refine (HR.out _ M.toBelow).mono ?_; rintro e w2 ⟨rfl, hb⟩; replace M := M.below hb; clear hb; (try clear F); have F := fxw M) | (go_at_call 74; (refine nmKw ?_; clear M; (try clear F); intro w1 M F); refine (HA.out _ M.toBelow).mono ?_; rintro e w2 ⟨rfl, rfl⟩))
    (try go_wp2_with fail); refine hK.out _ _ (by (refine ⟨?_, ?_⟩ <;> (exact kc))) (fun hHeld => ?_); clear hK K; (try simp only [AX])
    refine tkY HQ hHeld 2 ?_; refine tkY HQ hHeld 3 ?_; refine tkY HQ hHeld 4 ?_; refine tkY HQ hHeld 5 ?_; refine tkY HQ hHeld 6 ?_; refine tkY HQ hHeld 7 ?_; refine tkY HQ hHeld 8 ?_; refine tkY HQ hHeld 9 ?_; refine tkY HQ hHeld 10 ?_; refine tkY HQ hHeld 11 ?_; refine tkY HQ hHeld 12 ?_; refine tkY HQ hHeld 13 ?_; refine tkY HQ hHeld 14 ?_; refine tkY HQ hHeld 15 ?_; refine tkY HQ hHeld 16 ?_; refine tkY HQ hHeld 17 ?_; refine tkY HQ hHeld 18 ?_; refine tkY HQ hHeld 19 ?_; refine tkY HQ hHeld 20 ?_; refine tkY HQ hHeld 21 ?_; refine tkY HQ hHeld 22 ?_; refine tkY HQ hHeld 24 ?_; refine tkY HQ hHeld 25 ?_; refine tkY HQ hHeld 26 ?_
    refine stp 23 (fun K hK => ?_); go_simp
    (first | (go_at_call 90; (refine nmKw ?_; clear M; (try clear F); intro w1 M F); refine (HR.out _ M.toBelow).mono ?_; rintro e w2 ⟨rfl, hb⟩; replace M := M.below hb; clear hb; (try clear F); have F := fxw M) | (go_at_call 74; (refine nmKw ?_; clear M; (try clear F); intro w1 M F); refine (HA.out _ M.toBelow).mono ?_; rintro e w2 ⟨rfl, rfl⟩))
    (try go_wp2_with fail); refine hK.out _ _ (by (refine ⟨?_, ?_⟩ <;> (exact kc))) (fun hHeld => ?_); clear hK K; (try simp only [AX])
    refine tkY HQ hHeld 27 ?_; refine tkY HQ hHeld 28 ?_
    refine wpAnyH_done (by kernel_rfl) ?_ _; clear HQ; (repeat clear hHeld)
    go_wp2
    go_loopg [8] (links.length + watched.length) (fun gg s8 wr => ∃ k : Nat, k ≤ links.length + watched.length ∧ links.length + watched.length - k ≤ gg ∧ s8 = .int .i64 k ∧ Hid (∀ j (hj : j < (links ++ watched).length), j < k → aliveIn (ps.map (·.1)) (links ++ watched)[j] = true) ∧ Hid (Mem w [] wr [blk g7 tR [.int .i64 id, .int .i64 at_, .slice sA slots.length sC, .int .i64 full, .slice mA mail.length mC, .int .i64 1, .int .i64 due, .slice lA links.length lC, .slice wA watched.length wC, .bool trap, .int .i64 wk, .int .i64 wn, .int .i64 turns], blk g3 tW [.slice cA code.length cC, .slice (some ⟨g, 0, none⟩) ps.length rC, .slice qA queue.length qC, .int .i64 now, .int .i64 sent, .int .i64 taken, .int .i64 lost]]))
    case atStart => exact ⟨0, by omega, by omega, rfl, fun j _ h => absurd h (by omega), M⟩
    case round =>
      clear M
      obtain ⟨k, hk, hg2, rfl, HAL, M⟩ := hrel
      replace M := M.out
      (try clear F); have F := fxw M
      have nsum : ((links.length : Int) + (watched.length : Int)) = ((links.length + watched.length : Nat) : Int) := by omega
      have NS := Lib.hid nsum
      clear nsum
      by_cases hlt : k < links.length + watched.length
      · have hlt2 : k < (links ++ watched).length := by rw [List.length_append]; exact hlt
        have ORDk := ORD.out _ (List.getElem_mem hlt2)
        have NO : Hid (aliveIn (ps.map (·.1)) (links ++ watched)[k] = false → (links.all (aliveIn (ps.map (·.1))) && watched.all (aliveIn (ps.map (·.1))) && needOk FL ⟨id, at_, slots, full, mail, 1, due, links, watched, trap, ⟨wk, wn⟩, turns⟩) = false) := by
          intro hn
          cases hx : (links.all (aliveIn (ps.map (·.1))) && watched.all (aliveIn (ps.map (·.1)))) with
          | false => rfl
          | true => rw [alive_all.2 hx k hlt2] at hn; cases hn
        have YES : Hid (aliveIn (ps.map (·.1)) (links ++ watched)[k] = true → ∀ j (hj : j < (links ++ watched).length), j < k + 1 → aliveIn (ps.map (·.1)) (links ++ watched)[j] = true) := by
          intro h j hj hjk
          by_cases he : j = k
          · subst he; exact h
          · exact HAL.out j hj (by omega)
        have k1 : (0 : Int) ≤ k := by omega
        have k2 : decide ((k : Int) < (links.length : Int) + (watched.length : Int)) = true := decide_eq_true (by omega)
        have RR := HRR.out.below M.toBelow hB
        by_cases hkl : k < links.length
        · have ey : (links ++ watched)[k] = links[k] := List.getElem_append_left hkl
          obtain ⟨ad, rfl, _, hc⟩ := RR.links.int hkl
          rw [← ey] at hc
          clear ey RR
          generalize (links ++ watched)[k] = y at hc ORDk NO YES
          have k3 : (k : Int) < links.length := by omega
          clear hlt2
          by_cases hy : (ps.length : Int) < y
          · have hno := Lib.hid (GOAL.out false (NO.out (alive_far (by simpa using hy))))
            have d1 : decide ((ps.length : Int) < y) = true := decide_eq_true hy
            clear NO YES HAL
            go_wp2
            go_ret
            exact ⟨ret_bool (by have h := hno.out.symm; simpa using h), M.toBelow⟩
          · obtain ⟨m2, rfl⟩ : ∃ m2 : Nat, y = (m2 : Int) + 1 := ⟨(y - 1).toNat, by omega⟩
            have hm2 : m2 < ps.length := by omega
            have E5 := HS6.out _ M.toBelow m2 hm2
            have AN : Hid (aliveIn (ps.map (·.1)) ((m2 : Int) + 1) = !(ps[m2].1.state == 3)) := by
              have := alive_nat (l := ps.map (·.1)) (x := (m2 : Int) + 1) rfl (by simpa using hm2)
              unfold Hid
              rw [this]
              simp
            generalize ps[m2].1.state = st at E5 AN
            have d1 : decide ((ps.length : Int) < (m2 : Int) + 1) = false := decide_eq_false hy
            have j1 : (0 : Int) ≤ m2 := by omega
            have j2 : (m2 : Int) < ps.length := by omega
            cases h3 : (st == 3) with
            | true =>
              have hno := Lib.hid (GOAL.out false (NO.out (by rw [AN.out, h3]; rfl)))
              clear NO YES HAL AN
              go_wp2
              go_ret
              exact ⟨ret_bool (by have h := hno.out.symm; simpa using h), M.toBelow⟩
            | false =>
              have hyes := Lib.hid (YES.out (by rw [AN.out, h3]; rfl))
              clear NO YES HAL AN
              go_wp2
              go_roundg (links.length + watched.length - (k + 1))
              case measure => omega
              case rel => exact ⟨k + 1, by omega, by omega, by go_num, hyes, M⟩
        · have hm : k - links.length < watched.length := by omega
          have ey : (links ++ watched)[k] = watched[k - links.length] := List.getElem_append_right (by omega)
          obtain ⟨ad, rfl, _, hc⟩ := RR.watched.int hm
          rw [← ey] at hc
          clear ey RR
          generalize (links ++ watched)[k] = y at hc ORDk NO YES
          have k3 : decide (k < links.length) = false := decide_eq_false hkl
          have k4 : (0 : Int) ≤ (k : Int) - links.length := by omega
          have k5 : (k : Int) - links.length < watched.length := by omega
          have k6 : ((k : Int) - (links.length : Int)).toNat = k - links.length := by omega
          clear hlt2
          by_cases hy : (ps.length : Int) < y
          · have hno := Lib.hid (GOAL.out false (NO.out (alive_far (by simpa using hy))))
            have d1 : decide ((ps.length : Int) < y) = true := decide_eq_true hy
            clear NO YES HAL
            go_wp2
            go_ret
            exact ⟨ret_bool (by have h := hno.out.symm; simpa using h), M.toBelow⟩
          · obtain ⟨m2, rfl⟩ : ∃ m2 : Nat, y = (m2 : Int) + 1 := ⟨(y - 1).toNat, by omega⟩
            have hm2 : m2 < ps.length := by omega
            have E5 := HS6.out _ M.toBelow m2 hm2
            have AN : Hid (aliveIn (ps.map (·.1)) ((m2 : Int) + 1) = !(ps[m2].1.state == 3)) := by
              have := alive_nat (l := ps.map (·.1)) (x := (m2 : Int) + 1) rfl (by simpa using hm2)
              unfold Hid
              rw [this]
              simp
            generalize ps[m2].1.state = st at E5 AN
            have d1 : decide ((ps.length : Int) < (m2 : Int) + 1) = false := decide_eq_false hy
            have j1 : (0 : Int) ≤ m2 := by omega
            have j2 : (m2 : Int) < ps.length := by omega
            cases h3 : (st == 3) with
            | true =>
              have hno := Lib.hid (GOAL.out false (NO.out (by rw [AN.out, h3]; rfl)))
              clear NO YES HAL AN
              go_wp2
              go_ret
              exact ⟨ret_bool (by have h := hno.out.symm; simpa using h), M.toBelow⟩
            | false =>
              have hyes := Lib.hid (YES.out (by rw [AN.out, h3]; rfl))
              clear NO YES HAL AN
              go_wp2
              go_roundg (links.length + watched.length - (k + 1))
              case measure => omega
              case rel => exact ⟨k + 1, by omega, by omega, by go_num, hyes, M⟩
      · have hall : (links.all (aliveIn (ps.map (·.1))) && watched.all (aliveIn (ps.map (·.1)))) = true := alive_all.1 (fun j hj => HAL.out j hj (by rw [List.length_append] at hj; omega))
        have hkn : k = links.length + watched.length := by omega
        subst hkn
        have k2 : decide (((links.length + watched.length : Nat) : Int) < (links.length : Int) + (watched.length : Int)) = false := decide_eq_false (by omega)
        have hFl := HFL.out
        have hatl : at_.toNat < FL.length := by have := C3.out; omega
        obtain ⟨fad, rfl, _, hcx⟩ := (HFF.out).int hatl
        have EX := Lib.hid (fun V (hv : Below w.heap.size w V) => (show V.cell? (fad.add at_.toNat) = some (.int .i64 FL[at_.toNat]) from by
          obtain ⟨fad', e, _, hc⟩ := ((HFF.out).below' hv hB).int hatl
          injection e with e
          subst e
          exact hc))
        have eg : getI FL at_ = FL[at_.toNat] := by unfold getI; rw [List.getD_eq_getElem?_getD, List.getElem?_eq_getElem hatl]; rfl
        have hxb := HFB.out _ (List.getElem_mem hatl)
        have FIN : Hid (∀ b, (decide (0 ≤ FL[at_.toNat]) && both FL[at_.toNat] full == FL[at_.toNat]) = b → (true && id == (i : Int) + 1 && decide (at_ < code.length) && (true == ((1 : Int) == 1)) && (!((1 : Int) == 2) || xw) && ((1 : Int) == 3 || xr)) = b) := fun b hb => GOAL.out b (by rw [hall, Bool.true_and, NEED.out, eg]; exact hb)
        have HBO := Lib.hid (fun V => sBoth FL[at_.toNat] full hxb.1 hxb.2 pf.1 pf.2 V)
        generalize FL[at_.toNat] = x0 at EX FIN HBO hxb
        have q1 : (0 : Int) ≤ at_ := pat.1
        have q2 : at_ < FL.length := by have := C3.out; omega
        clear HAL hall eg hcx hFl hatl
        by_cases hx0 : 0 ≤ x0
        · have q3 : decide (0 ≤ x0) = true := decide_eq_true hx0
          have fin := Lib.hid (FIN.out _ rfl)
          clear FIN
          go_wp2
          refine held_begin (S := (fun W => (∀ j, W.cell? ⟨g7, j, none⟩ = ([.int .i64 id, .int .i64 at_, .slice sA slots.length sC, .int .i64 full, .slice mA mail.length mC, .int .i64 1, .int .i64 due, .slice lA links.length lC, .slice wA watched.length wC, .bool trap, .int .i64 wk, .int .i64 wn, .int .i64 turns] : List Value)[j]?) ∧ (∀ j, W.cell? ⟨g3, j, none⟩ = ([.slice cA code.length cC, .slice (some ⟨g, 0, none⟩) ps.length rC, .slice qA queue.length qC, .int .i64 now, .int .i64 sent, .int .i64 taken, .int .i64 lost] : List Value)[j]?) ∧ W.cell? (fad.add at_.toNat) = some (.int .i64 x0))) (by kernel_rfl) (fun _ _ _ _ _ h => h) (by (refine ⟨?_, ?_, EX.out _ (Mem.toBelow (by exact mb))⟩ <;> (exact kc))) (fun HQ hHeld => ?_)
          refine tkY HQ hHeld 0 ?_; refine tkY HQ hHeld 1 ?_; refine tkY HQ hHeld 2 ?_; refine tkY HQ hHeld 3 ?_; refine tkY HQ hHeld 4 ?_; refine tkY HQ hHeld 5 ?_; refine tkY HQ hHeld 6 ?_; refine tkY HQ hHeld 7 ?_; refine tkY HQ hHeld 8 ?_; refine tkY HQ hHeld 9 ?_; refine tkY HQ hHeld 10 ?_; refine tkY HQ hHeld 11 ?_; refine tkY HQ hHeld 12 ?_; refine tkY HQ hHeld 13 ?_; refine tkY HQ hHeld 15 ?_; refine tkY HQ hHeld 16 ?_; refine tkY HQ hHeld 17 ?_; refine tkY HQ hHeld 18 ?_; refine tkY HQ hHeld 19 ?_
          refine stp 14 (fun K hK => ?_); go_simp
          ((go_at_call 92; (refine nmKw ?_; clear M; (try clear F); intro w1 M F); refine (HBO.out _).mono ?_; rintro e w2 ⟨rfl, hb⟩; replace M := M.below hb; clear hb; (try clear F); have F := fxw M))
          (try go_wp2_with fail); refine hK.out _ _ (by (refine ⟨?_, ?_, EX.out _ (Mem.toBelow (by exact mb))⟩ <;> (exact kc))) (fun hHeld => ?_); clear hK K; (try simp only [AX])
          refine tkY HQ hHeld 20 ?_; refine tkY HQ hHeld 21 ?_; refine tkY HQ hHeld 22 ?_
          refine wpAnyH_done (by kernel_rfl) ?_ _; clear HQ; (repeat clear hHeld)
          go_wp2
          go_ret
          exact ⟨ret_bool (by have h := fin.out.symm; rw [q3] at h; simpa using h), M.toBelow⟩
        · have q3 : decide (0 ≤ x0) = false := decide_eq_false hx0
          have fin := Lib.hid (FIN.out false (by rw [q3]; rfl))
          clear FIN
          go_wp2
          refine held_begin (S := (fun W => (∀ j, W.cell? ⟨g7, j, none⟩ = ([.int .i64 id, .int .i64 at_, .slice sA slots.length sC, .int .i64 full, .slice mA mail.length mC, .int .i64 1, .int .i64 due, .slice lA links.length lC, .slice wA watched.length wC, .bool trap, .int .i64 wk, .int .i64 wn, .int .i64 turns] : List Value)[j]?) ∧ (∀ j, W.cell? ⟨g3, j, none⟩ = ([.slice cA code.length cC, .slice (some ⟨g, 0, none⟩) ps.length rC, .slice qA queue.length qC, .int .i64 now, .int .i64 sent, .int .i64 taken, .int .i64 lost] : List Value)[j]?) ∧ W.cell? (fad.add at_.toNat) = some (.int .i64 x0))) (by kernel_rfl) (fun _ _ _ _ _ h => h) (by (refine ⟨?_, ?_, EX.out _ (Mem.toBelow (by exact mb))⟩ <;> (exact kc))) (fun HQ hHeld => ?_)
          refine tkY HQ hHeld 0 ?_; refine tkY HQ hHeld 1 ?_; refine tkY HQ hHeld 2 ?_; refine tkY HQ hHeld 3 ?_; refine tkY HQ hHeld 4 ?_; refine tkY HQ hHeld 5 ?_; refine tkY HQ hHeld 6 ?_; refine tkN HQ hHeld 7 ?_; refine tkN HQ hHeld 8 ?_; refine tkN HQ hHeld 9 ?_; refine tkN HQ hHeld 10 ?_; refine tkN HQ hHeld 11 ?_; refine tkN HQ hHeld 12 ?_; refine tkN HQ hHeld 13 ?_; refine tkN HQ hHeld 14 ?_; refine tkN HQ hHeld 15 ?_; refine tkN HQ hHeld 16 ?_; refine tkN HQ hHeld 17 ?_; refine tkN HQ hHeld 18 ?_; refine tkN HQ hHeld 19 ?_; refine tkN HQ hHeld 20 ?_; refine tkY HQ hHeld 21 ?_; refine tkY HQ hHeld 22 ?_
          refine wpAnyH_done (by kernel_rfl) ?_ _; clear HQ; (repeat clear hHeld)
          go_wp2
          go_ret
          exact ⟨ret_bool (by have h := fin.out.symm; simpa using h), (Mem.drew M).toBelow⟩
  · go_wp2
    refine held_begin (S := (fun W => (∀ j, W.cell? ⟨g7, j, none⟩ = ([.int .i64 id, .int .i64 at_, .slice sA slots.length sC, .int .i64 full, .slice mA mail.length mC, .int .i64 2, .int .i64 due, .slice lA links.length lC, .slice wA watched.length wC, .bool trap, .int .i64 wk, .int .i64 wn, .int .i64 turns] : List Value)[j]?) ∧ ∀ j, W.cell? ⟨g3, j, none⟩ = ([.slice cA code.length cC, .slice (some ⟨g, 0, none⟩) ps.length rC, .slice qA queue.length qC, .int .i64 now, .int .i64 sent, .int .i64 taken, .int .i64 lost] : List Value)[j]?)) (by kernel_rfl) (fun _ _ _ _ _ h => h) (by (refine ⟨?_, ?_⟩ <;> (exact kc))) (fun HQ hHeld => ?_)
    refine tkY HQ hHeld 0 ?_
    refine stp 1 (fun K hK => ?_); go_simp
    (first | (go_at_call 90; (refine nmKw ?_; clear M; (try clear F); intro w1 M F); refine (HR.out _ M.toBelow).mono ?_; rintro e w2 ⟨rfl, hb⟩; replace M := M.below hb; clear hb; (try clear F); have F := fxw M) | (go_at_call 74; (refine nmKw ?_; clear M; (try clear F); intro w1 M F); refine (HA.out _ M.toBelow).mono ?_; rintro e w2 ⟨rfl, rfl⟩))
    (try go_wp2_with fail); refine hK.out _ _ (by (refine ⟨?_, ?_⟩ <;> (exact kc))) (fun hHeld => ?_); clear hK K; (try simp only [AX])
    refine tkY HQ hHeld 2 ?_; refine tkY HQ hHeld 3 ?_; refine tkY HQ hHeld 4 ?_; refine tkY HQ hHeld 5 ?_; refine tkY HQ hHeld 6 ?_; refine tkY HQ hHeld 7 ?_; refine tkY HQ hHeld 8 ?_; refine tkY HQ hHeld 9 ?_; refine tkY HQ hHeld 10 ?_; refine tkY HQ hHeld 11 ?_; refine tkY HQ hHeld 12 ?_; refine tkY HQ hHeld 13 ?_; refine tkY HQ hHeld 14 ?_; refine tkY HQ hHeld 15 ?_; refine tkY HQ hHeld 16 ?_; refine tkY HQ hHeld 17 ?_; refine tkY HQ hHeld 18 ?_; refine tkY HQ hHeld 19 ?_; refine tkY HQ hHeld 20 ?_; refine tkY HQ hHeld 21 ?_; refine tkY HQ hHeld 22 ?_; refine tkY HQ hHeld 24 ?_; refine tkY HQ hHeld 25 ?_; refine tkY HQ hHeld 26 ?_
    refine stp 23 (fun K hK => ?_); go_simp
    (first | (go_at_call 90; (refine nmKw ?_; clear M; (try clear F); intro w1 M F); refine (HR.out _ M.toBelow).mono ?_; rintro e w2 ⟨rfl, hb⟩; replace M := M.below hb; clear hb; (try clear F); have F := fxw M) | (go_at_call 74; (refine nmKw ?_; clear M; (try clear F); intro w1 M F); refine (HA.out _ M.toBelow).mono ?_; rintro e w2 ⟨rfl, rfl⟩))
    (try go_wp2_with fail); refine hK.out _ _ (by (refine ⟨?_, ?_⟩ <;> (exact kc))) (fun hHeld => ?_); clear hK K; (try simp only [AX])
    refine tkY HQ hHeld 27 ?_; refine tkY HQ hHeld 28 ?_
    refine wpAnyH_done (by kernel_rfl) ?_ _; clear HQ; (repeat clear hHeld)
    go_wp2_with ((go_at_call 91; (refine nmKw ?_; clear M; (try clear F); intro w1 M F); refine (HW2.out _ M.toBelow).mono ?_; rintro e w2 ⟨rfl, hb⟩; replace M := M.below hb; clear hb; (try clear F); have F := fxw M))
    go_loopg [8] (links.length + watched.length) (fun gg s8 wr => ∃ k : Nat, k ≤ links.length + watched.length ∧ links.length + watched.length - k ≤ gg ∧ s8 = .int .i64 k ∧ Hid (∀ j (hj : j < (links ++ watched).length), j < k → aliveIn (ps.map (·.1)) (links ++ watched)[j] = true) ∧ Hid (Mem w [] wr [blk g7 tR [.int .i64 id, .int .i64 at_, .slice sA slots.length sC, .int .i64 full, .slice mA mail.length mC, .int .i64 2, .int .i64 due, .slice lA links.length lC, .slice wA watched.length wC, .bool trap, .int .i64 wk, .int .i64 wn, .int .i64 turns], blk g3 tW [.slice cA code.length cC, .slice (some ⟨g, 0, none⟩) ps.length rC, .slice qA queue.length qC, .int .i64 now, .int .i64 sent, .int .i64 taken, .int .i64 lost]]))
    case atStart => exact ⟨0, by omega, by omega, rfl, fun j _ h => absurd h (by omega), M⟩
    case round =>
      clear M
      obtain ⟨k, hk, hg2, rfl, HAL, M⟩ := hrel
      replace M := M.out
      (try clear F); have F := fxw M
      have nsum : ((links.length : Int) + (watched.length : Int)) = ((links.length + watched.length : Nat) : Int) := by omega
      have NS := Lib.hid nsum
      clear nsum
      by_cases hlt : k < links.length + watched.length
      · have hlt2 : k < (links ++ watched).length := by rw [List.length_append]; exact hlt
        have ORDk := ORD.out _ (List.getElem_mem hlt2)
        have NO : Hid (aliveIn (ps.map (·.1)) (links ++ watched)[k] = false → (links.all (aliveIn (ps.map (·.1))) && watched.all (aliveIn (ps.map (·.1))) && needOk FL ⟨id, at_, slots, full, mail, 2, due, links, watched, trap, ⟨wk, wn⟩, turns⟩) = false) := by
          intro hn
          cases hx : (links.all (aliveIn (ps.map (·.1))) && watched.all (aliveIn (ps.map (·.1)))) with
          | false => rfl
          | true => rw [alive_all.2 hx k hlt2] at hn; cases hn
        have YES : Hid (aliveIn (ps.map (·.1)) (links ++ watched)[k] = true → ∀ j (hj : j < (links ++ watched).length), j < k + 1 → aliveIn (ps.map (·.1)) (links ++ watched)[j] = true) := by
          intro h j hj hjk
          by_cases he : j = k
          · subst he; exact h
          · exact HAL.out j hj (by omega)
        have k1 : (0 : Int) ≤ k := by omega
        have k2 : decide ((k : Int) < (links.length : Int) + (watched.length : Int)) = true := decide_eq_true (by omega)
        have RR := HRR.out.below M.toBelow hB
        by_cases hkl : k < links.length
        · have ey : (links ++ watched)[k] = links[k] := List.getElem_append_left hkl
          obtain ⟨ad, rfl, _, hc⟩ := RR.links.int hkl
          rw [← ey] at hc
          clear ey RR
          generalize (links ++ watched)[k] = y at hc ORDk NO YES
          have k3 : (k : Int) < links.length := by omega
          clear hlt2
          by_cases hy : (ps.length : Int) < y
          · have hno := Lib.hid (GOAL.out false (NO.out (alive_far (by simpa using hy))))
            have d1 : decide ((ps.length : Int) < y) = true := decide_eq_true hy
            clear NO YES HAL
            go_wp2
            go_ret
            exact ⟨ret_bool (by have h := hno.out.symm; simpa using h), M.toBelow⟩
          · obtain ⟨m2, rfl⟩ : ∃ m2 : Nat, y = (m2 : Int) + 1 := ⟨(y - 1).toNat, by omega⟩
            have hm2 : m2 < ps.length := by omega
            have E5 := HS6.out _ M.toBelow m2 hm2
            have AN : Hid (aliveIn (ps.map (·.1)) ((m2 : Int) + 1) = !(ps[m2].1.state == 3)) := by
              have := alive_nat (l := ps.map (·.1)) (x := (m2 : Int) + 1) rfl (by simpa using hm2)
              unfold Hid
              rw [this]
              simp
            generalize ps[m2].1.state = st at E5 AN
            have d1 : decide ((ps.length : Int) < (m2 : Int) + 1) = false := decide_eq_false hy
            have j1 : (0 : Int) ≤ m2 := by omega
            have j2 : (m2 : Int) < ps.length := by omega
            cases h3 : (st == 3) with
            | true =>
              have hno := Lib.hid (GOAL.out false (NO.out (by rw [AN.out, h3]; rfl)))
              clear NO YES HAL AN
              go_wp2
              go_ret
              exact ⟨ret_bool (by have h := hno.out.symm; simpa using h), M.toBelow⟩
            | false =>
              have hyes := Lib.hid (YES.out (by rw [AN.out, h3]; rfl))
              clear NO YES HAL AN
              go_wp2
              go_roundg (links.length + watched.length - (k + 1))
              case measure => omega
              case rel => exact ⟨k + 1, by omega, by omega, by go_num, hyes, M⟩
        · have hm : k - links.length < watched.length := by omega
          have ey : (links ++ watched)[k] = watched[k - links.length] := List.getElem_append_right (by omega)
          obtain ⟨ad, rfl, _, hc⟩ := RR.watched.int hm
          rw [← ey] at hc
          clear ey RR
          generalize (links ++ watched)[k] = y at hc ORDk NO YES
          have k3 : decide (k < links.length) = false := decide_eq_false hkl
          have k4 : (0 : Int) ≤ (k : Int) - links.length := by omega
          have k5 : (k : Int) - links.length < watched.length := by omega
          have k6 : ((k : Int) - (links.length : Int)).toNat = k - links.length := by omega
          clear hlt2
          by_cases hy : (ps.length : Int) < y
          · have hno := Lib.hid (GOAL.out false (NO.out (alive_far (by simpa using hy))))
            have d1 : decide ((ps.length : Int) < y) = true := decide_eq_true hy
            clear NO YES HAL
            go_wp2
            go_ret
            exact ⟨ret_bool (by have h := hno.out.symm; simpa using h), M.toBelow⟩
          · obtain ⟨m2, rfl⟩ : ∃ m2 : Nat, y = (m2 : Int) + 1 := ⟨(y - 1).toNat, by omega⟩
            have hm2 : m2 < ps.length := by omega
            have E5 := HS6.out _ M.toBelow m2 hm2
            have AN : Hid (aliveIn (ps.map (·.1)) ((m2 : Int) + 1) = !(ps[m2].1.state == 3)) := by
              have := alive_nat (l := ps.map (·.1)) (x := (m2 : Int) + 1) rfl (by simpa using hm2)
              unfold Hid
              rw [this]
              simp
            generalize ps[m2].1.state = st at E5 AN
            have d1 : decide ((ps.length : Int) < (m2 : Int) + 1) = false := decide_eq_false hy
            have j1 : (0 : Int) ≤ m2 := by omega
            have j2 : (m2 : Int) < ps.length := by omega
            cases h3 : (st == 3) with
            | true =>
              have hno := Lib.hid (GOAL.out false (NO.out (by rw [AN.out, h3]; rfl)))
              clear NO YES HAL AN
              go_wp2
              go_ret
              exact ⟨ret_bool (by have h := hno.out.symm; simpa using h), M.toBelow⟩
            | false =>
              have hyes := Lib.hid (YES.out (by rw [AN.out, h3]; rfl))
              clear NO YES HAL AN
              go_wp2
              go_roundg (links.length + watched.length - (k + 1))
              case measure => omega
              case rel => exact ⟨k + 1, by omega, by omega, by go_num, hyes, M⟩
      · have hall : (links.all (aliveIn (ps.map (·.1))) && watched.all (aliveIn (ps.map (·.1)))) = true := alive_all.1 (fun j hj => HAL.out j hj (by rw [List.length_append] at hj; omega))
        have hkn : k = links.length + watched.length := by omega
        subst hkn
        have k2 : decide (((links.length + watched.length : Nat) : Int) < (links.length : Int) + (watched.length : Int)) = false := decide_eq_false (by omega)
        have hFl := HFL.out
        have hatl : at_.toNat < FL.length := by have := C3.out; omega
        obtain ⟨fad, rfl, _, hcx⟩ := (HFF.out).int hatl
        have EX := Lib.hid (fun V (hv : Below w.heap.size w V) => (show V.cell? (fad.add at_.toNat) = some (.int .i64 FL[at_.toNat]) from by
          obtain ⟨fad', e, _, hc⟩ := ((HFF.out).below' hv hB).int hatl
          injection e with e
          subst e
          exact hc))
        have eg : getI FL at_ = FL[at_.toNat] := by unfold getI; rw [List.getD_eq_getElem?_getD, List.getElem?_eq_getElem hatl]; rfl
        have hxb := HFB.out _ (List.getElem_mem hatl)
        have FIN : Hid (∀ b, (decide (0 ≤ FL[at_.toNat]) && both FL[at_.toNat] full == FL[at_.toNat]) = b → (true && id == (i : Int) + 1 && decide (at_ < code.length) && (false == ((2 : Int) == 1)) && (!((2 : Int) == 2) || true) && ((2 : Int) == 3 || xr)) = b) := fun b hb => GOAL.out b (by rw [hall, Bool.true_and, NEED.out, eg]; exact hb)
        have HBO := Lib.hid (fun V => sBoth FL[at_.toNat] full hxb.1 hxb.2 pf.1 pf.2 V)
        generalize FL[at_.toNat] = x0 at EX FIN HBO hxb
        have q1 : (0 : Int) ≤ at_ := pat.1
        have q2 : at_ < FL.length := by have := C3.out; omega
        clear HAL hall eg hcx hFl hatl
        by_cases hx0 : 0 ≤ x0
        · have q3 : decide (0 ≤ x0) = true := decide_eq_true hx0
          have fin := Lib.hid (FIN.out _ rfl)
          clear FIN
          go_wp2
          refine held_begin (S := (fun W => (∀ j, W.cell? ⟨g7, j, none⟩ = ([.int .i64 id, .int .i64 at_, .slice sA slots.length sC, .int .i64 full, .slice mA mail.length mC, .int .i64 2, .int .i64 due, .slice lA links.length lC, .slice wA watched.length wC, .bool trap, .int .i64 wk, .int .i64 wn, .int .i64 turns] : List Value)[j]?) ∧ (∀ j, W.cell? ⟨g3, j, none⟩ = ([.slice cA code.length cC, .slice (some ⟨g, 0, none⟩) ps.length rC, .slice qA queue.length qC, .int .i64 now, .int .i64 sent, .int .i64 taken, .int .i64 lost] : List Value)[j]?) ∧ W.cell? (fad.add at_.toNat) = some (.int .i64 x0))) (by kernel_rfl) (fun _ _ _ _ _ h => h) (by (refine ⟨?_, ?_, EX.out _ (Mem.toBelow (by exact mb))⟩ <;> (exact kc))) (fun HQ hHeld => ?_)
          refine tkY HQ hHeld 0 ?_; refine tkY HQ hHeld 1 ?_; refine tkY HQ hHeld 2 ?_; refine tkY HQ hHeld 3 ?_; refine tkY HQ hHeld 4 ?_; refine tkY HQ hHeld 5 ?_; refine tkY HQ hHeld 6 ?_; refine tkY HQ hHeld 7 ?_; refine tkY HQ hHeld 8 ?_; refine tkY HQ hHeld 9 ?_; refine tkY HQ hHeld 10 ?_; refine tkY HQ hHeld 11 ?_; refine tkY HQ hHeld 12 ?_; refine tkY HQ hHeld 13 ?_; refine tkY HQ hHeld 15 ?_; refine tkY HQ hHeld 16 ?_; refine tkY HQ hHeld 17 ?_; refine tkY HQ hHeld 18 ?_; refine tkY HQ hHeld 19 ?_
          refine stp 14 (fun K hK => ?_); go_simp
          ((go_at_call 92; (refine nmKw ?_; clear M; (try clear F); intro w1 M F); refine (HBO.out _).mono ?_; rintro e w2 ⟨rfl, hb⟩; replace M := M.below hb; clear hb; (try clear F); have F := fxw M))
          (try go_wp2_with fail); refine hK.out _ _ (by (refine ⟨?_, ?_, EX.out _ (Mem.toBelow (by exact mb))⟩ <;> (exact kc))) (fun hHeld => ?_); clear hK K; (try simp only [AX])
          refine tkY HQ hHeld 20 ?_; refine tkY HQ hHeld 21 ?_; refine tkY HQ hHeld 22 ?_
          refine wpAnyH_done (by kernel_rfl) ?_ _; clear HQ; (repeat clear hHeld)
          go_wp2
          go_ret
          exact ⟨ret_bool (by have h := fin.out.symm; rw [q3] at h; simpa using h), M.toBelow⟩
        · have q3 : decide (0 ≤ x0) = false := decide_eq_false hx0
          have fin := Lib.hid (FIN.out false (by rw [q3]; rfl))
          clear FIN
          go_wp2
          refine held_begin (S := (fun W => (∀ j, W.cell? ⟨g7, j, none⟩ = ([.int .i64 id, .int .i64 at_, .slice sA slots.length sC, .int .i64 full, .slice mA mail.length mC, .int .i64 2, .int .i64 due, .slice lA links.length lC, .slice wA watched.length wC, .bool trap, .int .i64 wk, .int .i64 wn, .int .i64 turns] : List Value)[j]?) ∧ (∀ j, W.cell? ⟨g3, j, none⟩ = ([.slice cA code.length cC, .slice (some ⟨g, 0, none⟩) ps.length rC, .slice qA queue.length qC, .int .i64 now, .int .i64 sent, .int .i64 taken, .int .i64 lost] : List Value)[j]?) ∧ W.cell? (fad.add at_.toNat) = some (.int .i64 x0))) (by kernel_rfl) (fun _ _ _ _ _ h => h) (by (refine ⟨?_, ?_, EX.out _ (Mem.toBelow (by exact mb))⟩ <;> (exact kc))) (fun HQ hHeld => ?_)
          refine tkY HQ hHeld 0 ?_; refine tkY HQ hHeld 1 ?_; refine tkY HQ hHeld 2 ?_; refine tkY HQ hHeld 3 ?_; refine tkY HQ hHeld 4 ?_; refine tkY HQ hHeld 5 ?_; refine tkY HQ hHeld 6 ?_; refine tkN HQ hHeld 7 ?_; refine tkN HQ hHeld 8 ?_; refine tkN HQ hHeld 9 ?_; refine tkN HQ hHeld 10 ?_; refine tkN HQ hHeld 11 ?_; refine tkN HQ hHeld 12 ?_; refine tkN HQ hHeld 13 ?_; refine tkN HQ hHeld 14 ?_; refine tkN HQ hHeld 15 ?_; refine tkN HQ hHeld 16 ?_; refine tkN HQ hHeld 17 ?_; refine tkN HQ hHeld 18 ?_; refine tkN HQ hHeld 19 ?_; refine tkN HQ hHeld 20 ?_; refine tkY HQ hHeld 21 ?_; refine tkY HQ hHeld 22 ?_
          refine wpAnyH_done (by kernel_rfl) ?_ _; clear HQ; (repeat clear hHeld)
          go_wp2
          go_ret
          exact ⟨ret_bool (by have h := fin.out.symm; simpa using h), (Mem.drew M).toBelow⟩
end Go.Proofs.YtomolbhcggaakaaGreat
/- Whether a run fits its world. -/
namespace Go.Proofs.YtomolbhcggaakaaGreat
open Go.RowKit

theorem sRun12 (W : Wm) (FL : List Int) (fA : Option Addr) (fC i : Nat) (hi : i < W.ps.length) (hl6 : W.ps.length ≤ 6) (B : Nat) (w : World) (h : RW w B W) (hF : ReadsI w B fA FL.length FL) (hFl : FL.length = W.code.length) (hFb : Bits FL) (hB : B ≤ w.heap.size) :
    Calls Tryz.prog 48 #[.agg (wArr W), .slice fA FL.length fC, .int .i64 (i : Int)] w fun e w' => e = .returned (.bool (runFits W.wd FL i W.ps[i].1)) ∧ Below w.heap.size w w' := by
  cases h1 : runOk W.ps[i].1 with
  | false => exact sRun12_a W FL fA fC i hi hl6 B w h hF hFl hFb hB h1
  | true =>
  cases h2 : (W.ps[i].1.id == (i : Int) + 1) with
  | false => exact sRun12_b W FL fA fC i hi hl6 B w h hF hFl hFb hB h1 h2
  | true =>
  by_cases h3 : W.ps[i].1.at_ < W.code.length
  case neg => exact sRun12_c W FL fA fC i hi hl6 B w h hF hFl hFb hB h1 h2 h3
  cases h4 : (inL W.queue W.ps[i].1.id == (W.ps[i].1.state == 1)) with
  | false => exact sRun12_d W FL fA fC i hi hl6 B w h hF hFl hFb hB h1 h2 h3 h4
  | true =>
  cases h5 : (W.ps[i].1.state == 2) with
  | true =>
    cases h6 : waitsOk W.wd W.ps[i].1 with
    | false => exact sRun12_e W FL fA fC i hi hl6 B w h hF hFl hFb hB h1 h2 h3 h4 (.inl ⟨h5, h6⟩)
    | true => exact sRun12_f W FL fA fC i hi hl6 B w h hF hFl hFb hB h1 h2 h3 h4 (fun _ => h6) (by rw [beq_iff_eq] at h5; rw [beq_eq_false_iff_ne]; omega)
  | false =>
    cases h6 : (W.ps[i].1.state == 3) with
    | true => exact sRun12_e W FL fA fC i hi hl6 B w h hF hFl hFb hB h1 h2 h3 h4 (.inr ⟨h6, h5⟩)
    | false => exact sRun12_f W FL fA fC i hi hl6 B w h hF hFl hFb hB h1 h2 h3 h4 (fun h => by rw [h5] at h; cases h) h6
end Go.Proofs.YtomolbhcggaakaaGreat
