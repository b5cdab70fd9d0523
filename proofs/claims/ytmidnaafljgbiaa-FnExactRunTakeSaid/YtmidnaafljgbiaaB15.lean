/- Parts of the proof, in one text. -/
import Derived.Deep.RegionWith
import Derived.Deep.DrawnRows
import Derived.Test.YtmidnaafljgbiaaB14
import Derived.Test.YtmidnaafljgbiaaB13
/- A run ends: the world stays ok; who falls next, who is told. No Go and no memory here. -/
namespace Go.Proofs.Ytmidnaafljgbiaa

theorem runs_ext {l m : List Rn} (hl : l.length = m.length) (h : ∀ x : Int, 1 ≤ x → x ≤ l.length → getR l x = getR m x) : l = m := by
  apply List.ext_getElem hl
  intro k h1 h2
  have := h ((k : Int) + 1) (by omega) (by omega)
  rw [mem_getR (by omega) (by omega), mem_getR (by omega) (by omega)] at this
  simpa using this
/-! ### Links are taken away -/
theorem unlink_length (w : Wd) (k id : Int) : (unlink w k id).runs.length = w.runs.length := by simp only [unlink, updR_length]
theorem unlink_run (w : Wd) {k id : Int} (k1 : 1 ≤ k) (k2 : k ≤ w.runs.length) {x : Int} (hx : 1 ≤ x) :
    getR (unlink w k id).runs x = if x = k then { getR w.runs x with links := less (getR w.runs x).links id } else getR w.runs x := by
  unfold unlink
  rw [getR_updR k1 k2 hx]
  by_cases e : x = k
  · subst e; rw [if_pos rfl]
  · rw [if_neg e, if_neg e]
theorem unlink_alive (w : Wd) {k id : Int} (k1 : 1 ≤ k) (k2 : k ≤ w.runs.length) (x : Int) : aliveIn (unlink w k id).runs x = aliveIn w.runs x := by
  rw [Bool.eq_iff_iff, aliveIn_iff, aliveIn_iff, unlink_length]
  constructor
  · rintro ⟨h, hs⟩
    refine ⟨h, fun e => hs ?_⟩
    rw [unlink_run w k1 k2 h.1]
    split <;> exact e
  · rintro ⟨h, hs⟩
    refine ⟨h, fun e => hs ?_⟩
    rw [unlink_run w k1 k2 h.1] at e
    split at e <;> exact e

/-- Giving and unlinking, in any order. -/
theorem unlink_give (w : Wd) {k id : Int} (k1 : 1 ≤ k) (k2 : k ≤ w.runs.length) (j : Int) (v : Vl) : unlink (give w j v) k id = give (unlink w k id) j v := by
  have ha := unlink_alive w (id := id) k1 k2 j
  have hm : ∀ x : Int, 1 ≤ x → (getR (unlink w k id).runs x).mail = (getR w.runs x).mail ∧ (getR (unlink w k id).runs x).state = (getR w.runs x).state ∧ (getR (unlink w k id).runs x).at_ = (getR w.runs x).at_ := by
    intro x hx
    rw [unlink_run w k1 k2 hx]
    split <;> exact ⟨rfl, rfl, rfl⟩
  have hr : (unlink (give w j v) k id).runs = (give (unlink w k id) j v).runs := by
    apply runs_ext
    · rw [unlink_length, give_length, give_length, unlink_length]
    · intro x x1 x2
      have k2' : k ≤ (give w j v).runs.length := by rw [give_length]; exact k2
      have gx := give_run w j v x1
      have gu := give_run (unlink w k id) j v x1
      have ux := unlink_run w (id := id) k1 k2 x1
      have ug := unlink_run (give w j v) (id := id) k1 k2' x1
      rw [ha] at gu
      by_cases h : (aliveIn w.runs j && decide ((getR w.runs j).mail.length < 12)) = true ∧ x = j
      · have h' : (aliveIn w.runs j && decide ((getR (unlink w k id).runs j).mail.length < 12)) = true ∧ x = j := by
          refine ⟨?_, h.2⟩
          rw [← h.2, (hm x x1).1, h.2]
          exact h.1
        rw [if_pos h'] at gu
        rw [if_pos h] at gx
        by_cases e : x = k
        · rw [if_pos e] at ux ug
          rw [ug, gu, gx, ux]
          rfl
        · rw [if_neg e] at ux ug
          rw [ug, gu, gx, ux]
          rfl
      · have h' : ¬ ((aliveIn w.runs j && decide ((getR (unlink w k id).runs j).mail.length < 12)) = true ∧ x = j) := by
          rintro ⟨hh, rfl⟩
          rw [(hm x x1).1] at hh
          exact h ⟨hh, rfl⟩
        rw [if_neg h'] at gu
        rw [if_neg h] at gx
        rw [gu, ug, ux]
        by_cases e : x = k
        · rw [if_pos e, if_pos e, gx]
        · rw [if_neg e, if_neg e, gx]
  have cond : (aliveIn (unlink w k id).runs j && decide ((getR (unlink w k id).runs j).mail.length < 12)) = (aliveIn w.runs j && decide ((getR w.runs j).mail.length < 12)) := by
    rw [ha]
    cases hj : aliveIn w.runs j with
    | false => simp
    | true => rw [(hm j (aliveIn_iff.1 hj).1.1).1]
  have hq : (give w j v).queue = (give (unlink w k id) j v).queue := by
    unfold give
    rw [cond]
    by_cases h : (aliveIn w.runs j && decide ((getR w.runs j).mail.length < 12)) = true
    · have j1 := (aliveIn_iff.1 (Bool.and_eq_true_iff.1 h).1).1.1
      rw [if_pos h, if_pos h]
      simp only [(hm j j1).2.1, (hm j j1).2.2]
      rfl
    · rw [if_neg h, if_neg h]
      rfl
  have hl : (give w j v).lost = (give (unlink w k id) j v).lost := by
    rw [give_lost, give_lost, cond]
    rfl
  have e1 : unlink (give w j v) k id = { (give w j v) with runs := (unlink (give w j v) k id).runs } := rfl
  rw [e1, hr]
  have e2 : give (unlink w k id) j v = { code := w.code, runs := (give (unlink w k id) j v).runs, queue := (give w j v).queue, now := w.now, sent := wr (w.sent + 1), taken := w.taken, lost := (give w j v).lost } := by
    have c1 := give_code (unlink w k id) j v
    have c2 := give_now (unlink w k id) j v
    have c3 := give_sent (unlink w k id) j v
    have c4 := give_taken (unlink w k id) j v
    rw [hq, hl]
    show _ = Wd.mk _ _ _ _ _ _ _
    cases hg : give (unlink w k id) j v
    rw [hg] at c1 c2 c3 c4
    simp only at c1 c2 c3 c4
    subst c1; subst c2; subst c3; subst c4
    rfl
  have e3 : give w j v = { code := w.code, runs := (give w j v).runs, queue := (give w j v).queue, now := w.now, sent := wr (w.sent + 1), taken := w.taken, lost := (give w j v).lost } := by
    have c1 := give_code w j v
    have c2 := give_now w j v
    have c3 := give_sent w j v
    have c4 := give_taken w j v
    cases hg : give w j v
    rw [hg] at c1 c2 c3 c4
    simp only at c1 c2 c3 c4
    subst c1; subst c2; subst c3; subst c4
    rfl
  rw [e2, e3]

def unlinkAll (id : Int) (w : Wd) (l : List Int) : Wd := l.foldl (fun w k => unlink w k id) w
theorem unlinkAll_length (id : Int) : ∀ (l : List Int) (w : Wd), (unlinkAll id w l).runs.length = w.runs.length := by
  intro l
  induction l with
  | nil => intro w; rfl
  | cons k l ih => intro w; show (unlinkAll id (unlink w k id) l).runs.length = _; rw [ih, unlink_length]
theorem giveAll_length (id : Int) : ∀ (l : List Int) (w : Wd), (giveAll id w l).runs.length = w.runs.length := by
  intro l
  induction l with
  | nil => intro w; rfl
  | cons k l ih => intro w; show (giveAll id (give w k _) l).runs.length = _; rw [ih, give_length]
theorem unlink_giveAll {k id : Int} (k1 : 1 ≤ k) : ∀ (l : List Int) (w : Wd), k ≤ w.runs.length → unlink (giveAll id w l) k id = giveAll id (unlink w k id) l := by
  intro l
  induction l with
  | nil => intro w _; rfl
  | cons j l ih =>
    intro w k2
    show unlink (giveAll id (give w j _) l) k id = giveAll id (give (unlink w k id) j _) l
    rw [ih _ (by rw [give_length]; exact k2), unlink_give w k1 k2]
theorem giveAll_append (id : Int) (w : Wd) (a b : List Int) : giveAll id w (a ++ b) = giveAll id (giveAll id w a) b := by simp [giveAll, List.foldl_append]
theorem unlink_trap (w : Wd) {k id : Int} (k1 : 1 ≤ k) (k2 : k ≤ w.runs.length) {x : Int} (hx : 1 ≤ x) : (getR (unlink w k id).runs x).trap = (getR w.runs x).trap := by
  rw [unlink_run w k1 k2 hx]; split <;> rfl
theorem giveAll_trap (id : Int) : ∀ (l : List Int) (w : Wd) (x : Int), 1 ≤ x → (getR (giveAll id w l).runs x).trap = (getR w.runs x).trap := by
  intro l
  induction l with
  | nil => intro w x _; rfl
  | cons j l ih => intro w x hx; show (getR (giveAll id (give w j _) l).runs x).trap = _; rw [ih _ x hx, (give_fields w j _ hx).2.2.2.2.2.2.1]

/-- All links are taken away; then who traps is told; the others fall next. -/
theorem links_fold (id : Int) (normal : Bool) : ∀ (l : List Int) (w : Wd) (g : List Int) (n : List Int), (∀ k ∈ l, 1 ≤ k ∧ k ≤ w.runs.length) →
    l.foldl (linkStep id normal) (giveAll id w g, n) = (giveAll id (unlinkAll id w l) (g ++ if normal then [] else l.filter (fun k => (getR w.runs k).trap)), n ++ if normal then [] else l.filter (fun k => !(getR w.runs k).trap)) := by
  intro l
  induction l with
  | nil => intro w g n _; simp [unlinkAll]
  | cons k l ih =>
    intro w g n hl
    obtain ⟨k1, k2⟩ := hl k List.mem_cons_self
    have hrest : ∀ j ∈ l, 1 ≤ j ∧ j ≤ (unlink w k id).runs.length := fun j hj => by rw [unlink_length]; exact hl j (List.mem_cons_of_mem _ hj)
    have hun : unlink (giveAll id w g) k id = giveAll id (unlink w k id) g := unlink_giveAll k1 g w k2
    have htr : (getR (giveAll id w g).runs k).trap = (getR w.runs k).trap := giveAll_trap id g w k k1
    have hf : ∀ p : Bool → Bool, l.filter (fun j => p (getR (unlink w k id).runs j).trap) = l.filter (fun j => p (getR w.runs j).trap) := by
      intro p
      apply List.filter_congr
      intro j hj
      rw [unlink_trap w k1 k2 (hl j (List.mem_cons_of_mem _ hj)).1]
    rw [List.foldl_cons]
    unfold linkStep
    simp only [hun, htr]
    show List.foldl (linkStep id normal) _ l = _
    cases normal with
    | true =>
      simp only [if_true]
      rw [ih _ _ _ hrest]
      simp [unlinkAll]
    | false =>
      simp only [Bool.false_eq_true, if_false]
      by_cases ht : (getR w.runs k).trap = true
      · rw [if_pos ht]
        have e : give (giveAll id (unlink w k id) g) k ⟨3, id⟩ = giveAll id (unlink w k id) (g ++ [k]) := by rw [giveAll_append]; rfl
        rw [e, ih _ _ _ hrest]
        simp only [Bool.false_eq_true, if_false, hf (fun b => b), hf (fun b => !b), List.filter_cons, ht, if_true, Bool.not_true]
        simp [unlinkAll]
      · rw [if_neg ht, ih _ _ _ hrest]
        have ht' : (getR w.runs k).trap = false := by simpa using ht
        simp only [Bool.false_eq_true, if_false, hf (fun b => b), hf (fun b => !b), List.filter_cons, ht', if_true, Bool.not_false]
        simp [unlinkAll]

theorem less_less (l : List Int) (n : Int) : less (less l n) n = less l n := by simp [less]
theorem mem_less {l : List Int} {n x : Int} : x ∈ less l n ↔ x ∈ l ∧ x ≠ n := by simp [less]
theorem less_none {l : List Int} {n : Int} (h : n ∉ l) : less l n = l := by
  unfold less
  rw [List.filter_eq_self]
  intro x hx
  simp only [Bool.not_eq_true', beq_eq_false_iff_ne, ne_eq]
  rintro rfl
  exact h hx
theorem unlinkAll_run (id : Int) : ∀ (l : List Int) (w : Wd) (x : Int), (∀ k ∈ l, 1 ≤ k ∧ k ≤ w.runs.length) → 1 ≤ x →
    getR (unlinkAll id w l).runs x = if x ∈ l then { getR w.runs x with links := less (getR w.runs x).links id } else getR w.runs x := by
  intro l
  induction l with
  | nil => intro w x _ _; simp [unlinkAll]
  | cons k l ih =>
    intro w x hl hx
    obtain ⟨k1, k2⟩ := hl k List.mem_cons_self
    show getR (unlinkAll id (unlink w k id) l).runs x = _
    rw [ih _ x (fun j hj => by rw [unlink_length]; exact hl j (List.mem_cons_of_mem _ hj)) hx, unlink_run w k1 k2 hx]
    by_cases e : x = k
    · subst e
      rw [if_pos rfl, if_pos List.mem_cons_self]
      split
      · simp only [less_less]
      · rfl
    · rw [if_neg e]
      by_cases hm : x ∈ l
      · rw [if_pos hm, if_pos (List.mem_cons_of_mem _ hm)]
      · rw [if_neg hm, if_neg (by simp [e, hm])]

/-! ### The run itself -/
/-- The world behind a run's end, before anybody is told. -/
def cleared (w : Wd) (id : Int) (why : Vl) : Wd := unlinkAll id (endFirst w id why) (getR w.runs id).links
theorem endFirst_length (w : Wd) (id : Int) (why : Vl) : (endFirst w id why).runs.length = w.runs.length := by simp [endFirst, updR_length]
theorem getR_map {l : List Rn} {f : Rn → Rn} {x : Int} (h1 : 1 ≤ x) (h2 : x ≤ l.length) : getR (l.map f) x = f (getR l x) := by
  rw [mem_getR h1 (by rw [List.length_map]; exact h2), mem_getR h1 h2]
  simp
theorem endFirst_run {w : Wd} {id : Int} (i1 : 1 ≤ id) (i2 : id ≤ w.runs.length) (why : Vl) {x : Int} (x1 : 1 ≤ x) (x2 : x ≤ w.runs.length) :
    getR (endFirst w id why).runs x = if x = id then endOne why (getR w.runs id) else { getR w.runs x with watched := less (getR w.runs x).watched id } := by
  unfold endFirst
  rw [getR_map x1 (by rw [updR_length]; exact x2), getR_updR i1 i2 x1]
  by_cases e : x = id
  · rw [if_pos e, if_pos e]
    rfl
  · rw [if_neg e, if_neg e]
theorem cleared_length (w : Wd) (id : Int) (why : Vl) : (cleared w id why).runs.length = w.runs.length := by rw [cleared, unlinkAll_length, endFirst_length]
theorem cleared_run {w : Wd} (h : WOk w) {id : Int} (i1 : 1 ≤ id) (i2 : id ≤ w.runs.length) (why : Vl) {x : Int} (x1 : 1 ≤ x) (x2 : x ≤ w.runs.length) :
    getR (cleared w id why).runs x = if x = id then endOne why (getR w.runs id) else { getR w.runs x with links := less (getR w.runs x).links id, watched := less (getR w.runs x).watched id } := by
  unfold cleared
  rw [unlinkAll_run id _ _ x (fun k hk => by rw [endFirst_length]; exact (h.link i1 i2 hk).1) x1, endFirst_run i1 i2 why x1 x2]
  by_cases e : x = id
  · rw [if_pos e, if_neg (fun hm => (h.link i1 i2 hm).2.2.2 e)]
    rw [if_pos e]
  · rw [if_neg e, if_neg e]
    by_cases hm : x ∈ (getR w.runs id).links
    · rw [if_pos hm]
    · rw [if_neg hm]
      have : less (getR w.runs x).links id = (getR w.runs x).links := less_none (fun hi => hm (h.link x1 x2 hi).2.1)
      rw [this]
theorem unlinkAll_rest (id : Int) : ∀ (l : List Int) (w : Wd), (unlinkAll id w l).code = w.code ∧ (unlinkAll id w l).queue = w.queue ∧ (unlinkAll id w l).now = w.now ∧ (unlinkAll id w l).sent = w.sent ∧ (unlinkAll id w l).taken = w.taken ∧ (unlinkAll id w l).lost = w.lost := by
  intro l
  induction l with
  | nil => intro w; exact ⟨rfl, rfl, rfl, rfl, rfl, rfl⟩
  | cons k l ih => intro w; exact ih (unlink w k id)
theorem cleared_rest (w : Wd) (id : Int) (why : Vl) : (cleared w id why).code = w.code ∧ (cleared w id why).queue = less w.queue id ∧ (cleared w id why).now = w.now ∧ (cleared w id why).sent = w.sent ∧ (cleared w id why).taken = w.taken ∧ (cleared w id why).lost = wr (w.lost + (getR w.runs id).mail.length) := by
  exact unlinkAll_rest id _ _
/-- What a run's end is. -/
theorem endRun_eq {w : Wd} (h : WOk w) {id : Int} (i1 : 1 ≤ id) (i2 : id ≤ w.runs.length) (why : Vl) :
    endRun w id why = (giveAll id (cleared w id why) ((if isNormal why then [] else (getR w.runs id).links.filter (fun k => (getR w.runs k).trap)) ++ (getR w.runs id).watched), if isNormal why then [] else (getR w.runs id).links.filter (fun k => !(getR w.runs k).trap)) := by
  have hl : ∀ k ∈ (getR w.runs id).links, 1 ≤ k ∧ k ≤ (endFirst w id why).runs.length := fun k hk => by rw [endFirst_length]; exact (h.link i1 i2 hk).1
  have e := links_fold id (isNormal why) (getR w.runs id).links (endFirst w id why) [] [] hl
  have hf : ∀ p : Bool → Bool, (getR w.runs id).links.filter (fun j => p (getR (endFirst w id why).runs j).trap) = (getR w.runs id).links.filter (fun j => p (getR w.runs j).trap) := by
    intro p
    apply List.filter_congr
    intro j hj
    have := h.link i1 i2 hj
    rw [endFirst_run i1 i2 why this.1.1 this.1.2, if_neg this.2.2.2]
  simp only [hf (fun b => b), hf (fun b => !b), List.nil_append] at e
  unfold endRun
  show (giveAll id (List.foldl (linkStep id (isNormal why)) (giveAll id (endFirst w id why) [], []) (getR w.runs id).links).1 _, (List.foldl (linkStep id (isNormal why)) (giveAll id (endFirst w id why) [], []) (getR w.runs id).links).2) = _
  rw [e, giveAll_append]
  rfl

theorem idsOk_less {l : List Int} {own : Int} (h : idsOk l own = true) (n : Int) : idsOk (less l n) own = true := by
  rw [idsOk_iff] at h ⊢
  exact ⟨fun x hx => h.1 x (mem_less.1 hx).1, h.2.filter _⟩
theorem runOk_less {r : Rn} (h : runOk r = true) (n : Int) : runOk { r with links := less r.links n, watched := less r.watched n } = true := by
  obtain ⟨h1, h2, h3, h4, h5, h6, h7, h8, h9, h10, h11, h12, h13, h14, h15⟩ := runOk_parts h
  simp only [runOk, Bool.and_eq_true, decide_eq_true_eq, inB_iff, beq_iff_eq]
  refine ⟨⟨⟨⟨⟨⟨⟨⟨⟨⟨⟨⟨⟨h1, h2⟩, h3⟩, h4⟩, h5⟩, h6⟩, h7⟩, h8⟩, h9⟩, h10⟩, idsOk_less h11 n⟩, idsOk_less h12 n⟩, h13⟩, ?_⟩
  split
  · rename_i hs
    obtain ⟨a, b, c⟩ := h14 hs
    simp [a, b, c, less]
  · rename_i hs
    simpa using h15 hs
theorem runOk_end {r : Rn} (h : runOk r = true) {why : Vl} (hv : valOk why = true) : runOk (endOne why r) = true := by
  obtain ⟨h1, h2, h3, h4, h5, h6, h7, h8, h9, h10, h11, h12, h13, h14, h15⟩ := runOk_parts h
  simp only [runOk, endOne, Bool.and_eq_true, inB_iff, beq_iff_eq]
  exact ⟨⟨⟨⟨⟨⟨⟨⟨⟨⟨⟨⟨⟨h1, h2⟩, h3⟩, h4⟩, by simp⟩, by omega⟩, by omega⟩, h8⟩, h9⟩, by simp⟩, by simp [idsOk, idsFrom]⟩, by simp [idsOk, idsFrom]⟩, hv⟩, by simp⟩

theorem cleared_alive {w : Wd} (h : WOk w) {id : Int} (i1 : 1 ≤ id) (i2 : id ≤ w.runs.length) (why : Vl) {x : Int} : aliveIn (cleared w id why).runs x = true ↔ aliveIn w.runs x = true ∧ x ≠ id := by
  rw [aliveIn_iff, aliveIn_iff, cleared_length]
  constructor
  · rintro ⟨hx, hs⟩
    rw [cleared_run h i1 i2 why hx.1 hx.2] at hs
    by_cases e : x = id
    · rw [if_pos e] at hs
      exact absurd rfl hs
    · rw [if_neg e] at hs
      exact ⟨⟨hx, hs⟩, e⟩
  · rintro ⟨⟨hx, hs⟩, e⟩
    rw [cleared_run h i1 i2 why hx.1 hx.2, if_neg e]
    exact ⟨hx, hs⟩

theorem waits_eq {l m : List Rn} (hl : l.length = m.length) (h : ∀ x : Int, 1 ≤ x → x ≤ l.length → (getR l x).mail.length = (getR m x).mail.length) : waits l = waits m := by
  induction l generalizing m with
  | nil => cases m with
    | nil => rfl
    | cons _ _ => simp at hl
  | cons r l ih =>
    cases m with
    | nil => simp at hl
    | cons s m =>
      have h1 := h 1 (by omega) (by simp; omega)
      have e1 : getR (r :: l) 1 = r := rfl
      have e2 : getR (s :: m) 1 = s := rfl
      rw [e1, e2] at h1
      have := ih (m := m) (by simpa using hl) (fun x x1 x2 => by
        have := h (x + 1) (by omega) (by simp; omega)
        have e3 : ∀ (y : Rn) (q : List Rn), getR (y :: q) (x + 1) = getR q x := by
          intro y q
          unfold getR
          rw [show (x + 1 - 1).toNat = (x - 1).toNat + 1 by omega]
          rfl
        rwa [e3, e3] at this)
      simp only [waits]
      omega

theorem cleared_ok {w : Wd} (h : WOk w) {id : Int} (ha : aliveIn w.runs id = true) {why : Vl} (hv : valOk why = true) : WOk (cleared w id why) := by
  obtain ⟨⟨i1, i2⟩, i3⟩ := aliveIn_iff.1 ha
  obtain ⟨c1, c2, c3, c4, c5, c6⟩ := cleared_rest w id why
  have hlen := cleared_length w id why
  have wn := waits_nonneg w.runs
  have wg := waits_ge i1 i2
  have b1 := h.sent; have b2 := h.taken; have b3 := h.lost; have b4 := h.sum
  have hlost : (cleared w id why).lost = w.lost + (getR w.runs id).mail.length := by rw [c6, wr_eq (by omega) (by omega)]
  have hwaits : waits (cleared w id why).runs = waits w.runs - (getR w.runs id).mail.length := by
    have := waits_updR i1 i2 (fun r => { r with mail := [] })
    rw [← Int.sub_zero (waits w.runs - _)]
    have e : waits (cleared w id why).runs = waits (updR w.runs id (fun r => { r with mail := [] })) := by
      apply waits_eq
      · rw [hlen, updR_length]
      · intro x x1 x2
        rw [hlen] at x2
        rw [cleared_run h i1 i2 why x1 x2, getR_updR i1 i2 x1]
        by_cases e : x = id
        · rw [if_pos e, if_pos e]; rfl
        · rw [if_neg e, if_neg e]
    rw [e, this]
    simp
  refine wok_of (by rw [c1]; exact h.safe) (by rw [hlen]; exact h.len) (by rw [c3]; exact h.now) (by rw [c4]; exact h.sent) (by rw [c5]; exact h.taken) (by rw [hlost]; omega) ?_ ?_ ?_ ?_ (by rw [c4, c5, hlost, hwaits]; omega)
  · intro x hx
    rw [c2] at hx
    rw [hlen]
    exact h.qin x (mem_less.1 hx).1
  · rw [c2]
    exact h.qnd.filter _
  · intro x x1 x2
    rw [hlen] at x2
    have f := h.run x1 x2
    have hid := h.run_id x1 x2
    rw [c1, cleared_run h i1 i2 why x1 x2]
    by_cases e : x = id
    · subst e
      rw [if_pos rfl]
      refine ⟨runOk_end f.ok hv, f.id, by rw [c1]; exact f.at_, ?_, fun hs => ?_, fun y hy => by simp [endOne] at hy, fun y hy => by simp [endOne] at hy, fun hs => absurd rfl hs⟩
      · rw [c2, mem_less]
        refine ⟨fun hm => absurd hid hm.2, fun hs => ?_⟩
        have : (3 : Int) = 1 := hs
        omega
      · have : (3 : Int) = 2 := hs
        omega
    · rw [if_neg e]
      refine ⟨runOk_less f.ok id, f.id, by rw [c1]; exact f.at_, ?_, fun hs => ?_, fun y hy => ?_, fun y hy => ?_, f.need⟩
      · rw [c2, mem_less]
        refine ⟨fun hm => f.queue.1 hm.1, fun hs => ⟨f.queue.2 hs, ?_⟩⟩
        show (getR w.runs x).id ≠ id
        omega
      · have := f.waits hs
        simp only [waitsOk, c1, c3] at this ⊢
        exact this
      · have hy' := mem_less.1 hy
        exact (cleared_alive h i1 i2 why).2 ⟨f.links y hy'.1, hy'.2⟩
      · have hy' := mem_less.1 hy
        exact (cleared_alive h i1 i2 why).2 ⟨f.watched y hy'.1, hy'.2⟩
  · intro a b a1 a2 b1' b2' hb
    rw [hlen] at a2 b2'
    rw [cleared_run h i1 i2 why a1 a2] at hb
    rw [cleared_run h i1 i2 why b1' b2']
    by_cases ea : a = id
    · rw [if_pos ea] at hb
      simp [endOne] at hb
    · rw [if_neg ea] at hb
      have hb' := mem_less.1 hb
      rw [if_neg hb'.2]
      exact mem_less.2 ⟨(h.link a1 a2 hb'.1).2.1, ea⟩

theorem giveAll_ok {id : Int} (hid : 1 ≤ id ∧ id ≤ 6) : ∀ (l : List Int) {w : Wd}, WOk w → w.sent + l.length ≤ 9999 →
    WOk (giveAll id w l) ∧ (giveAll id w l).sent = w.sent + l.length ∧ (giveAll id w l).taken = w.taken ∧ (giveAll id w l).code = w.code ∧ (giveAll id w l).now = w.now ∧ w.lost ≤ (giveAll id w l).lost := by
  have hv : valOk ⟨3, id⟩ = true := by simp [valOk, inB]; omega
  intro l
  induction l with
  | nil => intro w h _; exact ⟨h, by simp [giveAll], rfl, rfl, rfl, Int.le_refl _⟩
  | cons k l ih =>
    intro w h hs
    simp only [List.length_cons] at hs
    have b := h.sent
    have g := give_ok h (by omega) k hv
    have e : (give w k ⟨3, id⟩).sent = w.sent + 1 := by rw [give_sent, wr_eq (by omega) (by omega)]
    have hl : w.lost ≤ (give w k ⟨3, id⟩).lost := by
      have b3 := h.lost
      rw [give_lost]
      split
      · exact Int.le_refl _
      · rw [wr_eq (by omega) (by omega)]; omega
    obtain ⟨k1, k2, k3, k4, k5, k6⟩ := ih g (by omega)
    show WOk (giveAll id (give w k _) l) ∧ (giveAll id (give w k _) l).sent = _ ∧ _
    exact ⟨k1, by rw [k2, e]; simp only [List.length_cons]; omega, k3.trans (give_taken _ _ _), k4.trans (give_code _ _ _), k5.trans (give_now _ _ _), Int.le_trans hl k6⟩

end Go.Proofs.Ytmidnaafljgbiaa
/- Who falls, who is told, what is lost. No Go and no memory here. -/
namespace Go.Proofs.Ytmidnaafljgbiaa

theorem sumR_le {g : Rn → Nat} {l m : List Rn} (hl : l.length = m.length) (h : ∀ x : Int, 1 ≤ x → x ≤ l.length → g (getR l x) ≤ g (getR m x)) : sumR g l ≤ sumR g m := by
  induction l generalizing m with
  | nil => simp [sumR]
  | cons r l ih =>
    cases m with
    | nil => simp at hl
    | cons s m =>
      have h1 := h 1 (by omega) (by simp; omega)
      have e1 : getR (r :: l) 1 = r := rfl
      have e2 : getR (s :: m) 1 = s := rfl
      rw [e1, e2] at h1
      have := ih (m := m) (by simpa using hl) (fun x x1 x2 => by
        have := h (x + 1) (by omega) (by simp; omega)
        have e3 : ∀ (y : Rn) (q : List Rn), getR (y :: q) (x + 1) = getR q x := by
          intro y q
          unfold getR
          rw [show (x + 1 - 1).toNat = (x - 1).toNat + 1 by omega]
          rfl
        rwa [e3, e3] at this)
      simp only [sumR]
      omega
theorem sumR_set {g : Rn → Nat} {l : List Rn} {k : Nat} (hk : k < l.length) (r : Rn) : sumR g (l.set k r) + g l[k] = sumR g l + g r := by
  induction l generalizing k with
  | nil => simp at hk
  | cons x l ih =>
    cases k with
    | zero => simp only [List.set_cons_zero, sumR, List.getElem_cons_zero]; omega
    | succ k => have := ih (k := k) (by simpa using hk); simp only [List.set_cons_succ, sumR, List.getElem_cons_succ]; omega
theorem sumR_down {g : Rn → Nat} {l m : List Rn} (hl : l.length = m.length) (h : ∀ x : Int, 1 ≤ x → x ≤ l.length → g (getR l x) ≤ g (getR m x)) {id : Int} (i1 : 1 ≤ id) (i2 : id ≤ l.length) {c : Nat} (hc : g (getR l id) + c ≤ g (getR m id)) : sumR g l + c ≤ sumR g m := by
  -- the run at id laid into m
  have hk : (id - 1).toNat < m.length := by omega
  have e := sumR_set (g := g) hk (getR l id)
  rw [← mem_getR i1 (by omega)] at e
  have := sumR_le (g := g) (l := l) (m := m.set (id - 1).toNat (getR l id)) (by simp [hl]) (fun x x1 x2 => by
    have e2 := getR_updR (l := m) i1 (by omega) x1 (fun _ => getR l id)
    unfold updR at e2
    rw [e2]
    split
    · rename_i e3
      rw [e3]
      exact Nat.le_refl _
    · exact h x x1 x2)
  omega
theorem len6 {l : List Int} {own : Int} (h : idsOk l own = true) : l.length ≤ 6 := by
  obtain ⟨h1, h2⟩ := idsOk_iff.1 h
  refine length_of_sub (b := [1, 2, 3, 4, 5, 6]) h2 (fun x hx => ?_)
  have := h1 x hx
  simp only [List.mem_cons, List.not_mem_nil, or_false]
  omega
/-! ### What giving leaves as it is -/
theorem giveAll_fields (id : Int) : ∀ (l : List Int) (w : Wd) {x : Int}, 1 ≤ x →
    (getR (giveAll id w l).runs x).at_ = (getR w.runs x).at_ ∧ (getR (giveAll id w l).runs x).slots = (getR w.runs x).slots ∧ (getR (giveAll id w l).runs x).links = (getR w.runs x).links ∧ (getR (giveAll id w l).runs x).watched = (getR w.runs x).watched ∧
    (getR (giveAll id w l).runs x).why = (getR w.runs x).why ∧ ((getR (giveAll id w l).runs x).state = 3 ↔ (getR w.runs x).state = 3) ∧ (∃ m, (getR (giveAll id w l).runs x).mail = (getR w.runs x).mail ++ m) ∧ (x ∉ l → (getR (giveAll id w l).runs x).mail = (getR w.runs x).mail) := by
  intro l
  induction l with
  | nil => intro w x _; exact ⟨rfl, rfl, rfl, rfl, rfl, Iff.rfl, ⟨[], by simp [giveAll]⟩, fun _ => rfl⟩
  | cons k l ih =>
    intro w x hx
    obtain ⟨a1, a2, a3, a4, a5, a6, ⟨m, a7⟩, a8⟩ := ih (give w k ⟨3, id⟩) hx
    obtain ⟨_, b1, b2, _, b3, b4, _, b5, b6, _, _⟩ := give_fields w k ⟨3, id⟩ hx
    have bm : (∃ m, (getR (give w k ⟨3, id⟩).runs x).mail = (getR w.runs x).mail ++ m) ∧ (x ≠ k → (getR (give w k ⟨3, id⟩).runs x).mail = (getR w.runs x).mail) := by
      have e := give_run w k ⟨3, id⟩ hx
      by_cases h : (aliveIn w.runs k && decide ((getR w.runs k).mail.length < 12)) = true ∧ x = k
      · rw [if_pos h] at e
        rw [e]
        exact ⟨⟨[⟨3, id⟩], rfl⟩, fun hn => absurd h.2 hn⟩
      · rw [if_neg h] at e
        rw [e]
        exact ⟨⟨[], by simp⟩, fun _ => rfl⟩
    obtain ⟨⟨m', bm1⟩, bm2⟩ := bm
    refine ⟨a1.trans b1, a2.trans b2, a3.trans b3, a4.trans b4, a5.trans b5, a6.trans b6, ⟨m' ++ m, ?_⟩, fun hn => ?_⟩
    · show (getR (giveAll id (give w k _) l).runs x).mail = _
      rw [a7, bm1, List.append_assoc]
    · simp only [List.mem_cons, not_or] at hn
      show (getR (giveAll id (give w k _) l).runs x).mail = _
      rw [a8 hn.2, bm2 hn.1]
theorem giveAll_alive (id : Int) (l : List Int) (w : Wd) (x : Int) : aliveIn (giveAll id w l).runs x = aliveIn w.runs x := by
  rw [Bool.eq_iff_iff, aliveIn_iff, aliveIn_iff, giveAll_length]
  constructor
  · rintro ⟨h, hs⟩
    exact ⟨h, fun e => hs ((giveAll_fields id l w h.1).2.2.2.2.2.1.2 e)⟩
  · rintro ⟨h, hs⟩
    exact ⟨h, fun e => hs ((giveAll_fields id l w h.1).2.2.2.2.2.1.1 e)⟩
/-- One that is given to, with room, has it. -/
theorem giveAll_has (id : Int) : ∀ (l : List Int) (w : Wd) {x : Int}, aliveIn w.runs x = true → (getR w.runs x).mail.length < 12 → x ∈ l → ∃ m, (getR (giveAll id w l).runs x).mail = (getR w.runs x).mail ++ ⟨3, id⟩ :: m := by
  intro l
  induction l with
  | nil => intro w x _ _ hm; simp at hm
  | cons k l ih =>
    intro w x ha hl hm
    have x1 := (aliveIn_iff.1 ha).1.1
    have e := give_run w k ⟨3, id⟩ x1
    by_cases hk : x = k
    · subst hk
      rw [if_pos ⟨by simp [ha, hl], rfl⟩] at e
      obtain ⟨_, _, _, _, _, _, ⟨m, a7⟩, _⟩ := giveAll_fields id l (give w x ⟨3, id⟩) x1
      refine ⟨m, ?_⟩
      show (getR (giveAll id (give w x _) l).runs x).mail = _
      rw [a7, e]
      simp
    · have hn : ¬ ((aliveIn w.runs k && decide ((getR w.runs k).mail.length < 12)) = true ∧ x = k) := fun hh => hk hh.2
      rw [if_neg hn] at e
      obtain ⟨m, h⟩ := ih (give w k ⟨3, id⟩) (x := x) (by rw [give_alive]; exact ha) (by rw [e]; exact hl) (by simpa [hk] using hm)
      refine ⟨m, ?_⟩
      show (getR (giveAll id (give w k _) l).runs x).mail = _
      rw [h, e]

/-! ### One run's end -/
structure Ended (w : Wd) (id : Int) (why : Vl) (e : Wd × List Int) : Prop where
  ok : WOk e.1
  code : e.1.code = w.code
  len : e.1.runs.length = w.runs.length
  now : e.1.now = w.now
  taken : e.1.taken = w.taken
  sent : w.sent ≤ e.1.sent ∧ e.1.sent ≤ w.sent + 12
  lost : w.lost + (getR w.runs id).mail.length ≤ e.1.lost
  alive : ∀ x, aliveIn e.1.runs x = true ↔ aliveIn w.runs x = true ∧ x ≠ id
  self : (getR e.1.runs id).why = why ∧ (getR e.1.runs id).state = 3
  dead : ∀ x : Int, 1 ≤ x → x ≤ w.runs.length → (getR w.runs x).state = 3 → (getR e.1.runs x).why = (getR w.runs x).why ∧ (getR e.1.runs x).mail = (getR w.runs x).mail
  stays : ∀ x : Int, 1 ≤ x → x ≤ w.runs.length → (getR e.1.runs x).at_ = (getR w.runs x).at_ ∧ (getR e.1.runs x).slots = (getR w.runs x).slots ∧ (getR e.1.runs x).trap = (getR w.runs x).trap
  links : ∀ x : Int, 1 ≤ x → x ≤ w.runs.length → (∀ y ∈ (getR e.1.runs x).links, y ∈ (getR w.runs x).links) ∧ (∀ y ∈ (getR e.1.runs x).watched, y ∈ (getR w.runs x).watched)
  fewer : ∀ x : Int, 1 ≤ x → x ≤ w.runs.length → (getR e.1.runs x).links.length ≤ (getR w.runs x).links.length
  mail : ∀ x : Int, 1 ≤ x → x ≤ w.runs.length → x ≠ id → ∃ m, (getR e.1.runs x).mail = (getR w.runs x).mail ++ m
  quiet : ∀ x : Int, 1 ≤ x → x ≤ w.runs.length → x ≠ id → (x ∉ (getR w.runs id).links ∨ isNormal why = true) → x ∉ (getR w.runs id).watched → (getR e.1.runs x).mail = (getR w.runs x).mail
  next : ∀ k ∈ e.2, k ∈ (getR w.runs id).links ∧ (getR w.runs k).trap = false
  normal : isNormal why = true → e.2 = []
  nexts : e.2.length ≤ (getR w.runs id).links.length
  told : ∀ x, aliveIn w.runs x = true → x ≠ id → (getR w.runs x).mail.length < 12 → (x ∈ (getR w.runs id).watched ∨ isNormal why = false ∧ x ∈ (getR w.runs id).links ∧ (getR w.runs x).trap = true) → ∃ m, (getR e.1.runs x).mail = (getR w.runs x).mail ++ ⟨3, id⟩ :: m
  many : ∀ l : List Int, l.Nodup → (∀ x ∈ l, x ∈ (getR w.runs id).watched ∨ isNormal why = false ∧ x ∈ (getR w.runs id).links ∧ (getR w.runs x).trap = true) → w.sent + l.length ≤ e.1.sent

theorem endRun_facts {w : Wd} (h : WOk w) {id : Int} (ha : aliveIn w.runs id = true) {why : Vl} (hv : valOk why = true) (hs : w.sent + 12 ≤ 9999) : Ended w id why (endRun w id why) := by
  obtain ⟨⟨i1, i2⟩, i3⟩ := aliveIn_iff.1 ha
  have fr := h.run i1 i2
  obtain ⟨_, _, _, _, _, _, _, _, _, _, o1, o2, _, _, _⟩ := runOk_parts fr.ok
  have hl1 := len6 o1
  have hl2 := len6 o2
  have hid : 1 ≤ id ∧ id ≤ 6 := ⟨i1, by have := h.len; omega⟩
  have hc := cleared_ok h ha hv
  obtain ⟨c1, c2, c3, c4, c5, c6⟩ := cleared_rest w id why
  have clen := cleared_length w id why
  obtain ⟨T, hT⟩ : ∃ T, T = (if isNormal why then [] else (getR w.runs id).links.filter (fun k => (getR w.runs k).trap)) ++ (getR w.runs id).watched := ⟨_, rfl⟩
  have hTl : T.length ≤ 12 := by
    rw [hT, List.length_append]
    have : (if isNormal why then ([] : List Int) else (getR w.runs id).links.filter (fun k => (getR w.runs k).trap)).length ≤ 6 := by
      split
      · simp
      · exact Nat.le_trans (List.length_filter_le _ _) hl1
    omega
  have hTm : ∀ x, x ∈ T ↔ (isNormal why = false ∧ x ∈ (getR w.runs id).links ∧ (getR w.runs x).trap = true) ∨ x ∈ (getR w.runs id).watched := by
    intro x
    rw [hT, List.mem_append]
    split
    · rename_i hn
      simp [hn]
    · rename_i hn
      simp [hn]
  have e : endRun w id why = (giveAll id (cleared w id why) T, if isNormal why then [] else (getR w.runs id).links.filter (fun k => !(getR w.runs k).trap)) := by rw [endRun_eq h i1 i2 why, hT]
  obtain ⟨g1, g2, g3, g4, g5, g6⟩ := giveAll_ok hid T hc (by rw [c4]; omega)
  have wn := waits_nonneg w.runs
  have wg := waits_ge i1 i2
  have b1 := h.sent; have b2 := h.taken; have b3 := h.lost; have b4 := h.sum
  have hlost : (cleared w id why).lost = w.lost + (getR w.runs id).mail.length := by rw [c6, wr_eq (by omega) (by omega)]
  have hrun : ∀ x : Int, 1 ≤ x → x ≤ w.runs.length → getR (cleared w id why).runs x = if x = id then endOne why (getR w.runs id) else { getR w.runs x with links := less (getR w.runs x).links id, watched := less (getR w.runs x).watched id } := fun x x1 x2 => cleared_run h i1 i2 why x1 x2
  rw [e]
  have F := fun (x : Int) (x1 : 1 ≤ x) => giveAll_fields id T (cleared w id why) x1
  refine ⟨g1, g4.trans c1, by rw [giveAll_length, clen], g5.trans c3, g3.trans c5, ?_, ?_, fun x => ?_, ?_, fun x x1 x2 hx => ?_, fun x x1 x2 => ?_, fun x x1 x2 => ?_, fun x x1 x2 => ?_, fun x x1 x2 hx => ?_, fun x x1 x2 hx hl hw => ?_, fun k hk => ?_, fun hn => ?_, ?_, fun x xa hx hm ht => ?_, fun l hnd hl => ?_⟩
  · show w.sent ≤ (giveAll id _ T).sent ∧ (giveAll id _ T).sent ≤ _
    rw [g2, c4]; omega
  · show _ ≤ (giveAll id _ T).lost
    omega
  · show aliveIn (giveAll id _ T).runs x = true ↔ _
    rw [giveAll_alive, cleared_alive h i1 i2 why]
  · obtain ⟨_, _, _, _, f5, f6, _, _⟩ := F id i1
    have := hrun id i1 i2
    rw [if_pos rfl] at this
    refine ⟨?_, ?_⟩
    · show (getR (giveAll id _ T).runs id).why = why
      rw [f5, this]; rfl
    · show (getR (giveAll id _ T).runs id).state = 3
      rw [f6, this]; rfl
  · have hne : x ≠ id := fun e => i3 (by rw [← e]; exact hx)
    obtain ⟨_, _, _, _, f5, f6, _, f8⟩ := F x x1
    have hr := hrun x x1 x2
    rw [if_neg hne] at hr
    have hxT : x ∉ T := by
      rw [hTm]
      rintro (⟨_, hm, _⟩ | hm)
      · exact (h.link i1 i2 hm).2.2.1 hx
      · exact (aliveIn_iff.1 (fr.watched x hm)).2 hx
    refine ⟨?_, ?_⟩
    · show (getR (giveAll id _ T).runs x).why = _
      rw [f5, hr]
    · show (getR (giveAll id _ T).runs x).mail = _
      rw [f8 hxT, hr]
  · obtain ⟨f1, f2, _, _, _, _, _, _⟩ := F x x1
    have f9 := giveAll_trap id T (cleared w id why) x x1
    have hr := hrun x x1 x2
    show (getR (giveAll id _ T).runs x).at_ = _ ∧ (getR (giveAll id _ T).runs x).slots = _ ∧ (getR (giveAll id _ T).runs x).trap = _
    rw [f1, f2, f9, hr]
    split
    · rename_i e
      rw [e]
      exact ⟨rfl, rfl, rfl⟩
    · exact ⟨rfl, rfl, rfl⟩
  · obtain ⟨_, _, f3, f4, _, _, _, _⟩ := F x x1
    have hr := hrun x x1 x2
    show (∀ y ∈ (getR (giveAll id _ T).runs x).links, _) ∧ (∀ y ∈ (getR (giveAll id _ T).runs x).watched, _)
    rw [f3, f4, hr]
    split
    · exact ⟨fun y hy => by simp [endOne] at hy, fun y hy => by simp [endOne] at hy⟩
    · exact ⟨fun y hy => (mem_less.1 hy).1, fun y hy => (mem_less.1 hy).1⟩
  · obtain ⟨_, _, f3, _, _, _, _, _⟩ := F x x1
    have hr := hrun x x1 x2
    show (getR (giveAll id _ T).runs x).links.length ≤ _
    rw [f3, hr]
    split
    · simp [endOne]
    · exact List.length_filter_le _ _
  · obtain ⟨_, _, _, _, _, _, ⟨m, f7⟩, _⟩ := F x x1
    have hr := hrun x x1 x2
    rw [if_neg hx] at hr
    refine ⟨m, ?_⟩
    show (getR (giveAll id _ T).runs x).mail = _
    rw [f7, hr]
  · obtain ⟨_, _, _, _, _, _, _, f8⟩ := F x x1
    have hr := hrun x x1 x2
    rw [if_neg hx] at hr
    have hxT : x ∉ T := by
      rw [hTm]
      rintro (⟨hn, hm, _⟩ | hm)
      · rcases hl with hl | hl
        · exact hl hm
        · rw [hl] at hn; cases hn
      · exact hw hm
    show (getR (giveAll id _ T).runs x).mail = _
    rw [f8 hxT, hr]
  · have hk' : k ∈ (if isNormal why then ([] : List Int) else (getR w.runs id).links.filter (fun k => !(getR w.runs k).trap)) := hk
    split at hk'
    · simp at hk'
    · simpa using hk'
  · show (if isNormal why then ([] : List Int) else _) = []
    rw [if_pos hn]
  · show (if isNormal why then ([] : List Int) else (getR w.runs id).links.filter (fun k => !(getR w.runs k).trap)).length ≤ _
    split
    · simp
    · exact List.length_filter_le _ _
  · have x1 := (aliveIn_iff.1 xa).1
    have hr := hrun x x1.1 x1.2
    rw [if_neg hx] at hr
    have := giveAll_has id T (cleared w id why) (x := x) ((cleared_alive h i1 i2 why).2 ⟨xa, hx⟩) (by rw [hr]; exact hm) ((hTm x).2 (ht.symm))
    rw [hr] at this
    exact this
  · show _ ≤ (giveAll id _ T).sent
    have := length_of_sub hnd (b := T) (fun x hx => (hTm x).2 (hl x hx).symm)
    rw [g2, c4]
    omega

end Go.Proofs.Ytmidnaafljgbiaa
/- Whether a run fits its world. Those that it knows are alive, and what is full is enough. -/
namespace Go.Proofs.Ytmidnaafljgbiaa
open Go.RowKit
set_option maxRecDepth 100000
attribute [local go_sem ↓] Go.wp_at_zero Go.wp_at_succ

end Go.Proofs.Ytmidnaafljgbiaa
/- Whether a run fits its world. -/
namespace Go.Proofs.Ytmidnaafljgbiaa
open Go.RowKit

end Go.Proofs.Ytmidnaafljgbiaa
