/- Parts of the proof, in one text. -/
import Derived.Deep.RegionWith
import Derived.Deep.DrawnRows
import Derived.Test.YtmidnaafljgbiaaN25
import Derived.Test.YtmidnaafljgbiaaN23
import Derived.Test.YtmidnaafljgbiaaN11
import Derived.Test.YtmidnaafljgbiaaN24
/- Who falls, who is told, what is lost. No Go and no memory here. -/
namespace Go.Proofs.Ytmidnaafljgbiaa

theorem sumR_le {g : Rn → Nat} {l m : List Rn} (hl : l.length = m.length) (h : ∀ x : Int, 1 ≤ x → x ≤ l.length → g (getR l x) ≤ g (getR m x)) : sumR g l ≤ sumR g m := by
  induction l generalizing m with
  | nil => simp [sumR]
  | cons r l ih =>
    cases m with
    | nil => simp at hl
    | cons s m =>
      have h1 := h 1 (by omega) (by simp; omega)
      have e1 : getR (r :: l) 1 = r := rfl
      have e2 : getR (s :: m) 1 = s := rfl
      rw [e1, e2] at h1
      have := ih (m := m) (by simpa using hl) (fun x x1 x2 => by
        have := h (x + 1) (by omega) (by simp; omega)
        have e3 : ∀ (y : Rn) (q : List Rn), getR (y :: q) (x + 1) = getR q x := by
          intro y q
          unfold getR
          rw [show (x + 1 - 1).toNat = (x - 1).toNat + 1 by omega]
          rfl
        rwa [e3, e3] at this)
      simp only [sumR]
      omega
theorem sumR_set {g : Rn → Nat} {l : List Rn} {k : Nat} (hk : k < l.length) (r : Rn) : sumR g (l.set k r) + g l[k] = sumR g l + g r := by
  induction l generalizing k with
  | nil => simp at hk
  | cons x l ih =>
    cases k with
    | zero => simp only [List.set_cons_zero, sumR, List.getElem_cons_zero]; omega
    | succ k => have := ih (k := k) (by simpa using hk); simp only [List.set_cons_succ, sumR, List.getElem_cons_succ]; omega
theorem sumR_down {g : Rn → Nat} {l m : List Rn} (hl : l.length = m.length) (h : ∀ x : Int, 1 ≤ x → x ≤ l.length → g (getR l x) ≤ g (getR m x)) {id : Int} (i1 : 1 ≤ id) (i2 : id ≤ l.length) {c : Nat} (hc : g (getR l id) + c ≤ g (getR m id)) : sumR g l + c ≤ sumR g m := by
  -- the run at id laid into m
  have hk : (id - 1).toNat < m.length := by omega
  have e := sumR_set (g := g) hk (getR l id)
  rw [← mem_getR i1 (by omega)] at e
  have := sumR_le (g := g) (l := l) (m := m.set (id - 1).toNat (getR l id)) (by simp [hl]) (fun x x1 x2 => by
    have e2 := getR_updR (l := m) i1 (by omega) x1 (fun _ => getR l id)
    unfold updR at e2
    rw [e2]
    split
    · rename_i e3
      rw [e3]
      exact Nat.le_refl _
    · exact h x x1 x2)
  omega
theorem len6 {l : List Int} {own : Int} (h : idsOk l own = true) : l.length ≤ 6 := by
  obtain ⟨h1, h2⟩ := idsOk_iff.1 h
  refine length_of_sub (b := [1, 2, 3, 4, 5, 6]) h2 (fun x hx => ?_)
  have := h1 x hx
  simp only [List.mem_cons, List.not_mem_nil, or_false]
  omega
/-! ### What giving leaves as it is -/
/-! ### One run's end -/
structure Ended (w : Wd) (id : Int) (why : Vl) (e : Wd × List Int) : Prop where
  ok : WOk e.1
  code : e.1.code = w.code
  len : e.1.runs.length = w.runs.length
  now : e.1.now = w.now
  taken : e.1.taken = w.taken
  sent : w.sent ≤ e.1.sent ∧ e.1.sent ≤ w.sent + 12
  lost : w.lost + (getR w.runs id).mail.length ≤ e.1.lost
  alive : ∀ x, aliveIn e.1.runs x = true ↔ aliveIn w.runs x = true ∧ x ≠ id
  self : (getR e.1.runs id).why = why ∧ (getR e.1.runs id).state = 3
  dead : ∀ x : Int, 1 ≤ x → x ≤ w.runs.length → (getR w.runs x).state = 3 → (getR e.1.runs x).why = (getR w.runs x).why ∧ (getR e.1.runs x).mail = (getR w.runs x).mail
  stays : ∀ x : Int, 1 ≤ x → x ≤ w.runs.length → (getR e.1.runs x).at_ = (getR w.runs x).at_ ∧ (getR e.1.runs x).slots = (getR w.runs x).slots ∧ (getR e.1.runs x).trap = (getR w.runs x).trap
  links : ∀ x : Int, 1 ≤ x → x ≤ w.runs.length → (∀ y ∈ (getR e.1.runs x).links, y ∈ (getR w.runs x).links) ∧ (∀ y ∈ (getR e.1.runs x).watched, y ∈ (getR w.runs x).watched)
  fewer : ∀ x : Int, 1 ≤ x → x ≤ w.runs.length → (getR e.1.runs x).links.length ≤ (getR w.runs x).links.length
  mail : ∀ x : Int, 1 ≤ x → x ≤ w.runs.length → x ≠ id → ∃ m, (getR e.1.runs x).mail = (getR w.runs x).mail ++ m
  quiet : ∀ x : Int, 1 ≤ x → x ≤ w.runs.length → x ≠ id → (x ∉ (getR w.runs id).links ∨ isNormal why = true) → x ∉ (getR w.runs id).watched → (getR e.1.runs x).mail = (getR w.runs x).mail
  next : ∀ k ∈ e.2, k ∈ (getR w.runs id).links ∧ (getR w.runs k).trap = false
  normal : isNormal why = true → e.2 = []
  nexts : e.2.length ≤ (getR w.runs id).links.length
  told : ∀ x, aliveIn w.runs x = true → x ≠ id → (getR w.runs x).mail.length < 12 → (x ∈ (getR w.runs id).watched ∨ isNormal why = false ∧ x ∈ (getR w.runs id).links ∧ (getR w.runs x).trap = true) → ∃ m, (getR e.1.runs x).mail = (getR w.runs x).mail ++ ⟨3, id⟩ :: m
  many : ∀ l : List Int, l.Nodup → (∀ x ∈ l, x ∈ (getR w.runs id).watched ∨ isNormal why = false ∧ x ∈ (getR w.runs id).links ∧ (getR w.runs x).trap = true) → w.sent + l.length ≤ e.1.sent

end Go.Proofs.Ytmidnaafljgbiaa
/- Whether a run fits its world. Those that it knows are alive, and what is full is enough. -/
namespace Go.Proofs.Ytmidnaafljgbiaa
open Go.RowKit
set_option maxRecDepth 100000
attribute [local go_sem ↓] Go.wp_at_zero Go.wp_at_succ

end Go.Proofs.Ytmidnaafljgbiaa
/- Whether a run fits its world. -/
namespace Go.Proofs.Ytmidnaafljgbiaa
open Go.RowKit

end Go.Proofs.Ytmidnaafljgbiaa
