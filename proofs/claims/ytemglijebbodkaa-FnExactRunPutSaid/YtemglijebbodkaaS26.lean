/- A list appended to an empty row: a copy of the call's own. -/
import Derived.Test.YtemglijebbodkaaS25
namespace Go.Proofs.Ytemglijebbodkaa
open Go.RowKit
set_option maxRecDepth 100000

/-- A nil list has no room. -/
def NilZ (a : RA) : Prop := (a.sA = none → a.sC = 0) ∧ (a.mA = none → a.mC = 0) ∧ (a.lA = none → a.lC = 0) ∧ (a.wA = none → a.wC = 0)
theorem OwnL.nilZ {α : Type} {enc : α → List Value} {m t base : Nat} {w : World} {A : Option Addr} {n c : Nat} {xs : List α} (h : OwnL enc m t w base (.slice A n c) xs) : A = none → c = 0 := by
  rintro rfl
  rcases h.2.2 with ⟨e, _⟩ | ⟨g, cap, cur, e, _⟩
  · injection e
  · injection e with e; cases e
theorem OwnRun.nilZ {tV tI : Nat} {w : World} {base : Nat} {r : Rn} {a : RA} {n1 n2 n3 n4 : Nat} (h : OwnRun tV tI w base r (.slice a.sA n1 a.sC) (.slice a.mA n2 a.mC) (.slice a.lA n3 a.lC) (.slice a.wA n4 a.wC)) : NilZ a :=
  ⟨h.slots.nilZ, h.mail.nilZ, h.links.nilZ, h.watched.nilZ⟩

theorem wpList_copy {α : Type} {enc : α → List Value} {m : Nat} (hk : ∀ x, (enc x).length = m) (hone : ∀ x, ∀ u ∈ enc x, u.oneCell' = true) {P : Program} (w : World) {ops : Array Oper} {rest : List Oper} {o : Oper} {a : Act} {Q : Exit → Act → World → Prop} (hgd : o.guard = none) (s x : Operand) (t : TypeId)
    (ho : o.op = .call { callee := .builtin .append, args := #[s, x], argTypes := #[t, t] })
    (e : TypeId) (z : Value) (bytes : Nat) (ht : P.underlying t = some (.slice e)) (hinfo : (P.info? e).map (fun i => (i.zero, i.size, i.bytes)) = some (some z, m, bytes)) (hzs : z.cells.size = m) (h0 : 0 < m)
    (g base B : Nat) (hb : base ≤ g) (hB : base ≤ w.heap.size) (hg : w.heap[g]? = some (.cells #[] e)) (hs : a.eval s = .slice (some ⟨g, 0, none⟩) 0 0) (l : List α) (A : Option Addr) (c : Nat) (hx : a.eval x = .slice A l.length c) (hr : ReadsL enc m w B A l.length l) (hz : A = none → c = 0) (hby : l.length * bytes ≤ 140737488355328)
    (K : ∀ v' w', OwnL enc m e w' base v' l → w.grownBy w' (some g) → wpList P ops Q rest (a.put o.dst v') w') : wpList P ops Q (o :: rest) a w := by
  obtain ⟨i, hi, hzz⟩ := Option.map_eq_some_iff.1 hinfo
  simp only [Prod.mk.injEq] at hzz
  obtain ⟨hz0, hz1, hz2⟩ := hzz
  have hrow : w.ownsRow base e m (.slice (some ⟨g, 0, none⟩) 0 0) 0 [] := ⟨by simp, .inr ⟨g, 0, #[], rfl, hb, hg, Nat.le_refl _, by simp [maxLen], by simp, by simp⟩⟩
  have hn := hr.2.1
  cases A with
  | none =>
    have hl : l.length = 0 := by
      by_cases hp : 0 < l.length
      · obtain ⟨_, e, _⟩ := hr.2.2.2 hp
        cases e
      · omega
    obtain rfl : l = [] := List.length_eq_zero_iff.1 hl
    obtain rfl := hz rfl
    exact wpList_append_fits_any w hgd s x t ho base e i m ht hi hz1 g 0 0 [] hs hrow none 0 0 [] hx (by simp) (fun _ => ⟨rfl, rfl⟩) (fun ad h => by cases h) (fun u hu => by cases hu) (Nat.le_refl _) fun w' hw' hg' => K _ w' ⟨by simp, hw'⟩ hg'
  | some ad =>
    refine wpList_append_own w hgd s x t ho base e i z m bytes ht hi hz0 hz1 hz2 hzs h0 _ 0 [] hs hrow ad l.length c (flat enc l) hx (flat_length hk l) ?_ ?_ (by unfold maxLen; omega) (by rw [Nat.zero_add]; exact hby) hB fun v' w' hw' hg' _ => K v' w' ⟨hn, by simpa using hw'⟩ hg'
    · intro j u hu
      have hp : 0 < l.length := by
        by_cases hp : 0 < l.length
        · exact hp
        · obtain rfl : l = [] := List.length_eq_zero_iff.1 (by omega)
          simp [flat] at hu
      obtain ⟨ad', e, _, hc⟩ := hr.2.2.2 hp
      injection e with e
      subst e
      exact hc j u hu
    · intro u hu
      obtain ⟨y, _, hy⟩ := List.mem_flatMap.1 hu
      exact hone y u hy
end Go.Proofs.Ytemglijebbodkaa
