/- Parts of the proof, in one text. -/
import Derived.Laws.AppendOwn
import Derived.OwnWalk
import Derived.Lib.BufferMore
import Derived.Deep.RegionWith
import Derived.Deep.RegionHeld3
import Derived.Deep.QuietTactic
import Derived.BigQuiet
import Derived.Test.YtmidnaafljgbiaaB37
import Derived.Test.YtmidnaafljgbiaaB03
/- A whole run of the call's own marked: no block but its own rows turns. -/
namespace Go.Proofs.Ytmidnaafljgbiaa
open Go.RowKit
set_option maxRecDepth 100000

end Go.Proofs.Ytmidnaafljgbiaa
/- Copies of lists by the program. -/
namespace Go.Proofs.Ytmidnaafljgbiaa
open Go.RowKit
set_option maxRecDepth 100000

set_option maxHeartbeats 1000000 in
theorem iCloneV (l : List Vl) (A : Option Addr) (c B : Nat) (w : World) (h : ReadsL encV 2 w B A l.length l) (hB : B ≤ w.heap.size) (hs : l.length ≤ 8796093022208) :
    Calls Try.prog 91 #[.slice A l.length c] w fun e w' => ∃ v, e = .returned v ∧ OwnL encV 2 30 w' w.heap.size v l ∧ Below w.heap.size w w' := by
  cases A with
  | none =>
    have hn : l.length = 0 := by
      by_cases hp : 0 < l.length
      · obtain ⟨_, e, _⟩ := h.2.2.2 hp
        cases e
      · omega
    obtain rfl : l = [] := List.length_eq_zero_iff.1 hn
    clear h hs hn
    simp only [List.length_nil]
    have hq : ∀ W, (binOp .eql 29 (.slice none 0 c) (.slice none 0 0)).run Try.prog W = .ok (.bool true) W := fun W => Lib.run_eql_slice_nil_nil W _ _ Try.underlying29
    go_enter Try.func91, Try.ntmps91
    go_wp2
    go_ret
    exact ⟨_, rfl, OwnL.nil _ _, Below.refl _ _⟩
  | some ad =>
    obtain ⟨i, hi, hzz⟩ := Option.map_eq_some_iff.1 infoV
    simp only [Prod.mk.injEq] at hzz
    obtain ⟨hz0, hz1, hz2⟩ := hzz
    have hrow : Hid ((w.alloc (.cells #[] 30)).ownsRow w.heap.size 30 2 (.slice (some ⟨w.heap.size, 0, none⟩) 0 0) 0 []) := ⟨rfl, .inr ⟨w.heap.size, 0, #[], rfl, Nat.le_refl _, heap_alloc_new w _, Nat.le_refl _, by simp [maxLen], rfl, rfl⟩⟩
    have hnews : Hid (∀ j u, (flat encV l)[j]? = some u → (w.alloc (.cells #[] 30)).cell? (ad.add j) = some u) := by
      intro j u hu
      have hp : 0 < l.length := by
        by_cases hp : 0 < l.length
        · exact hp
        · obtain rfl : l = [] := List.length_eq_zero_iff.1 (by omega)
          simp [flat] at hu
      obtain ⟨ad', e, _, hc⟩ := (h.below' (below_box w (.cells #[] 30)) hB).2.2.2 hp
      injection e with e
      subst e
      exact hc j u hu
    have hone : Hid (∀ u ∈ flat encV l, u.oneCell' = true) := by
      intro u hu
      obtain ⟨x, _, hx⟩ := List.mem_flatMap.1 hu
      simp only [encV, List.mem_cons, List.not_mem_nil, _root_.or_false] at hx
      rcases hx with rfl | rfl <;> rfl
    have hfl : Hid ((flat encV l).length = l.length * 2) := flat_length encV_length l
    have hlen := h.2.1
    clear h
    have hq : ∀ W, (binOp .eql 29 (.slice (some ad) l.length c) (.slice none 0 0)).run Try.prog W = .ok (.bool false) W := fun W => Lib.run_eql_slice_some_nil W _ _ _ Try.underlying29
    go_enter Try.func91, Try.ntmps91
    go_wp2_with (at_builtin; refine wpList_append_own _ rfl _ _ 29 rfl w.heap.size 30 i (.agg #[.int .i64 0, .int .i64 0]) 2 16 Try.underlying29 hi hz0 hz1 hz2 rfl (by decide) _ _ [] rfl hrow.out ad l.length c (flat encV l) rfl hfl.out hnews.out hone.out ?c3 ?c4 ?c5 ?_)
    case c3 => unfold maxLen; omega
    case c4 => omega
    case c5 => simp
    · intro v' w1 hown hg _
      have hb : Below w.heap.size w w1 := (below_box w _).trans ⟨hg.os, hg.tape, hg.output, hg.size, fun k hk => hg.block k (by simp; omega) (fun e => by injection e with e; simp only at e; omega)⟩
      have ho : Hid (OwnL encV 2 30 w1 w.heap.size v' l) := ⟨hlen, by simpa using hown⟩
      clear hown hg hrow hnews hone hfl
      go_wp2
      go_ret
      exact ⟨_, rfl, ho.out, hb⟩

set_option maxHeartbeats 1000000 in
theorem iCloneI (l : List Int) (A : Option Addr) (c B : Nat) (w : World) (h : ReadsL encI 1 w B A l.length l) (hB : B ≤ w.heap.size) (hs : l.length ≤ 17592186044416) :
    Calls Try.prog 92 #[.slice A l.length c] w fun e w' => ∃ v, e = .returned v ∧ OwnL encI 1 3 w' w.heap.size v l ∧ Below w.heap.size w w' := by
  cases A with
  | none =>
    have hn : l.length = 0 := by
      by_cases hp : 0 < l.length
      · obtain ⟨_, e, _⟩ := h.2.2.2 hp
        cases e
      · omega
    obtain rfl : l = [] := List.length_eq_zero_iff.1 hn
    clear h hs hn
    simp only [List.length_nil]
    have hq : ∀ W, (binOp .eql 23 (.slice none 0 c) (.slice none 0 0)).run Try.prog W = .ok (.bool true) W := fun W => Lib.run_eql_slice_nil_nil W _ _ Try.underlying23
    go_enter Try.func92, Try.ntmps92
    go_wp2
    go_ret
    exact ⟨_, rfl, OwnL.nil _ _, Below.refl _ _⟩
  | some ad =>
    obtain ⟨i, hi, hzz⟩ := Option.map_eq_some_iff.1 infoI
    simp only [Prod.mk.injEq] at hzz
    obtain ⟨hz0, hz1, hz2⟩ := hzz
    have hrow : Hid ((w.alloc (.cells #[] 3)).ownsRow w.heap.size 3 1 (.slice (some ⟨w.heap.size, 0, none⟩) 0 0) 0 []) := ⟨rfl, .inr ⟨w.heap.size, 0, #[], rfl, Nat.le_refl _, heap_alloc_new w _, Nat.le_refl _, by simp [maxLen], rfl, rfl⟩⟩
    have hnews : Hid (∀ j u, (flat encI l)[j]? = some u → (w.alloc (.cells #[] 3)).cell? (ad.add j) = some u) := by
      intro j u hu
      have hp : 0 < l.length := by
        by_cases hp : 0 < l.length
        · exact hp
        · obtain rfl : l = [] := List.length_eq_zero_iff.1 (by omega)
          simp [flat] at hu
      obtain ⟨ad', e, _, hc⟩ := (h.below' (below_box w (.cells #[] 3)) hB).2.2.2 hp
      injection e with e
      subst e
      exact hc j u hu
    have hone : Hid (∀ u ∈ flat encI l, u.oneCell' = true) := by
      intro u hu
      obtain ⟨x, _, hx⟩ := List.mem_flatMap.1 hu
      simp only [encI, List.mem_cons, List.not_mem_nil, _root_.or_false] at hx
      subst hx
      rfl
    have hfl : Hid ((flat encI l).length = l.length * 1) := flat_length encI_length l
    have hlen := h.2.1
    clear h
    have hq : ∀ W, (binOp .eql 23 (.slice (some ad) l.length c) (.slice none 0 0)).run Try.prog W = .ok (.bool false) W := fun W => Lib.run_eql_slice_some_nil W _ _ _ Try.underlying23
    go_enter Try.func92, Try.ntmps92
    go_wp2_with (at_builtin; refine wpList_append_own _ rfl _ _ 23 rfl w.heap.size 3 i (.int .i64 0) 1 8 Try.underlying23 hi hz0 hz1 hz2 rfl (by decide) _ _ [] rfl hrow.out ad l.length c (flat encI l) rfl hfl.out hnews.out hone.out ?c3 ?c4 ?c5 ?_)
    case c3 => unfold maxLen; omega
    case c4 => omega
    case c5 => simp
    · intro v' w1 hown hg _
      have hb : Below w.heap.size w w1 := (below_box w _).trans ⟨hg.os, hg.tape, hg.output, hg.size, fun k hk => hg.block k (by simp; omega) (fun e => by injection e with e; simp only at e; omega)⟩
      have ho : Hid (OwnL encI 1 3 w1 w.heap.size v' l) := ⟨hlen, by simpa using hown⟩
      clear hown hg hrow hnews hone hfl
      go_wp2
      go_ret
      exact ⟨_, rfl, ho.out, hb⟩
end Go.Proofs.Ytmidnaafljgbiaa
/- The program's put of a value into a slot. -/
namespace Go.Proofs.Ytmidnaafljgbiaa
open Go.RowKit
set_option maxRecDepth 100000

end Go.Proofs.Ytmidnaafljgbiaa
