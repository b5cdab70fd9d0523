/- Parts of the proof, in one text. -/
import Derived.Test.YtomolbhcggaakaaGreatG13
import Derived.Test.YtomolbhcggaakaaGreatG07
import Derived.Test.YtomolbhcggaakaaGreatG11
/- Marks and copies over what is held. -/
namespace Go.Proofs.YtomolbhcggaakaaGreat
open Go.RowKit
set_option maxRecDepth 100000

theorem Mem.grownRow {α : Type} {enc : α → List Value} {m : Nat} {t : TypeId} {A : Option Addr} {c : Nat} {xs ys : List α} {w0 w w' : World} {f : List Nat} {L L' : List Asn} (M : Mem w0 f w L) (hd : Del (row enc m t A c xs) L L')
    (h : OwnL enc m t w' 0 (.slice A ys.length c) ys) (hg : w.grownBy w' (Value.slice A xs.length c).ownBlock) : Mem w0 f w' (row enc m t A c ys :: L') := by
  refine (M.pull hd).step (A := row enc m t A c xs) (B := row enc m t A c ys) ⟨hg.os, hg.tape, hg.output, hg.size, fun k hk hn => hg.block k hk ?_, fun k hk => .inl hk, ?_⟩ h
  · intro e
    cases A with
    | none => cases e
    | some ad =>
      apply hn
      injection e with e
      simp [row, ob, e]
  · cases A <;> simp [row, ob]
theorem mMarkI (xs : List Int) (A : Option Addr) (c : Nat) (k0 : Int) {w0 w : World} {f : List Nat} {L L' : List Asn} (M : Mem w0 f w L) (hd : Del (rowI A c xs) L L') (h0 : 0 ≤ k0) (h1 : k0 ≤ 1152921504606846976) :
    Calls Tryz.prog 25 #[.slice A xs.length c, .int .i64 k0] w fun e w' => e = .returned (.int .i64 (k0 + xs.length)) ∧ Mem w0 f w' (rowI A c (marksI k0 xs.length) :: L') := by
  have h : OwnL encI 1 tI w 0 (.slice A xs.length c) xs := M.is hd
  refine (lMarkI xs A c 0 k0 w h h.1 h0 h1).mono ?_
  rintro e w' ⟨rfl, ho, hg⟩
  exact ⟨rfl, M.grownRow hd (by rw [marksI_length]; exact ho) hg⟩
theorem mMarkV (xs : List Vl) (A : Option Addr) (c : Nat) (k0 : Int) {w0 w : World} {f : List Nat} {L L' : List Asn} (M : Mem w0 f w L) (hd : Del (rowV A c xs) L L') (h0 : 0 ≤ k0) (h1 : k0 ≤ 1152921504606846976) :
    Calls Tryz.prog 107 #[.slice A xs.length c, .int .i64 k0] w fun e w' => e = .returned (.int .i64 (k0 + 2 * xs.length)) ∧ Mem w0 f w' (rowV A c (marksV k0 xs.length) :: L') := by
  have h : OwnL encV 2 tV w 0 (.slice A xs.length c) xs := M.is hd
  refine (lMarkV xs A c 0 k0 w h h.1 h0 h1).mono ?_
  rintro e w' ⟨rfl, ho, hg⟩
  exact ⟨rfl, M.grownRow hd (by rw [marksV_length]; exact ho) hg⟩
theorem mToRun (r : Rn) (a : RA) (B : Nat) (w : World) (hr : ReadsRun w B r a) (hB : B ≤ w.heap.size) (h1 : r.slots.length ≤ 8796093022208) (h2 : r.mail.length ≤ 8796093022208) (h3 : r.links.length ≤ 17592186044416) (h4 : r.watched.length ≤ 17592186044416) :
    Calls Tryz.prog 94 #[.agg (runArr r a)] w fun e w' => ∃ b : RA, e = .returned (.agg (runArr r b)) ∧ Mem w [] w' [runA r b] := by
  refine (lToRun r a B w hr hB h1 h2 h3 h4).mono ?_
  rintro e w' ⟨s, m, l, o, rfl, ho, hb⟩
  obtain ⟨b, rfl, rfl, rfl, rfl, _⟩ := ho.reads
  exact ⟨b, rfl, Mem.ofRun ho hb⟩
end Go.Proofs.YtomolbhcggaakaaGreat
/- A world that a law is given: what its lists hold. -/
namespace Go.Proofs.YtomolbhcggaakaaGreat
open Go.RowKit

/-- A world that a law is given. -/
structure ReadsW (w : World) (B : Nat) (W : Wm) : Prop where
  code : ReadsL encO 6 w B W.cA W.code.length W.code
  runs : ReadsL encR 13 w B W.rA W.ps.length W.ps
  queue : ReadsI w B W.qA W.queue.length W.queue
  each : ∀ k (hk : k < W.ps.length), ReadsRun w B W.ps[k].1 W.ps[k].2
theorem ReadsW.below {w w' : World} {B : Nat} {W : Wm} (h : ReadsW w B W) (hb : Below w.heap.size w w') (hB : B ≤ w.heap.size) : ReadsW w' B W :=
  ⟨h.code.below' hb hB, h.runs.below' hb hB, h.queue.below' hb hB, fun k hk => (h.each k hk).below hb hB⟩
/-- Its lists fit into memory. -/
structure SizesW (W : Wm) : Prop where
  code : W.code.length * 48 ≤ 140737488351232
  runs : W.ps.length * 168 ≤ 140737488351232
  queue : W.queue.length * 8 ≤ 140737488351232
  each : ∀ k (hk : k < W.ps.length), W.ps[k].1.slots.length * 16 ≤ 140737488351232 ∧ W.ps[k].1.mail.length * 16 ≤ 140737488351232 ∧ W.ps[k].1.links.length * 8 ≤ 140737488351232 ∧ W.ps[k].1.watched.length * 8 ≤ 140737488351232
end Go.Proofs.YtomolbhcggaakaaGreat
