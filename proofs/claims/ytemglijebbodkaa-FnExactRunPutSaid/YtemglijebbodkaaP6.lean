/- The laws' helpers on runs, over what is held. -/
import Derived.Test.YtemglijebbodkaaP5
import Derived.Test.YtemglijebbodkaaS11
import Derived.Test.YtemglijebbodkaaS18
namespace Go.Proofs.Ytemglijebbodkaa
open Go.RowKit
set_option maxRecDepth 100000

theorem Mem.grownRow {α : Type} {enc : α → List Value} {m : Nat} {t : TypeId} {A : Option Addr} {c : Nat} {xs ys : List α} {w0 w w' : World} {f : List Nat} {L L' : List Asn} (M : Mem w0 f w L) (hd : Del (row enc m t A c xs) L L')
    (h : OwnL enc m t w' 0 (.slice A ys.length c) ys) (hg : w.grownBy w' (Value.slice A xs.length c).ownBlock) : Mem w0 f w' (row enc m t A c ys :: L') := by
  refine (M.pull hd).step (A := row enc m t A c xs) (B := row enc m t A c ys) ⟨hg.os, hg.tape, hg.output, hg.size, fun k hk hn => hg.block k hk ?_, fun k hk => .inl hk, ?_⟩ h
  · intro e
    cases A with
    | none => cases e
    | some ad =>
      apply hn
      injection e with e
      simp [row, ob, e]
  · cases A <;> simp [row, ob]
theorem mMarkI (xs : List Int) (A : Option Addr) (c : Nat) (k0 : Int) {w0 w : World} {f : List Nat} {L L' : List Asn} (M : Mem w0 f w L) (hd : Del (rowI A c xs) L L') (h0 : 0 ≤ k0) (h1 : k0 ≤ 1152921504606846976) :
    Calls Try.prog 45 #[.slice A xs.length c, .int .i64 k0] w fun e w' => e = .returned (.int .i64 (k0 + xs.length)) ∧ Mem w0 f w' (rowI A c (marksI k0 xs.length) :: L') := by
  have h : OwnL encI 1 tI w 0 (.slice A xs.length c) xs := M.is hd
  refine (lMarkI xs A c 0 k0 w h h.1 h0 h1).mono ?_
  rintro e w' ⟨rfl, ho, hg⟩
  exact ⟨rfl, M.grownRow hd (by rw [marksI_length]; exact ho) hg⟩
theorem mMarkV (xs : List Vl) (A : Option Addr) (c : Nat) (k0 : Int) {w0 w : World} {f : List Nat} {L L' : List Asn} (M : Mem w0 f w L) (hd : Del (rowV A c xs) L L') (h0 : 0 ≤ k0) (h1 : k0 ≤ 1152921504606846976) :
    Calls Try.prog 44 #[.slice A xs.length c, .int .i64 k0] w fun e w' => e = .returned (.int .i64 (k0 + 2 * xs.length)) ∧ Mem w0 f w' (rowV A c (marksV k0 xs.length) :: L') := by
  have h : OwnL encV 2 tV w 0 (.slice A xs.length c) xs := M.is hd
  refine (lMarkV xs A c 0 k0 w h h.1 h0 h1).mono ?_
  rintro e w' ⟨rfl, ho, hg⟩
  exact ⟨rfl, M.grownRow hd (by rw [marksV_length]; exact ho) hg⟩
set_option maxHeartbeats 2000000 in
theorem mMarkRun (r : Rn) (a : RA) (k0 : Int) {w0 w : World} {f : List Nat} {L L' : List Asn} (M : Mem w0 f w L) (hd : Del (runA r a) L L') (h0 : 0 ≤ k0) (h1 : k0 ≤ 1048576) (n1 : r.slots.length ≤ 140737488355328) (n2 : r.mail.length ≤ 140737488355328) (n3 : r.links.length ≤ 140737488355328) (n4 : r.watched.length ≤ 140737488355328) :
    Calls Try.prog 16 #[.agg (runArr r a), .int .i64 k0] w fun e w' => e = .returned (.int .i64 (marksR r k0)) ∧ Mem w0 f w' (runA (markedR r k0) a :: L') := by
  obtain ⟨id, at_, slots, full, mail, state, due, links, watched, trap, ⟨wk, wn⟩, turns⟩ := r
  obtain ⟨sA, sC, mA, mC, lA, lC, wA, wC⟩ := a
  replace M := (M.pull hd).unpackRun
  clear hd
  simp only at M n1 n2 n3 n4
  have H1 := Lib.hid (fun W (L L' : List Asn) (M : Mem w0 f W L) (hd : Del (rowV sA sC slots) L L') => mMarkV slots sA sC k0 M hd h0 (by omega))
  have H2 := Lib.hid (fun W (L L' : List Asn) (M : Mem w0 f W L) (hd : Del (rowV mA mC mail) L L') => mMarkV mail mA mC (k0 + 2 * slots.length) M hd (by omega) (by omega))
  have H3 := Lib.hid (fun W (L L' : List Asn) (M : Mem w0 f W L) (hd : Del (rowI lA lC links) L L') => mMarkI links lA lC (k0 + 2 * slots.length + 2 * mail.length) M hd (by omega) (by omega))
  have H4 := Lib.hid (fun W (L L' : List Asn) (M : Mem w0 f W L) (hd : Del (rowI wA wC watched) L L') => mMarkI watched wA wC (k0 + 2 * slots.length + 2 * mail.length + links.length) M hd (by omega) (by omega))
  simp only [runArr, marksR, markedR]
  go_enter Try.func16, Try.ntmps16
  go_wp2_with (first
    | ((with_reducible refine goal_alloc (G := fun W => wpList _ _ _ _ _ W) M ?_); clear M; intro w1 M; (try clear F); have F := M.facts; simp only [FX] at F) | ((with_reducible apply ev_store (M := M)); rfl; rfl; ((conv => lhs; whnf) <;> rfl); rfl; (first | exact siI | exact siR | exact siV | exact siB | exact siSI | exact siSV | exact siW | exact siSR | exact siSO | exact siO); (exact one_all rfl); (repeat (first | with_reducible exact Del.here | with_reducible apply Del.there)); (exact Nat.le_of_ble_eq_true rfl); clear M; intro w1 M; simp only [SX] at M; (try clear F); have F := M.facts; simp only [FX] at F) | ((with_reducible refine goal_drewN (G := fun W => wpList _ _ _ _ _ W) M ?_); clear M; intro w1 M; (try clear F); have F := M.facts; simp only [FX] at F) | ((with_reducible refine goal_drew (G := fun W => wpList _ _ _ _ _ W) M ?_); clear M; intro w1 M; (try clear F); have F := M.facts; simp only [FX] at F) | ((with_reducible refine isSet (G := fun W => wpList _ _ _ _ _ W) ?_); ((with_reducible apply goal_name (G := fun W => wpList _ _ _ _ _ W)); (repeat (first | with_reducible exact M | with_reducible apply Mem.drew | with_reducible apply Mem.drewN | with_reducible apply Mem.allocD | with_reducible apply Mem.setV | with_reducible apply Mem.setD | with_reducible exact Del.here | with_reducible apply Del.there | with_reducible assumption)); clear M; intro w1 M; (try simp only [LX] at M); (try clear F); have F := M.facts; simp only [FX] at F))
    | (go_at_call_of 44 (Value.slice sA slots.length sC); refine (H1.out _ _ _ M (by repeat (first | with_reducible exact Del.here | with_reducible apply Del.there))).mono ?_; clear M; rintro e w2 ⟨rfl, M⟩; (try clear F); have F := M.facts; simp only [FX] at F)
    | (go_at_call_of 44 (Value.slice mA mail.length mC); refine (H2.out _ _ _ M (by repeat (first | with_reducible exact Del.here | with_reducible apply Del.there))).mono ?_; clear M; rintro e w2 ⟨rfl, M⟩; (try clear F); have F := M.facts; simp only [FX] at F)
    | (go_at_call_of 45 (Value.slice lA links.length lC); refine (H3.out _ _ _ M (by repeat (first | with_reducible exact Del.here | with_reducible apply Del.there))).mono ?_; clear M; rintro e w2 ⟨rfl, M⟩; (try clear F); have F := M.facts; simp only [FX] at F)
    | (go_at_call_of 45 (Value.slice wA watched.length wC); refine (H4.out _ _ _ M (by repeat (first | with_reducible exact Del.here | with_reducible apply Del.there))).mono ?_; clear M; rintro e w2 ⟨rfl, M⟩; (try clear F); have F := M.facts; simp only [FX] at F))
  go_ret
  refine ⟨rfl, ?_⟩
  apply Mem.packRun
  exact M.sel (by repeat (first | with_reducible exact Sel.refl | with_reducible exact Sel.nil | (with_reducible refine Sel.cons (by repeat (first | with_reducible exact Del.here | with_reducible apply Del.there)) ?_) | with_reducible apply Sel.drop))
theorem mToRun (r : Rn) (a : RA) (B : Nat) (w : World) (hr : ReadsRun w B r a) (hB : B ≤ w.heap.size) (h1 : r.slots.length ≤ 8796093022208) (h2 : r.mail.length ≤ 8796093022208) (h3 : r.links.length ≤ 17592186044416) (h4 : r.watched.length ≤ 17592186044416) :
    Calls Try.prog 20 #[.agg (runArr r a)] w fun e w' => ∃ b : RA, e = .returned (.agg (runArr r b)) ∧ Mem w [] w' [runA r b] := by
  refine (lToRun r a B w hr hB h1 h2 h3 h4).mono ?_
  rintro e w' ⟨s, m, l, o, rfl, ho, hb⟩
  obtain ⟨b, rfl, rfl, rfl, rfl, _⟩ := ho.reads
  exact ⟨b, rfl, Mem.ofRun ho hb⟩
end Go.Proofs.Ytemglijebbodkaa
