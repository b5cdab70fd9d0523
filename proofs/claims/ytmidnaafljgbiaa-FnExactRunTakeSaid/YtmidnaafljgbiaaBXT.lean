/- Parts of the proof, in one text. -/
import Derived.Test.YtmidnaafljgbiaaB46
import Derived.Test.YtmidnaafljgbiaaB17
import Derived.Test.YtmidnaafljgbiaaB43
import Derived.Test.YtmidnaafljgbiaaB45
/- The law of a taking: program and reference answer alike. -/
namespace Go.Proofs.Ytmidnaafljgbiaa
open Go.RowKit
set_option maxRecDepth 100000

theorem runTake_lengths (r : Rn) (kind : Int) : (runTake r kind).1.slots.length ≤ r.slots.length ∧ (runTake r kind).1.mail.length ≤ r.mail.length ∧ (runTake r kind).1.links.length ≤ r.links.length ∧ (runTake r kind).1.watched.length ≤ r.watched.length := by
  unfold runTake
  split
  · split
    · exact ⟨Nat.le_refl _, List.length_eraseIdx_le _ _, Nat.le_refl _, Nat.le_refl _⟩
    · simp [Rn.zero]
  · simp [Rn.zero]
set_option maxHeartbeats 8000000 in
theorem fnExactRunTake_small (r : Rn) (a : RA) (kind : Int) (w : World) (hr : ReadsRun w w.heap.size r a) (c : ¬ szR 1048576 r < 0) (n1 : r.slots.length ≤ 140737488355328) (n2 : r.mail.length ≤ 140737488355328) (n3 : r.links.length ≤ 140737488355328) (n4 : r.watched.length ≤ 140737488355328) :
    Calls Try.prog 3 #[.agg (runArr r a), .int .i64 kind] w fun e w' => e = .returned (.bool true) ∧ Below w.heap.size w w' := by
  have hsz := szR_size c
  have H1 : Hid (∀ U, Calls Try.prog 14 #[.agg (runArr r a), .int .i64 1048576] U fun e w' => e = .returned (.int .i64 (szR 1048576 r)) ∧ Below U.heap.size U w') := fun U => lSzRun r a 1048576 U (by omega) (by omega) n1 n2 n3 n4
  unfold sizeR at hsz
  have HT : Hid (∀ {U : World}, Below w.heap.size w U → Calls Try.prog 16 #[.agg (runArr r a)] U fun e w' => ∃ b : RA, e = .returned (.agg (runArr r b)) ∧ Mem U [] w' [runA r b]) := fun {U} hbb => mToRun r a w.heap.size U (hr.below hbb (Nat.le_refl _)) hbb.size (by omega) (by omega) (by omega) (by omega)
  have HS0 : Hid (∀ {b : RA} {U : World} {L1 L2 : List Asn}, Mem w [] U L1 → Del (runA r b) L1 L2 → Calls Try.prog 15 #[.agg (runArr r b), .int .i64 kind] U (TakePost (runTake r kind) r b w [] L2)) := fun {b U L1 L2} M hd => sRunTake r b kind M hd (by omega) (by omega)
  have HI0 : Hid (∀ {b : RA} {U : World} {L1 L2 : List Asn}, Mem w [] U L1 → Del (runA r b) L1 L2 → Calls Try.prog 17 #[.agg (runArr r b), .int .i64 kind] U (TakePost (runTake r kind) r b w [] L2)) := fun {b U L1 L2} M hd => iRunTake r b kind M hd (by omega) (by omega)
  have hl := runTake_lengths r kind
  generalize runTake r kind = q at HS0 HI0 hl
  obtain ⟨X, ⟨vk, vn⟩, ok9⟩ := q
  simp only at hl
  have hz : ¬ marksR X 1 < 0 := by unfold marksR; omega
  have hz2 : ¬ marksR r 1 < 0 := by unfold marksR; omega
  have HMX : Hid (∀ {b : RA} {U : World} {L1 L2 : List Asn}, Mem w [] U L1 → Del (runA X b) L1 L2 → Calls Try.prog 20 #[.agg (runArr X b), .int .i64 1] U fun e w' => e = .returned (.int .i64 (marksR X 1)) ∧ Mem w [] w' (runA (markedR X 1) b :: L2)) := fun {b U L1 L2} M hd => mMarkRun X b 1 M hd (by decide) (by decide) (by omega) (by omega) (by omega) (by omega)
  have HMR : Hid (∀ {b : RA} {U : World} {L1 L2 : List Asn}, Mem w [] U L1 → Del (runA r b) L1 L2 → Calls Try.prog 20 #[.agg (runArr r b), .int .i64 1] U fun e w' => e = .returned (.int .i64 (marksR r 1)) ∧ Mem w [] w' (runA (markedR r 1) b :: L2)) := fun {b U L1 L2} M hd => mMarkRun r b 1 M hd (by decide) (by decide) (by omega) (by omega) (by omega) (by omega)
  have HHX : Hid (∀ {b : RA} {U : World} {L1 L2 : List Asn}, Mem w [] U L1 → Del (runA (markedR X 1) b) L1 L2 → Calls Try.prog 21 #[.agg (runArr X b), .int .i64 1] U fun e w' => e = .returned (.int .i64 (marksR X 1)) ∧ Below U.heap.size U w') := fun {b U L1 L2} M hd => lHeldRun X b U.heap.size 1 U (M.runReads hd) (Nat.le_refl _) (by decide) (by decide)
  have HEX : Hid (∀ {b b2 : RA} {U : World} {L1 L2 L3 : List Asn}, Mem w [] U L1 → Del (runA X b) L1 L2 → Del (runA X b2) L1 L3 → Calls Try.prog 18 #[.agg (runArr X b), .agg (runArr X b2)] U fun e w' => e = .returned (.bool true) ∧ Below U.heap.size U w') := fun {b b2 U L1 L2 L3} M hd hd2 => lEqRun X b b2 U.heap.size U (M.runReads hd) (M.runReads hd2) (Nat.le_refl _)
  have HER : Hid (∀ {b b2 : RA} {U : World} {L1 L2 L3 : List Asn}, Mem w [] U L1 → Del (runA r b) L1 L2 → Del (runA r b2) L1 L3 → Calls Try.prog 18 #[.agg (runArr r b), .agg (runArr r b2)] U fun e w' => e = .returned (.bool true) ∧ Below U.heap.size U w') := fun {b b2 U L1 L2 L3} M hd hd2 => lEqRun r b b2 U.heap.size U (M.runReads hd) (M.runReads hd2) (Nat.le_refl _)
  have HEV : Hid (∀ {U : World}, Calls Try.prog 19 #[.agg #[.int .i64 vk, .int .i64 vn], .agg #[.int .i64 vk, .int .i64 vn]] U fun e w' => e = .returned (.bool true) ∧ Below U.heap.size U w') := fun {U} => lEqVal ⟨vk, vn⟩ U
  generalize szR 1048576 r = z at c H1
  generalize marksR X 1 = zq at HMX HHX hz
  generalize marksR r 1 = zr at HMR hz2
  generalize markedR X 1 = mq at HMX HHX
  generalize markedR r 1 = mr at HMR
  have z1 : decide (z < 0) = false := by simpa using c
  have z2 : decide (zq < 0) = false := by simpa using hz
  have z3 : decide (zr < 0) = false := by simpa using hz2
  have z4 : (zq != zq) = false := by simp
  have z5 : (ok9 != ok9) = false := by simp
  clear hsz hl n1 n2 n3 n4 hr c hz hz2
  obtain ⟨id, at_, slots, full, mail, state, due, links, watched, trap, ⟨wk, wn⟩, turns⟩ := r
  obtain ⟨sA, sC, mA, mC, lA, lC, wA, wC⟩ := a
  obtain ⟨xid, xat, xslots, xfull, xmail, xstate, xdue, xlinks, xwatched, xtrap, ⟨xwk, xwn⟩, xturns⟩ := X
  have HI : Hid (∀ {sA3 mA3 lA3 wA3 : Option Addr} {sC3 mC3 lC3 wC3 : Nat} {U : World} {L1 L2 : List Asn}, Mem w [] U L1 → Del (runA ⟨id, at_, slots, full, mail, state, due, links, watched, trap, ⟨wk, wn⟩, turns⟩ ⟨sA3, sC3, mA3, mC3, lA3, lC3, wA3, wC3⟩) L1 L2 → Calls Try.prog 17 #[.agg (List.toArray [.int .i64 id, .int .i64 at_, .slice sA3 slots.length sC3, .int .i64 full, .slice mA3 mail.length mC3, .int .i64 state, .int .i64 due, .slice lA3 links.length lC3, .slice wA3 watched.length wC3, .bool trap, .int .i64 wk, .int .i64 wn, .int .i64 turns]), .int .i64 kind] U fun e w' => ∃ b : RA, e = .returned (.tuple #[.agg (List.toArray [.int .i64 xid, .int .i64 xat, .slice b.sA xslots.length b.sC, .int .i64 xfull, .slice b.mA xmail.length b.mC, .int .i64 xstate, .int .i64 xdue, .slice b.lA xlinks.length b.lC, .slice b.wA xwatched.length b.wC, .bool xtrap, .int .i64 xwk, .int .i64 xwn, .int .i64 xturns]), .agg #[.int .i64 vk, .int .i64 vn], .bool ok9]) ∧ Mem w [] w' (runA ⟨xid, xat, xslots, xfull, xmail, xstate, xdue, xlinks, xwatched, xtrap, ⟨xwk, xwn⟩, xturns⟩ b :: runA ⟨id, at_, slots, full, mail, state, due, links, watched, trap, ⟨wk, wn⟩, turns⟩ ⟨sA3, sC3, mA3, mC3, lA3, lC3, wA3, wC3⟩ :: L2)) := fun {sA3 mA3 lA3 wA3 sC3 mC3 lC3 wC3 U L1 L2} M hd => HI0.out (b := ⟨sA3, sC3, mA3, mC3, lA3, lC3, wA3, wC3⟩) M hd
  have HS : Hid (∀ {sA3 mA3 lA3 wA3 : Option Addr} {sC3 mC3 lC3 wC3 : Nat} {U : World} {L1 L2 : List Asn}, Mem w [] U L1 → Del (runA ⟨id, at_, slots, full, mail, state, due, links, watched, trap, ⟨wk, wn⟩, turns⟩ ⟨sA3, sC3, mA3, mC3, lA3, lC3, wA3, wC3⟩) L1 L2 → Calls Try.prog 15 #[.agg (List.toArray [.int .i64 id, .int .i64 at_, .slice sA3 slots.length sC3, .int .i64 full, .slice mA3 mail.length mC3, .int .i64 state, .int .i64 due, .slice lA3 links.length lC3, .slice wA3 watched.length wC3, .bool trap, .int .i64 wk, .int .i64 wn, .int .i64 turns]), .int .i64 kind] U fun e w' => ∃ b : RA, e = .returned (.tuple #[.agg (List.toArray [.int .i64 xid, .int .i64 xat, .slice b.sA xslots.length b.sC, .int .i64 xfull, .slice b.mA xmail.length b.mC, .int .i64 xstate, .int .i64 xdue, .slice b.lA xlinks.length b.lC, .slice b.wA xwatched.length b.wC, .bool xtrap, .int .i64 xwk, .int .i64 xwn, .int .i64 xturns]), .agg #[.int .i64 vk, .int .i64 vn], .bool ok9]) ∧ Mem w [] w' (runA ⟨xid, xat, xslots, xfull, xmail, xstate, xdue, xlinks, xwatched, xtrap, ⟨xwk, xwn⟩, xturns⟩ b :: runA ⟨id, at_, slots, full, mail, state, due, links, watched, trap, ⟨wk, wn⟩, turns⟩ ⟨sA3, sC3, mA3, mC3, lA3, lC3, wA3, wC3⟩ :: L2)) := fun {sA3 mA3 lA3 wA3 sC3 mC3 lC3 wC3 U L1 L2} M hd => HS0.out (b := ⟨sA3, sC3, mA3, mC3, lA3, lC3, wA3, wC3⟩) M hd
  have HT1 : Hid (∀ {U : World}, Below w.heap.size w U → Calls Try.prog 16 #[.agg (List.toArray [.int .i64 id, .int .i64 at_, .slice sA slots.length sC, .int .i64 full, .slice mA mail.length mC, .int .i64 state, .int .i64 due, .slice lA links.length lC, .slice wA watched.length wC, .bool trap, .int .i64 wk, .int .i64 wn, .int .i64 turns])] U fun e w' => ∃ b : RA, e = .returned (.agg (List.toArray [.int .i64 id, .int .i64 at_, .slice b.sA slots.length b.sC, .int .i64 full, .slice b.mA mail.length b.mC, .int .i64 state, .int .i64 due, .slice b.lA links.length b.lC, .slice b.wA watched.length b.wC, .bool trap, .int .i64 wk, .int .i64 wn, .int .i64 turns])) ∧ Mem U [] w' [runA ⟨id, at_, slots, full, mail, state, due, links, watched, trap, ⟨wk, wn⟩, turns⟩ b]) := fun {U} hbb => HT.out hbb
  have HMX1 : Hid (∀ {sA1 mA1 lA1 wA1 : Option Addr} {sC1 mC1 lC1 wC1 : Nat} {U : World} {L1 L2 : List Asn}, Mem w [] U L1 → Del (runA ⟨xid, xat, xslots, xfull, xmail, xstate, xdue, xlinks, xwatched, xtrap, ⟨xwk, xwn⟩, xturns⟩ ⟨sA1, sC1, mA1, mC1, lA1, lC1, wA1, wC1⟩) L1 L2 → Calls Try.prog 20 #[.agg (List.toArray [.int .i64 xid, .int .i64 xat, .slice sA1 xslots.length sC1, .int .i64 xfull, .slice mA1 xmail.length mC1, .int .i64 xstate, .int .i64 xdue, .slice lA1 xlinks.length lC1, .slice wA1 xwatched.length wC1, .bool xtrap, .int .i64 xwk, .int .i64 xwn, .int .i64 xturns]), .int .i64 1] U fun e w' => e = .returned (.int .i64 zq) ∧ Mem w [] w' (runA mq ⟨sA1, sC1, mA1, mC1, lA1, lC1, wA1, wC1⟩ :: L2)) := fun {sA1 mA1 lA1 wA1 sC1 mC1 lC1 wC1 U L1 L2} M hd => HMX.out (b := ⟨sA1, sC1, mA1, mC1, lA1, lC1, wA1, wC1⟩) M hd
  have HMR1 : Hid (∀ {sA1 mA1 lA1 wA1 : Option Addr} {sC1 mC1 lC1 wC1 : Nat} {U : World} {L1 L2 : List Asn}, Mem w [] U L1 → Del (runA ⟨id, at_, slots, full, mail, state, due, links, watched, trap, ⟨wk, wn⟩, turns⟩ ⟨sA1, sC1, mA1, mC1, lA1, lC1, wA1, wC1⟩) L1 L2 → Calls Try.prog 20 #[.agg (List.toArray [.int .i64 id, .int .i64 at_, .slice sA1 slots.length sC1, .int .i64 full, .slice mA1 mail.length mC1, .int .i64 state, .int .i64 due, .slice lA1 links.length lC1, .slice wA1 watched.length wC1, .bool trap, .int .i64 wk, .int .i64 wn, .int .i64 turns]), .int .i64 1] U fun e w' => e = .returned (.int .i64 zr) ∧ Mem w [] w' (runA mr ⟨sA1, sC1, mA1, mC1, lA1, lC1, wA1, wC1⟩ :: L2)) := fun {sA1 mA1 lA1 wA1 sC1 mC1 lC1 wC1 U L1 L2} M hd => HMR.out (b := ⟨sA1, sC1, mA1, mC1, lA1, lC1, wA1, wC1⟩) M hd
  have HHX1 : Hid (∀ {sA1 mA1 lA1 wA1 : Option Addr} {sC1 mC1 lC1 wC1 : Nat} {U : World} {L1 L2 : List Asn}, Mem w [] U L1 → Del (runA mq ⟨sA1, sC1, mA1, mC1, lA1, lC1, wA1, wC1⟩) L1 L2 → Calls Try.prog 21 #[.agg (List.toArray [.int .i64 xid, .int .i64 xat, .slice sA1 xslots.length sC1, .int .i64 xfull, .slice mA1 xmail.length mC1, .int .i64 xstate, .int .i64 xdue, .slice lA1 xlinks.length lC1, .slice wA1 xwatched.length wC1, .bool xtrap, .int .i64 xwk, .int .i64 xwn, .int .i64 xturns]), .int .i64 1] U fun e w' => e = .returned (.int .i64 zq) ∧ Below U.heap.size U w') := fun {sA1 mA1 lA1 wA1 sC1 mC1 lC1 wC1 U L1 L2} M hd => HHX.out (b := ⟨sA1, sC1, mA1, mC1, lA1, lC1, wA1, wC1⟩) M hd
  have HEX1 : Hid (∀ {sA1 mA1 lA1 wA1 sA2 mA2 lA2 wA2 : Option Addr} {sC1 mC1 lC1 wC1 sC2 mC2 lC2 wC2 : Nat} {U : World} {L1 L2 L3 : List Asn}, Mem w [] U L1 → Del (runA ⟨xid, xat, xslots, xfull, xmail, xstate, xdue, xlinks, xwatched, xtrap, ⟨xwk, xwn⟩, xturns⟩ ⟨sA1, sC1, mA1, mC1, lA1, lC1, wA1, wC1⟩) L1 L2 → Del (runA ⟨xid, xat, xslots, xfull, xmail, xstate, xdue, xlinks, xwatched, xtrap, ⟨xwk, xwn⟩, xturns⟩ ⟨sA2, sC2, mA2, mC2, lA2, lC2, wA2, wC2⟩) L1 L3 → Calls Try.prog 18 #[.agg (List.toArray [.int .i64 xid, .int .i64 xat, .slice sA1 xslots.length sC1, .int .i64 xfull, .slice mA1 xmail.length mC1, .int .i64 xstate, .int .i64 xdue, .slice lA1 xlinks.length lC1, .slice wA1 xwatched.length wC1, .bool xtrap, .int .i64 xwk, .int .i64 xwn, .int .i64 xturns]), .agg (List.toArray [.int .i64 xid, .int .i64 xat, .slice sA2 xslots.length sC2, .int .i64 xfull, .slice mA2 xmail.length mC2, .int .i64 xstate, .int .i64 xdue, .slice lA2 xlinks.length lC2, .slice wA2 xwatched.length wC2, .bool xtrap, .int .i64 xwk, .int .i64 xwn, .int .i64 xturns])] U fun e w' => e = .returned (.bool true) ∧ Below U.heap.size U w') := fun {sA1 mA1 lA1 wA1 sA2 mA2 lA2 wA2 sC1 mC1 lC1 wC1 sC2 mC2 lC2 wC2 U L1 L2 L3} M hd hd2 => HEX.out (b := ⟨sA1, sC1, mA1, mC1, lA1, lC1, wA1, wC1⟩) (b2 := ⟨sA2, sC2, mA2, mC2, lA2, lC2, wA2, wC2⟩) M hd hd2
  have HER1 : Hid (∀ {sA1 mA1 lA1 wA1 sA2 mA2 lA2 wA2 : Option Addr} {sC1 mC1 lC1 wC1 sC2 mC2 lC2 wC2 : Nat} {U : World} {L1 L2 L3 : List Asn}, Mem w [] U L1 → Del (runA ⟨id, at_, slots, full, mail, state, due, links, watched, trap, ⟨wk, wn⟩, turns⟩ ⟨sA1, sC1, mA1, mC1, lA1, lC1, wA1, wC1⟩) L1 L2 → Del (runA ⟨id, at_, slots, full, mail, state, due, links, watched, trap, ⟨wk, wn⟩, turns⟩ ⟨sA2, sC2, mA2, mC2, lA2, lC2, wA2, wC2⟩) L1 L3 → Calls Try.prog 18 #[.agg (List.toArray [.int .i64 id, .int .i64 at_, .slice sA1 slots.length sC1, .int .i64 full, .slice mA1 mail.length mC1, .int .i64 state, .int .i64 due, .slice lA1 links.length lC1, .slice wA1 watched.length wC1, .bool trap, .int .i64 wk, .int .i64 wn, .int .i64 turns]), .agg (List.toArray [.int .i64 id, .int .i64 at_, .slice sA2 slots.length sC2, .int .i64 full, .slice mA2 mail.length mC2, .int .i64 state, .int .i64 due, .slice lA2 links.length lC2, .slice wA2 watched.length wC2, .bool trap, .int .i64 wk, .int .i64 wn, .int .i64 turns])] U fun e w' => e = .returned (.bool true) ∧ Below U.heap.size U w') := fun {sA1 mA1 lA1 wA1 sA2 mA2 lA2 wA2 sC1 mC1 lC1 wC1 sC2 mC2 lC2 wC2 U L1 L2 L3} M hd hd2 => HER.out (b := ⟨sA1, sC1, mA1, mC1, lA1, lC1, wA1, wC1⟩) (b2 := ⟨sA2, sC2, mA2, mC2, lA2, lC2, wA2, wC2⟩) M hd hd2
  clear HI0 HS0 HT HMX HMR HHX HEX HER
  have M := Mem.nil w
  simp only [runArr] at H1 ⊢
  (try clear F); have F := fx M
  go_enter Try.func3, Try.ntmps3
  go_upto_region 6 with (first | (with_reducible refine alA M ?_; clear M; (try clear F); intro w1 M F) | ((with_reducible apply ev_store (M := M)); rfl; rfl; ((conv => lhs; whnf) <;> rfl); rfl; (first | exact siI | exact siR | exact siV | exact siB | exact siSI | exact siSV | exact siW | exact siSR | exact siSO | exact siO); (exact one_all rfl); (exact dl); (exact Nat.le_of_ble_eq_true rfl); clear M; intro w1 M; simp only [SX] at M; (try clear F); have F := fx M) | (go_at_call 14; (refine nmK ?_; clear M; (try clear F); intro w1 M F); with_reducible refine (H1.out _).mono ?_; rintro e w2 ⟨rfl, hb⟩; replace M := M.below hb; clear hb; (try clear F); have F := fx M) | (go_at_call 16; (refine nmK ?_; clear M; (try clear F); intro w1 M F); with_reducible refine (HT1.out M.toBelow).mono ?_; rintro e w2 ⟨⟨sA4, sC4, mA4, mC4, lA4, lC4, wA4, wC4⟩, rfl, hm⟩; replace M := M.call0 hm; clear hm; (try simp only at M); (try clear F); have F := fx M) | (go_at_call 15; (refine nmK ?_; clear M; (try clear F); intro w1 M F); with_reducible refine (HS.out M dl).mono ?_; clear M; rintro e w2 ⟨⟨sA5, sC5, mA5, mC5, lA5, lC5, wA5, wC5⟩, rfl, M⟩; (try simp only at M); (try clear F); have F := fx M))
  generalize w.heap.size = g2 at M ⊢
  (try clear F); have F := fx M
  go_upto_region 7 with (first | (with_reducible refine alA M ?_; clear M; (try clear F); intro w1 M F) | ((with_reducible apply ev_store (M := M)); rfl; rfl; ((conv => lhs; whnf) <;> rfl); rfl; (first | exact siI | exact siR | exact siV | exact siB | exact siSI | exact siSV | exact siW | exact siSR | exact siSO | exact siO); (exact one_all rfl); (exact dl); (exact Nat.le_of_ble_eq_true rfl); clear M; intro w1 M; simp only [SX] at M; (try clear F); have F := fx M) | (go_at_call 16; (refine nmK ?_; clear M; (try clear F); intro w1 M F); with_reducible refine (HT1.out M.toBelow).mono ?_; rintro e w2 ⟨⟨sA6, sC6, mA6, mC6, lA6, lC6, wA6, wC6⟩, rfl, hm⟩; replace M := M.call0 hm; clear hm; (try simp only at M); (try clear F); have F := fx M))
  generalize w2.heap.size = g9 at M ⊢
  (try clear F); have F := fx M
  go_upto_region 10 with (first | (with_reducible refine alA M ?_; clear M; (try clear F); intro w1 M F) | ((with_reducible apply ev_store (M := M)); rfl; rfl; ((conv => lhs; whnf) <;> rfl); rfl; (first | exact siI | exact siR | exact siV | exact siB | exact siSI | exact siSV | exact siW | exact siSR | exact siSO | exact siO); (exact one_all rfl); (exact dl); (exact Nat.le_of_ble_eq_true rfl); clear M; intro w1 M; simp only [SX] at M; (try clear F); have F := fx M) | (go_at_call 17; (refine nmK ?_; clear M; (try clear F); intro w1 M F); with_reducible refine (HI.out M dl).mono ?_; clear M; rintro e w2 ⟨⟨sA7, sC7, mA7, mC7, lA7, lC7, wA7, wC7⟩, rfl, M⟩; (try simp only at M); (try clear F); have F := fx M) | (go_at_call 18; (refine nmK ?_; clear M; (try clear F); intro w1 M F); with_reducible refine (HEX1.out M dl dl).mono ?_; rintro e w2 ⟨rfl, hb⟩; replace M := M.below hb; clear hb; (try clear F); have F := fx M) | (go_at_call 19; (refine nmK ?_; clear M; (try clear F); intro w1 M F); with_reducible refine (HEV.out).mono ?_; rintro e w2 ⟨rfl, hb⟩; replace M := M.below hb; clear hb; (try clear F); have F := fx M))
  (refine held_begin (S := fun W' => (∀ j, W'.cell? ⟨g9, j, none⟩ = ([.int .i64 id, .int .i64 at_, .slice sA6 slots.length sC6, .int .i64 full, .slice mA6 mail.length mC6, .int .i64 state, .int .i64 due, .slice lA6 links.length lC6, .slice wA6 watched.length wC6, .bool trap, .int .i64 wk, .int .i64 wn, .int .i64 turns] : List Value)[j]?) ∧ ∀ j, W'.cell? ⟨g2, j, none⟩ = ([.int .i64 id, .int .i64 at_, .slice sA slots.length sC, .int .i64 full, .slice mA mail.length mC, .int .i64 state, .int .i64 due, .slice lA links.length lC, .slice wA watched.length wC, .bool trap, .int .i64 wk, .int .i64 wn, .int .i64 turns] : List Value)[j]?) (by kernel_rfl) (fun _ _ _ _ _ h => h) (by (exact ⟨kc, kc⟩)) (fun HQ hHeld => ?_))
  refine tkY HQ hHeld 0 ?_; refine tkY HQ hHeld 1 ?_; clear hHeld; (refine nm (G := fun W => wpAnyH _ _ _ _ _ _ _ _ W) ?_; clear M; (try clear F); intro w1 M F)
  refine stp 2 (fun K hK => ?_); go_simp; (go_at_call 16; (refine nmK ?_; clear M; (try clear F); intro w1 M F); with_reducible refine (HT1.out M.toBelow).mono ?_; rintro e w2 ⟨⟨sA8, sC8, mA8, mC8, lA8, lC8, wA8, wC8⟩, rfl, hm⟩; replace M := M.call0 hm; clear hm; (try simp only at M); (try clear F); have F := fx M); (try go_wp2_with fail); refine hK.out _ _ (by (exact ⟨kc, kc⟩)) (fun hHeld => ?_); clear hK K; (try simp only [AX])
  refine stp 3 (fun K hK => ?_); go_simp; (go_at_call 18; (refine nmK ?_; clear M; (try clear F); intro w1 M F); with_reducible refine (HER1.out M dl dl).mono ?_; rintro e w2 ⟨rfl, hb⟩; replace M := M.below hb; clear hb; (try clear F); have F := fx M); (try go_wp2_with fail); refine hK.out _ _ (by (exact ⟨kc, kc⟩)) (fun hHeld => ?_); clear hK K; (try simp only [AX])
  refine tkY HQ hHeld 4 ?_
  refine wpAnyH_done (by kernel_rfl) ?_ _; clear HQ; (repeat clear hHeld)
  go_wp2_with (first | (with_reducible refine alA M ?_; clear M; (try clear F); intro w1 M F) | ((with_reducible apply ev_store (M := M)); rfl; rfl; ((conv => lhs; whnf) <;> rfl); rfl; (first | exact siI | exact siR | exact siV | exact siB | exact siSI | exact siSV | exact siW | exact siSR | exact siSO | exact siO); (exact one_all rfl); (exact dl); (exact Nat.le_of_ble_eq_true rfl); clear M; intro w1 M; simp only [SX] at M; (try clear F); have F := fx M) | (go_at_call 18; (refine nmK ?_; clear M; (try clear F); intro w1 M F); with_reducible refine (HEX1.out M dl dl).mono ?_; rintro e w2 ⟨rfl, hb⟩; replace M := M.below hb; clear hb; (try clear F); have F := fx M) | (go_at_call 19; (refine nmK ?_; clear M; (try clear F); intro w1 M F); with_reducible refine (HEV.out).mono ?_; rintro e w2 ⟨rfl, hb⟩; replace M := M.below hb; clear hb; (try clear F); have F := fx M) | (go_at_call 20; (refine nmK ?_; clear M; (try clear F); intro w1 M F); first | (with_reducible refine (HMR1.out M dl).mono ?_; clear M; rintro e w2 ⟨rfl, M⟩; (try clear F); have F := fx M) | (with_reducible refine (HMX1.out M dl).mono ?_; clear M; rintro e w2 ⟨rfl, M⟩; (try clear F); have F := fx M)) | (go_at_call 21; (refine nmK ?_; clear M; (try clear F); intro w1 M F); with_reducible refine (HHX1.out M dl).mono ?_; rintro e w2 ⟨rfl, hb⟩; replace M := M.below hb; clear hb; (try clear F); have F := fx M) | (go_at_call 16; (refine nmK ?_; clear M; (try clear F); intro w1 M F); with_reducible refine (HT1.out M.toBelow).mono ?_; rintro e w2 ⟨⟨sA9, sC9, mA9, mC9, lA9, lC9, wA9, wC9⟩, rfl, hm⟩; replace M := M.call0 hm; clear hm; (try simp only at M); (try clear F); have F := fx M) | (go_at_call 17; (refine nmK ?_; clear M; (try clear F); intro w1 M F); with_reducible refine (HI.out M dl).mono ?_; clear M; rintro e w2 ⟨⟨sA10, sC10, mA10, mC10, lA10, lC10, wA10, wC10⟩, rfl, M⟩; (try simp only at M); (try clear F); have F := fx M))
  go_ret
  exact ⟨rfl, M.toBelow⟩
set_option maxHeartbeats 2000000 in
theorem fnExactRunTake_big (r : Rn) (a : RA) (kind : Int) (w : World) (c : szR 1048576 r < 0) (n1 : r.slots.length ≤ 140737488355328) (n2 : r.mail.length ≤ 140737488355328) (n3 : r.links.length ≤ 140737488355328) (n4 : r.watched.length ≤ 140737488355328) :
    Calls Try.prog 3 #[.agg (runArr r a), .int .i64 kind] w fun e w' => e = .returned (.bool true) ∧ Below w.heap.size w w' := by
  have H1 := Lib.hid (fun W => lSzRun r a 1048576 W (by omega) (by omega) n1 n2 n3 n4)
  unfold SzPost at H1
  generalize szR 1048576 r = z at c H1
  clear n1 n2 n3 n4
  have M := Mem.nil w
  simp only [runArr] at H1 ⊢
  go_enter Try.func3, Try.ntmps3
  go_wp2_with (first
    | (with_reducible refine alA M ?_; clear M; (try clear F); intro w1 M F) | ((with_reducible apply ev_store (M := M)); rfl; rfl; ((conv => lhs; whnf) <;> rfl); rfl; (first | exact siI | exact siR | exact siV | exact siB | exact siSI | exact siSV | exact siW | exact siSR | exact siSO | exact siO); (exact one_all rfl); (exact dl); (exact Nat.le_of_ble_eq_true rfl); clear M; intro w1 M; simp only [SX] at M; (try clear F); have F := fx M) | ((with_reducible refine goal_drewN (G := fun W => wpList _ _ _ _ _ W) M ?_); clear M; intro w1 M; (try clear F); have F := fx M) | ((with_reducible refine goal_drew (G := fun W => wpList _ _ _ _ _ W) M ?_); clear M; intro w1 M; (try clear F); have F := fx M) | ((with_reducible refine isSet (G := fun W => wpList _ _ _ _ _ W) ?_); (with_reducible refine nm (G := fun W => wpList _ _ _ _ _ W) ?_; clear M; (try clear F); intro w1 M F))
    | (go_at_call 14; refine (H1.out _).mono ?_; rintro e w2 ⟨rfl, hb⟩; replace M := M.below hb; clear hb; (try clear F); have F := fx M))
  go_ret
  exact ⟨rfl, M.toBelow⟩
theorem fnExactRunTake_walk (r : Rn) (a : RA) (kind : Int) (w : World) (hr : ReadsRun w w.heap.size r a) (h1 : r.slots.length * 16 ≤ 140737488351232) (h2 : r.mail.length * 16 ≤ 140737488351232) (h3 : r.links.length * 8 ≤ 140737488351232) (h4 : r.watched.length * 8 ≤ 140737488351232) :
    Calls Try.prog 3 #[.agg (runArr r a), .int .i64 kind] w fun e w' => e = .returned (.bool true) ∧ Below w.heap.size w w' := by
  by_cases c : szR 1048576 r < 0
  · exact fnExactRunTake_big r a kind w c (by omega) (by omega) (by omega) (by omega)
  · exact fnExactRunTake_small r a kind w hr c (by omega) (by omega) (by omega) (by omega)
end Go.Proofs.Ytmidnaafljgbiaa
/- The law FnExactRunTake returns true at every run of the laws and every kind, and the run reads behind the call as before. -/
namespace Go.Proofs.Ytmidnaafljgbiaa.fnExactRunTake
open Go.ChangeShapes Go.WideShapes Go.ChangeAt Go.RowKit
open Go.ChangeMaps (open_string shut_string)
theorem own : ownKnob Try.prog.godebug = none := by kernel_rfl
theorem laidOut : laidOutB Try.prog = true := by kernel_rfl

set_option maxRecDepth 100000 in
theorem lifted (os : Os) (started : os.Started) (H : Type) (enc : TypeId × Value → H) :
    ReturnsInHanded {} Try.checked os 3 .any (Rows.fnExactRunTakeSpec.pre6 enc Try.prog Try.f3 Rows.fnExactRunTakeRow.domain false) (Rows.fnExactRunTakeSpec.post enc Try.prog Try.f3 false true false false) := by
  refine returnsInHanded_of_change_sized (C := Try.checked) own started (by kernel_rfl) Try.func3
    (ChangeSpec.witness6 (enc := enc) (C := Try.checked) false ⟨#[], #[.agg #[.int .i64 0, .int .i64 0, .slice none 0 0, .int .i64 0, .slice none 0 0, .int .i64 0, .int .i64 0, .slice none 0 0, .slice none 0 0, .bool false, .int .i64 0, .int .i64 0, .int .i64 0], .int .i64 0], []⟩ 8 (by kernel_rfl) (by kernel_rfl) (by kernel_rfl) (by kernel_rfl)) ?_
  intro W base args ds gs before hval0 hW hcnd hsz0 _
  have hsz : (DataW.weightsEach Try.prog (Try.f3.params.toList ++ Rows.fnExactRunTakeSpec.plain.varTypes Try.prog) (ds ++ gs)).all (· ≤ reachBytes) = true := hsz0
  have hval : ∀ (j : Nat) t v, Try.f3.params[j]? = some t → args[j]? = some v → Value.okWide Try.prog W .any base t v := hval0
  have hW' := hW
  obtain ⟨p, q, hA0, hV, rfl, hfz, hnd⟩ := hW
  have hA : DataW.TrodAll enc Try.prog W 0 (fun _ => true) true Try.f3.params.toList args.toList ds p := hA0
  rw [Try.params3] at hA hval hsz
  obtain ⟨v0, vs0, d0, ds0, p0, q0, hargs, rfl, rfl, h0, r0⟩ := trodAll_cons hA
  obtain ⟨v1, vs1, d1, ds1, p1, q1, rfl, rfl, rfl, h1, r1⟩ := trodAll_cons r0
  obtain ⟨rfl, rfl, rfl⟩ := trodAll_nil r1
  obtain rfl : args = #[v0, v1] := by cases args; simp_all
  obtain ⟨rfl, rfl⟩ := trodVars_none hV
  have lt0 : ∀ x ∈ p0, x.block < W.heap.size := by obtain ⟨m, hm⟩ := h0; exact DataW.trod_lt m _ _ _ hm
  obtain ⟨r, a, rfl, hr, b1, b2, b3, b4⟩ := open_run (hval 0 27 v0 rfl rfl) h0 (fun k hk => by
    have := List.all_eq_true.1 hsz _ (DataW.weights_mem_each (j := 0) rfl rfl k hk)
    simpa using this)
  obtain ⟨kind, rfl, rfl, rfl, wk⟩ := open_int Try.underlying3 (hval 1 3 v1 rfl rfl) h1
  clear hA0 hval0 hsz0 hsz
  refine (fnExactRunTake_walk r a kind W hr b1 b2 b3 b4).mono fun e W' ⟨he, bel⟩ => ?_
  subst he
  exact ⟨_, rfl, _, _, _, [], _, [], hW', trodAll_mk1 (shut_bool Try.underlying4 _), (trodAll_cons_mk (Below.trod laidOut (by kernel_rfl) (of_decide_eq_true (by kernel_rfl)) h0 bel lt0) (trodAll_cons_mk (shut_int Try.underlying3 wk) trodAll_mk0)), rfl, bel.frame _, fun h => by cases h⟩

theorem over : Rows.fnExactRunTakeRow.holds Try.pinned (OpenSpec.ofChange Rows.fnExactRunTakeSpec) :=
  OpenClaim.holds_of_wide 3 Try.f3 rfl rfl rfl rfl rfl rfl rfl ⟨rfl, rfl, rfl, rfl, rfl⟩ rfl rfl rfl rfl rfl (by kernel_rfl) Try.func3 (by kernel_rfl)
    (of_decide_eq_true (by kernel_rfl)) (by unfold Func.isWrapper; first | (rw [if_pos (by decide +kernel)]; kernel_rfl) | (rw [if_neg (by decide +kernel)]; exact ⟨rfl, rfl⟩))
    (fun os started H enc _ => lifted os started H enc)
theorem proved : Rows.FnExactRunTakeSaid := over
#print axioms proved
end Go.Proofs.Ytmidnaafljgbiaa.fnExactRunTake
