/- Parts of the proof, in one text. -/
import Derived.Deep.RegionWith
import Derived.Deep.RegionHeld3
import Derived.Deep.QuietTactic
import Derived.BigQuiet
import Derived.Deep.Cut
import Derived.Test.YtmidnaafljgbiaaB03
import Derived.Test.YtmidnaafljgbiaaB40
import Derived.Test.YtmidnaafljgbiaaB38
/- The program's put of a value into a slot. -/
namespace Go.Proofs.Ytmidnaafljgbiaa
open Go.RowKit
set_option maxRecDepth 100000

theorem or_bit {k : Nat} {f : Int} (hk : k < 4) (hf : 0 ≤ f) (hf' : f ≤ 15) : bits BinOp.or IntKind.i64 f (wrap64 (2 ^ k)) = withBit f k := by
  have h : ∀ (F : Fin 16) (K : Fin 4), bits BinOp.or IntKind.i64 (F.val : Int) (wrap64 (2 ^ K.val)) = withBit (F.val : Int) (K.val : Int) := by decide +kernel
  have h1 := h ⟨f.toNat, by omega⟩ ⟨k, hk⟩
  simp only at h1
  rwa [show ((f.toNat : Nat) : Int) = f by omega] at h1
set_option maxHeartbeats 1000000 in
theorem iFill (r : Rn) (a : RA) (g k : Nat) (v : Vl) {w0 w : World} {f : List Nat} {L : List Asn} (M : Mem w0 f w (blk g tR (encR (r, a)) :: runA r a :: L)) (hl : r.slots.length = 4) (hk : k < 4) (hf : 0 ≤ r.full) (hf' : r.full ≤ 15) :
    Calls Try.prog 87 #[.pointer (some ⟨g, 0, none⟩), .int .i64 (k : Int), .agg #[.int .i64 v.k, .int .i64 v.n]] w fun e w' => e = .returned (.tuple #[]) ∧
      Mem w0 f w' (runA { r with slots := r.slots.set k v, full := withBit r.full k } a :: blk g tR (encR ({ r with slots := r.slots.set k v, full := withBit r.full k }, a)) :: L) := by
  obtain ⟨id, at_, slots, full, mail, state, due, links, watched, trap, ⟨wk, wn⟩, turns⟩ := r
  obtain ⟨sA, sC, mA, mC, lA, lC, wA, wC⟩ := a
  obtain ⟨vk, vn⟩ := v
  simp only at hl hf hf'
  replace M := (M.pull (.there .here)).unpack
  simp only [runL, List.cons_append, List.nil_append] at M
  obtain ⟨gs, rfl⟩ := row_form M .here (by omega)
  obtain ⟨e1, e2, e3⟩ := row_elem encV_length M .here (k := k) (by omega)
  have k1 : (0 : Int) ≤ k := by omega
  have k2 : (k : Int) < 4 := by omega
  have AL := add_lit0
  have c0 := e2 0 (by decide)
  have c1 := e2 1 (by decide)
  simp only [encV, List.getElem?_cons_zero, List.getElem?_cons_succ, Nat.add_zero] at c0 c1
  clear e2
  have hkl : k < slots.length := by omega
  simp only [encR, hl] at M
  (try clear F); have F := fx M
  go_enter Try.func87, Try.ntmps87
  go_wp2_with (first | (with_reducible refine alA M ?_; clear M; (try clear F); intro w1 M F) | ((with_reducible apply ev_store (M := M)); rfl; rfl; ((conv => lhs; whnf) <;> rfl); rfl; (first | exact siI | exact siR | exact siV | exact siB | exact siSI | exact siSV | exact siW | exact siSR | exact siSO | exact siO); (exact one_all rfl); (exact dl); (exact Nat.le_of_ble_eq_true rfl); clear M; intro w1 M; simp only [SX] at M; (try clear F); have F := fx M) | ((with_reducible refine goal_drewN (G := fun W => wpList _ _ _ _ _ W) M ?_); clear M; intro w1 M; (try clear F); have F := fx M) | ((with_reducible refine goal_drew (G := fun W => wpList _ _ _ _ _ W) M ?_); clear M; intro w1 M; (try clear F); have F := fx M) | ((with_reducible refine isSet (G := fun W => wpList _ _ _ _ _ W) ?_); (with_reducible refine nm (G := fun W => wpList _ _ _ _ _ W) ?_; clear M; (try clear F); intro w1 M F)))
  go_region
  go_wp2
  (refine nm (G := fun W => Code.wp _ _ _ _ W) ?_; clear M; (try clear F); intro w1 M F)
  go_region
  (refine nm (G := fun W => bodyPost _ _ _ _ _ W) ?_; clear M; (try clear F); intro w1 M F)
  refine bodyPost_end (v := .tuple #[]) (results_none rfl _ _ _) rfl ⟨rfl, ?_⟩
  simp only [or_bit hk hf hf'] at M
  apply Mem.packRun
  simp only [encR, List.length_set, hl]
  exact M.sel sl
end Go.Proofs.Ytmidnaafljgbiaa
/- The program's copy of a run. -/
namespace Go.Proofs.Ytmidnaafljgbiaa
open Go.RowKit
set_option maxRecDepth 100000

set_option maxHeartbeats 2000000 in
theorem iCopied (r : Rn) (a : RA) {w0 w : World} {f : List Nat} {L L' : List Asn} (M : Mem w0 f w L) (hd : Del (runA r a) L L') (h1 : r.slots.length ≤ 8796093022208) (h2 : r.mail.length ≤ 8796093022208) (h3 : r.links.length ≤ 17592186044416) (h4 : r.watched.length ≤ 17592186044416) :
    Calls Try.prog 53 #[.agg (runArr r a)] w fun e w' => ∃ b : RA, e = .returned (.agg (runArr r b)) ∧ Mem w0 f w' (runA r b :: runA r a :: L') := by
  obtain ⟨id, at_, slots, full, mail, state, due, links, watched, trap, ⟨wk, wn⟩, turns⟩ := r
  obtain ⟨sA, sC, mA, mC, lA, lC, wA, wC⟩ := a
  replace M := (M.pull hd).unpackRun
  simp only at M h1 h2 h3 h4
  clear hd
  have HV := Lib.hid (fun (l : List Vl) (A : Option Addr) (c : Nat) (W : World) (h : ReadsL encV 2 W W.heap.size A l.length l) => iCloneV l A c W.heap.size W h (Nat.le_refl _))
  have HI := Lib.hid (fun (l : List Int) (A : Option Addr) (c : Nat) (W : World) (h : ReadsL encI 1 W W.heap.size A l.length l) => iCloneI l A c W.heap.size W h (Nat.le_refl _))
  simp only [runArr]
  (try clear F); have F := fx M
  go_enter Try.func53, Try.ntmps53
  go_wp2_with (first | (with_reducible refine alA M ?_; clear M; (try clear F); intro w1 M F) | ((with_reducible apply ev_store (M := M)); rfl; rfl; ((conv => lhs; whnf) <;> rfl); rfl; (first | exact siI | exact siR | exact siV | exact siB | exact siSI | exact siSV | exact siW | exact siSR | exact siSO | exact siO); (exact one_all rfl); (exact dl); (exact Nat.le_of_ble_eq_true rfl); clear M; intro w1 M; simp only [SX] at M; (try clear F); have F := fx M) | ((with_reducible refine goal_drewN (G := fun W => wpList _ _ _ _ _ W) M ?_); clear M; intro w1 M; (try clear F); have F := fx M) | ((with_reducible refine goal_drew (G := fun W => wpList _ _ _ _ _ W) M ?_); clear M; intro w1 M; (try clear F); have F := fx M) | ((with_reducible refine isSet (G := fun W => wpList _ _ _ _ _ W) ?_); (with_reducible refine nm (G := fun W => wpList _ _ _ _ _ W) ?_; clear M; (try clear F); intro w1 M F)))
  (refine nm (G := fun W => Code.wp _ _ _ _ W) ?_; clear M; (try clear F); intro w1 M F)
  go_cut [1, 2] from 3 (fun s1 s2 wx => ∃ (g1 g2 : Nat) (A1 A2 : Option Addr) (c1 c2 : Nat), s1 = .pointer (some ⟨g1, 0, none⟩) ∧ s2 = .pointer (some ⟨g2, 0, none⟩) ∧ Mem w0 f wx (rowV A1 c1 slots :: rowV A2 c2 mail :: blk g1 tR [.int .i64 id, .int .i64 at_, .slice A1 slots.length c1, .int .i64 full, .slice A2 mail.length c2, .int .i64 state, .int .i64 due, .slice lA links.length lC, .slice wA watched.length wC, .bool trap, .int .i64 wk, .int .i64 wn, .int .i64 turns] ::
    blk g2 tR [.int .i64 0, .int .i64 0, .slice none 0 0, .int .i64 0, .slice none 0 0, .int .i64 0, .int .i64 0, .slice none 0 0, .slice none 0 0, .bool false, .int .i64 0, .int .i64 0, .int .i64 0] :: rowV sA sC slots :: rowV mA mC mail :: rowI lA lC links :: rowI wA wC watched :: L'))
  case first =>
    go_region_with (first
      | ((go_at_call_of 91 (Value.slice sA slots.length sC)); (refine nmK ?_; clear M; (try clear F); intro w1 M F); refine (HV.out slots sA sC _ (readsV M dl) h1).mono ?_; rintro e w2 ⟨v, rfl, ho, hb⟩; obtain ⟨A1, c1, rfl, M2⟩ := M.newV ho hb; clear M ho hb; have M := M2; clear M2; (try clear F); have F := fx M)
      | ((go_at_call_of 91 (Value.slice mA mail.length mC)); (refine nmK ?_; clear M; (try clear F); intro w1 M F); refine (HV.out mail mA mC _ (readsV M dl) h2).mono ?_; rintro e w2 ⟨v, rfl, ho, hb⟩; obtain ⟨A2, c2, rfl, M2⟩ := M.newV ho hb; clear M ho hb; have M := M2; clear M2; (try clear F); have F := fx M))
    all_goals go_wp2
    all_goals ((refine nm (G := fun W => Met _ _ W) ?_; clear M; (try clear F); intro w1 M F); go_meet; case rel => exact ⟨_, _, _, _, _, _, rfl, rfl, M.sel sl⟩)
  case rest =>
    obtain ⟨g1, g2, A1, A2, c1, c2, rfl, rfl, M⟩ := hcut
    (try clear F); have F := fx M
    go_wp2
    go_cut [1, 2] from 3 (fun s1 s2 wx => ∃ (g1 g2 : Nat) (A3 A4 : Option Addr) (c3 c4 : Nat), s1 = .pointer (some ⟨g1, 0, none⟩) ∧ s2 = .pointer (some ⟨g2, 0, none⟩) ∧ Mem w0 f wx (rowV A1 c1 slots :: rowV A2 c2 mail :: rowI A3 c3 links :: rowI A4 c4 watched :: blk g1 tR [.int .i64 id, .int .i64 at_, .slice A1 slots.length c1, .int .i64 full, .slice A2 mail.length c2, .int .i64 state, .int .i64 due, .slice A3 links.length c3, .slice A4 watched.length c4, .bool trap, .int .i64 wk, .int .i64 wn, .int .i64 turns] ::
      blk g2 tR [.int .i64 0, .int .i64 0, .slice none 0 0, .int .i64 0, .slice none 0 0, .int .i64 0, .int .i64 0, .slice none 0 0, .slice none 0 0, .bool false, .int .i64 0, .int .i64 0, .int .i64 0] :: rowV sA sC slots :: rowV mA mC mail :: rowI lA lC links :: rowI wA wC watched :: L'))
    case first =>
      go_region_with (first
        | ((go_at_call_of 92 (Value.slice lA links.length lC)); (refine nmK ?_; clear M; (try clear F); intro w1 M F); refine (HI.out links lA lC _ (readsI M dl) h3).mono ?_; rintro e w2 ⟨v, rfl, ho, hb⟩; obtain ⟨A3, c3, rfl, M2⟩ := M.newI ho hb; clear M ho hb; have M := M2; clear M2; (try clear F); have F := fx M)
        | ((go_at_call_of 92 (Value.slice wA watched.length wC)); (refine nmK ?_; clear M; (try clear F); intro w1 M F); refine (HI.out watched wA wC _ (readsI M dl) h4).mono ?_; rintro e w2 ⟨v, rfl, ho, hb⟩; obtain ⟨A4, c4, rfl, M2⟩ := M.newI ho hb; clear M ho hb; have M := M2; clear M2; (try clear F); have F := fx M))
      all_goals go_wp2
      all_goals ((refine nm (G := fun W => Met _ _ W) ?_; clear M; (try clear F); intro w1 M F); go_meet; case rel => exact ⟨_, _, _, _, _, _, rfl, rfl, M.sel sl⟩)
    case rest =>
      obtain ⟨g1, g2, A3, A4, c3, c4, rfl, rfl, M⟩ := hcut
      (try clear F); have F := fx M
      go_wp2_with (first | (with_reducible refine alA M ?_; clear M; (try clear F); intro w1 M F) | ((with_reducible apply ev_store (M := M)); rfl; rfl; ((conv => lhs; whnf) <;> rfl); rfl; (first | exact siI | exact siR | exact siV | exact siB | exact siSI | exact siSV | exact siW | exact siSR | exact siSO | exact siO); (exact one_all rfl); (exact dl); (exact Nat.le_of_ble_eq_true rfl); clear M; intro w1 M; simp only [SX] at M; (try clear F); have F := fx M) | ((with_reducible refine goal_drewN (G := fun W => wpList _ _ _ _ _ W) M ?_); clear M; intro w1 M; (try clear F); have F := fx M) | ((with_reducible refine goal_drew (G := fun W => wpList _ _ _ _ _ W) M ?_); clear M; intro w1 M; (try clear F); have F := fx M) | ((with_reducible refine isSet (G := fun W => wpList _ _ _ _ _ W) ?_); (with_reducible refine nm (G := fun W => wpList _ _ _ _ _ W) ?_; clear M; (try clear F); intro w1 M F)))
      apply ret_cell (M := M); rfl; rfl; (exact dl); (first | exact agR | exact agV | exact agW | exact agO); (first | exact siI | exact siR | exact siV | exact siB | exact siSI | exact siSV | exact siW | exact siSR | exact siSO | exact siO); rfl
      refine ⟨⟨A1, c1, A2, c2, A3, c3, A4, c4⟩, rfl, ?_⟩
      apply Mem.packRun
      refine Mem.sel (Mem.packRun (r := ⟨id, at_, slots, full, mail, state, due, links, watched, trap, ⟨wk, wn⟩, turns⟩) (a := ⟨sA, sC, mA, mC, lA, lC, wA, wC⟩) (L := rowV A1 c1 slots :: rowV A2 c2 mail :: rowI A3 c3 links :: rowI A4 c4 watched :: L') (M.sel ?_)) ?_ <;> simp only [] <;> exact sl
end Go.Proofs.Ytmidnaafljgbiaa
/- A slot is filled: its bit, and its value, on both sides. -/
namespace Go.Proofs.Ytmidnaafljgbiaa
open Go.RowKit
set_option maxRecDepth 100000

theorem sWith (f s : Int) (hf : 0 ≤ f) (hf' : f ≤ 15) (hs : inB s 0 3 = true) (w : World) : Calls Try.prog 112 #[.int .i64 f, .int .i64 s] w fun e w' => e = .returned (.int .i64 (withBit f s)) ∧ Below w.heap.size w w' := by
  have hb := bitI_pairs hs
  have HB := Lib.hid (fun W => sBit s (bitI s) hb W)
  have HH := Lib.hid (fun W => sHas f s hf hf' hs W)
  have hsum : IntKind.i64.wrap (f + bitI s) = f + bitI s := by rw [IntKind.wrap_i64]; omega
  unfold withBit
  generalize bitI s = b at HB hsum ⊢
  clear hb hs
  cases hq : hasBit f s with
  | true =>
    rw [hq] at HH
    simp only [if_true]
    go_enter Try.func112, Try.ntmps112
    go_wp2_with (go_at_call 82; refine (HH.out _).mono ?_; rintro e w1 ⟨rfl, hb1⟩)
    go_ret
    exact ⟨rfl, hb1⟩
  | false =>
    rw [hq] at HH
    simp only [if_false, Bool.false_eq_true]
    go_enter Try.func112, Try.ntmps112
    go_wp2_with (first | (go_at_call 82; refine (HH.out _).mono ?_; rintro e w1 ⟨rfl, hb1⟩) | (go_at_call 107; refine (HB.out _).mono ?_; rintro e w2 ⟨rfl, hb2⟩; have B2 := below_step hb1 hb2))
    go_ret
    exact ⟨ret_int (by simp), B2⟩
end Go.Proofs.Ytmidnaafljgbiaa
