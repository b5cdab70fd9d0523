/- Parts of the proof, in one text. -/
import Derived.Deep.RegionWith
import Derived.Test.YtmidnaafljgbiaaN32
import Derived.Test.YtmidnaafljgbiaaN03
import Derived.Test.YtmidnaafljgbiaaN15
import Derived.Test.YtmidnaafljgbiaaN25
/- The laws' marks on runs. -/
namespace Go.Proofs.Ytmidnaafljgbiaa
open Go.RowKit
set_option maxRecDepth 100000

theorem setR0 (id at_ : Int) (slots : List Vl) (full : Int) (mail : List Vl) (state due : Int) (links watched : List Int) (trap : Bool) (wk wn turns : Int) (a : RA) (u : Int) : encR (⟨u, at_, slots, full, mail, state, due, links, watched, trap, ⟨wk, wn⟩, turns⟩, a) = (encR (⟨id, at_, slots, full, mail, state, due, links, watched, trap, ⟨wk, wn⟩, turns⟩, a)).set 0 (.int .i64 u) := rfl
theorem setR1 (id at_ : Int) (slots : List Vl) (full : Int) (mail : List Vl) (state due : Int) (links watched : List Int) (trap : Bool) (wk wn turns : Int) (a : RA) (u : Int) : encR (⟨id, u, slots, full, mail, state, due, links, watched, trap, ⟨wk, wn⟩, turns⟩, a) = (encR (⟨id, at_, slots, full, mail, state, due, links, watched, trap, ⟨wk, wn⟩, turns⟩, a)).set 1 (.int .i64 u) := rfl
theorem setR3 (id at_ : Int) (slots : List Vl) (full : Int) (mail : List Vl) (state due : Int) (links watched : List Int) (trap : Bool) (wk wn turns : Int) (a : RA) (u : Int) : encR (⟨id, at_, slots, u, mail, state, due, links, watched, trap, ⟨wk, wn⟩, turns⟩, a) = (encR (⟨id, at_, slots, full, mail, state, due, links, watched, trap, ⟨wk, wn⟩, turns⟩, a)).set 3 (.int .i64 u) := rfl
theorem setR5 (id at_ : Int) (slots : List Vl) (full : Int) (mail : List Vl) (state due : Int) (links watched : List Int) (trap : Bool) (wk wn turns : Int) (a : RA) (u : Int) : encR (⟨id, at_, slots, full, mail, u, due, links, watched, trap, ⟨wk, wn⟩, turns⟩, a) = (encR (⟨id, at_, slots, full, mail, state, due, links, watched, trap, ⟨wk, wn⟩, turns⟩, a)).set 5 (.int .i64 u) := rfl
theorem setR6 (id at_ : Int) (slots : List Vl) (full : Int) (mail : List Vl) (state due : Int) (links watched : List Int) (trap : Bool) (wk wn turns : Int) (a : RA) (u : Int) : encR (⟨id, at_, slots, full, mail, state, u, links, watched, trap, ⟨wk, wn⟩, turns⟩, a) = (encR (⟨id, at_, slots, full, mail, state, due, links, watched, trap, ⟨wk, wn⟩, turns⟩, a)).set 6 (.int .i64 u) := rfl
theorem setR9 (id at_ : Int) (slots : List Vl) (full : Int) (mail : List Vl) (state due : Int) (links watched : List Int) (trap : Bool) (wk wn turns : Int) (a : RA) (u : Bool) : encR (⟨id, at_, slots, full, mail, state, due, links, watched, u, ⟨wk, wn⟩, turns⟩, a) = (encR (⟨id, at_, slots, full, mail, state, due, links, watched, trap, ⟨wk, wn⟩, turns⟩, a)).set 9 (.bool u) := rfl
theorem setR10 (id at_ : Int) (slots : List Vl) (full : Int) (mail : List Vl) (state due : Int) (links watched : List Int) (trap : Bool) (wk wn turns : Int) (a : RA) (u : Int) : encR (⟨id, at_, slots, full, mail, state, due, links, watched, trap, ⟨u, wn⟩, turns⟩, a) = (encR (⟨id, at_, slots, full, mail, state, due, links, watched, trap, ⟨wk, wn⟩, turns⟩, a)).set 10 (.int .i64 u) := rfl
theorem setR11 (id at_ : Int) (slots : List Vl) (full : Int) (mail : List Vl) (state due : Int) (links watched : List Int) (trap : Bool) (wk wn turns : Int) (a : RA) (u : Int) : encR (⟨id, at_, slots, full, mail, state, due, links, watched, trap, ⟨wk, u⟩, turns⟩, a) = (encR (⟨id, at_, slots, full, mail, state, due, links, watched, trap, ⟨wk, wn⟩, turns⟩, a)).set 11 (.int .i64 u) := rfl
theorem setR12 (id at_ : Int) (slots : List Vl) (full : Int) (mail : List Vl) (state due : Int) (links watched : List Int) (trap : Bool) (wk wn turns : Int) (a : RA) (u : Int) : encR (⟨id, at_, slots, full, mail, state, due, links, watched, trap, ⟨wk, wn⟩, u⟩, a) = (encR (⟨id, at_, slots, full, mail, state, due, links, watched, trap, ⟨wk, wn⟩, turns⟩, a)).set 12 (.int .i64 u) := rfl

theorem heads_mid {w0 w : World} {f : List Nat} {L L' : List Asn} {g c k : Nat} {pre post : List (Rn × RA)} {r : Rn} {a : RA} (M : Mem w0 f w L) (hd : Del (row encR 13 tR (some ⟨g, 0, none⟩) c (pre ++ (r, a) :: post)) L L') (hp : pre.length = k) :
    w.cell? ⟨g, k * 13 + 2, none⟩ = some (.slice a.sA r.slots.length a.sC) ∧ w.cell? ⟨g, k * 13 + 4, none⟩ = some (.slice a.mA r.mail.length a.mC) ∧ w.cell? ⟨g, k * 13 + 7, none⟩ = some (.slice a.lA r.links.length a.lC) ∧ w.cell? ⟨g, k * 13 + 8, none⟩ = some (.slice a.wA r.watched.length a.wC) := by
  have h := row_mid encR_length M hd hp
  exact ⟨h 2 (by decide), h 4 (by decide), h 7 (by decide), h 8 (by decide)⟩
theorem Mem.rwsHead {w0 w : World} {f : List Nat} {L : List Asn} {p : Rn × RA} {ps : List (Rn × RA)} (M : Mem w0 f w (rws (p :: ps) :: L)) : Mem w0 f w (runA p.1 p.2 :: rws ps :: L) := by
  refine M.split (L' := [runA p.1 p.2, rws ps]) (fun h X hX => ?_) ?_
  · simp only [List.mem_cons, List.not_mem_nil, or_false] at hX
    rcases hX with rfl | rfl
    · exact h _ (by simp)
    · exact fun A hA => h A (List.mem_cons_of_mem _ hA)
  · simp [fps, rws, Go.Proofs.Ytmidnaafljgbiaa.pack]
theorem Mem.rowCongr {α : Type} {enc : α → List Value} {m : Nat} {t : TypeId} {A : Option Addr} {c : Nat} {pre post : List α} {x y : α} {w0 w : World} {f : List Nat} {L : List Asn} (M : Mem w0 f w (row enc m t A c (pre ++ x :: post) :: L)) (e : enc x = enc y) : Mem w0 f w (row enc m t A c (pre ++ y :: post) :: L) := by
  refine M.turn (fun h => ?_) (List.Sublist.refl _)
  have e1 : flat enc (pre ++ y :: post) = flat enc (pre ++ x :: post) := by simp [flat, e]
  have e2 : (pre ++ y :: post).length = (pre ++ x :: post).length := by simp
  show OwnL enc m t w 0 (.slice A (pre ++ y :: post).length c) (pre ++ y :: post)
  unfold OwnL
  rw [e1, e2]
  exact h
/-- What the marks make of a run, from a number on. -/
def mk1 (k : Int) (r : Rn) : Int := k + 2 + 2 * r.slots.length
def mk2 (k : Int) (r : Rn) : Int := mk1 k r + 1 + 2 * r.mail.length
def mk3 (k : Int) (r : Rn) : Int := mk2 k r + 2 + r.links.length
def mk4 (k : Int) (r : Rn) : Int := mk3 k r + r.watched.length
def mkN (k : Int) (r : Rn) : Int := mk4 k r + 4
def mkR (k : Int) (r : Rn) : Rn := ⟨k, k + 1, marksV (k + 2) r.slots.length, mk1 k r, marksV (mk1 k r + 1) r.mail.length, mk2 k r, mk2 k r + 1, marksI (mk2 k r + 2) r.links.length, marksI (mk3 k r) r.watched.length, (mk4 k r).tmod 3 == 0, ⟨mk4 k r + 1, mk4 k r + 2⟩, mk4 k r + 3⟩
def mksP : Int → List (Rn × RA) → List (Rn × RA)
  | _, [] => []
  | k, p :: l => (mkR k p.1, p.2) :: mksP (mkN k p.1) l
def mksN : Int → List (Rn × RA) → Int
  | k, [] => k
  | k, p :: l => mksN (mkN k p.1) l
theorem mksP_length (k : Int) (l : List (Rn × RA)) : (mksP k l).length = l.length := by
  induction l generalizing k with
  | nil => rfl
  | cons p l ih => simp [mksP, ih]
theorem mks_snoc (k : Int) (l : List (Rn × RA)) (p : Rn × RA) : mksP k (l ++ [p]) = mksP k l ++ [(mkR (mksN k l) p.1, p.2)] ∧ mksN k (l ++ [p]) = mkN (mksN k l) p.1 := by
  induction l generalizing k with
  | nil => exact ⟨rfl, rfl⟩
  | cons q l ih =>
    obtain ⟨h1, h2⟩ := ih (mkN k q.1)
    exact ⟨by simp [mksP, mksN, h1], by simp [mksN, h2]⟩
theorem mkN_eq (k : Int) (r : Rn) : mkN k r = k + 9 + 2 * r.slots.length + 2 * r.mail.length + r.links.length + r.watched.length := by unfold mkN mk4 mk3 mk2 mk1; omega
theorem mksN_le (k : Int) (l : List (Rn × RA)) : k ≤ mksN k l ∧ mksN k l ≤ k + 9 * l.length + 2 * sizesR (l.map (·.1)) := by
  induction l generalizing k with
  | nil => simp [mksN, sizesR]
  | cons p l ih =>
    have h := ih (mkN k p.1)
    have e := mkN_eq k p.1
    have s : sizeR p.1 = p.1.slots.length + p.1.mail.length + p.1.links.length + p.1.watched.length := rfl
    simp only [mksN, List.map_cons, sizesR, List.length_cons]
    omega
def MkPost (A : Option Addr) (c : Nat) (ps : List (Rn × RA)) (k0 : Int) (w0 : World) (f : List Nat) (L : List Asn) (e : Ending) (w' : World) : Prop := e = .returned (.int .i64 (mksN k0 ps)) ∧ Mem w0 f w' (rowR A c (mksP k0 ps) :: rws (mksP k0 ps) :: L)
set_option maxHeartbeats 8000000 in
theorem lMarkRunS (ps : List (Rn × RA)) (A : Option Addr) (c : Nat) (k0 : Int) {w0 w : World} {f : List Nat} {L : List Asn} (M : Mem w0 f w (rowR A c ps :: rws ps :: L)) (h0 : 0 ≤ k0) (h1 : k0 ≤ 1000000000) (hn : ps.length ≤ 1048576) (hs : sizesR (ps.map (·.1)) ≤ 1000000000) :
    Calls Try.prog 69 #[.slice A ps.length c, .int .i64 k0] w (MkPost A c ps k0 w0 f L) := by
  have AL := add_lit0
  have HF : Hid (∀ V z, z = mksN k0 ps → Mem w0 f V (rowR A c (mksP k0 ps) :: rws (mksP k0 ps) :: L) → MkPost A c ps k0 w0 f L (.returned (.int .i64 z)) V) := fun V z hz M => ⟨by rw [hz], M⟩
  go_enter Try.func69, Try.ntmps69
  go_wp2
  go_loopg [1, 5] ps.length (fun gg s1 s5 wr => ∃ k : Nat, k ≤ ps.length ∧ ps.length - k ≤ gg ∧ s1 = .int .i64 (mksN k0 (ps.take k)) ∧ s5 = .int .i64 k ∧ Hid (Mem w0 f wr (row encR 13 tR A c (mksP k0 (ps.take k) ++ ps.drop k) :: rws (mksP k0 (ps.take k)) :: rws (ps.drop k) :: L)))
  case atStart => exact ⟨0, Nat.zero_le _, by omega, rfl, rfl, by (have M1 : Mem w0 f w (row encR 13 tR A c (mksP k0 (ps.take 0) ++ ps.drop 0) :: rws (ps.drop 0) :: L) := M); exact (Mem.rwsNil M1).perm (.swap _ _ _)⟩
  case round =>
    clear M
    obtain ⟨k, hk, hg, rfl, rfl, M⟩ := hrel
    replace M := M.out
    by_cases hlt : k < ps.length
    · obtain ⟨g, rfl⟩ := row_form M .here (by rw [List.length_append, mksP_length, List.length_take, List.length_drop]; omega)
      have hpl : (mksP k0 (ps.take k)).length = k := by rw [mksP_length, List.length_take]; omega
      have hdr : ps.drop k = ps[k] :: ps.drop (k + 1) := List.drop_eq_getElem_cons hlt
      rw [hdr] at M
      have hsn := mks_snoc k0 (ps.take k) ps[k]
      rw [← takeS ps hlt] at hsn
      have hb := mksN_le k0 (ps.take k)
      have hb2 := mksN_le k0 (ps.take (k + 1))
      rw [hsn.2, mkN_eq] at hb2
      have hz := sizesR_psle ps k
      have hz2 := sizesR_psle ps (k + 1)
      have hl1 : (ps.take k).length ≤ 1048576 := by rw [List.length_take]; omega
      have hl2 : (ps.take (k + 1)).length ≤ 1048576 := by rw [List.length_take]; omega
      have hsn := Lib.hid hsn
      have hpl := Lib.hid hpl
      generalize mksP k0 (ps.take k) = pre at M hpl hsn
      generalize mksN k0 (ps.take k) = kk at hb hb2 hsn
      generalize ps[k] = p at M hsn hb2
      obtain ⟨⟨id, at_, slots, full, mail, state, due, links, watched, trap, ⟨wk, wn⟩, turns⟩, ⟨sA, sC, mA, mC, lA, lC, wA, wC⟩⟩ := p
      have M1 := (M.perm (L' := rws (_ :: ps.drop (k + 1)) :: row encR 13 tR _ c _ :: rws pre :: L) ((List.Perm.swap _ _ _).cons _ |>.trans (List.Perm.swap _ _ _))).rwsHead.unpackRun
      simp only at M1
      clear M hdr
      have M := M1
      clear M1
      have hE := heads_mid M dl hpl.out
      simp only at hE hb2
      have K0 : 0 ≤ kk ∧ kk ≤ 4000000000 := by omega
      have KS : slots.length ≤ 4000000000 ∧ mail.length ≤ 4000000000 ∧ links.length ≤ 4000000000 ∧ watched.length ≤ 4000000000 := by omega
      obtain ⟨v1, hv1⟩ : ∃ v1 : Int, v1 = kk + 2 + 2 * slots.length := ⟨_, rfl⟩
      obtain ⟨v2, hv2⟩ : ∃ v2 : Int, v2 = v1 + 1 + 2 * mail.length := ⟨_, rfl⟩
      obtain ⟨v3, hv3⟩ : ∃ v3 : Int, v3 = v2 + 2 + links.length := ⟨_, rfl⟩
      obtain ⟨v4, hv4⟩ : ∃ v4 : Int, v4 = v3 + watched.length := ⟨_, rfl⟩
      have B1 : 0 ≤ v1 ∧ v1 ≤ 100000000000 := by omega
      have B2 : 0 ≤ v2 ∧ v2 ≤ 100000000000 := by omega
      have B3 : 0 ≤ v3 ∧ v3 ≤ 100000000000 := by omega
      have B4 : 0 ≤ v4 ∧ v4 ≤ 100000000000 := by omega
      have H1 := Lib.hid (fun W (L L' : List Asn) (M : Mem w0 f W L) (hd : Del (rowV sA sC slots) L L') => mMarkV slots sA sC (kk + 2) M hd (by omega) (by omega))
      rw [← hv1] at H1
      have H2 := Lib.hid (fun W (L L' : List Asn) (M : Mem w0 f W L) (hd : Del (rowV mA mC mail) L L') => mMarkV mail mA mC (v1 + 1) M hd (by omega) (by omega))
      rw [← hv2] at H2
      have H3 := Lib.hid (fun W (L L' : List Asn) (M : Mem w0 f W L) (hd : Del (rowI lA lC links) L L') => mMarkI links lA lC (v2 + 2) M hd (by omega) (by omega))
      rw [← hv3] at H3
      have H4 := Lib.hid (fun W (L L' : List Asn) (M : Mem w0 f W L) (hd : Del (rowI wA wC watched) L L') => mMarkI watched wA wC v3 M hd (by omega) (by omega))
      rw [← hv4] at H4
      have e1 : mk1 kk ⟨id, at_, slots, full, mail, state, due, links, watched, trap, ⟨wk, wn⟩, turns⟩ = v1 := hv1.symm
      have e2 : mk2 kk ⟨id, at_, slots, full, mail, state, due, links, watched, trap, ⟨wk, wn⟩, turns⟩ = v2 := by unfold mk2; rw [e1]; exact hv2.symm
      have e3 : mk3 kk ⟨id, at_, slots, full, mail, state, due, links, watched, trap, ⟨wk, wn⟩, turns⟩ = v3 := by unfold mk3; rw [e2]; exact hv3.symm
      have e4 : mk4 kk ⟨id, at_, slots, full, mail, state, due, links, watched, trap, ⟨wk, wn⟩, turns⟩ = v4 := by unfold mk4; rw [e3]; exact hv4.symm
      have hsn2 := hsn.out
      simp only [mkR, mkN, e1, e2, e3, e4] at hsn2
      have hsn2 := Lib.hid hsn2
      clear e1 e2 e3 e4 hsn hv1 hv2 hv3 hv4 hb hb2 hz hz2 hl1 hl2
      have a0 : IntKind.i64.wrap (kk + 1) = kk + 1 := by rw [IntKind.wrap_i64]; omega
      have a1 : IntKind.i64.wrap (kk + 1 + 1) = kk + 2 := by rw [IntKind.wrap_i64]; omega
      have a2 : IntKind.i64.wrap (kk + 2) = kk + 2 := by rw [IntKind.wrap_i64]; omega
      have a3 : IntKind.i64.wrap (v1 + 1) = v1 + 1 := by rw [IntKind.wrap_i64]; omega
      have a4 : IntKind.i64.wrap (v2 + 1) = v2 + 1 := by rw [IntKind.wrap_i64]; omega
      have a5 : IntKind.i64.wrap (v2 + 1 + 1) = v2 + 2 := by rw [IntKind.wrap_i64]; omega
      have a6 : IntKind.i64.wrap (v2 + 2) = v2 + 2 := by rw [IntKind.wrap_i64]; omega
      have a7 : IntKind.i64.wrap (v4 + 1) = v4 + 1 := by rw [IntKind.wrap_i64]; omega
      have a8 : IntKind.i64.wrap (v4 + 1 + 1) = v4 + 2 := by rw [IntKind.wrap_i64]; omega
      have a9 : IntKind.i64.wrap (v4 + 2) = v4 + 2 := by rw [IntKind.wrap_i64]; omega
      have a10 : IntKind.i64.wrap (v4 + 2 + 1) = v4 + 3 := by rw [IntKind.wrap_i64]; omega
      have a11 : IntKind.i64.wrap (v4 + 3) = v4 + 3 := by rw [IntKind.wrap_i64]; omega
      have a12 : IntKind.i64.wrap (v4 + 3 + 1) = v4 + 4 := by rw [IntKind.wrap_i64]; omega
      have a13 : IntKind.i64.wrap (v4 + 4) = v4 + 4 := by rw [IntKind.wrap_i64]; omega
      have tm : 0 ≤ v4.tmod 3 ∧ v4.tmod 3 < 3 := ⟨Int.tmod_nonneg _ (by omega), Int.tmod_lt_of_pos _ (by omega)⟩
      have a14 : IntKind.i64.wrap (v4.tmod 3) = v4.tmod 3 := by rw [IntKind.wrap_i64]; omega
      have i1 : (0 : Int) ≤ k := by omega
      have i2 : (k : Int) < ps.length := by omega
      clear K0 KS B1 B2 B3 B4 tm
      go_wp2_with (first
        | ((with_reducible apply ev_elem (enc := encR) (j := 0) (k := k) (hk := encR_length) (M := M)); rfl; rfl; ((conv => lhs; whnf) <;> rfl); rfl; (first | exact siI | exact siB); rfl; (exact dl); (first | with_reducible rfl | with_reducible exact (Nat.add_zero _).symm); exact hpl.out; decide; exact setR0 _ _ _ _ _ _ _ _ _ _ _ _ _ _ _; clear M; intro w1 M; have E := heads_mid M dl hpl.out; simp only at E)
        | ((with_reducible apply ev_elem (enc := encR) (j := 1) (k := k) (hk := encR_length) (M := M)); rfl; rfl; ((conv => lhs; whnf) <;> rfl); rfl; (first | exact siI | exact siB); rfl; (exact dl); (first | with_reducible rfl | with_reducible exact (Nat.add_zero _).symm); exact hpl.out; decide; exact setR1 _ _ _ _ _ _ _ _ _ _ _ _ _ _ _; clear M; intro w1 M; have E := heads_mid M dl hpl.out; simp only at E)
        | ((with_reducible apply ev_elem (enc := encR) (j := 3) (k := k) (hk := encR_length) (M := M)); rfl; rfl; ((conv => lhs; whnf) <;> rfl); rfl; (first | exact siI | exact siB); rfl; (exact dl); (first | with_reducible rfl | with_reducible exact (Nat.add_zero _).symm); exact hpl.out; decide; exact setR3 _ _ _ _ _ _ _ _ _ _ _ _ _ _ _; clear M; intro w1 M; have E := heads_mid M dl hpl.out; simp only at E)
        | ((with_reducible apply ev_elem (enc := encR) (j := 5) (k := k) (hk := encR_length) (M := M)); rfl; rfl; ((conv => lhs; whnf) <;> rfl); rfl; (first | exact siI | exact siB); rfl; (exact dl); (first | with_reducible rfl | with_reducible exact (Nat.add_zero _).symm); exact hpl.out; decide; exact setR5 _ _ _ _ _ _ _ _ _ _ _ _ _ _ _; clear M; intro w1 M; have E := heads_mid M dl hpl.out; simp only at E)
        | ((with_reducible apply ev_elem (enc := encR) (j := 6) (k := k) (hk := encR_length) (M := M)); rfl; rfl; ((conv => lhs; whnf) <;> rfl); rfl; (first | exact siI | exact siB); rfl; (exact dl); (first | with_reducible rfl | with_reducible exact (Nat.add_zero _).symm); exact hpl.out; decide; exact setR6 _ _ _ _ _ _ _ _ _ _ _ _ _ _ _; clear M; intro w1 M; have E := heads_mid M dl hpl.out; simp only at E)
        | ((with_reducible apply ev_elem (enc := encR) (j := 9) (k := k) (hk := encR_length) (M := M)); rfl; rfl; ((conv => lhs; whnf) <;> rfl); rfl; (first | exact siI | exact siB); rfl; (exact dl); (first | with_reducible rfl | with_reducible exact (Nat.add_zero _).symm); exact hpl.out; decide; exact setR9 _ _ _ _ _ _ _ _ _ _ _ _ _ _ _; clear M; intro w1 M; have E := heads_mid M dl hpl.out; simp only at E)
        | ((with_reducible apply ev_elem (enc := encR) (j := 10) (k := k) (hk := encR_length) (M := M)); rfl; rfl; ((conv => lhs; whnf) <;> rfl); rfl; (first | exact siI | exact siB); rfl; (exact dl); (first | with_reducible rfl | with_reducible exact (Nat.add_zero _).symm); exact hpl.out; decide; exact setR10 _ _ _ _ _ _ _ _ _ _ _ _ _ _ _; clear M; intro w1 M; have E := heads_mid M dl hpl.out; simp only at E)
        | ((with_reducible apply ev_elem (enc := encR) (j := 11) (k := k) (hk := encR_length) (M := M)); rfl; rfl; ((conv => lhs; whnf) <;> rfl); rfl; (first | exact siI | exact siB); rfl; (exact dl); (first | with_reducible rfl | with_reducible exact (Nat.add_zero _).symm); exact hpl.out; decide; exact setR11 _ _ _ _ _ _ _ _ _ _ _ _ _ _ _; clear M; intro w1 M; have E := heads_mid M dl hpl.out; simp only at E)
        | ((with_reducible apply ev_elem (enc := encR) (j := 12) (k := k) (hk := encR_length) (M := M)); rfl; rfl; ((conv => lhs; whnf) <;> rfl); rfl; (first | exact siI | exact siB); rfl; (exact dl); (first | with_reducible rfl | with_reducible exact (Nat.add_zero _).symm); exact hpl.out; decide; exact setR12 _ _ _ _ _ _ _ _ _ _ _ _ _ _ _; clear M; intro w1 M; have E := heads_mid M dl hpl.out; simp only at E)
        | (go_at_call_of 57 (Value.slice sA slots.length sC); refine (H1.out _ _ _ M dl).mono ?_; clear M; rintro e w2 ⟨rfl, M⟩; have E := heads_mid M dl hpl.out; simp only at E)
        | (go_at_call_of 57 (Value.slice mA mail.length mC); refine (H2.out _ _ _ M dl).mono ?_; clear M; rintro e w2 ⟨rfl, M⟩; have E := heads_mid M dl hpl.out; simp only at E)
        | (go_at_call_of 58 (Value.slice lA links.length lC); refine (H3.out _ _ _ M dl).mono ?_; clear M; rintro e w2 ⟨rfl, M⟩; have E := heads_mid M dl hpl.out; simp only at E)
        | (go_at_call_of 58 (Value.slice wA watched.length wC); refine (H4.out _ _ _ M dl).mono ?_; clear M; rintro e w2 ⟨rfl, M⟩; have E := heads_mid M dl hpl.out; simp only at E))
      have M2 := M.sel (T := rowV sA sC (marksV (kk + 2) slots.length) :: rowV mA mC (marksV (v1 + 1) mail.length) :: rowI lA lC (marksI (v2 + 2) links.length) :: rowI wA wC (marksI v3 watched.length) :: rws pre :: row encR 13 tR (some ⟨g, 0, none⟩) c (pre ++ (⟨kk, kk + 1, slots, v1, mail, v2, v2 + 1, links, watched, v4.tmod 3 == 0, ⟨v4 + 1, v4 + 2⟩, v4 + 3⟩, ⟨sA, sC, mA, mC, lA, lC, wA, wC⟩) :: ps.drop (k + 1)) :: rws (ps.drop (k + 1)) :: L) sl
      have M3 := (Mem.packRun (r := ⟨kk, kk + 1, marksV (kk + 2) slots.length, v1, marksV (v1 + 1) mail.length, v2, v2 + 1, marksI (v2 + 2) links.length, marksI v3 watched.length, v4.tmod 3 == 0, ⟨v4 + 1, v4 + 2⟩, v4 + 3⟩) (a := ⟨sA, sC, mA, mC, lA, lC, wA, wC⟩) M2).rwsSnoc
      have M4 := (M3.perm (.swap _ _ _)).rowCongr (y := ((⟨kk, kk + 1, marksV (kk + 2) slots.length, v1, marksV (v1 + 1) mail.length, v2, v2 + 1, marksI (v2 + 2) links.length, marksI v3 watched.length, v4.tmod 3 == 0, ⟨v4 + 1, v4 + 2⟩, v4 + 3⟩, ⟨sA, sC, mA, mC, lA, lC, wA, wC⟩) : Rn × RA)) (by simp [encR, marksV_length, marksI_length])
      have M4 := Lib.hid M4
      clear M M2 M3
      go_roundg (ps.length - (k + 1))
      case measure => omega
      case rel => exact ⟨k + 1, by omega, by omega, by rw [hsn2.out.2], by go_num, by rw [hsn2.out.1, List.append_assoc]; exact M4.out⟩
    · have : k = ps.length := by omega
      subst this
      rw [List.drop_length, List.append_nil, List.take_length] at M
      have M1 : Mem w0 f wr (rowR A c (mksP k0 ps) :: rws (mksP k0 ps) :: L) := M.sel (T := row encR 13 tR A c (mksP k0 ps) :: rws (mksP k0 ps) :: L) sl
      go_wp2
      go_ret
      exact HF.out _ _ (by first | rfl | (rw [List.take_length])) M1
end Go.Proofs.Ytmidnaafljgbiaa
/- A world's runs in plain words and in memory: their number, and the run of a number. -/
namespace Go.Proofs.Ytmidnaafljgbiaa
open Go.RowKit
end Go.Proofs.Ytmidnaafljgbiaa
/- A run is taken out of a world's runs and laid back; what a giving comes to, by the places of the lists. -/
namespace Go.Proofs.Ytmidnaafljgbiaa
open Go.RowKit

theorem Mem.rwsPerm {w0 w : World} {f : List Nat} {L : List Asn} {ps qs : List (Rn × RA)} (M : Mem w0 f w (rws ps :: L)) (h : ps.Perm qs) : Mem w0 f w (rws qs :: L) :=
  Mem.pack (L' := qs.map fun p => runA p.1 p.2) ((Mem.unpack (L' := ps.map fun p => runA p.1 p.2) M).perm ((h.map _).append_right L))
theorem Mem.rwsCons {w0 w : World} {f : List Nat} {L : List Asn} {r : Rn} {a : RA} {ps : List (Rn × RA)} (M : Mem w0 f w (runA r a :: rws ps :: L)) : Mem w0 f w (rws ((r, a) :: ps) :: L) :=
  M.rwsSnoc.rwsPerm (List.perm_append_comm (l₁ := ps) (l₂ := [(r, a)]))
end Go.Proofs.Ytmidnaafljgbiaa
