/- Parts of the proof, in one text. -/
import Derived.Deep.RegionWith
import Derived.Deep.Cut
import Derived.Test.YtomolbhcggaakaaGreatA52
import Derived.Test.YtomolbhcggaakaaGreatA53
/- The laws' marks on steps: laid, and held. -/
namespace Go.Proofs.YtomolbhcggaakaaGreat
open Go.RowKit
set_option maxRecDepth 100000

section
variable {P : Program} {ops : Array Oper} {rest : List Oper} {Q : Exit → Act → World → Prop} {a : Act} {x y : Operand} {ty tt : TypeId} {pos : String} {after : Array Edge} {gd : Option (Nat × Bool)}
variable {α : Type} {enc : α → List Value} {m : Nat} {t : TypeId} {c : Nat} {pre post : List α} {e0 : α} {w0 w : World} {f : List Nat} {L L' : List Asn}
theorem mid_get (pre post : List α) (e0 : α) {k : Nat} (hp : pre.length = k) (h : k < (pre ++ e0 :: post).length) : (pre ++ e0 :: post)[k] = e0 := by
  subst hp
  simp
theorem mid_set (pre post : List α) (e0 x' : α) {k : Nat} (hp : pre.length = k) : (pre ++ e0 :: post).set k x' = pre ++ x' :: post := by
  subst hp
  simp
/-- One cell of an element of a row is stored. -/
theorem ev_elem (x' : α) (j : Nat) (hk : ∀ x, (enc x).length = m) (M : Mem w0 f w L) {v : Value} {g off k : Nat} (hw : Region.wanted ⟨none, .store tt x y, ty, pos, after, gd⟩ (yielded ops a.tmps) = true) (hx : a.eval x = .pointer (some ⟨g, off, none⟩)) (hy : a.eval y = v) (hv : v.cells = [v].toArray)
    (hs : (P.info? tt).map (·.size) = some 1) (h1 : v.oneCell' = true) (hd : Del (row enc m t (some ⟨g, 0, none⟩) c (pre ++ e0 :: post)) L L') (ho : off = k * m + j) (hp : pre.length = k) (hj : j < m) (e : enc x' = (enc e0).set j v)
    (h : ∀ w1, Mem w0 f w1 (row enc m t (some ⟨g, 0, none⟩) c (pre ++ x' :: post) :: L') → wpList P ops Q rest a w1) : wpList P ops Q (⟨none, .store tt x y, ty, pos, after, gd⟩ :: rest) a w := by
  have hl : k < (pre ++ e0 :: post).length := by rw [List.length_append, List.length_cons]; omega
  refine ev_store_row (j := j) (k := k) (x' := x') (vs := [v]) hk hw hx hy hv hs (by intro u hu; rw [List.mem_singleton.1 hu]; exact h1) M hd ho hl (by rw [List.length_singleton]; omega) ?_ fun w1 M1 => h w1 ?_
  · rw [mid_get _ _ _ hp hl, splice_one _ _ _ (by rw [hk]; exact hj)]
    exact e
  · rw [mid_set _ _ _ _ hp] at M1
    exact M1
theorem row_mid (hk : ∀ x, (enc x).length = m) {g k : Nat} (M : Mem w0 f w L) (hd : Del (row enc m t (some ⟨g, 0, none⟩) c (pre ++ e0 :: post)) L L') (hp : pre.length = k) : ∀ j, j < m → w.cell? ⟨g, k * m + j, none⟩ = (enc e0)[j]? := by
  have hl : k < (pre ++ e0 :: post).length := by rw [List.length_append, List.length_cons]; omega
  have h := (row_elem hk M hd hl).2.1
  rw [mid_get _ _ _ hp hl] at h
  exact h
end
theorem setO0 (k r s to vk vn u : Int) : encO ⟨u, r, s, to, ⟨vk, vn⟩⟩ = (encO ⟨k, r, s, to, ⟨vk, vn⟩⟩).set 0 (.int .i64 u) := rfl
theorem setO1 (k r s to vk vn u : Int) : encO ⟨k, u, s, to, ⟨vk, vn⟩⟩ = (encO ⟨k, r, s, to, ⟨vk, vn⟩⟩).set 1 (.int .i64 u) := rfl
theorem setO2 (k r s to vk vn u : Int) : encO ⟨k, r, u, to, ⟨vk, vn⟩⟩ = (encO ⟨k, r, s, to, ⟨vk, vn⟩⟩).set 2 (.int .i64 u) := rfl
theorem setO3 (k r s to vk vn u : Int) : encO ⟨k, r, s, u, ⟨vk, vn⟩⟩ = (encO ⟨k, r, s, to, ⟨vk, vn⟩⟩).set 3 (.int .i64 u) := rfl
theorem setO4 (k r s to vk vn u : Int) : encO ⟨k, r, s, to, ⟨u, vn⟩⟩ = (encO ⟨k, r, s, to, ⟨vk, vn⟩⟩).set 4 (.int .i64 u) := rfl
theorem setO5 (k r s to vk vn u : Int) : encO ⟨k, r, s, to, ⟨vk, u⟩⟩ = (encO ⟨k, r, s, to, ⟨vk, vn⟩⟩).set 5 (.int .i64 u) := rfl
def markO (k : Int) : Opx := ⟨k, k + 1, k + 2, k + 3, ⟨k + 4, k + 5⟩⟩
def marksO (k : Int) (n : Nat) : List Opx := (List.range n).map fun (i : Nat) => markO (k + 6 * (i : Int))
theorem marksO_length (k : Int) (n : Nat) : (marksO k n).length = n := by simp [marksO]
theorem marksO_succ (k : Int) (n : Nat) : marksO k (n + 1) = marksO k n ++ [markO (k + 6 * (n : Int))] := by simp [marksO, List.range_succ]
theorem marksO_get {k : Int} {n j : Nat} (h : j < (marksO k n).length) : (marksO k n)[j] = markO (k + 6 * (j : Int)) := by simp [marksO]
set_option maxHeartbeats 4000000 in
theorem lMarkOpS (xs : List Opx) (A : Option Addr) (c : Nat) (k0 : Int) {w0 w : World} {f : List Nat} {L L' : List Asn} (M : Mem w0 f w L) (hd : Del (rowO A c xs) L L') (h0 : 0 ≤ k0) (h1 : k0 ≤ 1152921504606846976) (hn : xs.length ≤ 140737488355328) :
    Calls Tryz.prog 63 #[.slice A xs.length c, .int .i64 k0] w fun e w' => e = .returned (.int .i64 (k0 + 6 * xs.length)) ∧ Mem w0 f w' (rowO A c (marksO k0 xs.length) :: L') := by
  replace M := M.pull hd
  clear hd
  have AL := add_lit0
  go_enter Tryz.func63, Tryz.ntmps63
  go_wp2
  go_loopg [1, 5] xs.length (fun gg s1 s5 wr => ∃ k : Nat, k ≤ xs.length ∧ xs.length - k ≤ gg ∧ s1 = .int .i64 (k0 + 6 * k) ∧ s5 = .int .i64 k ∧ Hid (Mem w0 f wr (row encO 6 tO A c (marksO k0 k ++ xs.drop k) :: L')))
  case atStart => exact ⟨0, Nat.zero_le _, by omega, by simp, rfl, by (have e : marksO k0 0 ++ xs.drop 0 = xs := by simp [marksO]); rw [e]; exact M⟩
  case round =>
    clear M
    obtain ⟨k, hk, hg, rfl, rfl, M⟩ := hrel
    replace M := M.out
    by_cases hlt : k < xs.length
    · obtain ⟨g, rfl⟩ := row_form M .here (by rw [List.length_append, marksO_length, List.length_drop]; omega)
      have hpl := marksO_length k0 k
      have hdr : xs.drop k = xs[k] :: xs.drop (k + 1) := List.drop_eq_getElem_cons hlt
      rw [hdr] at M
      have hms := marksO_succ k0 k
      have hpl := Lib.hid hpl
      have hms := Lib.hid hms
      generalize marksO k0 k = pre at M hpl hms
      generalize xs[k] = x at M
      obtain ⟨xk, xr, xs1, xt, ⟨xvk, xvn⟩⟩ := x
      clear hdr
      have i1 : (0 : Int) ≤ k := by omega
      have i2 : (k : Int) < xs.length := by omega
      have a0 : IntKind.i64.wrap (k0 + 6 * (k : Int) + 1) = k0 + 6 * (k : Int) + 1 := by rw [IntKind.wrap_i64]; omega
      have a1 : IntKind.i64.wrap (k0 + 6 * (k : Int) + 1 + 1) = k0 + 6 * (k : Int) + 2 := by rw [IntKind.wrap_i64]; omega
      have a2 : IntKind.i64.wrap (k0 + 6 * (k : Int) + 2 + 1) = k0 + 6 * (k : Int) + 3 := by rw [IntKind.wrap_i64]; omega
      have a3 : IntKind.i64.wrap (k0 + 6 * (k : Int) + 3 + 1) = k0 + 6 * (k : Int) + 4 := by rw [IntKind.wrap_i64]; omega
      have a4 : IntKind.i64.wrap (k0 + 6 * (k : Int) + 4 + 1) = k0 + 6 * (k : Int) + 5 := by rw [IntKind.wrap_i64]; omega
      have a5 : IntKind.i64.wrap (k0 + 6 * (k : Int) + 5 + 1) = k0 + 6 * ((k + 1 : Nat) : Int) := by rw [IntKind.wrap_i64]; omega
      have b2 : IntKind.i64.wrap (k0 + 6 * (k : Int) + 2) = k0 + 6 * (k : Int) + 2 := by rw [IntKind.wrap_i64]; omega
      have b3 : IntKind.i64.wrap (k0 + 6 * (k : Int) + 3) = k0 + 6 * (k : Int) + 3 := by rw [IntKind.wrap_i64]; omega
      have b4 : IntKind.i64.wrap (k0 + 6 * (k : Int) + 4) = k0 + 6 * (k : Int) + 4 := by rw [IntKind.wrap_i64]; omega
      have b5 : IntKind.i64.wrap (k0 + 6 * (k : Int) + 5) = k0 + 6 * (k : Int) + 5 := by rw [IntKind.wrap_i64]; omega
      have b6 : IntKind.i64.wrap (k0 + 6 * (k : Int) + 6) = k0 + 6 * ((k + 1 : Nat) : Int) := by rw [IntKind.wrap_i64]; omega
      go_wp2_with (first | ((with_reducible apply ev_elem (enc := encO) (j := 0) (k := k) (hk := encO_length) (M := M)); rfl; rfl; ((conv => lhs; whnf) <;> rfl); rfl; exact siI; rfl; exact .here; (first | with_reducible rfl | with_reducible exact (Nat.add_zero _).symm); exact hpl.out; decide; exact setO0 _ _ _ _ _ _ _; clear M; intro w1 M) | ((with_reducible apply ev_elem (enc := encO) (j := 1) (k := k) (hk := encO_length) (M := M)); rfl; rfl; ((conv => lhs; whnf) <;> rfl); rfl; exact siI; rfl; exact .here; (first | with_reducible rfl | with_reducible exact (Nat.add_zero _).symm); exact hpl.out; decide; exact setO1 _ _ _ _ _ _ _; clear M; intro w1 M) | ((with_reducible apply ev_elem (enc := encO) (j := 2) (k := k) (hk := encO_length) (M := M)); rfl; rfl; ((conv => lhs; whnf) <;> rfl); rfl; exact siI; rfl; exact .here; (first | with_reducible rfl | with_reducible exact (Nat.add_zero _).symm); exact hpl.out; decide; exact setO2 _ _ _ _ _ _ _; clear M; intro w1 M) | ((with_reducible apply ev_elem (enc := encO) (j := 3) (k := k) (hk := encO_length) (M := M)); rfl; rfl; ((conv => lhs; whnf) <;> rfl); rfl; exact siI; rfl; exact .here; (first | with_reducible rfl | with_reducible exact (Nat.add_zero _).symm); exact hpl.out; decide; exact setO3 _ _ _ _ _ _ _; clear M; intro w1 M) | ((with_reducible apply ev_elem (enc := encO) (j := 4) (k := k) (hk := encO_length) (M := M)); rfl; rfl; ((conv => lhs; whnf) <;> rfl); rfl; exact siI; rfl; exact .here; (first | with_reducible rfl | with_reducible exact (Nat.add_zero _).symm); exact hpl.out; decide; exact setO4 _ _ _ _ _ _ _; clear M; intro w1 M) | ((with_reducible apply ev_elem (enc := encO) (j := 5) (k := k) (hk := encO_length) (M := M)); rfl; rfl; ((conv => lhs; whnf) <;> rfl); rfl; exact siI; rfl; exact .here; (first | with_reducible rfl | with_reducible exact (Nat.add_zero _).symm); exact hpl.out; decide; exact setO5 _ _ _ _ _ _ _; clear M; intro w1 M))
      go_roundg (xs.length - (k + 1))
      case measure => omega
      case rel => exact ⟨k + 1, by omega, by omega, rfl, by go_num, by rw [hms.out, List.append_assoc]; exact M⟩
    · have : k = xs.length := by omega
      subst this
      rw [List.drop_length, List.append_nil] at M
      go_wp2
      go_ret
      exact ⟨rfl, M⟩
end Go.Proofs.YtomolbhcggaakaaGreat
/- The laws' marks on runs. -/
namespace Go.Proofs.YtomolbhcggaakaaGreat
open Go.RowKit
set_option maxRecDepth 100000

theorem setR0 (id at_ : Int) (slots : List Vl) (full : Int) (mail : List Vl) (state due : Int) (links watched : List Int) (trap : Bool) (wk wn turns : Int) (a : RA) (u : Int) : encR (⟨u, at_, slots, full, mail, state, due, links, watched, trap, ⟨wk, wn⟩, turns⟩, a) = (encR (⟨id, at_, slots, full, mail, state, due, links, watched, trap, ⟨wk, wn⟩, turns⟩, a)).set 0 (.int .i64 u) := rfl
theorem setR1 (id at_ : Int) (slots : List Vl) (full : Int) (mail : List Vl) (state due : Int) (links watched : List Int) (trap : Bool) (wk wn turns : Int) (a : RA) (u : Int) : encR (⟨id, u, slots, full, mail, state, due, links, watched, trap, ⟨wk, wn⟩, turns⟩, a) = (encR (⟨id, at_, slots, full, mail, state, due, links, watched, trap, ⟨wk, wn⟩, turns⟩, a)).set 1 (.int .i64 u) := rfl
theorem setR3 (id at_ : Int) (slots : List Vl) (full : Int) (mail : List Vl) (state due : Int) (links watched : List Int) (trap : Bool) (wk wn turns : Int) (a : RA) (u : Int) : encR (⟨id, at_, slots, u, mail, state, due, links, watched, trap, ⟨wk, wn⟩, turns⟩, a) = (encR (⟨id, at_, slots, full, mail, state, due, links, watched, trap, ⟨wk, wn⟩, turns⟩, a)).set 3 (.int .i64 u) := rfl
theorem setR5 (id at_ : Int) (slots : List Vl) (full : Int) (mail : List Vl) (state due : Int) (links watched : List Int) (trap : Bool) (wk wn turns : Int) (a : RA) (u : Int) : encR (⟨id, at_, slots, full, mail, u, due, links, watched, trap, ⟨wk, wn⟩, turns⟩, a) = (encR (⟨id, at_, slots, full, mail, state, due, links, watched, trap, ⟨wk, wn⟩, turns⟩, a)).set 5 (.int .i64 u) := rfl
theorem setR6 (id at_ : Int) (slots : List Vl) (full : Int) (mail : List Vl) (state due : Int) (links watched : List Int) (trap : Bool) (wk wn turns : Int) (a : RA) (u : Int) : encR (⟨id, at_, slots, full, mail, state, u, links, watched, trap, ⟨wk, wn⟩, turns⟩, a) = (encR (⟨id, at_, slots, full, mail, state, due, links, watched, trap, ⟨wk, wn⟩, turns⟩, a)).set 6 (.int .i64 u) := rfl
theorem setR9 (id at_ : Int) (slots : List Vl) (full : Int) (mail : List Vl) (state due : Int) (links watched : List Int) (trap : Bool) (wk wn turns : Int) (a : RA) (u : Bool) : encR (⟨id, at_, slots, full, mail, state, due, links, watched, u, ⟨wk, wn⟩, turns⟩, a) = (encR (⟨id, at_, slots, full, mail, state, due, links, watched, trap, ⟨wk, wn⟩, turns⟩, a)).set 9 (.bool u) := rfl
theorem setR10 (id at_ : Int) (slots : List Vl) (full : Int) (mail : List Vl) (state due : Int) (links watched : List Int) (trap : Bool) (wk wn turns : Int) (a : RA) (u : Int) : encR (⟨id, at_, slots, full, mail, state, due, links, watched, trap, ⟨u, wn⟩, turns⟩, a) = (encR (⟨id, at_, slots, full, mail, state, due, links, watched, trap, ⟨wk, wn⟩, turns⟩, a)).set 10 (.int .i64 u) := rfl
theorem setR11 (id at_ : Int) (slots : List Vl) (full : Int) (mail : List Vl) (state due : Int) (links watched : List Int) (trap : Bool) (wk wn turns : Int) (a : RA) (u : Int) : encR (⟨id, at_, slots, full, mail, state, due, links, watched, trap, ⟨wk, u⟩, turns⟩, a) = (encR (⟨id, at_, slots, full, mail, state, due, links, watched, trap, ⟨wk, wn⟩, turns⟩, a)).set 11 (.int .i64 u) := rfl
theorem setR12 (id at_ : Int) (slots : List Vl) (full : Int) (mail : List Vl) (state due : Int) (links watched : List Int) (trap : Bool) (wk wn turns : Int) (a : RA) (u : Int) : encR (⟨id, at_, slots, full, mail, state, due, links, watched, trap, ⟨wk, wn⟩, u⟩, a) = (encR (⟨id, at_, slots, full, mail, state, due, links, watched, trap, ⟨wk, wn⟩, turns⟩, a)).set 12 (.int .i64 u) := rfl

theorem heads_mid {w0 w : World} {f : List Nat} {L L' : List Asn} {g c k : Nat} {pre post : List (Rn × RA)} {r : Rn} {a : RA} (M : Mem w0 f w L) (hd : Del (row encR 13 tR (some ⟨g, 0, none⟩) c (pre ++ (r, a) :: post)) L L') (hp : pre.length = k) :
    w.cell? ⟨g, k * 13 + 2, none⟩ = some (.slice a.sA r.slots.length a.sC) ∧ w.cell? ⟨g, k * 13 + 4, none⟩ = some (.slice a.mA r.mail.length a.mC) ∧ w.cell? ⟨g, k * 13 + 7, none⟩ = some (.slice a.lA r.links.length a.lC) ∧ w.cell? ⟨g, k * 13 + 8, none⟩ = some (.slice a.wA r.watched.length a.wC) := by
  have h := row_mid encR_length M hd hp
  exact ⟨h 2 (by decide), h 4 (by decide), h 7 (by decide), h 8 (by decide)⟩
theorem Mem.rwsHead {w0 w : World} {f : List Nat} {L : List Asn} {p : Rn × RA} {ps : List (Rn × RA)} (M : Mem w0 f w (rws (p :: ps) :: L)) : Mem w0 f w (runA p.1 p.2 :: rws ps :: L) := by
  refine M.split (L' := [runA p.1 p.2, rws ps]) (fun h X hX => ?_) ?_
  · simp only [List.mem_cons, List.not_mem_nil, or_false] at hX
    rcases hX with rfl | rfl
    · exact h _ (by simp)
    · exact fun A hA => h A (List.mem_cons_of_mem _ hA)
  · simp [fps, rws, Go.Proofs.YtomolbhcggaakaaGreat.pack]
theorem Mem.rowCongr {α : Type} {enc : α → List Value} {m : Nat} {t : TypeId} {A : Option Addr} {c : Nat} {pre post : List α} {x y : α} {w0 w : World} {f : List Nat} {L : List Asn} (M : Mem w0 f w (row enc m t A c (pre ++ x :: post) :: L)) (e : enc x = enc y) : Mem w0 f w (row enc m t A c (pre ++ y :: post) :: L) := by
  refine M.turn (fun h => ?_) (List.Sublist.refl _)
  have e1 : flat enc (pre ++ y :: post) = flat enc (pre ++ x :: post) := by simp [flat, e]
  have e2 : (pre ++ y :: post).length = (pre ++ x :: post).length := by simp
  show OwnL enc m t w 0 (.slice A (pre ++ y :: post).length c) (pre ++ y :: post)
  unfold OwnL
  rw [e1, e2]
  exact h
/-- What the marks make of a run, from a number on. -/
def mk1 (k : Int) (r : Rn) : Int := k + 2 + 2 * r.slots.length
def mk2 (k : Int) (r : Rn) : Int := mk1 k r + 1 + 2 * r.mail.length
def mk3 (k : Int) (r : Rn) : Int := mk2 k r + 2 + r.links.length
def mk4 (k : Int) (r : Rn) : Int := mk3 k r + r.watched.length
def mkN (k : Int) (r : Rn) : Int := mk4 k r + 4
def mkR (k : Int) (r : Rn) : Rn := ⟨k, k + 1, marksV (k + 2) r.slots.length, mk1 k r, marksV (mk1 k r + 1) r.mail.length, mk2 k r, mk2 k r + 1, marksI (mk2 k r + 2) r.links.length, marksI (mk3 k r) r.watched.length, (mk4 k r).tmod 3 == 0, ⟨mk4 k r + 1, mk4 k r + 2⟩, mk4 k r + 3⟩
def mksP : Int → List (Rn × RA) → List (Rn × RA)
  | _, [] => []
  | k, p :: l => (mkR k p.1, p.2) :: mksP (mkN k p.1) l
def mksN : Int → List (Rn × RA) → Int
  | k, [] => k
  | k, p :: l => mksN (mkN k p.1) l
theorem mksP_length (k : Int) (l : List (Rn × RA)) : (mksP k l).length = l.length := by
  induction l generalizing k with
  | nil => rfl
  | cons p l ih => simp [mksP, ih]
theorem mks_snoc (k : Int) (l : List (Rn × RA)) (p : Rn × RA) : mksP k (l ++ [p]) = mksP k l ++ [(mkR (mksN k l) p.1, p.2)] ∧ mksN k (l ++ [p]) = mkN (mksN k l) p.1 := by
  induction l generalizing k with
  | nil => exact ⟨rfl, rfl⟩
  | cons q l ih =>
    obtain ⟨h1, h2⟩ := ih (mkN k q.1)
    exact ⟨by simp [mksP, mksN, h1], by simp [mksN, h2]⟩
theorem mkN_eq (k : Int) (r : Rn) : mkN k r = k + 9 + 2 * r.slots.length + 2 * r.mail.length + r.links.length + r.watched.length := by unfold mkN mk4 mk3 mk2 mk1; omega
theorem mksN_le (k : Int) (l : List (Rn × RA)) : k ≤ mksN k l ∧ mksN k l ≤ k + 9 * l.length + 2 * sizesR (l.map (·.1)) := by
  induction l generalizing k with
  | nil => simp [mksN, sizesR]
  | cons p l ih =>
    have h := ih (mkN k p.1)
    have e := mkN_eq k p.1
    have s : sizeR p.1 = p.1.slots.length + p.1.mail.length + p.1.links.length + p.1.watched.length := rfl
    simp only [mksN, List.map_cons, sizesR, List.length_cons]
    omega
def MkPost (A : Option Addr) (c : Nat) (ps : List (Rn × RA)) (k0 : Int) (w0 : World) (f : List Nat) (L : List Asn) (e : Ending) (w' : World) : Prop := e = .returned (.int .i64 (mksN k0 ps)) ∧ Mem w0 f w' (rowR A c (mksP k0 ps) :: rws (mksP k0 ps) :: L)
set_option maxHeartbeats 8000000 in
theorem lMarkRunS (ps : List (Rn × RA)) (A : Option Addr) (c : Nat) (k0 : Int) {w0 w : World} {f : List Nat} {L : List Asn} (M : Mem w0 f w (rowR A c ps :: rws ps :: L)) (h0 : 0 ≤ k0) (h1 : k0 ≤ 1000000000) (hn : ps.length ≤ 1048576) (hs : sizesR (ps.map (·.1)) ≤ 1000000000) :
    Calls Tryz.prog 64 #[.slice A ps.length c, .int .i64 k0] w (MkPost A c ps k0 w0 f L) := by
  have AL := add_lit0
  have HF : Hid (∀ V z, z = mksN k0 ps → Mem w0 f V (rowR A c (mksP k0 ps) :: rws (mksP k0 ps) :: L) → MkPost A c ps k0 w0 f L (.returned (.int .i64 z)) V) := fun V z hz M => ⟨by rw [hz], M⟩
  go_enter Tryz.func64, Tryz.ntmps64
  go_wp2
  go_loopg [1, 5] ps.length (fun gg s1 s5 wr => ∃ k : Nat, k ≤ ps.length ∧ ps.length - k ≤ gg ∧ s1 = .int .i64 (mksN k0 (ps.take k)) ∧ s5 = .int .i64 k ∧ Hid (Mem w0 f wr (row encR 13 tR A c (mksP k0 (ps.take k) ++ ps.drop k) :: rws (mksP k0 (ps.take k)) :: rws (ps.drop k) :: L)))
  case atStart => exact ⟨0, Nat.zero_le _, by omega, rfl, rfl, by (have M1 : Mem w0 f w (row encR 13 tR A c (mksP k0 (ps.take 0) ++ ps.drop 0) :: rws (ps.drop 0) :: L) := M); exact (Mem.rwsNil M1).perm (.swap _ _ _)⟩
  case round =>
    clear M
    obtain ⟨k, hk, hg, rfl, rfl, M⟩ := hrel
    replace M := M.out
    by_cases hlt : k < ps.length
    · obtain ⟨g, rfl⟩ := row_form M .here (by rw [List.length_append, mksP_length, List.length_take, List.length_drop]; omega)
      have hpl : (mksP k0 (ps.take k)).length = k := by rw [mksP_length, List.length_take]; omega
      have hdr : ps.drop k = ps[k] :: ps.drop (k + 1) := List.drop_eq_getElem_cons hlt
      rw [hdr] at M
      have hsn := mks_snoc k0 (ps.take k) ps[k]
      rw [← takeS ps hlt] at hsn
      have hb := mksN_le k0 (ps.take k)
      have hb2 := mksN_le k0 (ps.take (k + 1))
      rw [hsn.2, mkN_eq] at hb2
      have hz := sizesR_psle ps k
      have hz2 := sizesR_psle ps (k + 1)
      have hl1 : (ps.take k).length ≤ 1048576 := by rw [List.length_take]; omega
      have hl2 : (ps.take (k + 1)).length ≤ 1048576 := by rw [List.length_take]; omega
      have hsn := Lib.hid hsn
      have hpl := Lib.hid hpl
      generalize mksP k0 (ps.take k) = pre at M hpl hsn
      generalize mksN k0 (ps.take k) = kk at hb hb2 hsn
      generalize ps[k] = p at M hsn hb2
      obtain ⟨⟨id, at_, slots, full, mail, state, due, links, watched, trap, ⟨wk, wn⟩, turns⟩, ⟨sA, sC, mA, mC, lA, lC, wA, wC⟩⟩ := p
      have M1 := (M.perm (L' := rws (_ :: ps.drop (k + 1)) :: row encR 13 tR _ c _ :: rws pre :: L) ((List.Perm.swap _ _ _).cons _ |>.trans (List.Perm.swap _ _ _))).rwsHead.unpackRun
      simp only at M1
      clear M hdr
      have M := M1
      clear M1
      have hE := heads_mid M (by repeat (first | with_reducible exact Del.here | with_reducible apply Del.there)) hpl.out
      simp only at hE hb2
      have K0 : 0 ≤ kk ∧ kk ≤ 4000000000 := by omega
      have KS : slots.length ≤ 4000000000 ∧ mail.length ≤ 4000000000 ∧ links.length ≤ 4000000000 ∧ watched.length ≤ 4000000000 := by omega
      obtain ⟨v1, hv1⟩ : ∃ v1 : Int, v1 = kk + 2 + 2 * slots.length := ⟨_, rfl⟩
      obtain ⟨v2, hv2⟩ : ∃ v2 : Int, v2 = v1 + 1 + 2 * mail.length := ⟨_, rfl⟩
      obtain ⟨v3, hv3⟩ : ∃ v3 : Int, v3 = v2 + 2 + links.length := ⟨_, rfl⟩
      obtain ⟨v4, hv4⟩ : ∃ v4 : Int, v4 = v3 + watched.length := ⟨_, rfl⟩
      have B1 : 0 ≤ v1 ∧ v1 ≤ 100000000000 := by omega
      have B2 : 0 ≤ v2 ∧ v2 ≤ 100000000000 := by omega
      have B3 : 0 ≤ v3 ∧ v3 ≤ 100000000000 := by omega
      have B4 : 0 ≤ v4 ∧ v4 ≤ 100000000000 := by omega
      have H1 := Lib.hid (fun W (L L' : List Asn) (M : Mem w0 f W L) (hd : Del (rowV sA sC slots) L L') => mMarkV slots sA sC (kk + 2) M hd (by omega) (by omega))
      rw [← hv1] at H1
      have H2 := Lib.hid (fun W (L L' : List Asn) (M : Mem w0 f W L) (hd : Del (rowV mA mC mail) L L') => mMarkV mail mA mC (v1 + 1) M hd (by omega) (by omega))
      rw [← hv2] at H2
      have H3 := Lib.hid (fun W (L L' : List Asn) (M : Mem w0 f W L) (hd : Del (rowI lA lC links) L L') => mMarkI links lA lC (v2 + 2) M hd (by omega) (by omega))
      rw [← hv3] at H3
      have H4 := Lib.hid (fun W (L L' : List Asn) (M : Mem w0 f W L) (hd : Del (rowI wA wC watched) L L') => mMarkI watched wA wC v3 M hd (by omega) (by omega))
      rw [← hv4] at H4
      have e1 : mk1 kk ⟨id, at_, slots, full, mail, state, due, links, watched, trap, ⟨wk, wn⟩, turns⟩ = v1 := hv1.symm
      have e2 : mk2 kk ⟨id, at_, slots, full, mail, state, due, links, watched, trap, ⟨wk, wn⟩, turns⟩ = v2 := by unfold mk2; rw [e1]; exact hv2.symm
      have e3 : mk3 kk ⟨id, at_, slots, full, mail, state, due, links, watched, trap, ⟨wk, wn⟩, turns⟩ = v3 := by unfold mk3; rw [e2]; exact hv3.symm
      have e4 : mk4 kk ⟨id, at_, slots, full, mail, state, due, links, watched, trap, ⟨wk, wn⟩, turns⟩ = v4 := by unfold mk4; rw [e3]; exact hv4.symm
      have hsn2 := hsn.out
      simp only [mkR, mkN, e1, e2, e3, e4] at hsn2
      have hsn2 := Lib.hid hsn2
      clear e1 e2 e3 e4 hsn hv1 hv2 hv3 hv4 hb hb2 hz hz2 hl1 hl2
      have a0 : IntKind.i64.wrap (kk + 1) = kk + 1 := by rw [IntKind.wrap_i64]; omega
      have a1 : IntKind.i64.wrap (kk + 1 + 1) = kk + 2 := by rw [IntKind.wrap_i64]; omega
      have a2 : IntKind.i64.wrap (kk + 2) = kk + 2 := by rw [IntKind.wrap_i64]; omega
      have a3 : IntKind.i64.wrap (v1 + 1) = v1 + 1 := by rw [IntKind.wrap_i64]; omega
      have a4 : IntKind.i64.wrap (v2 + 1) = v2 + 1 := by rw [IntKind.wrap_i64]; omega
      have a5 : IntKind.i64.wrap (v2 + 1 + 1) = v2 + 2 := by rw [IntKind.wrap_i64]; omega
      have a6 : IntKind.i64.wrap (v2 + 2) = v2 + 2 := by rw [IntKind.wrap_i64]; omega
      have a7 : IntKind.i64.wrap (v4 + 1) = v4 + 1 := by rw [IntKind.wrap_i64]; omega
      have a8 : IntKind.i64.wrap (v4 + 1 + 1) = v4 + 2 := by rw [IntKind.wrap_i64]; omega
      have a9 : IntKind.i64.wrap (v4 + 2) = v4 + 2 := by rw [IntKind.wrap_i64]; omega
      have a10 : IntKind.i64.wrap (v4 + 2 + 1) = v4 + 3 := by rw [IntKind.wrap_i64]; omega
      have a11 : IntKind.i64.wrap (v4 + 3) = v4 + 3 := by rw [IntKind.wrap_i64]; omega
      have a12 : IntKind.i64.wrap (v4 + 3 + 1) = v4 + 4 := by rw [IntKind.wrap_i64]; omega
      have a13 : IntKind.i64.wrap (v4 + 4) = v4 + 4 := by rw [IntKind.wrap_i64]; omega
      have tm : 0 ≤ v4.tmod 3 ∧ v4.tmod 3 < 3 := ⟨Int.tmod_nonneg _ (by omega), Int.tmod_lt_of_pos _ (by omega)⟩
      have a14 : IntKind.i64.wrap (v4.tmod 3) = v4.tmod 3 := by rw [IntKind.wrap_i64]; omega
      have i1 : (0 : Int) ≤ k := by omega
      have i2 : (k : Int) < ps.length := by omega
      clear K0 KS B1 B2 B3 B4 tm
      go_wp2_with (first
        | ((with_reducible apply ev_elem (enc := encR) (j := 0) (k := k) (hk := encR_length) (M := M)); rfl; rfl; ((conv => lhs; whnf) <;> rfl); rfl; (first | exact siI | exact siB); rfl; (repeat (first | with_reducible exact Del.here | with_reducible apply Del.there)); (first | with_reducible rfl | with_reducible exact (Nat.add_zero _).symm); exact hpl.out; decide; exact setR0 _ _ _ _ _ _ _ _ _ _ _ _ _ _ _; clear M; intro w1 M; have E := heads_mid M (by repeat (first | with_reducible exact Del.here | with_reducible apply Del.there)) hpl.out; simp only at E)
        | ((with_reducible apply ev_elem (enc := encR) (j := 1) (k := k) (hk := encR_length) (M := M)); rfl; rfl; ((conv => lhs; whnf) <;> rfl); rfl; (first | exact siI | exact siB); rfl; (repeat (first | with_reducible exact Del.here | with_reducible apply Del.there)); (first | with_reducible rfl | with_reducible exact (Nat.add_zero _).symm); exact hpl.out; decide; exact setR1 _ _ _ _ _ _ _ _ _ _ _ _ _ _ _; clear M; intro w1 M; have E := heads_mid M (by repeat (first | with_reducible exact Del.here | with_reducible apply Del.there)) hpl.out; simp only at E)
        | ((with_reducible apply ev_elem (enc := encR) (j := 3) (k := k) (hk := encR_length) (M := M)); rfl; rfl; ((conv => lhs; whnf) <;> rfl); rfl; (first | exact siI | exact siB); rfl; (repeat (first | with_reducible exact Del.here | with_reducible apply Del.there)); (first | with_reducible rfl | with_reducible exact (Nat.add_zero _).symm); exact hpl.out; decide; exact setR3 _ _ _ _ _ _ _ _ _ _ _ _ _ _ _; clear M; intro w1 M; have E := heads_mid M (by repeat (first | with_reducible exact Del.here | with_reducible apply Del.there)) hpl.out; simp only at E)
        | ((with_reducible apply ev_elem (enc := encR) (j := 5) (k := k) (hk := encR_length) (M := M)); rfl; rfl; ((conv => lhs; whnf) <;> rfl); rfl; (first | exact siI | exact siB); rfl; (repeat (first | with_reducible exact Del.here | with_reducible apply Del.there)); (first | with_reducible rfl | with_reducible exact (Nat.add_zero _).symm); exact hpl.out; decide; exact setR5 _ _ _ _ _ _ _ _ _ _ _ _ _ _ _; clear M; intro w1 M; have E := heads_mid M (by repeat (first | with_reducible exact Del.here | with_reducible apply Del.there)) hpl.out; simp only at E)
        | ((with_reducible apply ev_elem (enc := encR) (j := 6) (k := k) (hk := encR_length) (M := M)); rfl; rfl; ((conv => lhs; whnf) <;> rfl); rfl; (first | exact siI | exact siB); rfl; (repeat (first | with_reducible exact Del.here | with_reducible apply Del.there)); (first | with_reducible rfl | with_reducible exact (Nat.add_zero _).symm); exact hpl.out; decide; exact setR6 _ _ _ _ _ _ _ _ _ _ _ _ _ _ _; clear M; intro w1 M; have E := heads_mid M (by repeat (first | with_reducible exact Del.here | with_reducible apply Del.there)) hpl.out; simp only at E)
        | ((with_reducible apply ev_elem (enc := encR) (j := 9) (k := k) (hk := encR_length) (M := M)); rfl; rfl; ((conv => lhs; whnf) <;> rfl); rfl; (first | exact siI | exact siB); rfl; (repeat (first | with_reducible exact Del.here | with_reducible apply Del.there)); (first | with_reducible rfl | with_reducible exact (Nat.add_zero _).symm); exact hpl.out; decide; exact setR9 _ _ _ _ _ _ _ _ _ _ _ _ _ _ _; clear M; intro w1 M; have E := heads_mid M (by repeat (first | with_reducible exact Del.here | with_reducible apply Del.there)) hpl.out; simp only at E)
        | ((with_reducible apply ev_elem (enc := encR) (j := 10) (k := k) (hk := encR_length) (M := M)); rfl; rfl; ((conv => lhs; whnf) <;> rfl); rfl; (first | exact siI | exact siB); rfl; (repeat (first | with_reducible exact Del.here | with_reducible apply Del.there)); (first | with_reducible rfl | with_reducible exact (Nat.add_zero _).symm); exact hpl.out; decide; exact setR10 _ _ _ _ _ _ _ _ _ _ _ _ _ _ _; clear M; intro w1 M; have E := heads_mid M (by repeat (first | with_reducible exact Del.here | with_reducible apply Del.there)) hpl.out; simp only at E)
        | ((with_reducible apply ev_elem (enc := encR) (j := 11) (k := k) (hk := encR_length) (M := M)); rfl; rfl; ((conv => lhs; whnf) <;> rfl); rfl; (first | exact siI | exact siB); rfl; (repeat (first | with_reducible exact Del.here | with_reducible apply Del.there)); (first | with_reducible rfl | with_reducible exact (Nat.add_zero _).symm); exact hpl.out; decide; exact setR11 _ _ _ _ _ _ _ _ _ _ _ _ _ _ _; clear M; intro w1 M; have E := heads_mid M (by repeat (first | with_reducible exact Del.here | with_reducible apply Del.there)) hpl.out; simp only at E)
        | ((with_reducible apply ev_elem (enc := encR) (j := 12) (k := k) (hk := encR_length) (M := M)); rfl; rfl; ((conv => lhs; whnf) <;> rfl); rfl; (first | exact siI | exact siB); rfl; (repeat (first | with_reducible exact Del.here | with_reducible apply Del.there)); (first | with_reducible rfl | with_reducible exact (Nat.add_zero _).symm); exact hpl.out; decide; exact setR12 _ _ _ _ _ _ _ _ _ _ _ _ _ _ _; clear M; intro w1 M; have E := heads_mid M (by repeat (first | with_reducible exact Del.here | with_reducible apply Del.there)) hpl.out; simp only at E)
        | (go_at_call_of 107 (Value.slice sA slots.length sC); refine (H1.out _ _ _ M (by repeat (first | with_reducible exact Del.here | with_reducible apply Del.there))).mono ?_; clear M; rintro e w2 ⟨rfl, M⟩; have E := heads_mid M (by repeat (first | with_reducible exact Del.here | with_reducible apply Del.there)) hpl.out; simp only at E)
        | (go_at_call_of 107 (Value.slice mA mail.length mC); refine (H2.out _ _ _ M (by repeat (first | with_reducible exact Del.here | with_reducible apply Del.there))).mono ?_; clear M; rintro e w2 ⟨rfl, M⟩; have E := heads_mid M (by repeat (first | with_reducible exact Del.here | with_reducible apply Del.there)) hpl.out; simp only at E)
        | (go_at_call_of 25 (Value.slice lA links.length lC); refine (H3.out _ _ _ M (by repeat (first | with_reducible exact Del.here | with_reducible apply Del.there))).mono ?_; clear M; rintro e w2 ⟨rfl, M⟩; have E := heads_mid M (by repeat (first | with_reducible exact Del.here | with_reducible apply Del.there)) hpl.out; simp only at E)
        | (go_at_call_of 25 (Value.slice wA watched.length wC); refine (H4.out _ _ _ M (by repeat (first | with_reducible exact Del.here | with_reducible apply Del.there))).mono ?_; clear M; rintro e w2 ⟨rfl, M⟩; have E := heads_mid M (by repeat (first | with_reducible exact Del.here | with_reducible apply Del.there)) hpl.out; simp only at E))
      have M2 := M.sel (T := rowV sA sC (marksV (kk + 2) slots.length) :: rowV mA mC (marksV (v1 + 1) mail.length) :: rowI lA lC (marksI (v2 + 2) links.length) :: rowI wA wC (marksI v3 watched.length) :: rws pre :: row encR 13 tR (some ⟨g, 0, none⟩) c (pre ++ (⟨kk, kk + 1, slots, v1, mail, v2, v2 + 1, links, watched, v4.tmod 3 == 0, ⟨v4 + 1, v4 + 2⟩, v4 + 3⟩, ⟨sA, sC, mA, mC, lA, lC, wA, wC⟩) :: ps.drop (k + 1)) :: rws (ps.drop (k + 1)) :: L) (by repeat (first | with_reducible exact Sel.refl | with_reducible exact Sel.nil | (with_reducible refine Sel.cons (by repeat (first | with_reducible exact Del.here | with_reducible apply Del.there)) ?_) | with_reducible apply Sel.drop))
      have M3 := (Mem.packRun (r := ⟨kk, kk + 1, marksV (kk + 2) slots.length, v1, marksV (v1 + 1) mail.length, v2, v2 + 1, marksI (v2 + 2) links.length, marksI v3 watched.length, v4.tmod 3 == 0, ⟨v4 + 1, v4 + 2⟩, v4 + 3⟩) (a := ⟨sA, sC, mA, mC, lA, lC, wA, wC⟩) M2).rwsSnoc
      have M4 := (M3.perm (.swap _ _ _)).rowCongr (y := ((⟨kk, kk + 1, marksV (kk + 2) slots.length, v1, marksV (v1 + 1) mail.length, v2, v2 + 1, marksI (v2 + 2) links.length, marksI v3 watched.length, v4.tmod 3 == 0, ⟨v4 + 1, v4 + 2⟩, v4 + 3⟩, ⟨sA, sC, mA, mC, lA, lC, wA, wC⟩) : Rn × RA)) (by simp [encR, marksV_length, marksI_length])
      have M4 := Lib.hid M4
      clear M M2 M3
      go_roundg (ps.length - (k + 1))
      case measure => omega
      case rel => exact ⟨k + 1, by omega, by omega, by rw [hsn2.out.2], by go_num, by rw [hsn2.out.1, List.append_assoc]; exact M4.out⟩
    · have : k = ps.length := by omega
      subst this
      rw [List.drop_length, List.append_nil, List.take_length] at M
      have M1 : Mem w0 f wr (rowR A c (mksP k0 ps) :: rws (mksP k0 ps) :: L) := M.sel (T := row encR 13 tR A c (mksP k0 ps) :: rws (mksP k0 ps) :: L) (by repeat (first | with_reducible exact Sel.refl | with_reducible exact Sel.nil | (with_reducible refine Sel.cons (by repeat (first | with_reducible exact Del.here | with_reducible apply Del.there)) ?_) | with_reducible apply Sel.drop))
      go_wp2
      go_ret
      exact HF.out _ _ (by first | rfl | (rw [List.take_length])) M1
end Go.Proofs.YtomolbhcggaakaaGreat
/- The laws' marks on a world. -/
namespace Go.Proofs.YtomolbhcggaakaaGreat
open Go.RowKit
set_option maxRecDepth 100000

def mkQ (k : Int) (W : Wm) : Int := mksN (k + 6 * W.code.length) W.ps
def mkW (k : Int) (W : Wm) : Wm := { W with code := marksO k W.code.length, ps := mksP (k + 6 * W.code.length) W.ps, queue := marksI (mkQ k W) W.queue.length }
def mkEnd (k : Int) (W : Wm) : Int := mkQ k W + W.queue.length
def MkWPost (k0 : Int) (W : Wm) (w0 : World) (f : List Nat) (L : List Asn) (e : Ending) (w' : World) : Prop := e = .returned (.int .i64 (mkEnd k0 W)) ∧ Mem w0 f w' (wld (mkW k0 W) :: L)
theorem mkEnd_le {k0 : Int} {W : Wm} (h0 : 0 ≤ k0) (h1 : k0 ≤ 1000000) (s1 : W.code.length ≤ 1048576) (s2 : W.ps.length ≤ 1048576) (s3 : W.queue.length ≤ 1048576) (s4 : sizesR (W.ps.map (·.1)) ≤ 100000000) : (0 ≤ mkQ k0 W ∧ mkQ k0 W ≤ 1000000000) ∧ 0 ≤ mkEnd k0 W ∧ mkEnd k0 W ≤ 2000000000 := by
  have h := mksN_le (k0 + 6 * W.code.length) W.ps
  have e : mkQ k0 W = mksN (k0 + 6 * W.code.length) W.ps := rfl
  have e2 : mkEnd k0 W = mkQ k0 W + W.queue.length := rfl
  omega
set_option maxHeartbeats 2000000 in
theorem lMarkWorld (W : Wm) (k0 : Int) {w0 w : World} {f : List Nat} {L L' : List Asn} (M : Mem w0 f w L) (hd : Del (wld W) L L') (h0 : 0 ≤ k0) (h1 : k0 ≤ 1000000) (s1 : W.code.length ≤ 1048576) (s2 : W.ps.length ≤ 1048576) (s3 : W.queue.length ≤ 1048576) (s4 : sizesR (W.ps.map (·.1)) ≤ 100000000) :
    Calls Tryz.prog 24 #[.agg (wArr W), .int .i64 k0] w (MkWPost k0 W w0 f L') := by
  have B := mkEnd_le h0 h1 s1 s2 s3 s4
  have HC := Lib.hid (fun V (L L' : List Asn) (M : Mem w0 f V L) (hd : Del (rowO W.cA W.cC W.code) L L') => lMarkOpS W.code W.cA W.cC k0 M hd h0 (by omega) (by omega))
  have HR := Lib.hid (fun V (L : List Asn) (M : Mem w0 f V (rowR W.rA W.rC W.ps :: rws W.ps :: L)) => lMarkRunS W.ps W.rA W.rC (k0 + 6 * W.code.length) M (by omega) (by omega) s2 (by omega))
  have HQ := Lib.hid (fun V (L L' : List Asn) (M : Mem w0 f V L) (hd : Del (rowI W.qA W.qC W.queue) L L') => mMarkI W.queue W.qA W.qC (mkQ k0 W) M hd (by omega) (by omega))
  unfold MkPost at HR
  have HF : Hid (∀ V z, z = mkQ k0 W + W.queue.length → Mem w0 f V (rowO W.cA W.cC (marksO k0 W.code.length) :: rowR W.rA W.rC (mksP (k0 + 6 * W.code.length) W.ps) :: rowI W.qA W.qC (marksI (mkQ k0 W) W.queue.length) :: rws (mksP (k0 + 6 * W.code.length) W.ps) :: L') → MkWPost k0 W w0 f L' (.returned (.int .i64 z)) V) := fun V z hz M => ⟨by rw [hz]; rfl, Mem.pack (L' := wldL (mkW k0 W)) M⟩
  have M : Mem w0 f w (rowO W.cA W.cC W.code :: rowR W.rA W.rC W.ps :: rowI W.qA W.qC W.queue :: rws W.ps :: L') := Mem.unpack (L' := wldL W) (M.pull hd)
  have e0 : mksN (k0 + 6 * W.code.length) W.ps = mkQ k0 W := rfl
  rw [e0] at HR
  clear hd B s1 s2 s3 s4 h0 h1 e0
  obtain ⟨code, cA, cC, ps, rA, rC, queue, qA, qC, now, sent, taken, lost⟩ := W
  simp only at *
  generalize mkQ k0 ⟨code, cA, cC, ps, rA, rC, queue, qA, qC, now, sent, taken, lost⟩ = q at HR HQ HF
  generalize mksP (k0 + 6 * code.length) ps = ms at HR HF
  generalize marksO k0 code.length = mo at HC HF
  generalize marksI q queue.length = mi at HQ HF
  go_enter Tryz.func24, Tryz.ntmps24
  go_wp2_with (first
    | ((with_reducible refine goal_alloc (G := fun W => wpList _ _ _ _ _ W) M ?_); clear M; intro w1 M; (try clear F); have F := M.facts; simp only [And.intro FX FXw] at F)
    | (go_at_call 63; (apply goal_name (G := fun W => Calls _ _ _ W _)); (repeat (first | with_reducible exact M | with_reducible apply Mem.drew | with_reducible apply Mem.drewN | with_reducible apply Mem.allocD | with_reducible apply Mem.setV | with_reducible apply Mem.setD | with_reducible exact Del.here | with_reducible apply Del.there | with_reducible assumption)); clear M; intro w1 M; skip; (try clear F); have F := M.facts; simp only [And.intro FX FXw] at F; refine (HC.out _ _ _ M (by repeat (first | with_reducible exact Del.here | with_reducible apply Del.there))).mono ?_; clear M; rintro e w2 ⟨rfl, M⟩; (try clear F); have F := M.facts; simp only [And.intro FX FXw] at F)
    | (go_at_call 64; (apply goal_name (G := fun W => Calls _ _ _ W _)); (repeat (first | with_reducible exact M | with_reducible apply Mem.drew | with_reducible apply Mem.drewN | with_reducible apply Mem.allocD | with_reducible apply Mem.setV | with_reducible apply Mem.setD | with_reducible exact Del.here | with_reducible apply Del.there | with_reducible assumption)); clear M; intro w1 M; (try simp only [LX] at M); (try clear F); have F := M.facts; simp only [And.intro FX FXw] at F; (have M1 := M.sel (T := rowR rA rC ps :: rws ps :: rowO cA cC mo :: rowI qA qC queue :: blk _ tW _ :: L') (by repeat (first | with_reducible exact Sel.refl | with_reducible exact Sel.nil | (with_reducible refine Sel.cons (by repeat (first | with_reducible exact Del.here | with_reducible apply Del.there)) ?_) | with_reducible apply Sel.drop))); refine (HR.out _ _ M1).mono ?_; clear M M1; rintro e w2 ⟨rfl, M⟩; (try clear F); have F := M.facts; simp only [And.intro FX FXw] at F)
    | (go_at_call 25; (apply goal_name (G := fun W => Calls _ _ _ W _)); (repeat (first | with_reducible exact M | with_reducible apply Mem.drew | with_reducible apply Mem.drewN | with_reducible apply Mem.allocD | with_reducible apply Mem.setV | with_reducible apply Mem.setD | with_reducible exact Del.here | with_reducible apply Del.there | with_reducible assumption)); clear M; intro w1 M; (try simp only [LX] at M); (try clear F); have F := M.facts; simp only [And.intro FX FXw] at F; refine (HQ.out _ _ _ M (by repeat (first | with_reducible exact Del.here | with_reducible apply Del.there))).mono ?_; clear M; rintro e w2 ⟨rfl, M⟩; (try clear F); have F := M.facts; simp only [And.intro FX FXw] at F))
  go_ret
  exact HF.out _ _ rfl (M.sel (by repeat (first | with_reducible exact Sel.refl | with_reducible exact Sel.nil | (with_reducible refine Sel.cons (by repeat (first | with_reducible exact Del.here | with_reducible apply Del.there)) ?_) | with_reducible apply Sel.drop)))
end Go.Proofs.YtomolbhcggaakaaGreat
/- The law FnExactWorldAlive, walked. -/
namespace Go.Proofs.YtomolbhcggaakaaGreat
open Go.RowKit
set_option maxRecDepth 100000

theorem alive_len (w : Wd) : (worldAlive w).length ≤ w.runs.length := by
  unfold worldAlive
  split
  · exact alive_le _ _
  · simp
theorem sizesR_bound {W : Wm} (c : ¬ szTo 1048576 (sizeW W.wd) < 0) : sizesR (W.ps.map (·.1)) ≤ 1048576 := by
  have h : sizeW W.wd ≤ 1048576 := by
    unfold szTo at c
    split at c
    · exact absurd (by decide) c
    · omega
  have e : sizeW W.wd = W.code.length + (W.ps.length + sizesR (W.ps.map (·.1))) + W.queue.length := by simp [sizeW, Wm.wd]
  omega
/-- A law's world is marked, and given up. -/
theorem lMarkGone (X : Wm) (c : ¬ szTo 1048576 (sizeW X.wd) < 0) {w0 w : World} {f : List Nat} {L L' : List Asn} (M : Mem w0 f w L) (hd : Del (wld X) L L') :
    Calls Tryz.prog 24 #[.agg (wArr X), .int .i64 1] w fun e w' => ∃ z : Int, ¬ z < 0 ∧ e = .returned (.int .i64 z) ∧ Mem w0 f w' L' := by
  have s := sizeW_bounds c
  have s4 := sizesR_bound c
  refine (lMarkWorld X 1 M hd (by decide) (by decide) s.1 s.2.1 s.2.2.1 (by omega)).mono ?_
  rintro e w' ⟨rfl, M⟩
  exact ⟨_, by have := mkEnd_le (k0 := 1) (W := X) (by decide) (by decide) s.1 s.2.1 s.2.2.1 (by omega); omega, rfl, M.drop⟩
set_option maxHeartbeats 4000000 in
theorem fnExactWorldAlive_walk (W : Wm) (w : World) (h : ReadsW w w.heap.size W) (hs : SizesW W) :
    Calls Tryz.prog 6 #[.agg (wArr W)] w fun e w' => e = .returned (.bool true) ∧ Below w.heap.size w w' := by
  have HZ := Lib.hid (fun V (hb : Below w.heap.size w V) => lSzWorld W 1048576 w.heap.size V (h.below hb (Nat.le_refl _)) hb.size hs (by decide) (by decide))
  unfold SzPostW at HZ
  have M := Mem.nil w
  by_cases c : szTo 1048576 (sizeW W.wd) < 0
  · generalize szTo 1048576 (sizeW W.wd) = z at c HZ
    clear h hs
    go_enter Tryz.func6, Tryz.ntmps6
    go_wp2_with (first
      | ((with_reducible refine goal_alloc (G := fun W => wpList _ _ _ _ _ W) M ?_); clear M; intro w1 M; (try clear F); have F := M.facts; simp only [And.intro FX FXw] at F)
      | (go_at_call 12; (apply goal_name (G := fun W => Calls _ _ _ W _)); (repeat (first | with_reducible exact M | with_reducible apply Mem.drew | with_reducible apply Mem.drewN | with_reducible apply Mem.allocD | with_reducible apply Mem.setV | with_reducible apply Mem.setD | with_reducible exact Del.here | with_reducible apply Del.there | with_reducible assumption)); clear M; intro w1 M; (try simp only [LX] at M); (try clear F); have F := M.facts; simp only [And.intro FX FXw] at F; refine (HZ.out _ M.toBelow).mono ?_; rintro e w2 ⟨rfl, hb⟩; replace M := M.below hb; clear hb; (try clear F); have F := M.facts; simp only [And.intro FX FXw] at F))
    go_ret
    exact ⟨rfl, M.toBelow⟩
  · have HT := Lib.hid (fun V (hb : Below w.heap.size w V) => lToWorldZ W w.heap.size V (h.below hb (Nat.le_refl _)) hb.size c)
    have HS : Hid (∀ (V : World) (L L' : List Asn) (X : Wm), X.wd = W.wd → Mem w [] V L → Del (wld X) L L' → Calls Tryz.prog 21 #[.agg (wArr X)] V fun e w' => ∃ (A : Option Addr) (c : Nat), e = .returned (.slice A (worldAlive W.wd).length c) ∧ Mem w [] w' (rowI A c (worldAlive W.wd) :: wld X :: L')) := fun V L L' X hX M hd => by have h := sWorldAlive X M hd; unfold AlivePost at h; rw [hX] at h; exact h
    have HI : Hid (∀ (V : World) (L L' : List Asn) (X : Wm), X.wd = W.wd → Mem w [] V L → Del (wld X) L L' → Calls Tryz.prog 22 #[.agg (wArr X)] V fun e w' => ∃ (A : Option Addr) (c : Nat), e = .returned (.slice A (worldAlive W.wd).length c) ∧ Mem w [] w' (rowI A c (worldAlive W.wd) :: wld X :: L')) := fun V L L' X hX M hd => by have h := iWorldAlive X M hd; unfold AlivePost at h; rw [hX] at h; exact h
    have HE := Lib.hid (fun V (L L' L2 : List Asn) (X Y : Wm) (hX : X.wd = W.wd) (hY : Y.wd = W.wd) (M : Mem w [] V L) (hd : Del (wld X) L L') (hd' : Del (wld Y) L L2) => lEqWorld X Y (hY.trans hX.symm) V.heap.size V (M.readsW hd) (M.readsW hd') (Nat.le_refl _))
    have HMG := Lib.hid (fun V (L L' : List Asn) (X : Wm) (hX : X.wd = W.wd) (M : Mem w [] V L) (hd : Del (wld X) L L') => lMarkGone X (by rw [hX]; exact c) M hd)
    have hal := alive_len W.wd
    have hal2 : W.wd.runs.length ≤ 1048576 := by rw [runsLen]; exact (sizeW_bounds c).2.1
    generalize worldAlive W.wd = res at HS HI hal
    have HEI := Lib.hid (fun V (L L' L2 : List Asn) A c A' c' (M : Mem w [] V L) (hd : Del (rowI A c res) L L') (hd' : Del (rowI A' c' res) L L2) => lEqIntS res A A' c c' V.heap.size V (readsI M hd) (readsI M hd') (Nat.le_refl _))
    have HMI := Lib.hid (fun V (L L' : List Asn) A c (M : Mem w [] V L) (hd : Del (rowI A c res) L L') => mMarkI res A c 1 M hd (by decide) (by decide))
    have HHI := Lib.hid (fun V (L L' : List Asn) A c (M : Mem w [] V L) (hd : Del (rowI A c (marksI 1 res.length)) L L') => lHeldI res.length 1 A c V.heap.size V (by have := readsI M hd; rw [marksI_length] at this; exact this) (by decide) (by decide))
    have q1 : ¬ (1 + (res.length : Int)) < 0 := by omega
    generalize szTo 1048576 (sizeW W.wd) = z at c HZ
    clear h hs hal hal2
    go_enter Tryz.func6, Tryz.ntmps6
    go_upto_region 7 with (first
      | ((with_reducible refine goal_alloc (G := fun W => wpList _ _ _ _ _ W) M ?_); clear M; intro w1 M; (try clear F); have F := M.facts; simp only [And.intro FX FXw] at F) | ((with_reducible apply ev_store (M := M)); rfl; rfl; ((conv => lhs; whnf) <;> rfl); rfl; (first | exact siI | exact siR | exact siV | exact siB | exact siSI | exact siSV | exact siW | exact siSR | exact siSO | exact siO); (exact one_all rfl); (repeat (first | with_reducible exact Del.here | with_reducible apply Del.there)); (exact Nat.le_of_ble_eq_true rfl); clear M; intro w1 M; simp only [SX] at M; (try clear F); have F := M.facts; simp only [And.intro FX FXw] at F)
      | (go_at_call 12; (apply goal_name (G := fun W => Calls _ _ _ W _)); (repeat (first | with_reducible exact M | with_reducible apply Mem.drew | with_reducible apply Mem.drewN | with_reducible apply Mem.allocD | with_reducible apply Mem.setV | with_reducible apply Mem.setD | with_reducible exact Del.here | with_reducible apply Del.there | with_reducible assumption)); clear M; intro w1 M; (try simp only [LX] at M); (try clear F); have F := M.facts; simp only [And.intro FX FXw] at F; refine (HZ.out _ M.toBelow).mono ?_; rintro e w2 ⟨rfl, hb⟩; replace M := M.below hb; clear hb; (try clear F); have F := M.facts; simp only [And.intro FX FXw] at F)
      | (go_at_call 14; (apply goal_name (G := fun W => Calls _ _ _ W _)); (repeat (first | with_reducible exact M | with_reducible apply Mem.drew | with_reducible apply Mem.drewN | with_reducible apply Mem.allocD | with_reducible apply Mem.setV | with_reducible apply Mem.setD | with_reducible exact Del.here | with_reducible apply Del.there | with_reducible assumption)); clear M; intro w1 M; (try simp only [LX] at M); (try clear F); have F := M.facts; simp only [And.intro FX FXw] at F; refine (HT.out _ M.toBelow).mono ?_; rintro e w2 ⟨X, hX, rfl, hm⟩; have hX := Lib.hid hX; replace M := M.call0 hm; clear hm; (try clear F); have F := M.facts; simp only [And.intro FX FXw] at F)
      | (go_at_call 21; (apply goal_name (G := fun W => Calls _ _ _ W _)); (repeat (first | with_reducible exact M | with_reducible apply Mem.drew | with_reducible apply Mem.drewN | with_reducible apply Mem.allocD | with_reducible apply Mem.setV | with_reducible apply Mem.setD | with_reducible exact Del.here | with_reducible apply Del.there | with_reducible assumption)); clear M; intro w1 M; (try simp only [LX] at M); (try clear F); have F := M.facts; simp only [And.intro FX FXw] at F; refine (HS.out _ _ _ _ hX.out M (by repeat (first | with_reducible exact Del.here | with_reducible apply Del.there))).mono ?_; clear M; rintro e w2 ⟨A1, c1, rfl, M⟩; replace M := (Mem.perm M (.swap _ _ _)).drop; (try clear F); have F := M.facts; simp only [And.intro FX FXw] at F))
    clear F
    generalize w2.heap.size = gx at M ⊢
    (try clear F); have F := M.facts; simp only [And.intro FX FXw] at F
    go_wp2_with (first
      | (go_at_call 22; (apply goal_name (G := fun W => Calls _ _ _ W _)); (repeat (first | with_reducible exact M | with_reducible apply Mem.drew | with_reducible apply Mem.drewN | with_reducible apply Mem.allocD | with_reducible apply Mem.setV | with_reducible apply Mem.setD | with_reducible exact Del.here | with_reducible apply Del.there | with_reducible assumption)); clear M; intro w1 M; (try simp only [LX] at M); (try clear F); have F := M.facts; simp only [And.intro FX FXw] at F; refine (HI.out _ _ _ _ hX.out M (by repeat (first | with_reducible exact Del.here | with_reducible apply Del.there))).mono ?_; clear M; rintro e w2 ⟨A2, c2, rfl, M⟩; (try clear F); have F := M.facts; simp only [And.intro FX FXw] at F)
      | (go_at_call 23; (apply goal_name (G := fun W => Calls _ _ _ W _)); (repeat (first | with_reducible exact M | with_reducible apply Mem.drew | with_reducible apply Mem.drewN | with_reducible apply Mem.allocD | with_reducible apply Mem.setV | with_reducible apply Mem.setD | with_reducible exact Del.here | with_reducible apply Del.there | with_reducible assumption)); clear M; intro w1 M; (try simp only [LX] at M); (try clear F); have F := M.facts; simp only [And.intro FX FXw] at F; refine (HEI.out _ _ _ _ _ _ _ _ M (by repeat (first | with_reducible exact Del.here | with_reducible apply Del.there)) (by repeat (first | with_reducible exact Del.here | with_reducible apply Del.there))).mono ?_; rintro e w2 ⟨rfl, hb⟩; replace M := M.below hb; clear hb; (try clear F); have F := M.facts; simp only [And.intro FX FXw] at F))
    go_region_held3 (fun U => (∀ j, U.cell? ⟨w.heap.size, j, none⟩ = ([.slice W.cA W.code.length W.cC, .slice W.rA W.ps.length W.rC, .slice W.qA W.queue.length W.qC, .int .i64 W.now, .int .i64 W.sent, .int .i64 W.taken, .int .i64 W.lost] : List Value)[j]?) ∧ ∀ j, U.cell? ⟨gx, j, none⟩ = ([.slice X.cA X.code.length X.cC, .slice X.rA X.ps.length X.rC, .slice X.qA X.queue.length X.qC, .int .i64 X.now, .int .i64 X.sent, .int .i64 X.taken, .int .i64 X.lost] : List Value)[j]?) ((refine ⟨?_, ?_⟩ <;> (apply Mem.cells; (repeat (first | with_reducible exact M | with_reducible apply Mem.drew | with_reducible apply Mem.drewN | with_reducible apply Mem.allocD | with_reducible apply Mem.setV | with_reducible apply Mem.setD | with_reducible exact Del.here | with_reducible apply Del.there | with_reducible assumption))))) (first
      | (go_at_call 14; (apply goal_name (G := fun W => Calls _ _ _ W _)); (repeat (first | with_reducible exact M | with_reducible apply Mem.drew | with_reducible apply Mem.drewN | with_reducible apply Mem.allocD | with_reducible apply Mem.setV | with_reducible apply Mem.setD | with_reducible exact Del.here | with_reducible apply Del.there | with_reducible assumption)); clear M; intro w1 M; (try simp only [LX] at M); (try clear F); have F := M.facts; simp only [And.intro FX FXw] at F; refine (HT.out _ M.toBelow).mono ?_; rintro e w2 ⟨Y, hY, rfl, hm⟩; have hY := Lib.hid hY; replace M := M.call0 hm; clear hm; (try clear F); have F := M.facts; simp only [And.intro FX FXw] at F)
      | (go_at_call 16; (apply goal_name (G := fun W => Calls _ _ _ W _)); (repeat (first | with_reducible exact M | with_reducible apply Mem.drew | with_reducible apply Mem.drewN | with_reducible apply Mem.allocD | with_reducible apply Mem.setV | with_reducible apply Mem.setD | with_reducible exact Del.here | with_reducible apply Del.there | with_reducible assumption)); clear M; intro w1 M; (try simp only [LX] at M); (try clear F); have F := M.facts; simp only [And.intro FX FXw] at F; refine (HE.out _ _ _ _ _ _ hX.out hY.out M (by repeat (first | with_reducible exact Del.here | with_reducible apply Del.there)) (by repeat (first | with_reducible exact Del.here | with_reducible apply Del.there))).mono ?_; rintro e w2 ⟨rfl, hb⟩; replace M := M.below hb; clear hb; (try clear F); have F := M.facts; simp only [And.intro FX FXw] at F))
    go_upto_region 24 with (first
      | (go_at_call 24; (apply goal_name (G := fun W => Calls _ _ _ W _)); (repeat (first | with_reducible exact M | with_reducible apply Mem.drew | with_reducible apply Mem.drewN | with_reducible apply Mem.allocD | with_reducible apply Mem.setV | with_reducible apply Mem.setD | with_reducible exact Del.here | with_reducible apply Del.there | with_reducible assumption)); clear M; intro w1 M; (try simp only [LX] at M); (try clear F); have F := M.facts; simp only [And.intro FX FXw] at F; refine (HMG.out _ _ _ _ hX.out M (by repeat (first | with_reducible exact Del.here | with_reducible apply Del.there))).mono ?_; clear M; rintro e w2 ⟨zz, hzz, rfl, M⟩; (try clear F); have F := M.facts; simp only [And.intro FX FXw] at F)
      | (go_at_call 23; (apply goal_name (G := fun W => Calls _ _ _ W _)); (repeat (first | with_reducible exact M | with_reducible apply Mem.drew | with_reducible apply Mem.drewN | with_reducible apply Mem.allocD | with_reducible apply Mem.setV | with_reducible apply Mem.setD | with_reducible exact Del.here | with_reducible apply Del.there | with_reducible assumption)); clear M; intro w1 M; (try simp only [LX] at M); (try clear F); have F := M.facts; simp only [And.intro FX FXw] at F; refine (HEI.out _ _ _ _ _ _ _ _ M (by repeat (first | with_reducible exact Del.here | with_reducible apply Del.there)) (by repeat (first | with_reducible exact Del.here | with_reducible apply Del.there))).mono ?_; rintro e w2 ⟨rfl, hb⟩; replace M := M.below hb; clear hb; (try clear F); have F := M.facts; simp only [And.intro FX FXw] at F)
      | (go_at_call 25; (apply goal_name (G := fun W => Calls _ _ _ W _)); (repeat (first | with_reducible exact M | with_reducible apply Mem.drew | with_reducible apply Mem.drewN | with_reducible apply Mem.allocD | with_reducible apply Mem.setV | with_reducible apply Mem.setD | with_reducible exact Del.here | with_reducible apply Del.there | with_reducible assumption)); clear M; intro w1 M; (try simp only [LX] at M); (try clear F); have F := M.facts; simp only [And.intro FX FXw] at F; refine (HMI.out _ _ _ _ _ M (by repeat (first | with_reducible exact Del.here | with_reducible apply Del.there))).mono ?_; clear M; rintro e w2 ⟨rfl, M⟩; (try clear F); have F := M.facts; simp only [And.intro FX FXw] at F)
      | (go_at_call 26; (apply goal_name (G := fun W => Calls _ _ _ W _)); (repeat (first | with_reducible exact M | with_reducible apply Mem.drew | with_reducible apply Mem.drewN | with_reducible apply Mem.allocD | with_reducible apply Mem.setV | with_reducible apply Mem.setD | with_reducible exact Del.here | with_reducible apply Del.there | with_reducible assumption)); clear M; intro w1 M; (try simp only [LX] at M); (try clear F); have F := M.facts; simp only [And.intro FX FXw] at F; refine (HHI.out _ _ _ _ _ M (by repeat (first | with_reducible exact Del.here | with_reducible apply Del.there))).mono ?_; rintro e w2 ⟨rfl, rfl⟩))
    go_wp2_with (first
      | (go_at_call 14; (apply goal_name (G := fun W => Calls _ _ _ W _)); (repeat (first | with_reducible exact M | with_reducible apply Mem.drew | with_reducible apply Mem.drewN | with_reducible apply Mem.allocD | with_reducible apply Mem.setV | with_reducible apply Mem.setD | with_reducible exact Del.here | with_reducible apply Del.there | with_reducible assumption)); clear M; intro w1 M; (try simp only [LX] at M); (try clear F); have F := M.facts; simp only [And.intro FX FXw] at F; refine (HT.out _ M.toBelow).mono ?_; rintro e w2 ⟨Z, hZ, rfl, hm⟩; have hZ := Lib.hid hZ; replace M := M.call0 hm; clear hm; (try clear F); have F := M.facts; simp only [And.intro FX FXw] at F)
      | (go_at_call 22; (apply goal_name (G := fun W => Calls _ _ _ W _)); (repeat (first | with_reducible exact M | with_reducible apply Mem.drew | with_reducible apply Mem.drewN | with_reducible apply Mem.allocD | with_reducible apply Mem.setV | with_reducible apply Mem.setD | with_reducible exact Del.here | with_reducible apply Del.there | with_reducible assumption)); clear M; intro w1 M; (try simp only [LX] at M); (try clear F); have F := M.facts; simp only [And.intro FX FXw] at F; refine (HI.out _ _ _ _ hZ.out M (by repeat (first | with_reducible exact Del.here | with_reducible apply Del.there))).mono ?_; clear M; rintro e w2 ⟨A3, c3, rfl, M⟩; (try clear F); have F := M.facts; simp only [And.intro FX FXw] at F)
      | (go_at_call 23; (apply goal_name (G := fun W => Calls _ _ _ W _)); (repeat (first | with_reducible exact M | with_reducible apply Mem.drew | with_reducible apply Mem.drewN | with_reducible apply Mem.allocD | with_reducible apply Mem.setV | with_reducible apply Mem.setD | with_reducible exact Del.here | with_reducible apply Del.there | with_reducible assumption)); clear M; intro w1 M; (try simp only [LX] at M); (try clear F); have F := M.facts; simp only [And.intro FX FXw] at F; refine (HEI.out _ _ _ _ _ _ _ _ M (by repeat (first | with_reducible exact Del.here | with_reducible apply Del.there)) (by repeat (first | with_reducible exact Del.here | with_reducible apply Del.there))).mono ?_; rintro e w2 ⟨rfl, hb⟩; replace M := M.below hb; clear hb; (try clear F); have F := M.facts; simp only [And.intro FX FXw] at F)
      | (go_at_call 26; (apply goal_name (G := fun W => Calls _ _ _ W _)); (repeat (first | with_reducible exact M | with_reducible apply Mem.drew | with_reducible apply Mem.drewN | with_reducible apply Mem.allocD | with_reducible apply Mem.setV | with_reducible apply Mem.setD | with_reducible exact Del.here | with_reducible apply Del.there | with_reducible assumption)); clear M; intro w1 M; (try simp only [LX] at M); (try clear F); have F := M.facts; simp only [And.intro FX FXw] at F; refine (HHI.out _ _ _ _ _ M (by repeat (first | with_reducible exact Del.here | with_reducible apply Del.there))).mono ?_; rintro e w2 ⟨rfl, rfl⟩))
    go_ret
    exact ⟨rfl, M.toBelow⟩
end Go.Proofs.YtomolbhcggaakaaGreat
/- The law FnExactWorldAlive returns true at all arguments, and its arguments read behind the call as before. -/
namespace Go.Proofs.YtomolbhcggaakaaGreat.fnExactWorldAlive
open Go.ChangeShapes Go.WideShapes Go.ChangeAt Go.RowKit
open Go.ChangeMaps (open_string shut_string)
theorem own : ownKnob Tryz.prog.godebug = none := by kernel_rfl
theorem laidOut : laidOutB Tryz.prog = true := by kernel_rfl

set_option maxRecDepth 100000 in
theorem lifted (os : Os) (started : os.Started) (H : Type) (enc : TypeId × Value → H) :
    ReturnsInHanded {} Tryz.checked os 6 .any (Rows.fnExactWorldAliveSpec.pre6 enc Tryz.prog Tryz.f6 Rows.fnExactWorldAliveRow.domain false) (Rows.fnExactWorldAliveSpec.post enc Tryz.prog Tryz.f6 false true false false) := by
  refine returnsInHanded_of_change_sized (C := Tryz.checked) own started (by kernel_rfl) Tryz.func6
    (ChangeSpec.witness6 (enc := enc) (C := Tryz.checked) false ⟨#[], #[.agg #[.slice none 0 0, .slice none 0 0, .slice none 0 0, .int .i64 0, .int .i64 0, .int .i64 0, .int .i64 0]], []⟩ 8 (by kernel_rfl) (by kernel_rfl) (by kernel_rfl) (by kernel_rfl)) ?_
  intro W base args ds gs before hval0 hW hcnd hsz0 _
  have hsz : (DataW.weightsEach Tryz.prog (Tryz.f6.params.toList ++ Rows.fnExactWorldAliveSpec.plain.varTypes Tryz.prog) (ds ++ gs)).all (· ≤ reachBytes) = true := hsz0
  have hval : ∀ (j : Nat) t v, Tryz.f6.params[j]? = some t → args[j]? = some v → Value.okWide Tryz.prog W .any base t v := hval0
  have hW' := hW
  obtain ⟨p, q, hA0, hV, rfl, hfz, hnd⟩ := hW
  have hA : DataW.TrodAll enc Tryz.prog W 0 (fun _ => true) true Tryz.f6.params.toList args.toList ds p := hA0
  rw [Tryz.params6] at hA hval hsz
  obtain ⟨v0, vs0, d0, ds0, p0, q0, hargs, rfl, rfl, h0, r0⟩ := trodAll_cons hA
  obtain ⟨rfl, rfl, rfl⟩ := trodAll_nil r0
  obtain rfl : args = #[v0] := by cases args; simp_all
  obtain ⟨rfl, rfl⟩ := trodVars_none hV
  have lt0 : ∀ x ∈ p0, x.block < W.heap.size := by obtain ⟨m, hm⟩ := h0; exact DataW.trod_lt m _ _ _ hm
  obtain ⟨Wx, rfl, hWr, hWs, hWl⟩ := open_world (hval 0 26 v0 rfl rfl) h0 (fun k hk => by
    have := List.all_eq_true.1 hsz _ (DataW.weights_mem_each (j := 0) rfl rfl k hk)
    simpa using this)
  clear hA0 hval0 hsz0 hsz
  refine (fnExactWorldAlive_walk Wx W hWr hWs).mono fun e W' ⟨he, bel⟩ => ?_
  subst he
  exact ⟨_, rfl, _, _, _, [], _, [], hW', trodAll_mk1 (shut_bool Tryz.underlying4 _), (trodAll_cons_mk (Below.trod laidOut (by kernel_rfl) (of_decide_eq_true (by kernel_rfl)) h0 bel lt0) trodAll_mk0), rfl, bel.frame _, fun h => by cases h⟩

theorem over : Rows.fnExactWorldAliveRow.holds Tryz.pinned (OpenSpec.ofChange Rows.fnExactWorldAliveSpec) :=
  OpenClaim.holds_of_wide 6 Tryz.f6 rfl rfl rfl rfl rfl rfl rfl ⟨rfl, rfl, rfl, rfl, rfl⟩ rfl rfl rfl rfl rfl (by kernel_rfl) Tryz.func6 (by kernel_rfl)
    (of_decide_eq_true (by kernel_rfl)) (by unfold Func.isWrapper; first | (rw [if_pos (by decide +kernel)]; kernel_rfl) | (rw [if_neg (by decide +kernel)]; exact ⟨rfl, rfl⟩))
    (fun os started H enc _ => lifted os started H enc)
theorem proved : Rows.FnExactWorldAliveSaid := over
#print axioms proved
end Go.Proofs.YtomolbhcggaakaaGreat.fnExactWorldAlive
