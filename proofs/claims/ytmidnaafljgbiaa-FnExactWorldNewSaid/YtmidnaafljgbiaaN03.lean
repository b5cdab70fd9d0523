/- Parts of the proof, in one text. -/
import Derived.Test.YtmidnaafljgbiaaProg
import Derived.Test.YtmidnaafljgbiaaN02
/- Rows that are held: lists in blocks of their own, appended to and written; nothing of the program. -/
namespace Go.Proofs.Ytmidnaafljgbiaa
open Go.RowKit

def ob : Option Addr → List Nat
  | some a => [a.block]
  | none => []
theorem ownsRow_loc {w w' : World} {e m n c : Nat} {A : Option Addr} {xs : List Value} (h : w.ownsRow 0 e m (.slice A n c) n xs) (hk : ∀ k, k ∈ ob A → w'.heap[k]? = w.heap[k]?) : w'.ownsRow 0 e m (.slice A n c) n xs := by
  refine ⟨h.1, ?_⟩
  rcases h.2 with hn | ⟨g, cap, cur, hv, hg, hh, r⟩
  · exact .inl hn
  · refine .inr ⟨g, cap, cur, hv, hg, ?_, r⟩
    injection hv with hA
    subst hA
    exact (hk g (by simp [ob])).trans hh
theorem OwnL.nilC {α : Type} {enc : α → List Value} {m t base : Nat} {w : World} {A : Option Addr} {n c : Nat} {xs : List α} (h : OwnL enc m t w base (.slice A n c) xs) : A = none → c = 0 := by
  rintro rfl
  rcases h.2.2 with ⟨e, _⟩ | ⟨g, cap, cur, e, _⟩
  · injection e
  · injection e with e; cases e
def row {α : Type} (enc : α → List Value) (m : Nat) (t : TypeId) (A : Option Addr) (c : Nat) (xs : List α) : Asn where
  fp := ob A
  P w := OwnL enc m t w 0 (.slice A xs.length c) xs
  F _ := True
  loc w w' _ hk h := ⟨h.1, ownsRow_loc h.2 hk⟩
  lt w h k hk := by
    cases A with
    | none => simp [ob] at hk
    | some a =>
      obtain rfl : k = a.block := by simpa [ob] using hk
      exact (OwnL.lt h _ rfl).2
  imp _ _ := trivial
section
variable {α : Type} {enc : α → List Value} {m : Nat} {t : TypeId} {A : Option Addr} {c : Nat} {xs ys : List α} {w0 w : World} {f : List Nat} {L L' : List Asn}
theorem row_reads (M : Mem w0 f w L) (hd : Del (row enc m t A c xs) L L') : ReadsL enc m w w.heap.size A xs.length xs ∧ xs.length ≤ c ∧ (A = none → c = 0) := by
  have h : OwnL enc m t w 0 (.slice A xs.length c) xs := M.is hd
  obtain ⟨A', c', e, hc, hr⟩ := OwnL.reads h
  injection e with e1 e2 e3
  subst e1
  subst e3
  exact ⟨hr, hc, h.nilC⟩
theorem row_form (M : Mem w0 f w L) (hd : Del (row enc m t A c xs) L L') (hp : 0 < xs.length) : ∃ g, A = some ⟨g, 0, none⟩ := by
  obtain ⟨g, c', e, _⟩ := OwnL.form (M.is hd : OwnL enc m t w 0 (.slice A xs.length c) xs) hp
  injection e with e1
  exact ⟨g, e1⟩
/-- The cells of an element. -/
theorem row_elem (hk : ∀ x, (enc x).length = m) {g : Nat} (M : Mem w0 f w L) (hd : Del (row enc m t (some ⟨g, 0, none⟩) c xs) L L') {k : Nat} (hlt : k < xs.length) :
    g < w.heap.size ∧ (∀ j, j < m → w.cell? ⟨g, k * m + j, none⟩ = (enc xs[k])[j]?) ∧ ∀ j, w.frozen? ⟨g, j, none⟩ = false := by
  have h : OwnL enc m t w 0 (.slice (some ⟨g, 0, none⟩) xs.length c) xs := M.is hd
  refine ⟨(OwnL.lt h g rfl).2, fun j hj => (h.cell hk hlt hj).1, fun j => h.2.frozenAt _⟩
/-- The row's whole block. -/
theorem row_blk {g : Nat} (h : (row enc m t (some ⟨g, 0, none⟩) c xs).P w) : ∃ cur : List Value, (blk g t cur).P w ∧ xs.length ≤ c ∧ c ≤ maxLen ∧ cur.length = c * m ∧ cur.take (xs.length * m) = flat enc xs ∧ xs.length ≤ 140737488355328 := by
  obtain ⟨h0, h1, h2⟩ := (h : OwnL enc m t w 0 (.slice (some ⟨g, 0, none⟩) xs.length c) xs)
  rcases h2 with ⟨e, _⟩ | ⟨g', cap, cur, e, _, hh, hc, hm, hs, ht⟩
  · injection e with e; cases e
  · injection e with e1 e2 e3
    injection e1 with e1
    injection e1 with e1
    subst e1
    subst e3
    exact ⟨cur.toList, by show _ = _; simpa using hh, hc, hm, by simpa using hs, by simpa using ht, h0⟩
theorem blk_row {g : Nat} {cur : List Value} (h : (blk g t cur).P w) (h1 : xs.length ≤ c) (h2 : c ≤ maxLen) (h3 : cur.length = c * m) (h4 : cur.take (xs.length * m) = flat enc xs) (h5 : xs.length ≤ 140737488355328) (h6 : (flat enc xs).length = xs.length * m) : (row enc m t (some ⟨g, 0, none⟩) c xs).P w :=
  ⟨h5, h6, .inr ⟨g, c, cur.toArray, rfl, Nat.zero_le _, h, h1, h2, by simpa using h3, by simpa using h4⟩⟩
/-- A new block, full, as a row. -/
theorem Mem.row_of (hk : ∀ x, (enc x).length = m) {g : Nat} {cs : List Value} (M : Mem w0 f w (blk g t cs :: L)) (hc : cs = flat enc xs) (hl : xs.length ≤ 140737488355328) : Mem w0 f w (row enc m t (some ⟨g, 0, none⟩) xs.length xs :: L) := by
  refine M.turn (fun h => blk_row h (Nat.le_refl _) (by unfold maxLen; omega) ?_ ?_ hl (flat_length hk xs)) (List.Sublist.refl _)
  · rw [hc, flat_length hk]
  · rw [hc, List.take_of_length_le (by rw [flat_length hk]; exact Nat.le_refl _)]
theorem blk_reads (hk : ∀ x, (enc x).length = m) {g : Nat} {cs : List Value} (M : Mem w0 f w L) (hd : Del (blk g t cs) L L') (hc : cs = flat enc xs) (hl : xs.length ≤ 140737488355328) : ReadsL enc m w w.heap.size (some ⟨g, 0, none⟩) xs.length xs := by
  have M1 := Mem.row_of hk (M.pull hd) hc hl
  exact (row_reads M1 .here).1
theorem flat_splice (hk : ∀ x, (enc x).length = m) {k j : Nat} (hlt : k < xs.length) {vs : List Value} (hj : j + vs.length ≤ m) {x' : α} (e : enc x' = splice (enc xs[k]) j vs) : flat enc (xs.set k x') = splice (flat enc xs) (k * m + j) vs := by
  have key : flat enc xs = flat enc (xs.take k) ++ (enc xs[k] ++ flat enc (xs.drop (k + 1))) := by
    have e : xs = xs.take k ++ (xs[k] :: xs.drop (k + 1)) := by rw [← List.drop_eq_getElem_cons hlt, List.take_append_drop]
    have e2 : flat enc xs = flat enc (xs.take k ++ (xs[k] :: xs.drop (k + 1))) := by rw [← e]
    rw [e2]
    unfold flat
    rw [List.flatMap_append, List.flatMap_cons]
  have key2 : flat enc (xs.set k x') = flat enc (xs.take k) ++ (enc x' ++ flat enc (xs.drop (k + 1))) := by
    rw [List.set_eq_take_append_cons_drop, if_pos hlt]
    simp [flat]
  have hl : (flat enc (xs.take k)).length = k * m := by rw [flat_length hk, List.length_take, Nat.min_eq_left (by omega)]
  have hx : (enc xs[k]).length = m := hk _
  rw [key2, key, e]
  unfold splice
  have t1 : (flat enc (xs.take k) ++ (enc xs[k] ++ flat enc (xs.drop (k + 1)))).take (k * m + j) = flat enc (xs.take k) ++ (enc xs[k]).take j := by
    rw [List.take_append, hl, List.take_of_length_le (by omega), Nat.add_sub_cancel_left, List.take_append, show j - (enc xs[k]).length = 0 by omega]
    simp
  have t2 : (flat enc (xs.take k) ++ (enc xs[k] ++ flat enc (xs.drop (k + 1)))).drop (k * m + j + vs.length) = (enc xs[k]).drop (j + vs.length) ++ flat enc (xs.drop (k + 1)) := by
    rw [List.drop_append, hl, List.drop_eq_nil_of_le (by omega), show k * m + j + vs.length - k * m = j + vs.length by omega, List.drop_append, show j + vs.length - (enc xs[k]).length = 0 by omega]
    simp
  rw [t1, t2]
  simp
theorem Mem.setD {g j : Nat} {tb : TypeId} {cs : List Value} {u : Value} (M : Mem w0 f w L) (hd : Del (blk g tb cs) L L') : Mem w0 f (w.setCell ⟨g, j, none⟩ u) (blk g tb (cs.set j u) :: L') := (M.pull hd).set j u
theorem Mem.allocD {tb : TypeId} {cs : List Value} (M : Mem w0 f w L) : Mem w0 f (w.alloc (.cells cs.toArray tb (0, 0))) (blk w.heap.size tb cs :: L) := M.alloc tb cs
theorem splice_one (cs : List Value) (j : Nat) (u : Value) (h : j < cs.length) : splice cs j [u] = cs.set j u := by
  have := splice_set cs j u [] h
  rw [← this]
  simp [splice]
/-- A store of one cell into an element of a row. -/
theorem Mem.setRow (hk : ∀ x, (enc x).length = m) {g k j : Nat} {u : Value} {x' : α} (M : Mem w0 f w L) (hd : Del (row enc m t (some ⟨g, 0, none⟩) c xs) L L') (hlt : k < xs.length) (hj : j < m) (e : enc x' = (enc xs[k]).set j u) : Mem w0 f (w.setCell ⟨g, k * m + j, none⟩ u) (row enc m t (some ⟨g, 0, none⟩) c (xs.set k x') :: L') := by
  obtain ⟨cur, hb, c1, c2, c3, c4, c5⟩ := row_blk (M.is hd)
  have M1 : Mem w0 f w (blk g t cur :: L') := (M.pull hd).turn (fun _ => hb) (List.Sublist.refl _)
  have hkm : k * m + m ≤ xs.length * m := by rw [← Nat.succ_mul]; exact Nat.mul_le_mul_right _ hlt
  have hcm : xs.length * m ≤ c * m := Nat.mul_le_mul_right _ c1
  refine (M1.set (k * m + j) u).turn (fun hb2 => ?_) (List.Sublist.refl _)
  refine blk_row hb2 (by rw [List.length_set]; exact c1) c2 (by rw [List.length_set]; exact c3) ?_ (by rw [List.length_set]; exact c5) (flat_length hk _)
  have hfs := flat_splice hk hlt (j := j) (vs := [u]) (by simp; omega) (x' := x') (by rw [splice_one _ _ _ (by rw [hk]; exact hj)]; exact e)
  rw [splice_one _ _ _ (by rw [flat_length hk]; omega)] at hfs
  rw [List.length_set, hfs, ← c4, List.take_set]
section
variable {P : Program} {ops : Array Oper} {rest : List Oper} {Q : Exit → Act → World → Prop} {a : Act} {x y : Operand} {ty tt : TypeId} {pos : String} {after : Array Edge} {gd : Option (Nat × Bool)}
/-- A store into an element of a row. -/
theorem ev_store_row (hk : ∀ x, (enc x).length = m) {v : Value} {vs : List Value} {g off k j : Nat} {x' : α} (hw : Region.wanted ⟨none, .store tt x y, ty, pos, after, gd⟩ (yielded ops a.tmps) = true) (hx : a.eval x = .pointer (some ⟨g, off, none⟩)) (hy : a.eval y = v) (hv : v.cells = vs.toArray)
    (hs : (P.info? tt).map (·.size) = some vs.length) (h1 : ∀ u, u ∈ vs → u.oneCell' = true) (M : Mem w0 f w L) (hd : Del (row enc m t (some ⟨g, 0, none⟩) c xs) L L') (ho : off = k * m + j) (hlt : k < xs.length) (hj : j + vs.length ≤ m) (e : enc x' = splice (enc xs[k]) j vs)
    (h : ∀ w1, Mem w0 f w1 (row enc m t (some ⟨g, 0, none⟩) c (xs.set k x') :: L') → wpList P ops Q rest a w1) : wpList P ops Q (⟨none, .store tt x y, ty, pos, after, gd⟩ :: rest) a w := by
  obtain ⟨cur, hb, c1, c2, c3, c4, c5⟩ := row_blk (M.is hd)
  have M1 : Mem w0 f w (blk g t cur :: L') := (M.pull hd).turn (fun _ => hb) (List.Sublist.refl _)
  have hkm : k * m + m ≤ xs.length * m := by rw [← Nat.succ_mul]; exact Nat.mul_le_mul_right _ hlt
  have hcm : xs.length * m ≤ c * m := Nat.mul_le_mul_right _ c1
  refine ev_store hw hx hy hv hs h1 M1 .here (by omega) fun w1 M2 => h w1 (M2.turn (fun hb2 => ?_) (List.Sublist.refl _))
  refine blk_row hb2 (by rw [List.length_set]; exact c1) c2 ?_ ?_ (by rw [List.length_set]; exact c5) (flat_length hk _)
  · unfold splice
    simp only [List.length_append, List.length_take, List.length_drop]
    omega
  · rw [List.length_set, flat_splice hk hlt hj e, ← c4]
    unfold splice
    rw [ho, List.take_take, Nat.min_eq_left (by omega), List.take_append, List.length_take, Nat.min_eq_left (by omega), List.take_of_length_le (by rw [List.length_take]; omega)]
    congr 1
    rw [List.take_append, List.take_of_length_le (by omega)]
    congr 1
    rw [List.drop_take]
    congr 1
    omega
/-- An append to a row. -/
theorem ev_append (hk : ∀ x, (enc x).length = m) (hone : ∀ x, ∀ u ∈ enc x, u.oneCell' = true) {dst : Option Tmp} {z : Value} {bytes n n2 B c2 : Nat} {A2 : Option Addr} (ht : P.underlying tt = some (.slice t)) (hinfo : (P.info? t).map (fun i => (i.zero, i.size, i.bytes)) = some (some z, m, bytes)) (hzs : z.cells.size = m) (h0 : 0 < m)
    (hs : a.eval x = .slice A n c) (M : Mem w0 f w L) (hd : Del (row enc m t A c xs) L L') (hn : n = xs.length) (hx : a.eval y = .slice A2 n2 c2) (hr : ReadsL enc m w B A2 n2 ys) (hz : A2 = none → c2 = 0) (hlen : xs.length + ys.length ≤ 140737488355328) (hby : (xs.length + ys.length) * bytes ≤ 140737488355328)
    (h : ∀ A' c' w1, Mem w0 f w1 (row enc m t A' c' (xs ++ ys) :: L') → wpList P ops Q rest (a.put dst (.slice A' (n + n2) c')) w1) :
    wpList P ops Q (⟨dst, .call { callee := .builtin .append, args := #[x, y], argTypes := #[tt, tt] }, ty, pos, after, none⟩ :: rest) a w := by
  subst hn
  obtain ⟨i, hi, hzz⟩ := Option.map_eq_some_iff.1 hinfo
  simp only [Prod.mk.injEq] at hzz
  obtain ⟨hz0, hz1, hz2⟩ := hzz
  have M1 := M.pull hd
  have hrow : OwnL enc m t w 0 (.slice A xs.length c) xs := M1.is .here
  have hnn : ys.length = n2 := hr.1
  subst hnn
  cases A2 with
  | none =>
    obtain rfl := hz rfl
    obtain rfl : ys = [] := by
      cases ys with
      | nil => rfl
      | cons y ys =>
        obtain ⟨_, e, _⟩ := hr.2.2.2 (by simp)
        cases e
    have h' := h A c w (by simpa using M1)
    refine wpList_plain rfl fun K hK => ?_
    have hrun := run_append_owned_none (P := P) w 0 tt ty t i m ht hi _ xs.length (flat enc xs) hrow.2
    unfold Oper.wp
    simp only [List.length_nil] at hx
    simp [execOp, resolve, invoke, builtin, hs, hx, hrun, Result.andThen]
    exact hK _ _ h'
  | some ad =>
    refine wpList_append_own_at w rfl x y tt rfl 0 t i z m bytes ht hi hz0 hz1 hz2 hzs h0 _ xs.length (flat enc xs) hs hrow.2 ad ys.length c2 (flat enc ys) hx (flat_length hk ys) ?_ ?_ (by unfold maxLen; omega) hby (Nat.zero_le _) ?_
    · intro j u hu
      have hp : 0 < ys.length := by
        cases ys with
        | nil => simp [flat] at hu
        | cons y ys => simp
      obtain ⟨ad', e, _, hc⟩ := hr.2.2.2 hp
      injection e with e
      subst e
      exact hc j u hu
    · intro u hu
      obtain ⟨y, _, hy⟩ := List.mem_flatMap.1 hu
      exact hone y u hy
    · intro v' w' hw' hg _ hob
      have hfl : flat enc (xs ++ ys) = flat enc xs ++ flat enc ys := by simp [flat]
      have hO : OwnL enc m t w' 0 v' (xs ++ ys) := ⟨by simp; omega, by rw [List.length_append, hfl]; exact hw'⟩
      obtain ⟨A', c', e, _⟩ := hO.reads
      subst e
      have key := h A' c' w' (M1.step (B := row enc m t A' c' (xs ++ ys)) ⟨hg.os, hg.tape, hg.output, hg.size, fun k hk hn => hg.block k hk ?_, fun k hk => ?_, ?_⟩ hO)
      · rw [List.length_append]
        exact key
      · intro e
        cases A with
        | none => cases e
        | some ad =>
          apply hn
          injection e with e
          simp [row, ob, e]
      · cases A' with
        | none => simp [row, ob] at hk
        | some a2 =>
          obtain rfl : k = a2.block := by simpa [row, ob] using hk
          rcases hob with hob | hob
          · left
            cases A with
            | none => cases hob
            | some a3 =>
              injection hob with hob
              simp [row, ob, hob]
          · right
            injection hob with hob
            omega
      · cases A' <;> simp [row, ob]
end
end
end Go.Proofs.Ytmidnaafljgbiaa
/- Runs that are held. -/
namespace Go.Proofs.Ytmidnaafljgbiaa
open Go.RowKit

/-- Many things as one. -/
def pack (L : List Asn) : Asn where
  fp := fps L
  P w := ∀ A, A ∈ L → A.P w
  F _ := True
  loc w w' hs hk h A hA := A.loc w w' hs (fun k hkA => hk k (List.mem_flatMap.2 ⟨A, hA, hkA⟩)) (h A hA)
  lt w h k hk := by
    obtain ⟨A, hA, hkA⟩ := List.mem_flatMap.1 hk
    exact A.lt w (h A hA) k hkA
  imp _ _ := trivial
theorem Asn.below {A : Asn} {w w' : World} (h : A.P w) (hb : Below w.heap.size w w') : A.P w' := A.loc w w' hb.size (fun k hk => hb.block k (A.lt w h k hk)) h
section
variable {w0 w : World} {f : List Nat} {L L' : List Asn}
theorem Mem.unpack (M : Mem w0 f w (pack L' :: L)) : Mem w0 f w (L' ++ L) := M.split (fun h => h) (List.Perm.refl _)
theorem Mem.pack (M : Mem w0 f w (L' ++ L)) : Mem w0 f w (pack L' :: L) := M.join (fun h => h) (List.Perm.refl _)
theorem Mem.whole (M : Mem w0 f w L) : Mem w0 f w [Go.Proofs.Ytmidnaafljgbiaa.pack L] := Mem.pack (L := []) (by simpa using M)
end

/-! ### Runs -/
abbrev tV : Nat := 30
abbrev tI : Nat := 3
abbrev tR : Nat := 32
def encR (p : Rn × RA) : List Value := (runArr p.1 p.2).toList
theorem encR_length (p : Rn × RA) : (encR p).length = 13 := rfl
def rowV (A : Option Addr) (c : Nat) (xs : List Vl) : Asn := row encV 2 tV A c xs
def rowI (A : Option Addr) (c : Nat) (xs : List Int) : Asn := row encI 1 tI A c xs
def runL (r : Rn) (a : RA) : List Asn := [rowV a.sA a.sC r.slots, rowV a.mA a.mC r.mail, rowI a.lA a.lC r.links, rowI a.wA a.wC r.watched]
def runA (r : Rn) (a : RA) : Asn := pack (runL r a)
theorem FX : (∀ w, facts w [] = True) ∧ (∀ w A s, facts w (A :: s) = (A.F w ∧ facts w s)) ∧ (∀ g t cs w, (blk g t cs).F w = (g < w.heap.size ∧ (∀ j, w.cell? ⟨g, j, none⟩ = cs[j]?) ∧ ∀ j, w.frozen? ⟨g, j, none⟩ = false)) ∧
    (∀ A c xs w, (rowV A c xs).F w = True) ∧ (∀ A c xs w, (rowI A c xs).F w = True) ∧ (∀ r a w, (runA r a).F w = True) ∧ (∀ L w, (pack L).F w = True) ∧ (∀ p : Prop, (True ∧ p) = p) ∧ (∀ p : Prop, (p ∧ True) = p) :=
  ⟨fun _ => rfl, fun _ _ _ => rfl, fun _ _ _ _ => rfl, fun _ _ _ _ => rfl, fun _ _ _ _ => rfl, fun _ _ _ => rfl, fun _ _ => rfl, fun _ => true_and _, fun _ => and_true _⟩
section
variable {w0 w w' : World} {f : List Nat} {L L' : List Asn} {A : Option Addr} {c : Nat}
end
theorem Mem.packRun {w0 w : World} {f : List Nat} {L : List Asn} {r : Rn} {a : RA} (M : Mem w0 f w (rowV a.sA a.sC r.slots :: rowV a.mA a.mC r.mail :: rowI a.lA a.lC r.links :: rowI a.wA a.wC r.watched :: L)) : Mem w0 f w (runA r a :: L) := Mem.pack (L' := runL r a) M
theorem Mem.unpackRun {w0 w : World} {f : List Nat} {L : List Asn} {r : Rn} {a : RA} (M : Mem w0 f w (runA r a :: L)) : Mem w0 f w (rowV a.sA a.sC r.slots :: rowV a.mA a.mC r.mail :: rowI a.lA a.lC r.links :: rowI a.wA a.wC r.watched :: L) := Mem.unpack (L' := runL r a) M
def rws (ps : List (Rn × RA)) : Asn := pack (ps.map fun p => runA p.1 p.2)
theorem OwnL.facts {α : Type} {enc : α → List Value} {m t : Nat} {w : World} {A : Option Addr} {c : Nat} {xs : List α} (h : OwnL enc m t w 0 (.slice A xs.length c) xs) : ReadsL enc m w w.heap.size A xs.length xs ∧ xs.length ≤ c ∧ (A = none → c = 0) := by
  obtain ⟨A', c', e, hc, hr⟩ := OwnL.reads h
  injection e with e1 e2 e3
  subst e1
  subst e3
  exact ⟨hr, hc, h.nilC⟩
theorem runA_reads {r : Rn} {a : RA} {w : World} (h : (runA r a).P w) : ReadsRun w w.heap.size r a ∧ (a.sA = none → a.sC = 0) ∧ (a.mA = none → a.mC = 0) ∧ (a.lA = none → a.lC = 0) ∧ (a.wA = none → a.wC = 0) := by
  have h1 := OwnL.facts (h (rowV a.sA a.sC r.slots) (by simp [runL]))
  have h2 := OwnL.facts (h (rowV a.mA a.mC r.mail) (by simp [runL]))
  have h3 := OwnL.facts (h (rowI a.lA a.lC r.links) (by simp [runL]))
  have h4 := OwnL.facts (h (rowI a.wA a.wC r.watched) (by simp [runL]))
  exact ⟨⟨h1.1, h2.1, h3.1, h4.1, h1.2.1, h2.2.1, h3.2.1, h4.2.1⟩, h1.2.2, h2.2.2, h3.2.2, h4.2.2⟩
theorem Mem.setV {w0 w : World} {f : List Nat} {L L' : List Asn} {g k c : Nat} {p n : Int} {xs : List Vl} (M : Mem w0 f w L) (hd : Del (rowV (some ⟨g, 0, none⟩) c xs) L L') (hlt : k < xs.length) : Mem w0 f ((w.setCell ⟨g, k * 2, none⟩ (.int .i64 p)).setCell ⟨g, k * 2 + 1, none⟩ (.int .i64 n)) (rowV (some ⟨g, 0, none⟩) c (xs.set k ⟨p, n⟩) :: L') := by
  have M1 := Mem.setRow encV_length (j := 0) (u := .int .i64 p) (x' := (⟨p, xs[k].n⟩ : Vl)) M hd hlt (by decide) rfl
  have M2 := Mem.setRow encV_length (k := k) (j := 1) (u := .int .i64 n) (x' := (⟨p, n⟩ : Vl)) M1 .here (by simpa using hlt) (by decide) (by simp [encV])
  rw [List.set_set] at M2
  exact M2
section
variable {w0 w : World} {f : List Nat} {L L' : List Asn} {ps : List (Rn × RA)}
end


/-! The elder word for a run of one's own. -/
theorem NeB.ob {A B : Option Addr} {n c n' c' : Nat} : NeB (.slice A n c) (.slice B n' c') ↔ ∀ k, k ∈ ob A → k ∉ ob B := by
  cases A <;> cases B <;> simp [NeB, Value.ownBlock, Go.Proofs.Ytmidnaafljgbiaa.ob]
  exact ⟨fun h e => h e.symm, fun h e => h e.symm⟩
theorem nodup4 {a b c d : Option Addr} : (ob a ++ (ob b ++ (ob c ++ ob d))).Nodup ↔ (∀ k, k ∈ ob a → k ∉ ob b) ∧ (∀ k, k ∈ ob a → k ∉ ob c) ∧ (∀ k, k ∈ ob a → k ∉ ob d) ∧ (∀ k, k ∈ ob b → k ∉ ob c) ∧ (∀ k, k ∈ ob b → k ∉ ob d) ∧ (∀ k, k ∈ ob c → k ∉ ob d) := by
  cases a <;> cases b <;> cases c <;> cases d <;> simp [ob, and_assoc]
theorem runA_fp (r : Rn) (a : RA) : (runA r a).fp = ob a.sA ++ (ob a.mA ++ (ob a.lA ++ ob a.wA)) := by
  show ob a.sA ++ (ob a.mA ++ (ob a.lA ++ (ob a.wA ++ []))) = _
  rw [List.append_nil]
theorem fps_one (A : Asn) : fps [A] = A.fp := List.append_nil _
theorem Mem.ofRun {w w' : World} {r : Rn} {a : RA} (h : OwnRun tV tI w' w.heap.size r (.slice a.sA r.slots.length a.sC) (.slice a.mA r.mail.length a.mC) (.slice a.lA r.links.length a.lC) (.slice a.wA r.watched.length a.wC)) (hb : Below w.heap.size w w') : Mem w [] w' [runA r a] := by
  have hlo : ∀ {α : Type} {enc : α → List Value} {m t n c : Nat} {A : Option Addr} {xs : List α}, OwnL enc m t w' w.heap.size (.slice A n c) xs → ∀ k, k ∈ ob A → w.heap.size ≤ k := by
    intro α enc m t n c A xs h k hk
    cases A with
    | none => simp [ob] at hk
    | some ad =>
      obtain rfl : k = ad.block := by simpa [ob] using hk
      exact (h.lt _ rfl).1
  refine ⟨⟨hb.os, hb.tape, hb.output, hb.size, fun k hk _ => hb.block k hk, fun k hk => .inr ?_, ?_⟩, ?_⟩
  · rw [fps_one, runA_fp] at hk
    simp only [List.mem_append] at hk
    rcases hk with hk | hk | hk | hk
    · exact hlo h.slots k hk
    · exact hlo h.mail k hk
    · exact hlo h.links k hk
    · exact hlo h.watched k hk
  · rw [fps_one, runA_fp]
    exact nodup4.2 ⟨NeB.ob.1 h.sm, NeB.ob.1 h.sl, NeB.ob.1 h.so, NeB.ob.1 h.ml, NeB.ob.1 h.mo, NeB.ob.1 h.lo⟩
  · intro A hA
    obtain rfl : A = runA r a := by simpa using hA
    intro B hB
    simp only [runL, List.mem_cons, List.not_mem_nil, or_false] at hB
    rcases hB with rfl | rfl | rfl | rfl
    · exact h.slots.lower (Nat.zero_le _)
    · exact h.mail.lower (Nat.zero_le _)
    · exact h.links.lower (Nat.zero_le _)
    · exact h.watched.lower (Nat.zero_le _)
section
variable {w0 w : World} {f : List Nat} {L L' : List Asn} {Fc : World → Prop}
theorem mb (M : Mem w0 f w L := by with_reducible repeat (first | exact M | apply Mem.drew | apply Mem.drewN | apply Mem.allocD | apply Mem.setV | apply Mem.setD | exact Del.here | apply Del.there | assumption)) : Mem w0 f w L := M
theorem kc {g : Nat} {t : TypeId} {cs : List Value} (M : Mem w0 f w L := by with_reducible repeat (first | exact M | apply Mem.drew | apply Mem.drewN | apply Mem.allocD | apply Mem.setV | apply Mem.setD | exact Del.here | apply Del.there | assumption)) (hd : Del (blk g t cs) L L' := by with_reducible repeat (first | exact Del.here | apply Del.there)) : ∀ j, w.cell? ⟨g, j, none⟩ = cs[j]? := M.cells hd
theorem fx (M : Mem w0 f w L) (hF : ∀ w, facts w L = Fc w := by (intro w; (conv => lhs; simp only [FX]) <;> rfl)) : Fc w := by rw [← hF]; exact M.facts
theorem nm {G : World → Prop} (h : ∀ w1, Mem w0 f w1 L' → Fc w1 → G w1) (M : Mem w0 f w L := by with_reducible repeat (first | exact M | apply Mem.drew | apply Mem.drewN | apply Mem.allocD | apply Mem.setV | apply Mem.setD | exact Del.here | apply Del.there | assumption)) (e : L = L' := by ((try simp only [LX]) <;> rfl)) (hF : ∀ w, facts w L' = Fc w := by (intro w; (conv => lhs; simp only [FX]) <;> rfl)) : G w := by subst e; exact h w M (fx M hF)
theorem nmK {P : Program} {n : Nat} {ag : Array Value} {Q : Ending → World → Prop} (h : ∀ w1, Mem w0 f w1 L' → Fc w1 → Calls P n ag w1 Q) (M : Mem w0 f w L := by with_reducible repeat (first | exact M | apply Mem.drew | apply Mem.drewN | apply Mem.allocD | apply Mem.setV | apply Mem.setD | exact Del.here | apply Del.there | assumption)) (e : L = L' := by ((try simp only [LX]) <;> rfl)) (hF : ∀ w, facts w L' = Fc w := by (intro w; (conv => lhs; simp only [FX]) <;> rfl)) : Calls P n ag w Q := nm (G := fun W => Calls P n ag W Q) h M e hF
theorem alA {P : Program} {ops : Array Oper} {Q : Exit → Act → World → Prop} {r : List Oper} {a : Act} {t : TypeId} {cs : List Value} (M : Mem w0 f w L) (h : ∀ w1, Mem w0 f w1 (blk w.heap.size t cs :: L) → Fc w1 → wpList P ops Q r a w1) (hF : ∀ w1, facts w1 (blk w.heap.size t cs :: L) = Fc w1 := by (intro w; (conv => lhs; simp only [FX]) <;> rfl)) : wpList P ops Q r a (w.alloc (.cells cs.toArray t (0, 0))) := h _ (M.alloc t cs) (fx (M.alloc t cs) hF)
end
end Go.Proofs.Ytmidnaafljgbiaa
/- Sizes of the program's types. -/
namespace Go.Proofs.Ytmidnaafljgbiaa
open Go.RowKit
theorem siI : (Try.prog.info? tI).map (·.size) = some 1 := by kernel_rfl
theorem siB : (Try.prog.info? 4).map (·.size) = some 1 := by kernel_rfl
theorem siV : (Try.prog.info? tV).map (·.size) = some 2 := by kernel_rfl
theorem siR : (Try.prog.info? tR).map (·.size) = some 13 := by kernel_rfl
theorem siSI : (Try.prog.info? 23).map (·.size) = some 1 := by kernel_rfl
theorem siSV : (Try.prog.info? 29).map (·.size) = some 1 := by kernel_rfl
theorem agV (W : World) : (isAgg tV).run Try.prog W = .ok true W := by kernel_rfl
theorem agR (W : World) : (isAgg tR).run Try.prog W = .ok true W := by kernel_rfl
end Go.Proofs.Ytmidnaafljgbiaa
/- Worlds that are held. -/
namespace Go.Proofs.Ytmidnaafljgbiaa
open Go.RowKit

/-! ### Worlds -/
abbrev tO : Nat := 85
abbrev tW : Nat := 45
def encO (o : Opx) : List Value := [.int .i64 o.k, .int .i64 o.r, .int .i64 o.s, .int .i64 o.to, .int .i64 o.v.k, .int .i64 o.v.n]
theorem encO_length (o : Opx) : (encO o).length = 6 := rfl
theorem oneO (o : Opx) : ∀ u ∈ encO o, u.oneCell' = true := by
  intro u hu
  simp only [encO, List.mem_cons, List.not_mem_nil, or_false] at hu
  rcases hu with rfl | rfl | rfl | rfl | rfl | rfl <;> rfl
structure Wm where
  code : List Opx
  cA : Option Addr
  cC : Nat
  ps : List (Rn × RA)
  rA : Option Addr
  rC : Nat
  queue : List Int
  qA : Option Addr
  qC : Nat
  now : Int
  sent : Int
  taken : Int
  lost : Int
def Wm.wd (W : Wm) : Wd := ⟨W.code, W.ps.map (·.1), W.queue, W.now, W.sent, W.taken, W.lost⟩
abbrev wArr (W : Wm) : Array Value := #[.slice W.cA W.code.length W.cC, .slice W.rA W.ps.length W.rC, .slice W.qA W.queue.length W.qC, .int .i64 W.now, .int .i64 W.sent, .int .i64 W.taken, .int .i64 W.lost]
def rowO (A : Option Addr) (c : Nat) (xs : List Opx) : Asn := row encO 6 tO A c xs
def rowR (A : Option Addr) (c : Nat) (xs : List (Rn × RA)) : Asn := row encR 13 tR A c xs
def wldL (W : Wm) : List Asn := [rowO W.cA W.cC W.code, rowR W.rA W.rC W.ps, rowI W.qA W.qC W.queue, rws W.ps]
def wld (W : Wm) : Asn := pack (wldL W)
theorem FXw : (∀ A c xs w, (rowO A c xs).F w = True) ∧ (∀ A c xs w, (rowR A c xs).F w = True) ∧ (∀ ps w, (rws ps).F w = True) ∧ (∀ W w, (wld W).F w = True) := ⟨fun _ _ _ _ => rfl, fun _ _ _ _ => rfl, fun _ _ => rfl, fun _ _ => rfl⟩
section
variable {w0 w : World} {f : List Nat} {L L' : List Asn} {Fc : World → Prop}
theorem fxw (M : Mem w0 f w L) (hF : ∀ w, facts w L = Fc w := by (intro w; (conv => lhs; simp only [FX, FXw]) <;> rfl)) : Fc w := by rw [← hF]; exact M.facts
theorem nmw {G : World → Prop} (h : ∀ w1, Mem w0 f w1 L' → Fc w1 → G w1) (M : Mem w0 f w L := by with_reducible repeat (first | exact M | apply Mem.drew | apply Mem.drewN | apply Mem.allocD | apply Mem.setV | apply Mem.setD | exact Del.here | apply Del.there | assumption)) (e : L = L' := by ((try simp only [LX]) <;> rfl)) (hF : ∀ w, facts w L' = Fc w := by (intro w; (conv => lhs; simp only [FX, FXw]) <;> rfl)) : G w := by subst e; exact h w M (fxw M hF)
theorem nmKw {P : Program} {n : Nat} {ag : Array Value} {Q : Ending → World → Prop} (h : ∀ w1, Mem w0 f w1 L' → Fc w1 → Calls P n ag w1 Q) (M : Mem w0 f w L := by with_reducible repeat (first | exact M | apply Mem.drew | apply Mem.drewN | apply Mem.allocD | apply Mem.setV | apply Mem.setD | exact Del.here | apply Del.there | assumption)) (e : L = L' := by ((try simp only [LX]) <;> rfl)) (hF : ∀ w, facts w L' = Fc w := by (intro w; (conv => lhs; simp only [FX, FXw]) <;> rfl)) : Calls P n ag w Q := nmw (G := fun W => Calls P n ag W Q) h M e hF
theorem alAw {P : Program} {ops : Array Oper} {Q : Exit → Act → World → Prop} {r : List Oper} {a : Act} {t : TypeId} {cs : List Value} (M : Mem w0 f w L) (h : ∀ w1, Mem w0 f w1 (blk w.heap.size t cs :: L) → Fc w1 → wpList P ops Q r a w1) (hF : ∀ w1, facts w1 (blk w.heap.size t cs :: L) = Fc w1 := by (intro w; (conv => lhs; simp only [FX, FXw]) <;> rfl)) : wpList P ops Q r a (w.alloc (.cells cs.toArray t (0, 0))) := h _ (M.alloc t cs) (fxw (M.alloc t cs) hF)
end
end Go.Proofs.Ytmidnaafljgbiaa
