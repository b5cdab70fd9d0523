/- Runs that are held. -/
import Derived.Test.YtemglijebbodkaaM3
namespace Go.Proofs.Ytemglijebbodkaa
open Go.RowKit

/-- Many things as one. -/
def pack (L : List Asn) : Asn where
  fp := fps L
  P w := ∀ A, A ∈ L → A.P w
  F _ := True
  loc w w' hs hk h A hA := A.loc w w' hs (fun k hkA => hk k (List.mem_flatMap.2 ⟨A, hA, hkA⟩)) (h A hA)
  lt w h k hk := by
    obtain ⟨A, hA, hkA⟩ := List.mem_flatMap.1 hk
    exact A.lt w (h A hA) k hkA
  imp _ _ := trivial
theorem pack_F {L : List Asn} {w : World} : (pack L).F w = True := rfl
theorem Asn.below {A : Asn} {w w' : World} (h : A.P w) (hb : Below w.heap.size w w') : A.P w' := A.loc w w' hb.size (fun k hk => hb.block k (A.lt w h k hk)) h
section
variable {w0 w : World} {f : List Nat} {L L' : List Asn}
theorem Mem.unpack (M : Mem w0 f w (pack L' :: L)) : Mem w0 f w (L' ++ L) := M.split (fun h => h) (List.Perm.refl _)
theorem Mem.pack (M : Mem w0 f w (L' ++ L)) : Mem w0 f w (pack L' :: L) := M.join (fun h => h) (List.Perm.refl _)
theorem Mem.whole (M : Mem w0 f w L) : Mem w0 f w [Go.Proofs.Ytemglijebbodkaa.pack L] := Mem.pack (L := []) (by simpa using M)
end

/-! ### Runs -/
abbrev tV : Nat := 24
abbrev tI : Nat := 3
abbrev tR : Nat := 30
def encR (p : Rn × RA) : List Value := (runArr p.1 p.2).toList
theorem oneV (x : Vl) : ∀ u ∈ encV x, u.oneCell' = true := by
  intro u hx
  simp only [encV, List.mem_cons, List.not_mem_nil, or_false] at hx
  rcases hx with rfl | rfl <;> rfl
theorem oneI (x : Int) : ∀ u ∈ encI x, u.oneCell' = true := by
  intro u hx
  simp only [encI, List.mem_cons, List.not_mem_nil, or_false] at hx
  subst hx
  rfl
theorem encR_length (p : Rn × RA) : (encR p).length = 13 := rfl
theorem oneR (p : Rn × RA) : ∀ u ∈ encR p, u.oneCell' = true := by
  intro u hu
  simp only [encR, List.mem_cons, List.not_mem_nil, or_false] at hu
  rcases hu with rfl | rfl | rfl | rfl | rfl | rfl | rfl | rfl | rfl | rfl | rfl | rfl | rfl <;> rfl
def rowV (A : Option Addr) (c : Nat) (xs : List Vl) : Asn := row encV 2 tV A c xs
def rowI (A : Option Addr) (c : Nat) (xs : List Int) : Asn := row encI 1 tI A c xs
theorem rowV_F {A : Option Addr} {c : Nat} {xs : List Vl} {w : World} : (rowV A c xs).F w = True := rfl
theorem rowI_F {A : Option Addr} {c : Nat} {xs : List Int} {w : World} : (rowI A c xs).F w = True := rfl
def runL (r : Rn) (a : RA) : List Asn := [rowV a.sA a.sC r.slots, rowV a.mA a.mC r.mail, rowI a.lA a.lC r.links, rowI a.wA a.wC r.watched]
def runA (r : Rn) (a : RA) : Asn := pack (runL r a)
theorem runA_F {r : Rn} {a : RA} {w : World} : (runA r a).F w = True := rfl
theorem FX : (∀ w, facts w [] = True) ∧ (∀ w A s, facts w (A :: s) = (A.F w ∧ facts w s)) ∧ (∀ g t cs w, (blk g t cs).F w = (g < w.heap.size ∧ (∀ j, w.cell? ⟨g, j, none⟩ = cs[j]?) ∧ ∀ j, w.frozen? ⟨g, j, none⟩ = false)) ∧
    (∀ A c xs w, (rowV A c xs).F w = True) ∧ (∀ A c xs w, (rowI A c xs).F w = True) ∧ (∀ r a w, (runA r a).F w = True) ∧ (∀ L w, (pack L).F w = True) ∧ (∀ p : Prop, (True ∧ p) = p) ∧ (∀ p : Prop, (p ∧ True) = p) :=
  ⟨fun _ => rfl, fun _ _ _ => rfl, fun _ _ _ _ => rfl, fun _ _ _ _ => rfl, fun _ _ _ _ => rfl, fun _ _ _ => rfl, fun _ _ => rfl, fun _ => true_and _, fun _ => and_true _⟩
section
variable {w0 w w' : World} {f : List Nat} {L L' : List Asn} {A : Option Addr} {c : Nat}
theorem readsV {xs : List Vl} (M : Mem w0 f w L) (hd : Del (rowV A c xs) L L') : ReadsL encV 2 w w.heap.size A xs.length xs := (row_reads M hd).1
theorem readsI {xs : List Int} (M : Mem w0 f w L) (hd : Del (rowI A c xs) L L') : ReadsL encI 1 w w.heap.size A xs.length xs := (row_reads M hd).1
theorem Mem.newV {v : Value} {xs : List Vl} (M : Mem w0 f w L) (h : OwnL encV 2 tV w' w.heap.size v xs) (hb : Below w.heap.size w w') : ∃ A' c', v = .slice A' xs.length c' ∧ Mem w0 f w' (rowV A' c' xs :: L) := M.newRow h hb
theorem Mem.newI {v : Value} {xs : List Int} (M : Mem w0 f w L) (h : OwnL encI 1 tI w' w.heap.size v xs) (hb : Below w.heap.size w w') : ∃ A' c', v = .slice A' xs.length c' ∧ Mem w0 f w' (rowI A' c' xs :: L) := M.newRow h hb
end
theorem Mem.packRun {w0 w : World} {f : List Nat} {L : List Asn} {r : Rn} {a : RA} (M : Mem w0 f w (rowV a.sA a.sC r.slots :: rowV a.mA a.mC r.mail :: rowI a.lA a.lC r.links :: rowI a.wA a.wC r.watched :: L)) : Mem w0 f w (runA r a :: L) := Mem.pack (L' := runL r a) M
theorem Mem.unpackRun {w0 w : World} {f : List Nat} {L : List Asn} {r : Rn} {a : RA} (M : Mem w0 f w (runA r a :: L)) : Mem w0 f w (rowV a.sA a.sC r.slots :: rowV a.mA a.mC r.mail :: rowI a.lA a.lC r.links :: rowI a.wA a.wC r.watched :: L) := Mem.unpack (L' := runL r a) M
def rws (ps : List (Rn × RA)) : Asn := pack (ps.map fun p => runA p.1 p.2)
theorem rws_F {ps : List (Rn × RA)} {w : World} : (rws ps).F w = True := rfl
theorem OwnL.facts {α : Type} {enc : α → List Value} {m t : Nat} {w : World} {A : Option Addr} {c : Nat} {xs : List α} (h : OwnL enc m t w 0 (.slice A xs.length c) xs) : ReadsL enc m w w.heap.size A xs.length xs ∧ xs.length ≤ c ∧ (A = none → c = 0) := by
  obtain ⟨A', c', e, hc, hr⟩ := OwnL.reads h
  injection e with e1 e2 e3
  subst e1
  subst e3
  exact ⟨hr, hc, h.nilC⟩
theorem runA_reads {r : Rn} {a : RA} {w : World} (h : (runA r a).P w) : ReadsRun w w.heap.size r a ∧ (a.sA = none → a.sC = 0) ∧ (a.mA = none → a.mC = 0) ∧ (a.lA = none → a.lC = 0) ∧ (a.wA = none → a.wC = 0) := by
  have h1 := OwnL.facts (h (rowV a.sA a.sC r.slots) (by simp [runL]))
  have h2 := OwnL.facts (h (rowV a.mA a.mC r.mail) (by simp [runL]))
  have h3 := OwnL.facts (h (rowI a.lA a.lC r.links) (by simp [runL]))
  have h4 := OwnL.facts (h (rowI a.wA a.wC r.watched) (by simp [runL]))
  exact ⟨⟨h1.1, h2.1, h3.1, h4.1, h1.2.1, h2.2.1, h3.2.1, h4.2.1⟩, h1.2.2, h2.2.2, h3.2.2, h4.2.2⟩
theorem Mem.setV {w0 w : World} {f : List Nat} {L L' : List Asn} {g k c : Nat} {p n : Int} {xs : List Vl} (M : Mem w0 f w L) (hd : Del (rowV (some ⟨g, 0, none⟩) c xs) L L') (hlt : k < xs.length) : Mem w0 f ((w.setCell ⟨g, k * 2, none⟩ (.int .i64 p)).setCell ⟨g, k * 2 + 1, none⟩ (.int .i64 n)) (rowV (some ⟨g, 0, none⟩) c (xs.set k ⟨p, n⟩) :: L') := by
  have M1 := Mem.setRow encV_length (j := 0) (u := .int .i64 p) (x' := (⟨p, xs[k].n⟩ : Vl)) M hd hlt (by decide) rfl
  have M2 := Mem.setRow encV_length (k := k) (j := 1) (u := .int .i64 n) (x' := (⟨p, n⟩ : Vl)) M1 .here (by simpa using hlt) (by decide) (by simp [encV])
  rw [List.set_set] at M2
  exact M2
theorem eraseIdx_perm {α : Type} : ∀ (l : List α) (k : Nat) (h : k < l.length), l.Perm (l[k] :: l.eraseIdx k) := by
  intro l
  induction l with
  | nil => intro k h; simp at h
  | cons x l ih =>
    intro k h
    cases k with
    | zero => simp
    | succ k =>
      simp only [List.getElem_cons_succ, List.eraseIdx_cons_succ]
      exact (List.Perm.cons _ (ih k (by simpa using h))).trans (List.Perm.swap _ _ _)
theorem set_perm {α : Type} : ∀ (l : List α) (k : Nat) (_ : k < l.length) (y : α), (l.set k y).Perm (y :: l.eraseIdx k) := by
  intro l
  induction l with
  | nil => intro k h; simp at h
  | cons x l ih =>
    intro k h y
    cases k with
    | zero => simp
    | succ k =>
      simp only [List.set_cons_succ, List.eraseIdx_cons_succ]
      exact (List.Perm.cons _ (ih k (by simpa using h) y)).trans (List.Perm.swap _ _ _)
section
variable {w0 w : World} {f : List Nat} {L L' : List Asn} {ps : List (Rn × RA)}
theorem Mem.focus (M : Mem w0 f w (rws ps :: L)) {k : Nat} (hk : k < ps.length) : Mem w0 f w (runA ps[k].1 ps[k].2 :: rws (ps.eraseIdx k) :: L) := by
  have hp := (eraseIdx_perm ps k hk).map (fun p => runA p.1 p.2)
  have hf := fps_perm hp
  refine M.split (L' := [runA ps[k].1 ps[k].2, rws (ps.eraseIdx k)]) (fun h X hX => ?_) ?_
  · simp only [List.mem_cons, List.not_mem_nil, or_false] at hX
    rcases hX with rfl | rfl
    · exact h _ (hp.mem_iff.2 (by simp))
    · exact fun A hA => h A (hp.mem_iff.2 (List.mem_cons_of_mem _ hA))
  · refine List.Perm.trans ?_ hf.symm
    simp [fps, rws, Go.Proofs.Ytemglijebbodkaa.pack]
theorem Mem.unfocus {k : Nat} {r : Rn} {a : RA} (M : Mem w0 f w (runA r a :: rws (ps.eraseIdx k) :: L)) (hk : k < ps.length) : Mem w0 f w (rws (ps.set k (r, a)) :: L) := by
  have hp := (set_perm ps k hk (r, a)).map (fun p => runA p.1 p.2)
  have hf := fps_perm hp
  refine M.join2 (C := rws (ps.set k (r, a))) (fun h1 h2 A hA => ?_) ?_
  · rcases List.mem_cons.1 (hp.mem_iff.1 hA) with rfl | hA
    · exact h1
    · exact h2 A hA
  · refine List.Perm.trans hf ?_
    simp [fps, rws, Go.Proofs.Ytemglijebbodkaa.pack]
end


/-! The elder word for a run of one's own. -/
theorem ob_ob {A : Option Addr} {n c : Nat} : (Value.slice A n c).ownBlock = none ∧ ob A = [] ∨ ∃ k, (Value.slice A n c).ownBlock = some k ∧ ob A = [k] := by
  cases A with
  | none => exact .inl ⟨rfl, rfl⟩
  | some a => exact .inr ⟨_, rfl, rfl⟩
theorem OwnL.raise {α : Type} {enc : α → List Value} {m t base : Nat} {w : World} {A : Option Addr} {n c : Nat} {xs : List α} (h : OwnL enc m t w 0 (.slice A n c) xs) (hb : ∀ k, k ∈ ob A → base ≤ k) : OwnL enc m t w base (.slice A n c) xs := by
  obtain ⟨h0, h1, h2⟩ := h
  refine ⟨h0, h1, ?_⟩
  rcases h2 with h2 | ⟨g, cap, cur, e, _, r⟩
  · exact .inl h2
  · refine .inr ⟨g, cap, cur, e, ?_, r⟩
    injection e with e
    subst e
    exact hb g (by simp [ob])
theorem NeB.ob {A B : Option Addr} {n c n' c' : Nat} : NeB (.slice A n c) (.slice B n' c') ↔ ∀ k, k ∈ ob A → k ∉ ob B := by
  cases A <;> cases B <;> simp [NeB, Value.ownBlock, Go.Proofs.Ytemglijebbodkaa.ob]
  exact ⟨fun h e => h e.symm, fun h e => h e.symm⟩
theorem nodup4 {a b c d : Option Addr} : (ob a ++ (ob b ++ (ob c ++ ob d))).Nodup ↔ (∀ k, k ∈ ob a → k ∉ ob b) ∧ (∀ k, k ∈ ob a → k ∉ ob c) ∧ (∀ k, k ∈ ob a → k ∉ ob d) ∧ (∀ k, k ∈ ob b → k ∉ ob c) ∧ (∀ k, k ∈ ob b → k ∉ ob d) ∧ (∀ k, k ∈ ob c → k ∉ ob d) := by
  cases a <;> cases b <;> cases c <;> cases d <;> simp [ob, and_assoc]
theorem runA_fp (r : Rn) (a : RA) : (runA r a).fp = ob a.sA ++ (ob a.mA ++ (ob a.lA ++ ob a.wA)) := by
  show ob a.sA ++ (ob a.mA ++ (ob a.lA ++ (ob a.wA ++ []))) = _
  rw [List.append_nil]
theorem fps_one (A : Asn) : fps [A] = A.fp := List.append_nil _
theorem Mem.ofRun {w w' : World} {r : Rn} {a : RA} (h : OwnRun tV tI w' w.heap.size r (.slice a.sA r.slots.length a.sC) (.slice a.mA r.mail.length a.mC) (.slice a.lA r.links.length a.lC) (.slice a.wA r.watched.length a.wC)) (hb : Below w.heap.size w w') : Mem w [] w' [runA r a] := by
  have hlo : ∀ {α : Type} {enc : α → List Value} {m t n c : Nat} {A : Option Addr} {xs : List α}, OwnL enc m t w' w.heap.size (.slice A n c) xs → ∀ k, k ∈ ob A → w.heap.size ≤ k := by
    intro α enc m t n c A xs h k hk
    cases A with
    | none => simp [ob] at hk
    | some ad =>
      obtain rfl : k = ad.block := by simpa [ob] using hk
      exact (h.lt _ rfl).1
  refine ⟨⟨hb.os, hb.tape, hb.output, hb.size, fun k hk _ => hb.block k hk, fun k hk => .inr ?_, ?_⟩, ?_⟩
  · rw [fps_one, runA_fp] at hk
    simp only [List.mem_append] at hk
    rcases hk with hk | hk | hk | hk
    · exact hlo h.slots k hk
    · exact hlo h.mail k hk
    · exact hlo h.links k hk
    · exact hlo h.watched k hk
  · rw [fps_one, runA_fp]
    exact nodup4.2 ⟨NeB.ob.1 h.sm, NeB.ob.1 h.sl, NeB.ob.1 h.so, NeB.ob.1 h.ml, NeB.ob.1 h.mo, NeB.ob.1 h.lo⟩
  · intro A hA
    obtain rfl : A = runA r a := by simpa using hA
    intro B hB
    simp only [runL, List.mem_cons, List.not_mem_nil, or_false] at hB
    rcases hB with rfl | rfl | rfl | rfl
    · exact h.slots.lower (Nat.zero_le _)
    · exact h.mail.lower (Nat.zero_le _)
    · exact h.links.lower (Nat.zero_le _)
    · exact h.watched.lower (Nat.zero_le _)
theorem Mem.toRun {w w' : World} {r : Rn} {a : RA} (M : Mem w [] w' [runA r a]) : OwnRun tV tI w' w.heap.size r (.slice a.sA r.slots.length a.sC) (.slice a.mA r.mail.length a.mC) (.slice a.lA r.links.length a.lC) (.slice a.wA r.watched.length a.wC) ∧ Below w.heap.size w w' := by
  have hP := M.holds _ (List.mem_singleton.2 rfl)
  have h1 : OwnL encV 2 tV w' 0 (.slice a.sA r.slots.length a.sC) r.slots := hP (rowV a.sA a.sC r.slots) (by simp [runL])
  have h2 : OwnL encV 2 tV w' 0 (.slice a.mA r.mail.length a.mC) r.mail := hP (rowV a.mA a.mC r.mail) (by simp [runL])
  have h3 : OwnL encI 1 tI w' 0 (.slice a.lA r.links.length a.lC) r.links := hP (rowI a.lA a.lC r.links) (by simp [runL])
  have h4 : OwnL encI 1 tI w' 0 (.slice a.wA r.watched.length a.wC) r.watched := hP (rowI a.wA a.wC r.watched) (by simp [runL])
  have e : fps [runA r a] = ob a.sA ++ (ob a.mA ++ (ob a.lA ++ ob a.wA)) := by rw [fps_one, runA_fp]
  have hn := M.ext.nodup
  have ho := M.ext.own
  rw [e] at hn ho
  obtain ⟨n1, n2, n3, n4, n5, n6⟩ := nodup4.1 hn
  have hg : ∀ k, k ∈ ob a.sA ++ (ob a.mA ++ (ob a.lA ++ ob a.wA)) → w.heap.size ≤ k := fun k hk => (ho k hk).resolve_left (by simp)
  exact ⟨⟨h1.raise fun k hk => hg k (by simp [hk]), h2.raise fun k hk => hg k (by simp [hk]), h3.raise fun k hk => hg k (by simp [hk]), h4.raise fun k hk => hg k (by simp [hk]), NeB.ob.2 n1, NeB.ob.2 n2, NeB.ob.2 n3, NeB.ob.2 n4, NeB.ob.2 n5, NeB.ob.2 n6⟩, M.toBelow⟩
end Go.Proofs.Ytemglijebbodkaa
