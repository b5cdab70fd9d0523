/- Parts of the proof, in one text. -/
import Derived.Deep.AppendLies
import Derived.Maps.AppendAt
import Derived.Test.YtmidnaafljgbiaaN01
/- A run whose lists are rows of the call's own. -/
namespace Go.Proofs.Ytmidnaafljgbiaa
open Go.RowKit

/-- Two rows are not one. -/
def NeB (v u : Value) : Prop := ∀ k, v.ownBlock = some k → u.ownBlock ≠ some k
section
variable {α : Type} {enc : α → List Value} {m t : Nat} {w w' : World} {base : Nat} {v : Value} {xs : List α}
theorem OwnL.lt (h : OwnL enc m t w base v xs) : ∀ k, v.ownBlock = some k → base ≤ k ∧ k < w.heap.size := h.2.lt
theorem OwnL.alloc (h : OwnL enc m t w base v xs) (o : Obj) : OwnL enc m t (w.alloc o) base v xs := ⟨h.1, h.2.alloc o⟩
end
/-- The lists of a run, in rows of their own, each in another. -/
structure OwnRun (tV tI : Nat) (w : World) (base : Nat) (r : Rn) (s m l o : Value) : Prop where
  slots : OwnL encV 2 tV w base s r.slots
  mail : OwnL encV 2 tV w base m r.mail
  links : OwnL encI 1 tI w base l r.links
  watched : OwnL encI 1 tI w base o r.watched
  sm : NeB s m
  sl : NeB s l
  so : NeB s o
  ml : NeB m l
  mo : NeB m o
  lo : NeB l o
theorem OwnRun.reads {tV tI : Nat} {w : World} {base : Nat} {r : Rn} {s m l o : Value} (h : OwnRun tV tI w base r s m l o) : ∃ a : RA, s = .slice a.sA r.slots.length a.sC ∧ m = .slice a.mA r.mail.length a.mC ∧ l = .slice a.lA r.links.length a.lC ∧ o = .slice a.wA r.watched.length a.wC ∧ ReadsRun w w.heap.size r a := by
  obtain ⟨A1, c1, e1, l1, r1⟩ := h.slots.reads
  obtain ⟨A2, c2, e2, l2, r2⟩ := h.mail.reads
  obtain ⟨A3, c3, e3, l3, r3⟩ := h.links.reads
  obtain ⟨A4, c4, e4, l4, r4⟩ := h.watched.reads
  exact ⟨⟨A1, c1, A2, c2, A3, c3, A4, c4⟩, e1, e2, e3, e4, ⟨r1, r2, r3, r4, l1, l2, l3, l4⟩⟩
theorem OwnRun.below {tV tI : Nat} {w w' : World} {base : Nat} {r : Rn} {s m l o : Value} (h : OwnRun tV tI w base r s m l o) (hb : Below w.heap.size w w') : OwnRun tV tI w' base r s m l o :=
  ⟨h.slots.below hb, h.mail.below hb, h.links.below hb, h.watched.below hb, h.sm, h.sl, h.so, h.ml, h.mo, h.lo⟩
end Go.Proofs.Ytmidnaafljgbiaa
/- What a call does to its own small blocks: all else stays. -/
namespace Go.Proofs.Ytmidnaafljgbiaa
open Go.RowKit

/-- Of the blocks that w has, those from lo to lim alone may have turned. -/
structure Mid (lo lim : Nat) (w w' : World) : Prop where
  os : w'.os = w.os
  tape : w'.tape = w.tape
  output : w'.output = w.output
  size : w.heap.size ≤ w'.heap.size
  block : ∀ k, k < w.heap.size → (k < lo ∨ lim ≤ k) → w'.heap[k]? = w.heap[k]?
theorem Mid.refl (lo lim : Nat) (w : World) : Mid lo lim w w := ⟨rfl, rfl, rfl, Nat.le_refl _, fun _ _ _ => rfl⟩
theorem Mid.set {lo lim : Nat} {w W : World} (h : Mid lo lim w W) {g j : Nat} (h1 : lo ≤ g) (h2 : g < lim) (u : Value) : Mid lo lim w (W.setCell ⟨g, j, none⟩ u) :=
  ⟨h.os, h.tape, h.output, by simpa [World.setCell] using h.size, fun k hk ho => (Below.heap_setCell W ⟨g, j, none⟩ u k (by simp only; omega)).trans (h.block k hk ho)⟩
theorem Mid.below {lo lim : Nat} {w W w' : World} (h : Mid lo lim w W) (hb : Below W.heap.size W w') : Mid lo lim w w' :=
  ⟨hb.os.trans h.os, hb.tape.trans h.tape, hb.output.trans h.output, Nat.le_trans h.size hb.size, fun k hk ho => (hb.block k (Nat.lt_of_lt_of_le hk h.size)).trans (h.block k hk ho)⟩
theorem Mid.trans {lo lim : Nat} {a b c : World} (h : Mid lo lim a b) (k : Mid lo lim b c) : Mid lo lim a c :=
  ⟨k.os.trans h.os, k.tape.trans h.tape, k.output.trans h.output, Nat.le_trans h.size k.size, fun i hi ho => (k.block i (Nat.lt_of_lt_of_le hi h.size) ho).trans (h.block i hi ho)⟩
end Go.Proofs.Ytmidnaafljgbiaa
/- What a call holds of memory, as a list: blocks and rows, no two in one place; nothing of the program. -/
namespace Go.Proofs.Ytmidnaafljgbiaa
open Go.RowKit

/-- One thing that is held: its blocks, and what is so of them. -/
structure Asn where
  fp : List Nat
  P : World → Prop
  F : World → Prop
  loc : ∀ w w' : World, w.heap.size ≤ w'.heap.size → (∀ k, k ∈ fp → w'.heap[k]? = w.heap[k]?) → P w → P w'
  lt : ∀ w, P w → ∀ k, k ∈ fp → k < w.heap.size
  imp : ∀ w, P w → F w
def blk (g : Nat) (t : TypeId) (cs : List Value) : Asn where
  fp := [g]
  P w := w.heap[g]? = some (.cells cs.toArray t (0, 0))
  F w := g < w.heap.size ∧ (∀ j, w.cell? ⟨g, j, none⟩ = cs[j]?) ∧ ∀ j, w.frozen? ⟨g, j, none⟩ = false
  loc w w' _ h hp := (h g (by simp)).trans hp
  lt w hp k hk := by
    obtain rfl : k = g := by simpa using hk
    exact (Array.getElem?_eq_some_iff.1 hp).1
  imp w hp := ⟨(Array.getElem?_eq_some_iff.1 hp).1, fun j => by rw [cell_of_row w g j _ t _ hp]; simp, fun j => by simp [World.frozen?, hp]⟩
def fps (L : List Asn) : List Nat := L.flatMap (·.fp)
theorem fps_cons (A : Asn) (L : List Asn) : fps (A :: L) = A.fp ++ fps L := rfl
theorem fps_append (L L' : List Asn) : fps (L ++ L') = fps L ++ fps L' := by simp [fps]

/-- From w to w' the blocks f alone may have turned; what is held then are blocks of f, or new ones. -/
structure Ext (f f' : List Nat) (w w' : World) : Prop where
  os : w'.os = w.os
  tape : w'.tape = w.tape
  output : w'.output = w.output
  size : w.heap.size ≤ w'.heap.size
  keep : ∀ k, k < w.heap.size → k ∉ f → w'.heap[k]? = w.heap[k]?
  own : ∀ k, k ∈ f' → k ∈ f ∨ w.heap.size ≤ k
  nodup : f'.Nodup
structure Mem (w0 : World) (f : List Nat) (w : World) (L : List Asn) : Prop where
  ext : Ext f (fps L) w0 w
  holds : ∀ A, A ∈ L → A.P w
/-- One thing that is given to a call. -/
def Own (A : Asn) (w : World) : Prop := A.P w ∧ A.fp.Nodup
inductive Del (A : Asn) : List Asn → List Asn → Prop
  | here {s : List Asn} : Del A (A :: s) s
  | there {B : Asn} {s s' : List Asn} (h : Del A s s') : Del A (B :: s) (B :: s')
theorem Del.perm {A : Asn} {L L' : List Asn} (h : Del A L L') : L.Perm (A :: L') := by
  induction h with
  | here => exact List.Perm.refl _
  | there _ ih => exact (List.Perm.cons _ ih).trans (List.Perm.swap _ _ _)
/-- Some of the things, in another order. -/
inductive Sel : List Asn → List Asn → Prop
  | refl {L : List Asn} : Sel L L
  | nil {L : List Asn} : Sel L []
  | cons {A : Asn} {L L' T : List Asn} (h : Del A L L') (k : Sel L' T) : Sel L (A :: T)
  | drop {A : Asn} {L T : List Asn} (k : Sel L T) : Sel (A :: L) T
theorem dl {A : Asn} {L L' : List Asn} (h : Del A L L' := by with_reducible repeat (first | exact Del.here | apply Del.there)) : Del A L L' := h
theorem sl {L T : List Asn} (h : Sel L T := by with_reducible repeat (first | exact Sel.refl | exact Sel.nil | (refine Sel.cons dl ?_) | apply Sel.drop)) : Sel L T := h
theorem fps_perm {L L' : List Asn} (h : L.Perm L') : (fps L).Perm (fps L') := List.Perm.flatMap_right _ h

/-- All that the walk may ask. -/
def facts (w : World) : List Asn → Prop
  | [] => True
  | A :: s => A.F w ∧ facts w s
section
variable {w0 w w' w1 : World} {f : List Nat} {L L' : List Asn} {A B C D : Asn} {g : Nat} {t : TypeId} {cs : List Value}
theorem Mem.lt (M : Mem w0 f w L) : ∀ k, k ∈ fps L → k < w.heap.size := by
  intro k hk
  obtain ⟨A, hA, hk⟩ := List.mem_flatMap.1 hk
  exact A.lt w (M.holds A hA) k hk
theorem Mem.facts (M : Mem w0 f w L) : facts w L := by
  have h := M.holds
  clear M
  induction L with
  | nil => trivial
  | cons A s ih => exact ⟨A.imp w (h A (by simp)), ih fun B hB => h B (by simp [hB])⟩
theorem Mem.perm (M : Mem w0 f w L) (h : L.Perm L') : Mem w0 f w L' :=
  ⟨⟨M.ext.os, M.ext.tape, M.ext.output, M.ext.size, M.ext.keep, fun k hk => M.ext.own k ((fps_perm h).mem_iff.2 hk), (fps_perm h).nodup_iff.1 M.ext.nodup⟩, fun A hA => M.holds A (h.mem_iff.2 hA)⟩
theorem Mem.pull (M : Mem w0 f w L) (h : Del A L L') : Mem w0 f w (A :: L') := M.perm h.perm
theorem Mem.drop (M : Mem w0 f w (A :: L)) : Mem w0 f w L :=
  ⟨⟨M.ext.os, M.ext.tape, M.ext.output, M.ext.size, M.ext.keep, fun k hk => M.ext.own k (List.mem_append_right _ hk), (List.nodup_append.1 M.ext.nodup).2.1⟩, fun B hB => M.holds B (List.mem_cons_of_mem _ hB)⟩
theorem Mem.sel {T : List Asn} (M : Mem w0 f w L) (h : Sel L T) : Mem w0 f w T := by
  have key : ∃ R, L.Perm (T ++ R) := by
    clear M
    induction h with
    | refl => exact ⟨[], by simp⟩
    | nil => exact ⟨_, List.Perm.refl _⟩
    | cons h _ ih =>
      obtain ⟨R, hp⟩ := ih
      exact ⟨R, h.perm.trans (List.Perm.cons _ hp)⟩
    | @drop A L T _ ih =>
      obtain ⟨R, hp⟩ := ih
      exact ⟨A :: R, (List.Perm.cons A hp).trans List.perm_middle.symm⟩
  obtain ⟨R, hp⟩ := key
  have M1 := M.perm hp
  refine ⟨⟨M1.ext.os, M1.ext.tape, M1.ext.output, M1.ext.size, M1.ext.keep, fun k hk => M1.ext.own k (by rw [fps_append]; exact List.mem_append_left _ hk), ?_⟩, fun A hA => M1.holds A (List.mem_append_left _ hA)⟩
  have hn := M1.ext.nodup
  rw [fps_append] at hn
  exact (List.nodup_append.1 hn).1
theorem Mem.out (M : Mem w0 f w L) (h : Del A L L') : Mem w0 f w [A] := by
  have M1 := M.pull h
  exact ⟨⟨M1.ext.os, M1.ext.tape, M1.ext.output, M1.ext.size, M1.ext.keep, fun k hk => M1.ext.own k (List.mem_append_left _ (by simpa [fps] using hk)), by have := (List.nodup_append.1 M1.ext.nodup).1; simpa [fps] using this⟩, fun B hB => M1.holds B (by simp at hB; simp [hB])⟩
theorem Mem.is (M : Mem w0 f w L) (h : Del A L L') : A.P w := (M.pull h).holds A (by simp)
theorem Mem.own (M : Mem w0 f w L) (h : Del A L L') : Own A w := ⟨M.is h, (List.nodup_append.1 (M.pull h).ext.nodup).1⟩
theorem Mem.nil (w : World) : Mem w [] w [] := ⟨⟨rfl, rfl, rfl, Nat.le_refl _, fun _ _ _ => rfl, fun k hk => by simp [fps] at hk, by simp [fps]⟩, fun B hB => by simp at hB⟩
/-- One thing in the place of another in the same blocks, or in fewer. -/
theorem Mem.turn (M : Mem w0 f w (A :: L)) (hP : A.P w → B.P w) (hf : B.fp.Sublist A.fp) : Mem w0 f w (B :: L) := by
  have hs : (fps (B :: L)).Sublist (fps (A :: L)) := List.Sublist.append hf (List.Sublist.refl _)
  refine ⟨⟨M.ext.os, M.ext.tape, M.ext.output, M.ext.size, M.ext.keep, fun k hk => M.ext.own k (hs.subset hk), hs.nodup M.ext.nodup⟩, fun X hX => ?_⟩
  rcases List.mem_cons.1 hX with rfl | hX
  · exact hP (M.holds _ (by simp))
  · exact M.holds _ (List.mem_cons_of_mem _ hX)
theorem Mem.split (M : Mem w0 f w (A :: L)) (hP : A.P w → ∀ X, X ∈ L' → X.P w) (hf : (fps L').Perm A.fp) : Mem w0 f w (L' ++ L) := by
  have hp : (fps (L' ++ L)).Perm (fps (A :: L)) := by rw [fps_append, fps_cons]; exact List.Perm.append_right _ hf
  refine ⟨⟨M.ext.os, M.ext.tape, M.ext.output, M.ext.size, M.ext.keep, fun k hk => M.ext.own k (hp.mem_iff.1 hk), hp.nodup_iff.2 M.ext.nodup⟩, fun X hX => ?_⟩
  rcases List.mem_append.1 hX with hX | hX
  · exact hP (M.holds _ (by simp)) X hX
  · exact M.holds _ (List.mem_cons_of_mem _ hX)
theorem Mem.join (M : Mem w0 f w (L' ++ L)) (hP : (∀ X, X ∈ L' → X.P w) → B.P w) (hf : B.fp.Perm (fps L')) : Mem w0 f w (B :: L) := by
  have hp : (fps (L' ++ L)).Perm (fps (B :: L)) := by rw [fps_append, fps_cons]; exact List.Perm.append_right _ hf.symm
  refine ⟨⟨M.ext.os, M.ext.tape, M.ext.output, M.ext.size, M.ext.keep, fun k hk => M.ext.own k (hp.mem_iff.2 hk), hp.nodup_iff.1 M.ext.nodup⟩, fun X hX => ?_⟩
  rcases List.mem_cons.1 hX with rfl | hX
  · exact hP fun Y hY => M.holds Y (List.mem_append_left _ hY)
  · exact M.holds _ (List.mem_append_right _ hX)
theorem Mem.join2 (M : Mem w0 f w (A :: B :: L)) (hP : A.P w → B.P w → C.P w) (hf : C.fp.Perm (A.fp ++ B.fp)) : Mem w0 f w (C :: L) :=
  Mem.join (L' := [A, B]) M (fun h => hP (h A (by simp)) (h B (by simp))) (by simpa [fps] using hf)
/-- What is known of the world that a step has left. -/
theorem Mem.step (M : Mem w0 f w (A :: L)) (h : Ext A.fp B.fp w w') (hB : B.P w') : Mem w0 f w' (B :: L) := by
  obtain ⟨E, H⟩ := M
  have hlt : ∀ k, k ∈ fps L → k < w.heap.size := (Mem.drop ⟨E, H⟩).lt
  have hn := List.nodup_append.1 E.nodup
  refine ⟨⟨h.os.trans E.os, h.tape.trans E.tape, h.output.trans E.output, Nat.le_trans E.size h.size, ?_, ?_, ?_⟩, ?_⟩
  · intro k hk hf
    by_cases hA : k ∈ A.fp
    · exfalso
      rcases E.own k (List.mem_append_left _ hA) with h' | h'
      · exact hf h'
      · omega
    · exact (h.keep k (Nat.lt_of_lt_of_le hk E.size) hA).trans (E.keep k hk hf)
  · intro k hk
    rcases List.mem_append.1 hk with hk | hk
    · rcases h.own k hk with h' | h'
      · exact E.own k (List.mem_append_left _ h')
      · exact .inr (Nat.le_trans E.size h')
    · exact E.own k (List.mem_append_right _ hk)
  · refine List.nodup_append.2 ⟨h.nodup, hn.2.1, ?_⟩
    rintro a ha b hb rfl
    rcases h.own a ha with h' | h'
    · exact hn.2.2 a h' a hb rfl
    · have := hlt a hb; omega
  · intro X hX
    rcases List.mem_cons.1 hX with rfl | hX
    · exact hB
    · refine X.loc w w' h.size (fun k hk => h.keep k (X.lt w (H X (by simp [hX])) k hk) fun hA => ?_) (H X (by simp [hX]))
      exact hn.2.2 k hA k (List.mem_flatMap.2 ⟨X, hX, hk⟩) rfl
/-- A call that was given A, and gives back B. -/
theorem Mem.call (M : Mem w0 f w (A :: L)) (h : Mem w A.fp w' [B]) : Mem w0 f w' (B :: L) :=
  M.step ⟨h.ext.os, h.ext.tape, h.ext.output, h.ext.size, h.ext.keep, fun k hk => h.ext.own k (by simpa [fps] using hk), by simpa [fps] using h.ext.nodup⟩ (h.holds B (by simp))
/-- A call that was given nothing, and gives B. -/
theorem Mem.call0 (M : Mem w0 f w L) (h : Mem w [] w' [B]) : Mem w0 f w' (B :: L) := by
  have M1 : Mem w0 f w (⟨[], fun _ => True, fun _ => True, fun _ _ _ _ _ => trivial, fun _ _ k hk => by simp at hk, fun _ _ => trivial⟩ :: L) :=
    ⟨⟨M.ext.os, M.ext.tape, M.ext.output, M.ext.size, M.ext.keep, fun k hk => M.ext.own k (by simpa [fps] using hk), by have := M.ext.nodup; simpa [fps] using this⟩, fun X hX => by
      rcases List.mem_cons.1 hX with rfl | hX
      · trivial
      · exact M.holds X hX⟩
  exact M1.call h
/-- A call that turns nothing that was there. -/
theorem Mem.below (M : Mem w0 f w L) (h : Below w.heap.size w w') : Mem w0 f w' L :=
  ⟨⟨h.os.trans M.ext.os, h.tape.trans M.ext.tape, h.output.trans M.ext.output, Nat.le_trans M.ext.size h.size, fun k hk hf => (h.block k (Nat.lt_of_lt_of_le hk M.ext.size)).trans (M.ext.keep k hk hf), M.ext.own, M.ext.nodup⟩,
    fun X hX => X.loc w w' h.size (fun k hk => h.block k (X.lt w (M.holds X hX) k hk)) (M.holds X hX)⟩
theorem Mem.drewN (M : Mem w0 f w L) (n : Nat) : Mem w0 f (w.drewN n) L := M.below ⟨rfl, rfl, rfl, Nat.le_refl _, fun _ _ => rfl⟩
theorem Mem.drew (M : Mem w0 f w L) : Mem w0 f w.drew L := M.below ⟨rfl, rfl, rfl, Nat.le_refl _, fun _ _ => rfl⟩
theorem Mem.toBelow (M : Mem w0 [] w L) : Below w0.heap.size w0 w := ⟨M.ext.os, M.ext.tape, M.ext.output, M.ext.size, fun k hk => M.ext.keep k hk (by simp)⟩
/-- A new block. -/
theorem Mem.alloc (M : Mem w0 f w L) (t : TypeId) (cs : List Value) : Mem w0 f (w.alloc (.cells cs.toArray t (0, 0))) (blk w.heap.size t cs :: L) := by
  have M1 := M.below (below_new (Below.refl _ _) (.cells cs.toArray t (0, 0)))
  refine ⟨⟨M1.ext.os, M1.ext.tape, M1.ext.output, M1.ext.size, M1.ext.keep, ?_, ?_⟩, ?_⟩
  · intro k hk
    rcases List.mem_append.1 hk with hk | hk
    · obtain rfl : k = w.heap.size := by simpa [blk] using hk
      exact .inr M.ext.size
    · exact M.ext.own k hk
  · refine List.nodup_append.2 ⟨by simp [blk], M.ext.nodup, ?_⟩
    rintro a ha b hb rfl
    obtain rfl : a = w.heap.size := by simpa [blk] using ha
    have := M.lt _ hb
    omega
  · intro X hX
    rcases List.mem_cons.1 hX with rfl | hX
    · exact heap_alloc_new w _
    · exact M1.holds X hX
/-- A store into a block. -/
def splice (cs : List Value) (off : Nat) (vs : List Value) : List Value := cs.take off ++ (vs ++ cs.drop (off + vs.length))
theorem Mem.set (M : Mem w0 f w (blk g t cs :: L)) (j : Nat) (u : Value) : Mem w0 f (w.setCell ⟨g, j, none⟩ u) (blk g t (cs.set j u) :: L) := by
  have hg : w.heap[g]? = some (.cells cs.toArray t (0, 0)) := M.holds (blk g t cs) (by simp)
  refine M.step (A := blk g t cs) (B := blk g t (cs.set j u)) ⟨rfl, rfl, rfl, by simp [World.setCell], fun k _ hne => Below.heap_setCell w ⟨g, j, none⟩ u k (by simpa [blk] using hne), fun k hk => .inl hk, by simp [blk]⟩ ?_
  show (w.setCell ⟨g, j, none⟩ u).heap[g]? = _
  simp [World.setCell, Array.getElem?_modify, hg]
theorem splice_set (cs : List Value) (off : Nat) (u : Value) (vs : List Value) (h : off < cs.length) : splice (cs.set off u) (off + 1) vs = splice cs off (u :: vs) := by
  unfold splice
  have hl : (cs.take off).length = off := by rw [List.length_take]; omega
  rw [List.set_eq_take_append_cons_drop, if_pos h]
  have h1 : (cs.take off ++ u :: cs.drop (off + 1)).take (off + 1) = cs.take off ++ [u] := by
    rw [List.take_append, hl, List.take_of_length_le (by omega), show off + 1 - off = 1 by omega]
    simp
  have h2 : (cs.take off ++ u :: cs.drop (off + 1)).drop (off + 1 + vs.length) = cs.drop (off + (u :: vs).length) := by
    rw [List.drop_append, hl, List.drop_eq_nil_of_le (by omega), show off + 1 + vs.length - off = vs.length + 1 by omega]
    simp only [List.drop_succ_cons, List.nil_append, List.drop_drop, List.length_cons]
    congr 1
    omega
  rw [h1, h2]
  simp
end
theorem SX : (∀ cs, splice cs 0 [] = cs) ∧ (∀ c cs v vs, splice (c :: cs) 0 (v :: vs) = v :: splice cs 0 vs) ∧ (∀ c cs n vs, splice (c :: cs) (n + 1) vs = c :: splice cs n vs) :=
  ⟨fun cs => by simp [splice], fun c cs v vs => by simp [splice], fun c cs n vs => by simp [splice, Nat.add_right_comm]⟩
theorem LX : (∀ (a b : Value) (l : List Value), (a :: l).set 0 b = b :: l) ∧ (∀ (a b : Value) (l : List Value) (n : Nat), (a :: l).set (n + 1) b = a :: l.set n b) := ⟨fun _ _ _ => rfl, fun _ _ _ _ => rfl⟩
theorem one_all {vs : List Value} (h : vs.all (·.oneCell') = true) : ∀ u, u ∈ vs → u.oneCell' = true := fun u hu => List.all_eq_true.1 h u hu
end Go.Proofs.Ytmidnaafljgbiaa
/- Steps of the walk over what is held: new blocks, stores, rows; nothing of the program. -/
namespace Go.Proofs.Ytmidnaafljgbiaa
open Go.RowKit

section
variable {w0 w : World} {f : List Nat} {L L' : List Asn} {g off : Nat} {t tb : TypeId} {cs vs : List Value}
/-! The goal's world gets a name. -/
theorem goal_drewN {G : World → Prop} {n : Nat} (M : Mem w0 f w L) (h : ∀ w1, Mem w0 f w1 L → G w1) : G (w.drewN n) := h _ (M.drewN n)
theorem goal_drew {G : World → Prop} (M : Mem w0 f w L) (h : ∀ w1, Mem w0 f w1 L → G w1) : G w.drew := h _ M.drew
theorem Mem.cells (M : Mem w0 f w L) (hd : Del (blk g tb cs) L L') : ∀ j, w.cell? ⟨g, j, none⟩ = cs[j]? := (M.is hd |> (blk g tb cs).imp w).2.1
theorem isSet {G : World → Prop} {a : Addr} {v : Value} (h : G (w.setCell a v)) : G (w.setCell a v) := h

/-! Stores of many cells. -/
theorem run_storeCells {P : Program} (vs : List Value) (h1 : ∀ u, u ∈ vs → u.oneCell' = true) : ∀ (i : Nat) (w : World) (cs : List Value), Mem w0 f w (blk g tb cs :: L) → off + i + vs.length ≤ cs.length →
    ∃ w1, (storeCells ⟨g, off, none⟩ vs i).run P w = .ok () w1 ∧ Mem w0 f w1 (blk g tb (splice cs (off + i) vs) :: L) := by
  induction vs with
  | nil => exact fun i w cs M _ => ⟨w, rfl, by simpa [splice] using M⟩
  | cons v vs ih =>
    intro i w cs M hl
    simp only [List.length_cons] at hl
    obtain ⟨hg, hc, hz⟩ := M.facts.1
    have hci : w.cell? ⟨g, off + i, none⟩ = some (cs[off + i]'(by omega)) := by rw [hc, List.getElem?_eq_getElem]
    obtain ⟨w1, hr, M1⟩ := ih (fun u hu => h1 u (by simp [hu])) (i + 1) _ _ (M.set (off + i) v) (by rw [List.length_set]; omega)
    refine ⟨w1, ?_, ?_⟩
    · have e : storeCells ⟨g, off, none⟩ (v :: vs) i = (do store ((⟨g, off, none⟩ : Addr).add i) v; storeCells ⟨g, off, none⟩ vs (i + 1)) := rfl
      rw [e, Sem.run_bind, add_lit0, run_store P w _ v _ (h1 v (by simp)), hci]
      simp only [hz, Bool.false_eq_true, if_false, Result.andThen_ok]
      exact hr
    · rw [show off + (i + 1) = off + i + 1 by omega, splice_set _ _ _ _ (by omega)] at M1
      exact M1
/-! Loads of many cells. -/
theorem run_loadFrom {P : Program} (hc : ∀ j, w.cell? ⟨g, j, none⟩ = cs[j]?) : ∀ (n i : Nat) (acc : Array Value), off + i + n ≤ cs.length → (loadCellsFrom ⟨g, off, none⟩ i n acc).run P w = .ok (acc ++ ((cs.drop (off + i)).take n).toArray) w := by
  intro n
  induction n with
  | zero => intro i acc _; simp [loadCellsFrom]
  | succ n ih =>
    intro i acc hl
    have hx : w.cell? ⟨g, off + i, none⟩ = some (cs[off + i]'(by omega)) := by rw [hc, List.getElem?_eq_getElem]
    unfold loadCellsFrom
    rw [add_lit0]
    simp only [Sem.run_bind, run_load, hx, Result.andThen_ok]
    rw [ih (i + 1) _ (by omega)]
    congr 1
    apply Array.toList_inj.1
    simp only [Array.toList_append, Array.toList_push, List.append_assoc]
    rw [List.drop_eq_getElem_cons (by omega : off + i < cs.length)]
    simp [Nat.add_assoc]
theorem run_loadAgg {P : Program} {n : Nat} (ha : (isAgg t).run P w = .ok true w) (hs : (P.info? t).map (·.size) = some n) (hc : ∀ j, w.cell? ⟨g, j, none⟩ = cs[j]?) (hl : off + n ≤ cs.length) : (loadVar t ⟨g, off, none⟩).run P w = .ok (.agg ((cs.drop off).take n).toArray) w := by
  obtain ⟨i, hi, hi2⟩ := Option.map_eq_some_iff.1 hs
  unfold loadVar
  rw [Sem.run_bind, ha]
  simp only [Result.andThen_ok, if_true, Sem.run_bind, sizeOf, typeInfo, program, hi, Sem.run_pure, hi2, loadCells, Sem.run]
  rw [run_loadFrom hc n 0 #[] (by omega)]
  simp
section
variable {P : Program} {ops : Array Oper} {rest : List Oper} {Q : Exit → Act → World → Prop} {a : Act} {x y : Operand} {ty : TypeId} {pos : String} {after : Array Edge} {gd : Option (Nat × Bool)}
theorem ev_store {v : Value} (hw : Region.wanted ⟨none, .store t x y, ty, pos, after, gd⟩ (yielded ops a.tmps) = true) (hx : a.eval x = .pointer (some ⟨g, off, none⟩)) (hy : a.eval y = v) (hv : v.cells = vs.toArray)
    (hs : (P.info? t).map (·.size) = some vs.length) (h1 : ∀ u, u ∈ vs → u.oneCell' = true) (M : Mem w0 f w L) (hd : Del (blk g tb cs) L L') (hl : off + vs.length ≤ cs.length)
    (h : ∀ w1, Mem w0 f w1 (blk g tb (splice cs off vs) :: L') → wpList P ops Q rest a w1) : wpList P ops Q (⟨none, .store t x y, ty, pos, after, gd⟩ :: rest) a w := by
  obtain ⟨w1, hr, M1⟩ := run_storeCells (P := P) vs h1 0 w cs (M.pull hd) hl
  refine wpList_step fun K hK => ?_
  rw [if_pos hw]
  obtain ⟨i, hi, hi2⟩ := Option.map_eq_some_iff.1 hs
  have hrun : (execOp a.eval ⟨none, .store t x y, ty, pos, after, gd⟩).run P w = .ok .skip w1 := by
    unfold execOp
    simp only [hx, hy, Instr.storeAt, Instr.sureAddr, storeVar, sizeOf, typeInfo, Sem.run_bind, Sem.run_pure, Result.andThen_ok, run_program, hi, hi2, hv, List.size_toArray, ne_eq, not_true_eq_false, if_false, hr]
  unfold Oper.wp
  rw [hrun]
  exact hK _ _ (h w1 M1)
/-- A result that lies in a cell of one's own. -/
theorem ret_cell {fn : Func} {R : Ending → World → Prop} {d : Tmp} (hres : fn.results = #[.cell d t]) (hx : a.tmps.getD d undef = .pointer (some ⟨g, 0, none⟩)) (M : Mem w0 f w L) (hd : Del (blk g tb cs) L L') (ha : ∀ W, (isAgg t).run P W = .ok true W) (hs : (P.info? t).map (·.size) = some cs.length) (hdef : a.defers = [])
    (hR : R (.returned (.agg cs.toArray)) w) : bodyPost P fn R .ret a w := by
  have hrun := run_loadAgg (P := P) (ha w) hs (M.pull hd).facts.1.2.1 (by omega : 0 + cs.length ≤ cs.length)
  simp only [List.drop_zero, List.take_length] at hrun
  refine ⟨hdef, _, ?_, hR⟩
  simp only [Array.getD_eq_getD_getElem?] at hx
  simp [results, hres, hx, asAddr, hrun]
end
end
end Go.Proofs.Ytmidnaafljgbiaa
