/- Parts of the proof, in one text. -/
import Derived.WalkKit
import Derived.Below
import Derived.Laws.OwnMore
import Derived.Deep.AppendLies
import Derived.Deep.Draws
import Derived.Deep.LoopGhost
import Derived.Lib.Hide
import Derived.Laws.Cells
import Derived.KernelRfl
import Derived.Laws.MakeOwn
import Derived.Deep.OwnRows
/- The plain words of this seat's proofs: values, steps, runs, worlds and what is done with them, without Go and memory. -/
namespace Go.Proofs.Ytmidnaafljgbiaa

/-- A value. -/
structure Vl where
  k : Int
  n : Int
theorem Vl.ext_ {a b : Vl} (h1 : a.k = b.k) (h2 : a.n = b.n) : a = b := by cases a; cases b; simp_all
instance : DecidableEq Vl := fun a b => if h : a.k = b.k ∧ a.n = b.n then isTrue (Vl.ext_ h.1 h.2) else isFalse (by rintro rfl; exact h ⟨rfl, rfl⟩)
instance : Inhabited Vl := ⟨⟨0, 0⟩⟩
def Vl.zero : Vl := ⟨0, 0⟩

/-- A step. -/
structure Opx where
  k : Int
  r : Int
  s : Int
  to : Int
  v : Vl
instance : Inhabited Opx := ⟨⟨0, 0, 0, 0, Vl.zero⟩⟩

/-- A run. -/
structure Rn where
  id : Int
  at_ : Int
  slots : List Vl
  full : Int
  mail : List Vl
  state : Int
  due : Int
  links : List Int
  watched : List Int
  trap : Bool
  why : Vl
  turns : Int
def Rn.zero : Rn := ⟨0, 0, [], 0, [], 0, 0, [], [], false, Vl.zero, 0⟩
instance : Inhabited Rn := ⟨Rn.zero⟩

/-- A world. -/
structure Wd where
  code : List Opx
  runs : List Rn
  queue : List Int
  now : Int
  sent : Int
  taken : Int
  lost : Int
def Wd.zero : Wd := ⟨[], [], [], 0, 0, 0, 0⟩

def inB (n lo hi : Int) : Bool := decide (lo ≤ n) && decide (n ≤ hi)
theorem inB_iff {n lo hi : Int} : inB n lo hi = true ↔ lo ≤ n ∧ n ≤ hi := by simp [inB]

def valOk (v : Vl) : Bool :=
  if v.k = 0 then v.n == 0 else if v.k = 1 then inB v.n (-99) 99 else if v.k = 2 then inB v.n 0 9 else if v.k = 3 then inB v.n 1 6 else false

/-- The bit of a slot. -/
def bitI (s : Int) : Int := if s = 0 then 1 else if s = 1 then 2 else if s = 2 then 4 else 8
def hasBit (f s : Int) : Bool := f / bitI s % 2 == 1
def withBit (f s : Int) : Int := if hasBit f s then f else f + bitI s

/-- Numbers of other runs, each once, behind those of pre. -/
def idsFrom (own : Int) : List Int → List Int → Bool
  | _, [] => true
  | pre, x :: xs => inB x 1 6 && !(x == own) && !(pre.contains x) && idsFrom own (pre ++ [x]) xs
def idsOk (l : List Int) (own : Int) : Bool := idsFrom own [] l

def slotsFrom (f : Int) : Int → List Vl → Bool
  | _, [] => true
  | i, v :: vs => valOk v && (hasBit f i || v == Vl.zero) && slotsFrom f (i + 1) vs

def runOk (r : Rn) : Bool :=
  inB r.id 1 6 && inB r.at_ 0 15 && r.slots.length == 4 && inB r.full 0 15 && decide (r.mail.length ≤ 12) && inB r.state 1 3 && inB r.due (-1) 400 && inB r.turns 0 9999
    && slotsFrom r.full 0 r.slots && r.mail.all valOk && idsOk r.links r.id && idsOk r.watched r.id && valOk r.why
    && (if r.state = 3 then r.mail.isEmpty && r.links.isEmpty && r.watched.isEmpty else r.why == Vl.zero)

def newRun (id at_ : Int) (v : Vl) : Rn := ⟨id, at_, [v, Vl.zero, Vl.zero, Vl.zero], 1, [], 1, 0, [], [], false, Vl.zero, 0⟩
def runNew (id at_ : Int) (v : Vl) : Rn × Bool := if inB id 1 6 && inB at_ 0 15 && valOk v then (newRun id at_ v, true) else (Rn.zero, false)

def fits (v : Vl) (kind : Int) : Bool := kind == 0 || v.k == kind
def firstIx (m : List Vl) (kind : Int) : Option Nat := m.findIdx? (fits · kind)
end Go.Proofs.Ytmidnaafljgbiaa
/- Words on memory: slices that read as lists, structs in them; nothing of the program. -/
namespace Go.Proofs.Ytmidnaafljgbiaa
open Go.RowKit

theorem block_of_add (a : Addr) (n : Nat) : (a.add n).block = a.block := by unfold Addr.add; split <;> rfl
theorem add_of_add (a : Addr) (i j : Nat) : (a.add i).add j = a.add (i + j) := by
  unfold Addr.add
  by_cases hi : i = 0 <;> by_cases hj : j = 0 <;> simp [hi, hj, Nat.add_assoc]
theorem add_lit0 (b o i : Nat) : (⟨b, o, none⟩ : Addr).add i = ⟨b, o + i, none⟩ := by unfold Addr.add; split <;> simp_all
theorem add_succ (a : Addr) (i j : Nat) : (⟨(a.add i).block, (a.add i).off + (j + 1), none⟩ : Addr) = a.add (i + (j + 1)) := by
  unfold Addr.add
  by_cases hi : i = 0 <;> simp [hi, Nat.add_assoc]

/-- A slice value reads as these cells, and lies below block B. -/
def Reads (w : World) (B size : Nat) (A : Option Addr) (n : Nat) (xs : List Value) : Prop :=
  xs.length = n * size ∧ (0 < n → ∃ ad, A = some ad ∧ ad.block < B ∧ ∀ j u, xs[j]? = some u → w.cell? (ad.add j) = some u)

section
variable {w w' : World} {B B' size n : Nat} {A : Option Addr} {xs : List Value}
theorem Reads.none_ : Reads w B size A 0 [] := ⟨by simp, fun h => absurd h (by omega)⟩
theorem Reads.keep (h : Reads w B size A n xs) (hk : ∀ p : Addr, p.block < B → w'.cell? p = w.cell? p) : Reads w' B size A n xs :=
  ⟨h.1, fun hn => by
    obtain ⟨ad, e, hb, hc⟩ := h.2 hn
    exact ⟨ad, e, hb, fun j u hu => (hk _ (by rw [block_of_add]; exact hb)).trans (hc j u hu)⟩⟩
theorem Reads.more (h : Reads w B size A n xs) (hB : B ≤ B') : Reads w B' size A n xs :=
  ⟨h.1, fun hn => by
    obtain ⟨ad, e, hb, hc⟩ := h.2 hn
    exact ⟨ad, e, by omega, hc⟩⟩
theorem Reads.below (h : Reads w B size A n xs) (hb : Below B w w') : Reads w' B size A n xs := h.keep fun _ hp => hb.cell hp
theorem Reads.of_own {base : Nat} {e : TypeId} {c : Nat} (h : w.ownsRow base e size (.slice A n c) n xs) : Reads w w.heap.size size A n xs := by
  refine ⟨h.1, fun hn => ?_⟩
  obtain ⟨g, cap, hv, _, hlt⟩ := h.form hn
  have hA : A = some ⟨g, 0, none⟩ := by injection hv
  subst hA
  exact ⟨_, rfl, hlt, h.cells (g := g) rfl⟩
end

/-- Elements of k cells each. -/
def flat {α : Type} (enc : α → List Value) (xs : List α) : List Value := xs.flatMap enc
theorem flat_length {α : Type} {enc : α → List Value} {k : Nat} (hk : ∀ x, (enc x).length = k) (xs : List α) : (flat enc xs).length = xs.length * k := by
  induction xs with
  | nil => simp [flat]
  | cons x xs ih => simp only [flat, List.flatMap_cons, List.length_append, hk, List.length_cons] at ih ⊢; rw [ih, Nat.add_mul]; omega
theorem flat_get {α : Type} {enc : α → List Value} {k : Nat} (hk : ∀ x, (enc x).length = k) (xs : List α) (j i : Nat) (hi : i < k) (hj : j < xs.length) : (flat enc xs)[j * k + i]? = (enc xs[j])[i]? := by
  induction xs generalizing j with
  | nil => simp at hj
  | cons x xs ih =>
    cases j with
    | zero => simp only [flat, List.flatMap_cons, Nat.zero_mul, Nat.zero_add, List.getElem_cons_zero]; rw [List.getElem?_append_left (by rw [hk]; exact hi)]
    | succ j =>
      have := ih j (by simpa using hj)
      simp only [flat, List.flatMap_cons, List.getElem_cons_succ] at this ⊢
      rw [List.getElem?_append_right (by rw [hk, Nat.succ_mul]; omega), hk, ← this]
      congr 1
      rw [Nat.succ_mul]; omega

/-- A slice value reads as a list of elements. -/
def ReadsL {α : Type} (enc : α → List Value) (k : Nat) (w : World) (B : Nat) (A : Option Addr) (n : Nat) (xs : List α) : Prop := xs.length = n ∧ n ≤ 140737488355328 ∧ Reads w B k A n (flat enc xs)
section
variable {α : Type} {enc : α → List Value} {k : Nat} {w w' : World} {B B' n : Nat} {A : Option Addr} {xs : List α}
theorem ReadsL.more (h : ReadsL enc k w B A n xs) (hB : B ≤ B') : ReadsL enc k w B' A n xs := ⟨h.1, h.2.1, h.2.2.more hB⟩
theorem ReadsL.below (h : ReadsL enc k w B A n xs) (hb : Below B w w') : ReadsL enc k w' B A n xs := ⟨h.1, h.2.1, h.2.2.below hb⟩
theorem ReadsL.below' (h : ReadsL enc k w B A n xs) (hb : Below w.heap.size w w') (hB : B ≤ w.heap.size) : ReadsL enc k w' B A n xs := h.below (hb.mono hB)
theorem ReadsL.drewN (h : ReadsL enc k w B A n xs) (m : Nat) : ReadsL enc k (w.drewN m) B A n xs := h
theorem ReadsL.take (hk : ∀ x, (enc x).length = k) (h : ReadsL enc k w B A n xs) {j : Nat} (hj : j ≤ n) : ReadsL enc k w B A j (xs.take j) := by
  obtain ⟨h1, h2, h3, h4⟩ := h
  refine ⟨by rw [List.length_take]; omega, by omega, by rw [flat_length hk, List.length_take]; congr 1; omega, fun h0 => ?_⟩
  obtain ⟨ad, e, hb, hc⟩ := h4 (by omega)
  refine ⟨ad, e, hb, fun i u hu => hc i u ?_⟩
  have e2 : xs = xs.take j ++ xs.drop j := (List.take_append_drop j xs).symm
  rw [e2]
  unfold flat at hu ⊢
  rw [List.flatMap_append, List.getElem?_append_left (List.getElem?_eq_some_iff.1 hu).1]
  exact hu
theorem ReadsL.row (hk : ∀ x, (enc x).length = k) (h : ReadsL enc k w B A n xs) {j : Nat} (hj : j < xs.length) :
    ∃ ad, A = some ad ∧ ad.block < B ∧ ∀ i u, (enc xs[j])[i]? = some u → w.cell? ((ad.add (j * k)).add i) = some u := by
  obtain ⟨h1, _, _, h3⟩ := h
  obtain ⟨ad, e, hb, hc⟩ := h3 (by omega)
  refine ⟨ad, e, hb, fun i u hu => ?_⟩
  rw [add_of_add]
  refine hc _ _ ?_
  have hi : i < k := by
    have := (List.getElem?_eq_some_iff.1 hu).1
    rwa [hk] at this
  rw [flat_get hk _ _ _ hi hj]
  exact hu
end

/-- What was laid from B on; what lay below is as it was. -/
theorem below_step {w W w2 : World} (h : Below w.heap.size w W) (k : Below W.heap.size W w2) : Below w.heap.size w w2 := h.trans ⟨k.os, k.tape, k.output, k.size, fun i hi => k.block i (Nat.lt_of_lt_of_le hi h.size)⟩
theorem below_new {w W : World} (h : Below w.heap.size w W) (o : Obj) : Below w.heap.size w (W.alloc o) := h.alloc h.size o
theorem below_set {w W : World} {g j : Nat} {v : Value} (h : Below w.heap.size w W) (hg : w.heap.size ≤ g) : Below w.heap.size w (W.setCell ⟨g, j, none⟩ v) := h.setCell hg _
theorem below_drewN {B : Nat} {w W : World} (h : Below B w W) (n : Nat) : Below B w (W.drewN n) := ⟨h.os, h.tape, h.output, h.size, h.block⟩
theorem bcell {W w1 : World} (hb : Below W.heap.size W w1) : (∀ b o, b < W.heap.size → w1.cell? ⟨b, o, none⟩ = W.cell? ⟨b, o, none⟩) ∧ (∀ b o, b < W.heap.size → w1.frozen? ⟨b, o, none⟩ = W.frozen? ⟨b, o, none⟩) :=
  ⟨fun b o h => hb.cell (p := ⟨b, o, none⟩) h, fun b o h => hb.frozen (p := ⟨b, o, none⟩) h⟩

/-! The kinds of elements. -/
def encI (x : Int) : List Value := [.int .i64 x]
def encV (x : Vl) : List Value := [.int .i64 x.k, .int .i64 x.n]
theorem encI_length (x : Int) : (encI x).length = 1 := rfl
theorem encV_length (x : Vl) : (encV x).length = 2 := rfl
abbrev ReadsI := ReadsL encI 1
abbrev ReadsV := ReadsL encV 2
theorem ReadsL.int {w : World} {B n : Nat} {A : Option Addr} {xs : List Int} (h : ReadsI w B A n xs) {j : Nat} (hj : j < xs.length) : ∃ ad, A = some ad ∧ ad.block < B ∧ w.cell? (ad.add j) = some (.int .i64 xs[j]) := by
  obtain ⟨ad, e, hb, hc⟩ := h.row encI_length hj
  refine ⟨ad, e, hb, ?_⟩
  have := hc 0 _ rfl
  rwa [Nat.mul_one, add_of_add] at this
theorem ReadsL.val {w : World} {B n : Nat} {A : Option Addr} {xs : List Vl} (h : ReadsV w B A n xs) {j : Nat} (hj : j < xs.length) :
    ∃ ad, A = some ad ∧ ad.block < B ∧ w.cell? (ad.add (j * 2)) = some (.int .i64 xs[j].k) ∧ w.cell? ⟨(ad.add (j * 2)).block, (ad.add (j * 2)).off + 1, none⟩ = some (.int .i64 xs[j].n) := by
  obtain ⟨ad, e, hb, hc⟩ := h.row encV_length hj
  refine ⟨ad, e, hb, ?_, ?_⟩
  · have := hc 0 _ rfl
    rwa [add_of_add] at this
  · have := hc 1 _ rfl
    rw [add_of_add] at this
    rw [← this, add_succ ad (j * 2) 0]

/-! A variable in memory: its block and the world behind it get names. -/
section
variable {P : Program} {ops : Array Oper} {rest : List Oper} {o : Oper} {a : Act} {Q : Exit → Act → World → Prop} {W : World}
/-- What is known of a block of one's own. -/
def Box (w : World) (g : Nat) (cs : Array Value) : Prop := g < w.heap.size ∧ ∀ j, w.cell? ⟨g, j, none⟩ = cs[j]?
theorem Box.below {w w' : World} {g : Nat} {cs : Array Value} (h : Box w g cs) (hb : Below w.heap.size w w') : Box w' g cs :=
  ⟨Nat.lt_of_lt_of_le h.1 hb.size, fun j => (hb.cell (p := ⟨g, j, none⟩) h.1).trans (h.2 j)⟩
end
/-- A run as it lies in memory: where its lists lie. -/
structure RA where
  sA : Option Addr
  sC : Nat
  mA : Option Addr
  mC : Nat
  lA : Option Addr
  lC : Nat
  wA : Option Addr
  wC : Nat
abbrev runArr (r : Rn) (a : RA) : Array Value :=
  #[.int .i64 r.id, .int .i64 r.at_, .slice a.sA r.slots.length a.sC, .int .i64 r.full, .slice a.mA r.mail.length a.mC, .int .i64 r.state, .int .i64 r.due, .slice a.lA r.links.length a.lC, .slice a.wA r.watched.length a.wC, .bool r.trap, .int .i64 r.why.k, .int .i64 r.why.n, .int .i64 r.turns]
/-- A run's lists read. -/
structure ReadsRun (w : World) (B : Nat) (r : Rn) (a : RA) : Prop where
  slots : ReadsV w B a.sA r.slots.length r.slots
  mail : ReadsV w B a.mA r.mail.length r.mail
  links : ReadsI w B a.lA r.links.length r.links
  watched : ReadsI w B a.wA r.watched.length r.watched
  sC : r.slots.length ≤ a.sC
  mC : r.mail.length ≤ a.mC
  lC : r.links.length ≤ a.lC
  wC : r.watched.length ≤ a.wC
theorem ReadsRun.below {w w' : World} {B : Nat} {r : Rn} {a : RA} (h : ReadsRun w B r a) (hb : Below w.heap.size w w') (hB : B ≤ w.heap.size) : ReadsRun w' B r a :=
  ⟨h.slots.below' hb hB, h.mail.below' hb hB, h.links.below' hb hB, h.watched.below' hb hB, h.sC, h.mC, h.lC, h.wC⟩
theorem ReadsRun.more {w : World} {B B' : Nat} {r : Rn} {a : RA} (h : ReadsRun w B r a) (hB : B ≤ B') : ReadsRun w B' r a :=
  ⟨h.slots.more hB, h.mail.more hB, h.links.more hB, h.watched.more hB, h.sC, h.mC, h.lC, h.wC⟩

end Go.Proofs.Ytmidnaafljgbiaa
/- Rows of the call's own, that read as lists; nothing of the program. -/
namespace Go.Proofs.Ytmidnaafljgbiaa
open Go.RowKit

def OwnL {α : Type} (enc : α → List Value) (m t : Nat) (w : World) (base : Nat) (v : Value) (xs : List α) : Prop := xs.length ≤ 140737488355328 ∧ w.ownsRow base t m v xs.length (flat enc xs)
section
variable {α : Type} {enc : α → List Value} {m t : Nat} {w w' : World} {base : Nat} {v : Value} {xs : List α}
theorem flat_set {α : Type} {enc : α → List Value} {m : Nat} (hk : ∀ x, (enc x).length = m) {xs : List α} {j i : Nat} (hj : j < xs.length) (hi : i < m) {x' : α} {u : Value} (h : enc x' = (enc xs[j]).set i u) : flat enc (xs.set j x') = (flat enc xs).set (j * m + i) u := by
  induction xs generalizing j with
  | nil => simp at hj
  | cons x xs ih =>
    cases j with
    | zero =>
      simp only [List.set_cons_zero, flat, List.flatMap_cons, Nat.zero_mul, Nat.zero_add]
      rw [List.set_append_left _ _ (by rw [hk]; exact hi)]
      simp only [List.getElem_cons_zero] at h
      rw [h]
    | succ j =>
      have := ih (j := j) (by simpa using hj) (by simpa using h)
      simp only [flat] at this
      simp only [List.set_cons_succ, flat, List.flatMap_cons]
      rw [List.set_append_right _ _ (by rw [hk, Nat.succ_mul]; omega), hk, this]
      congr 2
      rw [Nat.succ_mul]; omega
theorem OwnL.stored (hk : ∀ x, (enc x).length = m) {g cap : Nat} (h : OwnL enc m t w base (.slice (some ⟨g, 0, none⟩) xs.length cap) xs) {j i : Nat} (hj : j < xs.length) (hi : i < m) {x' : α} {u : Value} (e : enc x' = (enc xs[j]).set i u) :
    OwnL enc m t (w.setCell ⟨g, j * m + i, none⟩ u) base (.slice (some ⟨g, 0, none⟩) (xs.set j x').length cap) (xs.set j x') ∧ w.grownBy (w.setCell ⟨g, j * m + i, none⟩ u) (some g) := by
  obtain ⟨h1, h2⟩ := h.2.stored (j * m + i) u
  refine ⟨⟨by rw [List.length_set]; exact h.1, ?_⟩, h2⟩
  rw [List.length_set, flat_set hk hj hi e]
  exact h1
theorem OwnL.kept (h : OwnL enc m t w base v xs) {row : Option Nat} (hg : w.grownBy w' row) (hne : v.ownBlock = none ∨ v.ownBlock ≠ row) : OwnL enc m t w' base v xs := ⟨h.1, h.2.kept hg hne⟩
theorem grown_below {w w1 : World} (h : Below w.heap.size w w1) (row : Option Nat) : w.grownBy w1 row := ⟨h.os, h.tape, h.output, h.size, fun i hi _ => h.block i hi⟩
theorem OwnL.below (h : OwnL enc m t w base v xs) (hb : Below w.heap.size w w') : OwnL enc m t w' base v xs := h.kept (grown_below hb none) (by cases v.ownBlock <;> simp)
theorem OwnL.lower {base' : Nat} (h : OwnL enc m t w base v xs) (hb : base' ≤ base) : OwnL enc m t w base' v xs := by
  obtain ⟨h0, h1, h2⟩ := h
  refine ⟨h0, h1, ?_⟩
  rcases h2 with h2 | ⟨g, cap, cur, e, h3, r⟩
  · exact .inl h2
  · exact .inr ⟨g, cap, cur, e, by omega, r⟩
theorem OwnL.nil (w : World) (base : Nat) : OwnL enc m t w base (.slice none 0 0) [] := ⟨by simp, World.ownsRow_nil w base t m⟩
theorem OwnL.reads (h : OwnL enc m t w base v xs) : ∃ A c, v = .slice A xs.length c ∧ xs.length ≤ c ∧ ReadsL enc m w w.heap.size A xs.length xs := by
  obtain ⟨h0, h⟩ := h
  have hs : ∃ A c, v = .slice A xs.length c ∧ xs.length ≤ c := by
    rcases h.2 with ⟨rfl, e⟩ | ⟨g, cap, cur, rfl, _, _, hc, _⟩
    · exact ⟨none, 0, by rw [e], by omega⟩
    · exact ⟨_, cap, rfl, hc⟩
  obtain ⟨A, c, rfl, hc⟩ := hs
  exact ⟨A, c, rfl, hc, rfl, h0, Reads.of_own h⟩
/-- Where the row begins, if it has an element. -/
theorem OwnL.form (h : OwnL enc m t w base v xs) (hp : 0 < xs.length) : ∃ g c, v = .slice (some ⟨g, 0, none⟩) xs.length c ∧ base ≤ g ∧ g < w.heap.size := h.2.form hp
theorem OwnL.cell (hk : ∀ x, (enc x).length = m) {g cap : Nat} (h : OwnL enc m t w base (.slice (some ⟨g, 0, none⟩) xs.length cap) xs) {j i : Nat} (hj : j < xs.length) (hi : i < m) :
    w.cell? ⟨g, j * m + i, none⟩ = (enc xs[j])[i]? ∧ w.frozen? ⟨g, j * m + i, none⟩ = false := by
  have hlt : j * m + i < xs.length * m := by
    have : j * m + m ≤ xs.length * m := by rw [← Nat.succ_mul]; exact Nat.mul_le_mul_right _ hj
    omega
  exact ⟨by rw [h.2.cellAt _ hlt, flat_get hk _ _ _ hi hj], h.2.frozenAt _⟩
theorem madeCells_flat {z : Array Value} {x : α} (hz : enc x = z.toList) (h0 : 0 < z.size) (n : Nat) : (madeCells z (n * z.size)).toList = flat enc (List.replicate n x) := by
  have hk : (enc x).length = z.size := by rw [hz]; simp
  induction n with
  | zero => simp [madeCells, flat]
  | succ n ih =>
    have e : flat enc (List.replicate (n + 1) x) = flat enc (List.replicate n x) ++ enc x := by
      rw [List.replicate_succ']
      simp [flat]
    rw [e, ← ih, hz]
    apply List.ext_getElem?
    intro k
    simp only [madeCells, Array.toList_map, Array.toList_range, List.getElem?_map]
    by_cases h1 : k < n * z.size
    · rw [List.getElem?_append_left (by simpa using h1), List.getElem?_map, List.getElem?_range h1, List.getElem?_range (by rw [Nat.succ_mul]; omega)]
    · rw [List.getElem?_append_right (by simpa using h1)]
      simp only [List.length_map, List.length_range]
      by_cases h2 : k < (n + 1) * z.size
      · have h3 : k - n * z.size < z.size := by rw [Nat.succ_mul] at h2; omega
        have h4 : k % z.size = k - n * z.size := by
          have : k = z.size * n + (k - n * z.size) := by rw [Nat.mul_comm]; omega
          rw [this, Nat.mul_add_mod, Nat.mod_eq_of_lt (by rw [Nat.mul_comm]; omega)]
          rw [Nat.mul_comm z.size n]; omega
        rw [List.getElem?_range h2, Option.map_some, h4, Array.getElem?_toList, Array.getElem?_eq_getElem h3, getElem!_pos z _ h3]
      · rw [List.getElem?_eq_none (by simpa using h2), List.getElem?_eq_none (by rw [Nat.succ_mul] at h2; simp; omega)]
        rfl
theorem OwnL.made {z : Array Value} {x : α} (hz : enc x = z.toList) (h0 : 0 < z.size) (hm : m = z.size) {n : Nat} (hn : n ≤ 140737488355328) (hb : base ≤ w.heap.size) :
    OwnL enc m t (w.alloc (.cells (madeCells z (n * m)) t)) base (.slice (some ⟨w.heap.size, 0, none⟩) (List.replicate n x).length n) (List.replicate n x) := by
  refine ⟨by simpa using hn, ?_⟩
  rw [List.length_replicate, hm, ← madeCells_flat hz h0]
  exact World.ownsRow_lit w _ n hb (by unfold maxLen; omega) (size_madeCells _ _)
end
end Go.Proofs.Ytmidnaafljgbiaa
/- More on rows of the call's own: made rows, stores by the slice's own length. -/
namespace Go.Proofs.Ytmidnaafljgbiaa
open Go.RowKit

/-- A row that is written element by element: its slice value is spelled out. -/
def RowL {α : Type} (enc : α → List Value) (m t : Nat) (w : World) (base g n cap : Nat) (xs : List α) : Prop := xs.length = n ∧ OwnL enc m t w base (.slice (some ⟨g, 0, none⟩) n cap) xs
section
variable {α : Type} {enc : α → List Value} {m t : Nat} {w w' : World} {base g n cap : Nat} {xs : List α}
theorem RowL.store (hk : ∀ x, (enc x).length = m) (h : RowL enc m t w base g n cap xs) {j i : Nat} (hj : j < xs.length) (hi : i < m) {x' : α} {u : Value} (e : enc x' = (enc xs[j]).set i u) :
    RowL enc m t (w.setCell ⟨g, j * m + i, none⟩ u) base g n cap (xs.set j x') := by
  obtain ⟨rfl, h⟩ := h
  refine ⟨List.length_set, ?_⟩
  have := (h.stored hk hj hi e).1
  rwa [List.length_set] at this
theorem RowL.ge (h : RowL enc m t w base g n cap xs) (hn : 0 < n) : base ≤ g ∧ g < w.heap.size := by
  obtain ⟨rfl, h⟩ := h
  obtain ⟨g', c, e, h1, h2⟩ := h.form hn
  simp only [Value.slice.injEq, Option.some.injEq, Addr.mk.injEq, and_true, true_and] at e
  obtain ⟨rfl, _⟩ := e
  exact ⟨h1, h2⟩
theorem RowL.cell (hk : ∀ x, (enc x).length = m) (h : RowL enc m t w base g n cap xs) {j i : Nat} (hj : j < xs.length) (hi : i < m) : w.cell? ⟨g, j * m + i, none⟩ = (enc xs[j])[i]? ∧ w.frozen? ⟨g, j * m + i, none⟩ = false := by
  obtain ⟨rfl, h⟩ := h
  exact h.cell hk hj hi
theorem RowL.made {z : Array Value} {x : α} (hz : enc x = z.toList) (h0 : 0 < z.size) (hm : m = z.size) {n : Nat} (hn : n ≤ 140737488355328) (hb : base ≤ w.heap.size) :
    RowL enc m t (w.alloc (.cells (madeCells z (n * m)) t)) base w.heap.size n n (List.replicate n x) := by
  have := OwnL.made (t := t) hz h0 hm hn hb
  rw [List.length_replicate] at this
  exact ⟨List.length_replicate, this⟩
end
theorem run_make_m {P : Program} (t e : TypeId) (z : Value) (size bytes : Nat) (ht : P.underlying t = some (.slice e)) (hinfo : (P.info? e).map (fun i => (i.zero, i.size, i.bytes)) = some (some z, size, bytes)) (n : Nat) (hbytes : bytes * n ≤ 281474976710656) (h63 : n ≤ 9223372036854775807) (w : World) :
    (Instr.makeSlice t (.int .i64 (n : Int)) (.int .i64 (n : Int))).run P w = .ok (.slice (some ⟨w.heap.size, 0, none⟩) n n) (w.alloc (.cells (madeCells z.cells (n * size)) e)) := by
  obtain ⟨i, hi, hzz⟩ := Option.map_eq_some_iff.1 hinfo
  simp only [Prod.mk.injEq] at hzz
  obtain ⟨hz, hs, hb⟩ := hzz
  have hb' : (i.bytes : Int) * (n : Int) ≤ 281474976710656 := by
    have h : ((i.bytes * n : Nat) : Int) ≤ 281474976710656 := by rw [hb]; omega
    rwa [Int.natCast_mul] at h
  have hr := run_make (P := P) w t e i z ht hi hz .i64 .i64 n n (by omega) (Int.le_refl _) hb' (by omega)
  simp only [Int.toNat_natCast, hs] at hr
  exact hr
/-- A list that is written place by place. -/
theorem upto_end {α : Type} {l c : List α} {n : Nat} (hl : l.length = n) (hc : c.length = n) (h : ∀ j, j < n → c[j]? = l[j]?) : c = l := by
  apply List.ext_getElem?
  intro j
  by_cases hj : j < n
  · exact h j hj
  · rw [List.getElem?_eq_none (by omega), List.getElem?_eq_none (by omega)]
theorem upto_step {α : Type} {l c : List α} {k : Nat} (hk : k < c.length) (h : ∀ j, j < k → c[j]? = l[j]?) {x : α} (hx : l[k]? = some x) : ∀ j, j < k + 1 → (c.set k x)[j]? = l[j]? := by
  intro j hj
  rw [List.getElem?_set]
  by_cases e : k = j
  · subst e
    rw [if_pos rfl, if_pos hk, hx]
  · rw [if_neg e]
    exact h j (by omega)
end Go.Proofs.Ytmidnaafljgbiaa
