/- Parts of the proof, in one text. -/
import Derived.WalkKit
import Derived.Below
import Derived.Laws.OwnMore
import Derived.Deep.AppendLies
import Derived.Deep.Draws
import Derived.Deep.LoopGhost
import Derived.Lib.Hide
import Derived.Laws.Cells
import Derived.KernelRfl
import Derived.Test.YtomolbhcggaakaaGreatRows
import Derived.ProofKit
import Derived.OpenShut
import Derived.ShutString
import Derived.ChangeOld
import Derived.SizedLaws
import Derived.Deep.Slices
/- The plain words of this seat's proofs: values, steps, runs, worlds and what is done with them, without Go and memory. -/
namespace Go.Proofs.YtomolbhcggaakaaGreat

/-- A value. -/
structure Vl where
  k : Int
  n : Int
theorem Vl.ext_ {a b : Vl} (h1 : a.k = b.k) (h2 : a.n = b.n) : a = b := by cases a; cases b; simp_all
instance : DecidableEq Vl := fun a b => if h : a.k = b.k ∧ a.n = b.n then isTrue (Vl.ext_ h.1 h.2) else isFalse (by rintro rfl; exact h ⟨rfl, rfl⟩)
instance : Inhabited Vl := ⟨⟨0, 0⟩⟩
def Vl.zero : Vl := ⟨0, 0⟩

/-- A step. -/
structure Opx where
  k : Int
  r : Int
  s : Int
  to : Int
  v : Vl
instance : Inhabited Opx := ⟨⟨0, 0, 0, 0, Vl.zero⟩⟩

/-- A run. -/
structure Rn where
  id : Int
  at_ : Int
  slots : List Vl
  full : Int
  mail : List Vl
  state : Int
  due : Int
  links : List Int
  watched : List Int
  trap : Bool
  why : Vl
  turns : Int
def Rn.zero : Rn := ⟨0, 0, [], 0, [], 0, 0, [], [], false, Vl.zero, 0⟩
instance : Inhabited Rn := ⟨Rn.zero⟩

/-- A world. -/
structure Wd where
  code : List Opx
  runs : List Rn
  queue : List Int
  now : Int
  sent : Int
  taken : Int
  lost : Int
def Wd.zero : Wd := ⟨[], [], [], 0, 0, 0, 0⟩

def inB (n lo hi : Int) : Bool := decide (lo ≤ n) && decide (n ≤ hi)
theorem inB_iff {n lo hi : Int} : inB n lo hi = true ↔ lo ≤ n ∧ n ≤ hi := by simp [inB]

def valOk (v : Vl) : Bool :=
  if v.k = 0 then v.n == 0 else if v.k = 1 then inB v.n (-99) 99 else if v.k = 2 then inB v.n 0 9 else if v.k = 3 then inB v.n 1 6 else false

/-- The bit of a slot. -/
def bitI (s : Int) : Int := if s = 0 then 1 else if s = 1 then 2 else if s = 2 then 4 else 8
def hasBit (f s : Int) : Bool := f / bitI s % 2 == 1
def withBit (f s : Int) : Int := if hasBit f s then f else f + bitI s

/-- Numbers of other runs, each once, behind those of pre. -/
def idsFrom (own : Int) : List Int → List Int → Bool
  | _, [] => true
  | pre, x :: xs => inB x 1 6 && !(x == own) && !(pre.contains x) && idsFrom own (pre ++ [x]) xs
def idsOk (l : List Int) (own : Int) : Bool := idsFrom own [] l

def slotsFrom (f : Int) : Int → List Vl → Bool
  | _, [] => true
  | i, v :: vs => valOk v && (hasBit f i || v == Vl.zero) && slotsFrom f (i + 1) vs

def runOk (r : Rn) : Bool :=
  inB r.id 1 6 && inB r.at_ 0 15 && r.slots.length == 4 && inB r.full 0 15 && decide (r.mail.length ≤ 12) && inB r.state 1 3 && inB r.due (-1) 400 && inB r.turns 0 9999
    && slotsFrom r.full 0 r.slots && r.mail.all valOk && idsOk r.links r.id && idsOk r.watched r.id && valOk r.why
    && (if r.state = 3 then r.mail.isEmpty && r.links.isEmpty && r.watched.isEmpty else r.why == Vl.zero)

def newRun (id at_ : Int) (v : Vl) : Rn := ⟨id, at_, [v, Vl.zero, Vl.zero, Vl.zero], 1, [], 1, 0, [], [], false, Vl.zero, 0⟩
def runNew (id at_ : Int) (v : Vl) : Rn × Bool := if inB id 1 6 && inB at_ 0 15 && valOk v then (newRun id at_ v, true) else (Rn.zero, false)

def fits (v : Vl) (kind : Int) : Bool := kind == 0 || v.k == kind
def valFits (v : Vl) (kind : Int) : Bool := valOk v && inB kind 0 3 && fits v kind
def firstIx (m : List Vl) (kind : Int) : Option Nat := m.findIdx? (fits · kind)
def firstI (m : List Vl) (kind : Int) : Int := match firstIx m kind with | some i => i | none => -1

def runFirst (r : Rn) (kind : Int) : Int × Bool :=
  if runOk r && inB kind 0 3 then (match firstIx r.mail kind with | some i => ((i : Int), true) | none => (0, false)) else (0, false)
def runTake (r : Rn) (kind : Int) : Rn × Vl × Bool :=
  if runOk r && inB kind 0 3 then (match firstIx r.mail kind with | some i => ({ r with mail := r.mail.eraseIdx i }, r.mail.getD i Vl.zero, true) | none => (Rn.zero, Vl.zero, false)) else (Rn.zero, Vl.zero, false)
def runPut (r : Rn) (slot : Int) (v : Vl) : Rn :=
  if runOk r && inB slot 0 3 && valOk v then { r with slots := r.slots.set slot.toNat v, full := withBit r.full slot } else Rn.zero

end Go.Proofs.YtomolbhcggaakaaGreat
/- Words on memory: slices that read as lists, structs in them; nothing of the program. -/
namespace Go.Proofs.YtomolbhcggaakaaGreat
open Go.RowKit

theorem block_of_add (a : Addr) (n : Nat) : (a.add n).block = a.block := by unfold Addr.add; split <;> rfl
theorem add_of_add (a : Addr) (i j : Nat) : (a.add i).add j = a.add (i + j) := by
  unfold Addr.add
  by_cases hi : i = 0 <;> by_cases hj : j = 0 <;> simp [hi, hj, Nat.add_assoc]
theorem add_lit0 (b o i : Nat) : (⟨b, o, none⟩ : Addr).add i = ⟨b, o + i, none⟩ := by unfold Addr.add; split <;> simp_all
theorem add_succ (a : Addr) (i j : Nat) : (⟨(a.add i).block, (a.add i).off + (j + 1), none⟩ : Addr) = a.add (i + (j + 1)) := by
  unfold Addr.add
  by_cases hi : i = 0 <;> simp [hi, Nat.add_assoc]

/-- A slice value reads as these cells, and lies below block B. -/
def Reads (w : World) (B size : Nat) (A : Option Addr) (n : Nat) (xs : List Value) : Prop :=
  xs.length = n * size ∧ (0 < n → ∃ ad, A = some ad ∧ ad.block < B ∧ ∀ j u, xs[j]? = some u → w.cell? (ad.add j) = some u)

section
variable {w w' : World} {B B' size n : Nat} {A : Option Addr} {xs : List Value}
theorem Reads.none_ : Reads w B size A 0 [] := ⟨by simp, fun h => absurd h (by omega)⟩
theorem Reads.keep (h : Reads w B size A n xs) (hk : ∀ p : Addr, p.block < B → w'.cell? p = w.cell? p) : Reads w' B size A n xs :=
  ⟨h.1, fun hn => by
    obtain ⟨ad, e, hb, hc⟩ := h.2 hn
    exact ⟨ad, e, hb, fun j u hu => (hk _ (by rw [block_of_add]; exact hb)).trans (hc j u hu)⟩⟩
theorem Reads.more (h : Reads w B size A n xs) (hB : B ≤ B') : Reads w B' size A n xs :=
  ⟨h.1, fun hn => by
    obtain ⟨ad, e, hb, hc⟩ := h.2 hn
    exact ⟨ad, e, by omega, hc⟩⟩
theorem Reads.below (h : Reads w B size A n xs) (hb : Below B w w') : Reads w' B size A n xs := h.keep fun _ hp => hb.cell hp
theorem Reads.of_own {base : Nat} {e : TypeId} {c : Nat} (h : w.ownsRow base e size (.slice A n c) n xs) : Reads w w.heap.size size A n xs := by
  refine ⟨h.1, fun hn => ?_⟩
  obtain ⟨g, cap, hv, _, hlt⟩ := h.form hn
  have hA : A = some ⟨g, 0, none⟩ := by injection hv
  subst hA
  exact ⟨_, rfl, hlt, h.cells (g := g) rfl⟩
end

/-- Elements of k cells each. -/
def flat {α : Type} (enc : α → List Value) (xs : List α) : List Value := xs.flatMap enc
theorem flat_length {α : Type} {enc : α → List Value} {k : Nat} (hk : ∀ x, (enc x).length = k) (xs : List α) : (flat enc xs).length = xs.length * k := by
  induction xs with
  | nil => simp [flat]
  | cons x xs ih => simp only [flat, List.flatMap_cons, List.length_append, hk, List.length_cons] at ih ⊢; rw [ih, Nat.add_mul]; omega
theorem flat_get {α : Type} {enc : α → List Value} {k : Nat} (hk : ∀ x, (enc x).length = k) (xs : List α) (j i : Nat) (hi : i < k) (hj : j < xs.length) : (flat enc xs)[j * k + i]? = (enc xs[j])[i]? := by
  induction xs generalizing j with
  | nil => simp at hj
  | cons x xs ih =>
    cases j with
    | zero => simp only [flat, List.flatMap_cons, Nat.zero_mul, Nat.zero_add, List.getElem_cons_zero]; rw [List.getElem?_append_left (by rw [hk]; exact hi)]
    | succ j =>
      have := ih j (by simpa using hj)
      simp only [flat, List.flatMap_cons, List.getElem_cons_succ] at this ⊢
      rw [List.getElem?_append_right (by rw [hk, Nat.succ_mul]; omega), hk, ← this]
      congr 1
      rw [Nat.succ_mul]; omega

/-- A slice value reads as a list of elements. -/
def ReadsL {α : Type} (enc : α → List Value) (k : Nat) (w : World) (B : Nat) (A : Option Addr) (n : Nat) (xs : List α) : Prop := xs.length = n ∧ n ≤ 140737488355328 ∧ Reads w B k A n (flat enc xs)
section
variable {α : Type} {enc : α → List Value} {k : Nat} {w w' : World} {B B' n : Nat} {A : Option Addr} {xs : List α}
theorem ReadsL.more (h : ReadsL enc k w B A n xs) (hB : B ≤ B') : ReadsL enc k w B' A n xs := ⟨h.1, h.2.1, h.2.2.more hB⟩
theorem ReadsL.below (h : ReadsL enc k w B A n xs) (hb : Below B w w') : ReadsL enc k w' B A n xs := ⟨h.1, h.2.1, h.2.2.below hb⟩
theorem ReadsL.below' (h : ReadsL enc k w B A n xs) (hb : Below w.heap.size w w') (hB : B ≤ w.heap.size) : ReadsL enc k w' B A n xs := h.below (hb.mono hB)
theorem ReadsL.drewN (h : ReadsL enc k w B A n xs) (m : Nat) : ReadsL enc k (w.drewN m) B A n xs := h
theorem ReadsL.take (hk : ∀ x, (enc x).length = k) (h : ReadsL enc k w B A n xs) {j : Nat} (hj : j ≤ n) : ReadsL enc k w B A j (xs.take j) := by
  obtain ⟨h1, h2, h3, h4⟩ := h
  refine ⟨by rw [List.length_take]; omega, by omega, by rw [flat_length hk, List.length_take]; congr 1; omega, fun h0 => ?_⟩
  obtain ⟨ad, e, hb, hc⟩ := h4 (by omega)
  refine ⟨ad, e, hb, fun i u hu => hc i u ?_⟩
  have e2 : xs = xs.take j ++ xs.drop j := (List.take_append_drop j xs).symm
  rw [e2]
  unfold flat at hu ⊢
  rw [List.flatMap_append, List.getElem?_append_left (List.getElem?_eq_some_iff.1 hu).1]
  exact hu
theorem ReadsL.row (hk : ∀ x, (enc x).length = k) (h : ReadsL enc k w B A n xs) {j : Nat} (hj : j < xs.length) :
    ∃ ad, A = some ad ∧ ad.block < B ∧ ∀ i u, (enc xs[j])[i]? = some u → w.cell? ((ad.add (j * k)).add i) = some u := by
  obtain ⟨h1, _, _, h3⟩ := h
  obtain ⟨ad, e, hb, hc⟩ := h3 (by omega)
  refine ⟨ad, e, hb, fun i u hu => ?_⟩
  rw [add_of_add]
  refine hc _ _ ?_
  have hi : i < k := by
    have := (List.getElem?_eq_some_iff.1 hu).1
    rwa [hk] at this
  rw [flat_get hk _ _ _ hi hj]
  exact hu
end

/-- What was laid from B on; what lay below is as it was. -/
theorem below_step {w W w2 : World} (h : Below w.heap.size w W) (k : Below W.heap.size W w2) : Below w.heap.size w w2 := h.trans ⟨k.os, k.tape, k.output, k.size, fun i hi => k.block i (Nat.lt_of_lt_of_le hi h.size)⟩
theorem below_new {w W : World} (h : Below w.heap.size w W) (o : Obj) : Below w.heap.size w (W.alloc o) := h.alloc h.size o
theorem below_set {w W : World} {g j : Nat} {v : Value} (h : Below w.heap.size w W) (hg : w.heap.size ≤ g) : Below w.heap.size w (W.setCell ⟨g, j, none⟩ v) := h.setCell hg _
theorem below_drewN {B : Nat} {w W : World} (h : Below B w W) (n : Nat) : Below B w (W.drewN n) := ⟨h.os, h.tape, h.output, h.size, h.block⟩
theorem quiet_eq {P : Program} {f : FuncId} {args : Array Value} {w : World} {n : Nat} {v : Value} (h : Calls P f args (w.drewN n) fun e w' => e = .returned v ∧ w.drewN n = w') : Calls P f args (w.drewN n) fun e w'' => e = .returned v ∧ ∃ m, w'' = w.drewN m :=
  h.mono fun _ _ ⟨he, hm⟩ => ⟨he, n, hm.symm⟩
theorem bcell {W w1 : World} (hb : Below W.heap.size W w1) : (∀ b o, b < W.heap.size → w1.cell? ⟨b, o, none⟩ = W.cell? ⟨b, o, none⟩) ∧ (∀ b o, b < W.heap.size → w1.frozen? ⟨b, o, none⟩ = W.frozen? ⟨b, o, none⟩) :=
  ⟨fun b o h => hb.cell (p := ⟨b, o, none⟩) h, fun b o h => hb.frozen (p := ⟨b, o, none⟩) h⟩

/-! The kinds of elements. -/
def encI (x : Int) : List Value := [.int .i64 x]
def encV (x : Vl) : List Value := [.int .i64 x.k, .int .i64 x.n]
theorem encI_length (x : Int) : (encI x).length = 1 := rfl
theorem encV_length (x : Vl) : (encV x).length = 2 := rfl
abbrev ReadsI := ReadsL encI 1
abbrev ReadsV := ReadsL encV 2
theorem ReadsL.int {w : World} {B n : Nat} {A : Option Addr} {xs : List Int} (h : ReadsI w B A n xs) {j : Nat} (hj : j < xs.length) : ∃ ad, A = some ad ∧ ad.block < B ∧ w.cell? (ad.add j) = some (.int .i64 xs[j]) := by
  obtain ⟨ad, e, hb, hc⟩ := h.row encI_length hj
  refine ⟨ad, e, hb, ?_⟩
  have := hc 0 _ rfl
  rwa [Nat.mul_one, add_of_add] at this
theorem ReadsL.val {w : World} {B n : Nat} {A : Option Addr} {xs : List Vl} (h : ReadsV w B A n xs) {j : Nat} (hj : j < xs.length) :
    ∃ ad, A = some ad ∧ ad.block < B ∧ w.cell? (ad.add (j * 2)) = some (.int .i64 xs[j].k) ∧ w.cell? ⟨(ad.add (j * 2)).block, (ad.add (j * 2)).off + 1, none⟩ = some (.int .i64 xs[j].n) := by
  obtain ⟨ad, e, hb, hc⟩ := h.row encV_length hj
  refine ⟨ad, e, hb, ?_, ?_⟩
  · have := hc 0 _ rfl
    rwa [add_of_add] at this
  · have := hc 1 _ rfl
    rw [add_of_add] at this
    rw [← this, add_succ ad (j * 2) 0]

/-! A variable in memory: its block and the world behind it get names. -/
section
variable {P : Program} {ops : Array Oper} {rest : List Oper} {o : Oper} {a : Act} {Q : Exit → Act → World → Prop} {W : World}
theorem gate_dst {N : Tmp} (_hN : o.dst = some N) (h : wpList P ops Q (o :: rest) a W) : wpList P ops Q (o :: rest) a W := h
/-- What is known of a block of one's own. -/
def Box (w : World) (g : Nat) (cs : Array Value) : Prop := g < w.heap.size ∧ ∀ j, w.cell? ⟨g, j, none⟩ = cs[j]?
theorem Box.below {w w' : World} {g : Nat} {cs : Array Value} (h : Box w g cs) (hb : Below w.heap.size w w') : Box w' g cs :=
  ⟨Nat.lt_of_lt_of_le h.1 hb.size, fun j => (hb.cell (p := ⟨g, j, none⟩) h.1).trans (h.2 j)⟩
theorem box_ev (hgd : o.guard = none) {N : Tmp} (_hd : o.dst = some N) {cs : Array Value} {t : TypeId}
    (hrun : (execOp a.eval o).run P W = .ok (.value (.pointer (some ⟨W.heap.size, 0, none⟩))) (W.alloc (.cells cs t (0, 0))))
    (h : ∀ g w1, W.heap.size ≤ g → Box w1 g cs → Below W.heap.size W w1 → wpList P ops Q rest (a.put o.dst (.pointer (some ⟨g, 0, none⟩))) w1) : wpList P ops Q (o :: rest) a W := by
  refine wpList_plain hgd fun K hK => ?_
  unfold Oper.wp
  rw [hrun]
  refine hK _ _ (h W.heap.size _ (Nat.le_refl _) ⟨by simp, fun j => ?_⟩ (below_new (Below.refl _ _) _))
  exact cell_of_row _ _ j cs t (0, 0) (heap_alloc_new W _)
end
theorem keep1 {W w' : World} {A : Addr} {u : Value} (hb : Below W.heap.size W w') (ha : A.block < W.heap.size) (h1 : W.cell? A = some u) : w'.cell? A = some u := (hb.cell ha).trans h1
theorem keep2 {W w' : World} {A : Addr} {u v : Value} (hb : Below W.heap.size W w') (ha : A.block < W.heap.size) (h1 : W.cell? A = some u) (h2 : W.cell? ⟨A.block, A.off + 1, none⟩ = some v) :
    w'.cell? A = some u ∧ w'.cell? ⟨A.block, A.off + 1, none⟩ = some v := ⟨(hb.cell ha).trans h1, (hb.cell (p := ⟨A.block, A.off + 1, none⟩) ha).trans h2⟩
theorem keepB {W w' : World} {g : Nat} {cs : Array Value} (hb : Below W.heap.size W w') (hg : g < W.heap.size) (h : ∀ j, W.cell? ⟨g, j, none⟩ = cs[j]?) : ∀ j, w'.cell? ⟨g, j, none⟩ = cs[j]? := fun j => (hb.cell (p := ⟨g, j, none⟩) hg).trans (h j)

/-- A run as it lies in memory: where its lists lie. -/
structure RA where
  sA : Option Addr
  sC : Nat
  mA : Option Addr
  mC : Nat
  lA : Option Addr
  lC : Nat
  wA : Option Addr
  wC : Nat
abbrev runArr (r : Rn) (a : RA) : Array Value :=
  #[.int .i64 r.id, .int .i64 r.at_, .slice a.sA r.slots.length a.sC, .int .i64 r.full, .slice a.mA r.mail.length a.mC, .int .i64 r.state, .int .i64 r.due, .slice a.lA r.links.length a.lC, .slice a.wA r.watched.length a.wC, .bool r.trap, .int .i64 r.why.k, .int .i64 r.why.n, .int .i64 r.turns]
/-- A run's lists read. -/
structure ReadsRun (w : World) (B : Nat) (r : Rn) (a : RA) : Prop where
  slots : ReadsV w B a.sA r.slots.length r.slots
  mail : ReadsV w B a.mA r.mail.length r.mail
  links : ReadsI w B a.lA r.links.length r.links
  watched : ReadsI w B a.wA r.watched.length r.watched
  sC : r.slots.length ≤ a.sC
  mC : r.mail.length ≤ a.mC
  lC : r.links.length ≤ a.lC
  wC : r.watched.length ≤ a.wC
theorem ReadsRun.below {w w' : World} {B : Nat} {r : Rn} {a : RA} (h : ReadsRun w B r a) (hb : Below w.heap.size w w') (hB : B ≤ w.heap.size) : ReadsRun w' B r a :=
  ⟨h.slots.below' hb hB, h.mail.below' hb hB, h.links.below' hb hB, h.watched.below' hb hB, h.sC, h.mC, h.lC, h.wC⟩
theorem ReadsRun.more {w : World} {B B' : Nat} {r : Rn} {a : RA} (h : ReadsRun w B r a) (hB : B ≤ B') : ReadsRun w B' r a :=
  ⟨h.slots.more hB, h.mail.more hB, h.links.more hB, h.watched.more hB, h.sC, h.mC, h.lC, h.wC⟩

end Go.Proofs.YtomolbhcggaakaaGreat
/- A run of the laws, given as an argument, opened: its fields and what its lists hold. -/
namespace Go.Proofs.YtomolbhcggaakaaGreat
set_option maxRecDepth 100000
open Go.ChangeShapes Go.WideShapes Go.ChangeAt Go.RowKit Go.Deep

theorem reads_of_cells {α : Type} {enc : α → List Value} {k : Nat} (hk : ∀ x, (enc x).length = k) (h0 : 0 < k) {w : World} {a : Addr} {xs : List α} (hn : xs.length ≤ 140737488355328)
    (h : ∀ j (hj : j < xs.length) i, i < k → w.cell? (a.add (j * k + i)) = (enc xs[j])[i]?) : ReadsL enc k w w.heap.size (some a) xs.length xs := by
  refine ⟨rfl, hn, flat_length hk xs, fun hp => ⟨a, rfl, ?_, fun j u hu => ?_⟩⟩
  · have := h 0 hp 0 h0
    rw [List.getElem?_eq_getElem (by rw [hk]; exact h0)] at this
    have := World.block_lt_of_cell? w _ this
    rwa [block_of_add] at this
  · have hj : j < (flat enc xs).length := (List.getElem?_eq_some_iff.1 hu).1
    rw [flat_length hk] at hj
    have hq : j / k < xs.length := by rw [Nat.div_lt_iff_lt_mul h0]; exact hj
    have hr : j % k < k := Nat.mod_lt _ h0
    have e : j / k * k + j % k = j := Nat.div_add_mod' j k
    have := flat_get hk xs (j / k) (j % k) hr hq
    rw [e, hu] at this
    have g := h (j / k) hq (j % k) hr
    rw [e, ← this] at g
    exact g

section
variable {H : Type} {enc : TypeId × Value → H} {w : World} {base n : Nat} {held : Bool}
theorem cells3 : Tryz.prog.cellsOf 3 = 1 := by kernel_rfl
theorem cells4 : Tryz.prog.cellsOf 4 = 1 := by kernel_rfl
theorem cellsV : Tryz.prog.cellsOf 42 = 2 := by kernel_rfl
theorem cellsVs : Tryz.prog.cellsOf 88 = 1 := by kernel_rfl
theorem cellsIs : Tryz.prog.cellsOf 24 = 1 := by kernel_rfl
theorem cellsR : Tryz.prog.cellsOf 90 = 13 := by kernel_rfl
theorem bytesV : Tryz.prog.bytesOf 42 = 16 := by kernel_rfl
theorem bytesI : Tryz.prog.bytesOf 3 = 8 := by kernel_rfl

theorem open_val {cs : List Value} {y : DataW H × List MemPlace} {spare : Nat → Bool} (h : DataW.trod enc Tryz.prog w base spare held n 42 cs = some y) : ∃ x : Vl, cs = encV x := by
  obtain ⟨ys, n', _, _, hlen, hyl, hf⟩ := DataW.trod_struct Tryz.underlying42 h
  match cs, hlen.trans cellsV with
  | [c0, c1], _ =>
    match ys, hyl with
    | [y0, y1], _ =>
      have g0 := hf 0 _ rfl
      have g1 := hf 1 _ rfl
      simp only [List.getElem?_cons_zero, List.getElem?_cons_succ] at g0 g1
      obtain ⟨k, e0, _⟩ := DataW.trod_int Tryz.underlying3 g0
      obtain ⟨m, e1, _⟩ := DataW.trod_int Tryz.underlying3 g1
      exact ⟨⟨k, m⟩, by injection e0 with e0; injection e1 with e1; rw [e0, e1]; rfl⟩

theorem open_vals {c : Value} {y : DataW H × List MemPlace} (h : DataW.trod enc Tryz.prog w base (fun _ => true) held n 88 [c] = some y) (hw : ∀ k ∈ y.1.weights Tryz.prog 88, k ≤ reachBytes) :
    ∃ (A : Option Addr) (xs : List Vl) (cap : Nat), c = .slice A xs.length cap ∧ xs.length ≤ cap ∧ xs.length * 16 ≤ 140737488351232 ∧ ReadsV w w.heap.size A xs.length xs := by
  rcases open_slice Tryz.underlying88 h with ⟨hcs, _⟩ | ⟨a, len, cap, m, n', D, Pl, hcs, _, hl, _, hmm, hx, hi⟩
  · exact ⟨none, [], 0, by injection hcs, Nat.le_refl _, by decide, rfl, by decide, Reads.none_⟩
  · simp only [if_true] at hmm
    subst hmm
    have hc : ∀ i, i < m → ∃ x : Vl, ∀ j, j < 2 → w.cell? (a.add (i * 2 + j)) = (encV x)[j]? := by
      intro i hi'
      obtain ⟨cs', hcells, ht⟩ := hi i hi'
      obtain ⟨x, rfl⟩ := open_val ht
      rw [cellsV] at hcells
      obtain ⟨_, _, hat⟩ := World.cells?_some hcells
      exact ⟨x, fun j hj => by rw [← Go.Deep.add_add]; exact hat j hj⟩
    have hs : m * 16 ≤ 140737488351232 := by
      have := hw ((List.length ((List.range len).map D) + List.length ((List.range (m - len)).map fun j => D (len + j))) * Tryz.prog.bytesOf 42) (by rw [hx]; simp [DataW.weights, Tryz.underlying88])
      rw [bytesV] at this
      simp only [List.length_map, List.length_range] at this
      have e : len + (m - len) = m := by omega
      rw [e] at this
      exact this
    let F : Nat → Vl := fun i => if h : i < m then Classical.choose (hc i h) else ⟨0, 0⟩
    have hF : ∀ i, i < m → ∀ j, j < 2 → w.cell? (a.add (i * 2 + j)) = (encV (F i))[j]? := by
      intro i hi'
      have := Classical.choose_spec (hc i hi')
      simp only [F, dif_pos hi']
      exact this
    have hlen : ((List.range len).map F).length = len := by simp
    refine ⟨some a, (List.range len).map F, m, by rw [hlen]; injection hcs, by rw [hlen]; exact hl, by rw [hlen]; omega, ?_⟩
    refine reads_of_cells encV_length (by decide) (by rw [hlen]; omega) fun j hj i hi' => ?_
    rw [hlen] at hj
    rw [hF j (by omega) i hi']
    simp

theorem open_is {c : Value} {y : DataW H × List MemPlace} (h : DataW.trod enc Tryz.prog w base (fun _ => true) held n 24 [c] = some y) (hw : ∀ k ∈ y.1.weights Tryz.prog 24, k ≤ reachBytes) :
    ∃ (A : Option Addr) (xs : List Int) (cap : Nat), c = .slice A xs.length cap ∧ xs.length ≤ cap ∧ xs.length * 8 ≤ 140737488351232 ∧ ReadsI w w.heap.size A xs.length xs := by
  rcases open_ints Tryz.underlying24 Tryz.underlying3 cells3 h with ⟨hcs, _⟩ | ⟨a, len, cap, zs, hcs, _, hl, _, hz, hx, hcell, _⟩
  · exact ⟨none, [], 0, by injection hcs, Nat.le_refl _, by decide, rfl, by decide, Reads.none_⟩
  · simp only [if_true] at hz
    have hs : cap * 8 ≤ 140737488351232 := by
      have := hw ((List.length (lits (H := H) .i64 (zs.take len)) + List.length (lits (H := H) .i64 (zs.drop len))) * Tryz.prog.bytesOf 3) (by rw [hx]; simp [DataW.weights, Tryz.underlying24])
      rw [bytesI] at this
      simp only [lits, List.length_map, List.length_take, List.length_drop] at this
      have e : min len zs.length + (zs.length - len) = cap := by omega
      rw [e] at this
      exact this
    have hlen : (zs.take len).length = len := by rw [List.length_take]; omega
    refine ⟨some a, zs.take len, cap, by rw [hlen]; injection hcs, by rw [hlen]; exact hl, by rw [hlen]; omega, ?_⟩
    refine reads_of_cells encI_length (by decide) (by rw [hlen]; omega) fun j hj i hi' => ?_
    rw [hlen] at hj
    obtain rfl : i = 0 := by omega
    rw [Nat.mul_one, Nat.add_zero, hcell j (by omega)]
    simp [encI, List.getD_eq_getElem?_getD, List.getElem?_eq_getElem (show j < zs.length by omega)]
end
end Go.Proofs.YtomolbhcggaakaaGreat
