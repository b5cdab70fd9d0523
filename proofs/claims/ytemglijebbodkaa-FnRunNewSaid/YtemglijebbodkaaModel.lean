/- The plain words of this seat's proofs: values, steps, runs, worlds and what is done with them, without Go and memory. -/
namespace Go.Proofs.Ytemglijebbodkaa

/-- A value. -/
structure Vl where
  k : Int
  n : Int
theorem Vl.ext_ {a b : Vl} (h1 : a.k = b.k) (h2 : a.n = b.n) : a = b := by cases a; cases b; simp_all
instance : DecidableEq Vl := fun a b => if h : a.k = b.k ∧ a.n = b.n then isTrue (Vl.ext_ h.1 h.2) else isFalse (by rintro rfl; exact h ⟨rfl, rfl⟩)
instance : Inhabited Vl := ⟨⟨0, 0⟩⟩
def Vl.zero : Vl := ⟨0, 0⟩

/-- A step. -/
structure Opx where
  k : Int
  r : Int
  s : Int
  to : Int
  v : Vl
instance : Inhabited Opx := ⟨⟨0, 0, 0, 0, Vl.zero⟩⟩

/-- A run. -/
structure Rn where
  id : Int
  at_ : Int
  slots : List Vl
  full : Int
  mail : List Vl
  state : Int
  due : Int
  links : List Int
  watched : List Int
  trap : Bool
  why : Vl
  turns : Int
def Rn.zero : Rn := ⟨0, 0, [], 0, [], 0, 0, [], [], false, Vl.zero, 0⟩
instance : Inhabited Rn := ⟨Rn.zero⟩

/-- A world. -/
structure Wd where
  code : List Opx
  runs : List Rn
  queue : List Int
  now : Int
  sent : Int
  taken : Int
  lost : Int
def Wd.zero : Wd := ⟨[], [], [], 0, 0, 0, 0⟩

def inB (n lo hi : Int) : Bool := decide (lo ≤ n) && decide (n ≤ hi)
theorem inB_iff {n lo hi : Int} : inB n lo hi = true ↔ lo ≤ n ∧ n ≤ hi := by simp [inB]

def valOk (v : Vl) : Bool :=
  if v.k = 0 then v.n == 0 else if v.k = 1 then inB v.n (-99) 99 else if v.k = 2 then inB v.n 0 9 else if v.k = 3 then inB v.n 1 6 else false

/-- The bit of a slot. -/
def bitI (s : Int) : Int := if s = 0 then 1 else if s = 1 then 2 else if s = 2 then 4 else 8
def hasBit (f s : Int) : Bool := f / bitI s % 2 == 1
def withBit (f s : Int) : Int := if hasBit f s then f else f + bitI s

/-- Numbers of other runs, each once, behind those of pre. -/
def idsFrom (own : Int) : List Int → List Int → Bool
  | _, [] => true
  | pre, x :: xs => inB x 1 6 && !(x == own) && !(pre.contains x) && idsFrom own (pre ++ [x]) xs
def idsOk (l : List Int) (own : Int) : Bool := idsFrom own [] l

def slotsFrom (f : Int) : Int → List Vl → Bool
  | _, [] => true
  | i, v :: vs => valOk v && (hasBit f i || v == Vl.zero) && slotsFrom f (i + 1) vs

def runOk (r : Rn) : Bool :=
  inB r.id 1 6 && inB r.at_ 0 15 && r.slots.length == 4 && inB r.full 0 15 && decide (r.mail.length ≤ 12) && inB r.state 1 3 && inB r.due (-1) 400 && inB r.turns 0 9999
    && slotsFrom r.full 0 r.slots && r.mail.all valOk && idsOk r.links r.id && idsOk r.watched r.id && valOk r.why
    && (if r.state = 3 then r.mail.isEmpty && r.links.isEmpty && r.watched.isEmpty else r.why == Vl.zero)

def newRun (id at_ : Int) (v : Vl) : Rn := ⟨id, at_, [v, Vl.zero, Vl.zero, Vl.zero], 1, [], 1, 0, [], [], false, Vl.zero, 0⟩
def runNew (id at_ : Int) (v : Vl) : Rn × Bool := if inB id 1 6 && inB at_ 0 15 && valOk v then (newRun id at_ v, true) else (Rn.zero, false)

def fits (v : Vl) (kind : Int) : Bool := kind == 0 || v.k == kind
def valFits (v : Vl) (kind : Int) : Bool := valOk v && inB kind 0 3 && fits v kind
def firstIx (m : List Vl) (kind : Int) : Option Nat := m.findIdx? (fits · kind)
def firstI (m : List Vl) (kind : Int) : Int := match firstIx m kind with | some i => i | none => -1

def runFirst (r : Rn) (kind : Int) : Int × Bool :=
  if runOk r && inB kind 0 3 then (match firstIx r.mail kind with | some i => ((i : Int), true) | none => (0, false)) else (0, false)
def runTake (r : Rn) (kind : Int) : Rn × Vl × Bool :=
  if runOk r && inB kind 0 3 then (match firstIx r.mail kind with | some i => ({ r with mail := r.mail.eraseIdx i }, r.mail.getD i Vl.zero, true) | none => (Rn.zero, Vl.zero, false)) else (Rn.zero, Vl.zero, false)
def runPut (r : Rn) (slot : Int) (v : Vl) : Rn :=
  if runOk r && inB slot 0 3 && valOk v then { r with slots := r.slots.set slot.toNat v, full := withBit r.full slot } else Rn.zero

end Go.Proofs.Ytemglijebbodkaa
