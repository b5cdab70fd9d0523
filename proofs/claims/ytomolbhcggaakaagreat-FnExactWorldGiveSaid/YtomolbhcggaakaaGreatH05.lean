/- Parts of the proof, in one text. -/
import Derived.Test.YtomolbhcggaakaaGreatH04
import Derived.Test.YtomolbhcggaakaaGreatH02
/- Worlds that are held. -/
namespace Go.Proofs.YtomolbhcggaakaaGreat
open Go.RowKit

/-! ### Worlds -/
abbrev tO : Nat := 93
abbrev tW : Nat := 32
def encO (o : Opx) : List Value := [.int .i64 o.k, .int .i64 o.r, .int .i64 o.s, .int .i64 o.to, .int .i64 o.v.k, .int .i64 o.v.n]
theorem encO_length (o : Opx) : (encO o).length = 6 := rfl
theorem oneO (o : Opx) : ∀ u ∈ encO o, u.oneCell' = true := by
  intro u hu
  simp only [encO, List.mem_cons, List.not_mem_nil, or_false] at hu
  rcases hu with rfl | rfl | rfl | rfl | rfl | rfl <;> rfl
structure Wm where
  code : List Opx
  cA : Option Addr
  cC : Nat
  ps : List (Rn × RA)
  rA : Option Addr
  rC : Nat
  queue : List Int
  qA : Option Addr
  qC : Nat
  now : Int
  sent : Int
  taken : Int
  lost : Int
def Wm.wd (W : Wm) : Wd := ⟨W.code, W.ps.map (·.1), W.queue, W.now, W.sent, W.taken, W.lost⟩
abbrev wArr (W : Wm) : Array Value := #[.slice W.cA W.code.length W.cC, .slice W.rA W.ps.length W.rC, .slice W.qA W.queue.length W.qC, .int .i64 W.now, .int .i64 W.sent, .int .i64 W.taken, .int .i64 W.lost]
def rowO (A : Option Addr) (c : Nat) (xs : List Opx) : Asn := row encO 6 tO A c xs
def rowR (A : Option Addr) (c : Nat) (xs : List (Rn × RA)) : Asn := row encR 13 tR A c xs
theorem rowO_F {A : Option Addr} {c : Nat} {xs : List Opx} {w : World} : (rowO A c xs).F w = True := rfl
theorem rowR_F {A : Option Addr} {c : Nat} {xs : List (Rn × RA)} {w : World} : (rowR A c xs).F w = True := rfl
def wldL (W : Wm) : List Asn := [rowO W.cA W.cC W.code, rowR W.rA W.rC W.ps, rowI W.qA W.qC W.queue, rws W.ps]
def wld (W : Wm) : Asn := pack (wldL W)
theorem wld_F {W : Wm} {w : World} : (wld W).F w = True := rfl
theorem FXw : (∀ A c xs w, (rowO A c xs).F w = True) ∧ (∀ A c xs w, (rowR A c xs).F w = True) ∧ (∀ ps w, (rws ps).F w = True) ∧ (∀ W w, (wld W).F w = True) := ⟨fun _ _ _ _ => rfl, fun _ _ _ _ => rfl, fun _ _ => rfl, fun _ _ => rfl⟩
section
variable {w0 w : World} {f : List Nat} {L L' : List Asn} {Fc : World → Prop}
theorem fxw (M : Mem w0 f w L) (hF : ∀ w, facts w L = Fc w := by (intro w; (conv => lhs; simp only [FX, FXw]) <;> rfl)) : Fc w := by rw [← hF]; exact M.facts
theorem nmw {G : World → Prop} (h : ∀ w1, Mem w0 f w1 L' → Fc w1 → G w1) (M : Mem w0 f w L := by with_reducible repeat (first | exact M | apply Mem.drew | apply Mem.drewN | apply Mem.allocD | apply Mem.setV | apply Mem.setD | exact Del.here | apply Del.there | assumption)) (e : L = L' := by ((try simp only [LX]) <;> rfl)) (hF : ∀ w, facts w L' = Fc w := by (intro w; (conv => lhs; simp only [FX, FXw]) <;> rfl)) : G w := by subst e; exact h w M (fxw M hF)
theorem nmKw {P : Program} {n : Nat} {ag : Array Value} {Q : Ending → World → Prop} (h : ∀ w1, Mem w0 f w1 L' → Fc w1 → Calls P n ag w1 Q) (M : Mem w0 f w L := by with_reducible repeat (first | exact M | apply Mem.drew | apply Mem.drewN | apply Mem.allocD | apply Mem.setV | apply Mem.setD | exact Del.here | apply Del.there | assumption)) (e : L = L' := by ((try simp only [LX]) <;> rfl)) (hF : ∀ w, facts w L' = Fc w := by (intro w; (conv => lhs; simp only [FX, FXw]) <;> rfl)) : Calls P n ag w Q := nmw (G := fun W => Calls P n ag W Q) h M e hF
theorem alAw {P : Program} {ops : Array Oper} {Q : Exit → Act → World → Prop} {r : List Oper} {a : Act} {t : TypeId} {cs : List Value} (M : Mem w0 f w L) (h : ∀ w1, Mem w0 f w1 (blk w.heap.size t cs :: L) → Fc w1 → wpList P ops Q r a w1) (hF : ∀ w1, facts w1 (blk w.heap.size t cs :: L) = Fc w1 := by (intro w; (conv => lhs; simp only [FX, FXw]) <;> rfl)) : wpList P ops Q r a (w.alloc (.cells cs.toArray t (0, 0))) := h _ (M.alloc t cs) (fxw (M.alloc t cs) hF)
end
end Go.Proofs.YtomolbhcggaakaaGreat
/- A world that a law is given: what its lists hold. -/
namespace Go.Proofs.YtomolbhcggaakaaGreat
open Go.RowKit

/-- A world that a law is given. -/
structure ReadsW (w : World) (B : Nat) (W : Wm) : Prop where
  code : ReadsL encO 6 w B W.cA W.code.length W.code
  runs : ReadsL encR 13 w B W.rA W.ps.length W.ps
  queue : ReadsI w B W.qA W.queue.length W.queue
  each : ∀ k (hk : k < W.ps.length), ReadsRun w B W.ps[k].1 W.ps[k].2
theorem ReadsW.below {w w' : World} {B : Nat} {W : Wm} (h : ReadsW w B W) (hb : Below w.heap.size w w') (hB : B ≤ w.heap.size) : ReadsW w' B W :=
  ⟨h.code.below' hb hB, h.runs.below' hb hB, h.queue.below' hb hB, fun k hk => (h.each k hk).below hb hB⟩
/-- Its lists fit into memory. -/
structure SizesW (W : Wm) : Prop where
  code : W.code.length * 48 ≤ 140737488351232
  runs : W.ps.length * 168 ≤ 140737488351232
  queue : W.queue.length * 8 ≤ 140737488351232
  each : ∀ k (hk : k < W.ps.length), W.ps[k].1.slots.length * 16 ≤ 140737488351232 ∧ W.ps[k].1.mail.length * 16 ≤ 140737488351232 ∧ W.ps[k].1.links.length * 8 ≤ 140737488351232 ∧ W.ps[k].1.watched.length * 8 ≤ 140737488351232
end Go.Proofs.YtomolbhcggaakaaGreat
/- A world of the laws, given as an argument, opened: its fields and what its lists hold. -/
namespace Go.Proofs.YtomolbhcggaakaaGreat
set_option maxRecDepth 100000
open Go.ChangeShapes Go.WideShapes Go.ChangeAt Go.RowKit Go.Deep

theorem weights_all {H : Type} {P : Program} {e : TypeId} {k : Nat} : ∀ {l : List (DataW H)} {d : DataW H}, d ∈ l → k ∈ d.weights P e → k ∈ DataW.weightsAll P e l := by
  intro l
  induction l with
  | nil => intro d h; simp at h
  | cons x l ih =>
    intro d h hk
    rw [DataW.weightsAll]
    rcases List.mem_cons.1 h with rfl | h
    · exact List.mem_append_left _ hk
    · exact List.mem_append_right _ (ih h hk)
section
variable {H : Type} {enc : TypeId × Value → H} {w : World} {base n : Nat} {held : Bool}
theorem cellsOp : Tryz.prog.cellsOf 100 = 6 := by kernel_rfl
theorem cellsW : Tryz.prog.cellsOf 26 = 7 := by kernel_rfl
theorem cellsOs : Tryz.prog.cellsOf 22 = 1 := by kernel_rfl
theorem cellsRs : Tryz.prog.cellsOf 23 = 1 := by kernel_rfl
theorem bytesOp : Tryz.prog.bytesOf 100 = 48 := by kernel_rfl
theorem bytesR : Tryz.prog.bytesOf 90 = 168 := by kernel_rfl

theorem open_op {cs : List Value} {y : DataW H × List MemPlace} {spare : Nat → Bool} (h : DataW.trod enc Tryz.prog w base spare held n 100 cs = some y) : ∃ x : Opx, cs = encO x := by
  obtain ⟨ys, n', _, _, hlen, hyl, hf⟩ := DataW.trod_struct Tryz.underlying100 h
  match cs, hlen.trans cellsOp with
  | [c0, c1, c2, c3, c4, c5], _ =>
    match ys, hyl with
    | [y0, y1, y2, y3, y4], _ =>
      have key := field_of hf
      have g0 := key 0 3 0 rfl
      have g1 := key 1 3 1 rfl
      have g2 := key 2 3 2 rfl
      have g3 := key 3 3 3 rfl
      have g4 := key 4 42 4 rfl
      simp only [cells3, cellsV, List.drop_zero, List.drop_succ_cons, List.take_succ_cons, List.take_zero, List.getElem?_cons_zero, List.getElem?_cons_succ] at g0 g1 g2 g3 g4
      obtain ⟨k, e0, _⟩ := DataW.trod_int Tryz.underlying3 g0
      obtain ⟨r, e1, _⟩ := DataW.trod_int Tryz.underlying3 g1
      obtain ⟨s, e2, _⟩ := DataW.trod_int Tryz.underlying3 g2
      obtain ⟨to, e3, _⟩ := DataW.trod_int Tryz.underlying3 g3
      obtain ⟨v, e4⟩ := open_val g4
      simp only [encV, List.cons.injEq, and_true] at e0 e1 e2 e3 e4
      obtain ⟨e4, e5⟩ := e4
      subst e0 e1 e2 e3 e4 e5
      exact ⟨⟨k, r, s, to, v⟩, rfl⟩
theorem open_ops {c : Value} {y : DataW H × List MemPlace} (h : DataW.trod enc Tryz.prog w base (fun _ => true) held n 22 [c] = some y) (hw : ∀ k ∈ y.1.weights Tryz.prog 22, k ≤ reachBytes) :
    ∃ (A : Option Addr) (xs : List Opx) (cap : Nat), c = .slice A xs.length cap ∧ xs.length ≤ cap ∧ xs.length * 48 ≤ 140737488351232 ∧ ReadsL encO 6 w w.heap.size A xs.length xs := by
  rcases open_slice Tryz.underlying22 h with ⟨hcs, _⟩ | ⟨a, len, cap, m, n', D, Pl, hcs, _, hl, _, hmm, hx, hi⟩
  · exact ⟨none, [], 0, by injection hcs, Nat.le_refl _, by decide, rfl, by decide, Reads.none_⟩
  · simp only [if_true] at hmm
    subst hmm
    have hc : ∀ i, i < m → ∃ x : Opx, ∀ j, j < 6 → w.cell? (a.add (i * 6 + j)) = (encO x)[j]? := by
      intro i hi'
      obtain ⟨cs', hcells, ht⟩ := hi i hi'
      obtain ⟨x, rfl⟩ := open_op ht
      rw [cellsOp] at hcells
      obtain ⟨_, _, hat⟩ := World.cells?_some hcells
      exact ⟨x, fun j hj => by rw [← Go.Deep.add_add]; exact hat j hj⟩
    have hs : m * 48 ≤ 140737488351232 := by
      have := hw ((List.length ((List.range len).map D) + List.length ((List.range (m - len)).map fun j => D (len + j))) * Tryz.prog.bytesOf 100) (by rw [hx]; simp [DataW.weights, Tryz.underlying22])
      rw [bytesOp] at this
      simp only [List.length_map, List.length_range] at this
      have e : len + (m - len) = m := by omega
      rw [e] at this
      exact this
    let F : Nat → Opx := fun i => if h : i < m then Classical.choose (hc i h) else default
    have hF : ∀ i, i < m → ∀ j, j < 6 → w.cell? (a.add (i * 6 + j)) = (encO (F i))[j]? := by
      intro i hi'
      have := Classical.choose_spec (hc i hi')
      simp only [F, dif_pos hi']
      exact this
    have hlen : ((List.range len).map F).length = len := by simp
    refine ⟨some a, (List.range len).map F, m, by rw [hlen]; injection hcs, by rw [hlen]; exact hl, by rw [hlen]; omega, ?_⟩
    refine reads_of_cells encO_length (by decide) (by rw [hlen]; omega) fun j hj i hi' => ?_
    rw [hlen] at hj
    rw [hF j (by omega) i hi']
    simp
theorem open_runC {cs : List Value} {y : DataW H × List MemPlace} (h : DataW.trod enc Tryz.prog w base (fun _ => true) held n 90 cs = some y) (hw : ∀ k ∈ y.1.weights Tryz.prog 90, k ≤ reachBytes) :
    ∃ p : Rn × RA, cs = encR p ∧ ReadsRun w w.heap.size p.1 p.2 ∧ p.1.slots.length * 16 ≤ 140737488351232 ∧ p.1.mail.length * 16 ≤ 140737488351232 ∧ p.1.links.length * 8 ≤ 140737488351232 ∧ p.1.watched.length * 8 ≤ 140737488351232 := by
  obtain ⟨xs, n', _, hx, hsz, hlen, hg⟩ := DataW.trod_struct Tryz.underlying90 h
  match cs, hsz.trans cellsR with
  | [c0, c1, c2, c3, c4, c5, c6, c7, c8, c9, c10, c11, c12], _ =>
    match xs, hlen with
    | [y0, y1, y2, y3, y4, y5, y6, y7, y8, y9, y10, y11], _ =>
      have hd : y.1 = _ := congrArg (·.1) hx
      simp only at hd
      rw [hd] at hw
      have hwe : ∀ (j : Nat) (t : TypeId) (dd : DataW H), ([3, 3, 88, 3, 88, 3, 3, 24, 24, 4, 42, 3] : List TypeId)[j]? = some t → ([y0, y1, y2, y3, y4, y5, y6, y7, y8, y9, y10, y11].map (·.1))[j]? = some dd → ∀ k ∈ dd.weights Tryz.prog t, k ≤ reachBytes := by
        intro j t dd ht hdd k hk
        refine hw k ?_
        have := DataW.weights_mem_each ht hdd k hk
        simpa only [DataW.weights, Tryz.underlying90, List.map_cons, List.map_nil] using this
      have key := field_of hg
      have g0 := key 0 3 0 rfl
      have g1 := key 1 3 1 rfl
      have g2 := key 2 88 2 rfl
      have g3 := key 3 3 3 rfl
      have g4 := key 4 88 4 rfl
      have g5 := key 5 3 5 rfl
      have g6 := key 6 3 6 rfl
      have g7 := key 7 24 7 rfl
      have g8 := key 8 24 8 rfl
      have g9 := key 9 4 9 rfl
      have g10 := key 10 42 10 rfl
      have g11 := key 11 3 12 rfl
      simp only [cells3, cells4, cellsV, cellsVs, cellsIs, List.drop_zero, List.drop_succ_cons, List.take_succ_cons, List.take_zero, List.getElem?_cons_zero, List.getElem?_cons_succ] at g0 g1 g2 g3 g4 g5 g6 g7 g8 g9 g10 g11
      obtain ⟨id, e0, _⟩ := DataW.trod_int Tryz.underlying3 g0
      obtain ⟨at_, e1, _⟩ := DataW.trod_int Tryz.underlying3 g1
      obtain ⟨sA, slots, sC, rfl, hsl, hsb, hsr⟩ := open_vals g2 (hwe 2 _ _ rfl rfl)
      obtain ⟨full, e3, _⟩ := DataW.trod_int Tryz.underlying3 g3
      obtain ⟨mA, mail, mC, rfl, hml, hmb, hmr⟩ := open_vals g4 (hwe 4 _ _ rfl rfl)
      obtain ⟨state, e5, _⟩ := DataW.trod_int Tryz.underlying3 g5
      obtain ⟨due, e6, _⟩ := DataW.trod_int Tryz.underlying3 g6
      obtain ⟨lA, links, lC, rfl, hll, hlb, hlr⟩ := open_is g7 (hwe 7 _ _ rfl rfl)
      obtain ⟨wA, watched, wC, rfl, hwl, hwb, hwr⟩ := open_is g8 (hwe 8 _ _ rfl rfl)
      obtain ⟨trap, e9, _⟩ := DataW.trod_bool Tryz.underlying4 g9
      obtain ⟨why, e10⟩ := open_val g10
      obtain ⟨turns, e11, _⟩ := DataW.trod_int Tryz.underlying3 g11
      simp only [encV, List.cons.injEq, and_true] at e0 e1 e3 e5 e6 e9 e10 e11
      subst e0 e1 e3 e5 e6 e9 e11
      obtain ⟨rfl, rfl⟩ := e10
      exact ⟨(⟨id, at_, slots, full, mail, state, due, links, watched, trap, why, turns⟩, ⟨sA, sC, mA, mC, lA, lC, wA, wC⟩), rfl, ⟨hsr, hmr, hlr, hwr, hsl, hml, hll, hwl⟩, hsb, hmb, hlb, hwb⟩
theorem open_runs {c : Value} {y : DataW H × List MemPlace} (h : DataW.trod enc Tryz.prog w base (fun _ => true) held n 23 [c] = some y) (hw : ∀ k ∈ y.1.weights Tryz.prog 23, k ≤ reachBytes) :
    ∃ (A : Option Addr) (xs : List (Rn × RA)) (cap : Nat), c = .slice A xs.length cap ∧ xs.length ≤ cap ∧ xs.length * 168 ≤ 140737488351232 ∧ ReadsL encR 13 w w.heap.size A xs.length xs ∧
      ∀ k (hk : k < xs.length), ReadsRun w w.heap.size xs[k].1 xs[k].2 ∧ xs[k].1.slots.length * 16 ≤ 140737488351232 ∧ xs[k].1.mail.length * 16 ≤ 140737488351232 ∧ xs[k].1.links.length * 8 ≤ 140737488351232 ∧ xs[k].1.watched.length * 8 ≤ 140737488351232 := by
  rcases open_slice Tryz.underlying23 h with ⟨hcs, _⟩ | ⟨a, len, cap, m, n', D, Pl, hcs, _, hl, _, hmm, hx, hi⟩
  · exact ⟨none, [], 0, by injection hcs, Nat.le_refl _, by decide, ⟨rfl, by decide, Reads.none_⟩, fun k hk => by simp at hk⟩
  · simp only [if_true] at hmm
    subst hmm
    have hwe : ∀ i, i < len → ∀ k ∈ (D i).weights Tryz.prog 90, k ≤ reachBytes := by
      intro i hi' k hk
      refine hw k ?_
      rw [hx]
      simp only [DataW.weights, Tryz.underlying23]
      refine List.mem_cons_of_mem _ (List.mem_append_left _ (weights_all (d := D i) ?_ hk))
      exact List.mem_map.2 ⟨i, List.mem_range.2 hi', rfl⟩
    have hc : ∀ i, i < len → ∃ x : Rn × RA, (∀ j, j < 13 → w.cell? (a.add (i * 13 + j)) = (encR x)[j]?) ∧ ReadsRun w w.heap.size x.1 x.2 ∧ x.1.slots.length * 16 ≤ 140737488351232 ∧ x.1.mail.length * 16 ≤ 140737488351232 ∧ x.1.links.length * 8 ≤ 140737488351232 ∧ x.1.watched.length * 8 ≤ 140737488351232 := by
      intro i hi'
      obtain ⟨cs', hcells, ht⟩ := hi i (by omega)
      obtain ⟨x, rfl, hr⟩ := open_runC ht (hwe i hi')
      rw [cellsR] at hcells
      obtain ⟨_, _, hat⟩ := World.cells?_some hcells
      exact ⟨x, fun j hj => by rw [← Go.Deep.add_add]; exact hat j hj, hr⟩
    have hs : m * 168 ≤ 140737488351232 := by
      have := hw ((List.length ((List.range len).map D) + List.length ((List.range (m - len)).map fun j => D (len + j))) * Tryz.prog.bytesOf 90) (by rw [hx]; simp [DataW.weights, Tryz.underlying23])
      rw [bytesR] at this
      simp only [List.length_map, List.length_range] at this
      have e : len + (m - len) = m := by omega
      rw [e] at this
      exact this
    let F : Nat → Rn × RA := fun i => if h : i < len then Classical.choose (hc i h) else (Rn.zero, ⟨none, 0, none, 0, none, 0, none, 0⟩)
    have hF : ∀ i, i < len → (∀ j, j < 13 → w.cell? (a.add (i * 13 + j)) = (encR (F i))[j]?) ∧ ReadsRun w w.heap.size (F i).1 (F i).2 ∧ (F i).1.slots.length * 16 ≤ 140737488351232 ∧ (F i).1.mail.length * 16 ≤ 140737488351232 ∧ (F i).1.links.length * 8 ≤ 140737488351232 ∧ (F i).1.watched.length * 8 ≤ 140737488351232 := by
      intro i hi'
      have := Classical.choose_spec (hc i hi')
      simp only [F, dif_pos hi']
      exact this
    have hlen : ((List.range len).map F).length = len := by simp
    refine ⟨some a, (List.range len).map F, m, by rw [hlen]; injection hcs, by rw [hlen]; exact hl, by rw [hlen]; omega, ?_, fun k hk => ?_⟩
    · refine reads_of_cells encR_length (by decide) (by rw [hlen]; omega) fun j hj i hi' => ?_
      rw [hlen] at hj
      rw [(hF j hj).1 i hi']
      simp
    · rw [hlen] at hk
      have := (hF k hk).2
      simpa using this
theorem open_world {v : Value} {d : DataW H} {p : List MemPlace} {re : Reach} (hv : Value.okWide Tryz.prog w re base 26 v) (h : DataW.Trod enc Tryz.prog w 0 (fun _ => true) true 26 v d p) (hw : ∀ k ∈ d.weights Tryz.prog 26, k ≤ reachBytes) :
    ∃ W : Wm, v = .agg (wArr W) ∧ ReadsW w w.heap.size W ∧ SizesW W ∧ W.code.length ≤ W.cC ∧ W.ps.length ≤ W.rC ∧ W.queue.length ≤ W.qC := by
  obtain ⟨cs, rfl, hsz⟩ := okWide_struct Tryz.underlying26 hv
  obtain ⟨l⟩ := cs
  match l, hsz.trans cellsW with
  | [c0, c1, c2, c3, c4, c5, c6], _ =>
    obtain ⟨fuel, hf⟩ := h
    obtain ⟨xs, n, _, hx, _, hlen, hg⟩ := DataW.trod_struct Tryz.underlying26 hf
    match xs, hlen with
    | [y0, y1, y2, y3, y4, y5, y6], _ =>
      simp only [Prod.mk.injEq] at hx
      have hd := hx.1
      subst hd
      have hwe : ∀ (j : Nat) (t : TypeId) (dd : DataW H), ([22, 23, 24, 3, 3, 3, 3] : List TypeId)[j]? = some t → ([y0, y1, y2, y3, y4, y5, y6].map (·.1))[j]? = some dd → ∀ k ∈ dd.weights Tryz.prog t, k ≤ reachBytes := by
        intro j t dd ht hdd k hk
        refine hw k ?_
        have := DataW.weights_mem_each ht hdd k hk
        simpa only [DataW.weights, Tryz.underlying26, List.map_cons, List.map_nil] using this
      have key := field_of hg
      have g0 := key 0 22 0 rfl
      have g1 := key 1 23 1 rfl
      have g2 := key 2 24 2 rfl
      have g3 := key 3 3 3 rfl
      have g4 := key 4 3 4 rfl
      have g5 := key 5 3 5 rfl
      have g6 := key 6 3 6 rfl
      simp only [Value.cells, cells3, cellsOs, cellsRs, cellsIs, List.drop_zero, List.drop_succ_cons, List.take_succ_cons, List.take_zero, List.getElem?_cons_zero, List.getElem?_cons_succ] at g0 g1 g2 g3 g4 g5 g6
      obtain ⟨cA, code, cC, rfl, hcl, hcb, hcr⟩ := open_ops g0 (hwe 0 _ _ rfl rfl)
      obtain ⟨rA, ps, rC, rfl, hrl, hrb, hrr, hre⟩ := open_runs g1 (hwe 1 _ _ rfl rfl)
      obtain ⟨qA, queue, qC, rfl, hql, hqb, hqr⟩ := open_is g2 (hwe 2 _ _ rfl rfl)
      obtain ⟨now, e3, _⟩ := DataW.trod_int Tryz.underlying3 g3
      obtain ⟨sent, e4, _⟩ := DataW.trod_int Tryz.underlying3 g4
      obtain ⟨taken, e5, _⟩ := DataW.trod_int Tryz.underlying3 g5
      obtain ⟨lost, e6, _⟩ := DataW.trod_int Tryz.underlying3 g6
      simp only [List.cons.injEq, and_true] at e3 e4 e5 e6
      subst e3 e4 e5 e6
      exact ⟨⟨code, cA, cC, ps, rA, rC, queue, qA, qC, now, sent, taken, lost⟩, rfl, ⟨hcr, hrr, hqr, fun k hk => (hre k hk).1⟩, ⟨hcb, hrb, hqb, fun k hk => (hre k hk).2⟩, hcl, hrl, hql⟩
end
end Go.Proofs.YtomolbhcggaakaaGreat
