/- Parts of the proof, in one text. -/
import Derived.Lib.OthersKept
import Derived.LoopN
import Derived.Test.YtomolbhcggaakaaGreatH32
import Derived.Test.YtomolbhcggaakaaGreatH06
/- The ways' functions on the slots that are full, by the program's text. -/
namespace Go.Proofs.YtomolbhcggaakaaGreat
open Go.RowKit
set_option maxRecDepth 100000

theorem iFn1 (B : Int) (w : World) : Calls Tryz.prog 136 #[.int .i64 B] w fun e w' => e = .returned (.int .i64 B) ∧ w' = w := by
  go_enter Tryz.func136, Tryz.ntmps136
  go_wp2
  go_ret
  exact ⟨rfl, rfl⟩
theorem iFn3 (B : Int) (w : World) : Calls Tryz.prog 138 #[.int .i64 B] w fun e w' => e = .returned (.int .i64 1) ∧ w' = w := by
  go_enter Tryz.func138, Tryz.ntmps138
  go_wp2
  go_ret
  exact ⟨rfl, rfl⟩
theorem orBit_all : ∀ b : Fin 16, ∀ r : Fin 4, bits .or .i64 (b.val : Int) (wrap64 (2 ^ ((r.val : Int)).toNat)) = withBit b.val r.val := by decide +kernel
theorem orBit {B r : Int} (hB : 0 ≤ B ∧ B ≤ 15) (hr : 0 ≤ r ∧ r ≤ 3) : bits .or .i64 B (wrap64 (2 ^ r.toNat)) = withBit B r := by
  have h := orBit_all ⟨B.toNat, by omega⟩ ⟨r.toNat, by omega⟩
  simp only [Int.toNat_of_nonneg hB.1, Int.toNat_of_nonneg hr.1] at h
  exact h
theorem iFn2 (B r : Int) (g : Nat) (hB : 0 ≤ B ∧ B ≤ 15) (hr : 0 ≤ r ∧ r ≤ 3) (w : World) (h : w.cell? ⟨g, 1, none⟩ = some (.int .i64 r)) : Calls Tryz.prog 137 #[.int .i64 B, .pointer (some ⟨g, 0, none⟩)] w fun e w' => e = .returned (.int .i64 (withBit B r)) ∧ w' = w := by
  have e := orBit hB hr
  obtain ⟨r1, r2⟩ := hr
  go_enter Tryz.func137, Tryz.ntmps137
  go_wp2
  go_ret
  exact ⟨rfl, rfl⟩
theorem andBit_all : ∀ b : Fin 16, ∀ r : Fin 4, (bits .and .i64 ((b.val : Int) / 2 ^ ((r.val : Int)).toNat) 1 == 0) = !hasBit b.val r.val := by decide +kernel
theorem andBit {B r : Int} (hB : 0 ≤ B ∧ B ≤ 15) (hr : 0 ≤ r ∧ r ≤ 3) : (bits .and .i64 (B / 2 ^ r.toNat) 1 == 0) = !hasBit B r := by
  have h := andBit_all ⟨B.toNat, by omega⟩ ⟨r.toNat, by omega⟩
  simp only [Int.toNat_of_nonneg hB.1, Int.toNat_of_nonneg hr.1] at h
  exact h
set_option maxHeartbeats 1000000 in
theorem iLacks (c B : Int) (g : Nat) (hB : 0 ≤ B ∧ B ≤ 15) (hr : 0 ≤ c ∧ c ≤ 3) (w : World) (h : w.cell? ⟨g, 0, none⟩ = some (.int .i64 B)) : Calls Tryz.prog 98 #[.int .i64 c, .pointer (some ⟨g, 0, none⟩)] w fun e w' => e = .returned (.bool (!hasBit B c)) ∧ w' = w := by
  have e := andBit hB hr
  obtain ⟨r1, r2⟩ := hr
  go_enter Tryz.func98, Tryz.ntmps98
  go_wp2
  go_ret
  exact ⟨rfl, rfl⟩
end Go.Proofs.YtomolbhcggaakaaGreat
/- A string's iterator that is held; nothing of the program. -/
namespace Go.Proofs.YtomolbhcggaakaaGreat
open Go.RowKit

def itr (k : Nat) (s : ByteArray) (p : Nat) : Asn where
  fp := [k]
  P w := w.heap[k]? = some (.stringIter s p)
  F w := k < w.heap.size ∧ w.heap[k]? = some (.stringIter s p)
  loc w w' _ h hp := (h k (by simp)).trans hp
  lt w hp j hj := by
    obtain rfl : j = k := by simpa using hj
    exact (Array.getElem?_eq_some_iff.1 hp).1
  imp w hp := ⟨(Array.getElem?_eq_some_iff.1 hp).1, hp⟩
theorem itr_F {k : Nat} {s : ByteArray} {p : Nat} {w : World} : (itr k s p).F w = (k < w.heap.size ∧ w.heap[k]? = some (.stringIter s p)) := rfl
section
variable {w0 w : World} {f : List Nat} {L : List Asn} {k p p' : Nat} {s : ByteArray}
theorem Mem.iter (M : Mem w0 f w L) : Mem w0 f (w.iter s p) (itr w.heap.size s p :: L) := by
  have M1 := M.below (below_new (Below.refl _ _) (.stringIter s p))
  refine ⟨⟨M1.ext.os, M1.ext.tape, M1.ext.output, M1.ext.size, M1.ext.keep, ?_, ?_⟩, ?_⟩
  · intro k hk
    rcases List.mem_append.1 hk with hk | hk
    · obtain rfl : k = w.heap.size := by simpa [itr] using hk
      exact .inr M.ext.size
    · exact M.ext.own k hk
  · refine List.nodup_append.2 ⟨by simp [itr], M.ext.nodup, ?_⟩
    rintro a ha b hb rfl
    obtain rfl : a = w.heap.size := by simpa [itr] using ha
    have := M.lt _ hb
    omega
  · intro X hX
    rcases List.mem_cons.1 hX with rfl | hX
    · exact World.iter_heap w s p
    · exact M1.holds X hX
theorem Mem.iterAt (M : Mem w0 f w (itr k s p :: L)) : Mem w0 f (w.iterAt k s p') (itr k s p' :: L) := by
  have hk : w.heap[k]? = some (.stringIter s p) := M.holds (itr k s p) (by simp)
  refine M.step (A := itr k s p) (B := itr k s p') ⟨rfl, rfl, rfl, by simp [World.iterAt], fun j _ hne => ?_, fun j hj => .inl hj, by simp [itr]⟩ (Lib.iterAt_heap w k s p p' hk)
  have : j ≠ k := by simpa [itr] using hne
  simp [World.iterAt, Ne.symm this]
theorem goal_iter {G : World → Prop} (M : Mem w0 f w L) (h : ∀ w1, Mem w0 f w1 (itr w.heap.size s p :: L) → G w1) : G (w.iter s p) := h _ M.iter
theorem goal_iterAt {G : World → Prop} {L' : List Asn} (M : Mem w0 f w L) (hd : Del (itr k s p) L L') (h : ∀ w1, Mem w0 f w1 (itr k s p' :: L') → G w1) : G (w.iterAt k s p') := h _ (M.pull hd).iterAt
variable {P : Program} {ops : Array Oper} {rest : List Oper} {Q : Exit → Act → World → Prop} {a : Act} {x : Operand} {ty : TypeId} {pos : String} {after : Array Edge} {gd : Option (Tmp × Bool)} {L' : List Asn}
theorem ev_next {dst : Option Tmp} {b : Nat} (hw : Region.wanted ⟨dst, .next x true, ty, pos, after, gd⟩ (yielded ops a.tmps) = true) (hx : a.eval x = .pointer (some ⟨k, 0, none⟩)) (M : Mem w0 f w L) (hd : Del (itr k s p) L L')
    (hq : (s.data[p]?).map (·.toNat) = some b) (ha : b < 128) (h : ∀ w1, Mem w0 f w1 (itr k s (p + 1) :: L') → wpList P ops Q rest (a.put dst (.tuple #[.bool true, .int .i64 p, .int .i32 b])) w1) :
    wpList P ops Q (⟨dst, .next x true, ty, pos, after, gd⟩ :: rest) a w := by
  obtain ⟨c, hc, hb⟩ := Option.map_eq_some_iff.1 hq
  obtain ⟨hp, hc2⟩ := Array.getElem?_eq_some_iff.1 hc
  have hb : (s[p]'hp).toNat = b := by
    rw [← hb, ← hc2]
    rfl
  refine wpList_step fun K hK => ?_
  rw [if_pos hw]
  have hr := Lib.run_next_ascii_at (P := P) w k s p ty (M.is hd) hp (by omega)
  rw [hb] at hr
  have hrun : (execOp a.eval ⟨dst, .next x true, ty, pos, after, gd⟩).run P w = .ok (.value (.tuple #[.bool true, .int .i64 p, .int .i32 b])) (w.iterAt k s (p + 1)) := by
    unfold execOp
    simp only [hx, Sem.run_bind, Sem.run_pure, Result.andThen_ok, hr]
  unfold Oper.wp
  rw [hrun]
  exact hK _ _ (h _ (M.pull hd).iterAt)
end
end Go.Proofs.YtomolbhcggaakaaGreat
