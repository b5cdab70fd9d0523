/- Parts of the proof, in one text. -/
import Derived.Test.YtomolbhcggaakaaGreatShelf
import Derived.Deep.RegionWith
import Derived.Test.YtomolbhcggaakaaGreatG25
import Derived.Test.YtomolbhcggaakaaGreatG02
/- What is known of the kinds of steps, by the program's text. -/
namespace Go.Proofs.YtomolbhcggaakaaGreat
open Go.RowKit
set_option maxRecDepth 100000

abbrev tM : Nat := 135
theorem siM : (Tryz.prog.info? tM).map (·.size) = some 4 := by kernel_rfl
theorem agM (W : World) : (isAgg tM).run Tryz.prog W = .ok true W := by kernel_rfl
def wordOf (k : Int) : ByteArray := if k = 1 then ⟨#[115, 101, 116]⟩ else if k = 2 then ⟨#[109, 111, 118, 101]⟩ else if k = 3 then ⟨#[97, 100, 100]⟩ else if k = 4 then ⟨#[115, 101, 108, 102]⟩ else if k = 5 then ⟨#[98, 101, 103, 105, 110]⟩ else if k = 6 then ⟨#[115, 101, 110, 100]⟩ else if k = 7 then ⟨#[116, 97, 107, 101]⟩ else if k = 8 then ⟨#[97, 102, 116, 101, 114]⟩ else if k = 9 then ⟨#[103, 111]⟩ else if k = 10 then ⟨#[105, 102]⟩ else if k = 11 then ⟨#[108, 105, 110, 107]⟩ else if k = 12 then ⟨#[119, 97, 116, 99, 104]⟩ else if k = 13 then ⟨#[116, 114, 97, 112]⟩ else if k = 14 then ⟨#[101, 110, 100]⟩ else ⟨#[]⟩
def hasOf (k : Int) : ByteArray := if k = 1 then ⟨#[82, 86]⟩ else if k = 2 then ⟨#[82, 83]⟩ else if k = 3 then ⟨#[82, 83]⟩ else if k = 4 then ⟨#[82]⟩ else if k = 5 then ⟨#[82, 84]⟩ else if k = 6 then ⟨#[82, 83]⟩ else if k = 7 then ⟨#[82, 83]⟩ else if k = 8 then ⟨#[82, 83, 84, 86]⟩ else if k = 9 then ⟨#[84]⟩ else if k = 10 then ⟨#[82, 84, 86]⟩ else if k = 11 then ⟨#[82]⟩ else if k = 12 then ⟨#[82]⟩ else if k = 13 then ⟨#[86]⟩ else if k = 14 then ⟨#[82]⟩ else ⟨#[]⟩
def readsOf (k : Int) : ByteArray := if k = 1 then ⟨#[]⟩ else if k = 2 then ⟨#[83]⟩ else if k = 3 then ⟨#[82, 83]⟩ else if k = 4 then ⟨#[]⟩ else if k = 5 then ⟨#[]⟩ else if k = 6 then ⟨#[82, 83]⟩ else if k = 7 then ⟨#[]⟩ else if k = 8 then ⟨#[]⟩ else if k = 9 then ⟨#[]⟩ else if k = 10 then ⟨#[82]⟩ else if k = 11 then ⟨#[82]⟩ else if k = 12 then ⟨#[82]⟩ else if k = 13 then ⟨#[]⟩ else if k = 14 then ⟨#[82]⟩ else ⟨#[]⟩
abbrev howArr (k : Int) : Array Value := #[.string (wordOf k), .string (hasOf k), .string (readsOf k), .bool (fillsR k)]
set_option maxHeartbeats 4000000 in
theorem iManners {w0 w : World} {f : List Nat} {L : List Asn} (M : Mem w0 f w L) : Calls Tryz.prog 167 #[] w fun e w' => ∃ g, e = .returned (.slice (some ⟨g, 0, none⟩) 15 15) ∧ Mem w0 f w' (blk g tM [.string ⟨#[]⟩, .string ⟨#[]⟩, .string ⟨#[]⟩, .bool false, .string ⟨#[115, 101, 116]⟩, .string ⟨#[82, 86]⟩, .string ⟨#[]⟩, .bool true, .string ⟨#[109, 111, 118, 101]⟩, .string ⟨#[82, 83]⟩, .string ⟨#[83]⟩, .bool true, .string ⟨#[97, 100, 100]⟩, .string ⟨#[82, 83]⟩, .string ⟨#[82, 83]⟩, .bool false, .string ⟨#[115, 101, 108, 102]⟩, .string ⟨#[82]⟩, .string ⟨#[]⟩, .bool true, .string ⟨#[98, 101, 103, 105, 110]⟩, .string ⟨#[82, 84]⟩, .string ⟨#[]⟩, .bool true, .string ⟨#[115, 101, 110, 100]⟩, .string ⟨#[82, 83]⟩, .string ⟨#[82, 83]⟩, .bool false, .string ⟨#[116, 97, 107, 101]⟩, .string ⟨#[82, 83]⟩, .string ⟨#[]⟩, .bool true, .string ⟨#[97, 102, 116, 101, 114]⟩, .string ⟨#[82, 83, 84, 86]⟩, .string ⟨#[]⟩, .bool true, .string ⟨#[103, 111]⟩, .string ⟨#[84]⟩, .string ⟨#[]⟩, .bool false, .string ⟨#[105, 102]⟩, .string ⟨#[82, 84, 86]⟩, .string ⟨#[82]⟩, .bool false, .string ⟨#[108, 105, 110, 107]⟩, .string ⟨#[82]⟩, .string ⟨#[82]⟩, .bool false, .string ⟨#[119, 97, 116, 99, 104]⟩, .string ⟨#[82]⟩, .string ⟨#[82]⟩, .bool false, .string ⟨#[116, 114, 97, 112]⟩, .string ⟨#[86]⟩, .string ⟨#[]⟩, .bool false, .string ⟨#[101, 110, 100]⟩, .string ⟨#[82]⟩, .string ⟨#[82]⟩, .bool false] :: L) := by
  go_enter Tryz.func167, Tryz.ntmps167
  go_wp2_with (first | ((with_reducible refine goal_alloc (G := fun W => wpList _ _ _ _ _ W) M ?_); clear M; intro w1 M; (try clear F); have F := M.facts; simp only [And.intro FX FXw] at F))
  go_ret
  exact ⟨_, rfl, M.alloc tM [.string ⟨#[]⟩, .string ⟨#[]⟩, .string ⟨#[]⟩, .bool false, .string ⟨#[115, 101, 116]⟩, .string ⟨#[82, 86]⟩, .string ⟨#[]⟩, .bool true, .string ⟨#[109, 111, 118, 101]⟩, .string ⟨#[82, 83]⟩, .string ⟨#[83]⟩, .bool true, .string ⟨#[97, 100, 100]⟩, .string ⟨#[82, 83]⟩, .string ⟨#[82, 83]⟩, .bool false, .string ⟨#[115, 101, 108, 102]⟩, .string ⟨#[82]⟩, .string ⟨#[]⟩, .bool true, .string ⟨#[98, 101, 103, 105, 110]⟩, .string ⟨#[82, 84]⟩, .string ⟨#[]⟩, .bool true, .string ⟨#[115, 101, 110, 100]⟩, .string ⟨#[82, 83]⟩, .string ⟨#[82, 83]⟩, .bool false, .string ⟨#[116, 97, 107, 101]⟩, .string ⟨#[82, 83]⟩, .string ⟨#[]⟩, .bool true, .string ⟨#[97, 102, 116, 101, 114]⟩, .string ⟨#[82, 83, 84, 86]⟩, .string ⟨#[]⟩, .bool true, .string ⟨#[103, 111]⟩, .string ⟨#[84]⟩, .string ⟨#[]⟩, .bool false, .string ⟨#[105, 102]⟩, .string ⟨#[82, 84, 86]⟩, .string ⟨#[82]⟩, .bool false, .string ⟨#[108, 105, 110, 107]⟩, .string ⟨#[82]⟩, .string ⟨#[82]⟩, .bool false, .string ⟨#[119, 97, 116, 99, 104]⟩, .string ⟨#[82]⟩, .string ⟨#[82]⟩, .bool false, .string ⟨#[116, 114, 97, 112]⟩, .string ⟨#[86]⟩, .string ⟨#[]⟩, .bool false, .string ⟨#[101, 110, 100]⟩, .string ⟨#[82]⟩, .string ⟨#[82]⟩, .bool false]⟩
end Go.Proofs.YtomolbhcggaakaaGreat
/- What a step has, by the program's text. -/
namespace Go.Proofs.YtomolbhcggaakaaGreat
open Go.RowKit
set_option maxRecDepth 100000

set_option maxHeartbeats 1000000 in
theorem iHowNo (o : Opx) (h : inB o.k 1 14 = false) {w0 w : World} {f : List Nat} {L : List Asn} (M : Mem w0 f w L) : Calls Tryz.prog 135 #[.agg (opArr o)] w fun e w' => e = .returned (.agg #[.string ⟨#[]⟩, .string ⟨#[]⟩, .string ⟨#[]⟩, .bool false]) ∧ Mem w0 f w' L := by
  have HI := Lib.hid (fun W => iIn o.k 1 14 W)
  rw [h] at HI
  clear h
  obtain ⟨k, r, s, to, ⟨vk, vn⟩⟩ := o
  simp only [opArr] at *
  go_enter Tryz.func135, Tryz.ntmps135
  go_wp2_with (first
    | ((with_reducible refine goal_alloc (G := fun W => wpList _ _ _ _ _ W) M ?_); clear M; intro w1 M; (try clear F); have F := M.facts; simp only [FX] at F) | ((with_reducible apply ev_store (M := M)); rfl; rfl; ((conv => lhs; whnf) <;> rfl); rfl; (exact siM); (exact one_all rfl); (repeat (first | with_reducible exact Del.here | with_reducible apply Del.there)); (exact Nat.le_of_ble_eq_true rfl); clear M; intro w1 M; simp only [SX] at M; (try clear F); have F := M.facts; simp only [FX] at F)
    | (go_at_call 54; (apply goal_name (G := fun W => Calls _ _ _ W _)); (repeat (first | with_reducible exact M | with_reducible apply Mem.drew | with_reducible apply Mem.drewN | with_reducible apply Mem.allocD | with_reducible apply Mem.setV | with_reducible apply Mem.setD | with_reducible exact Del.here | with_reducible apply Del.there | with_reducible assumption)); clear M; intro w1 M; (try simp only [LX] at M); (try clear F); have F := M.facts; simp only [FX] at F; refine (HI.out _).mono ?_; rintro e w2 ⟨rfl, rfl⟩))
  apply ret_cell (M := M); rfl; rfl; (repeat (first | with_reducible exact Del.here | with_reducible apply Del.there)); exact agM; exact siM; rfl
  exact ⟨rfl, M.drop.drop⟩
theorem step_store {P : Program} {Q : Exit → Act → World → Prop} {K : Act → World → Prop} {a : Act} {w0 w : World} {f : List Nat} {L L' : List Asn} {t tb ty : TypeId} {x y : Operand} {pos : String} {after : Array Edge} {gd : Option (Nat × Bool)} {v : Value} {vs cs : List Value} {g off : Nat}
    (hx : a.eval x = .pointer (some ⟨g, off, none⟩)) (hy : a.eval y = v) (hv : v.cells = vs.toArray) (hs : (P.info? t).map (·.size) = some vs.length) (h1 : ∀ u, u ∈ vs → u.oneCell' = true) (M : Mem w0 f w L) (hd : Del (blk g tb cs) L L') (hl : off + vs.length ≤ cs.length)
    (h : ∀ w1, Mem w0 f w1 (blk g tb (splice cs off vs) :: L') → K a w1) : Oper.wp P ⟨none, .store t x y, ty, pos, after, gd⟩ a w K Q := by
  obtain ⟨w1, hr, M1⟩ := run_storeCells (P := P) vs h1 0 w cs (M.pull hd) hl
  obtain ⟨i, hi, hi2⟩ := Option.map_eq_some_iff.1 hs
  have hrun : (execOp a.eval ⟨none, .store t x y, ty, pos, after, gd⟩).run P w = .ok .skip w1 := by
    unfold execOp
    simp only [hx, hy, Instr.storeAt, Instr.sureAddr, storeVar, sizeOf, typeInfo, Sem.run_bind, Sem.run_pure, Result.andThen_ok, run_program, hi, hi2, hv, List.size_toArray, ne_eq, not_true_eq_false, if_false, hr]
  unfold Oper.wp
  rw [hrun]
  exact h w1 M1
end Go.Proofs.YtomolbhcggaakaaGreat
