/- Parts of the proof, in one text. -/
import Derived.RegionTactic
import Derived.Laws.IdiomStrings
import Derived.Deep.RegionWith
import Derived.Deep.Cut
import Derived.Test.YtmidnaafljgbiaaB05
import Derived.Test.YtmidnaafljgbiaaB13
import Derived.Test.YtmidnaafljgbiaaB04
/- A text that is cut at a byte; nothing of the program. -/
namespace Go.Proofs.Ytmidnaafljgbiaa

def cutP (b0 : UInt8) (l : List UInt8) : List ByteArray × ByteArray := l.foldl (fun st b => if b = b0 then (st.1 ++ [st.2], ⟨#[]⟩) else (st.1, st.2 ++ ⟨#[b]⟩)) ([], ⟨#[]⟩)
def cutM (b0 : UInt8) (s : ByteArray) : List ByteArray := (cutP b0 s.data.toList).1 ++ [(cutP b0 s.data.toList).2]
theorem cutP_snoc (b0 : UInt8) (l : List UInt8) (b : UInt8) : cutP b0 (l ++ [b]) = if b = b0 then ((cutP b0 l).1 ++ [(cutP b0 l).2], ⟨#[]⟩) else ((cutP b0 l).1, (cutP b0 l).2 ++ ⟨#[b]⟩) := by
  unfold cutP
  rw [List.foldl_append]
  rfl
theorem take_snoc (s : ByteArray) (k : Nat) (h : k < s.size) : s.data.toList.take (k + 1) = s.data.toList.take k ++ [s[k]] := by
  rw [List.take_succ_eq_append_getElem (by simpa using h)]; rfl
end Go.Proofs.Ytmidnaafljgbiaa
/- The text of a step; nothing of the program. -/
namespace Go.Proofs.Ytmidnaafljgbiaa

def namesL : List ByteArray := [⟨#[]⟩, ⟨#[115, 101, 116]⟩, ⟨#[109, 111, 118, 101]⟩, ⟨#[97, 100, 100]⟩, ⟨#[115, 101, 108, 102]⟩, ⟨#[98, 101, 103, 105, 110]⟩, ⟨#[115, 101, 110, 100]⟩, ⟨#[116, 97, 107, 101]⟩, ⟨#[97, 102, 116, 101, 114]⟩, ⟨#[103, 111]⟩, ⟨#[105, 102]⟩, ⟨#[108, 105, 110, 107]⟩, ⟨#[119, 97, 116, 99, 104]⟩, ⟨#[116, 114, 97, 112]⟩, ⟨#[101, 110, 100]⟩]
def nameB (n : Nat) : ByteArray := namesL.getD n ⟨#[]⟩
def decS (n : Nat) : List UInt8 := if n < 10 then [UInt8.ofNat (48 + n)] else [UInt8.ofNat (48 + n / 10), UInt8.ofNat (48 + n % 10)]
def valS (k : Int) (m : Nat) : List UInt8 := (if k = 1 then 110 else 97) :: decS m
def decB (n : Nat) : ByteArray := ⟨(decS n).toArray⟩
def valB (k : Int) (m : Nat) : ByteArray := ⟨(valS k m).toArray⟩
def addW (b : Bool) (a x : ByteArray) : ByteArray := if b then (a ++ ⟨#[32]⟩) ++ x else a
theorem decB_size (n : Nat) : (decB n).size ≤ 2 := by
  show (decS n).toArray.size ≤ 2
  unfold decS
  split <;> simp
theorem valB_size (k : Int) (m : Nat) : (valB k m).size ≤ 3 := by
  show (valS k m).toArray.size ≤ 3
  unfold valS decS
  split <;> split <;> simp
theorem nameB_size (n : Nat) : (nameB n).size ≤ 5 := by
  by_cases h : n < 15
  · have : n = 0 ∨ n = 1 ∨ n = 2 ∨ n = 3 ∨ n = 4 ∨ n = 5 ∨ n = 6 ∨ n = 7 ∨ n = 8 ∨ n = 9 ∨ n = 10 ∨ n = 11 ∨ n = 12 ∨ n = 13 ∨ n = 14 := by omega
    rcases this with rfl | rfl | rfl | rfl | rfl | rfl | rfl | rfl | rfl | rfl | rfl | rfl | rfl | rfl | rfl <;> decide
  · unfold nameB
    rw [List.getD_eq_getElem?_getD, List.getElem?_eq_none (by simp [namesL]; omega)]
    decide
end Go.Proofs.Ytmidnaafljgbiaa
/- A region that draws its order, all orders: loads, appends and stores one behind the other; nothing of the program. -/
namespace Go.Proofs.Ytmidnaafljgbiaa
open Go

theorem op_of_list {P : Program} {Q : Exit → Act → World → Prop} {K : Act → World → Prop} {a : Act} {w : World} {o : Oper} (hg : o.guard = none)
    (h : wpList P #[] (fun e a w => match e with | .normal => K a w | _ => False) [o] a w) : o.wp P a w K Q := by
  unfold wpList at h
  have hw : Region.wanted o (yielded #[] a.tmps) = true := by simp [Region.wanted, hg]
  rw [if_pos hw] at h
  rcases h with h | ⟨_, _, _, h⟩
  · unfold Oper.wp at *
    generalize (execOp a.eval o).run P w = r at *
    cases r with
    | ok n w' =>
      cases n <;> simp only [Oper.upon] at h ⊢ <;> first
        | exact h
        | (refine Calls.mono h (fun e w'' he => ?_)
           cases e with
           | returned v => exact he
           | panicked c => exact he.elim
           | outgrown => obtain ⟨_, _, he⟩ := he; exact he.elim)
        | exact Rows.mono h (fun _ _ he => he)
    | halt x w' => cases x <;> simp only [Oper.upon] at h ⊢
  · exact h.elim
section
variable {P : Program} {ops : Array Oper} {Q : Exit → Act → World → Prop} {md : Region.Mode}
variable {fuel : Nat} {listed : Array Bool} {a a' : Act} {w : World}
theorem anP {oi : Oper} {v : Value} {d : Tmp} (i : Nat) (h : wpAny P md ops Q fuel (listed.setIfInBounds i true) a' w) (hi : ops[i]? = some oi := by exact rfl) (hd : oi.dst = some d := by exact rfl)
    (hs : Region.noSelect ops = true := by kernel_rfl) (hf : Region.free md ops listed i = true := by kernel_rfl) (hr : (Region.ready md ops listed).contains i = true := by kernel_rfl) (hw : Region.wanted oi (yielded ops a.tmps) = true := by kernel_rfl)
    (hQ : ∀ c a w, Q (.panic c) (a.put oi.dst v) w → Q (.panic c) a w := by exact fun _ _ _ h => h) (hy : ∀ w, (execOp a.eval oi).run P w = .ok (.value v) w := by (intro W; go_simp; (try with_reducible rfl)))
    (e : a.put (some d) v = a' := by ((try (conv => lhs; simp only [AX])) <;> rfl)) : wpAny P md ops Q (fuel + 1) listed a w := by
  subst e
  rw [← hd] at h
  exact wpAny_take hi hs hf hr hQ (Or.inl ⟨hw, hy⟩) h
theorem an1 {oi : Oper} {op : Op} {d : Option Tmp} {ty : TypeId} {pos : String} {af : Array Edge} {gd : Option (Nat × Bool)} (i : Nat)
    (h : ∀ K' : Act → World → Prop, Shut (∀ a w, wpAny P md ops Q fuel (listed.setIfInBounds i true) a w → K' a w) → Oper.wp P ⟨d, op, ty, pos, af, gd⟩ a w K' Q)
    (hi : ops[i]? = some oi := by exact rfl) (he : oi = ⟨d, op, ty, pos, af, gd⟩ := by exact rfl) (hr : Region.ready md ops listed = [i] := by kernel_rfl) (hw : Region.wanted oi (yielded ops a.tmps) = true := by kernel_rfl) : wpAny P md ops Q (fuel + 1) listed a w := by
  subst he
  exact wpAny_ready hr (by simp) (AllReady.cons hi (fun K hK => by rw [if_pos hw]; exact h K hK) AllReady.nil)
theorem an2 {oi oj : Oper} {op op2 : Op} {d d2 : Option Tmp} {ty ty2 : TypeId} {pos pos2 : String} {af af2 : Array Edge} {gd gd2 : Option (Nat × Bool)} (i j : Nat)
    (h : ∀ K' : Act → World → Prop, Shut (∀ a w, wpAny P md ops Q fuel (listed.setIfInBounds i true) a w → K' a w) → Oper.wp P ⟨d, op, ty, pos, af, gd⟩ a w K' Q)
    (h2 : ∀ K' : Act → World → Prop, Shut (∀ a w, wpAny P md ops Q fuel (listed.setIfInBounds j true) a w → K' a w) → Oper.wp P ⟨d2, op2, ty2, pos2, af2, gd2⟩ a w K' Q)
    (hi : ops[i]? = some oi := by exact rfl) (he : oi = ⟨d, op, ty, pos, af, gd⟩ := by exact rfl) (hj : ops[j]? = some oj := by exact rfl) (he2 : oj = ⟨d2, op2, ty2, pos2, af2, gd2⟩ := by exact rfl) (hr : Region.ready md ops listed = [i, j] := by kernel_rfl) (hw : Region.wanted oi (yielded ops a.tmps) = true := by kernel_rfl) (hw2 : Region.wanted oj (yielded ops a.tmps) = true := by kernel_rfl) : wpAny P md ops Q (fuel + 1) listed a w := by
  subst he he2
  exact wpAny_ready hr (by simp) (AllReady.cons hi (fun K hK => by rw [if_pos hw]; exact h K hK) (AllReady.cons hj (fun K hK => by rw [if_pos hw2]; exact h2 K hK) AllReady.nil))
end
end Go.Proofs.Ytmidnaafljgbiaa
/- Texts of small numbers. -/
namespace Go.Proofs.Ytmidnaafljgbiaa
open Go.RowKit
set_option maxRecDepth 100000

def sv (l : List UInt8) : Value := .string ⟨l.toArray⟩
theorem sv_app (a b : List UInt8) : (⟨a.toArray⟩ : ByteArray) ++ (⟨b.toArray⟩ : ByteArray) = ⟨(a ++ b).toArray⟩ := by
  apply ByteArray.ext
  show ((⟨a.toArray⟩ : ByteArray) ++ (⟨b.toArray⟩ : ByteArray)).data = (a ++ b).toArray
  rw [ByteArray.data_append]
  simp
theorem bstr {w0 w : World} {f : List Nat} {L L' : List Asn} {g t cap : Nat} (b : UInt8) {z : Int} (M : Mem w0 f w L) (hd : Del (blk g t [.int .u8 z]) L L' := by with_reducible repeat (first | exact Del.here | apply Del.there)) (hz : z = (b.toNat : Int) := by first | rfl | decide) :
    (convert 54 9 (.slice (some ⟨g, 0, none⟩) 1 cap)).run Try.prog w = .ok (.string ⟨#[b]⟩) w := by
  refine run_convert_bytes_back w _ _ 5 ⟨g, 0, none⟩ cap [b] Try.underlying54 Try.underlying5 Try.underlying9 ?_
  intro j hj
  obtain rfl : j = 0 := by simp at hj; omega
  subst hz
  exact M.cells hd 0
theorem bstrA (b : UInt8) (z : Int) (hz : z = (b.toNat : Int)) (w : World) : (convert 54 9 (.slice (some ⟨w.heap.size, 0, none⟩) 1 1)).run Try.prog (w.alloc (.cells #[.int .u8 z] 5)) = .ok (.string ⟨#[b]⟩) (w.alloc (.cells #[.int .u8 z] 5)) :=
  bstr b ((Mem.nil w).alloc 5 [.int .u8 z]) (hz := hz)
theorem sDec1 (n : Nat) (hn : n ≤ 9) (w : World) : Calls Try.prog 173 #[.int .i64 n] w fun e w' => e = .returned (sv (decS n)) ∧ Below w.heap.size w w' := by
  have h : n = 0 ∨ n = 1 ∨ n = 2 ∨ n = 3 ∨ n = 4 ∨ n = 5 ∨ n = 6 ∨ n = 7 ∨ n = 8 ∨ n = 9 := by omega
  have M := Mem.nil w
  rcases h with rfl | rfl | rfl | rfl | rfl | rfl | rfl | rfl | rfl | rfl
  all_goals go_enter Try.func173, Try.ntmps173
  · have hcv := bstrA 48 48 rfl w
    go_wp2
    go_ret
    exact ⟨rfl, (M.alloc _ _).toBelow⟩
  · have hcv := bstrA 49 49 rfl w
    go_wp2
    go_ret
    exact ⟨rfl, (M.alloc _ _).toBelow⟩
  · have hcv := bstrA 50 50 rfl w
    go_wp2
    go_ret
    exact ⟨rfl, (M.alloc _ _).toBelow⟩
  · have hcv := bstrA 51 51 rfl w
    go_wp2
    go_ret
    exact ⟨rfl, (M.alloc _ _).toBelow⟩
  · have hcv := bstrA 52 52 rfl w
    go_wp2
    go_ret
    exact ⟨rfl, (M.alloc _ _).toBelow⟩
  · have hcv := bstrA 53 53 rfl w
    go_wp2
    go_ret
    exact ⟨rfl, (M.alloc _ _).toBelow⟩
  · have hcv := bstrA 54 54 rfl w
    go_wp2
    go_ret
    exact ⟨rfl, (M.alloc _ _).toBelow⟩
  · have hcv := bstrA 55 55 rfl w
    go_wp2
    go_ret
    exact ⟨rfl, (M.alloc _ _).toBelow⟩
  · have hcv := bstrA 56 56 rfl w
    go_wp2
    go_ret
    exact ⟨rfl, (M.alloc _ _).toBelow⟩
  · have hcv := bstrA 57 57 rfl w
    go_wp2
    go_ret
    exact ⟨rfl, (M.alloc _ _).toBelow⟩
theorem sDec10 (w : World) : Calls Try.prog 173 #[.int .i64 10] w fun e w' => e = .returned (sv (decS 10)) ∧ Below w.heap.size w w' := by
  have M := Mem.nil w
  have HD : Hid (∀ W, Calls Try.prog 173 #[.int .i64 1] W fun e w' => e = .returned (.string ⟨#[49]⟩) ∧ Below W.heap.size W w') := fun W => sDec1 1 (by omega) W
  have ha : (⟨#[49]⟩ : ByteArray) ++ ⟨#[48]⟩ = ⟨#[49, 48]⟩ := sv_app [49] [48]
  have HQ : Hid (∀ U : World, Below w.heap.size w U → Ending.returned (.string ((⟨#[49]⟩ : ByteArray) ++ ⟨#[48]⟩)) = .returned (sv (decS 10)) ∧ Below w.heap.size w U) := fun U h => ⟨by rw [ha]; rfl, h⟩
  clear ha
  have hcv := fun W => bstrA 48 48 rfl W
  go_enter Try.func173, Try.ntmps173
  go_upto_region 7 with fail
  (refine wp_region_any (by kernel_rfl) ?_); (try change wpAny _ _ _ _ _ _ _ (World.drew _)); (refine nmw (G := fun W => wpAny _ _ _ _ _ _ _ W) ?_; clear M; (try clear F); intro w1 M F)
  refine anP 0 ?_; refine anP 1 ?_; refine anP 3 ?_; refine anP 4 ?_; refine anP 5 ?_; refine anP 6 ?_
  refine an2 2 7 (fun K hK => ?_) (fun K hK => ?_)
  · go_simp; (go_at_call 173; refine (HD.out _).mono ?_; rintro e w2 ⟨rfl, hb⟩; replace M := M.below hb; clear hb; (try clear F); have F := fxw M); (refine hK.out _ _ ?_; clear hK K; (try simp only [AX]))
    refine an1 7 (fun K hK => ?_); (go_simp; (refine hK.out _ _ ?_; clear hK K; (try simp only [AX]); (refine nmw (G := fun W => wpAny _ _ _ _ _ _ _ W) ?_; clear M; (try clear F); intro w1 M F)))
    have hc := bstr (cap := 1) 48 M
    refine an1 8 (fun K hK => ?_); (go_simp; (refine hK.out _ _ ?_; clear hK K; (try simp only [AX])))
    refine anP 9 ?_; refine anP 10 ?_
    refine wpAny_done (by kernel_rfl) ?_ _
    go_wp2
    go_ret
    exact HQ.out _ M.toBelow
  · (go_simp; (refine hK.out _ _ ?_; clear hK K; (try simp only [AX]); (refine nmw (G := fun W => wpAny _ _ _ _ _ _ _ W) ?_; clear M; (try clear F); intro w1 M F)))
    refine an2 2 8 (fun K hK => ?_) (fun K hK => ?_)
    · go_simp; (go_at_call 173; refine (HD.out _).mono ?_; rintro e w2 ⟨rfl, hb⟩; replace M := M.below hb; clear hb; (try clear F); have F := fxw M); (refine hK.out _ _ ?_; clear hK K; (try simp only [AX]))
      have hc := bstr (cap := 1) 48 M
      refine an1 8 (fun K hK => ?_); (go_simp; (refine hK.out _ _ ?_; clear hK K; (try simp only [AX])))
      refine anP 9 ?_; refine anP 10 ?_
      refine wpAny_done (by kernel_rfl) ?_ _
      go_wp2
      go_ret
      exact HQ.out _ M.toBelow
    · have hc := bstr (cap := 1) 48 M
      (go_simp; (refine hK.out _ _ ?_; clear hK K; (try simp only [AX])))
      refine an1 2 (fun K hK => ?_); go_simp; (go_at_call 173; refine (HD.out _).mono ?_; rintro e w2 ⟨rfl, hb⟩; replace M := M.below hb; clear hb; (try clear F); have F := fxw M); (refine hK.out _ _ ?_; clear hK K; (try simp only [AX]))
      refine anP 9 ?_; refine anP 10 ?_
      refine wpAny_done (by kernel_rfl) ?_ _
      go_wp2
      go_ret
      exact HQ.out _ M.toBelow
theorem sDec (n : Nat) (hn : n ≤ 10) (w : World) : Calls Try.prog 173 #[.int .i64 n] w fun e w' => e = .returned (sv (decS n)) ∧ Below w.heap.size w w' := by
  by_cases h : n ≤ 9
  · exact sDec1 n h w
  · obtain rfl : n = 10 := by omega
    exact sDec10 w
end Go.Proofs.Ytmidnaafljgbiaa
