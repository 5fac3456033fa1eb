/- WHAT THIS TEXT PROVES: the library's slices.Chunk over a slice of bytes hands a loop the pieces of two bytes, one behind the other, and a last one of one byte. Condition: the slice fits in memory. -/
import Derived.RangeFuncNested
import Derived.RangeFuncBound
import Derived.RangeFuncCalls
import Derived.RangeFuncLeaves
import Derived.Shelf.Abstract
import Derived.Shelf.RegionOpen
import Derived.WalkKit
import Derived.OwnWalkIn
import Derived.TacticsInMore
import Derived.LoopNIn
import Derived.LoopIn
import Derived.RangeFuncBox
import Derived.Laws.BitsLemmas
import Derived.Test.YtlhfoclccpngfaaProg
import Derived.Test.YtlhfoclccpngfaaWWords
namespace Go.Proofs.Ytlhfoclccpngfaa.Chunk
open Go.RowKit Go.Shelf Go.Proofs.YtlhfoclccpngfaaW.PrintWords
attribute [local go_sem] Oper.semAt_some

def all (m : Nat) : List (Fin m) := List.finRange m
theorem all_length (m : Nat) : (all m).length = m := by simp [all]
theorem all_take (m k : Nat) (h : k < m) : (all m).take (k + 1) = (all m).take k ++ [⟨k, h⟩] := by
  rw [List.take_succ_eq_append_getElem (by rw [all_length]; exact h)]
  simp [all]
/-- What a round keeps: what lay below n₀, and the two boxes of the iterator. -/
def Kb (n₀ Bs Bn : Nat) (A B : World) : Prop := Below n₀ A B ∧ ∀ b, b = Bs ∨ b = Bn → B.cell? ⟨b, 0, none⟩ = A.cell? ⟨b, 0, none⟩
theorem Kb.refl (n₀ Bs Bn : Nat) (A : World) : Kb n₀ Bs Bn A A := ⟨Below.refl _ _, fun _ _ => rfl⟩
theorem Kb.trans {n₀ Bs Bn : Nat} {A B C : World} (h : Kb n₀ Bs Bn A B) (k : Kb n₀ Bs Bn B C) : Kb n₀ Bs Bn A C := ⟨h.1.trans k.1, fun b hb => (k.2 b hb).trans (h.2 b hb)⟩
theorem Kb.drew {n₀ Bs Bn : Nat} {A B : World} (h : Kb n₀ Bs Bn A B) : Kb n₀ Bs Bn A B.drew := ⟨below_drew h.1, h.2⟩
theorem Kb.put {n₀ Bs Bn : Nat} {w : World} (hn : n₀ ≤ w.heap.size) (hs : Bs < w.heap.size) (hb : Bn < w.heap.size) (W : World) (l : Nat) (o o' : Obj) (hl : w.heap.size ≤ l) (h : W.heap[l]? = some o) (h1 : o.isCells = false) (h2 : o.isWalk = false) : Kb n₀ Bs Bn W (W.putObj l o') := by
  refine ⟨belowK_b hn W l o o' hl h h1 h2, fun b hb' => ?_⟩
  have hne : b ≠ l := by rcases hb' with rfl | rfl <;> omega
  unfold World.cell?
  rw [show (W.putObj l o').heap[b]? = W.heap[b]? from World.putObj_heap_other hne]

def chunkLen (l : List Int) (k : Nat) : Nat := min 2 (l.length - 2 * k)

set_option maxRecDepth 100000 in
set_option maxHeartbeats 2000000 in
theorem chunk1_in (F : Fence) (n : Nat) (h7 : F.fn 38) (hro : F.round = none) (hn : 1 ≤ n) (l Bs Bn n₀ cap : Nat) (b off : Nat) (zs : List Int) (hlen : 0 < zs.length) (hcap : zs.length ≤ cap) (hreach : zs.length ≤ 140737488351232) 
    (J Jx : List (Fin ((zs.length + 1) / 2)) → World → Prop)
    (hY : ∀ pre x W, J pre W → pre.length < (zs.length + 1) / 2 → YieldAt F (n - 1) Try.prog l #[.slice (some ⟨b, off + 2 * x.val, none⟩) (chunkLen zs x.val) (chunkLen zs x.val)] W fun e W' =>
      (e = .returned (.bool true) ∧ J (pre ++ [x]) W' ∧ Kb n₀ Bs Bn W W') ∨ (e = .returned (.bool false) ∧ Jx (pre ++ [x]) W'))
    (W : World) (hBs : W.cell? ⟨Bs, 0, none⟩ = some (.slice (some ⟨b, off, none⟩) zs.length cap)) (hBn : W.cell? ⟨Bn, 0, none⟩ = some (.int .i64 2)) (h0 : J [] W)
    (hJd : ∀ pre W', J pre W' → J pre W'.drew) :
    CallsIn F n Try.prog 38 #[.func (.yield l) #[] #[], .pointer (some ⟨Bs, 0, none⟩), .pointer (some ⟨Bn, 0, none⟩)] W fun e W' => (∃ v, e = .returned v) ∧
      ((∃ ys, ys = all ((zs.length + 1) / 2) ∧ J ys W') ∨ (∃ pre, True ∧ Jx pre W')) := by
  refine callsIn_of_wp Try.func38 rfl h7 ?_ hro
  simp only [Try.ntmps38, List.size_toArray, List.length_cons, List.length_nil, Nat.reduceAdd, Nat.reduceSub, Array.replicate_succ, Array.replicate_zero, List.push_toArray, List.append_toArray, List.nil_append, List.cons_append]
  gi_wp2
  have hm : ∀ k, 2 * k < zs.length → k < (zs.length + 1) / 2 := fun k h => by omega
  gi_loopw [4] (fun i wr => ∃ k : Nat, k ≤ (zs.length + 1) / 2 ∧ i = .int .i64 ((2 * k : Nat) : Int) ∧ J ((all ((zs.length + 1) / 2)).take k) wr ∧ Kb n₀ Bs Bn W wr)
    (fun i _ => zs.length + 2 - (intOf i).toNat)
  case atStart => exact ⟨0, Nat.zero_le _, by simp, by simpa using h0, Kb.refl _ _ _ _⟩
  case round =>
    obtain ⟨k, hk, rfl, hJs, hnx⟩ := hrel
    have hbs' := (hnx.2 Bs (.inl rfl)).trans hBs
    have hbn' := (hnx.2 Bn (.inr rfl)).trans hBn
    by_cases hlt : 2 * k < zs.length
    · have hkm := hm k hlt
      obtain ⟨fn, tmps, assign, body, hy, hR⟩ := hY _ ⟨k, hkm⟩ wr.drew (hJd _ _ hJs) (by rw [List.length_take, all_length]; omega)
      have e1 : ((2 * (k : Int) + ((zs.length - 2 * k : Nat) : Int)).toNat - 2 * k) = zs.length - 2 * k := by omega
      have e2 : ((2 * (k : Int) + 2).toNat - 2 * k) = 2 := by omega
      have hbn3 : ∀ W3, Kb n₀ Bs Bn wr.drew W3 → W3.cell? ⟨Bn, 0, none⟩ = some (.int .i64 2) := fun W3 h => (h.2 Bn (.inr rfl)).trans hbn'
      gi_wp2
      gi_region
      all_goals gi_wp2
      all_goals (try dsimp only at hy)
      all_goals (first
        | (have hcl : chunkLen zs k = zs.length - 2 * k := by unfold chunkLen; omega
           rw [hcl] at hy)
        | (have hcl : chunkLen zs k = 2 := by unfold chunkLen; omega
           rw [hcl] at hy))
      all_goals (try rw [hy])
      all_goals gi_wp2
      all_goals (refine hR.mono ?_)
      all_goals (rintro e W3 (⟨rfl, hJ3, hk3⟩ | ⟨rfl, hJx3⟩))
      all_goals first
        | (have hbn4 := hbn3 W3 hk3
           gi_wp2
           go_roundw
           case rel => exact ⟨k + 1, by omega, by first | rfl | (simp; done) | (simp; omega) | (congr 1; omega), by rw [all_take _ _ hkm]; exact hJ3, hnx.drew.trans hk3⟩
           case measure => simp [intOf]; omega)
        | (gi_wp2
           refine bodyPost_ret (results_none rfl _ _ _) rfl ?_
           exact ⟨⟨_, rfl⟩, .inr ⟨_, trivial, hJx3⟩⟩)
    · obtain rfl : k = (zs.length + 1) / 2 := by omega
      gi_wp2
      go_end0
      exact ⟨⟨_, rfl⟩, .inl ⟨_, rfl, by rw [List.take_of_length_le (by rw [all_length]; exact Nat.le_refl _)] at hJs; exact hJs⟩⟩

set_option maxRecDepth 100000 in
set_option maxHeartbeats 1000000 in
/-- .. of a slice without an element: no round. -/
theorem chunk1_nil_in (F : Fence) (n : Nat) (h7 : F.fn 38) (hro : F.round = none) (l Bs Bn cap m : Nat) (A : Option Addr) (J : List (Fin m) → World → Prop) (W : World) (hBs : W.cell? ⟨Bs, 0, none⟩ = some (.slice A 0 cap)) (h0 : J [] W) :
    CallsIn F n Try.prog 38 #[.func (.yield l) #[] #[], .pointer (some ⟨Bs, 0, none⟩), .pointer (some ⟨Bn, 0, none⟩)] W fun e W' => (∃ v, e = .returned v) ∧ J [] W' := by
  refine callsIn_of_wp Try.func38 rfl h7 ?_ hro
  simp only [Try.ntmps38, List.size_toArray, List.length_cons, List.length_nil, Nat.reduceAdd, Nat.reduceSub, Array.replicate_succ, Array.replicate_zero, List.push_toArray, List.append_toArray, List.nil_append, List.cons_append]
  gi_wp2
  gi_loopw [4] (fun i wr => i = .int .i64 0 ∧ J [] wr ∧ wr.cell? ⟨Bs, 0, none⟩ = some (.slice A 0 cap)) (fun _ _ => 0)
  case atStart => exact ⟨rfl, h0, hBs⟩
  case round =>
    obtain ⟨rfl, hJs, hb⟩ := hrel
    gi_wp2
    go_end0
    exact ⟨⟨_, rfl⟩, hJs⟩

set_option maxHeartbeats 1000000 in
/-- slices.Chunk(s, 2): the slice and the number are boxed; the function value has both boxes. -/
theorem chunk_in (F : Fence) (n : Nat) (h5 : F.fn 37) (hro : F.round = none) (a : Option Addr) (len cap : Nat) (w : World) :
    CallsIn F n Try.prog 37 #[.slice a len cap, .int .i64 2] w fun e w' => e = .returned (.func (.func 38) #[] #[.pointer (some ⟨w.heap.size, 0, none⟩), .pointer (some ⟨w.heap.size + 1, 0, none⟩)]) ∧ w' = (w.alloc (.cells #[.slice a len cap] 22)).alloc (.cells #[.int .i64 2] 3) := by
  refine callsIn_of_wp Try.func37 rfl h5 ?_ hro
  simp only [Try.ntmps37, List.size_toArray, List.length_cons, List.length_nil, Nat.reduceAdd, Nat.reduceSub, Array.replicate_succ, Array.replicate_zero, List.push_toArray, List.append_toArray, List.nil_append, List.cons_append]
  gi_wp2
  go_ret
  exact ⟨by simp, rfl⟩

/-- The slice value sv holds zs, in a block below n₀; or it has no element. -/
def Holds2 (n₀ : Nat) (W : World) (sv : Value) (zs : List Int) (b off : Nat) : Prop :=
  (zs = [] ∧ ∃ A cap, sv = .slice A 0 cap) ∨ ∃ cap, 0 < zs.length ∧ zs.length ≤ cap ∧ sv = .slice (some ⟨b, off, none⟩) zs.length cap ∧ b < n₀ ∧ ∀ j, j < zs.length → W.cell? ⟨b, off + j, none⟩ = some (.int .u8 (zs.getD j 0))
theorem drew_grown (W : World) : W.grownBy W.drew none := ⟨rfl, rfl, rfl, Nat.le_refl _, fun _ _ _ => rfl⟩

theorem chunk_stops (F : Fence) (n : Nat) (h7 : F.fn 38) (hro : F.round = none) (hn : 1 ≤ n) (Bs Bn n₀ : Nat) (sv : Value) (zs : List Int) (b off : Nat) (hreach : zs.length ≤ 140737488351232) (w : World) (hBs : Bs < w.heap.size) (hBn : Bn < w.heap.size)
    (hc : w.cell? ⟨Bs, 0, none⟩ = some sv) (hc2 : w.cell? ⟨Bn, 0, none⟩ = some (.int .i64 2)) (hI : Holds2 n₀ w sv zs b off) :
    SeqStopsK F n Try.prog 38 #[.pointer (some ⟨Bs, 0, none⟩), .pointer (some ⟨Bn, 0, none⟩)] (fun x : Fin ((zs.length + 1) / 2) => #[Value.slice (some ⟨b, off + 2 * x.val, none⟩) (chunkLen zs x.val) (chunkLen zs x.val)]) (Kb n₀ Bs Bn)
      (fun ys => ys = all ((zs.length + 1) / 2)) (fun _ => True) ((zs.length + 1) / 2) w := fun l J Jx W hW hJ _ hY h0 => by
  have hc' := (hW.cell (p := ⟨Bs, 0, none⟩) hBs).trans hc
  have hc2' := (hW.cell (p := ⟨Bn, 0, none⟩) hBn).trans hc2
  rcases hI with ⟨rfl, A, cap, rfl⟩ | ⟨cap, hl, hcap, rfl, hb, hcs⟩
  · exact (chunk1_nil_in F n h7 hro l Bs Bn cap _ A J W hc' h0).mono fun e W' ⟨he, hj⟩ => ⟨he, .inl ⟨_, rfl, hj⟩⟩
  · exact chunk1_in F n h7 hro hn l Bs Bn n₀ cap b off zs hl hcap hreach J Jx hY W hc' hc2' h0 (fun pre W' h => hJ pre W' W'.drew none h (drew_grown W') (fun r e => by cases e))
end Go.Proofs.Ytlhfoclccpngfaa.Chunk
