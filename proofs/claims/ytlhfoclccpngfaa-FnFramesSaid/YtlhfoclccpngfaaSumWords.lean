/- WHAT THIS TEXT PROVES: the program's SumWords, a range over the library's slices.Chunk, hands back 'sumW' of every slice of bytes, and turns nothing that lay. Condition: the slice holds bytes (0 to 255) and fits in memory. -/
import Derived.RangeFuncNested
import Derived.RangeFuncBound
import Derived.RangeFuncCalls
import Derived.RangeFuncLeaves
import Derived.Shelf.Abstract
import Derived.Shelf.RegionOpen
import Derived.WalkKit
import Derived.OwnWalkIn
import Derived.TacticsInMore
import Derived.LoopNIn
import Derived.LoopIn
import Derived.RangeFuncBox
import Derived.Laws.BitsLemmas
import Derived.Test.YtlhfoclccpngfaaProg
import Derived.Test.YtlhfoclccpngfaaWWords
import Derived.Test.YtlhfoclccpngfaaChunk
namespace Go.Proofs.Ytlhfoclccpngfaa.SumWords
open Go.Proofs.Ytlhfoclccpngfaa.Chunk Go.RowKit Go.Shelf Go.Proofs.YtlhfoclccpngfaaW.PrintWords
attribute [local go_sem] Oper.semAt_some

/-- The word of two bytes that begins at the byte 2 k (an odd last one with a 0 behind it). -/
def word (l : List Int) (k : Nat) : Int := if 2 * k + 1 < l.length then l.getD (2 * k) 0 * 256 + l.getD (2 * k + 1) 0 else l.getD (2 * k) 0 * 256
/-- One word more in the sum. -/
def add1 (h n : Int) : Int := if h + n > 65535 then h + n - 65535 else h + n
def sums (l : List Int) (ks : List (Fin ((l.length + 1) / 2))) : Int := ks.foldl (fun h k => add1 h (word l k.val)) 0
theorem sums_snoc (l : List Int) (ks : List (Fin ((l.length + 1) / 2))) (k : Fin ((l.length + 1) / 2)) : sums l (ks ++ [k]) = add1 (sums l ks) (word l k.val) := by simp [sums]
def sumW (l : List Int) : Int := 65535 - sums l (all _)


def inBytes (l : List Int) : Prop := ∀ x ∈ l, 0 ≤ x ∧ x ≤ 255
theorem inBytes.at_ {xs : List Int} (h : inBytes xs) (i : Nat) : 0 ≤ xs.getD i 0 ∧ xs.getD i 0 ≤ 255 := by
  by_cases hi : i < xs.length
  · have : xs.getD i 0 = xs[i] := by simp [List.getD, hi]
    rw [this]; exact h _ (List.getElem_mem hi)
  · rw [List.getD_eq_getElem?_getD, List.getElem?_eq_none (by omega)]; simp
theorem word_bounds (l : List Int) (h : inBytes l) (k : Nat) : 0 ≤ word l k ∧ word l k ≤ 65535 := by
  have h1 := h.at_ (2 * k)
  have h2 := h.at_ (2 * k + 1)
  unfold word
  split <;> omega
theorem sums_bounds (l : List Int) (h : inBytes l) (ks : List (Fin ((l.length + 1) / 2))) : 0 ≤ sums l ks ∧ sums l ks ≤ 65535 := by
  unfold sums
  have key : ∀ (ks : List (Fin ((l.length + 1) / 2))) (h0 : Int), 0 ≤ h0 ∧ h0 ≤ 65535 → 0 ≤ ks.foldl (fun h k => add1 h (word l k.val)) h0 ∧ ks.foldl (fun h k => add1 h (word l k.val)) h0 ≤ 65535 := by
    intro ks
    induction ks with
    | nil => intro h0 h; exact h
    | cons k ks ih =>
      intro h0 hh
      refine ih _ ?_
      have := word_bounds l h k.val
      show 0 ≤ add1 h0 _ ∧ add1 h0 _ ≤ 65535
      unfold add1
      split <;> omega
  exact key ks 0 (by omega)

theorem put_ok (w W : World) (u v : Value) (hc : W.cell? ⟨w.heap.size, 0, none⟩ = some u) (hf : W.frozen? ⟨w.heap.size, 0, none⟩ = false) (hB : Below w.heap.size w W) :
    KeepsOthers W (W.setCell ⟨w.heap.size, 0, none⟩ v) ∧ Kb w.heap.size (w.heap.size + 1) (w.heap.size + 1 + 1) W (W.setCell ⟨w.heap.size, 0, none⟩ v) ∧
      (W.setCell ⟨w.heap.size, 0, none⟩ v).cell? ⟨w.heap.size, 0, none⟩ = some v ∧ (W.setCell ⟨w.heap.size, 0, none⟩ v).frozen? ⟨w.heap.size, 0, none⟩ = false ∧ Below w.heap.size w (W.setCell ⟨w.heap.size, 0, none⟩ v) := by
  refine ⟨KeepsOthers.setCell _ _ _, ⟨(Below.refl w.heap.size W).setCell (p := ⟨w.heap.size, 0, none⟩) (Nat.le_refl _) _, fun b hb => ?_⟩, World.cell?_setCell_same' _ _ _ (by rw [hc]; rfl), by rw [World.frozen?_setCell]; exact hf, hB.setCell (p := ⟨w.heap.size, 0, none⟩) (Nat.le_refl _) _⟩
  unfold World.cell?
  rw [show (W.setCell ⟨w.heap.size, 0, none⟩ v).heap[b]? = W.heap[b]? from Below.heap_setCell W ⟨w.heap.size, 0, none⟩ v b (by show b ≠ w.heap.size; rcases hb with rfl | rfl <;> omega)]

set_option maxRecDepth 100000 in
set_option maxHeartbeats 4000000 in
theorem SumWords_in (F : Fence) (n : Nat) (h3 : F.fn 33) (h5 : F.fn 37) (h7 : F.fn 38) (hro : F.round = none) (hn : 3 ≤ n) (a : Option Addr) (cap : Nat) (zs : List Int) (hz : inBytes zs) (hreach : zs.length ≤ 140737488351232) (w : World) (b off : Nat)
    (hI : Holds2 w.heap.size w (.slice a zs.length cap) zs b off) :
    CallsIn F n Try.prog 33 #[.slice a zs.length cap] w fun e W' => e = .returned (.int .i64 (sumW zs)) ∧ Below w.heap.size w W' := by
  have h1 : 1 ≤ n := by omega
  refine callsIn_of_wp_marks Try.func33 rfl h3 ?_ hro
  simp only [Try.ntmps33, List.size_toArray, List.length_cons, List.length_nil, Nat.reduceAdd, Nat.reduceSub, Array.replicate_succ, Array.replicate_zero, List.push_toArray, List.append_toArray, List.nil_append, List.cons_append]
  gi_wp2_with (gi_at_call 37; refine (chunk_in F (n - 1) h5 hro _ _ _ _).mono ?_; rintro e w' ⟨rfl, rfl⟩)
  have bS := Boxed.new w 2 (.int .i64 0)
  have b1 := Boxed.new (w.alloc (.cells #[.int .i64 0] 2)) 22 (.slice a zs.length cap)
  have b2 := Boxed.new ((w.alloc (.cells #[.int .i64 0] 2)).alloc (.cells #[.slice a zs.length cap] 22)) 3 (.int .i64 2)
  rw [World.size_alloc] at b1
  rw [World.size_alloc, World.size_alloc] at b2
  have hB0 : Below w.heap.size w (((w.alloc (.cells #[.int .i64 0] 2)).alloc (.cells #[.slice a zs.length cap] 22)).alloc (.cells #[.int .i64 2] 3)) := (((Below.refl _ w).alloc (Nat.le_refl _) _).alloc (by simp) _).alloc (by simp; omega) _
  have hI0 : Holds2 w.heap.size (((w.alloc (.cells #[.int .i64 0] 2)).alloc (.cells #[.slice a zs.length cap] 22)).alloc (.cells #[.int .i64 2] 3)) (.slice a zs.length cap) zs b off := by
    rcases hI with h | ⟨cap', h1, h2, h3, h4, h5⟩
    · exact .inl h
    · exact .inr ⟨cap', h1, h2, h3, h4, fun j hj => (hB0.cell (p := ⟨b, off + j, none⟩) h4).trans (h5 j hj)⟩
  have hcells : ∀ W, Below w.heap.size w W → ∀ x : Fin ((zs.length + 1) / 2), (W.cell? ⟨b, off + 2 * x.val, none⟩ = some (.int .u8 (zs.getD (2 * x.val) 0))) ∧ (2 * x.val + 1 < zs.length → W.cell? ⟨b, off + 2 * x.val + 1, none⟩ = some (.int .u8 (zs.getD (2 * x.val + 1) 0))) := by
    intro W hW x
    have hx := x.isLt
    rcases hI with ⟨rfl, _⟩ | ⟨cap', h1, h2, h3, h4, h5⟩
    · exact absurd hx (by simp)
    · exact ⟨(hW.cell (p := ⟨b, off + 2 * x.val, none⟩) h4).trans (h5 (2 * x.val) (by omega)), fun h => (hW.cell (p := ⟨b, off + 2 * x.val + 1, none⟩) h4).trans (by have := h5 (2 * x.val + 1) h; rw [← Nat.add_assoc] at this; exact this)⟩
  refine wpIn_rangeFunc_ownG hro h1 (gf := 38) (lb := #[.pointer (some ⟨w.heap.size + 1, 0, none⟩), .pointer (some ⟨w.heap.size + 1 + 1, 0, none⟩)]) rfl h7 (enters_of Try.func38 (by kernel_rfl) rfl)
    (chunk_stops F (n - 1) h7 hro (by omega) (w.heap.size + 1) (w.heap.size + 1 + 1) w.heap.size _ zs b off hreach _ (by simp) (by simp) (b1.alloc _).cell b2.cell hI0) Kb.trans (Kb.put (by simp; omega) (by simp) (by simp)) (Below.refl _ _) (fun _ => rfl)
    (fun pre W => (W.cell? ⟨w.heap.size, 0, none⟩ = some (.int .i64 (sums zs pre)) ∧ W.frozen? ⟨w.heap.size, 0, none⟩ = false) ∧ Below w.heap.size w W)
    (fun _ _ _ => False)
    (OwnFrom.and (Own.from (fun s A B row hs hg hr => ⟨cell_kept hs.1 hg hr, (frozen_kept hs.1 hg hr).trans hs.2⟩) _) (ownFrom_below (Nat.le_refl _) (by simp; omega)))
    (fun _ _ _ _ _ hs _ _ => hs)
    ⟨⟨((bS.alloc _).alloc _).cell, ((bS.alloc _).alloc _).frozen⟩, hB0⟩
    (fun x => { tmps := #[.slice a zs.length cap, undef, .int .i64 0, .pointer (some ⟨w.heap.size, 0, none⟩), .slice (some ⟨b, off + 2 * x.val, none⟩) (chunkLen zs x.val) (chunkLen zs x.val), undef, .slice a zs.length cap, .func (.func 38) #[] #[.pointer (some ⟨w.heap.size + 1, 0, none⟩), .pointer (some ⟨w.heap.size + 1 + 1, 0, none⟩)], .slice (some ⟨b, off + 2 * x.val, none⟩) (chunkLen zs x.val) (chunkLen zs x.val), undef, undef, undef, undef, undef, undef, undef, undef, undef, undef, undef, undef, undef, undef, undef, undef, undef, undef, undef, undef, undef, undef, undef], defers := [] }) ?assign ?body ?done ?stop
  case assign =>
    intro l x W K hK
    gi_wp2
    exact hK
  case body =>
    rintro l pre x W ⟨⟨hc, hf⟩, hB⟩ _
    obtain ⟨hw0, hw1⟩ := hcells W hB x
    have hx := x.isLt
    have hz0 := hz.at_ (2 * x.val)
    have hz1 := hz.at_ (2 * x.val + 1)
    have hs := sums_bounds zs hz pre
    have hsn := sums_snoc zs pre x
    generalize sums zs pre = S at *
    by_cases h2 : 2 * x.val + 1 < zs.length
    · have hcl : chunkLen zs x.val = 2 := by unfold chunkLen; omega
      have hw1' := hw1 h2
      have hwd : word zs x.val = zs.getD (2 * x.val) 0 * 256 + zs.getD (2 * x.val + 1) 0 := by unfold word; rw [if_pos h2]
      rw [hwd] at hsn
      rw [hcl]
      generalize zs.getD (2 * x.val) 0 = p at *
      generalize zs.getD (2 * x.val + 1) 0 = q at *
      have hor : Go.bits .or .i64 (p * 256) q = p * 256 + q := by
        refine Go.bits_join .i64 63 (by decide) (fun m h0 h1 => ?_) 8 (p * 256) q (by omega) (by omega) (by omega) hz1.1 (by omega) (by omega)
        rw [Go.IntWalk.i64_left]; unfold wrap64; omega
      clear hw1 hcells hwd hcl
      gi_wp2
      all_goals (first
        | (have e : S + (p * 256 + q) - 65535 = sums zs (pre ++ [x]) := by rw [hsn]; unfold add1; rw [if_pos (by omega)]
           rw [e]
           obtain ⟨k1, k2, k3, k4, k5⟩ := put_ok w W _ (.int .i64 (S + (p * 256 + q))) hc hf hB
           obtain ⟨j1, j2, j3, j4, j5⟩ := put_ok w _ _ (.int .i64 (sums zs (pre ++ [x]))) k3 k4 k5
           exact ⟨(k1.trans j1).from _, k2.trans j2, ⟨j3, j4⟩, j5⟩)
        | (have e : S + (p * 256 + q) = sums zs (pre ++ [x]) := by rw [hsn]; unfold add1; rw [if_neg (by omega)]
           rw [e]
           obtain ⟨j1, j2, j3, j4, j5⟩ := put_ok w W _ (.int .i64 (sums zs (pre ++ [x]))) hc hf hB
           exact ⟨j1.from _, j2, ⟨j3, j4⟩, j5⟩))
    · have hcl : chunkLen zs x.val = 1 := by unfold chunkLen; omega
      have hwd : word zs x.val = zs.getD (2 * x.val) 0 * 256 := by unfold word; rw [if_neg h2]
      rw [hwd] at hsn
      rw [hcl]
      generalize zs.getD (2 * x.val) 0 = p at *
      clear hw1 hcells hwd hcl
      gi_wp2
      all_goals (first
        | (have e : S + p * 256 - 65535 = sums zs (pre ++ [x]) := by rw [hsn]; unfold add1; rw [if_pos (by omega)]
           rw [e]
           obtain ⟨k1, k2, k3, k4, k5⟩ := put_ok w W _ (.int .i64 (S + p * 256)) hc hf hB
           obtain ⟨j1, j2, j3, j4, j5⟩ := put_ok w _ _ (.int .i64 (sums zs (pre ++ [x]))) k3 k4 k5
           exact ⟨(k1.trans j1).from _, k2.trans j2, ⟨j3, j4⟩, j5⟩)
        | (have e : S + p * 256 = sums zs (pre ++ [x]) := by rw [hsn]; unfold add1; rw [if_neg (by omega)]
           rw [e]
           obtain ⟨j1, j2, j3, j4, j5⟩ := put_ok w W _ (.int .i64 (sums zs (pre ++ [x]))) hc hf hB
           exact ⟨j1.from _, j2, ⟨j3, j4⟩, j5⟩))
  case done =>
    rintro D ys W hD rfl ⟨⟨hc, _⟩, hB⟩ hK
    gi_wp2
    refine ⟨by simp, .inl ⟨_, _, rfl, run_takeDeferred hK, ?_⟩⟩
    have hsb := sums_bounds zs hz (all ((zs.length + 1) / 2))
    have hw : wrap64 (65535 - sums zs (all ((zs.length + 1) / 2))) = sumW zs := by unfold sumW wrap64; omega
    exact ⟨_, results_tmp rfl _ _ _, by rw [← hw]; rfl, hB.trans (belowK_b (w := w) (Nat.le_refl _) W D _ _ (by simp at hD; omega) hK rfl rfl)⟩
  case stop =>
    rintro D c pre W _ _ h _
    exact h.elim

def okB (l : List Int) : Bool := l.all (fun x => decide (0 ≤ x ∧ x ≤ 255)) && decide (l.length ≤ 1099511627776)
/-- What SumWords hands back, of bytes. -/
def sumF (l : List Int) : Option Int := if okB l = true then some (sumW l) else none
theorem okB_of {l : List Int} (h : okB l = true) : inBytes l ∧ l.length ≤ 1099511627776 := by
  simp only [okB, Bool.and_eq_true, List.all_eq_true, decide_eq_true_eq] at h
  exact ⟨h.1, h.2⟩
theorem okB_mk {l : List Int} (h : inBytes l) (h2 : l.length ≤ 1099511627776) : okB l = true := by
  simp only [okB, Bool.and_eq_true, List.all_eq_true, decide_eq_true_eq]
  exact ⟨h, h2⟩
theorem holds_of {w : World} {A : Option Addr} {c : Nat} {l : List Int} (hr : Kd.C (Kd.int .u8) w A l.length l) (hc : l.length ≤ c) : ∃ b off, Holds2 w.heap.size w (.slice A l.length c) l b off := by
  rcases Nat.eq_zero_or_pos l.length with h0 | h0
  · have : l = [] := List.eq_nil_of_length_eq_zero h0
    subst this
    exact ⟨0, 0, .inl ⟨rfl, A, c, rfl⟩⟩
  · obtain ⟨ad, rfl, hcs⟩ := hr.2.2 h0
    have hcell : ∀ j, j < l.length → w.cell? (ad.add j) = some (.int .u8 (l.getD j 0)) := by
      intro j hj
      obtain ⟨cc, h1, h2, h3⟩ := hcs j l[j] (List.getElem?_eq_getElem hj)
      have h2' : cc = [.int .u8 l[j]] := h2
      have h4 := h3 0 (.int .u8 l[j]) (by rw [h2']; rfl)
      have hs : (Kd.int .u8).sz = 1 := rfl
      rw [hs, Nat.mul_one, Nat.add_zero] at h4
      rw [h4]; simp [List.getD, hj]
    obtain ⟨b, off, sp⟩ := ad
    have h00 := hcell 0 h0
    have hsp : sp = none := by
      cases sp with
      | none => rfl
      | some z =>
        exfalso
        unfold World.cell? at h00
        simp only [Addr.add, if_true] at h00
        split at h00 <;> simp at h00
    subst hsp
    refine ⟨b, off, .inr ⟨c, h0, hc, rfl, ?_, fun j hj => ?_⟩⟩
    · have := World.block_lt_of_cell? w _ h00
      simpa [Addr.add] using this
    · have := hcell j hj
      rwa [Addr.add_lit] at this
theorem sumF_calls (A0 : Option Addr) (c0 : Nat) (l0 : List Int) (r : Int) (w : World) (hr0 : Kd.C (Kd.int .u8) w A0 l0.length l0) (hc0 : l0.length ≤ c0) (h : sumF l0 = some r) :
    Calls Try.prog 33 #[.slice A0 l0.length c0] w fun e w' => e = .returned (.int .i64 r) ∧ Below w.heap.size w w' := by
  unfold sumF at h
  split at h
  · rename_i hok
    obtain ⟨hb, hl⟩ := okB_of hok
    obtain rfl : sumW l0 = r := by simpa using h
    obtain ⟨b, off, hI⟩ := holds_of hr0 hc0
    refine (callsIn_wide (n := 5)).1 ?_
    exact SumWords_in Fence.wide 5 trivial trivial trivial rfl (by omega) A0 c0 l0 hb (by omega) w b off hI
  · cases h
end Go.Proofs.Ytlhfoclccpngfaa.SumWords
