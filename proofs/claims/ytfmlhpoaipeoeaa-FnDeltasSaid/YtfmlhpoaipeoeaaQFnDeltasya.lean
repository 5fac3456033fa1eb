-- MADE BY PROGRAM (wip/dr/assemble2.py) out of walks by hand. Lean checks it.
import Derived.Test.YtfmlhpoaipeoeaaQFnDeltasyz
import Derived.Laws.StructEq
import Derived.Test.YtfmlhpoaipeoeaaIx
import Derived.StillTailTactics
namespace Go.Proofs.Ytfmlhpoaipeoeaa.QFnDeltas
open Go.RowKit Go.Proofs.YtfmlhpoaipeoeaaW.PrintWords Go.Proofs.YtfmlhpoaipeoeaaW.PrintLast Go.Proofs.YtfmlhpoaipeoeaaW.PrintMore
attribute [local go_sem] max2_int min2_int max_two min_two max_three min_three max_four min_four   -- for this text's walks alone
set_option linter.unusedVariables false
set_option linter.unusedSimpArgs false
/-! ### spec_DeltaOf: function 41 -/
/-! #### the configuration's faults, in plain words -/
def Cf.inB (a lo hi : Int) : Bool := decide (a ≥ lo) && decide (a ≤ hi)
def Cf.prB (a : Int) : Bool := decide (a = 6) || decide (a = 17)
def Cf.isb (x : S36) : Bool := Cf.inB x.f0 1 999 && Cf.inB x.f1 0 4294967295 && Cf.inB x.f2 0 9 && Cf.inB x.f3 1 3
def Cf.beh (x y : S64) : Bool := if x.f0 = y.f0 then (if x.f1 = y.f1 then decide (x.f2 < y.f2) else decide (x.f1 < y.f1)) else decide (x.f0 < y.f0)
def Cf.named (n : Int) (b : S36) : Bool := b.f0 == n
def Cf.place (l : List S36) (n : Int) : Int := Go.Proofs.Ytfmlhpoaipeoeaa.Ix.ixFrom (Cf.named n) l 0
def Cf.gone (l : List S36) (n : Int) : Bool := decide (Cf.place l n < 0)
def Cf.falls (l : List Int) (j : Nat) : Bool := decide (1 ≤ j) && decide (l.getD j 0 ≤ l.getD (j - 1) 0)
def Cf.vok (x : S64) : Bool := Cf.inB x.f0 0 4294967295 && Cf.inB x.f1 0 65535 && Cf.prB x.f2
def Cf.vcode (l1 : List S36) (l2 : List S64) (i : Nat) : Int :=
 if Cf.vok (l2.getD i z64) = false then 3 else if (decide (0 < i) && !Cf.beh (l2.getD (i - 1) z64) (l2.getD i z64)) = true then 1 else if (l2.getD i z64).f3.any (Cf.gone l1) = true then 4
 else if (List.range (l2.getD i z64).f3.length).any (Cf.falls (l2.getD i z64).f3) = true then 1 else 0
def Cf.bcode (l1 : List S36) (i : Nat) : Int :=
 if Cf.isb (l1.getD i z36) = false then 3 else if (decide (0 < i) && decide ((l1.getD i z36).f0 ≤ (l1.getD (i - 1) z36).f0)) = true then 1 else 0
def Cf.first (g : Nat → Int) : Nat → Nat → Int
 | _, 0 => 0
 | i, m + 1 => if g i = 0 then Cf.first g (i + 1) m else g i
def Cf.code (v : Int) (l1 : List S36) (l2 : List S64) : Int :=
 if Cf.inB v 0 1000000 = false then 3 else if (decide ((l1.length : Int) > 8) || decide ((l2.length : Int) > 4)) = true then 2
 else if Cf.first (Cf.bcode l1) 0 l1.length = 0 then Cf.first (Cf.vcode l1 l2) 0 l2.length else Cf.first (Cf.bcode l1) 0 l1.length
theorem Cf.first_hit (g : Nat → Int) : ∀ (m i k : Nat), k < m → g (i + k) ≠ 0 → (∀ j, j < k → g (i + j) = 0) → Cf.first g i m = g (i + k)
 | 0, _, _, h, _, _ => absurd h (Nat.not_lt_zero _)
 | m + 1, i, 0, _, h, _ => by simp only [Cf.first]; rw [if_neg (by simpa using h)]; rfl
 | m + 1, i, k + 1, hk, h, hn => by
  have e : i + (k + 1) = (i + 1) + k := by omega
  simp only [Cf.first]; rw [if_pos (by have := hn 0 (by omega); simpa using this), e]
  exact Cf.first_hit g m (i + 1) k (by omega) (by rw [← e]; exact h) (fun j hj => by have := hn (j + 1) (by omega); rwa [show i + (j + 1) = i + 1 + j by omega] at this)
theorem Cf.first_miss (g : Nat → Int) : ∀ (m i : Nat), (∀ j, j < m → g (i + j) = 0) → Cf.first g i m = 0
 | 0, _, _ => rfl
 | m + 1, i, hn => by
  simp only [Cf.first]; rw [if_pos (by have := hn 0 (by omega); simpa using this)]
  exact Cf.first_miss g m (i + 1) (fun j hj => by have := hn (j + 1) (by omega); rwa [show i + (j + 1) = i + 1 + j by omega] at this)
theorem Cf.any_hit {α : Type} (p : α → Bool) (d : α) (l : List α) (k : Nat) (hk : k < l.length) (h : p (l.getD k d) = true) : l.any p = true := by
 rw [List.any_eq_true]
 refine ⟨l.getD k d, ?_, h⟩
 have e : l.getD k d = l[k] := by simp [List.getD, hk]
 rw [e]; exact List.getElem_mem hk
theorem Cf.any_miss {α : Type} (p : α → Bool) (d : α) (l : List α) (h : ∀ j, j < l.length → p (l.getD j d) = false) : l.any p = false := by
 rw [List.any_eq_false]
 intro x hx
 obtain ⟨j, hj, rfl⟩ := List.mem_iff_getElem.1 hx
 have := h j hj
 have e : l.getD j d = l[j] := by simp [List.getD, hj]
 rw [e] at this
 simp [this]
theorem Cf.range_hit (p : Nat → Bool) (n k : Nat) (hk : k < n) (h : p k = true) : (List.range n).any p = true := List.any_eq_true.2 ⟨k, List.mem_range.2 hk, h⟩
theorem Cf.range_miss (p : Nat → Bool) (n : Nat) (h : ∀ j, j < n → p j = false) : (List.range n).any p = false := List.any_eq_false.2 fun x hx => by simp [h x (List.mem_range.1 hx)]
theorem Cf.l1In_is (a lo hi : Int) : spec_l1In.f a lo hi = some (Cf.inB a lo hi) := by
 unfold spec_l1In.f Cf.inB
 by_cases h : a ≥ lo
 ·rw [if_pos h]; simp [h]
 ·rw [if_neg h]; simp [h]
theorem Cf.version_is (a : Int) : spec_l5Version.f a = some (Cf.inB a 0 1000000) := by unfold spec_l5Version.f; rw [Cf.l1In_is]; rfl
theorem Cf.addr_is (a : Int) : spec_l2Address.f a = some (Cf.inB a 0 4294967295) := by unfold spec_l2Address.f; rw [Cf.l1In_is]; rfl
theorem Cf.port_is (a : Int) : spec_l2Port.f a = some (Cf.inB a 0 65535) := by unfold spec_l2Port.f; rw [Cf.l1In_is]; rfl
theorem Cf.proto_is (a : Int) : spec_l5Proto.f a = some (Cf.prB a) := by
 unfold spec_l5Proto.f Cf.prB
 by_cases h : a = 6
 ·rw [if_pos h]; simp [h]
 ·rw [if_neg h]; simp [h]; rfl
theorem Cf.backend_is (x : S36) : spec_l5Backend.f x.f0 x.f1 x.f2 x.f3 x.f4 = some (Cf.isb x) := by
 unfold spec_l5Backend.f spec_l3Name.f Cf.isb
 simp only [Cf.addr_is, Cf.l1In_is, Option.bind_some]
 cases Cf.inB x.f0 1 999 <;> cases Cf.inB x.f1 0 4294967295 <;> cases Cf.inB x.f2 0 9 <;> rfl
theorem Cf.behind_is (x y : S64) : spec_l5Behind.f x.f0 x.f1 x.f2 x.f3 y.f0 y.f1 y.f2 y.f3 = some (Cf.beh x y) := by
 unfold spec_l5Behind.f Cf.beh
 split <;> (try split) <;> rfl
/-! #### walks by hand -/
set_option maxHeartbeats 2000000 in
/-- The place of a backend of a name. -/
theorem spec_l5At.cf (g : Nat) (A1 : Option Addr) (c1 : Nat) (l1 : List S36) (A2 : Option Addr) (n2 c2 : Nat) (v name : Int) (w : World) (hb : w.heap[g]? = some (.cells #[.int .i64 v, .slice A1 l1.length c1, .slice A2 n2 c2] 31 (0, 0))) (hr1 : Kd.C k36 w A1 l1.length l1) :
  Calls Try.prog 64 #[.pointer (some ⟨g, 0, none⟩), .int .i64 name] w fun e w' => e = .returned (.int .i64 (Cf.place l1 name)) ∧ Below w.heap.size w w' := by
 have hbig : l1.length ≤ 9223372036854775807 := by have := hr1.2.1; have hs : (k36).sz = 5 := rfl; (try simp only [maxLen] at this); (try rw [hs] at this); omega
 go_enter Try.func64, Try.ntmps64
 go_wp2
 go_loopg [5] l1.length (fun gg s5 wr => ∃ kk : Nat, kk ≤ l1.length ∧ l1.length - kk ≤ gg ∧ s5 = .int .i64 kk ∧ Aside (Below w.heap.size w wr) ∧ Aside (∀ j, j < kk → Cf.named name (l1.getD j z36) = false))
 case atStart => exact ⟨0, Nat.zero_le _, by omega, rfl, Below.refl _ w, fun j hj => absurd hj (Nat.not_lt_zero _)⟩
 case round =>
  obtain ⟨kk, hkk, hg, rfl, BW, AA⟩ := hrel
  have bk := blk_below hb BW.out
  have hz1 : wr.cell? ⟨g, 1, none⟩ = some (.slice A1 l1.length c1) := blk_cell bk 1
  clear bk
  by_cases hlt : kk < l1.length
  ·have hltz : (kk : Int) < (l1.length : Int) := by omega
   obtain ⟨ad, eA, hx_0, hx_1, hx_2, hx_3, hx_4⟩ := at_T36 (Kd.C_below hr1 BW.out) (kk : Int) (by omega) hltz
   cases eA
   have hy : l1.getD kk z36 = rd_T36 l1 (kk : Int) := rfl
   generalize rd_T36 l1 (kk : Int) = y at hx_0 hx_1 hx_2 hx_3 hx_4 hy
   have B : Aside (l1.getD kk z36 = y) := hy
   clear hy
   simp only [Int.toNat_natCast] at hx_0 hx_1 hx_2 hx_3 hx_4
   cases hq : (y.f0 == name) with
   | true =>
    go_wp2
    go_ret
    refine ⟨?_, BW.out⟩
    unfold Cf.place
    rw [Go.Proofs.Ytfmlhpoaipeoeaa.Ix.ixFrom_hit (Cf.named name) z36 l1 0 kk hlt (by rw [B.out]; exact hq) AA.out]
    simp
   | false =>
    go_wp2
    go_roundg (l1.length - (kk + 1))
    case measure => omega
    case rel =>
     refine ⟨kk + 1, by omega, by omega, by go_num, BW, (show Aside _ from fun j hj => ?_)⟩
     by_cases e : j = kk
     ·subst e
      rw [B.out]; exact hq
     ·exact AA.out j (by omega)
  ·have hltz : ¬ (kk : Int) < (l1.length : Int) := by omega
   have : kk = l1.length := by omega
   subst this
   go_wp2
   go_ret
   refine ⟨?_, BW.out⟩
   unfold Cf.place
   rw [Go.Proofs.Ytfmlhpoaipeoeaa.Ix.ixFrom_miss (Cf.named name) z36 l1 0 AA.out]
   rfl
theorem Cf.addr (a : Int) (w : World) : Calls Try.prog 113 #[.int .i64 a] w fun e w' => e = .returned (.bool (Cf.inB a 0 4294967295)) ∧ Below w.heap.size w w' := (spec_l2Address.calls a _ w (Cf.addr_is a)).mono (fun _ _ h => ⟨h.1, h.2.below⟩)
theorem Cf.port (a : Int) (w : World) : Calls Try.prog 114 #[.int .i64 a] w fun e w' => e = .returned (.bool (Cf.inB a 0 65535)) ∧ Below w.heap.size w w' := (spec_l2Port.calls a _ w (Cf.port_is a)).mono (fun _ _ h => ⟨h.1, h.2.below⟩)
theorem Cf.proto (a : Int) (w : World) : Calls Try.prog 134 #[.int .i64 a] w fun e w' => e = .returned (.bool (Cf.prB a)) ∧ Below w.heap.size w w' := (spec_l5Proto.calls a _ w (Cf.proto_is a)).mono (fun _ _ h => ⟨h.1, h.2.below⟩)
theorem Cf.up {w0 w w' : World} (h : Below w0.heap.size w0 w) (h' : Below w.heap.size w w') : Below w0.heap.size w0 w' := h.trans (h'.mono h.size)
set_option maxHeartbeats 8000000 in
set_option maxRecDepth 100000 in
/-- What is not right of a vip. -/
theorem spec_l5Vip.cf (g : Nat) (A1 : Option Addr) (c1 : Nat) (l1 : List S36) (A2 : Option Addr) (c2 : Nat) (l2 : List S64) (v : Int) (i : Nat) (w : World) (hb : w.heap[g]? = some (.cells #[.int .i64 v, .slice A1 l1.length c1, .slice A2 l2.length c2] 31 (0, 0))) (hr1 : Kd.C k36 w A1 l1.length l1) (hr2 : Kd.C k64 w A2 l2.length l2) (hi : i < l2.length) :
  Calls Try.prog 104 #[.pointer (some ⟨g, 0, none⟩), .int .i64 i] w fun e w' => e = .returned (.int .i64 (Cf.vcode l1 l2 i)) ∧ Below w.heap.size w w' := by
 have hu64 := Try.underlying64
 have hu31 := Try.underlying31
 have hbig : l2.length ≤ 9223372036854775807 := by have := hr2.2.1; have hs : (k64).sz = 4 := rfl; (try simp only [maxLen] at this); (try rw [hs] at this); omega
 have hz2 : w.cell? ⟨g, 2, none⟩ = some (.slice A2 l2.length c2) := blk_cell hb 2
 have hltz : (i : Int) < (l2.length : Int) := by omega
 obtain ⟨ad, A3, c3, eA, hx_0, hx_1, hx_2, hx_3, hl3, hC3⟩ := at_T64 hr2 (i : Int) (by omega) hltz
 have hy : l2.getD i z64 = rd_T64 l2 (i : Int) := rfl
 obtain ⟨r, hr⟩ : ∃ r, r = Cf.vcode l1 l2 i := ⟨_, rfl⟩
 rw [← hr]
 unfold Cf.vcode at hr
 rw [hy] at hr
 generalize rd_T64 l2 (i : Int) = x at hx_0 hx_1 hx_2 hx_3 hl3 hC3 hy hr
 simp only [Int.toNat_natCast] at hx_0 hx_1 hx_2 hx_3
 have hn3 : x.f3.length ≤ 9223372036854775807 := by have := hC3.2.1; have hs : (Kd.int .i64).sz = 1 := rfl; (try simp only [maxLen] at this); (try rw [hs] at this); omega
 obtain ⟨w1, hw1⟩ : ∃ W, W = w.alloc (.cells #[.int .i64 x.f0, .int .i64 x.f1, .int .i64 x.f2, .slice A3 x.f3.length c3] 64) := ⟨_, rfl⟩
 have hB1 : Below w.heap.size w w1 := by rw [hw1]; exact (Below.refl _ w).alloc (Nat.le_refl _) _
 have bv1 : w1.heap[w.heap.size]? = some (.cells #[.int .i64 x.f0, .int .i64 x.f1, .int .i64 x.f2, .slice A3 x.f3.length c3] 64 (0, 0)) := by rw [hw1]; exact blk_new w _
 have bg1 := blk_below hb hB1
 have hr11 := Kd.C_below hr1 hB1
 have hr21 := Kd.C_below hr2 hB1
 have hC31 := Kd.C_below hC3 hB1
 have D1 : Aside0 (w1.heap[g]? = some (.cells #[.int .i64 v, .slice A1 l1.length c1, .slice A2 l2.length c2] 31 (0, 0))) := ⟨bg1⟩
 have D2 : Aside0 (Kd.C k36 w1 A1 l1.length l1) := ⟨hr11⟩
 have D3 : Aside0 (Kd.C k64 w1 A2 l2.length l2) := ⟨hr21⟩
 have D4 : Aside0 ((Kd.int .i64).C w1 A3 x.f3.length x.f3) := ⟨hC31⟩
 have D5 : Aside0 (w1.heap[w.heap.size]? = some (.cells #[.int .i64 x.f0, .int .i64 x.f1, .int .i64 x.f2, .slice A3 x.f3.length c3] 64 (0, 0))) := ⟨bv1⟩
 have DB : Aside0 (Below w.heap.size w w1) := ⟨hB1⟩
 have DY : Aside0 (l2.getD i z64 = x) := ⟨hy⟩
 clear bg1 hr11 hr21 hC31 hB1 bv1 hr1 hr2 hC3 hb hy
 have h0 := Cf.addr x.f0
 have h1 := Cf.port x.f1
 have h2 := Cf.proto x.f2
 unfold Cf.vok at hr
 cases eA
 go_enter Try.func104, Try.ntmps104
 cases e0 : Cf.inB x.f0 0 4294967295 with
 | false =>
  simp only [e0] at h0
  go_wp2_with (go_at_call 113; refine (h0 _).mono ?_; rintro e w2 ⟨rfl, hb2⟩; rw [← hw1] at hb2)
  go_ret
  exact ⟨by rw [hr, e0]; rfl, Cf.up DB.out hb2⟩
 | true =>
  simp only [e0] at h0
  cases e1 : Cf.inB x.f1 0 65535 with
  | false =>
   simp only [e1] at h1
   go_wp2_with (first | (go_at_call 113; refine (h0 _).mono ?_; rintro e w2 ⟨rfl, hb2⟩; rw [← hw1] at hb2; have q1 := blk_cell (blk_below D5.out hb2) 1) | (go_at_call 114; refine (h1 _).mono ?_; rintro e w3 ⟨rfl, hb3⟩))
   go_ret
   exact ⟨by rw [hr, e0, e1]; rfl, Cf.up (Cf.up DB.out hb2) hb3⟩
  | true =>
   simp only [e1] at h1
   cases e2 : Cf.prB x.f2 with
   | false =>
    simp only [e2] at h2
    go_wp2_with (first | (go_at_call 113; refine (h0 _).mono ?_; rintro e w2 ⟨rfl, hb2⟩; rw [← hw1] at hb2; have q1 := blk_cell (blk_below D5.out hb2) 1) | (go_at_call 114; refine (h1 _).mono ?_; rintro e w3 ⟨rfl, hb3⟩; replace hb2 := Cf.up hb2 hb3; clear hb3; clear q1; have q2 := blk_cell (blk_below D5.out hb2) 2) | (go_at_call 134; refine (h2 _).mono ?_; rintro e w4 ⟨rfl, hb4⟩))
    go_ret
    exact ⟨by rw [hr, e0, e1, e2]; rfl, Cf.up (Cf.up DB.out hb2) hb4⟩
   | true =>
    simp only [e2] at h2
    rw [e0, e1, e2, if_neg (by simp)] at hr
    go_wp2_with (first | (go_at_call 113; refine (h0 _).mono ?_; rintro e w2 ⟨rfl, hb2⟩; rw [← hw1] at hb2; have q1 := blk_cell (blk_below D5.out hb2) 1) | (go_at_call 114; refine (h1 _).mono ?_; rintro e w3 ⟨rfl, hb3⟩; replace hb2 := Cf.up hb2 hb3; clear hb3; clear q1; have q2 := blk_cell (blk_below D5.out hb2) 2) | (go_at_call 134; refine (h2 _).mono ?_; rintro e w4 ⟨rfl, hb4⟩; replace hb2 := Cf.up hb2 hb4; clear hb4 q2))
    by_cases hi0 : 0 < i
    ·have hg0 : decide ((0 : Int) < (i : Int)) = true := decide_eq_true (by omega)
     obtain ⟨j, hj⟩ : ∃ j, j = i - 1 := ⟨_, rfl⟩
     have hwj : IntKind.i64.wrap ((i : Int) - 1) = (j : Int) := by rw [IntKind.wrap_i64]; omega
     rw [← hj] at hr
     have hjl : (j : Int) < (l2.length : Int) := by omega
     have hjl0 : (0 : Int) ≤ (j : Int) := by omega
     obtain ⟨ad2, A5, c5, eB, px_0, px_1, px_2, px_3, pl3, pC3⟩ := at_T64 (Kd.C_below D3.out hb2) (j : Int) (by omega) (by omega)
     cases eB
     have py : l2.getD j z64 = rd_T64 l2 (j : Int) := rfl
     rw [py] at hr
     generalize rd_T64 l2 (j : Int) = y at px_0 px_1 px_2 px_3 pl3 pC3 py hr
     simp only [Int.toNat_natCast] at px_0 px_1 px_2 px_3
     have hz2' : w4.cell? ⟨g, 2, none⟩ = some (.slice (some ad) l2.length c2) := blk_cell (blk_below D1.out hb2) 2
     have bv := blk_below D5.out hb2
     have v0 := blk_cell bv 0
     have v1 := blk_cell bv 1
     have v2 := blk_cell bv 2
     have v3 := blk_cell bv 3
     have hbeh := fun (W : World) (hW : Below w4.heap.size w4 W) => spec_l5Behind.calls y.f0 y.f1 y.f2 A5 c5 y.f3 x.f0 x.f1 x.f2 A3 c3 x.f3 _ W (Kd.C_below pC3 hW) pl3 (Kd.C_below (Kd.C_below D4.out hb2) hW) hl3 (Cf.behind_is y x)
     clear hj py
     cases hbh : Cf.beh y x with
     | false =>
      simp only [hbh] at hbeh
      go_still_tail 12, (by kernel_rfl)
      change wpList _ _ _ _ _ w4.drew
      have hd : Below w4.heap.size w4 w4.drew := below_drew1 (Below.refl _ _)
      generalize w4.drew = wd at hd
      go_wp2_with (go_at_call 135; refine (hbeh _ hd).mono ?_; rintro e w5 ⟨rfl, hb5⟩)
      go_ret
      exact ⟨by rw [hr, hbh, decide_eq_true hi0]; rfl, Cf.up DB.out (Cf.up (Cf.up hb2 hd) hb5)⟩
     | true =>
      simp only [hbh] at hbeh
      go_still_tail 12, (by kernel_rfl)
      change wpList _ _ _ _ _ w4.drew
      have hd : Below w4.heap.size w4 w4.drew := below_drew1 (Below.refl _ _)
      generalize w4.drew = wd at hd
      rw [hbh, if_neg (by simp)] at hr
      go_wp2_with (go_at_call 135; refine (hbeh _ hd).mono ?_; rintro e w5 ⟨rfl, hb5⟩; replace hb2 := Cf.up (Cf.up hb2 hd) hb5; clear hb5 hd hbeh px_0 px_1 px_2 px_3 pl3 pC3 hz2' bv v0 v1 v2 v3)
      have HR := Aside0.mk hr
      clear hr
      go_wp2
      go_loopg [6] x.f3.length (fun gg s6 wr => ∃ kk : Nat, kk ≤ x.f3.length ∧ x.f3.length - kk ≤ gg ∧ s6 = .int .i64 kk ∧ Aside (Below w1.heap.size w1 wr) ∧ Aside (∀ j, j < kk → Cf.gone l1 (x.f3.getD j 0) = false))
      case atStart => exact ⟨0, Nat.zero_le _, by omega, rfl, hb2, fun j hj => absurd hj (Nat.not_lt_zero _)⟩
      case round =>
       clear hb2
       obtain ⟨kk, hkk, hg, rfl, BW, AA⟩ := hrel
       have v3 : wr.cell? ⟨w.heap.size, 3, none⟩ = some (.slice A3 x.f3.length c3) := blk_cell (blk_below D5.out BW.out) 3
       by_cases hlt : kk < x.f3.length
       ·have hltz : (kk : Int) < (x.f3.length : Int) := by omega
        obtain ⟨an, eN, hn⟩ := Kd.at_int (Kd.C_below D4.out BW.out) (kk : Int) (by omega) hltz
        cases eN
        have hcall := spec_l5At.cf g A1 c1 l1 (some ad) l2.length c2 v (rd x.f3 (kk : Int)) wr (blk_below D1.out BW.out) (Kd.C_below D2.out BW.out)
        have hq0 : Cf.gone l1 (x.f3.getD kk 0) = decide (Cf.place l1 (rd x.f3 (kk : Int)) < 0) := rfl
        have HQ : Aside (Cf.gone l1 (x.f3.getD kk 0) = decide (Cf.place l1 (rd x.f3 (kk : Int)) < 0)) := hq0
        clear hq0
        simp only [Int.toNat_natCast] at hn
        cases hq : decide (Cf.place l1 (rd x.f3 (kk : Int)) < 0) with
        | true =>
         go_wp2_with (go_at_call 64; refine hcall.mono ?_; rintro e w6 ⟨rfl, hb6⟩)
         go_ret
         refine ⟨?_, Cf.up DB.out (Cf.up BW.out hb6)⟩
         rw [HR.out, if_pos (Cf.any_hit (Cf.gone l1) 0 x.f3 kk hlt (HQ.out.trans hq))]
         try rfl
        | false =>
         go_wp2_with (go_at_call 64; refine hcall.mono ?_; rintro e w6 ⟨rfl, hb6⟩)
         go_roundg (x.f3.length - (kk + 1))
         case measure => omega
         case rel =>
          refine ⟨kk + 1, by omega, by omega, by go_num, Cf.up BW.out hb6, (show Aside _ from fun j hj => ?_)⟩
          by_cases e : j = kk
          ·subst e
           exact HQ.out.trans hq
          ·exact AA.out j (by omega)
       ·have hltz : ¬ (kk : Int) < (x.f3.length : Int) := by omega
        have : kk = x.f3.length := by omega
        subst this
        have hr := HR.out
        rw [if_neg (by rw [Cf.any_miss (Cf.gone l1) 0 x.f3 AA.out]; simp)] at hr
        clear HR
        have HR := Aside0.mk hr
        clear hr
        have BW0 : Aside0 (Below w1.heap.size w1 wr) := ⟨BW.out⟩
        clear AA BW hg hkk hlt
        go_wp2
        go_loopg [7] x.f3.length (fun gg s7 wr => ∃ kk : Nat, kk ≤ x.f3.length + 1 ∧ 1 ≤ kk ∧ x.f3.length - kk ≤ gg ∧ s7 = .int .i64 kk ∧ Aside (Below w1.heap.size w1 wr) ∧ Aside (∀ j, j < kk → j < x.f3.length → Cf.falls x.f3 j = false))
        case atStart => exact ⟨1, by omega, by omega, by omega, rfl, BW0.out, fun j hj _ => (show Cf.falls x.f3 j = false from by (obtain rfl : j = 0 := by omega); simp [Cf.falls])⟩
        case round =>
         clear v3 BW0
         obtain ⟨kk, hkk, hk1, hg, rfl, BW, AA⟩ := hrel
         have v3 := blk_cell (blk_below D5.out BW.out) 3
         by_cases hlt : kk < x.f3.length
         ·have hltz : (kk : Int) < (x.f3.length : Int) := by omega
          obtain ⟨an, eN, hn⟩ := Kd.at_int (Kd.C_below D4.out BW.out) (kk : Int) (by omega) hltz
          cases eN
          obtain ⟨j, hj⟩ : ∃ j, j = kk - 1 := ⟨_, rfl⟩
          have hwj : IntKind.i64.wrap ((kk : Int) - 1) = (j : Int) := by rw [IntKind.wrap_i64]; omega
          have hjl : (j : Int) < (x.f3.length : Int) := by omega
          obtain ⟨an2, eN2, hn2⟩ := Kd.at_int (Kd.C_below D4.out BW.out) (j : Int) (by omega) hjl
          cases eN2
          have HQ : Aside (Cf.falls x.f3 kk = decide (rd x.f3 (kk : Int) ≤ rd x.f3 (j : Int))) := (by
           show Cf.falls x.f3 kk = _
           unfold Cf.falls
           rw [decide_eq_true hk1, ← hj]; rfl)
          clear hj
          simp only [Int.toNat_natCast] at hn hn2
          cases hq : decide (rd x.f3 (kk : Int) ≤ rd x.f3 (j : Int)) with
          | true =>
           go_wp2
           go_quiet (fail)
           go_wp2
           go_ret
           refine ⟨?_, Cf.up DB.out (pw_below_drewN BW.out _)⟩
           rw [HR.out, if_pos (Cf.range_hit (Cf.falls x.f3) x.f3.length kk hlt (HQ.out.trans hq))]
           try rfl
          | false =>
           go_wp2
           go_quiet (fail)
           go_wp2
           go_roundg (x.f3.length - (kk + 1))
           case measure => omega
           case rel =>
            refine ⟨kk + 1, by omega, by omega, by omega, by go_num, pw_below_drewN BW.out _, (show Aside _ from fun j hj hl => ?_)⟩
            by_cases e : j = kk
            ·subst e
             exact HQ.out.trans hq
            ·exact AA.out j (by omega) hl
         ·have hltz : ¬ (kk : Int) < (x.f3.length : Int) := by omega
          go_wp2
          go_ret
          refine ⟨?_, Cf.up DB.out BW.out⟩
          rw [HR.out, if_neg (by rw [Cf.range_miss (Cf.falls x.f3) x.f3.length (fun j hj => AA.out j (by omega) hj)]; simp)]
          try rfl
    ·have hg0 : decide ((0 : Int) < (i : Int)) = false := decide_eq_false (by omega)
     rw [decide_eq_false hi0, if_neg (by simp)] at hr
     go_quiet (fail)
     have HR := Aside0.mk hr
     clear hr
     go_wp2
     go_loopg [6] x.f3.length (fun gg s6 wr => ∃ kk : Nat, kk ≤ x.f3.length ∧ x.f3.length - kk ≤ gg ∧ s6 = .int .i64 kk ∧ Aside (Below w1.heap.size w1 wr) ∧ Aside (∀ j, j < kk → Cf.gone l1 (x.f3.getD j 0) = false))
     case atStart => exact ⟨0, Nat.zero_le _, by omega, rfl, pw_below_drewN hb2 _, fun j hj => absurd hj (Nat.not_lt_zero _)⟩
     case round =>
      clear hb2
      obtain ⟨kk, hkk, hg, rfl, BW, AA⟩ := hrel
      have v3 : wr.cell? ⟨w.heap.size, 3, none⟩ = some (.slice A3 x.f3.length c3) := blk_cell (blk_below D5.out BW.out) 3
      by_cases hlt : kk < x.f3.length
      ·have hltz : (kk : Int) < (x.f3.length : Int) := by omega
       obtain ⟨an, eN, hn⟩ := Kd.at_int (Kd.C_below D4.out BW.out) (kk : Int) (by omega) hltz
       cases eN
       have hcall := spec_l5At.cf g A1 c1 l1 (some ad) l2.length c2 v (rd x.f3 (kk : Int)) wr (blk_below D1.out BW.out) (Kd.C_below D2.out BW.out)
       have hq0 : Cf.gone l1 (x.f3.getD kk 0) = decide (Cf.place l1 (rd x.f3 (kk : Int)) < 0) := rfl
       have HQ : Aside (Cf.gone l1 (x.f3.getD kk 0) = decide (Cf.place l1 (rd x.f3 (kk : Int)) < 0)) := hq0
       clear hq0
       simp only [Int.toNat_natCast] at hn
       cases hq : decide (Cf.place l1 (rd x.f3 (kk : Int)) < 0) with
       | true =>
        go_wp2_with (go_at_call 64; refine hcall.mono ?_; rintro e w6 ⟨rfl, hb6⟩)
        go_ret
        refine ⟨?_, Cf.up DB.out (Cf.up BW.out hb6)⟩
        rw [HR.out, if_pos (Cf.any_hit (Cf.gone l1) 0 x.f3 kk hlt (HQ.out.trans hq))]
        try rfl
       | false =>
        go_wp2_with (go_at_call 64; refine hcall.mono ?_; rintro e w6 ⟨rfl, hb6⟩)
        go_roundg (x.f3.length - (kk + 1))
        case measure => omega
        case rel =>
         refine ⟨kk + 1, by omega, by omega, by go_num, Cf.up BW.out hb6, (show Aside _ from fun j hj => ?_)⟩
         by_cases e : j = kk
         ·subst e
          exact HQ.out.trans hq
         ·exact AA.out j (by omega)
      ·have hltz : ¬ (kk : Int) < (x.f3.length : Int) := by omega
       have : kk = x.f3.length := by omega
       subst this
       have hr := HR.out
       rw [if_neg (by rw [Cf.any_miss (Cf.gone l1) 0 x.f3 AA.out]; simp)] at hr
       clear HR
       have HR := Aside0.mk hr
       clear hr
       have BW0 : Aside0 (Below w1.heap.size w1 wr) := ⟨BW.out⟩
       clear AA BW hg hkk hlt
       go_wp2
       go_loopg [7] x.f3.length (fun gg s7 wr => ∃ kk : Nat, kk ≤ x.f3.length + 1 ∧ 1 ≤ kk ∧ x.f3.length - kk ≤ gg ∧ s7 = .int .i64 kk ∧ Aside (Below w1.heap.size w1 wr) ∧ Aside (∀ j, j < kk → j < x.f3.length → Cf.falls x.f3 j = false))
       case atStart => exact ⟨1, by omega, by omega, by omega, rfl, BW0.out, fun j hj _ => (show Cf.falls x.f3 j = false from by (obtain rfl : j = 0 := by omega); simp [Cf.falls])⟩
       case round =>
        clear v3 BW0
        obtain ⟨kk, hkk, hk1, hg, rfl, BW, AA⟩ := hrel
        have v3 := blk_cell (blk_below D5.out BW.out) 3
        by_cases hlt : kk < x.f3.length
        ·have hltz : (kk : Int) < (x.f3.length : Int) := by omega
         obtain ⟨an, eN, hn⟩ := Kd.at_int (Kd.C_below D4.out BW.out) (kk : Int) (by omega) hltz
         cases eN
         obtain ⟨j, hj⟩ : ∃ j, j = kk - 1 := ⟨_, rfl⟩
         have hwj : IntKind.i64.wrap ((kk : Int) - 1) = (j : Int) := by rw [IntKind.wrap_i64]; omega
         have hjl : (j : Int) < (x.f3.length : Int) := by omega
         obtain ⟨an2, eN2, hn2⟩ := Kd.at_int (Kd.C_below D4.out BW.out) (j : Int) (by omega) hjl
         cases eN2
         have HQ : Aside (Cf.falls x.f3 kk = decide (rd x.f3 (kk : Int) ≤ rd x.f3 (j : Int))) := (by
          show Cf.falls x.f3 kk = _
          unfold Cf.falls
          rw [decide_eq_true hk1, ← hj]; rfl)
         clear hj
         simp only [Int.toNat_natCast] at hn hn2
         cases hq : decide (rd x.f3 (kk : Int) ≤ rd x.f3 (j : Int)) with
         | true =>
          go_wp2
          go_quiet (fail)
          go_wp2
          go_ret
          refine ⟨?_, Cf.up DB.out (pw_below_drewN BW.out _)⟩
          rw [HR.out, if_pos (Cf.range_hit (Cf.falls x.f3) x.f3.length kk hlt (HQ.out.trans hq))]
          try rfl
         | false =>
          go_wp2
          go_quiet (fail)
          go_wp2
          go_roundg (x.f3.length - (kk + 1))
          case measure => omega
          case rel =>
           refine ⟨kk + 1, by omega, by omega, by omega, by go_num, pw_below_drewN BW.out _, (show Aside _ from fun j hj hl => ?_)⟩
           by_cases e : j = kk
           ·subst e
            exact HQ.out.trans hq
           ·exact AA.out j (by omega) hl
        ·have hltz : ¬ (kk : Int) < (x.f3.length : Int) := by omega
         go_wp2
         go_ret
         refine ⟨?_, Cf.up DB.out BW.out⟩
         rw [HR.out, if_neg (by rw [Cf.range_miss (Cf.falls x.f3) x.f3.length (fun j hj => AA.out j (by omega) hj)]; simp)]
         try rfl
theorem Cf.vers (a : Int) (w : World) : Calls Try.prog 102 #[.int .i64 a] w fun e w' => e = .returned (.bool (Cf.inB a 0 1000000)) ∧ Below w.heap.size w w' := (spec_l5Version.calls a _ w (Cf.version_is a)).mono (fun _ _ h => ⟨h.1, h.2.below⟩)
theorem Cf.code_b {v : Int} {l1 : List S36} {l2 : List S64} {r : Int} (hr : r = Cf.code v l1 l2) (h0 : Cf.inB v 0 1000000 = true) (h1 : ¬ (l1.length : Int) > 8) (h2 : ¬ (l2.length : Int) > 4) : r = if Cf.first (Cf.bcode l1) 0 l1.length = 0 then Cf.first (Cf.vcode l1 l2) 0 l2.length else Cf.first (Cf.bcode l1) 0 l1.length := by
 rw [hr]; unfold Cf.code
 rw [h0, if_neg (by simp), if_neg (by rw [decide_eq_false h1, decide_eq_false h2]; simp)]
theorem Cf.code_hit {v : Int} {l1 : List S36} {l2 : List S64} {r : Int} (hr : r = if Cf.first (Cf.bcode l1) 0 l1.length = 0 then Cf.first (Cf.vcode l1 l2) 0 l2.length else Cf.first (Cf.bcode l1) 0 l1.length) (kk : Nat) (hk : kk < l1.length) (hn : Cf.bcode l1 kk ≠ 0) (h : ∀ j, j < kk → Cf.bcode l1 j = 0) : r = Cf.bcode l1 kk := by
 have e := Cf.first_hit (Cf.bcode l1) l1.length 0 kk hk (by simpa using hn) (fun j hj => by simpa using h j hj)
 rw [Nat.zero_add] at e
 rw [hr, e, if_neg hn]
theorem Cf.code_v {l1 : List S36} {l2 : List S64} {r : Int} (hr : r = if Cf.first (Cf.bcode l1) 0 l1.length = 0 then Cf.first (Cf.vcode l1 l2) 0 l2.length else Cf.first (Cf.bcode l1) 0 l1.length) (h : ∀ j, j < l1.length → Cf.bcode l1 j = 0) : r = Cf.first (Cf.vcode l1 l2) 0 l2.length := by
 rw [hr, if_pos (Cf.first_miss _ _ _ (fun j hj => by simpa using h j hj))]
theorem Cf.vhit {l1 : List S36} {l2 : List S64} {r : Int} (hr : r = Cf.first (Cf.vcode l1 l2) 0 l2.length) (kk : Nat) (hk : kk < l2.length) (hn : Cf.vcode l1 l2 kk ≠ 0) (h : ∀ j, j < kk → Cf.vcode l1 l2 j = 0) : r = Cf.vcode l1 l2 kk := by
 have e := Cf.first_hit (Cf.vcode l1 l2) l2.length 0 kk hk (by simpa using hn) (fun j hj => by simpa using h j hj)
 rw [Nat.zero_add] at e
 rw [hr, e]
theorem Cf.vmiss {l1 : List S36} {l2 : List S64} {r : Int} (hr : r = Cf.first (Cf.vcode l1 l2) 0 l2.length) (h : ∀ j, j < l2.length → Cf.vcode l1 l2 j = 0) : r = 0 := by
 rw [hr]; exact Cf.first_miss _ _ _ (fun j hj => by simpa using h j hj)
theorem Cf.bcode_3 {l1 : List S36} {i : Nat} (h : Cf.isb (l1.getD i z36) = false) : Cf.bcode l1 i = 3 := by unfold Cf.bcode; rw [if_pos h]
theorem Cf.bcode_1 {l1 : List S36} {i : Nat} (h : Cf.isb (l1.getD i z36) = true) (hi : 0 < i) (h1 : decide ((l1.getD i z36).f0 ≤ (l1.getD (i - 1) z36).f0) = true) : Cf.bcode l1 i = 1 := by unfold Cf.bcode; rw [if_neg (by rw [h]; simp), decide_eq_true hi, h1]; rfl
theorem Cf.bcode_0 {l1 : List S36} {i : Nat} (h : Cf.isb (l1.getD i z36) = true) (h1 : (decide (0 < i) && decide ((l1.getD i z36).f0 ≤ (l1.getD (i - 1) z36).f0)) = false) : Cf.bcode l1 i = 0 := by unfold Cf.bcode; rw [if_neg (by rw [h]; simp), h1]; rfl
set_option maxHeartbeats 8000000 in
set_option maxRecDepth 100000 in
/-- What is not right of a configuration. -/
theorem spec_l5Fault.cf (g : Nat) (A1 : Option Addr) (c1 : Nat) (l1 : List S36) (A2 : Option Addr) (c2 : Nat) (l2 : List S64) (v : Int) (w : World) (hb : w.heap[g]? = some (.cells #[.int .i64 v, .slice A1 l1.length c1, .slice A2 l2.length c2] 31 (0, 0))) (hr1 : Kd.C k36 w A1 l1.length l1) (hr2 : Kd.C k64 w A2 l2.length l2) :
  Calls Try.prog 50 #[.pointer (some ⟨g, 0, none⟩)] w fun e w' => e = .returned (.int .i64 (Cf.code v l1 l2)) ∧ Below w.heap.size w w' := by
 have hu36 := Try.underlying36
 have hu31 := Try.underlying31
 obtain ⟨r, hr⟩ : ∃ r, r = Cf.code v l1 l2 := ⟨_, rfl⟩
 rw [← hr]
 have hbig1 : l1.length ≤ 9223372036854775807 := by have := hr1.2.1; have hs : (k36).sz = 5 := rfl; (try simp only [maxLen] at this); (try rw [hs] at this); omega
 have hbig2 : l2.length ≤ 9223372036854775807 := by have := hr2.2.1; have hs : (k64).sz = 4 := rfl; (try simp only [maxLen] at this); (try rw [hs] at this); omega
 have z0 : w.cell? ⟨g, 0, none⟩ = some (.int .i64 v) := blk_cell hb 0
 have D1 : Aside0 (w.heap[g]? = some (.cells #[.int .i64 v, .slice A1 l1.length c1, .slice A2 l2.length c2] 31 (0, 0))) := ⟨hb⟩
 have D2 : Aside0 (Kd.C k36 w A1 l1.length l1) := ⟨hr1⟩
 have D3 : Aside0 (Kd.C k64 w A2 l2.length l2) := ⟨hr2⟩
 clear hb hr1 hr2
 have h0 := Cf.vers v
 go_enter Try.func50, Try.ntmps50
 cases e0 : Cf.inB v 0 1000000 with
 | false =>
  simp only [e0] at h0
  go_wp2_with (go_at_call 102; refine (h0 _).mono ?_; rintro e w2 ⟨rfl, hb2⟩)
  go_ret
  exact ⟨by rw [hr]; unfold Cf.code; rw [e0]; rfl, hb2⟩
 | true =>
  simp only [e0] at h0
  by_cases hm : (l1.length : Int) > 8
  ·have hm0 : decide ((8 : Int) < (l1.length : Int)) = true := decide_eq_true hm
   go_wp2_with (go_at_call 102; refine (h0 _).mono ?_; rintro e w2 ⟨rfl, hb2⟩; have z1 := blk_cell (blk_below D1.out hb2) 1)
   go_ret
   exact ⟨by rw [hr]; unfold Cf.code; rw [e0, if_neg (by simp), if_pos (by rw [decide_eq_true hm]; rfl)]; rfl, hb2⟩
  have hm0 : decide ((8 : Int) < (l1.length : Int)) = false := decide_eq_false hm
  by_cases hm2 : (l2.length : Int) > 4
  ·have hm20 : decide ((4 : Int) < (l2.length : Int)) = true := decide_eq_true hm2
   go_wp2_with (go_at_call 102; refine (h0 _).mono ?_; rintro e w2 ⟨rfl, hb2⟩; have z1 := blk_cell (blk_below D1.out hb2) 1; have z2 := blk_cell (blk_below D1.out hb2) 2)
   go_ret
   exact ⟨by rw [hr]; unfold Cf.code; rw [e0, if_neg (by simp), if_pos (by rw [decide_eq_true hm2]; simp)]; rfl, hb2⟩
  have hm20 : decide ((4 : Int) < (l2.length : Int)) = false := decide_eq_false hm2
  have HR := Aside0.mk (Cf.code_b hr e0 hm hm2)
  clear hr
  go_wp2_with (go_at_call 102; refine (h0 _).mono ?_; rintro e w2 ⟨rfl, hb2⟩; have z1 := blk_cell (blk_below D1.out hb2) 1; have z2 := blk_cell (blk_below D1.out hb2) 2)
  go_loopg [3] l1.length (fun gg s3 wr => ∃ kk : Nat, kk ≤ l1.length ∧ l1.length - kk ≤ gg ∧ s3 = .int .i64 kk ∧ Aside (Below w.heap.size w wr) ∧ Aside (∀ j, j < kk → Cf.bcode l1 j = 0))
  case atStart => exact ⟨0, Nat.zero_le _, by omega, rfl, hb2, fun j hj => absurd hj (Nat.not_lt_zero _)⟩
  case round =>
   clear z1 z2 hb2 h0
   obtain ⟨kk, hkk, hg, rfl, BW, AA⟩ := hrel
   have z1 : wr.cell? ⟨g, 1, none⟩ = some (.slice A1 l1.length c1) := blk_cell (blk_below D1.out BW.out) 1
   by_cases hlt : kk < l1.length
   ·have hltz : (kk : Int) < (l1.length : Int) := by omega
    obtain ⟨ad, eA, hx_0, hx_1, hx_2, hx_3, hx_4⟩ := at_T36 (Kd.C_below D2.out BW.out) (kk : Int) (by omega) hltz
    cases eA
    have hy : l1.getD kk z36 = rd_T36 l1 (kk : Int) := rfl
    generalize rd_T36 l1 (kk : Int) = y at hx_0 hx_1 hx_2 hx_3 hx_4 hy
    have B : Aside (l1.getD kk z36 = y) := hy
    clear hy
    simp only [Int.toNat_natCast] at hx_0 hx_1 hx_2 hx_3 hx_4
    have hc := fun (W : World) => spec_l5Backend.calls y.f0 y.f1 y.f2 y.f3 y.f4 _ W (Cf.backend_is y)
    cases hq : Cf.isb y with
    | false =>
     simp only [hq] at hc
     go_wp2_with (go_at_call 103; refine (hc _).mono ?_; rintro e w3 ⟨rfl, hb3⟩)
     go_ret
     exact ⟨by rw [Cf.code_hit (v := v) HR.out kk hlt (by rw [Cf.bcode_3 (by rw [B.out]; exact hq)]; simp) AA.out, Cf.bcode_3 (by rw [B.out]; exact hq)]; rfl, Cf.up BW.out hb3⟩
    | true =>
     simp only [hq] at hc
     by_cases hk0 : 0 < kk
     ·have hg0 : decide ((0 : Int) < (kk : Int)) = true := decide_eq_true (by omega)
      obtain ⟨j, hj⟩ : ∃ j, j = kk - 1 := ⟨_, rfl⟩
      have hwj : IntKind.i64.wrap ((kk : Int) - 1) = (j : Int) := by rw [IntKind.wrap_i64]; omega
      have hjl : (j : Int) < (l1.length : Int) := by omega
      have C : Aside (l1.getD (kk - 1) z36 = rd_T36 l1 (j : Int)) := (by rw [← hj]; rfl)
      clear hj
      cases hle : decide (y.f0 ≤ (rd_T36 l1 (j : Int)).f0) with
      | true =>
       go_wp2_with (go_at_call 103; refine (hc _).mono ?_; rintro e w3 ⟨rfl, hb3⟩; replace hb3 := Cf.up BW.out hb3; clear z1 hx_0 hx_1 hx_2 hx_3 hx_4; have z1 := blk_cell (blk_below D1.out hb3) 1; obtain ⟨ad1, eA1, hx_0, hx_1, hx_2, hx_3, hx_4⟩ := at_T36 (Kd.C_below D2.out hb3) (kk : Int) (by omega) hltz; cases eA1; obtain ⟨ad2, eA2, px_0, px_1, px_2, px_3, px_4⟩ := at_T36 (Kd.C_below D2.out hb3) (j : Int) (by omega) hjl; cases eA2; simp only [Int.toNat_natCast] at hx_0 px_0; have hy0 : (rd_T36 l1 (kk : Int)).f0 = y.f0 := (congrArg S36.f0 B.out); rw [hy0] at hx_0; clear hy0)
       go_quiet (fail)
       go_wp2
       go_ret
       have hbc : Cf.bcode l1 kk = 1 := Cf.bcode_1 (by rw [B.out]; exact hq) hk0 (by rw [B.out, C.out]; exact hle)
       exact ⟨by rw [Cf.code_hit (v := v) HR.out kk hlt (by rw [hbc]; simp) AA.out, hbc]; rfl, pw_below_drewN hb3 _⟩
      | false =>
       go_wp2_with (go_at_call 103; refine (hc _).mono ?_; rintro e w3 ⟨rfl, hb3⟩; replace hb3 := Cf.up BW.out hb3; clear z1 hx_0 hx_1 hx_2 hx_3 hx_4; have z1 := blk_cell (blk_below D1.out hb3) 1; obtain ⟨ad1, eA1, hx_0, hx_1, hx_2, hx_3, hx_4⟩ := at_T36 (Kd.C_below D2.out hb3) (kk : Int) (by omega) hltz; cases eA1; obtain ⟨ad2, eA2, px_0, px_1, px_2, px_3, px_4⟩ := at_T36 (Kd.C_below D2.out hb3) (j : Int) (by omega) hjl; cases eA2; simp only [Int.toNat_natCast] at hx_0 px_0; have hy0 : (rd_T36 l1 (kk : Int)).f0 = y.f0 := (congrArg S36.f0 B.out); rw [hy0] at hx_0; clear hy0)
       go_quiet (fail)
       go_wp2
       have hbc : Cf.bcode l1 kk = 0 := Cf.bcode_0 (by rw [B.out]; exact hq) (by rw [B.out, C.out, hle]; simp)
       go_roundg (l1.length - (kk + 1))
       case measure => omega
       case rel =>
        refine ⟨kk + 1, by omega, by omega, by go_num, pw_below_drewN hb3 _, (show Aside _ from fun j hj => ?_)⟩
        by_cases e : j = kk
        ·subst e; exact hbc
        ·exact AA.out j (by omega)
     ·have hg0 : decide ((0 : Int) < (kk : Int)) = false := decide_eq_false (by omega)
      go_wp2_with (go_at_call 103; refine (hc _).mono ?_; rintro e w3 ⟨rfl, hb3⟩; replace hb3 := Cf.up BW.out hb3)
      go_quiet (fail)
      go_wp2
      have hbc : Cf.bcode l1 kk = 0 := Cf.bcode_0 (by rw [B.out]; exact hq) (by rw [decide_eq_false hk0]; rfl)
      go_roundg (l1.length - (kk + 1))
      case measure => omega
      case rel =>
       refine ⟨kk + 1, by omega, by omega, by go_num, pw_below_drewN hb3 _, (show Aside _ from fun j hj => ?_)⟩
       by_cases e : j = kk
       ·subst e; exact hbc
       ·exact AA.out j (by omega)
   ·have hltz : ¬ (kk : Int) < (l1.length : Int) := by omega
    have : kk = l1.length := by omega
    subst this
    have HV := Aside0.mk (Cf.code_v HR.out AA.out)
    have BW0 : Aside0 (Below w.heap.size w wr) := ⟨BW.out⟩
    clear AA BW hg hkk hlt HR
    go_wp2
    go_loopg [4] l2.length (fun gg s4 wr => ∃ kk : Nat, kk ≤ l2.length ∧ l2.length - kk ≤ gg ∧ s4 = .int .i64 kk ∧ Aside (Below w.heap.size w wr) ∧ Aside (∀ j, j < kk → Cf.vcode l1 l2 j = 0))
    case atStart => exact ⟨0, Nat.zero_le _, by omega, rfl, BW0.out, fun j hj => absurd hj (Nat.not_lt_zero _)⟩
    case round =>
     clear z1 BW0
     obtain ⟨kk, hkk, hg, rfl, BW, AA⟩ := hrel
     have z2 := blk_cell (blk_below D1.out BW.out) 2
     by_cases hlt : kk < l2.length
     ·have hltz : (kk : Int) < (l2.length : Int) := by omega
      have hc := spec_l5Vip.cf g A1 c1 l1 A2 c2 l2 v kk wr (blk_below D1.out BW.out) (Kd.C_below D2.out BW.out) (Kd.C_below D3.out BW.out) hlt
      obtain ⟨q, hq⟩ : ∃ q, q = Cf.vcode l1 l2 kk := ⟨_, rfl⟩
      rw [← hq] at hc
      have HQ := Aside0.mk hq
      clear hq
      by_cases hq0 : q = 0
      ·have hq1 : (q != 0) = false := bne_eq_false_iff_eq.mpr hq0
       go_wp2_with (go_at_call 104; refine hc.mono ?_; rintro e w3 ⟨rfl, hb3⟩)
       go_roundg (l2.length - (kk + 1))
       case measure => omega
       case rel =>
        refine ⟨kk + 1, by omega, by omega, by go_num, Cf.up BW.out hb3, (show Aside _ from fun j hj => ?_)⟩
        by_cases e : j = kk
        ·subst e; exact HQ.out.symm.trans hq0
        ·exact AA.out j (by omega)
      ·have hq1 : (q != 0) = true := bne_iff_ne.mpr hq0
       go_wp2_with (go_at_call 104; refine hc.mono ?_; rintro e w3 ⟨rfl, hb3⟩)
       go_ret
       exact ⟨by rw [Cf.vhit HV.out kk hlt (fun h => hq0 (HQ.out.trans h)) AA.out, ← HQ.out]; rfl, Cf.up BW.out hb3⟩
     ·have hltz : ¬ (kk : Int) < (l2.length : Int) := by omega
      go_wp2
      go_ret
      exact ⟨by rw [Cf.vmiss HV.out (fun j hj => AA.out j (by omega))]; rfl, BW.out⟩
set_option maxHeartbeats 8000000 in
/-- What is not right of a configuration, the configuration handed over by value. -/
theorem spec_ConfigFault.cf (A1 : Option Addr) (c1 : Nat) (l1 : List S36) (A2 : Option Addr) (c2 : Nat) (l2 : List S64) (v : Int) (w : World) (hr1 : Kd.C k36 w A1 l1.length l1) (hr2 : Kd.C k64 w A2 l2.length l2) :
  Calls Try.prog 13 #[.agg #[.int .i64 v, .slice A1 l1.length c1, .slice A2 l2.length c2]] w fun e w' => e = .returned (.int .i64 (Cf.code v l1 l2)) ∧ Below w.heap.size w w' := by
 have hu31 := Try.underlying31
 obtain ⟨w1, hw1⟩ : ∃ W, W = w.alloc (.cells #[.int .i64 v, .slice A1 l1.length c1, .slice A2 l2.length c2] 31) := ⟨_, rfl⟩
 have hB1 : Below w.heap.size w w1 := by rw [hw1]; exact (Below.refl _ w).alloc (Nat.le_refl _) _
 have hcall := spec_l5Fault.cf w.heap.size A1 c1 l1 A2 c2 l2 v w1 (by rw [hw1]; exact blk_new w _) (Kd.C_below hr1 hB1) (Kd.C_below hr2 hB1)
 rw [hw1] at hcall
 go_enter Try.func13, Try.ntmps13
 go_wp2_with (go_at_call 50; refine hcall.mono ?_; rintro e w2 ⟨rfl, hb2⟩; rw [← hw1] at hb2)
 go_ret
 exact ⟨rfl, Cf.up hB1 hb2⟩
def Cf.bcd (v : Int) (l1 : List S36) (l2 : List S64) (n : Int) : Int := if Cf.code v l1 l2 ≠ 0 then Cf.code v l1 l2 else if Cf.place l1 n < 0 then 4 else 0
def Cf.bval (v : Int) (l1 : List S36) (l2 : List S64) (n : Int) : S36 := if Cf.code v l1 l2 ≠ 0 then z36 else if Cf.place l1 n < 0 then z36 else rd_T36 l1 (Cf.place l1 n)
theorem Cf.put6 {w : World} {g : Nat} {t : TypeId} {u0 u1 u2 u3 u4 u5 : Value} (h : w.heap[g]? = some (.cells #[u0, u1, u2, u3, u4, u5] t (0, 0))) (v0 v1 v2 v3 v4 v5 : Value) :
  ((((((w.setCell ⟨g, 0, none⟩ v0).setCell ⟨g, 1, none⟩ v1).setCell ⟨g, 2, none⟩ v2).setCell ⟨g, 3, none⟩ v3).setCell ⟨g, 4, none⟩ v4).setCell ⟨g, 5, none⟩ v5).heap[g]? = some (.cells #[v0, v1, v2, v3, v4, v5] t (0, 0)) := by
 refine blk_put (cs := #[v0, v1, v2, v3, v4, u5]) ?_ 5 _ rfl
 refine blk_put (cs := #[v0, v1, v2, v3, u4, u5]) ?_ 4 _ rfl
 refine blk_put (cs := #[v0, v1, v2, u3, u4, u5]) ?_ 3 _ rfl
 refine blk_put (cs := #[v0, v1, u2, u3, u4, u5]) ?_ 2 _ rfl
 refine blk_put (cs := #[v0, u1, u2, u3, u4, u5]) ?_ 1 _ rfl
 exact blk_put (cs := #[u0, u1, u2, u3, u4, u5]) h 0 _ rfl
theorem Cf.place_lt (l : List S36) (n : Int) (h : ¬ Cf.place l n < 0) : Cf.place l n < (l.length : Int) := by
 unfold Cf.place at *
 rcases Go.Proofs.Ytfmlhpoaipeoeaa.Ix.ixFrom_bound (Cf.named n) l 0 (by omega) with ⟨_, h2⟩ | h2
 ·omega
 ·omega
namespace Dl
theorem bound_new {n : Nat} {W : World} {v : Value} (h : ∃ b, v.ownBlock = some b ∧ W.heap.size ≤ b) (hs : n ≤ W.heap.size) : ∀ k, v.ownBlock = some k → n ≤ k := by
 obtain ⟨b, e, hb⟩ := h
 intro k hk
 rw [e] at hk
 injection hk with hk
 omega
theorem bound_at {n : Nat} {W : World} {v v1 : Value} (hv : ∀ k, v.ownBlock = some k → n ≤ k) (hs : n ≤ W.heap.size) (hat : v1.ownBlock = v.ownBlock ∨ ∃ b, v1.ownBlock = some b ∧ W.heap.size ≤ b) : ∀ k, v1.ownBlock = some k → n ≤ k := by
 rcases hat with e | h
 ·intro k hk
  exact hv k (e ▸ hk)
 ·exact bound_new h hs
theorem C_len {α : Type} {d : Kd α} {W : World} {A : Option Addr} {m : Nat} {ys : List α} (hm : ys.length = m) (h : d.C W A ys.length ys) : d.C W A m ys := by rw [← hm]; exact h
theorem cutdrop {P : Program} {α : Type} (d : Kd α) {w : World} {A : Option Addr} {c : Nat} {xs : List α} (h : d.C w A xs.length xs) (hc : xs.length ≤ c) (m : Nat) (hm : m ≤ xs.length) (t e : TypeId) {i : TypeInfo} (ht : P.underlying t = some (.slice e)) (hi : P.info? e = some i) (hsz : i.size = d.sz) :
  ∃ A2, (∀ W : World, (Instr.slice t (.slice A xs.length c) (some (.int .i64 (m : Int))) none none).run P W = .ok (.slice A2 (xs.length - m) (c - m)) W) ∧ d.C w A2 (xs.drop m).length (xs.drop m) := by
 refine ⟨_, fun W => ?_, Kd.C_drop (m := m) h hm hc⟩
 have := cut_from (P := P) t e .i64 ht hi d.sz hsz A xs.length c (m : Int) (by omega) (by omega) W
 simpa using this
/-- How many numbers at the head are less. -/
def rk (n : Int) : List Int → Nat
 | [] => 0
 | x :: l => if x < n then rk n l + 1 else 0
def rise (n : Int) (l : List Int) : List Int := if l[rk n l]? = some n then l else l.take (rk n l) ++ n :: l.drop (rk n l)
theorem rk_le (n : Int) : ∀ l, rk n l ≤ l.length
 | [] => Nat.le_refl _
 | x :: l => by
  have := rk_le n l
  unfold rk
  split <;> simp <;> omega
theorem rk_is (n : Int) : ∀ (l : List Int) (k : Nat), k ≤ l.length → (∀ j, j < k → l.getD j 0 < n) → (k < l.length → ¬ l.getD k 0 < n) → rk n l = k
 | [], k, hk, _, _ => by simp at hk; simp [rk, hk]
 | x :: l, 0, _, _, h => by
  have := h (by simp)
  simp only [List.getD_cons_zero] at this
  unfold rk
  rw [if_neg this]
 | x :: l, k + 1, hk, ha, h => by
  have h0 := ha 0 (by omega)
  simp only [List.getD_cons_zero] at h0
  unfold rk
  rw [if_pos h0, rk_is n l k (by simpa using hk) (fun j hj => by have := ha (j + 1) (by omega); simpa using this) (fun hlt => by have := h (by simpa using hlt); simpa using this)]
end Dl
set_option maxHeartbeats 8000000 in
set_option maxRecDepth 100000 in
/-- A number laid into a rising row: the row itself where it is there, a new row else. -/
theorem spec_l1Rise.cf (A : Option Addr) (c : Nat) (l : List Int) (n : Int) (w : World) (hr : Kd.C (Kd.int .i64) w A l.length l) (hc : l.length ≤ c) (hl : l.length ≤ 1000000) :
  Calls Try.prog 90 #[.slice A l.length c, .int .i64 n] w fun e w' => ∃ u, e = .returned u ∧ ((u = .slice A l.length c ∧ Dl.rise n l = l) ∨ Kd.R (Kd.int .i64) 2 w' w.heap.size (fun _ => True) u (Dl.rise n l)) ∧ Below w.heap.size w w' := by
 have HN := Aside0.mk hr
 have HC := Aside0.mk hc
 clear hr hc
 go_enter Try.func90, Try.ntmps90
 go_wp2
 go_loopg [5] l.length (fun gg s5 wr => ∃ kk : Nat, kk ≤ l.length ∧ l.length - kk ≤ gg ∧ s5 = .int .i64 kk ∧ Aside0 (∀ j, j < kk → l.getD j 0 < n) ∧ wr = w)
 case atStart => exact ⟨0, Nat.zero_le _, by omega, rfl, ⟨fun j hj => absurd hj (Nat.not_lt_zero _)⟩, rfl⟩
 case round =>
 obtain ⟨kk, hkk, hg, rfl, HA, rfl⟩ := hrel
 have hrise : (kk < l.length → ¬ l.getD kk 0 < n) → Dl.rk n l = kk := fun h => Dl.rk_is n l kk hkk HA.out h
 by_cases hlt : kk < l.length
 ·have hltz : (kk : Int) < (l.length : Int) := by omega
  obtain ⟨ad, eA, hx⟩ := Kd.at_int HN.out (kk : Int) (by omega) hltz
  cases eA
  simp only [Int.toNat_natCast] at hx
  have hrn : rd l (kk : Int) = l.getD kk 0 := by simp [rd]
  rw [hrn] at hx
  have hq : l[kk]? = some (l.getD kk 0) := by simp [List.getD, hlt]
  obtain ⟨x, hxe⟩ : ∃ x, x = l.getD kk 0 := ⟨_, rfl⟩
  rw [← hxe] at hx hq hrise
  have HX := Aside0.mk hxe
  clear hxe hrn
  by_cases hless : x < n
  ·have hb1 : decide (x < n) = true := decide_eq_true hless
   clear hrise hq
   go_wp2
   go_roundg (l.length - kk - 1)
   case measure => omega
   case rel => exact ⟨kk + 1, by omega, by omega, by go_num, ⟨fun j hj => by
    by_cases e : j = kk
    ·subst e; rw [← HX.out]; exact hless
    ·exact HA.out j (by omega)⟩, rfl⟩
  ·have hb1 : decide (x < n) = false := decide_eq_false hless
   have hrk := Aside0.mk (hrise (fun _ => hless))
   have HQ := Aside0.mk hq
   clear hrise hq
   by_cases heq : x = n
   ·have hb2 : (x == n) = true := beq_iff_eq.mpr heq
    go_wp2
    go_ret
    refine ⟨_, rfl, .inl ⟨rfl, ?_⟩, Below.refl _ _⟩
    unfold Dl.rise
    rw [hrk.out, HQ.out, heq, if_pos rfl]
   ·have hb2 : (x == n) = false := beq_eq_false_iff_ne.mpr heq
    have HR : Aside0 (Dl.rise n l = [] ++ l.take kk ++ [n] ++ l.drop kk) := ⟨by unfold Dl.rise; rw [hrk.out, HQ.out, if_neg (by simpa using heq)]; simp⟩
    clear hrk HQ HX
    go_wp2
    have hbs : wr.heap.size ≤ wr.heap.size := Nat.le_refl _
    have hCt := Kd.C_take (m := kk) HN.out hkk
    obtain ⟨i0_, hi0_, _, hsz_, _⟩ := info_parts info2
    have hcut1 := cut_to (P := Try.prog) 62 2 .i64 Try.underlying62 hi0_ (some ad) l.length c (kk : Int) (by omega) (by omega) HC.out
    obtain ⟨A2_, hcut2, hCd⟩ := Dl.cutdrop (P := Try.prog) (Kd.int .i64) HN.out HC.out kk hkk 62 2 Try.underlying62 hi0_ hsz_
    simp only [Int.toNat_natCast] at hcut1
    have hlt_ : (l.take kk).length = kk := by rw [List.length_take]; omega
    have hld_ : (l.drop kk).length = l.length - kk := List.length_drop
    obtain ⟨yc, hyc_⟩ : ∃ y : List Int, y = [n] := ⟨_, rfl⟩
    have hyc := Aside0.mk hyc_
    have hycl : yc.length ≤ 1 := by rw [hyc_]; exact Nat.le_refl 1
    clear hyc_
    have HS_ : ∀ W, Below wr.heap.size wr W → (True) := fun W hW => trivial
    have hd : Below wr.heap.size wr wr.drew := below_drew1 (Below.refl _ _)
    refine start_ (n := 13) (S := fun w' => True) (ds := []) (Mk 13 0) (by kernel_rfl) rfl rfl (HS_ _ hd) (fun hHeld => ?_)
    generalize wr.drew = wd at hd hHeld ⊢
    refine pure_ (i := 1) (N := some 34) (v := ?_) (a' := ?_) (Mk 13 2) rfl rfl (by kernel_rfl) (fun _ _ _ h => h) (Or.inl ⟨by rfl, ?_⟩) ?_ ?_
    rotate_left
    ·intro w'
     first | (go_simp; with_reducible rfl) | (go_simp; (try unfold Instr.field); go_simp; (try simp only [asAgg]); go_simp; with_reducible rfl)
    rotate_left
    ·simp only [Act.put, List.setIfInBounds_toArray, List.set_cons_zero, List.set_cons_succ, i64_w, i32_w]
     rfl
    refine pure_ (i := 2) (N := some 35) (v := ?_) (a' := ?_) (Mk 13 6) rfl rfl (by kernel_rfl) (fun _ _ _ h => h) (Or.inl ⟨by rfl, ?_⟩) ?_ ?_
    rotate_left
    ·intro w'
     first | (go_simp; with_reducible rfl) | (go_simp; (try unfold Instr.field); go_simp; (try simp only [asAgg]); go_simp; with_reducible rfl)
    rotate_left
    ·simp only [Act.put, List.setIfInBounds_toArray, List.set_cons_zero, List.set_cons_succ, i64_w, i32_w]
     rfl
    refine pure_ (i := 3) (N := some 36) (v := ?_) (a' := ?_) (Mk 13 14) rfl rfl (by kernel_rfl) (fun _ _ _ h => h) (Or.inl ⟨by rfl, ?_⟩) ?_ ?_
    rotate_left
    ·intro w'
     first | (go_simp; with_reducible rfl) | (go_simp; (try unfold Instr.field); go_simp; (try simp only [asAgg]); go_simp; with_reducible rfl)
    rotate_left
    ·simp only [Act.put, List.setIfInBounds_toArray, List.set_cons_zero, List.set_cons_succ, i64_w, i32_w]
     rfl
    refine pure_ (i := 5) (N := some 38) (v := ?_) (a' := ?_) (Mk 13 46) rfl rfl (by kernel_rfl) (fun _ _ _ h => h) (Or.inl ⟨by rfl, ?_⟩) ?_ ?_
    rotate_left
    ·intro w'
     first | (go_simp; with_reducible rfl) | (go_simp; (try unfold Instr.field); go_simp; (try simp only [asAgg]); go_simp; with_reducible rfl)
    rotate_left
    ·simp only [Act.put, List.setIfInBounds_toArray, List.set_cons_zero, List.set_cons_succ, i64_w, i32_w]
     rfl
    refine pure_ (i := 8) (N := some 41) (v := ?_) (a' := ?_) (Mk 13 302) rfl rfl (by kernel_rfl) (fun _ _ _ h => h) (Or.inl ⟨by rfl, ?_⟩) ?_ ?_
    rotate_left
    ·intro w'
     first | (go_simp; with_reducible rfl) | (go_simp; (try unfold Instr.field); go_simp; (try simp only [asAgg]); go_simp; with_reducible rfl)
    rotate_left
    ·simp only [Act.put, List.setIfInBounds_toArray, List.set_cons_zero, List.set_cons_succ, i64_w, i32_w]
     rfl
    refine pure_ (i := 9) (N := some 42) (v := ?_) (a' := ?_) (Mk 13 814) rfl rfl (by kernel_rfl) (fun _ _ _ h => h) (Or.inl ⟨by rfl, ?_⟩) ?_ ?_
    rotate_left
    ·intro w'
     first | (go_simp; with_reducible rfl) | (go_simp; (try unfold Instr.field); go_simp; (try simp only [asAgg]); go_simp; with_reducible rfl)
    rotate_left
    ·simp only [Act.put, List.setIfInBounds_toArray, List.set_cons_zero, List.set_cons_succ, i64_w, i32_w]
     rfl
    refine pure_ (i := 10) (N := some 43) (v := ?_) (a' := ?_) (Mk 13 1838) rfl rfl (by kernel_rfl) (fun _ _ _ h => h) (Or.inl ⟨by rfl, ?_⟩) ?_ ?_
    rotate_left
    ·intro w'
     first | (go_simp; with_reducible rfl) | (go_simp; (try unfold Instr.field); go_simp; (try simp only [asAgg]); go_simp; with_reducible rfl)
    rotate_left
    ·simp only [Act.put, List.setIfInBounds_toArray, List.set_cons_zero, List.set_cons_succ, i64_w, i32_w]
     rfl
    refine join_ (σ := Value × Value × Value) 3 (Mk 13 1919) (fun s_ => [(33, s_.1), (37, s_.2.1), (39, s_.2.2)]) (fun s_ w' => Below wr.heap.size wr w' ∧ Kd.R (Kd.int .i64) 2 w' (wr.heap.size) (fun k_ => some k_ ≠ s_.2.2.ownBlock) s_.2.1 ([] ++ (l.take kk)) ∧ Kd.R (Kd.int .i64) 2 w' (wr.heap.size) (fun k_ => some k_ ≠ s_.2.1.ownBlock) s_.2.2 yc ∧ (∀ k_, s_.2.1.ownBlock = some k_ → wr.heap.size ≤ k_)) ?_ ?_
    rotate_left
    ·intro hCont
     refine two_ (i := 0) (j := 6) (Ni := some 33) (Nj := some 39) (Mk 13 1839) (Mk 13 1902) rfl rfl rfl rfl (by kernel_rfl) (by decide) (by decide) (fun K hK => ?_) (fun K hK => ?_)
     ·skip
      skip
      refine Kd.R_lit_step (Kd.int .i64) _ 2 ?hg (N := 33) ?hd (xs := ([] : List (Int))) (inner := []) (ok := fun _ => True) (okp := fun _ => True) ?hr ?hp (fun _ hk => hk) trivial (Below.refl _ _) (Nat.le_refl _) (by simp) ?_; (case hd => rfl); (case hg => rfl); (case hr => first | (go_simp; done) | (go_simp; rfl)); (case hp => exact (Reps.none _ _))
      intro va wa hoA hbA hgA_ hn_
      have hbdA := Dl.bound_new (v := va) hn_ hd.size
      have hA := Kd.R_lower hoA (Nat.le_trans hbs hd.size)
      replace hd := hd.trans (hbA.mono hd.size)
      clear hoA hbA hgA_ hn_ hHeld
      refine hK.out _ _ (HS_ _ hd) (fun hHeld => ?_)
      clear hK K
      refine norm_ (a' := ?_) ?_ ?_
      rotate_left
      ·show Act.put _ (some 33) _ = _
       simp only [Act.put, List.setIfInBounds_toArray, List.set_cons_zero, List.set_cons_succ, i64_w, i32_w]
       rfl
      refine two_ (i := 4) (j := 6) (Ni := some 37) (Nj := some 39) (Mk 13 1855) (Mk 13 1903) rfl rfl rfl rfl (by kernel_rfl) (by decide) (by decide) (fun K hK => ?_) (fun K hK => ?_)
      ·skip
       skip
       refine Kd.R_append_rows_step (Kd.int .i64) (w0 := wr) (wr.heap.size) (by rfl) (.tmp 33) (.tmp 36) 62 2 (.int .i64 0) 8 rfl Try.underlying62 info2 rfl (by decide) (by omega) va [] (l.take kk) _ _ _ (fun _ => True) (fun _ => False) rfl rfl ?aO ?aR (fun _ _ h => h) (fun _ h => h.elim) ?aF ?aB ?aS ?aL ?_
       (case aR => exact Dl.C_len hlt_ (Kd.C_below hCt hd))
       (case aB => exact hd.mono hbs)
       (case aF => exact (fun _ _ => trivial))
       (case aO => exact hA)
       (case aS => exact Nat.le_trans hbs hd.size)
       (case aL => simp only [List.length_nil]; omega)
       intro vb wb hoB hbB_ hgB hatB
       have hbdB := Dl.bound_at hbdA hd.size hatB
       replace hd := hd.grown hgB hd.size hbdA
       clear hbB_ hgB hatB hHeld hA hbdA
       have hA := hoB
       have hbdA := hbdB
       clear hoB hbdB
       refine hK.out _ _ (HS_ _ hd) (fun hHeld => ?_)
       clear hK K
       refine norm_ (a' := ?_) ?_ ?_
       rotate_left
       ·show Act.put _ (some 37) _ = _
        simp only [Act.put, List.setIfInBounds_toArray, List.set_cons_zero, List.set_cons_succ, i64_w, i32_w]
        rfl
       refine one_ (i := 6) (N := some 39) (Mk 13 1919) rfl rfl (by kernel_rfl) (by decide) (fun K hK => ?_)
       refine Kd.R_lit_step (Kd.int .i64) _ 2 ?hg (N := 39) ?hd (xs := ([n] : List Int)) (inner := [.int .i64 n]) (ok := fun _ => True) (okp := fun _ => True) ?hr ?hp (fun _ hk => hk) trivial (Below.refl _ _) (Nat.le_refl _) (by simp) ?_; (case hd => rfl); (case hg => rfl); (case hr => first | (go_simp; done) | (go_simp; rfl)); (case hp => exact (Reps.one (show Kd.M (Kd.int .i64) _ _ _ n [.int .i64 n] from rfl) (Reps.none _ _)))
       intro vc wc hoC hbC hgC_ hn_
       rw [← hyc.out] at hoC
       have hbdC := Dl.bound_new (v := vc) hn_ hd.size
       have hC := Kd.R_mono (Kd.R_lower (Kd.R_new' hoC (Kd.R_lt hA)) (Nat.le_trans hbs hd.size)) (ok' := fun k_ => some k_ ≠ vb.ownBlock) (fun _ h_ => h_.2)
       replace hA := Kd.R_mono (Kd.R_elder' hA (Kd.R_base hoC) hbC) (ok' := fun k_ => some k_ ≠ vc.ownBlock) (fun _ h_ => h_.2)
       replace hd := hd.trans (hbC.mono hd.size)
       clear hoC hbC hgC_ hn_ hHeld
       refine hK.out _ _ (HS_ _ hd) (fun hHeld => ?_)
       clear hK K
       refine norm_ (a' := ?_) ?_ ?_
       rotate_left
       ·show Act.put _ (some 39) _ = _
        simp only [Act.put, List.setIfInBounds_toArray, List.set_cons_zero, List.set_cons_succ, i64_w, i32_w]
        rfl
       exact norm_ (by simp only [putAll, Act.put, List.setIfInBounds_toArray, List.set_cons_zero, List.set_cons_succ]) (hCont (va, vb, vc) _ ⟨hd, hA, hC, hbdA⟩)
      ·skip
       skip
       refine Kd.R_lit_step (Kd.int .i64) _ 2 ?hg (N := 39) ?hd (xs := ([n] : List Int)) (inner := [.int .i64 n]) (ok := fun _ => True) (okp := fun _ => True) ?hr ?hp (fun _ hk => hk) trivial (Below.refl _ _) (Nat.le_refl _) (by simp) ?_; (case hd => rfl); (case hg => rfl); (case hr => first | (go_simp; done) | (go_simp; rfl)); (case hp => exact (Reps.one (show Kd.M (Kd.int .i64) _ _ _ n [.int .i64 n] from rfl) (Reps.none _ _)))
       intro vc wc hoC hbC hgC_ hn_
       rw [← hyc.out] at hoC
       have hbdC := Dl.bound_new (v := vc) hn_ hd.size
       have hC := Kd.R_mono (Kd.R_lower (Kd.R_new' hoC (Kd.R_lt hA)) (Nat.le_trans hbs hd.size)) (ok' := fun k_ => some k_ ≠ va.ownBlock) (fun _ h_ => h_.2)
       replace hA := Kd.R_mono (Kd.R_elder' hA (Kd.R_base hoC) hbC) (ok' := fun k_ => some k_ ≠ vc.ownBlock) (fun _ h_ => h_.2)
       replace hd := hd.trans (hbC.mono hd.size)
       clear hoC hbC hgC_ hn_ hHeld
       refine hK.out _ _ (HS_ _ hd) (fun hHeld => ?_)
       clear hK K
       refine norm_ (a' := ?_) ?_ ?_
       rotate_left
       ·show Act.put _ (some 39) _ = _
        simp only [Act.put, List.setIfInBounds_toArray, List.set_cons_zero, List.set_cons_succ, i64_w, i32_w]
        rfl
       refine one_ (i := 4) (N := some 37) (Mk 13 1919) rfl rfl (by kernel_rfl) (by decide) (fun K hK => ?_)
       refine Kd.R_append_rows_step (Kd.int .i64) (w0 := wr) (wr.heap.size) (by rfl) (.tmp 33) (.tmp 36) 62 2 (.int .i64 0) 8 rfl Try.underlying62 info2 rfl (by decide) (by omega) va [] (l.take kk) _ _ _ (fun k_ => some k_ ≠ (vc : Value).ownBlock) (fun _ => False) rfl rfl ?aO ?aR (fun _ _ h => h) (fun _ h => h.elim) ?aF ?aB ?aS ?aL ?_
       (case aR => exact Dl.C_len hlt_ (Kd.C_below hCt hd))
       (case aB => exact hd.mono hbs)
       (case aF => exact (fun k_ hk => Kd.fresh' (Kd.R_lt hC) k_ hk))
       (case aO => exact hA)
       (case aS => exact Nat.le_trans hbs hd.size)
       (case aL => simp only [List.length_nil]; omega)
       intro vb wb hoB hbB_ hgB hatB
       have hbdB := Dl.bound_at hbdA hd.size hatB
       replace hC := Kd.R_mono (Kd.R_after (ok := (fun _ => True)) (Kd.R_mono hC (fun _ hk => ⟨trivial, hk⟩)) hgB hatB) (ok' := fun k_ => some k_ ≠ vb.ownBlock) (fun _ h_ => h_.2)
       replace hd := hd.grown hgB hd.size hbdA
       clear hbB_ hgB hatB hHeld hA hbdA
       have hA := hoB
       have hbdA := hbdB
       clear hoB hbdB
       refine hK.out _ _ (HS_ _ hd) (fun hHeld => ?_)
       clear hK K
       refine norm_ (a' := ?_) ?_ ?_
       rotate_left
       ·show Act.put _ (some 37) _ = _
        simp only [Act.put, List.setIfInBounds_toArray, List.set_cons_zero, List.set_cons_succ, i64_w, i32_w]
        rfl
       exact norm_ (by simp only [putAll, Act.put, List.setIfInBounds_toArray, List.set_cons_zero, List.set_cons_succ]) (hCont (va, vb, vc) _ ⟨hd, hA, hC, hbdA⟩)
     ·skip
      skip
      refine Kd.R_lit_step (Kd.int .i64) _ 2 ?hg (N := 39) ?hd (xs := ([n] : List Int)) (inner := [.int .i64 n]) (ok := fun _ => True) (okp := fun _ => True) ?hr ?hp (fun _ hk => hk) trivial (Below.refl _ _) (Nat.le_refl _) (by simp) ?_; (case hd => rfl); (case hg => rfl); (case hr => first | (go_simp; done) | (go_simp; rfl)); (case hp => exact (Reps.one (show Kd.M (Kd.int .i64) _ _ _ n [.int .i64 n] from rfl) (Reps.none _ _)))
      intro vc wc hoC hbC hgC_ hn_
      rw [← hyc.out] at hoC
      have hbdC := Dl.bound_new (v := vc) hn_ hd.size
      have hC := Kd.R_lower hoC (Nat.le_trans hbs hd.size)
      replace hd := hd.trans (hbC.mono hd.size)
      clear hoC hbC hgC_ hn_ hHeld
      refine hK.out _ _ (HS_ _ hd) (fun hHeld => ?_)
      clear hK K
      refine norm_ (a' := ?_) ?_ ?_
      rotate_left
      ·show Act.put _ (some 39) _ = _
       simp only [Act.put, List.setIfInBounds_toArray, List.set_cons_zero, List.set_cons_succ, i64_w, i32_w]
       rfl
      refine one_ (i := 0) (N := some 33) (Mk 13 1903) rfl rfl (by kernel_rfl) (by decide) (fun K hK => ?_)
      refine Kd.R_lit_step (Kd.int .i64) _ 2 ?hg (N := 33) ?hd (xs := ([] : List (Int))) (inner := []) (ok := fun _ => True) (okp := fun _ => True) ?hr ?hp (fun _ hk => hk) trivial (Below.refl _ _) (Nat.le_refl _) (by simp) ?_; (case hd => rfl); (case hg => rfl); (case hr => first | (go_simp; done) | (go_simp; rfl)); (case hp => exact (Reps.none _ _))
      intro va wa hoA hbA hgA_ hn_
      have hbdA := Dl.bound_new (v := va) hn_ hd.size
      have hA := Kd.R_mono (Kd.R_lower (Kd.R_new' hoA (Kd.R_lt hC)) (Nat.le_trans hbs hd.size)) (ok' := fun k_ => some k_ ≠ vc.ownBlock) (fun _ h_ => h_.2)
      replace hC := Kd.R_mono (Kd.R_elder' hC (Kd.R_base hoA) hbA) (ok' := fun k_ => some k_ ≠ va.ownBlock) (fun _ h_ => h_.2)
      replace hd := hd.trans (hbA.mono hd.size)
      clear hoA hbA hgA_ hn_ hHeld
      refine hK.out _ _ (HS_ _ hd) (fun hHeld => ?_)
      clear hK K
      refine norm_ (a' := ?_) ?_ ?_
      rotate_left
      ·show Act.put _ (some 33) _ = _
       simp only [Act.put, List.setIfInBounds_toArray, List.set_cons_zero, List.set_cons_succ, i64_w, i32_w]
       rfl
      refine one_ (i := 4) (N := some 37) (Mk 13 1919) rfl rfl (by kernel_rfl) (by decide) (fun K hK => ?_)
      refine Kd.R_append_rows_step (Kd.int .i64) (w0 := wr) (wr.heap.size) (by rfl) (.tmp 33) (.tmp 36) 62 2 (.int .i64 0) 8 rfl Try.underlying62 info2 rfl (by decide) (by omega) va [] (l.take kk) _ _ _ (fun k_ => some k_ ≠ (vc : Value).ownBlock) (fun _ => False) rfl rfl ?aO ?aR (fun _ _ h => h) (fun _ h => h.elim) ?aF ?aB ?aS ?aL ?_
      (case aR => exact Dl.C_len hlt_ (Kd.C_below hCt hd))
      (case aB => exact hd.mono hbs)
      (case aF => exact (fun k_ hk => Kd.fresh' (Kd.R_lt hC) k_ hk))
      (case aO => exact hA)
      (case aS => exact Nat.le_trans hbs hd.size)
      (case aL => simp only [List.length_nil]; omega)
      intro vb wb hoB hbB_ hgB hatB
      have hbdB := Dl.bound_at hbdA hd.size hatB
      replace hC := Kd.R_mono (Kd.R_after (ok := (fun _ => True)) (Kd.R_mono hC (fun _ hk => ⟨trivial, hk⟩)) hgB hatB) (ok' := fun k_ => some k_ ≠ vb.ownBlock) (fun _ h_ => h_.2)
      replace hd := hd.grown hgB hd.size hbdA
      clear hbB_ hgB hatB hHeld hA hbdA
      have hA := hoB
      have hbdA := hbdB
      clear hoB hbdB
      refine hK.out _ _ (HS_ _ hd) (fun hHeld => ?_)
      clear hK K
      refine norm_ (a' := ?_) ?_ ?_
      rotate_left
      ·show Act.put _ (some 37) _ = _
       simp only [Act.put, List.setIfInBounds_toArray, List.set_cons_zero, List.set_cons_succ, i64_w, i32_w]
       rfl
      exact norm_ (by simp only [putAll, Act.put, List.setIfInBounds_toArray, List.set_cons_zero, List.set_cons_succ]) (hCont (va, vb, vc) _ ⟨hd, hA, hC, hbdA⟩)
    clear hHeld hd
    rintro ⟨v0_, va, vc⟩ wj ⟨hd, hA, hC, hbdA⟩
    have hHeld := HS_ _ hd
    obtain ⟨Ac_, cc_, ec_⟩ := Kd.R_slice hC
    subst ec_
    refine norm_ (a' := ?_) ?_ ?_
    rotate_left
    ·simp only [putAll, Act.put, List.setIfInBounds_toArray, List.set_cons_zero, List.set_cons_succ]
     rfl
    refine one_ (i := 7) (N := some 40) (Mk 13 2047) rfl rfl (by kernel_rfl) (by decide) (fun K hK => ?_)
    refine Kd.R_append_rows_step (Kd.int .i64) (w0 := wr) (wr.heap.size) (by rfl) (.tmp 37) (.tmp 39) 62 2 (.int .i64 0) 8 rfl Try.underlying62 info2 rfl (by decide) (by omega) va ([] ++ (l.take kk)) yc _ _ _ (fun k_ => some k_ ≠ (.slice Ac_ yc.length cc_ : Value).ownBlock) (fun _ => False) rfl rfl ?aO ?aR (fun _ _ h => h) (fun _ h => h.elim) ?aF ?aB ?aS ?aL ?_
    (case aR => exact (Kd.R_reads' hC).2.2)
    (case aB => exact hd.mono hbs)
    (case aF => exact (fun k_ hk => Kd.fresh' (Kd.R_lt hC) k_ hk))
    (case aO => exact hA)
    (case aS => exact Nat.le_trans hbs hd.size)
    (case aL => have := hycl; simp only [List.nil_append]; omega)
    intro vb wb hoB hbB_ hgB hatB
    have hbdB := Dl.bound_at hbdA hd.size hatB
    replace hC := Kd.R_mono (Kd.R_after (ok := (fun _ => True)) (Kd.R_mono hC (fun _ hk => ⟨trivial, hk⟩)) hgB hatB) (ok' := fun k_ => some k_ ≠ vb.ownBlock) (fun _ h_ => h_.2)
    replace hd := hd.grown hgB hd.size hbdA
    clear hbB_ hgB hatB hHeld hA hbdA
    have hA := hoB
    have hbdA := hbdB
    clear hoB hbdB
    refine hK.out _ _ (HS_ _ hd) (fun hHeld => ?_)
    clear hK K
    refine norm_ (a' := ?_) ?_ ?_
    rotate_left
    ·show Act.put _ (some 40) _ = _
     simp only [Act.put, List.setIfInBounds_toArray, List.set_cons_zero, List.set_cons_succ, i64_w, i32_w]
     rfl
    replace hA := Kd.R_mono hA (ok' := fun _ => True) (fun _ _ => trivial)
    refine one_ (i := 11) (N := some 44) (Mk 13 4095) rfl rfl (by kernel_rfl) (by decide) (fun K hK => ?_)
    refine Kd.R_append_rows_step (Kd.int .i64) (w0 := wr) (wr.heap.size) (by rfl) (.tmp 40) (.tmp 43) 62 2 (.int .i64 0) 8 rfl Try.underlying62 info2 rfl (by decide) (by omega) vb ([] ++ (l.take kk) ++ yc) (l.drop kk) _ _ _ (fun _ => True) (fun _ => False) rfl rfl ?aO ?aR (fun _ _ h => h) (fun _ h => h.elim) ?aF ?aB ?aS ?aL ?_
    (case aR => exact Dl.C_len hld_ (Kd.C_below hCd hd))
    (case aB => exact hd.mono hbs)
    (case aF => exact (fun _ _ => trivial))
    (case aO => exact hA)
    (case aS => exact Nat.le_trans hbs hd.size)
    (case aL => have := hycl; simp only [List.nil_append, List.length_append]; omega)
    intro vb wb hoB hbB_ hgB hatB
    have hbdB := Dl.bound_at hbdA hd.size hatB
    replace hd := hd.grown hgB hd.size hbdA
    clear hbB_ hgB hatB hHeld
    have hA := hoB
    have hbdA := hbdB
    clear hoB hbdB
    refine hK.out _ _ (HS_ _ hd) (fun hHeld => ?_)
    clear hK K
    refine norm_ (a' := ?_) ?_ ?_
    rotate_left
    ·show Act.put _ (some 44) _ = _
     simp only [Act.put, List.setIfInBounds_toArray, List.set_cons_zero, List.set_cons_succ, i64_w, i32_w]
     rfl
    refine pure_ (i := 12) (N := some 4) (v := ?_) (a' := ?_) (Mk 13 8191) rfl rfl (by kernel_rfl) (fun _ _ _ h => h) (Or.inl ⟨by rfl, ?_⟩) ?_ ?_
    rotate_left
    ·intro w'
     first | (go_simp; with_reducible rfl) | (go_simp; (try unfold Instr.field); go_simp; (try simp only [asAgg]); go_simp; with_reducible rfl)
    rotate_left
    ·simp only [Act.put, List.setIfInBounds_toArray, List.set_cons_zero, List.set_cons_succ, i64_w, i32_w]
     rfl
    refine done_ (by kernel_rfl) ?_
    go_wp2
    go_ret
    refine ⟨_, rfl, .inr ?_, hd⟩
    rw [HR.out, ← hyc.out]
    exact hA
 ·have hltz : ¬ (kk : Int) < (l.length : Int) := by omega
  have hrk := hrise (fun h => absurd h hlt)
  have HR : Aside0 (Dl.rise n l = [] ++ l.take kk ++ [n] ++ l.drop kk) := ⟨by unfold Dl.rise; rw [hrk, List.getElem?_eq_none (by omega), if_neg (by simp)]; simp⟩
  clear hrise hrk
  go_wp2
  have hbs : wr.heap.size ≤ wr.heap.size := Nat.le_refl _
  have hCt := Kd.C_take (m := kk) HN.out hkk
  obtain ⟨i0_, hi0_, _, hsz_, _⟩ := info_parts info2
  have hcut1 := cut_to (P := Try.prog) 62 2 .i64 Try.underlying62 hi0_ A l.length c (kk : Int) (by omega) (by omega) HC.out
  obtain ⟨A2_, hcut2, hCd⟩ := Dl.cutdrop (P := Try.prog) (Kd.int .i64) HN.out HC.out kk hkk 62 2 Try.underlying62 hi0_ hsz_
  simp only [Int.toNat_natCast] at hcut1
  have hlt_ : (l.take kk).length = kk := by rw [List.length_take]; omega
  have hld_ : (l.drop kk).length = l.length - kk := List.length_drop
  obtain ⟨yc, hyc_⟩ : ∃ y : List Int, y = [n] := ⟨_, rfl⟩
  have hyc := Aside0.mk hyc_
  have hycl : yc.length ≤ 1 := by rw [hyc_]; exact Nat.le_refl 1
  clear hyc_
  have HS_ : ∀ W, Below wr.heap.size wr W → (True) := fun W hW => trivial
  have hd : Below wr.heap.size wr wr.drew := below_drew1 (Below.refl _ _)
  refine start_ (n := 13) (S := fun w' => True) (ds := []) (Mk 13 0) (by kernel_rfl) rfl rfl (HS_ _ hd) (fun hHeld => ?_)
  generalize wr.drew = wd at hd hHeld ⊢
  refine pure_ (i := 1) (N := some 34) (v := ?_) (a' := ?_) (Mk 13 2) rfl rfl (by kernel_rfl) (fun _ _ _ h => h) (Or.inl ⟨by rfl, ?_⟩) ?_ ?_
  rotate_left
  ·intro w'
   first | (go_simp; with_reducible rfl) | (go_simp; (try unfold Instr.field); go_simp; (try simp only [asAgg]); go_simp; with_reducible rfl)
  rotate_left
  ·simp only [Act.put, List.setIfInBounds_toArray, List.set_cons_zero, List.set_cons_succ, i64_w, i32_w]
   rfl
  refine pure_ (i := 2) (N := some 35) (v := ?_) (a' := ?_) (Mk 13 6) rfl rfl (by kernel_rfl) (fun _ _ _ h => h) (Or.inl ⟨by rfl, ?_⟩) ?_ ?_
  rotate_left
  ·intro w'
   first | (go_simp; with_reducible rfl) | (go_simp; (try unfold Instr.field); go_simp; (try simp only [asAgg]); go_simp; with_reducible rfl)
  rotate_left
  ·simp only [Act.put, List.setIfInBounds_toArray, List.set_cons_zero, List.set_cons_succ, i64_w, i32_w]
   rfl
  refine pure_ (i := 3) (N := some 36) (v := ?_) (a' := ?_) (Mk 13 14) rfl rfl (by kernel_rfl) (fun _ _ _ h => h) (Or.inl ⟨by rfl, ?_⟩) ?_ ?_
  rotate_left
  ·intro w'
   first | (go_simp; with_reducible rfl) | (go_simp; (try unfold Instr.field); go_simp; (try simp only [asAgg]); go_simp; with_reducible rfl)
  rotate_left
  ·simp only [Act.put, List.setIfInBounds_toArray, List.set_cons_zero, List.set_cons_succ, i64_w, i32_w]
   rfl
  refine pure_ (i := 5) (N := some 38) (v := ?_) (a' := ?_) (Mk 13 46) rfl rfl (by kernel_rfl) (fun _ _ _ h => h) (Or.inl ⟨by rfl, ?_⟩) ?_ ?_
  rotate_left
  ·intro w'
   first | (go_simp; with_reducible rfl) | (go_simp; (try unfold Instr.field); go_simp; (try simp only [asAgg]); go_simp; with_reducible rfl)
  rotate_left
  ·simp only [Act.put, List.setIfInBounds_toArray, List.set_cons_zero, List.set_cons_succ, i64_w, i32_w]
   rfl
  refine pure_ (i := 8) (N := some 41) (v := ?_) (a' := ?_) (Mk 13 302) rfl rfl (by kernel_rfl) (fun _ _ _ h => h) (Or.inl ⟨by rfl, ?_⟩) ?_ ?_
  rotate_left
  ·intro w'
   first | (go_simp; with_reducible rfl) | (go_simp; (try unfold Instr.field); go_simp; (try simp only [asAgg]); go_simp; with_reducible rfl)
  rotate_left
  ·simp only [Act.put, List.setIfInBounds_toArray, List.set_cons_zero, List.set_cons_succ, i64_w, i32_w]
   rfl
  refine pure_ (i := 9) (N := some 42) (v := ?_) (a' := ?_) (Mk 13 814) rfl rfl (by kernel_rfl) (fun _ _ _ h => h) (Or.inl ⟨by rfl, ?_⟩) ?_ ?_
  rotate_left
  ·intro w'
   first | (go_simp; with_reducible rfl) | (go_simp; (try unfold Instr.field); go_simp; (try simp only [asAgg]); go_simp; with_reducible rfl)
  rotate_left
  ·simp only [Act.put, List.setIfInBounds_toArray, List.set_cons_zero, List.set_cons_succ, i64_w, i32_w]
   rfl
  refine pure_ (i := 10) (N := some 43) (v := ?_) (a' := ?_) (Mk 13 1838) rfl rfl (by kernel_rfl) (fun _ _ _ h => h) (Or.inl ⟨by rfl, ?_⟩) ?_ ?_
  rotate_left
  ·intro w'
   first | (go_simp; with_reducible rfl) | (go_simp; (try unfold Instr.field); go_simp; (try simp only [asAgg]); go_simp; with_reducible rfl)
  rotate_left
  ·simp only [Act.put, List.setIfInBounds_toArray, List.set_cons_zero, List.set_cons_succ, i64_w, i32_w]
   rfl
  refine join_ (σ := Value × Value × Value) 3 (Mk 13 1919) (fun s_ => [(33, s_.1), (37, s_.2.1), (39, s_.2.2)]) (fun s_ w' => Below wr.heap.size wr w' ∧ Kd.R (Kd.int .i64) 2 w' (wr.heap.size) (fun k_ => some k_ ≠ s_.2.2.ownBlock) s_.2.1 ([] ++ (l.take kk)) ∧ Kd.R (Kd.int .i64) 2 w' (wr.heap.size) (fun k_ => some k_ ≠ s_.2.1.ownBlock) s_.2.2 yc ∧ (∀ k_, s_.2.1.ownBlock = some k_ → wr.heap.size ≤ k_)) ?_ ?_
  rotate_left
  ·intro hCont
   refine two_ (i := 0) (j := 6) (Ni := some 33) (Nj := some 39) (Mk 13 1839) (Mk 13 1902) rfl rfl rfl rfl (by kernel_rfl) (by decide) (by decide) (fun K hK => ?_) (fun K hK => ?_)
   ·skip
    skip
    refine Kd.R_lit_step (Kd.int .i64) _ 2 ?hg (N := 33) ?hd (xs := ([] : List (Int))) (inner := []) (ok := fun _ => True) (okp := fun _ => True) ?hr ?hp (fun _ hk => hk) trivial (Below.refl _ _) (Nat.le_refl _) (by simp) ?_; (case hd => rfl); (case hg => rfl); (case hr => first | (go_simp; done) | (go_simp; rfl)); (case hp => exact (Reps.none _ _))
    intro va wa hoA hbA hgA_ hn_
    have hbdA := Dl.bound_new (v := va) hn_ hd.size
    have hA := Kd.R_lower hoA (Nat.le_trans hbs hd.size)
    replace hd := hd.trans (hbA.mono hd.size)
    clear hoA hbA hgA_ hn_ hHeld
    refine hK.out _ _ (HS_ _ hd) (fun hHeld => ?_)
    clear hK K
    refine norm_ (a' := ?_) ?_ ?_
    rotate_left
    ·show Act.put _ (some 33) _ = _
     simp only [Act.put, List.setIfInBounds_toArray, List.set_cons_zero, List.set_cons_succ, i64_w, i32_w]
     rfl
    refine two_ (i := 4) (j := 6) (Ni := some 37) (Nj := some 39) (Mk 13 1855) (Mk 13 1903) rfl rfl rfl rfl (by kernel_rfl) (by decide) (by decide) (fun K hK => ?_) (fun K hK => ?_)
    ·skip
     skip
     refine Kd.R_append_rows_step (Kd.int .i64) (w0 := wr) (wr.heap.size) (by rfl) (.tmp 33) (.tmp 36) 62 2 (.int .i64 0) 8 rfl Try.underlying62 info2 rfl (by decide) (by omega) va [] (l.take kk) _ _ _ (fun _ => True) (fun _ => False) rfl rfl ?aO ?aR (fun _ _ h => h) (fun _ h => h.elim) ?aF ?aB ?aS ?aL ?_
     (case aR => exact Dl.C_len hlt_ (Kd.C_below hCt hd))
     (case aB => exact hd.mono hbs)
     (case aF => exact (fun _ _ => trivial))
     (case aO => exact hA)
     (case aS => exact Nat.le_trans hbs hd.size)
     (case aL => simp only [List.length_nil]; omega)
     intro vb wb hoB hbB_ hgB hatB
     have hbdB := Dl.bound_at hbdA hd.size hatB
     replace hd := hd.grown hgB hd.size hbdA
     clear hbB_ hgB hatB hHeld hA hbdA
     have hA := hoB
     have hbdA := hbdB
     clear hoB hbdB
     refine hK.out _ _ (HS_ _ hd) (fun hHeld => ?_)
     clear hK K
     refine norm_ (a' := ?_) ?_ ?_
     rotate_left
     ·show Act.put _ (some 37) _ = _
      simp only [Act.put, List.setIfInBounds_toArray, List.set_cons_zero, List.set_cons_succ, i64_w, i32_w]
      rfl
     refine one_ (i := 6) (N := some 39) (Mk 13 1919) rfl rfl (by kernel_rfl) (by decide) (fun K hK => ?_)
     refine Kd.R_lit_step (Kd.int .i64) _ 2 ?hg (N := 39) ?hd (xs := ([n] : List Int)) (inner := [.int .i64 n]) (ok := fun _ => True) (okp := fun _ => True) ?hr ?hp (fun _ hk => hk) trivial (Below.refl _ _) (Nat.le_refl _) (by simp) ?_; (case hd => rfl); (case hg => rfl); (case hr => first | (go_simp; done) | (go_simp; rfl)); (case hp => exact (Reps.one (show Kd.M (Kd.int .i64) _ _ _ n [.int .i64 n] from rfl) (Reps.none _ _)))
     intro vc wc hoC hbC hgC_ hn_
     rw [← hyc.out] at hoC
     have hbdC := Dl.bound_new (v := vc) hn_ hd.size
     have hC := Kd.R_mono (Kd.R_lower (Kd.R_new' hoC (Kd.R_lt hA)) (Nat.le_trans hbs hd.size)) (ok' := fun k_ => some k_ ≠ vb.ownBlock) (fun _ h_ => h_.2)
     replace hA := Kd.R_mono (Kd.R_elder' hA (Kd.R_base hoC) hbC) (ok' := fun k_ => some k_ ≠ vc.ownBlock) (fun _ h_ => h_.2)
     replace hd := hd.trans (hbC.mono hd.size)
     clear hoC hbC hgC_ hn_ hHeld
     refine hK.out _ _ (HS_ _ hd) (fun hHeld => ?_)
     clear hK K
     refine norm_ (a' := ?_) ?_ ?_
     rotate_left
     ·show Act.put _ (some 39) _ = _
      simp only [Act.put, List.setIfInBounds_toArray, List.set_cons_zero, List.set_cons_succ, i64_w, i32_w]
      rfl
     exact norm_ (by simp only [putAll, Act.put, List.setIfInBounds_toArray, List.set_cons_zero, List.set_cons_succ]) (hCont (va, vb, vc) _ ⟨hd, hA, hC, hbdA⟩)
    ·skip
     skip
     refine Kd.R_lit_step (Kd.int .i64) _ 2 ?hg (N := 39) ?hd (xs := ([n] : List Int)) (inner := [.int .i64 n]) (ok := fun _ => True) (okp := fun _ => True) ?hr ?hp (fun _ hk => hk) trivial (Below.refl _ _) (Nat.le_refl _) (by simp) ?_; (case hd => rfl); (case hg => rfl); (case hr => first | (go_simp; done) | (go_simp; rfl)); (case hp => exact (Reps.one (show Kd.M (Kd.int .i64) _ _ _ n [.int .i64 n] from rfl) (Reps.none _ _)))
     intro vc wc hoC hbC hgC_ hn_
     rw [← hyc.out] at hoC
     have hbdC := Dl.bound_new (v := vc) hn_ hd.size
     have hC := Kd.R_mono (Kd.R_lower (Kd.R_new' hoC (Kd.R_lt hA)) (Nat.le_trans hbs hd.size)) (ok' := fun k_ => some k_ ≠ va.ownBlock) (fun _ h_ => h_.2)
     replace hA := Kd.R_mono (Kd.R_elder' hA (Kd.R_base hoC) hbC) (ok' := fun k_ => some k_ ≠ vc.ownBlock) (fun _ h_ => h_.2)
     replace hd := hd.trans (hbC.mono hd.size)
     clear hoC hbC hgC_ hn_ hHeld
     refine hK.out _ _ (HS_ _ hd) (fun hHeld => ?_)
     clear hK K
     refine norm_ (a' := ?_) ?_ ?_
     rotate_left
     ·show Act.put _ (some 39) _ = _
      simp only [Act.put, List.setIfInBounds_toArray, List.set_cons_zero, List.set_cons_succ, i64_w, i32_w]
      rfl
     refine one_ (i := 4) (N := some 37) (Mk 13 1919) rfl rfl (by kernel_rfl) (by decide) (fun K hK => ?_)
     refine Kd.R_append_rows_step (Kd.int .i64) (w0 := wr) (wr.heap.size) (by rfl) (.tmp 33) (.tmp 36) 62 2 (.int .i64 0) 8 rfl Try.underlying62 info2 rfl (by decide) (by omega) va [] (l.take kk) _ _ _ (fun k_ => some k_ ≠ (vc : Value).ownBlock) (fun _ => False) rfl rfl ?aO ?aR (fun _ _ h => h) (fun _ h => h.elim) ?aF ?aB ?aS ?aL ?_
     (case aR => exact Dl.C_len hlt_ (Kd.C_below hCt hd))
     (case aB => exact hd.mono hbs)
     (case aF => exact (fun k_ hk => Kd.fresh' (Kd.R_lt hC) k_ hk))
     (case aO => exact hA)
     (case aS => exact Nat.le_trans hbs hd.size)
     (case aL => simp only [List.length_nil]; omega)
     intro vb wb hoB hbB_ hgB hatB
     have hbdB := Dl.bound_at hbdA hd.size hatB
     replace hC := Kd.R_mono (Kd.R_after (ok := (fun _ => True)) (Kd.R_mono hC (fun _ hk => ⟨trivial, hk⟩)) hgB hatB) (ok' := fun k_ => some k_ ≠ vb.ownBlock) (fun _ h_ => h_.2)
     replace hd := hd.grown hgB hd.size hbdA
     clear hbB_ hgB hatB hHeld hA hbdA
     have hA := hoB
     have hbdA := hbdB
     clear hoB hbdB
     refine hK.out _ _ (HS_ _ hd) (fun hHeld => ?_)
     clear hK K
     refine norm_ (a' := ?_) ?_ ?_
     rotate_left
     ·show Act.put _ (some 37) _ = _
      simp only [Act.put, List.setIfInBounds_toArray, List.set_cons_zero, List.set_cons_succ, i64_w, i32_w]
      rfl
     exact norm_ (by simp only [putAll, Act.put, List.setIfInBounds_toArray, List.set_cons_zero, List.set_cons_succ]) (hCont (va, vb, vc) _ ⟨hd, hA, hC, hbdA⟩)
   ·skip
    skip
    refine Kd.R_lit_step (Kd.int .i64) _ 2 ?hg (N := 39) ?hd (xs := ([n] : List Int)) (inner := [.int .i64 n]) (ok := fun _ => True) (okp := fun _ => True) ?hr ?hp (fun _ hk => hk) trivial (Below.refl _ _) (Nat.le_refl _) (by simp) ?_; (case hd => rfl); (case hg => rfl); (case hr => first | (go_simp; done) | (go_simp; rfl)); (case hp => exact (Reps.one (show Kd.M (Kd.int .i64) _ _ _ n [.int .i64 n] from rfl) (Reps.none _ _)))
    intro vc wc hoC hbC hgC_ hn_
    rw [← hyc.out] at hoC
    have hbdC := Dl.bound_new (v := vc) hn_ hd.size
    have hC := Kd.R_lower hoC (Nat.le_trans hbs hd.size)
    replace hd := hd.trans (hbC.mono hd.size)
    clear hoC hbC hgC_ hn_ hHeld
    refine hK.out _ _ (HS_ _ hd) (fun hHeld => ?_)
    clear hK K
    refine norm_ (a' := ?_) ?_ ?_
    rotate_left
    ·show Act.put _ (some 39) _ = _
     simp only [Act.put, List.setIfInBounds_toArray, List.set_cons_zero, List.set_cons_succ, i64_w, i32_w]
     rfl
    refine one_ (i := 0) (N := some 33) (Mk 13 1903) rfl rfl (by kernel_rfl) (by decide) (fun K hK => ?_)
    refine Kd.R_lit_step (Kd.int .i64) _ 2 ?hg (N := 33) ?hd (xs := ([] : List (Int))) (inner := []) (ok := fun _ => True) (okp := fun _ => True) ?hr ?hp (fun _ hk => hk) trivial (Below.refl _ _) (Nat.le_refl _) (by simp) ?_; (case hd => rfl); (case hg => rfl); (case hr => first | (go_simp; done) | (go_simp; rfl)); (case hp => exact (Reps.none _ _))
    intro va wa hoA hbA hgA_ hn_
    have hbdA := Dl.bound_new (v := va) hn_ hd.size
    have hA := Kd.R_mono (Kd.R_lower (Kd.R_new' hoA (Kd.R_lt hC)) (Nat.le_trans hbs hd.size)) (ok' := fun k_ => some k_ ≠ vc.ownBlock) (fun _ h_ => h_.2)
    replace hC := Kd.R_mono (Kd.R_elder' hC (Kd.R_base hoA) hbA) (ok' := fun k_ => some k_ ≠ va.ownBlock) (fun _ h_ => h_.2)
    replace hd := hd.trans (hbA.mono hd.size)
    clear hoA hbA hgA_ hn_ hHeld
    refine hK.out _ _ (HS_ _ hd) (fun hHeld => ?_)
    clear hK K
    refine norm_ (a' := ?_) ?_ ?_
    rotate_left
    ·show Act.put _ (some 33) _ = _
     simp only [Act.put, List.setIfInBounds_toArray, List.set_cons_zero, List.set_cons_succ, i64_w, i32_w]
     rfl
    refine one_ (i := 4) (N := some 37) (Mk 13 1919) rfl rfl (by kernel_rfl) (by decide) (fun K hK => ?_)
    refine Kd.R_append_rows_step (Kd.int .i64) (w0 := wr) (wr.heap.size) (by rfl) (.tmp 33) (.tmp 36) 62 2 (.int .i64 0) 8 rfl Try.underlying62 info2 rfl (by decide) (by omega) va [] (l.take kk) _ _ _ (fun k_ => some k_ ≠ (vc : Value).ownBlock) (fun _ => False) rfl rfl ?aO ?aR (fun _ _ h => h) (fun _ h => h.elim) ?aF ?aB ?aS ?aL ?_
    (case aR => exact Dl.C_len hlt_ (Kd.C_below hCt hd))
    (case aB => exact hd.mono hbs)
    (case aF => exact (fun k_ hk => Kd.fresh' (Kd.R_lt hC) k_ hk))
    (case aO => exact hA)
    (case aS => exact Nat.le_trans hbs hd.size)
    (case aL => simp only [List.length_nil]; omega)
    intro vb wb hoB hbB_ hgB hatB
    have hbdB := Dl.bound_at hbdA hd.size hatB
    replace hC := Kd.R_mono (Kd.R_after (ok := (fun _ => True)) (Kd.R_mono hC (fun _ hk => ⟨trivial, hk⟩)) hgB hatB) (ok' := fun k_ => some k_ ≠ vb.ownBlock) (fun _ h_ => h_.2)
    replace hd := hd.grown hgB hd.size hbdA
    clear hbB_ hgB hatB hHeld hA hbdA
    have hA := hoB
    have hbdA := hbdB
    clear hoB hbdB
    refine hK.out _ _ (HS_ _ hd) (fun hHeld => ?_)
    clear hK K
    refine norm_ (a' := ?_) ?_ ?_
    rotate_left
    ·show Act.put _ (some 37) _ = _
     simp only [Act.put, List.setIfInBounds_toArray, List.set_cons_zero, List.set_cons_succ, i64_w, i32_w]
     rfl
    exact norm_ (by simp only [putAll, Act.put, List.setIfInBounds_toArray, List.set_cons_zero, List.set_cons_succ]) (hCont (va, vb, vc) _ ⟨hd, hA, hC, hbdA⟩)
  clear hHeld hd
  rintro ⟨v0_, va, vc⟩ wj ⟨hd, hA, hC, hbdA⟩
  have hHeld := HS_ _ hd
  obtain ⟨Ac_, cc_, ec_⟩ := Kd.R_slice hC
  subst ec_
  refine norm_ (a' := ?_) ?_ ?_
  rotate_left
  ·simp only [putAll, Act.put, List.setIfInBounds_toArray, List.set_cons_zero, List.set_cons_succ]
   rfl
  refine one_ (i := 7) (N := some 40) (Mk 13 2047) rfl rfl (by kernel_rfl) (by decide) (fun K hK => ?_)
  refine Kd.R_append_rows_step (Kd.int .i64) (w0 := wr) (wr.heap.size) (by rfl) (.tmp 37) (.tmp 39) 62 2 (.int .i64 0) 8 rfl Try.underlying62 info2 rfl (by decide) (by omega) va ([] ++ (l.take kk)) yc _ _ _ (fun k_ => some k_ ≠ (.slice Ac_ yc.length cc_ : Value).ownBlock) (fun _ => False) rfl rfl ?aO ?aR (fun _ _ h => h) (fun _ h => h.elim) ?aF ?aB ?aS ?aL ?_
  (case aR => exact (Kd.R_reads' hC).2.2)
  (case aB => exact hd.mono hbs)
  (case aF => exact (fun k_ hk => Kd.fresh' (Kd.R_lt hC) k_ hk))
  (case aO => exact hA)
  (case aS => exact Nat.le_trans hbs hd.size)
  (case aL => have := hycl; simp only [List.nil_append]; omega)
  intro vb wb hoB hbB_ hgB hatB
  have hbdB := Dl.bound_at hbdA hd.size hatB
  replace hC := Kd.R_mono (Kd.R_after (ok := (fun _ => True)) (Kd.R_mono hC (fun _ hk => ⟨trivial, hk⟩)) hgB hatB) (ok' := fun k_ => some k_ ≠ vb.ownBlock) (fun _ h_ => h_.2)
  replace hd := hd.grown hgB hd.size hbdA
  clear hbB_ hgB hatB hHeld hA hbdA
  have hA := hoB
  have hbdA := hbdB
  clear hoB hbdB
  refine hK.out _ _ (HS_ _ hd) (fun hHeld => ?_)
  clear hK K
  refine norm_ (a' := ?_) ?_ ?_
  rotate_left
  ·show Act.put _ (some 40) _ = _
   simp only [Act.put, List.setIfInBounds_toArray, List.set_cons_zero, List.set_cons_succ, i64_w, i32_w]
   rfl
  replace hA := Kd.R_mono hA (ok' := fun _ => True) (fun _ _ => trivial)
  refine one_ (i := 11) (N := some 44) (Mk 13 4095) rfl rfl (by kernel_rfl) (by decide) (fun K hK => ?_)
  refine Kd.R_append_rows_step (Kd.int .i64) (w0 := wr) (wr.heap.size) (by rfl) (.tmp 40) (.tmp 43) 62 2 (.int .i64 0) 8 rfl Try.underlying62 info2 rfl (by decide) (by omega) vb ([] ++ (l.take kk) ++ yc) (l.drop kk) _ _ _ (fun _ => True) (fun _ => False) rfl rfl ?aO ?aR (fun _ _ h => h) (fun _ h => h.elim) ?aF ?aB ?aS ?aL ?_
  (case aR => exact Dl.C_len hld_ (Kd.C_below hCd hd))
  (case aB => exact hd.mono hbs)
  (case aF => exact (fun _ _ => trivial))
  (case aO => exact hA)
  (case aS => exact Nat.le_trans hbs hd.size)
  (case aL => have := hycl; simp only [List.nil_append, List.length_append]; omega)
  intro vb wb hoB hbB_ hgB hatB
  have hbdB := Dl.bound_at hbdA hd.size hatB
  replace hd := hd.grown hgB hd.size hbdA
  clear hbB_ hgB hatB hHeld
  have hA := hoB
  have hbdA := hbdB
  clear hoB hbdB
  refine hK.out _ _ (HS_ _ hd) (fun hHeld => ?_)
  clear hK K
  refine norm_ (a' := ?_) ?_ ?_
  rotate_left
  ·show Act.put _ (some 44) _ = _
   simp only [Act.put, List.setIfInBounds_toArray, List.set_cons_zero, List.set_cons_succ, i64_w, i32_w]
   rfl
  refine pure_ (i := 12) (N := some 4) (v := ?_) (a' := ?_) (Mk 13 8191) rfl rfl (by kernel_rfl) (fun _ _ _ h => h) (Or.inl ⟨by rfl, ?_⟩) ?_ ?_
  rotate_left
  ·intro w'
   first | (go_simp; with_reducible rfl) | (go_simp; (try unfold Instr.field); go_simp; (try simp only [asAgg]); go_simp; with_reducible rfl)
  rotate_left
  ·simp only [Act.put, List.setIfInBounds_toArray, List.set_cons_zero, List.set_cons_succ, i64_w, i32_w]
   rfl
  refine done_ (by kernel_rfl) ?_
  go_wp2
  go_ret
  refine ⟨_, rfl, .inr ?_, hd⟩
  rw [HR.out, ← hyc.out]
  exact hA
namespace Dl
def same (x y : S36) : Bool := x.f0 == y.f0 && (x.f1 == y.f1 && (x.f2 == y.f2 && (x.f3 == y.f3 && (x.f4 == y.f4))))
/-- Is a backend not the same among others? -/
def s1 (lb : List S36) (x : S36) : Bool := decide (Cf.place lb x.f0 < 0) || !same (rd_T36 lb (Cf.place lb x.f0)) x
def s2 (la : List S36) (x : S36) : Bool := decide (Cf.place la x.f0 < 0)
def add (p : S36 → Bool) (out : List Int) (x : S36) : List Int := if p x = true then rise x.f0 out else out
theorem rise_len (n : Int) (l : List Int) : (rise n l).length ≤ l.length + 1 := by
 unfold rise
 split
 ·omega
 ·rw [List.length_append, List.length_cons, List.length_take, List.length_drop]; omega
theorem add_len (p : S36 → Bool) (out : List Int) (x : S36) : (add p out x).length ≤ out.length + 1 := by
 unfold add
 split
 ·exact rise_len _ _
 ·omega
theorem fold_len (p : S36 → Bool) : ∀ (l : List S36) (out : List Int), (l.foldl (add p) out).length ≤ out.length + l.length
 | [], out => by simp
 | x :: l, out => by
  have h1 := fold_len p l (add p out x)
  have h2 := add_len p out x
  simp only [List.foldl_cons, List.length_cons]
  omega
theorem fold_step (p : S36 → Bool) (l : List S36) (out : List Int) (k : Nat) (h : k < l.length) : (l.take (k + 1)).foldl (add p) out = add p ((l.take k).foldl (add p) out) (rd_T36 l (k : Int)) := by
 have e : rd_T36 l (k : Int) = l[k] := by simp [rd_T36, List.getD, h]
 rw [List.take_succ_eq_append_getElem h, List.foldl_append, e]
 rfl
def dcd (va : Int) (la : List S36) (la2 : List S64) (vb : Int) (lb : List S36) (lb2 : List S64) : Int := if Cf.code va la la2 ≠ 0 then Cf.code va la la2 else Cf.code vb lb lb2
def dsp (va : Int) (la : List S36) (la2 : List S64) (vb : Int) (lb : List S36) (lb2 : List S64) : List Int := if dcd va la la2 vb lb lb2 ≠ 0 then [] else lb.foldl (add (s2 la)) (la.foldl (add (s1 lb)) [])
theorem code_len {v : Int} {l1 : List S36} {l2 : List S64} (h : Cf.code v l1 l2 = 0) : l1.length ≤ 8 := by
 unfold Cf.code at h
 split at h
 ·cases h
 ·split at h
  ·cases h
  ·rename_i hh
   simp only [Bool.or_eq_true, decide_eq_true_eq, not_or] at hh
   omega
theorem put2 {w : World} {g : Nat} {t : TypeId} {u0 u1 : Value} (h : w.heap[g]? = some (.cells #[u0, u1] t (0, 0))) (v0 v1 : Value) :
  ((w.setCell ⟨g, 0, none⟩ v0).setCell ⟨g, 1, none⟩ v1).heap[g]? = some (.cells #[v0, v1] t (0, 0)) := by
 refine blk_put (cs := #[v0, u1]) ?_ 1 _ rfl
 exact blk_put (cs := #[u0, u1]) h 0 _ rfl
theorem put1 {w : World} {g : Nat} {t : TypeId} {u0 u1 : Value} (h : w.heap[g]? = some (.cells #[u0, u1] t (0, 0))) (v1 : Value) :
  (w.setCell ⟨g, 1, none⟩ v1).heap[g]? = some (.cells #[u0, v1] t (0, 0)) := blk_put (cs := #[u0, u1]) h 1 _ rfl
theorem rise_own {n : Int} {l : List Int} {base : Nat} {w w' : World} {A : Option Addr} {c : Nat} {u : Value} (hR : Kd.R (Kd.int .i64) 2 w base (fun _ => True) (.slice A l.length c) l) (hb : Below w.heap.size w w') (hs : base ≤ w.heap.size)
  (h : (u = .slice A l.length c ∧ rise n l = l) ∨ Kd.R (Kd.int .i64) 2 w' w.heap.size (fun _ => True) u (rise n l)) : Kd.R (Kd.int .i64) 2 w' base (fun _ => True) u (rise n l) := by
 rcases h with ⟨rfl, e⟩ | h
 ·rw [e]; exact Kd.R_below hR hb
 ·exact Kd.R_lower h hs
theorem R_put2 {w : World} {g base : Nat} {u0 u1 v : Value} {xs : List Int} (hR : Kd.R (Kd.int .i64) 2 w base (fun _ => True) v xs) (h : w.heap[g]? = some (.cells #[u0, u1] 76 (0, 0))) (a b : Value) :
  Kd.R (Kd.int .i64) 2 ((w.setCell ⟨g, 0, none⟩ a).setCell ⟨g, 1, none⟩ b) base (fun _ => True) v xs :=
 Kd.R_set (Kd.R_set hR h (by decide) 0 a) (blk_put (cs := #[u0, u1]) h 0 a rfl) (by decide) 1 b
end Dl
set_option maxHeartbeats 8000000 in
set_option maxRecDepth 100000 in
theorem spec_DeltaOf.cf (A1 : Option Addr) (c1 : Nat) (la : List S36) (A2 : Option Addr) (c2 : Nat) (la2 : List S64) (va : Int) (B1 : Option Addr) (d1 : Nat) (lb : List S36) (B2 : Option Addr) (d2 : Nat) (lb2 : List S64) (vb : Int) (w : World)
  (hr1 : Kd.C k36 w A1 la.length la) (hr2 : Kd.C k64 w A2 la2.length la2) (hs1 : Kd.C k36 w B1 lb.length lb) (hs2 : Kd.C k64 w B2 lb2.length lb2) :
  Calls Try.prog 41 #[.agg #[.int .i64 va, .slice A1 la.length c1, .slice A2 la2.length c2], .agg #[.int .i64 vb, .slice B1 lb.length d1, .slice B2 lb2.length d2]] w fun e_ w' => ∃ u, e_ = .returned (.agg #[.int .i64 (Dl.dcd va la la2 vb lb lb2), u]) ∧ Kd.R (Kd.int .i64) 2 w' w.heap.size (fun _ => True) u (Dl.dsp va la la2 vb lb lb2) ∧ Below w.heap.size w w' := by
 have hu31 := Try.underlying31
 have hu36 := Try.underlying36
 have hu76 := Try.underlying76
 obtain ⟨w1, hw1⟩ : ∃ W, W = ((w.alloc (.cells #[.int .i64 va, .slice A1 la.length c1, .slice A2 la2.length c2] 31)).alloc (.cells #[.int .i64 vb, .slice B1 lb.length d1, .slice B2 lb2.length d2] 31)).alloc (.cells #[.int .i64 0, .slice none 0 0] 76) := ⟨_, rfl⟩
 have hs1_ : w1.heap.size = w.heap.size + 3 := by rw [hw1]; simp
 have hB1 : Below w.heap.size w w1 := by rw [hw1]; exact ((((Below.refl _ w).alloc (Nat.le_refl _) _).alloc (by simp) _).alloc (by simp; omega) _)
 have bg1 : w1.heap[w.heap.size]? = some (.cells #[.int .i64 va, .slice A1 la.length c1, .slice A2 la2.length c2] 31 (0, 0)) := by rw [hw1]; exact blk_alloc (blk_alloc (blk_new w _) _) _
 have bh1 : w1.heap[w.heap.size + 1]? = some (.cells #[.int .i64 vb, .slice B1 lb.length d1, .slice B2 lb2.length d2] 31 (0, 0)) := by
  rw [hw1]
  have h_ := heap_alloc_new (w.alloc (.cells #[.int .i64 va, .slice A1 la.length c1, .slice A2 la2.length c2] 31)) (.cells #[.int .i64 vb, .slice B1 lb.length d1, .slice B2 lb2.length d2] 31)
  rw [World.size_alloc] at h_
  exact blk_alloc h_ _
 have bk1 : w1.heap[w.heap.size + 1 + 1]? = some (.cells #[.int .i64 0, .slice none 0 0] 76 (0, 0)) := by
  rw [hw1]
  have h_ := heap_alloc_new ((w.alloc (.cells #[.int .i64 va, .slice A1 la.length c1, .slice A2 la2.length c2] 31)).alloc (.cells #[.int .i64 vb, .slice B1 lb.length d1, .slice B2 lb2.length d2] 31)) (.cells #[.int .i64 0, .slice none 0 0] 76)
  rwa [World.size_alloc, World.size_alloc] at h_
 have hr11 := Kd.C_below hr1 hB1
 have hr21 := Kd.C_below hr2 hB1
 have hs11 := Kd.C_below hs1 hB1
 have hs21 := Kd.C_below hs2 hB1
 have hcallF := spec_l5Fault.cf w.heap.size A1 c1 la A2 c2 la2 va w1 bg1 hr11 hr21
 rw [hw1] at hcallF
 have hcallG := fun (W : World) (hW : Below w1.heap.size w1 W) => spec_l5Fault.cf (w.heap.size + 1) B1 d1 lb B2 d2 lb2 vb W (blk_below bh1 hW) (Kd.C_below hs11 hW) (Kd.C_below hs21 hW)
 obtain ⟨rc, hrc⟩ : ∃ r, r = Dl.dcd va la la2 vb lb lb2 := ⟨_, rfl⟩
 obtain ⟨rv, hrv⟩ : ∃ r, r = Dl.dsp va la la2 vb lb lb2 := ⟨_, rfl⟩
 unfold Dl.dsp at hrv
 rw [← hrc] at hrv
 unfold Dl.dsp
 rw [← hrc, ← hrv]
 unfold Dl.dcd at hrc
 have hcl1 := @Dl.code_len va la la2
 have hcl2 := @Dl.code_len vb lb lb2
 obtain ⟨q, hq⟩ : ∃ q, q = Cf.code va la la2 := ⟨_, rfl⟩
 rw [← hq] at hcallF hrc hcl1
 clear hq
 generalize Cf.code vb lb lb2 = q2 at hcallG hrc hcl2
 go_enter Try.func41, Try.ntmps41
 by_cases hq0 : q = 0
 ·have hq1 : (q != 0) = false := bne_eq_false_iff_eq.mpr hq0
  rw [if_neg (by simp [hq0])] at hrc
  have hlal := hcl1 hq0
  clear hcl1
  by_cases hp0 : q2 = 0
  ·have hp1 : (q2 != 0) = false := bne_eq_false_iff_eq.mpr hp0
   have hlbl := hcl2 hp0
   rw [if_neg (by rw [hrc]; simp [hp0])] at hrv
   have HRC := Aside0.mk (hrc.trans hp0)
   have HRV := Aside0.mk hrv
   clear hcl2 hrc hrv
   go_wp2_with (first
    | (go_at_call 50; refine hcallF.mono ?_; rintro e_ w2 ⟨rfl, hb2⟩; rw [← hw1] at hb2; clear hcallF)
    | (go_at_call 50; refine (hcallG _ hb2).mono ?_; rintro e_ wS ⟨rfl, hb3⟩; replace hb2 := Cf.up hb2 hb3; clear hb3 hcallG)
    | ((with_reducible refine gate_dst (N := 7) rfl ?_); refine box_event ?hg (N := 7) ?hd (cs := #[.int .i64 0, .slice none 0 0]) (t := 76) ?hr ?_; (case hd => rfl); (case hg => rfl); (case hr => first | (go_simp; done) | (go_simp; rfl)); intro gO hgO wO hboxO hbO; have HGO : Aside0 (wS.heap.size ≤ gO) := ⟨by rw [hgO]; exact Nat.le_refl _⟩; clear hgO; have hc0 := blk_cell hboxO 0; have hc1 := blk_cell hboxO 1; have hf0 := blk_frozen hboxO 0; have hf1 := blk_frozen hboxO 1))
   have hS := hb2.size
   have HSW : Aside0 (w.heap.size ≤ wS.heap.size) := ⟨by omega⟩
   have BGA := Aside0.mk (blk_below bg1 hb2)
   have BGB := Aside0.mk (blk_below bh1 hb2)
   have BKR := Aside0.mk (blk_below bk1 hb2)
   have Hla := Aside0.mk (Kd.C_below hr11 hb2)
   have Hlb := Aside0.mk (Kd.C_below hs11 hb2)
   have HBS := Aside0.mk (Cf.up hB1 hb2)
   have hBO := Dl.put2 hboxO (.int .i64 0) (.slice none 0 0)
   have hHB : Below wS.heap.size wS ((wO.setCell ⟨gO, 0, none⟩ (.int .i64 0)).setCell ⟨gO, 1, none⟩ (.slice none 0 0)) := by
    refine below_set (below_set hbO ?_) ?_
    ·exact HGO.out
    ·exact HGO.out
   have hHO := Kd.R_nil (Kd.int .i64) 2 ((wO.setCell ⟨gO, 0, none⟩ (.int .i64 0)).setCell ⟨gO, 1, none⟩ (.slice none 0 0)) w.heap.size (fun _ => True)
   have HR21 := Aside0.mk (Kd.C_below hr21 hb2)
   have HS21 := Aside0.mk (Kd.C_below hs21 hb2)
   have HSZ1 := Aside0.mk hs1_
   clear hr1 hr2 hs1 hs2 bg1 bh1 bk1 hr11 hr21 hs11 hs21 hb2 hw1 hB1 hc0 hc1 hf0 hf1 hboxO hbO hs1_ hS
   generalize ((wO.setCell ⟨gO, 0, none⟩ (.int .i64 0)).setCell ⟨gO, 1, none⟩ (.slice none 0 0)) = wl at hBO hHB hHO ⊢
   have BO := Aside0.mk hBO
   have HB := Aside0.mk hHB
   have HOs := Aside0.mk hHO
   clear hBO hHB hHO
   have HO := Aside0.mk (show Kd.R (Kd.int .i64) 2 _ w.heap.size (fun _ => True) _ ((la.take 0).foldl (Dl.add (Dl.s1 lb)) []) from HOs.out)
   clear HOs
   go_loopg [8] la.length (fun gg s_ wr => ∃ (kk : Nat) (u : Value), kk ≤ la.length ∧ la.length - kk ≤ gg ∧ s_ = .int .i64 kk ∧ Aside0 (Kd.R (Kd.int .i64) 2 wr w.heap.size (fun _ => True) u ((la.take kk).foldl (Dl.add (Dl.s1 lb)) [])) ∧ Aside0 (wr.heap[gO]? = some (.cells #[.int .i64 0, u] 76 (0, 0))) ∧ Aside0 (Below wS.heap.size wS wr))
   case atStart => exact ⟨0, _, Nat.zero_le _, by omega, rfl, HO, BO, HB⟩
   case round =>
    clear HO BO HB
    obtain ⟨kk, u, hkk, hg, rfl, HO, BO, HB⟩ := hrel
    obtain ⟨Ao, co, eo⟩ := Kd.R_slice HO.out
    subst eo
    have hll := Dl.fold_len (Dl.s1 lb) (la.take kk) []
    rw [List.length_take] at hll
    obtain ⟨lst, hlst⟩ : ∃ l_, l_ = (la.take kk).foldl (Dl.add (Dl.s1 lb)) [] := ⟨_, rfl⟩
    rw [← hlst] at hll
    have HLST := Aside0.mk hlst
    have HO1 : Aside0 (Kd.R (Kd.int .i64) 2 wr w.heap.size (fun _ => True) (.slice Ao lst.length co) lst) := ⟨by rw [hlst]; exact HO.out⟩
    rw [← hlst] at BO
    clear HO hlst
    have HLL : Aside0 (lst.length ≤ 100) := ⟨by simp only [List.length_nil] at hll; omega⟩
    clear hll
    have z1 := blk_cell (blk_below BGA.out HB.out) 1
    have z2 := blk_cell (blk_below BGB.out HB.out) 1
    by_cases hlt : kk < la.length
    ·have hltz : (kk : Int) < (la.length : Int) := by omega
     obtain ⟨ad, e1, hx_0, hx_1, hx_2, hx_3, hx_4⟩ := at_T36 (Kd.C_below Hla.out HB.out) (kk : Int) (by omega) hltz
     cases e1
     simp only [Int.toNat_natCast] at hx_0 hx_1 hx_2 hx_3 hx_4
     have HST1 := Aside0.mk (Dl.fold_step (Dl.s1 lb) la [] kk hlt)
     obtain ⟨x, hx⟩ : ∃ x_, x_ = rd_T36 la (kk : Int) := ⟨_, rfl⟩
     rw [← hx] at hx_0 hx_1 hx_2 hx_3 hx_4 HST1
     clear hx
     have hcallB := spec_l5At.cf (w.heap.size + 1) B1 d1 lb B2 lb2.length d2 vb x.f0 wr (blk_below BGB.out HB.out) (Kd.C_below Hlb.out HB.out)
     have hpl := Cf.place_lt lb x.f0
     obtain ⟨pv, hpv⟩ : ∃ p_, p_ = Dl.s1 lb x := ⟨_, rfl⟩
     have HPV := Aside0.mk hpv
     unfold Dl.s1 at hpv
     generalize Cf.place lb x.f0 = pl at hcallB hpl hpv
     by_cases hp0 : pl < 0
     ·have hp1 : decide (pl < 0) = true := decide_eq_true hp0
      rw [hp1] at hpv
      simp only [Bool.true_or] at hpv
      subst hpv
      go_wp2_with (first
       | (go_at_call 64; refine hcallB.mono ?_; rintro e_ w5 ⟨rfl, hb3⟩; clear hcallB; have HB3 := Aside0.mk (Cf.up HB.out hb3); have HB_3 := Aside0.mk hb3; clear hb3))
      go_quiet (fail)
      go_wp2
      have hbw : Below wr.heap.size wr (World.drewN w5 nq) := pw_below_drewN HB_3.out _
      have HOq := Aside0.mk (Kd.R_below HO1.out hbw)
      have BOq := Aside0.mk (blk_below BO.out hbw)
      have HBq := Aside0.mk (Cf.up HB.out hbw)
      have hxq := pw_cell_below hbw hx_0
      clear hbw
      generalize (World.drewN w5 nq) = wq at HOq BOq HBq hxq ⊢
      have q1 := blk_cell (blk_below BGA.out HBq.out) 1
      have hrise := fun (W : World) (hW : Below wq.heap.size wq W) => spec_l1Rise.cf Ao co lst x.f0 W (Kd.C_below (Kd.R_reads' HOq.out).2.2 hW) (Kd.R_reads' HOq.out).2.1 (by have := HLL.out; omega)
      have HSZ : Aside0 (w.heap.size ≤ wq.heap.size) := ⟨Nat.le_trans HSW.out HBq.out.size⟩
      have q0 := blk_cell BOq.out 1
      have q2 := hxq
      have HS_ : ∀ W, Below wq.heap.size wq W → (W.cell? ⟨gO, 1, none⟩ = some (.slice Ao lst.length co) ∧ W.cell? ⟨w.heap.size, 1, none⟩ = some (.slice (some ad) la.length c1) ∧ W.cell? (ad.add (kk * 5)) = some (.int .i64 x.f0)) := fun W hW => ⟨pw_cell_below hW q0, pw_cell_below hW q1, pw_cell_below hW q2⟩
      have hd : Below wq.heap.size wq wq.drew := below_drew1 (Below.refl _ _)
      refine start_ (n := 11) (S := fun w' => w'.cell? ⟨gO, 1, none⟩ = some (.slice Ao lst.length co) ∧ w'.cell? ⟨w.heap.size, 1, none⟩ = some (.slice (some ad) la.length c1) ∧ w'.cell? (ad.add (kk * 5)) = some (.int .i64 x.f0)) (ds := [10]) (Mk 11 0) (by kernel_rfl) rfl rfl (HS_ _ hd) (fun hHeld => ?_)
      generalize wq.drew = wd at hd hHeld ⊢
      refine take_ (i := 0) (N := some 51) (v := ?_) (a' := ?_) (Mk 11 1) rfl rfl (by kernel_rfl) (fun _ _ _ h => h) (Or.inl ⟨by rfl, ?_⟩) hHeld ?_ ?_
      rotate_left
      ·rintro w' ⟨s0, s1, s2⟩
       go_simp
       with_reducible rfl
      rotate_left
      ·simp only [Act.put, List.setIfInBounds_toArray, List.set_cons_zero, List.set_cons_succ, i64_w, i32_w]
       rfl
      refine take_ (i := 1) (N := some 52) (v := ?_) (a' := ?_) (Mk 11 3) rfl rfl (by kernel_rfl) (fun _ _ _ h => h) (Or.inl ⟨by rfl, ?_⟩) hHeld ?_ ?_
      rotate_left
      ·rintro w' ⟨s0, s1, s2⟩
       go_simp
       with_reducible rfl
      rotate_left
      ·simp only [Act.put, List.setIfInBounds_toArray, List.set_cons_zero, List.set_cons_succ, i64_w, i32_w]
       rfl
      refine take_ (i := 2) (N := some 53) (v := ?_) (a' := ?_) (Mk 11 7) rfl rfl (by kernel_rfl) (fun _ _ _ h => h) (Or.inl ⟨by rfl, ?_⟩) hHeld ?_ ?_
      rotate_left
      ·rintro w' ⟨s0, s1, s2⟩
       go_simp
       with_reducible rfl
      rotate_left
      ·simp only [Act.put, List.setIfInBounds_toArray, List.set_cons_zero, List.set_cons_succ, i64_w, i32_w]
       rfl
      refine take_ (i := 3) (N := some 54) (v := ?_) (a' := ?_) (Mk 11 15) rfl rfl (by kernel_rfl) (fun _ _ _ h => h) (Or.inl ⟨by rfl, ?_⟩) hHeld ?_ ?_
      rotate_left
      ·rintro w' ⟨s0, s1, s2⟩
       go_simp
       with_reducible rfl
      rotate_left
      ·simp only [Act.put, List.setIfInBounds_toArray, List.set_cons_zero, List.set_cons_succ, i64_w, i32_w]
       rfl
      refine take_ (i := 4) (N := some 55) (v := ?_) (a' := ?_) (Mk 11 31) rfl rfl (by kernel_rfl) (fun _ _ _ h => h) (Or.inl ⟨by rfl, ?_⟩) hHeld ?_ ?_
      rotate_left
      ·rintro w' ⟨s0, s1, s2⟩
       go_simp
       with_reducible rfl
      rotate_left
      ·simp only [Act.put, List.setIfInBounds_toArray, List.set_cons_zero, List.set_cons_succ, i64_w, i32_w]
       rfl
      refine take_ (i := 5) (N := some 56) (v := ?_) (a' := ?_) (Mk 11 63) rfl rfl (by kernel_rfl) (fun _ _ _ h => h) (Or.inl ⟨by rfl, ?_⟩) hHeld ?_ ?_
      rotate_left
      ·rintro w' ⟨s0, s1, s2⟩
       go_simp
       with_reducible rfl
      rotate_left
      ·simp only [Act.put, List.setIfInBounds_toArray, List.set_cons_zero, List.set_cons_succ, i64_w, i32_w]
       rfl
      refine take_ (i := 6) (N := some 57) (v := ?_) (a' := ?_) (Mk 11 127) rfl rfl (by kernel_rfl) (fun _ _ _ h => h) (Or.inl ⟨by rfl, ?_⟩) hHeld ?_ ?_
      rotate_left
      ·rintro w' ⟨s0, s1, s2⟩
       go_simp
       with_reducible rfl
      rotate_left
      ·simp only [Act.put, List.setIfInBounds_toArray, List.set_cons_zero, List.set_cons_succ, i64_w, i32_w]
       rfl
      refine take_ (i := 7) (N := some 58) (v := ?_) (a' := ?_) (Mk 11 255) rfl rfl (by kernel_rfl) (fun _ _ _ h => h) (Or.inl ⟨by rfl, ?_⟩) hHeld ?_ ?_
      rotate_left
      ·rintro w' ⟨s0, s1, s2⟩
       go_simp
       with_reducible rfl
      rotate_left
      ·simp only [Act.put, List.setIfInBounds_toArray, List.set_cons_zero, List.set_cons_succ, i64_w, i32_w]
       rfl
      refine one_ (i := 8) (N := some 59) (Mk 11 511) rfl rfl (by kernel_rfl) (by decide) (fun K hK => ?_)
      refine goes_ Try.func90 (by kernel_rfl) rfl #[.slice Ao lst.length co, .int .i64 x.f0] (by rfl) rfl rfl (by (try simp only [List.map_toArray, List.map_cons, List.map_nil]); first | done | rfl) ?_
      refine (hrise _ hd).mono ?_
      rintro e wc ⟨u, rfl, hu, hbc⟩
      have hRc := Dl.rise_own (Kd.R_below HOq.out hd) hbc (Nat.le_trans HSZ.out hd.size) hu
      replace hd := Cf.up hd hbc
      clear hu hbc
      obtain ⟨Au, cu, eu⟩ := Kd.R_slice hRc
      subst eu
      refine ⟨_, rfl, ?_⟩
      refine hK.out _ _ (HS_ _ hd) (fun hHeld => ?_)
      clear hK K
      refine norm_ (a' := ?_) ?_ ?_
      rotate_left
      ·show Act.put _ (some 59) _ = _
       simp only [Act.put, List.setIfInBounds_toArray, List.set_cons_zero, List.set_cons_succ, i64_w, i32_w]
       rfl
      refine take_ (i := 9) (N := some 60) (v := ?_) (a' := ?_) (Mk 11 1023) rfl rfl (by kernel_rfl) (fun _ _ _ h => h) (Or.inl ⟨by rfl, ?_⟩) hHeld ?_ ?_
      rotate_left
      ·rintro w' ⟨s0, s1, s2⟩
       go_simp
       with_reducible rfl
      rotate_left
      ·simp only [Act.put, List.setIfInBounds_toArray, List.set_cons_zero, List.set_cons_succ, i64_w, i32_w]
       rfl
      have hbx := blk_below BOq.out hd
      have y1 := blk_cell hbx 1
      have f1 := blk_frozen hbx 1
      refine last_ (i := 10) (N := none) (Mk 11 2047) rfl rfl (by kernel_rfl) (by decide) (fun K hK => ?_)
      refine skip_ (w1 := ?_) (by rfl) rfl ?_ ?_
      rotate_left
      ·go_simp
       rfl
      refine hK.out _ _ ?_
      clear hK K
      refine done_ (by kernel_rfl) ?_
      go_wp2
      go_roundg (la.length - (kk + 1))
      case measure => omega
      case rel =>
       refine ⟨kk + 1, _, by omega, by omega, by go_num, ⟨?_⟩, ⟨Dl.put1 hbx _⟩, ⟨?_⟩⟩
       ·rw [HST1.out, ← HLST.out]
        unfold Dl.add
        rw [← HPV.out, if_pos rfl]
        exact Kd.R_set hRc hbx (by decide) 1 _
       ·refine below_set ?_ HGO.out
        exact Cf.up HBq.out hd
     ·have hp1 : decide (pl < 0) = false := decide_eq_false hp0
      rw [hp1] at hpv
      simp only [Bool.false_or] at hpv
      have hpge : (0 : Int) ≤ pl := by omega
      have hpll := hpl hp0
      obtain ⟨y, hy⟩ : ∃ y_, y_ = rd_T36 lb pl := ⟨_, rfl⟩
      rw [← hy] at hpv
      have HY := Aside0.mk hy
      clear hy
      have heqA : ∀ W : World, (Op.equalIn 10000 36 (.agg #[.int .i64 y.f0, .int .i64 y.f1, .int .i64 y.f2, .int .i64 y.f3, .bool y.f4]) (.agg #[.int .i64 x.f0, .int .i64 x.f1, .int .i64 x.f2, .int .i64 x.f3, .bool x.f4])).run Try.prog W = .ok (Dl.same y x) W := fun W => eqA36 9998 W _ _ _ _ _ _ _ _ _ _
      cases hs : Dl.same y x with
      | true =>
       rw [hs] at hpv
       simp only [Bool.not_true] at hpv
       subst hpv
       go_wp2_with (first
        | (go_at_call 64; refine hcallB.mono ?_; rintro e_ w5 ⟨rfl, hb3⟩; clear hcallB; have HB3 := Aside0.mk (Cf.up HB.out hb3); have HB_3 := Aside0.mk hb3; clear hb3; obtain ⟨ad2, e2, hy_0, hy_1, hy_2, hy_3, hy_4⟩ := at_T36 (Kd.C_below Hlb.out HB3.out) pl hpge hpll; cases e2; rw [← HY.out] at hy_0 hy_1 hy_2 hy_3 hy_4; have k1 := blk_cell (blk_below BGA.out HB3.out) 1; have k2 := blk_cell (blk_below BGB.out HB3.out) 1; have x_0 := pw_cell_below HB_3.out hx_0; have x_1 := pw_cell_below HB_3.out hx_1; have x_2 := pw_cell_below HB_3.out hx_2; have x_3 := pw_cell_below HB_3.out hx_3; have x_4 := pw_cell_below HB_3.out hx_4))
       go_quiet (fail)
       go_wp2
       have hbw : Below wr.heap.size wr (World.drewN w5 nq) := pw_below_drewN HB_3.out _
       have HOq := Aside0.mk (Kd.R_below HO1.out hbw)
       have BOq := Aside0.mk (blk_below BO.out hbw)
       have HBq := Aside0.mk (Cf.up HB.out hbw)
       have hxq := pw_cell_below hbw hx_0
       clear hbw
       generalize (World.drewN w5 nq) = wq at HOq BOq HBq hxq ⊢
       go_roundg (la.length - (kk + 1))
       case measure => omega
       case rel =>
        refine ⟨kk + 1, _, by omega, by omega, by go_num, ⟨?_⟩, BOq, HBq⟩
        rw [HST1.out, ← HLST.out]
        unfold Dl.add
        rw [← HPV.out, if_neg (by simp)]
        exact HOq.out
      | false =>
       rw [hs] at hpv
       simp only [Bool.not_false] at hpv
       subst hpv
       go_wp2_with (first
        | (go_at_call 64; refine hcallB.mono ?_; rintro e_ w5 ⟨rfl, hb3⟩; clear hcallB; have HB3 := Aside0.mk (Cf.up HB.out hb3); have HB_3 := Aside0.mk hb3; clear hb3; obtain ⟨ad2, e2, hy_0, hy_1, hy_2, hy_3, hy_4⟩ := at_T36 (Kd.C_below Hlb.out HB3.out) pl hpge hpll; cases e2; rw [← HY.out] at hy_0 hy_1 hy_2 hy_3 hy_4; have k1 := blk_cell (blk_below BGA.out HB3.out) 1; have k2 := blk_cell (blk_below BGB.out HB3.out) 1; have x_0 := pw_cell_below HB_3.out hx_0; have x_1 := pw_cell_below HB_3.out hx_1; have x_2 := pw_cell_below HB_3.out hx_2; have x_3 := pw_cell_below HB_3.out hx_3; have x_4 := pw_cell_below HB_3.out hx_4))
       go_quiet (fail)
       go_wp2
       have hbw : Below wr.heap.size wr (World.drewN w5 nq) := pw_below_drewN HB_3.out _
       have HOq := Aside0.mk (Kd.R_below HO1.out hbw)
       have BOq := Aside0.mk (blk_below BO.out hbw)
       have HBq := Aside0.mk (Cf.up HB.out hbw)
       have hxq := pw_cell_below hbw hx_0
       clear hbw
       generalize (World.drewN w5 nq) = wq at HOq BOq HBq hxq ⊢
       clear hy_0 hy_1 hy_2 hy_3 hy_4 k1 k2 x_0 x_1 x_2 x_3 x_4
       have q1 := blk_cell (blk_below BGA.out HBq.out) 1
       have hrise := fun (W : World) (hW : Below wq.heap.size wq W) => spec_l1Rise.cf Ao co lst x.f0 W (Kd.C_below (Kd.R_reads' HOq.out).2.2 hW) (Kd.R_reads' HOq.out).2.1 (by have := HLL.out; omega)
       have HSZ : Aside0 (w.heap.size ≤ wq.heap.size) := ⟨Nat.le_trans HSW.out HBq.out.size⟩
       have q0 := blk_cell BOq.out 1
       have q2 := hxq
       have HS_ : ∀ W, Below wq.heap.size wq W → (W.cell? ⟨gO, 1, none⟩ = some (.slice Ao lst.length co) ∧ W.cell? ⟨w.heap.size, 1, none⟩ = some (.slice (some ad) la.length c1) ∧ W.cell? (ad.add (kk * 5)) = some (.int .i64 x.f0)) := fun W hW => ⟨pw_cell_below hW q0, pw_cell_below hW q1, pw_cell_below hW q2⟩
       have hd : Below wq.heap.size wq wq.drew := below_drew1 (Below.refl _ _)
       refine start_ (n := 11) (S := fun w' => w'.cell? ⟨gO, 1, none⟩ = some (.slice Ao lst.length co) ∧ w'.cell? ⟨w.heap.size, 1, none⟩ = some (.slice (some ad) la.length c1) ∧ w'.cell? (ad.add (kk * 5)) = some (.int .i64 x.f0)) (ds := [10]) (Mk 11 0) (by kernel_rfl) rfl rfl (HS_ _ hd) (fun hHeld => ?_)
       generalize wq.drew = wd at hd hHeld ⊢
       refine take_ (i := 0) (N := some 51) (v := ?_) (a' := ?_) (Mk 11 1) rfl rfl (by kernel_rfl) (fun _ _ _ h => h) (Or.inl ⟨by rfl, ?_⟩) hHeld ?_ ?_
       rotate_left
       ·rintro w' ⟨s0, s1, s2⟩
        go_simp
        with_reducible rfl
       rotate_left
       ·simp only [Act.put, List.setIfInBounds_toArray, List.set_cons_zero, List.set_cons_succ, i64_w, i32_w]
        rfl
       refine take_ (i := 1) (N := some 52) (v := ?_) (a' := ?_) (Mk 11 3) rfl rfl (by kernel_rfl) (fun _ _ _ h => h) (Or.inl ⟨by rfl, ?_⟩) hHeld ?_ ?_
       rotate_left
       ·rintro w' ⟨s0, s1, s2⟩
        go_simp
        with_reducible rfl
       rotate_left
       ·simp only [Act.put, List.setIfInBounds_toArray, List.set_cons_zero, List.set_cons_succ, i64_w, i32_w]
        rfl
       refine take_ (i := 2) (N := some 53) (v := ?_) (a' := ?_) (Mk 11 7) rfl rfl (by kernel_rfl) (fun _ _ _ h => h) (Or.inl ⟨by rfl, ?_⟩) hHeld ?_ ?_
       rotate_left
       ·rintro w' ⟨s0, s1, s2⟩
        go_simp
        with_reducible rfl
       rotate_left
       ·simp only [Act.put, List.setIfInBounds_toArray, List.set_cons_zero, List.set_cons_succ, i64_w, i32_w]
        rfl
       refine take_ (i := 3) (N := some 54) (v := ?_) (a' := ?_) (Mk 11 15) rfl rfl (by kernel_rfl) (fun _ _ _ h => h) (Or.inl ⟨by rfl, ?_⟩) hHeld ?_ ?_
       rotate_left
       ·rintro w' ⟨s0, s1, s2⟩
        go_simp
        with_reducible rfl
       rotate_left
       ·simp only [Act.put, List.setIfInBounds_toArray, List.set_cons_zero, List.set_cons_succ, i64_w, i32_w]
        rfl
       refine take_ (i := 4) (N := some 55) (v := ?_) (a' := ?_) (Mk 11 31) rfl rfl (by kernel_rfl) (fun _ _ _ h => h) (Or.inl ⟨by rfl, ?_⟩) hHeld ?_ ?_
       rotate_left
       ·rintro w' ⟨s0, s1, s2⟩
        go_simp
        with_reducible rfl
       rotate_left
       ·simp only [Act.put, List.setIfInBounds_toArray, List.set_cons_zero, List.set_cons_succ, i64_w, i32_w]
        rfl
       refine take_ (i := 5) (N := some 56) (v := ?_) (a' := ?_) (Mk 11 63) rfl rfl (by kernel_rfl) (fun _ _ _ h => h) (Or.inl ⟨by rfl, ?_⟩) hHeld ?_ ?_
       rotate_left
       ·rintro w' ⟨s0, s1, s2⟩
        go_simp
        with_reducible rfl
       rotate_left
       ·simp only [Act.put, List.setIfInBounds_toArray, List.set_cons_zero, List.set_cons_succ, i64_w, i32_w]
        rfl
       refine take_ (i := 6) (N := some 57) (v := ?_) (a' := ?_) (Mk 11 127) rfl rfl (by kernel_rfl) (fun _ _ _ h => h) (Or.inl ⟨by rfl, ?_⟩) hHeld ?_ ?_
       rotate_left
       ·rintro w' ⟨s0, s1, s2⟩
        go_simp
        with_reducible rfl
       rotate_left
       ·simp only [Act.put, List.setIfInBounds_toArray, List.set_cons_zero, List.set_cons_succ, i64_w, i32_w]
        rfl
       refine take_ (i := 7) (N := some 58) (v := ?_) (a' := ?_) (Mk 11 255) rfl rfl (by kernel_rfl) (fun _ _ _ h => h) (Or.inl ⟨by rfl, ?_⟩) hHeld ?_ ?_
       rotate_left
       ·rintro w' ⟨s0, s1, s2⟩
        go_simp
        with_reducible rfl
       rotate_left
       ·simp only [Act.put, List.setIfInBounds_toArray, List.set_cons_zero, List.set_cons_succ, i64_w, i32_w]
        rfl
       refine one_ (i := 8) (N := some 59) (Mk 11 511) rfl rfl (by kernel_rfl) (by decide) (fun K hK => ?_)
       refine goes_ Try.func90 (by kernel_rfl) rfl #[.slice Ao lst.length co, .int .i64 x.f0] (by rfl) rfl rfl (by (try simp only [List.map_toArray, List.map_cons, List.map_nil]); first | done | rfl) ?_
       refine (hrise _ hd).mono ?_
       rintro e wc ⟨u, rfl, hu, hbc⟩
       have hRc := Dl.rise_own (Kd.R_below HOq.out hd) hbc (Nat.le_trans HSZ.out hd.size) hu
       replace hd := Cf.up hd hbc
       clear hu hbc
       obtain ⟨Au, cu, eu⟩ := Kd.R_slice hRc
       subst eu
       refine ⟨_, rfl, ?_⟩
       refine hK.out _ _ (HS_ _ hd) (fun hHeld => ?_)
       clear hK K
       refine norm_ (a' := ?_) ?_ ?_
       rotate_left
       ·show Act.put _ (some 59) _ = _
        simp only [Act.put, List.setIfInBounds_toArray, List.set_cons_zero, List.set_cons_succ, i64_w, i32_w]
        rfl
       refine take_ (i := 9) (N := some 60) (v := ?_) (a' := ?_) (Mk 11 1023) rfl rfl (by kernel_rfl) (fun _ _ _ h => h) (Or.inl ⟨by rfl, ?_⟩) hHeld ?_ ?_
       rotate_left
       ·rintro w' ⟨s0, s1, s2⟩
        go_simp
        with_reducible rfl
       rotate_left
       ·simp only [Act.put, List.setIfInBounds_toArray, List.set_cons_zero, List.set_cons_succ, i64_w, i32_w]
        rfl
       have hbx := blk_below BOq.out hd
       have y1 := blk_cell hbx 1
       have f1 := blk_frozen hbx 1
       refine last_ (i := 10) (N := none) (Mk 11 2047) rfl rfl (by kernel_rfl) (by decide) (fun K hK => ?_)
       refine skip_ (w1 := ?_) (by rfl) rfl ?_ ?_
       rotate_left
       ·go_simp
        rfl
       refine hK.out _ _ ?_
       clear hK K
       refine done_ (by kernel_rfl) ?_
       go_wp2
       go_roundg (la.length - (kk + 1))
       case measure => omega
       case rel =>
        refine ⟨kk + 1, _, by omega, by omega, by go_num, ⟨?_⟩, ⟨Dl.put1 hbx _⟩, ⟨?_⟩⟩
        ·rw [HST1.out, ← HLST.out]
         unfold Dl.add
         rw [← HPV.out, if_pos rfl]
         exact Kd.R_set hRc hbx (by decide) 1 _
        ·refine below_set ?_ HGO.out
         exact Cf.up HBq.out hd
    ·have hltz : ¬ (kk : Int) < (la.length : Int) := by omega
     have : kk = la.length := by omega
     subst this
     have HOs : Aside0 (Kd.R (Kd.int .i64) 2 wr w.heap.size (fun _ => True) (.slice Ao lst.length co) (la.foldl (Dl.add (Dl.s1 lb)) [])) := ⟨by have h_ := HO1.out; rw [HLST.out, List.take_length] at h_ ⊢; exact h_⟩
     have HLST2 : Aside0 (lst = la.foldl (Dl.add (Dl.s1 lb)) []) := ⟨by have h_ := HLST.out; rwa [List.take_length] at h_⟩
     clear HLST HO1 HLL
     go_wp2
     have HB := HB
     have HO := Aside0.mk (show Kd.R (Kd.int .i64) 2 _ w.heap.size (fun _ => True) _ ((lb.take 0).foldl (Dl.add (Dl.s2 la)) (la.foldl (Dl.add (Dl.s1 lb)) [])) from HOs.out)
     clear HOs
     go_loopg [10] lb.length (fun gg s_ wr => ∃ (kk : Nat) (u : Value), kk ≤ lb.length ∧ lb.length - kk ≤ gg ∧ s_ = .int .i64 kk ∧ Aside0 (Kd.R (Kd.int .i64) 2 wr w.heap.size (fun _ => True) u ((lb.take kk).foldl (Dl.add (Dl.s2 la)) (la.foldl (Dl.add (Dl.s1 lb)) []))) ∧ Aside0 (wr.heap[gO]? = some (.cells #[.int .i64 0, u] 76 (0, 0))) ∧ Aside0 (Below wS.heap.size wS wr))
     case atStart => exact ⟨0, _, Nat.zero_le _, by omega, rfl, HO, BO, HB⟩
     case round =>
      clear HO BO HB
      obtain ⟨kk, u, hkk, hg, rfl, HO, BO, HB⟩ := hrel
      obtain ⟨Ao, co, eo⟩ := Kd.R_slice HO.out
      subst eo
      have hll := Dl.fold_len (Dl.s2 la) (lb.take kk) (la.foldl (Dl.add (Dl.s1 lb)) [])
      rw [List.length_take] at hll
      obtain ⟨lst, hlst⟩ : ∃ l_, l_ = (lb.take kk).foldl (Dl.add (Dl.s2 la)) (la.foldl (Dl.add (Dl.s1 lb)) []) := ⟨_, rfl⟩
      rw [← hlst] at hll
      have HLST := Aside0.mk hlst
      have HO1 : Aside0 (Kd.R (Kd.int .i64) 2 wr w.heap.size (fun _ => True) (.slice Ao lst.length co) lst) := ⟨by rw [hlst]; exact HO.out⟩
      rw [← hlst] at BO
      clear HO hlst
      have HLL : Aside0 (lst.length ≤ 100) := ⟨by have := Dl.fold_len (Dl.s1 lb) la []; simp only [List.length_nil] at this; omega⟩
      clear hll
      have z1 := blk_cell (blk_below BGB.out HB.out) 1
      have z2 := blk_cell (blk_below BGA.out HB.out) 1
      by_cases hlt : kk < lb.length
      ·have hltz : (kk : Int) < (lb.length : Int) := by omega
       obtain ⟨ad, e1, hx_0, hx_1, hx_2, hx_3, hx_4⟩ := at_T36 (Kd.C_below Hlb.out HB.out) (kk : Int) (by omega) hltz
       cases e1
       simp only [Int.toNat_natCast] at hx_0 hx_1 hx_2 hx_3 hx_4
       have HST1 := Aside0.mk (Dl.fold_step (Dl.s2 la) lb (la.foldl (Dl.add (Dl.s1 lb)) []) kk hlt)
       obtain ⟨x, hx⟩ : ∃ x_, x_ = rd_T36 lb (kk : Int) := ⟨_, rfl⟩
       rw [← hx] at hx_0 hx_1 hx_2 hx_3 hx_4 HST1
       clear hx
       have hcallB := spec_l5At.cf (w.heap.size) A1 c1 la A2 la2.length c2 va x.f0 wr (blk_below BGA.out HB.out) (Kd.C_below Hla.out HB.out)
       have hpl := Cf.place_lt la x.f0
       obtain ⟨pv, hpv⟩ : ∃ p_, p_ = Dl.s2 la x := ⟨_, rfl⟩
       have HPV := Aside0.mk hpv
       unfold Dl.s2 at hpv
       generalize Cf.place la x.f0 = pl at hcallB hpl hpv
       by_cases hp0 : pl < 0
       ·have hp1 : decide (pl < 0) = true := decide_eq_true hp0
        rw [hp1] at hpv
        subst hpv
        go_wp2_with (first
         | (go_at_call 64; refine hcallB.mono ?_; rintro e_ w5 ⟨rfl, hb3⟩; clear hcallB; have HB3 := Aside0.mk (Cf.up HB.out hb3); have HB_3 := Aside0.mk hb3; clear hb3))
        have hbw : Below wr.heap.size wr w5 := HB_3.out
        have HOq := Aside0.mk (Kd.R_below HO1.out hbw)
        have BOq := Aside0.mk (blk_below BO.out hbw)
        have HBq := Aside0.mk (Cf.up HB.out hbw)
        have hxq := pw_cell_below hbw hx_0
        clear hbw
        generalize w5 = wq at HOq BOq HBq hxq ⊢
        have q1 := blk_cell (blk_below BGB.out HBq.out) 1
        have hrise := fun (W : World) (hW : Below wq.heap.size wq W) => spec_l1Rise.cf Ao co lst x.f0 W (Kd.C_below (Kd.R_reads' HOq.out).2.2 hW) (Kd.R_reads' HOq.out).2.1 (by have := HLL.out; omega)
        have HSZ : Aside0 (w.heap.size ≤ wq.heap.size) := ⟨Nat.le_trans HSW.out HBq.out.size⟩
        have q0 := blk_cell BOq.out 1
        have q2 := hxq
        have HS_ : ∀ W, Below wq.heap.size wq W → (W.cell? ⟨gO, 1, none⟩ = some (.slice Ao lst.length co) ∧ W.cell? ⟨w.heap.size + 1, 1, none⟩ = some (.slice (some ad) lb.length d1) ∧ W.cell? (ad.add (kk * 5)) = some (.int .i64 x.f0)) := fun W hW => ⟨pw_cell_below hW q0, pw_cell_below hW q1, pw_cell_below hW q2⟩
        have hd : Below wq.heap.size wq wq.drew := below_drew1 (Below.refl _ _)
        refine start_ (n := 11) (S := fun w' => w'.cell? ⟨gO, 1, none⟩ = some (.slice Ao lst.length co) ∧ w'.cell? ⟨w.heap.size + 1, 1, none⟩ = some (.slice (some ad) lb.length d1) ∧ w'.cell? (ad.add (kk * 5)) = some (.int .i64 x.f0)) (ds := [10]) (Mk 11 0) (by kernel_rfl) rfl rfl (HS_ _ hd) (fun hHeld => ?_)
        generalize wq.drew = wd at hd hHeld ⊢
        refine take_ (i := 0) (N := some 76) (v := ?_) (a' := ?_) (Mk 11 1) rfl rfl (by kernel_rfl) (fun _ _ _ h => h) (Or.inl ⟨by rfl, ?_⟩) hHeld ?_ ?_
        rotate_left
        ·rintro w' ⟨s0, s1, s2⟩
         go_simp
         with_reducible rfl
        rotate_left
        ·simp only [Act.put, List.setIfInBounds_toArray, List.set_cons_zero, List.set_cons_succ, i64_w, i32_w]
         rfl
        refine take_ (i := 1) (N := some 77) (v := ?_) (a' := ?_) (Mk 11 3) rfl rfl (by kernel_rfl) (fun _ _ _ h => h) (Or.inl ⟨by rfl, ?_⟩) hHeld ?_ ?_
        rotate_left
        ·rintro w' ⟨s0, s1, s2⟩
         go_simp
         with_reducible rfl
        rotate_left
        ·simp only [Act.put, List.setIfInBounds_toArray, List.set_cons_zero, List.set_cons_succ, i64_w, i32_w]
         rfl
        refine take_ (i := 2) (N := some 78) (v := ?_) (a' := ?_) (Mk 11 7) rfl rfl (by kernel_rfl) (fun _ _ _ h => h) (Or.inl ⟨by rfl, ?_⟩) hHeld ?_ ?_
        rotate_left
        ·rintro w' ⟨s0, s1, s2⟩
         go_simp
         with_reducible rfl
        rotate_left
        ·simp only [Act.put, List.setIfInBounds_toArray, List.set_cons_zero, List.set_cons_succ, i64_w, i32_w]
         rfl
        refine take_ (i := 3) (N := some 79) (v := ?_) (a' := ?_) (Mk 11 15) rfl rfl (by kernel_rfl) (fun _ _ _ h => h) (Or.inl ⟨by rfl, ?_⟩) hHeld ?_ ?_
        rotate_left
        ·rintro w' ⟨s0, s1, s2⟩
         go_simp
         with_reducible rfl
        rotate_left
        ·simp only [Act.put, List.setIfInBounds_toArray, List.set_cons_zero, List.set_cons_succ, i64_w, i32_w]
         rfl
        refine take_ (i := 4) (N := some 80) (v := ?_) (a' := ?_) (Mk 11 31) rfl rfl (by kernel_rfl) (fun _ _ _ h => h) (Or.inl ⟨by rfl, ?_⟩) hHeld ?_ ?_
        rotate_left
        ·rintro w' ⟨s0, s1, s2⟩
         go_simp
         with_reducible rfl
        rotate_left
        ·simp only [Act.put, List.setIfInBounds_toArray, List.set_cons_zero, List.set_cons_succ, i64_w, i32_w]
         rfl
        refine take_ (i := 5) (N := some 81) (v := ?_) (a' := ?_) (Mk 11 63) rfl rfl (by kernel_rfl) (fun _ _ _ h => h) (Or.inl ⟨by rfl, ?_⟩) hHeld ?_ ?_
        rotate_left
        ·rintro w' ⟨s0, s1, s2⟩
         go_simp
         with_reducible rfl
        rotate_left
        ·simp only [Act.put, List.setIfInBounds_toArray, List.set_cons_zero, List.set_cons_succ, i64_w, i32_w]
         rfl
        refine take_ (i := 6) (N := some 82) (v := ?_) (a' := ?_) (Mk 11 127) rfl rfl (by kernel_rfl) (fun _ _ _ h => h) (Or.inl ⟨by rfl, ?_⟩) hHeld ?_ ?_
        rotate_left
        ·rintro w' ⟨s0, s1, s2⟩
         go_simp
         with_reducible rfl
        rotate_left
        ·simp only [Act.put, List.setIfInBounds_toArray, List.set_cons_zero, List.set_cons_succ, i64_w, i32_w]
         rfl
        refine take_ (i := 7) (N := some 83) (v := ?_) (a' := ?_) (Mk 11 255) rfl rfl (by kernel_rfl) (fun _ _ _ h => h) (Or.inl ⟨by rfl, ?_⟩) hHeld ?_ ?_
        rotate_left
        ·rintro w' ⟨s0, s1, s2⟩
         go_simp
         with_reducible rfl
        rotate_left
        ·simp only [Act.put, List.setIfInBounds_toArray, List.set_cons_zero, List.set_cons_succ, i64_w, i32_w]
         rfl
        refine one_ (i := 8) (N := some 84) (Mk 11 511) rfl rfl (by kernel_rfl) (by decide) (fun K hK => ?_)
        refine goes_ Try.func90 (by kernel_rfl) rfl #[.slice Ao lst.length co, .int .i64 x.f0] (by rfl) rfl rfl (by (try simp only [List.map_toArray, List.map_cons, List.map_nil]); first | done | rfl) ?_
        refine (hrise _ hd).mono ?_
        rintro e wc ⟨u, rfl, hu, hbc⟩
        have hRc := Dl.rise_own (Kd.R_below HOq.out hd) hbc (Nat.le_trans HSZ.out hd.size) hu
        replace hd := Cf.up hd hbc
        clear hu hbc
        obtain ⟨Au, cu, eu⟩ := Kd.R_slice hRc
        subst eu
        refine ⟨_, rfl, ?_⟩
        refine hK.out _ _ (HS_ _ hd) (fun hHeld => ?_)
        clear hK K
        refine norm_ (a' := ?_) ?_ ?_
        rotate_left
        ·show Act.put _ (some 84) _ = _
         simp only [Act.put, List.setIfInBounds_toArray, List.set_cons_zero, List.set_cons_succ, i64_w, i32_w]
         rfl
        refine take_ (i := 9) (N := some 85) (v := ?_) (a' := ?_) (Mk 11 1023) rfl rfl (by kernel_rfl) (fun _ _ _ h => h) (Or.inl ⟨by rfl, ?_⟩) hHeld ?_ ?_
        rotate_left
        ·rintro w' ⟨s0, s1, s2⟩
         go_simp
         with_reducible rfl
        rotate_left
        ·simp only [Act.put, List.setIfInBounds_toArray, List.set_cons_zero, List.set_cons_succ, i64_w, i32_w]
         rfl
        have hbx := blk_below BOq.out hd
        have y1 := blk_cell hbx 1
        have f1 := blk_frozen hbx 1
        refine last_ (i := 10) (N := none) (Mk 11 2047) rfl rfl (by kernel_rfl) (by decide) (fun K hK => ?_)
        refine skip_ (w1 := ?_) (by rfl) rfl ?_ ?_
        rotate_left
        ·go_simp
         rfl
        refine hK.out _ _ ?_
        clear hK K
        refine done_ (by kernel_rfl) ?_
        go_wp2
        go_roundg (lb.length - (kk + 1))
        case measure => omega
        case rel =>
         refine ⟨kk + 1, _, by omega, by omega, by go_num, ⟨?_⟩, ⟨Dl.put1 hbx _⟩, ⟨?_⟩⟩
         ·rw [HST1.out, ← HLST.out]
          unfold Dl.add
          rw [← HPV.out, if_pos rfl]
          exact Kd.R_set hRc hbx (by decide) 1 _
         ·refine below_set ?_ HGO.out
          exact Cf.up HBq.out hd
       ·have hp1 : decide (pl < 0) = false := decide_eq_false hp0
        rw [hp1] at hpv
        subst hpv
        go_wp2_with (first
         | (go_at_call 64; refine hcallB.mono ?_; rintro e_ w5 ⟨rfl, hb3⟩; clear hcallB; have HB3 := Aside0.mk (Cf.up HB.out hb3); have HB_3 := Aside0.mk hb3; clear hb3))
        have hbw : Below wr.heap.size wr w5 := HB_3.out
        have HOq := Aside0.mk (Kd.R_below HO1.out hbw)
        have BOq := Aside0.mk (blk_below BO.out hbw)
        have HBq := Aside0.mk (Cf.up HB.out hbw)
        have hxq := pw_cell_below hbw hx_0
        clear hbw
        generalize w5 = wq at HOq BOq HBq hxq ⊢
        go_roundg (lb.length - (kk + 1))
        case measure => omega
        case rel =>
         refine ⟨kk + 1, _, by omega, by omega, by go_num, ⟨?_⟩, BOq, HBq⟩
         rw [HST1.out, ← HLST.out]
         unfold Dl.add
         rw [← HPV.out, if_neg (by simp)]
         exact HOq.out
      ·have hltz : ¬ (kk : Int) < (lb.length : Int) := by omega
       have : kk = lb.length := by omega
       subst this
       have HOs : Aside0 (Kd.R (Kd.int .i64) 2 wr w.heap.size (fun _ => True) (.slice Ao lst.length co) (lb.foldl (Dl.add (Dl.s2 la)) (la.foldl (Dl.add (Dl.s1 lb)) []))) := ⟨by have h_ := HO1.out; rw [HLST.out, List.take_length] at h_ ⊢; exact h_⟩
       have HLST2 : Aside0 (lst = lb.foldl (Dl.add (Dl.s2 la)) (la.foldl (Dl.add (Dl.s1 lb)) [])) := ⟨by have h_ := HLST.out; rwa [List.take_length] at h_⟩
       clear HLST HO1 HLL
       have bk := blk_below BKR.out HB.out
       have y0 := blk_cell BO.out 0
       have y1 := blk_cell BO.out 1
       have z0 := blk_cell bk 0
       have z1 := blk_cell bk 1
       have f0 := blk_frozen bk 0
       have f1 := blk_frozen bk 1
       go_wp2
       refine bodyPost_ret (results_cell_row rfl _ _ (w.heap.size + 1 + 1) 76 #[.int .i64 0, .slice Ao lst.length co] (0, 0) _ rfl (by exact Dl.put2 bk _ _) Try.underlying76 rfl (by kernel_rfl)) rfl ?_
       refine ⟨.slice Ao lst.length co, by rw [HRC.out], ?_, ?_⟩
       ·rw [HRV.out]
        exact Dl.R_put2 HOs.out bk _ _
       ·have := HSZ1.out
        repeat (refine below_set ?_ (by show _ ≤ w.heap.size + 1 + 1; omega))
        exact Cf.up HBS.out HB.out
  ·have hp1 : (q2 != 0) = true := bne_iff_ne.mpr hp0
   rw [if_pos (by rw [hrc]; exact hp0)] at hrv
   clear hcl2
   have HRC := Aside0.mk hrc
   have HRV := Aside0.mk hrv
   clear hrc hrv
   go_wp2_with (first
    | (go_at_call 50; refine hcallF.mono ?_; rintro e_ w2 ⟨rfl, hb2⟩; rw [← hw1] at hb2; clear hcallF)
    | (go_at_call 50; refine (hcallG _ hb2).mono ?_; rintro e_ wS ⟨rfl, hb3⟩; replace hb2 := Cf.up hb2 hb3; clear hb3 hcallG; have bk4 := blk_below bk1 hb2; have y0 := blk_cell bk4 0; have f0 := blk_frozen bk4 0; have y1 := blk_cell bk4 1; have f1 := blk_frozen bk4 1))
   refine bodyPost_ret (results_cell_row rfl _ _ (w.heap.size + 1 + 1) 76 #[.int .i64 q2, .slice none 0 0] (0, 0) _ rfl (by exact Dl.put2 bk4 _ _) Try.underlying76 rfl (by kernel_rfl)) rfl ?_
   refine ⟨.slice none 0 0, by rw [HRC.out], ?_, ?_⟩
   ·rw [HRV.out]; exact Dl.R_put2 (Kd.R_nil _ _ _ _ _) bk4 _ _
   ·have := hb2.size
    repeat (refine below_set ?_ (by show _ ≤ w.heap.size + 1 + 1; omega))
    exact Cf.up hB1 hb2
 ·have hq1 : (q != 0) = true := bne_iff_ne.mpr hq0
  rw [if_pos hq0] at hrc
  rw [if_pos (by rw [hrc]; exact hq0)] at hrv
  clear hcl1 hcl2
  have HRC := Aside0.mk hrc
  have HRV := Aside0.mk hrv
  clear hrc hrv
  go_wp2_with (first
   | (go_at_call 50; refine hcallF.mono ?_; rintro e_ w2 ⟨rfl, hb2⟩; rw [← hw1] at hb2; clear hcallF; have bk4 := blk_below bk1 hb2; have y0 := blk_cell bk4 0; have f0 := blk_frozen bk4 0; have y1 := blk_cell bk4 1; have f1 := blk_frozen bk4 1))
  refine bodyPost_ret (results_cell_row rfl _ _ (w.heap.size + 1 + 1) 76 #[.int .i64 q, .slice none 0 0] (0, 0) _ rfl (by exact Dl.put2 bk4 _ _) Try.underlying76 rfl (by kernel_rfl)) rfl ?_
  refine ⟨.slice none 0 0, by rw [HRC.out], ?_, ?_⟩
  ·rw [HRV.out]; exact Dl.R_put2 (Kd.R_nil _ _ _ _ _) bk4 _ _
  ·have := hb2.size
   repeat (refine below_set ?_ (by show _ ≤ w.heap.size + 1 + 1; omega))
   exact Cf.up hB1 hb2
def spec_DeltaOf.f (a0_0 : Int) (l0_1 : List (S36)) (l0_2 : List (S64)) (a1_0 : Int) (l1_1 : List (S36)) (l1_2 : List (S64)) : Option (Int × List Int) := some (Dl.dcd a0_0 l0_1 l0_2 a1_0 l1_1 l1_2, Dl.dsp a0_0 l0_1 l0_2 a1_0 l1_1 l1_2)
theorem spec_DeltaOf.calls (a0_0 : Int) (A0_1 : Option Addr) (c0_1 : Nat) (l0_1 : List (S36)) (A0_2 : Option Addr) (c0_2 : Nat) (l0_2 : List (S64)) (a1_0 : Int) (A1_1 : Option Addr) (c1_1 : Nat) (l1_1 : List (S36)) (A1_2 : Option Addr) (c1_2 : Nat) (l1_2 : List (S64)) (r1 : Int) (r2 : List Int) (w : World) (hr0_1 : Kd.C k36 w A0_1 l0_1.length l0_1) (hc0_1 : l0_1.length ≤ c0_1) (hr0_2 : Kd.C k64 w A0_2 l0_2.length l0_2) (hc0_2 : l0_2.length ≤ c0_2) (hr1_1 : Kd.C k36 w A1_1 l1_1.length l1_1) (hc1_1 : l1_1.length ≤ c1_1) (hr1_2 : Kd.C k64 w A1_2 l1_2.length l1_2) (hc1_2 : l1_2.length ≤ c1_2) (h : spec_DeltaOf.f a0_0 l0_1 l0_2 a1_0 l1_1 l1_2 = some (r1, r2)) :
  Calls Try.prog 41 #[.agg #[.int .i64 a0_0, .slice A0_1 l0_1.length c0_1, .slice A0_2 l0_2.length c0_2], .agg #[.int .i64 a1_0, .slice A1_1 l1_1.length c1_1, .slice A1_2 l1_2.length c1_2]] w fun e w' => ∃ v1_ : Value, e = .returned (.agg #[.int .i64 r1, v1_]) ∧ Kd.R (Kd.int .i64) 2 w' w.heap.size (fun _ => True) v1_ r2 ∧ Below w.heap.size w w' := by
 unfold spec_DeltaOf.f at h
 cases h
 exact spec_DeltaOf.cf A0_1 c0_1 l0_1 A0_2 c0_2 l0_2 a0_0 A1_1 c1_1 l1_1 A1_2 c1_2 l1_2 a1_0 w hr0_1 hr0_2 hr1_1 hr1_2

theorem Cf.l1in (a lo hi : Int) (w : World) : Calls Try.prog 70 #[.int .i64 a, .int .i64 lo, .int .i64 hi] w fun e w' => e = .returned (.bool (Cf.inB a lo hi)) ∧ Below w.heap.size w w' := (spec_l1In.calls a lo hi _ w (Cf.l1In_is a lo hi)).mono (fun _ _ h => ⟨h.1, h.2.below⟩)
end Go.Proofs.Ytfmlhpoaipeoeaa.QFnDeltas
