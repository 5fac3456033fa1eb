-- MADE BY PROGRAM (wip/dr/assemble2.py) out of walks by hand. Lean checks it.
import Derived.Test.YtfmlhpoaipeoeaaQFnDeltasya
import Derived.Laws.StructEq
import Derived.Test.YtfmlhpoaipeoeaaIx
import Derived.StillTailTactics
namespace Go.Proofs.Ytfmlhpoaipeoeaa.QFnDeltas
open Go.RowKit Go.Proofs.YtfmlhpoaipeoeaaW.PrintWords Go.Proofs.YtfmlhpoaipeoeaaW.PrintLast Go.Proofs.YtfmlhpoaipeoeaaW.PrintMore
open Go.Proofs.YtfmlhpoaipeoeaaW.PrintWords renaming blk_drewN → bN, blk_drew → bd, blk_alloc → ba, blk_cell → bc, blk_frozen → bf, below_set → bs, pw_below_drewN → pN, below_drew1 → p1, below_alloc → pa, blk_below → bb, below_size → bz, below_step → bp, blk_lt → bl, blk_far → bq, add_block → ab
open Go.Proofs.YtfmlhpoaipeoeaaW.PrintWords.Kd renaming R_drewN → rN, R_drew → rd1, R_alloc → ra, R_far → rf, R_below → rb, R_new' → rn, R_lt → rl, R_elder' → re, R_lower → rw1, C_alloc → ca, C_drewN → cN, C_drew → cd1, S_alloc → sa, S_drewN → sN, S_drew → sd, S_far → sf, S_mono → sm, S_types → st, S_lt → sl
open Go.Proofs.YtfmlhpoaipeoeaaW.PrintWords.Aside0 renaming mk → am
open Go.Value renaming int → I, slice → J
open Go.IntKind renaming i64 → q
attribute [local go_sem] max2_int min2_int max_two min_two max_three min_three max_four min_four   -- for this text's walks alone
set_option linter.unusedVariables false
set_option linter.unusedSimpArgs false
theorem pu3b {W : World} {g t : Nat} {u0 u1 u2 v0 v1 v2 : Value} (h : W.heap[g]? = some (.cells #[u0, u1, u2] t (0, 0))) : (((W.setCell ⟨g, 0, none⟩ v0).setCell ⟨g, 1, none⟩ v1).setCell ⟨g, 2, none⟩ v2).heap[g]? = some (.cells #[v0, v1, v2] t (0, 0)) := by
  refine blk_put (cs := #[v0, v1, u2]) ?_ 2 _ rfl
  refine blk_put (cs := #[v0, u1, u2]) ?_ 1 _ rfl
  exact blk_put (cs := #[u0, u1, u2]) h 0 _ rfl
theorem pu4b {W : World} {g t : Nat} {u0 u1 u2 u3 v0 v1 v2 v3 : Value} (h : W.heap[g]? = some (.cells #[u0, u1, u2, u3] t (0, 0))) : ((((W.setCell ⟨g, 0, none⟩ v0).setCell ⟨g, 1, none⟩ v1).setCell ⟨g, 2, none⟩ v2).setCell ⟨g, 3, none⟩ v3).heap[g]? = some (.cells #[v0, v1, v2, v3] t (0, 0)) := by
  refine blk_put (cs := #[v0, v1, v2, u3]) ?_ 3 _ rfl
  refine blk_put (cs := #[v0, v1, u2, u3]) ?_ 2 _ rfl
  refine blk_put (cs := #[v0, u1, u2, u3]) ?_ 1 _ rfl
  exact blk_put (cs := #[u0, u1, u2, u3]) h 0 _ rfl
/-! ### laws_lwBig: function 30 -/
def laws_lwBig.f (l0 : List Int) : Option (Bool) := some (decide ((l0.length : Int) > 1048576))
set_option maxHeartbeats 8000000 in
set_option maxRecDepth 100000 in
theorem laws_lwBig.calls (A0 : Option Addr) (c0 : Nat) (l0 : List Int) (r : Bool) (w : World) (hr0 : Kd.C (Kd.int .u8) w A0 l0.length l0) (hc0 : l0.length ≤ c0) (h : laws_lwBig.f l0 = some r) :
  Calls Try.prog 30 #[J A0 l0.length c0] w fun e w' => e = .returned (.bool r) ∧ Drawn0 w w' := by
 have HR0 := am hr0
 have HC0 := am hc0
 clear hr0 hc0
 have H : (some (decide ((l0.length : Int) > 1048576))) = some r := h
 clear h
 obtain rfl := Option.some.inj H
 go_enter Try.func30, Try.ntmps30
 go_wp2
 go_ret
 exact ⟨by first | rfl | (simp; done) | (simp [*]; done), by repeat (first | exact Drawn0.refl _ | apply Drawn0.step)⟩

/-! ### laws_lwHas: function 32 -/
def laws_lwHas.l0 : Nat → List Int → Int → Int → Option (Bool)
 | 0, _, _, _ => none
 | k + 1, x0, x1, x5 => if x5 < (x0.length : Int) then (if 0 ≤ x5 then (if (rd x0 x5) = x1 then (some true) else (laws_lwHas.l0 k x0 x1 (wrap64 (x5 + 1)))) else (none)) else (some false)
def laws_lwHas.f (k : Nat) (l0 : List Int) (a1 : Int) : Option (Bool) := laws_lwHas.l0 k l0 a1 0
theorem laws_lwHas.mono_l : ∀ k, (∀ y0 y1 y2, LeO (laws_lwHas.l0 k y0 y1 y2) (laws_lwHas.l0 (k + 1) y0 y1 y2))
 | 0 => fun _ _ _ r h => by simp [laws_lwHas.l0] at h
 | k + 1 => by
  have ih0 := laws_lwHas.mono_l k
  ·intro y0 y1 y2
   unfold laws_lwHas.l0
   repeat' first
   | (with_reducible exact ih0 _ _ _)
   | (with_reducible exact LeO.refl _)
   | (with_reducible exact LeO.none _)
   | (with_reducible refine LeO.ite ?_ ?_)
   | (with_reducible refine LeO.bind ?_ (fun _ => ?_))
   | exact ih0 _ _ _
   | exact LeO.none _
   | refine LeO.ite ?_ ?_
   | refine LeO.bind ?_ (fun _ => ?_)
theorem laws_lwHas.mono : ∀ a0 a1 k, LeO (laws_lwHas.f k a0 a1) (laws_lwHas.f (k + 1) a0 a1) := by
 intro a0 a1 k
 have ih0 := laws_lwHas.mono_l k
 unfold laws_lwHas.f
 repeat' first
   | (with_reducible exact ih0 _ _ _)
   | (with_reducible exact LeO.refl _)
   | (with_reducible exact LeO.none _)
   | (with_reducible refine LeO.ite ?_ ?_)
   | (with_reducible refine LeO.bind ?_ (fun _ => ?_))
   | exact ih0 _ _ _
   | exact LeO.none _
   | refine LeO.ite ?_ ?_
   | refine LeO.bind ?_ (fun _ => ?_)
set_option maxHeartbeats 8000000 in
set_option maxRecDepth 100000 in
theorem laws_lwHas.calls (k : Nat) (A0 : Option Addr) (c0 : Nat) (l0 : List Int) (a1 : Int) (r : Bool) (w : World) (hr0 : Kd.C (Kd.int .i64) w A0 l0.length l0) (hc0 : l0.length ≤ c0) (h : laws_lwHas.f k l0 a1 = some r) :
  Calls Try.prog 32 #[J A0 l0.length c0, I q a1] w fun e w' => e = .returned (.bool r) ∧ Drawn0 w w' := by
 have HR0 := am hr0
 have HC0 := am hc0
 clear hr0 hc0
 have H : (laws_lwHas.l0 k l0 a1 0) = some r := h
 clear h
 have H' := am H
 clear H
 go_enter Try.func32, Try.ntmps32
 go_wp2
 go_loopg [5] k (fun kq v5 w' => ∃ (x5_1 : Int), v5 = I q x5_1 ∧ Aside0 (laws_lwHas.l0 kq l0 a1 x5_1 = some r) ∧ Aside0 (kq ≤ k) ∧ Drawn0 w w')
 case atStart => exact ⟨(0), (by first | rfl | (simp; done) | (simp [*]; done)), H', ⟨Nat.le_refl _⟩, by repeat (first | exact Drawn0.refl _ | apply Drawn0.step)⟩
 case round =>
  clear H'
  try clear p2
  obtain ⟨x5_1, rfl, HA, HK1, ⟨m1, rfl⟩⟩ := hrel
  cases gk with
  | zero => exact absurd HA.out (by simp [laws_lwHas.l0])
  | succ k1 =>
   have H := HA.out
   clear HA
   simp only [laws_lwHas.l0] at H
   by_cases c3 : x5_1 < (l0.length : Int)
   ·rw [if_pos c3] at H
    have c3b0 : decide (x5_1 < (l0.length : Int)) = true := decide_eq_true c3
    clear c3
    by_cases c4 : 0 ≤ x5_1
    ·rw [if_pos c4] at H
     have c4b0 : decide (0 ≤ x5_1) = true := decide_eq_true c4
     clear c4
     by_cases c5 : (rd l0 x5_1) = a1
     ·rw [if_pos c5] at H
      have c5b0 : ((rd l0 x5_1) == a1) = true := beq_iff_eq.mpr c5
      have c5b1 : ((rd l0 x5_1) != a1) = false := bne_eq_false_iff_eq.mpr c5
      clear c5
      obtain rfl := Option.some.inj H
      have p136 : 0 ≤ (x5_1 : Int) := of_decide_eq_true (by first | (with_reducible assumption) | assumption)
      have q136 : x5_1 < (l0.length : Int) := of_decide_eq_true (by first | (with_reducible assumption) | assumption)
      obtain ⟨ad136, e136, hx136_0⟩ := Kd.at_int HR0.out x5_1 p136 q136
      cases e136
      replace p136 := eq_true p136
      replace q136 := eq_true q136
      go_wp2
      go_ret
      exact ⟨by first | rfl | (simp; done) | (simp [*]; done), by repeat (first | exact Drawn0.refl _ | apply Drawn0.step)⟩
     ·rw [if_neg c5] at H
      have c5b0 : ((rd l0 x5_1) == a1) = false := beq_eq_false_iff_ne.mpr c5
      have c5b1 : ((rd l0 x5_1) != a1) = true := bne_iff_ne.mpr c5
      have H' := am H
      clear H
      have p136 : 0 ≤ (x5_1 : Int) := of_decide_eq_true (by first | (with_reducible assumption) | assumption)
      have q136 : x5_1 < (l0.length : Int) := of_decide_eq_true (by first | (with_reducible assumption) | assumption)
      obtain ⟨ad136, e136, hx136_0⟩ := Kd.at_int HR0.out x5_1 p136 q136
      cases e136
      replace p136 := eq_true p136
      replace q136 := eq_true q136
      go_wp2
      go_roundg k1
      case measure => have := HK1.out; omega
      case rel => exact ⟨(wrap64 (x5_1 + 1)), (by first | rfl | (simp; done) | (simp [*]; done)), H', ⟨by have := HK1.out; omega⟩, by repeat (first | exact Drawn0.refl _ | apply Drawn0.step)⟩
    ·rw [if_neg c4] at H
     exact absurd H (by simp)
   ·rw [if_neg c3] at H
    have c3b0 : decide (x5_1 < (l0.length : Int)) = false := decide_eq_false c3
    clear c3
    obtain rfl := Option.some.inj H
    go_wp2
    go_ret
    exact ⟨by first | rfl | (simp; done) | (simp [*]; done), by repeat (first | exact Drawn0.refl _ | apply Drawn0.step)⟩

/-! ### laws_lwNums: function 47 -/
def laws_lwNums.l0 : Nat → List Int → List Int → Int → Option (Bool)
 | 0, _, _, _ => none
 | k + 1, x0, x1, x5 => if x5 < (x0.length : Int) then (if 0 ≤ x5 then (if x5 < (x1.length : Int) then (if (rd x0 x5) = (rd x1 x5) then (laws_lwNums.l0 k x0 x1 (wrap64 (x5 + 1))) else (some false)) else (none)) else (none)) else (some true)
def laws_lwNums.f (k : Nat) (l0 : List Int) (l1 : List Int) : Option (Bool) := if (l0.length : Int) = (l1.length : Int) then (laws_lwNums.l0 k l0 l1 0) else (some false)
theorem laws_lwNums.mono_l : ∀ k, (∀ y0 y1 y2, LeO (laws_lwNums.l0 k y0 y1 y2) (laws_lwNums.l0 (k + 1) y0 y1 y2))
 | 0 => fun _ _ _ r h => by simp [laws_lwNums.l0] at h
 | k + 1 => by
  have ih0 := laws_lwNums.mono_l k
  ·intro y0 y1 y2
   unfold laws_lwNums.l0
   repeat' first
   | (with_reducible exact ih0 _ _ _)
   | (with_reducible exact LeO.refl _)
   | (with_reducible exact LeO.none _)
   | (with_reducible refine LeO.ite ?_ ?_)
   | (with_reducible refine LeO.bind ?_ (fun _ => ?_))
   | exact ih0 _ _ _
   | exact LeO.none _
   | refine LeO.ite ?_ ?_
   | refine LeO.bind ?_ (fun _ => ?_)
theorem laws_lwNums.mono : ∀ a0 a1 k, LeO (laws_lwNums.f k a0 a1) (laws_lwNums.f (k + 1) a0 a1) := by
 intro a0 a1 k
 have ih0 := laws_lwNums.mono_l k
 unfold laws_lwNums.f
 repeat' first
   | (with_reducible exact ih0 _ _ _)
   | (with_reducible exact LeO.refl _)
   | (with_reducible exact LeO.none _)
   | (with_reducible refine LeO.ite ?_ ?_)
   | (with_reducible refine LeO.bind ?_ (fun _ => ?_))
   | exact ih0 _ _ _
   | exact LeO.none _
   | refine LeO.ite ?_ ?_
   | refine LeO.bind ?_ (fun _ => ?_)
set_option maxHeartbeats 8000000 in
set_option maxRecDepth 100000 in
theorem laws_lwNums.calls (k : Nat) (A0 : Option Addr) (c0 : Nat) (l0 : List Int) (A1 : Option Addr) (c1 : Nat) (l1 : List Int) (r : Bool) (w : World) (hr0 : Kd.C (Kd.int .i64) w A0 l0.length l0) (hc0 : l0.length ≤ c0) (hr1 : Kd.C (Kd.int .i64) w A1 l1.length l1) (hc1 : l1.length ≤ c1) (h : laws_lwNums.f k l0 l1 = some r) :
  Calls Try.prog 47 #[J A0 l0.length c0, J A1 l1.length c1] w fun e w' => e = .returned (.bool r) ∧ Drawn0 w w' := by
 have HR0 := am hr0
 have HC0 := am hc0
 clear hr0 hc0
 have HR1 := am hr1
 have HC1 := am hc1
 clear hr1 hc1
 have H : (if (l0.length : Int) = (l1.length : Int) then (laws_lwNums.l0 k l0 l1 0) else (some false)) = some r := h
 clear h
 by_cases c3 : (l0.length : Int) = (l1.length : Int)
 ·rw [if_pos c3] at H
  have c3b0 : ((l0.length : Int) == (l1.length : Int)) = true := beq_iff_eq.mpr c3
  have c3b1 : ((l0.length : Int) != (l1.length : Int)) = false := bne_eq_false_iff_eq.mpr c3
  have c3b2 : (l0.length == l1.length) = true := by first | simpa using c3 | (simp at c3 ⊢; omega)
  clear c3
  have H' := am H
  clear H
  go_enter Try.func47, Try.ntmps47
  go_wp2
  repeat (go_quiet (fail); try go_wp2)
  go_loopg [5] k (fun kq v5 w' => ∃ (x5_1 : Int), v5 = I q x5_1 ∧ Aside0 (laws_lwNums.l0 kq l0 l1 x5_1 = some r) ∧ Aside0 (kq ≤ k) ∧ Drawn0 w w')
  case atStart => exact ⟨(0), (by first | rfl | (simp; done) | (simp [*]; done)), H', ⟨Nat.le_refl _⟩, by repeat (first | exact Drawn0.refl _ | apply Drawn0.step)⟩
  case round =>
   clear H'
   try clear c1
   try clear p2
   try clear c3
   try clear c3b0
   try clear c3b1
   try clear c3b2
   obtain ⟨x5_1, rfl, HA, HK1, ⟨m1, rfl⟩⟩ := hrel
   cases gk with
   | zero => exact absurd HA.out (by simp [laws_lwNums.l0])
   | succ k1 =>
    have H := HA.out
    clear HA
    simp only [laws_lwNums.l0] at H
    by_cases c4 : x5_1 < (l0.length : Int)
    ·rw [if_pos c4] at H
     have c4b0 : decide (x5_1 < (l0.length : Int)) = true := decide_eq_true c4
     clear c4
     by_cases c5 : 0 ≤ x5_1
     ·rw [if_pos c5] at H
      have c5b0 : decide (0 ≤ x5_1) = true := decide_eq_true c5
      clear c5
      by_cases c6 : x5_1 < (l1.length : Int)
      ·rw [if_pos c6] at H
       have c6b0 : decide (x5_1 < (l1.length : Int)) = true := decide_eq_true c6
       clear c6
       by_cases c7 : (rd l0 x5_1) = (rd l1 x5_1)
       ·rw [if_pos c7] at H
        have c7b0 : ((rd l0 x5_1) == (rd l1 x5_1)) = true := beq_iff_eq.mpr c7
        have c7b1 : ((rd l0 x5_1) != (rd l1 x5_1)) = false := bne_eq_false_iff_eq.mpr c7
        clear c7
        have H' := am H
        clear H
        have p527 : 0 ≤ (x5_1 : Int) := of_decide_eq_true (by first | (with_reducible assumption) | assumption)
        have q527 : x5_1 < (l0.length : Int) := of_decide_eq_true (by first | (with_reducible assumption) | assumption)
        obtain ⟨ad527, e527, hx527_0⟩ := Kd.at_int HR0.out x5_1 p527 q527
        cases e527
        replace p527 := eq_true p527
        replace q527 := eq_true q527
        have p528 : 0 ≤ (x5_1 : Int) := of_decide_eq_true (by first | (with_reducible assumption) | assumption)
        have q528 : x5_1 < (l1.length : Int) := of_decide_eq_true (by first | (with_reducible assumption) | assumption)
        obtain ⟨ad528, e528, hx528_0⟩ := Kd.at_int HR1.out x5_1 p528 q528
        cases e528
        replace p528 := eq_true p528
        replace q528 := eq_true q528
        go_wp2
        repeat (go_quiet (fail); try go_wp2)
        go_roundg k1
        case measure => have := HK1.out; omega
        case rel => exact ⟨(wrap64 (x5_1 + 1)), (by first | rfl | (simp; done) | (simp [*]; done)), H', ⟨by have := HK1.out; omega⟩, by repeat (first | exact Drawn0.refl _ | apply Drawn0.step)⟩
       ·rw [if_neg c7] at H
        have c7b0 : ((rd l0 x5_1) == (rd l1 x5_1)) = false := beq_eq_false_iff_ne.mpr c7
        have c7b1 : ((rd l0 x5_1) != (rd l1 x5_1)) = true := bne_iff_ne.mpr c7
        obtain rfl := Option.some.inj H
        have p527 : 0 ≤ (x5_1 : Int) := of_decide_eq_true (by first | (with_reducible assumption) | assumption)
        have q527 : x5_1 < (l0.length : Int) := of_decide_eq_true (by first | (with_reducible assumption) | assumption)
        obtain ⟨ad527, e527, hx527_0⟩ := Kd.at_int HR0.out x5_1 p527 q527
        cases e527
        replace p527 := eq_true p527
        replace q527 := eq_true q527
        have p528 : 0 ≤ (x5_1 : Int) := of_decide_eq_true (by first | (with_reducible assumption) | assumption)
        have q528 : x5_1 < (l1.length : Int) := of_decide_eq_true (by first | (with_reducible assumption) | assumption)
        obtain ⟨ad528, e528, hx528_0⟩ := Kd.at_int HR1.out x5_1 p528 q528
        cases e528
        replace p528 := eq_true p528
        replace q528 := eq_true q528
        go_wp2
        repeat (go_quiet (fail); try go_wp2)
        go_ret
        exact ⟨by first | rfl | (simp; done) | (simp [*]; done), by repeat (first | exact Drawn0.refl _ | apply Drawn0.step)⟩
      ·rw [if_neg c6] at H
       exact absurd H (by simp)
     ·rw [if_neg c5] at H
      exact absurd H (by simp)
    ·rw [if_neg c4] at H
     have c4b0 : decide (x5_1 < (l0.length : Int)) = false := decide_eq_false c4
     clear c4
     obtain rfl := Option.some.inj H
     go_wp2
     repeat (go_quiet (fail); try go_wp2)
     go_ret
     exact ⟨by first | rfl | (simp; done) | (simp [*]; done), by repeat (first | exact Drawn0.refl _ | apply Drawn0.step)⟩
 ·rw [if_neg c3] at H
  have c3b0 : ((l0.length : Int) == (l1.length : Int)) = false := beq_eq_false_iff_ne.mpr c3
  have c3b1 : ((l0.length : Int) != (l1.length : Int)) = true := bne_iff_ne.mpr c3
  have c3b2 : (l0.length == l1.length) = false := by first | simpa using c3 | (simp at c3 ⊢; omega)
  obtain rfl := Option.some.inj H
  go_enter Try.func47, Try.ntmps47
  go_wp2
  repeat (go_quiet (fail); try go_wp2)
  go_ret
  exact ⟨by first | rfl | (simp; done) | (simp [*]; done), by repeat (first | exact Drawn0.refl _ | apply Drawn0.step)⟩

def IsS148 (w0 W : World) (g : Nat) (f0 : List Int) (f1 : Int) : Prop := ∃ A0 c0, W.heap[g]? = some (.cells #[J A0 f0.length c0, I q f1] 148 (0, 0)) ∧ w0.heap.size ≤ g ∧ Kd.C (Kd.int .u8) w0 A0 f0.length f0
theorem IsS148.grown {w0 W : World} {g : Nat} {f0 : List Int} {f1 : Int} {W1 : World} {row : Option Nat} (h : IsS148 w0 W g f0 f1) (hw : W.grownBy W1 row) (hne : some g ≠ row) : IsS148 w0 W1 g f0 f1 := by
 obtain ⟨A0, c0, hb, hg, hr0⟩ := h
 exact ⟨A0, c0, blk_grown hb hw hne, hg, hr0⟩
theorem IsS148.own_neN {w0 W : World} {g : Nat} {f0 : List Int} {f1 : Int} {α : Type} {d : Kd α} {e : Nat} {base : Nat} {ok : Nat → Prop} {v : Value} {xs : List α} (h : IsS148 w0 W g f0 f1) (ho : Kd.N d e W base ok v xs) (ht : e ≠ 148) : some g ≠ v.ownBlock := by
 obtain ⟨A0, c0, hb, hg, hr0⟩ := h
 exact Kd.N_ne ho hb ht
theorem IsS148.fresh {w0 W : World} {g : Nat} {f0 : List Int} {f1 : Int} (h : IsS148 w0 W g f0 f1) : ∀ k, W.heap.size ≤ k → k ≠ g := by
 obtain ⟨A0, c0, hb, hg, hr0⟩ := h
 exact Kd.freshB hb
theorem IsS148.kept {w0 W : World} {g : Nat} {f0 : List Int} {f1 : Int} {W1 : World} {S : Nat → Prop} (h : IsS148 w0 W g f0 f1) (hk : Kept W W1 S) (hne : ¬ S g) : IsS148 w0 W1 g f0 f1 := by
 obtain ⟨A0, c0, hb, hg, hr0⟩ := h
 exact ⟨A0, c0, blk_kept hb hk hne, hg, hr0⟩
theorem IsS148.below {w0 W : World} {g : Nat} {f0 : List Int} {f1 : Int} {W1 : World} (h : IsS148 w0 W g f0 f1) (hw : Below W.heap.size W W1) : IsS148 w0 W1 g f0 f1 := h.grown (grown_of_below hw none) (by simp)
theorem IsS148.alloc {w0 W : World} {g : Nat} {f0 : List Int} {f1 : Int} (h : IsS148 w0 W g f0 f1) (o : Obj) : IsS148 w0 (W.alloc o) g f0 f1 := h.below (pa (Below.refl _ _) o)
theorem IsS148.drewN {w0 W : World} {g : Nat} {f0 : List Int} {f1 : Int} (h : IsS148 w0 W g f0 f1) (m : Nat) : IsS148 w0 (W.drewN m) g f0 f1 := h
theorem IsS148.drew {w0 W : World} {g : Nat} {f0 : List Int} {f1 : Int} (h : IsS148 w0 W g f0 f1) : IsS148 w0 W.drew g f0 f1 := h
theorem IsS148.at_ {w0 W : World} {g : Nat} {f0 : List Int} {f1 : Int} {w' : World} {m : Nat} (hq : W.drewN m = w') (h : IsS148 w0 W g f0 f1) : IsS148 w0 w' g f0 f1 := by subst hq; exact IsS148.drewN h m
theorem IsS148.apart {w0 W : World} {g : Nat} {f0 : List Int} {f1 : Int} {α : Type} {d : Kd α} {e : Nat} {base : Nat} {ok : Nat → Prop} {v : Value} {xs : List α} (h : IsS148 w0 W g f0 f1) (ho : d.R e W base ok v xs) (ht : ∀ q, q ∈ e :: d.E → q ≠ 148) : d.R e W base (fun k => ok k ∧ k ≠ g) v xs := by
 obtain ⟨A0, c0, hb, hg, hr0⟩ := h
 exact Kd.R_types ho hb ht
theorem IsS148.own_ne {w0 W : World} {g : Nat} {f0 : List Int} {f1 : Int} {α : Type} {d : Kd α} {e : Nat} {base : Nat} {ok : Nat → Prop} {v : Value} {xs : List α} (h : IsS148 w0 W g f0 f1) (ho : d.R e W base ok v xs) (ht : e ≠ 148) : some g ≠ v.ownBlock := by
 obtain ⟨A0, c0, hb, hg, hr0⟩ := h
 exact Kd.R_ne ho hb ht
theorem IsS148.apartQ {w0 W : World} {g : Nat} {f0 : List Int} {f1 : Int} {α : Type} {d : Kd α} {e : Nat} {base : Nat} {ok : Nat → Prop} {v : Value} {xs : List α} (h : IsS148 w0 W g f0 f1) (ho : d.Q e W base ok v xs) (ht : ∀ q, q ∈ e :: d.E → q ≠ 148) : d.Q e W base (fun k => ok k ∧ k ≠ g) v xs := by
 obtain ⟨A0, c0, hb, hg, hr0⟩ := h
 exact Kd.Q_types ho hb ht
theorem IsS148.own_neQ {w0 W : World} {g : Nat} {f0 : List Int} {f1 : Int} {α : Type} {d : Kd α} {e : Nat} {base : Nat} {ok : Nat → Prop} {v : Value} {xs : List α} (h : IsS148 w0 W g f0 f1) (ho : d.Q e W base ok v xs) (ht : e ≠ 148) : some g ≠ v.ownBlock := by
 obtain ⟨A0, c0, hb, hg, hr0⟩ := h
 exact Kd.Q_ne ho hb ht
theorem IsS148.apartS {w0 W : World} {g : Nat} {f0 : List Int} {f1 : Int} {α : Type} {d : Kd α} {e : Nat} {base : Nat} {ok : Nat → Prop} {v : Value} {xs : List α} (h : IsS148 w0 W g f0 f1) (ho : d.S e W base ok v xs) (ht : ∀ q, q ∈ e :: d.E → q ≠ 148) : d.S e W base (fun k => ok k ∧ k ≠ g) v xs := by
 obtain ⟨A0, c0, hb, hg, hr0⟩ := h
 exact st ho hb ht
theorem IsS148.own_neS {w0 W : World} {g : Nat} {f0 : List Int} {f1 : Int} {α : Type} {d : Kd α} {e : Nat} {base : Nat} {ok : Nat → Prop} {v : Value} {xs : List α} (h : IsS148 w0 W g f0 f1) (ho : d.S e W base ok v xs) (ht : e ≠ 148) : some g ≠ v.ownBlock := by
 obtain ⟨A0, c0, hb, hg, hr0⟩ := h
 exact Kd.S_ne ho hb ht
theorem IsS148.lt {w0 W : World} {g : Nat} {f0 : List Int} {f1 : Int} (h : IsS148 w0 W g f0 f1) : g < W.heap.size := by
 obtain ⟨A0, c0, hb, hg, hr0⟩ := h
 exact bl hb
theorem IsS148.ge {w0 W : World} {g : Nat} {f0 : List Int} {f1 : Int} (h : IsS148 w0 W g f0 f1) : w0.heap.size ≤ g := by
 obtain ⟨A0, c0, hb, hg, hr0⟩ := h
 exact hg
theorem IsS148.ne_blk {w0 W : World} {g : Nat} {f0 : List Int} {f1 : Int} {a : Nat} {cs : Array Value} {t : TypeId} {fr : Nat × Nat} (h : IsS148 w0 W g f0 f1) (hb2 : W.heap[a]? = some (.cells cs t fr)) (ht : t ≠ 148) : g ≠ a := by
 obtain ⟨A0, c0, hb, hg, hr0⟩ := h
 rintro rfl
 rw [hb] at hb2
 injection hb2 with hb2
 injection hb2 with _ ht2
 exact ht ht2.symm
theorem IsS148.far {w0 W : World} {g : Nat} {f0 : List Int} {f1 : Int} {p : Addr} (h : IsS148 w0 W g f0 f1) (hne : g ≠ p.block) (u : Value) : IsS148 w0 (W.setCell p u) g f0 f1 := by
 obtain ⟨A0, c0, hb, hg, hr0⟩ := h
 exact ⟨A0, c0, bq hb hne u, hg, hr0⟩
theorem cellS148_0 {W : World} {g : Nat} {A0 : Option Addr} {c0 : Nat} {f0 : List Int} {f1 : Int} (h : W.heap[g]? = some (.cells #[J A0 f0.length c0, I q f1] 148 (0, 0))) : W.cell? ⟨g, 0, none⟩ = some (J A0 f0.length c0) := (bc h 0).trans rfl
theorem cellS148_1 {W : World} {g : Nat} {A0 : Option Addr} {c0 : Nat} {f0 : List Int} {f1 : Int} (h : W.heap[g]? = some (.cells #[J A0 f0.length c0, I q f1] 148 (0, 0))) : W.cell? ⟨g, 1, none⟩ = some (I q f1) := (bc h 1).trans rfl
theorem IsS148.set_1 {w0 W : World} {g : Nat} {f0 : List Int} {f1 : Int} (h : IsS148 w0 W g f0 f1) (x : Int) : IsS148 w0 (W.setCell ⟨g, 1, none⟩ (I q x)) g f0 x := by
 obtain ⟨A0, c0, hb, hg, hr0⟩ := h
 exact ⟨A0, c0, by simpa using blk_set hb 1 (I q x), hg, hr0⟩
theorem IsS148.new (w0 W : World) (A0 : Option Addr) (c0 : Nat) (f0 : List Int) (f1 : Int) (hB : Below w0.heap.size w0 W) (hr0 : Kd.C (Kd.int .u8) w0 A0 f0.length f0) : IsS148 w0 (W.alloc (.cells #[J A0 f0.length c0, I q f1] 148)) W.heap.size f0 f1 := ⟨A0, c0, by simpa using heap_alloc_new W _, hB.size, hr0⟩

/-! ### spec_l1Source: function 79 -/
def spec_l1Source.f (l0 : List Int) : Option (List Int × Int) := some (l0, 0)
set_option maxHeartbeats 8000000 in
set_option maxRecDepth 100000 in
theorem spec_l1Source.calls (A0 : Option Addr) (c0 : Nat) (l0 : List Int) (r1 : List Int) (r2 : Int) (w0 w : World) (hB : Below w0.heap.size w0 w) (hr0 : Kd.C (Kd.int .u8) w0 A0 l0.length l0) (hc0 : l0.length ≤ c0) (h : spec_l1Source.f l0 = some (r1, r2)) :
  Calls Try.prog 79 #[J A0 l0.length c0] w fun e w' => ∃ g_ : Nat, e = .returned (.pointer (some ⟨g_, 0, none⟩)) ∧ IsS148 w0 w' g_ r1 r2 ∧ Below w0.heap.size w0 w' ∧ Below w.heap.size w w' := by
 have hu148 := Try.underlying148
 have HR0 := am hr0
 have HC0 := am hc0
 clear hr0 hc0
 have HBW := am (Below.refl w.heap.size w)
 have HW0 := am hB.size
 have HB := am hB
 clear hB
 have H : (some (l0, 0)) = some (r1, r2) := h
 clear h
 simp only [Option.some.injEq, Prod.mk.injEq] at H
 obtain ⟨rfl, rfl⟩ := H
 go_enter Try.func79, Try.ntmps79
 go_wp2_with (first | ((with_reducible refine gate_dst (N := 5) rfl ?_); refine box_event ?hg (N := 5) ?hd (cs := #[J A0 l0.length c0, I q 0]) (t := 148) ?hr ?_; (case hd => rfl); (case hg => rfl); (case hr => first | (go_simp; done) | (go_simp; rfl)); intro g358 hg w2 hbox hb; have N0 := am (bp HBW.out hb); have N1 := am (bp (by repeat (first | (with_reducible first | exact HB.out | apply pa | apply pN | apply p1) | exact HB.out)) hb); have N2 := am (hbox); have N3 := am ((by rw [hg]; exact (bz (by repeat (first | (with_reducible first | exact HBW.out | apply pa | apply pN | apply p1) | exact HBW.out))) : w.heap.size ≤ g358)); have N4 := am ((Nat.le_trans HW0.out (by rw [hg]; exact (bz (by repeat (first | (with_reducible first | exact HBW.out | apply pa | apply pN | apply p1) | exact HBW.out))) : w.heap.size ≤ g358) : w0.heap.size ≤ g358)); clear HBW HB; have HBW := N0; have HB := N1; have B358 := N2; have GW358 := N3; have E358 := N4; clear N0 N1 N2 N3 N4 hb hbox hg))
 go_ret
 exact ⟨_, rfl, (show IsS148 w0 _ g358 l0 0 from ⟨_, _, by (with_reducible repeat (first | apply bN | apply bd | apply ba)); exact B358.out, E358.out, HR0.out⟩), by repeat (first | (with_reducible first | exact HB.out | apply pa | apply pN | apply p1 | refine bs ?_ E358.out) | exact HB.out), by repeat (first | (with_reducible first | exact HBW.out | apply pa | apply pN | apply p1 | refine bs ?_ GW358.out) | exact HBW.out)⟩

/-! ### spec_l1Next: function 120 -/
def spec_l1Next.f (s0_0 : List Int) (s0_1 : Int) (a1 : Int) : Option (Int × Int) := if a1 < 1 then (some (0, wrap64 (s0_1 + 1))) else (if (s0_0.length : Int) = 0 then (if a1 = 0 then (none) else (some (Int.tmod (wrap64 ((wrap64 ((wrap64 (s0_1 + 1)) - 1)) * 7)) a1, wrap64 (s0_1 + 1)))) else (if 0 ≤ (Int.tmod (wrap64 ((wrap64 (s0_1 + 1)) - 1)) (s0_0.length : Int)) then (if (Int.tmod (wrap64 ((wrap64 (s0_1 + 1)) - 1)) (s0_0.length : Int)) < (s0_0.length : Int) then (if a1 > 200 then (if 0 ≤ (Int.tmod (wrap64 ((wrap64 ((wrap64 (s0_1 + 1)) - 1)) + 1)) (s0_0.length : Int)) then (if (Int.tmod (wrap64 ((wrap64 ((wrap64 (s0_1 + 1)) - 1)) + 1)) (s0_0.length : Int)) < (s0_0.length : Int) then (if a1 = 0 then (none) else (some (Int.tmod (wrap64 ((wrap64 ((wrap64 ((wrap64 ((wrap64 (rd s0_0 (Int.tmod (wrap64 ((wrap64 (s0_1 + 1)) - 1)) (s0_0.length : Int)))) + (wrap64 ((wrap64 (Int.tdiv (wrap64 ((wrap64 (s0_1 + 1)) - 1)) (s0_0.length : Int))) * 37)))) * 251)) + (wrap64 ((wrap64 (rd s0_0 (Int.tmod (wrap64 ((wrap64 ((wrap64 (s0_1 + 1)) - 1)) + 1)) (s0_0.length : Int)))) * 13)))) + (wrap64 ((wrap64 (s0_1 + 1)) - 1)))) a1, wrap64 (s0_1 + 1)))) else (none)) else (none)) else (if a1 = 0 then (none) else (some (Int.tmod (wrap64 ((wrap64 (rd s0_0 (Int.tmod (wrap64 ((wrap64 (s0_1 + 1)) - 1)) (s0_0.length : Int)))) + (wrap64 ((wrap64 (Int.tdiv (wrap64 ((wrap64 (s0_1 + 1)) - 1)) (s0_0.length : Int))) * 37)))) a1, wrap64 (s0_1 + 1))))) else (none)) else (none)))
set_option maxHeartbeats 8000000 in
set_option maxRecDepth 100000 in
theorem spec_l1Next.calls (g : Nat) (s0_0 : List Int) (s0_1 : Int) (a1 : Int) (r1 : Int) (r2 : Int) (w0 w : World) (hI : IsS148 w0 w g s0_0 s0_1) (hB : Below w0.heap.size w0 w) (h : spec_l1Next.f s0_0 s0_1 a1 = some (r1, r2)) :
  Calls Try.prog 120 #[.pointer (some ⟨g, 0, none⟩), I q a1] w fun e w' => e = .returned (I q r1) ∧ IsS148 w0 w' g s0_0 r2 ∧ Below w0.heap.size w0 w' ∧ KeepBut w w' g none := by
 have HI0 := am hI
 have HK := am (KeepBut.refl w g none)
 have HL := am hB.size
 clear hI
 have HW0 := am hB.size
 have HB := am hB
 clear hB
 have H : (if a1 < 1 then (some (0, wrap64 (s0_1 + 1))) else (if (s0_0.length : Int) = 0 then (if a1 = 0 then (none) else (some (Int.tmod (wrap64 ((wrap64 ((wrap64 (s0_1 + 1)) - 1)) * 7)) a1, wrap64 (s0_1 + 1)))) else (if 0 ≤ (Int.tmod (wrap64 ((wrap64 (s0_1 + 1)) - 1)) (s0_0.length : Int)) then (if (Int.tmod (wrap64 ((wrap64 (s0_1 + 1)) - 1)) (s0_0.length : Int)) < (s0_0.length : Int) then (if a1 > 200 then (if 0 ≤ (Int.tmod (wrap64 ((wrap64 ((wrap64 (s0_1 + 1)) - 1)) + 1)) (s0_0.length : Int)) then (if (Int.tmod (wrap64 ((wrap64 ((wrap64 (s0_1 + 1)) - 1)) + 1)) (s0_0.length : Int)) < (s0_0.length : Int) then (if a1 = 0 then (none) else (some (Int.tmod (wrap64 ((wrap64 ((wrap64 ((wrap64 ((wrap64 (rd s0_0 (Int.tmod (wrap64 ((wrap64 (s0_1 + 1)) - 1)) (s0_0.length : Int)))) + (wrap64 ((wrap64 (Int.tdiv (wrap64 ((wrap64 (s0_1 + 1)) - 1)) (s0_0.length : Int))) * 37)))) * 251)) + (wrap64 ((wrap64 (rd s0_0 (Int.tmod (wrap64 ((wrap64 ((wrap64 (s0_1 + 1)) - 1)) + 1)) (s0_0.length : Int)))) * 13)))) + (wrap64 ((wrap64 (s0_1 + 1)) - 1)))) a1, wrap64 (s0_1 + 1)))) else (none)) else (none)) else (if a1 = 0 then (none) else (some (Int.tmod (wrap64 ((wrap64 (rd s0_0 (Int.tmod (wrap64 ((wrap64 (s0_1 + 1)) - 1)) (s0_0.length : Int)))) + (wrap64 ((wrap64 (Int.tdiv (wrap64 ((wrap64 (s0_1 + 1)) - 1)) (s0_0.length : Int))) * 37)))) a1, wrap64 (s0_1 + 1))))) else (none)) else (none)))) = some (r1, r2) := h
 clear h
 by_cases c3 : a1 < 1
 ·rw [if_pos c3] at H
  have c3b0 : decide (a1 < 1) = true := decide_eq_true c3
  clear c3
  simp only [Option.some.injEq, Prod.mk.injEq] at H
  obtain ⟨rfl, rfl⟩ := H
  obtain ⟨ASz4_0, cSz4_0, HGz4, hgz4, HSz4_0⟩ := HI0.out
  have hcz4_0 := cellS148_0 HGz4
  have hcz4_1 := cellS148_1 HGz4
  have hfz4_1 := bf HGz4 1
  clear HGz4 hgz4
  go_enter Try.func120, Try.ntmps120
  go_wp2
  repeat (go_quiet (fail); try go_wp2)
  go_ret
  exact ⟨by first | rfl | (simp [errW_none, errW_some] <;> rfl) | (simp [*, errW_none, errW_some] <;> rfl), by repeat (first | (with_reducible first | exact HI0.out | apply IsS148.alloc | apply IsS148.drewN | apply IsS148.drew | apply IsS148.set_1) | exact HI0.out), by repeat (first | (with_reducible first | exact HB.out | apply pa | apply pN | apply p1 | refine bs ?_ (IsS148.ge HI0.out)) | exact HB.out), by repeat (first | (with_reducible first | exact HK.out | apply KeepBut.set_ | apply keep_drewN | apply keep_drew | apply keep_alloc) | exact HK.out)⟩
 ·rw [if_neg c3] at H
  have c3b0 : decide (a1 < 1) = false := decide_eq_false c3
  clear c3
  by_cases c5 : (s0_0.length : Int) = 0
  ·rw [if_pos c5] at H
   have c5b0 : ((s0_0.length : Int) == 0) = true := beq_iff_eq.mpr c5
   have c5b1 : ((s0_0.length : Int) != 0) = false := bne_eq_false_iff_eq.mpr c5
   clear c5
   by_cases c6 : a1 = 0
   ·rw [if_pos c6] at H
    exact absurd H (by simp)
   ·rw [if_neg c6] at H
    have c6b0 : (a1 == 0) = false := beq_eq_false_iff_ne.mpr c6
    have c6b1 : (a1 != 0) = true := bne_iff_ne.mpr c6
    simp only [Option.some.injEq, Prod.mk.injEq] at H
    obtain ⟨rfl, rfl⟩ := H
    obtain ⟨ASz7_0, cSz7_0, HGz7, hgz7, HSz7_0⟩ := HI0.out
    have hcz7_0 := cellS148_0 HGz7
    have hcz7_1 := cellS148_1 HGz7
    have hfz7_1 := bf HGz7 1
    clear HGz7 hgz7
    go_enter Try.func120, Try.ntmps120
    go_wp2
    repeat (go_quiet (fail); try go_wp2)
    go_ret
    exact ⟨by first | rfl | (simp [errW_none, errW_some] <;> rfl) | (simp [*, errW_none, errW_some] <;> rfl), by repeat (first | (with_reducible first | exact HI0.out | apply IsS148.alloc | apply IsS148.drewN | apply IsS148.drew | apply IsS148.set_1) | exact HI0.out), by repeat (first | (with_reducible first | exact HB.out | apply pa | apply pN | apply p1 | refine bs ?_ (IsS148.ge HI0.out)) | exact HB.out), by repeat (first | (with_reducible first | exact HK.out | apply KeepBut.set_ | apply keep_drewN | apply keep_drew | apply keep_alloc) | exact HK.out)⟩
  ·rw [if_neg c5] at H
   have c5b0 : ((s0_0.length : Int) == 0) = false := beq_eq_false_iff_ne.mpr c5
   have c5b1 : ((s0_0.length : Int) != 0) = true := bne_iff_ne.mpr c5
   have c5b2 : ¬ (s0_0 = []) := fun h_ => c5 (by rw [h_]; rfl)
   obtain ⟨ji8, hji8⟩ : ∃ j_ : Int, (Int.tmod (wrap64 ((wrap64 (s0_1 + 1)) - 1)) (s0_0.length : Int)) = j_ := ⟨_, rfl⟩
   replace H : (if 0 ≤ (ji8) then (if (ji8) < (s0_0.length : Int) then (if a1 > 200 then (if 0 ≤ (Int.tmod (wrap64 ((wrap64 ((wrap64 (s0_1 + 1)) - 1)) + 1)) (s0_0.length : Int)) then (if (Int.tmod (wrap64 ((wrap64 ((wrap64 (s0_1 + 1)) - 1)) + 1)) (s0_0.length : Int)) < (s0_0.length : Int) then (if a1 = 0 then (none) else (some (Int.tmod (wrap64 ((wrap64 ((wrap64 ((wrap64 ((wrap64 (rd s0_0 (ji8))) + (wrap64 ((wrap64 (Int.tdiv (wrap64 ((wrap64 (s0_1 + 1)) - 1)) (s0_0.length : Int))) * 37)))) * 251)) + (wrap64 ((wrap64 (rd s0_0 (Int.tmod (wrap64 ((wrap64 ((wrap64 (s0_1 + 1)) - 1)) + 1)) (s0_0.length : Int)))) * 13)))) + (wrap64 ((wrap64 (s0_1 + 1)) - 1)))) a1, wrap64 (s0_1 + 1)))) else (none)) else (none)) else (if a1 = 0 then (none) else (some (Int.tmod (wrap64 ((wrap64 (rd s0_0 (ji8))) + (wrap64 ((wrap64 (Int.tdiv (wrap64 ((wrap64 (s0_1 + 1)) - 1)) (s0_0.length : Int))) * 37)))) a1, wrap64 (s0_1 + 1))))) else (none)) else (none)) = some (r1, r2) := by first | (rw [hji8] at H; exact H) | (simp only [hji8] at H ⊢; exact H)
   by_cases c9 : 0 ≤ (ji8)
   ·rw [if_pos c9] at H
    have c9b0 : decide (0 ≤ (ji8)) = true := decide_eq_true c9
    clear c9
    by_cases c10 : (ji8) < (s0_0.length : Int)
    ·rw [if_pos c10] at H
     have c10b0 : decide ((ji8) < (s0_0.length : Int)) = true := decide_eq_true c10
     clear c10
     by_cases c11 : a1 > 200
     ·rw [if_pos c11] at H
      have c11b0 : decide (200 < a1) = true := decide_eq_true c11
      clear c11
      obtain ⟨ji12, hji12⟩ : ∃ j_ : Int, (Int.tmod (wrap64 ((wrap64 ((wrap64 (s0_1 + 1)) - 1)) + 1)) (s0_0.length : Int)) = j_ := ⟨_, rfl⟩
      replace H : (if 0 ≤ (ji12) then (if (ji12) < (s0_0.length : Int) then (if a1 = 0 then (none) else (some (Int.tmod (wrap64 ((wrap64 ((wrap64 ((wrap64 ((wrap64 (rd s0_0 (ji8))) + (wrap64 ((wrap64 (Int.tdiv (wrap64 ((wrap64 (s0_1 + 1)) - 1)) (s0_0.length : Int))) * 37)))) * 251)) + (wrap64 ((wrap64 (rd s0_0 (ji12))) * 13)))) + (wrap64 ((wrap64 (s0_1 + 1)) - 1)))) a1, wrap64 (s0_1 + 1)))) else (none)) else (none)) = some (r1, r2) := by first | (rw [hji12] at H; exact H) | (simp only [hji12] at H ⊢; exact H)
      by_cases c13 : 0 ≤ (ji12)
      ·rw [if_pos c13] at H
       have c13b0 : decide (0 ≤ (ji12)) = true := decide_eq_true c13
       clear c13
       by_cases c14 : (ji12) < (s0_0.length : Int)
       ·rw [if_pos c14] at H
        have c14b0 : decide ((ji12) < (s0_0.length : Int)) = true := decide_eq_true c14
        clear c14
        by_cases c15 : a1 = 0
        ·rw [if_pos c15] at H
         exact absurd H (by simp)
        ·rw [if_neg c15] at H
         have c15b0 : (a1 == 0) = false := beq_eq_false_iff_ne.mpr c15
         have c15b1 : (a1 != 0) = true := bne_iff_ne.mpr c15
         simp only [Option.some.injEq, Prod.mk.injEq] at H
         obtain ⟨rfl, rfl⟩ := H
         obtain ⟨ASz16_0, cSz16_0, HGz16, hgz16, HSz16_0⟩ := HI0.out
         have hcz16_0 := cellS148_0 HGz16
         have hcz16_1 := cellS148_1 HGz16
         have hfz16_1 := bf HGz16 1
         clear HGz16 hgz16
         have p359 : 0 ≤ ((ji8) : Int) := of_decide_eq_true (by first | (with_reducible assumption) | assumption)
         have q359 : (ji8) < (s0_0.length : Int) := of_decide_eq_true (by first | (with_reducible assumption) | assumption)
         obtain ⟨ad359, e359, hx359_0⟩ := Kd.at_int HSz16_0 (ji8) p359 q359
         cases e359
         have hn359_0 : ad359.block ≠ g := Nat.ne_of_lt (Nat.lt_of_lt_of_le (by have := World.block_lt_of_cell? _ _ hx359_0; first | rwa [ab] at this | exact this) (IsS148.ge HI0.out))
         replace hx359_0 := pw_cell_below HB.out hx359_0
         replace hx359_0 := (cell_far (p := ⟨g, 1, none⟩) (by first | (rw [ab]; exact hn359_0) | (show (Addr.add _ _).block ≠ _; rw [ab]; exact hn359_0) | exact hn359_0) (I q (wrap64 (s0_1 + 1)))).trans hx359_0
         (try have hy359_0 := fun (n_ : Nat) => (show (((w.drewN n_).setCell ⟨g, 1, none⟩ (I q (wrap64 (s0_1 + 1))))).cell? _ = some _ from hx359_0))
         clear hn359_0
         replace p359 := eq_true p359
         replace q359 := eq_true q359
         have p360 : 0 ≤ ((ji12) : Int) := of_decide_eq_true (by first | (with_reducible assumption) | assumption)
         have q360 : (ji12) < (s0_0.length : Int) := of_decide_eq_true (by first | (with_reducible assumption) | assumption)
         obtain ⟨ad360, e360, hx360_0⟩ := Kd.at_int HSz16_0 (ji12) p360 q360
         obtain rfl : ad359 = ad360 := (by injection e360)
         have hn360_0 : ad359.block ≠ g := Nat.ne_of_lt (Nat.lt_of_lt_of_le (by have := World.block_lt_of_cell? _ _ hx360_0; first | rwa [ab] at this | exact this) (IsS148.ge HI0.out))
         replace hx360_0 := pw_cell_below HB.out hx360_0
         replace hx360_0 := (cell_far (p := ⟨g, 1, none⟩) (by first | (rw [ab]; exact hn360_0) | (show (Addr.add _ _).block ≠ _; rw [ab]; exact hn360_0) | exact hn360_0) (I q (wrap64 (s0_1 + 1)))).trans hx360_0
         (try have hy360_0 := fun (n_ : Nat) => (show (((w.drewN n_).setCell ⟨g, 1, none⟩ (I q (wrap64 (s0_1 + 1))))).cell? _ = some _ from hx360_0))
         clear hn360_0
         replace p360 := eq_true p360
         replace q360 := eq_true q360
         go_enter Try.func120, Try.ntmps120
         go_wp2
         repeat (go_quiet (fail); try go_wp2)
         go_ret
         exact ⟨by first | rfl | (simp [errW_none, errW_some] <;> rfl) | (simp only [← hji8, ← hji12]; first | rfl | (simp [errW_none, errW_some] <;> rfl)) | (simp [*, errW_none, errW_some] <;> rfl), by repeat (first | (with_reducible first | exact HI0.out | apply IsS148.alloc | apply IsS148.drewN | apply IsS148.drew | apply IsS148.set_1) | exact HI0.out), by repeat (first | (with_reducible first | exact HB.out | apply pa | apply pN | apply p1 | refine bs ?_ (IsS148.ge HI0.out)) | exact HB.out), by repeat (first | (with_reducible first | exact HK.out | apply KeepBut.set_ | apply keep_drewN | apply keep_drew | apply keep_alloc) | exact HK.out)⟩
       ·rw [if_neg c14] at H
        exact absurd H (by simp)
      ·rw [if_neg c13] at H
       exact absurd H (by simp)
     ·rw [if_neg c11] at H
      have c11b0 : decide (200 < a1) = false := decide_eq_false c11
      clear c11
      by_cases c17 : a1 = 0
      ·rw [if_pos c17] at H
       exact absurd H (by simp)
      ·rw [if_neg c17] at H
       have c17b0 : (a1 == 0) = false := beq_eq_false_iff_ne.mpr c17
       have c17b1 : (a1 != 0) = true := bne_iff_ne.mpr c17
       simp only [Option.some.injEq, Prod.mk.injEq] at H
       obtain ⟨rfl, rfl⟩ := H
       obtain ⟨ASz18_0, cSz18_0, HGz18, hgz18, HSz18_0⟩ := HI0.out
       have hcz18_0 := cellS148_0 HGz18
       have hcz18_1 := cellS148_1 HGz18
       have hfz18_1 := bf HGz18 1
       clear HGz18 hgz18
       have p359 : 0 ≤ ((ji8) : Int) := of_decide_eq_true (by first | (with_reducible assumption) | assumption)
       have q359 : (ji8) < (s0_0.length : Int) := of_decide_eq_true (by first | (with_reducible assumption) | assumption)
       obtain ⟨ad359, e359, hx359_0⟩ := Kd.at_int HSz18_0 (ji8) p359 q359
       cases e359
       have hn359_0 : ad359.block ≠ g := Nat.ne_of_lt (Nat.lt_of_lt_of_le (by have := World.block_lt_of_cell? _ _ hx359_0; first | rwa [ab] at this | exact this) (IsS148.ge HI0.out))
       replace hx359_0 := pw_cell_below HB.out hx359_0
       replace hx359_0 := (cell_far (p := ⟨g, 1, none⟩) (by first | (rw [ab]; exact hn359_0) | (show (Addr.add _ _).block ≠ _; rw [ab]; exact hn359_0) | exact hn359_0) (I q (wrap64 (s0_1 + 1)))).trans hx359_0
       (try have hy359_0 := fun (n_ : Nat) => (show (((w.drewN n_).setCell ⟨g, 1, none⟩ (I q (wrap64 (s0_1 + 1))))).cell? _ = some _ from hx359_0))
       clear hn359_0
       replace p359 := eq_true p359
       replace q359 := eq_true q359
       go_enter Try.func120, Try.ntmps120
       go_wp2
       repeat (go_quiet (fail); try go_wp2)
       go_ret
       exact ⟨by first | rfl | (simp [errW_none, errW_some] <;> rfl) | (simp only [← hji8]; first | rfl | (simp [errW_none, errW_some] <;> rfl)) | (simp [*, errW_none, errW_some] <;> rfl), by repeat (first | (with_reducible first | exact HI0.out | apply IsS148.alloc | apply IsS148.drewN | apply IsS148.drew | apply IsS148.set_1) | exact HI0.out), by repeat (first | (with_reducible first | exact HB.out | apply pa | apply pN | apply p1 | refine bs ?_ (IsS148.ge HI0.out)) | exact HB.out), by repeat (first | (with_reducible first | exact HK.out | apply KeepBut.set_ | apply keep_drewN | apply keep_drew | apply keep_alloc) | exact HK.out)⟩
    ·rw [if_neg c10] at H
     exact absurd H (by simp)
   ·rw [if_neg c9] at H
    exact absurd H (by simp)

/-! ### spec_l1Pick: function 81 -/
def spec_l1Pick.f (s0_0 : List Int) (s0_1 : Int) (l1 : List Int) : Option (Int × Int) := (spec_l1Next.f s0_0 s0_1 (l1.length : Int)).bind fun bt361 => (if 0 ≤ bt361.1 then (if bt361.1 < (l1.length : Int) then (some (rd l1 bt361.1, bt361.2)) else (none)) else (none))
set_option maxHeartbeats 8000000 in
set_option maxRecDepth 100000 in
theorem spec_l1Pick.calls (g : Nat) (s0_0 : List Int) (s0_1 : Int) (A1 : Option Addr) (c1 : Nat) (l1 : List Int) (r1 : Int) (r2 : Int) (w0 w : World) (hI : IsS148 w0 w g s0_0 s0_1) (hB : Below w0.heap.size w0 w) (hr1 : Kd.C (Kd.int .i64) w A1 l1.length l1) (hc1 : l1.length ≤ c1) (hf1 : ∀ ad, A1 = some ad → 0 < l1.length → ad.block ≠ g) (h : spec_l1Pick.f s0_0 s0_1 l1 = some (r1, r2)) :
  Calls Try.prog 81 #[.pointer (some ⟨g, 0, none⟩), J A1 l1.length c1] w fun e w' => e = .returned (I q r1) ∧ IsS148 w0 w' g s0_0 r2 ∧ Below w0.heap.size w0 w' ∧ KeepBut w w' g none := by
 have HR1 := am hr1
 have HC1 := am hc1
 clear hr1 hc1
 have HI0 := am hI
 have HK := am (KeepBut.refl w g none)
 have HL := am hB.size
 clear hI
 have HW0 := am hB.size
 have HB := am hB
 clear hB
 have H : ((spec_l1Next.f s0_0 s0_1 (l1.length : Int)).bind fun bt361 => (if 0 ≤ bt361.1 then (if bt361.1 < (l1.length : Int) then (some (rd l1 bt361.1, bt361.2)) else (none)) else (none))) = some (r1, r2) := h
 clear h
 replace H := Option.bind_eq_some_iff.mp H
 obtain ⟨⟨t361, t362⟩, A30, H⟩ := H
 replace H : (if 0 ≤ t361 then (if t361 < (l1.length : Int) then (some (rd l1 t361, t362)) else (none)) else (none)) = some (r1, r2) := H
 have A3 := am A30
 clear A30
 by_cases c4 : 0 ≤ t361
 ·rw [if_pos c4] at H
  have c4b0 : decide (0 ≤ t361) = true := decide_eq_true c4
  clear c4
  by_cases c5 : t361 < (l1.length : Int)
  ·rw [if_pos c5] at H
   have c5b0 : decide (t361 < (l1.length : Int)) = true := decide_eq_true c5
   clear c5
   simp only [Option.some.injEq, Prod.mk.injEq] at H
   obtain ⟨rfl, rfl⟩ := H
   go_enter Try.func81, Try.ntmps81
   go_wp2_with (first | ((with_reducible refine gate_callee (f := 120) rfl ?_); refine goesL_ (some 9) rfl rfl Try.func120 (by kernel_rfl) rfl #[.pointer (some ⟨g, 0, none⟩), I q (l1.length : Int)] rfl (by (try simp only [List.map_toArray, List.map_cons, List.map_nil]); first | done | rfl) ?_; (with_reducible refine (spec_l1Next.calls g s0_0 s0_1 (l1.length : Int) t361 t362 w0 _ ?side1 ?side2 A3.out).mono ?_); (case side1 => repeat (first | (with_reducible first | exact HI0.out | apply IsS148.alloc | apply IsS148.drewN | apply IsS148.drew | apply IsS148.set_1) | exact HI0.out)); (case side2 => repeat (first | (with_reducible first | exact HB.out | apply pa | apply pN | apply p1 | refine bs ?_ (IsS148.ge HI0.out)) | exact HB.out)); rintro e w6 ⟨rfl, hi, hb, hk⟩; refine ⟨_, rfl, ?_⟩; have N0 := am (KeepBut.trans (by repeat (first | (with_reducible first | exact HK.out | apply KeepBut.set_ | apply keep_drewN | apply keep_drew | apply keep_alloc) | exact HK.out)) hk (.inl rfl)); have N1 := am (hb); have N2 := am (hi); clear HK HB HI0; have HK := N0; have HB := N1; have HI0 := N2; clear N0 N1 N2; (try clear hb); (try clear hb2); (try clear hk); (try clear hi); have p363 : 0 ≤ (t361 : Int) := of_decide_eq_true (by first | (with_reducible assumption) | assumption); have q363 : t361 < (l1.length : Int) := of_decide_eq_true (by first | (with_reducible assumption) | assumption); obtain ⟨ad363, e363, hx363_0⟩ := Kd.at_int HR1.out t361 p363 q363; cases e363; replace hx363_0 := keep_cell HK.out hx363_0 (by first | (rw [ab]; exact hf1 _ rfl (by omega)) | exact hf1 _ rfl (by omega) | exact hf1 ad363 rfl (by omega)); replace p363 := eq_true p363; replace q363 := eq_true q363))
   go_ret
   exact ⟨by first | rfl | (simp [errW_none, errW_some] <;> rfl) | (simp [*, errW_none, errW_some] <;> rfl), by repeat (first | (with_reducible first | exact HI0.out | apply IsS148.alloc | apply IsS148.drewN | apply IsS148.drew | apply IsS148.set_1) | exact HI0.out), by repeat (first | (with_reducible first | exact HB.out | apply pa | apply pN | apply p1 | refine bs ?_ (IsS148.ge HI0.out)) | exact HB.out), by repeat (first | (with_reducible first | exact HK.out | apply KeepBut.set_ | apply keep_drewN | apply keep_drew | apply keep_alloc) | exact HK.out)⟩
  ·rw [if_neg c5] at H
   exact absurd H (by simp)
 ·rw [if_neg c4] at H
  exact absurd H (by simp)

/-! ### spec_l1Chance: function 97 -/
def spec_l1Chance.f (s0_0 : List Int) (s0_1 : Int) (a1 : Int) : Option (Bool × Int) := (spec_l1Next.f s0_0 s0_1 a1).bind fun bt364 => (some ((bt364.1 == 0), bt364.2))
set_option maxHeartbeats 8000000 in
set_option maxRecDepth 100000 in
theorem spec_l1Chance.calls (g : Nat) (s0_0 : List Int) (s0_1 : Int) (a1 : Int) (r1 : Bool) (r2 : Int) (w0 w : World) (hI : IsS148 w0 w g s0_0 s0_1) (hB : Below w0.heap.size w0 w) (h : spec_l1Chance.f s0_0 s0_1 a1 = some (r1, r2)) :
  Calls Try.prog 97 #[.pointer (some ⟨g, 0, none⟩), I q a1] w fun e w' => e = .returned (.bool r1) ∧ IsS148 w0 w' g s0_0 r2 ∧ Below w0.heap.size w0 w' ∧ KeepBut w w' g none := by
 have HI0 := am hI
 have HK := am (KeepBut.refl w g none)
 have HL := am hB.size
 clear hI
 have HW0 := am hB.size
 have HB := am hB
 clear hB
 have H : ((spec_l1Next.f s0_0 s0_1 a1).bind fun bt364 => (some ((bt364.1 == 0), bt364.2))) = some (r1, r2) := h
 clear h
 replace H := Option.bind_eq_some_iff.mp H
 obtain ⟨⟨t364, t365⟩, A30, H⟩ := H
 replace H : (some ((t364 == 0), t365)) = some (r1, r2) := H
 have A3 := am A30
 clear A30
 simp only [Option.some.injEq, Prod.mk.injEq] at H
 obtain ⟨rfl, rfl⟩ := H
 go_enter Try.func97, Try.ntmps97
 go_wp2_with (first | ((with_reducible refine gate_callee (f := 120) rfl ?_); refine goesL_ (some 7) rfl rfl Try.func120 (by kernel_rfl) rfl #[.pointer (some ⟨g, 0, none⟩), I q a1] rfl (by (try simp only [List.map_toArray, List.map_cons, List.map_nil]); first | done | rfl) ?_; (with_reducible refine (spec_l1Next.calls g s0_0 s0_1 a1 t364 t365 w0 _ ?side1 ?side2 A3.out).mono ?_); (case side1 => repeat (first | (with_reducible first | exact HI0.out | apply IsS148.alloc | apply IsS148.drewN | apply IsS148.drew | apply IsS148.set_1) | exact HI0.out)); (case side2 => repeat (first | (with_reducible first | exact HB.out | apply pa | apply pN | apply p1 | refine bs ?_ (IsS148.ge HI0.out)) | exact HB.out)); rintro e w4 ⟨rfl, hi, hb, hk⟩; refine ⟨_, rfl, ?_⟩; have N0 := am (KeepBut.trans (by repeat (first | (with_reducible first | exact HK.out | apply KeepBut.set_ | apply keep_drewN | apply keep_drew | apply keep_alloc) | exact HK.out)) hk (.inl rfl)); have N1 := am (hb); have N2 := am (hi); clear HK HB HI0; have HK := N0; have HB := N1; have HI0 := N2; clear N0 N1 N2; (try clear hb); (try clear hb2); (try clear hk); (try clear hi)))
 go_ret
 exact ⟨by first | rfl | (simp [errW_none, errW_some] <;> rfl) | (simp [*, errW_none, errW_some] <;> rfl), by repeat (first | (with_reducible first | exact HI0.out | apply IsS148.alloc | apply IsS148.drewN | apply IsS148.drew | apply IsS148.set_1) | exact HI0.out), by repeat (first | (with_reducible first | exact HB.out | apply pa | apply pN | apply p1 | refine bs ?_ (IsS148.ge HI0.out)) | exact HB.out), by repeat (first | (with_reducible first | exact HK.out | apply KeepBut.set_ | apply keep_drewN | apply keep_drew | apply keep_alloc) | exact HK.out)⟩

/-! ### spec_l5Needs: function 131 -/
def spec_l5Needs.f (a0 : Int) : Option (Bool × Bool × Bool × Bool) := (spec_l1In.f a0 5 8).bind fun t366 => (if a0 = 5 then (if a0 = 1 then (some (false, true, (a0 != 4), t366)) else (some (false, t366, (a0 != 4), t366))) else (if a0 = 1 then (some ((a0 != 6), true, (a0 != 4), t366)) else (some ((a0 != 6), t366, (a0 != 4), t366))))
set_option maxHeartbeats 8000000 in
set_option maxRecDepth 100000 in
theorem spec_l5Needs.calls (a0 : Int) (r1 : Bool) (r2 : Bool) (r3 : Bool) (r4 : Bool) (w : World) (h : spec_l5Needs.f a0 = some (r1, r2, r3, r4)) :
  Calls Try.prog 131 #[I q a0] w fun e w' => e = .returned (.tuple #[.bool r1, .bool r2, .bool r3, .bool r4]) ∧ Drawn0 w w' := by
 have H : ((spec_l1In.f a0 5 8).bind fun t366 => (if a0 = 5 then (if a0 = 1 then (some (false, true, (a0 != 4), t366)) else (some (false, t366, (a0 != 4), t366))) else (if a0 = 1 then (some ((a0 != 6), true, (a0 != 4), t366)) else (some ((a0 != 6), t366, (a0 != 4), t366))))) = some (r1, r2, r3, r4) := h
 clear h
 replace H := Option.bind_eq_some_iff.mp H
 obtain ⟨t366, A20, H⟩ := H
 replace H : (if a0 = 5 then (if a0 = 1 then (some (false, true, (a0 != 4), t366)) else (some (false, t366, (a0 != 4), t366))) else (if a0 = 1 then (some ((a0 != 6), true, (a0 != 4), t366)) else (some ((a0 != 6), t366, (a0 != 4), t366)))) = some (r1, r2, r3, r4) := H
 have A2 := am A20
 clear A20
 by_cases c3 : a0 = 5
 ·rw [if_pos c3] at H
  have c3b0 : (a0 == 5) = true := beq_iff_eq.mpr c3
  have c3b1 : (a0 != 5) = false := bne_eq_false_iff_eq.mpr c3
  clear c3
  by_cases c4 : a0 = 1
  ·rw [if_pos c4] at H
   have c4b0 : (a0 == 1) = true := beq_iff_eq.mpr c4
   have c4b1 : (a0 != 1) = false := bne_eq_false_iff_eq.mpr c4
   clear c4
   simp only [Option.some.injEq, Prod.mk.injEq] at H
   obtain ⟨rfl, rfl, rfl, rfl⟩ := H
   go_enter Try.func131, Try.ntmps131
   go_wp2_with (first | ((with_reducible refine gate_callee (f := 70) rfl ?_); refine goesL_ (some 8) rfl rfl Try.func70 (by kernel_rfl) rfl #[I q a0, I q 5, I q 8] rfl (by (try simp only [List.map_toArray, List.map_cons, List.map_nil]); first | done | rfl) ?_; (with_reducible refine (spec_l1In.calls a0 5 8 t366 _ A2.out).mono ?_); rintro e w' ⟨rfl, ⟨nd, rfl⟩⟩; refine ⟨_, rfl, ?_⟩))
   refine bodyPost_ret (results_list (rs := [.tmp 2, .tmp 3, .tmp 4, .tmp 5]) rfl (by simp) (.tmp (.tmp (.tmp (.tmp .nil))))) rfl ?_
   exact ⟨by first | rfl | (simp; done) | (simp [*]; done), by repeat (first | exact Drawn0.refl _ | apply Drawn0.step)⟩
  ·rw [if_neg c4] at H
   have c4b0 : (a0 == 1) = false := beq_eq_false_iff_ne.mpr c4
   have c4b1 : (a0 != 1) = true := bne_iff_ne.mpr c4
   simp only [Option.some.injEq, Prod.mk.injEq] at H
   obtain ⟨rfl, rfl, rfl, rfl⟩ := H
   go_enter Try.func131, Try.ntmps131
   go_wp2_with (first | ((with_reducible refine gate_callee (f := 70) rfl ?_); refine goesL_ (some 8) rfl rfl Try.func70 (by kernel_rfl) rfl #[I q a0, I q 5, I q 8] rfl (by (try simp only [List.map_toArray, List.map_cons, List.map_nil]); first | done | rfl) ?_; (with_reducible refine (spec_l1In.calls a0 5 8 t366 _ A2.out).mono ?_); rintro e w' ⟨rfl, ⟨nd, rfl⟩⟩; refine ⟨_, rfl, ?_⟩))
   refine bodyPost_ret (results_list (rs := [.tmp 2, .tmp 3, .tmp 4, .tmp 5]) rfl (by simp) (.tmp (.tmp (.tmp (.tmp .nil))))) rfl ?_
   exact ⟨by first | rfl | (simp; done) | (simp [*]; done), by repeat (first | exact Drawn0.refl _ | apply Drawn0.step)⟩
 ·rw [if_neg c3] at H
  have c3b0 : (a0 == 5) = false := beq_eq_false_iff_ne.mpr c3
  have c3b1 : (a0 != 5) = true := bne_iff_ne.mpr c3
  by_cases c5 : a0 = 1
  ·rw [if_pos c5] at H
   have c5b0 : (a0 == 1) = true := beq_iff_eq.mpr c5
   have c5b1 : (a0 != 1) = false := bne_eq_false_iff_eq.mpr c5
   clear c5
   simp only [Option.some.injEq, Prod.mk.injEq] at H
   obtain ⟨rfl, rfl, rfl, rfl⟩ := H
   go_enter Try.func131, Try.ntmps131
   go_wp2_with (first | ((with_reducible refine gate_callee (f := 70) rfl ?_); refine goesL_ (some 8) rfl rfl Try.func70 (by kernel_rfl) rfl #[I q a0, I q 5, I q 8] rfl (by (try simp only [List.map_toArray, List.map_cons, List.map_nil]); first | done | rfl) ?_; (with_reducible refine (spec_l1In.calls a0 5 8 t366 _ A2.out).mono ?_); rintro e w' ⟨rfl, ⟨nd, rfl⟩⟩; refine ⟨_, rfl, ?_⟩))
   refine bodyPost_ret (results_list (rs := [.tmp 2, .tmp 3, .tmp 4, .tmp 5]) rfl (by simp) (.tmp (.tmp (.tmp (.tmp .nil))))) rfl ?_
   exact ⟨by first | rfl | (simp; done) | (simp [*]; done), by repeat (first | exact Drawn0.refl _ | apply Drawn0.step)⟩
  ·rw [if_neg c5] at H
   have c5b0 : (a0 == 1) = false := beq_eq_false_iff_ne.mpr c5
   have c5b1 : (a0 != 1) = true := bne_iff_ne.mpr c5
   simp only [Option.some.injEq, Prod.mk.injEq] at H
   obtain ⟨rfl, rfl, rfl, rfl⟩ := H
   go_enter Try.func131, Try.ntmps131
   go_wp2_with (first | ((with_reducible refine gate_callee (f := 70) rfl ?_); refine goesL_ (some 8) rfl rfl Try.func70 (by kernel_rfl) rfl #[I q a0, I q 5, I q 8] rfl (by (try simp only [List.map_toArray, List.map_cons, List.map_nil]); first | done | rfl) ?_; (with_reducible refine (spec_l1In.calls a0 5 8 t366 _ A2.out).mono ?_); rintro e w' ⟨rfl, ⟨nd, rfl⟩⟩; refine ⟨_, rfl, ?_⟩))
   refine bodyPost_ret (results_list (rs := [.tmp 2, .tmp 3, .tmp 4, .tmp 5]) rfl (by simp) (.tmp (.tmp (.tmp (.tmp .nil))))) rfl ?_
   exact ⟨by first | rfl | (simp; done) | (simp [*]; done), by repeat (first | exact Drawn0.refl _ | apply Drawn0.step)⟩

/-! ### spec_l5Copy: function 98 -/
def spec_l5Copy.l0 : Nat → Int → Int → List (S36) → List (S64) → Int → List (S36) → List (S64) → Option (Int × (List (S36)) × (List (S64)))
 | 0, _, _, _, _, _, _, _ => none
 | k + 1, x4, x400000, x400001, x400002, x408000, x408001, x408002 => if x4 < (x400002.length : Int) then (if 0 ≤ x4 then ((some (([] : List Int) : List Int)).bind fun y410 => (if y410.length + ((rd_T64 x400002 x4).f3).length < 17592186044416 then (if x408002.length < 2932031007402 then (spec_l5Copy.l0 k (wrap64 (x4 + 1)) x400000 x400001 x400002 x408000 x408001 (x408002 ++ [(⟨(rd_T64 x400002 x4).f0, (rd_T64 x400002 x4).f1, (rd_T64 x400002 x4).f2, (y410 ++ ((rd_T64 x400002 x4).f3))⟩ : S64)])) else (none)) else (none))) else (none)) else (some (x408000, x408001, x408002))
def spec_l5Copy.f (k : Nat) (aa0 : Int) (la1 : List (S36)) (la2 : List (S64)) : Option (Int × (List (S36)) × (List (S64))) := (some (([] : List (S36)) : List (S36))).bind fun y401 => (if y401.length + la1.length < 3518437208883 then (spec_l5Copy.l0 k 0 aa0 la1 la2 aa0 (y401 ++ la1) ([] : List (S64))) else (none))
theorem spec_l5Copy.mono_l : ∀ k, (∀ y0 y1 y2 y3 y4 y5 y6, LeO (spec_l5Copy.l0 k y0 y1 y2 y3 y4 y5 y6) (spec_l5Copy.l0 (k + 1) y0 y1 y2 y3 y4 y5 y6))
 | 0 => fun _ _ _ _ _ _ _ r h => by simp [spec_l5Copy.l0] at h
 | k + 1 => by
  have ih0 := spec_l5Copy.mono_l k
  ·intro y0 y1 y2 y3 y4 y5 y6
   unfold spec_l5Copy.l0
   repeat' first
   | (with_reducible exact ih0 _ _ _ _ _ _ _)
   | (with_reducible exact LeO.refl _)
   | (with_reducible exact LeO.none _)
   | (with_reducible refine LeO.ite ?_ ?_)
   | (with_reducible refine LeO.bind ?_ (fun _ => ?_))
   | exact ih0 _ _ _ _ _ _ _
   | exact LeO.none _
   | refine LeO.ite ?_ ?_
   | refine LeO.bind ?_ (fun _ => ?_)
theorem spec_l5Copy.mono : ∀ a0 a1 a2 k, LeO (spec_l5Copy.f k a0 a1 a2) (spec_l5Copy.f (k + 1) a0 a1 a2) := by
 intro a0 a1 a2 k
 have ih0 := spec_l5Copy.mono_l k
 unfold spec_l5Copy.f
 repeat' first
   | (with_reducible exact ih0 _ _ _ _ _ _ _)
   | (with_reducible exact LeO.refl _)
   | (with_reducible exact LeO.none _)
   | (with_reducible refine LeO.ite ?_ ?_)
   | (with_reducible refine LeO.bind ?_ (fun _ => ?_))
   | exact ih0 _ _ _ _ _ _ _
   | exact LeO.none _
   | refine LeO.ite ?_ ?_
   | refine LeO.bind ?_ (fun _ => ?_)
def spec_l5Copy.T1 : Bool × List (List Nat × List Nat) := (true, [([], []), ([0], [0]), ([], []), ([], []), ([3], [3]), ([2, 4], [2, 4]), ([1, 5], [1, 5]), ([], []), ([7, 6, 5, 0, 1, 2, 3, 4, 5, 6, 7], [6, 7])])
def spec_l5Copy.B1 : List Nat := [0, 1, 0, 0, 8, 28, 63, 0, 255]
theorem spec_l5Copy.tab1 : rtab .any (opsOf Try.f98 1) = spec_l5Copy.T1 := by kernel_rfl
theorem spec_l5Copy.bits1 : waitsOk spec_l5Copy.T1.2 spec_l5Copy.B1 = true := by kernel_rfl
set_option maxHeartbeats 8000000 in
set_option maxRecDepth 100000 in
theorem spec_l5Copy.calls (k : Nat) (aa0 : Int) (Aa1 : Option Addr) (ca1 : Nat) (la1 : List (S36)) (Aa2 : Option Addr) (ca2 : Nat) (la2 : List (S64)) (r1 : Int) (r2 : List (S36)) (r3 : List (S64)) (w : World) (hr0_1 : Kd.C k36 w Aa1 la1.length la1) (hc0_1 : la1.length ≤ ca1) (hr0_2 : Kd.C k64 w Aa2 la2.length la2) (hc0_2 : la2.length ≤ ca2) (h : spec_l5Copy.f k aa0 la1 la2 = some (r1, r2, r3)) :
  Calls Try.prog 98 #[.agg #[I q aa0, J Aa1 la1.length ca1, J Aa2 la2.length ca2]] w fun e w' => ∃ v1_ v2_ : Value, e = .returned (.agg #[I q r1, v1_, v2_]) ∧ Kd.R k36 36 w' w.heap.size (fun _ => True) v1_ r2 ∧ Kd.S k64 64 w' w.heap.size (fun _ => True) v2_ r3 ∧ Below w.heap.size w w' := by
 have hu31 := Try.underlying31
 have hu64 := Try.underlying64
 have HR0_1 := am hr0_1
 have HC0_1 := am hc0_1
 clear hr0_1 hc0_1
 have HR0_2 := am hr0_2
 have HC0_2 := am hc0_2
 clear hr0_2 hc0_2
 have HB := am (Below.refl w.heap.size w)
 have H : ((some (([] : List (S36)) : List (S36))).bind fun y401 => (if y401.length + la1.length < 3518437208883 then (spec_l5Copy.l0 k 0 aa0 la1 la2 aa0 (y401 ++ la1) ([] : List (S64))) else (none))) = some (r1, r2, r3) := h
 clear h
 obtain ⟨y401, hy401⟩ : ∃ y_ : List (S36), y_ = (([] : List (S36))) := ⟨_, rfl⟩
 replace H : (if y401.length + la1.length < 3518437208883 then (spec_l5Copy.l0 k 0 aa0 la1 la2 aa0 (y401 ++ la1) ([] : List (S64))) else (none)) = some (r1, r2, r3) := by first | (rw [hy401]; with_reducible exact H) | (have H2_ := (Option.bind_some _ _).symm.trans H; rw [hy401]; with_reducible exact H2_) | (have H2_ := (Option.bind_some _ _).symm.trans H; with_reducible exact H2_) | with_reducible exact H | (rw [hy401]; exact H) | exact H
 have Ny401 := am hy401
 clear hy401
 by_cases c2 : y401.length + la1.length < 3518437208883
 ·rw [if_pos c2] at H
  have LMc2 := am c2
  clear c2
  obtain ⟨y404, hy404⟩ : ∃ y_ : List (S36), y_ = (y401 ++ la1) := ⟨_, rfl⟩
  replace H : (spec_l5Copy.l0 k 0 aa0 la1 la2 aa0 y404 ([] : List (S64))) = some (r1, r2, r3) := by first | (rw [hy404]; with_reducible exact H) | (have H2_ := (Option.bind_some _ _).symm.trans H; rw [hy404]; with_reducible exact H2_) | (have H2_ := (Option.bind_some _ _).symm.trans H; with_reducible exact H2_) | with_reducible exact H | (rw [hy404]; exact H) | exact H
  have Ny404 := am hy404
  clear hy404
  have H' := am H
  clear H
  go_enter Try.func98, Try.ntmps98
  try go_wp2_with (first | ((with_reducible refine gate_dst (N := 1) rfl ?_); refine box_event ?hg (N := 1) ?hd (cs := #[I q aa0, J Aa1 la1.length ca1, J Aa2 la2.length ca2]) (t := 31) ?hr ?_; (case hd => rfl); (case hg => rfl); (case hr => first | (go_simp; done) | (go_simp; rfl)); intro g399 hg w3 hbox hb; have N0 := am (bp (by repeat (first | (with_reducible first | exact HB.out | apply pa | apply pN | apply p1) | exact HB.out)) hb); have N1 := am (hbox); have N2 := am ((by rw [hg]; exact (bz (by repeat (first | (with_reducible first | exact HB.out | apply pa | apply pN | apply p1) | exact HB.out))) : w.heap.size ≤ g399)); have N3 := am ((by rw [hg]; exact (bz (by repeat (first | (with_reducible first | exact HB.out | apply pa | apply pN | apply p1) | exact HB.out))) : w.heap.size ≤ g399)); clear HB; have HB := N0; have B399 := N1; have GW399 := N2; have E399 := N3; clear N0 N1 N2 N3 hb hbox hg) | ((with_reducible refine gate_dst (N := 2) rfl ?_); refine box_event ?hg (N := 2) ?hd (cs := #[I q 0, .slice none 0 0, .slice none 0 0]) (t := 31) ?hr ?_; (case hd => rfl); (case hg => rfl); (case hr => first | (go_simp; done) | (go_simp; rfl)); intro g400 hg w4 hbox hb; have N0 := am (bb (g := g399) (by (with_reducible repeat (first | apply bN | apply bd | apply ba)); exact B399.out) hb); have N1 := am (bp (by repeat (first | (with_reducible first | exact HB.out | apply pa | apply pN | apply p1 | refine bs ?_ E399.out) | exact HB.out)) hb); have N2 := am (hbox); have N3 := am ((by rw [hg]; exact (bz (by repeat (first | (with_reducible first | exact HB.out | apply pa | apply pN | apply p1 | refine bs ?_ E399.out) | exact HB.out))) : w.heap.size ≤ g400)); have N4 := am ((by rw [hg]; exact (bz (by repeat (first | (with_reducible first | exact HB.out | apply pa | apply pN | apply p1 | refine bs ?_ E399.out) | exact HB.out))) : w.heap.size ≤ g400)); have N5 := am ((by rw [hg]; exact Nat.ne_of_lt (bl (g := g399) (by (with_reducible repeat (first | apply bN | apply bd | apply ba)); exact B399.out)) : g399 ≠ g400)); have N6 := am ((by rw [hg]; exact Nat.ne_of_gt (bl (g := g399) (by (with_reducible repeat (first | apply bN | apply bd | apply ba)); exact B399.out)) : g400 ≠ g399)); clear B399 HB; have B399 := N0; have HB := N1; have B400 := N2; have GW400 := N3; have E400 := N4; have NB399_400 := N5; have NB400_399 := N6; clear N0 N1 N2 N3 N4 N5 N6 hb hbox hg))
  have N0 := am (bd B399.out)
  have N1 := am (bd B400.out)
  have N2 := am (p1 HB.out)
  clear B399
  clear B400
  clear HB
  have B399 := N0
  have B400 := N1
  have HB := N2
  clear N0 N1 N2
  refine start_ (n := 9) (S := fun w' => w'.cell? ⟨g399, 0, none⟩ = some (I q aa0) ∧ w'.cell? ⟨g399, 1, none⟩ = some (J Aa1 la1.length ca1) ∧ w'.cell? ⟨g399, 2, none⟩ = some (J Aa2 la2.length ca2)) (ds := []) (Mk 9 0) (by kernel_rfl) rfl rfl ⟨(bc B399.out 0).trans rfl, (bc B399.out 1).trans rfl, (bc B399.out 2).trans rfl⟩ (fun hHeld => ?_); refine with_tabW spec_l5Copy.tab1 spec_l5Copy.bits1 (fun HT_ HW_ => ?_)
  generalize w4.drew = w5 at B399 B400 HB hHeld ⊢
  refine pure_ (i := 0) (N := some 6) (v := ?_) (a' := ?_) (Mk 9 1) rfl rfl (any_of HT_.out (by kernel_rfl)) (fun _ _ _ h => h) (Or.inl ⟨by rfl, ?_⟩) ?_ ?_
  rotate_left
  ·intro w'
   first | (go_simp; with_reducible rfl) | (go_simp; (try unfold Instr.field); go_simp; (try simp only [asAgg]); go_simp; with_reducible rfl)
  rotate_left
  ·simp only [Act.put, List.setIfInBounds_toArray, List.set_cons_zero, List.set_cons_succ, i64_w, i32_w]
   rfl
  refine pure_ (i := 3) (N := some 9) (v := ?_) (a' := ?_) (Mk 9 9) rfl rfl (any_of HT_.out (by kernel_rfl)) (fun _ _ _ h => h) (Or.inl ⟨by rfl, ?_⟩) ?_ ?_
  rotate_left
  ·intro w'
   first | (go_simp; with_reducible rfl) | (go_simp; (try unfold Instr.field); go_simp; (try simp only [asAgg]); go_simp; with_reducible rfl)
  rotate_left
  ·simp only [Act.put, List.setIfInBounds_toArray, List.set_cons_zero, List.set_cons_succ, i64_w, i32_w]
   rfl
  refine take_ (i := 1) (N := some 7) (v := ?_) (a' := ?_) (Mk 9 11) rfl rfl (take_ofW HT_.out HW_.out (by kernel_rfl)) (fun _ _ _ h => h) (Or.inl ⟨by rfl, ?_⟩) hHeld ?_ ?_
  rotate_left
  ·rintro w' ⟨s0, s1, s2⟩
   go_simp
   with_reducible rfl
  rotate_left
  ·simp only [Act.put, List.setIfInBounds_toArray, List.set_cons_zero, List.set_cons_succ, i64_w, i32_w]
   rfl
  refine take_ (i := 4) (N := some 10) (v := ?_) (a' := ?_) (Mk 9 27) rfl rfl (take_ofW HT_.out HW_.out (by kernel_rfl)) (fun _ _ _ h => h) (Or.inl ⟨by rfl, ?_⟩) hHeld ?_ ?_
  rotate_left
  ·rintro w' ⟨s0, s1, s2⟩
   go_simp
   with_reducible rfl
  rotate_left
  ·simp only [Act.put, List.setIfInBounds_toArray, List.set_cons_zero, List.set_cons_succ, i64_w, i32_w]
   rfl
  refine join_ (σ := Value × Value × Nat) 1 (Mk 9 255) (fun s_ => [(8, s_.1), (11, s_.2.1), (3, .pointer (some ⟨s_.2.2, 0, none⟩)), (12, .agg #[I q aa0, s_.2.1, .slice none 0 0])]) (fun s_ w' => (w'.cell? ⟨g399, 0, none⟩ = some (I q aa0) ∧ w'.cell? ⟨g399, 1, none⟩ = some (J Aa1 la1.length ca1) ∧ w'.cell? ⟨g399, 2, none⟩ = some (J Aa2 la2.length ca2)) ∧ (Kd.R k36 36 w' w.heap.size (fun _ => True) s_.2.1 y404) ∧ (w'.heap[g399]? = some (.cells #[I q aa0, J Aa1 la1.length ca1, J Aa2 la2.length ca2] 31 (0, 0))) ∧ (w'.heap[g400]? = some (.cells #[I q 0, .slice none 0 0, .slice none 0 0] 31 (0, 0))) ∧ (w'.heap[s_.2.2]? = some (.cells #[I q 0, .slice none 0 0, .slice none 0 0] 31 (0, 0))) ∧ (w.heap.size ≤ s_.2.2) ∧ (w.heap.size ≤ s_.2.2) ∧ (g399 ≠ s_.2.2) ∧ (s_.2.2 ≠ g399) ∧ (g400 ≠ s_.2.2) ∧ (s_.2.2 ≠ g400) ∧ (Below w.heap.size w w')) ?_ ?_
  rotate_left
  ·intro hCont
   refine two_ (i := 2) (j := 7) (Ni := some 8) (Nj := some 3) (Mk 9 31) (Mk 9 155) rfl rfl rfl rfl (two_of HT_.out (by kernel_rfl)) (by decide) (by decide) (fun K hK => ?_) (fun K hK => ?_)
   ·skip
    refine Kd.R_lit_step k36 _ 36 ?hg (N := 8) ?hd (xs := ([] : List (S36))) (inner := []) (ok := fun _ => True) (okp := fun _ => True) ?hr ?hp (fun _ hk => hk) trivial (Below.refl _ _) (Nat.le_refl _) (by simp) ?_; (case hd => rfl); (case hg => rfl); (case hr => first | (go_simp; done) | (go_simp; rfl)); (case hp => exact (Reps.none _ _))
    intro v402 w6 ho7 hb hg_ hnew_
    clear hg_ hnew_
    (first | rw [← Ny401.out] at ho7 | (simp only [Int.reduceToNat] at ho7; rw [← Ny401.out] at ho7))
    have N0 := am (rw1 ho7 (bz (by repeat (first | (with_reducible first | exact HB.out | apply pa | apply pN | apply p1 | refine bs ?_ E399.out | refine bs ?_ E400.out) | exact HB.out))))
    have N1 := am (bb (g := g399) (by (with_reducible repeat (first | apply bN | apply bd | apply ba)); exact B399.out) hb)
    have N2 := am (bb (g := g400) (by (with_reducible repeat (first | apply bN | apply bd | apply ba)); exact B400.out) hb)
    have N3 := am (bp (by repeat (first | (with_reducible first | exact HB.out | apply pa | apply pN | apply p1 | refine bs ?_ E399.out | refine bs ?_ E400.out) | exact HB.out)) hb)
    clear B399
    clear B400
    clear HB
    have O403 := N0
    have B399 := N1
    have B400 := N2
    have HB := N3
    clear N0 N1 N2 N3
    clear hb ho7
    refine hK.out _ _ ⟨(bc B399.out 0).trans rfl, (bc B399.out 1).trans rfl, (bc B399.out 2).trans rfl⟩ (fun hHeld => ?_)
    clear hK K
    refine norm_ (a' := ?_) ?_ ?_
    rotate_left
    ·show Act.put _ (some 8) _ = _
     simp only [Act.put, List.setIfInBounds_toArray, List.set_cons_zero, List.set_cons_succ, i64_w, i32_w]
     rfl
    refine two_ (i := 5) (j := 7) (Ni := some 11) (Nj := some 3) (Mk 9 63) (Mk 9 159) rfl rfl rfl rfl (two_of HT_.out (by kernel_rfl)) (by decide) (by decide) (fun K hK => ?_) (fun K hK => ?_)
    ·skip
     refine Kd.R_append_rows_step k36 (w0 := w) w.heap.size (by rfl) (.tmp 8) (.tmp 10) 28 36 (.agg #[(I q 0), (I q 0), (I q 0), (I q 0), (.bool false)]) 40 rfl Try.underlying28 info36 rfl (by decide) (by omega) v402 y401 la1 _ _ _ (fun _ => True) (fun _ => False) rfl rfl ?aO ?aR (fun _ _ h => h) (fun _ h => h.elim) ?aF ?aB ?aS ?aL ?_
     (case aR => repeat (first | exact (Kd.C_below HR0_1.out HB.out) | (with_reducible refine ca ?_ _) | (with_reducible refine cN ?_ _) | (with_reducible refine cd1 ?_)))
     (case aB => exact (by repeat (first | (with_reducible first | exact HB.out | apply pa | apply pN | apply p1 | refine bs ?_ E399.out | refine bs ?_ E400.out) | exact HB.out)))
     (case aF => exact (fun _ _ => trivial))
     (case aO => exact (by (with_reducible repeat (first | apply ra | apply rN | apply rd1)); exact O403.out))
     (case aS => exact (bz (by repeat (first | (with_reducible first | exact HB.out | apply pa | apply pN | apply p1 | refine bs ?_ E399.out | refine bs ?_ E400.out) | exact HB.out))))
     (case aL => have := LMc2.out; omega)
     intro v405 w8 ho hb hg hat
     rw [← Ny404.out] at ho
     have N0 := am (blk_grown (g := g399) (o := .cells #[I q aa0, J Aa1 la1.length ca1, J Aa2 la2.length ca2] 31 (0, 0)) (by (with_reducible repeat (first | apply bN | apply bd | apply ba)); exact B399.out) hg (Kd.R_ne O403.out B399.out (by decide)))
     have N1 := am (blk_grown (g := g400) (o := .cells #[I q 0, .slice none 0 0, .slice none 0 0] 31 (0, 0)) (by (with_reducible repeat (first | apply bN | apply bd | apply ba)); exact B400.out) hg (Kd.R_ne O403.out B400.out (by decide)))
     have N2 := am (hb)
     have N3 := am (ho)
     clear B399
     clear B400
     clear HB
     clear O403
     have B399 := N0
     have B400 := N1
     have HB := N2
     have O406 := N3
     clear N0 N1 N2 N3
     clear ho hb hg hat
     obtain ⟨Ao9, co9, eo9⟩ := Kd.R_slice O406.out
     (first | subst eo9 | (injection eo9 with f1_ f2_ f3_; have f4_ := f1_.symm; have f5_ := f3_.symm; clear f1_ f2_ f3_; subst f4_; subst f5_))
     refine hK.out _ _ ⟨(bc B399.out 0).trans rfl, (bc B399.out 1).trans rfl, (bc B399.out 2).trans rfl⟩ (fun hHeld => ?_)
     clear hK K
     refine norm_ (a' := ?_) ?_ ?_
     rotate_left
     ·show Act.put _ (some 11) _ = _
      simp only [Act.put, List.setIfInBounds_toArray, List.set_cons_zero, List.set_cons_succ, i64_w, i32_w]
      rfl
     refine pure_ (i := 6) (N := some 12) (v := ?_) (a' := ?_) (Mk 9 127) rfl rfl (any_of HT_.out (by kernel_rfl)) (fun _ _ _ h => h) (Or.inl ⟨by rfl, ?_⟩) ?_ ?_
     rotate_left
     ·intro w'
      first | (go_simp; with_reducible rfl) | (go_simp; (try unfold Instr.field); go_simp; (try simp only [asAgg]); go_simp; with_reducible rfl)
     rotate_left
     ·simp only [Act.put, List.setIfInBounds_toArray, List.set_cons_zero, List.set_cons_succ, i64_w, i32_w]
      rfl
     refine one_ (i := 7) (N := some 3) (Mk 9 255) rfl rfl (one_of HT_.out (by kernel_rfl)) (by decide) (fun K hK => ?_)
     refine box_step ?hg (N := 3) ?hd (cs := #[I q 0, .slice none 0 0, .slice none 0 0]) (t := 31) ?hr ?_; (case hd => rfl); (case hg => rfl); (case hr => first | (go_simp; done) | (go_simp; rfl))
     intro g407 hg w10 hbox hb
     have N0 := am (rb (by (with_reducible repeat (first | apply ra | apply rN | apply rd1)); exact O406.out) hb)
     have N1 := am (bb (g := g399) (by (with_reducible repeat (first | apply bN | apply bd | apply ba)); exact B399.out) hb)
     have N2 := am (bb (g := g400) (by (with_reducible repeat (first | apply bN | apply bd | apply ba)); exact B400.out) hb)
     have N3 := am (bp (by repeat (first | (with_reducible first | exact HB.out | apply pa | apply pN | apply p1 | refine bs ?_ E399.out | refine bs ?_ E400.out) | exact HB.out)) hb)
     have N4 := am (hbox)
     have N5 := am ((by rw [hg]; exact (bz (by repeat (first | (with_reducible first | exact HB.out | apply pa | apply pN | apply p1 | refine bs ?_ E399.out | refine bs ?_ E400.out) | exact HB.out))) : w.heap.size ≤ g407))
     have N6 := am ((by rw [hg]; exact (bz (by repeat (first | (with_reducible first | exact HB.out | apply pa | apply pN | apply p1 | refine bs ?_ E399.out | refine bs ?_ E400.out) | exact HB.out))) : w.heap.size ≤ g407))
     have N7 := am ((by rw [hg]; exact Nat.ne_of_lt (bl (g := g399) (by (with_reducible repeat (first | apply bN | apply bd | apply ba)); exact B399.out)) : g399 ≠ g407))
     have N8 := am ((by rw [hg]; exact Nat.ne_of_gt (bl (g := g399) (by (with_reducible repeat (first | apply bN | apply bd | apply ba)); exact B399.out)) : g407 ≠ g399))
     have N9 := am ((by rw [hg]; exact Nat.ne_of_lt (bl (g := g400) (by (with_reducible repeat (first | apply bN | apply bd | apply ba)); exact B400.out)) : g400 ≠ g407))
     have N10 := am ((by rw [hg]; exact Nat.ne_of_gt (bl (g := g400) (by (with_reducible repeat (first | apply bN | apply bd | apply ba)); exact B400.out)) : g407 ≠ g400))
     clear O406
     clear B399
     clear B400
     clear HB
     have O406 := N0
     have B399 := N1
     have B400 := N2
     have HB := N3
     have B407 := N4
     have GW407 := N5
     have E407 := N6
     have NB399_407 := N7
     have NB407_399 := N8
     have NB400_407 := N9
     have NB407_400 := N10
     clear N0 N1 N2 N3 N4 N5 N6 N7 N8 N9 N10
     clear hb hbox hg
     refine hK.out _ _ ⟨(bc B399.out 0).trans rfl, (bc B399.out 1).trans rfl, (bc B399.out 2).trans rfl⟩ (fun hHeld => ?_)
     clear hK K
     refine norm_ (a' := ?_) ?_ ?_
     rotate_left
     ·show Act.put _ (some 3) _ = _
      simp only [Act.put, List.setIfInBounds_toArray, List.set_cons_zero, List.set_cons_succ, i64_w, i32_w]
      rfl
     exact norm_ (by simp only [putAll, Act.put, List.setIfInBounds_toArray, List.set_cons_zero, List.set_cons_succ]) (hCont (v402, J Ao9 y404.length co9, g407) _ ⟨hHeld, (by (with_reducible repeat (first | apply ra | apply rN | apply rd1)); exact O406.out), (by (with_reducible repeat (first | apply bN | apply bd | apply ba)); exact B399.out), (by (with_reducible repeat (first | apply bN | apply bd | apply ba)); exact B400.out), (by (with_reducible repeat (first | apply bN | apply bd | apply ba)); exact B407.out), GW407.out, E407.out, NB399_407.out, NB407_399.out, NB400_407.out, NB407_400.out, (by repeat (first | (with_reducible first | exact HB.out | apply pa | apply pN | apply p1 | refine bs ?_ E399.out | refine bs ?_ E400.out | refine bs ?_ E407.out) | exact HB.out))⟩)
    ·skip
     refine box_step ?hg (N := 3) ?hd (cs := #[I q 0, .slice none 0 0, .slice none 0 0]) (t := 31) ?hr ?_; (case hd => rfl); (case hg => rfl); (case hr => first | (go_simp; done) | (go_simp; rfl))
     intro g407 hg w8 hbox hb
     have N0 := am (rb (by (with_reducible repeat (first | apply ra | apply rN | apply rd1)); exact O403.out) hb)
     have N1 := am (bb (g := g399) (by (with_reducible repeat (first | apply bN | apply bd | apply ba)); exact B399.out) hb)
     have N2 := am (bb (g := g400) (by (with_reducible repeat (first | apply bN | apply bd | apply ba)); exact B400.out) hb)
     have N3 := am (bp (by repeat (first | (with_reducible first | exact HB.out | apply pa | apply pN | apply p1 | refine bs ?_ E399.out | refine bs ?_ E400.out) | exact HB.out)) hb)
     have N4 := am (hbox)
     have N5 := am ((by rw [hg]; exact (bz (by repeat (first | (with_reducible first | exact HB.out | apply pa | apply pN | apply p1 | refine bs ?_ E399.out | refine bs ?_ E400.out) | exact HB.out))) : w.heap.size ≤ g407))
     have N6 := am ((by rw [hg]; exact (bz (by repeat (first | (with_reducible first | exact HB.out | apply pa | apply pN | apply p1 | refine bs ?_ E399.out | refine bs ?_ E400.out) | exact HB.out))) : w.heap.size ≤ g407))
     have N7 := am ((by rw [hg]; exact Nat.ne_of_lt (bl (g := g399) (by (with_reducible repeat (first | apply bN | apply bd | apply ba)); exact B399.out)) : g399 ≠ g407))
     have N8 := am ((by rw [hg]; exact Nat.ne_of_gt (bl (g := g399) (by (with_reducible repeat (first | apply bN | apply bd | apply ba)); exact B399.out)) : g407 ≠ g399))
     have N9 := am ((by rw [hg]; exact Nat.ne_of_lt (bl (g := g400) (by (with_reducible repeat (first | apply bN | apply bd | apply ba)); exact B400.out)) : g400 ≠ g407))
     have N10 := am ((by rw [hg]; exact Nat.ne_of_gt (bl (g := g400) (by (with_reducible repeat (first | apply bN | apply bd | apply ba)); exact B400.out)) : g407 ≠ g400))
     clear O403
     clear B399
     clear B400
     clear HB
     have O403 := N0
     have B399 := N1
     have B400 := N2
     have HB := N3
     have B407 := N4
     have GW407 := N5
     have E407 := N6
     have NB399_407 := N7
     have NB407_399 := N8
     have NB400_407 := N9
     have NB407_400 := N10
     clear N0 N1 N2 N3 N4 N5 N6 N7 N8 N9 N10
     clear hb hbox hg
     refine hK.out _ _ ⟨(bc B399.out 0).trans rfl, (bc B399.out 1).trans rfl, (bc B399.out 2).trans rfl⟩ (fun hHeld => ?_)
     clear hK K
     refine norm_ (a' := ?_) ?_ ?_
     rotate_left
     ·show Act.put _ (some 3) _ = _
      simp only [Act.put, List.setIfInBounds_toArray, List.set_cons_zero, List.set_cons_succ, i64_w, i32_w]
      rfl
     refine one_ (i := 5) (N := some 11) (Mk 9 191) rfl rfl (one_of HT_.out (by kernel_rfl)) (by decide) (fun K hK => ?_)
     refine Kd.R_append_rows_step k36 (w0 := w) w.heap.size (by rfl) (.tmp 8) (.tmp 10) 28 36 (.agg #[(I q 0), (I q 0), (I q 0), (I q 0), (.bool false)]) 40 rfl Try.underlying28 info36 rfl (by decide) (by omega) v402 y401 la1 _ _ _ (fun _ => True) (fun _ => False) rfl rfl ?aO ?aR (fun _ _ h => h) (fun _ h => h.elim) ?aF ?aB ?aS ?aL ?_
     (case aR => repeat (first | exact (Kd.C_below HR0_1.out HB.out) | (with_reducible refine ca ?_ _) | (with_reducible refine cN ?_ _) | (with_reducible refine cd1 ?_)))
     (case aB => exact (by repeat (first | (with_reducible first | exact HB.out | apply pa | apply pN | apply p1 | refine bs ?_ E399.out | refine bs ?_ E400.out | refine bs ?_ E407.out) | exact HB.out)))
     (case aF => exact (fun _ _ => trivial))
     (case aO => exact (by (with_reducible repeat (first | apply ra | apply rN | apply rd1)); exact O403.out))
     (case aS => exact (bz (by repeat (first | (with_reducible first | exact HB.out | apply pa | apply pN | apply p1 | refine bs ?_ E399.out | refine bs ?_ E400.out | refine bs ?_ E407.out) | exact HB.out))))
     (case aL => have := LMc2.out; omega)
     intro v405 w9 ho hb hg hat
     rw [← Ny404.out] at ho
     have N0 := am (blk_grown (g := g399) (o := .cells #[I q aa0, J Aa1 la1.length ca1, J Aa2 la2.length ca2] 31 (0, 0)) (by (with_reducible repeat (first | apply bN | apply bd | apply ba)); exact B399.out) hg (Kd.R_ne O403.out B399.out (by decide)))
     have N1 := am (blk_grown (g := g400) (o := .cells #[I q 0, .slice none 0 0, .slice none 0 0] 31 (0, 0)) (by (with_reducible repeat (first | apply bN | apply bd | apply ba)); exact B400.out) hg (Kd.R_ne O403.out B400.out (by decide)))
     have N2 := am (blk_grown (g := g407) (o := .cells #[I q 0, .slice none 0 0, .slice none 0 0] 31 (0, 0)) (by (with_reducible repeat (first | apply bN | apply bd | apply ba)); exact B407.out) hg (Kd.R_ne O403.out B407.out (by decide)))
     have N3 := am (hb)
     have N4 := am (ho)
     clear B399
     clear B400
     clear B407
     clear HB
     clear O403
     have B399 := N0
     have B400 := N1
     have B407 := N2
     have HB := N3
     have O406 := N4
     clear N0 N1 N2 N3 N4
     clear ho hb hg hat
     obtain ⟨Ao10, co10, eo10⟩ := Kd.R_slice O406.out
     (first | subst eo10 | (injection eo10 with f1_ f2_ f3_; have f4_ := f1_.symm; have f5_ := f3_.symm; clear f1_ f2_ f3_; subst f4_; subst f5_))
     refine hK.out _ _ ⟨(bc B399.out 0).trans rfl, (bc B399.out 1).trans rfl, (bc B399.out 2).trans rfl⟩ (fun hHeld => ?_)
     clear hK K
     refine norm_ (a' := ?_) ?_ ?_
     rotate_left
     ·show Act.put _ (some 11) _ = _
      simp only [Act.put, List.setIfInBounds_toArray, List.set_cons_zero, List.set_cons_succ, i64_w, i32_w]
      rfl
     refine pure_ (i := 6) (N := some 12) (v := ?_) (a' := ?_) (Mk 9 255) rfl rfl (any_of HT_.out (by kernel_rfl)) (fun _ _ _ h => h) (Or.inl ⟨by rfl, ?_⟩) ?_ ?_
     rotate_left
     ·intro w'
      first | (go_simp; with_reducible rfl) | (go_simp; (try unfold Instr.field); go_simp; (try simp only [asAgg]); go_simp; with_reducible rfl)
     rotate_left
     ·simp only [Act.put, List.setIfInBounds_toArray, List.set_cons_zero, List.set_cons_succ, i64_w, i32_w]
      rfl
     exact norm_ (by simp only [putAll, Act.put, List.setIfInBounds_toArray, List.set_cons_zero, List.set_cons_succ]) (hCont (v402, J Ao10 y404.length co10, g407) _ ⟨hHeld, (by (with_reducible repeat (first | apply ra | apply rN | apply rd1)); exact O406.out), (by (with_reducible repeat (first | apply bN | apply bd | apply ba)); exact B399.out), (by (with_reducible repeat (first | apply bN | apply bd | apply ba)); exact B400.out), (by (with_reducible repeat (first | apply bN | apply bd | apply ba)); exact B407.out), GW407.out, E407.out, NB399_407.out, NB407_399.out, NB400_407.out, NB407_400.out, (by repeat (first | (with_reducible first | exact HB.out | apply pa | apply pN | apply p1 | refine bs ?_ E399.out | refine bs ?_ E400.out | refine bs ?_ E407.out) | exact HB.out))⟩)
   ·skip
    refine box_step ?hg (N := 3) ?hd (cs := #[I q 0, .slice none 0 0, .slice none 0 0]) (t := 31) ?hr ?_; (case hd => rfl); (case hg => rfl); (case hr => first | (go_simp; done) | (go_simp; rfl))
    intro g407 hg w6 hbox hb
    have N0 := am (bb (g := g399) (by (with_reducible repeat (first | apply bN | apply bd | apply ba)); exact B399.out) hb)
    have N1 := am (bb (g := g400) (by (with_reducible repeat (first | apply bN | apply bd | apply ba)); exact B400.out) hb)
    have N2 := am (bp (by repeat (first | (with_reducible first | exact HB.out | apply pa | apply pN | apply p1 | refine bs ?_ E399.out | refine bs ?_ E400.out) | exact HB.out)) hb)
    have N3 := am (hbox)
    have N4 := am ((by rw [hg]; exact (bz (by repeat (first | (with_reducible first | exact HB.out | apply pa | apply pN | apply p1 | refine bs ?_ E399.out | refine bs ?_ E400.out) | exact HB.out))) : w.heap.size ≤ g407))
    have N5 := am ((by rw [hg]; exact (bz (by repeat (first | (with_reducible first | exact HB.out | apply pa | apply pN | apply p1 | refine bs ?_ E399.out | refine bs ?_ E400.out) | exact HB.out))) : w.heap.size ≤ g407))
    have N6 := am ((by rw [hg]; exact Nat.ne_of_lt (bl (g := g399) (by (with_reducible repeat (first | apply bN | apply bd | apply ba)); exact B399.out)) : g399 ≠ g407))
    have N7 := am ((by rw [hg]; exact Nat.ne_of_gt (bl (g := g399) (by (with_reducible repeat (first | apply bN | apply bd | apply ba)); exact B399.out)) : g407 ≠ g399))
    have N8 := am ((by rw [hg]; exact Nat.ne_of_lt (bl (g := g400) (by (with_reducible repeat (first | apply bN | apply bd | apply ba)); exact B400.out)) : g400 ≠ g407))
    have N9 := am ((by rw [hg]; exact Nat.ne_of_gt (bl (g := g400) (by (with_reducible repeat (first | apply bN | apply bd | apply ba)); exact B400.out)) : g407 ≠ g400))
    clear B399
    clear B400
    clear HB
    have B399 := N0
    have B400 := N1
    have HB := N2
    have B407 := N3
    have GW407 := N4
    have E407 := N5
    have NB399_407 := N6
    have NB407_399 := N7
    have NB400_407 := N8
    have NB407_400 := N9
    clear N0 N1 N2 N3 N4 N5 N6 N7 N8 N9
    clear hb hbox hg
    refine hK.out _ _ ⟨(bc B399.out 0).trans rfl, (bc B399.out 1).trans rfl, (bc B399.out 2).trans rfl⟩ (fun hHeld => ?_)
    clear hK K
    refine norm_ (a' := ?_) ?_ ?_
    rotate_left
    ·show Act.put _ (some 3) _ = _
     simp only [Act.put, List.setIfInBounds_toArray, List.set_cons_zero, List.set_cons_succ, i64_w, i32_w]
     rfl
    refine one_ (i := 2) (N := some 8) (Mk 9 159) rfl rfl (one_of HT_.out (by kernel_rfl)) (by decide) (fun K hK => ?_)
    refine Kd.R_lit_step k36 _ 36 ?hg (N := 8) ?hd (xs := ([] : List (S36))) (inner := []) (ok := fun _ => True) (okp := fun _ => True) ?hr ?hp (fun _ hk => hk) trivial (Below.refl _ _) (Nat.le_refl _) (by simp) ?_; (case hd => rfl); (case hg => rfl); (case hr => first | (go_simp; done) | (go_simp; rfl)); (case hp => exact (Reps.none _ _))
    intro v402 w7 ho8 hb hg_ hnew_
    clear hg_ hnew_
    (first | rw [← Ny401.out] at ho8 | (simp only [Int.reduceToNat] at ho8; rw [← Ny401.out] at ho8))
    have N0 := am (rw1 ho8 (bz (by repeat (first | (with_reducible first | exact HB.out | apply pa | apply pN | apply p1 | refine bs ?_ E399.out | refine bs ?_ E400.out | refine bs ?_ E407.out) | exact HB.out))))
    have N1 := am (bb (g := g399) (by (with_reducible repeat (first | apply bN | apply bd | apply ba)); exact B399.out) hb)
    have N2 := am (bb (g := g400) (by (with_reducible repeat (first | apply bN | apply bd | apply ba)); exact B400.out) hb)
    have N3 := am (bb (g := g407) (by (with_reducible repeat (first | apply bN | apply bd | apply ba)); exact B407.out) hb)
    have N4 := am (bp (by repeat (first | (with_reducible first | exact HB.out | apply pa | apply pN | apply p1 | refine bs ?_ E399.out | refine bs ?_ E400.out | refine bs ?_ E407.out) | exact HB.out)) hb)
    clear B399
    clear B400
    clear B407
    clear HB
    have O403 := N0
    have B399 := N1
    have B400 := N2
    have B407 := N3
    have HB := N4
    clear N0 N1 N2 N3 N4
    clear hb ho8
    refine hK.out _ _ ⟨(bc B399.out 0).trans rfl, (bc B399.out 1).trans rfl, (bc B399.out 2).trans rfl⟩ (fun hHeld => ?_)
    clear hK K
    refine norm_ (a' := ?_) ?_ ?_
    rotate_left
    ·show Act.put _ (some 8) _ = _
     simp only [Act.put, List.setIfInBounds_toArray, List.set_cons_zero, List.set_cons_succ, i64_w, i32_w]
     rfl
    refine one_ (i := 5) (N := some 11) (Mk 9 191) rfl rfl (one_of HT_.out (by kernel_rfl)) (by decide) (fun K hK => ?_)
    refine Kd.R_append_rows_step k36 (w0 := w) w.heap.size (by rfl) (.tmp 8) (.tmp 10) 28 36 (.agg #[(I q 0), (I q 0), (I q 0), (I q 0), (.bool false)]) 40 rfl Try.underlying28 info36 rfl (by decide) (by omega) v402 y401 la1 _ _ _ (fun _ => True) (fun _ => False) rfl rfl ?aO ?aR (fun _ _ h => h) (fun _ h => h.elim) ?aF ?aB ?aS ?aL ?_
    (case aR => repeat (first | exact (Kd.C_below HR0_1.out HB.out) | (with_reducible refine ca ?_ _) | (with_reducible refine cN ?_ _) | (with_reducible refine cd1 ?_)))
    (case aB => exact (by repeat (first | (with_reducible first | exact HB.out | apply pa | apply pN | apply p1 | refine bs ?_ E399.out | refine bs ?_ E400.out | refine bs ?_ E407.out) | exact HB.out)))
    (case aF => exact (fun _ _ => trivial))
    (case aO => exact (by (with_reducible repeat (first | apply ra | apply rN | apply rd1)); exact O403.out))
    (case aS => exact (bz (by repeat (first | (with_reducible first | exact HB.out | apply pa | apply pN | apply p1 | refine bs ?_ E399.out | refine bs ?_ E400.out | refine bs ?_ E407.out) | exact HB.out))))
    (case aL => have := LMc2.out; omega)
    intro v405 w9 ho hb hg hat
    rw [← Ny404.out] at ho
    have N0 := am (blk_grown (g := g399) (o := .cells #[I q aa0, J Aa1 la1.length ca1, J Aa2 la2.length ca2] 31 (0, 0)) (by (with_reducible repeat (first | apply bN | apply bd | apply ba)); exact B399.out) hg (Kd.R_ne O403.out B399.out (by decide)))
    have N1 := am (blk_grown (g := g400) (o := .cells #[I q 0, .slice none 0 0, .slice none 0 0] 31 (0, 0)) (by (with_reducible repeat (first | apply bN | apply bd | apply ba)); exact B400.out) hg (Kd.R_ne O403.out B400.out (by decide)))
    have N2 := am (blk_grown (g := g407) (o := .cells #[I q 0, .slice none 0 0, .slice none 0 0] 31 (0, 0)) (by (with_reducible repeat (first | apply bN | apply bd | apply ba)); exact B407.out) hg (Kd.R_ne O403.out B407.out (by decide)))
    have N3 := am (hb)
    have N4 := am (ho)
    clear B399
    clear B400
    clear B407
    clear HB
    clear O403
    have B399 := N0
    have B400 := N1
    have B407 := N2
    have HB := N3
    have O406 := N4
    clear N0 N1 N2 N3 N4
    clear ho hb hg hat
    obtain ⟨Ao10, co10, eo10⟩ := Kd.R_slice O406.out
    (first | subst eo10 | (injection eo10 with f1_ f2_ f3_; have f4_ := f1_.symm; have f5_ := f3_.symm; clear f1_ f2_ f3_; subst f4_; subst f5_))
    refine hK.out _ _ ⟨(bc B399.out 0).trans rfl, (bc B399.out 1).trans rfl, (bc B399.out 2).trans rfl⟩ (fun hHeld => ?_)
    clear hK K
    refine norm_ (a' := ?_) ?_ ?_
    rotate_left
    ·show Act.put _ (some 11) _ = _
     simp only [Act.put, List.setIfInBounds_toArray, List.set_cons_zero, List.set_cons_succ, i64_w, i32_w]
     rfl
    refine pure_ (i := 6) (N := some 12) (v := ?_) (a' := ?_) (Mk 9 255) rfl rfl (any_of HT_.out (by kernel_rfl)) (fun _ _ _ h => h) (Or.inl ⟨by rfl, ?_⟩) ?_ ?_
    rotate_left
    ·intro w'
     first | (go_simp; with_reducible rfl) | (go_simp; (try unfold Instr.field); go_simp; (try simp only [asAgg]); go_simp; with_reducible rfl)
    rotate_left
    ·simp only [Act.put, List.setIfInBounds_toArray, List.set_cons_zero, List.set_cons_succ, i64_w, i32_w]
     rfl
    exact norm_ (by simp only [putAll, Act.put, List.setIfInBounds_toArray, List.set_cons_zero, List.set_cons_succ]) (hCont (v402, J Ao10 y404.length co10, g407) _ ⟨hHeld, (by (with_reducible repeat (first | apply ra | apply rN | apply rd1)); exact O406.out), (by (with_reducible repeat (first | apply bN | apply bd | apply ba)); exact B399.out), (by (with_reducible repeat (first | apply bN | apply bd | apply ba)); exact B400.out), (by (with_reducible repeat (first | apply bN | apply bd | apply ba)); exact B407.out), GW407.out, E407.out, NB399_407.out, NB407_399.out, NB400_407.out, NB407_400.out, (by repeat (first | (with_reducible first | exact HB.out | apply pa | apply pN | apply p1 | refine bs ?_ E399.out | refine bs ?_ E400.out | refine bs ?_ E407.out) | exact HB.out))⟩)
  rintro ⟨v402, v405, g407⟩ w11 ⟨hS_, h0_, h1_, h2_, h3_, h4_, h5_, h6_, h7_, h8_, h9_, h10_⟩
  have N0 : Aside0 (Kd.R k36 36 w11 w.heap.size (fun _ => True) v405 y404) := ⟨h0_⟩
  have N1 : Aside0 (w11.heap[g399]? = some (.cells #[I q aa0, J Aa1 la1.length ca1, J Aa2 la2.length ca2] 31 (0, 0))) := ⟨h1_⟩
  have N2 : Aside0 (w11.heap[g400]? = some (.cells #[I q 0, .slice none 0 0, .slice none 0 0] 31 (0, 0))) := ⟨h2_⟩
  have N3 : Aside0 (w11.heap[g407]? = some (.cells #[I q 0, .slice none 0 0, .slice none 0 0] 31 (0, 0))) := ⟨h3_⟩
  have N4 : Aside0 (w.heap.size ≤ g407) := ⟨h4_⟩
  have N5 : Aside0 (w.heap.size ≤ g407) := ⟨h5_⟩
  have N6 : Aside0 (g399 ≠ g407) := ⟨h6_⟩
  have N7 : Aside0 (g407 ≠ g399) := ⟨h7_⟩
  have N8 : Aside0 (g400 ≠ g407) := ⟨h8_⟩
  have N9 : Aside0 (g407 ≠ g400) := ⟨h9_⟩
  have N10 : Aside0 (Below w.heap.size w w11) := ⟨h10_⟩
  clear B399
  clear B400
  clear HB
  clear h0_ h1_ h2_ h3_ h4_ h5_ h6_ h7_ h8_ h9_ h10_
  have O406 := N0
  have B399 := N1
  have B400 := N2
  have B407 := N3
  have GW407 := N4
  have E407 := N5
  have NB399_407 := N6
  have NB407_399 := N7
  have NB400_407 := N8
  have NB407_400 := N9
  have HB := N10
  clear N0 N1 N2 N3 N4 N5 N6 N7 N8 N9 N10
  have hHeld : w11.cell? ⟨g399, 0, none⟩ = some (I q aa0) ∧ w11.cell? ⟨g399, 1, none⟩ = some (J Aa1 la1.length ca1) ∧ w11.cell? ⟨g399, 2, none⟩ = some (J Aa2 la2.length ca2) := hS_
  obtain ⟨Ao12, co12, eo12⟩ := Kd.R_slice O406.out
  (first | subst eo12 | (injection eo12 with f1_ f2_ f3_; have f4_ := f1_.symm; have f5_ := f3_.symm; clear f1_ f2_ f3_; subst f4_; subst f5_))
  refine norm_ (a' := ?_) ?_ ?_
  rotate_left
  ·simp only [putAll, Act.put, List.setIfInBounds_toArray, List.set_cons_zero, List.set_cons_succ]
   rfl
  refine one_ (i := 8) (N := none) (Mk 9 511) rfl rfl (one_of HT_.out (by kernel_rfl)) (by decide) (fun K hK => ?_)
  have hs13 : w11.cell? ⟨g407, 0, none⟩ = some (I q 0) := (bc B407.out 0).trans rfl
  have hfs13 := bf B407.out 0
  have hns13_0 := NB399_407.out
  have hns13_1 := NB400_407.out
  have hms13_0 := NB407_399.out
  have hms13_1 := NB407_400.out
  have hs14 : w11.cell? ⟨g407, 1, none⟩ = some (.slice none 0 0) := (bc B407.out 1).trans rfl
  have hfs14 := bf B407.out 1
  have hns14_0 := NB399_407.out
  have hns14_1 := NB400_407.out
  have hms14_0 := NB407_399.out
  have hms14_1 := NB407_400.out
  have hs15 : w11.cell? ⟨g407, 2, none⟩ = some (.slice none 0 0) := (bc B407.out 2).trans rfl
  have hfs15 := bf B407.out 2
  have hns15_0 := NB399_407.out
  have hns15_1 := NB400_407.out
  have hms15_0 := NB407_399.out
  have hms15_1 := NB407_400.out
  refine skip_ (w1 := ?_) (by rfl) rfl ?_ ?_
  rotate_left
  ·go_simp
   rfl
  refine hK.out _ _ ⟨((cell_far (p := ⟨g407, _, none⟩) NB399_407.out _).trans (((cell_far (p := ⟨g407, _, none⟩) NB399_407.out _).trans (((cell_far (p := ⟨g407, _, none⟩) NB399_407.out _).trans (hHeld.1)))))), ((cell_far (p := ⟨g407, _, none⟩) NB399_407.out _).trans (((cell_far (p := ⟨g407, _, none⟩) NB399_407.out _).trans (((cell_far (p := ⟨g407, _, none⟩) NB399_407.out _).trans (hHeld.2.1)))))), ((cell_far (p := ⟨g407, _, none⟩) NB399_407.out _).trans (((cell_far (p := ⟨g407, _, none⟩) NB399_407.out _).trans (((cell_far (p := ⟨g407, _, none⟩) NB399_407.out _).trans (hHeld.2.2))))))⟩ (fun hHeld => ?_)
  clear hK K
  refine done_ (done_of HT_.out (by kernel_rfl)) ?_
  try go_wp2
  go_loopg [4] k (fun kq v4 w' => ∃ (x4_1 : Int) (x408002_1 : List (S64)) (u408002 : Value), v4 = I q x4_1 ∧ Aside0 (spec_l5Copy.l0 kq x4_1 aa0 la1 la2 aa0 y404 x408002_1 = some (r1, r2, r3)) ∧ Aside0 (kq ≤ k) ∧ Aside0 (Kd.R k36 36 w' w.heap.size (fun _ => True) (J Ao12 y404.length co12) y404) ∧ Aside0 (Kd.S k64 64 w' w.heap.size (fun _ => True) u408002 x408002_1) ∧ Aside0 (w'.heap[g399]? = some (.cells #[I q aa0, (J Aa1 la1.length ca1), (J Aa2 la2.length ca2)] 31 (0, 0))) ∧ Aside0 (w'.heap[g400]? = some (.cells #[I q 0, (.slice none 0 0), (.slice none 0 0)] 31 (0, 0))) ∧ Aside0 (w'.heap[g407]? = some (.cells #[I q aa0, (J Ao12 y404.length co12), u408002] 31 (0, 0))) ∧ Aside0 (Below w.heap.size w w'))
  case atStart => exact ⟨(0), (([] : List (S64))), (.slice none 0 0), (by first | rfl | (simp; done) | (simp [*]; done)), H', ⟨Nat.le_refl _⟩, ⟨by (with_reducible repeat (first | apply ra | apply rN | apply rd1)); exact Kd.R_mono (rf (p := ⟨g407, 2, none⟩) (rf (p := ⟨g407, 1, none⟩) (rf (p := ⟨g407, 0, none⟩) (Kd.R_types O406.out B407.out (by decide)) (fun _ hk => hk.2) (I q aa0)) (fun _ hk => hk.2) (J Ao12 y404.length co12)) (fun _ hk => hk.2) (.slice none 0 0)) (fun _ hk => trivial)⟩, ⟨by first | exact Kd.S_nil _ _ _ _ _ | exact Kd.N_nil _ _ _ _ _ | exact Kd.V_nil _ _ _ _ _ | exact Kd.Q_nil _ _ _ _ _ | exact Kd.R_nil _ _ _ _ _⟩, ⟨by (iterate 3 ((with_reducible repeat (first | apply bN | apply bd | apply ba)); refine bq ?_ NB399_407.out _)); (with_reducible repeat (first | apply bN | apply bd | apply ba)); exact B399.out⟩, ⟨by (iterate 3 ((with_reducible repeat (first | apply bN | apply bd | apply ba)); refine bq ?_ NB400_407.out _)); (with_reducible repeat (first | apply bN | apply bd | apply ba)); exact B400.out⟩, ⟨by (with_reducible repeat (first | apply bN | apply bd | apply ba)); exact pu3b B407.out⟩, ⟨by repeat (first | (with_reducible first | exact HB.out | apply pa | apply pN | apply p1 | refine bs ?_ E399.out | refine bs ?_ E400.out | refine bs ?_ E407.out) | exact HB.out)⟩⟩
  case round =>
   clear H'
   try clear c2
   try clear p2
   try clear c9
   obtain ⟨x4_1, x408002_1, u408002, rfl, HA, HK1, o0, o1, B399, B400, B407, HB⟩ := hrel
   cases gk with
   | zero => exact absurd HA.out (by simp [spec_l5Copy.l0])
   | succ k1 =>
    have H := HA.out
    clear HA
    simp only [spec_l5Copy.l0] at H
    by_cases c16 : x4_1 < (la2.length : Int)
    ·rw [if_pos c16] at H
     have c16b0 : decide (x4_1 < (la2.length : Int)) = true := decide_eq_true c16
     clear c16
     by_cases c17 : 0 ≤ x4_1
     ·rw [if_pos c17] at H
      have c17b0 : decide (0 ≤ x4_1) = true := decide_eq_true c17
      clear c17
      obtain ⟨y410, hy410⟩ : ∃ y_ : List Int, y_ = (([] : List Int)) := ⟨_, rfl⟩
      replace H : (if y410.length + ((rd_T64 la2 x4_1).f3).length < 17592186044416 then (if x408002_1.length < 2932031007402 then (spec_l5Copy.l0 k1 (wrap64 (x4_1 + 1)) aa0 la1 la2 aa0 y404 (x408002_1 ++ [(⟨(rd_T64 la2 x4_1).f0, (rd_T64 la2 x4_1).f1, (rd_T64 la2 x4_1).f2, (y410 ++ ((rd_T64 la2 x4_1).f3))⟩ : S64)])) else (none)) else (none)) = some (r1, r2, r3) := by first | (rw [hy410]; with_reducible exact H) | (have H2_ := (Option.bind_some _ _).symm.trans H; rw [hy410]; with_reducible exact H2_) | (have H2_ := (Option.bind_some _ _).symm.trans H; with_reducible exact H2_) | with_reducible exact H | (rw [hy410]; exact H) | exact H
      have Ny410 := am hy410
      clear hy410
      by_cases c18 : y410.length + ((rd_T64 la2 x4_1).f3).length < 17592186044416
      ·rw [if_pos c18] at H
       have LMc18 := am c18
       clear c18
       obtain ⟨y413, hy413⟩ : ∃ y_ : List Int, y_ = (y410 ++ ((rd_T64 la2 x4_1).f3)) := ⟨_, rfl⟩
       replace H : (if x408002_1.length < 2932031007402 then (spec_l5Copy.l0 k1 (wrap64 (x4_1 + 1)) aa0 la1 la2 aa0 y404 (x408002_1 ++ [(⟨(rd_T64 la2 x4_1).f0, (rd_T64 la2 x4_1).f1, (rd_T64 la2 x4_1).f2, y413⟩ : S64)])) else (none)) = some (r1, r2, r3) := by first | (rw [hy413]; with_reducible exact H) | (have H2_ := (Option.bind_some _ _).symm.trans H; rw [hy413]; with_reducible exact H2_) | (have H2_ := (Option.bind_some _ _).symm.trans H; with_reducible exact H2_) | with_reducible exact H | (rw [hy413]; exact H) | exact H
       have Ny413 := am hy413
       clear hy413
       by_cases c19 : x408002_1.length < 2932031007402
       ·rw [if_pos c19] at H
        have LMc19 := am c19
        clear c19
        obtain ⟨y416, hy416⟩ : ∃ y_ : List (S64), y_ = (x408002_1 ++ [(⟨(rd_T64 la2 x4_1).f0, (rd_T64 la2 x4_1).f1, (rd_T64 la2 x4_1).f2, y413⟩ : S64)]) := ⟨_, rfl⟩
        replace H : (spec_l5Copy.l0 k1 (wrap64 (x4_1 + 1)) aa0 la1 la2 aa0 y404 y416) = some (r1, r2, r3) := by first | (rw [hy416]; with_reducible exact H) | (have H2_ := (Option.bind_some _ _).symm.trans H; rw [hy416]; with_reducible exact H2_) | (have H2_ := (Option.bind_some _ _).symm.trans H; with_reducible exact H2_) | with_reducible exact H | (rw [hy416]; exact H) | exact H
        have Ny416 := am hy416
        clear hy416
        have H' := am H
        clear H
        have hnb20 := NB399_400.out
        have hnc20 := NB400_399.out
        have hnb21 := NB399_407.out
        have hnc21 := NB407_399.out
        have hcz22_0 : wr.cell? ⟨g399, 0, none⟩ = some (I q aa0) := (bc B399.out 0).trans rfl
        have hcz22_1 : wr.cell? ⟨g399, 1, none⟩ = some (J Aa1 la1.length ca1) := (bc B399.out 1).trans rfl
        have hcz22_2 : wr.cell? ⟨g399, 2, none⟩ = some (J Aa2 la2.length ca2) := (bc B399.out 2).trans rfl
        have hfz22_0 := bf B399.out 0
        have hfz22_1 := bf B399.out 1
        have hfz22_2 := bf B399.out 2
        have p408 : 0 ≤ (x4_1 : Int) := of_decide_eq_true (by first | (with_reducible assumption) | assumption)
        have q408 : x4_1 < (la2.length : Int) := of_decide_eq_true (by first | (with_reducible assumption) | assumption)
        obtain ⟨ad408, A408_3, c408_3, e408, hx408_0, hx408_1, hx408_2, hx408_3, hl408_3, hi408_3⟩ := at_T64 HR0_2.out x4_1 p408 q408
        cases e408
        replace hx408_0 := (HB.out.cell (World.block_lt_of_cell? w _ hx408_0)).trans hx408_0
        replace hx408_1 := (HB.out.cell (World.block_lt_of_cell? w _ hx408_1)).trans hx408_1
        replace hx408_2 := (HB.out.cell (World.block_lt_of_cell? w _ hx408_2)).trans hx408_2
        replace hx408_3 := (HB.out.cell (World.block_lt_of_cell? w _ hx408_3)).trans hx408_3
        have HR408_3 := am hi408_3
        have HC408_3 := am hl408_3
        clear hi408_3 hl408_3
        replace p408 := eq_true p408
        replace q408 := eq_true q408
        go_wp2_with (first | ((with_reducible refine gate_dst (N := 5) rfl ?_); refine box_event ?hg (N := 5) ?hd (cs := #[I q 0, I q 0, I q 0, .slice none 0 0]) (t := 64) ?hr ?_; (case hd => rfl); (case hg => rfl); (case hr => first | (go_simp; done) | (go_simp; rfl)); intro g409 hg w23 hbox hb; have N0 := am (rb (by (with_reducible repeat (first | apply ra | apply rN | apply rd1)); exact o0.out) hb); have N1 := am (Kd.S_below (Kd.S_elderB (by (with_reducible repeat (first | apply sa | apply sN | apply sd)); exact o1.out) g409 (Nat.le_of_eq hg.symm)) hb); have N2 := am (bb (g := g399) (by (with_reducible repeat (first | apply bN | apply bd | apply ba)); exact B399.out) hb); have N3 := am (bb (g := g400) (by (with_reducible repeat (first | apply bN | apply bd | apply ba)); exact B400.out) hb); have N4 := am (bb (g := g407) (by (with_reducible repeat (first | apply bN | apply bd | apply ba)); exact B407.out) hb); have N5 := am (bp (by repeat (first | (with_reducible first | exact HB.out | apply pa | apply pN | apply p1 | refine bs ?_ E399.out | refine bs ?_ E400.out | refine bs ?_ E407.out) | exact HB.out)) hb); have N6 := am (hbox); have N7 := am ((by rw [hg]; exact (bz (by repeat (first | (with_reducible first | exact HB.out | apply pa | apply pN | apply p1 | refine bs ?_ E399.out | refine bs ?_ E400.out | refine bs ?_ E407.out) | exact HB.out))) : w.heap.size ≤ g409)); have N8 := am ((by rw [hg]; exact (bz (by repeat (first | (with_reducible first | exact HB.out | apply pa | apply pN | apply p1 | refine bs ?_ E399.out | refine bs ?_ E400.out | refine bs ?_ E407.out) | exact HB.out))) : w.heap.size ≤ g409)); have N9 := am ((by rw [hg]; exact Nat.ne_of_lt (bl (g := g399) (by (with_reducible repeat (first | apply bN | apply bd | apply ba)); exact B399.out)) : g399 ≠ g409)); have N10 := am ((by rw [hg]; exact Nat.ne_of_gt (bl (g := g399) (by (with_reducible repeat (first | apply bN | apply bd | apply ba)); exact B399.out)) : g409 ≠ g399)); have N11 := am ((by rw [hg]; exact Nat.ne_of_lt (bl (g := g400) (by (with_reducible repeat (first | apply bN | apply bd | apply ba)); exact B400.out)) : g400 ≠ g409)); have N12 := am ((by rw [hg]; exact Nat.ne_of_gt (bl (g := g400) (by (with_reducible repeat (first | apply bN | apply bd | apply ba)); exact B400.out)) : g409 ≠ g400)); have N13 := am ((by rw [hg]; exact Nat.ne_of_lt (bl (g := g407) (by (with_reducible repeat (first | apply bN | apply bd | apply ba)); exact B407.out)) : g407 ≠ g409)); have N14 := am ((by rw [hg]; exact Nat.ne_of_gt (bl (g := g407) (by (with_reducible repeat (first | apply bN | apply bd | apply ba)); exact B407.out)) : g409 ≠ g407)); clear o0 o1 B399 B400 B407 HB; have o0 := N0; have o1 := N1; have B399 := N2; have B400 := N3; have B407 := N4; have HB := N5; have B409 := N6; have GW409 := N7; have E409 := N8; have NB399_409 := N9; have NB409_399 := N10; have NB400_409 := N11; have NB409_400 := N12; have NB407_409 := N13; have NB409_407 := N14; clear N0 N1 N2 N3 N4 N5 N6 N7 N8 N9 N10 N11 N12 N13 N14 hb hbox hg; have hnb24 := NB409_399.out; have hnc24 := NB399_409.out; have hnb25 := NB409_400.out; have hnc25 := NB400_409.out; have hnb26 := NB409_407.out; have hnc26 := NB407_409.out; have hcz27_0 : w23.cell? ⟨g409, 0, none⟩ = some (I q 0) := (bc B409.out 0).trans rfl; have hcz27_1 : w23.cell? ⟨g409, 1, none⟩ = some (I q 0) := (bc B409.out 1).trans rfl; have hcz27_2 : w23.cell? ⟨g409, 2, none⟩ = some (I q 0) := (bc B409.out 2).trans rfl; have hcz27_3 : w23.cell? ⟨g409, 3, none⟩ = some (.slice none 0 0) := (bc B409.out 3).trans rfl; have hfz27_0 := bf B409.out 0; have hfz27_1 := bf B409.out 1; have hfz27_2 := bf B409.out 2; have hfz27_3 := bf B409.out 3) | ((with_reducible refine gate_dst (N := 25) rfl ?_); refine Kd.R_lit (Kd.int .i64) _ 2 ?hg (N := 25) ?hd (xs := ([] : List Int)) (inner := []) (ok := fun _ => True) (okp := fun _ => True) ?hr ?hp (fun _ hk => hk) trivial (Below.refl _ _) (Nat.le_refl _) (by simp) ?_; (case hd => rfl); (case hg => rfl); (case hr => first | (go_simp; done) | (go_simp; rfl)); (case hp => exact (Reps.none _ _)); intro v411 w28 ho29 hb hg_ hnew_; clear hg_ hnew_; (first | rw [← Ny410.out] at ho29 | (simp only [Int.reduceToNat] at ho29; rw [← Ny410.out] at ho29)); have N0 := am (rb (by (with_reducible repeat (first | apply ra | apply rN | apply rd1)); exact (Kd.R_mono (rf (p := ⟨g409, 3, none⟩) (rf (p := ⟨g409, 2, none⟩) (rf (p := ⟨g409, 1, none⟩) (rf (p := ⟨g409, 0, none⟩) (Kd.R_types o0.out B409.out (by decide)) (fun _ hk => hk.2) (I q ((rd_T64 la2 x4_1).f0))) (fun _ hk => hk.2) (I q ((rd_T64 la2 x4_1).f1))) (fun _ hk => hk.2) (I q ((rd_T64 la2 x4_1).f2))) (fun _ hk => hk.2) (J A408_3 ((rd_T64 la2 x4_1).f3).length c408_3)) (fun _ h_ => h_.1))) hb); have N1 := am (Kd.S_elder' (by (with_reducible repeat (first | apply sa | apply sN | apply sd)); exact (sm (sf (p := ⟨g409, 3, none⟩) (sf (p := ⟨g409, 2, none⟩) (sf (p := ⟨g409, 1, none⟩) (sf (p := ⟨g409, 0, none⟩) (sm o1.out (fun k_ hk => (⟨hk, hk.2⟩ : _ ∧ k_ ≠ g409))) (fun _ hk => hk.2) (I q ((rd_T64 la2 x4_1).f0))) (fun _ hk => hk.2) (I q ((rd_T64 la2 x4_1).f1))) (fun _ hk => hk.2) (I q ((rd_T64 la2 x4_1).f2))) (fun _ hk => hk.2) (J A408_3 ((rd_T64 la2 x4_1).f3).length c408_3)) (fun _ h_ => h_.1))) (Kd.R_base ho29) hb); have N2 := am (rw1 ho29 (bz (by repeat (first | (with_reducible first | exact HB.out | apply pa | apply pN | apply p1 | refine bs ?_ E399.out | refine bs ?_ E400.out | refine bs ?_ E407.out | refine bs ?_ E409.out) | exact HB.out)))); have N3 := am (bb (g := g399) (o := .cells #[I q aa0, J Aa1 la1.length ca1, .slice (some ad408) la2.length ca2] 31 (0, 0)) (by (iterate 4 ((with_reducible repeat (first | apply bN | apply bd | apply ba)); refine bq ?_ NB399_409.out _)); (with_reducible repeat (first | apply bN | apply bd | apply ba)); exact B399.out) hb); have N4 := am (bb (g := g400) (o := .cells #[I q 0, .slice none 0 0, .slice none 0 0] 31 (0, 0)) (by (iterate 4 ((with_reducible repeat (first | apply bN | apply bd | apply ba)); refine bq ?_ NB400_409.out _)); (with_reducible repeat (first | apply bN | apply bd | apply ba)); exact B400.out) hb); have N5 := am (bb (g := g407) (o := .cells #[I q aa0, J Ao12 y404.length co12, u408002] 31 (0, 0)) (by (iterate 4 ((with_reducible repeat (first | apply bN | apply bd | apply ba)); refine bq ?_ NB407_409.out _)); (with_reducible repeat (first | apply bN | apply bd | apply ba)); exact B407.out) hb); have N6 := am (bb (g := g409) (o := .cells #[I q ((rd_T64 la2 x4_1).f0), I q ((rd_T64 la2 x4_1).f1), I q ((rd_T64 la2 x4_1).f2), J A408_3 ((rd_T64 la2 x4_1).f3).length c408_3] 64 (0, 0)) (by (with_reducible repeat (first | apply bN | apply bd | apply ba)); exact pu4b B409.out) hb); have N7 := am (bp (by repeat (first | (with_reducible first | exact HB.out | apply pa | apply pN | apply p1 | refine bs ?_ E399.out | refine bs ?_ E400.out | refine bs ?_ E407.out | refine bs ?_ E409.out) | exact HB.out)) hb); clear o0 o1 B399 B400 B407 B409 HB; have o0 := N0; have o1 := N1; have O412 := N2; have B399 := N3; have B400 := N4; have B407 := N5; have B409 := N6; have HB := N7; clear N0 N1 N2 N3 N4 N5 N6 N7 hb ho29; have hcz30_0 : w28.cell? ⟨g409, 0, none⟩ = some (I q ((rd_T64 la2 x4_1).f0)) := (bc B409.out 0).trans rfl; have hcz30_1 : w28.cell? ⟨g409, 1, none⟩ = some (I q ((rd_T64 la2 x4_1).f1)) := (bc B409.out 1).trans rfl; have hcz30_2 : w28.cell? ⟨g409, 2, none⟩ = some (I q ((rd_T64 la2 x4_1).f2)) := (bc B409.out 2).trans rfl; have hcz30_3 : w28.cell? ⟨g409, 3, none⟩ = some (J A408_3 ((rd_T64 la2 x4_1).f3).length c408_3) := (bc B409.out 3).trans rfl; have hfz30_0 := bf B409.out 0; have hfz30_1 := bf B409.out 1; have hfz30_2 := bf B409.out 2; have hfz30_3 := bf B409.out 3) | ((with_reducible refine gate_builtin (b := .append) (xs := #[.tmp 25, .tmp 27]) rfl ?_); at_builtin; refine Kd.R_append_rows (Kd.int .i64) (w0 := w) w.heap.size rfl (.tmp 25) (.tmp 27) 62 2 (I q 0) 8 rfl Try.underlying62 info2 rfl (by decide) (by omega) v411 y410 ((rd_T64 la2 x4_1).f3) _ _ _ (fun _ => True) (fun _ => False) rfl rfl ?aO ?aR (fun _ _ h => h) (fun _ h => h.elim) ?aF ?aB ?aS ?aL ?_; (case aR => repeat (first | exact (Kd.C_below HR408_3.out HB.out) | (with_reducible refine ca ?_ _) | (with_reducible refine cN ?_ _) | (with_reducible refine cd1 ?_))); (case aB => exact (by repeat (first | (with_reducible first | exact HB.out | apply pa | apply pN | apply p1 | refine bs ?_ E399.out | refine bs ?_ E400.out | refine bs ?_ E407.out | refine bs ?_ E409.out) | exact HB.out))); (case aF => exact (fun _ _ => trivial)); (case aO => exact (by (with_reducible repeat (first | apply ra | apply rN | apply rd1)); exact O412.out)); (case aS => exact (bz (by repeat (first | (with_reducible first | exact HB.out | apply pa | apply pN | apply p1 | refine bs ?_ E399.out | refine bs ?_ E400.out | refine bs ?_ E407.out | refine bs ?_ E409.out) | exact HB.out)))); (case aL => have := LMc18.out; omega); intro v414 w31 ho hb hg hat; rw [← Ny413.out] at ho; have N0 := am (Kd.R_over' (by (with_reducible repeat (first | apply ra | apply rN | apply rd1)); exact o0.out) (Kd.R_typed (by (with_reducible repeat (first | apply ra | apply rN | apply rd1)); exact O412.out)) (by decide) hg); have N1 := am (Kd.S_after (ok := (fun k_ => k_ ≠ g409)) (by (with_reducible repeat (first | apply sa | apply sN | apply sd)); exact sm o1.out (fun _ hk => ⟨hk.1.2, hk.2⟩)) hg hat); have N2 := am (blk_grown (g := g399) (o := .cells #[I q aa0, J Aa1 la1.length ca1, .slice (some ad408) la2.length ca2] 31 (0, 0)) (by (with_reducible repeat (first | apply bN | apply bd | apply ba)); exact B399.out) hg (Kd.R_ne O412.out B399.out (by decide))); have N3 := am (blk_grown (g := g400) (o := .cells #[I q 0, .slice none 0 0, .slice none 0 0] 31 (0, 0)) (by (with_reducible repeat (first | apply bN | apply bd | apply ba)); exact B400.out) hg (Kd.R_ne O412.out B400.out (by decide))); have N4 := am (blk_grown (g := g407) (o := .cells #[I q aa0, J Ao12 y404.length co12, u408002] 31 (0, 0)) (by (with_reducible repeat (first | apply bN | apply bd | apply ba)); exact B407.out) hg (Kd.R_ne O412.out B407.out (by decide))); have N5 := am (blk_grown (g := g409) (o := .cells #[I q ((rd_T64 la2 x4_1).f0), I q ((rd_T64 la2 x4_1).f1), I q ((rd_T64 la2 x4_1).f2), J A408_3 ((rd_T64 la2 x4_1).f3).length c408_3] 64 (0, 0)) (by (with_reducible repeat (first | apply bN | apply bd | apply ba)); exact B409.out) hg (Kd.R_ne O412.out B409.out (by decide))); have N6 := am (hb); have N7 := am (ho); clear o0 o1 B399 B400 B407 B409 HB O412; have o0 := N0; have o1 := N1; have B399 := N2; have B400 := N3; have B407 := N4; have B409 := N5; have HB := N6; have O415 := N7; clear N0 N1 N2 N3 N4 N5 N6 N7 ho hb hg hat; obtain ⟨Ao32, co32, eo32⟩ := Kd.R_slice O415.out; subst eo32; have hcz33_0 : w31.cell? ⟨g409, 0, none⟩ = some (I q ((rd_T64 la2 x4_1).f0)) := (bc B409.out 0).trans rfl; have hcz33_1 : w31.cell? ⟨g409, 1, none⟩ = some (I q ((rd_T64 la2 x4_1).f1)) := (bc B409.out 1).trans rfl; have hcz33_2 : w31.cell? ⟨g409, 2, none⟩ = some (I q ((rd_T64 la2 x4_1).f2)) := (bc B409.out 2).trans rfl; have hcz33_3 : w31.cell? ⟨g409, 3, none⟩ = some (J A408_3 ((rd_T64 la2 x4_1).f3).length c408_3) := (bc B409.out 3).trans rfl; have hfz33_0 := bf B409.out 0; have hfz33_1 := bf B409.out 1; have hfz33_2 := bf B409.out 2; have hfz33_3 := bf B409.out 3) | ((with_reducible refine gate_store (t := 62) (p := 29) rfl ?_); refine store_event (t := 62) (p := 29) (v := ?vo_w34) (w1 := (w31.setCell ⟨g409, 3, none⟩ (J Ao32 y413.length co32))) ?hg ?ho ?hn ?hr ?_; (case ho => rfl); (case hg => rfl); (case hn => rfl); (case hr => first | (go_simp; done) | (go_simp; rfl)); intro w34 hw; have N0 : Aside0 (Kd.R k36 36 w34 w.heap.size (fun _ => True) (J Ao12 y404.length co12) y404) := ⟨(by rw [hw]; exact (by (with_reducible repeat (first | apply ra | apply rN | apply rd1)); exact Kd.R_mono (rf (p := ⟨g409, 3, none⟩) (Kd.R_types o0.out B409.out (by decide)) (fun _ hk => hk.2) (J Ao32 y413.length co32)) (fun _ hk => trivial)))⟩; have N1 : Aside0 (Kd.S k64 64 w34 w.heap.size (fun k_ => some k_ ≠ (J Ao32 y413.length co32 : Value).ownBlock ∧ k_ ≠ g409) u408002 x408002_1) := ⟨(by rw [hw]; exact (by (with_reducible repeat (first | apply sa | apply sN | apply sd)); exact sm (sf (p := ⟨g409, 3, none⟩) (sm o1.out (fun k_ hk => (⟨hk, hk.1⟩ : _ ∧ k_ ≠ g409))) (fun _ hk => hk.2) (J Ao32 y413.length co32)) (fun _ hk => ⟨hk.1.2, hk.1.1⟩)))⟩; have N2 : Aside0 (Kd.R (Kd.int .i64) 2 w34 w.heap.size (fun _ => True) (J Ao32 y413.length co32) y413) := ⟨(by rw [hw]; exact (by (with_reducible repeat (first | apply ra | apply rN | apply rd1)); exact Kd.R_mono (rf (p := ⟨g409, 3, none⟩) (Kd.R_types O415.out B409.out (by decide)) (fun _ hk => hk.2) (J Ao32 y413.length co32)) (fun _ hk => trivial)))⟩; have N3 : Aside0 (w34.heap[g399]? = some (.cells #[I q aa0, J Aa1 la1.length ca1, .slice (some ad408) la2.length ca2] 31 (0, 0))) := ⟨(by rw [hw]; exact (by (with_reducible repeat (first | apply bN | apply bd | apply ba)); refine bq ?_ NB399_409.out _; (with_reducible repeat (first | apply bN | apply bd | apply ba)); exact B399.out))⟩; have N4 : Aside0 (w34.heap[g400]? = some (.cells #[I q 0, .slice none 0 0, .slice none 0 0] 31 (0, 0))) := ⟨(by rw [hw]; exact (by (with_reducible repeat (first | apply bN | apply bd | apply ba)); refine bq ?_ NB400_409.out _; (with_reducible repeat (first | apply bN | apply bd | apply ba)); exact B400.out))⟩; have N5 : Aside0 (w34.heap[g407]? = some (.cells #[I q aa0, J Ao12 y404.length co12, u408002] 31 (0, 0))) := ⟨(by rw [hw]; exact (by (with_reducible repeat (first | apply bN | apply bd | apply ba)); refine bq ?_ NB407_409.out _; (with_reducible repeat (first | apply bN | apply bd | apply ba)); exact B407.out))⟩; have N6 : Aside0 (w34.heap[g409]? = some (.cells #[I q ((rd_T64 la2 x4_1).f0), I q ((rd_T64 la2 x4_1).f1), I q ((rd_T64 la2 x4_1).f2), J Ao32 y413.length co32] 64 (0, 0))) := ⟨(by rw [hw]; exact (by (with_reducible repeat (first | apply bN | apply bd | apply ba)); refine blk_put (cs := #[I q ((rd_T64 la2 x4_1).f0), I q ((rd_T64 la2 x4_1).f1), I q ((rd_T64 la2 x4_1).f2), J A408_3 ((rd_T64 la2 x4_1).f3).length c408_3]) ?_ 3 _ rfl; (with_reducible repeat (first | apply bN | apply bd | apply ba)); exact B409.out))⟩; have N7 : Aside0 (Below w.heap.size w w34) := ⟨(by rw [hw]; exact (by repeat (first | (with_reducible first | exact HB.out | apply pa | apply pN | apply p1 | refine bs ?_ E399.out | refine bs ?_ E400.out | refine bs ?_ E407.out | refine bs ?_ E409.out) | exact HB.out)))⟩; clear hw o0 o1 O415 B399 B400 B407 B409 HB; have o0 := N0; have o1 := N1; have O415 := N2; have B399 := N3; have B400 := N4; have B407 := N5; have B409 := N6; have HB := N7; clear N0 N1 N2 N3 N4 N5 N6 N7; have hnb35 := NB407_400.out; have hnc35 := NB400_407.out; have hcz36_0 : w34.cell? ⟨g407, 0, none⟩ = some (I q aa0) := (bc B407.out 0).trans rfl; have hcz36_1 : w34.cell? ⟨g407, 1, none⟩ = some (J Ao12 y404.length co12) := (bc B407.out 1).trans rfl; have hcz36_2 : w34.cell? ⟨g407, 2, none⟩ = some (u408002) := (bc B407.out 2).trans rfl; have hfz36_0 := bf B407.out 0; have hfz36_1 := bf B407.out 1; have hfz36_2 := bf B407.out 2; have hcz37_0 : w34.cell? ⟨g409, 0, none⟩ = some (I q ((rd_T64 la2 x4_1).f0)) := (bc B409.out 0).trans rfl; have hcz37_1 : w34.cell? ⟨g409, 1, none⟩ = some (I q ((rd_T64 la2 x4_1).f1)) := (bc B409.out 1).trans rfl; have hcz37_2 : w34.cell? ⟨g409, 2, none⟩ = some (I q ((rd_T64 la2 x4_1).f2)) := (bc B409.out 2).trans rfl; have hcz37_3 : w34.cell? ⟨g409, 3, none⟩ = some (J Ao32 y413.length co32) := (bc B409.out 3).trans rfl; have hfz37_0 := bf B409.out 0; have hfz37_1 := bf B409.out 1; have hfz37_2 := bf B409.out 2; have hfz37_3 := bf B409.out 3) | ((with_reducible refine gate_builtin (b := .append) (xs := #[.tmp 31, .tmp 33]) rfl ?_); at_builtin; refine Kd.S_append k64 (w0 := w) w.heap.size rfl (.tmp 31) (.tmp 33) 29 64 (.agg #[(I q 0), (I q 0), (I q 0), (.slice none 0 0)]) 48 rfl Try.underlying29 info64 rfl (by decide) (by omega) u408002 x408002_1 (⟨(rd_T64 la2 x4_1).f0, (rd_T64 la2 x4_1).f1, (rd_T64 la2 x4_1).f2, y413⟩ : S64) [I q ((rd_T64 la2 x4_1).f0), I q ((rd_T64 la2 x4_1).f1), I q ((rd_T64 la2 x4_1).f2), J Ao32 y413.length co32] (fun k_ => k_ ≠ g409) (fun k_ => some k_ = (J Ao32 y413.length co32 : Value).ownBlock) rfl rfl ?aP (fun k_ hk_ => ((Kd.R_mono (ok' := fun k_ => ((fun k_ => k_ ≠ g409)) k_ ∧ some k_ ≠ (u408002 : Value).ownBlock) (Kd.R_types (Kd.R_apart' (O415.out) (Kd.S_typed o1.out) (by decide)) B409.out (by decide)) (fun k_ hk => ⟨hk.2, hk.1.2⟩))).1 k_ hk_.symm) ?aF ?aO ?aB ?aS ?aL ?_; (case aP => exact k64_mkM _ _ _ (⟨(rd_T64 la2 x4_1).f0, (rd_T64 la2 x4_1).f1, (rd_T64 la2 x4_1).f2, y413⟩ : S64) (Kd.R_mono (Kd.R_tight rfl (Kd.R_mono (ok' := fun k_ => ((fun k_ => k_ ≠ g409)) k_ ∧ some k_ ≠ (u408002 : Value).ownBlock) (Kd.R_types (Kd.R_apart' (O415.out) (Kd.S_typed o1.out) (by decide)) B409.out (by decide)) (fun k_ hk => ⟨hk.2, hk.1.2⟩))) (fun _ h_ => h_))); (case aB => exact (by repeat (first | (with_reducible first | exact HB.out | apply pa | apply pN | apply p1 | refine bs ?_ E399.out | refine bs ?_ E400.out | refine bs ?_ E407.out | refine bs ?_ E409.out) | exact HB.out))); (case aF => exact (fun k_ hk => Kd.freshB (g := g409) (o := .cells #[I q ((rd_T64 la2 x4_1).f0), I q ((rd_T64 la2 x4_1).f1), I q ((rd_T64 la2 x4_1).f2), J Ao32 y413.length co32] 64 (0, 0)) (by (with_reducible repeat (first | apply bN | apply bd | apply ba)); exact B409.out) k_ hk)); (case aO => exact (by (with_reducible repeat (first | apply sa | apply sN | apply sd)); exact sm o1.out (fun k_ hk => ⟨hk.2, fun e_ => hk.1 e_⟩))); (case aS => exact (bz (by repeat (first | (with_reducible first | exact HB.out | apply pa | apply pN | apply p1 | refine bs ?_ E399.out | refine bs ?_ E400.out | refine bs ?_ E407.out | refine bs ?_ E409.out) | exact HB.out)))); (case aL => have := LMc19.out; omega); intro v417 w38 ho hb hg hat; rw [← Ny416.out] at ho; have N0 := am (Kd.R_over' (by (with_reducible repeat (first | apply ra | apply rN | apply rd1)); exact o0.out) (Kd.S_typed (by (with_reducible repeat (first | apply sa | apply sN | apply sd)); exact o1.out)) (by decide) hg); have N1 := am (blk_grown (g := g399) (o := .cells #[I q aa0, J Aa1 la1.length ca1, .slice (some ad408) la2.length ca2] 31 (0, 0)) (by (with_reducible repeat (first | apply bN | apply bd | apply ba)); exact B399.out) hg (Kd.S_ne o1.out B399.out (by decide))); have N2 := am (blk_grown (g := g400) (o := .cells #[I q 0, .slice none 0 0, .slice none 0 0] 31 (0, 0)) (by (with_reducible repeat (first | apply bN | apply bd | apply ba)); exact B400.out) hg (Kd.S_ne o1.out B400.out (by decide))); have N3 := am (blk_grown (g := g407) (o := .cells #[I q aa0, J Ao12 y404.length co12, u408002] 31 (0, 0)) (by (with_reducible repeat (first | apply bN | apply bd | apply ba)); exact B407.out) hg (Kd.S_ne o1.out B407.out (by decide))); have N4 := am (blk_grown (g := g409) (o := .cells #[I q ((rd_T64 la2 x4_1).f0), I q ((rd_T64 la2 x4_1).f1), I q ((rd_T64 la2 x4_1).f2), J Ao32 y413.length co32] 64 (0, 0)) (by (with_reducible repeat (first | apply bN | apply bd | apply ba)); exact B409.out) hg (Kd.S_away o1.out (fun _ hk => hk.2))); have N5 := am (hb); have N6 := am (ho); clear o0 B399 B400 B407 B409 HB o1 O415; have o0 := N0; have B399 := N1; have B400 := N2; have B407 := N3; have B409 := N4; have HB := N5; have O418 := N6; clear N0 N1 N2 N3 N4 N5 N6 ho hb hg hat; obtain ⟨Ao39, co39, eo39⟩ := Kd.S_slice O418.out; subst eo39; have hcz40_0 : w38.cell? ⟨g407, 0, none⟩ = some (I q aa0) := (bc B407.out 0).trans rfl; have hcz40_1 : w38.cell? ⟨g407, 1, none⟩ = some (J Ao12 y404.length co12) := (bc B407.out 1).trans rfl; have hcz40_2 : w38.cell? ⟨g407, 2, none⟩ = some (u408002) := (bc B407.out 2).trans rfl; have hfz40_0 := bf B407.out 0; have hfz40_1 := bf B407.out 1; have hfz40_2 := bf B407.out 2))
        go_roundg k1
        case measure => have := HK1.out; omega
        case rel => exact ⟨(wrap64 (x4_1 + 1)), (y416), (J Ao39 y416.length co39), (by first | rfl | (simp; done) | (simp [*]; done)), H', ⟨by have := HK1.out; omega⟩, ⟨by (with_reducible repeat (first | apply ra | apply rN | apply rd1)); exact Kd.R_mono (rf (p := ⟨g407, 2, none⟩) (Kd.R_types o0.out B407.out (by decide)) (fun _ hk => hk.2) (J Ao39 y416.length co39)) (fun _ hk => trivial)⟩, ⟨by (with_reducible repeat (first | apply sa | apply sN | apply sd)); exact sm (sf (p := ⟨g407, 2, none⟩) (st O418.out B407.out (by decide)) (fun _ hk => hk.2) (J Ao39 y416.length co39)) (fun _ hk => trivial)⟩, ⟨by (with_reducible repeat (first | apply bN | apply bd | apply ba)); refine bq ?_ NB399_407.out _; (with_reducible repeat (first | apply bN | apply bd | apply ba)); exact B399.out⟩, ⟨by (with_reducible repeat (first | apply bN | apply bd | apply ba)); refine bq ?_ NB400_407.out _; (with_reducible repeat (first | apply bN | apply bd | apply ba)); exact B400.out⟩, ⟨by (with_reducible repeat (first | apply bN | apply bd | apply ba)); refine blk_put (cs := #[I q aa0, J Ao12 y404.length co12, u408002]) ?_ 2 _ rfl; (with_reducible repeat (first | apply bN | apply bd | apply ba)); exact B407.out⟩, ⟨by repeat (first | (with_reducible first | exact HB.out | apply pa | apply pN | apply p1 | refine bs ?_ E399.out | refine bs ?_ E400.out | refine bs ?_ E407.out | refine bs ?_ E409.out) | exact HB.out)⟩⟩
       ·rw [if_neg c19] at H
        exact absurd H (by simp)
      ·rw [if_neg c18] at H
       exact absurd H (by simp)
     ·rw [if_neg c17] at H
      exact absurd H (by simp)
    ·rw [if_neg c16] at H
     have c16b0 : decide (x4_1 < (la2.length : Int)) = false := decide_eq_false c16
     clear c16
     simp only [Option.some.injEq, Prod.mk.injEq] at H
     obtain ⟨rfl, rfl, rfl⟩ := H
     have hnb41 := NB399_400.out
     have hnc41 := NB400_399.out
     have hnb42 := NB399_407.out
     have hnc42 := NB407_399.out
     have hcz43_0 : wr.cell? ⟨g399, 0, none⟩ = some (I q aa0) := (bc B399.out 0).trans rfl
     have hcz43_1 : wr.cell? ⟨g399, 1, none⟩ = some (J Aa1 la1.length ca1) := (bc B399.out 1).trans rfl
     have hcz43_2 : wr.cell? ⟨g399, 2, none⟩ = some (J Aa2 la2.length ca2) := (bc B399.out 2).trans rfl
     have hfz43_0 := bf B399.out 0
     have hfz43_1 := bf B399.out 1
     have hfz43_2 := bf B399.out 2
     have hnb44 := NB407_400.out
     have hnc44 := NB400_407.out
     have hcz45_0 : wr.cell? ⟨g407, 0, none⟩ = some (I q aa0) := (bc B407.out 0).trans rfl
     have hcz45_1 : wr.cell? ⟨g407, 1, none⟩ = some (J Ao12 y404.length co12) := (bc B407.out 1).trans rfl
     have hcz45_2 : wr.cell? ⟨g407, 2, none⟩ = some (u408002) := (bc B407.out 2).trans rfl
     have hfz45_0 := bf B407.out 0
     have hfz45_1 := bf B407.out 1
     have hfz45_2 := bf B407.out 2
     have hcz46_0 : wr.cell? ⟨g400, 0, none⟩ = some (I q 0) := (bc B400.out 0).trans rfl
     have hcz46_1 : wr.cell? ⟨g400, 1, none⟩ = some (.slice none 0 0) := (bc B400.out 1).trans rfl
     have hcz46_2 : wr.cell? ⟨g400, 2, none⟩ = some (.slice none 0 0) := (bc B400.out 2).trans rfl
     have hfz46_0 := bf B400.out 0
     have hfz46_1 := bf B400.out 1
     have hfz46_2 := bf B400.out 2
     obtain ⟨Ao47, co47, eo47⟩ := Kd.S_slice o1.out
     subst eo47
     go_wp2
     refine bodyPost_ret (results_cell_row rfl _ _ g400 31 #[I q aa0, J Ao12 y404.length co12, J Ao47 x408002_1.length co47] (0, 0) _ rfl (by (with_reducible repeat (first | apply bN | apply bd | apply ba)); exact pu3b B400.out) Try.underlying31 rfl (by kernel_rfl)) rfl ?_
     exact ⟨_, _, by first | rfl | (simp [errW_none, errW_some] <;> rfl) | (simp [*, errW_none, errW_some] <;> rfl), by (with_reducible repeat (first | apply ra | apply rN | apply rd1)); exact Kd.R_mono (rf (p := ⟨g400, 2, none⟩) (rf (p := ⟨g400, 1, none⟩) (rf (p := ⟨g400, 0, none⟩) (Kd.R_types o0.out B400.out (by decide)) (fun _ hk => hk.2) (I q aa0)) (fun _ hk => hk.2) (J Ao12 y404.length co12)) (fun _ hk => hk.2) (J Ao47 x408002_1.length co47)) (fun _ hk => trivial), by (with_reducible repeat (first | apply sa | apply sN | apply sd)); exact sm (sf (p := ⟨g400, 2, none⟩) (sf (p := ⟨g400, 1, none⟩) (sf (p := ⟨g400, 0, none⟩) (st o1.out B400.out (by decide)) (fun _ hk => hk.2) (I q aa0)) (fun _ hk => hk.2) (J Ao12 y404.length co12)) (fun _ hk => hk.2) (J Ao47 x408002_1.length co47)) (fun _ hk => trivial), by repeat (first | (with_reducible first | exact HB.out | apply pa | apply pN | apply p1 | refine bs ?_ E399.out | refine bs ?_ E400.out | refine bs ?_ E407.out) | exact HB.out)⟩
 ·rw [if_neg c2] at H
  exact absurd H (by simp)

/-! ### spec_l1Has: function 159 -/
def spec_l1Has.l0 : Nat → List Int → Int → Int → Option (Bool)
 | 0, _, _, _ => none
 | k + 1, x0, x1, x5 => if x5 < (x0.length : Int) then (if 0 ≤ x5 then (if (rd x0 x5) = x1 then (some true) else (spec_l1Has.l0 k x0 x1 (wrap64 (x5 + 1)))) else (none)) else (some false)
def spec_l1Has.f (k : Nat) (l0 : List Int) (a1 : Int) : Option (Bool) := spec_l1Has.l0 k l0 a1 0
theorem spec_l1Has.mono_l : ∀ k, (∀ y0 y1 y2, LeO (spec_l1Has.l0 k y0 y1 y2) (spec_l1Has.l0 (k + 1) y0 y1 y2))
 | 0 => fun _ _ _ r h => by simp [spec_l1Has.l0] at h
 | k + 1 => by
  have ih0 := spec_l1Has.mono_l k
  ·intro y0 y1 y2
   unfold spec_l1Has.l0
   repeat' first
   | (with_reducible exact ih0 _ _ _)
   | (with_reducible exact LeO.refl _)
   | (with_reducible exact LeO.none _)
   | (with_reducible refine LeO.ite ?_ ?_)
   | (with_reducible refine LeO.bind ?_ (fun _ => ?_))
   | exact ih0 _ _ _
   | exact LeO.none _
   | refine LeO.ite ?_ ?_
   | refine LeO.bind ?_ (fun _ => ?_)
theorem spec_l1Has.mono : ∀ a0 a1 k, LeO (spec_l1Has.f k a0 a1) (spec_l1Has.f (k + 1) a0 a1) := by
 intro a0 a1 k
 have ih0 := spec_l1Has.mono_l k
 unfold spec_l1Has.f
 repeat' first
   | (with_reducible exact ih0 _ _ _)
   | (with_reducible exact LeO.refl _)
   | (with_reducible exact LeO.none _)
   | (with_reducible refine LeO.ite ?_ ?_)
   | (with_reducible refine LeO.bind ?_ (fun _ => ?_))
   | exact ih0 _ _ _
   | exact LeO.none _
   | refine LeO.ite ?_ ?_
   | refine LeO.bind ?_ (fun _ => ?_)
set_option maxHeartbeats 8000000 in
set_option maxRecDepth 100000 in
theorem spec_l1Has.calls (k : Nat) (A0 : Option Addr) (c0 : Nat) (l0 : List Int) (a1 : Int) (r : Bool) (w : World) (hr0 : Kd.C (Kd.int .i64) w A0 l0.length l0) (hc0 : l0.length ≤ c0) (h : spec_l1Has.f k l0 a1 = some r) :
  Calls Try.prog 159 #[J A0 l0.length c0, I q a1] w fun e w' => e = .returned (.bool r) ∧ Drawn0 w w' := by
 have HR0 := am hr0
 have HC0 := am hc0
 clear hr0 hc0
 have H : (spec_l1Has.l0 k l0 a1 0) = some r := h
 clear h
 have H' := am H
 clear H
 go_enter Try.func159, Try.ntmps159
 go_wp2
 go_loopg [5] k (fun kq v5 w' => ∃ (x5_1 : Int), v5 = I q x5_1 ∧ Aside0 (spec_l1Has.l0 kq l0 a1 x5_1 = some r) ∧ Aside0 (kq ≤ k) ∧ Drawn0 w w')
 case atStart => exact ⟨(0), (by first | rfl | (simp; done) | (simp [*]; done)), H', ⟨Nat.le_refl _⟩, by repeat (first | exact Drawn0.refl _ | apply Drawn0.step)⟩
 case round =>
  clear H'
  try clear c1
  try clear p2
  obtain ⟨x5_1, rfl, HA, HK1, ⟨m1, rfl⟩⟩ := hrel
  cases gk with
  | zero => exact absurd HA.out (by simp [spec_l1Has.l0])
  | succ k1 =>
   have H := HA.out
   clear HA
   simp only [spec_l1Has.l0] at H
   by_cases c3 : x5_1 < (l0.length : Int)
   ·rw [if_pos c3] at H
    have c3b0 : decide (x5_1 < (l0.length : Int)) = true := decide_eq_true c3
    clear c3
    by_cases c4 : 0 ≤ x5_1
    ·rw [if_pos c4] at H
     have c4b0 : decide (0 ≤ x5_1) = true := decide_eq_true c4
     clear c4
     by_cases c5 : (rd l0 x5_1) = a1
     ·rw [if_pos c5] at H
      have c5b0 : ((rd l0 x5_1) == a1) = true := beq_iff_eq.mpr c5
      have c5b1 : ((rd l0 x5_1) != a1) = false := bne_eq_false_iff_eq.mpr c5
      clear c5
      obtain rfl := Option.some.inj H
      have p422 : 0 ≤ (x5_1 : Int) := of_decide_eq_true (by first | (with_reducible assumption) | assumption)
      have q422 : x5_1 < (l0.length : Int) := of_decide_eq_true (by first | (with_reducible assumption) | assumption)
      obtain ⟨ad422, e422, hx422_0⟩ := Kd.at_int HR0.out x5_1 p422 q422
      cases e422
      replace p422 := eq_true p422
      replace q422 := eq_true q422
      go_wp2
      go_ret
      exact ⟨by first | rfl | (simp; done) | (simp [*]; done), by repeat (first | exact Drawn0.refl _ | apply Drawn0.step)⟩
     ·rw [if_neg c5] at H
      have c5b0 : ((rd l0 x5_1) == a1) = false := beq_eq_false_iff_ne.mpr c5
      have c5b1 : ((rd l0 x5_1) != a1) = true := bne_iff_ne.mpr c5
      have H' := am H
      clear H
      have p422 : 0 ≤ (x5_1 : Int) := of_decide_eq_true (by first | (with_reducible assumption) | assumption)
      have q422 : x5_1 < (l0.length : Int) := of_decide_eq_true (by first | (with_reducible assumption) | assumption)
      obtain ⟨ad422, e422, hx422_0⟩ := Kd.at_int HR0.out x5_1 p422 q422
      cases e422
      replace p422 := eq_true p422
      replace q422 := eq_true q422
      go_wp2
      go_roundg k1
      case measure => have := HK1.out; omega
      case rel => exact ⟨(wrap64 (x5_1 + 1)), (by first | rfl | (simp; done) | (simp [*]; done)), H', ⟨by have := HK1.out; omega⟩, by repeat (first | exact Drawn0.refl _ | apply Drawn0.step)⟩
    ·rw [if_neg c4] at H
     exact absurd H (by simp)
   ·rw [if_neg c3] at H
    have c3b0 : decide (x5_1 < (l0.length : Int)) = false := decide_eq_false c3
    clear c3
    obtain rfl := Option.some.inj H
    go_wp2
    go_ret
    exact ⟨by first | rfl | (simp; done) | (simp [*]; done), by repeat (first | exact Drawn0.refl _ | apply Drawn0.step)⟩

-- NOT PRINTED: function 151 (spec_l5TurnVip)

/-! #### what the draws of configurations stand on: walks by hand -/
namespace Dr
theorem up {w0 w w' : World} (h : Below w0.heap.size w0 w) (h' : Below w.heap.size w w') : Below w0.heap.size w0 w' := h.trans (h'.mono h.size)
theorem has_l0 (l : List Int) (a : Int) (hn : l.length ≤ 9223372036854775807) : ∀ (d k i : Nat), i + d = l.length → d < k → ∃ b, spec_l1Has.l0 k l a (i : Int) = some b
 | 0, k, i, hi, hk => by
  obtain ⟨k, rfl⟩ : ∃ j, k = j + 1 := ⟨k - 1, by omega⟩
  simp only [spec_l1Has.l0]
  rw [if_neg (by omega)]
  exact ⟨_, rfl⟩
 | d + 1, k, i, hi, hk => by
  obtain ⟨k, rfl⟩ : ∃ j, k = j + 1 := ⟨k - 1, by omega⟩
  simp only [spec_l1Has.l0]
  rw [if_pos (by omega), if_pos (by omega)]
  split
  ·exact ⟨_, rfl⟩
  ·rw [show wrap64 ((i : Int) + 1) = ((i + 1 : Nat) : Int) by unfold wrap64; omega]
   exact has_l0 l a hn d k (i + 1) (by omega) (by omega)
theorem has_tot (l : List Int) (a : Int) (hn : l.length ≤ 9223372036854775807) : ∃ b, spec_l1Has.f (l.length + 1) l a = some b := by
 unfold spec_l1Has.f
 exact has_l0 l a hn l.length _ 0 (by omega) (by omega)
theorem has (A : Option Addr) (c : Nat) (l : List Int) (a : Int) (w : World) (hr : Kd.C (Kd.int .i64) w A l.length l) (hc : l.length ≤ c) : ∃ b, Calls Try.prog 159 #[J A l.length c, I q a] w fun e w' => e = .returned (.bool b) ∧ Below w.heap.size w w' := by
 have hn : l.length ≤ 9223372036854775807 := by have := hr.2.1; have hs : (Kd.int .i64).sz = 1 := rfl; (try simp only [maxLen] at this); (try rw [hs] at this); omega
 obtain ⟨b, hb⟩ := has_tot l a hn
 exact ⟨b, (spec_l1Has.calls _ A c l a b w hr hc hb).mono (fun _ _ h => ⟨h.1, h.2.below⟩)⟩
theorem big64 {w : World} {A : Option Addr} {l : List S64} (hr : Kd.C k64 w A l.length l) : l.length ≤ 9223372036854775807 := by
 have := hr.2.1; have hs : (k64).sz = 4 := rfl; (try simp only [maxLen] at this); (try rw [hs] at this); omega
theorem bigI {w : World} {A : Option Addr} {l : List Int} (hr : Kd.C (Kd.int .i64) w A l.length l) : l.length ≤ 9223372036854775807 := by
 have := hr.2.1; have hs : (Kd.int .i64).sz = 1 := rfl; (try simp only [maxLen] at this); (try rw [hs] at this); omega
end Dr
set_option maxHeartbeats 2000000 in
/-- Has a vip a name? -/
theorem spec_l5Serves.cf (g : Nat) (A1 : Option Addr) (n1 c1 : Nat) (A2 : Option Addr) (c2 : Nat) (l2 : List S64) (v name : Int) (w : World) (hb : w.heap[g]? = some (.cells #[I q v, J A1 n1 c1, J A2 l2.length c2] 31 (0, 0))) (hr2 : Kd.C k64 w A2 l2.length l2) :
  Calls Try.prog 160 #[.pointer (some ⟨g, 0, none⟩), I q name] w fun e w' => (∃ b, e = .returned (.bool b)) ∧ Below w.heap.size w w' := by
 have hbig := Dr.big64 hr2
 go_enter Try.func160, Try.ntmps160
 go_wp2
 go_loopg [5] l2.length (fun gg s5 wr => ∃ kk : Nat, kk ≤ l2.length ∧ l2.length - kk ≤ gg ∧ s5 = I q kk ∧ Aside (Below w.heap.size w wr))
 case atStart => exact ⟨0, Nat.zero_le _, by omega, rfl, Below.refl _ w⟩
 case round =>
  obtain ⟨kk, hkk, hg, rfl, BW⟩ := hrel
  have bk := bb hb BW.out
  have hz2 : wr.cell? ⟨g, 2, none⟩ = some (J A2 l2.length c2) := bc bk 2
  clear bk
  by_cases hlt : kk < l2.length
  ·have hltz : (kk : Int) < (l2.length : Int) := by omega
   obtain ⟨ad, A3, c3, eA, hx_0, hx_1, hx_2, hx_3, hl3, hC3⟩ := at_T64 (Kd.C_below hr2 BW.out) (kk : Int) (by omega) hltz
   cases eA
   generalize rd_T64 l2 (kk : Int) = y at hx_0 hx_1 hx_2 hx_3 hl3 hC3
   simp only [Int.toNat_natCast] at hx_0 hx_1 hx_2 hx_3
   obtain ⟨b, hcall⟩ := Dr.has A3 c3 y.f3 name wr hC3 hl3
   have hy3 := Dr.bigI hC3
   cases b with
   | true =>
    go_wp2_with (go_at_call 159; refine hcall.mono ?_; rintro e w2 ⟨rfl, hb2⟩)
    go_ret
    exact ⟨⟨_, rfl⟩, Dr.up BW.out hb2⟩
   | false =>
    go_wp2_with (go_at_call 159; refine hcall.mono ?_; rintro e w2 ⟨rfl, hb2⟩)
    go_roundg (l2.length - (kk + 1))
    case measure => omega
    case rel => exact ⟨kk + 1, by omega, by omega, by go_num, Dr.up BW.out hb2⟩
  ·have hltz : ¬ (kk : Int) < (l2.length : Int) := by omega
   go_wp2
   go_ret
   exact ⟨.inl rfl, BW.out⟩
set_option maxHeartbeats 4000000 in
/-- The place of a command's vip. -/
theorem spec_l5Find.cf (g : Nat) (A1 : Option Addr) (n1 c1 : Nat) (A2 : Option Addr) (c2 : Nat) (l2 : List S64) (v x0 x1 x2 x3 x4 x5 : Int) (w : World) (hb : w.heap[g]? = some (.cells #[I q v, J A1 n1 c1, J A2 l2.length c2] 31 (0, 0))) (hr2 : Kd.C k64 w A2 l2.length l2) :
  Calls Try.prog 158 #[.pointer (some ⟨g, 0, none⟩), .agg #[I q x0, I q x1, I q x2, I q x3, I q x4, I q x5]] w fun e w' => (∃ r : Int, e = .returned (I q r) ∧ r < (l2.length : Int)) ∧ Below w.heap.size w w' := by
 have hbig := Dr.big64 hr2
 have hu128 := Try.underlying128
 have hu64 := Try.underlying64
 obtain ⟨w1, hw1⟩ : ∃ W, W = w.alloc (.cells #[I q x0, I q x1, I q x2, I q x3, I q x4, I q x5] 128) := ⟨_, rfl⟩
 have hB1 : Below w.heap.size w w1 := by rw [hw1]; exact (Below.refl _ w).alloc (Nat.le_refl _) _
 have bx1 : w1.heap[w.heap.size]? = some (.cells #[I q x0, I q x1, I q x2, I q x3, I q x4, I q x5] 128 (0, 0)) := by rw [hw1]; exact blk_new w _
 have bg1 := bb hb hB1
 have hr21 := Kd.C_below hr2 hB1
 have DB := am hB1
 have DX := am bx1
 have DG := am bg1
 have DR := am hr21
 clear hB1 bx1 bg1 hr21 hb hr2
 go_enter Try.func158, Try.ntmps158
 go_wp2
 rw [← hw1]
 go_loopg [5] l2.length (fun gg s5 wr => ∃ kk : Nat, kk ≤ l2.length ∧ l2.length - kk ≤ gg ∧ s5 = I q kk ∧ Aside (Below w1.heap.size w1 wr))
 case atStart => exact ⟨0, Nat.zero_le _, by omega, rfl, Below.refl _ w1⟩
 case round =>
  obtain ⟨kk, hkk, hg, rfl, BW⟩ := hrel
  have bk := bb DG.out BW.out
  have bx := bb DX.out BW.out
  have hz2 : wr.cell? ⟨g, 2, none⟩ = some (J A2 l2.length c2) := bc bk 2
  by_cases hlt : kk < l2.length
  ·have hltz : (kk : Int) < (l2.length : Int) := by omega
   obtain ⟨ad, A3, c3, eA, hx_0, hx_1, hx_2, hx_3, hl3, hC3⟩ := at_T64 (Kd.C_below DR.out BW.out) (kk : Int) (by omega) hltz
   cases eA
   generalize rd_T64 l2 (kk : Int) = y at hx_0 hx_1 hx_2 hx_3 hl3 hC3
   simp only [Int.toNat_natCast] at hx_0 hx_1 hx_2 hx_3
   obtain ⟨W, hW⟩ : ∃ W, W = wr.alloc (.cells #[I q y.f0, I q y.f1, I q y.f2, J A3 y.f3.length c3] 64) := ⟨_, rfl⟩
   have hBW : Below wr.heap.size wr W := by rw [hW]; exact (Below.refl _ wr).alloc (Nat.le_refl _) _
   have by_ : W.heap[wr.heap.size]? = some (.cells #[I q y.f0, I q y.f1, I q y.f2, J A3 y.f3.length c3] 64 (0, 0)) := by rw [hW]; exact blk_new wr _
   have bxW := bb bx hBW
   rw [hW] at by_ bxW
   have q0 := bc by_ 0
   have q1 := bc by_ 1
   have q2 := bc by_ 2
   have p3 := bc bxW 3
   have p4 := bc bxW 4
   have p5 := bc bxW 5
   have DW := am hBW
   clear bk bx by_ bxW hBW hl3 hC3
   cases e0 : (y.f0 == x3) <;> cases e1 : (y.f1 == x4) <;> cases e2 : (y.f2 == x5)
   case true.true.true =>
    go_wp2
    go_ret
    exact ⟨⟨_, rfl, by omega⟩, by rw [← hW]; exact Dr.up DB.out (Dr.up BW.out DW.out)⟩
   all_goals
    go_wp2
    go_roundg (l2.length - (kk + 1))
    case measure => omega
    case rel => exact ⟨kk + 1, by omega, by omega, by go_num, (show Aside _ from by rw [← hW]; exact Dr.up BW.out DW.out)⟩
  ·have hltz : ¬ (kk : Int) < (l2.length : Int) := by omega
   clear bk bx
   go_wp2
   go_ret
   exact ⟨⟨_, rfl, by omega⟩, Dr.up DB.out BW.out⟩
end Go.Proofs.Ytfmlhpoaipeoeaa.QFnDeltas
