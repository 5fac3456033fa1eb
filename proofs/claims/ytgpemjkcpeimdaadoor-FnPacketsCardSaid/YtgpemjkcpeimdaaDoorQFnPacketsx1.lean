-- MADE BY PROGRAM (qprint.py): walks of the functions that the law FnPackets reaches. Lean checks it.
import Derived.Test.YtgpemjkcpeimdaaDoorQFnPacketsx0
namespace Go.Proofs.YtgpemjkcpeimdaaDoor.QFnPackets
open Go.RowKit Go.Proofs.YtgpemjkcpeimdaaDoorW.PrintWords Go.Proofs.YtgpemjkcpeimdaaDoorW.PrintLast Go.Proofs.YtgpemjkcpeimdaaDoorW.PrintMore
open Go.Proofs.YtgpemjkcpeimdaaDoorW.PrintWords renaming blk_drewN → bN, blk_drew → bd, blk_alloc → ba, blk_cell → bc, blk_frozen → bf, below_set → bs, pw_below_drewN → pN, below_drew1 → p1, below_alloc → pa, blk_below → bb, below_size → bz, below_step → bp, blk_lt → bl, blk_far → bq, add_block → ab
open Go.Proofs.YtgpemjkcpeimdaaDoorW.PrintWords.Kd renaming R_drewN → rN, R_drew → rd1, R_alloc → ra, R_far → rf, R_below → rb, R_new' → rn, R_lt → rl, R_elder' → re, R_lower → rw1, C_alloc → ca, C_drewN → cN, C_drew → cd1, S_alloc → sa, S_drewN → sN, S_drew → sd, S_far → sf, S_mono → sm, S_types → st, S_lt → sl
open Go.Proofs.YtgpemjkcpeimdaaDoorW.PrintWords.Aside0 renaming mk → am
open Go.Value renaming int → I, slice → J
open Go.IntKind renaming i64 → q
attribute [local go_sem] max2_int min2_int max_two min_two max_three min_three max_four min_four   -- for this text's walks alone
set_option linter.unusedVariables false
set_option linter.unusedSimpArgs false

/-! ### laws_lwBig: function 4 -/
def laws_lwBig.f (l0 : List Int) : Option (Bool) := some (decide ((l0.length : Int) > 1048576))
set_option maxHeartbeats 8000000 in
set_option maxRecDepth 100000 in
theorem laws_lwBig.calls (A0 : Option Addr) (c0 : Nat) (l0 : List Int) (r : Bool) (w : World) (hr0 : Kd.C (Kd.int .u8) w A0 l0.length l0) (hc0 : l0.length ≤ c0) (h : laws_lwBig.f l0 = some r) :
    Calls Tryd.prog 4 #[J A0 l0.length c0] w fun e w' => e = .returned (.bool r) ∧ Drawn0 w w' := by
  have HR0 := am hr0
  have HC0 := am hc0
  clear hr0 hc0
  have H : (some (decide ((l0.length : Int) > 1048576))) = some r := h
  clear h
  obtain rfl := Option.some.inj H
  go_enter Tryd.func4, Tryd.ntmps4
  go_wp2
  go_ret
  exact ⟨by first | rfl | (simp; done) | (simp [*]; done), by repeat (first | exact Drawn0.refl _ | apply Drawn0.step)⟩

/-! ### spec_SumWords: function 40 -/
mutual
def spec_SumWords.l0 : Nat → List Int → Int → Int → Option (Int)
  | 0, _, _, _ => none
  | k + 1, x0, x3, x4 => if x4 < (x0.length : Int) then (if 0 ≤ x4 then (if (wrap64 (x4 + 1)) < (x0.length : Int) then (if 0 ≤ (wrap64 (x4 + 1)) then (spec_SumWords.j1 k x0 (wrap64 ((wrap64 (x3 + (wrap64 (256 * (wrap64 (rd x0 x4)))))) + (wrap64 (rd x0 (wrap64 (x4 + 1)))))) x4) else (none)) else (spec_SumWords.j1 k x0 (wrap64 (x3 + (wrap64 (256 * (wrap64 (rd x0 x4)))))) x4)) else (none)) else (some (wrap64 (65535 - x3)))
def spec_SumWords.j1 : Nat → List Int → Int → Int → Option (Int)
  | 0, _, _, _ => none
  | k + 1, x0, x3, x4 => spec_SumWords.l1 k x0 x3 x4
def spec_SumWords.l1 : Nat → List Int → Int → Int → Option (Int)
  | 0, _, _, _ => none
  | k + 1, x0, x3, x4 => if x3 > 65535 then (spec_SumWords.l1 k x0 (wrap64 (x3 - 65535)) x4) else (spec_SumWords.l0 k x0 x3 (wrap64 (x4 + 2)))
end
def spec_SumWords.f (k : Nat) (l0 : List Int) : Option (Int) := spec_SumWords.l0 k l0 0 0
theorem spec_SumWords.mono_l : ∀ k, (∀ y0 y1 y2, LeO (spec_SumWords.l0 k y0 y1 y2) (spec_SumWords.l0 (k + 1) y0 y1 y2)) ∧ (∀ y0 y1 y2, LeO (spec_SumWords.j1 k y0 y1 y2) (spec_SumWords.j1 (k + 1) y0 y1 y2)) ∧ (∀ y0 y1 y2, LeO (spec_SumWords.l1 k y0 y1 y2) (spec_SumWords.l1 (k + 1) y0 y1 y2))
  | 0 => ⟨fun _ _ _ r h => by simp [spec_SumWords.l0] at h, fun _ _ _ r h => by simp [spec_SumWords.j1] at h, fun _ _ _ r h => by simp [spec_SumWords.l1] at h⟩
  | k + 1 => by
    obtain ⟨ih0, ih1, ih2⟩ := spec_SumWords.mono_l k
    refine ⟨?_, ?_, ?_⟩
    · intro y0 y1 y2
      unfold spec_SumWords.l0
      repeat' first
      | (with_reducible exact ih0 _ _ _)
      | (with_reducible exact ih1 _ _ _)
      | (with_reducible exact ih2 _ _ _)
      | (with_reducible exact LeO.refl _)
      | (with_reducible exact LeO.none _)
      | (with_reducible refine LeO.ite ?_ ?_)
      | (with_reducible refine LeO.bind ?_ (fun _ => ?_))
      | exact ih0 _ _ _
      | exact ih1 _ _ _
      | exact ih2 _ _ _
      | exact LeO.none _
      | refine LeO.ite ?_ ?_
      | refine LeO.bind ?_ (fun _ => ?_)
    · intro y0 y1 y2
      unfold spec_SumWords.j1
      repeat' first
      | (with_reducible exact ih0 _ _ _)
      | (with_reducible exact ih1 _ _ _)
      | (with_reducible exact ih2 _ _ _)
      | (with_reducible exact LeO.refl _)
      | (with_reducible exact LeO.none _)
      | (with_reducible refine LeO.ite ?_ ?_)
      | (with_reducible refine LeO.bind ?_ (fun _ => ?_))
      | exact ih0 _ _ _
      | exact ih1 _ _ _
      | exact ih2 _ _ _
      | exact LeO.none _
      | refine LeO.ite ?_ ?_
      | refine LeO.bind ?_ (fun _ => ?_)
    · intro y0 y1 y2
      unfold spec_SumWords.l1
      repeat' first
      | (with_reducible exact ih0 _ _ _)
      | (with_reducible exact ih1 _ _ _)
      | (with_reducible exact ih2 _ _ _)
      | (with_reducible exact LeO.refl _)
      | (with_reducible exact LeO.none _)
      | (with_reducible refine LeO.ite ?_ ?_)
      | (with_reducible refine LeO.bind ?_ (fun _ => ?_))
      | exact ih0 _ _ _
      | exact ih1 _ _ _
      | exact ih2 _ _ _
      | exact LeO.none _
      | refine LeO.ite ?_ ?_
      | refine LeO.bind ?_ (fun _ => ?_)
theorem spec_SumWords.mono : ∀ a0 k, LeO (spec_SumWords.f k a0) (spec_SumWords.f (k + 1) a0) := by
  intro a0 k
  obtain ⟨ih0, ih1, ih2⟩ := spec_SumWords.mono_l k
  unfold spec_SumWords.f
  repeat' first
      | (with_reducible exact ih0 _ _ _)
      | (with_reducible exact ih1 _ _ _)
      | (with_reducible exact ih2 _ _ _)
      | (with_reducible exact LeO.refl _)
      | (with_reducible exact LeO.none _)
      | (with_reducible refine LeO.ite ?_ ?_)
      | (with_reducible refine LeO.bind ?_ (fun _ => ?_))
      | exact ih0 _ _ _
      | exact ih1 _ _ _
      | exact ih2 _ _ _
      | exact LeO.none _
      | refine LeO.ite ?_ ?_
      | refine LeO.bind ?_ (fun _ => ?_)
set_option maxHeartbeats 8000000 in
set_option maxRecDepth 100000 in
theorem spec_SumWords.calls (k : Nat) (A0 : Option Addr) (c0 : Nat) (l0 : List Int) (r : Int) (w : World) (hr0 : Kd.C (Kd.int .u8) w A0 l0.length l0) (hc0 : l0.length ≤ c0) (h : spec_SumWords.f k l0 = some r) :
    Calls Tryd.prog 40 #[J A0 l0.length c0] w fun e w' => e = .returned (I q r) ∧ Drawn0 w w' := by
  have HR0 := am hr0
  have HC0 := am hc0
  clear hr0 hc0
  have H : (spec_SumWords.l0 k l0 0 0) = some r := h
  clear h
  have H' := am H
  clear H
  go_enter Tryd.func40, Tryd.ntmps40
  go_wp2
  go_loopg [3, 4] k (fun kq v3 v4 w' => ∃ (x3_1 : Int) (x4_1 : Int), v3 = I q x3_1 ∧ v4 = I q x4_1 ∧ Aside0 (spec_SumWords.l0 kq l0 x3_1 x4_1 = some r) ∧ Aside0 (kq ≤ k) ∧ Drawn0 w w')
  case atStart => exact ⟨(0), (0), (by first | rfl | (simp; done) | (simp [*]; done)), (by first | rfl | (simp; done) | (simp [*]; done)), H', ⟨Nat.le_refl _⟩, by repeat (first | exact Drawn0.refl _ | apply Drawn0.step)⟩
  case round =>
    clear H'
    obtain ⟨x3_1, x4_1, rfl, rfl, HA, HK1, ⟨m1, rfl⟩⟩ := hrel
    cases gk with
    | zero => exact absurd HA.out (by simp [spec_SumWords.l0])
    | succ k1 =>
      have H := HA.out
      clear HA
      simp only [spec_SumWords.l0] at H
      by_cases c2 : x4_1 < (l0.length : Int)
      · rw [if_pos c2] at H
        have c2b0 : decide (x4_1 < (l0.length : Int)) = true := decide_eq_true c2
        clear c2
        by_cases c3 : 0 ≤ x4_1
        · rw [if_pos c3] at H
          have c3b0 : decide (0 ≤ x4_1) = true := decide_eq_true c3
          clear c3
          have HC4 := am H
          clear H
          have p101 : 0 ≤ (x4_1 : Int) := of_decide_eq_true (by first | (with_reducible assumption) | assumption)
          have q101 : x4_1 < (l0.length : Int) := of_decide_eq_true (by first | (with_reducible assumption) | assumption)
          obtain ⟨ad101, e101, hx101_0⟩ := Kd.at_int HR0.out x4_1 p101 q101
          cases e101
          replace p101 := eq_true p101
          replace q101 := eq_true q101
          go_upto_if 23 with (fail)
          go_cut [3] (fun v3 wc => ∃ (kq : Nat) (x3_3 : Int), v3 = I q x3_3 ∧ Aside0 (spec_SumWords.j1 kq l0 x3_3 x4_1 = some r) ∧ Aside0 (kq ≤ k1) ∧ Drawn0 w wc)
          case first =>
            have H := HC4.out
            clear HC4
            by_cases c5 : (wrap64 (x4_1 + 1)) < (l0.length : Int)
            · rw [if_pos c5] at H
              have c5b0 : decide ((wrap64 (x4_1 + 1)) < (l0.length : Int)) = true := decide_eq_true c5
              clear c5
              (first | rw [c5b0] | (simp only [i64_w, i32_w]; rw [c5b0]) | skip)
              obtain ⟨ji6, hji6⟩ : ∃ j_ : Int, (wrap64 (x4_1 + 1)) = j_ := ⟨_, rfl⟩
              replace H : (if 0 ≤ (ji6) then (spec_SumWords.j1 k1 l0 (wrap64 ((wrap64 (x3_1 + (wrap64 (256 * (wrap64 (rd l0 x4_1)))))) + (wrap64 (rd l0 (ji6))))) x4_1) else (none)) = some r := by first | (rw [hji6] at H; exact H) | (simp only [hji6] at H ⊢; exact H)
              (try rw [hji6] at c5b0)
              have hji6w : (IntKind.i64.wrap (x4_1 + 1)) = ji6 := (i64_w _).trans hji6
              by_cases c7 : 0 ≤ (ji6)
              · rw [if_pos c7] at H
                have c7b0 : decide (0 ≤ (ji6)) = true := decide_eq_true c7
                clear c7
                have H' := am H
                clear H
                have p102 : 0 ≤ ((ji6) : Int) := of_decide_eq_true (by first | (with_reducible assumption) | assumption)
                have q102 : (ji6) < (l0.length : Int) := of_decide_eq_true (by first | (with_reducible assumption) | assumption)
                obtain ⟨ad102, e102, hx102_0⟩ := Kd.at_int HR0.out (ji6) p102 q102
                obtain rfl : ad101 = ad102 := (by injection e102)
                replace p102 := eq_true p102
                replace q102 := eq_true q102
                go_wp2
                go_meet
                case rel => exact ⟨_, (wrap64 ((wrap64 (x3_1 + (wrap64 (256 * (wrap64 (rd l0 x4_1)))))) + (wrap64 (rd l0 (ji6))))), (by first | rfl | (simp; done) | (simp only [← hji6] <;> (first | rfl | simp)) | (simp [*]; done)), H', ⟨by have := HK1.out; first | omega | exact Nat.le_refl _⟩, by repeat (first | exact Drawn0.refl _ | apply Drawn0.step)⟩
              · rw [if_neg c7] at H
                exact absurd H (by simp)
            · rw [if_neg c5] at H
              have c5b0 : decide ((wrap64 (x4_1 + 1)) < (l0.length : Int)) = false := decide_eq_false c5
              clear c5
              (first | rw [c5b0] | (simp only [i64_w, i32_w]; rw [c5b0]) | skip)
              have H' := am H
              clear H
              go_wp2
              go_meet
              case rel => exact ⟨_, (wrap64 (x3_1 + (wrap64 (256 * (wrap64 (rd l0 x4_1)))))), (by first | rfl | (simp; done) | (simp [*]; done)), H', ⟨by have := HK1.out; first | omega | exact Nat.le_refl _⟩, by repeat (first | exact Drawn0.refl _ | apply Drawn0.step)⟩
          case rest =>
            clear HC4
            try clear p1
            try clear q1
            try clear hx1
            try clear c2
            try clear c2b0
            try clear p2
            try clear c3
            try clear c3b0
            try clear c4
            try clear c5
            try clear c5b0
            try clear p6
            try clear c7
            try clear c7b0
            try clear hx101_0
            try clear hx102_0
            try clear p101
            try clear p102
            try clear q101
            try clear q102
            obtain ⟨kq, x3_3, rfl, HA, HJ3, ⟨mc3, rfl⟩⟩ := hcut
            cases kq with
            | zero => exact absurd HA.out (by simp [spec_SumWords.j1])
            | succ kj3 =>
              have H := HA.out
              clear HA
              simp only [spec_SumWords.j1] at H
              have H' := am H
              clear H
              go_wp2
              go_loopg [3] kj3 (fun kq v3 w' => ∃ (x3_3 : Int), v3 = I q x3_3 ∧ Aside0 (spec_SumWords.l1 kq l0 x3_3 x4_1 = some r) ∧ Aside0 (kq ≤ kj3) ∧ Drawn0 w w')
              case atStart => exact ⟨(x3_3), (by first | rfl | (simp; done) | (simp [*]; done)), H', ⟨Nat.le_refl _⟩, by repeat (first | exact Drawn0.refl _ | apply Drawn0.step)⟩
              case round =>
                clear H'
                try clear p1
                try clear q1
                try clear hx1
                try clear c2
                try clear c2b0
                try clear p2
                try clear c3
                try clear c3b0
                try clear c4
                try clear c5
                try clear c5b0
                try clear p6
                try clear c7
                try clear c7b0
                try clear hx101_0
                try clear hx102_0
                try clear p1
                try clear p101
                try clear p102
                try clear p2
                try clear p6
                try clear q1
                try clear q101
                try clear q102
                obtain ⟨x3_3, rfl, HA, HK3, ⟨m3, rfl⟩⟩ := hrel
                cases gk with
                | zero => exact absurd HA.out (by simp [spec_SumWords.l1])
                | succ k3 =>
                  have H := HA.out
                  clear HA
                  simp only [spec_SumWords.l1] at H
                  by_cases c8 : x3_3 > 65535
                  · rw [if_pos c8] at H
                    have c8b0 : decide (65535 < x3_3) = true := decide_eq_true c8
                    clear c8
                    have H' := am H
                    clear H
                    go_wp2
                    go_roundg k3
                    case measure => have := HK1.out; have := HJ3.out; have := HK3.out; omega
                    case rel => exact ⟨(wrap64 (x3_3 - 65535)), (by first | rfl | (simp; done) | (simp [*]; done)), H', ⟨by have := HK1.out; have := HJ3.out; have := HK3.out; omega⟩, by repeat (first | exact Drawn0.refl _ | apply Drawn0.step)⟩
                  · rw [if_neg c8] at H
                    have c8b0 : decide (65535 < x3_3) = false := decide_eq_false c8
                    clear c8
                    have H' := am H
                    clear H
                    go_wp2
                    go_roundg k3
                    case measure => have := HK1.out; have := HJ3.out; have := HK3.out; omega
                    case rel => exact ⟨(x3_3), (wrap64 (x4_1 + 2)), (by first | rfl | (simp; done) | (simp [*]; done)), (by first | rfl | (simp; done) | (simp [*]; done)), H', ⟨by have := HK1.out; have := HJ3.out; have := HK3.out; omega⟩, by repeat (first | exact Drawn0.refl _ | apply Drawn0.step)⟩
        · rw [if_neg c3] at H
          exact absurd H (by simp)
      · rw [if_neg c2] at H
        have c2b0 : decide (x4_1 < (l0.length : Int)) = false := decide_eq_false c2
        clear c2
        obtain rfl := Option.some.inj H
        go_wp2
        go_ret
        exact ⟨by first | rfl | (simp; done) | (simp [*]; done), by repeat (first | exact Drawn0.refl _ | apply Drawn0.step)⟩

/-! ### spec_l1Bytes: function 46 -/
def spec_l1Bytes.l0 : Nat → Int → List Int → Int → Option (List Int)
  | 0, _, _, _ => none
  | k + 1, x0, x5, x6 => if x6 ≥ 0 then (if 0 ≤ (IntKind.u64.wrap (wrap64 (8 * x6))) then (if x5.length < 140737488355328 then (spec_l1Bytes.l0 k x0 (x5 ++ [(shr .i64 x0 (IntKind.u64.wrap (wrap64 (8 * x6)))) % 256]) (wrap64 (x6 - 1))) else (none)) else (none)) else (some x5)
def spec_l1Bytes.f (k : Nat) (a0 : Int) (a1 : Int) : Option (List Int) := spec_l1Bytes.l0 k a0 (([] : List Int)) (wrap64 (a1 - 1))
theorem spec_l1Bytes.mono_l : ∀ k, (∀ y0 y1 y2, LeO (spec_l1Bytes.l0 k y0 y1 y2) (spec_l1Bytes.l0 (k + 1) y0 y1 y2))
  | 0 => fun _ _ _ r h => by simp [spec_l1Bytes.l0] at h
  | k + 1 => by
    have ih0 := spec_l1Bytes.mono_l k
    · intro y0 y1 y2
      unfold spec_l1Bytes.l0
      repeat' first
      | (with_reducible exact ih0 _ _ _)
      | (with_reducible exact LeO.refl _)
      | (with_reducible exact LeO.none _)
      | (with_reducible refine LeO.ite ?_ ?_)
      | (with_reducible refine LeO.bind ?_ (fun _ => ?_))
      | exact ih0 _ _ _
      | exact LeO.none _
      | refine LeO.ite ?_ ?_
      | refine LeO.bind ?_ (fun _ => ?_)
theorem spec_l1Bytes.mono : ∀ a0 a1 k, LeO (spec_l1Bytes.f k a0 a1) (spec_l1Bytes.f (k + 1) a0 a1) := by
  intro a0 a1 k
  have ih0 := spec_l1Bytes.mono_l k
  unfold spec_l1Bytes.f
  repeat' first
      | (with_reducible exact ih0 _ _ _)
      | (with_reducible exact LeO.refl _)
      | (with_reducible exact LeO.none _)
      | (with_reducible refine LeO.ite ?_ ?_)
      | (with_reducible refine LeO.bind ?_ (fun _ => ?_))
      | exact ih0 _ _ _
      | exact LeO.none _
      | refine LeO.ite ?_ ?_
      | refine LeO.bind ?_ (fun _ => ?_)
set_option maxHeartbeats 8000000 in
set_option maxRecDepth 100000 in
theorem spec_l1Bytes.calls (k : Nat) (a0 : Int) (a1 : Int) (r : List Int) (w : World) (h : spec_l1Bytes.f k a0 a1 = some r) :
    Calls Tryd.prog 46 #[I q a0, I q a1] w fun e w' => ∃ v0_ : Value, e = .returned (v0_) ∧ Kd.R (Kd.int .u8) 5 w' w.heap.size (fun _ => True) v0_ r ∧ Below w.heap.size w w' := by
  have HB := am (Below.refl w.heap.size w)
  have H : (spec_l1Bytes.l0 k a0 (([] : List Int)) (wrap64 (a1 - 1))) = some r := h
  clear h
  obtain ⟨y103, hy103⟩ : ∃ y_ : List Int, y_ = (([] : List Int)) := ⟨_, rfl⟩
  replace H : (spec_l1Bytes.l0 k a0 y103 (wrap64 (a1 - 1))) = some r := by first | (rw [hy103]; with_reducible exact H) | (have H2_ := (Option.bind_some _ _).symm.trans H; rw [hy103]; with_reducible exact H2_) | (have H2_ := (Option.bind_some _ _).symm.trans H; with_reducible exact H2_) | with_reducible exact H | (rw [hy103]; exact H) | exact H
  have Ny103 := am hy103
  clear hy103
  have H' := am H
  clear H
  go_enter Tryd.func46, Tryd.ntmps46
  go_wp2_with (first | ((with_reducible refine gate_dst (N := 7) rfl ?_); refine Kd.R_lit (Kd.int .u8) _ 5 ?hg (N := 7) ?hd (xs := ([] : List Int)) (inner := []) (ok := fun _ => True) (okp := fun _ => True) ?hr ?hp (fun _ hk => hk) trivial (Below.refl _ _) (Nat.le_refl _) (by simp) ?_; (case hd => rfl); (case hg => rfl); (case hr => first | (go_simp; done) | (go_simp; rfl)); (case hp => exact (Reps.none _ _)); intro v104 w3 ho4 hb hg_ hnew_; clear hg_ hnew_; (first | rw [← Ny103.out] at ho4 | (simp only [Int.reduceToNat] at ho4; rw [← Ny103.out] at ho4)); have N0 := am (rw1 ho4 (bz (by repeat (first | (with_reducible first | exact HB.out | apply pa | apply pN | apply p1) | exact HB.out)))); have N1 := am (bp (by repeat (first | (with_reducible first | exact HB.out | apply pa | apply pN | apply p1) | exact HB.out)) hb); clear HB; have O105 := N0; have HB := N1; clear N0 N1 hb ho4))
  go_loopg [5, 6] k (fun kq v5 v6 w' => ∃ (x5_1 : List Int) (x6_1 : Int), v6 = I q x6_1 ∧ Aside0 (spec_l1Bytes.l0 kq a0 x5_1 x6_1 = some r) ∧ Aside0 (kq ≤ k) ∧ Aside0 (Kd.R (Kd.int .u8) 5 w' w.heap.size (fun _ => True) v5 x5_1) ∧ Aside0 (Below w.heap.size w w'))
  case atStart => exact ⟨(y103), (wrap64 (a1 - 1)), (by first | rfl | (simp; done) | (simp [*]; done)), H', ⟨Nat.le_refl _⟩, ⟨by (with_reducible repeat (first | apply ra | apply rN | apply rd1)); exact O105.out⟩, ⟨by repeat (first | (with_reducible first | exact HB.out | apply pa | apply pN | apply p1) | exact HB.out)⟩⟩
  case round =>
    clear H'
    try clear p2
    try clear c4
    obtain ⟨x5_1, x6_1, rfl, HA, HK1, o0, HB⟩ := hrel
    cases gk with
    | zero => exact absurd HA.out (by simp [spec_l1Bytes.l0])
    | succ k1 =>
      have H := HA.out
      clear HA
      simp only [spec_l1Bytes.l0] at H
      by_cases c5 : x6_1 ≥ 0
      · rw [if_pos c5] at H
        have c5b0 : decide (0 ≤ x6_1) = true := decide_eq_true c5
        clear c5
        obtain ⟨ji6, hji6⟩ : ∃ j_ : Int, (IntKind.u64.wrap (wrap64 (8 * x6_1))) = j_ := ⟨_, rfl⟩
        replace H : (if 0 ≤ (ji6) then (if x5_1.length < 140737488355328 then (spec_l1Bytes.l0 k1 a0 (x5_1 ++ [(shr .i64 a0 (ji6)) % 256]) (wrap64 (x6_1 - 1))) else (none)) else (none)) = some r := by first | (rw [hji6] at H; exact H) | (simp only [hji6] at H ⊢; exact H)
        by_cases c7 : 0 ≤ (ji6)
        · rw [if_pos c7] at H
          have c7b0 := eq_true c7
          have c7b1 : decide (0 ≤ (ji6)) = true := decide_eq_true c7
          clear c7
          obtain ⟨ji8, hji8⟩ : ∃ j_ : Int, (shr .i64 a0 (ji6)) = j_ := ⟨_, rfl⟩
          replace H : (if x5_1.length < 140737488355328 then (spec_l1Bytes.l0 k1 a0 (x5_1 ++ [(ji8) % 256]) (wrap64 (x6_1 - 1))) else (none)) = some r := by first | (rw [hji8] at H; exact H) | (simp only [hji8] at H ⊢; exact H)
          have hji8_ : (a0 / 2 ^ min (ji6).toNat 64) = ji8 := hji8
          have hji8z : (ji6) ≤ 64 → (a0 / 2 ^ (ji6).toNat) = ji8 := shr_small hji8
          by_cases c9 : x5_1.length < 140737488355328
          · rw [if_pos c9] at H
            have LMc9 := am c9
            clear c9
            obtain ⟨y106, hy106⟩ : ∃ y_ : List Int, y_ = (x5_1 ++ [(ji8) % 256]) := ⟨_, rfl⟩
            replace H : (spec_l1Bytes.l0 k1 a0 y106 (wrap64 (x6_1 - 1))) = some r := by first | (rw [hy106]; with_reducible exact H) | (have H2_ := (Option.bind_some _ _).symm.trans H; rw [hy106]; with_reducible exact H2_) | (have H2_ := (Option.bind_some _ _).symm.trans H; with_reducible exact H2_) | with_reducible exact H | (rw [hy106]; exact H) | exact H
            have Ny106 := am hy106
            clear hy106
            have H' := am H
            clear H
            go_wp2_with (first | ((with_reducible refine gate_builtin (b := .append) (xs := #[.tmp 14, .tmp 21]) rfl ?_); at_builtin; refine Kd.R_append (Kd.int .u8) (w0 := w) w.heap.size rfl (.tmp 14) (.tmp 21) 22 5 (.int .u8 0) 1 rfl Tryd.underlying22 info5 rfl (by decide) (by omega) u5 x5_1 ((ji8) % 256) [.int .u8 ((ji8) % 256)] (fun _ => True) (fun _ => False) rfl rfl ?aP (fun _ hk => hk.elim) ?aF ?aO ?aB ?aS ?aL ?_; (case aP => exact rfl); (case aB => exact (by repeat (first | (with_reducible first | exact HB.out | apply pa | apply pN | apply p1) | exact HB.out))); (case aF => exact (fun _ _ => trivial)); (case aO => exact (by (with_reducible repeat (first | apply ra | apply rN | apply rd1)); exact o0.out)); (case aS => exact (bz (by repeat (first | (with_reducible first | exact HB.out | apply pa | apply pN | apply p1) | exact HB.out)))); (case aL => have := LMc9.out; omega); intro v107 w10 ho hb hg hat; rw [← Ny106.out] at ho; have N0 := am (hb); have N1 := am (ho); clear HB o0; have HB := N0; have O108 := N1; clear N0 N1 ho hb hg hat))
            go_roundg k1
            case measure => have := HK1.out; omega
            case rel => exact ⟨(y106), (wrap64 (x6_1 - 1)), (by first | rfl | (simp; done) | (simp [*]; done)), H', ⟨by have := HK1.out; omega⟩, ⟨by (with_reducible repeat (first | apply ra | apply rN | apply rd1)); exact O108.out⟩, ⟨by repeat (first | (with_reducible first | exact HB.out | apply pa | apply pN | apply p1) | exact HB.out)⟩⟩
          · rw [if_neg c9] at H
            exact absurd H (by simp)
        · rw [if_neg c7] at H
          exact absurd H (by simp)
      · rw [if_neg c5] at H
        have c5b0 : decide (0 ≤ x6_1) = false := decide_eq_false c5
        clear c5
        obtain rfl := Option.some.inj H
        go_wp2
        go_ret
        exact ⟨_, by first | rfl | (simp [errW_none, errW_some] <;> rfl) | (simp [*, errW_none, errW_some] <;> rfl), by (with_reducible repeat (first | apply ra | apply rN | apply rd1)); exact o0.out, by repeat (first | (with_reducible first | exact HB.out | apply pa | apply pN | apply p1) | exact HB.out)⟩

/-! ### spec_l2Head: function 45 -/
def spec_l2Head.f (k : Nat) (a0 : Int) (a1 : Int) (a2 : Int) (a3 : Int) : Option (List Int) := (some (([69, 0] : List Int) : List Int)).bind fun y109 => ((spec_l1Bytes.f k (wrap64 (20 + a3)) 2).bind fun t112 => (if y109.length + t112.length < 140737488355328 then ((some (y109 ++ t112 : List Int)).bind fun y115 => ((some (([0, 0, 0, 0, 64, (a0) % 256] : List Int) : List Int)).bind fun y118 => (if y115.length + y118.length < 140737488355328 then ((some (y115 ++ y118 : List Int)).bind fun y121 => ((spec_l1Bytes.f k a1 4).bind fun t124 => ((spec_l1Bytes.f k a2 4).bind fun t127 => (if t124.length + t127.length < 140737488355328 then ((some (t124 ++ t127 : List Int)).bind fun y130 => ((some (([] : List Int) : List Int)).bind fun y133 => (if y133.length + y121.length < 140737488355328 then ((some (y133 ++ y121 : List Int)).bind fun y136 => ((some (([0, 0] : List Int) : List Int)).bind fun y139 => (if y136.length + y139.length < 140737488355328 then ((some (y136 ++ y139 : List Int)).bind fun y142 => (if y142.length + y130.length < 140737488355328 then ((some (([] : List Int) : List Int)).bind fun y148 => (if y148.length + y121.length < 140737488355328 then ((some (y148 ++ y121 : List Int)).bind fun y151 => ((spec_SumWords.f k (y142 ++ y130)).bind fun t154 => ((spec_l1Bytes.f k t154 2).bind fun t155 => (if y151.length + t155.length < 140737488355328 then ((some (y151 ++ t155 : List Int)).bind fun y158 => (if y158.length + y130.length < 140737488355328 then (some (y158 ++ y130)) else (none))) else (none))))) else (none))) else (none))) else (none)))) else (none)))) else (none))))) else (none)))) else (none)))
theorem spec_l2Head.mono : ∀ a0 a1 a2 a3 k, LeO (spec_l2Head.f k a0 a1 a2 a3) (spec_l2Head.f (k + 1) a0 a1 a2 a3) := by
  intro a0 a1 a2 a3 k
  unfold spec_l2Head.f
  repeat' first
      | (with_reducible exact spec_SumWords.mono _ _)
      | (with_reducible exact spec_l1Bytes.mono _ _ _)
      | (with_reducible exact LeO.refl _)
      | (with_reducible exact LeO.none _)
      | (with_reducible refine LeO.ite ?_ ?_)
      | (with_reducible refine LeO.bind ?_ (fun _ => ?_))
      | exact spec_SumWords.mono _ _
      | exact spec_l1Bytes.mono _ _ _
      | exact LeO.none _
      | refine LeO.ite ?_ ?_
      | refine LeO.bind ?_ (fun _ => ?_)
set_option maxHeartbeats 8000000 in
set_option maxRecDepth 100000 in
theorem spec_l2Head.calls (k : Nat) (a0 : Int) (a1 : Int) (a2 : Int) (a3 : Int) (r : List Int) (w : World) (h : spec_l2Head.f k a0 a1 a2 a3 = some r) :
    Calls Tryd.prog 45 #[I q a0, I q a1, I q a2, I q a3] w fun e w' => ∃ v0_ : Value, e = .returned (v0_) ∧ Kd.R (Kd.int .u8) 5 w' w.heap.size (fun _ => True) v0_ r ∧ Below w.heap.size w w' := by
  have HB := am (Below.refl w.heap.size w)
  have H : ((some (([69, 0] : List Int) : List Int)).bind fun y109 => ((spec_l1Bytes.f k (wrap64 (20 + a3)) 2).bind fun t112 => (if y109.length + t112.length < 140737488355328 then ((some (y109 ++ t112 : List Int)).bind fun y115 => ((some (([0, 0, 0, 0, 64, (a0) % 256] : List Int) : List Int)).bind fun y118 => (if y115.length + y118.length < 140737488355328 then ((some (y115 ++ y118 : List Int)).bind fun y121 => ((spec_l1Bytes.f k a1 4).bind fun t124 => ((spec_l1Bytes.f k a2 4).bind fun t127 => (if t124.length + t127.length < 140737488355328 then ((some (t124 ++ t127 : List Int)).bind fun y130 => ((some (([] : List Int) : List Int)).bind fun y133 => (if y133.length + y121.length < 140737488355328 then ((some (y133 ++ y121 : List Int)).bind fun y136 => ((some (([0, 0] : List Int) : List Int)).bind fun y139 => (if y136.length + y139.length < 140737488355328 then ((some (y136 ++ y139 : List Int)).bind fun y142 => (if y142.length + y130.length < 140737488355328 then ((some (([] : List Int) : List Int)).bind fun y148 => (if y148.length + y121.length < 140737488355328 then ((some (y148 ++ y121 : List Int)).bind fun y151 => ((spec_SumWords.f k (y142 ++ y130)).bind fun t154 => ((spec_l1Bytes.f k t154 2).bind fun t155 => (if y151.length + t155.length < 140737488355328 then ((some (y151 ++ t155 : List Int)).bind fun y158 => (if y158.length + y130.length < 140737488355328 then (some (y158 ++ y130)) else (none))) else (none))))) else (none))) else (none))) else (none)))) else (none)))) else (none))))) else (none)))) else (none)))) = some r := h
  clear h
  obtain ⟨y109, hy109⟩ : ∃ y_ : List Int, y_ = (([69, 0] : List Int)) := ⟨_, rfl⟩
  replace H : ((spec_l1Bytes.f k (wrap64 (20 + a3)) 2).bind fun t112 => (if y109.length + t112.length < 140737488355328 then ((some (y109 ++ t112 : List Int)).bind fun y115 => ((some (([0, 0, 0, 0, 64, (a0) % 256] : List Int) : List Int)).bind fun y118 => (if y115.length + y118.length < 140737488355328 then ((some (y115 ++ y118 : List Int)).bind fun y121 => ((spec_l1Bytes.f k a1 4).bind fun t124 => ((spec_l1Bytes.f k a2 4).bind fun t127 => (if t124.length + t127.length < 140737488355328 then ((some (t124 ++ t127 : List Int)).bind fun y130 => ((some (([] : List Int) : List Int)).bind fun y133 => (if y133.length + y121.length < 140737488355328 then ((some (y133 ++ y121 : List Int)).bind fun y136 => ((some (([0, 0] : List Int) : List Int)).bind fun y139 => (if y136.length + y139.length < 140737488355328 then ((some (y136 ++ y139 : List Int)).bind fun y142 => (if y142.length + y130.length < 140737488355328 then ((some (([] : List Int) : List Int)).bind fun y148 => (if y148.length + y121.length < 140737488355328 then ((some (y148 ++ y121 : List Int)).bind fun y151 => ((spec_SumWords.f k (y142 ++ y130)).bind fun t154 => ((spec_l1Bytes.f k t154 2).bind fun t155 => (if y151.length + t155.length < 140737488355328 then ((some (y151 ++ t155 : List Int)).bind fun y158 => (if y158.length + y130.length < 140737488355328 then (some (y158 ++ y130)) else (none))) else (none))))) else (none))) else (none))) else (none)))) else (none)))) else (none))))) else (none)))) else (none))) = some r := by first | (rw [hy109]; with_reducible exact H) | (have H2_ := (Option.bind_some _ _).symm.trans H; rw [hy109]; with_reducible exact H2_) | (have H2_ := (Option.bind_some _ _).symm.trans H; with_reducible exact H2_) | with_reducible exact H | (rw [hy109]; exact H) | exact H
  have Ny109 := am hy109
  clear hy109
  replace H := Option.bind_eq_some_iff.mp H
  obtain ⟨t112, A50, H⟩ := H
  replace H : (if y109.length + t112.length < 140737488355328 then ((some (y109 ++ t112 : List Int)).bind fun y115 => ((some (([0, 0, 0, 0, 64, (a0) % 256] : List Int) : List Int)).bind fun y118 => (if y115.length + y118.length < 140737488355328 then ((some (y115 ++ y118 : List Int)).bind fun y121 => ((spec_l1Bytes.f k a1 4).bind fun t124 => ((spec_l1Bytes.f k a2 4).bind fun t127 => (if t124.length + t127.length < 140737488355328 then ((some (t124 ++ t127 : List Int)).bind fun y130 => ((some (([] : List Int) : List Int)).bind fun y133 => (if y133.length + y121.length < 140737488355328 then ((some (y133 ++ y121 : List Int)).bind fun y136 => ((some (([0, 0] : List Int) : List Int)).bind fun y139 => (if y136.length + y139.length < 140737488355328 then ((some (y136 ++ y139 : List Int)).bind fun y142 => (if y142.length + y130.length < 140737488355328 then ((some (([] : List Int) : List Int)).bind fun y148 => (if y148.length + y121.length < 140737488355328 then ((some (y148 ++ y121 : List Int)).bind fun y151 => ((spec_SumWords.f k (y142 ++ y130)).bind fun t154 => ((spec_l1Bytes.f k t154 2).bind fun t155 => (if y151.length + t155.length < 140737488355328 then ((some (y151 ++ t155 : List Int)).bind fun y158 => (if y158.length + y130.length < 140737488355328 then (some (y158 ++ y130)) else (none))) else (none))))) else (none))) else (none))) else (none)))) else (none)))) else (none))))) else (none)))) else (none)) = some r := H
  have A5 := am A50
  clear A50
  by_cases c6 : y109.length + t112.length < 140737488355328
  · rw [if_pos c6] at H
    have LMc6 := am c6
    clear c6
    obtain ⟨y115, hy115⟩ : ∃ y_ : List Int, y_ = (y109 ++ t112) := ⟨_, rfl⟩
    replace H : ((some (([0, 0, 0, 0, 64, (a0) % 256] : List Int) : List Int)).bind fun y118 => (if y115.length + y118.length < 140737488355328 then ((some (y115 ++ y118 : List Int)).bind fun y121 => ((spec_l1Bytes.f k a1 4).bind fun t124 => ((spec_l1Bytes.f k a2 4).bind fun t127 => (if t124.length + t127.length < 140737488355328 then ((some (t124 ++ t127 : List Int)).bind fun y130 => ((some (([] : List Int) : List Int)).bind fun y133 => (if y133.length + y121.length < 140737488355328 then ((some (y133 ++ y121 : List Int)).bind fun y136 => ((some (([0, 0] : List Int) : List Int)).bind fun y139 => (if y136.length + y139.length < 140737488355328 then ((some (y136 ++ y139 : List Int)).bind fun y142 => (if y142.length + y130.length < 140737488355328 then ((some (([] : List Int) : List Int)).bind fun y148 => (if y148.length + y121.length < 140737488355328 then ((some (y148 ++ y121 : List Int)).bind fun y151 => ((spec_SumWords.f k (y142 ++ y130)).bind fun t154 => ((spec_l1Bytes.f k t154 2).bind fun t155 => (if y151.length + t155.length < 140737488355328 then ((some (y151 ++ t155 : List Int)).bind fun y158 => (if y158.length + y130.length < 140737488355328 then (some (y158 ++ y130)) else (none))) else (none))))) else (none))) else (none))) else (none)))) else (none)))) else (none))))) else (none))) = some r := by first | (rw [hy115]; with_reducible exact H) | (have H2_ := (Option.bind_some _ _).symm.trans H; rw [hy115]; with_reducible exact H2_) | (have H2_ := (Option.bind_some _ _).symm.trans H; with_reducible exact H2_) | with_reducible exact H | (rw [hy115]; exact H) | exact H
    have Ny115 := am hy115
    clear hy115
    obtain ⟨y118, hy118⟩ : ∃ y_ : List Int, y_ = (([0, 0, 0, 0, 64, (a0) % 256] : List Int)) := ⟨_, rfl⟩
    replace H : (if y115.length + y118.length < 140737488355328 then ((some (y115 ++ y118 : List Int)).bind fun y121 => ((spec_l1Bytes.f k a1 4).bind fun t124 => ((spec_l1Bytes.f k a2 4).bind fun t127 => (if t124.length + t127.length < 140737488355328 then ((some (t124 ++ t127 : List Int)).bind fun y130 => ((some (([] : List Int) : List Int)).bind fun y133 => (if y133.length + y121.length < 140737488355328 then ((some (y133 ++ y121 : List Int)).bind fun y136 => ((some (([0, 0] : List Int) : List Int)).bind fun y139 => (if y136.length + y139.length < 140737488355328 then ((some (y136 ++ y139 : List Int)).bind fun y142 => (if y142.length + y130.length < 140737488355328 then ((some (([] : List Int) : List Int)).bind fun y148 => (if y148.length + y121.length < 140737488355328 then ((some (y148 ++ y121 : List Int)).bind fun y151 => ((spec_SumWords.f k (y142 ++ y130)).bind fun t154 => ((spec_l1Bytes.f k t154 2).bind fun t155 => (if y151.length + t155.length < 140737488355328 then ((some (y151 ++ t155 : List Int)).bind fun y158 => (if y158.length + y130.length < 140737488355328 then (some (y158 ++ y130)) else (none))) else (none))))) else (none))) else (none))) else (none)))) else (none)))) else (none))))) else (none)) = some r := by first | (rw [hy118]; with_reducible exact H) | (have H2_ := (Option.bind_some _ _).symm.trans H; rw [hy118]; with_reducible exact H2_) | (have H2_ := (Option.bind_some _ _).symm.trans H; with_reducible exact H2_) | with_reducible exact H | (rw [hy118]; exact H) | exact H
    have Ny118 := am hy118
    clear hy118
    by_cases c7 : y115.length + y118.length < 140737488355328
    · rw [if_pos c7] at H
      have LMc7 := am c7
      clear c7
      obtain ⟨y121, hy121⟩ : ∃ y_ : List Int, y_ = (y115 ++ y118) := ⟨_, rfl⟩
      replace H : ((spec_l1Bytes.f k a1 4).bind fun t124 => ((spec_l1Bytes.f k a2 4).bind fun t127 => (if t124.length + t127.length < 140737488355328 then ((some (t124 ++ t127 : List Int)).bind fun y130 => ((some (([] : List Int) : List Int)).bind fun y133 => (if y133.length + y121.length < 140737488355328 then ((some (y133 ++ y121 : List Int)).bind fun y136 => ((some (([0, 0] : List Int) : List Int)).bind fun y139 => (if y136.length + y139.length < 140737488355328 then ((some (y136 ++ y139 : List Int)).bind fun y142 => (if y142.length + y130.length < 140737488355328 then ((some (([] : List Int) : List Int)).bind fun y148 => (if y148.length + y121.length < 140737488355328 then ((some (y148 ++ y121 : List Int)).bind fun y151 => ((spec_SumWords.f k (y142 ++ y130)).bind fun t154 => ((spec_l1Bytes.f k t154 2).bind fun t155 => (if y151.length + t155.length < 140737488355328 then ((some (y151 ++ t155 : List Int)).bind fun y158 => (if y158.length + y130.length < 140737488355328 then (some (y158 ++ y130)) else (none))) else (none))))) else (none))) else (none))) else (none)))) else (none)))) else (none)))) = some r := by first | (rw [hy121]; with_reducible exact H) | (have H2_ := (Option.bind_some _ _).symm.trans H; rw [hy121]; with_reducible exact H2_) | (have H2_ := (Option.bind_some _ _).symm.trans H; with_reducible exact H2_) | with_reducible exact H | (rw [hy121]; exact H) | exact H
      have Ny121 := am hy121
      clear hy121
      replace H := Option.bind_eq_some_iff.mp H
      obtain ⟨t124, A80, H⟩ := H
      replace H : ((spec_l1Bytes.f k a2 4).bind fun t127 => (if t124.length + t127.length < 140737488355328 then ((some (t124 ++ t127 : List Int)).bind fun y130 => ((some (([] : List Int) : List Int)).bind fun y133 => (if y133.length + y121.length < 140737488355328 then ((some (y133 ++ y121 : List Int)).bind fun y136 => ((some (([0, 0] : List Int) : List Int)).bind fun y139 => (if y136.length + y139.length < 140737488355328 then ((some (y136 ++ y139 : List Int)).bind fun y142 => (if y142.length + y130.length < 140737488355328 then ((some (([] : List Int) : List Int)).bind fun y148 => (if y148.length + y121.length < 140737488355328 then ((some (y148 ++ y121 : List Int)).bind fun y151 => ((spec_SumWords.f k (y142 ++ y130)).bind fun t154 => ((spec_l1Bytes.f k t154 2).bind fun t155 => (if y151.length + t155.length < 140737488355328 then ((some (y151 ++ t155 : List Int)).bind fun y158 => (if y158.length + y130.length < 140737488355328 then (some (y158 ++ y130)) else (none))) else (none))))) else (none))) else (none))) else (none)))) else (none)))) else (none))) = some r := H
      have A8 := am A80
      clear A80
      replace H := Option.bind_eq_some_iff.mp H
      obtain ⟨t127, A90, H⟩ := H
      replace H : (if t124.length + t127.length < 140737488355328 then ((some (t124 ++ t127 : List Int)).bind fun y130 => ((some (([] : List Int) : List Int)).bind fun y133 => (if y133.length + y121.length < 140737488355328 then ((some (y133 ++ y121 : List Int)).bind fun y136 => ((some (([0, 0] : List Int) : List Int)).bind fun y139 => (if y136.length + y139.length < 140737488355328 then ((some (y136 ++ y139 : List Int)).bind fun y142 => (if y142.length + y130.length < 140737488355328 then ((some (([] : List Int) : List Int)).bind fun y148 => (if y148.length + y121.length < 140737488355328 then ((some (y148 ++ y121 : List Int)).bind fun y151 => ((spec_SumWords.f k (y142 ++ y130)).bind fun t154 => ((spec_l1Bytes.f k t154 2).bind fun t155 => (if y151.length + t155.length < 140737488355328 then ((some (y151 ++ t155 : List Int)).bind fun y158 => (if y158.length + y130.length < 140737488355328 then (some (y158 ++ y130)) else (none))) else (none))))) else (none))) else (none))) else (none)))) else (none)))) else (none)) = some r := H
      have A9 := am A90
      clear A90
      by_cases c10 : t124.length + t127.length < 140737488355328
      · rw [if_pos c10] at H
        have LMc10 := am c10
        clear c10
        obtain ⟨y130, hy130⟩ : ∃ y_ : List Int, y_ = (t124 ++ t127) := ⟨_, rfl⟩
        replace H : ((some (([] : List Int) : List Int)).bind fun y133 => (if y133.length + y121.length < 140737488355328 then ((some (y133 ++ y121 : List Int)).bind fun y136 => ((some (([0, 0] : List Int) : List Int)).bind fun y139 => (if y136.length + y139.length < 140737488355328 then ((some (y136 ++ y139 : List Int)).bind fun y142 => (if y142.length + y130.length < 140737488355328 then ((some (([] : List Int) : List Int)).bind fun y148 => (if y148.length + y121.length < 140737488355328 then ((some (y148 ++ y121 : List Int)).bind fun y151 => ((spec_SumWords.f k (y142 ++ y130)).bind fun t154 => ((spec_l1Bytes.f k t154 2).bind fun t155 => (if y151.length + t155.length < 140737488355328 then ((some (y151 ++ t155 : List Int)).bind fun y158 => (if y158.length + y130.length < 140737488355328 then (some (y158 ++ y130)) else (none))) else (none))))) else (none))) else (none))) else (none)))) else (none))) = some r := by first | (rw [hy130]; with_reducible exact H) | (have H2_ := (Option.bind_some _ _).symm.trans H; rw [hy130]; with_reducible exact H2_) | (have H2_ := (Option.bind_some _ _).symm.trans H; with_reducible exact H2_) | with_reducible exact H | (rw [hy130]; exact H) | exact H
        have Ny130 := am hy130
        clear hy130
        obtain ⟨y133, hy133⟩ : ∃ y_ : List Int, y_ = (([] : List Int)) := ⟨_, rfl⟩
        replace H : (if y133.length + y121.length < 140737488355328 then ((some (y133 ++ y121 : List Int)).bind fun y136 => ((some (([0, 0] : List Int) : List Int)).bind fun y139 => (if y136.length + y139.length < 140737488355328 then ((some (y136 ++ y139 : List Int)).bind fun y142 => (if y142.length + y130.length < 140737488355328 then ((some (([] : List Int) : List Int)).bind fun y148 => (if y148.length + y121.length < 140737488355328 then ((some (y148 ++ y121 : List Int)).bind fun y151 => ((spec_SumWords.f k (y142 ++ y130)).bind fun t154 => ((spec_l1Bytes.f k t154 2).bind fun t155 => (if y151.length + t155.length < 140737488355328 then ((some (y151 ++ t155 : List Int)).bind fun y158 => (if y158.length + y130.length < 140737488355328 then (some (y158 ++ y130)) else (none))) else (none))))) else (none))) else (none))) else (none)))) else (none)) = some r := by first | (rw [hy133]; with_reducible exact H) | (have H2_ := (Option.bind_some _ _).symm.trans H; rw [hy133]; with_reducible exact H2_) | (have H2_ := (Option.bind_some _ _).symm.trans H; with_reducible exact H2_) | with_reducible exact H | (rw [hy133]; exact H) | exact H
        have Ny133 := am hy133
        clear hy133
        by_cases c11 : y133.length + y121.length < 140737488355328
        · rw [if_pos c11] at H
          have LMc11 := am c11
          clear c11
          obtain ⟨y136, hy136⟩ : ∃ y_ : List Int, y_ = (y133 ++ y121) := ⟨_, rfl⟩
          replace H : ((some (([0, 0] : List Int) : List Int)).bind fun y139 => (if y136.length + y139.length < 140737488355328 then ((some (y136 ++ y139 : List Int)).bind fun y142 => (if y142.length + y130.length < 140737488355328 then ((some (([] : List Int) : List Int)).bind fun y148 => (if y148.length + y121.length < 140737488355328 then ((some (y148 ++ y121 : List Int)).bind fun y151 => ((spec_SumWords.f k (y142 ++ y130)).bind fun t154 => ((spec_l1Bytes.f k t154 2).bind fun t155 => (if y151.length + t155.length < 140737488355328 then ((some (y151 ++ t155 : List Int)).bind fun y158 => (if y158.length + y130.length < 140737488355328 then (some (y158 ++ y130)) else (none))) else (none))))) else (none))) else (none))) else (none))) = some r := by first | (rw [hy136]; with_reducible exact H) | (have H2_ := (Option.bind_some _ _).symm.trans H; rw [hy136]; with_reducible exact H2_) | (have H2_ := (Option.bind_some _ _).symm.trans H; with_reducible exact H2_) | with_reducible exact H | (rw [hy136]; exact H) | exact H
          have Ny136 := am hy136
          clear hy136
          obtain ⟨y139, hy139⟩ : ∃ y_ : List Int, y_ = (([0, 0] : List Int)) := ⟨_, rfl⟩
          replace H : (if y136.length + y139.length < 140737488355328 then ((some (y136 ++ y139 : List Int)).bind fun y142 => (if y142.length + y130.length < 140737488355328 then ((some (([] : List Int) : List Int)).bind fun y148 => (if y148.length + y121.length < 140737488355328 then ((some (y148 ++ y121 : List Int)).bind fun y151 => ((spec_SumWords.f k (y142 ++ y130)).bind fun t154 => ((spec_l1Bytes.f k t154 2).bind fun t155 => (if y151.length + t155.length < 140737488355328 then ((some (y151 ++ t155 : List Int)).bind fun y158 => (if y158.length + y130.length < 140737488355328 then (some (y158 ++ y130)) else (none))) else (none))))) else (none))) else (none))) else (none)) = some r := by first | (rw [hy139]; with_reducible exact H) | (have H2_ := (Option.bind_some _ _).symm.trans H; rw [hy139]; with_reducible exact H2_) | (have H2_ := (Option.bind_some _ _).symm.trans H; with_reducible exact H2_) | with_reducible exact H | (rw [hy139]; exact H) | exact H
          have Ny139 := am hy139
          clear hy139
          by_cases c12 : y136.length + y139.length < 140737488355328
          · rw [if_pos c12] at H
            have LMc12 := am c12
            clear c12
            obtain ⟨y142, hy142⟩ : ∃ y_ : List Int, y_ = (y136 ++ y139) := ⟨_, rfl⟩
            replace H : (if y142.length + y130.length < 140737488355328 then ((some (([] : List Int) : List Int)).bind fun y148 => (if y148.length + y121.length < 140737488355328 then ((some (y148 ++ y121 : List Int)).bind fun y151 => ((spec_SumWords.f k (y142 ++ y130)).bind fun t154 => ((spec_l1Bytes.f k t154 2).bind fun t155 => (if y151.length + t155.length < 140737488355328 then ((some (y151 ++ t155 : List Int)).bind fun y158 => (if y158.length + y130.length < 140737488355328 then (some (y158 ++ y130)) else (none))) else (none))))) else (none))) else (none)) = some r := by first | (rw [hy142]; with_reducible exact H) | (have H2_ := (Option.bind_some _ _).symm.trans H; rw [hy142]; with_reducible exact H2_) | (have H2_ := (Option.bind_some _ _).symm.trans H; with_reducible exact H2_) | with_reducible exact H | (rw [hy142]; exact H) | exact H
            have Ny142 := am hy142
            clear hy142
            by_cases c13 : y142.length + y130.length < 140737488355328
            · rw [if_pos c13] at H
              have LMc13 := am c13
              clear c13
              obtain ⟨y145, hy145⟩ : ∃ y_ : List Int, y_ = (y142 ++ y130) := ⟨_, rfl⟩
              replace H : ((some (([] : List Int) : List Int)).bind fun y148 => (if y148.length + y121.length < 140737488355328 then ((some (y148 ++ y121 : List Int)).bind fun y151 => ((spec_SumWords.f k y145).bind fun t154 => ((spec_l1Bytes.f k t154 2).bind fun t155 => (if y151.length + t155.length < 140737488355328 then ((some (y151 ++ t155 : List Int)).bind fun y158 => (if y158.length + y130.length < 140737488355328 then (some (y158 ++ y130)) else (none))) else (none))))) else (none))) = some r := by first | (rw [hy145]; with_reducible exact H) | (have H2_ := (Option.bind_some _ _).symm.trans H; rw [hy145]; with_reducible exact H2_) | (have H2_ := (Option.bind_some _ _).symm.trans H; with_reducible exact H2_) | with_reducible exact H | (rw [hy145]; exact H) | exact H
              have Ny145 := am hy145
              clear hy145
              obtain ⟨y148, hy148⟩ : ∃ y_ : List Int, y_ = (([] : List Int)) := ⟨_, rfl⟩
              replace H : (if y148.length + y121.length < 140737488355328 then ((some (y148 ++ y121 : List Int)).bind fun y151 => ((spec_SumWords.f k y145).bind fun t154 => ((spec_l1Bytes.f k t154 2).bind fun t155 => (if y151.length + t155.length < 140737488355328 then ((some (y151 ++ t155 : List Int)).bind fun y158 => (if y158.length + y130.length < 140737488355328 then (some (y158 ++ y130)) else (none))) else (none))))) else (none)) = some r := by first | (rw [hy148]; with_reducible exact H) | (have H2_ := (Option.bind_some _ _).symm.trans H; rw [hy148]; with_reducible exact H2_) | (have H2_ := (Option.bind_some _ _).symm.trans H; with_reducible exact H2_) | with_reducible exact H | (rw [hy148]; exact H) | exact H
              have Ny148 := am hy148
              clear hy148
              by_cases c14 : y148.length + y121.length < 140737488355328
              · rw [if_pos c14] at H
                have LMc14 := am c14
                clear c14
                obtain ⟨y151, hy151⟩ : ∃ y_ : List Int, y_ = (y148 ++ y121) := ⟨_, rfl⟩
                replace H : ((spec_SumWords.f k y145).bind fun t154 => ((spec_l1Bytes.f k t154 2).bind fun t155 => (if y151.length + t155.length < 140737488355328 then ((some (y151 ++ t155 : List Int)).bind fun y158 => (if y158.length + y130.length < 140737488355328 then (some (y158 ++ y130)) else (none))) else (none)))) = some r := by first | (rw [hy151]; with_reducible exact H) | (have H2_ := (Option.bind_some _ _).symm.trans H; rw [hy151]; with_reducible exact H2_) | (have H2_ := (Option.bind_some _ _).symm.trans H; with_reducible exact H2_) | with_reducible exact H | (rw [hy151]; exact H) | exact H
                have Ny151 := am hy151
                clear hy151
                replace H := Option.bind_eq_some_iff.mp H
                obtain ⟨t154, A150, H⟩ := H
                replace H : ((spec_l1Bytes.f k t154 2).bind fun t155 => (if y151.length + t155.length < 140737488355328 then ((some (y151 ++ t155 : List Int)).bind fun y158 => (if y158.length + y130.length < 140737488355328 then (some (y158 ++ y130)) else (none))) else (none))) = some r := H
                have A15 := am A150
                clear A150
                replace H := Option.bind_eq_some_iff.mp H
                obtain ⟨t155, A160, H⟩ := H
                replace H : (if y151.length + t155.length < 140737488355328 then ((some (y151 ++ t155 : List Int)).bind fun y158 => (if y158.length + y130.length < 140737488355328 then (some (y158 ++ y130)) else (none))) else (none)) = some r := H
                have A16 := am A160
                clear A160
                by_cases c17 : y151.length + t155.length < 140737488355328
                · rw [if_pos c17] at H
                  have LMc17 := am c17
                  clear c17
                  obtain ⟨y158, hy158⟩ : ∃ y_ : List Int, y_ = (y151 ++ t155) := ⟨_, rfl⟩
                  replace H : (if y158.length + y130.length < 140737488355328 then (some (y158 ++ y130)) else (none)) = some r := by first | (rw [hy158]; with_reducible exact H) | (have H2_ := (Option.bind_some _ _).symm.trans H; rw [hy158]; with_reducible exact H2_) | (have H2_ := (Option.bind_some _ _).symm.trans H; with_reducible exact H2_) | with_reducible exact H | (rw [hy158]; exact H) | exact H
                  have Ny158 := am hy158
                  clear hy158
                  by_cases c18 : y158.length + y130.length < 140737488355328
                  · rw [if_pos c18] at H
                    have LMc18 := am c18
                    clear c18
                    obtain ⟨y161, hy161⟩ : ∃ y_ : List Int, y_ = (y158 ++ y130) := ⟨_, rfl⟩
                    replace H : (some y161) = some r := by first | (rw [hy161]; with_reducible exact H) | (have H2_ := (Option.bind_some _ _).symm.trans H; rw [hy161]; with_reducible exact H2_) | (have H2_ := (Option.bind_some _ _).symm.trans H; with_reducible exact H2_) | with_reducible exact H | (rw [hy161]; exact H) | exact H
                    have Ny161 := am hy161
                    clear hy161
                    obtain rfl := Option.some.inj H
                    go_enter Tryd.func45, Tryd.ntmps45
                    go_wp2_with (first | ((with_reducible refine gate_dst (N := 12) rfl ?_); refine Kd.R_lit (Kd.int .u8) _ 5 ?hg (N := 12) ?hd (xs := ([69, 0] : List Int)) (inner := [.int .u8 69, .int .u8 0]) (ok := fun _ => True) (okp := fun _ => True) ?hr ?hp (fun _ hk => hk) trivial (Below.refl _ _) (Nat.le_refl _) (by simp) ?_; (case hd => rfl); (case hg => rfl); (case hr => first | (go_simp; done) | (go_simp; rfl)); (case hp => exact (Reps.one (show Kd.M (Kd.int .u8) _ _ _ 69 [.int .u8 69] from rfl) (Reps.one (show Kd.M (Kd.int .u8) _ _ _ 0 [.int .u8 0] from rfl) (Reps.none _ _)))); intro v110 w19 ho20 hb hg_ hnew_; clear hg_ hnew_; (first | rw [← Ny109.out] at ho20 | (simp only [Int.reduceToNat] at ho20; rw [← Ny109.out] at ho20)); have N0 := am (rw1 ho20 (bz (by repeat (first | (with_reducible first | exact HB.out | apply pa | apply pN | apply p1) | exact HB.out)))); have N1 := am (bp (by repeat (first | (with_reducible first | exact HB.out | apply pa | apply pN | apply p1) | exact HB.out)) hb); clear HB; have O111 := N0; have HB := N1; clear N0 N1 hb ho20) | ((with_reducible refine gate_callee (f := 46) rfl ?_); refine goesL_ (some 15) rfl rfl Tryd.func46 (by kernel_rfl) rfl #[I q (wrap64 (20 + a3)), I q 2] rfl (by (try simp only [List.map_toArray, List.map_cons, List.map_nil]); first | done | rfl) ?_; (with_reducible refine (spec_l1Bytes.calls k (wrap64 (20 + a3)) 2 t112 _ A5.out).mono ?_); rintro e w21 ⟨v113, rfl, ho0, hb⟩; refine ⟨_, rfl, ?_⟩; have N0 := am (re (by (with_reducible repeat (first | apply ra | apply rN | apply rd1)); exact O111.out) (Kd.R_base ho0) hb); have N1 := am (rw1 (rn ho0 (rl (by (with_reducible repeat (first | apply ra | apply rN | apply rd1)); exact O111.out))) (bz (by repeat (first | (with_reducible first | exact HB.out | apply pa | apply pN | apply p1) | exact HB.out)))); have N2 := am (bp (by repeat (first | (with_reducible first | exact HB.out | apply pa | apply pN | apply p1) | exact HB.out)) hb); clear O111 HB; have O111 := N0; have O114 := N1; have HB := N2; clear N0 N1 N2; (try clear hb); (try clear hb2); (try clear hk); (try clear hi); (try clear ho0); obtain ⟨Ao23, co23, eo23⟩ := Kd.R_slice O114.out; subst eo23) | ((with_reducible refine gate_builtin (b := .append) (xs := #[.tmp 12, .tmp 15]) rfl ?_); at_builtin; refine Kd.R_append_rows (Kd.int .u8) (w0 := w) w.heap.size rfl (.tmp 12) (.tmp 15) 22 5 (.int .u8 0) 1 rfl Tryd.underlying22 info5 rfl (by decide) (by omega) v110 y109 t112 _ _ _ (fun k_ => some k_ ≠ (J Ao23 t112.length co23 : Value).ownBlock) (fun _ => False) rfl rfl ?aO ?aR (fun _ _ h => h) (fun _ h => h.elim) ?aF ?aB ?aS ?aL ?_; (case aR => repeat (first | exact (Kd.R_reads' O114.out).2.2 | (with_reducible refine ca ?_ _) | (with_reducible refine cN ?_ _) | (with_reducible refine cd1 ?_))); (case aB => exact (by repeat (first | (with_reducible first | exact HB.out | apply pa | apply pN | apply p1) | exact HB.out))); (case aF => exact (fun k_ hk => Kd.fresh' (rl (by (with_reducible repeat (first | apply ra | apply rN | apply rd1)); exact O114.out)) k_ hk)); (case aO => exact (by (with_reducible repeat (first | apply ra | apply rN | apply rd1)); exact Kd.R_mono O111.out (fun _ hk => hk.2))); (case aS => exact (bz (by repeat (first | (with_reducible first | exact HB.out | apply pa | apply pN | apply p1) | exact HB.out)))); (case aL => have := LMc6.out; omega); intro v116 w22 ho hb hg hat; rw [← Ny115.out] at ho; have N0 := am (Kd.R_after (ok := (fun _ => True)) (by (with_reducible repeat (first | apply ra | apply rN | apply rd1)); exact O114.out) hg hat); have N1 := am (hb); have N2 := am (ho); clear O114 HB O111; have O114 := N0; have HB := N1; have O117 := N2; clear N0 N1 N2 ho hb hg hat) | ((with_reducible refine gate_dst (N := 20) rfl ?_); refine Kd.R_lit (Kd.int .u8) _ 5 ?hg (N := 20) ?hd (xs := ([0, 0, 0, 0, 64, (a0) % 256] : List Int)) (inner := [.int .u8 0, .int .u8 0, .int .u8 0, .int .u8 0, .int .u8 64, .int .u8 ((a0) % 256)]) (ok := fun _ => True) (okp := fun _ => True) ?hr ?hp (fun _ hk => hk) trivial (Below.refl _ _) (Nat.le_refl _) (by simp) ?_; (case hd => rfl); (case hg => rfl); (case hr => first | (go_simp; done) | (go_simp; rfl)); (case hp => exact (Reps.one (show Kd.M (Kd.int .u8) _ _ _ 0 [.int .u8 0] from rfl) (Reps.one (show Kd.M (Kd.int .u8) _ _ _ 0 [.int .u8 0] from rfl) (Reps.one (show Kd.M (Kd.int .u8) _ _ _ 0 [.int .u8 0] from rfl) (Reps.one (show Kd.M (Kd.int .u8) _ _ _ 0 [.int .u8 0] from rfl) (Reps.one (show Kd.M (Kd.int .u8) _ _ _ 64 [.int .u8 64] from rfl) (Reps.one (show Kd.M (Kd.int .u8) _ _ _ ((a0) % 256) [.int .u8 ((a0) % 256)] from rfl) (Reps.none _ _)))))))); intro v119 w24 ho25 hb hg_ hnew_; clear hg_ hnew_; (first | rw [← Ny118.out] at ho25 | (simp only [Int.reduceToNat] at ho25; rw [← Ny118.out] at ho25)); have N0 := am (re (by (with_reducible repeat (first | apply ra | apply rN | apply rd1)); exact O114.out) (Kd.R_base ho25) hb); have N1 := am (re (by (with_reducible repeat (first | apply ra | apply rN | apply rd1)); exact O117.out) (Kd.R_base ho25) hb); have N2 := am (rw1 (rn (rn ho25 (rl (by (with_reducible repeat (first | apply ra | apply rN | apply rd1)); exact O114.out))) (rl (by (with_reducible repeat (first | apply ra | apply rN | apply rd1)); exact O117.out))) (bz (by repeat (first | (with_reducible first | exact HB.out | apply pa | apply pN | apply p1) | exact HB.out)))); have N3 := am (bp (by repeat (first | (with_reducible first | exact HB.out | apply pa | apply pN | apply p1) | exact HB.out)) hb); clear O114 O117 HB; have O114 := N0; have O117 := N1; have O120 := N2; have HB := N3; clear N0 N1 N2 N3 hb ho25; obtain ⟨Ao27, co27, eo27⟩ := Kd.R_slice O120.out; subst eo27) | ((with_reducible refine gate_builtin (b := .append) (xs := #[.tmp 17, .tmp 20]) rfl ?_); at_builtin; refine Kd.R_append_rows (Kd.int .u8) (w0 := w) w.heap.size rfl (.tmp 17) (.tmp 20) 22 5 (.int .u8 0) 1 rfl Tryd.underlying22 info5 rfl (by decide) (by omega) v116 y115 y118 _ _ _ (fun k_ => some k_ ≠ (J Ao23 t112.length co23 : Value).ownBlock ∧ some k_ ≠ (J Ao27 y118.length co27 : Value).ownBlock) (fun _ => False) rfl rfl ?aO ?aR (fun _ _ h => h) (fun _ h => h.elim) ?aF ?aB ?aS ?aL ?_; (case aR => repeat (first | exact (Kd.R_reads' O120.out).2.2 | (with_reducible refine ca ?_ _) | (with_reducible refine cN ?_ _) | (with_reducible refine cd1 ?_))); (case aB => exact (by repeat (first | (with_reducible first | exact HB.out | apply pa | apply pN | apply p1) | exact HB.out))); (case aF => exact (fun k_ hk => ⟨Kd.fresh' (rl (by (with_reducible repeat (first | apply ra | apply rN | apply rd1)); exact O114.out)) k_ hk, Kd.fresh' (rl (by (with_reducible repeat (first | apply ra | apply rN | apply rd1)); exact O120.out)) k_ hk⟩)); (case aO => exact (by (with_reducible repeat (first | apply ra | apply rN | apply rd1)); exact O117.out)); (case aS => exact (bz (by repeat (first | (with_reducible first | exact HB.out | apply pa | apply pN | apply p1) | exact HB.out)))); (case aL => have := LMc7.out; omega); intro v122 w26 ho hb hg hat; rw [← Ny121.out] at ho; have N0 := am (Kd.R_after (ok := (fun k_ => some k_ ≠ (J Ao27 y118.length co27 : Value).ownBlock)) (by (with_reducible repeat (first | apply ra | apply rN | apply rd1)); exact Kd.R_mono O114.out (fun _ hk => ⟨hk.2, hk.1.2⟩)) hg hat); have N1 := am (Kd.R_after (ok := (fun k_ => some k_ ≠ (J Ao23 t112.length co23 : Value).ownBlock)) (by (with_reducible repeat (first | apply ra | apply rN | apply rd1)); exact Kd.R_mono O120.out (fun _ hk => ⟨hk.1.2, hk.2⟩)) hg hat); have N2 := am (hb); have N3 := am (ho); clear O114 O120 HB O117; have O114 := N0; have O120 := N1; have HB := N2; have O123 := N3; clear N0 N1 N2 N3 ho hb hg hat) | ((with_reducible refine gate_callee (f := 46) rfl ?_); refine goesL_ (some 23) rfl rfl Tryd.func46 (by kernel_rfl) rfl #[I q a1, I q 4] rfl (by (try simp only [List.map_toArray, List.map_cons, List.map_nil]); first | done | rfl) ?_; (with_reducible refine (spec_l1Bytes.calls k a1 4 t124 _ A8.out).mono ?_); rintro e w28 ⟨v125, rfl, ho0, hb⟩; refine ⟨_, rfl, ?_⟩; have N0 := am (re (by (with_reducible repeat (first | apply ra | apply rN | apply rd1)); exact O114.out) (Kd.R_base ho0) hb); have N1 := am (re (by (with_reducible repeat (first | apply ra | apply rN | apply rd1)); exact O120.out) (Kd.R_base ho0) hb); have N2 := am (re (by (with_reducible repeat (first | apply ra | apply rN | apply rd1)); exact O123.out) (Kd.R_base ho0) hb); have N3 := am (rw1 (rn (rn (rn ho0 (rl (by (with_reducible repeat (first | apply ra | apply rN | apply rd1)); exact O114.out))) (rl (by (with_reducible repeat (first | apply ra | apply rN | apply rd1)); exact O120.out))) (rl (by (with_reducible repeat (first | apply ra | apply rN | apply rd1)); exact O123.out))) (bz (by repeat (first | (with_reducible first | exact HB.out | apply pa | apply pN | apply p1) | exact HB.out)))); have N4 := am (bp (by repeat (first | (with_reducible first | exact HB.out | apply pa | apply pN | apply p1) | exact HB.out)) hb); clear O114 O120 O123 HB; have O114 := N0; have O120 := N1; have O123 := N2; have O126 := N3; have HB := N4; clear N0 N1 N2 N3 N4; (try clear hb); (try clear hb2); (try clear hk); (try clear hi); (try clear ho0)) | ((with_reducible refine gate_callee (f := 46) rfl ?_); refine goesL_ (some 25) rfl rfl Tryd.func46 (by kernel_rfl) rfl #[I q a2, I q 4] rfl (by (try simp only [List.map_toArray, List.map_cons, List.map_nil]); first | done | rfl) ?_; (with_reducible refine (spec_l1Bytes.calls k a2 4 t127 _ A9.out).mono ?_); rintro e w29 ⟨v128, rfl, ho0, hb⟩; refine ⟨_, rfl, ?_⟩; have N0 := am (re (by (with_reducible repeat (first | apply ra | apply rN | apply rd1)); exact O114.out) (Kd.R_base ho0) hb); have N1 := am (re (by (with_reducible repeat (first | apply ra | apply rN | apply rd1)); exact O120.out) (Kd.R_base ho0) hb); have N2 := am (re (by (with_reducible repeat (first | apply ra | apply rN | apply rd1)); exact O123.out) (Kd.R_base ho0) hb); have N3 := am (re (by (with_reducible repeat (first | apply ra | apply rN | apply rd1)); exact O126.out) (Kd.R_base ho0) hb); have N4 := am (rw1 (rn (rn (rn (rn ho0 (rl (by (with_reducible repeat (first | apply ra | apply rN | apply rd1)); exact O114.out))) (rl (by (with_reducible repeat (first | apply ra | apply rN | apply rd1)); exact O120.out))) (rl (by (with_reducible repeat (first | apply ra | apply rN | apply rd1)); exact O123.out))) (rl (by (with_reducible repeat (first | apply ra | apply rN | apply rd1)); exact O126.out))) (bz (by repeat (first | (with_reducible first | exact HB.out | apply pa | apply pN | apply p1) | exact HB.out)))); have N5 := am (bp (by repeat (first | (with_reducible first | exact HB.out | apply pa | apply pN | apply p1) | exact HB.out)) hb); clear O114 O120 O123 O126 HB; have O114 := N0; have O120 := N1; have O123 := N2; have O126 := N3; have O129 := N4; have HB := N5; clear N0 N1 N2 N3 N4 N5; (try clear hb); (try clear hb2); (try clear hk); (try clear hi); (try clear ho0); obtain ⟨Ao31, co31, eo31⟩ := Kd.R_slice O129.out; subst eo31) | ((with_reducible refine gate_builtin (b := .append) (xs := #[.tmp 23, .tmp 25]) rfl ?_); at_builtin; refine Kd.R_append_rows (Kd.int .u8) (w0 := w) w.heap.size rfl (.tmp 23) (.tmp 25) 22 5 (.int .u8 0) 1 rfl Tryd.underlying22 info5 rfl (by decide) (by omega) v125 t124 t127 _ _ _ (fun k_ => some k_ ≠ (J Ao23 t112.length co23 : Value).ownBlock ∧ some k_ ≠ (J Ao27 y118.length co27 : Value).ownBlock ∧ some k_ ≠ (v122 : Value).ownBlock ∧ some k_ ≠ (J Ao31 t127.length co31 : Value).ownBlock) (fun _ => False) rfl rfl ?aO ?aR (fun _ _ h => h) (fun _ h => h.elim) ?aF ?aB ?aS ?aL ?_; (case aR => repeat (first | exact (Kd.R_reads' O129.out).2.2 | (with_reducible refine ca ?_ _) | (with_reducible refine cN ?_ _) | (with_reducible refine cd1 ?_))); (case aB => exact (by repeat (first | (with_reducible first | exact HB.out | apply pa | apply pN | apply p1) | exact HB.out))); (case aF => exact (fun k_ hk => ⟨Kd.fresh' (rl (by (with_reducible repeat (first | apply ra | apply rN | apply rd1)); exact O114.out)) k_ hk, Kd.fresh' (rl (by (with_reducible repeat (first | apply ra | apply rN | apply rd1)); exact O120.out)) k_ hk, Kd.fresh' (rl (by (with_reducible repeat (first | apply ra | apply rN | apply rd1)); exact O123.out)) k_ hk, Kd.fresh' (rl (by (with_reducible repeat (first | apply ra | apply rN | apply rd1)); exact O129.out)) k_ hk⟩)); (case aO => exact (by (with_reducible repeat (first | apply ra | apply rN | apply rd1)); exact Kd.R_mono O126.out (fun _ hk => ⟨hk.1.1.1.2, ⟨hk.1.1.2, ⟨hk.1.2, hk.2⟩⟩⟩))); (case aS => exact (bz (by repeat (first | (with_reducible first | exact HB.out | apply pa | apply pN | apply p1) | exact HB.out)))); (case aL => have := LMc10.out; omega); intro v131 w30 ho hb hg hat; rw [← Ny130.out] at ho; have N0 := am (Kd.R_after (ok := (fun k_ => some k_ ≠ (J Ao27 y118.length co27 : Value).ownBlock ∧ some k_ ≠ (v122 : Value).ownBlock ∧ some k_ ≠ (J Ao31 t127.length co31 : Value).ownBlock)) (by (with_reducible repeat (first | apply ra | apply rN | apply rd1)); exact Kd.R_mono O114.out (fun _ hk => ⟨⟨hk.1.1.1, ⟨hk.1.1.2, hk.2⟩⟩, hk.1.2⟩)) hg hat); have N1 := am (Kd.R_after (ok := (fun k_ => some k_ ≠ (J Ao23 t112.length co23 : Value).ownBlock ∧ some k_ ≠ (v122 : Value).ownBlock ∧ some k_ ≠ (J Ao31 t127.length co31 : Value).ownBlock)) (by (with_reducible repeat (first | apply ra | apply rN | apply rd1)); exact Kd.R_mono O120.out (fun _ hk => ⟨⟨hk.1.1.1, ⟨hk.1.1.2, hk.2⟩⟩, hk.1.2⟩)) hg hat); have N2 := am (Kd.R_after (ok := (fun k_ => some k_ ≠ (J Ao23 t112.length co23 : Value).ownBlock ∧ some k_ ≠ (J Ao27 y118.length co27 : Value).ownBlock ∧ some k_ ≠ (J Ao31 t127.length co31 : Value).ownBlock)) (by (with_reducible repeat (first | apply ra | apply rN | apply rd1)); exact Kd.R_mono O123.out (fun _ hk => ⟨⟨hk.1.1.1, ⟨hk.1.1.2, hk.2⟩⟩, hk.1.2⟩)) hg hat); have N3 := am (Kd.R_after (ok := (fun k_ => some k_ ≠ (J Ao23 t112.length co23 : Value).ownBlock ∧ some k_ ≠ (J Ao27 y118.length co27 : Value).ownBlock ∧ some k_ ≠ (v122 : Value).ownBlock)) (by (with_reducible repeat (first | apply ra | apply rN | apply rd1)); exact Kd.R_mono O129.out (fun _ hk => ⟨⟨hk.1.1.1.2, ⟨hk.1.1.2, hk.1.2⟩⟩, hk.2⟩)) hg hat); have N4 := am (hb); have N5 := am (ho); clear O114 O120 O123 O129 HB O126; have O114 := N0; have O120 := N1; have O123 := N2; have O129 := N3; have HB := N4; have O132 := N5; clear N0 N1 N2 N3 N4 N5 ho hb hg hat) | ((with_reducible refine gate_dst (N := 27) rfl ?_); refine Kd.R_lit (Kd.int .u8) _ 5 ?hg (N := 27) ?hd (xs := ([] : List Int)) (inner := []) (ok := fun _ => True) (okp := fun _ => True) ?hr ?hp (fun _ hk => hk) trivial (Below.refl _ _) (Nat.le_refl _) (by simp) ?_; (case hd => rfl); (case hg => rfl); (case hr => first | (go_simp; done) | (go_simp; rfl)); (case hp => exact (Reps.none _ _)); intro v134 w32 ho33 hb hg_ hnew_; clear hg_ hnew_; (first | rw [← Ny133.out] at ho33 | (simp only [Int.reduceToNat] at ho33; rw [← Ny133.out] at ho33)); have N0 := am (re (by (with_reducible repeat (first | apply ra | apply rN | apply rd1)); exact O114.out) (Kd.R_base ho33) hb); have N1 := am (re (by (with_reducible repeat (first | apply ra | apply rN | apply rd1)); exact O120.out) (Kd.R_base ho33) hb); have N2 := am (re (by (with_reducible repeat (first | apply ra | apply rN | apply rd1)); exact O123.out) (Kd.R_base ho33) hb); have N3 := am (re (by (with_reducible repeat (first | apply ra | apply rN | apply rd1)); exact O129.out) (Kd.R_base ho33) hb); have N4 := am (re (by (with_reducible repeat (first | apply ra | apply rN | apply rd1)); exact O132.out) (Kd.R_base ho33) hb); have N5 := am (rw1 (rn (rn (rn (rn (rn ho33 (rl (by (with_reducible repeat (first | apply ra | apply rN | apply rd1)); exact O114.out))) (rl (by (with_reducible repeat (first | apply ra | apply rN | apply rd1)); exact O120.out))) (rl (by (with_reducible repeat (first | apply ra | apply rN | apply rd1)); exact O123.out))) (rl (by (with_reducible repeat (first | apply ra | apply rN | apply rd1)); exact O129.out))) (rl (by (with_reducible repeat (first | apply ra | apply rN | apply rd1)); exact O132.out))) (bz (by repeat (first | (with_reducible first | exact HB.out | apply pa | apply pN | apply p1) | exact HB.out)))); have N6 := am (bp (by repeat (first | (with_reducible first | exact HB.out | apply pa | apply pN | apply p1) | exact HB.out)) hb); clear O114 O120 O123 O129 O132 HB; have O114 := N0; have O120 := N1; have O123 := N2; have O129 := N3; have O132 := N4; have O135 := N5; have HB := N6; clear N0 N1 N2 N3 N4 N5 N6 hb ho33; obtain ⟨Ao35, co35, eo35⟩ := Kd.R_slice O123.out; subst eo35) | ((with_reducible refine gate_builtin (b := .append) (xs := #[.tmp 27, .tmp 28]) rfl ?_); at_builtin; refine Kd.R_append_rows (Kd.int .u8) (w0 := w) w.heap.size rfl (.tmp 27) (.tmp 28) 22 5 (.int .u8 0) 1 rfl Tryd.underlying22 info5 rfl (by decide) (by omega) v134 y133 y121 _ _ _ (fun k_ => some k_ ≠ (J Ao23 t112.length co23 : Value).ownBlock ∧ some k_ ≠ (J Ao27 y118.length co27 : Value).ownBlock ∧ some k_ ≠ (J Ao35 y121.length co35 : Value).ownBlock ∧ some k_ ≠ (J Ao31 t127.length co31 : Value).ownBlock ∧ some k_ ≠ (v131 : Value).ownBlock) (fun _ => False) rfl rfl ?aO ?aR (fun _ _ h => h) (fun _ h => h.elim) ?aF ?aB ?aS ?aL ?_; (case aR => repeat (first | exact (Kd.R_reads' O123.out).2.2 | (with_reducible refine ca ?_ _) | (with_reducible refine cN ?_ _) | (with_reducible refine cd1 ?_))); (case aB => exact (by repeat (first | (with_reducible first | exact HB.out | apply pa | apply pN | apply p1) | exact HB.out))); (case aF => exact (fun k_ hk => ⟨Kd.fresh' (rl (by (with_reducible repeat (first | apply ra | apply rN | apply rd1)); exact O114.out)) k_ hk, Kd.fresh' (rl (by (with_reducible repeat (first | apply ra | apply rN | apply rd1)); exact O120.out)) k_ hk, Kd.fresh' (rl (by (with_reducible repeat (first | apply ra | apply rN | apply rd1)); exact O123.out)) k_ hk, Kd.fresh' (rl (by (with_reducible repeat (first | apply ra | apply rN | apply rd1)); exact O129.out)) k_ hk, Kd.fresh' (rl (by (with_reducible repeat (first | apply ra | apply rN | apply rd1)); exact O132.out)) k_ hk⟩)); (case aO => exact (by (with_reducible repeat (first | apply ra | apply rN | apply rd1)); exact Kd.R_mono O135.out (fun _ hk => ⟨hk.1.1.1.1.2, ⟨hk.1.1.1.2, ⟨hk.1.1.2, ⟨hk.1.2, hk.2⟩⟩⟩⟩))); (case aS => exact (bz (by repeat (first | (with_reducible first | exact HB.out | apply pa | apply pN | apply p1) | exact HB.out)))); (case aL => have := LMc11.out; omega); intro v137 w34 ho hb hg hat; rw [← Ny136.out] at ho; have N0 := am (Kd.R_after (ok := (fun k_ => some k_ ≠ (J Ao27 y118.length co27 : Value).ownBlock ∧ some k_ ≠ (J Ao35 y121.length co35 : Value).ownBlock ∧ some k_ ≠ (J Ao31 t127.length co31 : Value).ownBlock ∧ some k_ ≠ (v131 : Value).ownBlock)) (by (with_reducible repeat (first | apply ra | apply rN | apply rd1)); exact Kd.R_mono O114.out (fun _ hk => ⟨⟨hk.1.1.1, ⟨hk.1.1.2.1, ⟨hk.1.1.2.2, hk.1.2⟩⟩⟩, hk.2⟩)) hg hat); have N1 := am (Kd.R_after (ok := (fun k_ => some k_ ≠ (J Ao23 t112.length co23 : Value).ownBlock ∧ some k_ ≠ (J Ao35 y121.length co35 : Value).ownBlock ∧ some k_ ≠ (J Ao31 t127.length co31 : Value).ownBlock ∧ some k_ ≠ (v131 : Value).ownBlock)) (by (with_reducible repeat (first | apply ra | apply rN | apply rd1)); exact Kd.R_mono O120.out (fun _ hk => ⟨⟨hk.1.1.1, ⟨hk.1.1.2.1, ⟨hk.1.1.2.2, hk.1.2⟩⟩⟩, hk.2⟩)) hg hat); have N2 := am (Kd.R_after (ok := (fun k_ => some k_ ≠ (J Ao23 t112.length co23 : Value).ownBlock ∧ some k_ ≠ (J Ao27 y118.length co27 : Value).ownBlock ∧ some k_ ≠ (J Ao31 t127.length co31 : Value).ownBlock ∧ some k_ ≠ (v131 : Value).ownBlock)) (by (with_reducible repeat (first | apply ra | apply rN | apply rd1)); exact Kd.R_mono O123.out (fun _ hk => ⟨⟨hk.1.1.1, ⟨hk.1.1.2.1, ⟨hk.1.1.2.2, hk.1.2⟩⟩⟩, hk.2⟩)) hg hat); have N3 := am (Kd.R_after (ok := (fun k_ => some k_ ≠ (J Ao23 t112.length co23 : Value).ownBlock ∧ some k_ ≠ (J Ao27 y118.length co27 : Value).ownBlock ∧ some k_ ≠ (J Ao35 y121.length co35 : Value).ownBlock ∧ some k_ ≠ (v131 : Value).ownBlock)) (by (with_reducible repeat (first | apply ra | apply rN | apply rd1)); exact Kd.R_mono O129.out (fun _ hk => ⟨⟨hk.1.1.1, ⟨hk.1.1.2.1, ⟨hk.1.1.2.2, hk.1.2⟩⟩⟩, hk.2⟩)) hg hat); have N4 := am (Kd.R_after (ok := (fun k_ => some k_ ≠ (J Ao23 t112.length co23 : Value).ownBlock ∧ some k_ ≠ (J Ao27 y118.length co27 : Value).ownBlock ∧ some k_ ≠ (J Ao35 y121.length co35 : Value).ownBlock ∧ some k_ ≠ (J Ao31 t127.length co31 : Value).ownBlock)) (by (with_reducible repeat (first | apply ra | apply rN | apply rd1)); exact O132.out) hg hat); have N5 := am (hb); have N6 := am (ho); clear O114 O120 O123 O129 O132 HB O135; have O114 := N0; have O120 := N1; have O123 := N2; have O129 := N3; have O132 := N4; have HB := N5; have O138 := N6; clear N0 N1 N2 N3 N4 N5 N6 ho hb hg hat) | ((with_reducible refine gate_dst (N := 30) rfl ?_); refine Kd.R_lit (Kd.int .u8) _ 5 ?hg (N := 30) ?hd (xs := ([0, 0] : List Int)) (inner := [.int .u8 0, .int .u8 0]) (ok := fun _ => True) (okp := fun _ => True) ?hr ?hp (fun _ hk => hk) trivial (Below.refl _ _) (Nat.le_refl _) (by simp) ?_; (case hd => rfl); (case hg => rfl); (case hr => first | (go_simp; done) | (go_simp; rfl)); (case hp => exact (Reps.one (show Kd.M (Kd.int .u8) _ _ _ 0 [.int .u8 0] from rfl) (Reps.one (show Kd.M (Kd.int .u8) _ _ _ 0 [.int .u8 0] from rfl) (Reps.none _ _)))); intro v140 w36 ho37 hb hg_ hnew_; clear hg_ hnew_; (first | rw [← Ny139.out] at ho37 | (simp only [Int.reduceToNat] at ho37; rw [← Ny139.out] at ho37)); have N0 := am (re (by (with_reducible repeat (first | apply ra | apply rN | apply rd1)); exact O114.out) (Kd.R_base ho37) hb); have N1 := am (re (by (with_reducible repeat (first | apply ra | apply rN | apply rd1)); exact O120.out) (Kd.R_base ho37) hb); have N2 := am (re (by (with_reducible repeat (first | apply ra | apply rN | apply rd1)); exact O123.out) (Kd.R_base ho37) hb); have N3 := am (re (by (with_reducible repeat (first | apply ra | apply rN | apply rd1)); exact O129.out) (Kd.R_base ho37) hb); have N4 := am (re (by (with_reducible repeat (first | apply ra | apply rN | apply rd1)); exact O132.out) (Kd.R_base ho37) hb); have N5 := am (re (by (with_reducible repeat (first | apply ra | apply rN | apply rd1)); exact O138.out) (Kd.R_base ho37) hb); have N6 := am (rw1 (rn (rn (rn (rn (rn (rn ho37 (rl (by (with_reducible repeat (first | apply ra | apply rN | apply rd1)); exact O114.out))) (rl (by (with_reducible repeat (first | apply ra | apply rN | apply rd1)); exact O120.out))) (rl (by (with_reducible repeat (first | apply ra | apply rN | apply rd1)); exact O123.out))) (rl (by (with_reducible repeat (first | apply ra | apply rN | apply rd1)); exact O129.out))) (rl (by (with_reducible repeat (first | apply ra | apply rN | apply rd1)); exact O132.out))) (rl (by (with_reducible repeat (first | apply ra | apply rN | apply rd1)); exact O138.out))) (bz (by repeat (first | (with_reducible first | exact HB.out | apply pa | apply pN | apply p1) | exact HB.out)))); have N7 := am (bp (by repeat (first | (with_reducible first | exact HB.out | apply pa | apply pN | apply p1) | exact HB.out)) hb); clear O114 O120 O123 O129 O132 O138 HB; have O114 := N0; have O120 := N1; have O123 := N2; have O129 := N3; have O132 := N4; have O138 := N5; have O141 := N6; have HB := N7; clear N0 N1 N2 N3 N4 N5 N6 N7 hb ho37; obtain ⟨Ao39, co39, eo39⟩ := Kd.R_slice O141.out; subst eo39) | ((with_reducible refine gate_builtin (b := .append) (xs := #[.tmp 29, .tmp 30]) rfl ?_); at_builtin; refine Kd.R_append_rows (Kd.int .u8) (w0 := w) w.heap.size rfl (.tmp 29) (.tmp 30) 22 5 (.int .u8 0) 1 rfl Tryd.underlying22 info5 rfl (by decide) (by omega) v137 y136 y139 _ _ _ (fun k_ => some k_ ≠ (J Ao23 t112.length co23 : Value).ownBlock ∧ some k_ ≠ (J Ao27 y118.length co27 : Value).ownBlock ∧ some k_ ≠ (J Ao35 y121.length co35 : Value).ownBlock ∧ some k_ ≠ (J Ao31 t127.length co31 : Value).ownBlock ∧ some k_ ≠ (v131 : Value).ownBlock ∧ some k_ ≠ (J Ao39 y139.length co39 : Value).ownBlock) (fun _ => False) rfl rfl ?aO ?aR (fun _ _ h => h) (fun _ h => h.elim) ?aF ?aB ?aS ?aL ?_; (case aR => repeat (first | exact (Kd.R_reads' O141.out).2.2 | (with_reducible refine ca ?_ _) | (with_reducible refine cN ?_ _) | (with_reducible refine cd1 ?_))); (case aB => exact (by repeat (first | (with_reducible first | exact HB.out | apply pa | apply pN | apply p1) | exact HB.out))); (case aF => exact (fun k_ hk => ⟨Kd.fresh' (rl (by (with_reducible repeat (first | apply ra | apply rN | apply rd1)); exact O114.out)) k_ hk, Kd.fresh' (rl (by (with_reducible repeat (first | apply ra | apply rN | apply rd1)); exact O120.out)) k_ hk, Kd.fresh' (rl (by (with_reducible repeat (first | apply ra | apply rN | apply rd1)); exact O123.out)) k_ hk, Kd.fresh' (rl (by (with_reducible repeat (first | apply ra | apply rN | apply rd1)); exact O129.out)) k_ hk, Kd.fresh' (rl (by (with_reducible repeat (first | apply ra | apply rN | apply rd1)); exact O132.out)) k_ hk, Kd.fresh' (rl (by (with_reducible repeat (first | apply ra | apply rN | apply rd1)); exact O141.out)) k_ hk⟩)); (case aO => exact (by (with_reducible repeat (first | apply ra | apply rN | apply rd1)); exact Kd.R_mono O138.out (fun _ hk => ⟨hk.1.1, ⟨hk.1.2.1, ⟨hk.1.2.2.1, ⟨hk.1.2.2.2.1, ⟨hk.1.2.2.2.2, hk.2⟩⟩⟩⟩⟩))); (case aS => exact (bz (by repeat (first | (with_reducible first | exact HB.out | apply pa | apply pN | apply p1) | exact HB.out)))); (case aL => have := LMc12.out; omega); intro v143 w38 ho hb hg hat; rw [← Ny142.out] at ho; have N0 := am (Kd.R_after (ok := (fun k_ => some k_ ≠ (J Ao27 y118.length co27 : Value).ownBlock ∧ some k_ ≠ (J Ao35 y121.length co35 : Value).ownBlock ∧ some k_ ≠ (J Ao31 t127.length co31 : Value).ownBlock ∧ some k_ ≠ (v131 : Value).ownBlock ∧ some k_ ≠ (J Ao39 y139.length co39 : Value).ownBlock)) (by (with_reducible repeat (first | apply ra | apply rN | apply rd1)); exact Kd.R_mono O114.out (fun _ hk => ⟨⟨hk.1.1.1, ⟨hk.1.1.2.1, ⟨hk.1.1.2.2.1, ⟨hk.1.1.2.2.2, hk.2⟩⟩⟩⟩, hk.1.2⟩)) hg hat); have N1 := am (Kd.R_after (ok := (fun k_ => some k_ ≠ (J Ao23 t112.length co23 : Value).ownBlock ∧ some k_ ≠ (J Ao35 y121.length co35 : Value).ownBlock ∧ some k_ ≠ (J Ao31 t127.length co31 : Value).ownBlock ∧ some k_ ≠ (v131 : Value).ownBlock ∧ some k_ ≠ (J Ao39 y139.length co39 : Value).ownBlock)) (by (with_reducible repeat (first | apply ra | apply rN | apply rd1)); exact Kd.R_mono O120.out (fun _ hk => ⟨⟨hk.1.1.1, ⟨hk.1.1.2.1, ⟨hk.1.1.2.2.1, ⟨hk.1.1.2.2.2, hk.2⟩⟩⟩⟩, hk.1.2⟩)) hg hat); have N2 := am (Kd.R_after (ok := (fun k_ => some k_ ≠ (J Ao23 t112.length co23 : Value).ownBlock ∧ some k_ ≠ (J Ao27 y118.length co27 : Value).ownBlock ∧ some k_ ≠ (J Ao31 t127.length co31 : Value).ownBlock ∧ some k_ ≠ (v131 : Value).ownBlock ∧ some k_ ≠ (J Ao39 y139.length co39 : Value).ownBlock)) (by (with_reducible repeat (first | apply ra | apply rN | apply rd1)); exact Kd.R_mono O123.out (fun _ hk => ⟨⟨hk.1.1.1, ⟨hk.1.1.2.1, ⟨hk.1.1.2.2.1, ⟨hk.1.1.2.2.2, hk.2⟩⟩⟩⟩, hk.1.2⟩)) hg hat); have N3 := am (Kd.R_after (ok := (fun k_ => some k_ ≠ (J Ao23 t112.length co23 : Value).ownBlock ∧ some k_ ≠ (J Ao27 y118.length co27 : Value).ownBlock ∧ some k_ ≠ (J Ao35 y121.length co35 : Value).ownBlock ∧ some k_ ≠ (v131 : Value).ownBlock ∧ some k_ ≠ (J Ao39 y139.length co39 : Value).ownBlock)) (by (with_reducible repeat (first | apply ra | apply rN | apply rd1)); exact Kd.R_mono O129.out (fun _ hk => ⟨⟨hk.1.1.1, ⟨hk.1.1.2.1, ⟨hk.1.1.2.2.1, ⟨hk.1.1.2.2.2, hk.2⟩⟩⟩⟩, hk.1.2⟩)) hg hat); have N4 := am (Kd.R_after (ok := (fun k_ => some k_ ≠ (J Ao23 t112.length co23 : Value).ownBlock ∧ some k_ ≠ (J Ao27 y118.length co27 : Value).ownBlock ∧ some k_ ≠ (J Ao35 y121.length co35 : Value).ownBlock ∧ some k_ ≠ (J Ao31 t127.length co31 : Value).ownBlock ∧ some k_ ≠ (J Ao39 y139.length co39 : Value).ownBlock)) (by (with_reducible repeat (first | apply ra | apply rN | apply rd1)); exact Kd.R_mono O132.out (fun _ hk => ⟨⟨hk.1.1.1, ⟨hk.1.1.2.1, ⟨hk.1.1.2.2.1, ⟨hk.1.1.2.2.2, hk.2⟩⟩⟩⟩, hk.1.2⟩)) hg hat); have N5 := am (Kd.R_after (ok := (fun k_ => some k_ ≠ (J Ao23 t112.length co23 : Value).ownBlock ∧ some k_ ≠ (J Ao27 y118.length co27 : Value).ownBlock ∧ some k_ ≠ (J Ao35 y121.length co35 : Value).ownBlock ∧ some k_ ≠ (J Ao31 t127.length co31 : Value).ownBlock ∧ some k_ ≠ (v131 : Value).ownBlock)) (by (with_reducible repeat (first | apply ra | apply rN | apply rd1)); exact Kd.R_mono O141.out (fun _ hk => ⟨⟨hk.1.1.1.1.1.2, ⟨hk.1.1.1.1.2, ⟨hk.1.1.1.2, ⟨hk.1.1.2, hk.1.2⟩⟩⟩⟩, hk.2⟩)) hg hat); have N6 := am (hb); have N7 := am (ho); clear O114 O120 O123 O129 O132 O141 HB O138; have O114 := N0; have O120 := N1; have O123 := N2; have O129 := N3; have O132 := N4; have O141 := N5; have HB := N6; have O144 := N7; clear N0 N1 N2 N3 N4 N5 N6 N7 ho hb hg hat; obtain ⟨Ao41, co41, eo41⟩ := Kd.R_slice O132.out; subst eo41) | ((with_reducible refine gate_builtin (b := .append) (xs := #[.tmp 31, .tmp 32]) rfl ?_); at_builtin; refine Kd.R_append_rows (Kd.int .u8) (w0 := w) w.heap.size rfl (.tmp 31) (.tmp 32) 22 5 (.int .u8 0) 1 rfl Tryd.underlying22 info5 rfl (by decide) (by omega) v143 y142 y130 _ _ _ (fun k_ => some k_ ≠ (J Ao23 t112.length co23 : Value).ownBlock ∧ some k_ ≠ (J Ao27 y118.length co27 : Value).ownBlock ∧ some k_ ≠ (J Ao35 y121.length co35 : Value).ownBlock ∧ some k_ ≠ (J Ao31 t127.length co31 : Value).ownBlock ∧ some k_ ≠ (J Ao41 y130.length co41 : Value).ownBlock ∧ some k_ ≠ (J Ao39 y139.length co39 : Value).ownBlock) (fun _ => False) rfl rfl ?aO ?aR (fun _ _ h => h) (fun _ h => h.elim) ?aF ?aB ?aS ?aL ?_; (case aR => repeat (first | exact (Kd.R_reads' O132.out).2.2 | (with_reducible refine ca ?_ _) | (with_reducible refine cN ?_ _) | (with_reducible refine cd1 ?_))); (case aB => exact (by repeat (first | (with_reducible first | exact HB.out | apply pa | apply pN | apply p1) | exact HB.out))); (case aF => exact (fun k_ hk => ⟨Kd.fresh' (rl (by (with_reducible repeat (first | apply ra | apply rN | apply rd1)); exact O114.out)) k_ hk, Kd.fresh' (rl (by (with_reducible repeat (first | apply ra | apply rN | apply rd1)); exact O120.out)) k_ hk, Kd.fresh' (rl (by (with_reducible repeat (first | apply ra | apply rN | apply rd1)); exact O123.out)) k_ hk, Kd.fresh' (rl (by (with_reducible repeat (first | apply ra | apply rN | apply rd1)); exact O129.out)) k_ hk, Kd.fresh' (rl (by (with_reducible repeat (first | apply ra | apply rN | apply rd1)); exact O132.out)) k_ hk, Kd.fresh' (rl (by (with_reducible repeat (first | apply ra | apply rN | apply rd1)); exact O141.out)) k_ hk⟩)); (case aO => exact (by (with_reducible repeat (first | apply ra | apply rN | apply rd1)); exact O144.out)); (case aS => exact (bz (by repeat (first | (with_reducible first | exact HB.out | apply pa | apply pN | apply p1) | exact HB.out)))); (case aL => have := LMc13.out; omega); intro v146 w40 ho hb hg hat; rw [← Ny145.out] at ho; have N0 := am (Kd.R_after (ok := (fun k_ => some k_ ≠ (J Ao27 y118.length co27 : Value).ownBlock ∧ some k_ ≠ (J Ao35 y121.length co35 : Value).ownBlock ∧ some k_ ≠ (J Ao31 t127.length co31 : Value).ownBlock ∧ some k_ ≠ (J Ao41 y130.length co41 : Value).ownBlock ∧ some k_ ≠ (J Ao39 y139.length co39 : Value).ownBlock)) (by (with_reducible repeat (first | apply ra | apply rN | apply rd1)); exact O114.out) hg hat); have N1 := am (Kd.R_after (ok := (fun k_ => some k_ ≠ (J Ao23 t112.length co23 : Value).ownBlock ∧ some k_ ≠ (J Ao35 y121.length co35 : Value).ownBlock ∧ some k_ ≠ (J Ao31 t127.length co31 : Value).ownBlock ∧ some k_ ≠ (J Ao41 y130.length co41 : Value).ownBlock ∧ some k_ ≠ (J Ao39 y139.length co39 : Value).ownBlock)) (by (with_reducible repeat (first | apply ra | apply rN | apply rd1)); exact O120.out) hg hat); have N2 := am (Kd.R_after (ok := (fun k_ => some k_ ≠ (J Ao23 t112.length co23 : Value).ownBlock ∧ some k_ ≠ (J Ao27 y118.length co27 : Value).ownBlock ∧ some k_ ≠ (J Ao31 t127.length co31 : Value).ownBlock ∧ some k_ ≠ (J Ao41 y130.length co41 : Value).ownBlock ∧ some k_ ≠ (J Ao39 y139.length co39 : Value).ownBlock)) (by (with_reducible repeat (first | apply ra | apply rN | apply rd1)); exact O123.out) hg hat); have N3 := am (Kd.R_after (ok := (fun k_ => some k_ ≠ (J Ao23 t112.length co23 : Value).ownBlock ∧ some k_ ≠ (J Ao27 y118.length co27 : Value).ownBlock ∧ some k_ ≠ (J Ao35 y121.length co35 : Value).ownBlock ∧ some k_ ≠ (J Ao41 y130.length co41 : Value).ownBlock ∧ some k_ ≠ (J Ao39 y139.length co39 : Value).ownBlock)) (by (with_reducible repeat (first | apply ra | apply rN | apply rd1)); exact O129.out) hg hat); have N4 := am (Kd.R_after (ok := (fun k_ => some k_ ≠ (J Ao23 t112.length co23 : Value).ownBlock ∧ some k_ ≠ (J Ao27 y118.length co27 : Value).ownBlock ∧ some k_ ≠ (J Ao35 y121.length co35 : Value).ownBlock ∧ some k_ ≠ (J Ao31 t127.length co31 : Value).ownBlock ∧ some k_ ≠ (J Ao39 y139.length co39 : Value).ownBlock)) (by (with_reducible repeat (first | apply ra | apply rN | apply rd1)); exact O132.out) hg hat); have N5 := am (Kd.R_after (ok := (fun k_ => some k_ ≠ (J Ao23 t112.length co23 : Value).ownBlock ∧ some k_ ≠ (J Ao27 y118.length co27 : Value).ownBlock ∧ some k_ ≠ (J Ao35 y121.length co35 : Value).ownBlock ∧ some k_ ≠ (J Ao31 t127.length co31 : Value).ownBlock ∧ some k_ ≠ (J Ao41 y130.length co41 : Value).ownBlock)) (by (with_reducible repeat (first | apply ra | apply rN | apply rd1)); exact O141.out) hg hat); have N6 := am (hb); have N7 := am (ho); clear O114 O120 O123 O129 O132 O141 HB O144; have O114 := N0; have O120 := N1; have O123 := N2; have O129 := N3; have O132 := N4; have O141 := N5; have HB := N6; have O147 := N7; clear N0 N1 N2 N3 N4 N5 N6 N7 ho hb hg hat) | ((with_reducible refine gate_dst (N := 34) rfl ?_); refine Kd.R_lit (Kd.int .u8) _ 5 ?hg (N := 34) ?hd (xs := ([] : List Int)) (inner := []) (ok := fun _ => True) (okp := fun _ => True) ?hr ?hp (fun _ hk => hk) trivial (Below.refl _ _) (Nat.le_refl _) (by simp) ?_; (case hd => rfl); (case hg => rfl); (case hr => first | (go_simp; done) | (go_simp; rfl)); (case hp => exact (Reps.none _ _)); intro v149 w42 ho43 hb hg_ hnew_; clear hg_ hnew_; (first | rw [← Ny148.out] at ho43 | (simp only [Int.reduceToNat] at ho43; rw [← Ny148.out] at ho43)); have N0 := am (re (by (with_reducible repeat (first | apply ra | apply rN | apply rd1)); exact O114.out) (Kd.R_base ho43) hb); have N1 := am (re (by (with_reducible repeat (first | apply ra | apply rN | apply rd1)); exact O120.out) (Kd.R_base ho43) hb); have N2 := am (re (by (with_reducible repeat (first | apply ra | apply rN | apply rd1)); exact O123.out) (Kd.R_base ho43) hb); have N3 := am (re (by (with_reducible repeat (first | apply ra | apply rN | apply rd1)); exact O129.out) (Kd.R_base ho43) hb); have N4 := am (re (by (with_reducible repeat (first | apply ra | apply rN | apply rd1)); exact O132.out) (Kd.R_base ho43) hb); have N5 := am (re (by (with_reducible repeat (first | apply ra | apply rN | apply rd1)); exact O141.out) (Kd.R_base ho43) hb); have N6 := am (re (by (with_reducible repeat (first | apply ra | apply rN | apply rd1)); exact O147.out) (Kd.R_base ho43) hb); have N7 := am (rw1 (rn (rn (rn (rn (rn (rn (rn ho43 (rl (by (with_reducible repeat (first | apply ra | apply rN | apply rd1)); exact O114.out))) (rl (by (with_reducible repeat (first | apply ra | apply rN | apply rd1)); exact O120.out))) (rl (by (with_reducible repeat (first | apply ra | apply rN | apply rd1)); exact O123.out))) (rl (by (with_reducible repeat (first | apply ra | apply rN | apply rd1)); exact O129.out))) (rl (by (with_reducible repeat (first | apply ra | apply rN | apply rd1)); exact O132.out))) (rl (by (with_reducible repeat (first | apply ra | apply rN | apply rd1)); exact O141.out))) (rl (by (with_reducible repeat (first | apply ra | apply rN | apply rd1)); exact O147.out))) (bz (by repeat (first | (with_reducible first | exact HB.out | apply pa | apply pN | apply p1) | exact HB.out)))); have N8 := am (bp (by repeat (first | (with_reducible first | exact HB.out | apply pa | apply pN | apply p1) | exact HB.out)) hb); clear O114 O120 O123 O129 O132 O141 O147 HB; have O114 := N0; have O120 := N1; have O123 := N2; have O129 := N3; have O132 := N4; have O141 := N5; have O147 := N6; have O150 := N7; have HB := N8; clear N0 N1 N2 N3 N4 N5 N6 N7 N8 hb ho43) | ((with_reducible refine gate_builtin (b := .append) (xs := #[.tmp 34, .tmp 35]) rfl ?_); at_builtin; refine Kd.R_append_rows (Kd.int .u8) (w0 := w) w.heap.size rfl (.tmp 34) (.tmp 35) 22 5 (.int .u8 0) 1 rfl Tryd.underlying22 info5 rfl (by decide) (by omega) v149 y148 y121 _ _ _ (fun k_ => some k_ ≠ (J Ao23 t112.length co23 : Value).ownBlock ∧ some k_ ≠ (J Ao27 y118.length co27 : Value).ownBlock ∧ some k_ ≠ (J Ao35 y121.length co35 : Value).ownBlock ∧ some k_ ≠ (J Ao31 t127.length co31 : Value).ownBlock ∧ some k_ ≠ (J Ao41 y130.length co41 : Value).ownBlock ∧ some k_ ≠ (J Ao39 y139.length co39 : Value).ownBlock ∧ some k_ ≠ (v146 : Value).ownBlock) (fun _ => False) rfl rfl ?aO ?aR (fun _ _ h => h) (fun _ h => h.elim) ?aF ?aB ?aS ?aL ?_; (case aR => repeat (first | exact (Kd.R_reads' O123.out).2.2 | (with_reducible refine ca ?_ _) | (with_reducible refine cN ?_ _) | (with_reducible refine cd1 ?_))); (case aB => exact (by repeat (first | (with_reducible first | exact HB.out | apply pa | apply pN | apply p1) | exact HB.out))); (case aF => exact (fun k_ hk => ⟨Kd.fresh' (rl (by (with_reducible repeat (first | apply ra | apply rN | apply rd1)); exact O114.out)) k_ hk, Kd.fresh' (rl (by (with_reducible repeat (first | apply ra | apply rN | apply rd1)); exact O120.out)) k_ hk, Kd.fresh' (rl (by (with_reducible repeat (first | apply ra | apply rN | apply rd1)); exact O123.out)) k_ hk, Kd.fresh' (rl (by (with_reducible repeat (first | apply ra | apply rN | apply rd1)); exact O129.out)) k_ hk, Kd.fresh' (rl (by (with_reducible repeat (first | apply ra | apply rN | apply rd1)); exact O132.out)) k_ hk, Kd.fresh' (rl (by (with_reducible repeat (first | apply ra | apply rN | apply rd1)); exact O141.out)) k_ hk, Kd.fresh' (rl (by (with_reducible repeat (first | apply ra | apply rN | apply rd1)); exact O147.out)) k_ hk⟩)); (case aO => exact (by (with_reducible repeat (first | apply ra | apply rN | apply rd1)); exact Kd.R_mono O150.out (fun _ hk => ⟨hk.1.1.1.1.1.1.2, ⟨hk.1.1.1.1.1.2, ⟨hk.1.1.1.1.2, ⟨hk.1.1.1.2, ⟨hk.1.1.2, ⟨hk.1.2, hk.2⟩⟩⟩⟩⟩⟩))); (case aS => exact (bz (by repeat (first | (with_reducible first | exact HB.out | apply pa | apply pN | apply p1) | exact HB.out)))); (case aL => have := LMc14.out; omega); intro v152 w44 ho hb hg hat; rw [← Ny151.out] at ho; have N0 := am (Kd.R_after (ok := (fun k_ => some k_ ≠ (J Ao27 y118.length co27 : Value).ownBlock ∧ some k_ ≠ (J Ao35 y121.length co35 : Value).ownBlock ∧ some k_ ≠ (J Ao31 t127.length co31 : Value).ownBlock ∧ some k_ ≠ (J Ao41 y130.length co41 : Value).ownBlock ∧ some k_ ≠ (J Ao39 y139.length co39 : Value).ownBlock ∧ some k_ ≠ (v146 : Value).ownBlock)) (by (with_reducible repeat (first | apply ra | apply rN | apply rd1)); exact Kd.R_mono O114.out (fun _ hk => ⟨⟨hk.1.1.1, ⟨hk.1.1.2.1, ⟨hk.1.1.2.2.1, ⟨hk.1.1.2.2.2.1, ⟨hk.1.1.2.2.2.2, hk.1.2⟩⟩⟩⟩⟩, hk.2⟩)) hg hat); have N1 := am (Kd.R_after (ok := (fun k_ => some k_ ≠ (J Ao23 t112.length co23 : Value).ownBlock ∧ some k_ ≠ (J Ao35 y121.length co35 : Value).ownBlock ∧ some k_ ≠ (J Ao31 t127.length co31 : Value).ownBlock ∧ some k_ ≠ (J Ao41 y130.length co41 : Value).ownBlock ∧ some k_ ≠ (J Ao39 y139.length co39 : Value).ownBlock ∧ some k_ ≠ (v146 : Value).ownBlock)) (by (with_reducible repeat (first | apply ra | apply rN | apply rd1)); exact Kd.R_mono O120.out (fun _ hk => ⟨⟨hk.1.1.1, ⟨hk.1.1.2.1, ⟨hk.1.1.2.2.1, ⟨hk.1.1.2.2.2.1, ⟨hk.1.1.2.2.2.2, hk.1.2⟩⟩⟩⟩⟩, hk.2⟩)) hg hat); have N2 := am (Kd.R_after (ok := (fun k_ => some k_ ≠ (J Ao23 t112.length co23 : Value).ownBlock ∧ some k_ ≠ (J Ao27 y118.length co27 : Value).ownBlock ∧ some k_ ≠ (J Ao31 t127.length co31 : Value).ownBlock ∧ some k_ ≠ (J Ao41 y130.length co41 : Value).ownBlock ∧ some k_ ≠ (J Ao39 y139.length co39 : Value).ownBlock ∧ some k_ ≠ (v146 : Value).ownBlock)) (by (with_reducible repeat (first | apply ra | apply rN | apply rd1)); exact Kd.R_mono O123.out (fun _ hk => ⟨⟨hk.1.1.1, ⟨hk.1.1.2.1, ⟨hk.1.1.2.2.1, ⟨hk.1.1.2.2.2.1, ⟨hk.1.1.2.2.2.2, hk.1.2⟩⟩⟩⟩⟩, hk.2⟩)) hg hat); have N3 := am (Kd.R_after (ok := (fun k_ => some k_ ≠ (J Ao23 t112.length co23 : Value).ownBlock ∧ some k_ ≠ (J Ao27 y118.length co27 : Value).ownBlock ∧ some k_ ≠ (J Ao35 y121.length co35 : Value).ownBlock ∧ some k_ ≠ (J Ao41 y130.length co41 : Value).ownBlock ∧ some k_ ≠ (J Ao39 y139.length co39 : Value).ownBlock ∧ some k_ ≠ (v146 : Value).ownBlock)) (by (with_reducible repeat (first | apply ra | apply rN | apply rd1)); exact Kd.R_mono O129.out (fun _ hk => ⟨⟨hk.1.1.1, ⟨hk.1.1.2.1, ⟨hk.1.1.2.2.1, ⟨hk.1.1.2.2.2.1, ⟨hk.1.1.2.2.2.2, hk.1.2⟩⟩⟩⟩⟩, hk.2⟩)) hg hat); have N4 := am (Kd.R_after (ok := (fun k_ => some k_ ≠ (J Ao23 t112.length co23 : Value).ownBlock ∧ some k_ ≠ (J Ao27 y118.length co27 : Value).ownBlock ∧ some k_ ≠ (J Ao35 y121.length co35 : Value).ownBlock ∧ some k_ ≠ (J Ao31 t127.length co31 : Value).ownBlock ∧ some k_ ≠ (J Ao39 y139.length co39 : Value).ownBlock ∧ some k_ ≠ (v146 : Value).ownBlock)) (by (with_reducible repeat (first | apply ra | apply rN | apply rd1)); exact Kd.R_mono O132.out (fun _ hk => ⟨⟨hk.1.1.1, ⟨hk.1.1.2.1, ⟨hk.1.1.2.2.1, ⟨hk.1.1.2.2.2.1, ⟨hk.1.1.2.2.2.2, hk.1.2⟩⟩⟩⟩⟩, hk.2⟩)) hg hat); have N5 := am (Kd.R_after (ok := (fun k_ => some k_ ≠ (J Ao23 t112.length co23 : Value).ownBlock ∧ some k_ ≠ (J Ao27 y118.length co27 : Value).ownBlock ∧ some k_ ≠ (J Ao35 y121.length co35 : Value).ownBlock ∧ some k_ ≠ (J Ao31 t127.length co31 : Value).ownBlock ∧ some k_ ≠ (J Ao41 y130.length co41 : Value).ownBlock ∧ some k_ ≠ (v146 : Value).ownBlock)) (by (with_reducible repeat (first | apply ra | apply rN | apply rd1)); exact Kd.R_mono O141.out (fun _ hk => ⟨⟨hk.1.1.1, ⟨hk.1.1.2.1, ⟨hk.1.1.2.2.1, ⟨hk.1.1.2.2.2.1, ⟨hk.1.1.2.2.2.2, hk.1.2⟩⟩⟩⟩⟩, hk.2⟩)) hg hat); have N6 := am (Kd.R_after (ok := (fun k_ => some k_ ≠ (J Ao23 t112.length co23 : Value).ownBlock ∧ some k_ ≠ (J Ao27 y118.length co27 : Value).ownBlock ∧ some k_ ≠ (J Ao35 y121.length co35 : Value).ownBlock ∧ some k_ ≠ (J Ao31 t127.length co31 : Value).ownBlock ∧ some k_ ≠ (J Ao41 y130.length co41 : Value).ownBlock ∧ some k_ ≠ (J Ao39 y139.length co39 : Value).ownBlock)) (by (with_reducible repeat (first | apply ra | apply rN | apply rd1)); exact O147.out) hg hat); have N7 := am (hb); have N8 := am (ho); clear O114 O120 O123 O129 O132 O141 O147 HB O150; have O114 := N0; have O120 := N1; have O123 := N2; have O129 := N3; have O132 := N4; have O141 := N5; have O147 := N6; have HB := N7; have O153 := N8; clear N0 N1 N2 N3 N4 N5 N6 N7 N8 ho hb hg hat; obtain ⟨Ao45, co45, eo45⟩ := Kd.R_slice O147.out; subst eo45) | ((with_reducible refine gate_callee (f := 40) rfl ?_); refine goesL_ (some 38) rfl rfl Tryd.func40 (by kernel_rfl) rfl #[J Ao45 y145.length co45] rfl (by (try simp only [List.map_toArray, List.map_cons, List.map_nil]); first | done | rfl) ?_; (with_reducible refine (spec_SumWords.calls k _ _ y145 t154 _ ?side1 ?side2 A15.out).mono ?_); (case side1 => repeat (first | exact (Kd.R_reads' O147.out).2.2 | (with_reducible refine ca ?_ _) | (with_reducible refine cN ?_ _) | (with_reducible refine cd1 ?_))); (case side2 => exact (Kd.R_reads' O147.out).2.1); rintro e w' ⟨rfl, ⟨nd, rfl⟩⟩; refine ⟨_, rfl, ?_⟩) | ((with_reducible refine gate_callee (f := 46) rfl ?_); refine goesL_ (some 39) rfl rfl Tryd.func46 (by kernel_rfl) rfl #[I q t154, I q 2] rfl (by (try simp only [List.map_toArray, List.map_cons, List.map_nil]); first | done | rfl) ?_; (with_reducible refine (spec_l1Bytes.calls k t154 2 t155 _ A16.out).mono ?_); rintro e w46 ⟨v156, rfl, ho0, hb⟩; refine ⟨_, rfl, ?_⟩; have N0 := am (re (by (with_reducible repeat (first | apply ra | apply rN | apply rd1)); exact O114.out) (Kd.R_base ho0) hb); have N1 := am (re (by (with_reducible repeat (first | apply ra | apply rN | apply rd1)); exact O120.out) (Kd.R_base ho0) hb); have N2 := am (re (by (with_reducible repeat (first | apply ra | apply rN | apply rd1)); exact O123.out) (Kd.R_base ho0) hb); have N3 := am (re (by (with_reducible repeat (first | apply ra | apply rN | apply rd1)); exact O129.out) (Kd.R_base ho0) hb); have N4 := am (re (by (with_reducible repeat (first | apply ra | apply rN | apply rd1)); exact O132.out) (Kd.R_base ho0) hb); have N5 := am (re (by (with_reducible repeat (first | apply ra | apply rN | apply rd1)); exact O141.out) (Kd.R_base ho0) hb); have N6 := am (re (by (with_reducible repeat (first | apply ra | apply rN | apply rd1)); exact O147.out) (Kd.R_base ho0) hb); have N7 := am (re (by (with_reducible repeat (first | apply ra | apply rN | apply rd1)); exact O153.out) (Kd.R_base ho0) hb); have N8 := am (rw1 (rn (rn (rn (rn (rn (rn (rn (rn ho0 (rl (by (with_reducible repeat (first | apply ra | apply rN | apply rd1)); exact O114.out))) (rl (by (with_reducible repeat (first | apply ra | apply rN | apply rd1)); exact O120.out))) (rl (by (with_reducible repeat (first | apply ra | apply rN | apply rd1)); exact O123.out))) (rl (by (with_reducible repeat (first | apply ra | apply rN | apply rd1)); exact O129.out))) (rl (by (with_reducible repeat (first | apply ra | apply rN | apply rd1)); exact O132.out))) (rl (by (with_reducible repeat (first | apply ra | apply rN | apply rd1)); exact O141.out))) (rl (by (with_reducible repeat (first | apply ra | apply rN | apply rd1)); exact O147.out))) (rl (by (with_reducible repeat (first | apply ra | apply rN | apply rd1)); exact O153.out))) (bz (by repeat (first | (with_reducible first | exact HB.out | apply pa | apply pN | apply p1) | exact HB.out)))); have N9 := am (bp (by repeat (first | (with_reducible first | exact HB.out | apply pa | apply pN | apply p1) | exact HB.out)) hb); clear O114 O120 O123 O129 O132 O141 O147 O153 HB; have O114 := N0; have O120 := N1; have O123 := N2; have O129 := N3; have O132 := N4; have O141 := N5; have O147 := N6; have O153 := N7; have O157 := N8; have HB := N9; clear N0 N1 N2 N3 N4 N5 N6 N7 N8 N9; (try clear hb); (try clear hb2); (try clear hk); (try clear hi); (try clear ho0); obtain ⟨Ao48, co48, eo48⟩ := Kd.R_slice O157.out; subst eo48) | ((with_reducible refine gate_builtin (b := .append) (xs := #[.tmp 36, .tmp 39]) rfl ?_); at_builtin; refine Kd.R_append_rows (Kd.int .u8) (w0 := w) w.heap.size rfl (.tmp 36) (.tmp 39) 22 5 (.int .u8 0) 1 rfl Tryd.underlying22 info5 rfl (by decide) (by omega) v152 y151 t155 _ _ _ (fun k_ => some k_ ≠ (J Ao23 t112.length co23 : Value).ownBlock ∧ some k_ ≠ (J Ao27 y118.length co27 : Value).ownBlock ∧ some k_ ≠ (J Ao35 y121.length co35 : Value).ownBlock ∧ some k_ ≠ (J Ao31 t127.length co31 : Value).ownBlock ∧ some k_ ≠ (J Ao41 y130.length co41 : Value).ownBlock ∧ some k_ ≠ (J Ao39 y139.length co39 : Value).ownBlock ∧ some k_ ≠ (J Ao45 y145.length co45 : Value).ownBlock ∧ some k_ ≠ (J Ao48 t155.length co48 : Value).ownBlock) (fun _ => False) rfl rfl ?aO ?aR (fun _ _ h => h) (fun _ h => h.elim) ?aF ?aB ?aS ?aL ?_; (case aR => repeat (first | exact (Kd.R_reads' O157.out).2.2 | (with_reducible refine ca ?_ _) | (with_reducible refine cN ?_ _) | (with_reducible refine cd1 ?_))); (case aB => exact (by repeat (first | (with_reducible first | exact HB.out | apply pa | apply pN | apply p1) | exact HB.out))); (case aF => exact (fun k_ hk => ⟨Kd.fresh' (rl (by (with_reducible repeat (first | apply ra | apply rN | apply rd1)); exact O114.out)) k_ hk, Kd.fresh' (rl (by (with_reducible repeat (first | apply ra | apply rN | apply rd1)); exact O120.out)) k_ hk, Kd.fresh' (rl (by (with_reducible repeat (first | apply ra | apply rN | apply rd1)); exact O123.out)) k_ hk, Kd.fresh' (rl (by (with_reducible repeat (first | apply ra | apply rN | apply rd1)); exact O129.out)) k_ hk, Kd.fresh' (rl (by (with_reducible repeat (first | apply ra | apply rN | apply rd1)); exact O132.out)) k_ hk, Kd.fresh' (rl (by (with_reducible repeat (first | apply ra | apply rN | apply rd1)); exact O141.out)) k_ hk, Kd.fresh' (rl (by (with_reducible repeat (first | apply ra | apply rN | apply rd1)); exact O147.out)) k_ hk, Kd.fresh' (rl (by (with_reducible repeat (first | apply ra | apply rN | apply rd1)); exact O157.out)) k_ hk⟩)); (case aO => exact (by (with_reducible repeat (first | apply ra | apply rN | apply rd1)); exact Kd.R_mono O153.out (fun _ hk => ⟨hk.1.1, ⟨hk.1.2.1, ⟨hk.1.2.2.1, ⟨hk.1.2.2.2.1, ⟨hk.1.2.2.2.2.1, ⟨hk.1.2.2.2.2.2.1, ⟨hk.1.2.2.2.2.2.2, hk.2⟩⟩⟩⟩⟩⟩⟩))); (case aS => exact (bz (by repeat (first | (with_reducible first | exact HB.out | apply pa | apply pN | apply p1) | exact HB.out)))); (case aL => have := LMc17.out; omega); intro v159 w47 ho hb hg hat; rw [← Ny158.out] at ho; have N0 := am (Kd.R_after (ok := (fun k_ => some k_ ≠ (J Ao27 y118.length co27 : Value).ownBlock ∧ some k_ ≠ (J Ao35 y121.length co35 : Value).ownBlock ∧ some k_ ≠ (J Ao31 t127.length co31 : Value).ownBlock ∧ some k_ ≠ (J Ao41 y130.length co41 : Value).ownBlock ∧ some k_ ≠ (J Ao39 y139.length co39 : Value).ownBlock ∧ some k_ ≠ (J Ao45 y145.length co45 : Value).ownBlock ∧ some k_ ≠ (J Ao48 t155.length co48 : Value).ownBlock)) (by (with_reducible repeat (first | apply ra | apply rN | apply rd1)); exact Kd.R_mono O114.out (fun _ hk => ⟨⟨hk.1.1.1, ⟨hk.1.1.2.1, ⟨hk.1.1.2.2.1, ⟨hk.1.1.2.2.2.1, ⟨hk.1.1.2.2.2.2.1, ⟨hk.1.1.2.2.2.2.2, hk.2⟩⟩⟩⟩⟩⟩, hk.1.2⟩)) hg hat); have N1 := am (Kd.R_after (ok := (fun k_ => some k_ ≠ (J Ao23 t112.length co23 : Value).ownBlock ∧ some k_ ≠ (J Ao35 y121.length co35 : Value).ownBlock ∧ some k_ ≠ (J Ao31 t127.length co31 : Value).ownBlock ∧ some k_ ≠ (J Ao41 y130.length co41 : Value).ownBlock ∧ some k_ ≠ (J Ao39 y139.length co39 : Value).ownBlock ∧ some k_ ≠ (J Ao45 y145.length co45 : Value).ownBlock ∧ some k_ ≠ (J Ao48 t155.length co48 : Value).ownBlock)) (by (with_reducible repeat (first | apply ra | apply rN | apply rd1)); exact Kd.R_mono O120.out (fun _ hk => ⟨⟨hk.1.1.1, ⟨hk.1.1.2.1, ⟨hk.1.1.2.2.1, ⟨hk.1.1.2.2.2.1, ⟨hk.1.1.2.2.2.2.1, ⟨hk.1.1.2.2.2.2.2, hk.2⟩⟩⟩⟩⟩⟩, hk.1.2⟩)) hg hat); have N2 := am (Kd.R_after (ok := (fun k_ => some k_ ≠ (J Ao23 t112.length co23 : Value).ownBlock ∧ some k_ ≠ (J Ao27 y118.length co27 : Value).ownBlock ∧ some k_ ≠ (J Ao31 t127.length co31 : Value).ownBlock ∧ some k_ ≠ (J Ao41 y130.length co41 : Value).ownBlock ∧ some k_ ≠ (J Ao39 y139.length co39 : Value).ownBlock ∧ some k_ ≠ (J Ao45 y145.length co45 : Value).ownBlock ∧ some k_ ≠ (J Ao48 t155.length co48 : Value).ownBlock)) (by (with_reducible repeat (first | apply ra | apply rN | apply rd1)); exact Kd.R_mono O123.out (fun _ hk => ⟨⟨hk.1.1.1, ⟨hk.1.1.2.1, ⟨hk.1.1.2.2.1, ⟨hk.1.1.2.2.2.1, ⟨hk.1.1.2.2.2.2.1, ⟨hk.1.1.2.2.2.2.2, hk.2⟩⟩⟩⟩⟩⟩, hk.1.2⟩)) hg hat); have N3 := am (Kd.R_after (ok := (fun k_ => some k_ ≠ (J Ao23 t112.length co23 : Value).ownBlock ∧ some k_ ≠ (J Ao27 y118.length co27 : Value).ownBlock ∧ some k_ ≠ (J Ao35 y121.length co35 : Value).ownBlock ∧ some k_ ≠ (J Ao41 y130.length co41 : Value).ownBlock ∧ some k_ ≠ (J Ao39 y139.length co39 : Value).ownBlock ∧ some k_ ≠ (J Ao45 y145.length co45 : Value).ownBlock ∧ some k_ ≠ (J Ao48 t155.length co48 : Value).ownBlock)) (by (with_reducible repeat (first | apply ra | apply rN | apply rd1)); exact Kd.R_mono O129.out (fun _ hk => ⟨⟨hk.1.1.1, ⟨hk.1.1.2.1, ⟨hk.1.1.2.2.1, ⟨hk.1.1.2.2.2.1, ⟨hk.1.1.2.2.2.2.1, ⟨hk.1.1.2.2.2.2.2, hk.2⟩⟩⟩⟩⟩⟩, hk.1.2⟩)) hg hat); have N4 := am (Kd.R_after (ok := (fun k_ => some k_ ≠ (J Ao23 t112.length co23 : Value).ownBlock ∧ some k_ ≠ (J Ao27 y118.length co27 : Value).ownBlock ∧ some k_ ≠ (J Ao35 y121.length co35 : Value).ownBlock ∧ some k_ ≠ (J Ao31 t127.length co31 : Value).ownBlock ∧ some k_ ≠ (J Ao39 y139.length co39 : Value).ownBlock ∧ some k_ ≠ (J Ao45 y145.length co45 : Value).ownBlock ∧ some k_ ≠ (J Ao48 t155.length co48 : Value).ownBlock)) (by (with_reducible repeat (first | apply ra | apply rN | apply rd1)); exact Kd.R_mono O132.out (fun _ hk => ⟨⟨hk.1.1.1, ⟨hk.1.1.2.1, ⟨hk.1.1.2.2.1, ⟨hk.1.1.2.2.2.1, ⟨hk.1.1.2.2.2.2.1, ⟨hk.1.1.2.2.2.2.2, hk.2⟩⟩⟩⟩⟩⟩, hk.1.2⟩)) hg hat); have N5 := am (Kd.R_after (ok := (fun k_ => some k_ ≠ (J Ao23 t112.length co23 : Value).ownBlock ∧ some k_ ≠ (J Ao27 y118.length co27 : Value).ownBlock ∧ some k_ ≠ (J Ao35 y121.length co35 : Value).ownBlock ∧ some k_ ≠ (J Ao31 t127.length co31 : Value).ownBlock ∧ some k_ ≠ (J Ao41 y130.length co41 : Value).ownBlock ∧ some k_ ≠ (J Ao45 y145.length co45 : Value).ownBlock ∧ some k_ ≠ (J Ao48 t155.length co48 : Value).ownBlock)) (by (with_reducible repeat (first | apply ra | apply rN | apply rd1)); exact Kd.R_mono O141.out (fun _ hk => ⟨⟨hk.1.1.1, ⟨hk.1.1.2.1, ⟨hk.1.1.2.2.1, ⟨hk.1.1.2.2.2.1, ⟨hk.1.1.2.2.2.2.1, ⟨hk.1.1.2.2.2.2.2, hk.2⟩⟩⟩⟩⟩⟩, hk.1.2⟩)) hg hat); have N6 := am (Kd.R_after (ok := (fun k_ => some k_ ≠ (J Ao23 t112.length co23 : Value).ownBlock ∧ some k_ ≠ (J Ao27 y118.length co27 : Value).ownBlock ∧ some k_ ≠ (J Ao35 y121.length co35 : Value).ownBlock ∧ some k_ ≠ (J Ao31 t127.length co31 : Value).ownBlock ∧ some k_ ≠ (J Ao41 y130.length co41 : Value).ownBlock ∧ some k_ ≠ (J Ao39 y139.length co39 : Value).ownBlock ∧ some k_ ≠ (J Ao48 t155.length co48 : Value).ownBlock)) (by (with_reducible repeat (first | apply ra | apply rN | apply rd1)); exact Kd.R_mono O147.out (fun _ hk => ⟨⟨hk.1.1.1, ⟨hk.1.1.2.1, ⟨hk.1.1.2.2.1, ⟨hk.1.1.2.2.2.1, ⟨hk.1.1.2.2.2.2.1, ⟨hk.1.1.2.2.2.2.2, hk.2⟩⟩⟩⟩⟩⟩, hk.1.2⟩)) hg hat); have N7 := am (Kd.R_after (ok := (fun k_ => some k_ ≠ (J Ao23 t112.length co23 : Value).ownBlock ∧ some k_ ≠ (J Ao27 y118.length co27 : Value).ownBlock ∧ some k_ ≠ (J Ao35 y121.length co35 : Value).ownBlock ∧ some k_ ≠ (J Ao31 t127.length co31 : Value).ownBlock ∧ some k_ ≠ (J Ao41 y130.length co41 : Value).ownBlock ∧ some k_ ≠ (J Ao39 y139.length co39 : Value).ownBlock ∧ some k_ ≠ (J Ao45 y145.length co45 : Value).ownBlock)) (by (with_reducible repeat (first | apply ra | apply rN | apply rd1)); exact Kd.R_mono O157.out (fun _ hk => ⟨⟨hk.1.1.1.1.1.1.1.2, ⟨hk.1.1.1.1.1.1.2, ⟨hk.1.1.1.1.1.2, ⟨hk.1.1.1.1.2, ⟨hk.1.1.1.2, ⟨hk.1.1.2, hk.1.2⟩⟩⟩⟩⟩⟩, hk.2⟩)) hg hat); have N8 := am (hb); have N9 := am (ho); clear O114 O120 O123 O129 O132 O141 O147 O157 HB O153; have O114 := N0; have O120 := N1; have O123 := N2; have O129 := N3; have O132 := N4; have O141 := N5; have O147 := N6; have O157 := N7; have HB := N8; have O160 := N9; clear N0 N1 N2 N3 N4 N5 N6 N7 N8 N9 ho hb hg hat) | ((with_reducible refine gate_builtin (b := .append) (xs := #[.tmp 40, .tmp 41]) rfl ?_); at_builtin; refine Kd.R_append_rows (Kd.int .u8) (w0 := w) w.heap.size rfl (.tmp 40) (.tmp 41) 22 5 (.int .u8 0) 1 rfl Tryd.underlying22 info5 rfl (by decide) (by omega) v159 y158 y130 _ _ _ (fun k_ => some k_ ≠ (J Ao23 t112.length co23 : Value).ownBlock ∧ some k_ ≠ (J Ao27 y118.length co27 : Value).ownBlock ∧ some k_ ≠ (J Ao35 y121.length co35 : Value).ownBlock ∧ some k_ ≠ (J Ao31 t127.length co31 : Value).ownBlock ∧ some k_ ≠ (J Ao41 y130.length co41 : Value).ownBlock ∧ some k_ ≠ (J Ao39 y139.length co39 : Value).ownBlock ∧ some k_ ≠ (J Ao45 y145.length co45 : Value).ownBlock ∧ some k_ ≠ (J Ao48 t155.length co48 : Value).ownBlock) (fun _ => False) rfl rfl ?aO ?aR (fun _ _ h => h) (fun _ h => h.elim) ?aF ?aB ?aS ?aL ?_; (case aR => repeat (first | exact (Kd.R_reads' O132.out).2.2 | (with_reducible refine ca ?_ _) | (with_reducible refine cN ?_ _) | (with_reducible refine cd1 ?_))); (case aB => exact (by repeat (first | (with_reducible first | exact HB.out | apply pa | apply pN | apply p1) | exact HB.out))); (case aF => exact (fun k_ hk => ⟨Kd.fresh' (rl (by (with_reducible repeat (first | apply ra | apply rN | apply rd1)); exact O114.out)) k_ hk, Kd.fresh' (rl (by (with_reducible repeat (first | apply ra | apply rN | apply rd1)); exact O120.out)) k_ hk, Kd.fresh' (rl (by (with_reducible repeat (first | apply ra | apply rN | apply rd1)); exact O123.out)) k_ hk, Kd.fresh' (rl (by (with_reducible repeat (first | apply ra | apply rN | apply rd1)); exact O129.out)) k_ hk, Kd.fresh' (rl (by (with_reducible repeat (first | apply ra | apply rN | apply rd1)); exact O132.out)) k_ hk, Kd.fresh' (rl (by (with_reducible repeat (first | apply ra | apply rN | apply rd1)); exact O141.out)) k_ hk, Kd.fresh' (rl (by (with_reducible repeat (first | apply ra | apply rN | apply rd1)); exact O147.out)) k_ hk, Kd.fresh' (rl (by (with_reducible repeat (first | apply ra | apply rN | apply rd1)); exact O157.out)) k_ hk⟩)); (case aO => exact (by (with_reducible repeat (first | apply ra | apply rN | apply rd1)); exact O160.out)); (case aS => exact (bz (by repeat (first | (with_reducible first | exact HB.out | apply pa | apply pN | apply p1) | exact HB.out)))); (case aL => have := LMc18.out; omega); intro v162 w49 ho hb hg hat; rw [← Ny161.out] at ho; have N0 := am (Kd.R_after (ok := (fun k_ => some k_ ≠ (J Ao27 y118.length co27 : Value).ownBlock ∧ some k_ ≠ (J Ao35 y121.length co35 : Value).ownBlock ∧ some k_ ≠ (J Ao31 t127.length co31 : Value).ownBlock ∧ some k_ ≠ (J Ao41 y130.length co41 : Value).ownBlock ∧ some k_ ≠ (J Ao39 y139.length co39 : Value).ownBlock ∧ some k_ ≠ (J Ao45 y145.length co45 : Value).ownBlock ∧ some k_ ≠ (J Ao48 t155.length co48 : Value).ownBlock)) (by (with_reducible repeat (first | apply ra | apply rN | apply rd1)); exact O114.out) hg hat); have N1 := am (Kd.R_after (ok := (fun k_ => some k_ ≠ (J Ao23 t112.length co23 : Value).ownBlock ∧ some k_ ≠ (J Ao35 y121.length co35 : Value).ownBlock ∧ some k_ ≠ (J Ao31 t127.length co31 : Value).ownBlock ∧ some k_ ≠ (J Ao41 y130.length co41 : Value).ownBlock ∧ some k_ ≠ (J Ao39 y139.length co39 : Value).ownBlock ∧ some k_ ≠ (J Ao45 y145.length co45 : Value).ownBlock ∧ some k_ ≠ (J Ao48 t155.length co48 : Value).ownBlock)) (by (with_reducible repeat (first | apply ra | apply rN | apply rd1)); exact O120.out) hg hat); have N2 := am (Kd.R_after (ok := (fun k_ => some k_ ≠ (J Ao23 t112.length co23 : Value).ownBlock ∧ some k_ ≠ (J Ao27 y118.length co27 : Value).ownBlock ∧ some k_ ≠ (J Ao31 t127.length co31 : Value).ownBlock ∧ some k_ ≠ (J Ao41 y130.length co41 : Value).ownBlock ∧ some k_ ≠ (J Ao39 y139.length co39 : Value).ownBlock ∧ some k_ ≠ (J Ao45 y145.length co45 : Value).ownBlock ∧ some k_ ≠ (J Ao48 t155.length co48 : Value).ownBlock)) (by (with_reducible repeat (first | apply ra | apply rN | apply rd1)); exact O123.out) hg hat); have N3 := am (Kd.R_after (ok := (fun k_ => some k_ ≠ (J Ao23 t112.length co23 : Value).ownBlock ∧ some k_ ≠ (J Ao27 y118.length co27 : Value).ownBlock ∧ some k_ ≠ (J Ao35 y121.length co35 : Value).ownBlock ∧ some k_ ≠ (J Ao41 y130.length co41 : Value).ownBlock ∧ some k_ ≠ (J Ao39 y139.length co39 : Value).ownBlock ∧ some k_ ≠ (J Ao45 y145.length co45 : Value).ownBlock ∧ some k_ ≠ (J Ao48 t155.length co48 : Value).ownBlock)) (by (with_reducible repeat (first | apply ra | apply rN | apply rd1)); exact O129.out) hg hat); have N4 := am (Kd.R_after (ok := (fun k_ => some k_ ≠ (J Ao23 t112.length co23 : Value).ownBlock ∧ some k_ ≠ (J Ao27 y118.length co27 : Value).ownBlock ∧ some k_ ≠ (J Ao35 y121.length co35 : Value).ownBlock ∧ some k_ ≠ (J Ao31 t127.length co31 : Value).ownBlock ∧ some k_ ≠ (J Ao39 y139.length co39 : Value).ownBlock ∧ some k_ ≠ (J Ao45 y145.length co45 : Value).ownBlock ∧ some k_ ≠ (J Ao48 t155.length co48 : Value).ownBlock)) (by (with_reducible repeat (first | apply ra | apply rN | apply rd1)); exact O132.out) hg hat); have N5 := am (Kd.R_after (ok := (fun k_ => some k_ ≠ (J Ao23 t112.length co23 : Value).ownBlock ∧ some k_ ≠ (J Ao27 y118.length co27 : Value).ownBlock ∧ some k_ ≠ (J Ao35 y121.length co35 : Value).ownBlock ∧ some k_ ≠ (J Ao31 t127.length co31 : Value).ownBlock ∧ some k_ ≠ (J Ao41 y130.length co41 : Value).ownBlock ∧ some k_ ≠ (J Ao45 y145.length co45 : Value).ownBlock ∧ some k_ ≠ (J Ao48 t155.length co48 : Value).ownBlock)) (by (with_reducible repeat (first | apply ra | apply rN | apply rd1)); exact O141.out) hg hat); have N6 := am (Kd.R_after (ok := (fun k_ => some k_ ≠ (J Ao23 t112.length co23 : Value).ownBlock ∧ some k_ ≠ (J Ao27 y118.length co27 : Value).ownBlock ∧ some k_ ≠ (J Ao35 y121.length co35 : Value).ownBlock ∧ some k_ ≠ (J Ao31 t127.length co31 : Value).ownBlock ∧ some k_ ≠ (J Ao41 y130.length co41 : Value).ownBlock ∧ some k_ ≠ (J Ao39 y139.length co39 : Value).ownBlock ∧ some k_ ≠ (J Ao48 t155.length co48 : Value).ownBlock)) (by (with_reducible repeat (first | apply ra | apply rN | apply rd1)); exact O147.out) hg hat); have N7 := am (Kd.R_after (ok := (fun k_ => some k_ ≠ (J Ao23 t112.length co23 : Value).ownBlock ∧ some k_ ≠ (J Ao27 y118.length co27 : Value).ownBlock ∧ some k_ ≠ (J Ao35 y121.length co35 : Value).ownBlock ∧ some k_ ≠ (J Ao31 t127.length co31 : Value).ownBlock ∧ some k_ ≠ (J Ao41 y130.length co41 : Value).ownBlock ∧ some k_ ≠ (J Ao39 y139.length co39 : Value).ownBlock ∧ some k_ ≠ (J Ao45 y145.length co45 : Value).ownBlock)) (by (with_reducible repeat (first | apply ra | apply rN | apply rd1)); exact O157.out) hg hat); have N8 := am (hb); have N9 := am (ho); clear O114 O120 O123 O129 O132 O141 O147 O157 HB O160; have O114 := N0; have O120 := N1; have O123 := N2; have O129 := N3; have O132 := N4; have O141 := N5; have O147 := N6; have O157 := N7; have HB := N8; have O163 := N9; clear N0 N1 N2 N3 N4 N5 N6 N7 N8 N9 ho hb hg hat))
                    go_ret
                    exact ⟨_, by first | rfl | (simp [errW_none, errW_some] <;> rfl) | (simp [*, errW_none, errW_some] <;> rfl), by (with_reducible repeat (first | apply ra | apply rN | apply rd1)); exact Kd.R_mono O163.out (fun _ hk => trivial), by repeat (first | (with_reducible first | exact HB.out | apply pa | apply pN | apply p1) | exact HB.out)⟩
                  · rw [if_neg c18] at H
                    exact absurd H (by simp)
                · rw [if_neg c17] at H
                  exact absurd H (by simp)
              · rw [if_neg c14] at H
                exact absurd H (by simp)
            · rw [if_neg c13] at H
              exact absurd H (by simp)
          · rw [if_neg c12] at H
            exact absurd H (by simp)
        · rw [if_neg c11] at H
          exact absurd H (by simp)
      · rw [if_neg c10] at H
        exact absurd H (by simp)
    · rw [if_neg c7] at H
      exact absurd H (by simp)
  · rw [if_neg c6] at H
    exact absurd H (by simp)

/-! ### spec_l2Build: function 35 -/
def spec_l2Build.f (k : Nat) (aa0 : Int) (aa1 : Int) (aa2 : Int) (aa3 : Int) (aa4 : Int) (la5 : List Int) : Option (List Int) := (spec_l2Head.f k aa2 aa0 aa1 (wrap64 (4 + (la5.length : Int)))).bind fun t165 => ((spec_l1Bytes.f k aa3 2).bind fun t168 => (if t165.length + t168.length < 140737488355328 then ((some (t165 ++ t168 : List Int)).bind fun y171 => ((spec_l1Bytes.f k aa4 2).bind fun t174 => (if y171.length + t174.length < 140737488355328 then ((some (y171 ++ t174 : List Int)).bind fun y177 => (if y177.length + la5.length < 140737488355328 then (some (y177 ++ la5)) else (none))) else (none)))) else (none)))
theorem spec_l2Build.mono : ∀ a0 a1 a2 a3 a4 a5 k, LeO (spec_l2Build.f k a0 a1 a2 a3 a4 a5) (spec_l2Build.f (k + 1) a0 a1 a2 a3 a4 a5) := by
  intro a0 a1 a2 a3 a4 a5 k
  unfold spec_l2Build.f
  repeat' first
      | (with_reducible exact spec_l1Bytes.mono _ _ _)
      | (with_reducible exact spec_l2Head.mono _ _ _ _ _)
      | (with_reducible exact LeO.refl _)
      | (with_reducible exact LeO.none _)
      | (with_reducible refine LeO.ite ?_ ?_)
      | (with_reducible refine LeO.bind ?_ (fun _ => ?_))
      | exact spec_l1Bytes.mono _ _ _
      | exact spec_l2Head.mono _ _ _ _ _
      | exact LeO.none _
      | refine LeO.ite ?_ ?_
      | refine LeO.bind ?_ (fun _ => ?_)
def spec_l2Build.T2 : Bool × List (List Nat × List Nat) := (true, [([], []), ([], []), ([1], [1]), ([2], [2]), ([0, 3, 3], [0, 3]), ([], []), ([5], [5]), ([6, 4], [6]), ([4, 7, 7], [4, 7]), ([8, 8, 0, 1, 2, 3, 4, 5, 6, 7, 8], [0, 8])])
def spec_l2Build.B2 : List Nat := [0, 0, 2, 6, 15, 0, 32, 127, 255, 511]
theorem spec_l2Build.tab2 : rtab .any (opsOf Tryd.f35 2) = spec_l2Build.T2 := by kernel_rfl
theorem spec_l2Build.bits2 : waitsOk spec_l2Build.T2.2 spec_l2Build.B2 = true := by kernel_rfl
set_option maxHeartbeats 8000000 in
set_option maxRecDepth 100000 in
theorem spec_l2Build.calls (k : Nat) (aa0 : Int) (aa1 : Int) (aa2 : Int) (aa3 : Int) (aa4 : Int) (Aa5 : Option Addr) (ca5 : Nat) (la5 : List Int) (r : List Int) (w : World) (hr0_5 : Kd.C (Kd.int .u8) w Aa5 la5.length la5) (hc0_5 : la5.length ≤ ca5) (h : spec_l2Build.f k aa0 aa1 aa2 aa3 aa4 la5 = some r) :
    Calls Tryd.prog 35 #[.agg #[I q aa0, I q aa1, I q aa2, I q aa3, I q aa4, J Aa5 la5.length ca5]] w fun e w' => ∃ v0_ : Value, e = .returned (v0_) ∧ Kd.R (Kd.int .u8) 5 w' w.heap.size (fun _ => True) v0_ r ∧ Below w.heap.size w w' := by
  have hu26 := Tryd.underlying26
  have HR0_5 := am hr0_5
  have HC0_5 := am hc0_5
  clear hr0_5 hc0_5
  have HB := am (Below.refl w.heap.size w)
  have H : ((spec_l2Head.f k aa2 aa0 aa1 (wrap64 (4 + (la5.length : Int)))).bind fun t165 => ((spec_l1Bytes.f k aa3 2).bind fun t168 => (if t165.length + t168.length < 140737488355328 then ((some (t165 ++ t168 : List Int)).bind fun y171 => ((spec_l1Bytes.f k aa4 2).bind fun t174 => (if y171.length + t174.length < 140737488355328 then ((some (y171 ++ t174 : List Int)).bind fun y177 => (if y177.length + la5.length < 140737488355328 then (some (y177 ++ la5)) else (none))) else (none)))) else (none)))) = some r := h
  clear h
  replace H := Option.bind_eq_some_iff.mp H
  obtain ⟨t165, A20, H⟩ := H
  replace H : ((spec_l1Bytes.f k aa3 2).bind fun t168 => (if t165.length + t168.length < 140737488355328 then ((some (t165 ++ t168 : List Int)).bind fun y171 => ((spec_l1Bytes.f k aa4 2).bind fun t174 => (if y171.length + t174.length < 140737488355328 then ((some (y171 ++ t174 : List Int)).bind fun y177 => (if y177.length + la5.length < 140737488355328 then (some (y177 ++ la5)) else (none))) else (none)))) else (none))) = some r := H
  have A2 := am A20
  clear A20
  replace H := Option.bind_eq_some_iff.mp H
  obtain ⟨t168, A30, H⟩ := H
  replace H : (if t165.length + t168.length < 140737488355328 then ((some (t165 ++ t168 : List Int)).bind fun y171 => ((spec_l1Bytes.f k aa4 2).bind fun t174 => (if y171.length + t174.length < 140737488355328 then ((some (y171 ++ t174 : List Int)).bind fun y177 => (if y177.length + la5.length < 140737488355328 then (some (y177 ++ la5)) else (none))) else (none)))) else (none)) = some r := H
  have A3 := am A30
  clear A30
  by_cases c4 : t165.length + t168.length < 140737488355328
  · rw [if_pos c4] at H
    have LMc4 := am c4
    clear c4
    obtain ⟨y171, hy171⟩ : ∃ y_ : List Int, y_ = (t165 ++ t168) := ⟨_, rfl⟩
    replace H : ((spec_l1Bytes.f k aa4 2).bind fun t174 => (if y171.length + t174.length < 140737488355328 then ((some (y171 ++ t174 : List Int)).bind fun y177 => (if y177.length + la5.length < 140737488355328 then (some (y177 ++ la5)) else (none))) else (none))) = some r := by first | (rw [hy171]; with_reducible exact H) | (have H2_ := (Option.bind_some _ _).symm.trans H; rw [hy171]; with_reducible exact H2_) | (have H2_ := (Option.bind_some _ _).symm.trans H; with_reducible exact H2_) | with_reducible exact H | (rw [hy171]; exact H) | exact H
    have Ny171 := am hy171
    clear hy171
    replace H := Option.bind_eq_some_iff.mp H
    obtain ⟨t174, A50, H⟩ := H
    replace H : (if y171.length + t174.length < 140737488355328 then ((some (y171 ++ t174 : List Int)).bind fun y177 => (if y177.length + la5.length < 140737488355328 then (some (y177 ++ la5)) else (none))) else (none)) = some r := H
    have A5 := am A50
    clear A50
    by_cases c6 : y171.length + t174.length < 140737488355328
    · rw [if_pos c6] at H
      have LMc6 := am c6
      clear c6
      obtain ⟨y177, hy177⟩ : ∃ y_ : List Int, y_ = (y171 ++ t174) := ⟨_, rfl⟩
      replace H : (if y177.length + la5.length < 140737488355328 then (some (y177 ++ la5)) else (none)) = some r := by first | (rw [hy177]; with_reducible exact H) | (have H2_ := (Option.bind_some _ _).symm.trans H; rw [hy177]; with_reducible exact H2_) | (have H2_ := (Option.bind_some _ _).symm.trans H; with_reducible exact H2_) | with_reducible exact H | (rw [hy177]; exact H) | exact H
      have Ny177 := am hy177
      clear hy177
      by_cases c7 : y177.length + la5.length < 140737488355328
      · rw [if_pos c7] at H
        have LMc7 := am c7
        clear c7
        obtain ⟨y180, hy180⟩ : ∃ y_ : List Int, y_ = (y177 ++ la5) := ⟨_, rfl⟩
        replace H : (some y180) = some r := by first | (rw [hy180]; with_reducible exact H) | (have H2_ := (Option.bind_some _ _).symm.trans H; rw [hy180]; with_reducible exact H2_) | (have H2_ := (Option.bind_some _ _).symm.trans H; with_reducible exact H2_) | with_reducible exact H | (rw [hy180]; exact H) | exact H
        have Ny180 := am hy180
        clear hy180
        obtain rfl := Option.some.inj H
        go_enter Tryd.func35, Tryd.ntmps35
        try go_wp2_with (first | ((with_reducible refine gate_dst (N := 1) rfl ?_); refine box_event ?hg (N := 1) ?hd (cs := #[I q aa0, I q aa1, I q aa2, I q aa3, I q aa4, J Aa5 la5.length ca5]) (t := 26) ?hr ?_; (case hd => rfl); (case hg => rfl); (case hr => first | (go_simp; done) | (go_simp; rfl)); intro g164 hg w8 hbox hb; have N0 := am (bp (by repeat (first | (with_reducible first | exact HB.out | apply pa | apply pN | apply p1) | exact HB.out)) hb); have N1 := am (hbox); have N2 := am ((by rw [hg]; exact (bz (by repeat (first | (with_reducible first | exact HB.out | apply pa | apply pN | apply p1) | exact HB.out))) : w.heap.size ≤ g164)); have N3 := am ((by rw [hg]; exact (bz (by repeat (first | (with_reducible first | exact HB.out | apply pa | apply pN | apply p1) | exact HB.out))) : w.heap.size ≤ g164)); clear HB; have HB := N0; have B164 := N1; have GW164 := N2; have E164 := N3; clear N0 N1 N2 N3 hb hbox hg; have hcz9_0 : w8.cell? ⟨g164, 0, none⟩ = some (I q aa0) := (bc B164.out 0).trans rfl; have hcz9_1 : w8.cell? ⟨g164, 1, none⟩ = some (I q aa1) := (bc B164.out 1).trans rfl; have hcz9_2 : w8.cell? ⟨g164, 2, none⟩ = some (I q aa2) := (bc B164.out 2).trans rfl; have hcz9_3 : w8.cell? ⟨g164, 3, none⟩ = some (I q aa3) := (bc B164.out 3).trans rfl; have hcz9_4 : w8.cell? ⟨g164, 4, none⟩ = some (I q aa4) := (bc B164.out 4).trans rfl; have hcz9_5 : w8.cell? ⟨g164, 5, none⟩ = some (J Aa5 la5.length ca5) := (bc B164.out 5).trans rfl; have hfz9_0 := bf B164.out 0; have hfz9_1 := bf B164.out 1; have hfz9_2 := bf B164.out 2; have hfz9_3 := bf B164.out 3; have hfz9_4 := bf B164.out 4; have hfz9_5 := bf B164.out 5) | ((with_reducible refine gate_callee (f := 45) rfl ?_); refine goesL_ (some 14) rfl rfl Tryd.func45 (by kernel_rfl) rfl #[I q aa2, I q aa0, I q aa1, I q (wrap64 (4 + (la5.length : Int)))] rfl (by (try simp only [List.map_toArray, List.map_cons, List.map_nil]); first | done | rfl) ?_; (with_reducible refine (spec_l2Head.calls k aa2 aa0 aa1 (wrap64 (4 + (la5.length : Int))) t165 _ A2.out).mono ?_); rintro e w10 ⟨v166, rfl, ho0, hb⟩; refine ⟨_, rfl, ?_⟩; have N0 := am (rw1 ho0 (bz (by repeat (first | (with_reducible first | exact HB.out | apply pa | apply pN | apply p1 | refine bs ?_ E164.out) | exact HB.out)))); have N1 := am (bb (g := g164) (by (with_reducible repeat (first | apply bN | apply bd | apply ba)); exact B164.out) hb); have N2 := am (bp (by repeat (first | (with_reducible first | exact HB.out | apply pa | apply pN | apply p1 | refine bs ?_ E164.out) | exact HB.out)) hb); clear B164 HB; have O167 := N0; have B164 := N1; have HB := N2; clear N0 N1 N2; (try clear hb); (try clear hb2); (try clear hk); (try clear hi); (try clear ho0)))
        have N0 := am (rd1 O167.out)
        have N1 := am (bd B164.out)
        have N2 := am (p1 HB.out)
        clear O167
        clear B164
        clear HB
        have O167 := N0
        have B164 := N1
        have HB := N2
        clear N0 N1 N2
        refine start_ (n := 10) (S := fun w' => w'.cell? ⟨g164, 0, none⟩ = some (I q aa0) ∧ w'.cell? ⟨g164, 1, none⟩ = some (I q aa1) ∧ w'.cell? ⟨g164, 2, none⟩ = some (I q aa2) ∧ w'.cell? ⟨g164, 3, none⟩ = some (I q aa3) ∧ w'.cell? ⟨g164, 4, none⟩ = some (I q aa4) ∧ w'.cell? ⟨g164, 5, none⟩ = some (J Aa5 la5.length ca5)) (ds := []) #[false, false, false, false, false, false, false, false, false, false] (by kernel_rfl) rfl rfl ⟨(bc B164.out 0).trans rfl, (bc B164.out 1).trans rfl, (bc B164.out 2).trans rfl, (bc B164.out 3).trans rfl, (bc B164.out 4).trans rfl, (bc B164.out 5).trans rfl⟩ (fun hHeld => ?_); refine with_tabW spec_l2Build.tab2 spec_l2Build.bits2 (fun HT_ HW_ => ?_)
        generalize w10.drew = w11 at O167 B164 HB hHeld ⊢
        refine pure_ (i := 0) (N := some 15) (v := ?_) (a' := ?_) #[true, false, false, false, false, false, false, false, false, false] rfl rfl (any_of HT_.out (by kernel_rfl)) (fun _ _ _ h => h) (Or.inl ⟨by rfl, ?_⟩) ?_ ?_
        rotate_left
        · intro w'
          first | (go_simp; with_reducible rfl) | (go_simp; (try unfold Instr.field); go_simp; (try simp only [asAgg]); go_simp; with_reducible rfl)
        rotate_left
        · simp only [Act.put, List.setIfInBounds_toArray, List.set_cons_zero, List.set_cons_succ, i64_w, i32_w]
          rfl
        refine pure_ (i := 1) (N := some 16) (v := ?_) (a' := ?_) #[true, true, false, false, false, false, false, false, false, false] rfl rfl (any_of HT_.out (by kernel_rfl)) (fun _ _ _ h => h) (Or.inl ⟨by rfl, ?_⟩) ?_ ?_
        rotate_left
        · intro w'
          first | (go_simp; with_reducible rfl) | (go_simp; (try unfold Instr.field); go_simp; (try simp only [asAgg]); go_simp; with_reducible rfl)
        rotate_left
        · simp only [Act.put, List.setIfInBounds_toArray, List.set_cons_zero, List.set_cons_succ, i64_w, i32_w]
          rfl
        refine pure_ (i := 5) (N := some 20) (v := ?_) (a' := ?_) #[true, true, false, false, false, true, false, false, false, false] rfl rfl (any_of HT_.out (by kernel_rfl)) (fun _ _ _ h => h) (Or.inl ⟨by rfl, ?_⟩) ?_ ?_
        rotate_left
        · intro w'
          first | (go_simp; with_reducible rfl) | (go_simp; (try unfold Instr.field); go_simp; (try simp only [asAgg]); go_simp; with_reducible rfl)
        rotate_left
        · simp only [Act.put, List.setIfInBounds_toArray, List.set_cons_zero, List.set_cons_succ, i64_w, i32_w]
          rfl
        refine take_ (i := 2) (N := some 17) (v := ?_) (a' := ?_) #[true, true, true, false, false, true, false, false, false, false] rfl rfl (take_ofW HT_.out HW_.out (by kernel_rfl)) (fun _ _ _ h => h) (Or.inl ⟨by rfl, ?_⟩) hHeld ?_ ?_
        rotate_left
        · rintro w' ⟨s0, s1, s2, s3, s4, s5⟩
          go_simp
          with_reducible rfl
        rotate_left
        · simp only [Act.put, List.setIfInBounds_toArray, List.set_cons_zero, List.set_cons_succ, i64_w, i32_w]
          rfl
        refine take_ (i := 6) (N := some 21) (v := ?_) (a' := ?_) #[true, true, true, false, false, true, true, false, false, false] rfl rfl (take_ofW HT_.out HW_.out (by kernel_rfl)) (fun _ _ _ h => h) (Or.inl ⟨by rfl, ?_⟩) hHeld ?_ ?_
        rotate_left
        · rintro w' ⟨s0, s1, s2, s3, s4, s5⟩
          go_simp
          with_reducible rfl
        rotate_left
        · simp only [Act.put, List.setIfInBounds_toArray, List.set_cons_zero, List.set_cons_succ, i64_w, i32_w]
          rfl
        refine one_ (i := 3) (N := some 18) #[true, true, true, true, false, true, true, false, false, false] rfl rfl (one_of HT_.out (by kernel_rfl)) (by decide) (fun K hK => ?_)
        refine goes_ Tryd.func46 (by kernel_rfl) rfl #[I q aa3, I q 2] (by rfl) rfl rfl (by (try simp only [List.map_toArray, List.map_cons, List.map_nil]); first | done | rfl | (simp only [List.length_drop, List.length_take]; rfl)) ?_
        with_reducible refine (spec_l1Bytes.calls k aa3 2 t168 _ A3.out).mono ?_
        rintro e w12 ⟨v169, rfl, ho0, hb⟩
        refine ⟨_, rfl, ?_⟩
        have N0 := am (re (by (with_reducible repeat (first | apply ra | apply rN | apply rd1)); exact O167.out) (Kd.R_base ho0) hb)
        have N1 := am (rw1 (rn ho0 (rl (by (with_reducible repeat (first | apply ra | apply rN | apply rd1)); exact O167.out))) (bz (by repeat (first | (with_reducible first | exact HB.out | apply pa | apply pN | apply p1 | refine bs ?_ E164.out) | exact HB.out))))
        have N2 := am (bb (g := g164) (by (with_reducible repeat (first | apply bN | apply bd | apply ba)); exact B164.out) hb)
        have N3 := am (bp (by repeat (first | (with_reducible first | exact HB.out | apply pa | apply pN | apply p1 | refine bs ?_ E164.out) | exact HB.out)) hb)
        clear O167
        clear B164
        clear HB
        have O167 := N0
        have O170 := N1
        have B164 := N2
        have HB := N3
        clear N0 N1 N2 N3
        (try clear hb)
        (try clear hb2)
        (try clear hk)
        (try clear hi)
        (try clear ho0)
        obtain ⟨Ao14, co14, eo14⟩ := Kd.R_slice O170.out
        (first | subst eo14 | (injection eo14 with f1_ f2_ f3_; have f4_ := f1_.symm; have f5_ := f3_.symm; clear f1_ f2_ f3_; subst f4_; subst f5_))
        refine hK.out _ _ ⟨(bc B164.out 0).trans rfl, (bc B164.out 1).trans rfl, (bc B164.out 2).trans rfl, (bc B164.out 3).trans rfl, (bc B164.out 4).trans rfl, (bc B164.out 5).trans rfl⟩ (fun hHeld => ?_)
        clear hK K
        refine norm_ (a' := ?_) ?_ ?_
        rotate_left
        · show Act.put _ (some 18) _ = _
          simp only [Act.put, List.setIfInBounds_toArray, List.set_cons_zero, List.set_cons_succ, i64_w, i32_w]
          rfl
        refine one_ (i := 4) (N := some 19) #[true, true, true, true, true, true, true, false, false, false] rfl rfl (one_of HT_.out (by kernel_rfl)) (by decide) (fun K hK => ?_)
        refine Kd.R_append_rows_step (Kd.int .u8) (w0 := w) w.heap.size (by rfl) (.tmp 15) (.tmp 18) 22 5 (.int .u8 0) 1 rfl Tryd.underlying22 info5 rfl (by decide) (by omega) v166 t165 t168 _ _ _ (fun k_ => some k_ ≠ (J Ao14 t168.length co14 : Value).ownBlock) (fun _ => False) rfl rfl ?aO ?aR (fun _ _ h => h) (fun _ h => h.elim) ?aF ?aB ?aS ?aL ?_
        (case aR => repeat (first | exact (Kd.R_reads' O170.out).2.2 | (with_reducible refine ca ?_ _) | (with_reducible refine cN ?_ _) | (with_reducible refine cd1 ?_)))
        (case aB => exact (by repeat (first | (with_reducible first | exact HB.out | apply pa | apply pN | apply p1 | refine bs ?_ E164.out) | exact HB.out)))
        (case aF => exact (fun k_ hk => Kd.fresh' (rl (by (with_reducible repeat (first | apply ra | apply rN | apply rd1)); exact O170.out)) k_ hk))
        (case aO => exact (by (with_reducible repeat (first | apply ra | apply rN | apply rd1)); exact Kd.R_mono O167.out (fun _ hk => hk.2)))
        (case aS => exact (bz (by repeat (first | (with_reducible first | exact HB.out | apply pa | apply pN | apply p1 | refine bs ?_ E164.out) | exact HB.out))))
        (case aL => have := LMc4.out; omega)
        intro v172 w13 ho hb hg hat
        rw [← Ny171.out] at ho
        have N0 := am (blk_grown (g := g164) (o := .cells #[I q aa0, I q aa1, I q aa2, I q aa3, I q aa4, J Aa5 la5.length ca5] 26 (0, 0)) (by (with_reducible repeat (first | apply bN | apply bd | apply ba)); exact B164.out) hg (Kd.R_ne O167.out B164.out (by decide)))
        have N1 := am (Kd.R_after (ok := (fun _ => True)) (by (with_reducible repeat (first | apply ra | apply rN | apply rd1)); exact O170.out) hg hat)
        have N2 := am (hb)
        have N3 := am (ho)
        clear B164
        clear O170
        clear HB
        clear O167
        have B164 := N0
        have O170 := N1
        have HB := N2
        have O173 := N3
        clear N0 N1 N2 N3
        clear ho hb hg hat
        refine hK.out _ _ ⟨(bc B164.out 0).trans rfl, (bc B164.out 1).trans rfl, (bc B164.out 2).trans rfl, (bc B164.out 3).trans rfl, (bc B164.out 4).trans rfl, (bc B164.out 5).trans rfl⟩ (fun hHeld => ?_)
        clear hK K
        refine norm_ (a' := ?_) ?_ ?_
        rotate_left
        · show Act.put _ (some 19) _ = _
          simp only [Act.put, List.setIfInBounds_toArray, List.set_cons_zero, List.set_cons_succ, i64_w, i32_w]
          rfl
        refine one_ (i := 7) (N := some 22) #[true, true, true, true, true, true, true, true, false, false] rfl rfl (one_of HT_.out (by kernel_rfl)) (by decide) (fun K hK => ?_)
        refine goes_ Tryd.func46 (by kernel_rfl) rfl #[I q aa4, I q 2] (by rfl) rfl rfl (by (try simp only [List.map_toArray, List.map_cons, List.map_nil]); first | done | rfl | (simp only [List.length_drop, List.length_take]; rfl)) ?_
        with_reducible refine (spec_l1Bytes.calls k aa4 2 t174 _ A5.out).mono ?_
        rintro e w15 ⟨v175, rfl, ho0, hb⟩
        refine ⟨_, rfl, ?_⟩
        have N0 := am (re (by (with_reducible repeat (first | apply ra | apply rN | apply rd1)); exact O170.out) (Kd.R_base ho0) hb)
        have N1 := am (re (by (with_reducible repeat (first | apply ra | apply rN | apply rd1)); exact O173.out) (Kd.R_base ho0) hb)
        have N2 := am (rw1 (rn (rn ho0 (rl (by (with_reducible repeat (first | apply ra | apply rN | apply rd1)); exact O170.out))) (rl (by (with_reducible repeat (first | apply ra | apply rN | apply rd1)); exact O173.out))) (bz (by repeat (first | (with_reducible first | exact HB.out | apply pa | apply pN | apply p1 | refine bs ?_ E164.out) | exact HB.out))))
        have N3 := am (bb (g := g164) (by (with_reducible repeat (first | apply bN | apply bd | apply ba)); exact B164.out) hb)
        have N4 := am (bp (by repeat (first | (with_reducible first | exact HB.out | apply pa | apply pN | apply p1 | refine bs ?_ E164.out) | exact HB.out)) hb)
        clear O170
        clear O173
        clear B164
        clear HB
        have O170 := N0
        have O173 := N1
        have O176 := N2
        have B164 := N3
        have HB := N4
        clear N0 N1 N2 N3 N4
        (try clear hb)
        (try clear hb2)
        (try clear hk)
        (try clear hi)
        (try clear ho0)
        obtain ⟨Ao17, co17, eo17⟩ := Kd.R_slice O176.out
        (first | subst eo17 | (injection eo17 with f1_ f2_ f3_; have f4_ := f1_.symm; have f5_ := f3_.symm; clear f1_ f2_ f3_; subst f4_; subst f5_))
        refine hK.out _ _ ⟨(bc B164.out 0).trans rfl, (bc B164.out 1).trans rfl, (bc B164.out 2).trans rfl, (bc B164.out 3).trans rfl, (bc B164.out 4).trans rfl, (bc B164.out 5).trans rfl⟩ (fun hHeld => ?_)
        clear hK K
        refine norm_ (a' := ?_) ?_ ?_
        rotate_left
        · show Act.put _ (some 22) _ = _
          simp only [Act.put, List.setIfInBounds_toArray, List.set_cons_zero, List.set_cons_succ, i64_w, i32_w]
          rfl
        refine one_ (i := 8) (N := some 23) #[true, true, true, true, true, true, true, true, true, false] rfl rfl (one_of HT_.out (by kernel_rfl)) (by decide) (fun K hK => ?_)
        refine Kd.R_append_rows_step (Kd.int .u8) (w0 := w) w.heap.size (by rfl) (.tmp 19) (.tmp 22) 22 5 (.int .u8 0) 1 rfl Tryd.underlying22 info5 rfl (by decide) (by omega) v172 y171 t174 _ _ _ (fun k_ => some k_ ≠ (J Ao14 t168.length co14 : Value).ownBlock ∧ some k_ ≠ (J Ao17 t174.length co17 : Value).ownBlock) (fun _ => False) rfl rfl ?aO ?aR (fun _ _ h => h) (fun _ h => h.elim) ?aF ?aB ?aS ?aL ?_
        (case aR => repeat (first | exact (Kd.R_reads' O176.out).2.2 | (with_reducible refine ca ?_ _) | (with_reducible refine cN ?_ _) | (with_reducible refine cd1 ?_)))
        (case aB => exact (by repeat (first | (with_reducible first | exact HB.out | apply pa | apply pN | apply p1 | refine bs ?_ E164.out) | exact HB.out)))
        (case aF => exact (fun k_ hk => ⟨Kd.fresh' (rl (by (with_reducible repeat (first | apply ra | apply rN | apply rd1)); exact O170.out)) k_ hk, Kd.fresh' (rl (by (with_reducible repeat (first | apply ra | apply rN | apply rd1)); exact O176.out)) k_ hk⟩))
        (case aO => exact (by (with_reducible repeat (first | apply ra | apply rN | apply rd1)); exact O173.out))
        (case aS => exact (bz (by repeat (first | (with_reducible first | exact HB.out | apply pa | apply pN | apply p1 | refine bs ?_ E164.out) | exact HB.out))))
        (case aL => have := LMc6.out; omega)
        intro v178 w16 ho hb hg hat
        rw [← Ny177.out] at ho
        have N0 := am (blk_grown (g := g164) (o := .cells #[I q aa0, I q aa1, I q aa2, I q aa3, I q aa4, J Aa5 la5.length ca5] 26 (0, 0)) (by (with_reducible repeat (first | apply bN | apply bd | apply ba)); exact B164.out) hg (Kd.R_ne O173.out B164.out (by decide)))
        have N1 := am (Kd.R_after (ok := (fun k_ => some k_ ≠ (J Ao17 t174.length co17 : Value).ownBlock)) (by (with_reducible repeat (first | apply ra | apply rN | apply rd1)); exact Kd.R_mono O170.out (fun _ hk => ⟨hk.2, hk.1.2⟩)) hg hat)
        have N2 := am (Kd.R_after (ok := (fun k_ => some k_ ≠ (J Ao14 t168.length co14 : Value).ownBlock)) (by (with_reducible repeat (first | apply ra | apply rN | apply rd1)); exact Kd.R_mono O176.out (fun _ hk => ⟨hk.1.2, hk.2⟩)) hg hat)
        have N3 := am (hb)
        have N4 := am (ho)
        clear B164
        clear O170
        clear O176
        clear HB
        clear O173
        have B164 := N0
        have O170 := N1
        have O176 := N2
        have HB := N3
        have O179 := N4
        clear N0 N1 N2 N3 N4
        clear ho hb hg hat
        refine hK.out _ _ ⟨(bc B164.out 0).trans rfl, (bc B164.out 1).trans rfl, (bc B164.out 2).trans rfl, (bc B164.out 3).trans rfl, (bc B164.out 4).trans rfl, (bc B164.out 5).trans rfl⟩ (fun hHeld => ?_)
        clear hK K
        refine norm_ (a' := ?_) ?_ ?_
        rotate_left
        · show Act.put _ (some 23) _ = _
          simp only [Act.put, List.setIfInBounds_toArray, List.set_cons_zero, List.set_cons_succ, i64_w, i32_w]
          rfl
        refine pure_ (i := 9) (N := some 3) (v := ?_) (a' := ?_) #[true, true, true, true, true, true, true, true, true, true] rfl rfl (any_of HT_.out (by kernel_rfl)) (fun _ _ _ h => h) (Or.inl ⟨by rfl, ?_⟩) ?_ ?_
        rotate_left
        · intro w'
          first | (go_simp; with_reducible rfl) | (go_simp; (try unfold Instr.field); go_simp; (try simp only [asAgg]); go_simp; with_reducible rfl)
        rotate_left
        · simp only [Act.put, List.setIfInBounds_toArray, List.set_cons_zero, List.set_cons_succ, i64_w, i32_w]
          rfl
        refine done_ (done_of HT_.out (by kernel_rfl)) ?_
        have hcz18_0 : w16.cell? ⟨g164, 0, none⟩ = some (I q aa0) := (bc B164.out 0).trans rfl
        have hcz18_1 : w16.cell? ⟨g164, 1, none⟩ = some (I q aa1) := (bc B164.out 1).trans rfl
        have hcz18_2 : w16.cell? ⟨g164, 2, none⟩ = some (I q aa2) := (bc B164.out 2).trans rfl
        have hcz18_3 : w16.cell? ⟨g164, 3, none⟩ = some (I q aa3) := (bc B164.out 3).trans rfl
        have hcz18_4 : w16.cell? ⟨g164, 4, none⟩ = some (I q aa4) := (bc B164.out 4).trans rfl
        have hcz18_5 : w16.cell? ⟨g164, 5, none⟩ = some (J Aa5 la5.length ca5) := (bc B164.out 5).trans rfl
        have hfz18_0 := bf B164.out 0
        have hfz18_1 := bf B164.out 1
        have hfz18_2 := bf B164.out 2
        have hfz18_3 := bf B164.out 3
        have hfz18_4 := bf B164.out 4
        have hfz18_5 := bf B164.out 5
        try go_wp2_with (first | ((with_reducible refine gate_builtin (b := .append) (xs := #[.tmp 24, .tmp 26]) rfl ?_); at_builtin; refine Kd.R_append_rows (Kd.int .u8) (w0 := w) w.heap.size rfl (.tmp 24) (.tmp 26) 22 5 (.int .u8 0) 1 rfl Tryd.underlying22 info5 rfl (by decide) (by omega) v178 y177 la5 _ _ _ (fun k_ => some k_ ≠ (J Ao14 t168.length co14 : Value).ownBlock ∧ some k_ ≠ (J Ao17 t174.length co17 : Value).ownBlock) (fun _ => False) rfl rfl ?aO ?aR (fun _ _ h => h) (fun _ h => h.elim) ?aF ?aB ?aS ?aL ?_; (case aR => repeat (first | exact (Kd.C_below HR0_5.out HB.out) | (with_reducible refine ca ?_ _) | (with_reducible refine cN ?_ _) | (with_reducible refine cd1 ?_))); (case aB => exact (by repeat (first | (with_reducible first | exact HB.out | apply pa | apply pN | apply p1 | refine bs ?_ E164.out) | exact HB.out))); (case aF => exact (fun k_ hk => ⟨Kd.fresh' (rl (by (with_reducible repeat (first | apply ra | apply rN | apply rd1)); exact O170.out)) k_ hk, Kd.fresh' (rl (by (with_reducible repeat (first | apply ra | apply rN | apply rd1)); exact O176.out)) k_ hk⟩)); (case aO => exact (by (with_reducible repeat (first | apply ra | apply rN | apply rd1)); exact O179.out)); (case aS => exact (bz (by repeat (first | (with_reducible first | exact HB.out | apply pa | apply pN | apply p1 | refine bs ?_ E164.out) | exact HB.out)))); (case aL => have := LMc7.out; omega); intro v181 w19 ho hb hg hat; rw [← Ny180.out] at ho; have N0 := am (blk_grown (g := g164) (o := .cells #[I q aa0, I q aa1, I q aa2, I q aa3, I q aa4, J Aa5 la5.length ca5] 26 (0, 0)) (by (with_reducible repeat (first | apply bN | apply bd | apply ba)); exact B164.out) hg (Kd.R_ne O179.out B164.out (by decide))); have N1 := am (Kd.R_after (ok := (fun k_ => some k_ ≠ (J Ao17 t174.length co17 : Value).ownBlock)) (by (with_reducible repeat (first | apply ra | apply rN | apply rd1)); exact O170.out) hg hat); have N2 := am (Kd.R_after (ok := (fun k_ => some k_ ≠ (J Ao14 t168.length co14 : Value).ownBlock)) (by (with_reducible repeat (first | apply ra | apply rN | apply rd1)); exact O176.out) hg hat); have N3 := am (hb); have N4 := am (ho); clear B164 O170 O176 HB O179; have B164 := N0; have O170 := N1; have O176 := N2; have HB := N3; have O182 := N4; clear N0 N1 N2 N3 N4 ho hb hg hat))
        go_ret
        exact ⟨_, by first | rfl | (simp [errW_none, errW_some] <;> rfl) | (simp [*, errW_none, errW_some] <;> rfl), by (with_reducible repeat (first | apply ra | apply rN | apply rd1)); exact Kd.R_mono O182.out (fun _ hk => trivial), by repeat (first | (with_reducible first | exact HB.out | apply pa | apply pN | apply p1 | refine bs ?_ E164.out) | exact HB.out)⟩
      · rw [if_neg c7] at H
        exact absurd H (by simp)
    · rw [if_neg c6] at H
      exact absurd H (by simp)
  · rw [if_neg c4] at H
    exact absurd H (by simp)

end Go.Proofs.YtgpemjkcpeimdaaDoor.QFnPackets
