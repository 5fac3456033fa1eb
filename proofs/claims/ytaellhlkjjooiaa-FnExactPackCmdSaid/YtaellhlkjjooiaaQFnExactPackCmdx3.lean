-- MADE BY PROGRAM (qprint.py): walks of the functions that the law FnExactPackCmd reaches. Lean checks it.
import Derived.Test.YtaellhlkjjooiaaQFnExactPackCmdx0
import Derived.Test.YtaellhlkjjooiaaQFnExactPackCmdx1
import Derived.Test.YtaellhlkjjooiaaQFnExactPackCmdx2
namespace Go.Proofs.Ytaellhlkjjooiaa.QFnExactPackCmd
open Go.RowKit Go.Proofs.YtaellhlkjjooiaaW.PrintWords Go.Proofs.YtaellhlkjjooiaaW.PrintLast Go.Proofs.YtaellhlkjjooiaaW.PrintMore
open Go.Proofs.YtaellhlkjjooiaaW.PrintWords renaming blk_drewN → bN, blk_drew → bd, blk_alloc → ba, blk_cell → bc, blk_frozen → bf, below_set → bs, pw_below_drewN → pN, below_drew1 → p1, below_alloc → pa, blk_below → bb, below_size → bz, below_step → bp, blk_lt → bl, blk_far → bq
open Go.Proofs.YtaellhlkjjooiaaW.PrintWords.Kd renaming R_drewN → rN, R_drew → rd1, R_alloc → ra, R_far → rf, R_below → rb, R_new' → rn, R_lt → rl, R_elder' → re, R_lower → rw1, C_alloc → ca, C_drewN → cN, C_drew → cd1
open Go.Proofs.YtaellhlkjjooiaaW.PrintWords.Aside0 renaming mk → am
open Go.Value renaming int → I, slice → J
open Go.IntKind renaming i64 → q
attribute [local go_sem] max2_int min2_int max_two min_two max_three min_three max_four min_four   -- for this text's walks alone
set_option linter.unusedVariables false
set_option linter.unusedSimpArgs false

/-! ### spec_CmdFault: function 25 -/
def spec_CmdFault.j0 : Nat → Bool → Bool → Bool → Bool → Bool → Int → Int → Int → Int → Int → Int → Option (Int)
  | 0, _, _, _, _, _, _, _, _, _, _, _ => none
  | k + 1, x3, x4, x5, x6, x62, x127000, x127001, x127002, x127003, x127004, x127005 => if x62 = true then (some 3) else (if x3 = true then (if x4 = true then (if x5 = true then (if x6 = true then (some 0) else (if x127005 = 0 then (some 0) else (some 1))) else (if x127004 = 0 then (if x6 = true then (some 0) else (if x127005 = 0 then (some 0) else (some 1))) else (some 1))) else (if x127003 = 0 then (if x5 = true then (if x6 = true then (some 0) else (if x127005 = 0 then (some 0) else (some 1))) else (if x127004 = 0 then (if x6 = true then (some 0) else (if x127005 = 0 then (some 0) else (some 1))) else (some 1))) else (some 1))) else (if x127002 = 0 then (if x4 = true then (if x5 = true then (if x6 = true then (some 0) else (if x127005 = 0 then (some 0) else (some 1))) else (if x127004 = 0 then (if x6 = true then (some 0) else (if x127005 = 0 then (some 0) else (some 1))) else (some 1))) else (if x127003 = 0 then (if x5 = true then (if x6 = true then (some 0) else (if x127005 = 0 then (some 0) else (some 1))) else (if x127004 = 0 then (if x6 = true then (some 0) else (if x127005 = 0 then (some 0) else (some 1))) else (some 1))) else (some 1))) else (some 1)))
def spec_CmdFault.f (k : Nat) (aa0 : Int) (aa1 : Int) (aa2 : Int) (aa3 : Int) (aa4 : Int) (aa5 : Int) : Option (Int) := (spec_l1In.f aa0 1 9).bind fun t127 => (if t127 = true then ((spec_l5Needs.f aa0).bind fun bt128 => (if aa1 = (-1) then (if bt128.1 = true then ((spec_l3Name.f aa2).bind fun t132 => (if t132 = true then (if bt128.2.1 = true then ((spec_l2Address.f aa3).bind fun t133 => (if t133 = true then (if bt128.2.2.1 = true then ((spec_l5Number.f k aa0 aa1 aa2 aa3 aa4 aa5).bind fun t134 => (if t134 = true then (if bt128.2.2.2 = true then ((spec_l5Proto.f aa5).bind fun t135 => (spec_CmdFault.j0 k bt128.1 bt128.2.1 bt128.2.2.1 bt128.2.2.2 (!t135) aa0 aa1 aa2 aa3 aa4 aa5)) else (spec_CmdFault.j0 k bt128.1 bt128.2.1 bt128.2.2.1 bt128.2.2.2 false aa0 aa1 aa2 aa3 aa4 aa5)) else (spec_CmdFault.j0 k bt128.1 bt128.2.1 bt128.2.2.1 bt128.2.2.2 true aa0 aa1 aa2 aa3 aa4 aa5))) else (if bt128.2.2.2 = true then ((spec_l5Proto.f aa5).bind fun t136 => (spec_CmdFault.j0 k bt128.1 bt128.2.1 bt128.2.2.1 bt128.2.2.2 (!t136) aa0 aa1 aa2 aa3 aa4 aa5)) else (spec_CmdFault.j0 k bt128.1 bt128.2.1 bt128.2.2.1 bt128.2.2.2 false aa0 aa1 aa2 aa3 aa4 aa5))) else (spec_CmdFault.j0 k bt128.1 bt128.2.1 bt128.2.2.1 bt128.2.2.2 true aa0 aa1 aa2 aa3 aa4 aa5))) else (if bt128.2.2.1 = true then ((spec_l5Number.f k aa0 aa1 aa2 aa3 aa4 aa5).bind fun t137 => (if t137 = true then (if bt128.2.2.2 = true then ((spec_l5Proto.f aa5).bind fun t138 => (spec_CmdFault.j0 k bt128.1 bt128.2.1 bt128.2.2.1 bt128.2.2.2 (!t138) aa0 aa1 aa2 aa3 aa4 aa5)) else (spec_CmdFault.j0 k bt128.1 bt128.2.1 bt128.2.2.1 bt128.2.2.2 false aa0 aa1 aa2 aa3 aa4 aa5)) else (spec_CmdFault.j0 k bt128.1 bt128.2.1 bt128.2.2.1 bt128.2.2.2 true aa0 aa1 aa2 aa3 aa4 aa5))) else (if bt128.2.2.2 = true then ((spec_l5Proto.f aa5).bind fun t139 => (spec_CmdFault.j0 k bt128.1 bt128.2.1 bt128.2.2.1 bt128.2.2.2 (!t139) aa0 aa1 aa2 aa3 aa4 aa5)) else (spec_CmdFault.j0 k bt128.1 bt128.2.1 bt128.2.2.1 bt128.2.2.2 false aa0 aa1 aa2 aa3 aa4 aa5)))) else (spec_CmdFault.j0 k bt128.1 bt128.2.1 bt128.2.2.1 bt128.2.2.2 true aa0 aa1 aa2 aa3 aa4 aa5))) else (if bt128.2.1 = true then ((spec_l2Address.f aa3).bind fun t140 => (if t140 = true then (if bt128.2.2.1 = true then ((spec_l5Number.f k aa0 aa1 aa2 aa3 aa4 aa5).bind fun t141 => (if t141 = true then (if bt128.2.2.2 = true then ((spec_l5Proto.f aa5).bind fun t142 => (spec_CmdFault.j0 k bt128.1 bt128.2.1 bt128.2.2.1 bt128.2.2.2 (!t142) aa0 aa1 aa2 aa3 aa4 aa5)) else (spec_CmdFault.j0 k bt128.1 bt128.2.1 bt128.2.2.1 bt128.2.2.2 false aa0 aa1 aa2 aa3 aa4 aa5)) else (spec_CmdFault.j0 k bt128.1 bt128.2.1 bt128.2.2.1 bt128.2.2.2 true aa0 aa1 aa2 aa3 aa4 aa5))) else (if bt128.2.2.2 = true then ((spec_l5Proto.f aa5).bind fun t143 => (spec_CmdFault.j0 k bt128.1 bt128.2.1 bt128.2.2.1 bt128.2.2.2 (!t143) aa0 aa1 aa2 aa3 aa4 aa5)) else (spec_CmdFault.j0 k bt128.1 bt128.2.1 bt128.2.2.1 bt128.2.2.2 false aa0 aa1 aa2 aa3 aa4 aa5))) else (spec_CmdFault.j0 k bt128.1 bt128.2.1 bt128.2.2.1 bt128.2.2.2 true aa0 aa1 aa2 aa3 aa4 aa5))) else (if bt128.2.2.1 = true then ((spec_l5Number.f k aa0 aa1 aa2 aa3 aa4 aa5).bind fun t144 => (if t144 = true then (if bt128.2.2.2 = true then ((spec_l5Proto.f aa5).bind fun t145 => (spec_CmdFault.j0 k bt128.1 bt128.2.1 bt128.2.2.1 bt128.2.2.2 (!t145) aa0 aa1 aa2 aa3 aa4 aa5)) else (spec_CmdFault.j0 k bt128.1 bt128.2.1 bt128.2.2.1 bt128.2.2.2 false aa0 aa1 aa2 aa3 aa4 aa5)) else (spec_CmdFault.j0 k bt128.1 bt128.2.1 bt128.2.2.1 bt128.2.2.2 true aa0 aa1 aa2 aa3 aa4 aa5))) else (if bt128.2.2.2 = true then ((spec_l5Proto.f aa5).bind fun t146 => (spec_CmdFault.j0 k bt128.1 bt128.2.1 bt128.2.2.1 bt128.2.2.2 (!t146) aa0 aa1 aa2 aa3 aa4 aa5)) else (spec_CmdFault.j0 k bt128.1 bt128.2.1 bt128.2.2.1 bt128.2.2.2 false aa0 aa1 aa2 aa3 aa4 aa5))))) else ((spec_l5Version.f aa1).bind fun t147 => (if t147 = true then (if bt128.1 = true then ((spec_l3Name.f aa2).bind fun t148 => (if t148 = true then (if bt128.2.1 = true then ((spec_l2Address.f aa3).bind fun t149 => (if t149 = true then (if bt128.2.2.1 = true then ((spec_l5Number.f k aa0 aa1 aa2 aa3 aa4 aa5).bind fun t150 => (if t150 = true then (if bt128.2.2.2 = true then ((spec_l5Proto.f aa5).bind fun t151 => (spec_CmdFault.j0 k bt128.1 bt128.2.1 bt128.2.2.1 bt128.2.2.2 (!t151) aa0 aa1 aa2 aa3 aa4 aa5)) else (spec_CmdFault.j0 k bt128.1 bt128.2.1 bt128.2.2.1 bt128.2.2.2 false aa0 aa1 aa2 aa3 aa4 aa5)) else (spec_CmdFault.j0 k bt128.1 bt128.2.1 bt128.2.2.1 bt128.2.2.2 true aa0 aa1 aa2 aa3 aa4 aa5))) else (if bt128.2.2.2 = true then ((spec_l5Proto.f aa5).bind fun t152 => (spec_CmdFault.j0 k bt128.1 bt128.2.1 bt128.2.2.1 bt128.2.2.2 (!t152) aa0 aa1 aa2 aa3 aa4 aa5)) else (spec_CmdFault.j0 k bt128.1 bt128.2.1 bt128.2.2.1 bt128.2.2.2 false aa0 aa1 aa2 aa3 aa4 aa5))) else (spec_CmdFault.j0 k bt128.1 bt128.2.1 bt128.2.2.1 bt128.2.2.2 true aa0 aa1 aa2 aa3 aa4 aa5))) else (if bt128.2.2.1 = true then ((spec_l5Number.f k aa0 aa1 aa2 aa3 aa4 aa5).bind fun t153 => (if t153 = true then (if bt128.2.2.2 = true then ((spec_l5Proto.f aa5).bind fun t154 => (spec_CmdFault.j0 k bt128.1 bt128.2.1 bt128.2.2.1 bt128.2.2.2 (!t154) aa0 aa1 aa2 aa3 aa4 aa5)) else (spec_CmdFault.j0 k bt128.1 bt128.2.1 bt128.2.2.1 bt128.2.2.2 false aa0 aa1 aa2 aa3 aa4 aa5)) else (spec_CmdFault.j0 k bt128.1 bt128.2.1 bt128.2.2.1 bt128.2.2.2 true aa0 aa1 aa2 aa3 aa4 aa5))) else (if bt128.2.2.2 = true then ((spec_l5Proto.f aa5).bind fun t155 => (spec_CmdFault.j0 k bt128.1 bt128.2.1 bt128.2.2.1 bt128.2.2.2 (!t155) aa0 aa1 aa2 aa3 aa4 aa5)) else (spec_CmdFault.j0 k bt128.1 bt128.2.1 bt128.2.2.1 bt128.2.2.2 false aa0 aa1 aa2 aa3 aa4 aa5)))) else (spec_CmdFault.j0 k bt128.1 bt128.2.1 bt128.2.2.1 bt128.2.2.2 true aa0 aa1 aa2 aa3 aa4 aa5))) else (if bt128.2.1 = true then ((spec_l2Address.f aa3).bind fun t156 => (if t156 = true then (if bt128.2.2.1 = true then ((spec_l5Number.f k aa0 aa1 aa2 aa3 aa4 aa5).bind fun t157 => (if t157 = true then (if bt128.2.2.2 = true then ((spec_l5Proto.f aa5).bind fun t158 => (spec_CmdFault.j0 k bt128.1 bt128.2.1 bt128.2.2.1 bt128.2.2.2 (!t158) aa0 aa1 aa2 aa3 aa4 aa5)) else (spec_CmdFault.j0 k bt128.1 bt128.2.1 bt128.2.2.1 bt128.2.2.2 false aa0 aa1 aa2 aa3 aa4 aa5)) else (spec_CmdFault.j0 k bt128.1 bt128.2.1 bt128.2.2.1 bt128.2.2.2 true aa0 aa1 aa2 aa3 aa4 aa5))) else (if bt128.2.2.2 = true then ((spec_l5Proto.f aa5).bind fun t159 => (spec_CmdFault.j0 k bt128.1 bt128.2.1 bt128.2.2.1 bt128.2.2.2 (!t159) aa0 aa1 aa2 aa3 aa4 aa5)) else (spec_CmdFault.j0 k bt128.1 bt128.2.1 bt128.2.2.1 bt128.2.2.2 false aa0 aa1 aa2 aa3 aa4 aa5))) else (spec_CmdFault.j0 k bt128.1 bt128.2.1 bt128.2.2.1 bt128.2.2.2 true aa0 aa1 aa2 aa3 aa4 aa5))) else (if bt128.2.2.1 = true then ((spec_l5Number.f k aa0 aa1 aa2 aa3 aa4 aa5).bind fun t160 => (if t160 = true then (if bt128.2.2.2 = true then ((spec_l5Proto.f aa5).bind fun t161 => (spec_CmdFault.j0 k bt128.1 bt128.2.1 bt128.2.2.1 bt128.2.2.2 (!t161) aa0 aa1 aa2 aa3 aa4 aa5)) else (spec_CmdFault.j0 k bt128.1 bt128.2.1 bt128.2.2.1 bt128.2.2.2 false aa0 aa1 aa2 aa3 aa4 aa5)) else (spec_CmdFault.j0 k bt128.1 bt128.2.1 bt128.2.2.1 bt128.2.2.2 true aa0 aa1 aa2 aa3 aa4 aa5))) else (if bt128.2.2.2 = true then ((spec_l5Proto.f aa5).bind fun t162 => (spec_CmdFault.j0 k bt128.1 bt128.2.1 bt128.2.2.1 bt128.2.2.2 (!t162) aa0 aa1 aa2 aa3 aa4 aa5)) else (spec_CmdFault.j0 k bt128.1 bt128.2.1 bt128.2.2.1 bt128.2.2.2 false aa0 aa1 aa2 aa3 aa4 aa5))))) else (spec_CmdFault.j0 k bt128.1 bt128.2.1 bt128.2.2.1 bt128.2.2.2 true aa0 aa1 aa2 aa3 aa4 aa5))))) else (some 1))
theorem spec_CmdFault.mono_l : ∀ k, (∀ y0 y1 y2 y3 y4 y5 y6 y7 y8 y9 y10, LeO (spec_CmdFault.j0 k y0 y1 y2 y3 y4 y5 y6 y7 y8 y9 y10) (spec_CmdFault.j0 (k + 1) y0 y1 y2 y3 y4 y5 y6 y7 y8 y9 y10))
  | 0 => fun _ _ _ _ _ _ _ _ _ _ _ r h => by simp [spec_CmdFault.j0] at h
  | k + 1 => by
    have ih0 := spec_CmdFault.mono_l k
    · intro y0 y1 y2 y3 y4 y5 y6 y7 y8 y9 y10
      unfold spec_CmdFault.j0
      repeat' first
      | (with_reducible exact ih0 _ _ _ _ _ _ _ _ _ _ _)
      | (with_reducible exact spec_l5Number.mono _ _ _ _ _ _ _)
      | (with_reducible exact LeO.refl _)
      | (with_reducible exact LeO.none _)
      | (with_reducible refine LeO.ite ?_ ?_)
      | (with_reducible refine LeO.bind ?_ (fun _ => ?_))
      | exact ih0 _ _ _ _ _ _ _ _ _ _ _
      | exact spec_l5Number.mono _ _ _ _ _ _ _
      | exact LeO.none _
      | refine LeO.ite ?_ ?_
      | refine LeO.bind ?_ (fun _ => ?_)
theorem spec_CmdFault.mono : ∀ a0 a1 a2 a3 a4 a5 k, LeO (spec_CmdFault.f k a0 a1 a2 a3 a4 a5) (spec_CmdFault.f (k + 1) a0 a1 a2 a3 a4 a5) := by
  intro a0 a1 a2 a3 a4 a5 k
  have ih0 := spec_CmdFault.mono_l k
  unfold spec_CmdFault.f
  repeat' first
      | (with_reducible exact ih0 _ _ _ _ _ _ _ _ _ _ _)
      | (with_reducible exact spec_l5Number.mono _ _ _ _ _ _ _)
      | (with_reducible exact LeO.refl _)
      | (with_reducible exact LeO.none _)
      | (with_reducible refine LeO.ite ?_ ?_)
      | (with_reducible refine LeO.bind ?_ (fun _ => ?_))
      | exact ih0 _ _ _ _ _ _ _ _ _ _ _
      | exact spec_l5Number.mono _ _ _ _ _ _ _
      | exact LeO.none _
      | refine LeO.ite ?_ ?_
      | refine LeO.bind ?_ (fun _ => ?_)
set_option maxHeartbeats 8000000 in
set_option maxRecDepth 100000 in
theorem spec_CmdFault.calls (k : Nat) (aa0 : Int) (aa1 : Int) (aa2 : Int) (aa3 : Int) (aa4 : Int) (aa5 : Int) (r : Int) (w : World) (h : spec_CmdFault.f k aa0 aa1 aa2 aa3 aa4 aa5 = some r) :
    Calls Try.prog 25 #[.agg #[I q aa0, I q aa1, I q aa2, I q aa3, I q aa4, I q aa5]] w fun e w' => e = .returned (I q r) ∧ Below w.heap.size w w' := by
  have hu42 := Try.underlying42
  have HB := am (Below.refl w.heap.size w)
  have H : ((spec_l1In.f aa0 1 9).bind fun t127 => (if t127 = true then ((spec_l5Needs.f aa0).bind fun bt128 => (if aa1 = (-1) then (if bt128.1 = true then ((spec_l3Name.f aa2).bind fun t132 => (if t132 = true then (if bt128.2.1 = true then ((spec_l2Address.f aa3).bind fun t133 => (if t133 = true then (if bt128.2.2.1 = true then ((spec_l5Number.f k aa0 aa1 aa2 aa3 aa4 aa5).bind fun t134 => (if t134 = true then (if bt128.2.2.2 = true then ((spec_l5Proto.f aa5).bind fun t135 => (spec_CmdFault.j0 k bt128.1 bt128.2.1 bt128.2.2.1 bt128.2.2.2 (!t135) aa0 aa1 aa2 aa3 aa4 aa5)) else (spec_CmdFault.j0 k bt128.1 bt128.2.1 bt128.2.2.1 bt128.2.2.2 false aa0 aa1 aa2 aa3 aa4 aa5)) else (spec_CmdFault.j0 k bt128.1 bt128.2.1 bt128.2.2.1 bt128.2.2.2 true aa0 aa1 aa2 aa3 aa4 aa5))) else (if bt128.2.2.2 = true then ((spec_l5Proto.f aa5).bind fun t136 => (spec_CmdFault.j0 k bt128.1 bt128.2.1 bt128.2.2.1 bt128.2.2.2 (!t136) aa0 aa1 aa2 aa3 aa4 aa5)) else (spec_CmdFault.j0 k bt128.1 bt128.2.1 bt128.2.2.1 bt128.2.2.2 false aa0 aa1 aa2 aa3 aa4 aa5))) else (spec_CmdFault.j0 k bt128.1 bt128.2.1 bt128.2.2.1 bt128.2.2.2 true aa0 aa1 aa2 aa3 aa4 aa5))) else (if bt128.2.2.1 = true then ((spec_l5Number.f k aa0 aa1 aa2 aa3 aa4 aa5).bind fun t137 => (if t137 = true then (if bt128.2.2.2 = true then ((spec_l5Proto.f aa5).bind fun t138 => (spec_CmdFault.j0 k bt128.1 bt128.2.1 bt128.2.2.1 bt128.2.2.2 (!t138) aa0 aa1 aa2 aa3 aa4 aa5)) else (spec_CmdFault.j0 k bt128.1 bt128.2.1 bt128.2.2.1 bt128.2.2.2 false aa0 aa1 aa2 aa3 aa4 aa5)) else (spec_CmdFault.j0 k bt128.1 bt128.2.1 bt128.2.2.1 bt128.2.2.2 true aa0 aa1 aa2 aa3 aa4 aa5))) else (if bt128.2.2.2 = true then ((spec_l5Proto.f aa5).bind fun t139 => (spec_CmdFault.j0 k bt128.1 bt128.2.1 bt128.2.2.1 bt128.2.2.2 (!t139) aa0 aa1 aa2 aa3 aa4 aa5)) else (spec_CmdFault.j0 k bt128.1 bt128.2.1 bt128.2.2.1 bt128.2.2.2 false aa0 aa1 aa2 aa3 aa4 aa5)))) else (spec_CmdFault.j0 k bt128.1 bt128.2.1 bt128.2.2.1 bt128.2.2.2 true aa0 aa1 aa2 aa3 aa4 aa5))) else (if bt128.2.1 = true then ((spec_l2Address.f aa3).bind fun t140 => (if t140 = true then (if bt128.2.2.1 = true then ((spec_l5Number.f k aa0 aa1 aa2 aa3 aa4 aa5).bind fun t141 => (if t141 = true then (if bt128.2.2.2 = true then ((spec_l5Proto.f aa5).bind fun t142 => (spec_CmdFault.j0 k bt128.1 bt128.2.1 bt128.2.2.1 bt128.2.2.2 (!t142) aa0 aa1 aa2 aa3 aa4 aa5)) else (spec_CmdFault.j0 k bt128.1 bt128.2.1 bt128.2.2.1 bt128.2.2.2 false aa0 aa1 aa2 aa3 aa4 aa5)) else (spec_CmdFault.j0 k bt128.1 bt128.2.1 bt128.2.2.1 bt128.2.2.2 true aa0 aa1 aa2 aa3 aa4 aa5))) else (if bt128.2.2.2 = true then ((spec_l5Proto.f aa5).bind fun t143 => (spec_CmdFault.j0 k bt128.1 bt128.2.1 bt128.2.2.1 bt128.2.2.2 (!t143) aa0 aa1 aa2 aa3 aa4 aa5)) else (spec_CmdFault.j0 k bt128.1 bt128.2.1 bt128.2.2.1 bt128.2.2.2 false aa0 aa1 aa2 aa3 aa4 aa5))) else (spec_CmdFault.j0 k bt128.1 bt128.2.1 bt128.2.2.1 bt128.2.2.2 true aa0 aa1 aa2 aa3 aa4 aa5))) else (if bt128.2.2.1 = true then ((spec_l5Number.f k aa0 aa1 aa2 aa3 aa4 aa5).bind fun t144 => (if t144 = true then (if bt128.2.2.2 = true then ((spec_l5Proto.f aa5).bind fun t145 => (spec_CmdFault.j0 k bt128.1 bt128.2.1 bt128.2.2.1 bt128.2.2.2 (!t145) aa0 aa1 aa2 aa3 aa4 aa5)) else (spec_CmdFault.j0 k bt128.1 bt128.2.1 bt128.2.2.1 bt128.2.2.2 false aa0 aa1 aa2 aa3 aa4 aa5)) else (spec_CmdFault.j0 k bt128.1 bt128.2.1 bt128.2.2.1 bt128.2.2.2 true aa0 aa1 aa2 aa3 aa4 aa5))) else (if bt128.2.2.2 = true then ((spec_l5Proto.f aa5).bind fun t146 => (spec_CmdFault.j0 k bt128.1 bt128.2.1 bt128.2.2.1 bt128.2.2.2 (!t146) aa0 aa1 aa2 aa3 aa4 aa5)) else (spec_CmdFault.j0 k bt128.1 bt128.2.1 bt128.2.2.1 bt128.2.2.2 false aa0 aa1 aa2 aa3 aa4 aa5))))) else ((spec_l5Version.f aa1).bind fun t147 => (if t147 = true then (if bt128.1 = true then ((spec_l3Name.f aa2).bind fun t148 => (if t148 = true then (if bt128.2.1 = true then ((spec_l2Address.f aa3).bind fun t149 => (if t149 = true then (if bt128.2.2.1 = true then ((spec_l5Number.f k aa0 aa1 aa2 aa3 aa4 aa5).bind fun t150 => (if t150 = true then (if bt128.2.2.2 = true then ((spec_l5Proto.f aa5).bind fun t151 => (spec_CmdFault.j0 k bt128.1 bt128.2.1 bt128.2.2.1 bt128.2.2.2 (!t151) aa0 aa1 aa2 aa3 aa4 aa5)) else (spec_CmdFault.j0 k bt128.1 bt128.2.1 bt128.2.2.1 bt128.2.2.2 false aa0 aa1 aa2 aa3 aa4 aa5)) else (spec_CmdFault.j0 k bt128.1 bt128.2.1 bt128.2.2.1 bt128.2.2.2 true aa0 aa1 aa2 aa3 aa4 aa5))) else (if bt128.2.2.2 = true then ((spec_l5Proto.f aa5).bind fun t152 => (spec_CmdFault.j0 k bt128.1 bt128.2.1 bt128.2.2.1 bt128.2.2.2 (!t152) aa0 aa1 aa2 aa3 aa4 aa5)) else (spec_CmdFault.j0 k bt128.1 bt128.2.1 bt128.2.2.1 bt128.2.2.2 false aa0 aa1 aa2 aa3 aa4 aa5))) else (spec_CmdFault.j0 k bt128.1 bt128.2.1 bt128.2.2.1 bt128.2.2.2 true aa0 aa1 aa2 aa3 aa4 aa5))) else (if bt128.2.2.1 = true then ((spec_l5Number.f k aa0 aa1 aa2 aa3 aa4 aa5).bind fun t153 => (if t153 = true then (if bt128.2.2.2 = true then ((spec_l5Proto.f aa5).bind fun t154 => (spec_CmdFault.j0 k bt128.1 bt128.2.1 bt128.2.2.1 bt128.2.2.2 (!t154) aa0 aa1 aa2 aa3 aa4 aa5)) else (spec_CmdFault.j0 k bt128.1 bt128.2.1 bt128.2.2.1 bt128.2.2.2 false aa0 aa1 aa2 aa3 aa4 aa5)) else (spec_CmdFault.j0 k bt128.1 bt128.2.1 bt128.2.2.1 bt128.2.2.2 true aa0 aa1 aa2 aa3 aa4 aa5))) else (if bt128.2.2.2 = true then ((spec_l5Proto.f aa5).bind fun t155 => (spec_CmdFault.j0 k bt128.1 bt128.2.1 bt128.2.2.1 bt128.2.2.2 (!t155) aa0 aa1 aa2 aa3 aa4 aa5)) else (spec_CmdFault.j0 k bt128.1 bt128.2.1 bt128.2.2.1 bt128.2.2.2 false aa0 aa1 aa2 aa3 aa4 aa5)))) else (spec_CmdFault.j0 k bt128.1 bt128.2.1 bt128.2.2.1 bt128.2.2.2 true aa0 aa1 aa2 aa3 aa4 aa5))) else (if bt128.2.1 = true then ((spec_l2Address.f aa3).bind fun t156 => (if t156 = true then (if bt128.2.2.1 = true then ((spec_l5Number.f k aa0 aa1 aa2 aa3 aa4 aa5).bind fun t157 => (if t157 = true then (if bt128.2.2.2 = true then ((spec_l5Proto.f aa5).bind fun t158 => (spec_CmdFault.j0 k bt128.1 bt128.2.1 bt128.2.2.1 bt128.2.2.2 (!t158) aa0 aa1 aa2 aa3 aa4 aa5)) else (spec_CmdFault.j0 k bt128.1 bt128.2.1 bt128.2.2.1 bt128.2.2.2 false aa0 aa1 aa2 aa3 aa4 aa5)) else (spec_CmdFault.j0 k bt128.1 bt128.2.1 bt128.2.2.1 bt128.2.2.2 true aa0 aa1 aa2 aa3 aa4 aa5))) else (if bt128.2.2.2 = true then ((spec_l5Proto.f aa5).bind fun t159 => (spec_CmdFault.j0 k bt128.1 bt128.2.1 bt128.2.2.1 bt128.2.2.2 (!t159) aa0 aa1 aa2 aa3 aa4 aa5)) else (spec_CmdFault.j0 k bt128.1 bt128.2.1 bt128.2.2.1 bt128.2.2.2 false aa0 aa1 aa2 aa3 aa4 aa5))) else (spec_CmdFault.j0 k bt128.1 bt128.2.1 bt128.2.2.1 bt128.2.2.2 true aa0 aa1 aa2 aa3 aa4 aa5))) else (if bt128.2.2.1 = true then ((spec_l5Number.f k aa0 aa1 aa2 aa3 aa4 aa5).bind fun t160 => (if t160 = true then (if bt128.2.2.2 = true then ((spec_l5Proto.f aa5).bind fun t161 => (spec_CmdFault.j0 k bt128.1 bt128.2.1 bt128.2.2.1 bt128.2.2.2 (!t161) aa0 aa1 aa2 aa3 aa4 aa5)) else (spec_CmdFault.j0 k bt128.1 bt128.2.1 bt128.2.2.1 bt128.2.2.2 false aa0 aa1 aa2 aa3 aa4 aa5)) else (spec_CmdFault.j0 k bt128.1 bt128.2.1 bt128.2.2.1 bt128.2.2.2 true aa0 aa1 aa2 aa3 aa4 aa5))) else (if bt128.2.2.2 = true then ((spec_l5Proto.f aa5).bind fun t162 => (spec_CmdFault.j0 k bt128.1 bt128.2.1 bt128.2.2.1 bt128.2.2.2 (!t162) aa0 aa1 aa2 aa3 aa4 aa5)) else (spec_CmdFault.j0 k bt128.1 bt128.2.1 bt128.2.2.1 bt128.2.2.2 false aa0 aa1 aa2 aa3 aa4 aa5))))) else (spec_CmdFault.j0 k bt128.1 bt128.2.1 bt128.2.2.1 bt128.2.2.2 true aa0 aa1 aa2 aa3 aa4 aa5))))) else (some 1))) = some r := h
  clear h
  replace H := Option.bind_eq_some_iff.mp H
  obtain ⟨t127, A20, H⟩ := H
  replace H : (if t127 = true then ((spec_l5Needs.f aa0).bind fun bt128 => (if aa1 = (-1) then (if bt128.1 = true then ((spec_l3Name.f aa2).bind fun t132 => (if t132 = true then (if bt128.2.1 = true then ((spec_l2Address.f aa3).bind fun t133 => (if t133 = true then (if bt128.2.2.1 = true then ((spec_l5Number.f k aa0 aa1 aa2 aa3 aa4 aa5).bind fun t134 => (if t134 = true then (if bt128.2.2.2 = true then ((spec_l5Proto.f aa5).bind fun t135 => (spec_CmdFault.j0 k bt128.1 bt128.2.1 bt128.2.2.1 bt128.2.2.2 (!t135) aa0 aa1 aa2 aa3 aa4 aa5)) else (spec_CmdFault.j0 k bt128.1 bt128.2.1 bt128.2.2.1 bt128.2.2.2 false aa0 aa1 aa2 aa3 aa4 aa5)) else (spec_CmdFault.j0 k bt128.1 bt128.2.1 bt128.2.2.1 bt128.2.2.2 true aa0 aa1 aa2 aa3 aa4 aa5))) else (if bt128.2.2.2 = true then ((spec_l5Proto.f aa5).bind fun t136 => (spec_CmdFault.j0 k bt128.1 bt128.2.1 bt128.2.2.1 bt128.2.2.2 (!t136) aa0 aa1 aa2 aa3 aa4 aa5)) else (spec_CmdFault.j0 k bt128.1 bt128.2.1 bt128.2.2.1 bt128.2.2.2 false aa0 aa1 aa2 aa3 aa4 aa5))) else (spec_CmdFault.j0 k bt128.1 bt128.2.1 bt128.2.2.1 bt128.2.2.2 true aa0 aa1 aa2 aa3 aa4 aa5))) else (if bt128.2.2.1 = true then ((spec_l5Number.f k aa0 aa1 aa2 aa3 aa4 aa5).bind fun t137 => (if t137 = true then (if bt128.2.2.2 = true then ((spec_l5Proto.f aa5).bind fun t138 => (spec_CmdFault.j0 k bt128.1 bt128.2.1 bt128.2.2.1 bt128.2.2.2 (!t138) aa0 aa1 aa2 aa3 aa4 aa5)) else (spec_CmdFault.j0 k bt128.1 bt128.2.1 bt128.2.2.1 bt128.2.2.2 false aa0 aa1 aa2 aa3 aa4 aa5)) else (spec_CmdFault.j0 k bt128.1 bt128.2.1 bt128.2.2.1 bt128.2.2.2 true aa0 aa1 aa2 aa3 aa4 aa5))) else (if bt128.2.2.2 = true then ((spec_l5Proto.f aa5).bind fun t139 => (spec_CmdFault.j0 k bt128.1 bt128.2.1 bt128.2.2.1 bt128.2.2.2 (!t139) aa0 aa1 aa2 aa3 aa4 aa5)) else (spec_CmdFault.j0 k bt128.1 bt128.2.1 bt128.2.2.1 bt128.2.2.2 false aa0 aa1 aa2 aa3 aa4 aa5)))) else (spec_CmdFault.j0 k bt128.1 bt128.2.1 bt128.2.2.1 bt128.2.2.2 true aa0 aa1 aa2 aa3 aa4 aa5))) else (if bt128.2.1 = true then ((spec_l2Address.f aa3).bind fun t140 => (if t140 = true then (if bt128.2.2.1 = true then ((spec_l5Number.f k aa0 aa1 aa2 aa3 aa4 aa5).bind fun t141 => (if t141 = true then (if bt128.2.2.2 = true then ((spec_l5Proto.f aa5).bind fun t142 => (spec_CmdFault.j0 k bt128.1 bt128.2.1 bt128.2.2.1 bt128.2.2.2 (!t142) aa0 aa1 aa2 aa3 aa4 aa5)) else (spec_CmdFault.j0 k bt128.1 bt128.2.1 bt128.2.2.1 bt128.2.2.2 false aa0 aa1 aa2 aa3 aa4 aa5)) else (spec_CmdFault.j0 k bt128.1 bt128.2.1 bt128.2.2.1 bt128.2.2.2 true aa0 aa1 aa2 aa3 aa4 aa5))) else (if bt128.2.2.2 = true then ((spec_l5Proto.f aa5).bind fun t143 => (spec_CmdFault.j0 k bt128.1 bt128.2.1 bt128.2.2.1 bt128.2.2.2 (!t143) aa0 aa1 aa2 aa3 aa4 aa5)) else (spec_CmdFault.j0 k bt128.1 bt128.2.1 bt128.2.2.1 bt128.2.2.2 false aa0 aa1 aa2 aa3 aa4 aa5))) else (spec_CmdFault.j0 k bt128.1 bt128.2.1 bt128.2.2.1 bt128.2.2.2 true aa0 aa1 aa2 aa3 aa4 aa5))) else (if bt128.2.2.1 = true then ((spec_l5Number.f k aa0 aa1 aa2 aa3 aa4 aa5).bind fun t144 => (if t144 = true then (if bt128.2.2.2 = true then ((spec_l5Proto.f aa5).bind fun t145 => (spec_CmdFault.j0 k bt128.1 bt128.2.1 bt128.2.2.1 bt128.2.2.2 (!t145) aa0 aa1 aa2 aa3 aa4 aa5)) else (spec_CmdFault.j0 k bt128.1 bt128.2.1 bt128.2.2.1 bt128.2.2.2 false aa0 aa1 aa2 aa3 aa4 aa5)) else (spec_CmdFault.j0 k bt128.1 bt128.2.1 bt128.2.2.1 bt128.2.2.2 true aa0 aa1 aa2 aa3 aa4 aa5))) else (if bt128.2.2.2 = true then ((spec_l5Proto.f aa5).bind fun t146 => (spec_CmdFault.j0 k bt128.1 bt128.2.1 bt128.2.2.1 bt128.2.2.2 (!t146) aa0 aa1 aa2 aa3 aa4 aa5)) else (spec_CmdFault.j0 k bt128.1 bt128.2.1 bt128.2.2.1 bt128.2.2.2 false aa0 aa1 aa2 aa3 aa4 aa5))))) else ((spec_l5Version.f aa1).bind fun t147 => (if t147 = true then (if bt128.1 = true then ((spec_l3Name.f aa2).bind fun t148 => (if t148 = true then (if bt128.2.1 = true then ((spec_l2Address.f aa3).bind fun t149 => (if t149 = true then (if bt128.2.2.1 = true then ((spec_l5Number.f k aa0 aa1 aa2 aa3 aa4 aa5).bind fun t150 => (if t150 = true then (if bt128.2.2.2 = true then ((spec_l5Proto.f aa5).bind fun t151 => (spec_CmdFault.j0 k bt128.1 bt128.2.1 bt128.2.2.1 bt128.2.2.2 (!t151) aa0 aa1 aa2 aa3 aa4 aa5)) else (spec_CmdFault.j0 k bt128.1 bt128.2.1 bt128.2.2.1 bt128.2.2.2 false aa0 aa1 aa2 aa3 aa4 aa5)) else (spec_CmdFault.j0 k bt128.1 bt128.2.1 bt128.2.2.1 bt128.2.2.2 true aa0 aa1 aa2 aa3 aa4 aa5))) else (if bt128.2.2.2 = true then ((spec_l5Proto.f aa5).bind fun t152 => (spec_CmdFault.j0 k bt128.1 bt128.2.1 bt128.2.2.1 bt128.2.2.2 (!t152) aa0 aa1 aa2 aa3 aa4 aa5)) else (spec_CmdFault.j0 k bt128.1 bt128.2.1 bt128.2.2.1 bt128.2.2.2 false aa0 aa1 aa2 aa3 aa4 aa5))) else (spec_CmdFault.j0 k bt128.1 bt128.2.1 bt128.2.2.1 bt128.2.2.2 true aa0 aa1 aa2 aa3 aa4 aa5))) else (if bt128.2.2.1 = true then ((spec_l5Number.f k aa0 aa1 aa2 aa3 aa4 aa5).bind fun t153 => (if t153 = true then (if bt128.2.2.2 = true then ((spec_l5Proto.f aa5).bind fun t154 => (spec_CmdFault.j0 k bt128.1 bt128.2.1 bt128.2.2.1 bt128.2.2.2 (!t154) aa0 aa1 aa2 aa3 aa4 aa5)) else (spec_CmdFault.j0 k bt128.1 bt128.2.1 bt128.2.2.1 bt128.2.2.2 false aa0 aa1 aa2 aa3 aa4 aa5)) else (spec_CmdFault.j0 k bt128.1 bt128.2.1 bt128.2.2.1 bt128.2.2.2 true aa0 aa1 aa2 aa3 aa4 aa5))) else (if bt128.2.2.2 = true then ((spec_l5Proto.f aa5).bind fun t155 => (spec_CmdFault.j0 k bt128.1 bt128.2.1 bt128.2.2.1 bt128.2.2.2 (!t155) aa0 aa1 aa2 aa3 aa4 aa5)) else (spec_CmdFault.j0 k bt128.1 bt128.2.1 bt128.2.2.1 bt128.2.2.2 false aa0 aa1 aa2 aa3 aa4 aa5)))) else (spec_CmdFault.j0 k bt128.1 bt128.2.1 bt128.2.2.1 bt128.2.2.2 true aa0 aa1 aa2 aa3 aa4 aa5))) else (if bt128.2.1 = true then ((spec_l2Address.f aa3).bind fun t156 => (if t156 = true then (if bt128.2.2.1 = true then ((spec_l5Number.f k aa0 aa1 aa2 aa3 aa4 aa5).bind fun t157 => (if t157 = true then (if bt128.2.2.2 = true then ((spec_l5Proto.f aa5).bind fun t158 => (spec_CmdFault.j0 k bt128.1 bt128.2.1 bt128.2.2.1 bt128.2.2.2 (!t158) aa0 aa1 aa2 aa3 aa4 aa5)) else (spec_CmdFault.j0 k bt128.1 bt128.2.1 bt128.2.2.1 bt128.2.2.2 false aa0 aa1 aa2 aa3 aa4 aa5)) else (spec_CmdFault.j0 k bt128.1 bt128.2.1 bt128.2.2.1 bt128.2.2.2 true aa0 aa1 aa2 aa3 aa4 aa5))) else (if bt128.2.2.2 = true then ((spec_l5Proto.f aa5).bind fun t159 => (spec_CmdFault.j0 k bt128.1 bt128.2.1 bt128.2.2.1 bt128.2.2.2 (!t159) aa0 aa1 aa2 aa3 aa4 aa5)) else (spec_CmdFault.j0 k bt128.1 bt128.2.1 bt128.2.2.1 bt128.2.2.2 false aa0 aa1 aa2 aa3 aa4 aa5))) else (spec_CmdFault.j0 k bt128.1 bt128.2.1 bt128.2.2.1 bt128.2.2.2 true aa0 aa1 aa2 aa3 aa4 aa5))) else (if bt128.2.2.1 = true then ((spec_l5Number.f k aa0 aa1 aa2 aa3 aa4 aa5).bind fun t160 => (if t160 = true then (if bt128.2.2.2 = true then ((spec_l5Proto.f aa5).bind fun t161 => (spec_CmdFault.j0 k bt128.1 bt128.2.1 bt128.2.2.1 bt128.2.2.2 (!t161) aa0 aa1 aa2 aa3 aa4 aa5)) else (spec_CmdFault.j0 k bt128.1 bt128.2.1 bt128.2.2.1 bt128.2.2.2 false aa0 aa1 aa2 aa3 aa4 aa5)) else (spec_CmdFault.j0 k bt128.1 bt128.2.1 bt128.2.2.1 bt128.2.2.2 true aa0 aa1 aa2 aa3 aa4 aa5))) else (if bt128.2.2.2 = true then ((spec_l5Proto.f aa5).bind fun t162 => (spec_CmdFault.j0 k bt128.1 bt128.2.1 bt128.2.2.1 bt128.2.2.2 (!t162) aa0 aa1 aa2 aa3 aa4 aa5)) else (spec_CmdFault.j0 k bt128.1 bt128.2.1 bt128.2.2.1 bt128.2.2.2 false aa0 aa1 aa2 aa3 aa4 aa5))))) else (spec_CmdFault.j0 k bt128.1 bt128.2.1 bt128.2.2.1 bt128.2.2.2 true aa0 aa1 aa2 aa3 aa4 aa5))))) else (some 1)) = some r := H
  have A2 := am A20
  clear A20
  by_cases c3 : t127 = true
  · subst c3
    have H1 : ((spec_l5Needs.f aa0).bind fun bt128 => (if aa1 = (-1) then (if bt128.1 = true then ((spec_l3Name.f aa2).bind fun t132 => (if t132 = true then (if bt128.2.1 = true then ((spec_l2Address.f aa3).bind fun t133 => (if t133 = true then (if bt128.2.2.1 = true then ((spec_l5Number.f k aa0 aa1 aa2 aa3 aa4 aa5).bind fun t134 => (if t134 = true then (if bt128.2.2.2 = true then ((spec_l5Proto.f aa5).bind fun t135 => (spec_CmdFault.j0 k bt128.1 bt128.2.1 bt128.2.2.1 bt128.2.2.2 (!t135) aa0 aa1 aa2 aa3 aa4 aa5)) else (spec_CmdFault.j0 k bt128.1 bt128.2.1 bt128.2.2.1 bt128.2.2.2 false aa0 aa1 aa2 aa3 aa4 aa5)) else (spec_CmdFault.j0 k bt128.1 bt128.2.1 bt128.2.2.1 bt128.2.2.2 true aa0 aa1 aa2 aa3 aa4 aa5))) else (if bt128.2.2.2 = true then ((spec_l5Proto.f aa5).bind fun t136 => (spec_CmdFault.j0 k bt128.1 bt128.2.1 bt128.2.2.1 bt128.2.2.2 (!t136) aa0 aa1 aa2 aa3 aa4 aa5)) else (spec_CmdFault.j0 k bt128.1 bt128.2.1 bt128.2.2.1 bt128.2.2.2 false aa0 aa1 aa2 aa3 aa4 aa5))) else (spec_CmdFault.j0 k bt128.1 bt128.2.1 bt128.2.2.1 bt128.2.2.2 true aa0 aa1 aa2 aa3 aa4 aa5))) else (if bt128.2.2.1 = true then ((spec_l5Number.f k aa0 aa1 aa2 aa3 aa4 aa5).bind fun t137 => (if t137 = true then (if bt128.2.2.2 = true then ((spec_l5Proto.f aa5).bind fun t138 => (spec_CmdFault.j0 k bt128.1 bt128.2.1 bt128.2.2.1 bt128.2.2.2 (!t138) aa0 aa1 aa2 aa3 aa4 aa5)) else (spec_CmdFault.j0 k bt128.1 bt128.2.1 bt128.2.2.1 bt128.2.2.2 false aa0 aa1 aa2 aa3 aa4 aa5)) else (spec_CmdFault.j0 k bt128.1 bt128.2.1 bt128.2.2.1 bt128.2.2.2 true aa0 aa1 aa2 aa3 aa4 aa5))) else (if bt128.2.2.2 = true then ((spec_l5Proto.f aa5).bind fun t139 => (spec_CmdFault.j0 k bt128.1 bt128.2.1 bt128.2.2.1 bt128.2.2.2 (!t139) aa0 aa1 aa2 aa3 aa4 aa5)) else (spec_CmdFault.j0 k bt128.1 bt128.2.1 bt128.2.2.1 bt128.2.2.2 false aa0 aa1 aa2 aa3 aa4 aa5)))) else (spec_CmdFault.j0 k bt128.1 bt128.2.1 bt128.2.2.1 bt128.2.2.2 true aa0 aa1 aa2 aa3 aa4 aa5))) else (if bt128.2.1 = true then ((spec_l2Address.f aa3).bind fun t140 => (if t140 = true then (if bt128.2.2.1 = true then ((spec_l5Number.f k aa0 aa1 aa2 aa3 aa4 aa5).bind fun t141 => (if t141 = true then (if bt128.2.2.2 = true then ((spec_l5Proto.f aa5).bind fun t142 => (spec_CmdFault.j0 k bt128.1 bt128.2.1 bt128.2.2.1 bt128.2.2.2 (!t142) aa0 aa1 aa2 aa3 aa4 aa5)) else (spec_CmdFault.j0 k bt128.1 bt128.2.1 bt128.2.2.1 bt128.2.2.2 false aa0 aa1 aa2 aa3 aa4 aa5)) else (spec_CmdFault.j0 k bt128.1 bt128.2.1 bt128.2.2.1 bt128.2.2.2 true aa0 aa1 aa2 aa3 aa4 aa5))) else (if bt128.2.2.2 = true then ((spec_l5Proto.f aa5).bind fun t143 => (spec_CmdFault.j0 k bt128.1 bt128.2.1 bt128.2.2.1 bt128.2.2.2 (!t143) aa0 aa1 aa2 aa3 aa4 aa5)) else (spec_CmdFault.j0 k bt128.1 bt128.2.1 bt128.2.2.1 bt128.2.2.2 false aa0 aa1 aa2 aa3 aa4 aa5))) else (spec_CmdFault.j0 k bt128.1 bt128.2.1 bt128.2.2.1 bt128.2.2.2 true aa0 aa1 aa2 aa3 aa4 aa5))) else (if bt128.2.2.1 = true then ((spec_l5Number.f k aa0 aa1 aa2 aa3 aa4 aa5).bind fun t144 => (if t144 = true then (if bt128.2.2.2 = true then ((spec_l5Proto.f aa5).bind fun t145 => (spec_CmdFault.j0 k bt128.1 bt128.2.1 bt128.2.2.1 bt128.2.2.2 (!t145) aa0 aa1 aa2 aa3 aa4 aa5)) else (spec_CmdFault.j0 k bt128.1 bt128.2.1 bt128.2.2.1 bt128.2.2.2 false aa0 aa1 aa2 aa3 aa4 aa5)) else (spec_CmdFault.j0 k bt128.1 bt128.2.1 bt128.2.2.1 bt128.2.2.2 true aa0 aa1 aa2 aa3 aa4 aa5))) else (if bt128.2.2.2 = true then ((spec_l5Proto.f aa5).bind fun t146 => (spec_CmdFault.j0 k bt128.1 bt128.2.1 bt128.2.2.1 bt128.2.2.2 (!t146) aa0 aa1 aa2 aa3 aa4 aa5)) else (spec_CmdFault.j0 k bt128.1 bt128.2.1 bt128.2.2.1 bt128.2.2.2 false aa0 aa1 aa2 aa3 aa4 aa5))))) else ((spec_l5Version.f aa1).bind fun t147 => (if t147 = true then (if bt128.1 = true then ((spec_l3Name.f aa2).bind fun t148 => (if t148 = true then (if bt128.2.1 = true then ((spec_l2Address.f aa3).bind fun t149 => (if t149 = true then (if bt128.2.2.1 = true then ((spec_l5Number.f k aa0 aa1 aa2 aa3 aa4 aa5).bind fun t150 => (if t150 = true then (if bt128.2.2.2 = true then ((spec_l5Proto.f aa5).bind fun t151 => (spec_CmdFault.j0 k bt128.1 bt128.2.1 bt128.2.2.1 bt128.2.2.2 (!t151) aa0 aa1 aa2 aa3 aa4 aa5)) else (spec_CmdFault.j0 k bt128.1 bt128.2.1 bt128.2.2.1 bt128.2.2.2 false aa0 aa1 aa2 aa3 aa4 aa5)) else (spec_CmdFault.j0 k bt128.1 bt128.2.1 bt128.2.2.1 bt128.2.2.2 true aa0 aa1 aa2 aa3 aa4 aa5))) else (if bt128.2.2.2 = true then ((spec_l5Proto.f aa5).bind fun t152 => (spec_CmdFault.j0 k bt128.1 bt128.2.1 bt128.2.2.1 bt128.2.2.2 (!t152) aa0 aa1 aa2 aa3 aa4 aa5)) else (spec_CmdFault.j0 k bt128.1 bt128.2.1 bt128.2.2.1 bt128.2.2.2 false aa0 aa1 aa2 aa3 aa4 aa5))) else (spec_CmdFault.j0 k bt128.1 bt128.2.1 bt128.2.2.1 bt128.2.2.2 true aa0 aa1 aa2 aa3 aa4 aa5))) else (if bt128.2.2.1 = true then ((spec_l5Number.f k aa0 aa1 aa2 aa3 aa4 aa5).bind fun t153 => (if t153 = true then (if bt128.2.2.2 = true then ((spec_l5Proto.f aa5).bind fun t154 => (spec_CmdFault.j0 k bt128.1 bt128.2.1 bt128.2.2.1 bt128.2.2.2 (!t154) aa0 aa1 aa2 aa3 aa4 aa5)) else (spec_CmdFault.j0 k bt128.1 bt128.2.1 bt128.2.2.1 bt128.2.2.2 false aa0 aa1 aa2 aa3 aa4 aa5)) else (spec_CmdFault.j0 k bt128.1 bt128.2.1 bt128.2.2.1 bt128.2.2.2 true aa0 aa1 aa2 aa3 aa4 aa5))) else (if bt128.2.2.2 = true then ((spec_l5Proto.f aa5).bind fun t155 => (spec_CmdFault.j0 k bt128.1 bt128.2.1 bt128.2.2.1 bt128.2.2.2 (!t155) aa0 aa1 aa2 aa3 aa4 aa5)) else (spec_CmdFault.j0 k bt128.1 bt128.2.1 bt128.2.2.1 bt128.2.2.2 false aa0 aa1 aa2 aa3 aa4 aa5)))) else (spec_CmdFault.j0 k bt128.1 bt128.2.1 bt128.2.2.1 bt128.2.2.2 true aa0 aa1 aa2 aa3 aa4 aa5))) else (if bt128.2.1 = true then ((spec_l2Address.f aa3).bind fun t156 => (if t156 = true then (if bt128.2.2.1 = true then ((spec_l5Number.f k aa0 aa1 aa2 aa3 aa4 aa5).bind fun t157 => (if t157 = true then (if bt128.2.2.2 = true then ((spec_l5Proto.f aa5).bind fun t158 => (spec_CmdFault.j0 k bt128.1 bt128.2.1 bt128.2.2.1 bt128.2.2.2 (!t158) aa0 aa1 aa2 aa3 aa4 aa5)) else (spec_CmdFault.j0 k bt128.1 bt128.2.1 bt128.2.2.1 bt128.2.2.2 false aa0 aa1 aa2 aa3 aa4 aa5)) else (spec_CmdFault.j0 k bt128.1 bt128.2.1 bt128.2.2.1 bt128.2.2.2 true aa0 aa1 aa2 aa3 aa4 aa5))) else (if bt128.2.2.2 = true then ((spec_l5Proto.f aa5).bind fun t159 => (spec_CmdFault.j0 k bt128.1 bt128.2.1 bt128.2.2.1 bt128.2.2.2 (!t159) aa0 aa1 aa2 aa3 aa4 aa5)) else (spec_CmdFault.j0 k bt128.1 bt128.2.1 bt128.2.2.1 bt128.2.2.2 false aa0 aa1 aa2 aa3 aa4 aa5))) else (spec_CmdFault.j0 k bt128.1 bt128.2.1 bt128.2.2.1 bt128.2.2.2 true aa0 aa1 aa2 aa3 aa4 aa5))) else (if bt128.2.2.1 = true then ((spec_l5Number.f k aa0 aa1 aa2 aa3 aa4 aa5).bind fun t160 => (if t160 = true then (if bt128.2.2.2 = true then ((spec_l5Proto.f aa5).bind fun t161 => (spec_CmdFault.j0 k bt128.1 bt128.2.1 bt128.2.2.1 bt128.2.2.2 (!t161) aa0 aa1 aa2 aa3 aa4 aa5)) else (spec_CmdFault.j0 k bt128.1 bt128.2.1 bt128.2.2.1 bt128.2.2.2 false aa0 aa1 aa2 aa3 aa4 aa5)) else (spec_CmdFault.j0 k bt128.1 bt128.2.1 bt128.2.2.1 bt128.2.2.2 true aa0 aa1 aa2 aa3 aa4 aa5))) else (if bt128.2.2.2 = true then ((spec_l5Proto.f aa5).bind fun t162 => (spec_CmdFault.j0 k bt128.1 bt128.2.1 bt128.2.2.1 bt128.2.2.2 (!t162) aa0 aa1 aa2 aa3 aa4 aa5)) else (spec_CmdFault.j0 k bt128.1 bt128.2.1 bt128.2.2.1 bt128.2.2.2 false aa0 aa1 aa2 aa3 aa4 aa5))))) else (spec_CmdFault.j0 k bt128.1 bt128.2.1 bt128.2.2.1 bt128.2.2.2 true aa0 aa1 aa2 aa3 aa4 aa5))))) = some r := by rw [if_pos rfl] at H; exact H
    clear H
    have H := H1
    clear H1
    replace H := Option.bind_eq_some_iff.mp H
    obtain ⟨⟨t128, t129, t130, t131⟩, A40, H⟩ := H
    replace H : (if aa1 = (-1) then (if t128 = true then ((spec_l3Name.f aa2).bind fun t132 => (if t132 = true then (if t129 = true then ((spec_l2Address.f aa3).bind fun t133 => (if t133 = true then (if t130 = true then ((spec_l5Number.f k aa0 aa1 aa2 aa3 aa4 aa5).bind fun t134 => (if t134 = true then (if t131 = true then ((spec_l5Proto.f aa5).bind fun t135 => (spec_CmdFault.j0 k t128 t129 t130 t131 (!t135) aa0 aa1 aa2 aa3 aa4 aa5)) else (spec_CmdFault.j0 k t128 t129 t130 t131 false aa0 aa1 aa2 aa3 aa4 aa5)) else (spec_CmdFault.j0 k t128 t129 t130 t131 true aa0 aa1 aa2 aa3 aa4 aa5))) else (if t131 = true then ((spec_l5Proto.f aa5).bind fun t136 => (spec_CmdFault.j0 k t128 t129 t130 t131 (!t136) aa0 aa1 aa2 aa3 aa4 aa5)) else (spec_CmdFault.j0 k t128 t129 t130 t131 false aa0 aa1 aa2 aa3 aa4 aa5))) else (spec_CmdFault.j0 k t128 t129 t130 t131 true aa0 aa1 aa2 aa3 aa4 aa5))) else (if t130 = true then ((spec_l5Number.f k aa0 aa1 aa2 aa3 aa4 aa5).bind fun t137 => (if t137 = true then (if t131 = true then ((spec_l5Proto.f aa5).bind fun t138 => (spec_CmdFault.j0 k t128 t129 t130 t131 (!t138) aa0 aa1 aa2 aa3 aa4 aa5)) else (spec_CmdFault.j0 k t128 t129 t130 t131 false aa0 aa1 aa2 aa3 aa4 aa5)) else (spec_CmdFault.j0 k t128 t129 t130 t131 true aa0 aa1 aa2 aa3 aa4 aa5))) else (if t131 = true then ((spec_l5Proto.f aa5).bind fun t139 => (spec_CmdFault.j0 k t128 t129 t130 t131 (!t139) aa0 aa1 aa2 aa3 aa4 aa5)) else (spec_CmdFault.j0 k t128 t129 t130 t131 false aa0 aa1 aa2 aa3 aa4 aa5)))) else (spec_CmdFault.j0 k t128 t129 t130 t131 true aa0 aa1 aa2 aa3 aa4 aa5))) else (if t129 = true then ((spec_l2Address.f aa3).bind fun t140 => (if t140 = true then (if t130 = true then ((spec_l5Number.f k aa0 aa1 aa2 aa3 aa4 aa5).bind fun t141 => (if t141 = true then (if t131 = true then ((spec_l5Proto.f aa5).bind fun t142 => (spec_CmdFault.j0 k t128 t129 t130 t131 (!t142) aa0 aa1 aa2 aa3 aa4 aa5)) else (spec_CmdFault.j0 k t128 t129 t130 t131 false aa0 aa1 aa2 aa3 aa4 aa5)) else (spec_CmdFault.j0 k t128 t129 t130 t131 true aa0 aa1 aa2 aa3 aa4 aa5))) else (if t131 = true then ((spec_l5Proto.f aa5).bind fun t143 => (spec_CmdFault.j0 k t128 t129 t130 t131 (!t143) aa0 aa1 aa2 aa3 aa4 aa5)) else (spec_CmdFault.j0 k t128 t129 t130 t131 false aa0 aa1 aa2 aa3 aa4 aa5))) else (spec_CmdFault.j0 k t128 t129 t130 t131 true aa0 aa1 aa2 aa3 aa4 aa5))) else (if t130 = true then ((spec_l5Number.f k aa0 aa1 aa2 aa3 aa4 aa5).bind fun t144 => (if t144 = true then (if t131 = true then ((spec_l5Proto.f aa5).bind fun t145 => (spec_CmdFault.j0 k t128 t129 t130 t131 (!t145) aa0 aa1 aa2 aa3 aa4 aa5)) else (spec_CmdFault.j0 k t128 t129 t130 t131 false aa0 aa1 aa2 aa3 aa4 aa5)) else (spec_CmdFault.j0 k t128 t129 t130 t131 true aa0 aa1 aa2 aa3 aa4 aa5))) else (if t131 = true then ((spec_l5Proto.f aa5).bind fun t146 => (spec_CmdFault.j0 k t128 t129 t130 t131 (!t146) aa0 aa1 aa2 aa3 aa4 aa5)) else (spec_CmdFault.j0 k t128 t129 t130 t131 false aa0 aa1 aa2 aa3 aa4 aa5))))) else ((spec_l5Version.f aa1).bind fun t147 => (if t147 = true then (if t128 = true then ((spec_l3Name.f aa2).bind fun t148 => (if t148 = true then (if t129 = true then ((spec_l2Address.f aa3).bind fun t149 => (if t149 = true then (if t130 = true then ((spec_l5Number.f k aa0 aa1 aa2 aa3 aa4 aa5).bind fun t150 => (if t150 = true then (if t131 = true then ((spec_l5Proto.f aa5).bind fun t151 => (spec_CmdFault.j0 k t128 t129 t130 t131 (!t151) aa0 aa1 aa2 aa3 aa4 aa5)) else (spec_CmdFault.j0 k t128 t129 t130 t131 false aa0 aa1 aa2 aa3 aa4 aa5)) else (spec_CmdFault.j0 k t128 t129 t130 t131 true aa0 aa1 aa2 aa3 aa4 aa5))) else (if t131 = true then ((spec_l5Proto.f aa5).bind fun t152 => (spec_CmdFault.j0 k t128 t129 t130 t131 (!t152) aa0 aa1 aa2 aa3 aa4 aa5)) else (spec_CmdFault.j0 k t128 t129 t130 t131 false aa0 aa1 aa2 aa3 aa4 aa5))) else (spec_CmdFault.j0 k t128 t129 t130 t131 true aa0 aa1 aa2 aa3 aa4 aa5))) else (if t130 = true then ((spec_l5Number.f k aa0 aa1 aa2 aa3 aa4 aa5).bind fun t153 => (if t153 = true then (if t131 = true then ((spec_l5Proto.f aa5).bind fun t154 => (spec_CmdFault.j0 k t128 t129 t130 t131 (!t154) aa0 aa1 aa2 aa3 aa4 aa5)) else (spec_CmdFault.j0 k t128 t129 t130 t131 false aa0 aa1 aa2 aa3 aa4 aa5)) else (spec_CmdFault.j0 k t128 t129 t130 t131 true aa0 aa1 aa2 aa3 aa4 aa5))) else (if t131 = true then ((spec_l5Proto.f aa5).bind fun t155 => (spec_CmdFault.j0 k t128 t129 t130 t131 (!t155) aa0 aa1 aa2 aa3 aa4 aa5)) else (spec_CmdFault.j0 k t128 t129 t130 t131 false aa0 aa1 aa2 aa3 aa4 aa5)))) else (spec_CmdFault.j0 k t128 t129 t130 t131 true aa0 aa1 aa2 aa3 aa4 aa5))) else (if t129 = true then ((spec_l2Address.f aa3).bind fun t156 => (if t156 = true then (if t130 = true then ((spec_l5Number.f k aa0 aa1 aa2 aa3 aa4 aa5).bind fun t157 => (if t157 = true then (if t131 = true then ((spec_l5Proto.f aa5).bind fun t158 => (spec_CmdFault.j0 k t128 t129 t130 t131 (!t158) aa0 aa1 aa2 aa3 aa4 aa5)) else (spec_CmdFault.j0 k t128 t129 t130 t131 false aa0 aa1 aa2 aa3 aa4 aa5)) else (spec_CmdFault.j0 k t128 t129 t130 t131 true aa0 aa1 aa2 aa3 aa4 aa5))) else (if t131 = true then ((spec_l5Proto.f aa5).bind fun t159 => (spec_CmdFault.j0 k t128 t129 t130 t131 (!t159) aa0 aa1 aa2 aa3 aa4 aa5)) else (spec_CmdFault.j0 k t128 t129 t130 t131 false aa0 aa1 aa2 aa3 aa4 aa5))) else (spec_CmdFault.j0 k t128 t129 t130 t131 true aa0 aa1 aa2 aa3 aa4 aa5))) else (if t130 = true then ((spec_l5Number.f k aa0 aa1 aa2 aa3 aa4 aa5).bind fun t160 => (if t160 = true then (if t131 = true then ((spec_l5Proto.f aa5).bind fun t161 => (spec_CmdFault.j0 k t128 t129 t130 t131 (!t161) aa0 aa1 aa2 aa3 aa4 aa5)) else (spec_CmdFault.j0 k t128 t129 t130 t131 false aa0 aa1 aa2 aa3 aa4 aa5)) else (spec_CmdFault.j0 k t128 t129 t130 t131 true aa0 aa1 aa2 aa3 aa4 aa5))) else (if t131 = true then ((spec_l5Proto.f aa5).bind fun t162 => (spec_CmdFault.j0 k t128 t129 t130 t131 (!t162) aa0 aa1 aa2 aa3 aa4 aa5)) else (spec_CmdFault.j0 k t128 t129 t130 t131 false aa0 aa1 aa2 aa3 aa4 aa5))))) else (spec_CmdFault.j0 k t128 t129 t130 t131 true aa0 aa1 aa2 aa3 aa4 aa5)))) = some r := H
    have A4 := am A40
    clear A40
    have HC5 := am H
    clear H
    go_enter Try.func25, Try.ntmps25
    go_upto_region 4 with (first | ((with_reducible refine gate_dst (N := 1) rfl ?_); refine box_event ?hg (N := 1) ?hd (cs := #[I q aa0, I q aa1, I q aa2, I q aa3, I q aa4, I q aa5]) (t := 42) ?hr ?_; (case hd => rfl); (case hg => rfl); (case hr => first | (go_simp; done) | (go_simp; rfl)); intro g126 hg w6 hbox hb; have N0 := am (bp (by repeat (first | (with_reducible first | exact HB.out | apply pa | apply pN | apply p1) | exact HB.out)) hb); have N1 := am (hbox); have N2 := am ((by rw [hg]; exact (bz (by repeat (first | (with_reducible first | exact HB.out | apply pa | apply pN | apply p1) | exact HB.out))) : w.heap.size ≤ g126)); have N3 := am ((by rw [hg]; exact (bz (by repeat (first | (with_reducible first | exact HB.out | apply pa | apply pN | apply p1) | exact HB.out))) : w.heap.size ≤ g126)); clear HB; have HB := N0; have B126 := N1; have GW126 := N2; have E126 := N3; clear N0 N1 N2 N3 hb hbox hg; have hcz7_0 : w6.cell? ⟨g126, 0, none⟩ = some (I q aa0) := (bc B126.out 0).trans rfl; have hcz7_1 : w6.cell? ⟨g126, 1, none⟩ = some (I q aa1) := (bc B126.out 1).trans rfl; have hcz7_2 : w6.cell? ⟨g126, 2, none⟩ = some (I q aa2) := (bc B126.out 2).trans rfl; have hcz7_3 : w6.cell? ⟨g126, 3, none⟩ = some (I q aa3) := (bc B126.out 3).trans rfl; have hcz7_4 : w6.cell? ⟨g126, 4, none⟩ = some (I q aa4) := (bc B126.out 4).trans rfl; have hcz7_5 : w6.cell? ⟨g126, 5, none⟩ = some (I q aa5) := (bc B126.out 5).trans rfl; have hfz7_0 := bf B126.out 0; have hfz7_1 := bf B126.out 1; have hfz7_2 := bf B126.out 2; have hfz7_3 := bf B126.out 3; have hfz7_4 := bf B126.out 4; have hfz7_5 := bf B126.out 5) | ((with_reducible refine gate_callee (f := 66) rfl ?_); refine goesL_ (some 9) rfl rfl Try.func66 (by kernel_rfl) rfl #[I q aa0, I q 1, I q 9] rfl (by (try simp only [List.map_toArray, List.map_cons, List.map_nil]); first | done | rfl) ?_; (with_reducible refine (spec_l1In.calls aa0 1 9 true _ A2.out).mono ?_); rintro e w' ⟨rfl, ⟨nd, rfl⟩⟩; refine ⟨_, rfl, ?_⟩) | ((with_reducible refine gate_callee (f := 70) rfl ?_); refine goesL_ (some 14) rfl rfl Try.func70 (by kernel_rfl) rfl #[I q aa0] rfl (by (try simp only [List.map_toArray, List.map_cons, List.map_nil]); first | done | rfl) ?_; (with_reducible refine (spec_l5Needs.calls aa0 t128 t129 t130 t131 _ A4.out).mono ?_); rintro e w' ⟨rfl, ⟨nd, rfl⟩⟩; refine ⟨_, rfl, ?_⟩))
    (try simp only [Act.put, List.setIfInBounds_toArray, List.set_cons_zero, List.set_cons_succ])
    go_cut [62] (fun v62 wc => ∃ (kq : Nat) (x62_4 : Bool), v62 = .bool x62_4 ∧ Aside0 (spec_CmdFault.j0 kq t128 t129 t130 t131 x62_4 aa0 aa1 aa2 aa3 aa4 aa5 = some r) ∧ Aside0 (kq ≤ k) ∧ Aside0 (wc.heap[g126]? = some (.cells #[I q aa0, I q aa1, I q aa2, I q aa3, I q aa4, I q aa5] 42 (0, 0))) ∧ Aside0 (Below w.heap.size w wc))
    case first =>
      have H := HC5.out
      clear HC5
      by_cases c8 : aa1 = (-1)
      · rw [if_pos c8] at H
        have c8b0 : (aa1 == (-1)) = true := beq_iff_eq.mpr c8
        have c8b1 : (aa1 != (-1)) = false := bne_eq_false_iff_eq.mpr c8
        clear c8
        (first | rw [c8b0] | (simp only [i64_w, i32_w]; rw [c8b0]) | skip)
        by_cases c9 : t128 = true
        · subst c9
          have H1 : ((spec_l3Name.f aa2).bind fun t132 => (if t132 = true then (if t129 = true then ((spec_l2Address.f aa3).bind fun t133 => (if t133 = true then (if t130 = true then ((spec_l5Number.f k aa0 aa1 aa2 aa3 aa4 aa5).bind fun t134 => (if t134 = true then (if t131 = true then ((spec_l5Proto.f aa5).bind fun t135 => (spec_CmdFault.j0 k true t129 t130 t131 (!t135) aa0 aa1 aa2 aa3 aa4 aa5)) else (spec_CmdFault.j0 k true t129 t130 t131 false aa0 aa1 aa2 aa3 aa4 aa5)) else (spec_CmdFault.j0 k true t129 t130 t131 true aa0 aa1 aa2 aa3 aa4 aa5))) else (if t131 = true then ((spec_l5Proto.f aa5).bind fun t136 => (spec_CmdFault.j0 k true t129 t130 t131 (!t136) aa0 aa1 aa2 aa3 aa4 aa5)) else (spec_CmdFault.j0 k true t129 t130 t131 false aa0 aa1 aa2 aa3 aa4 aa5))) else (spec_CmdFault.j0 k true t129 t130 t131 true aa0 aa1 aa2 aa3 aa4 aa5))) else (if t130 = true then ((spec_l5Number.f k aa0 aa1 aa2 aa3 aa4 aa5).bind fun t137 => (if t137 = true then (if t131 = true then ((spec_l5Proto.f aa5).bind fun t138 => (spec_CmdFault.j0 k true t129 t130 t131 (!t138) aa0 aa1 aa2 aa3 aa4 aa5)) else (spec_CmdFault.j0 k true t129 t130 t131 false aa0 aa1 aa2 aa3 aa4 aa5)) else (spec_CmdFault.j0 k true t129 t130 t131 true aa0 aa1 aa2 aa3 aa4 aa5))) else (if t131 = true then ((spec_l5Proto.f aa5).bind fun t139 => (spec_CmdFault.j0 k true t129 t130 t131 (!t139) aa0 aa1 aa2 aa3 aa4 aa5)) else (spec_CmdFault.j0 k true t129 t130 t131 false aa0 aa1 aa2 aa3 aa4 aa5)))) else (spec_CmdFault.j0 k true t129 t130 t131 true aa0 aa1 aa2 aa3 aa4 aa5))) = some r := by rw [if_pos rfl] at H; exact H
          clear H
          have H := H1
          clear H1
          replace H := Option.bind_eq_some_iff.mp H
          obtain ⟨t132, A100, H⟩ := H
          replace H : (if t132 = true then (if t129 = true then ((spec_l2Address.f aa3).bind fun t133 => (if t133 = true then (if t130 = true then ((spec_l5Number.f k aa0 aa1 aa2 aa3 aa4 aa5).bind fun t134 => (if t134 = true then (if t131 = true then ((spec_l5Proto.f aa5).bind fun t135 => (spec_CmdFault.j0 k true t129 t130 t131 (!t135) aa0 aa1 aa2 aa3 aa4 aa5)) else (spec_CmdFault.j0 k true t129 t130 t131 false aa0 aa1 aa2 aa3 aa4 aa5)) else (spec_CmdFault.j0 k true t129 t130 t131 true aa0 aa1 aa2 aa3 aa4 aa5))) else (if t131 = true then ((spec_l5Proto.f aa5).bind fun t136 => (spec_CmdFault.j0 k true t129 t130 t131 (!t136) aa0 aa1 aa2 aa3 aa4 aa5)) else (spec_CmdFault.j0 k true t129 t130 t131 false aa0 aa1 aa2 aa3 aa4 aa5))) else (spec_CmdFault.j0 k true t129 t130 t131 true aa0 aa1 aa2 aa3 aa4 aa5))) else (if t130 = true then ((spec_l5Number.f k aa0 aa1 aa2 aa3 aa4 aa5).bind fun t137 => (if t137 = true then (if t131 = true then ((spec_l5Proto.f aa5).bind fun t138 => (spec_CmdFault.j0 k true t129 t130 t131 (!t138) aa0 aa1 aa2 aa3 aa4 aa5)) else (spec_CmdFault.j0 k true t129 t130 t131 false aa0 aa1 aa2 aa3 aa4 aa5)) else (spec_CmdFault.j0 k true t129 t130 t131 true aa0 aa1 aa2 aa3 aa4 aa5))) else (if t131 = true then ((spec_l5Proto.f aa5).bind fun t139 => (spec_CmdFault.j0 k true t129 t130 t131 (!t139) aa0 aa1 aa2 aa3 aa4 aa5)) else (spec_CmdFault.j0 k true t129 t130 t131 false aa0 aa1 aa2 aa3 aa4 aa5)))) else (spec_CmdFault.j0 k true t129 t130 t131 true aa0 aa1 aa2 aa3 aa4 aa5)) = some r := H
          have A10 := am A100
          clear A100
          by_cases c11 : t132 = true
          · subst c11
            have H1 : (if t129 = true then ((spec_l2Address.f aa3).bind fun t133 => (if t133 = true then (if t130 = true then ((spec_l5Number.f k aa0 aa1 aa2 aa3 aa4 aa5).bind fun t134 => (if t134 = true then (if t131 = true then ((spec_l5Proto.f aa5).bind fun t135 => (spec_CmdFault.j0 k true t129 t130 t131 (!t135) aa0 aa1 aa2 aa3 aa4 aa5)) else (spec_CmdFault.j0 k true t129 t130 t131 false aa0 aa1 aa2 aa3 aa4 aa5)) else (spec_CmdFault.j0 k true t129 t130 t131 true aa0 aa1 aa2 aa3 aa4 aa5))) else (if t131 = true then ((spec_l5Proto.f aa5).bind fun t136 => (spec_CmdFault.j0 k true t129 t130 t131 (!t136) aa0 aa1 aa2 aa3 aa4 aa5)) else (spec_CmdFault.j0 k true t129 t130 t131 false aa0 aa1 aa2 aa3 aa4 aa5))) else (spec_CmdFault.j0 k true t129 t130 t131 true aa0 aa1 aa2 aa3 aa4 aa5))) else (if t130 = true then ((spec_l5Number.f k aa0 aa1 aa2 aa3 aa4 aa5).bind fun t137 => (if t137 = true then (if t131 = true then ((spec_l5Proto.f aa5).bind fun t138 => (spec_CmdFault.j0 k true t129 t130 t131 (!t138) aa0 aa1 aa2 aa3 aa4 aa5)) else (spec_CmdFault.j0 k true t129 t130 t131 false aa0 aa1 aa2 aa3 aa4 aa5)) else (spec_CmdFault.j0 k true t129 t130 t131 true aa0 aa1 aa2 aa3 aa4 aa5))) else (if t131 = true then ((spec_l5Proto.f aa5).bind fun t139 => (spec_CmdFault.j0 k true t129 t130 t131 (!t139) aa0 aa1 aa2 aa3 aa4 aa5)) else (spec_CmdFault.j0 k true t129 t130 t131 false aa0 aa1 aa2 aa3 aa4 aa5)))) = some r := by rw [if_pos rfl] at H; exact H
            clear H
            have H := H1
            clear H1
            by_cases c12 : t129 = true
            · subst c12
              have H1 : ((spec_l2Address.f aa3).bind fun t133 => (if t133 = true then (if t130 = true then ((spec_l5Number.f k aa0 aa1 aa2 aa3 aa4 aa5).bind fun t134 => (if t134 = true then (if t131 = true then ((spec_l5Proto.f aa5).bind fun t135 => (spec_CmdFault.j0 k true true t130 t131 (!t135) aa0 aa1 aa2 aa3 aa4 aa5)) else (spec_CmdFault.j0 k true true t130 t131 false aa0 aa1 aa2 aa3 aa4 aa5)) else (spec_CmdFault.j0 k true true t130 t131 true aa0 aa1 aa2 aa3 aa4 aa5))) else (if t131 = true then ((spec_l5Proto.f aa5).bind fun t136 => (spec_CmdFault.j0 k true true t130 t131 (!t136) aa0 aa1 aa2 aa3 aa4 aa5)) else (spec_CmdFault.j0 k true true t130 t131 false aa0 aa1 aa2 aa3 aa4 aa5))) else (spec_CmdFault.j0 k true true t130 t131 true aa0 aa1 aa2 aa3 aa4 aa5))) = some r := by rw [if_pos rfl] at H; exact H
              clear H
              have H := H1
              clear H1
              replace H := Option.bind_eq_some_iff.mp H
              obtain ⟨t133, A130, H⟩ := H
              replace H : (if t133 = true then (if t130 = true then ((spec_l5Number.f k aa0 aa1 aa2 aa3 aa4 aa5).bind fun t134 => (if t134 = true then (if t131 = true then ((spec_l5Proto.f aa5).bind fun t135 => (spec_CmdFault.j0 k true true t130 t131 (!t135) aa0 aa1 aa2 aa3 aa4 aa5)) else (spec_CmdFault.j0 k true true t130 t131 false aa0 aa1 aa2 aa3 aa4 aa5)) else (spec_CmdFault.j0 k true true t130 t131 true aa0 aa1 aa2 aa3 aa4 aa5))) else (if t131 = true then ((spec_l5Proto.f aa5).bind fun t136 => (spec_CmdFault.j0 k true true t130 t131 (!t136) aa0 aa1 aa2 aa3 aa4 aa5)) else (spec_CmdFault.j0 k true true t130 t131 false aa0 aa1 aa2 aa3 aa4 aa5))) else (spec_CmdFault.j0 k true true t130 t131 true aa0 aa1 aa2 aa3 aa4 aa5)) = some r := H
              have A13 := am A130
              clear A130
              by_cases c14 : t133 = true
              · subst c14
                have H1 : (if t130 = true then ((spec_l5Number.f k aa0 aa1 aa2 aa3 aa4 aa5).bind fun t134 => (if t134 = true then (if t131 = true then ((spec_l5Proto.f aa5).bind fun t135 => (spec_CmdFault.j0 k true true t130 t131 (!t135) aa0 aa1 aa2 aa3 aa4 aa5)) else (spec_CmdFault.j0 k true true t130 t131 false aa0 aa1 aa2 aa3 aa4 aa5)) else (spec_CmdFault.j0 k true true t130 t131 true aa0 aa1 aa2 aa3 aa4 aa5))) else (if t131 = true then ((spec_l5Proto.f aa5).bind fun t136 => (spec_CmdFault.j0 k true true t130 t131 (!t136) aa0 aa1 aa2 aa3 aa4 aa5)) else (spec_CmdFault.j0 k true true t130 t131 false aa0 aa1 aa2 aa3 aa4 aa5))) = some r := by rw [if_pos rfl] at H; exact H
                clear H
                have H := H1
                clear H1
                by_cases c15 : t130 = true
                · subst c15
                  have H1 : ((spec_l5Number.f k aa0 aa1 aa2 aa3 aa4 aa5).bind fun t134 => (if t134 = true then (if t131 = true then ((spec_l5Proto.f aa5).bind fun t135 => (spec_CmdFault.j0 k true true true t131 (!t135) aa0 aa1 aa2 aa3 aa4 aa5)) else (spec_CmdFault.j0 k true true true t131 false aa0 aa1 aa2 aa3 aa4 aa5)) else (spec_CmdFault.j0 k true true true t131 true aa0 aa1 aa2 aa3 aa4 aa5))) = some r := by rw [if_pos rfl] at H; exact H
                  clear H
                  have H := H1
                  clear H1
                  replace H := Option.bind_eq_some_iff.mp H
                  obtain ⟨t134, A160, H⟩ := H
                  replace H : (if t134 = true then (if t131 = true then ((spec_l5Proto.f aa5).bind fun t135 => (spec_CmdFault.j0 k true true true t131 (!t135) aa0 aa1 aa2 aa3 aa4 aa5)) else (spec_CmdFault.j0 k true true true t131 false aa0 aa1 aa2 aa3 aa4 aa5)) else (spec_CmdFault.j0 k true true true t131 true aa0 aa1 aa2 aa3 aa4 aa5)) = some r := H
                  have A16 := am A160
                  clear A160
                  by_cases c17 : t134 = true
                  · subst c17
                    have H1 : (if t131 = true then ((spec_l5Proto.f aa5).bind fun t135 => (spec_CmdFault.j0 k true true true t131 (!t135) aa0 aa1 aa2 aa3 aa4 aa5)) else (spec_CmdFault.j0 k true true true t131 false aa0 aa1 aa2 aa3 aa4 aa5)) = some r := by rw [if_pos rfl] at H; exact H
                    clear H
                    have H := H1
                    clear H1
                    by_cases c18 : t131 = true
                    · subst c18
                      have H1 : ((spec_l5Proto.f aa5).bind fun t135 => (spec_CmdFault.j0 k true true true true (!t135) aa0 aa1 aa2 aa3 aa4 aa5)) = some r := by rw [if_pos rfl] at H; exact H
                      clear H
                      have H := H1
                      clear H1
                      replace H := Option.bind_eq_some_iff.mp H
                      obtain ⟨t135, A190, H⟩ := H
                      replace H : (spec_CmdFault.j0 k true true true true (!t135) aa0 aa1 aa2 aa3 aa4 aa5) = some r := H
                      have A19 := am A190
                      clear A190
                      have H' := am H
                      clear H
                      have hcz20_0 : w6.cell? ⟨g126, 0, none⟩ = some (I q aa0) := (bc B126.out 0).trans rfl
                      have hcz20_1 : w6.cell? ⟨g126, 1, none⟩ = some (I q aa1) := (bc B126.out 1).trans rfl
                      have hcz20_2 : w6.cell? ⟨g126, 2, none⟩ = some (I q aa2) := (bc B126.out 2).trans rfl
                      have hcz20_3 : w6.cell? ⟨g126, 3, none⟩ = some (I q aa3) := (bc B126.out 3).trans rfl
                      have hcz20_4 : w6.cell? ⟨g126, 4, none⟩ = some (I q aa4) := (bc B126.out 4).trans rfl
                      have hcz20_5 : w6.cell? ⟨g126, 5, none⟩ = some (I q aa5) := (bc B126.out 5).trans rfl
                      have hfz20_0 := bf B126.out 0
                      have hfz20_1 := bf B126.out 1
                      have hfz20_2 := bf B126.out 2
                      have hfz20_3 := bf B126.out 3
                      have hfz20_4 := bf B126.out 4
                      have hfz20_5 := bf B126.out 5
                      go_wp2_with (first | (go_at_call 72; (with_reducible refine (spec_l3Name.calls aa2 true _ A10.out).mono ?_); rintro e w' ⟨rfl, ⟨nd, rfl⟩⟩) | (go_at_call 73; (with_reducible refine (spec_l2Address.calls aa3 true _ A13.out).mono ?_); rintro e w' ⟨rfl, ⟨nd, rfl⟩⟩) | (go_at_call 74; (with_reducible refine (spec_l5Number.calls k aa0 aa1 aa2 aa3 aa4 aa5 true _ A16.out).mono ?_); rintro e w21 ⟨rfl, hb⟩; have N0 := am (bb (g := g126) (by (with_reducible repeat (first | apply bN | apply bd | apply ba)); exact B126.out) hb); have N1 := am (bp (by repeat (first | (with_reducible first | exact HB.out | apply pa | apply pN | apply p1 | refine bs ?_ E126.out) | exact HB.out)) hb); clear B126 HB; have B126 := N0; have HB := N1; clear N0 N1; (try clear hb); (try clear hb2); (try clear hk); (try clear hi); have hcz22_0 : w21.cell? ⟨g126, 0, none⟩ = some (I q aa0) := (bc B126.out 0).trans rfl; have hcz22_1 : w21.cell? ⟨g126, 1, none⟩ = some (I q aa1) := (bc B126.out 1).trans rfl; have hcz22_2 : w21.cell? ⟨g126, 2, none⟩ = some (I q aa2) := (bc B126.out 2).trans rfl; have hcz22_3 : w21.cell? ⟨g126, 3, none⟩ = some (I q aa3) := (bc B126.out 3).trans rfl; have hcz22_4 : w21.cell? ⟨g126, 4, none⟩ = some (I q aa4) := (bc B126.out 4).trans rfl; have hcz22_5 : w21.cell? ⟨g126, 5, none⟩ = some (I q aa5) := (bc B126.out 5).trans rfl; have hfz22_0 := bf B126.out 0; have hfz22_1 := bf B126.out 1; have hfz22_2 := bf B126.out 2; have hfz22_3 := bf B126.out 3; have hfz22_4 := bf B126.out 4; have hfz22_5 := bf B126.out 5) | (go_at_call 75; (with_reducible refine (spec_l5Proto.calls aa5 t135 _ A19.out).mono ?_); rintro e w' ⟨rfl, ⟨nd, rfl⟩⟩))
                      go_meet
                      case rel => exact ⟨_, (!t135), (by first | rfl | (simp; done) | (simp [*]; done)), H', ⟨by first | omega | exact Nat.le_refl _⟩, ⟨by (with_reducible repeat (first | apply bN | apply bd | apply ba)); exact B126.out⟩, ⟨by repeat (first | (with_reducible first | exact HB.out | apply pa | apply pN | apply p1 | refine bs ?_ E126.out) | exact HB.out)⟩⟩
                    · replace c18 := Bool.eq_false_iff.mpr c18
                      subst c18
                      have H1 : (spec_CmdFault.j0 k true true true false false aa0 aa1 aa2 aa3 aa4 aa5) = some r := by rw [if_neg (show ¬ (false = true) by decide)] at H; exact H
                      clear H
                      have H := H1
                      clear H1
                      have H' := am H
                      clear H
                      have hcz23_0 : w6.cell? ⟨g126, 0, none⟩ = some (I q aa0) := (bc B126.out 0).trans rfl
                      have hcz23_1 : w6.cell? ⟨g126, 1, none⟩ = some (I q aa1) := (bc B126.out 1).trans rfl
                      have hcz23_2 : w6.cell? ⟨g126, 2, none⟩ = some (I q aa2) := (bc B126.out 2).trans rfl
                      have hcz23_3 : w6.cell? ⟨g126, 3, none⟩ = some (I q aa3) := (bc B126.out 3).trans rfl
                      have hcz23_4 : w6.cell? ⟨g126, 4, none⟩ = some (I q aa4) := (bc B126.out 4).trans rfl
                      have hcz23_5 : w6.cell? ⟨g126, 5, none⟩ = some (I q aa5) := (bc B126.out 5).trans rfl
                      have hfz23_0 := bf B126.out 0
                      have hfz23_1 := bf B126.out 1
                      have hfz23_2 := bf B126.out 2
                      have hfz23_3 := bf B126.out 3
                      have hfz23_4 := bf B126.out 4
                      have hfz23_5 := bf B126.out 5
                      go_wp2_with (first | (go_at_call 72; (with_reducible refine (spec_l3Name.calls aa2 true _ A10.out).mono ?_); rintro e w' ⟨rfl, ⟨nd, rfl⟩⟩) | (go_at_call 73; (with_reducible refine (spec_l2Address.calls aa3 true _ A13.out).mono ?_); rintro e w' ⟨rfl, ⟨nd, rfl⟩⟩) | (go_at_call 74; (with_reducible refine (spec_l5Number.calls k aa0 aa1 aa2 aa3 aa4 aa5 true _ A16.out).mono ?_); rintro e w24 ⟨rfl, hb⟩; have N0 := am (bb (g := g126) (by (with_reducible repeat (first | apply bN | apply bd | apply ba)); exact B126.out) hb); have N1 := am (bp (by repeat (first | (with_reducible first | exact HB.out | apply pa | apply pN | apply p1 | refine bs ?_ E126.out) | exact HB.out)) hb); clear B126 HB; have B126 := N0; have HB := N1; clear N0 N1; (try clear hb); (try clear hb2); (try clear hk); (try clear hi)))
                      go_meet
                      case rel => exact ⟨_, (false), (by first | rfl | (simp; done) | (simp [*]; done)), H', ⟨by first | omega | exact Nat.le_refl _⟩, ⟨by (with_reducible repeat (first | apply bN | apply bd | apply ba)); exact B126.out⟩, ⟨by repeat (first | (with_reducible first | exact HB.out | apply pa | apply pN | apply p1 | refine bs ?_ E126.out) | exact HB.out)⟩⟩
                  · replace c17 := Bool.eq_false_iff.mpr c17
                    subst c17
                    have H1 : (spec_CmdFault.j0 k true true true t131 true aa0 aa1 aa2 aa3 aa4 aa5) = some r := by rw [if_neg (show ¬ (false = true) by decide)] at H; exact H
                    clear H
                    have H := H1
                    clear H1
                    have H' := am H
                    clear H
                    have hcz25_0 : w6.cell? ⟨g126, 0, none⟩ = some (I q aa0) := (bc B126.out 0).trans rfl
                    have hcz25_1 : w6.cell? ⟨g126, 1, none⟩ = some (I q aa1) := (bc B126.out 1).trans rfl
                    have hcz25_2 : w6.cell? ⟨g126, 2, none⟩ = some (I q aa2) := (bc B126.out 2).trans rfl
                    have hcz25_3 : w6.cell? ⟨g126, 3, none⟩ = some (I q aa3) := (bc B126.out 3).trans rfl
                    have hcz25_4 : w6.cell? ⟨g126, 4, none⟩ = some (I q aa4) := (bc B126.out 4).trans rfl
                    have hcz25_5 : w6.cell? ⟨g126, 5, none⟩ = some (I q aa5) := (bc B126.out 5).trans rfl
                    have hfz25_0 := bf B126.out 0
                    have hfz25_1 := bf B126.out 1
                    have hfz25_2 := bf B126.out 2
                    have hfz25_3 := bf B126.out 3
                    have hfz25_4 := bf B126.out 4
                    have hfz25_5 := bf B126.out 5
                    go_wp2_with (first | (go_at_call 72; (with_reducible refine (spec_l3Name.calls aa2 true _ A10.out).mono ?_); rintro e w' ⟨rfl, ⟨nd, rfl⟩⟩) | (go_at_call 73; (with_reducible refine (spec_l2Address.calls aa3 true _ A13.out).mono ?_); rintro e w' ⟨rfl, ⟨nd, rfl⟩⟩) | (go_at_call 74; (with_reducible refine (spec_l5Number.calls k aa0 aa1 aa2 aa3 aa4 aa5 false _ A16.out).mono ?_); rintro e w26 ⟨rfl, hb⟩; have N0 := am (bb (g := g126) (by (with_reducible repeat (first | apply bN | apply bd | apply ba)); exact B126.out) hb); have N1 := am (bp (by repeat (first | (with_reducible first | exact HB.out | apply pa | apply pN | apply p1 | refine bs ?_ E126.out) | exact HB.out)) hb); clear B126 HB; have B126 := N0; have HB := N1; clear N0 N1; (try clear hb); (try clear hb2); (try clear hk); (try clear hi)))
                    go_meet
                    case rel => exact ⟨_, (true), (by first | rfl | (simp; done) | (simp [*]; done)), H', ⟨by first | omega | exact Nat.le_refl _⟩, ⟨by (with_reducible repeat (first | apply bN | apply bd | apply ba)); exact B126.out⟩, ⟨by repeat (first | (with_reducible first | exact HB.out | apply pa | apply pN | apply p1 | refine bs ?_ E126.out) | exact HB.out)⟩⟩
                · replace c15 := Bool.eq_false_iff.mpr c15
                  subst c15
                  have H1 : (if t131 = true then ((spec_l5Proto.f aa5).bind fun t136 => (spec_CmdFault.j0 k true true false t131 (!t136) aa0 aa1 aa2 aa3 aa4 aa5)) else (spec_CmdFault.j0 k true true false t131 false aa0 aa1 aa2 aa3 aa4 aa5)) = some r := by rw [if_neg (show ¬ (false = true) by decide)] at H; exact H
                  clear H
                  have H := H1
                  clear H1
                  by_cases c27 : t131 = true
                  · subst c27
                    have H1 : ((spec_l5Proto.f aa5).bind fun t136 => (spec_CmdFault.j0 k true true false true (!t136) aa0 aa1 aa2 aa3 aa4 aa5)) = some r := by rw [if_pos rfl] at H; exact H
                    clear H
                    have H := H1
                    clear H1
                    replace H := Option.bind_eq_some_iff.mp H
                    obtain ⟨t136, A280, H⟩ := H
                    replace H : (spec_CmdFault.j0 k true true false true (!t136) aa0 aa1 aa2 aa3 aa4 aa5) = some r := H
                    have A28 := am A280
                    clear A280
                    have H' := am H
                    clear H
                    have hcz29_0 : w6.cell? ⟨g126, 0, none⟩ = some (I q aa0) := (bc B126.out 0).trans rfl
                    have hcz29_1 : w6.cell? ⟨g126, 1, none⟩ = some (I q aa1) := (bc B126.out 1).trans rfl
                    have hcz29_2 : w6.cell? ⟨g126, 2, none⟩ = some (I q aa2) := (bc B126.out 2).trans rfl
                    have hcz29_3 : w6.cell? ⟨g126, 3, none⟩ = some (I q aa3) := (bc B126.out 3).trans rfl
                    have hcz29_4 : w6.cell? ⟨g126, 4, none⟩ = some (I q aa4) := (bc B126.out 4).trans rfl
                    have hcz29_5 : w6.cell? ⟨g126, 5, none⟩ = some (I q aa5) := (bc B126.out 5).trans rfl
                    have hfz29_0 := bf B126.out 0
                    have hfz29_1 := bf B126.out 1
                    have hfz29_2 := bf B126.out 2
                    have hfz29_3 := bf B126.out 3
                    have hfz29_4 := bf B126.out 4
                    have hfz29_5 := bf B126.out 5
                    go_wp2_with (first | (go_at_call 72; (with_reducible refine (spec_l3Name.calls aa2 true _ A10.out).mono ?_); rintro e w' ⟨rfl, ⟨nd, rfl⟩⟩) | (go_at_call 73; (with_reducible refine (spec_l2Address.calls aa3 true _ A13.out).mono ?_); rintro e w' ⟨rfl, ⟨nd, rfl⟩⟩) | (go_at_call 75; (with_reducible refine (spec_l5Proto.calls aa5 t136 _ A28.out).mono ?_); rintro e w' ⟨rfl, ⟨nd, rfl⟩⟩))
                    go_meet
                    case rel => exact ⟨_, (!t136), (by first | rfl | (simp; done) | (simp [*]; done)), H', ⟨by first | omega | exact Nat.le_refl _⟩, ⟨by (with_reducible repeat (first | apply bN | apply bd | apply ba)); exact B126.out⟩, ⟨by repeat (first | (with_reducible first | exact HB.out | apply pa | apply pN | apply p1 | refine bs ?_ E126.out) | exact HB.out)⟩⟩
                  · replace c27 := Bool.eq_false_iff.mpr c27
                    subst c27
                    have H1 : (spec_CmdFault.j0 k true true false false false aa0 aa1 aa2 aa3 aa4 aa5) = some r := by rw [if_neg (show ¬ (false = true) by decide)] at H; exact H
                    clear H
                    have H := H1
                    clear H1
                    have H' := am H
                    clear H
                    have hcz30_0 : w6.cell? ⟨g126, 0, none⟩ = some (I q aa0) := (bc B126.out 0).trans rfl
                    have hcz30_1 : w6.cell? ⟨g126, 1, none⟩ = some (I q aa1) := (bc B126.out 1).trans rfl
                    have hcz30_2 : w6.cell? ⟨g126, 2, none⟩ = some (I q aa2) := (bc B126.out 2).trans rfl
                    have hcz30_3 : w6.cell? ⟨g126, 3, none⟩ = some (I q aa3) := (bc B126.out 3).trans rfl
                    have hcz30_4 : w6.cell? ⟨g126, 4, none⟩ = some (I q aa4) := (bc B126.out 4).trans rfl
                    have hcz30_5 : w6.cell? ⟨g126, 5, none⟩ = some (I q aa5) := (bc B126.out 5).trans rfl
                    have hfz30_0 := bf B126.out 0
                    have hfz30_1 := bf B126.out 1
                    have hfz30_2 := bf B126.out 2
                    have hfz30_3 := bf B126.out 3
                    have hfz30_4 := bf B126.out 4
                    have hfz30_5 := bf B126.out 5
                    go_wp2_with (first | (go_at_call 72; (with_reducible refine (spec_l3Name.calls aa2 true _ A10.out).mono ?_); rintro e w' ⟨rfl, ⟨nd, rfl⟩⟩) | (go_at_call 73; (with_reducible refine (spec_l2Address.calls aa3 true _ A13.out).mono ?_); rintro e w' ⟨rfl, ⟨nd, rfl⟩⟩))
                    go_meet
                    case rel => exact ⟨_, (false), (by first | rfl | (simp; done) | (simp [*]; done)), H', ⟨by first | omega | exact Nat.le_refl _⟩, ⟨by (with_reducible repeat (first | apply bN | apply bd | apply ba)); exact B126.out⟩, ⟨by repeat (first | (with_reducible first | exact HB.out | apply pa | apply pN | apply p1 | refine bs ?_ E126.out) | exact HB.out)⟩⟩
              · replace c14 := Bool.eq_false_iff.mpr c14
                subst c14
                have H1 : (spec_CmdFault.j0 k true true t130 t131 true aa0 aa1 aa2 aa3 aa4 aa5) = some r := by rw [if_neg (show ¬ (false = true) by decide)] at H; exact H
                clear H
                have H := H1
                clear H1
                have H' := am H
                clear H
                have hcz31_0 : w6.cell? ⟨g126, 0, none⟩ = some (I q aa0) := (bc B126.out 0).trans rfl
                have hcz31_1 : w6.cell? ⟨g126, 1, none⟩ = some (I q aa1) := (bc B126.out 1).trans rfl
                have hcz31_2 : w6.cell? ⟨g126, 2, none⟩ = some (I q aa2) := (bc B126.out 2).trans rfl
                have hcz31_3 : w6.cell? ⟨g126, 3, none⟩ = some (I q aa3) := (bc B126.out 3).trans rfl
                have hcz31_4 : w6.cell? ⟨g126, 4, none⟩ = some (I q aa4) := (bc B126.out 4).trans rfl
                have hcz31_5 : w6.cell? ⟨g126, 5, none⟩ = some (I q aa5) := (bc B126.out 5).trans rfl
                have hfz31_0 := bf B126.out 0
                have hfz31_1 := bf B126.out 1
                have hfz31_2 := bf B126.out 2
                have hfz31_3 := bf B126.out 3
                have hfz31_4 := bf B126.out 4
                have hfz31_5 := bf B126.out 5
                go_wp2_with (first | (go_at_call 72; (with_reducible refine (spec_l3Name.calls aa2 true _ A10.out).mono ?_); rintro e w' ⟨rfl, ⟨nd, rfl⟩⟩) | (go_at_call 73; (with_reducible refine (spec_l2Address.calls aa3 false _ A13.out).mono ?_); rintro e w' ⟨rfl, ⟨nd, rfl⟩⟩))
                go_meet
                case rel => exact ⟨_, (true), (by first | rfl | (simp; done) | (simp [*]; done)), H', ⟨by first | omega | exact Nat.le_refl _⟩, ⟨by (with_reducible repeat (first | apply bN | apply bd | apply ba)); exact B126.out⟩, ⟨by repeat (first | (with_reducible first | exact HB.out | apply pa | apply pN | apply p1 | refine bs ?_ E126.out) | exact HB.out)⟩⟩
            · replace c12 := Bool.eq_false_iff.mpr c12
              subst c12
              have H1 : (if t130 = true then ((spec_l5Number.f k aa0 aa1 aa2 aa3 aa4 aa5).bind fun t137 => (if t137 = true then (if t131 = true then ((spec_l5Proto.f aa5).bind fun t138 => (spec_CmdFault.j0 k true false t130 t131 (!t138) aa0 aa1 aa2 aa3 aa4 aa5)) else (spec_CmdFault.j0 k true false t130 t131 false aa0 aa1 aa2 aa3 aa4 aa5)) else (spec_CmdFault.j0 k true false t130 t131 true aa0 aa1 aa2 aa3 aa4 aa5))) else (if t131 = true then ((spec_l5Proto.f aa5).bind fun t139 => (spec_CmdFault.j0 k true false t130 t131 (!t139) aa0 aa1 aa2 aa3 aa4 aa5)) else (spec_CmdFault.j0 k true false t130 t131 false aa0 aa1 aa2 aa3 aa4 aa5))) = some r := by rw [if_neg (show ¬ (false = true) by decide)] at H; exact H
              clear H
              have H := H1
              clear H1
              by_cases c32 : t130 = true
              · subst c32
                have H1 : ((spec_l5Number.f k aa0 aa1 aa2 aa3 aa4 aa5).bind fun t137 => (if t137 = true then (if t131 = true then ((spec_l5Proto.f aa5).bind fun t138 => (spec_CmdFault.j0 k true false true t131 (!t138) aa0 aa1 aa2 aa3 aa4 aa5)) else (spec_CmdFault.j0 k true false true t131 false aa0 aa1 aa2 aa3 aa4 aa5)) else (spec_CmdFault.j0 k true false true t131 true aa0 aa1 aa2 aa3 aa4 aa5))) = some r := by rw [if_pos rfl] at H; exact H
                clear H
                have H := H1
                clear H1
                replace H := Option.bind_eq_some_iff.mp H
                obtain ⟨t137, A330, H⟩ := H
                replace H : (if t137 = true then (if t131 = true then ((spec_l5Proto.f aa5).bind fun t138 => (spec_CmdFault.j0 k true false true t131 (!t138) aa0 aa1 aa2 aa3 aa4 aa5)) else (spec_CmdFault.j0 k true false true t131 false aa0 aa1 aa2 aa3 aa4 aa5)) else (spec_CmdFault.j0 k true false true t131 true aa0 aa1 aa2 aa3 aa4 aa5)) = some r := H
                have A33 := am A330
                clear A330
                by_cases c34 : t137 = true
                · subst c34
                  have H1 : (if t131 = true then ((spec_l5Proto.f aa5).bind fun t138 => (spec_CmdFault.j0 k true false true t131 (!t138) aa0 aa1 aa2 aa3 aa4 aa5)) else (spec_CmdFault.j0 k true false true t131 false aa0 aa1 aa2 aa3 aa4 aa5)) = some r := by rw [if_pos rfl] at H; exact H
                  clear H
                  have H := H1
                  clear H1
                  by_cases c35 : t131 = true
                  · subst c35
                    have H1 : ((spec_l5Proto.f aa5).bind fun t138 => (spec_CmdFault.j0 k true false true true (!t138) aa0 aa1 aa2 aa3 aa4 aa5)) = some r := by rw [if_pos rfl] at H; exact H
                    clear H
                    have H := H1
                    clear H1
                    replace H := Option.bind_eq_some_iff.mp H
                    obtain ⟨t138, A360, H⟩ := H
                    replace H : (spec_CmdFault.j0 k true false true true (!t138) aa0 aa1 aa2 aa3 aa4 aa5) = some r := H
                    have A36 := am A360
                    clear A360
                    have H' := am H
                    clear H
                    have hcz37_0 : w6.cell? ⟨g126, 0, none⟩ = some (I q aa0) := (bc B126.out 0).trans rfl
                    have hcz37_1 : w6.cell? ⟨g126, 1, none⟩ = some (I q aa1) := (bc B126.out 1).trans rfl
                    have hcz37_2 : w6.cell? ⟨g126, 2, none⟩ = some (I q aa2) := (bc B126.out 2).trans rfl
                    have hcz37_3 : w6.cell? ⟨g126, 3, none⟩ = some (I q aa3) := (bc B126.out 3).trans rfl
                    have hcz37_4 : w6.cell? ⟨g126, 4, none⟩ = some (I q aa4) := (bc B126.out 4).trans rfl
                    have hcz37_5 : w6.cell? ⟨g126, 5, none⟩ = some (I q aa5) := (bc B126.out 5).trans rfl
                    have hfz37_0 := bf B126.out 0
                    have hfz37_1 := bf B126.out 1
                    have hfz37_2 := bf B126.out 2
                    have hfz37_3 := bf B126.out 3
                    have hfz37_4 := bf B126.out 4
                    have hfz37_5 := bf B126.out 5
                    go_wp2_with (first | (go_at_call 72; (with_reducible refine (spec_l3Name.calls aa2 true _ A10.out).mono ?_); rintro e w' ⟨rfl, ⟨nd, rfl⟩⟩) | (go_at_call 74; (with_reducible refine (spec_l5Number.calls k aa0 aa1 aa2 aa3 aa4 aa5 true _ A33.out).mono ?_); rintro e w38 ⟨rfl, hb⟩; have N0 := am (bb (g := g126) (by (with_reducible repeat (first | apply bN | apply bd | apply ba)); exact B126.out) hb); have N1 := am (bp (by repeat (first | (with_reducible first | exact HB.out | apply pa | apply pN | apply p1 | refine bs ?_ E126.out) | exact HB.out)) hb); clear B126 HB; have B126 := N0; have HB := N1; clear N0 N1; (try clear hb); (try clear hb2); (try clear hk); (try clear hi); have hcz39_0 : w38.cell? ⟨g126, 0, none⟩ = some (I q aa0) := (bc B126.out 0).trans rfl; have hcz39_1 : w38.cell? ⟨g126, 1, none⟩ = some (I q aa1) := (bc B126.out 1).trans rfl; have hcz39_2 : w38.cell? ⟨g126, 2, none⟩ = some (I q aa2) := (bc B126.out 2).trans rfl; have hcz39_3 : w38.cell? ⟨g126, 3, none⟩ = some (I q aa3) := (bc B126.out 3).trans rfl; have hcz39_4 : w38.cell? ⟨g126, 4, none⟩ = some (I q aa4) := (bc B126.out 4).trans rfl; have hcz39_5 : w38.cell? ⟨g126, 5, none⟩ = some (I q aa5) := (bc B126.out 5).trans rfl; have hfz39_0 := bf B126.out 0; have hfz39_1 := bf B126.out 1; have hfz39_2 := bf B126.out 2; have hfz39_3 := bf B126.out 3; have hfz39_4 := bf B126.out 4; have hfz39_5 := bf B126.out 5) | (go_at_call 75; (with_reducible refine (spec_l5Proto.calls aa5 t138 _ A36.out).mono ?_); rintro e w' ⟨rfl, ⟨nd, rfl⟩⟩))
                    go_meet
                    case rel => exact ⟨_, (!t138), (by first | rfl | (simp; done) | (simp [*]; done)), H', ⟨by first | omega | exact Nat.le_refl _⟩, ⟨by (with_reducible repeat (first | apply bN | apply bd | apply ba)); exact B126.out⟩, ⟨by repeat (first | (with_reducible first | exact HB.out | apply pa | apply pN | apply p1 | refine bs ?_ E126.out) | exact HB.out)⟩⟩
                  · replace c35 := Bool.eq_false_iff.mpr c35
                    subst c35
                    have H1 : (spec_CmdFault.j0 k true false true false false aa0 aa1 aa2 aa3 aa4 aa5) = some r := by rw [if_neg (show ¬ (false = true) by decide)] at H; exact H
                    clear H
                    have H := H1
                    clear H1
                    have H' := am H
                    clear H
                    have hcz40_0 : w6.cell? ⟨g126, 0, none⟩ = some (I q aa0) := (bc B126.out 0).trans rfl
                    have hcz40_1 : w6.cell? ⟨g126, 1, none⟩ = some (I q aa1) := (bc B126.out 1).trans rfl
                    have hcz40_2 : w6.cell? ⟨g126, 2, none⟩ = some (I q aa2) := (bc B126.out 2).trans rfl
                    have hcz40_3 : w6.cell? ⟨g126, 3, none⟩ = some (I q aa3) := (bc B126.out 3).trans rfl
                    have hcz40_4 : w6.cell? ⟨g126, 4, none⟩ = some (I q aa4) := (bc B126.out 4).trans rfl
                    have hcz40_5 : w6.cell? ⟨g126, 5, none⟩ = some (I q aa5) := (bc B126.out 5).trans rfl
                    have hfz40_0 := bf B126.out 0
                    have hfz40_1 := bf B126.out 1
                    have hfz40_2 := bf B126.out 2
                    have hfz40_3 := bf B126.out 3
                    have hfz40_4 := bf B126.out 4
                    have hfz40_5 := bf B126.out 5
                    go_wp2_with (first | (go_at_call 72; (with_reducible refine (spec_l3Name.calls aa2 true _ A10.out).mono ?_); rintro e w' ⟨rfl, ⟨nd, rfl⟩⟩) | (go_at_call 74; (with_reducible refine (spec_l5Number.calls k aa0 aa1 aa2 aa3 aa4 aa5 true _ A33.out).mono ?_); rintro e w41 ⟨rfl, hb⟩; have N0 := am (bb (g := g126) (by (with_reducible repeat (first | apply bN | apply bd | apply ba)); exact B126.out) hb); have N1 := am (bp (by repeat (first | (with_reducible first | exact HB.out | apply pa | apply pN | apply p1 | refine bs ?_ E126.out) | exact HB.out)) hb); clear B126 HB; have B126 := N0; have HB := N1; clear N0 N1; (try clear hb); (try clear hb2); (try clear hk); (try clear hi)))
                    go_meet
                    case rel => exact ⟨_, (false), (by first | rfl | (simp; done) | (simp [*]; done)), H', ⟨by first | omega | exact Nat.le_refl _⟩, ⟨by (with_reducible repeat (first | apply bN | apply bd | apply ba)); exact B126.out⟩, ⟨by repeat (first | (with_reducible first | exact HB.out | apply pa | apply pN | apply p1 | refine bs ?_ E126.out) | exact HB.out)⟩⟩
                · replace c34 := Bool.eq_false_iff.mpr c34
                  subst c34
                  have H1 : (spec_CmdFault.j0 k true false true t131 true aa0 aa1 aa2 aa3 aa4 aa5) = some r := by rw [if_neg (show ¬ (false = true) by decide)] at H; exact H
                  clear H
                  have H := H1
                  clear H1
                  have H' := am H
                  clear H
                  have hcz42_0 : w6.cell? ⟨g126, 0, none⟩ = some (I q aa0) := (bc B126.out 0).trans rfl
                  have hcz42_1 : w6.cell? ⟨g126, 1, none⟩ = some (I q aa1) := (bc B126.out 1).trans rfl
                  have hcz42_2 : w6.cell? ⟨g126, 2, none⟩ = some (I q aa2) := (bc B126.out 2).trans rfl
                  have hcz42_3 : w6.cell? ⟨g126, 3, none⟩ = some (I q aa3) := (bc B126.out 3).trans rfl
                  have hcz42_4 : w6.cell? ⟨g126, 4, none⟩ = some (I q aa4) := (bc B126.out 4).trans rfl
                  have hcz42_5 : w6.cell? ⟨g126, 5, none⟩ = some (I q aa5) := (bc B126.out 5).trans rfl
                  have hfz42_0 := bf B126.out 0
                  have hfz42_1 := bf B126.out 1
                  have hfz42_2 := bf B126.out 2
                  have hfz42_3 := bf B126.out 3
                  have hfz42_4 := bf B126.out 4
                  have hfz42_5 := bf B126.out 5
                  go_wp2_with (first | (go_at_call 72; (with_reducible refine (spec_l3Name.calls aa2 true _ A10.out).mono ?_); rintro e w' ⟨rfl, ⟨nd, rfl⟩⟩) | (go_at_call 74; (with_reducible refine (spec_l5Number.calls k aa0 aa1 aa2 aa3 aa4 aa5 false _ A33.out).mono ?_); rintro e w43 ⟨rfl, hb⟩; have N0 := am (bb (g := g126) (by (with_reducible repeat (first | apply bN | apply bd | apply ba)); exact B126.out) hb); have N1 := am (bp (by repeat (first | (with_reducible first | exact HB.out | apply pa | apply pN | apply p1 | refine bs ?_ E126.out) | exact HB.out)) hb); clear B126 HB; have B126 := N0; have HB := N1; clear N0 N1; (try clear hb); (try clear hb2); (try clear hk); (try clear hi)))
                  go_meet
                  case rel => exact ⟨_, (true), (by first | rfl | (simp; done) | (simp [*]; done)), H', ⟨by first | omega | exact Nat.le_refl _⟩, ⟨by (with_reducible repeat (first | apply bN | apply bd | apply ba)); exact B126.out⟩, ⟨by repeat (first | (with_reducible first | exact HB.out | apply pa | apply pN | apply p1 | refine bs ?_ E126.out) | exact HB.out)⟩⟩
              · replace c32 := Bool.eq_false_iff.mpr c32
                subst c32
                have H1 : (if t131 = true then ((spec_l5Proto.f aa5).bind fun t139 => (spec_CmdFault.j0 k true false false t131 (!t139) aa0 aa1 aa2 aa3 aa4 aa5)) else (spec_CmdFault.j0 k true false false t131 false aa0 aa1 aa2 aa3 aa4 aa5)) = some r := by rw [if_neg (show ¬ (false = true) by decide)] at H; exact H
                clear H
                have H := H1
                clear H1
                by_cases c44 : t131 = true
                · subst c44
                  have H1 : ((spec_l5Proto.f aa5).bind fun t139 => (spec_CmdFault.j0 k true false false true (!t139) aa0 aa1 aa2 aa3 aa4 aa5)) = some r := by rw [if_pos rfl] at H; exact H
                  clear H
                  have H := H1
                  clear H1
                  replace H := Option.bind_eq_some_iff.mp H
                  obtain ⟨t139, A450, H⟩ := H
                  replace H : (spec_CmdFault.j0 k true false false true (!t139) aa0 aa1 aa2 aa3 aa4 aa5) = some r := H
                  have A45 := am A450
                  clear A450
                  have H' := am H
                  clear H
                  have hcz46_0 : w6.cell? ⟨g126, 0, none⟩ = some (I q aa0) := (bc B126.out 0).trans rfl
                  have hcz46_1 : w6.cell? ⟨g126, 1, none⟩ = some (I q aa1) := (bc B126.out 1).trans rfl
                  have hcz46_2 : w6.cell? ⟨g126, 2, none⟩ = some (I q aa2) := (bc B126.out 2).trans rfl
                  have hcz46_3 : w6.cell? ⟨g126, 3, none⟩ = some (I q aa3) := (bc B126.out 3).trans rfl
                  have hcz46_4 : w6.cell? ⟨g126, 4, none⟩ = some (I q aa4) := (bc B126.out 4).trans rfl
                  have hcz46_5 : w6.cell? ⟨g126, 5, none⟩ = some (I q aa5) := (bc B126.out 5).trans rfl
                  have hfz46_0 := bf B126.out 0
                  have hfz46_1 := bf B126.out 1
                  have hfz46_2 := bf B126.out 2
                  have hfz46_3 := bf B126.out 3
                  have hfz46_4 := bf B126.out 4
                  have hfz46_5 := bf B126.out 5
                  go_wp2_with (first | (go_at_call 72; (with_reducible refine (spec_l3Name.calls aa2 true _ A10.out).mono ?_); rintro e w' ⟨rfl, ⟨nd, rfl⟩⟩) | (go_at_call 75; (with_reducible refine (spec_l5Proto.calls aa5 t139 _ A45.out).mono ?_); rintro e w' ⟨rfl, ⟨nd, rfl⟩⟩))
                  go_meet
                  case rel => exact ⟨_, (!t139), (by first | rfl | (simp; done) | (simp [*]; done)), H', ⟨by first | omega | exact Nat.le_refl _⟩, ⟨by (with_reducible repeat (first | apply bN | apply bd | apply ba)); exact B126.out⟩, ⟨by repeat (first | (with_reducible first | exact HB.out | apply pa | apply pN | apply p1 | refine bs ?_ E126.out) | exact HB.out)⟩⟩
                · replace c44 := Bool.eq_false_iff.mpr c44
                  subst c44
                  have H1 : (spec_CmdFault.j0 k true false false false false aa0 aa1 aa2 aa3 aa4 aa5) = some r := by rw [if_neg (show ¬ (false = true) by decide)] at H; exact H
                  clear H
                  have H := H1
                  clear H1
                  have H' := am H
                  clear H
                  have hcz47_0 : w6.cell? ⟨g126, 0, none⟩ = some (I q aa0) := (bc B126.out 0).trans rfl
                  have hcz47_1 : w6.cell? ⟨g126, 1, none⟩ = some (I q aa1) := (bc B126.out 1).trans rfl
                  have hcz47_2 : w6.cell? ⟨g126, 2, none⟩ = some (I q aa2) := (bc B126.out 2).trans rfl
                  have hcz47_3 : w6.cell? ⟨g126, 3, none⟩ = some (I q aa3) := (bc B126.out 3).trans rfl
                  have hcz47_4 : w6.cell? ⟨g126, 4, none⟩ = some (I q aa4) := (bc B126.out 4).trans rfl
                  have hcz47_5 : w6.cell? ⟨g126, 5, none⟩ = some (I q aa5) := (bc B126.out 5).trans rfl
                  have hfz47_0 := bf B126.out 0
                  have hfz47_1 := bf B126.out 1
                  have hfz47_2 := bf B126.out 2
                  have hfz47_3 := bf B126.out 3
                  have hfz47_4 := bf B126.out 4
                  have hfz47_5 := bf B126.out 5
                  go_wp2_with (first | (go_at_call 72; (with_reducible refine (spec_l3Name.calls aa2 true _ A10.out).mono ?_); rintro e w' ⟨rfl, ⟨nd, rfl⟩⟩))
                  go_meet
                  case rel => exact ⟨_, (false), (by first | rfl | (simp; done) | (simp [*]; done)), H', ⟨by first | omega | exact Nat.le_refl _⟩, ⟨by (with_reducible repeat (first | apply bN | apply bd | apply ba)); exact B126.out⟩, ⟨by repeat (first | (with_reducible first | exact HB.out | apply pa | apply pN | apply p1 | refine bs ?_ E126.out) | exact HB.out)⟩⟩
          · replace c11 := Bool.eq_false_iff.mpr c11
            subst c11
            have H1 : (spec_CmdFault.j0 k true t129 t130 t131 true aa0 aa1 aa2 aa3 aa4 aa5) = some r := by rw [if_neg (show ¬ (false = true) by decide)] at H; exact H
            clear H
            have H := H1
            clear H1
            have H' := am H
            clear H
            have hcz48_0 : w6.cell? ⟨g126, 0, none⟩ = some (I q aa0) := (bc B126.out 0).trans rfl
            have hcz48_1 : w6.cell? ⟨g126, 1, none⟩ = some (I q aa1) := (bc B126.out 1).trans rfl
            have hcz48_2 : w6.cell? ⟨g126, 2, none⟩ = some (I q aa2) := (bc B126.out 2).trans rfl
            have hcz48_3 : w6.cell? ⟨g126, 3, none⟩ = some (I q aa3) := (bc B126.out 3).trans rfl
            have hcz48_4 : w6.cell? ⟨g126, 4, none⟩ = some (I q aa4) := (bc B126.out 4).trans rfl
            have hcz48_5 : w6.cell? ⟨g126, 5, none⟩ = some (I q aa5) := (bc B126.out 5).trans rfl
            have hfz48_0 := bf B126.out 0
            have hfz48_1 := bf B126.out 1
            have hfz48_2 := bf B126.out 2
            have hfz48_3 := bf B126.out 3
            have hfz48_4 := bf B126.out 4
            have hfz48_5 := bf B126.out 5
            go_wp2_with (first | (go_at_call 72; (with_reducible refine (spec_l3Name.calls aa2 false _ A10.out).mono ?_); rintro e w' ⟨rfl, ⟨nd, rfl⟩⟩))
            go_meet
            case rel => exact ⟨_, (true), (by first | rfl | (simp; done) | (simp [*]; done)), H', ⟨by first | omega | exact Nat.le_refl _⟩, ⟨by (with_reducible repeat (first | apply bN | apply bd | apply ba)); exact B126.out⟩, ⟨by repeat (first | (with_reducible first | exact HB.out | apply pa | apply pN | apply p1 | refine bs ?_ E126.out) | exact HB.out)⟩⟩
        · replace c9 := Bool.eq_false_iff.mpr c9
          subst c9
          have H1 : (if t129 = true then ((spec_l2Address.f aa3).bind fun t140 => (if t140 = true then (if t130 = true then ((spec_l5Number.f k aa0 aa1 aa2 aa3 aa4 aa5).bind fun t141 => (if t141 = true then (if t131 = true then ((spec_l5Proto.f aa5).bind fun t142 => (spec_CmdFault.j0 k false t129 t130 t131 (!t142) aa0 aa1 aa2 aa3 aa4 aa5)) else (spec_CmdFault.j0 k false t129 t130 t131 false aa0 aa1 aa2 aa3 aa4 aa5)) else (spec_CmdFault.j0 k false t129 t130 t131 true aa0 aa1 aa2 aa3 aa4 aa5))) else (if t131 = true then ((spec_l5Proto.f aa5).bind fun t143 => (spec_CmdFault.j0 k false t129 t130 t131 (!t143) aa0 aa1 aa2 aa3 aa4 aa5)) else (spec_CmdFault.j0 k false t129 t130 t131 false aa0 aa1 aa2 aa3 aa4 aa5))) else (spec_CmdFault.j0 k false t129 t130 t131 true aa0 aa1 aa2 aa3 aa4 aa5))) else (if t130 = true then ((spec_l5Number.f k aa0 aa1 aa2 aa3 aa4 aa5).bind fun t144 => (if t144 = true then (if t131 = true then ((spec_l5Proto.f aa5).bind fun t145 => (spec_CmdFault.j0 k false t129 t130 t131 (!t145) aa0 aa1 aa2 aa3 aa4 aa5)) else (spec_CmdFault.j0 k false t129 t130 t131 false aa0 aa1 aa2 aa3 aa4 aa5)) else (spec_CmdFault.j0 k false t129 t130 t131 true aa0 aa1 aa2 aa3 aa4 aa5))) else (if t131 = true then ((spec_l5Proto.f aa5).bind fun t146 => (spec_CmdFault.j0 k false t129 t130 t131 (!t146) aa0 aa1 aa2 aa3 aa4 aa5)) else (spec_CmdFault.j0 k false t129 t130 t131 false aa0 aa1 aa2 aa3 aa4 aa5)))) = some r := by rw [if_neg (show ¬ (false = true) by decide)] at H; exact H
          clear H
          have H := H1
          clear H1
          by_cases c49 : t129 = true
          · subst c49
            have H1 : ((spec_l2Address.f aa3).bind fun t140 => (if t140 = true then (if t130 = true then ((spec_l5Number.f k aa0 aa1 aa2 aa3 aa4 aa5).bind fun t141 => (if t141 = true then (if t131 = true then ((spec_l5Proto.f aa5).bind fun t142 => (spec_CmdFault.j0 k false true t130 t131 (!t142) aa0 aa1 aa2 aa3 aa4 aa5)) else (spec_CmdFault.j0 k false true t130 t131 false aa0 aa1 aa2 aa3 aa4 aa5)) else (spec_CmdFault.j0 k false true t130 t131 true aa0 aa1 aa2 aa3 aa4 aa5))) else (if t131 = true then ((spec_l5Proto.f aa5).bind fun t143 => (spec_CmdFault.j0 k false true t130 t131 (!t143) aa0 aa1 aa2 aa3 aa4 aa5)) else (spec_CmdFault.j0 k false true t130 t131 false aa0 aa1 aa2 aa3 aa4 aa5))) else (spec_CmdFault.j0 k false true t130 t131 true aa0 aa1 aa2 aa3 aa4 aa5))) = some r := by rw [if_pos rfl] at H; exact H
            clear H
            have H := H1
            clear H1
            replace H := Option.bind_eq_some_iff.mp H
            obtain ⟨t140, A500, H⟩ := H
            replace H : (if t140 = true then (if t130 = true then ((spec_l5Number.f k aa0 aa1 aa2 aa3 aa4 aa5).bind fun t141 => (if t141 = true then (if t131 = true then ((spec_l5Proto.f aa5).bind fun t142 => (spec_CmdFault.j0 k false true t130 t131 (!t142) aa0 aa1 aa2 aa3 aa4 aa5)) else (spec_CmdFault.j0 k false true t130 t131 false aa0 aa1 aa2 aa3 aa4 aa5)) else (spec_CmdFault.j0 k false true t130 t131 true aa0 aa1 aa2 aa3 aa4 aa5))) else (if t131 = true then ((spec_l5Proto.f aa5).bind fun t143 => (spec_CmdFault.j0 k false true t130 t131 (!t143) aa0 aa1 aa2 aa3 aa4 aa5)) else (spec_CmdFault.j0 k false true t130 t131 false aa0 aa1 aa2 aa3 aa4 aa5))) else (spec_CmdFault.j0 k false true t130 t131 true aa0 aa1 aa2 aa3 aa4 aa5)) = some r := H
            have A50 := am A500
            clear A500
            by_cases c51 : t140 = true
            · subst c51
              have H1 : (if t130 = true then ((spec_l5Number.f k aa0 aa1 aa2 aa3 aa4 aa5).bind fun t141 => (if t141 = true then (if t131 = true then ((spec_l5Proto.f aa5).bind fun t142 => (spec_CmdFault.j0 k false true t130 t131 (!t142) aa0 aa1 aa2 aa3 aa4 aa5)) else (spec_CmdFault.j0 k false true t130 t131 false aa0 aa1 aa2 aa3 aa4 aa5)) else (spec_CmdFault.j0 k false true t130 t131 true aa0 aa1 aa2 aa3 aa4 aa5))) else (if t131 = true then ((spec_l5Proto.f aa5).bind fun t143 => (spec_CmdFault.j0 k false true t130 t131 (!t143) aa0 aa1 aa2 aa3 aa4 aa5)) else (spec_CmdFault.j0 k false true t130 t131 false aa0 aa1 aa2 aa3 aa4 aa5))) = some r := by rw [if_pos rfl] at H; exact H
              clear H
              have H := H1
              clear H1
              by_cases c52 : t130 = true
              · subst c52
                have H1 : ((spec_l5Number.f k aa0 aa1 aa2 aa3 aa4 aa5).bind fun t141 => (if t141 = true then (if t131 = true then ((spec_l5Proto.f aa5).bind fun t142 => (spec_CmdFault.j0 k false true true t131 (!t142) aa0 aa1 aa2 aa3 aa4 aa5)) else (spec_CmdFault.j0 k false true true t131 false aa0 aa1 aa2 aa3 aa4 aa5)) else (spec_CmdFault.j0 k false true true t131 true aa0 aa1 aa2 aa3 aa4 aa5))) = some r := by rw [if_pos rfl] at H; exact H
                clear H
                have H := H1
                clear H1
                replace H := Option.bind_eq_some_iff.mp H
                obtain ⟨t141, A530, H⟩ := H
                replace H : (if t141 = true then (if t131 = true then ((spec_l5Proto.f aa5).bind fun t142 => (spec_CmdFault.j0 k false true true t131 (!t142) aa0 aa1 aa2 aa3 aa4 aa5)) else (spec_CmdFault.j0 k false true true t131 false aa0 aa1 aa2 aa3 aa4 aa5)) else (spec_CmdFault.j0 k false true true t131 true aa0 aa1 aa2 aa3 aa4 aa5)) = some r := H
                have A53 := am A530
                clear A530
                by_cases c54 : t141 = true
                · subst c54
                  have H1 : (if t131 = true then ((spec_l5Proto.f aa5).bind fun t142 => (spec_CmdFault.j0 k false true true t131 (!t142) aa0 aa1 aa2 aa3 aa4 aa5)) else (spec_CmdFault.j0 k false true true t131 false aa0 aa1 aa2 aa3 aa4 aa5)) = some r := by rw [if_pos rfl] at H; exact H
                  clear H
                  have H := H1
                  clear H1
                  by_cases c55 : t131 = true
                  · subst c55
                    have H1 : ((spec_l5Proto.f aa5).bind fun t142 => (spec_CmdFault.j0 k false true true true (!t142) aa0 aa1 aa2 aa3 aa4 aa5)) = some r := by rw [if_pos rfl] at H; exact H
                    clear H
                    have H := H1
                    clear H1
                    replace H := Option.bind_eq_some_iff.mp H
                    obtain ⟨t142, A560, H⟩ := H
                    replace H : (spec_CmdFault.j0 k false true true true (!t142) aa0 aa1 aa2 aa3 aa4 aa5) = some r := H
                    have A56 := am A560
                    clear A560
                    have H' := am H
                    clear H
                    have hcz57_0 : w6.cell? ⟨g126, 0, none⟩ = some (I q aa0) := (bc B126.out 0).trans rfl
                    have hcz57_1 : w6.cell? ⟨g126, 1, none⟩ = some (I q aa1) := (bc B126.out 1).trans rfl
                    have hcz57_2 : w6.cell? ⟨g126, 2, none⟩ = some (I q aa2) := (bc B126.out 2).trans rfl
                    have hcz57_3 : w6.cell? ⟨g126, 3, none⟩ = some (I q aa3) := (bc B126.out 3).trans rfl
                    have hcz57_4 : w6.cell? ⟨g126, 4, none⟩ = some (I q aa4) := (bc B126.out 4).trans rfl
                    have hcz57_5 : w6.cell? ⟨g126, 5, none⟩ = some (I q aa5) := (bc B126.out 5).trans rfl
                    have hfz57_0 := bf B126.out 0
                    have hfz57_1 := bf B126.out 1
                    have hfz57_2 := bf B126.out 2
                    have hfz57_3 := bf B126.out 3
                    have hfz57_4 := bf B126.out 4
                    have hfz57_5 := bf B126.out 5
                    go_wp2_with (first | (go_at_call 73; (with_reducible refine (spec_l2Address.calls aa3 true _ A50.out).mono ?_); rintro e w' ⟨rfl, ⟨nd, rfl⟩⟩) | (go_at_call 74; (with_reducible refine (spec_l5Number.calls k aa0 aa1 aa2 aa3 aa4 aa5 true _ A53.out).mono ?_); rintro e w58 ⟨rfl, hb⟩; have N0 := am (bb (g := g126) (by (with_reducible repeat (first | apply bN | apply bd | apply ba)); exact B126.out) hb); have N1 := am (bp (by repeat (first | (with_reducible first | exact HB.out | apply pa | apply pN | apply p1 | refine bs ?_ E126.out) | exact HB.out)) hb); clear B126 HB; have B126 := N0; have HB := N1; clear N0 N1; (try clear hb); (try clear hb2); (try clear hk); (try clear hi); have hcz59_0 : w58.cell? ⟨g126, 0, none⟩ = some (I q aa0) := (bc B126.out 0).trans rfl; have hcz59_1 : w58.cell? ⟨g126, 1, none⟩ = some (I q aa1) := (bc B126.out 1).trans rfl; have hcz59_2 : w58.cell? ⟨g126, 2, none⟩ = some (I q aa2) := (bc B126.out 2).trans rfl; have hcz59_3 : w58.cell? ⟨g126, 3, none⟩ = some (I q aa3) := (bc B126.out 3).trans rfl; have hcz59_4 : w58.cell? ⟨g126, 4, none⟩ = some (I q aa4) := (bc B126.out 4).trans rfl; have hcz59_5 : w58.cell? ⟨g126, 5, none⟩ = some (I q aa5) := (bc B126.out 5).trans rfl; have hfz59_0 := bf B126.out 0; have hfz59_1 := bf B126.out 1; have hfz59_2 := bf B126.out 2; have hfz59_3 := bf B126.out 3; have hfz59_4 := bf B126.out 4; have hfz59_5 := bf B126.out 5) | (go_at_call 75; (with_reducible refine (spec_l5Proto.calls aa5 t142 _ A56.out).mono ?_); rintro e w' ⟨rfl, ⟨nd, rfl⟩⟩))
                    go_meet
                    case rel => exact ⟨_, (!t142), (by first | rfl | (simp; done) | (simp [*]; done)), H', ⟨by first | omega | exact Nat.le_refl _⟩, ⟨by (with_reducible repeat (first | apply bN | apply bd | apply ba)); exact B126.out⟩, ⟨by repeat (first | (with_reducible first | exact HB.out | apply pa | apply pN | apply p1 | refine bs ?_ E126.out) | exact HB.out)⟩⟩
                  · replace c55 := Bool.eq_false_iff.mpr c55
                    subst c55
                    have H1 : (spec_CmdFault.j0 k false true true false false aa0 aa1 aa2 aa3 aa4 aa5) = some r := by rw [if_neg (show ¬ (false = true) by decide)] at H; exact H
                    clear H
                    have H := H1
                    clear H1
                    have H' := am H
                    clear H
                    have hcz60_0 : w6.cell? ⟨g126, 0, none⟩ = some (I q aa0) := (bc B126.out 0).trans rfl
                    have hcz60_1 : w6.cell? ⟨g126, 1, none⟩ = some (I q aa1) := (bc B126.out 1).trans rfl
                    have hcz60_2 : w6.cell? ⟨g126, 2, none⟩ = some (I q aa2) := (bc B126.out 2).trans rfl
                    have hcz60_3 : w6.cell? ⟨g126, 3, none⟩ = some (I q aa3) := (bc B126.out 3).trans rfl
                    have hcz60_4 : w6.cell? ⟨g126, 4, none⟩ = some (I q aa4) := (bc B126.out 4).trans rfl
                    have hcz60_5 : w6.cell? ⟨g126, 5, none⟩ = some (I q aa5) := (bc B126.out 5).trans rfl
                    have hfz60_0 := bf B126.out 0
                    have hfz60_1 := bf B126.out 1
                    have hfz60_2 := bf B126.out 2
                    have hfz60_3 := bf B126.out 3
                    have hfz60_4 := bf B126.out 4
                    have hfz60_5 := bf B126.out 5
                    go_wp2_with (first | (go_at_call 73; (with_reducible refine (spec_l2Address.calls aa3 true _ A50.out).mono ?_); rintro e w' ⟨rfl, ⟨nd, rfl⟩⟩) | (go_at_call 74; (with_reducible refine (spec_l5Number.calls k aa0 aa1 aa2 aa3 aa4 aa5 true _ A53.out).mono ?_); rintro e w61 ⟨rfl, hb⟩; have N0 := am (bb (g := g126) (by (with_reducible repeat (first | apply bN | apply bd | apply ba)); exact B126.out) hb); have N1 := am (bp (by repeat (first | (with_reducible first | exact HB.out | apply pa | apply pN | apply p1 | refine bs ?_ E126.out) | exact HB.out)) hb); clear B126 HB; have B126 := N0; have HB := N1; clear N0 N1; (try clear hb); (try clear hb2); (try clear hk); (try clear hi)))
                    go_meet
                    case rel => exact ⟨_, (false), (by first | rfl | (simp; done) | (simp [*]; done)), H', ⟨by first | omega | exact Nat.le_refl _⟩, ⟨by (with_reducible repeat (first | apply bN | apply bd | apply ba)); exact B126.out⟩, ⟨by repeat (first | (with_reducible first | exact HB.out | apply pa | apply pN | apply p1 | refine bs ?_ E126.out) | exact HB.out)⟩⟩
                · replace c54 := Bool.eq_false_iff.mpr c54
                  subst c54
                  have H1 : (spec_CmdFault.j0 k false true true t131 true aa0 aa1 aa2 aa3 aa4 aa5) = some r := by rw [if_neg (show ¬ (false = true) by decide)] at H; exact H
                  clear H
                  have H := H1
                  clear H1
                  have H' := am H
                  clear H
                  have hcz62_0 : w6.cell? ⟨g126, 0, none⟩ = some (I q aa0) := (bc B126.out 0).trans rfl
                  have hcz62_1 : w6.cell? ⟨g126, 1, none⟩ = some (I q aa1) := (bc B126.out 1).trans rfl
                  have hcz62_2 : w6.cell? ⟨g126, 2, none⟩ = some (I q aa2) := (bc B126.out 2).trans rfl
                  have hcz62_3 : w6.cell? ⟨g126, 3, none⟩ = some (I q aa3) := (bc B126.out 3).trans rfl
                  have hcz62_4 : w6.cell? ⟨g126, 4, none⟩ = some (I q aa4) := (bc B126.out 4).trans rfl
                  have hcz62_5 : w6.cell? ⟨g126, 5, none⟩ = some (I q aa5) := (bc B126.out 5).trans rfl
                  have hfz62_0 := bf B126.out 0
                  have hfz62_1 := bf B126.out 1
                  have hfz62_2 := bf B126.out 2
                  have hfz62_3 := bf B126.out 3
                  have hfz62_4 := bf B126.out 4
                  have hfz62_5 := bf B126.out 5
                  go_wp2_with (first | (go_at_call 73; (with_reducible refine (spec_l2Address.calls aa3 true _ A50.out).mono ?_); rintro e w' ⟨rfl, ⟨nd, rfl⟩⟩) | (go_at_call 74; (with_reducible refine (spec_l5Number.calls k aa0 aa1 aa2 aa3 aa4 aa5 false _ A53.out).mono ?_); rintro e w63 ⟨rfl, hb⟩; have N0 := am (bb (g := g126) (by (with_reducible repeat (first | apply bN | apply bd | apply ba)); exact B126.out) hb); have N1 := am (bp (by repeat (first | (with_reducible first | exact HB.out | apply pa | apply pN | apply p1 | refine bs ?_ E126.out) | exact HB.out)) hb); clear B126 HB; have B126 := N0; have HB := N1; clear N0 N1; (try clear hb); (try clear hb2); (try clear hk); (try clear hi)))
                  go_meet
                  case rel => exact ⟨_, (true), (by first | rfl | (simp; done) | (simp [*]; done)), H', ⟨by first | omega | exact Nat.le_refl _⟩, ⟨by (with_reducible repeat (first | apply bN | apply bd | apply ba)); exact B126.out⟩, ⟨by repeat (first | (with_reducible first | exact HB.out | apply pa | apply pN | apply p1 | refine bs ?_ E126.out) | exact HB.out)⟩⟩
              · replace c52 := Bool.eq_false_iff.mpr c52
                subst c52
                have H1 : (if t131 = true then ((spec_l5Proto.f aa5).bind fun t143 => (spec_CmdFault.j0 k false true false t131 (!t143) aa0 aa1 aa2 aa3 aa4 aa5)) else (spec_CmdFault.j0 k false true false t131 false aa0 aa1 aa2 aa3 aa4 aa5)) = some r := by rw [if_neg (show ¬ (false = true) by decide)] at H; exact H
                clear H
                have H := H1
                clear H1
                by_cases c64 : t131 = true
                · subst c64
                  have H1 : ((spec_l5Proto.f aa5).bind fun t143 => (spec_CmdFault.j0 k false true false true (!t143) aa0 aa1 aa2 aa3 aa4 aa5)) = some r := by rw [if_pos rfl] at H; exact H
                  clear H
                  have H := H1
                  clear H1
                  replace H := Option.bind_eq_some_iff.mp H
                  obtain ⟨t143, A650, H⟩ := H
                  replace H : (spec_CmdFault.j0 k false true false true (!t143) aa0 aa1 aa2 aa3 aa4 aa5) = some r := H
                  have A65 := am A650
                  clear A650
                  have H' := am H
                  clear H
                  have hcz66_0 : w6.cell? ⟨g126, 0, none⟩ = some (I q aa0) := (bc B126.out 0).trans rfl
                  have hcz66_1 : w6.cell? ⟨g126, 1, none⟩ = some (I q aa1) := (bc B126.out 1).trans rfl
                  have hcz66_2 : w6.cell? ⟨g126, 2, none⟩ = some (I q aa2) := (bc B126.out 2).trans rfl
                  have hcz66_3 : w6.cell? ⟨g126, 3, none⟩ = some (I q aa3) := (bc B126.out 3).trans rfl
                  have hcz66_4 : w6.cell? ⟨g126, 4, none⟩ = some (I q aa4) := (bc B126.out 4).trans rfl
                  have hcz66_5 : w6.cell? ⟨g126, 5, none⟩ = some (I q aa5) := (bc B126.out 5).trans rfl
                  have hfz66_0 := bf B126.out 0
                  have hfz66_1 := bf B126.out 1
                  have hfz66_2 := bf B126.out 2
                  have hfz66_3 := bf B126.out 3
                  have hfz66_4 := bf B126.out 4
                  have hfz66_5 := bf B126.out 5
                  go_wp2_with (first | (go_at_call 73; (with_reducible refine (spec_l2Address.calls aa3 true _ A50.out).mono ?_); rintro e w' ⟨rfl, ⟨nd, rfl⟩⟩) | (go_at_call 75; (with_reducible refine (spec_l5Proto.calls aa5 t143 _ A65.out).mono ?_); rintro e w' ⟨rfl, ⟨nd, rfl⟩⟩))
                  go_meet
                  case rel => exact ⟨_, (!t143), (by first | rfl | (simp; done) | (simp [*]; done)), H', ⟨by first | omega | exact Nat.le_refl _⟩, ⟨by (with_reducible repeat (first | apply bN | apply bd | apply ba)); exact B126.out⟩, ⟨by repeat (first | (with_reducible first | exact HB.out | apply pa | apply pN | apply p1 | refine bs ?_ E126.out) | exact HB.out)⟩⟩
                · replace c64 := Bool.eq_false_iff.mpr c64
                  subst c64
                  have H1 : (spec_CmdFault.j0 k false true false false false aa0 aa1 aa2 aa3 aa4 aa5) = some r := by rw [if_neg (show ¬ (false = true) by decide)] at H; exact H
                  clear H
                  have H := H1
                  clear H1
                  have H' := am H
                  clear H
                  have hcz67_0 : w6.cell? ⟨g126, 0, none⟩ = some (I q aa0) := (bc B126.out 0).trans rfl
                  have hcz67_1 : w6.cell? ⟨g126, 1, none⟩ = some (I q aa1) := (bc B126.out 1).trans rfl
                  have hcz67_2 : w6.cell? ⟨g126, 2, none⟩ = some (I q aa2) := (bc B126.out 2).trans rfl
                  have hcz67_3 : w6.cell? ⟨g126, 3, none⟩ = some (I q aa3) := (bc B126.out 3).trans rfl
                  have hcz67_4 : w6.cell? ⟨g126, 4, none⟩ = some (I q aa4) := (bc B126.out 4).trans rfl
                  have hcz67_5 : w6.cell? ⟨g126, 5, none⟩ = some (I q aa5) := (bc B126.out 5).trans rfl
                  have hfz67_0 := bf B126.out 0
                  have hfz67_1 := bf B126.out 1
                  have hfz67_2 := bf B126.out 2
                  have hfz67_3 := bf B126.out 3
                  have hfz67_4 := bf B126.out 4
                  have hfz67_5 := bf B126.out 5
                  go_wp2_with (first | (go_at_call 73; (with_reducible refine (spec_l2Address.calls aa3 true _ A50.out).mono ?_); rintro e w' ⟨rfl, ⟨nd, rfl⟩⟩))
                  go_meet
                  case rel => exact ⟨_, (false), (by first | rfl | (simp; done) | (simp [*]; done)), H', ⟨by first | omega | exact Nat.le_refl _⟩, ⟨by (with_reducible repeat (first | apply bN | apply bd | apply ba)); exact B126.out⟩, ⟨by repeat (first | (with_reducible first | exact HB.out | apply pa | apply pN | apply p1 | refine bs ?_ E126.out) | exact HB.out)⟩⟩
            · replace c51 := Bool.eq_false_iff.mpr c51
              subst c51
              have H1 : (spec_CmdFault.j0 k false true t130 t131 true aa0 aa1 aa2 aa3 aa4 aa5) = some r := by rw [if_neg (show ¬ (false = true) by decide)] at H; exact H
              clear H
              have H := H1
              clear H1
              have H' := am H
              clear H
              have hcz68_0 : w6.cell? ⟨g126, 0, none⟩ = some (I q aa0) := (bc B126.out 0).trans rfl
              have hcz68_1 : w6.cell? ⟨g126, 1, none⟩ = some (I q aa1) := (bc B126.out 1).trans rfl
              have hcz68_2 : w6.cell? ⟨g126, 2, none⟩ = some (I q aa2) := (bc B126.out 2).trans rfl
              have hcz68_3 : w6.cell? ⟨g126, 3, none⟩ = some (I q aa3) := (bc B126.out 3).trans rfl
              have hcz68_4 : w6.cell? ⟨g126, 4, none⟩ = some (I q aa4) := (bc B126.out 4).trans rfl
              have hcz68_5 : w6.cell? ⟨g126, 5, none⟩ = some (I q aa5) := (bc B126.out 5).trans rfl
              have hfz68_0 := bf B126.out 0
              have hfz68_1 := bf B126.out 1
              have hfz68_2 := bf B126.out 2
              have hfz68_3 := bf B126.out 3
              have hfz68_4 := bf B126.out 4
              have hfz68_5 := bf B126.out 5
              go_wp2_with (first | (go_at_call 73; (with_reducible refine (spec_l2Address.calls aa3 false _ A50.out).mono ?_); rintro e w' ⟨rfl, ⟨nd, rfl⟩⟩))
              go_meet
              case rel => exact ⟨_, (true), (by first | rfl | (simp; done) | (simp [*]; done)), H', ⟨by first | omega | exact Nat.le_refl _⟩, ⟨by (with_reducible repeat (first | apply bN | apply bd | apply ba)); exact B126.out⟩, ⟨by repeat (first | (with_reducible first | exact HB.out | apply pa | apply pN | apply p1 | refine bs ?_ E126.out) | exact HB.out)⟩⟩
          · replace c49 := Bool.eq_false_iff.mpr c49
            subst c49
            have H1 : (if t130 = true then ((spec_l5Number.f k aa0 aa1 aa2 aa3 aa4 aa5).bind fun t144 => (if t144 = true then (if t131 = true then ((spec_l5Proto.f aa5).bind fun t145 => (spec_CmdFault.j0 k false false t130 t131 (!t145) aa0 aa1 aa2 aa3 aa4 aa5)) else (spec_CmdFault.j0 k false false t130 t131 false aa0 aa1 aa2 aa3 aa4 aa5)) else (spec_CmdFault.j0 k false false t130 t131 true aa0 aa1 aa2 aa3 aa4 aa5))) else (if t131 = true then ((spec_l5Proto.f aa5).bind fun t146 => (spec_CmdFault.j0 k false false t130 t131 (!t146) aa0 aa1 aa2 aa3 aa4 aa5)) else (spec_CmdFault.j0 k false false t130 t131 false aa0 aa1 aa2 aa3 aa4 aa5))) = some r := by rw [if_neg (show ¬ (false = true) by decide)] at H; exact H
            clear H
            have H := H1
            clear H1
            by_cases c69 : t130 = true
            · subst c69
              have H1 : ((spec_l5Number.f k aa0 aa1 aa2 aa3 aa4 aa5).bind fun t144 => (if t144 = true then (if t131 = true then ((spec_l5Proto.f aa5).bind fun t145 => (spec_CmdFault.j0 k false false true t131 (!t145) aa0 aa1 aa2 aa3 aa4 aa5)) else (spec_CmdFault.j0 k false false true t131 false aa0 aa1 aa2 aa3 aa4 aa5)) else (spec_CmdFault.j0 k false false true t131 true aa0 aa1 aa2 aa3 aa4 aa5))) = some r := by rw [if_pos rfl] at H; exact H
              clear H
              have H := H1
              clear H1
              replace H := Option.bind_eq_some_iff.mp H
              obtain ⟨t144, A700, H⟩ := H
              replace H : (if t144 = true then (if t131 = true then ((spec_l5Proto.f aa5).bind fun t145 => (spec_CmdFault.j0 k false false true t131 (!t145) aa0 aa1 aa2 aa3 aa4 aa5)) else (spec_CmdFault.j0 k false false true t131 false aa0 aa1 aa2 aa3 aa4 aa5)) else (spec_CmdFault.j0 k false false true t131 true aa0 aa1 aa2 aa3 aa4 aa5)) = some r := H
              have A70 := am A700
              clear A700
              by_cases c71 : t144 = true
              · subst c71
                have H1 : (if t131 = true then ((spec_l5Proto.f aa5).bind fun t145 => (spec_CmdFault.j0 k false false true t131 (!t145) aa0 aa1 aa2 aa3 aa4 aa5)) else (spec_CmdFault.j0 k false false true t131 false aa0 aa1 aa2 aa3 aa4 aa5)) = some r := by rw [if_pos rfl] at H; exact H
                clear H
                have H := H1
                clear H1
                by_cases c72 : t131 = true
                · subst c72
                  have H1 : ((spec_l5Proto.f aa5).bind fun t145 => (spec_CmdFault.j0 k false false true true (!t145) aa0 aa1 aa2 aa3 aa4 aa5)) = some r := by rw [if_pos rfl] at H; exact H
                  clear H
                  have H := H1
                  clear H1
                  replace H := Option.bind_eq_some_iff.mp H
                  obtain ⟨t145, A730, H⟩ := H
                  replace H : (spec_CmdFault.j0 k false false true true (!t145) aa0 aa1 aa2 aa3 aa4 aa5) = some r := H
                  have A73 := am A730
                  clear A730
                  have H' := am H
                  clear H
                  have hcz74_0 : w6.cell? ⟨g126, 0, none⟩ = some (I q aa0) := (bc B126.out 0).trans rfl
                  have hcz74_1 : w6.cell? ⟨g126, 1, none⟩ = some (I q aa1) := (bc B126.out 1).trans rfl
                  have hcz74_2 : w6.cell? ⟨g126, 2, none⟩ = some (I q aa2) := (bc B126.out 2).trans rfl
                  have hcz74_3 : w6.cell? ⟨g126, 3, none⟩ = some (I q aa3) := (bc B126.out 3).trans rfl
                  have hcz74_4 : w6.cell? ⟨g126, 4, none⟩ = some (I q aa4) := (bc B126.out 4).trans rfl
                  have hcz74_5 : w6.cell? ⟨g126, 5, none⟩ = some (I q aa5) := (bc B126.out 5).trans rfl
                  have hfz74_0 := bf B126.out 0
                  have hfz74_1 := bf B126.out 1
                  have hfz74_2 := bf B126.out 2
                  have hfz74_3 := bf B126.out 3
                  have hfz74_4 := bf B126.out 4
                  have hfz74_5 := bf B126.out 5
                  go_wp2_with (first | (go_at_call 74; (with_reducible refine (spec_l5Number.calls k aa0 aa1 aa2 aa3 aa4 aa5 true _ A70.out).mono ?_); rintro e w75 ⟨rfl, hb⟩; have N0 := am (bb (g := g126) (by (with_reducible repeat (first | apply bN | apply bd | apply ba)); exact B126.out) hb); have N1 := am (bp (by repeat (first | (with_reducible first | exact HB.out | apply pa | apply pN | apply p1 | refine bs ?_ E126.out) | exact HB.out)) hb); clear B126 HB; have B126 := N0; have HB := N1; clear N0 N1; (try clear hb); (try clear hb2); (try clear hk); (try clear hi); have hcz76_0 : w75.cell? ⟨g126, 0, none⟩ = some (I q aa0) := (bc B126.out 0).trans rfl; have hcz76_1 : w75.cell? ⟨g126, 1, none⟩ = some (I q aa1) := (bc B126.out 1).trans rfl; have hcz76_2 : w75.cell? ⟨g126, 2, none⟩ = some (I q aa2) := (bc B126.out 2).trans rfl; have hcz76_3 : w75.cell? ⟨g126, 3, none⟩ = some (I q aa3) := (bc B126.out 3).trans rfl; have hcz76_4 : w75.cell? ⟨g126, 4, none⟩ = some (I q aa4) := (bc B126.out 4).trans rfl; have hcz76_5 : w75.cell? ⟨g126, 5, none⟩ = some (I q aa5) := (bc B126.out 5).trans rfl; have hfz76_0 := bf B126.out 0; have hfz76_1 := bf B126.out 1; have hfz76_2 := bf B126.out 2; have hfz76_3 := bf B126.out 3; have hfz76_4 := bf B126.out 4; have hfz76_5 := bf B126.out 5) | (go_at_call 75; (with_reducible refine (spec_l5Proto.calls aa5 t145 _ A73.out).mono ?_); rintro e w' ⟨rfl, ⟨nd, rfl⟩⟩))
                  go_meet
                  case rel => exact ⟨_, (!t145), (by first | rfl | (simp; done) | (simp [*]; done)), H', ⟨by first | omega | exact Nat.le_refl _⟩, ⟨by (with_reducible repeat (first | apply bN | apply bd | apply ba)); exact B126.out⟩, ⟨by repeat (first | (with_reducible first | exact HB.out | apply pa | apply pN | apply p1 | refine bs ?_ E126.out) | exact HB.out)⟩⟩
                · replace c72 := Bool.eq_false_iff.mpr c72
                  subst c72
                  have H1 : (spec_CmdFault.j0 k false false true false false aa0 aa1 aa2 aa3 aa4 aa5) = some r := by rw [if_neg (show ¬ (false = true) by decide)] at H; exact H
                  clear H
                  have H := H1
                  clear H1
                  have H' := am H
                  clear H
                  have hcz77_0 : w6.cell? ⟨g126, 0, none⟩ = some (I q aa0) := (bc B126.out 0).trans rfl
                  have hcz77_1 : w6.cell? ⟨g126, 1, none⟩ = some (I q aa1) := (bc B126.out 1).trans rfl
                  have hcz77_2 : w6.cell? ⟨g126, 2, none⟩ = some (I q aa2) := (bc B126.out 2).trans rfl
                  have hcz77_3 : w6.cell? ⟨g126, 3, none⟩ = some (I q aa3) := (bc B126.out 3).trans rfl
                  have hcz77_4 : w6.cell? ⟨g126, 4, none⟩ = some (I q aa4) := (bc B126.out 4).trans rfl
                  have hcz77_5 : w6.cell? ⟨g126, 5, none⟩ = some (I q aa5) := (bc B126.out 5).trans rfl
                  have hfz77_0 := bf B126.out 0
                  have hfz77_1 := bf B126.out 1
                  have hfz77_2 := bf B126.out 2
                  have hfz77_3 := bf B126.out 3
                  have hfz77_4 := bf B126.out 4
                  have hfz77_5 := bf B126.out 5
                  go_wp2_with (first | (go_at_call 74; (with_reducible refine (spec_l5Number.calls k aa0 aa1 aa2 aa3 aa4 aa5 true _ A70.out).mono ?_); rintro e w78 ⟨rfl, hb⟩; have N0 := am (bb (g := g126) (by (with_reducible repeat (first | apply bN | apply bd | apply ba)); exact B126.out) hb); have N1 := am (bp (by repeat (first | (with_reducible first | exact HB.out | apply pa | apply pN | apply p1 | refine bs ?_ E126.out) | exact HB.out)) hb); clear B126 HB; have B126 := N0; have HB := N1; clear N0 N1; (try clear hb); (try clear hb2); (try clear hk); (try clear hi)))
                  go_meet
                  case rel => exact ⟨_, (false), (by first | rfl | (simp; done) | (simp [*]; done)), H', ⟨by first | omega | exact Nat.le_refl _⟩, ⟨by (with_reducible repeat (first | apply bN | apply bd | apply ba)); exact B126.out⟩, ⟨by repeat (first | (with_reducible first | exact HB.out | apply pa | apply pN | apply p1 | refine bs ?_ E126.out) | exact HB.out)⟩⟩
              · replace c71 := Bool.eq_false_iff.mpr c71
                subst c71
                have H1 : (spec_CmdFault.j0 k false false true t131 true aa0 aa1 aa2 aa3 aa4 aa5) = some r := by rw [if_neg (show ¬ (false = true) by decide)] at H; exact H
                clear H
                have H := H1
                clear H1
                have H' := am H
                clear H
                have hcz79_0 : w6.cell? ⟨g126, 0, none⟩ = some (I q aa0) := (bc B126.out 0).trans rfl
                have hcz79_1 : w6.cell? ⟨g126, 1, none⟩ = some (I q aa1) := (bc B126.out 1).trans rfl
                have hcz79_2 : w6.cell? ⟨g126, 2, none⟩ = some (I q aa2) := (bc B126.out 2).trans rfl
                have hcz79_3 : w6.cell? ⟨g126, 3, none⟩ = some (I q aa3) := (bc B126.out 3).trans rfl
                have hcz79_4 : w6.cell? ⟨g126, 4, none⟩ = some (I q aa4) := (bc B126.out 4).trans rfl
                have hcz79_5 : w6.cell? ⟨g126, 5, none⟩ = some (I q aa5) := (bc B126.out 5).trans rfl
                have hfz79_0 := bf B126.out 0
                have hfz79_1 := bf B126.out 1
                have hfz79_2 := bf B126.out 2
                have hfz79_3 := bf B126.out 3
                have hfz79_4 := bf B126.out 4
                have hfz79_5 := bf B126.out 5
                go_wp2_with (first | (go_at_call 74; (with_reducible refine (spec_l5Number.calls k aa0 aa1 aa2 aa3 aa4 aa5 false _ A70.out).mono ?_); rintro e w80 ⟨rfl, hb⟩; have N0 := am (bb (g := g126) (by (with_reducible repeat (first | apply bN | apply bd | apply ba)); exact B126.out) hb); have N1 := am (bp (by repeat (first | (with_reducible first | exact HB.out | apply pa | apply pN | apply p1 | refine bs ?_ E126.out) | exact HB.out)) hb); clear B126 HB; have B126 := N0; have HB := N1; clear N0 N1; (try clear hb); (try clear hb2); (try clear hk); (try clear hi)))
                go_meet
                case rel => exact ⟨_, (true), (by first | rfl | (simp; done) | (simp [*]; done)), H', ⟨by first | omega | exact Nat.le_refl _⟩, ⟨by (with_reducible repeat (first | apply bN | apply bd | apply ba)); exact B126.out⟩, ⟨by repeat (first | (with_reducible first | exact HB.out | apply pa | apply pN | apply p1 | refine bs ?_ E126.out) | exact HB.out)⟩⟩
            · replace c69 := Bool.eq_false_iff.mpr c69
              subst c69
              have H1 : (if t131 = true then ((spec_l5Proto.f aa5).bind fun t146 => (spec_CmdFault.j0 k false false false t131 (!t146) aa0 aa1 aa2 aa3 aa4 aa5)) else (spec_CmdFault.j0 k false false false t131 false aa0 aa1 aa2 aa3 aa4 aa5)) = some r := by rw [if_neg (show ¬ (false = true) by decide)] at H; exact H
              clear H
              have H := H1
              clear H1
              by_cases c81 : t131 = true
              · subst c81
                have H1 : ((spec_l5Proto.f aa5).bind fun t146 => (spec_CmdFault.j0 k false false false true (!t146) aa0 aa1 aa2 aa3 aa4 aa5)) = some r := by rw [if_pos rfl] at H; exact H
                clear H
                have H := H1
                clear H1
                replace H := Option.bind_eq_some_iff.mp H
                obtain ⟨t146, A820, H⟩ := H
                replace H : (spec_CmdFault.j0 k false false false true (!t146) aa0 aa1 aa2 aa3 aa4 aa5) = some r := H
                have A82 := am A820
                clear A820
                have H' := am H
                clear H
                have hcz83_0 : w6.cell? ⟨g126, 0, none⟩ = some (I q aa0) := (bc B126.out 0).trans rfl
                have hcz83_1 : w6.cell? ⟨g126, 1, none⟩ = some (I q aa1) := (bc B126.out 1).trans rfl
                have hcz83_2 : w6.cell? ⟨g126, 2, none⟩ = some (I q aa2) := (bc B126.out 2).trans rfl
                have hcz83_3 : w6.cell? ⟨g126, 3, none⟩ = some (I q aa3) := (bc B126.out 3).trans rfl
                have hcz83_4 : w6.cell? ⟨g126, 4, none⟩ = some (I q aa4) := (bc B126.out 4).trans rfl
                have hcz83_5 : w6.cell? ⟨g126, 5, none⟩ = some (I q aa5) := (bc B126.out 5).trans rfl
                have hfz83_0 := bf B126.out 0
                have hfz83_1 := bf B126.out 1
                have hfz83_2 := bf B126.out 2
                have hfz83_3 := bf B126.out 3
                have hfz83_4 := bf B126.out 4
                have hfz83_5 := bf B126.out 5
                go_wp2_with (first | (go_at_call 75; (with_reducible refine (spec_l5Proto.calls aa5 t146 _ A82.out).mono ?_); rintro e w' ⟨rfl, ⟨nd, rfl⟩⟩))
                go_meet
                case rel => exact ⟨_, (!t146), (by first | rfl | (simp; done) | (simp [*]; done)), H', ⟨by first | omega | exact Nat.le_refl _⟩, ⟨by (with_reducible repeat (first | apply bN | apply bd | apply ba)); exact B126.out⟩, ⟨by repeat (first | (with_reducible first | exact HB.out | apply pa | apply pN | apply p1 | refine bs ?_ E126.out) | exact HB.out)⟩⟩
              · replace c81 := Bool.eq_false_iff.mpr c81
                subst c81
                have H1 : (spec_CmdFault.j0 k false false false false false aa0 aa1 aa2 aa3 aa4 aa5) = some r := by rw [if_neg (show ¬ (false = true) by decide)] at H; exact H
                clear H
                have H := H1
                clear H1
                have H' := am H
                clear H
                have hcz84_0 : w6.cell? ⟨g126, 0, none⟩ = some (I q aa0) := (bc B126.out 0).trans rfl
                have hcz84_1 : w6.cell? ⟨g126, 1, none⟩ = some (I q aa1) := (bc B126.out 1).trans rfl
                have hcz84_2 : w6.cell? ⟨g126, 2, none⟩ = some (I q aa2) := (bc B126.out 2).trans rfl
                have hcz84_3 : w6.cell? ⟨g126, 3, none⟩ = some (I q aa3) := (bc B126.out 3).trans rfl
                have hcz84_4 : w6.cell? ⟨g126, 4, none⟩ = some (I q aa4) := (bc B126.out 4).trans rfl
                have hcz84_5 : w6.cell? ⟨g126, 5, none⟩ = some (I q aa5) := (bc B126.out 5).trans rfl
                have hfz84_0 := bf B126.out 0
                have hfz84_1 := bf B126.out 1
                have hfz84_2 := bf B126.out 2
                have hfz84_3 := bf B126.out 3
                have hfz84_4 := bf B126.out 4
                have hfz84_5 := bf B126.out 5
                go_wp2
                go_meet
                case rel => exact ⟨_, (false), (by first | rfl | (simp; done) | (simp [*]; done)), H', ⟨by first | omega | exact Nat.le_refl _⟩, ⟨by (with_reducible repeat (first | apply bN | apply bd | apply ba)); exact B126.out⟩, ⟨by repeat (first | (with_reducible first | exact HB.out | apply pa | apply pN | apply p1 | refine bs ?_ E126.out) | exact HB.out)⟩⟩
      · rw [if_neg c8] at H
        have c8b0 : (aa1 == (-1)) = false := beq_eq_false_iff_ne.mpr c8
        have c8b1 : (aa1 != (-1)) = true := bne_iff_ne.mpr c8
        (first | rw [c8b0] | (simp only [i64_w, i32_w]; rw [c8b0]) | skip)
        replace H := Option.bind_eq_some_iff.mp H
        obtain ⟨t147, A850, H⟩ := H
        replace H : (if t147 = true then (if t128 = true then ((spec_l3Name.f aa2).bind fun t148 => (if t148 = true then (if t129 = true then ((spec_l2Address.f aa3).bind fun t149 => (if t149 = true then (if t130 = true then ((spec_l5Number.f k aa0 aa1 aa2 aa3 aa4 aa5).bind fun t150 => (if t150 = true then (if t131 = true then ((spec_l5Proto.f aa5).bind fun t151 => (spec_CmdFault.j0 k t128 t129 t130 t131 (!t151) aa0 aa1 aa2 aa3 aa4 aa5)) else (spec_CmdFault.j0 k t128 t129 t130 t131 false aa0 aa1 aa2 aa3 aa4 aa5)) else (spec_CmdFault.j0 k t128 t129 t130 t131 true aa0 aa1 aa2 aa3 aa4 aa5))) else (if t131 = true then ((spec_l5Proto.f aa5).bind fun t152 => (spec_CmdFault.j0 k t128 t129 t130 t131 (!t152) aa0 aa1 aa2 aa3 aa4 aa5)) else (spec_CmdFault.j0 k t128 t129 t130 t131 false aa0 aa1 aa2 aa3 aa4 aa5))) else (spec_CmdFault.j0 k t128 t129 t130 t131 true aa0 aa1 aa2 aa3 aa4 aa5))) else (if t130 = true then ((spec_l5Number.f k aa0 aa1 aa2 aa3 aa4 aa5).bind fun t153 => (if t153 = true then (if t131 = true then ((spec_l5Proto.f aa5).bind fun t154 => (spec_CmdFault.j0 k t128 t129 t130 t131 (!t154) aa0 aa1 aa2 aa3 aa4 aa5)) else (spec_CmdFault.j0 k t128 t129 t130 t131 false aa0 aa1 aa2 aa3 aa4 aa5)) else (spec_CmdFault.j0 k t128 t129 t130 t131 true aa0 aa1 aa2 aa3 aa4 aa5))) else (if t131 = true then ((spec_l5Proto.f aa5).bind fun t155 => (spec_CmdFault.j0 k t128 t129 t130 t131 (!t155) aa0 aa1 aa2 aa3 aa4 aa5)) else (spec_CmdFault.j0 k t128 t129 t130 t131 false aa0 aa1 aa2 aa3 aa4 aa5)))) else (spec_CmdFault.j0 k t128 t129 t130 t131 true aa0 aa1 aa2 aa3 aa4 aa5))) else (if t129 = true then ((spec_l2Address.f aa3).bind fun t156 => (if t156 = true then (if t130 = true then ((spec_l5Number.f k aa0 aa1 aa2 aa3 aa4 aa5).bind fun t157 => (if t157 = true then (if t131 = true then ((spec_l5Proto.f aa5).bind fun t158 => (spec_CmdFault.j0 k t128 t129 t130 t131 (!t158) aa0 aa1 aa2 aa3 aa4 aa5)) else (spec_CmdFault.j0 k t128 t129 t130 t131 false aa0 aa1 aa2 aa3 aa4 aa5)) else (spec_CmdFault.j0 k t128 t129 t130 t131 true aa0 aa1 aa2 aa3 aa4 aa5))) else (if t131 = true then ((spec_l5Proto.f aa5).bind fun t159 => (spec_CmdFault.j0 k t128 t129 t130 t131 (!t159) aa0 aa1 aa2 aa3 aa4 aa5)) else (spec_CmdFault.j0 k t128 t129 t130 t131 false aa0 aa1 aa2 aa3 aa4 aa5))) else (spec_CmdFault.j0 k t128 t129 t130 t131 true aa0 aa1 aa2 aa3 aa4 aa5))) else (if t130 = true then ((spec_l5Number.f k aa0 aa1 aa2 aa3 aa4 aa5).bind fun t160 => (if t160 = true then (if t131 = true then ((spec_l5Proto.f aa5).bind fun t161 => (spec_CmdFault.j0 k t128 t129 t130 t131 (!t161) aa0 aa1 aa2 aa3 aa4 aa5)) else (spec_CmdFault.j0 k t128 t129 t130 t131 false aa0 aa1 aa2 aa3 aa4 aa5)) else (spec_CmdFault.j0 k t128 t129 t130 t131 true aa0 aa1 aa2 aa3 aa4 aa5))) else (if t131 = true then ((spec_l5Proto.f aa5).bind fun t162 => (spec_CmdFault.j0 k t128 t129 t130 t131 (!t162) aa0 aa1 aa2 aa3 aa4 aa5)) else (spec_CmdFault.j0 k t128 t129 t130 t131 false aa0 aa1 aa2 aa3 aa4 aa5))))) else (spec_CmdFault.j0 k t128 t129 t130 t131 true aa0 aa1 aa2 aa3 aa4 aa5)) = some r := H
        have A85 := am A850
        clear A850
        by_cases c86 : t147 = true
        · subst c86
          have H1 : (if t128 = true then ((spec_l3Name.f aa2).bind fun t148 => (if t148 = true then (if t129 = true then ((spec_l2Address.f aa3).bind fun t149 => (if t149 = true then (if t130 = true then ((spec_l5Number.f k aa0 aa1 aa2 aa3 aa4 aa5).bind fun t150 => (if t150 = true then (if t131 = true then ((spec_l5Proto.f aa5).bind fun t151 => (spec_CmdFault.j0 k t128 t129 t130 t131 (!t151) aa0 aa1 aa2 aa3 aa4 aa5)) else (spec_CmdFault.j0 k t128 t129 t130 t131 false aa0 aa1 aa2 aa3 aa4 aa5)) else (spec_CmdFault.j0 k t128 t129 t130 t131 true aa0 aa1 aa2 aa3 aa4 aa5))) else (if t131 = true then ((spec_l5Proto.f aa5).bind fun t152 => (spec_CmdFault.j0 k t128 t129 t130 t131 (!t152) aa0 aa1 aa2 aa3 aa4 aa5)) else (spec_CmdFault.j0 k t128 t129 t130 t131 false aa0 aa1 aa2 aa3 aa4 aa5))) else (spec_CmdFault.j0 k t128 t129 t130 t131 true aa0 aa1 aa2 aa3 aa4 aa5))) else (if t130 = true then ((spec_l5Number.f k aa0 aa1 aa2 aa3 aa4 aa5).bind fun t153 => (if t153 = true then (if t131 = true then ((spec_l5Proto.f aa5).bind fun t154 => (spec_CmdFault.j0 k t128 t129 t130 t131 (!t154) aa0 aa1 aa2 aa3 aa4 aa5)) else (spec_CmdFault.j0 k t128 t129 t130 t131 false aa0 aa1 aa2 aa3 aa4 aa5)) else (spec_CmdFault.j0 k t128 t129 t130 t131 true aa0 aa1 aa2 aa3 aa4 aa5))) else (if t131 = true then ((spec_l5Proto.f aa5).bind fun t155 => (spec_CmdFault.j0 k t128 t129 t130 t131 (!t155) aa0 aa1 aa2 aa3 aa4 aa5)) else (spec_CmdFault.j0 k t128 t129 t130 t131 false aa0 aa1 aa2 aa3 aa4 aa5)))) else (spec_CmdFault.j0 k t128 t129 t130 t131 true aa0 aa1 aa2 aa3 aa4 aa5))) else (if t129 = true then ((spec_l2Address.f aa3).bind fun t156 => (if t156 = true then (if t130 = true then ((spec_l5Number.f k aa0 aa1 aa2 aa3 aa4 aa5).bind fun t157 => (if t157 = true then (if t131 = true then ((spec_l5Proto.f aa5).bind fun t158 => (spec_CmdFault.j0 k t128 t129 t130 t131 (!t158) aa0 aa1 aa2 aa3 aa4 aa5)) else (spec_CmdFault.j0 k t128 t129 t130 t131 false aa0 aa1 aa2 aa3 aa4 aa5)) else (spec_CmdFault.j0 k t128 t129 t130 t131 true aa0 aa1 aa2 aa3 aa4 aa5))) else (if t131 = true then ((spec_l5Proto.f aa5).bind fun t159 => (spec_CmdFault.j0 k t128 t129 t130 t131 (!t159) aa0 aa1 aa2 aa3 aa4 aa5)) else (spec_CmdFault.j0 k t128 t129 t130 t131 false aa0 aa1 aa2 aa3 aa4 aa5))) else (spec_CmdFault.j0 k t128 t129 t130 t131 true aa0 aa1 aa2 aa3 aa4 aa5))) else (if t130 = true then ((spec_l5Number.f k aa0 aa1 aa2 aa3 aa4 aa5).bind fun t160 => (if t160 = true then (if t131 = true then ((spec_l5Proto.f aa5).bind fun t161 => (spec_CmdFault.j0 k t128 t129 t130 t131 (!t161) aa0 aa1 aa2 aa3 aa4 aa5)) else (spec_CmdFault.j0 k t128 t129 t130 t131 false aa0 aa1 aa2 aa3 aa4 aa5)) else (spec_CmdFault.j0 k t128 t129 t130 t131 true aa0 aa1 aa2 aa3 aa4 aa5))) else (if t131 = true then ((spec_l5Proto.f aa5).bind fun t162 => (spec_CmdFault.j0 k t128 t129 t130 t131 (!t162) aa0 aa1 aa2 aa3 aa4 aa5)) else (spec_CmdFault.j0 k t128 t129 t130 t131 false aa0 aa1 aa2 aa3 aa4 aa5))))) = some r := by rw [if_pos rfl] at H; exact H
          clear H
          have H := H1
          clear H1
          by_cases c87 : t128 = true
          · subst c87
            have H1 : ((spec_l3Name.f aa2).bind fun t148 => (if t148 = true then (if t129 = true then ((spec_l2Address.f aa3).bind fun t149 => (if t149 = true then (if t130 = true then ((spec_l5Number.f k aa0 aa1 aa2 aa3 aa4 aa5).bind fun t150 => (if t150 = true then (if t131 = true then ((spec_l5Proto.f aa5).bind fun t151 => (spec_CmdFault.j0 k true t129 t130 t131 (!t151) aa0 aa1 aa2 aa3 aa4 aa5)) else (spec_CmdFault.j0 k true t129 t130 t131 false aa0 aa1 aa2 aa3 aa4 aa5)) else (spec_CmdFault.j0 k true t129 t130 t131 true aa0 aa1 aa2 aa3 aa4 aa5))) else (if t131 = true then ((spec_l5Proto.f aa5).bind fun t152 => (spec_CmdFault.j0 k true t129 t130 t131 (!t152) aa0 aa1 aa2 aa3 aa4 aa5)) else (spec_CmdFault.j0 k true t129 t130 t131 false aa0 aa1 aa2 aa3 aa4 aa5))) else (spec_CmdFault.j0 k true t129 t130 t131 true aa0 aa1 aa2 aa3 aa4 aa5))) else (if t130 = true then ((spec_l5Number.f k aa0 aa1 aa2 aa3 aa4 aa5).bind fun t153 => (if t153 = true then (if t131 = true then ((spec_l5Proto.f aa5).bind fun t154 => (spec_CmdFault.j0 k true t129 t130 t131 (!t154) aa0 aa1 aa2 aa3 aa4 aa5)) else (spec_CmdFault.j0 k true t129 t130 t131 false aa0 aa1 aa2 aa3 aa4 aa5)) else (spec_CmdFault.j0 k true t129 t130 t131 true aa0 aa1 aa2 aa3 aa4 aa5))) else (if t131 = true then ((spec_l5Proto.f aa5).bind fun t155 => (spec_CmdFault.j0 k true t129 t130 t131 (!t155) aa0 aa1 aa2 aa3 aa4 aa5)) else (spec_CmdFault.j0 k true t129 t130 t131 false aa0 aa1 aa2 aa3 aa4 aa5)))) else (spec_CmdFault.j0 k true t129 t130 t131 true aa0 aa1 aa2 aa3 aa4 aa5))) = some r := by rw [if_pos rfl] at H; exact H
            clear H
            have H := H1
            clear H1
            replace H := Option.bind_eq_some_iff.mp H
            obtain ⟨t148, A880, H⟩ := H
            replace H : (if t148 = true then (if t129 = true then ((spec_l2Address.f aa3).bind fun t149 => (if t149 = true then (if t130 = true then ((spec_l5Number.f k aa0 aa1 aa2 aa3 aa4 aa5).bind fun t150 => (if t150 = true then (if t131 = true then ((spec_l5Proto.f aa5).bind fun t151 => (spec_CmdFault.j0 k true t129 t130 t131 (!t151) aa0 aa1 aa2 aa3 aa4 aa5)) else (spec_CmdFault.j0 k true t129 t130 t131 false aa0 aa1 aa2 aa3 aa4 aa5)) else (spec_CmdFault.j0 k true t129 t130 t131 true aa0 aa1 aa2 aa3 aa4 aa5))) else (if t131 = true then ((spec_l5Proto.f aa5).bind fun t152 => (spec_CmdFault.j0 k true t129 t130 t131 (!t152) aa0 aa1 aa2 aa3 aa4 aa5)) else (spec_CmdFault.j0 k true t129 t130 t131 false aa0 aa1 aa2 aa3 aa4 aa5))) else (spec_CmdFault.j0 k true t129 t130 t131 true aa0 aa1 aa2 aa3 aa4 aa5))) else (if t130 = true then ((spec_l5Number.f k aa0 aa1 aa2 aa3 aa4 aa5).bind fun t153 => (if t153 = true then (if t131 = true then ((spec_l5Proto.f aa5).bind fun t154 => (spec_CmdFault.j0 k true t129 t130 t131 (!t154) aa0 aa1 aa2 aa3 aa4 aa5)) else (spec_CmdFault.j0 k true t129 t130 t131 false aa0 aa1 aa2 aa3 aa4 aa5)) else (spec_CmdFault.j0 k true t129 t130 t131 true aa0 aa1 aa2 aa3 aa4 aa5))) else (if t131 = true then ((spec_l5Proto.f aa5).bind fun t155 => (spec_CmdFault.j0 k true t129 t130 t131 (!t155) aa0 aa1 aa2 aa3 aa4 aa5)) else (spec_CmdFault.j0 k true t129 t130 t131 false aa0 aa1 aa2 aa3 aa4 aa5)))) else (spec_CmdFault.j0 k true t129 t130 t131 true aa0 aa1 aa2 aa3 aa4 aa5)) = some r := H
            have A88 := am A880
            clear A880
            by_cases c89 : t148 = true
            · subst c89
              have H1 : (if t129 = true then ((spec_l2Address.f aa3).bind fun t149 => (if t149 = true then (if t130 = true then ((spec_l5Number.f k aa0 aa1 aa2 aa3 aa4 aa5).bind fun t150 => (if t150 = true then (if t131 = true then ((spec_l5Proto.f aa5).bind fun t151 => (spec_CmdFault.j0 k true t129 t130 t131 (!t151) aa0 aa1 aa2 aa3 aa4 aa5)) else (spec_CmdFault.j0 k true t129 t130 t131 false aa0 aa1 aa2 aa3 aa4 aa5)) else (spec_CmdFault.j0 k true t129 t130 t131 true aa0 aa1 aa2 aa3 aa4 aa5))) else (if t131 = true then ((spec_l5Proto.f aa5).bind fun t152 => (spec_CmdFault.j0 k true t129 t130 t131 (!t152) aa0 aa1 aa2 aa3 aa4 aa5)) else (spec_CmdFault.j0 k true t129 t130 t131 false aa0 aa1 aa2 aa3 aa4 aa5))) else (spec_CmdFault.j0 k true t129 t130 t131 true aa0 aa1 aa2 aa3 aa4 aa5))) else (if t130 = true then ((spec_l5Number.f k aa0 aa1 aa2 aa3 aa4 aa5).bind fun t153 => (if t153 = true then (if t131 = true then ((spec_l5Proto.f aa5).bind fun t154 => (spec_CmdFault.j0 k true t129 t130 t131 (!t154) aa0 aa1 aa2 aa3 aa4 aa5)) else (spec_CmdFault.j0 k true t129 t130 t131 false aa0 aa1 aa2 aa3 aa4 aa5)) else (spec_CmdFault.j0 k true t129 t130 t131 true aa0 aa1 aa2 aa3 aa4 aa5))) else (if t131 = true then ((spec_l5Proto.f aa5).bind fun t155 => (spec_CmdFault.j0 k true t129 t130 t131 (!t155) aa0 aa1 aa2 aa3 aa4 aa5)) else (spec_CmdFault.j0 k true t129 t130 t131 false aa0 aa1 aa2 aa3 aa4 aa5)))) = some r := by rw [if_pos rfl] at H; exact H
              clear H
              have H := H1
              clear H1
              by_cases c90 : t129 = true
              · subst c90
                have H1 : ((spec_l2Address.f aa3).bind fun t149 => (if t149 = true then (if t130 = true then ((spec_l5Number.f k aa0 aa1 aa2 aa3 aa4 aa5).bind fun t150 => (if t150 = true then (if t131 = true then ((spec_l5Proto.f aa5).bind fun t151 => (spec_CmdFault.j0 k true true t130 t131 (!t151) aa0 aa1 aa2 aa3 aa4 aa5)) else (spec_CmdFault.j0 k true true t130 t131 false aa0 aa1 aa2 aa3 aa4 aa5)) else (spec_CmdFault.j0 k true true t130 t131 true aa0 aa1 aa2 aa3 aa4 aa5))) else (if t131 = true then ((spec_l5Proto.f aa5).bind fun t152 => (spec_CmdFault.j0 k true true t130 t131 (!t152) aa0 aa1 aa2 aa3 aa4 aa5)) else (spec_CmdFault.j0 k true true t130 t131 false aa0 aa1 aa2 aa3 aa4 aa5))) else (spec_CmdFault.j0 k true true t130 t131 true aa0 aa1 aa2 aa3 aa4 aa5))) = some r := by rw [if_pos rfl] at H; exact H
                clear H
                have H := H1
                clear H1
                replace H := Option.bind_eq_some_iff.mp H
                obtain ⟨t149, A910, H⟩ := H
                replace H : (if t149 = true then (if t130 = true then ((spec_l5Number.f k aa0 aa1 aa2 aa3 aa4 aa5).bind fun t150 => (if t150 = true then (if t131 = true then ((spec_l5Proto.f aa5).bind fun t151 => (spec_CmdFault.j0 k true true t130 t131 (!t151) aa0 aa1 aa2 aa3 aa4 aa5)) else (spec_CmdFault.j0 k true true t130 t131 false aa0 aa1 aa2 aa3 aa4 aa5)) else (spec_CmdFault.j0 k true true t130 t131 true aa0 aa1 aa2 aa3 aa4 aa5))) else (if t131 = true then ((spec_l5Proto.f aa5).bind fun t152 => (spec_CmdFault.j0 k true true t130 t131 (!t152) aa0 aa1 aa2 aa3 aa4 aa5)) else (spec_CmdFault.j0 k true true t130 t131 false aa0 aa1 aa2 aa3 aa4 aa5))) else (spec_CmdFault.j0 k true true t130 t131 true aa0 aa1 aa2 aa3 aa4 aa5)) = some r := H
                have A91 := am A910
                clear A910
                by_cases c92 : t149 = true
                · subst c92
                  have H1 : (if t130 = true then ((spec_l5Number.f k aa0 aa1 aa2 aa3 aa4 aa5).bind fun t150 => (if t150 = true then (if t131 = true then ((spec_l5Proto.f aa5).bind fun t151 => (spec_CmdFault.j0 k true true t130 t131 (!t151) aa0 aa1 aa2 aa3 aa4 aa5)) else (spec_CmdFault.j0 k true true t130 t131 false aa0 aa1 aa2 aa3 aa4 aa5)) else (spec_CmdFault.j0 k true true t130 t131 true aa0 aa1 aa2 aa3 aa4 aa5))) else (if t131 = true then ((spec_l5Proto.f aa5).bind fun t152 => (spec_CmdFault.j0 k true true t130 t131 (!t152) aa0 aa1 aa2 aa3 aa4 aa5)) else (spec_CmdFault.j0 k true true t130 t131 false aa0 aa1 aa2 aa3 aa4 aa5))) = some r := by rw [if_pos rfl] at H; exact H
                  clear H
                  have H := H1
                  clear H1
                  by_cases c93 : t130 = true
                  · subst c93
                    have H1 : ((spec_l5Number.f k aa0 aa1 aa2 aa3 aa4 aa5).bind fun t150 => (if t150 = true then (if t131 = true then ((spec_l5Proto.f aa5).bind fun t151 => (spec_CmdFault.j0 k true true true t131 (!t151) aa0 aa1 aa2 aa3 aa4 aa5)) else (spec_CmdFault.j0 k true true true t131 false aa0 aa1 aa2 aa3 aa4 aa5)) else (spec_CmdFault.j0 k true true true t131 true aa0 aa1 aa2 aa3 aa4 aa5))) = some r := by rw [if_pos rfl] at H; exact H
                    clear H
                    have H := H1
                    clear H1
                    replace H := Option.bind_eq_some_iff.mp H
                    obtain ⟨t150, A940, H⟩ := H
                    replace H : (if t150 = true then (if t131 = true then ((spec_l5Proto.f aa5).bind fun t151 => (spec_CmdFault.j0 k true true true t131 (!t151) aa0 aa1 aa2 aa3 aa4 aa5)) else (spec_CmdFault.j0 k true true true t131 false aa0 aa1 aa2 aa3 aa4 aa5)) else (spec_CmdFault.j0 k true true true t131 true aa0 aa1 aa2 aa3 aa4 aa5)) = some r := H
                    have A94 := am A940
                    clear A940
                    by_cases c95 : t150 = true
                    · subst c95
                      have H1 : (if t131 = true then ((spec_l5Proto.f aa5).bind fun t151 => (spec_CmdFault.j0 k true true true t131 (!t151) aa0 aa1 aa2 aa3 aa4 aa5)) else (spec_CmdFault.j0 k true true true t131 false aa0 aa1 aa2 aa3 aa4 aa5)) = some r := by rw [if_pos rfl] at H; exact H
                      clear H
                      have H := H1
                      clear H1
                      by_cases c96 : t131 = true
                      · subst c96
                        have H1 : ((spec_l5Proto.f aa5).bind fun t151 => (spec_CmdFault.j0 k true true true true (!t151) aa0 aa1 aa2 aa3 aa4 aa5)) = some r := by rw [if_pos rfl] at H; exact H
                        clear H
                        have H := H1
                        clear H1
                        replace H := Option.bind_eq_some_iff.mp H
                        obtain ⟨t151, A970, H⟩ := H
                        replace H : (spec_CmdFault.j0 k true true true true (!t151) aa0 aa1 aa2 aa3 aa4 aa5) = some r := H
                        have A97 := am A970
                        clear A970
                        have H' := am H
                        clear H
                        have hcz98_0 : w6.cell? ⟨g126, 0, none⟩ = some (I q aa0) := (bc B126.out 0).trans rfl
                        have hcz98_1 : w6.cell? ⟨g126, 1, none⟩ = some (I q aa1) := (bc B126.out 1).trans rfl
                        have hcz98_2 : w6.cell? ⟨g126, 2, none⟩ = some (I q aa2) := (bc B126.out 2).trans rfl
                        have hcz98_3 : w6.cell? ⟨g126, 3, none⟩ = some (I q aa3) := (bc B126.out 3).trans rfl
                        have hcz98_4 : w6.cell? ⟨g126, 4, none⟩ = some (I q aa4) := (bc B126.out 4).trans rfl
                        have hcz98_5 : w6.cell? ⟨g126, 5, none⟩ = some (I q aa5) := (bc B126.out 5).trans rfl
                        have hfz98_0 := bf B126.out 0
                        have hfz98_1 := bf B126.out 1
                        have hfz98_2 := bf B126.out 2
                        have hfz98_3 := bf B126.out 3
                        have hfz98_4 := bf B126.out 4
                        have hfz98_5 := bf B126.out 5
                        go_wp2_with (first | (go_at_call 71; (with_reducible refine (spec_l5Version.calls aa1 true _ A85.out).mono ?_); rintro e w' ⟨rfl, ⟨nd, rfl⟩⟩) | (go_at_call 72; (with_reducible refine (spec_l3Name.calls aa2 true _ A88.out).mono ?_); rintro e w' ⟨rfl, ⟨nd, rfl⟩⟩) | (go_at_call 73; (with_reducible refine (spec_l2Address.calls aa3 true _ A91.out).mono ?_); rintro e w' ⟨rfl, ⟨nd, rfl⟩⟩) | (go_at_call 74; (with_reducible refine (spec_l5Number.calls k aa0 aa1 aa2 aa3 aa4 aa5 true _ A94.out).mono ?_); rintro e w99 ⟨rfl, hb⟩; have N0 := am (bb (g := g126) (by (with_reducible repeat (first | apply bN | apply bd | apply ba)); exact B126.out) hb); have N1 := am (bp (by repeat (first | (with_reducible first | exact HB.out | apply pa | apply pN | apply p1 | refine bs ?_ E126.out) | exact HB.out)) hb); clear B126 HB; have B126 := N0; have HB := N1; clear N0 N1; (try clear hb); (try clear hb2); (try clear hk); (try clear hi); have hcz100_0 : w99.cell? ⟨g126, 0, none⟩ = some (I q aa0) := (bc B126.out 0).trans rfl; have hcz100_1 : w99.cell? ⟨g126, 1, none⟩ = some (I q aa1) := (bc B126.out 1).trans rfl; have hcz100_2 : w99.cell? ⟨g126, 2, none⟩ = some (I q aa2) := (bc B126.out 2).trans rfl; have hcz100_3 : w99.cell? ⟨g126, 3, none⟩ = some (I q aa3) := (bc B126.out 3).trans rfl; have hcz100_4 : w99.cell? ⟨g126, 4, none⟩ = some (I q aa4) := (bc B126.out 4).trans rfl; have hcz100_5 : w99.cell? ⟨g126, 5, none⟩ = some (I q aa5) := (bc B126.out 5).trans rfl; have hfz100_0 := bf B126.out 0; have hfz100_1 := bf B126.out 1; have hfz100_2 := bf B126.out 2; have hfz100_3 := bf B126.out 3; have hfz100_4 := bf B126.out 4; have hfz100_5 := bf B126.out 5) | (go_at_call 75; (with_reducible refine (spec_l5Proto.calls aa5 t151 _ A97.out).mono ?_); rintro e w' ⟨rfl, ⟨nd, rfl⟩⟩))
                        go_meet
                        case rel => exact ⟨_, (!t151), (by first | rfl | (simp; done) | (simp [*]; done)), H', ⟨by first | omega | exact Nat.le_refl _⟩, ⟨by (with_reducible repeat (first | apply bN | apply bd | apply ba)); exact B126.out⟩, ⟨by repeat (first | (with_reducible first | exact HB.out | apply pa | apply pN | apply p1 | refine bs ?_ E126.out) | exact HB.out)⟩⟩
                      · replace c96 := Bool.eq_false_iff.mpr c96
                        subst c96
                        have H1 : (spec_CmdFault.j0 k true true true false false aa0 aa1 aa2 aa3 aa4 aa5) = some r := by rw [if_neg (show ¬ (false = true) by decide)] at H; exact H
                        clear H
                        have H := H1
                        clear H1
                        have H' := am H
                        clear H
                        have hcz101_0 : w6.cell? ⟨g126, 0, none⟩ = some (I q aa0) := (bc B126.out 0).trans rfl
                        have hcz101_1 : w6.cell? ⟨g126, 1, none⟩ = some (I q aa1) := (bc B126.out 1).trans rfl
                        have hcz101_2 : w6.cell? ⟨g126, 2, none⟩ = some (I q aa2) := (bc B126.out 2).trans rfl
                        have hcz101_3 : w6.cell? ⟨g126, 3, none⟩ = some (I q aa3) := (bc B126.out 3).trans rfl
                        have hcz101_4 : w6.cell? ⟨g126, 4, none⟩ = some (I q aa4) := (bc B126.out 4).trans rfl
                        have hcz101_5 : w6.cell? ⟨g126, 5, none⟩ = some (I q aa5) := (bc B126.out 5).trans rfl
                        have hfz101_0 := bf B126.out 0
                        have hfz101_1 := bf B126.out 1
                        have hfz101_2 := bf B126.out 2
                        have hfz101_3 := bf B126.out 3
                        have hfz101_4 := bf B126.out 4
                        have hfz101_5 := bf B126.out 5
                        go_wp2_with (first | (go_at_call 71; (with_reducible refine (spec_l5Version.calls aa1 true _ A85.out).mono ?_); rintro e w' ⟨rfl, ⟨nd, rfl⟩⟩) | (go_at_call 72; (with_reducible refine (spec_l3Name.calls aa2 true _ A88.out).mono ?_); rintro e w' ⟨rfl, ⟨nd, rfl⟩⟩) | (go_at_call 73; (with_reducible refine (spec_l2Address.calls aa3 true _ A91.out).mono ?_); rintro e w' ⟨rfl, ⟨nd, rfl⟩⟩) | (go_at_call 74; (with_reducible refine (spec_l5Number.calls k aa0 aa1 aa2 aa3 aa4 aa5 true _ A94.out).mono ?_); rintro e w102 ⟨rfl, hb⟩; have N0 := am (bb (g := g126) (by (with_reducible repeat (first | apply bN | apply bd | apply ba)); exact B126.out) hb); have N1 := am (bp (by repeat (first | (with_reducible first | exact HB.out | apply pa | apply pN | apply p1 | refine bs ?_ E126.out) | exact HB.out)) hb); clear B126 HB; have B126 := N0; have HB := N1; clear N0 N1; (try clear hb); (try clear hb2); (try clear hk); (try clear hi)))
                        go_meet
                        case rel => exact ⟨_, (false), (by first | rfl | (simp; done) | (simp [*]; done)), H', ⟨by first | omega | exact Nat.le_refl _⟩, ⟨by (with_reducible repeat (first | apply bN | apply bd | apply ba)); exact B126.out⟩, ⟨by repeat (first | (with_reducible first | exact HB.out | apply pa | apply pN | apply p1 | refine bs ?_ E126.out) | exact HB.out)⟩⟩
                    · replace c95 := Bool.eq_false_iff.mpr c95
                      subst c95
                      have H1 : (spec_CmdFault.j0 k true true true t131 true aa0 aa1 aa2 aa3 aa4 aa5) = some r := by rw [if_neg (show ¬ (false = true) by decide)] at H; exact H
                      clear H
                      have H := H1
                      clear H1
                      have H' := am H
                      clear H
                      have hcz103_0 : w6.cell? ⟨g126, 0, none⟩ = some (I q aa0) := (bc B126.out 0).trans rfl
                      have hcz103_1 : w6.cell? ⟨g126, 1, none⟩ = some (I q aa1) := (bc B126.out 1).trans rfl
                      have hcz103_2 : w6.cell? ⟨g126, 2, none⟩ = some (I q aa2) := (bc B126.out 2).trans rfl
                      have hcz103_3 : w6.cell? ⟨g126, 3, none⟩ = some (I q aa3) := (bc B126.out 3).trans rfl
                      have hcz103_4 : w6.cell? ⟨g126, 4, none⟩ = some (I q aa4) := (bc B126.out 4).trans rfl
                      have hcz103_5 : w6.cell? ⟨g126, 5, none⟩ = some (I q aa5) := (bc B126.out 5).trans rfl
                      have hfz103_0 := bf B126.out 0
                      have hfz103_1 := bf B126.out 1
                      have hfz103_2 := bf B126.out 2
                      have hfz103_3 := bf B126.out 3
                      have hfz103_4 := bf B126.out 4
                      have hfz103_5 := bf B126.out 5
                      go_wp2_with (first | (go_at_call 71; (with_reducible refine (spec_l5Version.calls aa1 true _ A85.out).mono ?_); rintro e w' ⟨rfl, ⟨nd, rfl⟩⟩) | (go_at_call 72; (with_reducible refine (spec_l3Name.calls aa2 true _ A88.out).mono ?_); rintro e w' ⟨rfl, ⟨nd, rfl⟩⟩) | (go_at_call 73; (with_reducible refine (spec_l2Address.calls aa3 true _ A91.out).mono ?_); rintro e w' ⟨rfl, ⟨nd, rfl⟩⟩) | (go_at_call 74; (with_reducible refine (spec_l5Number.calls k aa0 aa1 aa2 aa3 aa4 aa5 false _ A94.out).mono ?_); rintro e w104 ⟨rfl, hb⟩; have N0 := am (bb (g := g126) (by (with_reducible repeat (first | apply bN | apply bd | apply ba)); exact B126.out) hb); have N1 := am (bp (by repeat (first | (with_reducible first | exact HB.out | apply pa | apply pN | apply p1 | refine bs ?_ E126.out) | exact HB.out)) hb); clear B126 HB; have B126 := N0; have HB := N1; clear N0 N1; (try clear hb); (try clear hb2); (try clear hk); (try clear hi)))
                      go_meet
                      case rel => exact ⟨_, (true), (by first | rfl | (simp; done) | (simp [*]; done)), H', ⟨by first | omega | exact Nat.le_refl _⟩, ⟨by (with_reducible repeat (first | apply bN | apply bd | apply ba)); exact B126.out⟩, ⟨by repeat (first | (with_reducible first | exact HB.out | apply pa | apply pN | apply p1 | refine bs ?_ E126.out) | exact HB.out)⟩⟩
                  · replace c93 := Bool.eq_false_iff.mpr c93
                    subst c93
                    have H1 : (if t131 = true then ((spec_l5Proto.f aa5).bind fun t152 => (spec_CmdFault.j0 k true true false t131 (!t152) aa0 aa1 aa2 aa3 aa4 aa5)) else (spec_CmdFault.j0 k true true false t131 false aa0 aa1 aa2 aa3 aa4 aa5)) = some r := by rw [if_neg (show ¬ (false = true) by decide)] at H; exact H
                    clear H
                    have H := H1
                    clear H1
                    by_cases c105 : t131 = true
                    · subst c105
                      have H1 : ((spec_l5Proto.f aa5).bind fun t152 => (spec_CmdFault.j0 k true true false true (!t152) aa0 aa1 aa2 aa3 aa4 aa5)) = some r := by rw [if_pos rfl] at H; exact H
                      clear H
                      have H := H1
                      clear H1
                      replace H := Option.bind_eq_some_iff.mp H
                      obtain ⟨t152, A1060, H⟩ := H
                      replace H : (spec_CmdFault.j0 k true true false true (!t152) aa0 aa1 aa2 aa3 aa4 aa5) = some r := H
                      have A106 := am A1060
                      clear A1060
                      have H' := am H
                      clear H
                      have hcz107_0 : w6.cell? ⟨g126, 0, none⟩ = some (I q aa0) := (bc B126.out 0).trans rfl
                      have hcz107_1 : w6.cell? ⟨g126, 1, none⟩ = some (I q aa1) := (bc B126.out 1).trans rfl
                      have hcz107_2 : w6.cell? ⟨g126, 2, none⟩ = some (I q aa2) := (bc B126.out 2).trans rfl
                      have hcz107_3 : w6.cell? ⟨g126, 3, none⟩ = some (I q aa3) := (bc B126.out 3).trans rfl
                      have hcz107_4 : w6.cell? ⟨g126, 4, none⟩ = some (I q aa4) := (bc B126.out 4).trans rfl
                      have hcz107_5 : w6.cell? ⟨g126, 5, none⟩ = some (I q aa5) := (bc B126.out 5).trans rfl
                      have hfz107_0 := bf B126.out 0
                      have hfz107_1 := bf B126.out 1
                      have hfz107_2 := bf B126.out 2
                      have hfz107_3 := bf B126.out 3
                      have hfz107_4 := bf B126.out 4
                      have hfz107_5 := bf B126.out 5
                      go_wp2_with (first | (go_at_call 71; (with_reducible refine (spec_l5Version.calls aa1 true _ A85.out).mono ?_); rintro e w' ⟨rfl, ⟨nd, rfl⟩⟩) | (go_at_call 72; (with_reducible refine (spec_l3Name.calls aa2 true _ A88.out).mono ?_); rintro e w' ⟨rfl, ⟨nd, rfl⟩⟩) | (go_at_call 73; (with_reducible refine (spec_l2Address.calls aa3 true _ A91.out).mono ?_); rintro e w' ⟨rfl, ⟨nd, rfl⟩⟩) | (go_at_call 75; (with_reducible refine (spec_l5Proto.calls aa5 t152 _ A106.out).mono ?_); rintro e w' ⟨rfl, ⟨nd, rfl⟩⟩))
                      go_meet
                      case rel => exact ⟨_, (!t152), (by first | rfl | (simp; done) | (simp [*]; done)), H', ⟨by first | omega | exact Nat.le_refl _⟩, ⟨by (with_reducible repeat (first | apply bN | apply bd | apply ba)); exact B126.out⟩, ⟨by repeat (first | (with_reducible first | exact HB.out | apply pa | apply pN | apply p1 | refine bs ?_ E126.out) | exact HB.out)⟩⟩
                    · replace c105 := Bool.eq_false_iff.mpr c105
                      subst c105
                      have H1 : (spec_CmdFault.j0 k true true false false false aa0 aa1 aa2 aa3 aa4 aa5) = some r := by rw [if_neg (show ¬ (false = true) by decide)] at H; exact H
                      clear H
                      have H := H1
                      clear H1
                      have H' := am H
                      clear H
                      have hcz108_0 : w6.cell? ⟨g126, 0, none⟩ = some (I q aa0) := (bc B126.out 0).trans rfl
                      have hcz108_1 : w6.cell? ⟨g126, 1, none⟩ = some (I q aa1) := (bc B126.out 1).trans rfl
                      have hcz108_2 : w6.cell? ⟨g126, 2, none⟩ = some (I q aa2) := (bc B126.out 2).trans rfl
                      have hcz108_3 : w6.cell? ⟨g126, 3, none⟩ = some (I q aa3) := (bc B126.out 3).trans rfl
                      have hcz108_4 : w6.cell? ⟨g126, 4, none⟩ = some (I q aa4) := (bc B126.out 4).trans rfl
                      have hcz108_5 : w6.cell? ⟨g126, 5, none⟩ = some (I q aa5) := (bc B126.out 5).trans rfl
                      have hfz108_0 := bf B126.out 0
                      have hfz108_1 := bf B126.out 1
                      have hfz108_2 := bf B126.out 2
                      have hfz108_3 := bf B126.out 3
                      have hfz108_4 := bf B126.out 4
                      have hfz108_5 := bf B126.out 5
                      go_wp2_with (first | (go_at_call 71; (with_reducible refine (spec_l5Version.calls aa1 true _ A85.out).mono ?_); rintro e w' ⟨rfl, ⟨nd, rfl⟩⟩) | (go_at_call 72; (with_reducible refine (spec_l3Name.calls aa2 true _ A88.out).mono ?_); rintro e w' ⟨rfl, ⟨nd, rfl⟩⟩) | (go_at_call 73; (with_reducible refine (spec_l2Address.calls aa3 true _ A91.out).mono ?_); rintro e w' ⟨rfl, ⟨nd, rfl⟩⟩))
                      go_meet
                      case rel => exact ⟨_, (false), (by first | rfl | (simp; done) | (simp [*]; done)), H', ⟨by first | omega | exact Nat.le_refl _⟩, ⟨by (with_reducible repeat (first | apply bN | apply bd | apply ba)); exact B126.out⟩, ⟨by repeat (first | (with_reducible first | exact HB.out | apply pa | apply pN | apply p1 | refine bs ?_ E126.out) | exact HB.out)⟩⟩
                · replace c92 := Bool.eq_false_iff.mpr c92
                  subst c92
                  have H1 : (spec_CmdFault.j0 k true true t130 t131 true aa0 aa1 aa2 aa3 aa4 aa5) = some r := by rw [if_neg (show ¬ (false = true) by decide)] at H; exact H
                  clear H
                  have H := H1
                  clear H1
                  have H' := am H
                  clear H
                  have hcz109_0 : w6.cell? ⟨g126, 0, none⟩ = some (I q aa0) := (bc B126.out 0).trans rfl
                  have hcz109_1 : w6.cell? ⟨g126, 1, none⟩ = some (I q aa1) := (bc B126.out 1).trans rfl
                  have hcz109_2 : w6.cell? ⟨g126, 2, none⟩ = some (I q aa2) := (bc B126.out 2).trans rfl
                  have hcz109_3 : w6.cell? ⟨g126, 3, none⟩ = some (I q aa3) := (bc B126.out 3).trans rfl
                  have hcz109_4 : w6.cell? ⟨g126, 4, none⟩ = some (I q aa4) := (bc B126.out 4).trans rfl
                  have hcz109_5 : w6.cell? ⟨g126, 5, none⟩ = some (I q aa5) := (bc B126.out 5).trans rfl
                  have hfz109_0 := bf B126.out 0
                  have hfz109_1 := bf B126.out 1
                  have hfz109_2 := bf B126.out 2
                  have hfz109_3 := bf B126.out 3
                  have hfz109_4 := bf B126.out 4
                  have hfz109_5 := bf B126.out 5
                  go_wp2_with (first | (go_at_call 71; (with_reducible refine (spec_l5Version.calls aa1 true _ A85.out).mono ?_); rintro e w' ⟨rfl, ⟨nd, rfl⟩⟩) | (go_at_call 72; (with_reducible refine (spec_l3Name.calls aa2 true _ A88.out).mono ?_); rintro e w' ⟨rfl, ⟨nd, rfl⟩⟩) | (go_at_call 73; (with_reducible refine (spec_l2Address.calls aa3 false _ A91.out).mono ?_); rintro e w' ⟨rfl, ⟨nd, rfl⟩⟩))
                  go_meet
                  case rel => exact ⟨_, (true), (by first | rfl | (simp; done) | (simp [*]; done)), H', ⟨by first | omega | exact Nat.le_refl _⟩, ⟨by (with_reducible repeat (first | apply bN | apply bd | apply ba)); exact B126.out⟩, ⟨by repeat (first | (with_reducible first | exact HB.out | apply pa | apply pN | apply p1 | refine bs ?_ E126.out) | exact HB.out)⟩⟩
              · replace c90 := Bool.eq_false_iff.mpr c90
                subst c90
                have H1 : (if t130 = true then ((spec_l5Number.f k aa0 aa1 aa2 aa3 aa4 aa5).bind fun t153 => (if t153 = true then (if t131 = true then ((spec_l5Proto.f aa5).bind fun t154 => (spec_CmdFault.j0 k true false t130 t131 (!t154) aa0 aa1 aa2 aa3 aa4 aa5)) else (spec_CmdFault.j0 k true false t130 t131 false aa0 aa1 aa2 aa3 aa4 aa5)) else (spec_CmdFault.j0 k true false t130 t131 true aa0 aa1 aa2 aa3 aa4 aa5))) else (if t131 = true then ((spec_l5Proto.f aa5).bind fun t155 => (spec_CmdFault.j0 k true false t130 t131 (!t155) aa0 aa1 aa2 aa3 aa4 aa5)) else (spec_CmdFault.j0 k true false t130 t131 false aa0 aa1 aa2 aa3 aa4 aa5))) = some r := by rw [if_neg (show ¬ (false = true) by decide)] at H; exact H
                clear H
                have H := H1
                clear H1
                by_cases c110 : t130 = true
                · subst c110
                  have H1 : ((spec_l5Number.f k aa0 aa1 aa2 aa3 aa4 aa5).bind fun t153 => (if t153 = true then (if t131 = true then ((spec_l5Proto.f aa5).bind fun t154 => (spec_CmdFault.j0 k true false true t131 (!t154) aa0 aa1 aa2 aa3 aa4 aa5)) else (spec_CmdFault.j0 k true false true t131 false aa0 aa1 aa2 aa3 aa4 aa5)) else (spec_CmdFault.j0 k true false true t131 true aa0 aa1 aa2 aa3 aa4 aa5))) = some r := by rw [if_pos rfl] at H; exact H
                  clear H
                  have H := H1
                  clear H1
                  replace H := Option.bind_eq_some_iff.mp H
                  obtain ⟨t153, A1110, H⟩ := H
                  replace H : (if t153 = true then (if t131 = true then ((spec_l5Proto.f aa5).bind fun t154 => (spec_CmdFault.j0 k true false true t131 (!t154) aa0 aa1 aa2 aa3 aa4 aa5)) else (spec_CmdFault.j0 k true false true t131 false aa0 aa1 aa2 aa3 aa4 aa5)) else (spec_CmdFault.j0 k true false true t131 true aa0 aa1 aa2 aa3 aa4 aa5)) = some r := H
                  have A111 := am A1110
                  clear A1110
                  by_cases c112 : t153 = true
                  · subst c112
                    have H1 : (if t131 = true then ((spec_l5Proto.f aa5).bind fun t154 => (spec_CmdFault.j0 k true false true t131 (!t154) aa0 aa1 aa2 aa3 aa4 aa5)) else (spec_CmdFault.j0 k true false true t131 false aa0 aa1 aa2 aa3 aa4 aa5)) = some r := by rw [if_pos rfl] at H; exact H
                    clear H
                    have H := H1
                    clear H1
                    by_cases c113 : t131 = true
                    · subst c113
                      have H1 : ((spec_l5Proto.f aa5).bind fun t154 => (spec_CmdFault.j0 k true false true true (!t154) aa0 aa1 aa2 aa3 aa4 aa5)) = some r := by rw [if_pos rfl] at H; exact H
                      clear H
                      have H := H1
                      clear H1
                      replace H := Option.bind_eq_some_iff.mp H
                      obtain ⟨t154, A1140, H⟩ := H
                      replace H : (spec_CmdFault.j0 k true false true true (!t154) aa0 aa1 aa2 aa3 aa4 aa5) = some r := H
                      have A114 := am A1140
                      clear A1140
                      have H' := am H
                      clear H
                      have hcz115_0 : w6.cell? ⟨g126, 0, none⟩ = some (I q aa0) := (bc B126.out 0).trans rfl
                      have hcz115_1 : w6.cell? ⟨g126, 1, none⟩ = some (I q aa1) := (bc B126.out 1).trans rfl
                      have hcz115_2 : w6.cell? ⟨g126, 2, none⟩ = some (I q aa2) := (bc B126.out 2).trans rfl
                      have hcz115_3 : w6.cell? ⟨g126, 3, none⟩ = some (I q aa3) := (bc B126.out 3).trans rfl
                      have hcz115_4 : w6.cell? ⟨g126, 4, none⟩ = some (I q aa4) := (bc B126.out 4).trans rfl
                      have hcz115_5 : w6.cell? ⟨g126, 5, none⟩ = some (I q aa5) := (bc B126.out 5).trans rfl
                      have hfz115_0 := bf B126.out 0
                      have hfz115_1 := bf B126.out 1
                      have hfz115_2 := bf B126.out 2
                      have hfz115_3 := bf B126.out 3
                      have hfz115_4 := bf B126.out 4
                      have hfz115_5 := bf B126.out 5
                      go_wp2_with (first | (go_at_call 71; (with_reducible refine (spec_l5Version.calls aa1 true _ A85.out).mono ?_); rintro e w' ⟨rfl, ⟨nd, rfl⟩⟩) | (go_at_call 72; (with_reducible refine (spec_l3Name.calls aa2 true _ A88.out).mono ?_); rintro e w' ⟨rfl, ⟨nd, rfl⟩⟩) | (go_at_call 74; (with_reducible refine (spec_l5Number.calls k aa0 aa1 aa2 aa3 aa4 aa5 true _ A111.out).mono ?_); rintro e w116 ⟨rfl, hb⟩; have N0 := am (bb (g := g126) (by (with_reducible repeat (first | apply bN | apply bd | apply ba)); exact B126.out) hb); have N1 := am (bp (by repeat (first | (with_reducible first | exact HB.out | apply pa | apply pN | apply p1 | refine bs ?_ E126.out) | exact HB.out)) hb); clear B126 HB; have B126 := N0; have HB := N1; clear N0 N1; (try clear hb); (try clear hb2); (try clear hk); (try clear hi); have hcz117_0 : w116.cell? ⟨g126, 0, none⟩ = some (I q aa0) := (bc B126.out 0).trans rfl; have hcz117_1 : w116.cell? ⟨g126, 1, none⟩ = some (I q aa1) := (bc B126.out 1).trans rfl; have hcz117_2 : w116.cell? ⟨g126, 2, none⟩ = some (I q aa2) := (bc B126.out 2).trans rfl; have hcz117_3 : w116.cell? ⟨g126, 3, none⟩ = some (I q aa3) := (bc B126.out 3).trans rfl; have hcz117_4 : w116.cell? ⟨g126, 4, none⟩ = some (I q aa4) := (bc B126.out 4).trans rfl; have hcz117_5 : w116.cell? ⟨g126, 5, none⟩ = some (I q aa5) := (bc B126.out 5).trans rfl; have hfz117_0 := bf B126.out 0; have hfz117_1 := bf B126.out 1; have hfz117_2 := bf B126.out 2; have hfz117_3 := bf B126.out 3; have hfz117_4 := bf B126.out 4; have hfz117_5 := bf B126.out 5) | (go_at_call 75; (with_reducible refine (spec_l5Proto.calls aa5 t154 _ A114.out).mono ?_); rintro e w' ⟨rfl, ⟨nd, rfl⟩⟩))
                      go_meet
                      case rel => exact ⟨_, (!t154), (by first | rfl | (simp; done) | (simp [*]; done)), H', ⟨by first | omega | exact Nat.le_refl _⟩, ⟨by (with_reducible repeat (first | apply bN | apply bd | apply ba)); exact B126.out⟩, ⟨by repeat (first | (with_reducible first | exact HB.out | apply pa | apply pN | apply p1 | refine bs ?_ E126.out) | exact HB.out)⟩⟩
                    · replace c113 := Bool.eq_false_iff.mpr c113
                      subst c113
                      have H1 : (spec_CmdFault.j0 k true false true false false aa0 aa1 aa2 aa3 aa4 aa5) = some r := by rw [if_neg (show ¬ (false = true) by decide)] at H; exact H
                      clear H
                      have H := H1
                      clear H1
                      have H' := am H
                      clear H
                      have hcz118_0 : w6.cell? ⟨g126, 0, none⟩ = some (I q aa0) := (bc B126.out 0).trans rfl
                      have hcz118_1 : w6.cell? ⟨g126, 1, none⟩ = some (I q aa1) := (bc B126.out 1).trans rfl
                      have hcz118_2 : w6.cell? ⟨g126, 2, none⟩ = some (I q aa2) := (bc B126.out 2).trans rfl
                      have hcz118_3 : w6.cell? ⟨g126, 3, none⟩ = some (I q aa3) := (bc B126.out 3).trans rfl
                      have hcz118_4 : w6.cell? ⟨g126, 4, none⟩ = some (I q aa4) := (bc B126.out 4).trans rfl
                      have hcz118_5 : w6.cell? ⟨g126, 5, none⟩ = some (I q aa5) := (bc B126.out 5).trans rfl
                      have hfz118_0 := bf B126.out 0
                      have hfz118_1 := bf B126.out 1
                      have hfz118_2 := bf B126.out 2
                      have hfz118_3 := bf B126.out 3
                      have hfz118_4 := bf B126.out 4
                      have hfz118_5 := bf B126.out 5
                      go_wp2_with (first | (go_at_call 71; (with_reducible refine (spec_l5Version.calls aa1 true _ A85.out).mono ?_); rintro e w' ⟨rfl, ⟨nd, rfl⟩⟩) | (go_at_call 72; (with_reducible refine (spec_l3Name.calls aa2 true _ A88.out).mono ?_); rintro e w' ⟨rfl, ⟨nd, rfl⟩⟩) | (go_at_call 74; (with_reducible refine (spec_l5Number.calls k aa0 aa1 aa2 aa3 aa4 aa5 true _ A111.out).mono ?_); rintro e w119 ⟨rfl, hb⟩; have N0 := am (bb (g := g126) (by (with_reducible repeat (first | apply bN | apply bd | apply ba)); exact B126.out) hb); have N1 := am (bp (by repeat (first | (with_reducible first | exact HB.out | apply pa | apply pN | apply p1 | refine bs ?_ E126.out) | exact HB.out)) hb); clear B126 HB; have B126 := N0; have HB := N1; clear N0 N1; (try clear hb); (try clear hb2); (try clear hk); (try clear hi)))
                      go_meet
                      case rel => exact ⟨_, (false), (by first | rfl | (simp; done) | (simp [*]; done)), H', ⟨by first | omega | exact Nat.le_refl _⟩, ⟨by (with_reducible repeat (first | apply bN | apply bd | apply ba)); exact B126.out⟩, ⟨by repeat (first | (with_reducible first | exact HB.out | apply pa | apply pN | apply p1 | refine bs ?_ E126.out) | exact HB.out)⟩⟩
                  · replace c112 := Bool.eq_false_iff.mpr c112
                    subst c112
                    have H1 : (spec_CmdFault.j0 k true false true t131 true aa0 aa1 aa2 aa3 aa4 aa5) = some r := by rw [if_neg (show ¬ (false = true) by decide)] at H; exact H
                    clear H
                    have H := H1
                    clear H1
                    have H' := am H
                    clear H
                    have hcz120_0 : w6.cell? ⟨g126, 0, none⟩ = some (I q aa0) := (bc B126.out 0).trans rfl
                    have hcz120_1 : w6.cell? ⟨g126, 1, none⟩ = some (I q aa1) := (bc B126.out 1).trans rfl
                    have hcz120_2 : w6.cell? ⟨g126, 2, none⟩ = some (I q aa2) := (bc B126.out 2).trans rfl
                    have hcz120_3 : w6.cell? ⟨g126, 3, none⟩ = some (I q aa3) := (bc B126.out 3).trans rfl
                    have hcz120_4 : w6.cell? ⟨g126, 4, none⟩ = some (I q aa4) := (bc B126.out 4).trans rfl
                    have hcz120_5 : w6.cell? ⟨g126, 5, none⟩ = some (I q aa5) := (bc B126.out 5).trans rfl
                    have hfz120_0 := bf B126.out 0
                    have hfz120_1 := bf B126.out 1
                    have hfz120_2 := bf B126.out 2
                    have hfz120_3 := bf B126.out 3
                    have hfz120_4 := bf B126.out 4
                    have hfz120_5 := bf B126.out 5
                    go_wp2_with (first | (go_at_call 71; (with_reducible refine (spec_l5Version.calls aa1 true _ A85.out).mono ?_); rintro e w' ⟨rfl, ⟨nd, rfl⟩⟩) | (go_at_call 72; (with_reducible refine (spec_l3Name.calls aa2 true _ A88.out).mono ?_); rintro e w' ⟨rfl, ⟨nd, rfl⟩⟩) | (go_at_call 74; (with_reducible refine (spec_l5Number.calls k aa0 aa1 aa2 aa3 aa4 aa5 false _ A111.out).mono ?_); rintro e w121 ⟨rfl, hb⟩; have N0 := am (bb (g := g126) (by (with_reducible repeat (first | apply bN | apply bd | apply ba)); exact B126.out) hb); have N1 := am (bp (by repeat (first | (with_reducible first | exact HB.out | apply pa | apply pN | apply p1 | refine bs ?_ E126.out) | exact HB.out)) hb); clear B126 HB; have B126 := N0; have HB := N1; clear N0 N1; (try clear hb); (try clear hb2); (try clear hk); (try clear hi)))
                    go_meet
                    case rel => exact ⟨_, (true), (by first | rfl | (simp; done) | (simp [*]; done)), H', ⟨by first | omega | exact Nat.le_refl _⟩, ⟨by (with_reducible repeat (first | apply bN | apply bd | apply ba)); exact B126.out⟩, ⟨by repeat (first | (with_reducible first | exact HB.out | apply pa | apply pN | apply p1 | refine bs ?_ E126.out) | exact HB.out)⟩⟩
                · replace c110 := Bool.eq_false_iff.mpr c110
                  subst c110
                  have H1 : (if t131 = true then ((spec_l5Proto.f aa5).bind fun t155 => (spec_CmdFault.j0 k true false false t131 (!t155) aa0 aa1 aa2 aa3 aa4 aa5)) else (spec_CmdFault.j0 k true false false t131 false aa0 aa1 aa2 aa3 aa4 aa5)) = some r := by rw [if_neg (show ¬ (false = true) by decide)] at H; exact H
                  clear H
                  have H := H1
                  clear H1
                  by_cases c122 : t131 = true
                  · subst c122
                    have H1 : ((spec_l5Proto.f aa5).bind fun t155 => (spec_CmdFault.j0 k true false false true (!t155) aa0 aa1 aa2 aa3 aa4 aa5)) = some r := by rw [if_pos rfl] at H; exact H
                    clear H
                    have H := H1
                    clear H1
                    replace H := Option.bind_eq_some_iff.mp H
                    obtain ⟨t155, A1230, H⟩ := H
                    replace H : (spec_CmdFault.j0 k true false false true (!t155) aa0 aa1 aa2 aa3 aa4 aa5) = some r := H
                    have A123 := am A1230
                    clear A1230
                    have H' := am H
                    clear H
                    have hcz124_0 : w6.cell? ⟨g126, 0, none⟩ = some (I q aa0) := (bc B126.out 0).trans rfl
                    have hcz124_1 : w6.cell? ⟨g126, 1, none⟩ = some (I q aa1) := (bc B126.out 1).trans rfl
                    have hcz124_2 : w6.cell? ⟨g126, 2, none⟩ = some (I q aa2) := (bc B126.out 2).trans rfl
                    have hcz124_3 : w6.cell? ⟨g126, 3, none⟩ = some (I q aa3) := (bc B126.out 3).trans rfl
                    have hcz124_4 : w6.cell? ⟨g126, 4, none⟩ = some (I q aa4) := (bc B126.out 4).trans rfl
                    have hcz124_5 : w6.cell? ⟨g126, 5, none⟩ = some (I q aa5) := (bc B126.out 5).trans rfl
                    have hfz124_0 := bf B126.out 0
                    have hfz124_1 := bf B126.out 1
                    have hfz124_2 := bf B126.out 2
                    have hfz124_3 := bf B126.out 3
                    have hfz124_4 := bf B126.out 4
                    have hfz124_5 := bf B126.out 5
                    go_wp2_with (first | (go_at_call 71; (with_reducible refine (spec_l5Version.calls aa1 true _ A85.out).mono ?_); rintro e w' ⟨rfl, ⟨nd, rfl⟩⟩) | (go_at_call 72; (with_reducible refine (spec_l3Name.calls aa2 true _ A88.out).mono ?_); rintro e w' ⟨rfl, ⟨nd, rfl⟩⟩) | (go_at_call 75; (with_reducible refine (spec_l5Proto.calls aa5 t155 _ A123.out).mono ?_); rintro e w' ⟨rfl, ⟨nd, rfl⟩⟩))
                    go_meet
                    case rel => exact ⟨_, (!t155), (by first | rfl | (simp; done) | (simp [*]; done)), H', ⟨by first | omega | exact Nat.le_refl _⟩, ⟨by (with_reducible repeat (first | apply bN | apply bd | apply ba)); exact B126.out⟩, ⟨by repeat (first | (with_reducible first | exact HB.out | apply pa | apply pN | apply p1 | refine bs ?_ E126.out) | exact HB.out)⟩⟩
                  · replace c122 := Bool.eq_false_iff.mpr c122
                    subst c122
                    have H1 : (spec_CmdFault.j0 k true false false false false aa0 aa1 aa2 aa3 aa4 aa5) = some r := by rw [if_neg (show ¬ (false = true) by decide)] at H; exact H
                    clear H
                    have H := H1
                    clear H1
                    have H' := am H
                    clear H
                    have hcz125_0 : w6.cell? ⟨g126, 0, none⟩ = some (I q aa0) := (bc B126.out 0).trans rfl
                    have hcz125_1 : w6.cell? ⟨g126, 1, none⟩ = some (I q aa1) := (bc B126.out 1).trans rfl
                    have hcz125_2 : w6.cell? ⟨g126, 2, none⟩ = some (I q aa2) := (bc B126.out 2).trans rfl
                    have hcz125_3 : w6.cell? ⟨g126, 3, none⟩ = some (I q aa3) := (bc B126.out 3).trans rfl
                    have hcz125_4 : w6.cell? ⟨g126, 4, none⟩ = some (I q aa4) := (bc B126.out 4).trans rfl
                    have hcz125_5 : w6.cell? ⟨g126, 5, none⟩ = some (I q aa5) := (bc B126.out 5).trans rfl
                    have hfz125_0 := bf B126.out 0
                    have hfz125_1 := bf B126.out 1
                    have hfz125_2 := bf B126.out 2
                    have hfz125_3 := bf B126.out 3
                    have hfz125_4 := bf B126.out 4
                    have hfz125_5 := bf B126.out 5
                    go_wp2_with (first | (go_at_call 71; (with_reducible refine (spec_l5Version.calls aa1 true _ A85.out).mono ?_); rintro e w' ⟨rfl, ⟨nd, rfl⟩⟩) | (go_at_call 72; (with_reducible refine (spec_l3Name.calls aa2 true _ A88.out).mono ?_); rintro e w' ⟨rfl, ⟨nd, rfl⟩⟩))
                    go_meet
                    case rel => exact ⟨_, (false), (by first | rfl | (simp; done) | (simp [*]; done)), H', ⟨by first | omega | exact Nat.le_refl _⟩, ⟨by (with_reducible repeat (first | apply bN | apply bd | apply ba)); exact B126.out⟩, ⟨by repeat (first | (with_reducible first | exact HB.out | apply pa | apply pN | apply p1 | refine bs ?_ E126.out) | exact HB.out)⟩⟩
            · replace c89 := Bool.eq_false_iff.mpr c89
              subst c89
              have H1 : (spec_CmdFault.j0 k true t129 t130 t131 true aa0 aa1 aa2 aa3 aa4 aa5) = some r := by rw [if_neg (show ¬ (false = true) by decide)] at H; exact H
              clear H
              have H := H1
              clear H1
              have H' := am H
              clear H
              have hcz126_0 : w6.cell? ⟨g126, 0, none⟩ = some (I q aa0) := (bc B126.out 0).trans rfl
              have hcz126_1 : w6.cell? ⟨g126, 1, none⟩ = some (I q aa1) := (bc B126.out 1).trans rfl
              have hcz126_2 : w6.cell? ⟨g126, 2, none⟩ = some (I q aa2) := (bc B126.out 2).trans rfl
              have hcz126_3 : w6.cell? ⟨g126, 3, none⟩ = some (I q aa3) := (bc B126.out 3).trans rfl
              have hcz126_4 : w6.cell? ⟨g126, 4, none⟩ = some (I q aa4) := (bc B126.out 4).trans rfl
              have hcz126_5 : w6.cell? ⟨g126, 5, none⟩ = some (I q aa5) := (bc B126.out 5).trans rfl
              have hfz126_0 := bf B126.out 0
              have hfz126_1 := bf B126.out 1
              have hfz126_2 := bf B126.out 2
              have hfz126_3 := bf B126.out 3
              have hfz126_4 := bf B126.out 4
              have hfz126_5 := bf B126.out 5
              go_wp2_with (first | (go_at_call 71; (with_reducible refine (spec_l5Version.calls aa1 true _ A85.out).mono ?_); rintro e w' ⟨rfl, ⟨nd, rfl⟩⟩) | (go_at_call 72; (with_reducible refine (spec_l3Name.calls aa2 false _ A88.out).mono ?_); rintro e w' ⟨rfl, ⟨nd, rfl⟩⟩))
              go_meet
              case rel => exact ⟨_, (true), (by first | rfl | (simp; done) | (simp [*]; done)), H', ⟨by first | omega | exact Nat.le_refl _⟩, ⟨by (with_reducible repeat (first | apply bN | apply bd | apply ba)); exact B126.out⟩, ⟨by repeat (first | (with_reducible first | exact HB.out | apply pa | apply pN | apply p1 | refine bs ?_ E126.out) | exact HB.out)⟩⟩
          · replace c87 := Bool.eq_false_iff.mpr c87
            subst c87
            have H1 : (if t129 = true then ((spec_l2Address.f aa3).bind fun t156 => (if t156 = true then (if t130 = true then ((spec_l5Number.f k aa0 aa1 aa2 aa3 aa4 aa5).bind fun t157 => (if t157 = true then (if t131 = true then ((spec_l5Proto.f aa5).bind fun t158 => (spec_CmdFault.j0 k false t129 t130 t131 (!t158) aa0 aa1 aa2 aa3 aa4 aa5)) else (spec_CmdFault.j0 k false t129 t130 t131 false aa0 aa1 aa2 aa3 aa4 aa5)) else (spec_CmdFault.j0 k false t129 t130 t131 true aa0 aa1 aa2 aa3 aa4 aa5))) else (if t131 = true then ((spec_l5Proto.f aa5).bind fun t159 => (spec_CmdFault.j0 k false t129 t130 t131 (!t159) aa0 aa1 aa2 aa3 aa4 aa5)) else (spec_CmdFault.j0 k false t129 t130 t131 false aa0 aa1 aa2 aa3 aa4 aa5))) else (spec_CmdFault.j0 k false t129 t130 t131 true aa0 aa1 aa2 aa3 aa4 aa5))) else (if t130 = true then ((spec_l5Number.f k aa0 aa1 aa2 aa3 aa4 aa5).bind fun t160 => (if t160 = true then (if t131 = true then ((spec_l5Proto.f aa5).bind fun t161 => (spec_CmdFault.j0 k false t129 t130 t131 (!t161) aa0 aa1 aa2 aa3 aa4 aa5)) else (spec_CmdFault.j0 k false t129 t130 t131 false aa0 aa1 aa2 aa3 aa4 aa5)) else (spec_CmdFault.j0 k false t129 t130 t131 true aa0 aa1 aa2 aa3 aa4 aa5))) else (if t131 = true then ((spec_l5Proto.f aa5).bind fun t162 => (spec_CmdFault.j0 k false t129 t130 t131 (!t162) aa0 aa1 aa2 aa3 aa4 aa5)) else (spec_CmdFault.j0 k false t129 t130 t131 false aa0 aa1 aa2 aa3 aa4 aa5)))) = some r := by rw [if_neg (show ¬ (false = true) by decide)] at H; exact H
            clear H
            have H := H1
            clear H1
            by_cases c127 : t129 = true
            · subst c127
              have H1 : ((spec_l2Address.f aa3).bind fun t156 => (if t156 = true then (if t130 = true then ((spec_l5Number.f k aa0 aa1 aa2 aa3 aa4 aa5).bind fun t157 => (if t157 = true then (if t131 = true then ((spec_l5Proto.f aa5).bind fun t158 => (spec_CmdFault.j0 k false true t130 t131 (!t158) aa0 aa1 aa2 aa3 aa4 aa5)) else (spec_CmdFault.j0 k false true t130 t131 false aa0 aa1 aa2 aa3 aa4 aa5)) else (spec_CmdFault.j0 k false true t130 t131 true aa0 aa1 aa2 aa3 aa4 aa5))) else (if t131 = true then ((spec_l5Proto.f aa5).bind fun t159 => (spec_CmdFault.j0 k false true t130 t131 (!t159) aa0 aa1 aa2 aa3 aa4 aa5)) else (spec_CmdFault.j0 k false true t130 t131 false aa0 aa1 aa2 aa3 aa4 aa5))) else (spec_CmdFault.j0 k false true t130 t131 true aa0 aa1 aa2 aa3 aa4 aa5))) = some r := by rw [if_pos rfl] at H; exact H
              clear H
              have H := H1
              clear H1
              replace H := Option.bind_eq_some_iff.mp H
              obtain ⟨t156, A1280, H⟩ := H
              replace H : (if t156 = true then (if t130 = true then ((spec_l5Number.f k aa0 aa1 aa2 aa3 aa4 aa5).bind fun t157 => (if t157 = true then (if t131 = true then ((spec_l5Proto.f aa5).bind fun t158 => (spec_CmdFault.j0 k false true t130 t131 (!t158) aa0 aa1 aa2 aa3 aa4 aa5)) else (spec_CmdFault.j0 k false true t130 t131 false aa0 aa1 aa2 aa3 aa4 aa5)) else (spec_CmdFault.j0 k false true t130 t131 true aa0 aa1 aa2 aa3 aa4 aa5))) else (if t131 = true then ((spec_l5Proto.f aa5).bind fun t159 => (spec_CmdFault.j0 k false true t130 t131 (!t159) aa0 aa1 aa2 aa3 aa4 aa5)) else (spec_CmdFault.j0 k false true t130 t131 false aa0 aa1 aa2 aa3 aa4 aa5))) else (spec_CmdFault.j0 k false true t130 t131 true aa0 aa1 aa2 aa3 aa4 aa5)) = some r := H
              have A128 := am A1280
              clear A1280
              by_cases c129 : t156 = true
              · subst c129
                have H1 : (if t130 = true then ((spec_l5Number.f k aa0 aa1 aa2 aa3 aa4 aa5).bind fun t157 => (if t157 = true then (if t131 = true then ((spec_l5Proto.f aa5).bind fun t158 => (spec_CmdFault.j0 k false true t130 t131 (!t158) aa0 aa1 aa2 aa3 aa4 aa5)) else (spec_CmdFault.j0 k false true t130 t131 false aa0 aa1 aa2 aa3 aa4 aa5)) else (spec_CmdFault.j0 k false true t130 t131 true aa0 aa1 aa2 aa3 aa4 aa5))) else (if t131 = true then ((spec_l5Proto.f aa5).bind fun t159 => (spec_CmdFault.j0 k false true t130 t131 (!t159) aa0 aa1 aa2 aa3 aa4 aa5)) else (spec_CmdFault.j0 k false true t130 t131 false aa0 aa1 aa2 aa3 aa4 aa5))) = some r := by rw [if_pos rfl] at H; exact H
                clear H
                have H := H1
                clear H1
                by_cases c130 : t130 = true
                · subst c130
                  have H1 : ((spec_l5Number.f k aa0 aa1 aa2 aa3 aa4 aa5).bind fun t157 => (if t157 = true then (if t131 = true then ((spec_l5Proto.f aa5).bind fun t158 => (spec_CmdFault.j0 k false true true t131 (!t158) aa0 aa1 aa2 aa3 aa4 aa5)) else (spec_CmdFault.j0 k false true true t131 false aa0 aa1 aa2 aa3 aa4 aa5)) else (spec_CmdFault.j0 k false true true t131 true aa0 aa1 aa2 aa3 aa4 aa5))) = some r := by rw [if_pos rfl] at H; exact H
                  clear H
                  have H := H1
                  clear H1
                  replace H := Option.bind_eq_some_iff.mp H
                  obtain ⟨t157, A1310, H⟩ := H
                  replace H : (if t157 = true then (if t131 = true then ((spec_l5Proto.f aa5).bind fun t158 => (spec_CmdFault.j0 k false true true t131 (!t158) aa0 aa1 aa2 aa3 aa4 aa5)) else (spec_CmdFault.j0 k false true true t131 false aa0 aa1 aa2 aa3 aa4 aa5)) else (spec_CmdFault.j0 k false true true t131 true aa0 aa1 aa2 aa3 aa4 aa5)) = some r := H
                  have A131 := am A1310
                  clear A1310
                  by_cases c132 : t157 = true
                  · subst c132
                    have H1 : (if t131 = true then ((spec_l5Proto.f aa5).bind fun t158 => (spec_CmdFault.j0 k false true true t131 (!t158) aa0 aa1 aa2 aa3 aa4 aa5)) else (spec_CmdFault.j0 k false true true t131 false aa0 aa1 aa2 aa3 aa4 aa5)) = some r := by rw [if_pos rfl] at H; exact H
                    clear H
                    have H := H1
                    clear H1
                    by_cases c133 : t131 = true
                    · subst c133
                      have H1 : ((spec_l5Proto.f aa5).bind fun t158 => (spec_CmdFault.j0 k false true true true (!t158) aa0 aa1 aa2 aa3 aa4 aa5)) = some r := by rw [if_pos rfl] at H; exact H
                      clear H
                      have H := H1
                      clear H1
                      replace H := Option.bind_eq_some_iff.mp H
                      obtain ⟨t158, A1340, H⟩ := H
                      replace H : (spec_CmdFault.j0 k false true true true (!t158) aa0 aa1 aa2 aa3 aa4 aa5) = some r := H
                      have A134 := am A1340
                      clear A1340
                      have H' := am H
                      clear H
                      have hcz135_0 : w6.cell? ⟨g126, 0, none⟩ = some (I q aa0) := (bc B126.out 0).trans rfl
                      have hcz135_1 : w6.cell? ⟨g126, 1, none⟩ = some (I q aa1) := (bc B126.out 1).trans rfl
                      have hcz135_2 : w6.cell? ⟨g126, 2, none⟩ = some (I q aa2) := (bc B126.out 2).trans rfl
                      have hcz135_3 : w6.cell? ⟨g126, 3, none⟩ = some (I q aa3) := (bc B126.out 3).trans rfl
                      have hcz135_4 : w6.cell? ⟨g126, 4, none⟩ = some (I q aa4) := (bc B126.out 4).trans rfl
                      have hcz135_5 : w6.cell? ⟨g126, 5, none⟩ = some (I q aa5) := (bc B126.out 5).trans rfl
                      have hfz135_0 := bf B126.out 0
                      have hfz135_1 := bf B126.out 1
                      have hfz135_2 := bf B126.out 2
                      have hfz135_3 := bf B126.out 3
                      have hfz135_4 := bf B126.out 4
                      have hfz135_5 := bf B126.out 5
                      go_wp2_with (first | (go_at_call 71; (with_reducible refine (spec_l5Version.calls aa1 true _ A85.out).mono ?_); rintro e w' ⟨rfl, ⟨nd, rfl⟩⟩) | (go_at_call 73; (with_reducible refine (spec_l2Address.calls aa3 true _ A128.out).mono ?_); rintro e w' ⟨rfl, ⟨nd, rfl⟩⟩) | (go_at_call 74; (with_reducible refine (spec_l5Number.calls k aa0 aa1 aa2 aa3 aa4 aa5 true _ A131.out).mono ?_); rintro e w136 ⟨rfl, hb⟩; have N0 := am (bb (g := g126) (by (with_reducible repeat (first | apply bN | apply bd | apply ba)); exact B126.out) hb); have N1 := am (bp (by repeat (first | (with_reducible first | exact HB.out | apply pa | apply pN | apply p1 | refine bs ?_ E126.out) | exact HB.out)) hb); clear B126 HB; have B126 := N0; have HB := N1; clear N0 N1; (try clear hb); (try clear hb2); (try clear hk); (try clear hi); have hcz137_0 : w136.cell? ⟨g126, 0, none⟩ = some (I q aa0) := (bc B126.out 0).trans rfl; have hcz137_1 : w136.cell? ⟨g126, 1, none⟩ = some (I q aa1) := (bc B126.out 1).trans rfl; have hcz137_2 : w136.cell? ⟨g126, 2, none⟩ = some (I q aa2) := (bc B126.out 2).trans rfl; have hcz137_3 : w136.cell? ⟨g126, 3, none⟩ = some (I q aa3) := (bc B126.out 3).trans rfl; have hcz137_4 : w136.cell? ⟨g126, 4, none⟩ = some (I q aa4) := (bc B126.out 4).trans rfl; have hcz137_5 : w136.cell? ⟨g126, 5, none⟩ = some (I q aa5) := (bc B126.out 5).trans rfl; have hfz137_0 := bf B126.out 0; have hfz137_1 := bf B126.out 1; have hfz137_2 := bf B126.out 2; have hfz137_3 := bf B126.out 3; have hfz137_4 := bf B126.out 4; have hfz137_5 := bf B126.out 5) | (go_at_call 75; (with_reducible refine (spec_l5Proto.calls aa5 t158 _ A134.out).mono ?_); rintro e w' ⟨rfl, ⟨nd, rfl⟩⟩))
                      go_meet
                      case rel => exact ⟨_, (!t158), (by first | rfl | (simp; done) | (simp [*]; done)), H', ⟨by first | omega | exact Nat.le_refl _⟩, ⟨by (with_reducible repeat (first | apply bN | apply bd | apply ba)); exact B126.out⟩, ⟨by repeat (first | (with_reducible first | exact HB.out | apply pa | apply pN | apply p1 | refine bs ?_ E126.out) | exact HB.out)⟩⟩
                    · replace c133 := Bool.eq_false_iff.mpr c133
                      subst c133
                      have H1 : (spec_CmdFault.j0 k false true true false false aa0 aa1 aa2 aa3 aa4 aa5) = some r := by rw [if_neg (show ¬ (false = true) by decide)] at H; exact H
                      clear H
                      have H := H1
                      clear H1
                      have H' := am H
                      clear H
                      have hcz138_0 : w6.cell? ⟨g126, 0, none⟩ = some (I q aa0) := (bc B126.out 0).trans rfl
                      have hcz138_1 : w6.cell? ⟨g126, 1, none⟩ = some (I q aa1) := (bc B126.out 1).trans rfl
                      have hcz138_2 : w6.cell? ⟨g126, 2, none⟩ = some (I q aa2) := (bc B126.out 2).trans rfl
                      have hcz138_3 : w6.cell? ⟨g126, 3, none⟩ = some (I q aa3) := (bc B126.out 3).trans rfl
                      have hcz138_4 : w6.cell? ⟨g126, 4, none⟩ = some (I q aa4) := (bc B126.out 4).trans rfl
                      have hcz138_5 : w6.cell? ⟨g126, 5, none⟩ = some (I q aa5) := (bc B126.out 5).trans rfl
                      have hfz138_0 := bf B126.out 0
                      have hfz138_1 := bf B126.out 1
                      have hfz138_2 := bf B126.out 2
                      have hfz138_3 := bf B126.out 3
                      have hfz138_4 := bf B126.out 4
                      have hfz138_5 := bf B126.out 5
                      go_wp2_with (first | (go_at_call 71; (with_reducible refine (spec_l5Version.calls aa1 true _ A85.out).mono ?_); rintro e w' ⟨rfl, ⟨nd, rfl⟩⟩) | (go_at_call 73; (with_reducible refine (spec_l2Address.calls aa3 true _ A128.out).mono ?_); rintro e w' ⟨rfl, ⟨nd, rfl⟩⟩) | (go_at_call 74; (with_reducible refine (spec_l5Number.calls k aa0 aa1 aa2 aa3 aa4 aa5 true _ A131.out).mono ?_); rintro e w139 ⟨rfl, hb⟩; have N0 := am (bb (g := g126) (by (with_reducible repeat (first | apply bN | apply bd | apply ba)); exact B126.out) hb); have N1 := am (bp (by repeat (first | (with_reducible first | exact HB.out | apply pa | apply pN | apply p1 | refine bs ?_ E126.out) | exact HB.out)) hb); clear B126 HB; have B126 := N0; have HB := N1; clear N0 N1; (try clear hb); (try clear hb2); (try clear hk); (try clear hi)))
                      go_meet
                      case rel => exact ⟨_, (false), (by first | rfl | (simp; done) | (simp [*]; done)), H', ⟨by first | omega | exact Nat.le_refl _⟩, ⟨by (with_reducible repeat (first | apply bN | apply bd | apply ba)); exact B126.out⟩, ⟨by repeat (first | (with_reducible first | exact HB.out | apply pa | apply pN | apply p1 | refine bs ?_ E126.out) | exact HB.out)⟩⟩
                  · replace c132 := Bool.eq_false_iff.mpr c132
                    subst c132
                    have H1 : (spec_CmdFault.j0 k false true true t131 true aa0 aa1 aa2 aa3 aa4 aa5) = some r := by rw [if_neg (show ¬ (false = true) by decide)] at H; exact H
                    clear H
                    have H := H1
                    clear H1
                    have H' := am H
                    clear H
                    have hcz140_0 : w6.cell? ⟨g126, 0, none⟩ = some (I q aa0) := (bc B126.out 0).trans rfl
                    have hcz140_1 : w6.cell? ⟨g126, 1, none⟩ = some (I q aa1) := (bc B126.out 1).trans rfl
                    have hcz140_2 : w6.cell? ⟨g126, 2, none⟩ = some (I q aa2) := (bc B126.out 2).trans rfl
                    have hcz140_3 : w6.cell? ⟨g126, 3, none⟩ = some (I q aa3) := (bc B126.out 3).trans rfl
                    have hcz140_4 : w6.cell? ⟨g126, 4, none⟩ = some (I q aa4) := (bc B126.out 4).trans rfl
                    have hcz140_5 : w6.cell? ⟨g126, 5, none⟩ = some (I q aa5) := (bc B126.out 5).trans rfl
                    have hfz140_0 := bf B126.out 0
                    have hfz140_1 := bf B126.out 1
                    have hfz140_2 := bf B126.out 2
                    have hfz140_3 := bf B126.out 3
                    have hfz140_4 := bf B126.out 4
                    have hfz140_5 := bf B126.out 5
                    go_wp2_with (first | (go_at_call 71; (with_reducible refine (spec_l5Version.calls aa1 true _ A85.out).mono ?_); rintro e w' ⟨rfl, ⟨nd, rfl⟩⟩) | (go_at_call 73; (with_reducible refine (spec_l2Address.calls aa3 true _ A128.out).mono ?_); rintro e w' ⟨rfl, ⟨nd, rfl⟩⟩) | (go_at_call 74; (with_reducible refine (spec_l5Number.calls k aa0 aa1 aa2 aa3 aa4 aa5 false _ A131.out).mono ?_); rintro e w141 ⟨rfl, hb⟩; have N0 := am (bb (g := g126) (by (with_reducible repeat (first | apply bN | apply bd | apply ba)); exact B126.out) hb); have N1 := am (bp (by repeat (first | (with_reducible first | exact HB.out | apply pa | apply pN | apply p1 | refine bs ?_ E126.out) | exact HB.out)) hb); clear B126 HB; have B126 := N0; have HB := N1; clear N0 N1; (try clear hb); (try clear hb2); (try clear hk); (try clear hi)))
                    go_meet
                    case rel => exact ⟨_, (true), (by first | rfl | (simp; done) | (simp [*]; done)), H', ⟨by first | omega | exact Nat.le_refl _⟩, ⟨by (with_reducible repeat (first | apply bN | apply bd | apply ba)); exact B126.out⟩, ⟨by repeat (first | (with_reducible first | exact HB.out | apply pa | apply pN | apply p1 | refine bs ?_ E126.out) | exact HB.out)⟩⟩
                · replace c130 := Bool.eq_false_iff.mpr c130
                  subst c130
                  have H1 : (if t131 = true then ((spec_l5Proto.f aa5).bind fun t159 => (spec_CmdFault.j0 k false true false t131 (!t159) aa0 aa1 aa2 aa3 aa4 aa5)) else (spec_CmdFault.j0 k false true false t131 false aa0 aa1 aa2 aa3 aa4 aa5)) = some r := by rw [if_neg (show ¬ (false = true) by decide)] at H; exact H
                  clear H
                  have H := H1
                  clear H1
                  by_cases c142 : t131 = true
                  · subst c142
                    have H1 : ((spec_l5Proto.f aa5).bind fun t159 => (spec_CmdFault.j0 k false true false true (!t159) aa0 aa1 aa2 aa3 aa4 aa5)) = some r := by rw [if_pos rfl] at H; exact H
                    clear H
                    have H := H1
                    clear H1
                    replace H := Option.bind_eq_some_iff.mp H
                    obtain ⟨t159, A1430, H⟩ := H
                    replace H : (spec_CmdFault.j0 k false true false true (!t159) aa0 aa1 aa2 aa3 aa4 aa5) = some r := H
                    have A143 := am A1430
                    clear A1430
                    have H' := am H
                    clear H
                    have hcz144_0 : w6.cell? ⟨g126, 0, none⟩ = some (I q aa0) := (bc B126.out 0).trans rfl
                    have hcz144_1 : w6.cell? ⟨g126, 1, none⟩ = some (I q aa1) := (bc B126.out 1).trans rfl
                    have hcz144_2 : w6.cell? ⟨g126, 2, none⟩ = some (I q aa2) := (bc B126.out 2).trans rfl
                    have hcz144_3 : w6.cell? ⟨g126, 3, none⟩ = some (I q aa3) := (bc B126.out 3).trans rfl
                    have hcz144_4 : w6.cell? ⟨g126, 4, none⟩ = some (I q aa4) := (bc B126.out 4).trans rfl
                    have hcz144_5 : w6.cell? ⟨g126, 5, none⟩ = some (I q aa5) := (bc B126.out 5).trans rfl
                    have hfz144_0 := bf B126.out 0
                    have hfz144_1 := bf B126.out 1
                    have hfz144_2 := bf B126.out 2
                    have hfz144_3 := bf B126.out 3
                    have hfz144_4 := bf B126.out 4
                    have hfz144_5 := bf B126.out 5
                    go_wp2_with (first | (go_at_call 71; (with_reducible refine (spec_l5Version.calls aa1 true _ A85.out).mono ?_); rintro e w' ⟨rfl, ⟨nd, rfl⟩⟩) | (go_at_call 73; (with_reducible refine (spec_l2Address.calls aa3 true _ A128.out).mono ?_); rintro e w' ⟨rfl, ⟨nd, rfl⟩⟩) | (go_at_call 75; (with_reducible refine (spec_l5Proto.calls aa5 t159 _ A143.out).mono ?_); rintro e w' ⟨rfl, ⟨nd, rfl⟩⟩))
                    go_meet
                    case rel => exact ⟨_, (!t159), (by first | rfl | (simp; done) | (simp [*]; done)), H', ⟨by first | omega | exact Nat.le_refl _⟩, ⟨by (with_reducible repeat (first | apply bN | apply bd | apply ba)); exact B126.out⟩, ⟨by repeat (first | (with_reducible first | exact HB.out | apply pa | apply pN | apply p1 | refine bs ?_ E126.out) | exact HB.out)⟩⟩
                  · replace c142 := Bool.eq_false_iff.mpr c142
                    subst c142
                    have H1 : (spec_CmdFault.j0 k false true false false false aa0 aa1 aa2 aa3 aa4 aa5) = some r := by rw [if_neg (show ¬ (false = true) by decide)] at H; exact H
                    clear H
                    have H := H1
                    clear H1
                    have H' := am H
                    clear H
                    have hcz145_0 : w6.cell? ⟨g126, 0, none⟩ = some (I q aa0) := (bc B126.out 0).trans rfl
                    have hcz145_1 : w6.cell? ⟨g126, 1, none⟩ = some (I q aa1) := (bc B126.out 1).trans rfl
                    have hcz145_2 : w6.cell? ⟨g126, 2, none⟩ = some (I q aa2) := (bc B126.out 2).trans rfl
                    have hcz145_3 : w6.cell? ⟨g126, 3, none⟩ = some (I q aa3) := (bc B126.out 3).trans rfl
                    have hcz145_4 : w6.cell? ⟨g126, 4, none⟩ = some (I q aa4) := (bc B126.out 4).trans rfl
                    have hcz145_5 : w6.cell? ⟨g126, 5, none⟩ = some (I q aa5) := (bc B126.out 5).trans rfl
                    have hfz145_0 := bf B126.out 0
                    have hfz145_1 := bf B126.out 1
                    have hfz145_2 := bf B126.out 2
                    have hfz145_3 := bf B126.out 3
                    have hfz145_4 := bf B126.out 4
                    have hfz145_5 := bf B126.out 5
                    go_wp2_with (first | (go_at_call 71; (with_reducible refine (spec_l5Version.calls aa1 true _ A85.out).mono ?_); rintro e w' ⟨rfl, ⟨nd, rfl⟩⟩) | (go_at_call 73; (with_reducible refine (spec_l2Address.calls aa3 true _ A128.out).mono ?_); rintro e w' ⟨rfl, ⟨nd, rfl⟩⟩))
                    go_meet
                    case rel => exact ⟨_, (false), (by first | rfl | (simp; done) | (simp [*]; done)), H', ⟨by first | omega | exact Nat.le_refl _⟩, ⟨by (with_reducible repeat (first | apply bN | apply bd | apply ba)); exact B126.out⟩, ⟨by repeat (first | (with_reducible first | exact HB.out | apply pa | apply pN | apply p1 | refine bs ?_ E126.out) | exact HB.out)⟩⟩
              · replace c129 := Bool.eq_false_iff.mpr c129
                subst c129
                have H1 : (spec_CmdFault.j0 k false true t130 t131 true aa0 aa1 aa2 aa3 aa4 aa5) = some r := by rw [if_neg (show ¬ (false = true) by decide)] at H; exact H
                clear H
                have H := H1
                clear H1
                have H' := am H
                clear H
                have hcz146_0 : w6.cell? ⟨g126, 0, none⟩ = some (I q aa0) := (bc B126.out 0).trans rfl
                have hcz146_1 : w6.cell? ⟨g126, 1, none⟩ = some (I q aa1) := (bc B126.out 1).trans rfl
                have hcz146_2 : w6.cell? ⟨g126, 2, none⟩ = some (I q aa2) := (bc B126.out 2).trans rfl
                have hcz146_3 : w6.cell? ⟨g126, 3, none⟩ = some (I q aa3) := (bc B126.out 3).trans rfl
                have hcz146_4 : w6.cell? ⟨g126, 4, none⟩ = some (I q aa4) := (bc B126.out 4).trans rfl
                have hcz146_5 : w6.cell? ⟨g126, 5, none⟩ = some (I q aa5) := (bc B126.out 5).trans rfl
                have hfz146_0 := bf B126.out 0
                have hfz146_1 := bf B126.out 1
                have hfz146_2 := bf B126.out 2
                have hfz146_3 := bf B126.out 3
                have hfz146_4 := bf B126.out 4
                have hfz146_5 := bf B126.out 5
                go_wp2_with (first | (go_at_call 71; (with_reducible refine (spec_l5Version.calls aa1 true _ A85.out).mono ?_); rintro e w' ⟨rfl, ⟨nd, rfl⟩⟩) | (go_at_call 73; (with_reducible refine (spec_l2Address.calls aa3 false _ A128.out).mono ?_); rintro e w' ⟨rfl, ⟨nd, rfl⟩⟩))
                go_meet
                case rel => exact ⟨_, (true), (by first | rfl | (simp; done) | (simp [*]; done)), H', ⟨by first | omega | exact Nat.le_refl _⟩, ⟨by (with_reducible repeat (first | apply bN | apply bd | apply ba)); exact B126.out⟩, ⟨by repeat (first | (with_reducible first | exact HB.out | apply pa | apply pN | apply p1 | refine bs ?_ E126.out) | exact HB.out)⟩⟩
            · replace c127 := Bool.eq_false_iff.mpr c127
              subst c127
              have H1 : (if t130 = true then ((spec_l5Number.f k aa0 aa1 aa2 aa3 aa4 aa5).bind fun t160 => (if t160 = true then (if t131 = true then ((spec_l5Proto.f aa5).bind fun t161 => (spec_CmdFault.j0 k false false t130 t131 (!t161) aa0 aa1 aa2 aa3 aa4 aa5)) else (spec_CmdFault.j0 k false false t130 t131 false aa0 aa1 aa2 aa3 aa4 aa5)) else (spec_CmdFault.j0 k false false t130 t131 true aa0 aa1 aa2 aa3 aa4 aa5))) else (if t131 = true then ((spec_l5Proto.f aa5).bind fun t162 => (spec_CmdFault.j0 k false false t130 t131 (!t162) aa0 aa1 aa2 aa3 aa4 aa5)) else (spec_CmdFault.j0 k false false t130 t131 false aa0 aa1 aa2 aa3 aa4 aa5))) = some r := by rw [if_neg (show ¬ (false = true) by decide)] at H; exact H
              clear H
              have H := H1
              clear H1
              by_cases c147 : t130 = true
              · subst c147
                have H1 : ((spec_l5Number.f k aa0 aa1 aa2 aa3 aa4 aa5).bind fun t160 => (if t160 = true then (if t131 = true then ((spec_l5Proto.f aa5).bind fun t161 => (spec_CmdFault.j0 k false false true t131 (!t161) aa0 aa1 aa2 aa3 aa4 aa5)) else (spec_CmdFault.j0 k false false true t131 false aa0 aa1 aa2 aa3 aa4 aa5)) else (spec_CmdFault.j0 k false false true t131 true aa0 aa1 aa2 aa3 aa4 aa5))) = some r := by rw [if_pos rfl] at H; exact H
                clear H
                have H := H1
                clear H1
                replace H := Option.bind_eq_some_iff.mp H
                obtain ⟨t160, A1480, H⟩ := H
                replace H : (if t160 = true then (if t131 = true then ((spec_l5Proto.f aa5).bind fun t161 => (spec_CmdFault.j0 k false false true t131 (!t161) aa0 aa1 aa2 aa3 aa4 aa5)) else (spec_CmdFault.j0 k false false true t131 false aa0 aa1 aa2 aa3 aa4 aa5)) else (spec_CmdFault.j0 k false false true t131 true aa0 aa1 aa2 aa3 aa4 aa5)) = some r := H
                have A148 := am A1480
                clear A1480
                by_cases c149 : t160 = true
                · subst c149
                  have H1 : (if t131 = true then ((spec_l5Proto.f aa5).bind fun t161 => (spec_CmdFault.j0 k false false true t131 (!t161) aa0 aa1 aa2 aa3 aa4 aa5)) else (spec_CmdFault.j0 k false false true t131 false aa0 aa1 aa2 aa3 aa4 aa5)) = some r := by rw [if_pos rfl] at H; exact H
                  clear H
                  have H := H1
                  clear H1
                  by_cases c150 : t131 = true
                  · subst c150
                    have H1 : ((spec_l5Proto.f aa5).bind fun t161 => (spec_CmdFault.j0 k false false true true (!t161) aa0 aa1 aa2 aa3 aa4 aa5)) = some r := by rw [if_pos rfl] at H; exact H
                    clear H
                    have H := H1
                    clear H1
                    replace H := Option.bind_eq_some_iff.mp H
                    obtain ⟨t161, A1510, H⟩ := H
                    replace H : (spec_CmdFault.j0 k false false true true (!t161) aa0 aa1 aa2 aa3 aa4 aa5) = some r := H
                    have A151 := am A1510
                    clear A1510
                    have H' := am H
                    clear H
                    have hcz152_0 : w6.cell? ⟨g126, 0, none⟩ = some (I q aa0) := (bc B126.out 0).trans rfl
                    have hcz152_1 : w6.cell? ⟨g126, 1, none⟩ = some (I q aa1) := (bc B126.out 1).trans rfl
                    have hcz152_2 : w6.cell? ⟨g126, 2, none⟩ = some (I q aa2) := (bc B126.out 2).trans rfl
                    have hcz152_3 : w6.cell? ⟨g126, 3, none⟩ = some (I q aa3) := (bc B126.out 3).trans rfl
                    have hcz152_4 : w6.cell? ⟨g126, 4, none⟩ = some (I q aa4) := (bc B126.out 4).trans rfl
                    have hcz152_5 : w6.cell? ⟨g126, 5, none⟩ = some (I q aa5) := (bc B126.out 5).trans rfl
                    have hfz152_0 := bf B126.out 0
                    have hfz152_1 := bf B126.out 1
                    have hfz152_2 := bf B126.out 2
                    have hfz152_3 := bf B126.out 3
                    have hfz152_4 := bf B126.out 4
                    have hfz152_5 := bf B126.out 5
                    go_wp2_with (first | (go_at_call 71; (with_reducible refine (spec_l5Version.calls aa1 true _ A85.out).mono ?_); rintro e w' ⟨rfl, ⟨nd, rfl⟩⟩) | (go_at_call 74; (with_reducible refine (spec_l5Number.calls k aa0 aa1 aa2 aa3 aa4 aa5 true _ A148.out).mono ?_); rintro e w153 ⟨rfl, hb⟩; have N0 := am (bb (g := g126) (by (with_reducible repeat (first | apply bN | apply bd | apply ba)); exact B126.out) hb); have N1 := am (bp (by repeat (first | (with_reducible first | exact HB.out | apply pa | apply pN | apply p1 | refine bs ?_ E126.out) | exact HB.out)) hb); clear B126 HB; have B126 := N0; have HB := N1; clear N0 N1; (try clear hb); (try clear hb2); (try clear hk); (try clear hi); have hcz154_0 : w153.cell? ⟨g126, 0, none⟩ = some (I q aa0) := (bc B126.out 0).trans rfl; have hcz154_1 : w153.cell? ⟨g126, 1, none⟩ = some (I q aa1) := (bc B126.out 1).trans rfl; have hcz154_2 : w153.cell? ⟨g126, 2, none⟩ = some (I q aa2) := (bc B126.out 2).trans rfl; have hcz154_3 : w153.cell? ⟨g126, 3, none⟩ = some (I q aa3) := (bc B126.out 3).trans rfl; have hcz154_4 : w153.cell? ⟨g126, 4, none⟩ = some (I q aa4) := (bc B126.out 4).trans rfl; have hcz154_5 : w153.cell? ⟨g126, 5, none⟩ = some (I q aa5) := (bc B126.out 5).trans rfl; have hfz154_0 := bf B126.out 0; have hfz154_1 := bf B126.out 1; have hfz154_2 := bf B126.out 2; have hfz154_3 := bf B126.out 3; have hfz154_4 := bf B126.out 4; have hfz154_5 := bf B126.out 5) | (go_at_call 75; (with_reducible refine (spec_l5Proto.calls aa5 t161 _ A151.out).mono ?_); rintro e w' ⟨rfl, ⟨nd, rfl⟩⟩))
                    go_meet
                    case rel => exact ⟨_, (!t161), (by first | rfl | (simp; done) | (simp [*]; done)), H', ⟨by first | omega | exact Nat.le_refl _⟩, ⟨by (with_reducible repeat (first | apply bN | apply bd | apply ba)); exact B126.out⟩, ⟨by repeat (first | (with_reducible first | exact HB.out | apply pa | apply pN | apply p1 | refine bs ?_ E126.out) | exact HB.out)⟩⟩
                  · replace c150 := Bool.eq_false_iff.mpr c150
                    subst c150
                    have H1 : (spec_CmdFault.j0 k false false true false false aa0 aa1 aa2 aa3 aa4 aa5) = some r := by rw [if_neg (show ¬ (false = true) by decide)] at H; exact H
                    clear H
                    have H := H1
                    clear H1
                    have H' := am H
                    clear H
                    have hcz155_0 : w6.cell? ⟨g126, 0, none⟩ = some (I q aa0) := (bc B126.out 0).trans rfl
                    have hcz155_1 : w6.cell? ⟨g126, 1, none⟩ = some (I q aa1) := (bc B126.out 1).trans rfl
                    have hcz155_2 : w6.cell? ⟨g126, 2, none⟩ = some (I q aa2) := (bc B126.out 2).trans rfl
                    have hcz155_3 : w6.cell? ⟨g126, 3, none⟩ = some (I q aa3) := (bc B126.out 3).trans rfl
                    have hcz155_4 : w6.cell? ⟨g126, 4, none⟩ = some (I q aa4) := (bc B126.out 4).trans rfl
                    have hcz155_5 : w6.cell? ⟨g126, 5, none⟩ = some (I q aa5) := (bc B126.out 5).trans rfl
                    have hfz155_0 := bf B126.out 0
                    have hfz155_1 := bf B126.out 1
                    have hfz155_2 := bf B126.out 2
                    have hfz155_3 := bf B126.out 3
                    have hfz155_4 := bf B126.out 4
                    have hfz155_5 := bf B126.out 5
                    go_wp2_with (first | (go_at_call 71; (with_reducible refine (spec_l5Version.calls aa1 true _ A85.out).mono ?_); rintro e w' ⟨rfl, ⟨nd, rfl⟩⟩) | (go_at_call 74; (with_reducible refine (spec_l5Number.calls k aa0 aa1 aa2 aa3 aa4 aa5 true _ A148.out).mono ?_); rintro e w156 ⟨rfl, hb⟩; have N0 := am (bb (g := g126) (by (with_reducible repeat (first | apply bN | apply bd | apply ba)); exact B126.out) hb); have N1 := am (bp (by repeat (first | (with_reducible first | exact HB.out | apply pa | apply pN | apply p1 | refine bs ?_ E126.out) | exact HB.out)) hb); clear B126 HB; have B126 := N0; have HB := N1; clear N0 N1; (try clear hb); (try clear hb2); (try clear hk); (try clear hi)))
                    go_meet
                    case rel => exact ⟨_, (false), (by first | rfl | (simp; done) | (simp [*]; done)), H', ⟨by first | omega | exact Nat.le_refl _⟩, ⟨by (with_reducible repeat (first | apply bN | apply bd | apply ba)); exact B126.out⟩, ⟨by repeat (first | (with_reducible first | exact HB.out | apply pa | apply pN | apply p1 | refine bs ?_ E126.out) | exact HB.out)⟩⟩
                · replace c149 := Bool.eq_false_iff.mpr c149
                  subst c149
                  have H1 : (spec_CmdFault.j0 k false false true t131 true aa0 aa1 aa2 aa3 aa4 aa5) = some r := by rw [if_neg (show ¬ (false = true) by decide)] at H; exact H
                  clear H
                  have H := H1
                  clear H1
                  have H' := am H
                  clear H
                  have hcz157_0 : w6.cell? ⟨g126, 0, none⟩ = some (I q aa0) := (bc B126.out 0).trans rfl
                  have hcz157_1 : w6.cell? ⟨g126, 1, none⟩ = some (I q aa1) := (bc B126.out 1).trans rfl
                  have hcz157_2 : w6.cell? ⟨g126, 2, none⟩ = some (I q aa2) := (bc B126.out 2).trans rfl
                  have hcz157_3 : w6.cell? ⟨g126, 3, none⟩ = some (I q aa3) := (bc B126.out 3).trans rfl
                  have hcz157_4 : w6.cell? ⟨g126, 4, none⟩ = some (I q aa4) := (bc B126.out 4).trans rfl
                  have hcz157_5 : w6.cell? ⟨g126, 5, none⟩ = some (I q aa5) := (bc B126.out 5).trans rfl
                  have hfz157_0 := bf B126.out 0
                  have hfz157_1 := bf B126.out 1
                  have hfz157_2 := bf B126.out 2
                  have hfz157_3 := bf B126.out 3
                  have hfz157_4 := bf B126.out 4
                  have hfz157_5 := bf B126.out 5
                  go_wp2_with (first | (go_at_call 71; (with_reducible refine (spec_l5Version.calls aa1 true _ A85.out).mono ?_); rintro e w' ⟨rfl, ⟨nd, rfl⟩⟩) | (go_at_call 74; (with_reducible refine (spec_l5Number.calls k aa0 aa1 aa2 aa3 aa4 aa5 false _ A148.out).mono ?_); rintro e w158 ⟨rfl, hb⟩; have N0 := am (bb (g := g126) (by (with_reducible repeat (first | apply bN | apply bd | apply ba)); exact B126.out) hb); have N1 := am (bp (by repeat (first | (with_reducible first | exact HB.out | apply pa | apply pN | apply p1 | refine bs ?_ E126.out) | exact HB.out)) hb); clear B126 HB; have B126 := N0; have HB := N1; clear N0 N1; (try clear hb); (try clear hb2); (try clear hk); (try clear hi)))
                  go_meet
                  case rel => exact ⟨_, (true), (by first | rfl | (simp; done) | (simp [*]; done)), H', ⟨by first | omega | exact Nat.le_refl _⟩, ⟨by (with_reducible repeat (first | apply bN | apply bd | apply ba)); exact B126.out⟩, ⟨by repeat (first | (with_reducible first | exact HB.out | apply pa | apply pN | apply p1 | refine bs ?_ E126.out) | exact HB.out)⟩⟩
              · replace c147 := Bool.eq_false_iff.mpr c147
                subst c147
                have H1 : (if t131 = true then ((spec_l5Proto.f aa5).bind fun t162 => (spec_CmdFault.j0 k false false false t131 (!t162) aa0 aa1 aa2 aa3 aa4 aa5)) else (spec_CmdFault.j0 k false false false t131 false aa0 aa1 aa2 aa3 aa4 aa5)) = some r := by rw [if_neg (show ¬ (false = true) by decide)] at H; exact H
                clear H
                have H := H1
                clear H1
                by_cases c159 : t131 = true
                · subst c159
                  have H1 : ((spec_l5Proto.f aa5).bind fun t162 => (spec_CmdFault.j0 k false false false true (!t162) aa0 aa1 aa2 aa3 aa4 aa5)) = some r := by rw [if_pos rfl] at H; exact H
                  clear H
                  have H := H1
                  clear H1
                  replace H := Option.bind_eq_some_iff.mp H
                  obtain ⟨t162, A1600, H⟩ := H
                  replace H : (spec_CmdFault.j0 k false false false true (!t162) aa0 aa1 aa2 aa3 aa4 aa5) = some r := H
                  have A160 := am A1600
                  clear A1600
                  have H' := am H
                  clear H
                  have hcz161_0 : w6.cell? ⟨g126, 0, none⟩ = some (I q aa0) := (bc B126.out 0).trans rfl
                  have hcz161_1 : w6.cell? ⟨g126, 1, none⟩ = some (I q aa1) := (bc B126.out 1).trans rfl
                  have hcz161_2 : w6.cell? ⟨g126, 2, none⟩ = some (I q aa2) := (bc B126.out 2).trans rfl
                  have hcz161_3 : w6.cell? ⟨g126, 3, none⟩ = some (I q aa3) := (bc B126.out 3).trans rfl
                  have hcz161_4 : w6.cell? ⟨g126, 4, none⟩ = some (I q aa4) := (bc B126.out 4).trans rfl
                  have hcz161_5 : w6.cell? ⟨g126, 5, none⟩ = some (I q aa5) := (bc B126.out 5).trans rfl
                  have hfz161_0 := bf B126.out 0
                  have hfz161_1 := bf B126.out 1
                  have hfz161_2 := bf B126.out 2
                  have hfz161_3 := bf B126.out 3
                  have hfz161_4 := bf B126.out 4
                  have hfz161_5 := bf B126.out 5
                  go_wp2_with (first | (go_at_call 71; (with_reducible refine (spec_l5Version.calls aa1 true _ A85.out).mono ?_); rintro e w' ⟨rfl, ⟨nd, rfl⟩⟩) | (go_at_call 75; (with_reducible refine (spec_l5Proto.calls aa5 t162 _ A160.out).mono ?_); rintro e w' ⟨rfl, ⟨nd, rfl⟩⟩))
                  go_meet
                  case rel => exact ⟨_, (!t162), (by first | rfl | (simp; done) | (simp [*]; done)), H', ⟨by first | omega | exact Nat.le_refl _⟩, ⟨by (with_reducible repeat (first | apply bN | apply bd | apply ba)); exact B126.out⟩, ⟨by repeat (first | (with_reducible first | exact HB.out | apply pa | apply pN | apply p1 | refine bs ?_ E126.out) | exact HB.out)⟩⟩
                · replace c159 := Bool.eq_false_iff.mpr c159
                  subst c159
                  have H1 : (spec_CmdFault.j0 k false false false false false aa0 aa1 aa2 aa3 aa4 aa5) = some r := by rw [if_neg (show ¬ (false = true) by decide)] at H; exact H
                  clear H
                  have H := H1
                  clear H1
                  have H' := am H
                  clear H
                  have hcz162_0 : w6.cell? ⟨g126, 0, none⟩ = some (I q aa0) := (bc B126.out 0).trans rfl
                  have hcz162_1 : w6.cell? ⟨g126, 1, none⟩ = some (I q aa1) := (bc B126.out 1).trans rfl
                  have hcz162_2 : w6.cell? ⟨g126, 2, none⟩ = some (I q aa2) := (bc B126.out 2).trans rfl
                  have hcz162_3 : w6.cell? ⟨g126, 3, none⟩ = some (I q aa3) := (bc B126.out 3).trans rfl
                  have hcz162_4 : w6.cell? ⟨g126, 4, none⟩ = some (I q aa4) := (bc B126.out 4).trans rfl
                  have hcz162_5 : w6.cell? ⟨g126, 5, none⟩ = some (I q aa5) := (bc B126.out 5).trans rfl
                  have hfz162_0 := bf B126.out 0
                  have hfz162_1 := bf B126.out 1
                  have hfz162_2 := bf B126.out 2
                  have hfz162_3 := bf B126.out 3
                  have hfz162_4 := bf B126.out 4
                  have hfz162_5 := bf B126.out 5
                  go_wp2_with (first | (go_at_call 71; (with_reducible refine (spec_l5Version.calls aa1 true _ A85.out).mono ?_); rintro e w' ⟨rfl, ⟨nd, rfl⟩⟩))
                  go_meet
                  case rel => exact ⟨_, (false), (by first | rfl | (simp; done) | (simp [*]; done)), H', ⟨by first | omega | exact Nat.le_refl _⟩, ⟨by (with_reducible repeat (first | apply bN | apply bd | apply ba)); exact B126.out⟩, ⟨by repeat (first | (with_reducible first | exact HB.out | apply pa | apply pN | apply p1 | refine bs ?_ E126.out) | exact HB.out)⟩⟩
        · replace c86 := Bool.eq_false_iff.mpr c86
          subst c86
          have H1 : (spec_CmdFault.j0 k t128 t129 t130 t131 true aa0 aa1 aa2 aa3 aa4 aa5) = some r := by rw [if_neg (show ¬ (false = true) by decide)] at H; exact H
          clear H
          have H := H1
          clear H1
          have H' := am H
          clear H
          have hcz163_0 : w6.cell? ⟨g126, 0, none⟩ = some (I q aa0) := (bc B126.out 0).trans rfl
          have hcz163_1 : w6.cell? ⟨g126, 1, none⟩ = some (I q aa1) := (bc B126.out 1).trans rfl
          have hcz163_2 : w6.cell? ⟨g126, 2, none⟩ = some (I q aa2) := (bc B126.out 2).trans rfl
          have hcz163_3 : w6.cell? ⟨g126, 3, none⟩ = some (I q aa3) := (bc B126.out 3).trans rfl
          have hcz163_4 : w6.cell? ⟨g126, 4, none⟩ = some (I q aa4) := (bc B126.out 4).trans rfl
          have hcz163_5 : w6.cell? ⟨g126, 5, none⟩ = some (I q aa5) := (bc B126.out 5).trans rfl
          have hfz163_0 := bf B126.out 0
          have hfz163_1 := bf B126.out 1
          have hfz163_2 := bf B126.out 2
          have hfz163_3 := bf B126.out 3
          have hfz163_4 := bf B126.out 4
          have hfz163_5 := bf B126.out 5
          go_wp2_with (first | (go_at_call 71; (with_reducible refine (spec_l5Version.calls aa1 false _ A85.out).mono ?_); rintro e w' ⟨rfl, ⟨nd, rfl⟩⟩))
          go_meet
          case rel => exact ⟨_, (true), (by first | rfl | (simp; done) | (simp [*]; done)), H', ⟨by first | omega | exact Nat.le_refl _⟩, ⟨by (with_reducible repeat (first | apply bN | apply bd | apply ba)); exact B126.out⟩, ⟨by repeat (first | (with_reducible first | exact HB.out | apply pa | apply pN | apply p1 | refine bs ?_ E126.out) | exact HB.out)⟩⟩
    case rest =>
      clear HC5
      try clear c1
      try clear p2
      try clear c8
      try clear c9
      try clear c10
      try clear c11
      try clear c12
      try clear c13
      try clear c14
      try clear c15
      try clear c86
      try clear c87
      try clear c89
      try clear c90
      try clear c92
      try clear c105
      try clear c110
      try clear c112
      try clear c113
      try clear c122
      try clear c127
      try clear c129
      try clear c130
      try clear c132
      try clear c133
      try clear c142
      try clear c147
      try clear c149
      try clear c150
      try clear c159
      try clear hcz108_0
      try clear hcz108_1
      try clear hcz108_2
      try clear hcz108_3
      try clear hcz108_4
      try clear hcz108_5
      try clear hcz109_0
      try clear hcz109_1
      try clear hcz109_2
      try clear hcz109_3
      try clear hcz109_4
      try clear hcz109_5
      try clear hcz115_0
      try clear hcz115_1
      try clear hcz115_2
      try clear hcz115_3
      try clear hcz115_4
      try clear hcz115_5
      try clear hcz117_0
      try clear hcz117_1
      try clear hcz117_2
      try clear hcz117_3
      try clear hcz117_4
      try clear hcz117_5
      try clear hcz118_0
      try clear hcz118_1
      try clear hcz118_2
      try clear hcz118_3
      try clear hcz118_4
      try clear hcz118_5
      try clear hcz120_0
      try clear hcz120_1
      try clear hcz120_2
      try clear hcz120_3
      try clear hcz120_4
      try clear hcz120_5
      try clear hcz124_0
      try clear hcz124_1
      try clear hcz124_2
      try clear hcz124_3
      try clear hcz124_4
      try clear hcz124_5
      try clear hcz125_0
      try clear hcz125_1
      try clear hcz125_2
      try clear hcz125_3
      try clear hcz125_4
      try clear hcz125_5
      try clear hcz126_0
      try clear hcz126_1
      try clear hcz126_2
      try clear hcz126_3
      try clear hcz126_4
      try clear hcz126_5
      try clear hcz135_0
      try clear hcz135_1
      try clear hcz135_2
      try clear hcz135_3
      try clear hcz135_4
      try clear hcz135_5
      try clear hcz137_0
      try clear hcz137_1
      try clear hcz137_2
      try clear hcz137_3
      try clear hcz137_4
      try clear hcz137_5
      try clear hcz138_0
      try clear hcz138_1
      try clear hcz138_2
      try clear hcz138_3
      try clear hcz138_4
      try clear hcz138_5
      try clear hcz140_0
      try clear hcz140_1
      try clear hcz140_2
      try clear hcz140_3
      try clear hcz140_4
      try clear hcz140_5
      try clear hcz144_0
      try clear hcz144_1
      try clear hcz144_2
      try clear hcz144_3
      try clear hcz144_4
      try clear hcz144_5
      try clear hcz145_0
      try clear hcz145_1
      try clear hcz145_2
      try clear hcz145_3
      try clear hcz145_4
      try clear hcz145_5
      try clear hcz146_0
      try clear hcz146_1
      try clear hcz146_2
      try clear hcz146_3
      try clear hcz146_4
      try clear hcz146_5
      try clear hcz152_0
      try clear hcz152_1
      try clear hcz152_2
      try clear hcz152_3
      try clear hcz152_4
      try clear hcz152_5
      try clear hcz154_0
      try clear hcz154_1
      try clear hcz154_2
      try clear hcz154_3
      try clear hcz154_4
      try clear hcz154_5
      try clear hcz155_0
      try clear hcz155_1
      try clear hcz155_2
      try clear hcz155_3
      try clear hcz155_4
      try clear hcz155_5
      try clear hcz157_0
      try clear hcz157_1
      try clear hcz157_2
      try clear hcz157_3
      try clear hcz157_4
      try clear hcz157_5
      try clear hcz161_0
      try clear hcz161_1
      try clear hcz161_2
      try clear hcz161_3
      try clear hcz161_4
      try clear hcz161_5
      try clear hcz162_0
      try clear hcz162_1
      try clear hcz162_2
      try clear hcz162_3
      try clear hcz162_4
      try clear hcz162_5
      try clear hcz163_0
      try clear hcz163_1
      try clear hcz163_2
      try clear hcz163_3
      try clear hcz163_4
      try clear hcz163_5
      try clear hfz107_5
      try clear hfz108_0
      try clear hfz108_1
      try clear hfz108_2
      try clear hfz108_3
      try clear hfz108_4
      try clear hfz108_5
      try clear hfz109_0
      try clear hfz109_1
      try clear hfz109_2
      try clear hfz109_3
      try clear hfz109_4
      try clear hfz109_5
      try clear hfz115_0
      try clear hfz115_1
      try clear hfz115_2
      try clear hfz115_3
      try clear hfz115_4
      try clear hfz115_5
      try clear hfz117_0
      try clear hfz117_1
      try clear hfz117_2
      try clear hfz117_3
      try clear hfz117_4
      try clear hfz117_5
      try clear hfz118_0
      try clear hfz118_1
      try clear hfz118_2
      try clear hfz118_3
      try clear hfz118_4
      try clear hfz118_5
      try clear hfz120_0
      try clear hfz120_1
      try clear hfz120_2
      try clear hfz120_3
      try clear hfz120_4
      try clear hfz120_5
      try clear hfz124_0
      try clear hfz124_1
      try clear hfz124_2
      try clear hfz124_3
      try clear hfz124_4
      try clear hfz124_5
      try clear hfz125_0
      try clear hfz125_1
      try clear hfz125_2
      try clear hfz125_3
      try clear hfz125_4
      try clear hfz125_5
      try clear hfz126_0
      try clear hfz126_1
      try clear hfz126_2
      try clear hfz126_3
      try clear hfz126_4
      try clear hfz126_5
      try clear hfz135_0
      try clear hfz135_1
      try clear hfz135_2
      try clear hfz135_3
      try clear hfz135_4
      try clear hfz135_5
      try clear hfz137_0
      try clear hfz137_1
      try clear hfz137_2
      try clear hfz137_3
      try clear hfz137_4
      try clear hfz137_5
      try clear hfz138_0
      try clear hfz138_1
      try clear hfz138_2
      try clear hfz138_3
      try clear hfz138_4
      try clear hfz138_5
      try clear hfz140_0
      try clear hfz140_1
      try clear hfz140_2
      try clear hfz140_3
      try clear hfz140_4
      try clear hfz140_5
      try clear hfz144_0
      try clear hfz144_1
      try clear hfz144_2
      try clear hfz144_3
      try clear hfz144_4
      try clear hfz144_5
      try clear hfz145_0
      try clear hfz145_1
      try clear hfz145_2
      try clear hfz145_3
      try clear hfz145_4
      try clear hfz145_5
      try clear hfz146_0
      try clear hfz146_1
      try clear hfz146_2
      try clear hfz146_3
      try clear hfz146_4
      try clear hfz146_5
      try clear hfz152_0
      try clear hfz152_1
      try clear hfz152_2
      try clear hfz152_3
      try clear hfz152_4
      try clear hfz152_5
      try clear hfz154_0
      try clear hfz154_1
      try clear hfz154_2
      try clear hfz154_3
      try clear hfz154_4
      try clear hfz154_5
      try clear hfz155_0
      try clear hfz155_1
      try clear hfz155_2
      try clear hfz155_3
      try clear hfz155_4
      try clear hfz155_5
      try clear hfz157_0
      try clear hfz157_1
      try clear hfz157_2
      try clear hfz157_3
      try clear hfz157_4
      try clear hfz157_5
      try clear hfz161_0
      try clear hfz161_1
      try clear hfz161_2
      try clear hfz161_3
      try clear hfz161_4
      try clear hfz161_5
      try clear hfz162_0
      try clear hfz162_1
      try clear hfz162_2
      try clear hfz162_3
      try clear hfz162_4
      try clear hfz162_5
      try clear hfz163_0
      try clear hfz163_1
      try clear hfz163_2
      try clear hfz163_3
      try clear hfz163_4
      try clear hfz163_5
      obtain ⟨kq, x62_4, rfl, HA, HJ4, B126, HB⟩ := hcut
      cases kq with
      | zero => exact absurd HA.out (by simp [spec_CmdFault.j0])
      | succ kj4 =>
        have H := HA.out
        clear HA
        simp only [spec_CmdFault.j0] at H
        by_cases c164 : x62_4 = true
        · subst c164
          have H1 : (some 3) = some r := by rw [if_pos rfl] at H; exact H
          clear H
          have H := H1
          clear H1
          obtain rfl := Option.some.inj H
          go_wp2
          go_ret
          exact ⟨by first | rfl | (simp [errW_none, errW_some] <;> rfl) | (simp [*, errW_none, errW_some] <;> rfl), by repeat (first | (with_reducible first | exact HB.out | apply pa | apply pN | apply p1 | refine bs ?_ E126.out) | exact HB.out)⟩
        · replace c164 := Bool.eq_false_iff.mpr c164
          subst c164
          have H1 : (if t128 = true then (if t129 = true then (if t130 = true then (if t131 = true then (some 0) else (if aa5 = 0 then (some 0) else (some 1))) else (if aa4 = 0 then (if t131 = true then (some 0) else (if aa5 = 0 then (some 0) else (some 1))) else (some 1))) else (if aa3 = 0 then (if t130 = true then (if t131 = true then (some 0) else (if aa5 = 0 then (some 0) else (some 1))) else (if aa4 = 0 then (if t131 = true then (some 0) else (if aa5 = 0 then (some 0) else (some 1))) else (some 1))) else (some 1))) else (if aa2 = 0 then (if t129 = true then (if t130 = true then (if t131 = true then (some 0) else (if aa5 = 0 then (some 0) else (some 1))) else (if aa4 = 0 then (if t131 = true then (some 0) else (if aa5 = 0 then (some 0) else (some 1))) else (some 1))) else (if aa3 = 0 then (if t130 = true then (if t131 = true then (some 0) else (if aa5 = 0 then (some 0) else (some 1))) else (if aa4 = 0 then (if t131 = true then (some 0) else (if aa5 = 0 then (some 0) else (some 1))) else (some 1))) else (some 1))) else (some 1))) = some r := by rw [if_neg (show ¬ (false = true) by decide)] at H; exact H
          clear H
          have H := H1
          clear H1
          by_cases c165 : t128 = true
          · subst c165
            have H1 : (if t129 = true then (if t130 = true then (if t131 = true then (some 0) else (if aa5 = 0 then (some 0) else (some 1))) else (if aa4 = 0 then (if t131 = true then (some 0) else (if aa5 = 0 then (some 0) else (some 1))) else (some 1))) else (if aa3 = 0 then (if t130 = true then (if t131 = true then (some 0) else (if aa5 = 0 then (some 0) else (some 1))) else (if aa4 = 0 then (if t131 = true then (some 0) else (if aa5 = 0 then (some 0) else (some 1))) else (some 1))) else (some 1))) = some r := by rw [if_pos rfl] at H; exact H
            clear H
            have H := H1
            clear H1
            by_cases c166 : t129 = true
            · subst c166
              have H1 : (if t130 = true then (if t131 = true then (some 0) else (if aa5 = 0 then (some 0) else (some 1))) else (if aa4 = 0 then (if t131 = true then (some 0) else (if aa5 = 0 then (some 0) else (some 1))) else (some 1))) = some r := by rw [if_pos rfl] at H; exact H
              clear H
              have H := H1
              clear H1
              by_cases c167 : t130 = true
              · subst c167
                have H1 : (if t131 = true then (some 0) else (if aa5 = 0 then (some 0) else (some 1))) = some r := by rw [if_pos rfl] at H; exact H
                clear H
                have H := H1
                clear H1
                by_cases c168 : t131 = true
                · subst c168
                  have H1 : (some 0) = some r := by rw [if_pos rfl] at H; exact H
                  clear H
                  have H := H1
                  clear H1
                  obtain rfl := Option.some.inj H
                  go_wp2
                  go_ret
                  exact ⟨by first | rfl | (simp [errW_none, errW_some] <;> rfl) | (simp [*, errW_none, errW_some] <;> rfl), by repeat (first | (with_reducible first | exact HB.out | apply pa | apply pN | apply p1 | refine bs ?_ E126.out) | exact HB.out)⟩
                · replace c168 := Bool.eq_false_iff.mpr c168
                  subst c168
                  have H1 : (if aa5 = 0 then (some 0) else (some 1)) = some r := by rw [if_neg (show ¬ (false = true) by decide)] at H; exact H
                  clear H
                  have H := H1
                  clear H1
                  by_cases c169 : aa5 = 0
                  · rw [if_pos c169] at H
                    have c169b0 : (aa5 == 0) = true := beq_iff_eq.mpr c169
                    have c169b1 : (aa5 != 0) = false := bne_eq_false_iff_eq.mpr c169
                    clear c169
                    obtain rfl := Option.some.inj H
                    have hcz170_0 : wc.cell? ⟨g126, 0, none⟩ = some (I q aa0) := (bc B126.out 0).trans rfl
                    have hcz170_1 : wc.cell? ⟨g126, 1, none⟩ = some (I q aa1) := (bc B126.out 1).trans rfl
                    have hcz170_2 : wc.cell? ⟨g126, 2, none⟩ = some (I q aa2) := (bc B126.out 2).trans rfl
                    have hcz170_3 : wc.cell? ⟨g126, 3, none⟩ = some (I q aa3) := (bc B126.out 3).trans rfl
                    have hcz170_4 : wc.cell? ⟨g126, 4, none⟩ = some (I q aa4) := (bc B126.out 4).trans rfl
                    have hcz170_5 : wc.cell? ⟨g126, 5, none⟩ = some (I q aa5) := (bc B126.out 5).trans rfl
                    have hfz170_0 := bf B126.out 0
                    have hfz170_1 := bf B126.out 1
                    have hfz170_2 := bf B126.out 2
                    have hfz170_3 := bf B126.out 3
                    have hfz170_4 := bf B126.out 4
                    have hfz170_5 := bf B126.out 5
                    go_wp2
                    go_ret
                    exact ⟨by first | rfl | (simp [errW_none, errW_some] <;> rfl) | (simp [*, errW_none, errW_some] <;> rfl), by repeat (first | (with_reducible first | exact HB.out | apply pa | apply pN | apply p1 | refine bs ?_ E126.out) | exact HB.out)⟩
                  · rw [if_neg c169] at H
                    have c169b0 : (aa5 == 0) = false := beq_eq_false_iff_ne.mpr c169
                    have c169b1 : (aa5 != 0) = true := bne_iff_ne.mpr c169
                    obtain rfl := Option.some.inj H
                    have hcz171_0 : wc.cell? ⟨g126, 0, none⟩ = some (I q aa0) := (bc B126.out 0).trans rfl
                    have hcz171_1 : wc.cell? ⟨g126, 1, none⟩ = some (I q aa1) := (bc B126.out 1).trans rfl
                    have hcz171_2 : wc.cell? ⟨g126, 2, none⟩ = some (I q aa2) := (bc B126.out 2).trans rfl
                    have hcz171_3 : wc.cell? ⟨g126, 3, none⟩ = some (I q aa3) := (bc B126.out 3).trans rfl
                    have hcz171_4 : wc.cell? ⟨g126, 4, none⟩ = some (I q aa4) := (bc B126.out 4).trans rfl
                    have hcz171_5 : wc.cell? ⟨g126, 5, none⟩ = some (I q aa5) := (bc B126.out 5).trans rfl
                    have hfz171_0 := bf B126.out 0
                    have hfz171_1 := bf B126.out 1
                    have hfz171_2 := bf B126.out 2
                    have hfz171_3 := bf B126.out 3
                    have hfz171_4 := bf B126.out 4
                    have hfz171_5 := bf B126.out 5
                    go_wp2
                    go_ret
                    exact ⟨by first | rfl | (simp [errW_none, errW_some] <;> rfl) | (simp [*, errW_none, errW_some] <;> rfl), by repeat (first | (with_reducible first | exact HB.out | apply pa | apply pN | apply p1 | refine bs ?_ E126.out) | exact HB.out)⟩
              · replace c167 := Bool.eq_false_iff.mpr c167
                subst c167
                have H1 : (if aa4 = 0 then (if t131 = true then (some 0) else (if aa5 = 0 then (some 0) else (some 1))) else (some 1)) = some r := by rw [if_neg (show ¬ (false = true) by decide)] at H; exact H
                clear H
                have H := H1
                clear H1
                by_cases c172 : aa4 = 0
                · rw [if_pos c172] at H
                  have c172b0 : (aa4 == 0) = true := beq_iff_eq.mpr c172
                  have c172b1 : (aa4 != 0) = false := bne_eq_false_iff_eq.mpr c172
                  clear c172
                  by_cases c173 : t131 = true
                  · subst c173
                    have H1 : (some 0) = some r := by rw [if_pos rfl] at H; exact H
                    clear H
                    have H := H1
                    clear H1
                    obtain rfl := Option.some.inj H
                    have hcz174_0 : wc.cell? ⟨g126, 0, none⟩ = some (I q aa0) := (bc B126.out 0).trans rfl
                    have hcz174_1 : wc.cell? ⟨g126, 1, none⟩ = some (I q aa1) := (bc B126.out 1).trans rfl
                    have hcz174_2 : wc.cell? ⟨g126, 2, none⟩ = some (I q aa2) := (bc B126.out 2).trans rfl
                    have hcz174_3 : wc.cell? ⟨g126, 3, none⟩ = some (I q aa3) := (bc B126.out 3).trans rfl
                    have hcz174_4 : wc.cell? ⟨g126, 4, none⟩ = some (I q aa4) := (bc B126.out 4).trans rfl
                    have hcz174_5 : wc.cell? ⟨g126, 5, none⟩ = some (I q aa5) := (bc B126.out 5).trans rfl
                    have hfz174_0 := bf B126.out 0
                    have hfz174_1 := bf B126.out 1
                    have hfz174_2 := bf B126.out 2
                    have hfz174_3 := bf B126.out 3
                    have hfz174_4 := bf B126.out 4
                    have hfz174_5 := bf B126.out 5
                    go_wp2
                    go_ret
                    exact ⟨by first | rfl | (simp [errW_none, errW_some] <;> rfl) | (simp [*, errW_none, errW_some] <;> rfl), by repeat (first | (with_reducible first | exact HB.out | apply pa | apply pN | apply p1 | refine bs ?_ E126.out) | exact HB.out)⟩
                  · replace c173 := Bool.eq_false_iff.mpr c173
                    subst c173
                    have H1 : (if aa5 = 0 then (some 0) else (some 1)) = some r := by rw [if_neg (show ¬ (false = true) by decide)] at H; exact H
                    clear H
                    have H := H1
                    clear H1
                    by_cases c175 : aa5 = 0
                    · rw [if_pos c175] at H
                      have c175b0 : (aa5 == 0) = true := beq_iff_eq.mpr c175
                      have c175b1 : (aa5 != 0) = false := bne_eq_false_iff_eq.mpr c175
                      clear c175
                      obtain rfl := Option.some.inj H
                      have hcz176_0 : wc.cell? ⟨g126, 0, none⟩ = some (I q aa0) := (bc B126.out 0).trans rfl
                      have hcz176_1 : wc.cell? ⟨g126, 1, none⟩ = some (I q aa1) := (bc B126.out 1).trans rfl
                      have hcz176_2 : wc.cell? ⟨g126, 2, none⟩ = some (I q aa2) := (bc B126.out 2).trans rfl
                      have hcz176_3 : wc.cell? ⟨g126, 3, none⟩ = some (I q aa3) := (bc B126.out 3).trans rfl
                      have hcz176_4 : wc.cell? ⟨g126, 4, none⟩ = some (I q aa4) := (bc B126.out 4).trans rfl
                      have hcz176_5 : wc.cell? ⟨g126, 5, none⟩ = some (I q aa5) := (bc B126.out 5).trans rfl
                      have hfz176_0 := bf B126.out 0
                      have hfz176_1 := bf B126.out 1
                      have hfz176_2 := bf B126.out 2
                      have hfz176_3 := bf B126.out 3
                      have hfz176_4 := bf B126.out 4
                      have hfz176_5 := bf B126.out 5
                      go_wp2
                      go_ret
                      exact ⟨by first | rfl | (simp [errW_none, errW_some] <;> rfl) | (simp [*, errW_none, errW_some] <;> rfl), by repeat (first | (with_reducible first | exact HB.out | apply pa | apply pN | apply p1 | refine bs ?_ E126.out) | exact HB.out)⟩
                    · rw [if_neg c175] at H
                      have c175b0 : (aa5 == 0) = false := beq_eq_false_iff_ne.mpr c175
                      have c175b1 : (aa5 != 0) = true := bne_iff_ne.mpr c175
                      obtain rfl := Option.some.inj H
                      have hcz177_0 : wc.cell? ⟨g126, 0, none⟩ = some (I q aa0) := (bc B126.out 0).trans rfl
                      have hcz177_1 : wc.cell? ⟨g126, 1, none⟩ = some (I q aa1) := (bc B126.out 1).trans rfl
                      have hcz177_2 : wc.cell? ⟨g126, 2, none⟩ = some (I q aa2) := (bc B126.out 2).trans rfl
                      have hcz177_3 : wc.cell? ⟨g126, 3, none⟩ = some (I q aa3) := (bc B126.out 3).trans rfl
                      have hcz177_4 : wc.cell? ⟨g126, 4, none⟩ = some (I q aa4) := (bc B126.out 4).trans rfl
                      have hcz177_5 : wc.cell? ⟨g126, 5, none⟩ = some (I q aa5) := (bc B126.out 5).trans rfl
                      have hfz177_0 := bf B126.out 0
                      have hfz177_1 := bf B126.out 1
                      have hfz177_2 := bf B126.out 2
                      have hfz177_3 := bf B126.out 3
                      have hfz177_4 := bf B126.out 4
                      have hfz177_5 := bf B126.out 5
                      go_wp2
                      go_ret
                      exact ⟨by first | rfl | (simp [errW_none, errW_some] <;> rfl) | (simp [*, errW_none, errW_some] <;> rfl), by repeat (first | (with_reducible first | exact HB.out | apply pa | apply pN | apply p1 | refine bs ?_ E126.out) | exact HB.out)⟩
                · rw [if_neg c172] at H
                  have c172b0 : (aa4 == 0) = false := beq_eq_false_iff_ne.mpr c172
                  have c172b1 : (aa4 != 0) = true := bne_iff_ne.mpr c172
                  obtain rfl := Option.some.inj H
                  have hcz178_0 : wc.cell? ⟨g126, 0, none⟩ = some (I q aa0) := (bc B126.out 0).trans rfl
                  have hcz178_1 : wc.cell? ⟨g126, 1, none⟩ = some (I q aa1) := (bc B126.out 1).trans rfl
                  have hcz178_2 : wc.cell? ⟨g126, 2, none⟩ = some (I q aa2) := (bc B126.out 2).trans rfl
                  have hcz178_3 : wc.cell? ⟨g126, 3, none⟩ = some (I q aa3) := (bc B126.out 3).trans rfl
                  have hcz178_4 : wc.cell? ⟨g126, 4, none⟩ = some (I q aa4) := (bc B126.out 4).trans rfl
                  have hcz178_5 : wc.cell? ⟨g126, 5, none⟩ = some (I q aa5) := (bc B126.out 5).trans rfl
                  have hfz178_0 := bf B126.out 0
                  have hfz178_1 := bf B126.out 1
                  have hfz178_2 := bf B126.out 2
                  have hfz178_3 := bf B126.out 3
                  have hfz178_4 := bf B126.out 4
                  have hfz178_5 := bf B126.out 5
                  go_wp2
                  go_ret
                  exact ⟨by first | rfl | (simp [errW_none, errW_some] <;> rfl) | (simp [*, errW_none, errW_some] <;> rfl), by repeat (first | (with_reducible first | exact HB.out | apply pa | apply pN | apply p1 | refine bs ?_ E126.out) | exact HB.out)⟩
            · replace c166 := Bool.eq_false_iff.mpr c166
              subst c166
              have H1 : (if aa3 = 0 then (if t130 = true then (if t131 = true then (some 0) else (if aa5 = 0 then (some 0) else (some 1))) else (if aa4 = 0 then (if t131 = true then (some 0) else (if aa5 = 0 then (some 0) else (some 1))) else (some 1))) else (some 1)) = some r := by rw [if_neg (show ¬ (false = true) by decide)] at H; exact H
              clear H
              have H := H1
              clear H1
              by_cases c179 : aa3 = 0
              · rw [if_pos c179] at H
                have c179b0 : (aa3 == 0) = true := beq_iff_eq.mpr c179
                have c179b1 : (aa3 != 0) = false := bne_eq_false_iff_eq.mpr c179
                clear c179
                by_cases c180 : t130 = true
                · subst c180
                  have H1 : (if t131 = true then (some 0) else (if aa5 = 0 then (some 0) else (some 1))) = some r := by rw [if_pos rfl] at H; exact H
                  clear H
                  have H := H1
                  clear H1
                  by_cases c181 : t131 = true
                  · subst c181
                    have H1 : (some 0) = some r := by rw [if_pos rfl] at H; exact H
                    clear H
                    have H := H1
                    clear H1
                    obtain rfl := Option.some.inj H
                    have hcz182_0 : wc.cell? ⟨g126, 0, none⟩ = some (I q aa0) := (bc B126.out 0).trans rfl
                    have hcz182_1 : wc.cell? ⟨g126, 1, none⟩ = some (I q aa1) := (bc B126.out 1).trans rfl
                    have hcz182_2 : wc.cell? ⟨g126, 2, none⟩ = some (I q aa2) := (bc B126.out 2).trans rfl
                    have hcz182_3 : wc.cell? ⟨g126, 3, none⟩ = some (I q aa3) := (bc B126.out 3).trans rfl
                    have hcz182_4 : wc.cell? ⟨g126, 4, none⟩ = some (I q aa4) := (bc B126.out 4).trans rfl
                    have hcz182_5 : wc.cell? ⟨g126, 5, none⟩ = some (I q aa5) := (bc B126.out 5).trans rfl
                    have hfz182_0 := bf B126.out 0
                    have hfz182_1 := bf B126.out 1
                    have hfz182_2 := bf B126.out 2
                    have hfz182_3 := bf B126.out 3
                    have hfz182_4 := bf B126.out 4
                    have hfz182_5 := bf B126.out 5
                    go_wp2
                    go_ret
                    exact ⟨by first | rfl | (simp [errW_none, errW_some] <;> rfl) | (simp [*, errW_none, errW_some] <;> rfl), by repeat (first | (with_reducible first | exact HB.out | apply pa | apply pN | apply p1 | refine bs ?_ E126.out) | exact HB.out)⟩
                  · replace c181 := Bool.eq_false_iff.mpr c181
                    subst c181
                    have H1 : (if aa5 = 0 then (some 0) else (some 1)) = some r := by rw [if_neg (show ¬ (false = true) by decide)] at H; exact H
                    clear H
                    have H := H1
                    clear H1
                    by_cases c183 : aa5 = 0
                    · rw [if_pos c183] at H
                      have c183b0 : (aa5 == 0) = true := beq_iff_eq.mpr c183
                      have c183b1 : (aa5 != 0) = false := bne_eq_false_iff_eq.mpr c183
                      clear c183
                      obtain rfl := Option.some.inj H
                      have hcz184_0 : wc.cell? ⟨g126, 0, none⟩ = some (I q aa0) := (bc B126.out 0).trans rfl
                      have hcz184_1 : wc.cell? ⟨g126, 1, none⟩ = some (I q aa1) := (bc B126.out 1).trans rfl
                      have hcz184_2 : wc.cell? ⟨g126, 2, none⟩ = some (I q aa2) := (bc B126.out 2).trans rfl
                      have hcz184_3 : wc.cell? ⟨g126, 3, none⟩ = some (I q aa3) := (bc B126.out 3).trans rfl
                      have hcz184_4 : wc.cell? ⟨g126, 4, none⟩ = some (I q aa4) := (bc B126.out 4).trans rfl
                      have hcz184_5 : wc.cell? ⟨g126, 5, none⟩ = some (I q aa5) := (bc B126.out 5).trans rfl
                      have hfz184_0 := bf B126.out 0
                      have hfz184_1 := bf B126.out 1
                      have hfz184_2 := bf B126.out 2
                      have hfz184_3 := bf B126.out 3
                      have hfz184_4 := bf B126.out 4
                      have hfz184_5 := bf B126.out 5
                      go_wp2
                      go_ret
                      exact ⟨by first | rfl | (simp [errW_none, errW_some] <;> rfl) | (simp [*, errW_none, errW_some] <;> rfl), by repeat (first | (with_reducible first | exact HB.out | apply pa | apply pN | apply p1 | refine bs ?_ E126.out) | exact HB.out)⟩
                    · rw [if_neg c183] at H
                      have c183b0 : (aa5 == 0) = false := beq_eq_false_iff_ne.mpr c183
                      have c183b1 : (aa5 != 0) = true := bne_iff_ne.mpr c183
                      obtain rfl := Option.some.inj H
                      have hcz185_0 : wc.cell? ⟨g126, 0, none⟩ = some (I q aa0) := (bc B126.out 0).trans rfl
                      have hcz185_1 : wc.cell? ⟨g126, 1, none⟩ = some (I q aa1) := (bc B126.out 1).trans rfl
                      have hcz185_2 : wc.cell? ⟨g126, 2, none⟩ = some (I q aa2) := (bc B126.out 2).trans rfl
                      have hcz185_3 : wc.cell? ⟨g126, 3, none⟩ = some (I q aa3) := (bc B126.out 3).trans rfl
                      have hcz185_4 : wc.cell? ⟨g126, 4, none⟩ = some (I q aa4) := (bc B126.out 4).trans rfl
                      have hcz185_5 : wc.cell? ⟨g126, 5, none⟩ = some (I q aa5) := (bc B126.out 5).trans rfl
                      have hfz185_0 := bf B126.out 0
                      have hfz185_1 := bf B126.out 1
                      have hfz185_2 := bf B126.out 2
                      have hfz185_3 := bf B126.out 3
                      have hfz185_4 := bf B126.out 4
                      have hfz185_5 := bf B126.out 5
                      go_wp2
                      go_ret
                      exact ⟨by first | rfl | (simp [errW_none, errW_some] <;> rfl) | (simp [*, errW_none, errW_some] <;> rfl), by repeat (first | (with_reducible first | exact HB.out | apply pa | apply pN | apply p1 | refine bs ?_ E126.out) | exact HB.out)⟩
                · replace c180 := Bool.eq_false_iff.mpr c180
                  subst c180
                  have H1 : (if aa4 = 0 then (if t131 = true then (some 0) else (if aa5 = 0 then (some 0) else (some 1))) else (some 1)) = some r := by rw [if_neg (show ¬ (false = true) by decide)] at H; exact H
                  clear H
                  have H := H1
                  clear H1
                  by_cases c186 : aa4 = 0
                  · rw [if_pos c186] at H
                    have c186b0 : (aa4 == 0) = true := beq_iff_eq.mpr c186
                    have c186b1 : (aa4 != 0) = false := bne_eq_false_iff_eq.mpr c186
                    clear c186
                    by_cases c187 : t131 = true
                    · subst c187
                      have H1 : (some 0) = some r := by rw [if_pos rfl] at H; exact H
                      clear H
                      have H := H1
                      clear H1
                      obtain rfl := Option.some.inj H
                      have hcz188_0 : wc.cell? ⟨g126, 0, none⟩ = some (I q aa0) := (bc B126.out 0).trans rfl
                      have hcz188_1 : wc.cell? ⟨g126, 1, none⟩ = some (I q aa1) := (bc B126.out 1).trans rfl
                      have hcz188_2 : wc.cell? ⟨g126, 2, none⟩ = some (I q aa2) := (bc B126.out 2).trans rfl
                      have hcz188_3 : wc.cell? ⟨g126, 3, none⟩ = some (I q aa3) := (bc B126.out 3).trans rfl
                      have hcz188_4 : wc.cell? ⟨g126, 4, none⟩ = some (I q aa4) := (bc B126.out 4).trans rfl
                      have hcz188_5 : wc.cell? ⟨g126, 5, none⟩ = some (I q aa5) := (bc B126.out 5).trans rfl
                      have hfz188_0 := bf B126.out 0
                      have hfz188_1 := bf B126.out 1
                      have hfz188_2 := bf B126.out 2
                      have hfz188_3 := bf B126.out 3
                      have hfz188_4 := bf B126.out 4
                      have hfz188_5 := bf B126.out 5
                      go_wp2
                      go_ret
                      exact ⟨by first | rfl | (simp [errW_none, errW_some] <;> rfl) | (simp [*, errW_none, errW_some] <;> rfl), by repeat (first | (with_reducible first | exact HB.out | apply pa | apply pN | apply p1 | refine bs ?_ E126.out) | exact HB.out)⟩
                    · replace c187 := Bool.eq_false_iff.mpr c187
                      subst c187
                      have H1 : (if aa5 = 0 then (some 0) else (some 1)) = some r := by rw [if_neg (show ¬ (false = true) by decide)] at H; exact H
                      clear H
                      have H := H1
                      clear H1
                      by_cases c189 : aa5 = 0
                      · rw [if_pos c189] at H
                        have c189b0 : (aa5 == 0) = true := beq_iff_eq.mpr c189
                        have c189b1 : (aa5 != 0) = false := bne_eq_false_iff_eq.mpr c189
                        clear c189
                        obtain rfl := Option.some.inj H
                        have hcz190_0 : wc.cell? ⟨g126, 0, none⟩ = some (I q aa0) := (bc B126.out 0).trans rfl
                        have hcz190_1 : wc.cell? ⟨g126, 1, none⟩ = some (I q aa1) := (bc B126.out 1).trans rfl
                        have hcz190_2 : wc.cell? ⟨g126, 2, none⟩ = some (I q aa2) := (bc B126.out 2).trans rfl
                        have hcz190_3 : wc.cell? ⟨g126, 3, none⟩ = some (I q aa3) := (bc B126.out 3).trans rfl
                        have hcz190_4 : wc.cell? ⟨g126, 4, none⟩ = some (I q aa4) := (bc B126.out 4).trans rfl
                        have hcz190_5 : wc.cell? ⟨g126, 5, none⟩ = some (I q aa5) := (bc B126.out 5).trans rfl
                        have hfz190_0 := bf B126.out 0
                        have hfz190_1 := bf B126.out 1
                        have hfz190_2 := bf B126.out 2
                        have hfz190_3 := bf B126.out 3
                        have hfz190_4 := bf B126.out 4
                        have hfz190_5 := bf B126.out 5
                        go_wp2
                        go_ret
                        exact ⟨by first | rfl | (simp [errW_none, errW_some] <;> rfl) | (simp [*, errW_none, errW_some] <;> rfl), by repeat (first | (with_reducible first | exact HB.out | apply pa | apply pN | apply p1 | refine bs ?_ E126.out) | exact HB.out)⟩
                      · rw [if_neg c189] at H
                        have c189b0 : (aa5 == 0) = false := beq_eq_false_iff_ne.mpr c189
                        have c189b1 : (aa5 != 0) = true := bne_iff_ne.mpr c189
                        obtain rfl := Option.some.inj H
                        have hcz191_0 : wc.cell? ⟨g126, 0, none⟩ = some (I q aa0) := (bc B126.out 0).trans rfl
                        have hcz191_1 : wc.cell? ⟨g126, 1, none⟩ = some (I q aa1) := (bc B126.out 1).trans rfl
                        have hcz191_2 : wc.cell? ⟨g126, 2, none⟩ = some (I q aa2) := (bc B126.out 2).trans rfl
                        have hcz191_3 : wc.cell? ⟨g126, 3, none⟩ = some (I q aa3) := (bc B126.out 3).trans rfl
                        have hcz191_4 : wc.cell? ⟨g126, 4, none⟩ = some (I q aa4) := (bc B126.out 4).trans rfl
                        have hcz191_5 : wc.cell? ⟨g126, 5, none⟩ = some (I q aa5) := (bc B126.out 5).trans rfl
                        have hfz191_0 := bf B126.out 0
                        have hfz191_1 := bf B126.out 1
                        have hfz191_2 := bf B126.out 2
                        have hfz191_3 := bf B126.out 3
                        have hfz191_4 := bf B126.out 4
                        have hfz191_5 := bf B126.out 5
                        go_wp2
                        go_ret
                        exact ⟨by first | rfl | (simp [errW_none, errW_some] <;> rfl) | (simp [*, errW_none, errW_some] <;> rfl), by repeat (first | (with_reducible first | exact HB.out | apply pa | apply pN | apply p1 | refine bs ?_ E126.out) | exact HB.out)⟩
                  · rw [if_neg c186] at H
                    have c186b0 : (aa4 == 0) = false := beq_eq_false_iff_ne.mpr c186
                    have c186b1 : (aa4 != 0) = true := bne_iff_ne.mpr c186
                    obtain rfl := Option.some.inj H
                    have hcz192_0 : wc.cell? ⟨g126, 0, none⟩ = some (I q aa0) := (bc B126.out 0).trans rfl
                    have hcz192_1 : wc.cell? ⟨g126, 1, none⟩ = some (I q aa1) := (bc B126.out 1).trans rfl
                    have hcz192_2 : wc.cell? ⟨g126, 2, none⟩ = some (I q aa2) := (bc B126.out 2).trans rfl
                    have hcz192_3 : wc.cell? ⟨g126, 3, none⟩ = some (I q aa3) := (bc B126.out 3).trans rfl
                    have hcz192_4 : wc.cell? ⟨g126, 4, none⟩ = some (I q aa4) := (bc B126.out 4).trans rfl
                    have hcz192_5 : wc.cell? ⟨g126, 5, none⟩ = some (I q aa5) := (bc B126.out 5).trans rfl
                    have hfz192_0 := bf B126.out 0
                    have hfz192_1 := bf B126.out 1
                    have hfz192_2 := bf B126.out 2
                    have hfz192_3 := bf B126.out 3
                    have hfz192_4 := bf B126.out 4
                    have hfz192_5 := bf B126.out 5
                    go_wp2
                    go_ret
                    exact ⟨by first | rfl | (simp [errW_none, errW_some] <;> rfl) | (simp [*, errW_none, errW_some] <;> rfl), by repeat (first | (with_reducible first | exact HB.out | apply pa | apply pN | apply p1 | refine bs ?_ E126.out) | exact HB.out)⟩
              · rw [if_neg c179] at H
                have c179b0 : (aa3 == 0) = false := beq_eq_false_iff_ne.mpr c179
                have c179b1 : (aa3 != 0) = true := bne_iff_ne.mpr c179
                obtain rfl := Option.some.inj H
                have hcz193_0 : wc.cell? ⟨g126, 0, none⟩ = some (I q aa0) := (bc B126.out 0).trans rfl
                have hcz193_1 : wc.cell? ⟨g126, 1, none⟩ = some (I q aa1) := (bc B126.out 1).trans rfl
                have hcz193_2 : wc.cell? ⟨g126, 2, none⟩ = some (I q aa2) := (bc B126.out 2).trans rfl
                have hcz193_3 : wc.cell? ⟨g126, 3, none⟩ = some (I q aa3) := (bc B126.out 3).trans rfl
                have hcz193_4 : wc.cell? ⟨g126, 4, none⟩ = some (I q aa4) := (bc B126.out 4).trans rfl
                have hcz193_5 : wc.cell? ⟨g126, 5, none⟩ = some (I q aa5) := (bc B126.out 5).trans rfl
                have hfz193_0 := bf B126.out 0
                have hfz193_1 := bf B126.out 1
                have hfz193_2 := bf B126.out 2
                have hfz193_3 := bf B126.out 3
                have hfz193_4 := bf B126.out 4
                have hfz193_5 := bf B126.out 5
                go_wp2
                go_ret
                exact ⟨by first | rfl | (simp [errW_none, errW_some] <;> rfl) | (simp [*, errW_none, errW_some] <;> rfl), by repeat (first | (with_reducible first | exact HB.out | apply pa | apply pN | apply p1 | refine bs ?_ E126.out) | exact HB.out)⟩
          · replace c165 := Bool.eq_false_iff.mpr c165
            subst c165
            have H1 : (if aa2 = 0 then (if t129 = true then (if t130 = true then (if t131 = true then (some 0) else (if aa5 = 0 then (some 0) else (some 1))) else (if aa4 = 0 then (if t131 = true then (some 0) else (if aa5 = 0 then (some 0) else (some 1))) else (some 1))) else (if aa3 = 0 then (if t130 = true then (if t131 = true then (some 0) else (if aa5 = 0 then (some 0) else (some 1))) else (if aa4 = 0 then (if t131 = true then (some 0) else (if aa5 = 0 then (some 0) else (some 1))) else (some 1))) else (some 1))) else (some 1)) = some r := by rw [if_neg (show ¬ (false = true) by decide)] at H; exact H
            clear H
            have H := H1
            clear H1
            by_cases c194 : aa2 = 0
            · rw [if_pos c194] at H
              have c194b0 : (aa2 == 0) = true := beq_iff_eq.mpr c194
              have c194b1 : (aa2 != 0) = false := bne_eq_false_iff_eq.mpr c194
              clear c194
              by_cases c195 : t129 = true
              · subst c195
                have H1 : (if t130 = true then (if t131 = true then (some 0) else (if aa5 = 0 then (some 0) else (some 1))) else (if aa4 = 0 then (if t131 = true then (some 0) else (if aa5 = 0 then (some 0) else (some 1))) else (some 1))) = some r := by rw [if_pos rfl] at H; exact H
                clear H
                have H := H1
                clear H1
                by_cases c196 : t130 = true
                · subst c196
                  have H1 : (if t131 = true then (some 0) else (if aa5 = 0 then (some 0) else (some 1))) = some r := by rw [if_pos rfl] at H; exact H
                  clear H
                  have H := H1
                  clear H1
                  by_cases c197 : t131 = true
                  · subst c197
                    have H1 : (some 0) = some r := by rw [if_pos rfl] at H; exact H
                    clear H
                    have H := H1
                    clear H1
                    obtain rfl := Option.some.inj H
                    have hcz198_0 : wc.cell? ⟨g126, 0, none⟩ = some (I q aa0) := (bc B126.out 0).trans rfl
                    have hcz198_1 : wc.cell? ⟨g126, 1, none⟩ = some (I q aa1) := (bc B126.out 1).trans rfl
                    have hcz198_2 : wc.cell? ⟨g126, 2, none⟩ = some (I q aa2) := (bc B126.out 2).trans rfl
                    have hcz198_3 : wc.cell? ⟨g126, 3, none⟩ = some (I q aa3) := (bc B126.out 3).trans rfl
                    have hcz198_4 : wc.cell? ⟨g126, 4, none⟩ = some (I q aa4) := (bc B126.out 4).trans rfl
                    have hcz198_5 : wc.cell? ⟨g126, 5, none⟩ = some (I q aa5) := (bc B126.out 5).trans rfl
                    have hfz198_0 := bf B126.out 0
                    have hfz198_1 := bf B126.out 1
                    have hfz198_2 := bf B126.out 2
                    have hfz198_3 := bf B126.out 3
                    have hfz198_4 := bf B126.out 4
                    have hfz198_5 := bf B126.out 5
                    go_wp2
                    go_ret
                    exact ⟨by first | rfl | (simp [errW_none, errW_some] <;> rfl) | (simp [*, errW_none, errW_some] <;> rfl), by repeat (first | (with_reducible first | exact HB.out | apply pa | apply pN | apply p1 | refine bs ?_ E126.out) | exact HB.out)⟩
                  · replace c197 := Bool.eq_false_iff.mpr c197
                    subst c197
                    have H1 : (if aa5 = 0 then (some 0) else (some 1)) = some r := by rw [if_neg (show ¬ (false = true) by decide)] at H; exact H
                    clear H
                    have H := H1
                    clear H1
                    by_cases c199 : aa5 = 0
                    · rw [if_pos c199] at H
                      have c199b0 : (aa5 == 0) = true := beq_iff_eq.mpr c199
                      have c199b1 : (aa5 != 0) = false := bne_eq_false_iff_eq.mpr c199
                      clear c199
                      obtain rfl := Option.some.inj H
                      have hcz200_0 : wc.cell? ⟨g126, 0, none⟩ = some (I q aa0) := (bc B126.out 0).trans rfl
                      have hcz200_1 : wc.cell? ⟨g126, 1, none⟩ = some (I q aa1) := (bc B126.out 1).trans rfl
                      have hcz200_2 : wc.cell? ⟨g126, 2, none⟩ = some (I q aa2) := (bc B126.out 2).trans rfl
                      have hcz200_3 : wc.cell? ⟨g126, 3, none⟩ = some (I q aa3) := (bc B126.out 3).trans rfl
                      have hcz200_4 : wc.cell? ⟨g126, 4, none⟩ = some (I q aa4) := (bc B126.out 4).trans rfl
                      have hcz200_5 : wc.cell? ⟨g126, 5, none⟩ = some (I q aa5) := (bc B126.out 5).trans rfl
                      have hfz200_0 := bf B126.out 0
                      have hfz200_1 := bf B126.out 1
                      have hfz200_2 := bf B126.out 2
                      have hfz200_3 := bf B126.out 3
                      have hfz200_4 := bf B126.out 4
                      have hfz200_5 := bf B126.out 5
                      go_wp2
                      go_ret
                      exact ⟨by first | rfl | (simp [errW_none, errW_some] <;> rfl) | (simp [*, errW_none, errW_some] <;> rfl), by repeat (first | (with_reducible first | exact HB.out | apply pa | apply pN | apply p1 | refine bs ?_ E126.out) | exact HB.out)⟩
                    · rw [if_neg c199] at H
                      have c199b0 : (aa5 == 0) = false := beq_eq_false_iff_ne.mpr c199
                      have c199b1 : (aa5 != 0) = true := bne_iff_ne.mpr c199
                      obtain rfl := Option.some.inj H
                      have hcz201_0 : wc.cell? ⟨g126, 0, none⟩ = some (I q aa0) := (bc B126.out 0).trans rfl
                      have hcz201_1 : wc.cell? ⟨g126, 1, none⟩ = some (I q aa1) := (bc B126.out 1).trans rfl
                      have hcz201_2 : wc.cell? ⟨g126, 2, none⟩ = some (I q aa2) := (bc B126.out 2).trans rfl
                      have hcz201_3 : wc.cell? ⟨g126, 3, none⟩ = some (I q aa3) := (bc B126.out 3).trans rfl
                      have hcz201_4 : wc.cell? ⟨g126, 4, none⟩ = some (I q aa4) := (bc B126.out 4).trans rfl
                      have hcz201_5 : wc.cell? ⟨g126, 5, none⟩ = some (I q aa5) := (bc B126.out 5).trans rfl
                      have hfz201_0 := bf B126.out 0
                      have hfz201_1 := bf B126.out 1
                      have hfz201_2 := bf B126.out 2
                      have hfz201_3 := bf B126.out 3
                      have hfz201_4 := bf B126.out 4
                      have hfz201_5 := bf B126.out 5
                      go_wp2
                      go_ret
                      exact ⟨by first | rfl | (simp [errW_none, errW_some] <;> rfl) | (simp [*, errW_none, errW_some] <;> rfl), by repeat (first | (with_reducible first | exact HB.out | apply pa | apply pN | apply p1 | refine bs ?_ E126.out) | exact HB.out)⟩
                · replace c196 := Bool.eq_false_iff.mpr c196
                  subst c196
                  have H1 : (if aa4 = 0 then (if t131 = true then (some 0) else (if aa5 = 0 then (some 0) else (some 1))) else (some 1)) = some r := by rw [if_neg (show ¬ (false = true) by decide)] at H; exact H
                  clear H
                  have H := H1
                  clear H1
                  by_cases c202 : aa4 = 0
                  · rw [if_pos c202] at H
                    have c202b0 : (aa4 == 0) = true := beq_iff_eq.mpr c202
                    have c202b1 : (aa4 != 0) = false := bne_eq_false_iff_eq.mpr c202
                    clear c202
                    by_cases c203 : t131 = true
                    · subst c203
                      have H1 : (some 0) = some r := by rw [if_pos rfl] at H; exact H
                      clear H
                      have H := H1
                      clear H1
                      obtain rfl := Option.some.inj H
                      have hcz204_0 : wc.cell? ⟨g126, 0, none⟩ = some (I q aa0) := (bc B126.out 0).trans rfl
                      have hcz204_1 : wc.cell? ⟨g126, 1, none⟩ = some (I q aa1) := (bc B126.out 1).trans rfl
                      have hcz204_2 : wc.cell? ⟨g126, 2, none⟩ = some (I q aa2) := (bc B126.out 2).trans rfl
                      have hcz204_3 : wc.cell? ⟨g126, 3, none⟩ = some (I q aa3) := (bc B126.out 3).trans rfl
                      have hcz204_4 : wc.cell? ⟨g126, 4, none⟩ = some (I q aa4) := (bc B126.out 4).trans rfl
                      have hcz204_5 : wc.cell? ⟨g126, 5, none⟩ = some (I q aa5) := (bc B126.out 5).trans rfl
                      have hfz204_0 := bf B126.out 0
                      have hfz204_1 := bf B126.out 1
                      have hfz204_2 := bf B126.out 2
                      have hfz204_3 := bf B126.out 3
                      have hfz204_4 := bf B126.out 4
                      have hfz204_5 := bf B126.out 5
                      go_wp2
                      go_ret
                      exact ⟨by first | rfl | (simp [errW_none, errW_some] <;> rfl) | (simp [*, errW_none, errW_some] <;> rfl), by repeat (first | (with_reducible first | exact HB.out | apply pa | apply pN | apply p1 | refine bs ?_ E126.out) | exact HB.out)⟩
                    · replace c203 := Bool.eq_false_iff.mpr c203
                      subst c203
                      have H1 : (if aa5 = 0 then (some 0) else (some 1)) = some r := by rw [if_neg (show ¬ (false = true) by decide)] at H; exact H
                      clear H
                      have H := H1
                      clear H1
                      by_cases c205 : aa5 = 0
                      · rw [if_pos c205] at H
                        have c205b0 : (aa5 == 0) = true := beq_iff_eq.mpr c205
                        have c205b1 : (aa5 != 0) = false := bne_eq_false_iff_eq.mpr c205
                        clear c205
                        obtain rfl := Option.some.inj H
                        have hcz206_0 : wc.cell? ⟨g126, 0, none⟩ = some (I q aa0) := (bc B126.out 0).trans rfl
                        have hcz206_1 : wc.cell? ⟨g126, 1, none⟩ = some (I q aa1) := (bc B126.out 1).trans rfl
                        have hcz206_2 : wc.cell? ⟨g126, 2, none⟩ = some (I q aa2) := (bc B126.out 2).trans rfl
                        have hcz206_3 : wc.cell? ⟨g126, 3, none⟩ = some (I q aa3) := (bc B126.out 3).trans rfl
                        have hcz206_4 : wc.cell? ⟨g126, 4, none⟩ = some (I q aa4) := (bc B126.out 4).trans rfl
                        have hcz206_5 : wc.cell? ⟨g126, 5, none⟩ = some (I q aa5) := (bc B126.out 5).trans rfl
                        have hfz206_0 := bf B126.out 0
                        have hfz206_1 := bf B126.out 1
                        have hfz206_2 := bf B126.out 2
                        have hfz206_3 := bf B126.out 3
                        have hfz206_4 := bf B126.out 4
                        have hfz206_5 := bf B126.out 5
                        go_wp2
                        go_ret
                        exact ⟨by first | rfl | (simp [errW_none, errW_some] <;> rfl) | (simp [*, errW_none, errW_some] <;> rfl), by repeat (first | (with_reducible first | exact HB.out | apply pa | apply pN | apply p1 | refine bs ?_ E126.out) | exact HB.out)⟩
                      · rw [if_neg c205] at H
                        have c205b0 : (aa5 == 0) = false := beq_eq_false_iff_ne.mpr c205
                        have c205b1 : (aa5 != 0) = true := bne_iff_ne.mpr c205
                        obtain rfl := Option.some.inj H
                        have hcz207_0 : wc.cell? ⟨g126, 0, none⟩ = some (I q aa0) := (bc B126.out 0).trans rfl
                        have hcz207_1 : wc.cell? ⟨g126, 1, none⟩ = some (I q aa1) := (bc B126.out 1).trans rfl
                        have hcz207_2 : wc.cell? ⟨g126, 2, none⟩ = some (I q aa2) := (bc B126.out 2).trans rfl
                        have hcz207_3 : wc.cell? ⟨g126, 3, none⟩ = some (I q aa3) := (bc B126.out 3).trans rfl
                        have hcz207_4 : wc.cell? ⟨g126, 4, none⟩ = some (I q aa4) := (bc B126.out 4).trans rfl
                        have hcz207_5 : wc.cell? ⟨g126, 5, none⟩ = some (I q aa5) := (bc B126.out 5).trans rfl
                        have hfz207_0 := bf B126.out 0
                        have hfz207_1 := bf B126.out 1
                        have hfz207_2 := bf B126.out 2
                        have hfz207_3 := bf B126.out 3
                        have hfz207_4 := bf B126.out 4
                        have hfz207_5 := bf B126.out 5
                        go_wp2
                        go_ret
                        exact ⟨by first | rfl | (simp [errW_none, errW_some] <;> rfl) | (simp [*, errW_none, errW_some] <;> rfl), by repeat (first | (with_reducible first | exact HB.out | apply pa | apply pN | apply p1 | refine bs ?_ E126.out) | exact HB.out)⟩
                  · rw [if_neg c202] at H
                    have c202b0 : (aa4 == 0) = false := beq_eq_false_iff_ne.mpr c202
                    have c202b1 : (aa4 != 0) = true := bne_iff_ne.mpr c202
                    obtain rfl := Option.some.inj H
                    have hcz208_0 : wc.cell? ⟨g126, 0, none⟩ = some (I q aa0) := (bc B126.out 0).trans rfl
                    have hcz208_1 : wc.cell? ⟨g126, 1, none⟩ = some (I q aa1) := (bc B126.out 1).trans rfl
                    have hcz208_2 : wc.cell? ⟨g126, 2, none⟩ = some (I q aa2) := (bc B126.out 2).trans rfl
                    have hcz208_3 : wc.cell? ⟨g126, 3, none⟩ = some (I q aa3) := (bc B126.out 3).trans rfl
                    have hcz208_4 : wc.cell? ⟨g126, 4, none⟩ = some (I q aa4) := (bc B126.out 4).trans rfl
                    have hcz208_5 : wc.cell? ⟨g126, 5, none⟩ = some (I q aa5) := (bc B126.out 5).trans rfl
                    have hfz208_0 := bf B126.out 0
                    have hfz208_1 := bf B126.out 1
                    have hfz208_2 := bf B126.out 2
                    have hfz208_3 := bf B126.out 3
                    have hfz208_4 := bf B126.out 4
                    have hfz208_5 := bf B126.out 5
                    go_wp2
                    go_ret
                    exact ⟨by first | rfl | (simp [errW_none, errW_some] <;> rfl) | (simp [*, errW_none, errW_some] <;> rfl), by repeat (first | (with_reducible first | exact HB.out | apply pa | apply pN | apply p1 | refine bs ?_ E126.out) | exact HB.out)⟩
              · replace c195 := Bool.eq_false_iff.mpr c195
                subst c195
                have H1 : (if aa3 = 0 then (if t130 = true then (if t131 = true then (some 0) else (if aa5 = 0 then (some 0) else (some 1))) else (if aa4 = 0 then (if t131 = true then (some 0) else (if aa5 = 0 then (some 0) else (some 1))) else (some 1))) else (some 1)) = some r := by rw [if_neg (show ¬ (false = true) by decide)] at H; exact H
                clear H
                have H := H1
                clear H1
                by_cases c209 : aa3 = 0
                · rw [if_pos c209] at H
                  have c209b0 : (aa3 == 0) = true := beq_iff_eq.mpr c209
                  have c209b1 : (aa3 != 0) = false := bne_eq_false_iff_eq.mpr c209
                  clear c209
                  by_cases c210 : t130 = true
                  · subst c210
                    have H1 : (if t131 = true then (some 0) else (if aa5 = 0 then (some 0) else (some 1))) = some r := by rw [if_pos rfl] at H; exact H
                    clear H
                    have H := H1
                    clear H1
                    by_cases c211 : t131 = true
                    · subst c211
                      have H1 : (some 0) = some r := by rw [if_pos rfl] at H; exact H
                      clear H
                      have H := H1
                      clear H1
                      obtain rfl := Option.some.inj H
                      have hcz212_0 : wc.cell? ⟨g126, 0, none⟩ = some (I q aa0) := (bc B126.out 0).trans rfl
                      have hcz212_1 : wc.cell? ⟨g126, 1, none⟩ = some (I q aa1) := (bc B126.out 1).trans rfl
                      have hcz212_2 : wc.cell? ⟨g126, 2, none⟩ = some (I q aa2) := (bc B126.out 2).trans rfl
                      have hcz212_3 : wc.cell? ⟨g126, 3, none⟩ = some (I q aa3) := (bc B126.out 3).trans rfl
                      have hcz212_4 : wc.cell? ⟨g126, 4, none⟩ = some (I q aa4) := (bc B126.out 4).trans rfl
                      have hcz212_5 : wc.cell? ⟨g126, 5, none⟩ = some (I q aa5) := (bc B126.out 5).trans rfl
                      have hfz212_0 := bf B126.out 0
                      have hfz212_1 := bf B126.out 1
                      have hfz212_2 := bf B126.out 2
                      have hfz212_3 := bf B126.out 3
                      have hfz212_4 := bf B126.out 4
                      have hfz212_5 := bf B126.out 5
                      go_wp2
                      go_ret
                      exact ⟨by first | rfl | (simp [errW_none, errW_some] <;> rfl) | (simp [*, errW_none, errW_some] <;> rfl), by repeat (first | (with_reducible first | exact HB.out | apply pa | apply pN | apply p1 | refine bs ?_ E126.out) | exact HB.out)⟩
                    · replace c211 := Bool.eq_false_iff.mpr c211
                      subst c211
                      have H1 : (if aa5 = 0 then (some 0) else (some 1)) = some r := by rw [if_neg (show ¬ (false = true) by decide)] at H; exact H
                      clear H
                      have H := H1
                      clear H1
                      by_cases c213 : aa5 = 0
                      · rw [if_pos c213] at H
                        have c213b0 : (aa5 == 0) = true := beq_iff_eq.mpr c213
                        have c213b1 : (aa5 != 0) = false := bne_eq_false_iff_eq.mpr c213
                        clear c213
                        obtain rfl := Option.some.inj H
                        have hcz214_0 : wc.cell? ⟨g126, 0, none⟩ = some (I q aa0) := (bc B126.out 0).trans rfl
                        have hcz214_1 : wc.cell? ⟨g126, 1, none⟩ = some (I q aa1) := (bc B126.out 1).trans rfl
                        have hcz214_2 : wc.cell? ⟨g126, 2, none⟩ = some (I q aa2) := (bc B126.out 2).trans rfl
                        have hcz214_3 : wc.cell? ⟨g126, 3, none⟩ = some (I q aa3) := (bc B126.out 3).trans rfl
                        have hcz214_4 : wc.cell? ⟨g126, 4, none⟩ = some (I q aa4) := (bc B126.out 4).trans rfl
                        have hcz214_5 : wc.cell? ⟨g126, 5, none⟩ = some (I q aa5) := (bc B126.out 5).trans rfl
                        have hfz214_0 := bf B126.out 0
                        have hfz214_1 := bf B126.out 1
                        have hfz214_2 := bf B126.out 2
                        have hfz214_3 := bf B126.out 3
                        have hfz214_4 := bf B126.out 4
                        have hfz214_5 := bf B126.out 5
                        go_wp2
                        go_ret
                        exact ⟨by first | rfl | (simp [errW_none, errW_some] <;> rfl) | (simp [*, errW_none, errW_some] <;> rfl), by repeat (first | (with_reducible first | exact HB.out | apply pa | apply pN | apply p1 | refine bs ?_ E126.out) | exact HB.out)⟩
                      · rw [if_neg c213] at H
                        have c213b0 : (aa5 == 0) = false := beq_eq_false_iff_ne.mpr c213
                        have c213b1 : (aa5 != 0) = true := bne_iff_ne.mpr c213
                        obtain rfl := Option.some.inj H
                        have hcz215_0 : wc.cell? ⟨g126, 0, none⟩ = some (I q aa0) := (bc B126.out 0).trans rfl
                        have hcz215_1 : wc.cell? ⟨g126, 1, none⟩ = some (I q aa1) := (bc B126.out 1).trans rfl
                        have hcz215_2 : wc.cell? ⟨g126, 2, none⟩ = some (I q aa2) := (bc B126.out 2).trans rfl
                        have hcz215_3 : wc.cell? ⟨g126, 3, none⟩ = some (I q aa3) := (bc B126.out 3).trans rfl
                        have hcz215_4 : wc.cell? ⟨g126, 4, none⟩ = some (I q aa4) := (bc B126.out 4).trans rfl
                        have hcz215_5 : wc.cell? ⟨g126, 5, none⟩ = some (I q aa5) := (bc B126.out 5).trans rfl
                        have hfz215_0 := bf B126.out 0
                        have hfz215_1 := bf B126.out 1
                        have hfz215_2 := bf B126.out 2
                        have hfz215_3 := bf B126.out 3
                        have hfz215_4 := bf B126.out 4
                        have hfz215_5 := bf B126.out 5
                        go_wp2
                        go_ret
                        exact ⟨by first | rfl | (simp [errW_none, errW_some] <;> rfl) | (simp [*, errW_none, errW_some] <;> rfl), by repeat (first | (with_reducible first | exact HB.out | apply pa | apply pN | apply p1 | refine bs ?_ E126.out) | exact HB.out)⟩
                  · replace c210 := Bool.eq_false_iff.mpr c210
                    subst c210
                    have H1 : (if aa4 = 0 then (if t131 = true then (some 0) else (if aa5 = 0 then (some 0) else (some 1))) else (some 1)) = some r := by rw [if_neg (show ¬ (false = true) by decide)] at H; exact H
                    clear H
                    have H := H1
                    clear H1
                    by_cases c216 : aa4 = 0
                    · rw [if_pos c216] at H
                      have c216b0 : (aa4 == 0) = true := beq_iff_eq.mpr c216
                      have c216b1 : (aa4 != 0) = false := bne_eq_false_iff_eq.mpr c216
                      clear c216
                      by_cases c217 : t131 = true
                      · subst c217
                        have H1 : (some 0) = some r := by rw [if_pos rfl] at H; exact H
                        clear H
                        have H := H1
                        clear H1
                        obtain rfl := Option.some.inj H
                        have hcz218_0 : wc.cell? ⟨g126, 0, none⟩ = some (I q aa0) := (bc B126.out 0).trans rfl
                        have hcz218_1 : wc.cell? ⟨g126, 1, none⟩ = some (I q aa1) := (bc B126.out 1).trans rfl
                        have hcz218_2 : wc.cell? ⟨g126, 2, none⟩ = some (I q aa2) := (bc B126.out 2).trans rfl
                        have hcz218_3 : wc.cell? ⟨g126, 3, none⟩ = some (I q aa3) := (bc B126.out 3).trans rfl
                        have hcz218_4 : wc.cell? ⟨g126, 4, none⟩ = some (I q aa4) := (bc B126.out 4).trans rfl
                        have hcz218_5 : wc.cell? ⟨g126, 5, none⟩ = some (I q aa5) := (bc B126.out 5).trans rfl
                        have hfz218_0 := bf B126.out 0
                        have hfz218_1 := bf B126.out 1
                        have hfz218_2 := bf B126.out 2
                        have hfz218_3 := bf B126.out 3
                        have hfz218_4 := bf B126.out 4
                        have hfz218_5 := bf B126.out 5
                        go_wp2
                        go_ret
                        exact ⟨by first | rfl | (simp [errW_none, errW_some] <;> rfl) | (simp [*, errW_none, errW_some] <;> rfl), by repeat (first | (with_reducible first | exact HB.out | apply pa | apply pN | apply p1 | refine bs ?_ E126.out) | exact HB.out)⟩
                      · replace c217 := Bool.eq_false_iff.mpr c217
                        subst c217
                        have H1 : (if aa5 = 0 then (some 0) else (some 1)) = some r := by rw [if_neg (show ¬ (false = true) by decide)] at H; exact H
                        clear H
                        have H := H1
                        clear H1
                        by_cases c219 : aa5 = 0
                        · rw [if_pos c219] at H
                          have c219b0 : (aa5 == 0) = true := beq_iff_eq.mpr c219
                          have c219b1 : (aa5 != 0) = false := bne_eq_false_iff_eq.mpr c219
                          clear c219
                          obtain rfl := Option.some.inj H
                          have hcz220_0 : wc.cell? ⟨g126, 0, none⟩ = some (I q aa0) := (bc B126.out 0).trans rfl
                          have hcz220_1 : wc.cell? ⟨g126, 1, none⟩ = some (I q aa1) := (bc B126.out 1).trans rfl
                          have hcz220_2 : wc.cell? ⟨g126, 2, none⟩ = some (I q aa2) := (bc B126.out 2).trans rfl
                          have hcz220_3 : wc.cell? ⟨g126, 3, none⟩ = some (I q aa3) := (bc B126.out 3).trans rfl
                          have hcz220_4 : wc.cell? ⟨g126, 4, none⟩ = some (I q aa4) := (bc B126.out 4).trans rfl
                          have hcz220_5 : wc.cell? ⟨g126, 5, none⟩ = some (I q aa5) := (bc B126.out 5).trans rfl
                          have hfz220_0 := bf B126.out 0
                          have hfz220_1 := bf B126.out 1
                          have hfz220_2 := bf B126.out 2
                          have hfz220_3 := bf B126.out 3
                          have hfz220_4 := bf B126.out 4
                          have hfz220_5 := bf B126.out 5
                          go_wp2
                          go_ret
                          exact ⟨by first | rfl | (simp [errW_none, errW_some] <;> rfl) | (simp [*, errW_none, errW_some] <;> rfl), by repeat (first | (with_reducible first | exact HB.out | apply pa | apply pN | apply p1 | refine bs ?_ E126.out) | exact HB.out)⟩
                        · rw [if_neg c219] at H
                          have c219b0 : (aa5 == 0) = false := beq_eq_false_iff_ne.mpr c219
                          have c219b1 : (aa5 != 0) = true := bne_iff_ne.mpr c219
                          obtain rfl := Option.some.inj H
                          have hcz221_0 : wc.cell? ⟨g126, 0, none⟩ = some (I q aa0) := (bc B126.out 0).trans rfl
                          have hcz221_1 : wc.cell? ⟨g126, 1, none⟩ = some (I q aa1) := (bc B126.out 1).trans rfl
                          have hcz221_2 : wc.cell? ⟨g126, 2, none⟩ = some (I q aa2) := (bc B126.out 2).trans rfl
                          have hcz221_3 : wc.cell? ⟨g126, 3, none⟩ = some (I q aa3) := (bc B126.out 3).trans rfl
                          have hcz221_4 : wc.cell? ⟨g126, 4, none⟩ = some (I q aa4) := (bc B126.out 4).trans rfl
                          have hcz221_5 : wc.cell? ⟨g126, 5, none⟩ = some (I q aa5) := (bc B126.out 5).trans rfl
                          have hfz221_0 := bf B126.out 0
                          have hfz221_1 := bf B126.out 1
                          have hfz221_2 := bf B126.out 2
                          have hfz221_3 := bf B126.out 3
                          have hfz221_4 := bf B126.out 4
                          have hfz221_5 := bf B126.out 5
                          go_wp2
                          go_ret
                          exact ⟨by first | rfl | (simp [errW_none, errW_some] <;> rfl) | (simp [*, errW_none, errW_some] <;> rfl), by repeat (first | (with_reducible first | exact HB.out | apply pa | apply pN | apply p1 | refine bs ?_ E126.out) | exact HB.out)⟩
                    · rw [if_neg c216] at H
                      have c216b0 : (aa4 == 0) = false := beq_eq_false_iff_ne.mpr c216
                      have c216b1 : (aa4 != 0) = true := bne_iff_ne.mpr c216
                      obtain rfl := Option.some.inj H
                      have hcz222_0 : wc.cell? ⟨g126, 0, none⟩ = some (I q aa0) := (bc B126.out 0).trans rfl
                      have hcz222_1 : wc.cell? ⟨g126, 1, none⟩ = some (I q aa1) := (bc B126.out 1).trans rfl
                      have hcz222_2 : wc.cell? ⟨g126, 2, none⟩ = some (I q aa2) := (bc B126.out 2).trans rfl
                      have hcz222_3 : wc.cell? ⟨g126, 3, none⟩ = some (I q aa3) := (bc B126.out 3).trans rfl
                      have hcz222_4 : wc.cell? ⟨g126, 4, none⟩ = some (I q aa4) := (bc B126.out 4).trans rfl
                      have hcz222_5 : wc.cell? ⟨g126, 5, none⟩ = some (I q aa5) := (bc B126.out 5).trans rfl
                      have hfz222_0 := bf B126.out 0
                      have hfz222_1 := bf B126.out 1
                      have hfz222_2 := bf B126.out 2
                      have hfz222_3 := bf B126.out 3
                      have hfz222_4 := bf B126.out 4
                      have hfz222_5 := bf B126.out 5
                      go_wp2
                      go_ret
                      exact ⟨by first | rfl | (simp [errW_none, errW_some] <;> rfl) | (simp [*, errW_none, errW_some] <;> rfl), by repeat (first | (with_reducible first | exact HB.out | apply pa | apply pN | apply p1 | refine bs ?_ E126.out) | exact HB.out)⟩
                · rw [if_neg c209] at H
                  have c209b0 : (aa3 == 0) = false := beq_eq_false_iff_ne.mpr c209
                  have c209b1 : (aa3 != 0) = true := bne_iff_ne.mpr c209
                  obtain rfl := Option.some.inj H
                  have hcz223_0 : wc.cell? ⟨g126, 0, none⟩ = some (I q aa0) := (bc B126.out 0).trans rfl
                  have hcz223_1 : wc.cell? ⟨g126, 1, none⟩ = some (I q aa1) := (bc B126.out 1).trans rfl
                  have hcz223_2 : wc.cell? ⟨g126, 2, none⟩ = some (I q aa2) := (bc B126.out 2).trans rfl
                  have hcz223_3 : wc.cell? ⟨g126, 3, none⟩ = some (I q aa3) := (bc B126.out 3).trans rfl
                  have hcz223_4 : wc.cell? ⟨g126, 4, none⟩ = some (I q aa4) := (bc B126.out 4).trans rfl
                  have hcz223_5 : wc.cell? ⟨g126, 5, none⟩ = some (I q aa5) := (bc B126.out 5).trans rfl
                  have hfz223_0 := bf B126.out 0
                  have hfz223_1 := bf B126.out 1
                  have hfz223_2 := bf B126.out 2
                  have hfz223_3 := bf B126.out 3
                  have hfz223_4 := bf B126.out 4
                  have hfz223_5 := bf B126.out 5
                  go_wp2
                  go_ret
                  exact ⟨by first | rfl | (simp [errW_none, errW_some] <;> rfl) | (simp [*, errW_none, errW_some] <;> rfl), by repeat (first | (with_reducible first | exact HB.out | apply pa | apply pN | apply p1 | refine bs ?_ E126.out) | exact HB.out)⟩
            · rw [if_neg c194] at H
              have c194b0 : (aa2 == 0) = false := beq_eq_false_iff_ne.mpr c194
              have c194b1 : (aa2 != 0) = true := bne_iff_ne.mpr c194
              obtain rfl := Option.some.inj H
              have hcz224_0 : wc.cell? ⟨g126, 0, none⟩ = some (I q aa0) := (bc B126.out 0).trans rfl
              have hcz224_1 : wc.cell? ⟨g126, 1, none⟩ = some (I q aa1) := (bc B126.out 1).trans rfl
              have hcz224_2 : wc.cell? ⟨g126, 2, none⟩ = some (I q aa2) := (bc B126.out 2).trans rfl
              have hcz224_3 : wc.cell? ⟨g126, 3, none⟩ = some (I q aa3) := (bc B126.out 3).trans rfl
              have hcz224_4 : wc.cell? ⟨g126, 4, none⟩ = some (I q aa4) := (bc B126.out 4).trans rfl
              have hcz224_5 : wc.cell? ⟨g126, 5, none⟩ = some (I q aa5) := (bc B126.out 5).trans rfl
              have hfz224_0 := bf B126.out 0
              have hfz224_1 := bf B126.out 1
              have hfz224_2 := bf B126.out 2
              have hfz224_3 := bf B126.out 3
              have hfz224_4 := bf B126.out 4
              have hfz224_5 := bf B126.out 5
              go_wp2
              go_ret
              exact ⟨by first | rfl | (simp [errW_none, errW_some] <;> rfl) | (simp [*, errW_none, errW_some] <;> rfl), by repeat (first | (with_reducible first | exact HB.out | apply pa | apply pN | apply p1 | refine bs ?_ E126.out) | exact HB.out)⟩
  · replace c3 := Bool.eq_false_iff.mpr c3
    subst c3
    have H1 : (some 1) = some r := by rw [if_neg (show ¬ (false = true) by decide)] at H; exact H
    clear H
    have H := H1
    clear H1
    obtain rfl := Option.some.inj H
    go_enter Try.func25, Try.ntmps25
    go_wp2_with (first | ((with_reducible refine gate_dst (N := 1) rfl ?_); refine box_event ?hg (N := 1) ?hd (cs := #[I q aa0, I q aa1, I q aa2, I q aa3, I q aa4, I q aa5]) (t := 42) ?hr ?_; (case hd => rfl); (case hg => rfl); (case hr => first | (go_simp; done) | (go_simp; rfl)); intro g126 hg w225 hbox hb; have N0 := am (bp (by repeat (first | (with_reducible first | exact HB.out | apply pa | apply pN | apply p1) | exact HB.out)) hb); have N1 := am (hbox); have N2 := am ((by rw [hg]; exact (bz (by repeat (first | (with_reducible first | exact HB.out | apply pa | apply pN | apply p1) | exact HB.out))) : w.heap.size ≤ g126)); have N3 := am ((by rw [hg]; exact (bz (by repeat (first | (with_reducible first | exact HB.out | apply pa | apply pN | apply p1) | exact HB.out))) : w.heap.size ≤ g126)); clear HB; have HB := N0; have B126 := N1; have GW126 := N2; have E126 := N3; clear N0 N1 N2 N3 hb hbox hg; have hcz226_0 : w225.cell? ⟨g126, 0, none⟩ = some (I q aa0) := (bc B126.out 0).trans rfl; have hcz226_1 : w225.cell? ⟨g126, 1, none⟩ = some (I q aa1) := (bc B126.out 1).trans rfl; have hcz226_2 : w225.cell? ⟨g126, 2, none⟩ = some (I q aa2) := (bc B126.out 2).trans rfl; have hcz226_3 : w225.cell? ⟨g126, 3, none⟩ = some (I q aa3) := (bc B126.out 3).trans rfl; have hcz226_4 : w225.cell? ⟨g126, 4, none⟩ = some (I q aa4) := (bc B126.out 4).trans rfl; have hcz226_5 : w225.cell? ⟨g126, 5, none⟩ = some (I q aa5) := (bc B126.out 5).trans rfl; have hfz226_0 := bf B126.out 0; have hfz226_1 := bf B126.out 1; have hfz226_2 := bf B126.out 2; have hfz226_3 := bf B126.out 3; have hfz226_4 := bf B126.out 4; have hfz226_5 := bf B126.out 5) | ((with_reducible refine gate_callee (f := 66) rfl ?_); refine goesL_ (some 9) rfl rfl Try.func66 (by kernel_rfl) rfl #[I q aa0, I q 1, I q 9] rfl (by (try simp only [List.map_toArray, List.map_cons, List.map_nil]); first | done | rfl) ?_; (with_reducible refine (spec_l1In.calls aa0 1 9 false _ A2.out).mono ?_); rintro e w' ⟨rfl, ⟨nd, rfl⟩⟩; refine ⟨_, rfl, ?_⟩))
    go_ret
    exact ⟨by first | rfl | (simp [errW_none, errW_some] <;> rfl) | (simp [*, errW_none, errW_some] <;> rfl), by repeat (first | (with_reducible first | exact HB.out | apply pa | apply pN | apply p1 | refine bs ?_ E126.out) | exact HB.out)⟩

end Go.Proofs.Ytaellhlkjjooiaa.QFnExactPackCmd
