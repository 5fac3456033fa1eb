-- MADE BY PROGRAM (qprint.py): walks of the functions that the law FnExactPackCmd reaches. Lean checks it.
import Derived.Test.YtaellhlkjjooiaaQFnExactPackCmdx0
import Derived.Test.YtaellhlkjjooiaaQFnExactPackCmdx6
namespace Go.Proofs.Ytaellhlkjjooiaa.QFnExactPackCmd
open Go.RowKit Go.Proofs.YtaellhlkjjooiaaW.PrintWords Go.Proofs.YtaellhlkjjooiaaW.PrintLast Go.Proofs.YtaellhlkjjooiaaW.PrintMore
attribute [local go_sem] max2_int min2_int max_two min_two max_three min_three max_four min_four   -- for this text's walks alone
set_option linter.unusedVariables false
set_option linter.unusedSimpArgs false

/-! ### impl_CmdFault: function 27 -/
def impl_CmdFault.j0 : Nat → Bool → Bool → Bool → Bool → Bool → Int → Int → Int → Int → Int → Int → Option (Int)
  | 0, _, _, _, _, _, _, _, _, _, _, _ => none
  | k + 1, x3, x4, x5, x6, x19, x220000, x220001, x220002, x220003, x220004, x220005 => if x19 = true then (some 3) else (if x3 = true then (if x4 = true then (if x5 = true then (if x6 = true then (some 0) else (if x220005 = 0 then (some 0) else (some 1))) else (if x220004 = 0 then (if x6 = true then (some 0) else (if x220005 = 0 then (some 0) else (some 1))) else (some 1))) else (if x220003 = 0 then (if x5 = true then (if x6 = true then (some 0) else (if x220005 = 0 then (some 0) else (some 1))) else (if x220004 = 0 then (if x6 = true then (some 0) else (if x220005 = 0 then (some 0) else (some 1))) else (some 1))) else (some 1))) else (if x220002 = 0 then (if x4 = true then (if x5 = true then (if x6 = true then (some 0) else (if x220005 = 0 then (some 0) else (some 1))) else (if x220004 = 0 then (if x6 = true then (some 0) else (if x220005 = 0 then (some 0) else (some 1))) else (some 1))) else (if x220003 = 0 then (if x5 = true then (if x6 = true then (some 0) else (if x220005 = 0 then (some 0) else (some 1))) else (if x220004 = 0 then (if x6 = true then (some 0) else (if x220005 = 0 then (some 0) else (some 1))) else (some 1))) else (some 1))) else (some 1)))
def impl_CmdFault.f (k : Nat) (a0_0 : Int) (a0_1 : Int) (a0_2 : Int) (a0_3 : Int) (a0_4 : Int) (a0_5 : Int) : Option (Int) := (impl_in.f a0_0 1 9).bind fun t220 => (if t220 = true then ((impl_needs.f a0_0).bind fun bt221 => ((impl_in.f a0_1 (-1) 1000000).bind fun t225 => (if t225 = true then (if bt221.1 = true then ((impl_isName.f a0_2).bind fun t226 => (if t226 = true then (if bt221.2.1 = true then ((impl_isAddress.f a0_3).bind fun t227 => (if t227 = true then (if bt221.2.2.1 = true then ((impl_isNumber.f k a0_0 a0_1 a0_2 a0_3 a0_4 a0_5).bind fun t228 => (if t228 = true then (if bt221.2.2.2 = true then ((impl_isProto.f a0_5).bind fun t229 => (impl_CmdFault.j0 k bt221.1 bt221.2.1 bt221.2.2.1 bt221.2.2.2 (!t229) a0_0 a0_1 a0_2 a0_3 a0_4 a0_5)) else (impl_CmdFault.j0 k bt221.1 bt221.2.1 bt221.2.2.1 bt221.2.2.2 false a0_0 a0_1 a0_2 a0_3 a0_4 a0_5)) else (impl_CmdFault.j0 k bt221.1 bt221.2.1 bt221.2.2.1 bt221.2.2.2 true a0_0 a0_1 a0_2 a0_3 a0_4 a0_5))) else (if bt221.2.2.2 = true then ((impl_isProto.f a0_5).bind fun t230 => (impl_CmdFault.j0 k bt221.1 bt221.2.1 bt221.2.2.1 bt221.2.2.2 (!t230) a0_0 a0_1 a0_2 a0_3 a0_4 a0_5)) else (impl_CmdFault.j0 k bt221.1 bt221.2.1 bt221.2.2.1 bt221.2.2.2 false a0_0 a0_1 a0_2 a0_3 a0_4 a0_5))) else (impl_CmdFault.j0 k bt221.1 bt221.2.1 bt221.2.2.1 bt221.2.2.2 true a0_0 a0_1 a0_2 a0_3 a0_4 a0_5))) else (if bt221.2.2.1 = true then ((impl_isNumber.f k a0_0 a0_1 a0_2 a0_3 a0_4 a0_5).bind fun t231 => (if t231 = true then (if bt221.2.2.2 = true then ((impl_isProto.f a0_5).bind fun t232 => (impl_CmdFault.j0 k bt221.1 bt221.2.1 bt221.2.2.1 bt221.2.2.2 (!t232) a0_0 a0_1 a0_2 a0_3 a0_4 a0_5)) else (impl_CmdFault.j0 k bt221.1 bt221.2.1 bt221.2.2.1 bt221.2.2.2 false a0_0 a0_1 a0_2 a0_3 a0_4 a0_5)) else (impl_CmdFault.j0 k bt221.1 bt221.2.1 bt221.2.2.1 bt221.2.2.2 true a0_0 a0_1 a0_2 a0_3 a0_4 a0_5))) else (if bt221.2.2.2 = true then ((impl_isProto.f a0_5).bind fun t233 => (impl_CmdFault.j0 k bt221.1 bt221.2.1 bt221.2.2.1 bt221.2.2.2 (!t233) a0_0 a0_1 a0_2 a0_3 a0_4 a0_5)) else (impl_CmdFault.j0 k bt221.1 bt221.2.1 bt221.2.2.1 bt221.2.2.2 false a0_0 a0_1 a0_2 a0_3 a0_4 a0_5)))) else (impl_CmdFault.j0 k bt221.1 bt221.2.1 bt221.2.2.1 bt221.2.2.2 true a0_0 a0_1 a0_2 a0_3 a0_4 a0_5))) else (if bt221.2.1 = true then ((impl_isAddress.f a0_3).bind fun t234 => (if t234 = true then (if bt221.2.2.1 = true then ((impl_isNumber.f k a0_0 a0_1 a0_2 a0_3 a0_4 a0_5).bind fun t235 => (if t235 = true then (if bt221.2.2.2 = true then ((impl_isProto.f a0_5).bind fun t236 => (impl_CmdFault.j0 k bt221.1 bt221.2.1 bt221.2.2.1 bt221.2.2.2 (!t236) a0_0 a0_1 a0_2 a0_3 a0_4 a0_5)) else (impl_CmdFault.j0 k bt221.1 bt221.2.1 bt221.2.2.1 bt221.2.2.2 false a0_0 a0_1 a0_2 a0_3 a0_4 a0_5)) else (impl_CmdFault.j0 k bt221.1 bt221.2.1 bt221.2.2.1 bt221.2.2.2 true a0_0 a0_1 a0_2 a0_3 a0_4 a0_5))) else (if bt221.2.2.2 = true then ((impl_isProto.f a0_5).bind fun t237 => (impl_CmdFault.j0 k bt221.1 bt221.2.1 bt221.2.2.1 bt221.2.2.2 (!t237) a0_0 a0_1 a0_2 a0_3 a0_4 a0_5)) else (impl_CmdFault.j0 k bt221.1 bt221.2.1 bt221.2.2.1 bt221.2.2.2 false a0_0 a0_1 a0_2 a0_3 a0_4 a0_5))) else (impl_CmdFault.j0 k bt221.1 bt221.2.1 bt221.2.2.1 bt221.2.2.2 true a0_0 a0_1 a0_2 a0_3 a0_4 a0_5))) else (if bt221.2.2.1 = true then ((impl_isNumber.f k a0_0 a0_1 a0_2 a0_3 a0_4 a0_5).bind fun t238 => (if t238 = true then (if bt221.2.2.2 = true then ((impl_isProto.f a0_5).bind fun t239 => (impl_CmdFault.j0 k bt221.1 bt221.2.1 bt221.2.2.1 bt221.2.2.2 (!t239) a0_0 a0_1 a0_2 a0_3 a0_4 a0_5)) else (impl_CmdFault.j0 k bt221.1 bt221.2.1 bt221.2.2.1 bt221.2.2.2 false a0_0 a0_1 a0_2 a0_3 a0_4 a0_5)) else (impl_CmdFault.j0 k bt221.1 bt221.2.1 bt221.2.2.1 bt221.2.2.2 true a0_0 a0_1 a0_2 a0_3 a0_4 a0_5))) else (if bt221.2.2.2 = true then ((impl_isProto.f a0_5).bind fun t240 => (impl_CmdFault.j0 k bt221.1 bt221.2.1 bt221.2.2.1 bt221.2.2.2 (!t240) a0_0 a0_1 a0_2 a0_3 a0_4 a0_5)) else (impl_CmdFault.j0 k bt221.1 bt221.2.1 bt221.2.2.1 bt221.2.2.2 false a0_0 a0_1 a0_2 a0_3 a0_4 a0_5))))) else (impl_CmdFault.j0 k bt221.1 bt221.2.1 bt221.2.2.1 bt221.2.2.2 true a0_0 a0_1 a0_2 a0_3 a0_4 a0_5)))) else (some 1))
theorem impl_CmdFault.mono_l : ∀ k, (∀ y0 y1 y2 y3 y4 y5 y6 y7 y8 y9 y10, LeO (impl_CmdFault.j0 k y0 y1 y2 y3 y4 y5 y6 y7 y8 y9 y10) (impl_CmdFault.j0 (k + 1) y0 y1 y2 y3 y4 y5 y6 y7 y8 y9 y10))
  | 0 => fun _ _ _ _ _ _ _ _ _ _ _ r h => by simp [impl_CmdFault.j0] at h
  | k + 1 => by
    have ih0 := impl_CmdFault.mono_l k
    · intro y0 y1 y2 y3 y4 y5 y6 y7 y8 y9 y10
      unfold impl_CmdFault.j0
      repeat' first
      | (with_reducible exact ih0 _ _ _ _ _ _ _ _ _ _ _)
      | (with_reducible exact impl_isNumber.mono _ _ _ _ _ _ _)
      | (with_reducible exact LeO.refl _)
      | (with_reducible exact LeO.none _)
      | (with_reducible refine LeO.ite ?_ ?_)
      | (with_reducible refine LeO.bind ?_ (fun _ => ?_))
      | exact ih0 _ _ _ _ _ _ _ _ _ _ _
      | exact impl_isNumber.mono _ _ _ _ _ _ _
      | exact LeO.none _
      | refine LeO.ite ?_ ?_
      | refine LeO.bind ?_ (fun _ => ?_)
theorem impl_CmdFault.mono : ∀ a0 a1 a2 a3 a4 a5 k, LeO (impl_CmdFault.f k a0 a1 a2 a3 a4 a5) (impl_CmdFault.f (k + 1) a0 a1 a2 a3 a4 a5) := by
  intro a0 a1 a2 a3 a4 a5 k
  have ih0 := impl_CmdFault.mono_l k
  unfold impl_CmdFault.f
  repeat' first
      | (with_reducible exact ih0 _ _ _ _ _ _ _ _ _ _ _)
      | (with_reducible exact impl_isNumber.mono _ _ _ _ _ _ _)
      | (with_reducible exact LeO.refl _)
      | (with_reducible exact LeO.none _)
      | (with_reducible refine LeO.ite ?_ ?_)
      | (with_reducible refine LeO.bind ?_ (fun _ => ?_))
      | exact ih0 _ _ _ _ _ _ _ _ _ _ _
      | exact impl_isNumber.mono _ _ _ _ _ _ _
      | exact LeO.none _
      | refine LeO.ite ?_ ?_
      | refine LeO.bind ?_ (fun _ => ?_)
set_option maxHeartbeats 8000000 in
set_option maxRecDepth 100000 in
theorem impl_CmdFault.calls (k : Nat) (a0_0 : Int) (a0_1 : Int) (a0_2 : Int) (a0_3 : Int) (a0_4 : Int) (a0_5 : Int) (r : Int) (w : World) (h : impl_CmdFault.f k a0_0 a0_1 a0_2 a0_3 a0_4 a0_5 = some r) :
    Calls Try.prog 27 #[.agg #[.int .i64 a0_0, .int .i64 a0_1, .int .i64 a0_2, .int .i64 a0_3, .int .i64 a0_4, .int .i64 a0_5]] w fun e w' => e = .returned (.int .i64 r) ∧ Below w.heap.size w w' := by
  have hu42 := Try.underlying42
  have HB := Aside0.mk (Below.refl w.heap.size w)
  have H : ((impl_in.f a0_0 1 9).bind fun t220 => (if t220 = true then ((impl_needs.f a0_0).bind fun bt221 => ((impl_in.f a0_1 (-1) 1000000).bind fun t225 => (if t225 = true then (if bt221.1 = true then ((impl_isName.f a0_2).bind fun t226 => (if t226 = true then (if bt221.2.1 = true then ((impl_isAddress.f a0_3).bind fun t227 => (if t227 = true then (if bt221.2.2.1 = true then ((impl_isNumber.f k a0_0 a0_1 a0_2 a0_3 a0_4 a0_5).bind fun t228 => (if t228 = true then (if bt221.2.2.2 = true then ((impl_isProto.f a0_5).bind fun t229 => (impl_CmdFault.j0 k bt221.1 bt221.2.1 bt221.2.2.1 bt221.2.2.2 (!t229) a0_0 a0_1 a0_2 a0_3 a0_4 a0_5)) else (impl_CmdFault.j0 k bt221.1 bt221.2.1 bt221.2.2.1 bt221.2.2.2 false a0_0 a0_1 a0_2 a0_3 a0_4 a0_5)) else (impl_CmdFault.j0 k bt221.1 bt221.2.1 bt221.2.2.1 bt221.2.2.2 true a0_0 a0_1 a0_2 a0_3 a0_4 a0_5))) else (if bt221.2.2.2 = true then ((impl_isProto.f a0_5).bind fun t230 => (impl_CmdFault.j0 k bt221.1 bt221.2.1 bt221.2.2.1 bt221.2.2.2 (!t230) a0_0 a0_1 a0_2 a0_3 a0_4 a0_5)) else (impl_CmdFault.j0 k bt221.1 bt221.2.1 bt221.2.2.1 bt221.2.2.2 false a0_0 a0_1 a0_2 a0_3 a0_4 a0_5))) else (impl_CmdFault.j0 k bt221.1 bt221.2.1 bt221.2.2.1 bt221.2.2.2 true a0_0 a0_1 a0_2 a0_3 a0_4 a0_5))) else (if bt221.2.2.1 = true then ((impl_isNumber.f k a0_0 a0_1 a0_2 a0_3 a0_4 a0_5).bind fun t231 => (if t231 = true then (if bt221.2.2.2 = true then ((impl_isProto.f a0_5).bind fun t232 => (impl_CmdFault.j0 k bt221.1 bt221.2.1 bt221.2.2.1 bt221.2.2.2 (!t232) a0_0 a0_1 a0_2 a0_3 a0_4 a0_5)) else (impl_CmdFault.j0 k bt221.1 bt221.2.1 bt221.2.2.1 bt221.2.2.2 false a0_0 a0_1 a0_2 a0_3 a0_4 a0_5)) else (impl_CmdFault.j0 k bt221.1 bt221.2.1 bt221.2.2.1 bt221.2.2.2 true a0_0 a0_1 a0_2 a0_3 a0_4 a0_5))) else (if bt221.2.2.2 = true then ((impl_isProto.f a0_5).bind fun t233 => (impl_CmdFault.j0 k bt221.1 bt221.2.1 bt221.2.2.1 bt221.2.2.2 (!t233) a0_0 a0_1 a0_2 a0_3 a0_4 a0_5)) else (impl_CmdFault.j0 k bt221.1 bt221.2.1 bt221.2.2.1 bt221.2.2.2 false a0_0 a0_1 a0_2 a0_3 a0_4 a0_5)))) else (impl_CmdFault.j0 k bt221.1 bt221.2.1 bt221.2.2.1 bt221.2.2.2 true a0_0 a0_1 a0_2 a0_3 a0_4 a0_5))) else (if bt221.2.1 = true then ((impl_isAddress.f a0_3).bind fun t234 => (if t234 = true then (if bt221.2.2.1 = true then ((impl_isNumber.f k a0_0 a0_1 a0_2 a0_3 a0_4 a0_5).bind fun t235 => (if t235 = true then (if bt221.2.2.2 = true then ((impl_isProto.f a0_5).bind fun t236 => (impl_CmdFault.j0 k bt221.1 bt221.2.1 bt221.2.2.1 bt221.2.2.2 (!t236) a0_0 a0_1 a0_2 a0_3 a0_4 a0_5)) else (impl_CmdFault.j0 k bt221.1 bt221.2.1 bt221.2.2.1 bt221.2.2.2 false a0_0 a0_1 a0_2 a0_3 a0_4 a0_5)) else (impl_CmdFault.j0 k bt221.1 bt221.2.1 bt221.2.2.1 bt221.2.2.2 true a0_0 a0_1 a0_2 a0_3 a0_4 a0_5))) else (if bt221.2.2.2 = true then ((impl_isProto.f a0_5).bind fun t237 => (impl_CmdFault.j0 k bt221.1 bt221.2.1 bt221.2.2.1 bt221.2.2.2 (!t237) a0_0 a0_1 a0_2 a0_3 a0_4 a0_5)) else (impl_CmdFault.j0 k bt221.1 bt221.2.1 bt221.2.2.1 bt221.2.2.2 false a0_0 a0_1 a0_2 a0_3 a0_4 a0_5))) else (impl_CmdFault.j0 k bt221.1 bt221.2.1 bt221.2.2.1 bt221.2.2.2 true a0_0 a0_1 a0_2 a0_3 a0_4 a0_5))) else (if bt221.2.2.1 = true then ((impl_isNumber.f k a0_0 a0_1 a0_2 a0_3 a0_4 a0_5).bind fun t238 => (if t238 = true then (if bt221.2.2.2 = true then ((impl_isProto.f a0_5).bind fun t239 => (impl_CmdFault.j0 k bt221.1 bt221.2.1 bt221.2.2.1 bt221.2.2.2 (!t239) a0_0 a0_1 a0_2 a0_3 a0_4 a0_5)) else (impl_CmdFault.j0 k bt221.1 bt221.2.1 bt221.2.2.1 bt221.2.2.2 false a0_0 a0_1 a0_2 a0_3 a0_4 a0_5)) else (impl_CmdFault.j0 k bt221.1 bt221.2.1 bt221.2.2.1 bt221.2.2.2 true a0_0 a0_1 a0_2 a0_3 a0_4 a0_5))) else (if bt221.2.2.2 = true then ((impl_isProto.f a0_5).bind fun t240 => (impl_CmdFault.j0 k bt221.1 bt221.2.1 bt221.2.2.1 bt221.2.2.2 (!t240) a0_0 a0_1 a0_2 a0_3 a0_4 a0_5)) else (impl_CmdFault.j0 k bt221.1 bt221.2.1 bt221.2.2.1 bt221.2.2.2 false a0_0 a0_1 a0_2 a0_3 a0_4 a0_5))))) else (impl_CmdFault.j0 k bt221.1 bt221.2.1 bt221.2.2.1 bt221.2.2.2 true a0_0 a0_1 a0_2 a0_3 a0_4 a0_5)))) else (some 1))) = some r := h
  clear h
  replace H := Option.bind_eq_some_iff.mp H
  obtain ⟨t220, A20, H⟩ := H
  replace H : (if t220 = true then ((impl_needs.f a0_0).bind fun bt221 => ((impl_in.f a0_1 (-1) 1000000).bind fun t225 => (if t225 = true then (if bt221.1 = true then ((impl_isName.f a0_2).bind fun t226 => (if t226 = true then (if bt221.2.1 = true then ((impl_isAddress.f a0_3).bind fun t227 => (if t227 = true then (if bt221.2.2.1 = true then ((impl_isNumber.f k a0_0 a0_1 a0_2 a0_3 a0_4 a0_5).bind fun t228 => (if t228 = true then (if bt221.2.2.2 = true then ((impl_isProto.f a0_5).bind fun t229 => (impl_CmdFault.j0 k bt221.1 bt221.2.1 bt221.2.2.1 bt221.2.2.2 (!t229) a0_0 a0_1 a0_2 a0_3 a0_4 a0_5)) else (impl_CmdFault.j0 k bt221.1 bt221.2.1 bt221.2.2.1 bt221.2.2.2 false a0_0 a0_1 a0_2 a0_3 a0_4 a0_5)) else (impl_CmdFault.j0 k bt221.1 bt221.2.1 bt221.2.2.1 bt221.2.2.2 true a0_0 a0_1 a0_2 a0_3 a0_4 a0_5))) else (if bt221.2.2.2 = true then ((impl_isProto.f a0_5).bind fun t230 => (impl_CmdFault.j0 k bt221.1 bt221.2.1 bt221.2.2.1 bt221.2.2.2 (!t230) a0_0 a0_1 a0_2 a0_3 a0_4 a0_5)) else (impl_CmdFault.j0 k bt221.1 bt221.2.1 bt221.2.2.1 bt221.2.2.2 false a0_0 a0_1 a0_2 a0_3 a0_4 a0_5))) else (impl_CmdFault.j0 k bt221.1 bt221.2.1 bt221.2.2.1 bt221.2.2.2 true a0_0 a0_1 a0_2 a0_3 a0_4 a0_5))) else (if bt221.2.2.1 = true then ((impl_isNumber.f k a0_0 a0_1 a0_2 a0_3 a0_4 a0_5).bind fun t231 => (if t231 = true then (if bt221.2.2.2 = true then ((impl_isProto.f a0_5).bind fun t232 => (impl_CmdFault.j0 k bt221.1 bt221.2.1 bt221.2.2.1 bt221.2.2.2 (!t232) a0_0 a0_1 a0_2 a0_3 a0_4 a0_5)) else (impl_CmdFault.j0 k bt221.1 bt221.2.1 bt221.2.2.1 bt221.2.2.2 false a0_0 a0_1 a0_2 a0_3 a0_4 a0_5)) else (impl_CmdFault.j0 k bt221.1 bt221.2.1 bt221.2.2.1 bt221.2.2.2 true a0_0 a0_1 a0_2 a0_3 a0_4 a0_5))) else (if bt221.2.2.2 = true then ((impl_isProto.f a0_5).bind fun t233 => (impl_CmdFault.j0 k bt221.1 bt221.2.1 bt221.2.2.1 bt221.2.2.2 (!t233) a0_0 a0_1 a0_2 a0_3 a0_4 a0_5)) else (impl_CmdFault.j0 k bt221.1 bt221.2.1 bt221.2.2.1 bt221.2.2.2 false a0_0 a0_1 a0_2 a0_3 a0_4 a0_5)))) else (impl_CmdFault.j0 k bt221.1 bt221.2.1 bt221.2.2.1 bt221.2.2.2 true a0_0 a0_1 a0_2 a0_3 a0_4 a0_5))) else (if bt221.2.1 = true then ((impl_isAddress.f a0_3).bind fun t234 => (if t234 = true then (if bt221.2.2.1 = true then ((impl_isNumber.f k a0_0 a0_1 a0_2 a0_3 a0_4 a0_5).bind fun t235 => (if t235 = true then (if bt221.2.2.2 = true then ((impl_isProto.f a0_5).bind fun t236 => (impl_CmdFault.j0 k bt221.1 bt221.2.1 bt221.2.2.1 bt221.2.2.2 (!t236) a0_0 a0_1 a0_2 a0_3 a0_4 a0_5)) else (impl_CmdFault.j0 k bt221.1 bt221.2.1 bt221.2.2.1 bt221.2.2.2 false a0_0 a0_1 a0_2 a0_3 a0_4 a0_5)) else (impl_CmdFault.j0 k bt221.1 bt221.2.1 bt221.2.2.1 bt221.2.2.2 true a0_0 a0_1 a0_2 a0_3 a0_4 a0_5))) else (if bt221.2.2.2 = true then ((impl_isProto.f a0_5).bind fun t237 => (impl_CmdFault.j0 k bt221.1 bt221.2.1 bt221.2.2.1 bt221.2.2.2 (!t237) a0_0 a0_1 a0_2 a0_3 a0_4 a0_5)) else (impl_CmdFault.j0 k bt221.1 bt221.2.1 bt221.2.2.1 bt221.2.2.2 false a0_0 a0_1 a0_2 a0_3 a0_4 a0_5))) else (impl_CmdFault.j0 k bt221.1 bt221.2.1 bt221.2.2.1 bt221.2.2.2 true a0_0 a0_1 a0_2 a0_3 a0_4 a0_5))) else (if bt221.2.2.1 = true then ((impl_isNumber.f k a0_0 a0_1 a0_2 a0_3 a0_4 a0_5).bind fun t238 => (if t238 = true then (if bt221.2.2.2 = true then ((impl_isProto.f a0_5).bind fun t239 => (impl_CmdFault.j0 k bt221.1 bt221.2.1 bt221.2.2.1 bt221.2.2.2 (!t239) a0_0 a0_1 a0_2 a0_3 a0_4 a0_5)) else (impl_CmdFault.j0 k bt221.1 bt221.2.1 bt221.2.2.1 bt221.2.2.2 false a0_0 a0_1 a0_2 a0_3 a0_4 a0_5)) else (impl_CmdFault.j0 k bt221.1 bt221.2.1 bt221.2.2.1 bt221.2.2.2 true a0_0 a0_1 a0_2 a0_3 a0_4 a0_5))) else (if bt221.2.2.2 = true then ((impl_isProto.f a0_5).bind fun t240 => (impl_CmdFault.j0 k bt221.1 bt221.2.1 bt221.2.2.1 bt221.2.2.2 (!t240) a0_0 a0_1 a0_2 a0_3 a0_4 a0_5)) else (impl_CmdFault.j0 k bt221.1 bt221.2.1 bt221.2.2.1 bt221.2.2.2 false a0_0 a0_1 a0_2 a0_3 a0_4 a0_5))))) else (impl_CmdFault.j0 k bt221.1 bt221.2.1 bt221.2.2.1 bt221.2.2.2 true a0_0 a0_1 a0_2 a0_3 a0_4 a0_5)))) else (some 1)) = some r := H
  have A2 := Aside0.mk A20
  clear A20
  by_cases c3 : t220 = true
  · subst c3
    have H1 : ((impl_needs.f a0_0).bind fun bt221 => ((impl_in.f a0_1 (-1) 1000000).bind fun t225 => (if t225 = true then (if bt221.1 = true then ((impl_isName.f a0_2).bind fun t226 => (if t226 = true then (if bt221.2.1 = true then ((impl_isAddress.f a0_3).bind fun t227 => (if t227 = true then (if bt221.2.2.1 = true then ((impl_isNumber.f k a0_0 a0_1 a0_2 a0_3 a0_4 a0_5).bind fun t228 => (if t228 = true then (if bt221.2.2.2 = true then ((impl_isProto.f a0_5).bind fun t229 => (impl_CmdFault.j0 k bt221.1 bt221.2.1 bt221.2.2.1 bt221.2.2.2 (!t229) a0_0 a0_1 a0_2 a0_3 a0_4 a0_5)) else (impl_CmdFault.j0 k bt221.1 bt221.2.1 bt221.2.2.1 bt221.2.2.2 false a0_0 a0_1 a0_2 a0_3 a0_4 a0_5)) else (impl_CmdFault.j0 k bt221.1 bt221.2.1 bt221.2.2.1 bt221.2.2.2 true a0_0 a0_1 a0_2 a0_3 a0_4 a0_5))) else (if bt221.2.2.2 = true then ((impl_isProto.f a0_5).bind fun t230 => (impl_CmdFault.j0 k bt221.1 bt221.2.1 bt221.2.2.1 bt221.2.2.2 (!t230) a0_0 a0_1 a0_2 a0_3 a0_4 a0_5)) else (impl_CmdFault.j0 k bt221.1 bt221.2.1 bt221.2.2.1 bt221.2.2.2 false a0_0 a0_1 a0_2 a0_3 a0_4 a0_5))) else (impl_CmdFault.j0 k bt221.1 bt221.2.1 bt221.2.2.1 bt221.2.2.2 true a0_0 a0_1 a0_2 a0_3 a0_4 a0_5))) else (if bt221.2.2.1 = true then ((impl_isNumber.f k a0_0 a0_1 a0_2 a0_3 a0_4 a0_5).bind fun t231 => (if t231 = true then (if bt221.2.2.2 = true then ((impl_isProto.f a0_5).bind fun t232 => (impl_CmdFault.j0 k bt221.1 bt221.2.1 bt221.2.2.1 bt221.2.2.2 (!t232) a0_0 a0_1 a0_2 a0_3 a0_4 a0_5)) else (impl_CmdFault.j0 k bt221.1 bt221.2.1 bt221.2.2.1 bt221.2.2.2 false a0_0 a0_1 a0_2 a0_3 a0_4 a0_5)) else (impl_CmdFault.j0 k bt221.1 bt221.2.1 bt221.2.2.1 bt221.2.2.2 true a0_0 a0_1 a0_2 a0_3 a0_4 a0_5))) else (if bt221.2.2.2 = true then ((impl_isProto.f a0_5).bind fun t233 => (impl_CmdFault.j0 k bt221.1 bt221.2.1 bt221.2.2.1 bt221.2.2.2 (!t233) a0_0 a0_1 a0_2 a0_3 a0_4 a0_5)) else (impl_CmdFault.j0 k bt221.1 bt221.2.1 bt221.2.2.1 bt221.2.2.2 false a0_0 a0_1 a0_2 a0_3 a0_4 a0_5)))) else (impl_CmdFault.j0 k bt221.1 bt221.2.1 bt221.2.2.1 bt221.2.2.2 true a0_0 a0_1 a0_2 a0_3 a0_4 a0_5))) else (if bt221.2.1 = true then ((impl_isAddress.f a0_3).bind fun t234 => (if t234 = true then (if bt221.2.2.1 = true then ((impl_isNumber.f k a0_0 a0_1 a0_2 a0_3 a0_4 a0_5).bind fun t235 => (if t235 = true then (if bt221.2.2.2 = true then ((impl_isProto.f a0_5).bind fun t236 => (impl_CmdFault.j0 k bt221.1 bt221.2.1 bt221.2.2.1 bt221.2.2.2 (!t236) a0_0 a0_1 a0_2 a0_3 a0_4 a0_5)) else (impl_CmdFault.j0 k bt221.1 bt221.2.1 bt221.2.2.1 bt221.2.2.2 false a0_0 a0_1 a0_2 a0_3 a0_4 a0_5)) else (impl_CmdFault.j0 k bt221.1 bt221.2.1 bt221.2.2.1 bt221.2.2.2 true a0_0 a0_1 a0_2 a0_3 a0_4 a0_5))) else (if bt221.2.2.2 = true then ((impl_isProto.f a0_5).bind fun t237 => (impl_CmdFault.j0 k bt221.1 bt221.2.1 bt221.2.2.1 bt221.2.2.2 (!t237) a0_0 a0_1 a0_2 a0_3 a0_4 a0_5)) else (impl_CmdFault.j0 k bt221.1 bt221.2.1 bt221.2.2.1 bt221.2.2.2 false a0_0 a0_1 a0_2 a0_3 a0_4 a0_5))) else (impl_CmdFault.j0 k bt221.1 bt221.2.1 bt221.2.2.1 bt221.2.2.2 true a0_0 a0_1 a0_2 a0_3 a0_4 a0_5))) else (if bt221.2.2.1 = true then ((impl_isNumber.f k a0_0 a0_1 a0_2 a0_3 a0_4 a0_5).bind fun t238 => (if t238 = true then (if bt221.2.2.2 = true then ((impl_isProto.f a0_5).bind fun t239 => (impl_CmdFault.j0 k bt221.1 bt221.2.1 bt221.2.2.1 bt221.2.2.2 (!t239) a0_0 a0_1 a0_2 a0_3 a0_4 a0_5)) else (impl_CmdFault.j0 k bt221.1 bt221.2.1 bt221.2.2.1 bt221.2.2.2 false a0_0 a0_1 a0_2 a0_3 a0_4 a0_5)) else (impl_CmdFault.j0 k bt221.1 bt221.2.1 bt221.2.2.1 bt221.2.2.2 true a0_0 a0_1 a0_2 a0_3 a0_4 a0_5))) else (if bt221.2.2.2 = true then ((impl_isProto.f a0_5).bind fun t240 => (impl_CmdFault.j0 k bt221.1 bt221.2.1 bt221.2.2.1 bt221.2.2.2 (!t240) a0_0 a0_1 a0_2 a0_3 a0_4 a0_5)) else (impl_CmdFault.j0 k bt221.1 bt221.2.1 bt221.2.2.1 bt221.2.2.2 false a0_0 a0_1 a0_2 a0_3 a0_4 a0_5))))) else (impl_CmdFault.j0 k bt221.1 bt221.2.1 bt221.2.2.1 bt221.2.2.2 true a0_0 a0_1 a0_2 a0_3 a0_4 a0_5)))) = some r := by rw [if_pos rfl] at H; exact H
    clear H
    have H := H1
    clear H1
    replace H := Option.bind_eq_some_iff.mp H
    obtain ⟨⟨t221, t222, t223, t224⟩, A40, H⟩ := H
    replace H : ((impl_in.f a0_1 (-1) 1000000).bind fun t225 => (if t225 = true then (if t221 = true then ((impl_isName.f a0_2).bind fun t226 => (if t226 = true then (if t222 = true then ((impl_isAddress.f a0_3).bind fun t227 => (if t227 = true then (if t223 = true then ((impl_isNumber.f k a0_0 a0_1 a0_2 a0_3 a0_4 a0_5).bind fun t228 => (if t228 = true then (if t224 = true then ((impl_isProto.f a0_5).bind fun t229 => (impl_CmdFault.j0 k t221 t222 t223 t224 (!t229) a0_0 a0_1 a0_2 a0_3 a0_4 a0_5)) else (impl_CmdFault.j0 k t221 t222 t223 t224 false a0_0 a0_1 a0_2 a0_3 a0_4 a0_5)) else (impl_CmdFault.j0 k t221 t222 t223 t224 true a0_0 a0_1 a0_2 a0_3 a0_4 a0_5))) else (if t224 = true then ((impl_isProto.f a0_5).bind fun t230 => (impl_CmdFault.j0 k t221 t222 t223 t224 (!t230) a0_0 a0_1 a0_2 a0_3 a0_4 a0_5)) else (impl_CmdFault.j0 k t221 t222 t223 t224 false a0_0 a0_1 a0_2 a0_3 a0_4 a0_5))) else (impl_CmdFault.j0 k t221 t222 t223 t224 true a0_0 a0_1 a0_2 a0_3 a0_4 a0_5))) else (if t223 = true then ((impl_isNumber.f k a0_0 a0_1 a0_2 a0_3 a0_4 a0_5).bind fun t231 => (if t231 = true then (if t224 = true then ((impl_isProto.f a0_5).bind fun t232 => (impl_CmdFault.j0 k t221 t222 t223 t224 (!t232) a0_0 a0_1 a0_2 a0_3 a0_4 a0_5)) else (impl_CmdFault.j0 k t221 t222 t223 t224 false a0_0 a0_1 a0_2 a0_3 a0_4 a0_5)) else (impl_CmdFault.j0 k t221 t222 t223 t224 true a0_0 a0_1 a0_2 a0_3 a0_4 a0_5))) else (if t224 = true then ((impl_isProto.f a0_5).bind fun t233 => (impl_CmdFault.j0 k t221 t222 t223 t224 (!t233) a0_0 a0_1 a0_2 a0_3 a0_4 a0_5)) else (impl_CmdFault.j0 k t221 t222 t223 t224 false a0_0 a0_1 a0_2 a0_3 a0_4 a0_5)))) else (impl_CmdFault.j0 k t221 t222 t223 t224 true a0_0 a0_1 a0_2 a0_3 a0_4 a0_5))) else (if t222 = true then ((impl_isAddress.f a0_3).bind fun t234 => (if t234 = true then (if t223 = true then ((impl_isNumber.f k a0_0 a0_1 a0_2 a0_3 a0_4 a0_5).bind fun t235 => (if t235 = true then (if t224 = true then ((impl_isProto.f a0_5).bind fun t236 => (impl_CmdFault.j0 k t221 t222 t223 t224 (!t236) a0_0 a0_1 a0_2 a0_3 a0_4 a0_5)) else (impl_CmdFault.j0 k t221 t222 t223 t224 false a0_0 a0_1 a0_2 a0_3 a0_4 a0_5)) else (impl_CmdFault.j0 k t221 t222 t223 t224 true a0_0 a0_1 a0_2 a0_3 a0_4 a0_5))) else (if t224 = true then ((impl_isProto.f a0_5).bind fun t237 => (impl_CmdFault.j0 k t221 t222 t223 t224 (!t237) a0_0 a0_1 a0_2 a0_3 a0_4 a0_5)) else (impl_CmdFault.j0 k t221 t222 t223 t224 false a0_0 a0_1 a0_2 a0_3 a0_4 a0_5))) else (impl_CmdFault.j0 k t221 t222 t223 t224 true a0_0 a0_1 a0_2 a0_3 a0_4 a0_5))) else (if t223 = true then ((impl_isNumber.f k a0_0 a0_1 a0_2 a0_3 a0_4 a0_5).bind fun t238 => (if t238 = true then (if t224 = true then ((impl_isProto.f a0_5).bind fun t239 => (impl_CmdFault.j0 k t221 t222 t223 t224 (!t239) a0_0 a0_1 a0_2 a0_3 a0_4 a0_5)) else (impl_CmdFault.j0 k t221 t222 t223 t224 false a0_0 a0_1 a0_2 a0_3 a0_4 a0_5)) else (impl_CmdFault.j0 k t221 t222 t223 t224 true a0_0 a0_1 a0_2 a0_3 a0_4 a0_5))) else (if t224 = true then ((impl_isProto.f a0_5).bind fun t240 => (impl_CmdFault.j0 k t221 t222 t223 t224 (!t240) a0_0 a0_1 a0_2 a0_3 a0_4 a0_5)) else (impl_CmdFault.j0 k t221 t222 t223 t224 false a0_0 a0_1 a0_2 a0_3 a0_4 a0_5))))) else (impl_CmdFault.j0 k t221 t222 t223 t224 true a0_0 a0_1 a0_2 a0_3 a0_4 a0_5))) = some r := H
    have A4 := Aside0.mk A40
    clear A40
    have HC5 := Aside0.mk H
    clear H
    go_enter Try.func27, Try.ntmps27
    go_upto_region 4 with (first | ((with_reducible refine gate_dst (N := 1) rfl ?_); refine box_event ?hg (N := 1) ?hd (cs := #[.int .i64 a0_0, .int .i64 a0_1, .int .i64 a0_2, .int .i64 a0_3, .int .i64 a0_4, .int .i64 a0_5]) (t := 42) ?hr ?_; (case hd => rfl); (case hg => rfl); (case hr => first | (go_simp; done) | (go_simp; rfl)); intro gb219 hg w6 hbox hb; have n0_ := Aside0.mk (below_step (by repeat (first | (with_reducible first | exact HB.out | apply below_alloc | apply pw_below_drewN | apply below_drew1) | exact HB.out)) hb); have n1_ := Aside0.mk (hbox); have n2_ := Aside0.mk ((by rw [hg]; exact (below_size (by repeat (first | (with_reducible first | exact HB.out | apply below_alloc | apply pw_below_drewN | apply below_drew1) | exact HB.out))) : w.heap.size ≤ gb219)); have n3_ := Aside0.mk ((by rw [hg]; exact (below_size (by repeat (first | (with_reducible first | exact HB.out | apply below_alloc | apply pw_below_drewN | apply below_drew1) | exact HB.out))) : w.heap.size ≤ gb219)); clear HB; have HB := n0_; have BK219 := n1_; have GW219 := n2_; have GE219 := n3_; clear n0_ n1_ n2_ n3_; clear hb hbox hg; have hcz7_0 : w6.cell? ⟨gb219, 0, none⟩ = some (.int .i64 a0_0) := (blk_cell BK219.out 0).trans rfl; have hcz7_1 : w6.cell? ⟨gb219, 1, none⟩ = some (.int .i64 a0_1) := (blk_cell BK219.out 1).trans rfl; have hcz7_2 : w6.cell? ⟨gb219, 2, none⟩ = some (.int .i64 a0_2) := (blk_cell BK219.out 2).trans rfl; have hcz7_3 : w6.cell? ⟨gb219, 3, none⟩ = some (.int .i64 a0_3) := (blk_cell BK219.out 3).trans rfl; have hcz7_4 : w6.cell? ⟨gb219, 4, none⟩ = some (.int .i64 a0_4) := (blk_cell BK219.out 4).trans rfl; have hcz7_5 : w6.cell? ⟨gb219, 5, none⟩ = some (.int .i64 a0_5) := (blk_cell BK219.out 5).trans rfl; have hfz7_0 := blk_frozen BK219.out 0; have hfz7_1 := blk_frozen BK219.out 1; have hfz7_2 := blk_frozen BK219.out 2; have hfz7_3 := blk_frozen BK219.out 3; have hfz7_4 := blk_frozen BK219.out 4; have hfz7_5 := blk_frozen BK219.out 5) | ((with_reducible refine gate_callee (f := 64) rfl ?_); refine goesL_ (some 9) rfl rfl Try.func64 (by kernel_rfl) rfl #[.int .i64 a0_0, .int .i64 1, .int .i64 9] rfl (by (try simp only [List.map_toArray, List.map_cons, List.map_nil]); first | done | rfl | (simp only [List.length_drop, List.length_take]; rfl)) ?_; (with_reducible refine (impl_in.calls a0_0 1 9 true _ A2.out).mono ?_); rintro e w' ⟨rfl, ⟨nd, rfl⟩⟩; refine ⟨_, rfl, ?_⟩) | ((with_reducible refine gate_callee (f := 76) rfl ?_); refine goesL_ (some 14) rfl rfl Try.func76 (by kernel_rfl) rfl #[.int .i64 a0_0] rfl (by (try simp only [List.map_toArray, List.map_cons, List.map_nil]); first | done | rfl | (simp only [List.length_drop, List.length_take]; rfl)) ?_; (with_reducible refine (impl_needs.calls a0_0 t221 t222 t223 t224 _ A4.out).mono ?_); rintro e w' ⟨rfl, ⟨nd, rfl⟩⟩; refine ⟨_, rfl, ?_⟩))
    (try simp only [Act.put, List.setIfInBounds_toArray, List.set_cons_zero, List.set_cons_succ])
    go_cut [19] (fun v19 wc => ∃ (kq : Nat) (x19_4 : Bool), v19 = .bool x19_4 ∧ Aside0 (impl_CmdFault.j0 kq t221 t222 t223 t224 x19_4 a0_0 a0_1 a0_2 a0_3 a0_4 a0_5 = some r) ∧ Aside0 (kq ≤ k) ∧ Aside0 (wc.heap[gb219]? = some (.cells #[.int .i64 a0_0, .int .i64 a0_1, .int .i64 a0_2, .int .i64 a0_3, .int .i64 a0_4, .int .i64 a0_5] 42 (0, 0))) ∧ Aside0 (Below w.heap.size w wc))
    case first =>
      have H := HC5.out
      clear HC5
      replace H := Option.bind_eq_some_iff.mp H
      obtain ⟨t225, A80, H⟩ := H
      replace H : (if t225 = true then (if t221 = true then ((impl_isName.f a0_2).bind fun t226 => (if t226 = true then (if t222 = true then ((impl_isAddress.f a0_3).bind fun t227 => (if t227 = true then (if t223 = true then ((impl_isNumber.f k a0_0 a0_1 a0_2 a0_3 a0_4 a0_5).bind fun t228 => (if t228 = true then (if t224 = true then ((impl_isProto.f a0_5).bind fun t229 => (impl_CmdFault.j0 k t221 t222 t223 t224 (!t229) a0_0 a0_1 a0_2 a0_3 a0_4 a0_5)) else (impl_CmdFault.j0 k t221 t222 t223 t224 false a0_0 a0_1 a0_2 a0_3 a0_4 a0_5)) else (impl_CmdFault.j0 k t221 t222 t223 t224 true a0_0 a0_1 a0_2 a0_3 a0_4 a0_5))) else (if t224 = true then ((impl_isProto.f a0_5).bind fun t230 => (impl_CmdFault.j0 k t221 t222 t223 t224 (!t230) a0_0 a0_1 a0_2 a0_3 a0_4 a0_5)) else (impl_CmdFault.j0 k t221 t222 t223 t224 false a0_0 a0_1 a0_2 a0_3 a0_4 a0_5))) else (impl_CmdFault.j0 k t221 t222 t223 t224 true a0_0 a0_1 a0_2 a0_3 a0_4 a0_5))) else (if t223 = true then ((impl_isNumber.f k a0_0 a0_1 a0_2 a0_3 a0_4 a0_5).bind fun t231 => (if t231 = true then (if t224 = true then ((impl_isProto.f a0_5).bind fun t232 => (impl_CmdFault.j0 k t221 t222 t223 t224 (!t232) a0_0 a0_1 a0_2 a0_3 a0_4 a0_5)) else (impl_CmdFault.j0 k t221 t222 t223 t224 false a0_0 a0_1 a0_2 a0_3 a0_4 a0_5)) else (impl_CmdFault.j0 k t221 t222 t223 t224 true a0_0 a0_1 a0_2 a0_3 a0_4 a0_5))) else (if t224 = true then ((impl_isProto.f a0_5).bind fun t233 => (impl_CmdFault.j0 k t221 t222 t223 t224 (!t233) a0_0 a0_1 a0_2 a0_3 a0_4 a0_5)) else (impl_CmdFault.j0 k t221 t222 t223 t224 false a0_0 a0_1 a0_2 a0_3 a0_4 a0_5)))) else (impl_CmdFault.j0 k t221 t222 t223 t224 true a0_0 a0_1 a0_2 a0_3 a0_4 a0_5))) else (if t222 = true then ((impl_isAddress.f a0_3).bind fun t234 => (if t234 = true then (if t223 = true then ((impl_isNumber.f k a0_0 a0_1 a0_2 a0_3 a0_4 a0_5).bind fun t235 => (if t235 = true then (if t224 = true then ((impl_isProto.f a0_5).bind fun t236 => (impl_CmdFault.j0 k t221 t222 t223 t224 (!t236) a0_0 a0_1 a0_2 a0_3 a0_4 a0_5)) else (impl_CmdFault.j0 k t221 t222 t223 t224 false a0_0 a0_1 a0_2 a0_3 a0_4 a0_5)) else (impl_CmdFault.j0 k t221 t222 t223 t224 true a0_0 a0_1 a0_2 a0_3 a0_4 a0_5))) else (if t224 = true then ((impl_isProto.f a0_5).bind fun t237 => (impl_CmdFault.j0 k t221 t222 t223 t224 (!t237) a0_0 a0_1 a0_2 a0_3 a0_4 a0_5)) else (impl_CmdFault.j0 k t221 t222 t223 t224 false a0_0 a0_1 a0_2 a0_3 a0_4 a0_5))) else (impl_CmdFault.j0 k t221 t222 t223 t224 true a0_0 a0_1 a0_2 a0_3 a0_4 a0_5))) else (if t223 = true then ((impl_isNumber.f k a0_0 a0_1 a0_2 a0_3 a0_4 a0_5).bind fun t238 => (if t238 = true then (if t224 = true then ((impl_isProto.f a0_5).bind fun t239 => (impl_CmdFault.j0 k t221 t222 t223 t224 (!t239) a0_0 a0_1 a0_2 a0_3 a0_4 a0_5)) else (impl_CmdFault.j0 k t221 t222 t223 t224 false a0_0 a0_1 a0_2 a0_3 a0_4 a0_5)) else (impl_CmdFault.j0 k t221 t222 t223 t224 true a0_0 a0_1 a0_2 a0_3 a0_4 a0_5))) else (if t224 = true then ((impl_isProto.f a0_5).bind fun t240 => (impl_CmdFault.j0 k t221 t222 t223 t224 (!t240) a0_0 a0_1 a0_2 a0_3 a0_4 a0_5)) else (impl_CmdFault.j0 k t221 t222 t223 t224 false a0_0 a0_1 a0_2 a0_3 a0_4 a0_5))))) else (impl_CmdFault.j0 k t221 t222 t223 t224 true a0_0 a0_1 a0_2 a0_3 a0_4 a0_5)) = some r := H
      have A8 := Aside0.mk A80
      clear A80
      by_cases c9 : t225 = true
      · subst c9
        have H1 : (if t221 = true then ((impl_isName.f a0_2).bind fun t226 => (if t226 = true then (if t222 = true then ((impl_isAddress.f a0_3).bind fun t227 => (if t227 = true then (if t223 = true then ((impl_isNumber.f k a0_0 a0_1 a0_2 a0_3 a0_4 a0_5).bind fun t228 => (if t228 = true then (if t224 = true then ((impl_isProto.f a0_5).bind fun t229 => (impl_CmdFault.j0 k t221 t222 t223 t224 (!t229) a0_0 a0_1 a0_2 a0_3 a0_4 a0_5)) else (impl_CmdFault.j0 k t221 t222 t223 t224 false a0_0 a0_1 a0_2 a0_3 a0_4 a0_5)) else (impl_CmdFault.j0 k t221 t222 t223 t224 true a0_0 a0_1 a0_2 a0_3 a0_4 a0_5))) else (if t224 = true then ((impl_isProto.f a0_5).bind fun t230 => (impl_CmdFault.j0 k t221 t222 t223 t224 (!t230) a0_0 a0_1 a0_2 a0_3 a0_4 a0_5)) else (impl_CmdFault.j0 k t221 t222 t223 t224 false a0_0 a0_1 a0_2 a0_3 a0_4 a0_5))) else (impl_CmdFault.j0 k t221 t222 t223 t224 true a0_0 a0_1 a0_2 a0_3 a0_4 a0_5))) else (if t223 = true then ((impl_isNumber.f k a0_0 a0_1 a0_2 a0_3 a0_4 a0_5).bind fun t231 => (if t231 = true then (if t224 = true then ((impl_isProto.f a0_5).bind fun t232 => (impl_CmdFault.j0 k t221 t222 t223 t224 (!t232) a0_0 a0_1 a0_2 a0_3 a0_4 a0_5)) else (impl_CmdFault.j0 k t221 t222 t223 t224 false a0_0 a0_1 a0_2 a0_3 a0_4 a0_5)) else (impl_CmdFault.j0 k t221 t222 t223 t224 true a0_0 a0_1 a0_2 a0_3 a0_4 a0_5))) else (if t224 = true then ((impl_isProto.f a0_5).bind fun t233 => (impl_CmdFault.j0 k t221 t222 t223 t224 (!t233) a0_0 a0_1 a0_2 a0_3 a0_4 a0_5)) else (impl_CmdFault.j0 k t221 t222 t223 t224 false a0_0 a0_1 a0_2 a0_3 a0_4 a0_5)))) else (impl_CmdFault.j0 k t221 t222 t223 t224 true a0_0 a0_1 a0_2 a0_3 a0_4 a0_5))) else (if t222 = true then ((impl_isAddress.f a0_3).bind fun t234 => (if t234 = true then (if t223 = true then ((impl_isNumber.f k a0_0 a0_1 a0_2 a0_3 a0_4 a0_5).bind fun t235 => (if t235 = true then (if t224 = true then ((impl_isProto.f a0_5).bind fun t236 => (impl_CmdFault.j0 k t221 t222 t223 t224 (!t236) a0_0 a0_1 a0_2 a0_3 a0_4 a0_5)) else (impl_CmdFault.j0 k t221 t222 t223 t224 false a0_0 a0_1 a0_2 a0_3 a0_4 a0_5)) else (impl_CmdFault.j0 k t221 t222 t223 t224 true a0_0 a0_1 a0_2 a0_3 a0_4 a0_5))) else (if t224 = true then ((impl_isProto.f a0_5).bind fun t237 => (impl_CmdFault.j0 k t221 t222 t223 t224 (!t237) a0_0 a0_1 a0_2 a0_3 a0_4 a0_5)) else (impl_CmdFault.j0 k t221 t222 t223 t224 false a0_0 a0_1 a0_2 a0_3 a0_4 a0_5))) else (impl_CmdFault.j0 k t221 t222 t223 t224 true a0_0 a0_1 a0_2 a0_3 a0_4 a0_5))) else (if t223 = true then ((impl_isNumber.f k a0_0 a0_1 a0_2 a0_3 a0_4 a0_5).bind fun t238 => (if t238 = true then (if t224 = true then ((impl_isProto.f a0_5).bind fun t239 => (impl_CmdFault.j0 k t221 t222 t223 t224 (!t239) a0_0 a0_1 a0_2 a0_3 a0_4 a0_5)) else (impl_CmdFault.j0 k t221 t222 t223 t224 false a0_0 a0_1 a0_2 a0_3 a0_4 a0_5)) else (impl_CmdFault.j0 k t221 t222 t223 t224 true a0_0 a0_1 a0_2 a0_3 a0_4 a0_5))) else (if t224 = true then ((impl_isProto.f a0_5).bind fun t240 => (impl_CmdFault.j0 k t221 t222 t223 t224 (!t240) a0_0 a0_1 a0_2 a0_3 a0_4 a0_5)) else (impl_CmdFault.j0 k t221 t222 t223 t224 false a0_0 a0_1 a0_2 a0_3 a0_4 a0_5))))) = some r := by rw [if_pos rfl] at H; exact H
        clear H
        have H := H1
        clear H1
        by_cases c10 : t221 = true
        · subst c10
          have H1 : ((impl_isName.f a0_2).bind fun t226 => (if t226 = true then (if t222 = true then ((impl_isAddress.f a0_3).bind fun t227 => (if t227 = true then (if t223 = true then ((impl_isNumber.f k a0_0 a0_1 a0_2 a0_3 a0_4 a0_5).bind fun t228 => (if t228 = true then (if t224 = true then ((impl_isProto.f a0_5).bind fun t229 => (impl_CmdFault.j0 k true t222 t223 t224 (!t229) a0_0 a0_1 a0_2 a0_3 a0_4 a0_5)) else (impl_CmdFault.j0 k true t222 t223 t224 false a0_0 a0_1 a0_2 a0_3 a0_4 a0_5)) else (impl_CmdFault.j0 k true t222 t223 t224 true a0_0 a0_1 a0_2 a0_3 a0_4 a0_5))) else (if t224 = true then ((impl_isProto.f a0_5).bind fun t230 => (impl_CmdFault.j0 k true t222 t223 t224 (!t230) a0_0 a0_1 a0_2 a0_3 a0_4 a0_5)) else (impl_CmdFault.j0 k true t222 t223 t224 false a0_0 a0_1 a0_2 a0_3 a0_4 a0_5))) else (impl_CmdFault.j0 k true t222 t223 t224 true a0_0 a0_1 a0_2 a0_3 a0_4 a0_5))) else (if t223 = true then ((impl_isNumber.f k a0_0 a0_1 a0_2 a0_3 a0_4 a0_5).bind fun t231 => (if t231 = true then (if t224 = true then ((impl_isProto.f a0_5).bind fun t232 => (impl_CmdFault.j0 k true t222 t223 t224 (!t232) a0_0 a0_1 a0_2 a0_3 a0_4 a0_5)) else (impl_CmdFault.j0 k true t222 t223 t224 false a0_0 a0_1 a0_2 a0_3 a0_4 a0_5)) else (impl_CmdFault.j0 k true t222 t223 t224 true a0_0 a0_1 a0_2 a0_3 a0_4 a0_5))) else (if t224 = true then ((impl_isProto.f a0_5).bind fun t233 => (impl_CmdFault.j0 k true t222 t223 t224 (!t233) a0_0 a0_1 a0_2 a0_3 a0_4 a0_5)) else (impl_CmdFault.j0 k true t222 t223 t224 false a0_0 a0_1 a0_2 a0_3 a0_4 a0_5)))) else (impl_CmdFault.j0 k true t222 t223 t224 true a0_0 a0_1 a0_2 a0_3 a0_4 a0_5))) = some r := by rw [if_pos rfl] at H; exact H
          clear H
          have H := H1
          clear H1
          replace H := Option.bind_eq_some_iff.mp H
          obtain ⟨t226, A110, H⟩ := H
          replace H : (if t226 = true then (if t222 = true then ((impl_isAddress.f a0_3).bind fun t227 => (if t227 = true then (if t223 = true then ((impl_isNumber.f k a0_0 a0_1 a0_2 a0_3 a0_4 a0_5).bind fun t228 => (if t228 = true then (if t224 = true then ((impl_isProto.f a0_5).bind fun t229 => (impl_CmdFault.j0 k true t222 t223 t224 (!t229) a0_0 a0_1 a0_2 a0_3 a0_4 a0_5)) else (impl_CmdFault.j0 k true t222 t223 t224 false a0_0 a0_1 a0_2 a0_3 a0_4 a0_5)) else (impl_CmdFault.j0 k true t222 t223 t224 true a0_0 a0_1 a0_2 a0_3 a0_4 a0_5))) else (if t224 = true then ((impl_isProto.f a0_5).bind fun t230 => (impl_CmdFault.j0 k true t222 t223 t224 (!t230) a0_0 a0_1 a0_2 a0_3 a0_4 a0_5)) else (impl_CmdFault.j0 k true t222 t223 t224 false a0_0 a0_1 a0_2 a0_3 a0_4 a0_5))) else (impl_CmdFault.j0 k true t222 t223 t224 true a0_0 a0_1 a0_2 a0_3 a0_4 a0_5))) else (if t223 = true then ((impl_isNumber.f k a0_0 a0_1 a0_2 a0_3 a0_4 a0_5).bind fun t231 => (if t231 = true then (if t224 = true then ((impl_isProto.f a0_5).bind fun t232 => (impl_CmdFault.j0 k true t222 t223 t224 (!t232) a0_0 a0_1 a0_2 a0_3 a0_4 a0_5)) else (impl_CmdFault.j0 k true t222 t223 t224 false a0_0 a0_1 a0_2 a0_3 a0_4 a0_5)) else (impl_CmdFault.j0 k true t222 t223 t224 true a0_0 a0_1 a0_2 a0_3 a0_4 a0_5))) else (if t224 = true then ((impl_isProto.f a0_5).bind fun t233 => (impl_CmdFault.j0 k true t222 t223 t224 (!t233) a0_0 a0_1 a0_2 a0_3 a0_4 a0_5)) else (impl_CmdFault.j0 k true t222 t223 t224 false a0_0 a0_1 a0_2 a0_3 a0_4 a0_5)))) else (impl_CmdFault.j0 k true t222 t223 t224 true a0_0 a0_1 a0_2 a0_3 a0_4 a0_5)) = some r := H
          have A11 := Aside0.mk A110
          clear A110
          by_cases c12 : t226 = true
          · subst c12
            have H1 : (if t222 = true then ((impl_isAddress.f a0_3).bind fun t227 => (if t227 = true then (if t223 = true then ((impl_isNumber.f k a0_0 a0_1 a0_2 a0_3 a0_4 a0_5).bind fun t228 => (if t228 = true then (if t224 = true then ((impl_isProto.f a0_5).bind fun t229 => (impl_CmdFault.j0 k true t222 t223 t224 (!t229) a0_0 a0_1 a0_2 a0_3 a0_4 a0_5)) else (impl_CmdFault.j0 k true t222 t223 t224 false a0_0 a0_1 a0_2 a0_3 a0_4 a0_5)) else (impl_CmdFault.j0 k true t222 t223 t224 true a0_0 a0_1 a0_2 a0_3 a0_4 a0_5))) else (if t224 = true then ((impl_isProto.f a0_5).bind fun t230 => (impl_CmdFault.j0 k true t222 t223 t224 (!t230) a0_0 a0_1 a0_2 a0_3 a0_4 a0_5)) else (impl_CmdFault.j0 k true t222 t223 t224 false a0_0 a0_1 a0_2 a0_3 a0_4 a0_5))) else (impl_CmdFault.j0 k true t222 t223 t224 true a0_0 a0_1 a0_2 a0_3 a0_4 a0_5))) else (if t223 = true then ((impl_isNumber.f k a0_0 a0_1 a0_2 a0_3 a0_4 a0_5).bind fun t231 => (if t231 = true then (if t224 = true then ((impl_isProto.f a0_5).bind fun t232 => (impl_CmdFault.j0 k true t222 t223 t224 (!t232) a0_0 a0_1 a0_2 a0_3 a0_4 a0_5)) else (impl_CmdFault.j0 k true t222 t223 t224 false a0_0 a0_1 a0_2 a0_3 a0_4 a0_5)) else (impl_CmdFault.j0 k true t222 t223 t224 true a0_0 a0_1 a0_2 a0_3 a0_4 a0_5))) else (if t224 = true then ((impl_isProto.f a0_5).bind fun t233 => (impl_CmdFault.j0 k true t222 t223 t224 (!t233) a0_0 a0_1 a0_2 a0_3 a0_4 a0_5)) else (impl_CmdFault.j0 k true t222 t223 t224 false a0_0 a0_1 a0_2 a0_3 a0_4 a0_5)))) = some r := by rw [if_pos rfl] at H; exact H
            clear H
            have H := H1
            clear H1
            by_cases c13 : t222 = true
            · subst c13
              have H1 : ((impl_isAddress.f a0_3).bind fun t227 => (if t227 = true then (if t223 = true then ((impl_isNumber.f k a0_0 a0_1 a0_2 a0_3 a0_4 a0_5).bind fun t228 => (if t228 = true then (if t224 = true then ((impl_isProto.f a0_5).bind fun t229 => (impl_CmdFault.j0 k true true t223 t224 (!t229) a0_0 a0_1 a0_2 a0_3 a0_4 a0_5)) else (impl_CmdFault.j0 k true true t223 t224 false a0_0 a0_1 a0_2 a0_3 a0_4 a0_5)) else (impl_CmdFault.j0 k true true t223 t224 true a0_0 a0_1 a0_2 a0_3 a0_4 a0_5))) else (if t224 = true then ((impl_isProto.f a0_5).bind fun t230 => (impl_CmdFault.j0 k true true t223 t224 (!t230) a0_0 a0_1 a0_2 a0_3 a0_4 a0_5)) else (impl_CmdFault.j0 k true true t223 t224 false a0_0 a0_1 a0_2 a0_3 a0_4 a0_5))) else (impl_CmdFault.j0 k true true t223 t224 true a0_0 a0_1 a0_2 a0_3 a0_4 a0_5))) = some r := by rw [if_pos rfl] at H; exact H
              clear H
              have H := H1
              clear H1
              replace H := Option.bind_eq_some_iff.mp H
              obtain ⟨t227, A140, H⟩ := H
              replace H : (if t227 = true then (if t223 = true then ((impl_isNumber.f k a0_0 a0_1 a0_2 a0_3 a0_4 a0_5).bind fun t228 => (if t228 = true then (if t224 = true then ((impl_isProto.f a0_5).bind fun t229 => (impl_CmdFault.j0 k true true t223 t224 (!t229) a0_0 a0_1 a0_2 a0_3 a0_4 a0_5)) else (impl_CmdFault.j0 k true true t223 t224 false a0_0 a0_1 a0_2 a0_3 a0_4 a0_5)) else (impl_CmdFault.j0 k true true t223 t224 true a0_0 a0_1 a0_2 a0_3 a0_4 a0_5))) else (if t224 = true then ((impl_isProto.f a0_5).bind fun t230 => (impl_CmdFault.j0 k true true t223 t224 (!t230) a0_0 a0_1 a0_2 a0_3 a0_4 a0_5)) else (impl_CmdFault.j0 k true true t223 t224 false a0_0 a0_1 a0_2 a0_3 a0_4 a0_5))) else (impl_CmdFault.j0 k true true t223 t224 true a0_0 a0_1 a0_2 a0_3 a0_4 a0_5)) = some r := H
              have A14 := Aside0.mk A140
              clear A140
              by_cases c15 : t227 = true
              · subst c15
                have H1 : (if t223 = true then ((impl_isNumber.f k a0_0 a0_1 a0_2 a0_3 a0_4 a0_5).bind fun t228 => (if t228 = true then (if t224 = true then ((impl_isProto.f a0_5).bind fun t229 => (impl_CmdFault.j0 k true true t223 t224 (!t229) a0_0 a0_1 a0_2 a0_3 a0_4 a0_5)) else (impl_CmdFault.j0 k true true t223 t224 false a0_0 a0_1 a0_2 a0_3 a0_4 a0_5)) else (impl_CmdFault.j0 k true true t223 t224 true a0_0 a0_1 a0_2 a0_3 a0_4 a0_5))) else (if t224 = true then ((impl_isProto.f a0_5).bind fun t230 => (impl_CmdFault.j0 k true true t223 t224 (!t230) a0_0 a0_1 a0_2 a0_3 a0_4 a0_5)) else (impl_CmdFault.j0 k true true t223 t224 false a0_0 a0_1 a0_2 a0_3 a0_4 a0_5))) = some r := by rw [if_pos rfl] at H; exact H
                clear H
                have H := H1
                clear H1
                by_cases c16 : t223 = true
                · subst c16
                  have H1 : ((impl_isNumber.f k a0_0 a0_1 a0_2 a0_3 a0_4 a0_5).bind fun t228 => (if t228 = true then (if t224 = true then ((impl_isProto.f a0_5).bind fun t229 => (impl_CmdFault.j0 k true true true t224 (!t229) a0_0 a0_1 a0_2 a0_3 a0_4 a0_5)) else (impl_CmdFault.j0 k true true true t224 false a0_0 a0_1 a0_2 a0_3 a0_4 a0_5)) else (impl_CmdFault.j0 k true true true t224 true a0_0 a0_1 a0_2 a0_3 a0_4 a0_5))) = some r := by rw [if_pos rfl] at H; exact H
                  clear H
                  have H := H1
                  clear H1
                  replace H := Option.bind_eq_some_iff.mp H
                  obtain ⟨t228, A170, H⟩ := H
                  replace H : (if t228 = true then (if t224 = true then ((impl_isProto.f a0_5).bind fun t229 => (impl_CmdFault.j0 k true true true t224 (!t229) a0_0 a0_1 a0_2 a0_3 a0_4 a0_5)) else (impl_CmdFault.j0 k true true true t224 false a0_0 a0_1 a0_2 a0_3 a0_4 a0_5)) else (impl_CmdFault.j0 k true true true t224 true a0_0 a0_1 a0_2 a0_3 a0_4 a0_5)) = some r := H
                  have A17 := Aside0.mk A170
                  clear A170
                  by_cases c18 : t228 = true
                  · subst c18
                    have H1 : (if t224 = true then ((impl_isProto.f a0_5).bind fun t229 => (impl_CmdFault.j0 k true true true t224 (!t229) a0_0 a0_1 a0_2 a0_3 a0_4 a0_5)) else (impl_CmdFault.j0 k true true true t224 false a0_0 a0_1 a0_2 a0_3 a0_4 a0_5)) = some r := by rw [if_pos rfl] at H; exact H
                    clear H
                    have H := H1
                    clear H1
                    by_cases c19 : t224 = true
                    · subst c19
                      have H1 : ((impl_isProto.f a0_5).bind fun t229 => (impl_CmdFault.j0 k true true true true (!t229) a0_0 a0_1 a0_2 a0_3 a0_4 a0_5)) = some r := by rw [if_pos rfl] at H; exact H
                      clear H
                      have H := H1
                      clear H1
                      replace H := Option.bind_eq_some_iff.mp H
                      obtain ⟨t229, A200, H⟩ := H
                      replace H : (impl_CmdFault.j0 k true true true true (!t229) a0_0 a0_1 a0_2 a0_3 a0_4 a0_5) = some r := H
                      have A20 := Aside0.mk A200
                      clear A200
                      have H' := Aside0.mk H
                      clear H
                      have hcz21_0 : w6.cell? ⟨gb219, 0, none⟩ = some (.int .i64 a0_0) := (blk_cell BK219.out 0).trans rfl
                      have hcz21_1 : w6.cell? ⟨gb219, 1, none⟩ = some (.int .i64 a0_1) := (blk_cell BK219.out 1).trans rfl
                      have hcz21_2 : w6.cell? ⟨gb219, 2, none⟩ = some (.int .i64 a0_2) := (blk_cell BK219.out 2).trans rfl
                      have hcz21_3 : w6.cell? ⟨gb219, 3, none⟩ = some (.int .i64 a0_3) := (blk_cell BK219.out 3).trans rfl
                      have hcz21_4 : w6.cell? ⟨gb219, 4, none⟩ = some (.int .i64 a0_4) := (blk_cell BK219.out 4).trans rfl
                      have hcz21_5 : w6.cell? ⟨gb219, 5, none⟩ = some (.int .i64 a0_5) := (blk_cell BK219.out 5).trans rfl
                      have hfz21_0 := blk_frozen BK219.out 0
                      have hfz21_1 := blk_frozen BK219.out 1
                      have hfz21_2 := blk_frozen BK219.out 2
                      have hfz21_3 := blk_frozen BK219.out 3
                      have hfz21_4 := blk_frozen BK219.out 4
                      have hfz21_5 := blk_frozen BK219.out 5
                      go_wp2_with (first | ((with_reducible refine gate_callee (f := 64) rfl ?_); refine goesL_ (some 22) rfl rfl Try.func64 (by kernel_rfl) rfl #[.int .i64 a0_1, .int .i64 (-1), .int .i64 1000000] rfl (by (try simp only [List.map_toArray, List.map_cons, List.map_nil]); first | done | rfl | (simp only [List.length_drop, List.length_take]; rfl)) ?_; (with_reducible refine (impl_in.calls a0_1 (-1) 1000000 true _ A8.out).mono ?_); rintro e w' ⟨rfl, ⟨nd, rfl⟩⟩; refine ⟨_, rfl, ?_⟩) | (go_at_call 77; (with_reducible refine (impl_isName.calls a0_2 true _ A11.out).mono ?_); rintro e w' ⟨rfl, ⟨nd, rfl⟩⟩) | (go_at_call 78; (with_reducible refine (impl_isAddress.calls a0_3 true _ A14.out).mono ?_); rintro e w' ⟨rfl, ⟨nd, rfl⟩⟩) | (go_at_call 79; (with_reducible refine (impl_isNumber.calls k a0_0 a0_1 a0_2 a0_3 a0_4 a0_5 true _ A17.out).mono ?_); rintro e w22 ⟨rfl, hb⟩; have n0_ := Aside0.mk (blk_below (g := gb219) (o := .cells #[.int .i64 a0_0, .int .i64 a0_1, .int .i64 a0_2, .int .i64 a0_3, .int .i64 a0_4, .int .i64 a0_5] 42 (0, 0)) (by (with_reducible repeat (first | refine blk_drewN ?_ _ | refine blk_drew ?_ | refine blk_alloc ?_ _)); exact BK219.out) hb); have n1_ := Aside0.mk (below_step (by repeat (first | (with_reducible first | exact HB.out | apply below_alloc | apply pw_below_drewN | apply below_drew1 | refine below_set ?_ GE219.out) | exact HB.out)) hb); clear BK219; clear HB; have BK219 := n0_; have HB := n1_; clear n0_ n1_; (try clear hb); (try clear hb2); (try clear hk); (try clear hi); have hcz23_0 : w22.cell? ⟨gb219, 0, none⟩ = some (.int .i64 a0_0) := (blk_cell BK219.out 0).trans rfl; have hcz23_1 : w22.cell? ⟨gb219, 1, none⟩ = some (.int .i64 a0_1) := (blk_cell BK219.out 1).trans rfl; have hcz23_2 : w22.cell? ⟨gb219, 2, none⟩ = some (.int .i64 a0_2) := (blk_cell BK219.out 2).trans rfl; have hcz23_3 : w22.cell? ⟨gb219, 3, none⟩ = some (.int .i64 a0_3) := (blk_cell BK219.out 3).trans rfl; have hcz23_4 : w22.cell? ⟨gb219, 4, none⟩ = some (.int .i64 a0_4) := (blk_cell BK219.out 4).trans rfl; have hcz23_5 : w22.cell? ⟨gb219, 5, none⟩ = some (.int .i64 a0_5) := (blk_cell BK219.out 5).trans rfl; have hfz23_0 := blk_frozen BK219.out 0; have hfz23_1 := blk_frozen BK219.out 1; have hfz23_2 := blk_frozen BK219.out 2; have hfz23_3 := blk_frozen BK219.out 3; have hfz23_4 := blk_frozen BK219.out 4; have hfz23_5 := blk_frozen BK219.out 5) | (go_at_call 80; (with_reducible refine (impl_isProto.calls a0_5 t229 _ A20.out).mono ?_); rintro e w' ⟨rfl, ⟨nd, rfl⟩⟩))
                      go_meet
                      case rel => exact ⟨_, (!t229), (by first | rfl | (simp; done) | (simp [*]; done)), H', ⟨by first | omega | exact Nat.le_refl _⟩, ⟨by (with_reducible repeat (first | refine blk_drewN ?_ _ | refine blk_drew ?_ | refine blk_alloc ?_ _)); exact BK219.out⟩, ⟨by repeat (first | (with_reducible first | exact HB.out | apply below_alloc | apply pw_below_drewN | apply below_drew1 | refine below_set ?_ GE219.out) | exact HB.out)⟩⟩
                    · replace c19 := Bool.eq_false_iff.mpr c19
                      subst c19
                      have H1 : (impl_CmdFault.j0 k true true true false false a0_0 a0_1 a0_2 a0_3 a0_4 a0_5) = some r := by rw [if_neg (show ¬ (false = true) by decide)] at H; exact H
                      clear H
                      have H := H1
                      clear H1
                      have H' := Aside0.mk H
                      clear H
                      have hcz24_0 : w6.cell? ⟨gb219, 0, none⟩ = some (.int .i64 a0_0) := (blk_cell BK219.out 0).trans rfl
                      have hcz24_1 : w6.cell? ⟨gb219, 1, none⟩ = some (.int .i64 a0_1) := (blk_cell BK219.out 1).trans rfl
                      have hcz24_2 : w6.cell? ⟨gb219, 2, none⟩ = some (.int .i64 a0_2) := (blk_cell BK219.out 2).trans rfl
                      have hcz24_3 : w6.cell? ⟨gb219, 3, none⟩ = some (.int .i64 a0_3) := (blk_cell BK219.out 3).trans rfl
                      have hcz24_4 : w6.cell? ⟨gb219, 4, none⟩ = some (.int .i64 a0_4) := (blk_cell BK219.out 4).trans rfl
                      have hcz24_5 : w6.cell? ⟨gb219, 5, none⟩ = some (.int .i64 a0_5) := (blk_cell BK219.out 5).trans rfl
                      have hfz24_0 := blk_frozen BK219.out 0
                      have hfz24_1 := blk_frozen BK219.out 1
                      have hfz24_2 := blk_frozen BK219.out 2
                      have hfz24_3 := blk_frozen BK219.out 3
                      have hfz24_4 := blk_frozen BK219.out 4
                      have hfz24_5 := blk_frozen BK219.out 5
                      go_wp2_with (first | ((with_reducible refine gate_callee (f := 64) rfl ?_); refine goesL_ (some 22) rfl rfl Try.func64 (by kernel_rfl) rfl #[.int .i64 a0_1, .int .i64 (-1), .int .i64 1000000] rfl (by (try simp only [List.map_toArray, List.map_cons, List.map_nil]); first | done | rfl | (simp only [List.length_drop, List.length_take]; rfl)) ?_; (with_reducible refine (impl_in.calls a0_1 (-1) 1000000 true _ A8.out).mono ?_); rintro e w' ⟨rfl, ⟨nd, rfl⟩⟩; refine ⟨_, rfl, ?_⟩) | (go_at_call 77; (with_reducible refine (impl_isName.calls a0_2 true _ A11.out).mono ?_); rintro e w' ⟨rfl, ⟨nd, rfl⟩⟩) | (go_at_call 78; (with_reducible refine (impl_isAddress.calls a0_3 true _ A14.out).mono ?_); rintro e w' ⟨rfl, ⟨nd, rfl⟩⟩) | (go_at_call 79; (with_reducible refine (impl_isNumber.calls k a0_0 a0_1 a0_2 a0_3 a0_4 a0_5 true _ A17.out).mono ?_); rintro e w25 ⟨rfl, hb⟩; have n0_ := Aside0.mk (blk_below (g := gb219) (o := .cells #[.int .i64 a0_0, .int .i64 a0_1, .int .i64 a0_2, .int .i64 a0_3, .int .i64 a0_4, .int .i64 a0_5] 42 (0, 0)) (by (with_reducible repeat (first | refine blk_drewN ?_ _ | refine blk_drew ?_ | refine blk_alloc ?_ _)); exact BK219.out) hb); have n1_ := Aside0.mk (below_step (by repeat (first | (with_reducible first | exact HB.out | apply below_alloc | apply pw_below_drewN | apply below_drew1 | refine below_set ?_ GE219.out) | exact HB.out)) hb); clear BK219; clear HB; have BK219 := n0_; have HB := n1_; clear n0_ n1_; (try clear hb); (try clear hb2); (try clear hk); (try clear hi)))
                      go_meet
                      case rel => exact ⟨_, (false), (by first | rfl | (simp; done) | (simp [*]; done)), H', ⟨by first | omega | exact Nat.le_refl _⟩, ⟨by (with_reducible repeat (first | refine blk_drewN ?_ _ | refine blk_drew ?_ | refine blk_alloc ?_ _)); exact BK219.out⟩, ⟨by repeat (first | (with_reducible first | exact HB.out | apply below_alloc | apply pw_below_drewN | apply below_drew1 | refine below_set ?_ GE219.out) | exact HB.out)⟩⟩
                  · replace c18 := Bool.eq_false_iff.mpr c18
                    subst c18
                    have H1 : (impl_CmdFault.j0 k true true true t224 true a0_0 a0_1 a0_2 a0_3 a0_4 a0_5) = some r := by rw [if_neg (show ¬ (false = true) by decide)] at H; exact H
                    clear H
                    have H := H1
                    clear H1
                    have H' := Aside0.mk H
                    clear H
                    have hcz26_0 : w6.cell? ⟨gb219, 0, none⟩ = some (.int .i64 a0_0) := (blk_cell BK219.out 0).trans rfl
                    have hcz26_1 : w6.cell? ⟨gb219, 1, none⟩ = some (.int .i64 a0_1) := (blk_cell BK219.out 1).trans rfl
                    have hcz26_2 : w6.cell? ⟨gb219, 2, none⟩ = some (.int .i64 a0_2) := (blk_cell BK219.out 2).trans rfl
                    have hcz26_3 : w6.cell? ⟨gb219, 3, none⟩ = some (.int .i64 a0_3) := (blk_cell BK219.out 3).trans rfl
                    have hcz26_4 : w6.cell? ⟨gb219, 4, none⟩ = some (.int .i64 a0_4) := (blk_cell BK219.out 4).trans rfl
                    have hcz26_5 : w6.cell? ⟨gb219, 5, none⟩ = some (.int .i64 a0_5) := (blk_cell BK219.out 5).trans rfl
                    have hfz26_0 := blk_frozen BK219.out 0
                    have hfz26_1 := blk_frozen BK219.out 1
                    have hfz26_2 := blk_frozen BK219.out 2
                    have hfz26_3 := blk_frozen BK219.out 3
                    have hfz26_4 := blk_frozen BK219.out 4
                    have hfz26_5 := blk_frozen BK219.out 5
                    go_wp2_with (first | ((with_reducible refine gate_callee (f := 64) rfl ?_); refine goesL_ (some 22) rfl rfl Try.func64 (by kernel_rfl) rfl #[.int .i64 a0_1, .int .i64 (-1), .int .i64 1000000] rfl (by (try simp only [List.map_toArray, List.map_cons, List.map_nil]); first | done | rfl | (simp only [List.length_drop, List.length_take]; rfl)) ?_; (with_reducible refine (impl_in.calls a0_1 (-1) 1000000 true _ A8.out).mono ?_); rintro e w' ⟨rfl, ⟨nd, rfl⟩⟩; refine ⟨_, rfl, ?_⟩) | (go_at_call 77; (with_reducible refine (impl_isName.calls a0_2 true _ A11.out).mono ?_); rintro e w' ⟨rfl, ⟨nd, rfl⟩⟩) | (go_at_call 78; (with_reducible refine (impl_isAddress.calls a0_3 true _ A14.out).mono ?_); rintro e w' ⟨rfl, ⟨nd, rfl⟩⟩) | (go_at_call 79; (with_reducible refine (impl_isNumber.calls k a0_0 a0_1 a0_2 a0_3 a0_4 a0_5 false _ A17.out).mono ?_); rintro e w27 ⟨rfl, hb⟩; have n0_ := Aside0.mk (blk_below (g := gb219) (o := .cells #[.int .i64 a0_0, .int .i64 a0_1, .int .i64 a0_2, .int .i64 a0_3, .int .i64 a0_4, .int .i64 a0_5] 42 (0, 0)) (by (with_reducible repeat (first | refine blk_drewN ?_ _ | refine blk_drew ?_ | refine blk_alloc ?_ _)); exact BK219.out) hb); have n1_ := Aside0.mk (below_step (by repeat (first | (with_reducible first | exact HB.out | apply below_alloc | apply pw_below_drewN | apply below_drew1 | refine below_set ?_ GE219.out) | exact HB.out)) hb); clear BK219; clear HB; have BK219 := n0_; have HB := n1_; clear n0_ n1_; (try clear hb); (try clear hb2); (try clear hk); (try clear hi)))
                    go_meet
                    case rel => exact ⟨_, (true), (by first | rfl | (simp; done) | (simp [*]; done)), H', ⟨by first | omega | exact Nat.le_refl _⟩, ⟨by (with_reducible repeat (first | refine blk_drewN ?_ _ | refine blk_drew ?_ | refine blk_alloc ?_ _)); exact BK219.out⟩, ⟨by repeat (first | (with_reducible first | exact HB.out | apply below_alloc | apply pw_below_drewN | apply below_drew1 | refine below_set ?_ GE219.out) | exact HB.out)⟩⟩
                · replace c16 := Bool.eq_false_iff.mpr c16
                  subst c16
                  have H1 : (if t224 = true then ((impl_isProto.f a0_5).bind fun t230 => (impl_CmdFault.j0 k true true false t224 (!t230) a0_0 a0_1 a0_2 a0_3 a0_4 a0_5)) else (impl_CmdFault.j0 k true true false t224 false a0_0 a0_1 a0_2 a0_3 a0_4 a0_5)) = some r := by rw [if_neg (show ¬ (false = true) by decide)] at H; exact H
                  clear H
                  have H := H1
                  clear H1
                  by_cases c28 : t224 = true
                  · subst c28
                    have H1 : ((impl_isProto.f a0_5).bind fun t230 => (impl_CmdFault.j0 k true true false true (!t230) a0_0 a0_1 a0_2 a0_3 a0_4 a0_5)) = some r := by rw [if_pos rfl] at H; exact H
                    clear H
                    have H := H1
                    clear H1
                    replace H := Option.bind_eq_some_iff.mp H
                    obtain ⟨t230, A290, H⟩ := H
                    replace H : (impl_CmdFault.j0 k true true false true (!t230) a0_0 a0_1 a0_2 a0_3 a0_4 a0_5) = some r := H
                    have A29 := Aside0.mk A290
                    clear A290
                    have H' := Aside0.mk H
                    clear H
                    have hcz30_0 : w6.cell? ⟨gb219, 0, none⟩ = some (.int .i64 a0_0) := (blk_cell BK219.out 0).trans rfl
                    have hcz30_1 : w6.cell? ⟨gb219, 1, none⟩ = some (.int .i64 a0_1) := (blk_cell BK219.out 1).trans rfl
                    have hcz30_2 : w6.cell? ⟨gb219, 2, none⟩ = some (.int .i64 a0_2) := (blk_cell BK219.out 2).trans rfl
                    have hcz30_3 : w6.cell? ⟨gb219, 3, none⟩ = some (.int .i64 a0_3) := (blk_cell BK219.out 3).trans rfl
                    have hcz30_4 : w6.cell? ⟨gb219, 4, none⟩ = some (.int .i64 a0_4) := (blk_cell BK219.out 4).trans rfl
                    have hcz30_5 : w6.cell? ⟨gb219, 5, none⟩ = some (.int .i64 a0_5) := (blk_cell BK219.out 5).trans rfl
                    have hfz30_0 := blk_frozen BK219.out 0
                    have hfz30_1 := blk_frozen BK219.out 1
                    have hfz30_2 := blk_frozen BK219.out 2
                    have hfz30_3 := blk_frozen BK219.out 3
                    have hfz30_4 := blk_frozen BK219.out 4
                    have hfz30_5 := blk_frozen BK219.out 5
                    go_wp2_with (first | ((with_reducible refine gate_callee (f := 64) rfl ?_); refine goesL_ (some 22) rfl rfl Try.func64 (by kernel_rfl) rfl #[.int .i64 a0_1, .int .i64 (-1), .int .i64 1000000] rfl (by (try simp only [List.map_toArray, List.map_cons, List.map_nil]); first | done | rfl | (simp only [List.length_drop, List.length_take]; rfl)) ?_; (with_reducible refine (impl_in.calls a0_1 (-1) 1000000 true _ A8.out).mono ?_); rintro e w' ⟨rfl, ⟨nd, rfl⟩⟩; refine ⟨_, rfl, ?_⟩) | (go_at_call 77; (with_reducible refine (impl_isName.calls a0_2 true _ A11.out).mono ?_); rintro e w' ⟨rfl, ⟨nd, rfl⟩⟩) | (go_at_call 78; (with_reducible refine (impl_isAddress.calls a0_3 true _ A14.out).mono ?_); rintro e w' ⟨rfl, ⟨nd, rfl⟩⟩) | (go_at_call 80; (with_reducible refine (impl_isProto.calls a0_5 t230 _ A29.out).mono ?_); rintro e w' ⟨rfl, ⟨nd, rfl⟩⟩))
                    go_meet
                    case rel => exact ⟨_, (!t230), (by first | rfl | (simp; done) | (simp [*]; done)), H', ⟨by first | omega | exact Nat.le_refl _⟩, ⟨by (with_reducible repeat (first | refine blk_drewN ?_ _ | refine blk_drew ?_ | refine blk_alloc ?_ _)); exact BK219.out⟩, ⟨by repeat (first | (with_reducible first | exact HB.out | apply below_alloc | apply pw_below_drewN | apply below_drew1 | refine below_set ?_ GE219.out) | exact HB.out)⟩⟩
                  · replace c28 := Bool.eq_false_iff.mpr c28
                    subst c28
                    have H1 : (impl_CmdFault.j0 k true true false false false a0_0 a0_1 a0_2 a0_3 a0_4 a0_5) = some r := by rw [if_neg (show ¬ (false = true) by decide)] at H; exact H
                    clear H
                    have H := H1
                    clear H1
                    have H' := Aside0.mk H
                    clear H
                    have hcz31_0 : w6.cell? ⟨gb219, 0, none⟩ = some (.int .i64 a0_0) := (blk_cell BK219.out 0).trans rfl
                    have hcz31_1 : w6.cell? ⟨gb219, 1, none⟩ = some (.int .i64 a0_1) := (blk_cell BK219.out 1).trans rfl
                    have hcz31_2 : w6.cell? ⟨gb219, 2, none⟩ = some (.int .i64 a0_2) := (blk_cell BK219.out 2).trans rfl
                    have hcz31_3 : w6.cell? ⟨gb219, 3, none⟩ = some (.int .i64 a0_3) := (blk_cell BK219.out 3).trans rfl
                    have hcz31_4 : w6.cell? ⟨gb219, 4, none⟩ = some (.int .i64 a0_4) := (blk_cell BK219.out 4).trans rfl
                    have hcz31_5 : w6.cell? ⟨gb219, 5, none⟩ = some (.int .i64 a0_5) := (blk_cell BK219.out 5).trans rfl
                    have hfz31_0 := blk_frozen BK219.out 0
                    have hfz31_1 := blk_frozen BK219.out 1
                    have hfz31_2 := blk_frozen BK219.out 2
                    have hfz31_3 := blk_frozen BK219.out 3
                    have hfz31_4 := blk_frozen BK219.out 4
                    have hfz31_5 := blk_frozen BK219.out 5
                    go_wp2_with (first | ((with_reducible refine gate_callee (f := 64) rfl ?_); refine goesL_ (some 22) rfl rfl Try.func64 (by kernel_rfl) rfl #[.int .i64 a0_1, .int .i64 (-1), .int .i64 1000000] rfl (by (try simp only [List.map_toArray, List.map_cons, List.map_nil]); first | done | rfl | (simp only [List.length_drop, List.length_take]; rfl)) ?_; (with_reducible refine (impl_in.calls a0_1 (-1) 1000000 true _ A8.out).mono ?_); rintro e w' ⟨rfl, ⟨nd, rfl⟩⟩; refine ⟨_, rfl, ?_⟩) | (go_at_call 77; (with_reducible refine (impl_isName.calls a0_2 true _ A11.out).mono ?_); rintro e w' ⟨rfl, ⟨nd, rfl⟩⟩) | (go_at_call 78; (with_reducible refine (impl_isAddress.calls a0_3 true _ A14.out).mono ?_); rintro e w' ⟨rfl, ⟨nd, rfl⟩⟩))
                    go_meet
                    case rel => exact ⟨_, (false), (by first | rfl | (simp; done) | (simp [*]; done)), H', ⟨by first | omega | exact Nat.le_refl _⟩, ⟨by (with_reducible repeat (first | refine blk_drewN ?_ _ | refine blk_drew ?_ | refine blk_alloc ?_ _)); exact BK219.out⟩, ⟨by repeat (first | (with_reducible first | exact HB.out | apply below_alloc | apply pw_below_drewN | apply below_drew1 | refine below_set ?_ GE219.out) | exact HB.out)⟩⟩
              · replace c15 := Bool.eq_false_iff.mpr c15
                subst c15
                have H1 : (impl_CmdFault.j0 k true true t223 t224 true a0_0 a0_1 a0_2 a0_3 a0_4 a0_5) = some r := by rw [if_neg (show ¬ (false = true) by decide)] at H; exact H
                clear H
                have H := H1
                clear H1
                have H' := Aside0.mk H
                clear H
                have hcz32_0 : w6.cell? ⟨gb219, 0, none⟩ = some (.int .i64 a0_0) := (blk_cell BK219.out 0).trans rfl
                have hcz32_1 : w6.cell? ⟨gb219, 1, none⟩ = some (.int .i64 a0_1) := (blk_cell BK219.out 1).trans rfl
                have hcz32_2 : w6.cell? ⟨gb219, 2, none⟩ = some (.int .i64 a0_2) := (blk_cell BK219.out 2).trans rfl
                have hcz32_3 : w6.cell? ⟨gb219, 3, none⟩ = some (.int .i64 a0_3) := (blk_cell BK219.out 3).trans rfl
                have hcz32_4 : w6.cell? ⟨gb219, 4, none⟩ = some (.int .i64 a0_4) := (blk_cell BK219.out 4).trans rfl
                have hcz32_5 : w6.cell? ⟨gb219, 5, none⟩ = some (.int .i64 a0_5) := (blk_cell BK219.out 5).trans rfl
                have hfz32_0 := blk_frozen BK219.out 0
                have hfz32_1 := blk_frozen BK219.out 1
                have hfz32_2 := blk_frozen BK219.out 2
                have hfz32_3 := blk_frozen BK219.out 3
                have hfz32_4 := blk_frozen BK219.out 4
                have hfz32_5 := blk_frozen BK219.out 5
                go_wp2_with (first | ((with_reducible refine gate_callee (f := 64) rfl ?_); refine goesL_ (some 22) rfl rfl Try.func64 (by kernel_rfl) rfl #[.int .i64 a0_1, .int .i64 (-1), .int .i64 1000000] rfl (by (try simp only [List.map_toArray, List.map_cons, List.map_nil]); first | done | rfl | (simp only [List.length_drop, List.length_take]; rfl)) ?_; (with_reducible refine (impl_in.calls a0_1 (-1) 1000000 true _ A8.out).mono ?_); rintro e w' ⟨rfl, ⟨nd, rfl⟩⟩; refine ⟨_, rfl, ?_⟩) | (go_at_call 77; (with_reducible refine (impl_isName.calls a0_2 true _ A11.out).mono ?_); rintro e w' ⟨rfl, ⟨nd, rfl⟩⟩) | (go_at_call 78; (with_reducible refine (impl_isAddress.calls a0_3 false _ A14.out).mono ?_); rintro e w' ⟨rfl, ⟨nd, rfl⟩⟩))
                go_meet
                case rel => exact ⟨_, (true), (by first | rfl | (simp; done) | (simp [*]; done)), H', ⟨by first | omega | exact Nat.le_refl _⟩, ⟨by (with_reducible repeat (first | refine blk_drewN ?_ _ | refine blk_drew ?_ | refine blk_alloc ?_ _)); exact BK219.out⟩, ⟨by repeat (first | (with_reducible first | exact HB.out | apply below_alloc | apply pw_below_drewN | apply below_drew1 | refine below_set ?_ GE219.out) | exact HB.out)⟩⟩
            · replace c13 := Bool.eq_false_iff.mpr c13
              subst c13
              have H1 : (if t223 = true then ((impl_isNumber.f k a0_0 a0_1 a0_2 a0_3 a0_4 a0_5).bind fun t231 => (if t231 = true then (if t224 = true then ((impl_isProto.f a0_5).bind fun t232 => (impl_CmdFault.j0 k true false t223 t224 (!t232) a0_0 a0_1 a0_2 a0_3 a0_4 a0_5)) else (impl_CmdFault.j0 k true false t223 t224 false a0_0 a0_1 a0_2 a0_3 a0_4 a0_5)) else (impl_CmdFault.j0 k true false t223 t224 true a0_0 a0_1 a0_2 a0_3 a0_4 a0_5))) else (if t224 = true then ((impl_isProto.f a0_5).bind fun t233 => (impl_CmdFault.j0 k true false t223 t224 (!t233) a0_0 a0_1 a0_2 a0_3 a0_4 a0_5)) else (impl_CmdFault.j0 k true false t223 t224 false a0_0 a0_1 a0_2 a0_3 a0_4 a0_5))) = some r := by rw [if_neg (show ¬ (false = true) by decide)] at H; exact H
              clear H
              have H := H1
              clear H1
              by_cases c33 : t223 = true
              · subst c33
                have H1 : ((impl_isNumber.f k a0_0 a0_1 a0_2 a0_3 a0_4 a0_5).bind fun t231 => (if t231 = true then (if t224 = true then ((impl_isProto.f a0_5).bind fun t232 => (impl_CmdFault.j0 k true false true t224 (!t232) a0_0 a0_1 a0_2 a0_3 a0_4 a0_5)) else (impl_CmdFault.j0 k true false true t224 false a0_0 a0_1 a0_2 a0_3 a0_4 a0_5)) else (impl_CmdFault.j0 k true false true t224 true a0_0 a0_1 a0_2 a0_3 a0_4 a0_5))) = some r := by rw [if_pos rfl] at H; exact H
                clear H
                have H := H1
                clear H1
                replace H := Option.bind_eq_some_iff.mp H
                obtain ⟨t231, A340, H⟩ := H
                replace H : (if t231 = true then (if t224 = true then ((impl_isProto.f a0_5).bind fun t232 => (impl_CmdFault.j0 k true false true t224 (!t232) a0_0 a0_1 a0_2 a0_3 a0_4 a0_5)) else (impl_CmdFault.j0 k true false true t224 false a0_0 a0_1 a0_2 a0_3 a0_4 a0_5)) else (impl_CmdFault.j0 k true false true t224 true a0_0 a0_1 a0_2 a0_3 a0_4 a0_5)) = some r := H
                have A34 := Aside0.mk A340
                clear A340
                by_cases c35 : t231 = true
                · subst c35
                  have H1 : (if t224 = true then ((impl_isProto.f a0_5).bind fun t232 => (impl_CmdFault.j0 k true false true t224 (!t232) a0_0 a0_1 a0_2 a0_3 a0_4 a0_5)) else (impl_CmdFault.j0 k true false true t224 false a0_0 a0_1 a0_2 a0_3 a0_4 a0_5)) = some r := by rw [if_pos rfl] at H; exact H
                  clear H
                  have H := H1
                  clear H1
                  by_cases c36 : t224 = true
                  · subst c36
                    have H1 : ((impl_isProto.f a0_5).bind fun t232 => (impl_CmdFault.j0 k true false true true (!t232) a0_0 a0_1 a0_2 a0_3 a0_4 a0_5)) = some r := by rw [if_pos rfl] at H; exact H
                    clear H
                    have H := H1
                    clear H1
                    replace H := Option.bind_eq_some_iff.mp H
                    obtain ⟨t232, A370, H⟩ := H
                    replace H : (impl_CmdFault.j0 k true false true true (!t232) a0_0 a0_1 a0_2 a0_3 a0_4 a0_5) = some r := H
                    have A37 := Aside0.mk A370
                    clear A370
                    have H' := Aside0.mk H
                    clear H
                    have hcz38_0 : w6.cell? ⟨gb219, 0, none⟩ = some (.int .i64 a0_0) := (blk_cell BK219.out 0).trans rfl
                    have hcz38_1 : w6.cell? ⟨gb219, 1, none⟩ = some (.int .i64 a0_1) := (blk_cell BK219.out 1).trans rfl
                    have hcz38_2 : w6.cell? ⟨gb219, 2, none⟩ = some (.int .i64 a0_2) := (blk_cell BK219.out 2).trans rfl
                    have hcz38_3 : w6.cell? ⟨gb219, 3, none⟩ = some (.int .i64 a0_3) := (blk_cell BK219.out 3).trans rfl
                    have hcz38_4 : w6.cell? ⟨gb219, 4, none⟩ = some (.int .i64 a0_4) := (blk_cell BK219.out 4).trans rfl
                    have hcz38_5 : w6.cell? ⟨gb219, 5, none⟩ = some (.int .i64 a0_5) := (blk_cell BK219.out 5).trans rfl
                    have hfz38_0 := blk_frozen BK219.out 0
                    have hfz38_1 := blk_frozen BK219.out 1
                    have hfz38_2 := blk_frozen BK219.out 2
                    have hfz38_3 := blk_frozen BK219.out 3
                    have hfz38_4 := blk_frozen BK219.out 4
                    have hfz38_5 := blk_frozen BK219.out 5
                    go_wp2_with (first | ((with_reducible refine gate_callee (f := 64) rfl ?_); refine goesL_ (some 22) rfl rfl Try.func64 (by kernel_rfl) rfl #[.int .i64 a0_1, .int .i64 (-1), .int .i64 1000000] rfl (by (try simp only [List.map_toArray, List.map_cons, List.map_nil]); first | done | rfl | (simp only [List.length_drop, List.length_take]; rfl)) ?_; (with_reducible refine (impl_in.calls a0_1 (-1) 1000000 true _ A8.out).mono ?_); rintro e w' ⟨rfl, ⟨nd, rfl⟩⟩; refine ⟨_, rfl, ?_⟩) | (go_at_call 77; (with_reducible refine (impl_isName.calls a0_2 true _ A11.out).mono ?_); rintro e w' ⟨rfl, ⟨nd, rfl⟩⟩) | (go_at_call 79; (with_reducible refine (impl_isNumber.calls k a0_0 a0_1 a0_2 a0_3 a0_4 a0_5 true _ A34.out).mono ?_); rintro e w39 ⟨rfl, hb⟩; have n0_ := Aside0.mk (blk_below (g := gb219) (o := .cells #[.int .i64 a0_0, .int .i64 a0_1, .int .i64 a0_2, .int .i64 a0_3, .int .i64 a0_4, .int .i64 a0_5] 42 (0, 0)) (by (with_reducible repeat (first | refine blk_drewN ?_ _ | refine blk_drew ?_ | refine blk_alloc ?_ _)); exact BK219.out) hb); have n1_ := Aside0.mk (below_step (by repeat (first | (with_reducible first | exact HB.out | apply below_alloc | apply pw_below_drewN | apply below_drew1 | refine below_set ?_ GE219.out) | exact HB.out)) hb); clear BK219; clear HB; have BK219 := n0_; have HB := n1_; clear n0_ n1_; (try clear hb); (try clear hb2); (try clear hk); (try clear hi); have hcz40_0 : w39.cell? ⟨gb219, 0, none⟩ = some (.int .i64 a0_0) := (blk_cell BK219.out 0).trans rfl; have hcz40_1 : w39.cell? ⟨gb219, 1, none⟩ = some (.int .i64 a0_1) := (blk_cell BK219.out 1).trans rfl; have hcz40_2 : w39.cell? ⟨gb219, 2, none⟩ = some (.int .i64 a0_2) := (blk_cell BK219.out 2).trans rfl; have hcz40_3 : w39.cell? ⟨gb219, 3, none⟩ = some (.int .i64 a0_3) := (blk_cell BK219.out 3).trans rfl; have hcz40_4 : w39.cell? ⟨gb219, 4, none⟩ = some (.int .i64 a0_4) := (blk_cell BK219.out 4).trans rfl; have hcz40_5 : w39.cell? ⟨gb219, 5, none⟩ = some (.int .i64 a0_5) := (blk_cell BK219.out 5).trans rfl; have hfz40_0 := blk_frozen BK219.out 0; have hfz40_1 := blk_frozen BK219.out 1; have hfz40_2 := blk_frozen BK219.out 2; have hfz40_3 := blk_frozen BK219.out 3; have hfz40_4 := blk_frozen BK219.out 4; have hfz40_5 := blk_frozen BK219.out 5) | (go_at_call 80; (with_reducible refine (impl_isProto.calls a0_5 t232 _ A37.out).mono ?_); rintro e w' ⟨rfl, ⟨nd, rfl⟩⟩))
                    go_meet
                    case rel => exact ⟨_, (!t232), (by first | rfl | (simp; done) | (simp [*]; done)), H', ⟨by first | omega | exact Nat.le_refl _⟩, ⟨by (with_reducible repeat (first | refine blk_drewN ?_ _ | refine blk_drew ?_ | refine blk_alloc ?_ _)); exact BK219.out⟩, ⟨by repeat (first | (with_reducible first | exact HB.out | apply below_alloc | apply pw_below_drewN | apply below_drew1 | refine below_set ?_ GE219.out) | exact HB.out)⟩⟩
                  · replace c36 := Bool.eq_false_iff.mpr c36
                    subst c36
                    have H1 : (impl_CmdFault.j0 k true false true false false a0_0 a0_1 a0_2 a0_3 a0_4 a0_5) = some r := by rw [if_neg (show ¬ (false = true) by decide)] at H; exact H
                    clear H
                    have H := H1
                    clear H1
                    have H' := Aside0.mk H
                    clear H
                    have hcz41_0 : w6.cell? ⟨gb219, 0, none⟩ = some (.int .i64 a0_0) := (blk_cell BK219.out 0).trans rfl
                    have hcz41_1 : w6.cell? ⟨gb219, 1, none⟩ = some (.int .i64 a0_1) := (blk_cell BK219.out 1).trans rfl
                    have hcz41_2 : w6.cell? ⟨gb219, 2, none⟩ = some (.int .i64 a0_2) := (blk_cell BK219.out 2).trans rfl
                    have hcz41_3 : w6.cell? ⟨gb219, 3, none⟩ = some (.int .i64 a0_3) := (blk_cell BK219.out 3).trans rfl
                    have hcz41_4 : w6.cell? ⟨gb219, 4, none⟩ = some (.int .i64 a0_4) := (blk_cell BK219.out 4).trans rfl
                    have hcz41_5 : w6.cell? ⟨gb219, 5, none⟩ = some (.int .i64 a0_5) := (blk_cell BK219.out 5).trans rfl
                    have hfz41_0 := blk_frozen BK219.out 0
                    have hfz41_1 := blk_frozen BK219.out 1
                    have hfz41_2 := blk_frozen BK219.out 2
                    have hfz41_3 := blk_frozen BK219.out 3
                    have hfz41_4 := blk_frozen BK219.out 4
                    have hfz41_5 := blk_frozen BK219.out 5
                    go_wp2_with (first | ((with_reducible refine gate_callee (f := 64) rfl ?_); refine goesL_ (some 22) rfl rfl Try.func64 (by kernel_rfl) rfl #[.int .i64 a0_1, .int .i64 (-1), .int .i64 1000000] rfl (by (try simp only [List.map_toArray, List.map_cons, List.map_nil]); first | done | rfl | (simp only [List.length_drop, List.length_take]; rfl)) ?_; (with_reducible refine (impl_in.calls a0_1 (-1) 1000000 true _ A8.out).mono ?_); rintro e w' ⟨rfl, ⟨nd, rfl⟩⟩; refine ⟨_, rfl, ?_⟩) | (go_at_call 77; (with_reducible refine (impl_isName.calls a0_2 true _ A11.out).mono ?_); rintro e w' ⟨rfl, ⟨nd, rfl⟩⟩) | (go_at_call 79; (with_reducible refine (impl_isNumber.calls k a0_0 a0_1 a0_2 a0_3 a0_4 a0_5 true _ A34.out).mono ?_); rintro e w42 ⟨rfl, hb⟩; have n0_ := Aside0.mk (blk_below (g := gb219) (o := .cells #[.int .i64 a0_0, .int .i64 a0_1, .int .i64 a0_2, .int .i64 a0_3, .int .i64 a0_4, .int .i64 a0_5] 42 (0, 0)) (by (with_reducible repeat (first | refine blk_drewN ?_ _ | refine blk_drew ?_ | refine blk_alloc ?_ _)); exact BK219.out) hb); have n1_ := Aside0.mk (below_step (by repeat (first | (with_reducible first | exact HB.out | apply below_alloc | apply pw_below_drewN | apply below_drew1 | refine below_set ?_ GE219.out) | exact HB.out)) hb); clear BK219; clear HB; have BK219 := n0_; have HB := n1_; clear n0_ n1_; (try clear hb); (try clear hb2); (try clear hk); (try clear hi)))
                    go_meet
                    case rel => exact ⟨_, (false), (by first | rfl | (simp; done) | (simp [*]; done)), H', ⟨by first | omega | exact Nat.le_refl _⟩, ⟨by (with_reducible repeat (first | refine blk_drewN ?_ _ | refine blk_drew ?_ | refine blk_alloc ?_ _)); exact BK219.out⟩, ⟨by repeat (first | (with_reducible first | exact HB.out | apply below_alloc | apply pw_below_drewN | apply below_drew1 | refine below_set ?_ GE219.out) | exact HB.out)⟩⟩
                · replace c35 := Bool.eq_false_iff.mpr c35
                  subst c35
                  have H1 : (impl_CmdFault.j0 k true false true t224 true a0_0 a0_1 a0_2 a0_3 a0_4 a0_5) = some r := by rw [if_neg (show ¬ (false = true) by decide)] at H; exact H
                  clear H
                  have H := H1
                  clear H1
                  have H' := Aside0.mk H
                  clear H
                  have hcz43_0 : w6.cell? ⟨gb219, 0, none⟩ = some (.int .i64 a0_0) := (blk_cell BK219.out 0).trans rfl
                  have hcz43_1 : w6.cell? ⟨gb219, 1, none⟩ = some (.int .i64 a0_1) := (blk_cell BK219.out 1).trans rfl
                  have hcz43_2 : w6.cell? ⟨gb219, 2, none⟩ = some (.int .i64 a0_2) := (blk_cell BK219.out 2).trans rfl
                  have hcz43_3 : w6.cell? ⟨gb219, 3, none⟩ = some (.int .i64 a0_3) := (blk_cell BK219.out 3).trans rfl
                  have hcz43_4 : w6.cell? ⟨gb219, 4, none⟩ = some (.int .i64 a0_4) := (blk_cell BK219.out 4).trans rfl
                  have hcz43_5 : w6.cell? ⟨gb219, 5, none⟩ = some (.int .i64 a0_5) := (blk_cell BK219.out 5).trans rfl
                  have hfz43_0 := blk_frozen BK219.out 0
                  have hfz43_1 := blk_frozen BK219.out 1
                  have hfz43_2 := blk_frozen BK219.out 2
                  have hfz43_3 := blk_frozen BK219.out 3
                  have hfz43_4 := blk_frozen BK219.out 4
                  have hfz43_5 := blk_frozen BK219.out 5
                  go_wp2_with (first | ((with_reducible refine gate_callee (f := 64) rfl ?_); refine goesL_ (some 22) rfl rfl Try.func64 (by kernel_rfl) rfl #[.int .i64 a0_1, .int .i64 (-1), .int .i64 1000000] rfl (by (try simp only [List.map_toArray, List.map_cons, List.map_nil]); first | done | rfl | (simp only [List.length_drop, List.length_take]; rfl)) ?_; (with_reducible refine (impl_in.calls a0_1 (-1) 1000000 true _ A8.out).mono ?_); rintro e w' ⟨rfl, ⟨nd, rfl⟩⟩; refine ⟨_, rfl, ?_⟩) | (go_at_call 77; (with_reducible refine (impl_isName.calls a0_2 true _ A11.out).mono ?_); rintro e w' ⟨rfl, ⟨nd, rfl⟩⟩) | (go_at_call 79; (with_reducible refine (impl_isNumber.calls k a0_0 a0_1 a0_2 a0_3 a0_4 a0_5 false _ A34.out).mono ?_); rintro e w44 ⟨rfl, hb⟩; have n0_ := Aside0.mk (blk_below (g := gb219) (o := .cells #[.int .i64 a0_0, .int .i64 a0_1, .int .i64 a0_2, .int .i64 a0_3, .int .i64 a0_4, .int .i64 a0_5] 42 (0, 0)) (by (with_reducible repeat (first | refine blk_drewN ?_ _ | refine blk_drew ?_ | refine blk_alloc ?_ _)); exact BK219.out) hb); have n1_ := Aside0.mk (below_step (by repeat (first | (with_reducible first | exact HB.out | apply below_alloc | apply pw_below_drewN | apply below_drew1 | refine below_set ?_ GE219.out) | exact HB.out)) hb); clear BK219; clear HB; have BK219 := n0_; have HB := n1_; clear n0_ n1_; (try clear hb); (try clear hb2); (try clear hk); (try clear hi)))
                  go_meet
                  case rel => exact ⟨_, (true), (by first | rfl | (simp; done) | (simp [*]; done)), H', ⟨by first | omega | exact Nat.le_refl _⟩, ⟨by (with_reducible repeat (first | refine blk_drewN ?_ _ | refine blk_drew ?_ | refine blk_alloc ?_ _)); exact BK219.out⟩, ⟨by repeat (first | (with_reducible first | exact HB.out | apply below_alloc | apply pw_below_drewN | apply below_drew1 | refine below_set ?_ GE219.out) | exact HB.out)⟩⟩
              · replace c33 := Bool.eq_false_iff.mpr c33
                subst c33
                have H1 : (if t224 = true then ((impl_isProto.f a0_5).bind fun t233 => (impl_CmdFault.j0 k true false false t224 (!t233) a0_0 a0_1 a0_2 a0_3 a0_4 a0_5)) else (impl_CmdFault.j0 k true false false t224 false a0_0 a0_1 a0_2 a0_3 a0_4 a0_5)) = some r := by rw [if_neg (show ¬ (false = true) by decide)] at H; exact H
                clear H
                have H := H1
                clear H1
                by_cases c45 : t224 = true
                · subst c45
                  have H1 : ((impl_isProto.f a0_5).bind fun t233 => (impl_CmdFault.j0 k true false false true (!t233) a0_0 a0_1 a0_2 a0_3 a0_4 a0_5)) = some r := by rw [if_pos rfl] at H; exact H
                  clear H
                  have H := H1
                  clear H1
                  replace H := Option.bind_eq_some_iff.mp H
                  obtain ⟨t233, A460, H⟩ := H
                  replace H : (impl_CmdFault.j0 k true false false true (!t233) a0_0 a0_1 a0_2 a0_3 a0_4 a0_5) = some r := H
                  have A46 := Aside0.mk A460
                  clear A460
                  have H' := Aside0.mk H
                  clear H
                  have hcz47_0 : w6.cell? ⟨gb219, 0, none⟩ = some (.int .i64 a0_0) := (blk_cell BK219.out 0).trans rfl
                  have hcz47_1 : w6.cell? ⟨gb219, 1, none⟩ = some (.int .i64 a0_1) := (blk_cell BK219.out 1).trans rfl
                  have hcz47_2 : w6.cell? ⟨gb219, 2, none⟩ = some (.int .i64 a0_2) := (blk_cell BK219.out 2).trans rfl
                  have hcz47_3 : w6.cell? ⟨gb219, 3, none⟩ = some (.int .i64 a0_3) := (blk_cell BK219.out 3).trans rfl
                  have hcz47_4 : w6.cell? ⟨gb219, 4, none⟩ = some (.int .i64 a0_4) := (blk_cell BK219.out 4).trans rfl
                  have hcz47_5 : w6.cell? ⟨gb219, 5, none⟩ = some (.int .i64 a0_5) := (blk_cell BK219.out 5).trans rfl
                  have hfz47_0 := blk_frozen BK219.out 0
                  have hfz47_1 := blk_frozen BK219.out 1
                  have hfz47_2 := blk_frozen BK219.out 2
                  have hfz47_3 := blk_frozen BK219.out 3
                  have hfz47_4 := blk_frozen BK219.out 4
                  have hfz47_5 := blk_frozen BK219.out 5
                  go_wp2_with (first | ((with_reducible refine gate_callee (f := 64) rfl ?_); refine goesL_ (some 22) rfl rfl Try.func64 (by kernel_rfl) rfl #[.int .i64 a0_1, .int .i64 (-1), .int .i64 1000000] rfl (by (try simp only [List.map_toArray, List.map_cons, List.map_nil]); first | done | rfl | (simp only [List.length_drop, List.length_take]; rfl)) ?_; (with_reducible refine (impl_in.calls a0_1 (-1) 1000000 true _ A8.out).mono ?_); rintro e w' ⟨rfl, ⟨nd, rfl⟩⟩; refine ⟨_, rfl, ?_⟩) | (go_at_call 77; (with_reducible refine (impl_isName.calls a0_2 true _ A11.out).mono ?_); rintro e w' ⟨rfl, ⟨nd, rfl⟩⟩) | (go_at_call 80; (with_reducible refine (impl_isProto.calls a0_5 t233 _ A46.out).mono ?_); rintro e w' ⟨rfl, ⟨nd, rfl⟩⟩))
                  go_meet
                  case rel => exact ⟨_, (!t233), (by first | rfl | (simp; done) | (simp [*]; done)), H', ⟨by first | omega | exact Nat.le_refl _⟩, ⟨by (with_reducible repeat (first | refine blk_drewN ?_ _ | refine blk_drew ?_ | refine blk_alloc ?_ _)); exact BK219.out⟩, ⟨by repeat (first | (with_reducible first | exact HB.out | apply below_alloc | apply pw_below_drewN | apply below_drew1 | refine below_set ?_ GE219.out) | exact HB.out)⟩⟩
                · replace c45 := Bool.eq_false_iff.mpr c45
                  subst c45
                  have H1 : (impl_CmdFault.j0 k true false false false false a0_0 a0_1 a0_2 a0_3 a0_4 a0_5) = some r := by rw [if_neg (show ¬ (false = true) by decide)] at H; exact H
                  clear H
                  have H := H1
                  clear H1
                  have H' := Aside0.mk H
                  clear H
                  have hcz48_0 : w6.cell? ⟨gb219, 0, none⟩ = some (.int .i64 a0_0) := (blk_cell BK219.out 0).trans rfl
                  have hcz48_1 : w6.cell? ⟨gb219, 1, none⟩ = some (.int .i64 a0_1) := (blk_cell BK219.out 1).trans rfl
                  have hcz48_2 : w6.cell? ⟨gb219, 2, none⟩ = some (.int .i64 a0_2) := (blk_cell BK219.out 2).trans rfl
                  have hcz48_3 : w6.cell? ⟨gb219, 3, none⟩ = some (.int .i64 a0_3) := (blk_cell BK219.out 3).trans rfl
                  have hcz48_4 : w6.cell? ⟨gb219, 4, none⟩ = some (.int .i64 a0_4) := (blk_cell BK219.out 4).trans rfl
                  have hcz48_5 : w6.cell? ⟨gb219, 5, none⟩ = some (.int .i64 a0_5) := (blk_cell BK219.out 5).trans rfl
                  have hfz48_0 := blk_frozen BK219.out 0
                  have hfz48_1 := blk_frozen BK219.out 1
                  have hfz48_2 := blk_frozen BK219.out 2
                  have hfz48_3 := blk_frozen BK219.out 3
                  have hfz48_4 := blk_frozen BK219.out 4
                  have hfz48_5 := blk_frozen BK219.out 5
                  go_wp2_with (first | ((with_reducible refine gate_callee (f := 64) rfl ?_); refine goesL_ (some 22) rfl rfl Try.func64 (by kernel_rfl) rfl #[.int .i64 a0_1, .int .i64 (-1), .int .i64 1000000] rfl (by (try simp only [List.map_toArray, List.map_cons, List.map_nil]); first | done | rfl | (simp only [List.length_drop, List.length_take]; rfl)) ?_; (with_reducible refine (impl_in.calls a0_1 (-1) 1000000 true _ A8.out).mono ?_); rintro e w' ⟨rfl, ⟨nd, rfl⟩⟩; refine ⟨_, rfl, ?_⟩) | (go_at_call 77; (with_reducible refine (impl_isName.calls a0_2 true _ A11.out).mono ?_); rintro e w' ⟨rfl, ⟨nd, rfl⟩⟩))
                  go_meet
                  case rel => exact ⟨_, (false), (by first | rfl | (simp; done) | (simp [*]; done)), H', ⟨by first | omega | exact Nat.le_refl _⟩, ⟨by (with_reducible repeat (first | refine blk_drewN ?_ _ | refine blk_drew ?_ | refine blk_alloc ?_ _)); exact BK219.out⟩, ⟨by repeat (first | (with_reducible first | exact HB.out | apply below_alloc | apply pw_below_drewN | apply below_drew1 | refine below_set ?_ GE219.out) | exact HB.out)⟩⟩
          · replace c12 := Bool.eq_false_iff.mpr c12
            subst c12
            have H1 : (impl_CmdFault.j0 k true t222 t223 t224 true a0_0 a0_1 a0_2 a0_3 a0_4 a0_5) = some r := by rw [if_neg (show ¬ (false = true) by decide)] at H; exact H
            clear H
            have H := H1
            clear H1
            have H' := Aside0.mk H
            clear H
            have hcz49_0 : w6.cell? ⟨gb219, 0, none⟩ = some (.int .i64 a0_0) := (blk_cell BK219.out 0).trans rfl
            have hcz49_1 : w6.cell? ⟨gb219, 1, none⟩ = some (.int .i64 a0_1) := (blk_cell BK219.out 1).trans rfl
            have hcz49_2 : w6.cell? ⟨gb219, 2, none⟩ = some (.int .i64 a0_2) := (blk_cell BK219.out 2).trans rfl
            have hcz49_3 : w6.cell? ⟨gb219, 3, none⟩ = some (.int .i64 a0_3) := (blk_cell BK219.out 3).trans rfl
            have hcz49_4 : w6.cell? ⟨gb219, 4, none⟩ = some (.int .i64 a0_4) := (blk_cell BK219.out 4).trans rfl
            have hcz49_5 : w6.cell? ⟨gb219, 5, none⟩ = some (.int .i64 a0_5) := (blk_cell BK219.out 5).trans rfl
            have hfz49_0 := blk_frozen BK219.out 0
            have hfz49_1 := blk_frozen BK219.out 1
            have hfz49_2 := blk_frozen BK219.out 2
            have hfz49_3 := blk_frozen BK219.out 3
            have hfz49_4 := blk_frozen BK219.out 4
            have hfz49_5 := blk_frozen BK219.out 5
            go_wp2_with (first | ((with_reducible refine gate_callee (f := 64) rfl ?_); refine goesL_ (some 22) rfl rfl Try.func64 (by kernel_rfl) rfl #[.int .i64 a0_1, .int .i64 (-1), .int .i64 1000000] rfl (by (try simp only [List.map_toArray, List.map_cons, List.map_nil]); first | done | rfl | (simp only [List.length_drop, List.length_take]; rfl)) ?_; (with_reducible refine (impl_in.calls a0_1 (-1) 1000000 true _ A8.out).mono ?_); rintro e w' ⟨rfl, ⟨nd, rfl⟩⟩; refine ⟨_, rfl, ?_⟩) | (go_at_call 77; (with_reducible refine (impl_isName.calls a0_2 false _ A11.out).mono ?_); rintro e w' ⟨rfl, ⟨nd, rfl⟩⟩))
            go_meet
            case rel => exact ⟨_, (true), (by first | rfl | (simp; done) | (simp [*]; done)), H', ⟨by first | omega | exact Nat.le_refl _⟩, ⟨by (with_reducible repeat (first | refine blk_drewN ?_ _ | refine blk_drew ?_ | refine blk_alloc ?_ _)); exact BK219.out⟩, ⟨by repeat (first | (with_reducible first | exact HB.out | apply below_alloc | apply pw_below_drewN | apply below_drew1 | refine below_set ?_ GE219.out) | exact HB.out)⟩⟩
        · replace c10 := Bool.eq_false_iff.mpr c10
          subst c10
          have H1 : (if t222 = true then ((impl_isAddress.f a0_3).bind fun t234 => (if t234 = true then (if t223 = true then ((impl_isNumber.f k a0_0 a0_1 a0_2 a0_3 a0_4 a0_5).bind fun t235 => (if t235 = true then (if t224 = true then ((impl_isProto.f a0_5).bind fun t236 => (impl_CmdFault.j0 k false t222 t223 t224 (!t236) a0_0 a0_1 a0_2 a0_3 a0_4 a0_5)) else (impl_CmdFault.j0 k false t222 t223 t224 false a0_0 a0_1 a0_2 a0_3 a0_4 a0_5)) else (impl_CmdFault.j0 k false t222 t223 t224 true a0_0 a0_1 a0_2 a0_3 a0_4 a0_5))) else (if t224 = true then ((impl_isProto.f a0_5).bind fun t237 => (impl_CmdFault.j0 k false t222 t223 t224 (!t237) a0_0 a0_1 a0_2 a0_3 a0_4 a0_5)) else (impl_CmdFault.j0 k false t222 t223 t224 false a0_0 a0_1 a0_2 a0_3 a0_4 a0_5))) else (impl_CmdFault.j0 k false t222 t223 t224 true a0_0 a0_1 a0_2 a0_3 a0_4 a0_5))) else (if t223 = true then ((impl_isNumber.f k a0_0 a0_1 a0_2 a0_3 a0_4 a0_5).bind fun t238 => (if t238 = true then (if t224 = true then ((impl_isProto.f a0_5).bind fun t239 => (impl_CmdFault.j0 k false t222 t223 t224 (!t239) a0_0 a0_1 a0_2 a0_3 a0_4 a0_5)) else (impl_CmdFault.j0 k false t222 t223 t224 false a0_0 a0_1 a0_2 a0_3 a0_4 a0_5)) else (impl_CmdFault.j0 k false t222 t223 t224 true a0_0 a0_1 a0_2 a0_3 a0_4 a0_5))) else (if t224 = true then ((impl_isProto.f a0_5).bind fun t240 => (impl_CmdFault.j0 k false t222 t223 t224 (!t240) a0_0 a0_1 a0_2 a0_3 a0_4 a0_5)) else (impl_CmdFault.j0 k false t222 t223 t224 false a0_0 a0_1 a0_2 a0_3 a0_4 a0_5)))) = some r := by rw [if_neg (show ¬ (false = true) by decide)] at H; exact H
          clear H
          have H := H1
          clear H1
          by_cases c50 : t222 = true
          · subst c50
            have H1 : ((impl_isAddress.f a0_3).bind fun t234 => (if t234 = true then (if t223 = true then ((impl_isNumber.f k a0_0 a0_1 a0_2 a0_3 a0_4 a0_5).bind fun t235 => (if t235 = true then (if t224 = true then ((impl_isProto.f a0_5).bind fun t236 => (impl_CmdFault.j0 k false true t223 t224 (!t236) a0_0 a0_1 a0_2 a0_3 a0_4 a0_5)) else (impl_CmdFault.j0 k false true t223 t224 false a0_0 a0_1 a0_2 a0_3 a0_4 a0_5)) else (impl_CmdFault.j0 k false true t223 t224 true a0_0 a0_1 a0_2 a0_3 a0_4 a0_5))) else (if t224 = true then ((impl_isProto.f a0_5).bind fun t237 => (impl_CmdFault.j0 k false true t223 t224 (!t237) a0_0 a0_1 a0_2 a0_3 a0_4 a0_5)) else (impl_CmdFault.j0 k false true t223 t224 false a0_0 a0_1 a0_2 a0_3 a0_4 a0_5))) else (impl_CmdFault.j0 k false true t223 t224 true a0_0 a0_1 a0_2 a0_3 a0_4 a0_5))) = some r := by rw [if_pos rfl] at H; exact H
            clear H
            have H := H1
            clear H1
            replace H := Option.bind_eq_some_iff.mp H
            obtain ⟨t234, A510, H⟩ := H
            replace H : (if t234 = true then (if t223 = true then ((impl_isNumber.f k a0_0 a0_1 a0_2 a0_3 a0_4 a0_5).bind fun t235 => (if t235 = true then (if t224 = true then ((impl_isProto.f a0_5).bind fun t236 => (impl_CmdFault.j0 k false true t223 t224 (!t236) a0_0 a0_1 a0_2 a0_3 a0_4 a0_5)) else (impl_CmdFault.j0 k false true t223 t224 false a0_0 a0_1 a0_2 a0_3 a0_4 a0_5)) else (impl_CmdFault.j0 k false true t223 t224 true a0_0 a0_1 a0_2 a0_3 a0_4 a0_5))) else (if t224 = true then ((impl_isProto.f a0_5).bind fun t237 => (impl_CmdFault.j0 k false true t223 t224 (!t237) a0_0 a0_1 a0_2 a0_3 a0_4 a0_5)) else (impl_CmdFault.j0 k false true t223 t224 false a0_0 a0_1 a0_2 a0_3 a0_4 a0_5))) else (impl_CmdFault.j0 k false true t223 t224 true a0_0 a0_1 a0_2 a0_3 a0_4 a0_5)) = some r := H
            have A51 := Aside0.mk A510
            clear A510
            by_cases c52 : t234 = true
            · subst c52
              have H1 : (if t223 = true then ((impl_isNumber.f k a0_0 a0_1 a0_2 a0_3 a0_4 a0_5).bind fun t235 => (if t235 = true then (if t224 = true then ((impl_isProto.f a0_5).bind fun t236 => (impl_CmdFault.j0 k false true t223 t224 (!t236) a0_0 a0_1 a0_2 a0_3 a0_4 a0_5)) else (impl_CmdFault.j0 k false true t223 t224 false a0_0 a0_1 a0_2 a0_3 a0_4 a0_5)) else (impl_CmdFault.j0 k false true t223 t224 true a0_0 a0_1 a0_2 a0_3 a0_4 a0_5))) else (if t224 = true then ((impl_isProto.f a0_5).bind fun t237 => (impl_CmdFault.j0 k false true t223 t224 (!t237) a0_0 a0_1 a0_2 a0_3 a0_4 a0_5)) else (impl_CmdFault.j0 k false true t223 t224 false a0_0 a0_1 a0_2 a0_3 a0_4 a0_5))) = some r := by rw [if_pos rfl] at H; exact H
              clear H
              have H := H1
              clear H1
              by_cases c53 : t223 = true
              · subst c53
                have H1 : ((impl_isNumber.f k a0_0 a0_1 a0_2 a0_3 a0_4 a0_5).bind fun t235 => (if t235 = true then (if t224 = true then ((impl_isProto.f a0_5).bind fun t236 => (impl_CmdFault.j0 k false true true t224 (!t236) a0_0 a0_1 a0_2 a0_3 a0_4 a0_5)) else (impl_CmdFault.j0 k false true true t224 false a0_0 a0_1 a0_2 a0_3 a0_4 a0_5)) else (impl_CmdFault.j0 k false true true t224 true a0_0 a0_1 a0_2 a0_3 a0_4 a0_5))) = some r := by rw [if_pos rfl] at H; exact H
                clear H
                have H := H1
                clear H1
                replace H := Option.bind_eq_some_iff.mp H
                obtain ⟨t235, A540, H⟩ := H
                replace H : (if t235 = true then (if t224 = true then ((impl_isProto.f a0_5).bind fun t236 => (impl_CmdFault.j0 k false true true t224 (!t236) a0_0 a0_1 a0_2 a0_3 a0_4 a0_5)) else (impl_CmdFault.j0 k false true true t224 false a0_0 a0_1 a0_2 a0_3 a0_4 a0_5)) else (impl_CmdFault.j0 k false true true t224 true a0_0 a0_1 a0_2 a0_3 a0_4 a0_5)) = some r := H
                have A54 := Aside0.mk A540
                clear A540
                by_cases c55 : t235 = true
                · subst c55
                  have H1 : (if t224 = true then ((impl_isProto.f a0_5).bind fun t236 => (impl_CmdFault.j0 k false true true t224 (!t236) a0_0 a0_1 a0_2 a0_3 a0_4 a0_5)) else (impl_CmdFault.j0 k false true true t224 false a0_0 a0_1 a0_2 a0_3 a0_4 a0_5)) = some r := by rw [if_pos rfl] at H; exact H
                  clear H
                  have H := H1
                  clear H1
                  by_cases c56 : t224 = true
                  · subst c56
                    have H1 : ((impl_isProto.f a0_5).bind fun t236 => (impl_CmdFault.j0 k false true true true (!t236) a0_0 a0_1 a0_2 a0_3 a0_4 a0_5)) = some r := by rw [if_pos rfl] at H; exact H
                    clear H
                    have H := H1
                    clear H1
                    replace H := Option.bind_eq_some_iff.mp H
                    obtain ⟨t236, A570, H⟩ := H
                    replace H : (impl_CmdFault.j0 k false true true true (!t236) a0_0 a0_1 a0_2 a0_3 a0_4 a0_5) = some r := H
                    have A57 := Aside0.mk A570
                    clear A570
                    have H' := Aside0.mk H
                    clear H
                    have hcz58_0 : w6.cell? ⟨gb219, 0, none⟩ = some (.int .i64 a0_0) := (blk_cell BK219.out 0).trans rfl
                    have hcz58_1 : w6.cell? ⟨gb219, 1, none⟩ = some (.int .i64 a0_1) := (blk_cell BK219.out 1).trans rfl
                    have hcz58_2 : w6.cell? ⟨gb219, 2, none⟩ = some (.int .i64 a0_2) := (blk_cell BK219.out 2).trans rfl
                    have hcz58_3 : w6.cell? ⟨gb219, 3, none⟩ = some (.int .i64 a0_3) := (blk_cell BK219.out 3).trans rfl
                    have hcz58_4 : w6.cell? ⟨gb219, 4, none⟩ = some (.int .i64 a0_4) := (blk_cell BK219.out 4).trans rfl
                    have hcz58_5 : w6.cell? ⟨gb219, 5, none⟩ = some (.int .i64 a0_5) := (blk_cell BK219.out 5).trans rfl
                    have hfz58_0 := blk_frozen BK219.out 0
                    have hfz58_1 := blk_frozen BK219.out 1
                    have hfz58_2 := blk_frozen BK219.out 2
                    have hfz58_3 := blk_frozen BK219.out 3
                    have hfz58_4 := blk_frozen BK219.out 4
                    have hfz58_5 := blk_frozen BK219.out 5
                    go_wp2_with (first | ((with_reducible refine gate_callee (f := 64) rfl ?_); refine goesL_ (some 22) rfl rfl Try.func64 (by kernel_rfl) rfl #[.int .i64 a0_1, .int .i64 (-1), .int .i64 1000000] rfl (by (try simp only [List.map_toArray, List.map_cons, List.map_nil]); first | done | rfl | (simp only [List.length_drop, List.length_take]; rfl)) ?_; (with_reducible refine (impl_in.calls a0_1 (-1) 1000000 true _ A8.out).mono ?_); rintro e w' ⟨rfl, ⟨nd, rfl⟩⟩; refine ⟨_, rfl, ?_⟩) | (go_at_call 78; (with_reducible refine (impl_isAddress.calls a0_3 true _ A51.out).mono ?_); rintro e w' ⟨rfl, ⟨nd, rfl⟩⟩) | (go_at_call 79; (with_reducible refine (impl_isNumber.calls k a0_0 a0_1 a0_2 a0_3 a0_4 a0_5 true _ A54.out).mono ?_); rintro e w59 ⟨rfl, hb⟩; have n0_ := Aside0.mk (blk_below (g := gb219) (o := .cells #[.int .i64 a0_0, .int .i64 a0_1, .int .i64 a0_2, .int .i64 a0_3, .int .i64 a0_4, .int .i64 a0_5] 42 (0, 0)) (by (with_reducible repeat (first | refine blk_drewN ?_ _ | refine blk_drew ?_ | refine blk_alloc ?_ _)); exact BK219.out) hb); have n1_ := Aside0.mk (below_step (by repeat (first | (with_reducible first | exact HB.out | apply below_alloc | apply pw_below_drewN | apply below_drew1 | refine below_set ?_ GE219.out) | exact HB.out)) hb); clear BK219; clear HB; have BK219 := n0_; have HB := n1_; clear n0_ n1_; (try clear hb); (try clear hb2); (try clear hk); (try clear hi); have hcz60_0 : w59.cell? ⟨gb219, 0, none⟩ = some (.int .i64 a0_0) := (blk_cell BK219.out 0).trans rfl; have hcz60_1 : w59.cell? ⟨gb219, 1, none⟩ = some (.int .i64 a0_1) := (blk_cell BK219.out 1).trans rfl; have hcz60_2 : w59.cell? ⟨gb219, 2, none⟩ = some (.int .i64 a0_2) := (blk_cell BK219.out 2).trans rfl; have hcz60_3 : w59.cell? ⟨gb219, 3, none⟩ = some (.int .i64 a0_3) := (blk_cell BK219.out 3).trans rfl; have hcz60_4 : w59.cell? ⟨gb219, 4, none⟩ = some (.int .i64 a0_4) := (blk_cell BK219.out 4).trans rfl; have hcz60_5 : w59.cell? ⟨gb219, 5, none⟩ = some (.int .i64 a0_5) := (blk_cell BK219.out 5).trans rfl; have hfz60_0 := blk_frozen BK219.out 0; have hfz60_1 := blk_frozen BK219.out 1; have hfz60_2 := blk_frozen BK219.out 2; have hfz60_3 := blk_frozen BK219.out 3; have hfz60_4 := blk_frozen BK219.out 4; have hfz60_5 := blk_frozen BK219.out 5) | (go_at_call 80; (with_reducible refine (impl_isProto.calls a0_5 t236 _ A57.out).mono ?_); rintro e w' ⟨rfl, ⟨nd, rfl⟩⟩))
                    go_meet
                    case rel => exact ⟨_, (!t236), (by first | rfl | (simp; done) | (simp [*]; done)), H', ⟨by first | omega | exact Nat.le_refl _⟩, ⟨by (with_reducible repeat (first | refine blk_drewN ?_ _ | refine blk_drew ?_ | refine blk_alloc ?_ _)); exact BK219.out⟩, ⟨by repeat (first | (with_reducible first | exact HB.out | apply below_alloc | apply pw_below_drewN | apply below_drew1 | refine below_set ?_ GE219.out) | exact HB.out)⟩⟩
                  · replace c56 := Bool.eq_false_iff.mpr c56
                    subst c56
                    have H1 : (impl_CmdFault.j0 k false true true false false a0_0 a0_1 a0_2 a0_3 a0_4 a0_5) = some r := by rw [if_neg (show ¬ (false = true) by decide)] at H; exact H
                    clear H
                    have H := H1
                    clear H1
                    have H' := Aside0.mk H
                    clear H
                    have hcz61_0 : w6.cell? ⟨gb219, 0, none⟩ = some (.int .i64 a0_0) := (blk_cell BK219.out 0).trans rfl
                    have hcz61_1 : w6.cell? ⟨gb219, 1, none⟩ = some (.int .i64 a0_1) := (blk_cell BK219.out 1).trans rfl
                    have hcz61_2 : w6.cell? ⟨gb219, 2, none⟩ = some (.int .i64 a0_2) := (blk_cell BK219.out 2).trans rfl
                    have hcz61_3 : w6.cell? ⟨gb219, 3, none⟩ = some (.int .i64 a0_3) := (blk_cell BK219.out 3).trans rfl
                    have hcz61_4 : w6.cell? ⟨gb219, 4, none⟩ = some (.int .i64 a0_4) := (blk_cell BK219.out 4).trans rfl
                    have hcz61_5 : w6.cell? ⟨gb219, 5, none⟩ = some (.int .i64 a0_5) := (blk_cell BK219.out 5).trans rfl
                    have hfz61_0 := blk_frozen BK219.out 0
                    have hfz61_1 := blk_frozen BK219.out 1
                    have hfz61_2 := blk_frozen BK219.out 2
                    have hfz61_3 := blk_frozen BK219.out 3
                    have hfz61_4 := blk_frozen BK219.out 4
                    have hfz61_5 := blk_frozen BK219.out 5
                    go_wp2_with (first | ((with_reducible refine gate_callee (f := 64) rfl ?_); refine goesL_ (some 22) rfl rfl Try.func64 (by kernel_rfl) rfl #[.int .i64 a0_1, .int .i64 (-1), .int .i64 1000000] rfl (by (try simp only [List.map_toArray, List.map_cons, List.map_nil]); first | done | rfl | (simp only [List.length_drop, List.length_take]; rfl)) ?_; (with_reducible refine (impl_in.calls a0_1 (-1) 1000000 true _ A8.out).mono ?_); rintro e w' ⟨rfl, ⟨nd, rfl⟩⟩; refine ⟨_, rfl, ?_⟩) | (go_at_call 78; (with_reducible refine (impl_isAddress.calls a0_3 true _ A51.out).mono ?_); rintro e w' ⟨rfl, ⟨nd, rfl⟩⟩) | (go_at_call 79; (with_reducible refine (impl_isNumber.calls k a0_0 a0_1 a0_2 a0_3 a0_4 a0_5 true _ A54.out).mono ?_); rintro e w62 ⟨rfl, hb⟩; have n0_ := Aside0.mk (blk_below (g := gb219) (o := .cells #[.int .i64 a0_0, .int .i64 a0_1, .int .i64 a0_2, .int .i64 a0_3, .int .i64 a0_4, .int .i64 a0_5] 42 (0, 0)) (by (with_reducible repeat (first | refine blk_drewN ?_ _ | refine blk_drew ?_ | refine blk_alloc ?_ _)); exact BK219.out) hb); have n1_ := Aside0.mk (below_step (by repeat (first | (with_reducible first | exact HB.out | apply below_alloc | apply pw_below_drewN | apply below_drew1 | refine below_set ?_ GE219.out) | exact HB.out)) hb); clear BK219; clear HB; have BK219 := n0_; have HB := n1_; clear n0_ n1_; (try clear hb); (try clear hb2); (try clear hk); (try clear hi)))
                    go_meet
                    case rel => exact ⟨_, (false), (by first | rfl | (simp; done) | (simp [*]; done)), H', ⟨by first | omega | exact Nat.le_refl _⟩, ⟨by (with_reducible repeat (first | refine blk_drewN ?_ _ | refine blk_drew ?_ | refine blk_alloc ?_ _)); exact BK219.out⟩, ⟨by repeat (first | (with_reducible first | exact HB.out | apply below_alloc | apply pw_below_drewN | apply below_drew1 | refine below_set ?_ GE219.out) | exact HB.out)⟩⟩
                · replace c55 := Bool.eq_false_iff.mpr c55
                  subst c55
                  have H1 : (impl_CmdFault.j0 k false true true t224 true a0_0 a0_1 a0_2 a0_3 a0_4 a0_5) = some r := by rw [if_neg (show ¬ (false = true) by decide)] at H; exact H
                  clear H
                  have H := H1
                  clear H1
                  have H' := Aside0.mk H
                  clear H
                  have hcz63_0 : w6.cell? ⟨gb219, 0, none⟩ = some (.int .i64 a0_0) := (blk_cell BK219.out 0).trans rfl
                  have hcz63_1 : w6.cell? ⟨gb219, 1, none⟩ = some (.int .i64 a0_1) := (blk_cell BK219.out 1).trans rfl
                  have hcz63_2 : w6.cell? ⟨gb219, 2, none⟩ = some (.int .i64 a0_2) := (blk_cell BK219.out 2).trans rfl
                  have hcz63_3 : w6.cell? ⟨gb219, 3, none⟩ = some (.int .i64 a0_3) := (blk_cell BK219.out 3).trans rfl
                  have hcz63_4 : w6.cell? ⟨gb219, 4, none⟩ = some (.int .i64 a0_4) := (blk_cell BK219.out 4).trans rfl
                  have hcz63_5 : w6.cell? ⟨gb219, 5, none⟩ = some (.int .i64 a0_5) := (blk_cell BK219.out 5).trans rfl
                  have hfz63_0 := blk_frozen BK219.out 0
                  have hfz63_1 := blk_frozen BK219.out 1
                  have hfz63_2 := blk_frozen BK219.out 2
                  have hfz63_3 := blk_frozen BK219.out 3
                  have hfz63_4 := blk_frozen BK219.out 4
                  have hfz63_5 := blk_frozen BK219.out 5
                  go_wp2_with (first | ((with_reducible refine gate_callee (f := 64) rfl ?_); refine goesL_ (some 22) rfl rfl Try.func64 (by kernel_rfl) rfl #[.int .i64 a0_1, .int .i64 (-1), .int .i64 1000000] rfl (by (try simp only [List.map_toArray, List.map_cons, List.map_nil]); first | done | rfl | (simp only [List.length_drop, List.length_take]; rfl)) ?_; (with_reducible refine (impl_in.calls a0_1 (-1) 1000000 true _ A8.out).mono ?_); rintro e w' ⟨rfl, ⟨nd, rfl⟩⟩; refine ⟨_, rfl, ?_⟩) | (go_at_call 78; (with_reducible refine (impl_isAddress.calls a0_3 true _ A51.out).mono ?_); rintro e w' ⟨rfl, ⟨nd, rfl⟩⟩) | (go_at_call 79; (with_reducible refine (impl_isNumber.calls k a0_0 a0_1 a0_2 a0_3 a0_4 a0_5 false _ A54.out).mono ?_); rintro e w64 ⟨rfl, hb⟩; have n0_ := Aside0.mk (blk_below (g := gb219) (o := .cells #[.int .i64 a0_0, .int .i64 a0_1, .int .i64 a0_2, .int .i64 a0_3, .int .i64 a0_4, .int .i64 a0_5] 42 (0, 0)) (by (with_reducible repeat (first | refine blk_drewN ?_ _ | refine blk_drew ?_ | refine blk_alloc ?_ _)); exact BK219.out) hb); have n1_ := Aside0.mk (below_step (by repeat (first | (with_reducible first | exact HB.out | apply below_alloc | apply pw_below_drewN | apply below_drew1 | refine below_set ?_ GE219.out) | exact HB.out)) hb); clear BK219; clear HB; have BK219 := n0_; have HB := n1_; clear n0_ n1_; (try clear hb); (try clear hb2); (try clear hk); (try clear hi)))
                  go_meet
                  case rel => exact ⟨_, (true), (by first | rfl | (simp; done) | (simp [*]; done)), H', ⟨by first | omega | exact Nat.le_refl _⟩, ⟨by (with_reducible repeat (first | refine blk_drewN ?_ _ | refine blk_drew ?_ | refine blk_alloc ?_ _)); exact BK219.out⟩, ⟨by repeat (first | (with_reducible first | exact HB.out | apply below_alloc | apply pw_below_drewN | apply below_drew1 | refine below_set ?_ GE219.out) | exact HB.out)⟩⟩
              · replace c53 := Bool.eq_false_iff.mpr c53
                subst c53
                have H1 : (if t224 = true then ((impl_isProto.f a0_5).bind fun t237 => (impl_CmdFault.j0 k false true false t224 (!t237) a0_0 a0_1 a0_2 a0_3 a0_4 a0_5)) else (impl_CmdFault.j0 k false true false t224 false a0_0 a0_1 a0_2 a0_3 a0_4 a0_5)) = some r := by rw [if_neg (show ¬ (false = true) by decide)] at H; exact H
                clear H
                have H := H1
                clear H1
                by_cases c65 : t224 = true
                · subst c65
                  have H1 : ((impl_isProto.f a0_5).bind fun t237 => (impl_CmdFault.j0 k false true false true (!t237) a0_0 a0_1 a0_2 a0_3 a0_4 a0_5)) = some r := by rw [if_pos rfl] at H; exact H
                  clear H
                  have H := H1
                  clear H1
                  replace H := Option.bind_eq_some_iff.mp H
                  obtain ⟨t237, A660, H⟩ := H
                  replace H : (impl_CmdFault.j0 k false true false true (!t237) a0_0 a0_1 a0_2 a0_3 a0_4 a0_5) = some r := H
                  have A66 := Aside0.mk A660
                  clear A660
                  have H' := Aside0.mk H
                  clear H
                  have hcz67_0 : w6.cell? ⟨gb219, 0, none⟩ = some (.int .i64 a0_0) := (blk_cell BK219.out 0).trans rfl
                  have hcz67_1 : w6.cell? ⟨gb219, 1, none⟩ = some (.int .i64 a0_1) := (blk_cell BK219.out 1).trans rfl
                  have hcz67_2 : w6.cell? ⟨gb219, 2, none⟩ = some (.int .i64 a0_2) := (blk_cell BK219.out 2).trans rfl
                  have hcz67_3 : w6.cell? ⟨gb219, 3, none⟩ = some (.int .i64 a0_3) := (blk_cell BK219.out 3).trans rfl
                  have hcz67_4 : w6.cell? ⟨gb219, 4, none⟩ = some (.int .i64 a0_4) := (blk_cell BK219.out 4).trans rfl
                  have hcz67_5 : w6.cell? ⟨gb219, 5, none⟩ = some (.int .i64 a0_5) := (blk_cell BK219.out 5).trans rfl
                  have hfz67_0 := blk_frozen BK219.out 0
                  have hfz67_1 := blk_frozen BK219.out 1
                  have hfz67_2 := blk_frozen BK219.out 2
                  have hfz67_3 := blk_frozen BK219.out 3
                  have hfz67_4 := blk_frozen BK219.out 4
                  have hfz67_5 := blk_frozen BK219.out 5
                  go_wp2_with (first | ((with_reducible refine gate_callee (f := 64) rfl ?_); refine goesL_ (some 22) rfl rfl Try.func64 (by kernel_rfl) rfl #[.int .i64 a0_1, .int .i64 (-1), .int .i64 1000000] rfl (by (try simp only [List.map_toArray, List.map_cons, List.map_nil]); first | done | rfl | (simp only [List.length_drop, List.length_take]; rfl)) ?_; (with_reducible refine (impl_in.calls a0_1 (-1) 1000000 true _ A8.out).mono ?_); rintro e w' ⟨rfl, ⟨nd, rfl⟩⟩; refine ⟨_, rfl, ?_⟩) | (go_at_call 78; (with_reducible refine (impl_isAddress.calls a0_3 true _ A51.out).mono ?_); rintro e w' ⟨rfl, ⟨nd, rfl⟩⟩) | (go_at_call 80; (with_reducible refine (impl_isProto.calls a0_5 t237 _ A66.out).mono ?_); rintro e w' ⟨rfl, ⟨nd, rfl⟩⟩))
                  go_meet
                  case rel => exact ⟨_, (!t237), (by first | rfl | (simp; done) | (simp [*]; done)), H', ⟨by first | omega | exact Nat.le_refl _⟩, ⟨by (with_reducible repeat (first | refine blk_drewN ?_ _ | refine blk_drew ?_ | refine blk_alloc ?_ _)); exact BK219.out⟩, ⟨by repeat (first | (with_reducible first | exact HB.out | apply below_alloc | apply pw_below_drewN | apply below_drew1 | refine below_set ?_ GE219.out) | exact HB.out)⟩⟩
                · replace c65 := Bool.eq_false_iff.mpr c65
                  subst c65
                  have H1 : (impl_CmdFault.j0 k false true false false false a0_0 a0_1 a0_2 a0_3 a0_4 a0_5) = some r := by rw [if_neg (show ¬ (false = true) by decide)] at H; exact H
                  clear H
                  have H := H1
                  clear H1
                  have H' := Aside0.mk H
                  clear H
                  have hcz68_0 : w6.cell? ⟨gb219, 0, none⟩ = some (.int .i64 a0_0) := (blk_cell BK219.out 0).trans rfl
                  have hcz68_1 : w6.cell? ⟨gb219, 1, none⟩ = some (.int .i64 a0_1) := (blk_cell BK219.out 1).trans rfl
                  have hcz68_2 : w6.cell? ⟨gb219, 2, none⟩ = some (.int .i64 a0_2) := (blk_cell BK219.out 2).trans rfl
                  have hcz68_3 : w6.cell? ⟨gb219, 3, none⟩ = some (.int .i64 a0_3) := (blk_cell BK219.out 3).trans rfl
                  have hcz68_4 : w6.cell? ⟨gb219, 4, none⟩ = some (.int .i64 a0_4) := (blk_cell BK219.out 4).trans rfl
                  have hcz68_5 : w6.cell? ⟨gb219, 5, none⟩ = some (.int .i64 a0_5) := (blk_cell BK219.out 5).trans rfl
                  have hfz68_0 := blk_frozen BK219.out 0
                  have hfz68_1 := blk_frozen BK219.out 1
                  have hfz68_2 := blk_frozen BK219.out 2
                  have hfz68_3 := blk_frozen BK219.out 3
                  have hfz68_4 := blk_frozen BK219.out 4
                  have hfz68_5 := blk_frozen BK219.out 5
                  go_wp2_with (first | ((with_reducible refine gate_callee (f := 64) rfl ?_); refine goesL_ (some 22) rfl rfl Try.func64 (by kernel_rfl) rfl #[.int .i64 a0_1, .int .i64 (-1), .int .i64 1000000] rfl (by (try simp only [List.map_toArray, List.map_cons, List.map_nil]); first | done | rfl | (simp only [List.length_drop, List.length_take]; rfl)) ?_; (with_reducible refine (impl_in.calls a0_1 (-1) 1000000 true _ A8.out).mono ?_); rintro e w' ⟨rfl, ⟨nd, rfl⟩⟩; refine ⟨_, rfl, ?_⟩) | (go_at_call 78; (with_reducible refine (impl_isAddress.calls a0_3 true _ A51.out).mono ?_); rintro e w' ⟨rfl, ⟨nd, rfl⟩⟩))
                  go_meet
                  case rel => exact ⟨_, (false), (by first | rfl | (simp; done) | (simp [*]; done)), H', ⟨by first | omega | exact Nat.le_refl _⟩, ⟨by (with_reducible repeat (first | refine blk_drewN ?_ _ | refine blk_drew ?_ | refine blk_alloc ?_ _)); exact BK219.out⟩, ⟨by repeat (first | (with_reducible first | exact HB.out | apply below_alloc | apply pw_below_drewN | apply below_drew1 | refine below_set ?_ GE219.out) | exact HB.out)⟩⟩
            · replace c52 := Bool.eq_false_iff.mpr c52
              subst c52
              have H1 : (impl_CmdFault.j0 k false true t223 t224 true a0_0 a0_1 a0_2 a0_3 a0_4 a0_5) = some r := by rw [if_neg (show ¬ (false = true) by decide)] at H; exact H
              clear H
              have H := H1
              clear H1
              have H' := Aside0.mk H
              clear H
              have hcz69_0 : w6.cell? ⟨gb219, 0, none⟩ = some (.int .i64 a0_0) := (blk_cell BK219.out 0).trans rfl
              have hcz69_1 : w6.cell? ⟨gb219, 1, none⟩ = some (.int .i64 a0_1) := (blk_cell BK219.out 1).trans rfl
              have hcz69_2 : w6.cell? ⟨gb219, 2, none⟩ = some (.int .i64 a0_2) := (blk_cell BK219.out 2).trans rfl
              have hcz69_3 : w6.cell? ⟨gb219, 3, none⟩ = some (.int .i64 a0_3) := (blk_cell BK219.out 3).trans rfl
              have hcz69_4 : w6.cell? ⟨gb219, 4, none⟩ = some (.int .i64 a0_4) := (blk_cell BK219.out 4).trans rfl
              have hcz69_5 : w6.cell? ⟨gb219, 5, none⟩ = some (.int .i64 a0_5) := (blk_cell BK219.out 5).trans rfl
              have hfz69_0 := blk_frozen BK219.out 0
              have hfz69_1 := blk_frozen BK219.out 1
              have hfz69_2 := blk_frozen BK219.out 2
              have hfz69_3 := blk_frozen BK219.out 3
              have hfz69_4 := blk_frozen BK219.out 4
              have hfz69_5 := blk_frozen BK219.out 5
              go_wp2_with (first | ((with_reducible refine gate_callee (f := 64) rfl ?_); refine goesL_ (some 22) rfl rfl Try.func64 (by kernel_rfl) rfl #[.int .i64 a0_1, .int .i64 (-1), .int .i64 1000000] rfl (by (try simp only [List.map_toArray, List.map_cons, List.map_nil]); first | done | rfl | (simp only [List.length_drop, List.length_take]; rfl)) ?_; (with_reducible refine (impl_in.calls a0_1 (-1) 1000000 true _ A8.out).mono ?_); rintro e w' ⟨rfl, ⟨nd, rfl⟩⟩; refine ⟨_, rfl, ?_⟩) | (go_at_call 78; (with_reducible refine (impl_isAddress.calls a0_3 false _ A51.out).mono ?_); rintro e w' ⟨rfl, ⟨nd, rfl⟩⟩))
              go_meet
              case rel => exact ⟨_, (true), (by first | rfl | (simp; done) | (simp [*]; done)), H', ⟨by first | omega | exact Nat.le_refl _⟩, ⟨by (with_reducible repeat (first | refine blk_drewN ?_ _ | refine blk_drew ?_ | refine blk_alloc ?_ _)); exact BK219.out⟩, ⟨by repeat (first | (with_reducible first | exact HB.out | apply below_alloc | apply pw_below_drewN | apply below_drew1 | refine below_set ?_ GE219.out) | exact HB.out)⟩⟩
          · replace c50 := Bool.eq_false_iff.mpr c50
            subst c50
            have H1 : (if t223 = true then ((impl_isNumber.f k a0_0 a0_1 a0_2 a0_3 a0_4 a0_5).bind fun t238 => (if t238 = true then (if t224 = true then ((impl_isProto.f a0_5).bind fun t239 => (impl_CmdFault.j0 k false false t223 t224 (!t239) a0_0 a0_1 a0_2 a0_3 a0_4 a0_5)) else (impl_CmdFault.j0 k false false t223 t224 false a0_0 a0_1 a0_2 a0_3 a0_4 a0_5)) else (impl_CmdFault.j0 k false false t223 t224 true a0_0 a0_1 a0_2 a0_3 a0_4 a0_5))) else (if t224 = true then ((impl_isProto.f a0_5).bind fun t240 => (impl_CmdFault.j0 k false false t223 t224 (!t240) a0_0 a0_1 a0_2 a0_3 a0_4 a0_5)) else (impl_CmdFault.j0 k false false t223 t224 false a0_0 a0_1 a0_2 a0_3 a0_4 a0_5))) = some r := by rw [if_neg (show ¬ (false = true) by decide)] at H; exact H
            clear H
            have H := H1
            clear H1
            by_cases c70 : t223 = true
            · subst c70
              have H1 : ((impl_isNumber.f k a0_0 a0_1 a0_2 a0_3 a0_4 a0_5).bind fun t238 => (if t238 = true then (if t224 = true then ((impl_isProto.f a0_5).bind fun t239 => (impl_CmdFault.j0 k false false true t224 (!t239) a0_0 a0_1 a0_2 a0_3 a0_4 a0_5)) else (impl_CmdFault.j0 k false false true t224 false a0_0 a0_1 a0_2 a0_3 a0_4 a0_5)) else (impl_CmdFault.j0 k false false true t224 true a0_0 a0_1 a0_2 a0_3 a0_4 a0_5))) = some r := by rw [if_pos rfl] at H; exact H
              clear H
              have H := H1
              clear H1
              replace H := Option.bind_eq_some_iff.mp H
              obtain ⟨t238, A710, H⟩ := H
              replace H : (if t238 = true then (if t224 = true then ((impl_isProto.f a0_5).bind fun t239 => (impl_CmdFault.j0 k false false true t224 (!t239) a0_0 a0_1 a0_2 a0_3 a0_4 a0_5)) else (impl_CmdFault.j0 k false false true t224 false a0_0 a0_1 a0_2 a0_3 a0_4 a0_5)) else (impl_CmdFault.j0 k false false true t224 true a0_0 a0_1 a0_2 a0_3 a0_4 a0_5)) = some r := H
              have A71 := Aside0.mk A710
              clear A710
              by_cases c72 : t238 = true
              · subst c72
                have H1 : (if t224 = true then ((impl_isProto.f a0_5).bind fun t239 => (impl_CmdFault.j0 k false false true t224 (!t239) a0_0 a0_1 a0_2 a0_3 a0_4 a0_5)) else (impl_CmdFault.j0 k false false true t224 false a0_0 a0_1 a0_2 a0_3 a0_4 a0_5)) = some r := by rw [if_pos rfl] at H; exact H
                clear H
                have H := H1
                clear H1
                by_cases c73 : t224 = true
                · subst c73
                  have H1 : ((impl_isProto.f a0_5).bind fun t239 => (impl_CmdFault.j0 k false false true true (!t239) a0_0 a0_1 a0_2 a0_3 a0_4 a0_5)) = some r := by rw [if_pos rfl] at H; exact H
                  clear H
                  have H := H1
                  clear H1
                  replace H := Option.bind_eq_some_iff.mp H
                  obtain ⟨t239, A740, H⟩ := H
                  replace H : (impl_CmdFault.j0 k false false true true (!t239) a0_0 a0_1 a0_2 a0_3 a0_4 a0_5) = some r := H
                  have A74 := Aside0.mk A740
                  clear A740
                  have H' := Aside0.mk H
                  clear H
                  have hcz75_0 : w6.cell? ⟨gb219, 0, none⟩ = some (.int .i64 a0_0) := (blk_cell BK219.out 0).trans rfl
                  have hcz75_1 : w6.cell? ⟨gb219, 1, none⟩ = some (.int .i64 a0_1) := (blk_cell BK219.out 1).trans rfl
                  have hcz75_2 : w6.cell? ⟨gb219, 2, none⟩ = some (.int .i64 a0_2) := (blk_cell BK219.out 2).trans rfl
                  have hcz75_3 : w6.cell? ⟨gb219, 3, none⟩ = some (.int .i64 a0_3) := (blk_cell BK219.out 3).trans rfl
                  have hcz75_4 : w6.cell? ⟨gb219, 4, none⟩ = some (.int .i64 a0_4) := (blk_cell BK219.out 4).trans rfl
                  have hcz75_5 : w6.cell? ⟨gb219, 5, none⟩ = some (.int .i64 a0_5) := (blk_cell BK219.out 5).trans rfl
                  have hfz75_0 := blk_frozen BK219.out 0
                  have hfz75_1 := blk_frozen BK219.out 1
                  have hfz75_2 := blk_frozen BK219.out 2
                  have hfz75_3 := blk_frozen BK219.out 3
                  have hfz75_4 := blk_frozen BK219.out 4
                  have hfz75_5 := blk_frozen BK219.out 5
                  go_wp2_with (first | ((with_reducible refine gate_callee (f := 64) rfl ?_); refine goesL_ (some 22) rfl rfl Try.func64 (by kernel_rfl) rfl #[.int .i64 a0_1, .int .i64 (-1), .int .i64 1000000] rfl (by (try simp only [List.map_toArray, List.map_cons, List.map_nil]); first | done | rfl | (simp only [List.length_drop, List.length_take]; rfl)) ?_; (with_reducible refine (impl_in.calls a0_1 (-1) 1000000 true _ A8.out).mono ?_); rintro e w' ⟨rfl, ⟨nd, rfl⟩⟩; refine ⟨_, rfl, ?_⟩) | (go_at_call 79; (with_reducible refine (impl_isNumber.calls k a0_0 a0_1 a0_2 a0_3 a0_4 a0_5 true _ A71.out).mono ?_); rintro e w76 ⟨rfl, hb⟩; have n0_ := Aside0.mk (blk_below (g := gb219) (o := .cells #[.int .i64 a0_0, .int .i64 a0_1, .int .i64 a0_2, .int .i64 a0_3, .int .i64 a0_4, .int .i64 a0_5] 42 (0, 0)) (by (with_reducible repeat (first | refine blk_drewN ?_ _ | refine blk_drew ?_ | refine blk_alloc ?_ _)); exact BK219.out) hb); have n1_ := Aside0.mk (below_step (by repeat (first | (with_reducible first | exact HB.out | apply below_alloc | apply pw_below_drewN | apply below_drew1 | refine below_set ?_ GE219.out) | exact HB.out)) hb); clear BK219; clear HB; have BK219 := n0_; have HB := n1_; clear n0_ n1_; (try clear hb); (try clear hb2); (try clear hk); (try clear hi); have hcz77_0 : w76.cell? ⟨gb219, 0, none⟩ = some (.int .i64 a0_0) := (blk_cell BK219.out 0).trans rfl; have hcz77_1 : w76.cell? ⟨gb219, 1, none⟩ = some (.int .i64 a0_1) := (blk_cell BK219.out 1).trans rfl; have hcz77_2 : w76.cell? ⟨gb219, 2, none⟩ = some (.int .i64 a0_2) := (blk_cell BK219.out 2).trans rfl; have hcz77_3 : w76.cell? ⟨gb219, 3, none⟩ = some (.int .i64 a0_3) := (blk_cell BK219.out 3).trans rfl; have hcz77_4 : w76.cell? ⟨gb219, 4, none⟩ = some (.int .i64 a0_4) := (blk_cell BK219.out 4).trans rfl; have hcz77_5 : w76.cell? ⟨gb219, 5, none⟩ = some (.int .i64 a0_5) := (blk_cell BK219.out 5).trans rfl; have hfz77_0 := blk_frozen BK219.out 0; have hfz77_1 := blk_frozen BK219.out 1; have hfz77_2 := blk_frozen BK219.out 2; have hfz77_3 := blk_frozen BK219.out 3; have hfz77_4 := blk_frozen BK219.out 4; have hfz77_5 := blk_frozen BK219.out 5) | (go_at_call 80; (with_reducible refine (impl_isProto.calls a0_5 t239 _ A74.out).mono ?_); rintro e w' ⟨rfl, ⟨nd, rfl⟩⟩))
                  go_meet
                  case rel => exact ⟨_, (!t239), (by first | rfl | (simp; done) | (simp [*]; done)), H', ⟨by first | omega | exact Nat.le_refl _⟩, ⟨by (with_reducible repeat (first | refine blk_drewN ?_ _ | refine blk_drew ?_ | refine blk_alloc ?_ _)); exact BK219.out⟩, ⟨by repeat (first | (with_reducible first | exact HB.out | apply below_alloc | apply pw_below_drewN | apply below_drew1 | refine below_set ?_ GE219.out) | exact HB.out)⟩⟩
                · replace c73 := Bool.eq_false_iff.mpr c73
                  subst c73
                  have H1 : (impl_CmdFault.j0 k false false true false false a0_0 a0_1 a0_2 a0_3 a0_4 a0_5) = some r := by rw [if_neg (show ¬ (false = true) by decide)] at H; exact H
                  clear H
                  have H := H1
                  clear H1
                  have H' := Aside0.mk H
                  clear H
                  have hcz78_0 : w6.cell? ⟨gb219, 0, none⟩ = some (.int .i64 a0_0) := (blk_cell BK219.out 0).trans rfl
                  have hcz78_1 : w6.cell? ⟨gb219, 1, none⟩ = some (.int .i64 a0_1) := (blk_cell BK219.out 1).trans rfl
                  have hcz78_2 : w6.cell? ⟨gb219, 2, none⟩ = some (.int .i64 a0_2) := (blk_cell BK219.out 2).trans rfl
                  have hcz78_3 : w6.cell? ⟨gb219, 3, none⟩ = some (.int .i64 a0_3) := (blk_cell BK219.out 3).trans rfl
                  have hcz78_4 : w6.cell? ⟨gb219, 4, none⟩ = some (.int .i64 a0_4) := (blk_cell BK219.out 4).trans rfl
                  have hcz78_5 : w6.cell? ⟨gb219, 5, none⟩ = some (.int .i64 a0_5) := (blk_cell BK219.out 5).trans rfl
                  have hfz78_0 := blk_frozen BK219.out 0
                  have hfz78_1 := blk_frozen BK219.out 1
                  have hfz78_2 := blk_frozen BK219.out 2
                  have hfz78_3 := blk_frozen BK219.out 3
                  have hfz78_4 := blk_frozen BK219.out 4
                  have hfz78_5 := blk_frozen BK219.out 5
                  go_wp2_with (first | ((with_reducible refine gate_callee (f := 64) rfl ?_); refine goesL_ (some 22) rfl rfl Try.func64 (by kernel_rfl) rfl #[.int .i64 a0_1, .int .i64 (-1), .int .i64 1000000] rfl (by (try simp only [List.map_toArray, List.map_cons, List.map_nil]); first | done | rfl | (simp only [List.length_drop, List.length_take]; rfl)) ?_; (with_reducible refine (impl_in.calls a0_1 (-1) 1000000 true _ A8.out).mono ?_); rintro e w' ⟨rfl, ⟨nd, rfl⟩⟩; refine ⟨_, rfl, ?_⟩) | (go_at_call 79; (with_reducible refine (impl_isNumber.calls k a0_0 a0_1 a0_2 a0_3 a0_4 a0_5 true _ A71.out).mono ?_); rintro e w79 ⟨rfl, hb⟩; have n0_ := Aside0.mk (blk_below (g := gb219) (o := .cells #[.int .i64 a0_0, .int .i64 a0_1, .int .i64 a0_2, .int .i64 a0_3, .int .i64 a0_4, .int .i64 a0_5] 42 (0, 0)) (by (with_reducible repeat (first | refine blk_drewN ?_ _ | refine blk_drew ?_ | refine blk_alloc ?_ _)); exact BK219.out) hb); have n1_ := Aside0.mk (below_step (by repeat (first | (with_reducible first | exact HB.out | apply below_alloc | apply pw_below_drewN | apply below_drew1 | refine below_set ?_ GE219.out) | exact HB.out)) hb); clear BK219; clear HB; have BK219 := n0_; have HB := n1_; clear n0_ n1_; (try clear hb); (try clear hb2); (try clear hk); (try clear hi)))
                  go_meet
                  case rel => exact ⟨_, (false), (by first | rfl | (simp; done) | (simp [*]; done)), H', ⟨by first | omega | exact Nat.le_refl _⟩, ⟨by (with_reducible repeat (first | refine blk_drewN ?_ _ | refine blk_drew ?_ | refine blk_alloc ?_ _)); exact BK219.out⟩, ⟨by repeat (first | (with_reducible first | exact HB.out | apply below_alloc | apply pw_below_drewN | apply below_drew1 | refine below_set ?_ GE219.out) | exact HB.out)⟩⟩
              · replace c72 := Bool.eq_false_iff.mpr c72
                subst c72
                have H1 : (impl_CmdFault.j0 k false false true t224 true a0_0 a0_1 a0_2 a0_3 a0_4 a0_5) = some r := by rw [if_neg (show ¬ (false = true) by decide)] at H; exact H
                clear H
                have H := H1
                clear H1
                have H' := Aside0.mk H
                clear H
                have hcz80_0 : w6.cell? ⟨gb219, 0, none⟩ = some (.int .i64 a0_0) := (blk_cell BK219.out 0).trans rfl
                have hcz80_1 : w6.cell? ⟨gb219, 1, none⟩ = some (.int .i64 a0_1) := (blk_cell BK219.out 1).trans rfl
                have hcz80_2 : w6.cell? ⟨gb219, 2, none⟩ = some (.int .i64 a0_2) := (blk_cell BK219.out 2).trans rfl
                have hcz80_3 : w6.cell? ⟨gb219, 3, none⟩ = some (.int .i64 a0_3) := (blk_cell BK219.out 3).trans rfl
                have hcz80_4 : w6.cell? ⟨gb219, 4, none⟩ = some (.int .i64 a0_4) := (blk_cell BK219.out 4).trans rfl
                have hcz80_5 : w6.cell? ⟨gb219, 5, none⟩ = some (.int .i64 a0_5) := (blk_cell BK219.out 5).trans rfl
                have hfz80_0 := blk_frozen BK219.out 0
                have hfz80_1 := blk_frozen BK219.out 1
                have hfz80_2 := blk_frozen BK219.out 2
                have hfz80_3 := blk_frozen BK219.out 3
                have hfz80_4 := blk_frozen BK219.out 4
                have hfz80_5 := blk_frozen BK219.out 5
                go_wp2_with (first | ((with_reducible refine gate_callee (f := 64) rfl ?_); refine goesL_ (some 22) rfl rfl Try.func64 (by kernel_rfl) rfl #[.int .i64 a0_1, .int .i64 (-1), .int .i64 1000000] rfl (by (try simp only [List.map_toArray, List.map_cons, List.map_nil]); first | done | rfl | (simp only [List.length_drop, List.length_take]; rfl)) ?_; (with_reducible refine (impl_in.calls a0_1 (-1) 1000000 true _ A8.out).mono ?_); rintro e w' ⟨rfl, ⟨nd, rfl⟩⟩; refine ⟨_, rfl, ?_⟩) | (go_at_call 79; (with_reducible refine (impl_isNumber.calls k a0_0 a0_1 a0_2 a0_3 a0_4 a0_5 false _ A71.out).mono ?_); rintro e w81 ⟨rfl, hb⟩; have n0_ := Aside0.mk (blk_below (g := gb219) (o := .cells #[.int .i64 a0_0, .int .i64 a0_1, .int .i64 a0_2, .int .i64 a0_3, .int .i64 a0_4, .int .i64 a0_5] 42 (0, 0)) (by (with_reducible repeat (first | refine blk_drewN ?_ _ | refine blk_drew ?_ | refine blk_alloc ?_ _)); exact BK219.out) hb); have n1_ := Aside0.mk (below_step (by repeat (first | (with_reducible first | exact HB.out | apply below_alloc | apply pw_below_drewN | apply below_drew1 | refine below_set ?_ GE219.out) | exact HB.out)) hb); clear BK219; clear HB; have BK219 := n0_; have HB := n1_; clear n0_ n1_; (try clear hb); (try clear hb2); (try clear hk); (try clear hi)))
                go_meet
                case rel => exact ⟨_, (true), (by first | rfl | (simp; done) | (simp [*]; done)), H', ⟨by first | omega | exact Nat.le_refl _⟩, ⟨by (with_reducible repeat (first | refine blk_drewN ?_ _ | refine blk_drew ?_ | refine blk_alloc ?_ _)); exact BK219.out⟩, ⟨by repeat (first | (with_reducible first | exact HB.out | apply below_alloc | apply pw_below_drewN | apply below_drew1 | refine below_set ?_ GE219.out) | exact HB.out)⟩⟩
            · replace c70 := Bool.eq_false_iff.mpr c70
              subst c70
              have H1 : (if t224 = true then ((impl_isProto.f a0_5).bind fun t240 => (impl_CmdFault.j0 k false false false t224 (!t240) a0_0 a0_1 a0_2 a0_3 a0_4 a0_5)) else (impl_CmdFault.j0 k false false false t224 false a0_0 a0_1 a0_2 a0_3 a0_4 a0_5)) = some r := by rw [if_neg (show ¬ (false = true) by decide)] at H; exact H
              clear H
              have H := H1
              clear H1
              by_cases c82 : t224 = true
              · subst c82
                have H1 : ((impl_isProto.f a0_5).bind fun t240 => (impl_CmdFault.j0 k false false false true (!t240) a0_0 a0_1 a0_2 a0_3 a0_4 a0_5)) = some r := by rw [if_pos rfl] at H; exact H
                clear H
                have H := H1
                clear H1
                replace H := Option.bind_eq_some_iff.mp H
                obtain ⟨t240, A830, H⟩ := H
                replace H : (impl_CmdFault.j0 k false false false true (!t240) a0_0 a0_1 a0_2 a0_3 a0_4 a0_5) = some r := H
                have A83 := Aside0.mk A830
                clear A830
                have H' := Aside0.mk H
                clear H
                have hcz84_0 : w6.cell? ⟨gb219, 0, none⟩ = some (.int .i64 a0_0) := (blk_cell BK219.out 0).trans rfl
                have hcz84_1 : w6.cell? ⟨gb219, 1, none⟩ = some (.int .i64 a0_1) := (blk_cell BK219.out 1).trans rfl
                have hcz84_2 : w6.cell? ⟨gb219, 2, none⟩ = some (.int .i64 a0_2) := (blk_cell BK219.out 2).trans rfl
                have hcz84_3 : w6.cell? ⟨gb219, 3, none⟩ = some (.int .i64 a0_3) := (blk_cell BK219.out 3).trans rfl
                have hcz84_4 : w6.cell? ⟨gb219, 4, none⟩ = some (.int .i64 a0_4) := (blk_cell BK219.out 4).trans rfl
                have hcz84_5 : w6.cell? ⟨gb219, 5, none⟩ = some (.int .i64 a0_5) := (blk_cell BK219.out 5).trans rfl
                have hfz84_0 := blk_frozen BK219.out 0
                have hfz84_1 := blk_frozen BK219.out 1
                have hfz84_2 := blk_frozen BK219.out 2
                have hfz84_3 := blk_frozen BK219.out 3
                have hfz84_4 := blk_frozen BK219.out 4
                have hfz84_5 := blk_frozen BK219.out 5
                go_wp2_with (first | ((with_reducible refine gate_callee (f := 64) rfl ?_); refine goesL_ (some 22) rfl rfl Try.func64 (by kernel_rfl) rfl #[.int .i64 a0_1, .int .i64 (-1), .int .i64 1000000] rfl (by (try simp only [List.map_toArray, List.map_cons, List.map_nil]); first | done | rfl | (simp only [List.length_drop, List.length_take]; rfl)) ?_; (with_reducible refine (impl_in.calls a0_1 (-1) 1000000 true _ A8.out).mono ?_); rintro e w' ⟨rfl, ⟨nd, rfl⟩⟩; refine ⟨_, rfl, ?_⟩) | (go_at_call 80; (with_reducible refine (impl_isProto.calls a0_5 t240 _ A83.out).mono ?_); rintro e w' ⟨rfl, ⟨nd, rfl⟩⟩))
                go_meet
                case rel => exact ⟨_, (!t240), (by first | rfl | (simp; done) | (simp [*]; done)), H', ⟨by first | omega | exact Nat.le_refl _⟩, ⟨by (with_reducible repeat (first | refine blk_drewN ?_ _ | refine blk_drew ?_ | refine blk_alloc ?_ _)); exact BK219.out⟩, ⟨by repeat (first | (with_reducible first | exact HB.out | apply below_alloc | apply pw_below_drewN | apply below_drew1 | refine below_set ?_ GE219.out) | exact HB.out)⟩⟩
              · replace c82 := Bool.eq_false_iff.mpr c82
                subst c82
                have H1 : (impl_CmdFault.j0 k false false false false false a0_0 a0_1 a0_2 a0_3 a0_4 a0_5) = some r := by rw [if_neg (show ¬ (false = true) by decide)] at H; exact H
                clear H
                have H := H1
                clear H1
                have H' := Aside0.mk H
                clear H
                have hcz85_0 : w6.cell? ⟨gb219, 0, none⟩ = some (.int .i64 a0_0) := (blk_cell BK219.out 0).trans rfl
                have hcz85_1 : w6.cell? ⟨gb219, 1, none⟩ = some (.int .i64 a0_1) := (blk_cell BK219.out 1).trans rfl
                have hcz85_2 : w6.cell? ⟨gb219, 2, none⟩ = some (.int .i64 a0_2) := (blk_cell BK219.out 2).trans rfl
                have hcz85_3 : w6.cell? ⟨gb219, 3, none⟩ = some (.int .i64 a0_3) := (blk_cell BK219.out 3).trans rfl
                have hcz85_4 : w6.cell? ⟨gb219, 4, none⟩ = some (.int .i64 a0_4) := (blk_cell BK219.out 4).trans rfl
                have hcz85_5 : w6.cell? ⟨gb219, 5, none⟩ = some (.int .i64 a0_5) := (blk_cell BK219.out 5).trans rfl
                have hfz85_0 := blk_frozen BK219.out 0
                have hfz85_1 := blk_frozen BK219.out 1
                have hfz85_2 := blk_frozen BK219.out 2
                have hfz85_3 := blk_frozen BK219.out 3
                have hfz85_4 := blk_frozen BK219.out 4
                have hfz85_5 := blk_frozen BK219.out 5
                go_wp2_with (first | ((with_reducible refine gate_callee (f := 64) rfl ?_); refine goesL_ (some 22) rfl rfl Try.func64 (by kernel_rfl) rfl #[.int .i64 a0_1, .int .i64 (-1), .int .i64 1000000] rfl (by (try simp only [List.map_toArray, List.map_cons, List.map_nil]); first | done | rfl | (simp only [List.length_drop, List.length_take]; rfl)) ?_; (with_reducible refine (impl_in.calls a0_1 (-1) 1000000 true _ A8.out).mono ?_); rintro e w' ⟨rfl, ⟨nd, rfl⟩⟩; refine ⟨_, rfl, ?_⟩))
                go_meet
                case rel => exact ⟨_, (false), (by first | rfl | (simp; done) | (simp [*]; done)), H', ⟨by first | omega | exact Nat.le_refl _⟩, ⟨by (with_reducible repeat (first | refine blk_drewN ?_ _ | refine blk_drew ?_ | refine blk_alloc ?_ _)); exact BK219.out⟩, ⟨by repeat (first | (with_reducible first | exact HB.out | apply below_alloc | apply pw_below_drewN | apply below_drew1 | refine below_set ?_ GE219.out) | exact HB.out)⟩⟩
      · replace c9 := Bool.eq_false_iff.mpr c9
        subst c9
        have H1 : (impl_CmdFault.j0 k t221 t222 t223 t224 true a0_0 a0_1 a0_2 a0_3 a0_4 a0_5) = some r := by rw [if_neg (show ¬ (false = true) by decide)] at H; exact H
        clear H
        have H := H1
        clear H1
        have H' := Aside0.mk H
        clear H
        have hcz86_0 : w6.cell? ⟨gb219, 0, none⟩ = some (.int .i64 a0_0) := (blk_cell BK219.out 0).trans rfl
        have hcz86_1 : w6.cell? ⟨gb219, 1, none⟩ = some (.int .i64 a0_1) := (blk_cell BK219.out 1).trans rfl
        have hcz86_2 : w6.cell? ⟨gb219, 2, none⟩ = some (.int .i64 a0_2) := (blk_cell BK219.out 2).trans rfl
        have hcz86_3 : w6.cell? ⟨gb219, 3, none⟩ = some (.int .i64 a0_3) := (blk_cell BK219.out 3).trans rfl
        have hcz86_4 : w6.cell? ⟨gb219, 4, none⟩ = some (.int .i64 a0_4) := (blk_cell BK219.out 4).trans rfl
        have hcz86_5 : w6.cell? ⟨gb219, 5, none⟩ = some (.int .i64 a0_5) := (blk_cell BK219.out 5).trans rfl
        have hfz86_0 := blk_frozen BK219.out 0
        have hfz86_1 := blk_frozen BK219.out 1
        have hfz86_2 := blk_frozen BK219.out 2
        have hfz86_3 := blk_frozen BK219.out 3
        have hfz86_4 := blk_frozen BK219.out 4
        have hfz86_5 := blk_frozen BK219.out 5
        go_wp2_with (first | ((with_reducible refine gate_callee (f := 64) rfl ?_); refine goesL_ (some 22) rfl rfl Try.func64 (by kernel_rfl) rfl #[.int .i64 a0_1, .int .i64 (-1), .int .i64 1000000] rfl (by (try simp only [List.map_toArray, List.map_cons, List.map_nil]); first | done | rfl | (simp only [List.length_drop, List.length_take]; rfl)) ?_; (with_reducible refine (impl_in.calls a0_1 (-1) 1000000 false _ A8.out).mono ?_); rintro e w' ⟨rfl, ⟨nd, rfl⟩⟩; refine ⟨_, rfl, ?_⟩))
        go_meet
        case rel => exact ⟨_, (true), (by first | rfl | (simp; done) | (simp [*]; done)), H', ⟨by first | omega | exact Nat.le_refl _⟩, ⟨by (with_reducible repeat (first | refine blk_drewN ?_ _ | refine blk_drew ?_ | refine blk_alloc ?_ _)); exact BK219.out⟩, ⟨by repeat (first | (with_reducible first | exact HB.out | apply below_alloc | apply pw_below_drewN | apply below_drew1 | refine below_set ?_ GE219.out) | exact HB.out)⟩⟩
    case rest =>
      clear HC5
      try clear c1
      try clear c2
      try clear p2
      try clear c3
      try clear c4
      try clear c5
      try clear c6
      try clear c7
      try clear c8
      try clear c9
      try clear c10
      try clear c12
      try clear c13
      try clear c15
      try clear c28
      try clear c33
      try clear c35
      try clear c36
      try clear c45
      try clear c50
      try clear c52
      try clear c53
      try clear c55
      try clear c56
      try clear c64
      try clear c65
      try clear c70
      try clear c72
      try clear c73
      try clear c82
      try clear hcz31_0
      try clear hcz31_1
      try clear hcz31_2
      try clear hcz31_3
      try clear hcz31_4
      try clear hcz31_5
      try clear hcz32_0
      try clear hcz32_1
      try clear hcz32_2
      try clear hcz32_3
      try clear hcz32_4
      try clear hcz32_5
      try clear hcz38_0
      try clear hcz38_1
      try clear hcz38_2
      try clear hcz38_3
      try clear hcz38_4
      try clear hcz38_5
      try clear hcz40_0
      try clear hcz40_1
      try clear hcz40_2
      try clear hcz40_3
      try clear hcz40_4
      try clear hcz40_5
      try clear hcz41_0
      try clear hcz41_1
      try clear hcz41_2
      try clear hcz41_3
      try clear hcz41_4
      try clear hcz41_5
      try clear hcz43_0
      try clear hcz43_1
      try clear hcz43_2
      try clear hcz43_3
      try clear hcz43_4
      try clear hcz43_5
      try clear hcz47_0
      try clear hcz47_1
      try clear hcz47_2
      try clear hcz47_3
      try clear hcz47_4
      try clear hcz47_5
      try clear hcz48_0
      try clear hcz48_1
      try clear hcz48_2
      try clear hcz48_3
      try clear hcz48_4
      try clear hcz48_5
      try clear hcz49_0
      try clear hcz49_1
      try clear hcz49_2
      try clear hcz49_3
      try clear hcz49_4
      try clear hcz49_5
      try clear hcz58_0
      try clear hcz58_1
      try clear hcz58_2
      try clear hcz58_3
      try clear hcz58_4
      try clear hcz58_5
      try clear hcz60_0
      try clear hcz60_1
      try clear hcz60_2
      try clear hcz60_3
      try clear hcz60_4
      try clear hcz60_5
      try clear hcz61_0
      try clear hcz61_1
      try clear hcz61_2
      try clear hcz61_3
      try clear hcz61_4
      try clear hcz61_5
      try clear hcz63_0
      try clear hcz63_1
      try clear hcz63_2
      try clear hcz63_3
      try clear hcz63_4
      try clear hcz63_5
      try clear hcz67_0
      try clear hcz67_1
      try clear hcz67_2
      try clear hcz67_3
      try clear hcz67_4
      try clear hcz67_5
      try clear hcz68_0
      try clear hcz68_1
      try clear hcz68_2
      try clear hcz68_3
      try clear hcz68_4
      try clear hcz68_5
      try clear hcz69_0
      try clear hcz69_1
      try clear hcz69_2
      try clear hcz69_3
      try clear hcz69_4
      try clear hcz69_5
      try clear hcz75_0
      try clear hcz75_1
      try clear hcz75_2
      try clear hcz75_3
      try clear hcz75_4
      try clear hcz75_5
      try clear hcz77_0
      try clear hcz77_1
      try clear hcz77_2
      try clear hcz77_3
      try clear hcz77_4
      try clear hcz77_5
      try clear hcz78_0
      try clear hcz78_1
      try clear hcz78_2
      try clear hcz78_3
      try clear hcz78_4
      try clear hcz78_5
      try clear hcz80_0
      try clear hcz80_1
      try clear hcz80_2
      try clear hcz80_3
      try clear hcz80_4
      try clear hcz80_5
      try clear hcz84_0
      try clear hcz84_1
      try clear hcz84_2
      try clear hcz84_3
      try clear hcz84_4
      try clear hcz84_5
      try clear hcz85_0
      try clear hcz85_1
      try clear hcz85_2
      try clear hcz85_3
      try clear hcz85_4
      try clear hcz85_5
      try clear hcz86_0
      try clear hcz86_1
      try clear hcz86_2
      try clear hcz86_3
      try clear hcz86_4
      try clear hcz86_5
      try clear hfz30_5
      try clear hfz31_0
      try clear hfz31_1
      try clear hfz31_2
      try clear hfz31_3
      try clear hfz31_4
      try clear hfz31_5
      try clear hfz32_0
      try clear hfz32_1
      try clear hfz32_2
      try clear hfz32_3
      try clear hfz32_4
      try clear hfz32_5
      try clear hfz38_0
      try clear hfz38_1
      try clear hfz38_2
      try clear hfz38_3
      try clear hfz38_4
      try clear hfz38_5
      try clear hfz40_0
      try clear hfz40_1
      try clear hfz40_2
      try clear hfz40_3
      try clear hfz40_4
      try clear hfz40_5
      try clear hfz41_0
      try clear hfz41_1
      try clear hfz41_2
      try clear hfz41_3
      try clear hfz41_4
      try clear hfz41_5
      try clear hfz43_0
      try clear hfz43_1
      try clear hfz43_2
      try clear hfz43_3
      try clear hfz43_4
      try clear hfz43_5
      try clear hfz47_0
      try clear hfz47_1
      try clear hfz47_2
      try clear hfz47_3
      try clear hfz47_4
      try clear hfz47_5
      try clear hfz48_0
      try clear hfz48_1
      try clear hfz48_2
      try clear hfz48_3
      try clear hfz48_4
      try clear hfz48_5
      try clear hfz49_0
      try clear hfz49_1
      try clear hfz49_2
      try clear hfz49_3
      try clear hfz49_4
      try clear hfz49_5
      try clear hfz58_0
      try clear hfz58_1
      try clear hfz58_2
      try clear hfz58_3
      try clear hfz58_4
      try clear hfz58_5
      try clear hfz60_0
      try clear hfz60_1
      try clear hfz60_2
      try clear hfz60_3
      try clear hfz60_4
      try clear hfz60_5
      try clear hfz61_0
      try clear hfz61_1
      try clear hfz61_2
      try clear hfz61_3
      try clear hfz61_4
      try clear hfz61_5
      try clear hfz63_0
      try clear hfz63_1
      try clear hfz63_2
      try clear hfz63_3
      try clear hfz63_4
      try clear hfz63_5
      try clear hfz67_0
      try clear hfz67_1
      try clear hfz67_2
      try clear hfz67_3
      try clear hfz67_4
      try clear hfz67_5
      try clear hfz68_0
      try clear hfz68_1
      try clear hfz68_2
      try clear hfz68_3
      try clear hfz68_4
      try clear hfz68_5
      try clear hfz69_0
      try clear hfz69_1
      try clear hfz69_2
      try clear hfz69_3
      try clear hfz69_4
      try clear hfz69_5
      try clear hfz75_0
      try clear hfz75_1
      try clear hfz75_2
      try clear hfz75_3
      try clear hfz75_4
      try clear hfz75_5
      try clear hfz77_0
      try clear hfz77_1
      try clear hfz77_2
      try clear hfz77_3
      try clear hfz77_4
      try clear hfz77_5
      try clear hfz78_0
      try clear hfz78_1
      try clear hfz78_2
      try clear hfz78_3
      try clear hfz78_4
      try clear hfz78_5
      try clear hfz80_0
      try clear hfz80_1
      try clear hfz80_2
      try clear hfz80_3
      try clear hfz80_4
      try clear hfz80_5
      try clear hfz84_0
      try clear hfz84_1
      try clear hfz84_2
      try clear hfz84_3
      try clear hfz84_4
      try clear hfz84_5
      try clear hfz85_0
      try clear hfz85_1
      try clear hfz85_2
      try clear hfz85_3
      try clear hfz85_4
      try clear hfz85_5
      try clear hfz86_0
      try clear hfz86_1
      try clear hfz86_2
      try clear hfz86_3
      try clear hfz86_4
      try clear hfz86_5
      obtain ⟨kq, x19_4, rfl, HA, HJ4, BK219, HB⟩ := hcut
      cases kq with
      | zero => exact absurd HA.out (by simp [impl_CmdFault.j0])
      | succ kj4 =>
        have H := HA.out
        clear HA
        simp only [impl_CmdFault.j0] at H
        by_cases c87 : x19_4 = true
        · subst c87
          have H1 : (some 3) = some r := by rw [if_pos rfl] at H; exact H
          clear H
          have H := H1
          clear H1
          obtain rfl := Option.some.inj H
          go_wp2
          go_ret
          exact ⟨by first | rfl | (simp [errW_none, errW_some] <;> rfl) | (simp [*, errW_none, errW_some] <;> rfl), by repeat (first | (with_reducible first | exact HB.out | apply below_alloc | apply pw_below_drewN | apply below_drew1 | refine below_set ?_ GE219.out) | exact HB.out)⟩
        · replace c87 := Bool.eq_false_iff.mpr c87
          subst c87
          have H1 : (if t221 = true then (if t222 = true then (if t223 = true then (if t224 = true then (some 0) else (if a0_5 = 0 then (some 0) else (some 1))) else (if a0_4 = 0 then (if t224 = true then (some 0) else (if a0_5 = 0 then (some 0) else (some 1))) else (some 1))) else (if a0_3 = 0 then (if t223 = true then (if t224 = true then (some 0) else (if a0_5 = 0 then (some 0) else (some 1))) else (if a0_4 = 0 then (if t224 = true then (some 0) else (if a0_5 = 0 then (some 0) else (some 1))) else (some 1))) else (some 1))) else (if a0_2 = 0 then (if t222 = true then (if t223 = true then (if t224 = true then (some 0) else (if a0_5 = 0 then (some 0) else (some 1))) else (if a0_4 = 0 then (if t224 = true then (some 0) else (if a0_5 = 0 then (some 0) else (some 1))) else (some 1))) else (if a0_3 = 0 then (if t223 = true then (if t224 = true then (some 0) else (if a0_5 = 0 then (some 0) else (some 1))) else (if a0_4 = 0 then (if t224 = true then (some 0) else (if a0_5 = 0 then (some 0) else (some 1))) else (some 1))) else (some 1))) else (some 1))) = some r := by rw [if_neg (show ¬ (false = true) by decide)] at H; exact H
          clear H
          have H := H1
          clear H1
          by_cases c88 : t221 = true
          · subst c88
            have H1 : (if t222 = true then (if t223 = true then (if t224 = true then (some 0) else (if a0_5 = 0 then (some 0) else (some 1))) else (if a0_4 = 0 then (if t224 = true then (some 0) else (if a0_5 = 0 then (some 0) else (some 1))) else (some 1))) else (if a0_3 = 0 then (if t223 = true then (if t224 = true then (some 0) else (if a0_5 = 0 then (some 0) else (some 1))) else (if a0_4 = 0 then (if t224 = true then (some 0) else (if a0_5 = 0 then (some 0) else (some 1))) else (some 1))) else (some 1))) = some r := by rw [if_pos rfl] at H; exact H
            clear H
            have H := H1
            clear H1
            by_cases c89 : t222 = true
            · subst c89
              have H1 : (if t223 = true then (if t224 = true then (some 0) else (if a0_5 = 0 then (some 0) else (some 1))) else (if a0_4 = 0 then (if t224 = true then (some 0) else (if a0_5 = 0 then (some 0) else (some 1))) else (some 1))) = some r := by rw [if_pos rfl] at H; exact H
              clear H
              have H := H1
              clear H1
              by_cases c90 : t223 = true
              · subst c90
                have H1 : (if t224 = true then (some 0) else (if a0_5 = 0 then (some 0) else (some 1))) = some r := by rw [if_pos rfl] at H; exact H
                clear H
                have H := H1
                clear H1
                by_cases c91 : t224 = true
                · subst c91
                  have H1 : (some 0) = some r := by rw [if_pos rfl] at H; exact H
                  clear H
                  have H := H1
                  clear H1
                  obtain rfl := Option.some.inj H
                  go_wp2
                  go_ret
                  exact ⟨by first | rfl | (simp [errW_none, errW_some] <;> rfl) | (simp [*, errW_none, errW_some] <;> rfl), by repeat (first | (with_reducible first | exact HB.out | apply below_alloc | apply pw_below_drewN | apply below_drew1 | refine below_set ?_ GE219.out) | exact HB.out)⟩
                · replace c91 := Bool.eq_false_iff.mpr c91
                  subst c91
                  have H1 : (if a0_5 = 0 then (some 0) else (some 1)) = some r := by rw [if_neg (show ¬ (false = true) by decide)] at H; exact H
                  clear H
                  have H := H1
                  clear H1
                  by_cases c92 : a0_5 = 0
                  · rw [if_pos c92] at H
                    have c92b0 : (a0_5 == 0) = true := beq_iff_eq.mpr c92
                    have c92b1 : (a0_5 != 0) = false := bne_eq_false_iff_eq.mpr c92
                    clear c92
                    obtain rfl := Option.some.inj H
                    have hcz93_0 : wc.cell? ⟨gb219, 0, none⟩ = some (.int .i64 a0_0) := (blk_cell BK219.out 0).trans rfl
                    have hcz93_1 : wc.cell? ⟨gb219, 1, none⟩ = some (.int .i64 a0_1) := (blk_cell BK219.out 1).trans rfl
                    have hcz93_2 : wc.cell? ⟨gb219, 2, none⟩ = some (.int .i64 a0_2) := (blk_cell BK219.out 2).trans rfl
                    have hcz93_3 : wc.cell? ⟨gb219, 3, none⟩ = some (.int .i64 a0_3) := (blk_cell BK219.out 3).trans rfl
                    have hcz93_4 : wc.cell? ⟨gb219, 4, none⟩ = some (.int .i64 a0_4) := (blk_cell BK219.out 4).trans rfl
                    have hcz93_5 : wc.cell? ⟨gb219, 5, none⟩ = some (.int .i64 a0_5) := (blk_cell BK219.out 5).trans rfl
                    have hfz93_0 := blk_frozen BK219.out 0
                    have hfz93_1 := blk_frozen BK219.out 1
                    have hfz93_2 := blk_frozen BK219.out 2
                    have hfz93_3 := blk_frozen BK219.out 3
                    have hfz93_4 := blk_frozen BK219.out 4
                    have hfz93_5 := blk_frozen BK219.out 5
                    go_wp2
                    go_ret
                    exact ⟨by first | rfl | (simp [errW_none, errW_some] <;> rfl) | (simp [*, errW_none, errW_some] <;> rfl), by repeat (first | (with_reducible first | exact HB.out | apply below_alloc | apply pw_below_drewN | apply below_drew1 | refine below_set ?_ GE219.out) | exact HB.out)⟩
                  · rw [if_neg c92] at H
                    have c92b0 : (a0_5 == 0) = false := beq_eq_false_iff_ne.mpr c92
                    have c92b1 : (a0_5 != 0) = true := bne_iff_ne.mpr c92
                    obtain rfl := Option.some.inj H
                    have hcz94_0 : wc.cell? ⟨gb219, 0, none⟩ = some (.int .i64 a0_0) := (blk_cell BK219.out 0).trans rfl
                    have hcz94_1 : wc.cell? ⟨gb219, 1, none⟩ = some (.int .i64 a0_1) := (blk_cell BK219.out 1).trans rfl
                    have hcz94_2 : wc.cell? ⟨gb219, 2, none⟩ = some (.int .i64 a0_2) := (blk_cell BK219.out 2).trans rfl
                    have hcz94_3 : wc.cell? ⟨gb219, 3, none⟩ = some (.int .i64 a0_3) := (blk_cell BK219.out 3).trans rfl
                    have hcz94_4 : wc.cell? ⟨gb219, 4, none⟩ = some (.int .i64 a0_4) := (blk_cell BK219.out 4).trans rfl
                    have hcz94_5 : wc.cell? ⟨gb219, 5, none⟩ = some (.int .i64 a0_5) := (blk_cell BK219.out 5).trans rfl
                    have hfz94_0 := blk_frozen BK219.out 0
                    have hfz94_1 := blk_frozen BK219.out 1
                    have hfz94_2 := blk_frozen BK219.out 2
                    have hfz94_3 := blk_frozen BK219.out 3
                    have hfz94_4 := blk_frozen BK219.out 4
                    have hfz94_5 := blk_frozen BK219.out 5
                    go_wp2
                    go_ret
                    exact ⟨by first | rfl | (simp [errW_none, errW_some] <;> rfl) | (simp [*, errW_none, errW_some] <;> rfl), by repeat (first | (with_reducible first | exact HB.out | apply below_alloc | apply pw_below_drewN | apply below_drew1 | refine below_set ?_ GE219.out) | exact HB.out)⟩
              · replace c90 := Bool.eq_false_iff.mpr c90
                subst c90
                have H1 : (if a0_4 = 0 then (if t224 = true then (some 0) else (if a0_5 = 0 then (some 0) else (some 1))) else (some 1)) = some r := by rw [if_neg (show ¬ (false = true) by decide)] at H; exact H
                clear H
                have H := H1
                clear H1
                by_cases c95 : a0_4 = 0
                · rw [if_pos c95] at H
                  have c95b0 : (a0_4 == 0) = true := beq_iff_eq.mpr c95
                  have c95b1 : (a0_4 != 0) = false := bne_eq_false_iff_eq.mpr c95
                  clear c95
                  by_cases c96 : t224 = true
                  · subst c96
                    have H1 : (some 0) = some r := by rw [if_pos rfl] at H; exact H
                    clear H
                    have H := H1
                    clear H1
                    obtain rfl := Option.some.inj H
                    have hcz97_0 : wc.cell? ⟨gb219, 0, none⟩ = some (.int .i64 a0_0) := (blk_cell BK219.out 0).trans rfl
                    have hcz97_1 : wc.cell? ⟨gb219, 1, none⟩ = some (.int .i64 a0_1) := (blk_cell BK219.out 1).trans rfl
                    have hcz97_2 : wc.cell? ⟨gb219, 2, none⟩ = some (.int .i64 a0_2) := (blk_cell BK219.out 2).trans rfl
                    have hcz97_3 : wc.cell? ⟨gb219, 3, none⟩ = some (.int .i64 a0_3) := (blk_cell BK219.out 3).trans rfl
                    have hcz97_4 : wc.cell? ⟨gb219, 4, none⟩ = some (.int .i64 a0_4) := (blk_cell BK219.out 4).trans rfl
                    have hcz97_5 : wc.cell? ⟨gb219, 5, none⟩ = some (.int .i64 a0_5) := (blk_cell BK219.out 5).trans rfl
                    have hfz97_0 := blk_frozen BK219.out 0
                    have hfz97_1 := blk_frozen BK219.out 1
                    have hfz97_2 := blk_frozen BK219.out 2
                    have hfz97_3 := blk_frozen BK219.out 3
                    have hfz97_4 := blk_frozen BK219.out 4
                    have hfz97_5 := blk_frozen BK219.out 5
                    go_wp2
                    go_ret
                    exact ⟨by first | rfl | (simp [errW_none, errW_some] <;> rfl) | (simp [*, errW_none, errW_some] <;> rfl), by repeat (first | (with_reducible first | exact HB.out | apply below_alloc | apply pw_below_drewN | apply below_drew1 | refine below_set ?_ GE219.out) | exact HB.out)⟩
                  · replace c96 := Bool.eq_false_iff.mpr c96
                    subst c96
                    have H1 : (if a0_5 = 0 then (some 0) else (some 1)) = some r := by rw [if_neg (show ¬ (false = true) by decide)] at H; exact H
                    clear H
                    have H := H1
                    clear H1
                    by_cases c98 : a0_5 = 0
                    · rw [if_pos c98] at H
                      have c98b0 : (a0_5 == 0) = true := beq_iff_eq.mpr c98
                      have c98b1 : (a0_5 != 0) = false := bne_eq_false_iff_eq.mpr c98
                      clear c98
                      obtain rfl := Option.some.inj H
                      have hcz99_0 : wc.cell? ⟨gb219, 0, none⟩ = some (.int .i64 a0_0) := (blk_cell BK219.out 0).trans rfl
                      have hcz99_1 : wc.cell? ⟨gb219, 1, none⟩ = some (.int .i64 a0_1) := (blk_cell BK219.out 1).trans rfl
                      have hcz99_2 : wc.cell? ⟨gb219, 2, none⟩ = some (.int .i64 a0_2) := (blk_cell BK219.out 2).trans rfl
                      have hcz99_3 : wc.cell? ⟨gb219, 3, none⟩ = some (.int .i64 a0_3) := (blk_cell BK219.out 3).trans rfl
                      have hcz99_4 : wc.cell? ⟨gb219, 4, none⟩ = some (.int .i64 a0_4) := (blk_cell BK219.out 4).trans rfl
                      have hcz99_5 : wc.cell? ⟨gb219, 5, none⟩ = some (.int .i64 a0_5) := (blk_cell BK219.out 5).trans rfl
                      have hfz99_0 := blk_frozen BK219.out 0
                      have hfz99_1 := blk_frozen BK219.out 1
                      have hfz99_2 := blk_frozen BK219.out 2
                      have hfz99_3 := blk_frozen BK219.out 3
                      have hfz99_4 := blk_frozen BK219.out 4
                      have hfz99_5 := blk_frozen BK219.out 5
                      go_wp2
                      go_ret
                      exact ⟨by first | rfl | (simp [errW_none, errW_some] <;> rfl) | (simp [*, errW_none, errW_some] <;> rfl), by repeat (first | (with_reducible first | exact HB.out | apply below_alloc | apply pw_below_drewN | apply below_drew1 | refine below_set ?_ GE219.out) | exact HB.out)⟩
                    · rw [if_neg c98] at H
                      have c98b0 : (a0_5 == 0) = false := beq_eq_false_iff_ne.mpr c98
                      have c98b1 : (a0_5 != 0) = true := bne_iff_ne.mpr c98
                      obtain rfl := Option.some.inj H
                      have hcz100_0 : wc.cell? ⟨gb219, 0, none⟩ = some (.int .i64 a0_0) := (blk_cell BK219.out 0).trans rfl
                      have hcz100_1 : wc.cell? ⟨gb219, 1, none⟩ = some (.int .i64 a0_1) := (blk_cell BK219.out 1).trans rfl
                      have hcz100_2 : wc.cell? ⟨gb219, 2, none⟩ = some (.int .i64 a0_2) := (blk_cell BK219.out 2).trans rfl
                      have hcz100_3 : wc.cell? ⟨gb219, 3, none⟩ = some (.int .i64 a0_3) := (blk_cell BK219.out 3).trans rfl
                      have hcz100_4 : wc.cell? ⟨gb219, 4, none⟩ = some (.int .i64 a0_4) := (blk_cell BK219.out 4).trans rfl
                      have hcz100_5 : wc.cell? ⟨gb219, 5, none⟩ = some (.int .i64 a0_5) := (blk_cell BK219.out 5).trans rfl
                      have hfz100_0 := blk_frozen BK219.out 0
                      have hfz100_1 := blk_frozen BK219.out 1
                      have hfz100_2 := blk_frozen BK219.out 2
                      have hfz100_3 := blk_frozen BK219.out 3
                      have hfz100_4 := blk_frozen BK219.out 4
                      have hfz100_5 := blk_frozen BK219.out 5
                      go_wp2
                      go_ret
                      exact ⟨by first | rfl | (simp [errW_none, errW_some] <;> rfl) | (simp [*, errW_none, errW_some] <;> rfl), by repeat (first | (with_reducible first | exact HB.out | apply below_alloc | apply pw_below_drewN | apply below_drew1 | refine below_set ?_ GE219.out) | exact HB.out)⟩
                · rw [if_neg c95] at H
                  have c95b0 : (a0_4 == 0) = false := beq_eq_false_iff_ne.mpr c95
                  have c95b1 : (a0_4 != 0) = true := bne_iff_ne.mpr c95
                  obtain rfl := Option.some.inj H
                  have hcz101_0 : wc.cell? ⟨gb219, 0, none⟩ = some (.int .i64 a0_0) := (blk_cell BK219.out 0).trans rfl
                  have hcz101_1 : wc.cell? ⟨gb219, 1, none⟩ = some (.int .i64 a0_1) := (blk_cell BK219.out 1).trans rfl
                  have hcz101_2 : wc.cell? ⟨gb219, 2, none⟩ = some (.int .i64 a0_2) := (blk_cell BK219.out 2).trans rfl
                  have hcz101_3 : wc.cell? ⟨gb219, 3, none⟩ = some (.int .i64 a0_3) := (blk_cell BK219.out 3).trans rfl
                  have hcz101_4 : wc.cell? ⟨gb219, 4, none⟩ = some (.int .i64 a0_4) := (blk_cell BK219.out 4).trans rfl
                  have hcz101_5 : wc.cell? ⟨gb219, 5, none⟩ = some (.int .i64 a0_5) := (blk_cell BK219.out 5).trans rfl
                  have hfz101_0 := blk_frozen BK219.out 0
                  have hfz101_1 := blk_frozen BK219.out 1
                  have hfz101_2 := blk_frozen BK219.out 2
                  have hfz101_3 := blk_frozen BK219.out 3
                  have hfz101_4 := blk_frozen BK219.out 4
                  have hfz101_5 := blk_frozen BK219.out 5
                  go_wp2
                  go_ret
                  exact ⟨by first | rfl | (simp [errW_none, errW_some] <;> rfl) | (simp [*, errW_none, errW_some] <;> rfl), by repeat (first | (with_reducible first | exact HB.out | apply below_alloc | apply pw_below_drewN | apply below_drew1 | refine below_set ?_ GE219.out) | exact HB.out)⟩
            · replace c89 := Bool.eq_false_iff.mpr c89
              subst c89
              have H1 : (if a0_3 = 0 then (if t223 = true then (if t224 = true then (some 0) else (if a0_5 = 0 then (some 0) else (some 1))) else (if a0_4 = 0 then (if t224 = true then (some 0) else (if a0_5 = 0 then (some 0) else (some 1))) else (some 1))) else (some 1)) = some r := by rw [if_neg (show ¬ (false = true) by decide)] at H; exact H
              clear H
              have H := H1
              clear H1
              by_cases c102 : a0_3 = 0
              · rw [if_pos c102] at H
                have c102b0 : (a0_3 == 0) = true := beq_iff_eq.mpr c102
                have c102b1 : (a0_3 != 0) = false := bne_eq_false_iff_eq.mpr c102
                clear c102
                by_cases c103 : t223 = true
                · subst c103
                  have H1 : (if t224 = true then (some 0) else (if a0_5 = 0 then (some 0) else (some 1))) = some r := by rw [if_pos rfl] at H; exact H
                  clear H
                  have H := H1
                  clear H1
                  by_cases c104 : t224 = true
                  · subst c104
                    have H1 : (some 0) = some r := by rw [if_pos rfl] at H; exact H
                    clear H
                    have H := H1
                    clear H1
                    obtain rfl := Option.some.inj H
                    have hcz105_0 : wc.cell? ⟨gb219, 0, none⟩ = some (.int .i64 a0_0) := (blk_cell BK219.out 0).trans rfl
                    have hcz105_1 : wc.cell? ⟨gb219, 1, none⟩ = some (.int .i64 a0_1) := (blk_cell BK219.out 1).trans rfl
                    have hcz105_2 : wc.cell? ⟨gb219, 2, none⟩ = some (.int .i64 a0_2) := (blk_cell BK219.out 2).trans rfl
                    have hcz105_3 : wc.cell? ⟨gb219, 3, none⟩ = some (.int .i64 a0_3) := (blk_cell BK219.out 3).trans rfl
                    have hcz105_4 : wc.cell? ⟨gb219, 4, none⟩ = some (.int .i64 a0_4) := (blk_cell BK219.out 4).trans rfl
                    have hcz105_5 : wc.cell? ⟨gb219, 5, none⟩ = some (.int .i64 a0_5) := (blk_cell BK219.out 5).trans rfl
                    have hfz105_0 := blk_frozen BK219.out 0
                    have hfz105_1 := blk_frozen BK219.out 1
                    have hfz105_2 := blk_frozen BK219.out 2
                    have hfz105_3 := blk_frozen BK219.out 3
                    have hfz105_4 := blk_frozen BK219.out 4
                    have hfz105_5 := blk_frozen BK219.out 5
                    go_wp2
                    go_ret
                    exact ⟨by first | rfl | (simp [errW_none, errW_some] <;> rfl) | (simp [*, errW_none, errW_some] <;> rfl), by repeat (first | (with_reducible first | exact HB.out | apply below_alloc | apply pw_below_drewN | apply below_drew1 | refine below_set ?_ GE219.out) | exact HB.out)⟩
                  · replace c104 := Bool.eq_false_iff.mpr c104
                    subst c104
                    have H1 : (if a0_5 = 0 then (some 0) else (some 1)) = some r := by rw [if_neg (show ¬ (false = true) by decide)] at H; exact H
                    clear H
                    have H := H1
                    clear H1
                    by_cases c106 : a0_5 = 0
                    · rw [if_pos c106] at H
                      have c106b0 : (a0_5 == 0) = true := beq_iff_eq.mpr c106
                      have c106b1 : (a0_5 != 0) = false := bne_eq_false_iff_eq.mpr c106
                      clear c106
                      obtain rfl := Option.some.inj H
                      have hcz107_0 : wc.cell? ⟨gb219, 0, none⟩ = some (.int .i64 a0_0) := (blk_cell BK219.out 0).trans rfl
                      have hcz107_1 : wc.cell? ⟨gb219, 1, none⟩ = some (.int .i64 a0_1) := (blk_cell BK219.out 1).trans rfl
                      have hcz107_2 : wc.cell? ⟨gb219, 2, none⟩ = some (.int .i64 a0_2) := (blk_cell BK219.out 2).trans rfl
                      have hcz107_3 : wc.cell? ⟨gb219, 3, none⟩ = some (.int .i64 a0_3) := (blk_cell BK219.out 3).trans rfl
                      have hcz107_4 : wc.cell? ⟨gb219, 4, none⟩ = some (.int .i64 a0_4) := (blk_cell BK219.out 4).trans rfl
                      have hcz107_5 : wc.cell? ⟨gb219, 5, none⟩ = some (.int .i64 a0_5) := (blk_cell BK219.out 5).trans rfl
                      have hfz107_0 := blk_frozen BK219.out 0
                      have hfz107_1 := blk_frozen BK219.out 1
                      have hfz107_2 := blk_frozen BK219.out 2
                      have hfz107_3 := blk_frozen BK219.out 3
                      have hfz107_4 := blk_frozen BK219.out 4
                      have hfz107_5 := blk_frozen BK219.out 5
                      go_wp2
                      go_ret
                      exact ⟨by first | rfl | (simp [errW_none, errW_some] <;> rfl) | (simp [*, errW_none, errW_some] <;> rfl), by repeat (first | (with_reducible first | exact HB.out | apply below_alloc | apply pw_below_drewN | apply below_drew1 | refine below_set ?_ GE219.out) | exact HB.out)⟩
                    · rw [if_neg c106] at H
                      have c106b0 : (a0_5 == 0) = false := beq_eq_false_iff_ne.mpr c106
                      have c106b1 : (a0_5 != 0) = true := bne_iff_ne.mpr c106
                      obtain rfl := Option.some.inj H
                      have hcz108_0 : wc.cell? ⟨gb219, 0, none⟩ = some (.int .i64 a0_0) := (blk_cell BK219.out 0).trans rfl
                      have hcz108_1 : wc.cell? ⟨gb219, 1, none⟩ = some (.int .i64 a0_1) := (blk_cell BK219.out 1).trans rfl
                      have hcz108_2 : wc.cell? ⟨gb219, 2, none⟩ = some (.int .i64 a0_2) := (blk_cell BK219.out 2).trans rfl
                      have hcz108_3 : wc.cell? ⟨gb219, 3, none⟩ = some (.int .i64 a0_3) := (blk_cell BK219.out 3).trans rfl
                      have hcz108_4 : wc.cell? ⟨gb219, 4, none⟩ = some (.int .i64 a0_4) := (blk_cell BK219.out 4).trans rfl
                      have hcz108_5 : wc.cell? ⟨gb219, 5, none⟩ = some (.int .i64 a0_5) := (blk_cell BK219.out 5).trans rfl
                      have hfz108_0 := blk_frozen BK219.out 0
                      have hfz108_1 := blk_frozen BK219.out 1
                      have hfz108_2 := blk_frozen BK219.out 2
                      have hfz108_3 := blk_frozen BK219.out 3
                      have hfz108_4 := blk_frozen BK219.out 4
                      have hfz108_5 := blk_frozen BK219.out 5
                      go_wp2
                      go_ret
                      exact ⟨by first | rfl | (simp [errW_none, errW_some] <;> rfl) | (simp [*, errW_none, errW_some] <;> rfl), by repeat (first | (with_reducible first | exact HB.out | apply below_alloc | apply pw_below_drewN | apply below_drew1 | refine below_set ?_ GE219.out) | exact HB.out)⟩
                · replace c103 := Bool.eq_false_iff.mpr c103
                  subst c103
                  have H1 : (if a0_4 = 0 then (if t224 = true then (some 0) else (if a0_5 = 0 then (some 0) else (some 1))) else (some 1)) = some r := by rw [if_neg (show ¬ (false = true) by decide)] at H; exact H
                  clear H
                  have H := H1
                  clear H1
                  by_cases c109 : a0_4 = 0
                  · rw [if_pos c109] at H
                    have c109b0 : (a0_4 == 0) = true := beq_iff_eq.mpr c109
                    have c109b1 : (a0_4 != 0) = false := bne_eq_false_iff_eq.mpr c109
                    clear c109
                    by_cases c110 : t224 = true
                    · subst c110
                      have H1 : (some 0) = some r := by rw [if_pos rfl] at H; exact H
                      clear H
                      have H := H1
                      clear H1
                      obtain rfl := Option.some.inj H
                      have hcz111_0 : wc.cell? ⟨gb219, 0, none⟩ = some (.int .i64 a0_0) := (blk_cell BK219.out 0).trans rfl
                      have hcz111_1 : wc.cell? ⟨gb219, 1, none⟩ = some (.int .i64 a0_1) := (blk_cell BK219.out 1).trans rfl
                      have hcz111_2 : wc.cell? ⟨gb219, 2, none⟩ = some (.int .i64 a0_2) := (blk_cell BK219.out 2).trans rfl
                      have hcz111_3 : wc.cell? ⟨gb219, 3, none⟩ = some (.int .i64 a0_3) := (blk_cell BK219.out 3).trans rfl
                      have hcz111_4 : wc.cell? ⟨gb219, 4, none⟩ = some (.int .i64 a0_4) := (blk_cell BK219.out 4).trans rfl
                      have hcz111_5 : wc.cell? ⟨gb219, 5, none⟩ = some (.int .i64 a0_5) := (blk_cell BK219.out 5).trans rfl
                      have hfz111_0 := blk_frozen BK219.out 0
                      have hfz111_1 := blk_frozen BK219.out 1
                      have hfz111_2 := blk_frozen BK219.out 2
                      have hfz111_3 := blk_frozen BK219.out 3
                      have hfz111_4 := blk_frozen BK219.out 4
                      have hfz111_5 := blk_frozen BK219.out 5
                      go_wp2
                      go_ret
                      exact ⟨by first | rfl | (simp [errW_none, errW_some] <;> rfl) | (simp [*, errW_none, errW_some] <;> rfl), by repeat (first | (with_reducible first | exact HB.out | apply below_alloc | apply pw_below_drewN | apply below_drew1 | refine below_set ?_ GE219.out) | exact HB.out)⟩
                    · replace c110 := Bool.eq_false_iff.mpr c110
                      subst c110
                      have H1 : (if a0_5 = 0 then (some 0) else (some 1)) = some r := by rw [if_neg (show ¬ (false = true) by decide)] at H; exact H
                      clear H
                      have H := H1
                      clear H1
                      by_cases c112 : a0_5 = 0
                      · rw [if_pos c112] at H
                        have c112b0 : (a0_5 == 0) = true := beq_iff_eq.mpr c112
                        have c112b1 : (a0_5 != 0) = false := bne_eq_false_iff_eq.mpr c112
                        clear c112
                        obtain rfl := Option.some.inj H
                        have hcz113_0 : wc.cell? ⟨gb219, 0, none⟩ = some (.int .i64 a0_0) := (blk_cell BK219.out 0).trans rfl
                        have hcz113_1 : wc.cell? ⟨gb219, 1, none⟩ = some (.int .i64 a0_1) := (blk_cell BK219.out 1).trans rfl
                        have hcz113_2 : wc.cell? ⟨gb219, 2, none⟩ = some (.int .i64 a0_2) := (blk_cell BK219.out 2).trans rfl
                        have hcz113_3 : wc.cell? ⟨gb219, 3, none⟩ = some (.int .i64 a0_3) := (blk_cell BK219.out 3).trans rfl
                        have hcz113_4 : wc.cell? ⟨gb219, 4, none⟩ = some (.int .i64 a0_4) := (blk_cell BK219.out 4).trans rfl
                        have hcz113_5 : wc.cell? ⟨gb219, 5, none⟩ = some (.int .i64 a0_5) := (blk_cell BK219.out 5).trans rfl
                        have hfz113_0 := blk_frozen BK219.out 0
                        have hfz113_1 := blk_frozen BK219.out 1
                        have hfz113_2 := blk_frozen BK219.out 2
                        have hfz113_3 := blk_frozen BK219.out 3
                        have hfz113_4 := blk_frozen BK219.out 4
                        have hfz113_5 := blk_frozen BK219.out 5
                        go_wp2
                        go_ret
                        exact ⟨by first | rfl | (simp [errW_none, errW_some] <;> rfl) | (simp [*, errW_none, errW_some] <;> rfl), by repeat (first | (with_reducible first | exact HB.out | apply below_alloc | apply pw_below_drewN | apply below_drew1 | refine below_set ?_ GE219.out) | exact HB.out)⟩
                      · rw [if_neg c112] at H
                        have c112b0 : (a0_5 == 0) = false := beq_eq_false_iff_ne.mpr c112
                        have c112b1 : (a0_5 != 0) = true := bne_iff_ne.mpr c112
                        obtain rfl := Option.some.inj H
                        have hcz114_0 : wc.cell? ⟨gb219, 0, none⟩ = some (.int .i64 a0_0) := (blk_cell BK219.out 0).trans rfl
                        have hcz114_1 : wc.cell? ⟨gb219, 1, none⟩ = some (.int .i64 a0_1) := (blk_cell BK219.out 1).trans rfl
                        have hcz114_2 : wc.cell? ⟨gb219, 2, none⟩ = some (.int .i64 a0_2) := (blk_cell BK219.out 2).trans rfl
                        have hcz114_3 : wc.cell? ⟨gb219, 3, none⟩ = some (.int .i64 a0_3) := (blk_cell BK219.out 3).trans rfl
                        have hcz114_4 : wc.cell? ⟨gb219, 4, none⟩ = some (.int .i64 a0_4) := (blk_cell BK219.out 4).trans rfl
                        have hcz114_5 : wc.cell? ⟨gb219, 5, none⟩ = some (.int .i64 a0_5) := (blk_cell BK219.out 5).trans rfl
                        have hfz114_0 := blk_frozen BK219.out 0
                        have hfz114_1 := blk_frozen BK219.out 1
                        have hfz114_2 := blk_frozen BK219.out 2
                        have hfz114_3 := blk_frozen BK219.out 3
                        have hfz114_4 := blk_frozen BK219.out 4
                        have hfz114_5 := blk_frozen BK219.out 5
                        go_wp2
                        go_ret
                        exact ⟨by first | rfl | (simp [errW_none, errW_some] <;> rfl) | (simp [*, errW_none, errW_some] <;> rfl), by repeat (first | (with_reducible first | exact HB.out | apply below_alloc | apply pw_below_drewN | apply below_drew1 | refine below_set ?_ GE219.out) | exact HB.out)⟩
                  · rw [if_neg c109] at H
                    have c109b0 : (a0_4 == 0) = false := beq_eq_false_iff_ne.mpr c109
                    have c109b1 : (a0_4 != 0) = true := bne_iff_ne.mpr c109
                    obtain rfl := Option.some.inj H
                    have hcz115_0 : wc.cell? ⟨gb219, 0, none⟩ = some (.int .i64 a0_0) := (blk_cell BK219.out 0).trans rfl
                    have hcz115_1 : wc.cell? ⟨gb219, 1, none⟩ = some (.int .i64 a0_1) := (blk_cell BK219.out 1).trans rfl
                    have hcz115_2 : wc.cell? ⟨gb219, 2, none⟩ = some (.int .i64 a0_2) := (blk_cell BK219.out 2).trans rfl
                    have hcz115_3 : wc.cell? ⟨gb219, 3, none⟩ = some (.int .i64 a0_3) := (blk_cell BK219.out 3).trans rfl
                    have hcz115_4 : wc.cell? ⟨gb219, 4, none⟩ = some (.int .i64 a0_4) := (blk_cell BK219.out 4).trans rfl
                    have hcz115_5 : wc.cell? ⟨gb219, 5, none⟩ = some (.int .i64 a0_5) := (blk_cell BK219.out 5).trans rfl
                    have hfz115_0 := blk_frozen BK219.out 0
                    have hfz115_1 := blk_frozen BK219.out 1
                    have hfz115_2 := blk_frozen BK219.out 2
                    have hfz115_3 := blk_frozen BK219.out 3
                    have hfz115_4 := blk_frozen BK219.out 4
                    have hfz115_5 := blk_frozen BK219.out 5
                    go_wp2
                    go_ret
                    exact ⟨by first | rfl | (simp [errW_none, errW_some] <;> rfl) | (simp [*, errW_none, errW_some] <;> rfl), by repeat (first | (with_reducible first | exact HB.out | apply below_alloc | apply pw_below_drewN | apply below_drew1 | refine below_set ?_ GE219.out) | exact HB.out)⟩
              · rw [if_neg c102] at H
                have c102b0 : (a0_3 == 0) = false := beq_eq_false_iff_ne.mpr c102
                have c102b1 : (a0_3 != 0) = true := bne_iff_ne.mpr c102
                obtain rfl := Option.some.inj H
                have hcz116_0 : wc.cell? ⟨gb219, 0, none⟩ = some (.int .i64 a0_0) := (blk_cell BK219.out 0).trans rfl
                have hcz116_1 : wc.cell? ⟨gb219, 1, none⟩ = some (.int .i64 a0_1) := (blk_cell BK219.out 1).trans rfl
                have hcz116_2 : wc.cell? ⟨gb219, 2, none⟩ = some (.int .i64 a0_2) := (blk_cell BK219.out 2).trans rfl
                have hcz116_3 : wc.cell? ⟨gb219, 3, none⟩ = some (.int .i64 a0_3) := (blk_cell BK219.out 3).trans rfl
                have hcz116_4 : wc.cell? ⟨gb219, 4, none⟩ = some (.int .i64 a0_4) := (blk_cell BK219.out 4).trans rfl
                have hcz116_5 : wc.cell? ⟨gb219, 5, none⟩ = some (.int .i64 a0_5) := (blk_cell BK219.out 5).trans rfl
                have hfz116_0 := blk_frozen BK219.out 0
                have hfz116_1 := blk_frozen BK219.out 1
                have hfz116_2 := blk_frozen BK219.out 2
                have hfz116_3 := blk_frozen BK219.out 3
                have hfz116_4 := blk_frozen BK219.out 4
                have hfz116_5 := blk_frozen BK219.out 5
                go_wp2
                go_ret
                exact ⟨by first | rfl | (simp [errW_none, errW_some] <;> rfl) | (simp [*, errW_none, errW_some] <;> rfl), by repeat (first | (with_reducible first | exact HB.out | apply below_alloc | apply pw_below_drewN | apply below_drew1 | refine below_set ?_ GE219.out) | exact HB.out)⟩
          · replace c88 := Bool.eq_false_iff.mpr c88
            subst c88
            have H1 : (if a0_2 = 0 then (if t222 = true then (if t223 = true then (if t224 = true then (some 0) else (if a0_5 = 0 then (some 0) else (some 1))) else (if a0_4 = 0 then (if t224 = true then (some 0) else (if a0_5 = 0 then (some 0) else (some 1))) else (some 1))) else (if a0_3 = 0 then (if t223 = true then (if t224 = true then (some 0) else (if a0_5 = 0 then (some 0) else (some 1))) else (if a0_4 = 0 then (if t224 = true then (some 0) else (if a0_5 = 0 then (some 0) else (some 1))) else (some 1))) else (some 1))) else (some 1)) = some r := by rw [if_neg (show ¬ (false = true) by decide)] at H; exact H
            clear H
            have H := H1
            clear H1
            by_cases c117 : a0_2 = 0
            · rw [if_pos c117] at H
              have c117b0 : (a0_2 == 0) = true := beq_iff_eq.mpr c117
              have c117b1 : (a0_2 != 0) = false := bne_eq_false_iff_eq.mpr c117
              clear c117
              by_cases c118 : t222 = true
              · subst c118
                have H1 : (if t223 = true then (if t224 = true then (some 0) else (if a0_5 = 0 then (some 0) else (some 1))) else (if a0_4 = 0 then (if t224 = true then (some 0) else (if a0_5 = 0 then (some 0) else (some 1))) else (some 1))) = some r := by rw [if_pos rfl] at H; exact H
                clear H
                have H := H1
                clear H1
                by_cases c119 : t223 = true
                · subst c119
                  have H1 : (if t224 = true then (some 0) else (if a0_5 = 0 then (some 0) else (some 1))) = some r := by rw [if_pos rfl] at H; exact H
                  clear H
                  have H := H1
                  clear H1
                  by_cases c120 : t224 = true
                  · subst c120
                    have H1 : (some 0) = some r := by rw [if_pos rfl] at H; exact H
                    clear H
                    have H := H1
                    clear H1
                    obtain rfl := Option.some.inj H
                    have hcz121_0 : wc.cell? ⟨gb219, 0, none⟩ = some (.int .i64 a0_0) := (blk_cell BK219.out 0).trans rfl
                    have hcz121_1 : wc.cell? ⟨gb219, 1, none⟩ = some (.int .i64 a0_1) := (blk_cell BK219.out 1).trans rfl
                    have hcz121_2 : wc.cell? ⟨gb219, 2, none⟩ = some (.int .i64 a0_2) := (blk_cell BK219.out 2).trans rfl
                    have hcz121_3 : wc.cell? ⟨gb219, 3, none⟩ = some (.int .i64 a0_3) := (blk_cell BK219.out 3).trans rfl
                    have hcz121_4 : wc.cell? ⟨gb219, 4, none⟩ = some (.int .i64 a0_4) := (blk_cell BK219.out 4).trans rfl
                    have hcz121_5 : wc.cell? ⟨gb219, 5, none⟩ = some (.int .i64 a0_5) := (blk_cell BK219.out 5).trans rfl
                    have hfz121_0 := blk_frozen BK219.out 0
                    have hfz121_1 := blk_frozen BK219.out 1
                    have hfz121_2 := blk_frozen BK219.out 2
                    have hfz121_3 := blk_frozen BK219.out 3
                    have hfz121_4 := blk_frozen BK219.out 4
                    have hfz121_5 := blk_frozen BK219.out 5
                    go_wp2
                    go_ret
                    exact ⟨by first | rfl | (simp [errW_none, errW_some] <;> rfl) | (simp [*, errW_none, errW_some] <;> rfl), by repeat (first | (with_reducible first | exact HB.out | apply below_alloc | apply pw_below_drewN | apply below_drew1 | refine below_set ?_ GE219.out) | exact HB.out)⟩
                  · replace c120 := Bool.eq_false_iff.mpr c120
                    subst c120
                    have H1 : (if a0_5 = 0 then (some 0) else (some 1)) = some r := by rw [if_neg (show ¬ (false = true) by decide)] at H; exact H
                    clear H
                    have H := H1
                    clear H1
                    by_cases c122 : a0_5 = 0
                    · rw [if_pos c122] at H
                      have c122b0 : (a0_5 == 0) = true := beq_iff_eq.mpr c122
                      have c122b1 : (a0_5 != 0) = false := bne_eq_false_iff_eq.mpr c122
                      clear c122
                      obtain rfl := Option.some.inj H
                      have hcz123_0 : wc.cell? ⟨gb219, 0, none⟩ = some (.int .i64 a0_0) := (blk_cell BK219.out 0).trans rfl
                      have hcz123_1 : wc.cell? ⟨gb219, 1, none⟩ = some (.int .i64 a0_1) := (blk_cell BK219.out 1).trans rfl
                      have hcz123_2 : wc.cell? ⟨gb219, 2, none⟩ = some (.int .i64 a0_2) := (blk_cell BK219.out 2).trans rfl
                      have hcz123_3 : wc.cell? ⟨gb219, 3, none⟩ = some (.int .i64 a0_3) := (blk_cell BK219.out 3).trans rfl
                      have hcz123_4 : wc.cell? ⟨gb219, 4, none⟩ = some (.int .i64 a0_4) := (blk_cell BK219.out 4).trans rfl
                      have hcz123_5 : wc.cell? ⟨gb219, 5, none⟩ = some (.int .i64 a0_5) := (blk_cell BK219.out 5).trans rfl
                      have hfz123_0 := blk_frozen BK219.out 0
                      have hfz123_1 := blk_frozen BK219.out 1
                      have hfz123_2 := blk_frozen BK219.out 2
                      have hfz123_3 := blk_frozen BK219.out 3
                      have hfz123_4 := blk_frozen BK219.out 4
                      have hfz123_5 := blk_frozen BK219.out 5
                      go_wp2
                      go_ret
                      exact ⟨by first | rfl | (simp [errW_none, errW_some] <;> rfl) | (simp [*, errW_none, errW_some] <;> rfl), by repeat (first | (with_reducible first | exact HB.out | apply below_alloc | apply pw_below_drewN | apply below_drew1 | refine below_set ?_ GE219.out) | exact HB.out)⟩
                    · rw [if_neg c122] at H
                      have c122b0 : (a0_5 == 0) = false := beq_eq_false_iff_ne.mpr c122
                      have c122b1 : (a0_5 != 0) = true := bne_iff_ne.mpr c122
                      obtain rfl := Option.some.inj H
                      have hcz124_0 : wc.cell? ⟨gb219, 0, none⟩ = some (.int .i64 a0_0) := (blk_cell BK219.out 0).trans rfl
                      have hcz124_1 : wc.cell? ⟨gb219, 1, none⟩ = some (.int .i64 a0_1) := (blk_cell BK219.out 1).trans rfl
                      have hcz124_2 : wc.cell? ⟨gb219, 2, none⟩ = some (.int .i64 a0_2) := (blk_cell BK219.out 2).trans rfl
                      have hcz124_3 : wc.cell? ⟨gb219, 3, none⟩ = some (.int .i64 a0_3) := (blk_cell BK219.out 3).trans rfl
                      have hcz124_4 : wc.cell? ⟨gb219, 4, none⟩ = some (.int .i64 a0_4) := (blk_cell BK219.out 4).trans rfl
                      have hcz124_5 : wc.cell? ⟨gb219, 5, none⟩ = some (.int .i64 a0_5) := (blk_cell BK219.out 5).trans rfl
                      have hfz124_0 := blk_frozen BK219.out 0
                      have hfz124_1 := blk_frozen BK219.out 1
                      have hfz124_2 := blk_frozen BK219.out 2
                      have hfz124_3 := blk_frozen BK219.out 3
                      have hfz124_4 := blk_frozen BK219.out 4
                      have hfz124_5 := blk_frozen BK219.out 5
                      go_wp2
                      go_ret
                      exact ⟨by first | rfl | (simp [errW_none, errW_some] <;> rfl) | (simp [*, errW_none, errW_some] <;> rfl), by repeat (first | (with_reducible first | exact HB.out | apply below_alloc | apply pw_below_drewN | apply below_drew1 | refine below_set ?_ GE219.out) | exact HB.out)⟩
                · replace c119 := Bool.eq_false_iff.mpr c119
                  subst c119
                  have H1 : (if a0_4 = 0 then (if t224 = true then (some 0) else (if a0_5 = 0 then (some 0) else (some 1))) else (some 1)) = some r := by rw [if_neg (show ¬ (false = true) by decide)] at H; exact H
                  clear H
                  have H := H1
                  clear H1
                  by_cases c125 : a0_4 = 0
                  · rw [if_pos c125] at H
                    have c125b0 : (a0_4 == 0) = true := beq_iff_eq.mpr c125
                    have c125b1 : (a0_4 != 0) = false := bne_eq_false_iff_eq.mpr c125
                    clear c125
                    by_cases c126 : t224 = true
                    · subst c126
                      have H1 : (some 0) = some r := by rw [if_pos rfl] at H; exact H
                      clear H
                      have H := H1
                      clear H1
                      obtain rfl := Option.some.inj H
                      have hcz127_0 : wc.cell? ⟨gb219, 0, none⟩ = some (.int .i64 a0_0) := (blk_cell BK219.out 0).trans rfl
                      have hcz127_1 : wc.cell? ⟨gb219, 1, none⟩ = some (.int .i64 a0_1) := (blk_cell BK219.out 1).trans rfl
                      have hcz127_2 : wc.cell? ⟨gb219, 2, none⟩ = some (.int .i64 a0_2) := (blk_cell BK219.out 2).trans rfl
                      have hcz127_3 : wc.cell? ⟨gb219, 3, none⟩ = some (.int .i64 a0_3) := (blk_cell BK219.out 3).trans rfl
                      have hcz127_4 : wc.cell? ⟨gb219, 4, none⟩ = some (.int .i64 a0_4) := (blk_cell BK219.out 4).trans rfl
                      have hcz127_5 : wc.cell? ⟨gb219, 5, none⟩ = some (.int .i64 a0_5) := (blk_cell BK219.out 5).trans rfl
                      have hfz127_0 := blk_frozen BK219.out 0
                      have hfz127_1 := blk_frozen BK219.out 1
                      have hfz127_2 := blk_frozen BK219.out 2
                      have hfz127_3 := blk_frozen BK219.out 3
                      have hfz127_4 := blk_frozen BK219.out 4
                      have hfz127_5 := blk_frozen BK219.out 5
                      go_wp2
                      go_ret
                      exact ⟨by first | rfl | (simp [errW_none, errW_some] <;> rfl) | (simp [*, errW_none, errW_some] <;> rfl), by repeat (first | (with_reducible first | exact HB.out | apply below_alloc | apply pw_below_drewN | apply below_drew1 | refine below_set ?_ GE219.out) | exact HB.out)⟩
                    · replace c126 := Bool.eq_false_iff.mpr c126
                      subst c126
                      have H1 : (if a0_5 = 0 then (some 0) else (some 1)) = some r := by rw [if_neg (show ¬ (false = true) by decide)] at H; exact H
                      clear H
                      have H := H1
                      clear H1
                      by_cases c128 : a0_5 = 0
                      · rw [if_pos c128] at H
                        have c128b0 : (a0_5 == 0) = true := beq_iff_eq.mpr c128
                        have c128b1 : (a0_5 != 0) = false := bne_eq_false_iff_eq.mpr c128
                        clear c128
                        obtain rfl := Option.some.inj H
                        have hcz129_0 : wc.cell? ⟨gb219, 0, none⟩ = some (.int .i64 a0_0) := (blk_cell BK219.out 0).trans rfl
                        have hcz129_1 : wc.cell? ⟨gb219, 1, none⟩ = some (.int .i64 a0_1) := (blk_cell BK219.out 1).trans rfl
                        have hcz129_2 : wc.cell? ⟨gb219, 2, none⟩ = some (.int .i64 a0_2) := (blk_cell BK219.out 2).trans rfl
                        have hcz129_3 : wc.cell? ⟨gb219, 3, none⟩ = some (.int .i64 a0_3) := (blk_cell BK219.out 3).trans rfl
                        have hcz129_4 : wc.cell? ⟨gb219, 4, none⟩ = some (.int .i64 a0_4) := (blk_cell BK219.out 4).trans rfl
                        have hcz129_5 : wc.cell? ⟨gb219, 5, none⟩ = some (.int .i64 a0_5) := (blk_cell BK219.out 5).trans rfl
                        have hfz129_0 := blk_frozen BK219.out 0
                        have hfz129_1 := blk_frozen BK219.out 1
                        have hfz129_2 := blk_frozen BK219.out 2
                        have hfz129_3 := blk_frozen BK219.out 3
                        have hfz129_4 := blk_frozen BK219.out 4
                        have hfz129_5 := blk_frozen BK219.out 5
                        go_wp2
                        go_ret
                        exact ⟨by first | rfl | (simp [errW_none, errW_some] <;> rfl) | (simp [*, errW_none, errW_some] <;> rfl), by repeat (first | (with_reducible first | exact HB.out | apply below_alloc | apply pw_below_drewN | apply below_drew1 | refine below_set ?_ GE219.out) | exact HB.out)⟩
                      · rw [if_neg c128] at H
                        have c128b0 : (a0_5 == 0) = false := beq_eq_false_iff_ne.mpr c128
                        have c128b1 : (a0_5 != 0) = true := bne_iff_ne.mpr c128
                        obtain rfl := Option.some.inj H
                        have hcz130_0 : wc.cell? ⟨gb219, 0, none⟩ = some (.int .i64 a0_0) := (blk_cell BK219.out 0).trans rfl
                        have hcz130_1 : wc.cell? ⟨gb219, 1, none⟩ = some (.int .i64 a0_1) := (blk_cell BK219.out 1).trans rfl
                        have hcz130_2 : wc.cell? ⟨gb219, 2, none⟩ = some (.int .i64 a0_2) := (blk_cell BK219.out 2).trans rfl
                        have hcz130_3 : wc.cell? ⟨gb219, 3, none⟩ = some (.int .i64 a0_3) := (blk_cell BK219.out 3).trans rfl
                        have hcz130_4 : wc.cell? ⟨gb219, 4, none⟩ = some (.int .i64 a0_4) := (blk_cell BK219.out 4).trans rfl
                        have hcz130_5 : wc.cell? ⟨gb219, 5, none⟩ = some (.int .i64 a0_5) := (blk_cell BK219.out 5).trans rfl
                        have hfz130_0 := blk_frozen BK219.out 0
                        have hfz130_1 := blk_frozen BK219.out 1
                        have hfz130_2 := blk_frozen BK219.out 2
                        have hfz130_3 := blk_frozen BK219.out 3
                        have hfz130_4 := blk_frozen BK219.out 4
                        have hfz130_5 := blk_frozen BK219.out 5
                        go_wp2
                        go_ret
                        exact ⟨by first | rfl | (simp [errW_none, errW_some] <;> rfl) | (simp [*, errW_none, errW_some] <;> rfl), by repeat (first | (with_reducible first | exact HB.out | apply below_alloc | apply pw_below_drewN | apply below_drew1 | refine below_set ?_ GE219.out) | exact HB.out)⟩
                  · rw [if_neg c125] at H
                    have c125b0 : (a0_4 == 0) = false := beq_eq_false_iff_ne.mpr c125
                    have c125b1 : (a0_4 != 0) = true := bne_iff_ne.mpr c125
                    obtain rfl := Option.some.inj H
                    have hcz131_0 : wc.cell? ⟨gb219, 0, none⟩ = some (.int .i64 a0_0) := (blk_cell BK219.out 0).trans rfl
                    have hcz131_1 : wc.cell? ⟨gb219, 1, none⟩ = some (.int .i64 a0_1) := (blk_cell BK219.out 1).trans rfl
                    have hcz131_2 : wc.cell? ⟨gb219, 2, none⟩ = some (.int .i64 a0_2) := (blk_cell BK219.out 2).trans rfl
                    have hcz131_3 : wc.cell? ⟨gb219, 3, none⟩ = some (.int .i64 a0_3) := (blk_cell BK219.out 3).trans rfl
                    have hcz131_4 : wc.cell? ⟨gb219, 4, none⟩ = some (.int .i64 a0_4) := (blk_cell BK219.out 4).trans rfl
                    have hcz131_5 : wc.cell? ⟨gb219, 5, none⟩ = some (.int .i64 a0_5) := (blk_cell BK219.out 5).trans rfl
                    have hfz131_0 := blk_frozen BK219.out 0
                    have hfz131_1 := blk_frozen BK219.out 1
                    have hfz131_2 := blk_frozen BK219.out 2
                    have hfz131_3 := blk_frozen BK219.out 3
                    have hfz131_4 := blk_frozen BK219.out 4
                    have hfz131_5 := blk_frozen BK219.out 5
                    go_wp2
                    go_ret
                    exact ⟨by first | rfl | (simp [errW_none, errW_some] <;> rfl) | (simp [*, errW_none, errW_some] <;> rfl), by repeat (first | (with_reducible first | exact HB.out | apply below_alloc | apply pw_below_drewN | apply below_drew1 | refine below_set ?_ GE219.out) | exact HB.out)⟩
              · replace c118 := Bool.eq_false_iff.mpr c118
                subst c118
                have H1 : (if a0_3 = 0 then (if t223 = true then (if t224 = true then (some 0) else (if a0_5 = 0 then (some 0) else (some 1))) else (if a0_4 = 0 then (if t224 = true then (some 0) else (if a0_5 = 0 then (some 0) else (some 1))) else (some 1))) else (some 1)) = some r := by rw [if_neg (show ¬ (false = true) by decide)] at H; exact H
                clear H
                have H := H1
                clear H1
                by_cases c132 : a0_3 = 0
                · rw [if_pos c132] at H
                  have c132b0 : (a0_3 == 0) = true := beq_iff_eq.mpr c132
                  have c132b1 : (a0_3 != 0) = false := bne_eq_false_iff_eq.mpr c132
                  clear c132
                  by_cases c133 : t223 = true
                  · subst c133
                    have H1 : (if t224 = true then (some 0) else (if a0_5 = 0 then (some 0) else (some 1))) = some r := by rw [if_pos rfl] at H; exact H
                    clear H
                    have H := H1
                    clear H1
                    by_cases c134 : t224 = true
                    · subst c134
                      have H1 : (some 0) = some r := by rw [if_pos rfl] at H; exact H
                      clear H
                      have H := H1
                      clear H1
                      obtain rfl := Option.some.inj H
                      have hcz135_0 : wc.cell? ⟨gb219, 0, none⟩ = some (.int .i64 a0_0) := (blk_cell BK219.out 0).trans rfl
                      have hcz135_1 : wc.cell? ⟨gb219, 1, none⟩ = some (.int .i64 a0_1) := (blk_cell BK219.out 1).trans rfl
                      have hcz135_2 : wc.cell? ⟨gb219, 2, none⟩ = some (.int .i64 a0_2) := (blk_cell BK219.out 2).trans rfl
                      have hcz135_3 : wc.cell? ⟨gb219, 3, none⟩ = some (.int .i64 a0_3) := (blk_cell BK219.out 3).trans rfl
                      have hcz135_4 : wc.cell? ⟨gb219, 4, none⟩ = some (.int .i64 a0_4) := (blk_cell BK219.out 4).trans rfl
                      have hcz135_5 : wc.cell? ⟨gb219, 5, none⟩ = some (.int .i64 a0_5) := (blk_cell BK219.out 5).trans rfl
                      have hfz135_0 := blk_frozen BK219.out 0
                      have hfz135_1 := blk_frozen BK219.out 1
                      have hfz135_2 := blk_frozen BK219.out 2
                      have hfz135_3 := blk_frozen BK219.out 3
                      have hfz135_4 := blk_frozen BK219.out 4
                      have hfz135_5 := blk_frozen BK219.out 5
                      go_wp2
                      go_ret
                      exact ⟨by first | rfl | (simp [errW_none, errW_some] <;> rfl) | (simp [*, errW_none, errW_some] <;> rfl), by repeat (first | (with_reducible first | exact HB.out | apply below_alloc | apply pw_below_drewN | apply below_drew1 | refine below_set ?_ GE219.out) | exact HB.out)⟩
                    · replace c134 := Bool.eq_false_iff.mpr c134
                      subst c134
                      have H1 : (if a0_5 = 0 then (some 0) else (some 1)) = some r := by rw [if_neg (show ¬ (false = true) by decide)] at H; exact H
                      clear H
                      have H := H1
                      clear H1
                      by_cases c136 : a0_5 = 0
                      · rw [if_pos c136] at H
                        have c136b0 : (a0_5 == 0) = true := beq_iff_eq.mpr c136
                        have c136b1 : (a0_5 != 0) = false := bne_eq_false_iff_eq.mpr c136
                        clear c136
                        obtain rfl := Option.some.inj H
                        have hcz137_0 : wc.cell? ⟨gb219, 0, none⟩ = some (.int .i64 a0_0) := (blk_cell BK219.out 0).trans rfl
                        have hcz137_1 : wc.cell? ⟨gb219, 1, none⟩ = some (.int .i64 a0_1) := (blk_cell BK219.out 1).trans rfl
                        have hcz137_2 : wc.cell? ⟨gb219, 2, none⟩ = some (.int .i64 a0_2) := (blk_cell BK219.out 2).trans rfl
                        have hcz137_3 : wc.cell? ⟨gb219, 3, none⟩ = some (.int .i64 a0_3) := (blk_cell BK219.out 3).trans rfl
                        have hcz137_4 : wc.cell? ⟨gb219, 4, none⟩ = some (.int .i64 a0_4) := (blk_cell BK219.out 4).trans rfl
                        have hcz137_5 : wc.cell? ⟨gb219, 5, none⟩ = some (.int .i64 a0_5) := (blk_cell BK219.out 5).trans rfl
                        have hfz137_0 := blk_frozen BK219.out 0
                        have hfz137_1 := blk_frozen BK219.out 1
                        have hfz137_2 := blk_frozen BK219.out 2
                        have hfz137_3 := blk_frozen BK219.out 3
                        have hfz137_4 := blk_frozen BK219.out 4
                        have hfz137_5 := blk_frozen BK219.out 5
                        go_wp2
                        go_ret
                        exact ⟨by first | rfl | (simp [errW_none, errW_some] <;> rfl) | (simp [*, errW_none, errW_some] <;> rfl), by repeat (first | (with_reducible first | exact HB.out | apply below_alloc | apply pw_below_drewN | apply below_drew1 | refine below_set ?_ GE219.out) | exact HB.out)⟩
                      · rw [if_neg c136] at H
                        have c136b0 : (a0_5 == 0) = false := beq_eq_false_iff_ne.mpr c136
                        have c136b1 : (a0_5 != 0) = true := bne_iff_ne.mpr c136
                        obtain rfl := Option.some.inj H
                        have hcz138_0 : wc.cell? ⟨gb219, 0, none⟩ = some (.int .i64 a0_0) := (blk_cell BK219.out 0).trans rfl
                        have hcz138_1 : wc.cell? ⟨gb219, 1, none⟩ = some (.int .i64 a0_1) := (blk_cell BK219.out 1).trans rfl
                        have hcz138_2 : wc.cell? ⟨gb219, 2, none⟩ = some (.int .i64 a0_2) := (blk_cell BK219.out 2).trans rfl
                        have hcz138_3 : wc.cell? ⟨gb219, 3, none⟩ = some (.int .i64 a0_3) := (blk_cell BK219.out 3).trans rfl
                        have hcz138_4 : wc.cell? ⟨gb219, 4, none⟩ = some (.int .i64 a0_4) := (blk_cell BK219.out 4).trans rfl
                        have hcz138_5 : wc.cell? ⟨gb219, 5, none⟩ = some (.int .i64 a0_5) := (blk_cell BK219.out 5).trans rfl
                        have hfz138_0 := blk_frozen BK219.out 0
                        have hfz138_1 := blk_frozen BK219.out 1
                        have hfz138_2 := blk_frozen BK219.out 2
                        have hfz138_3 := blk_frozen BK219.out 3
                        have hfz138_4 := blk_frozen BK219.out 4
                        have hfz138_5 := blk_frozen BK219.out 5
                        go_wp2
                        go_ret
                        exact ⟨by first | rfl | (simp [errW_none, errW_some] <;> rfl) | (simp [*, errW_none, errW_some] <;> rfl), by repeat (first | (with_reducible first | exact HB.out | apply below_alloc | apply pw_below_drewN | apply below_drew1 | refine below_set ?_ GE219.out) | exact HB.out)⟩
                  · replace c133 := Bool.eq_false_iff.mpr c133
                    subst c133
                    have H1 : (if a0_4 = 0 then (if t224 = true then (some 0) else (if a0_5 = 0 then (some 0) else (some 1))) else (some 1)) = some r := by rw [if_neg (show ¬ (false = true) by decide)] at H; exact H
                    clear H
                    have H := H1
                    clear H1
                    by_cases c139 : a0_4 = 0
                    · rw [if_pos c139] at H
                      have c139b0 : (a0_4 == 0) = true := beq_iff_eq.mpr c139
                      have c139b1 : (a0_4 != 0) = false := bne_eq_false_iff_eq.mpr c139
                      clear c139
                      by_cases c140 : t224 = true
                      · subst c140
                        have H1 : (some 0) = some r := by rw [if_pos rfl] at H; exact H
                        clear H
                        have H := H1
                        clear H1
                        obtain rfl := Option.some.inj H
                        have hcz141_0 : wc.cell? ⟨gb219, 0, none⟩ = some (.int .i64 a0_0) := (blk_cell BK219.out 0).trans rfl
                        have hcz141_1 : wc.cell? ⟨gb219, 1, none⟩ = some (.int .i64 a0_1) := (blk_cell BK219.out 1).trans rfl
                        have hcz141_2 : wc.cell? ⟨gb219, 2, none⟩ = some (.int .i64 a0_2) := (blk_cell BK219.out 2).trans rfl
                        have hcz141_3 : wc.cell? ⟨gb219, 3, none⟩ = some (.int .i64 a0_3) := (blk_cell BK219.out 3).trans rfl
                        have hcz141_4 : wc.cell? ⟨gb219, 4, none⟩ = some (.int .i64 a0_4) := (blk_cell BK219.out 4).trans rfl
                        have hcz141_5 : wc.cell? ⟨gb219, 5, none⟩ = some (.int .i64 a0_5) := (blk_cell BK219.out 5).trans rfl
                        have hfz141_0 := blk_frozen BK219.out 0
                        have hfz141_1 := blk_frozen BK219.out 1
                        have hfz141_2 := blk_frozen BK219.out 2
                        have hfz141_3 := blk_frozen BK219.out 3
                        have hfz141_4 := blk_frozen BK219.out 4
                        have hfz141_5 := blk_frozen BK219.out 5
                        go_wp2
                        go_ret
                        exact ⟨by first | rfl | (simp [errW_none, errW_some] <;> rfl) | (simp [*, errW_none, errW_some] <;> rfl), by repeat (first | (with_reducible first | exact HB.out | apply below_alloc | apply pw_below_drewN | apply below_drew1 | refine below_set ?_ GE219.out) | exact HB.out)⟩
                      · replace c140 := Bool.eq_false_iff.mpr c140
                        subst c140
                        have H1 : (if a0_5 = 0 then (some 0) else (some 1)) = some r := by rw [if_neg (show ¬ (false = true) by decide)] at H; exact H
                        clear H
                        have H := H1
                        clear H1
                        by_cases c142 : a0_5 = 0
                        · rw [if_pos c142] at H
                          have c142b0 : (a0_5 == 0) = true := beq_iff_eq.mpr c142
                          have c142b1 : (a0_5 != 0) = false := bne_eq_false_iff_eq.mpr c142
                          clear c142
                          obtain rfl := Option.some.inj H
                          have hcz143_0 : wc.cell? ⟨gb219, 0, none⟩ = some (.int .i64 a0_0) := (blk_cell BK219.out 0).trans rfl
                          have hcz143_1 : wc.cell? ⟨gb219, 1, none⟩ = some (.int .i64 a0_1) := (blk_cell BK219.out 1).trans rfl
                          have hcz143_2 : wc.cell? ⟨gb219, 2, none⟩ = some (.int .i64 a0_2) := (blk_cell BK219.out 2).trans rfl
                          have hcz143_3 : wc.cell? ⟨gb219, 3, none⟩ = some (.int .i64 a0_3) := (blk_cell BK219.out 3).trans rfl
                          have hcz143_4 : wc.cell? ⟨gb219, 4, none⟩ = some (.int .i64 a0_4) := (blk_cell BK219.out 4).trans rfl
                          have hcz143_5 : wc.cell? ⟨gb219, 5, none⟩ = some (.int .i64 a0_5) := (blk_cell BK219.out 5).trans rfl
                          have hfz143_0 := blk_frozen BK219.out 0
                          have hfz143_1 := blk_frozen BK219.out 1
                          have hfz143_2 := blk_frozen BK219.out 2
                          have hfz143_3 := blk_frozen BK219.out 3
                          have hfz143_4 := blk_frozen BK219.out 4
                          have hfz143_5 := blk_frozen BK219.out 5
                          go_wp2
                          go_ret
                          exact ⟨by first | rfl | (simp [errW_none, errW_some] <;> rfl) | (simp [*, errW_none, errW_some] <;> rfl), by repeat (first | (with_reducible first | exact HB.out | apply below_alloc | apply pw_below_drewN | apply below_drew1 | refine below_set ?_ GE219.out) | exact HB.out)⟩
                        · rw [if_neg c142] at H
                          have c142b0 : (a0_5 == 0) = false := beq_eq_false_iff_ne.mpr c142
                          have c142b1 : (a0_5 != 0) = true := bne_iff_ne.mpr c142
                          obtain rfl := Option.some.inj H
                          have hcz144_0 : wc.cell? ⟨gb219, 0, none⟩ = some (.int .i64 a0_0) := (blk_cell BK219.out 0).trans rfl
                          have hcz144_1 : wc.cell? ⟨gb219, 1, none⟩ = some (.int .i64 a0_1) := (blk_cell BK219.out 1).trans rfl
                          have hcz144_2 : wc.cell? ⟨gb219, 2, none⟩ = some (.int .i64 a0_2) := (blk_cell BK219.out 2).trans rfl
                          have hcz144_3 : wc.cell? ⟨gb219, 3, none⟩ = some (.int .i64 a0_3) := (blk_cell BK219.out 3).trans rfl
                          have hcz144_4 : wc.cell? ⟨gb219, 4, none⟩ = some (.int .i64 a0_4) := (blk_cell BK219.out 4).trans rfl
                          have hcz144_5 : wc.cell? ⟨gb219, 5, none⟩ = some (.int .i64 a0_5) := (blk_cell BK219.out 5).trans rfl
                          have hfz144_0 := blk_frozen BK219.out 0
                          have hfz144_1 := blk_frozen BK219.out 1
                          have hfz144_2 := blk_frozen BK219.out 2
                          have hfz144_3 := blk_frozen BK219.out 3
                          have hfz144_4 := blk_frozen BK219.out 4
                          have hfz144_5 := blk_frozen BK219.out 5
                          go_wp2
                          go_ret
                          exact ⟨by first | rfl | (simp [errW_none, errW_some] <;> rfl) | (simp [*, errW_none, errW_some] <;> rfl), by repeat (first | (with_reducible first | exact HB.out | apply below_alloc | apply pw_below_drewN | apply below_drew1 | refine below_set ?_ GE219.out) | exact HB.out)⟩
                    · rw [if_neg c139] at H
                      have c139b0 : (a0_4 == 0) = false := beq_eq_false_iff_ne.mpr c139
                      have c139b1 : (a0_4 != 0) = true := bne_iff_ne.mpr c139
                      obtain rfl := Option.some.inj H
                      have hcz145_0 : wc.cell? ⟨gb219, 0, none⟩ = some (.int .i64 a0_0) := (blk_cell BK219.out 0).trans rfl
                      have hcz145_1 : wc.cell? ⟨gb219, 1, none⟩ = some (.int .i64 a0_1) := (blk_cell BK219.out 1).trans rfl
                      have hcz145_2 : wc.cell? ⟨gb219, 2, none⟩ = some (.int .i64 a0_2) := (blk_cell BK219.out 2).trans rfl
                      have hcz145_3 : wc.cell? ⟨gb219, 3, none⟩ = some (.int .i64 a0_3) := (blk_cell BK219.out 3).trans rfl
                      have hcz145_4 : wc.cell? ⟨gb219, 4, none⟩ = some (.int .i64 a0_4) := (blk_cell BK219.out 4).trans rfl
                      have hcz145_5 : wc.cell? ⟨gb219, 5, none⟩ = some (.int .i64 a0_5) := (blk_cell BK219.out 5).trans rfl
                      have hfz145_0 := blk_frozen BK219.out 0
                      have hfz145_1 := blk_frozen BK219.out 1
                      have hfz145_2 := blk_frozen BK219.out 2
                      have hfz145_3 := blk_frozen BK219.out 3
                      have hfz145_4 := blk_frozen BK219.out 4
                      have hfz145_5 := blk_frozen BK219.out 5
                      go_wp2
                      go_ret
                      exact ⟨by first | rfl | (simp [errW_none, errW_some] <;> rfl) | (simp [*, errW_none, errW_some] <;> rfl), by repeat (first | (with_reducible first | exact HB.out | apply below_alloc | apply pw_below_drewN | apply below_drew1 | refine below_set ?_ GE219.out) | exact HB.out)⟩
                · rw [if_neg c132] at H
                  have c132b0 : (a0_3 == 0) = false := beq_eq_false_iff_ne.mpr c132
                  have c132b1 : (a0_3 != 0) = true := bne_iff_ne.mpr c132
                  obtain rfl := Option.some.inj H
                  have hcz146_0 : wc.cell? ⟨gb219, 0, none⟩ = some (.int .i64 a0_0) := (blk_cell BK219.out 0).trans rfl
                  have hcz146_1 : wc.cell? ⟨gb219, 1, none⟩ = some (.int .i64 a0_1) := (blk_cell BK219.out 1).trans rfl
                  have hcz146_2 : wc.cell? ⟨gb219, 2, none⟩ = some (.int .i64 a0_2) := (blk_cell BK219.out 2).trans rfl
                  have hcz146_3 : wc.cell? ⟨gb219, 3, none⟩ = some (.int .i64 a0_3) := (blk_cell BK219.out 3).trans rfl
                  have hcz146_4 : wc.cell? ⟨gb219, 4, none⟩ = some (.int .i64 a0_4) := (blk_cell BK219.out 4).trans rfl
                  have hcz146_5 : wc.cell? ⟨gb219, 5, none⟩ = some (.int .i64 a0_5) := (blk_cell BK219.out 5).trans rfl
                  have hfz146_0 := blk_frozen BK219.out 0
                  have hfz146_1 := blk_frozen BK219.out 1
                  have hfz146_2 := blk_frozen BK219.out 2
                  have hfz146_3 := blk_frozen BK219.out 3
                  have hfz146_4 := blk_frozen BK219.out 4
                  have hfz146_5 := blk_frozen BK219.out 5
                  go_wp2
                  go_ret
                  exact ⟨by first | rfl | (simp [errW_none, errW_some] <;> rfl) | (simp [*, errW_none, errW_some] <;> rfl), by repeat (first | (with_reducible first | exact HB.out | apply below_alloc | apply pw_below_drewN | apply below_drew1 | refine below_set ?_ GE219.out) | exact HB.out)⟩
            · rw [if_neg c117] at H
              have c117b0 : (a0_2 == 0) = false := beq_eq_false_iff_ne.mpr c117
              have c117b1 : (a0_2 != 0) = true := bne_iff_ne.mpr c117
              obtain rfl := Option.some.inj H
              have hcz147_0 : wc.cell? ⟨gb219, 0, none⟩ = some (.int .i64 a0_0) := (blk_cell BK219.out 0).trans rfl
              have hcz147_1 : wc.cell? ⟨gb219, 1, none⟩ = some (.int .i64 a0_1) := (blk_cell BK219.out 1).trans rfl
              have hcz147_2 : wc.cell? ⟨gb219, 2, none⟩ = some (.int .i64 a0_2) := (blk_cell BK219.out 2).trans rfl
              have hcz147_3 : wc.cell? ⟨gb219, 3, none⟩ = some (.int .i64 a0_3) := (blk_cell BK219.out 3).trans rfl
              have hcz147_4 : wc.cell? ⟨gb219, 4, none⟩ = some (.int .i64 a0_4) := (blk_cell BK219.out 4).trans rfl
              have hcz147_5 : wc.cell? ⟨gb219, 5, none⟩ = some (.int .i64 a0_5) := (blk_cell BK219.out 5).trans rfl
              have hfz147_0 := blk_frozen BK219.out 0
              have hfz147_1 := blk_frozen BK219.out 1
              have hfz147_2 := blk_frozen BK219.out 2
              have hfz147_3 := blk_frozen BK219.out 3
              have hfz147_4 := blk_frozen BK219.out 4
              have hfz147_5 := blk_frozen BK219.out 5
              go_wp2
              go_ret
              exact ⟨by first | rfl | (simp [errW_none, errW_some] <;> rfl) | (simp [*, errW_none, errW_some] <;> rfl), by repeat (first | (with_reducible first | exact HB.out | apply below_alloc | apply pw_below_drewN | apply below_drew1 | refine below_set ?_ GE219.out) | exact HB.out)⟩
  · replace c3 := Bool.eq_false_iff.mpr c3
    subst c3
    have H1 : (some 1) = some r := by rw [if_neg (show ¬ (false = true) by decide)] at H; exact H
    clear H
    have H := H1
    clear H1
    obtain rfl := Option.some.inj H
    go_enter Try.func27, Try.ntmps27
    go_wp2_with (first | ((with_reducible refine gate_dst (N := 1) rfl ?_); refine box_event ?hg (N := 1) ?hd (cs := #[.int .i64 a0_0, .int .i64 a0_1, .int .i64 a0_2, .int .i64 a0_3, .int .i64 a0_4, .int .i64 a0_5]) (t := 42) ?hr ?_; (case hd => rfl); (case hg => rfl); (case hr => first | (go_simp; done) | (go_simp; rfl)); intro gb219 hg w148 hbox hb; have n0_ := Aside0.mk (below_step (by repeat (first | (with_reducible first | exact HB.out | apply below_alloc | apply pw_below_drewN | apply below_drew1) | exact HB.out)) hb); have n1_ := Aside0.mk (hbox); have n2_ := Aside0.mk ((by rw [hg]; exact (below_size (by repeat (first | (with_reducible first | exact HB.out | apply below_alloc | apply pw_below_drewN | apply below_drew1) | exact HB.out))) : w.heap.size ≤ gb219)); have n3_ := Aside0.mk ((by rw [hg]; exact (below_size (by repeat (first | (with_reducible first | exact HB.out | apply below_alloc | apply pw_below_drewN | apply below_drew1) | exact HB.out))) : w.heap.size ≤ gb219)); clear HB; have HB := n0_; have BK219 := n1_; have GW219 := n2_; have GE219 := n3_; clear n0_ n1_ n2_ n3_; clear hb hbox hg; have hcz149_0 : w148.cell? ⟨gb219, 0, none⟩ = some (.int .i64 a0_0) := (blk_cell BK219.out 0).trans rfl; have hcz149_1 : w148.cell? ⟨gb219, 1, none⟩ = some (.int .i64 a0_1) := (blk_cell BK219.out 1).trans rfl; have hcz149_2 : w148.cell? ⟨gb219, 2, none⟩ = some (.int .i64 a0_2) := (blk_cell BK219.out 2).trans rfl; have hcz149_3 : w148.cell? ⟨gb219, 3, none⟩ = some (.int .i64 a0_3) := (blk_cell BK219.out 3).trans rfl; have hcz149_4 : w148.cell? ⟨gb219, 4, none⟩ = some (.int .i64 a0_4) := (blk_cell BK219.out 4).trans rfl; have hcz149_5 : w148.cell? ⟨gb219, 5, none⟩ = some (.int .i64 a0_5) := (blk_cell BK219.out 5).trans rfl; have hfz149_0 := blk_frozen BK219.out 0; have hfz149_1 := blk_frozen BK219.out 1; have hfz149_2 := blk_frozen BK219.out 2; have hfz149_3 := blk_frozen BK219.out 3; have hfz149_4 := blk_frozen BK219.out 4; have hfz149_5 := blk_frozen BK219.out 5) | ((with_reducible refine gate_callee (f := 64) rfl ?_); refine goesL_ (some 9) rfl rfl Try.func64 (by kernel_rfl) rfl #[.int .i64 a0_0, .int .i64 1, .int .i64 9] rfl (by (try simp only [List.map_toArray, List.map_cons, List.map_nil]); first | done | rfl | (simp only [List.length_drop, List.length_take]; rfl)) ?_; (with_reducible refine (impl_in.calls a0_0 1 9 false _ A2.out).mono ?_); rintro e w' ⟨rfl, ⟨nd, rfl⟩⟩; refine ⟨_, rfl, ?_⟩))
    go_ret
    exact ⟨by first | rfl | (simp [errW_none, errW_some] <;> rfl) | (simp [*, errW_none, errW_some] <;> rfl), by repeat (first | (with_reducible first | exact HB.out | apply below_alloc | apply pw_below_drewN | apply below_drew1 | refine below_set ?_ GE219.out) | exact HB.out)⟩

end Go.Proofs.Ytaellhlkjjooiaa.QFnExactPackCmd
